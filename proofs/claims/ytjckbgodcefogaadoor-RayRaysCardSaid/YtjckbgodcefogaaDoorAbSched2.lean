/- An evaluator of the model on values that are partly known, and its soundness (part AbSched2); no condition. -/
import Derived.Test.YtjckbgodcefogaaDoorAbSched
namespace Go.Ab
open Go.RowKit

variable {E : Env} {P : Program} {ops : Array Oper} {N m : Nat} {items : List Item} {rs' : List Rsv} {nA : Nat} {hp0 : List O} {tm0 : Tm}
  {B : Nat} {w0 : World} {S : Nat} {D : List Deferred} {gs : List (Nat × Obj)} {ρ0 : Ren} {n : Nat} {ro : Option Nat} {Qx : Exit → Act → World → Prop}

def Lof (listed : Array Bool) (k : Nat) : Bool := listed.getD k false

theorem lof_set {listed : Array Bool} {i : Nat} (hi : i < listed.size) : Lof (listed.setIfInBounds i true) = fun k => k == i || Lof listed k := by
  funext k
  unfold Lof
  simp only [Array.getD_eq_getD_getElem?, Array.getElem?_setIfInBounds]
  by_cases e : i = k
  · subst e; simp [hi]
  · rw [if_neg e]
    have : (k == i) = false := by simp; omega
    rw [this, Bool.false_or]

theorem ready_spec {listed : Array Bool} (hsz : listed.size = ops.size) {i : Nat} (h : i ∈ Region.ready .any ops listed) : i < ops.size ∧ Lof listed i = false ∧ ReadyAt ops (Lof listed) i := by
  obtain ⟨h1, o, ho, h2⟩ := mem_ready.1 h
  have hlt := (Array.getElem?_eq_some_iff.1 ho).1
  refine ⟨hlt, ?_, fun o' ho' e he hb => ?_⟩
  · unfold Lof
    have : i < listed.size := by omega
    simp only [Array.getD_eq_getD_getElem?, this, Array.getElem?_eq_getElem, Option.getD_some] at h1 ⊢
    exact h1
  · rw [ho] at ho'
    cases ho'
    have := h2 e he hb
    simpa [Lof] using this

theorem ready_of {listed : Array Bool} (hsz : listed.size = ops.size) {i : Nat} (hi : i < ops.size) (hL : Lof listed i = false) (hr : ReadyAt ops (Lof listed) i) : i ∈ Region.ready .any ops listed := by
  refine mem_ready.2 ⟨?_, ops[i], by simp [hi], fun e he hb => ?_⟩
  · unfold Lof at hL
    have : i < listed.size := by omega
    simp only [Array.getD_eq_getD_getElem?, this, Array.getElem?_eq_getElem, Option.getD_some] at hL ⊢
    exact hL
  · have := hr ops[i] (by simp [hi]) e he hb
    simpa [Lof] using this

theorem least {p : Nat → Bool} : ∀ k, p k = false → ∃ j, j ≤ k ∧ p j = false ∧ ∀ i, i < j → p i = true := by
  intro k
  induction k using Nat.strongRecOn with
  | _ k ih =>
    intro hk
    by_cases h : ∃ i, i < k ∧ p i = false
    · obtain ⟨i, h1, h2⟩ := h
      obtain ⟨j, h3, h4, h5⟩ := ih i h1 h2
      exact ⟨j, by omega, h4, h5⟩
    · refine ⟨k, Nat.le_refl _, hk, fun i hi => ?_⟩
      cases e : p i with
      | true => rfl
      | false => exact absurd ⟨i, hi, e⟩ h

/-- those that come in their order -/
theorem tail_ok (hd : DrawOk ops m) : ∀ (fuel p : Nat) (listed : Array Bool) (a : Act) (w : World), listed.size = ops.size → m ≤ p → p ≤ ops.size → (∀ k, k < ops.size → Lof listed k = decide (k < p)) → ops.size - p ≤ fuel →
    wpOpsIn (Fr ro) n P ops Qx (List.range' p (ops.size - p)) a w → wpAnyIn (Fr ro) n P .any ops Qx fuel listed a w := by
  intro fuel
  induction fuel with
  | zero =>
    intro p listed a w hsz hmp hp hL hf h
    have hps : p = ops.size := by omega
    subst hps
    refine ⟨?_, by simpa [wpOpsIn] using h⟩
    rw [List.eq_nil_iff_forall_not_mem]
    intro i hi
    obtain ⟨h1, h2, _⟩ := ready_spec hsz hi
    rw [hL i h1] at h2
    simp at h2; omega
  | succ fuel ih =>
    intro p listed a w hsz hmp hp hL hf h
    by_cases hps : p = ops.size
    · subst hps
      have hnil : Region.ready .any ops listed = [] := by
        rw [List.eq_nil_iff_forall_not_mem]
        intro i hi
        obtain ⟨h1, h2, _⟩ := ready_spec hsz hi
        rw [hL i h1] at h2
        simp at h2; omega
      exact ⟨fun _ => by simpa [wpOpsIn] using h, fun i hi => by rw [hnil] at hi; cases hi⟩
    · have hlt : p < ops.size := by omega
      have hLp : Lof listed p = false := by rw [hL p hlt]; simp
      have hrp : ReadyAt ops (Lof listed) p := fun o ho e he hb => by
        have := hd.edge p o ho e he hb
        rw [hL e.on (by omega)]; simp [this]
      refine ⟨fun h0 => ?_, fun i hi => ?_⟩
      · have := ready_of hsz hlt hLp hrp
        rw [h0] at this; cases this
      · obtain ⟨h1, h2, h3⟩ := ready_spec hsz hi
        have hcl : Closed ops (Lof listed) := fun j o ho hj e he hb => by
          have hjs := (Array.getElem?_eq_some_iff.1 ho).1
          have := hd.edge j o ho e he hb
          rw [hL j hjs] at hj
          simp only [decide_eq_true_eq] at hj
          rw [hL e.on (by omega)]; simp; omega
        have hip : i = p := by
          rw [hL i h1] at h2
          simp only [decide_eq_false_iff_not, Nat.not_lt] at h2
          rcases Nat.lt_or_ge p i with h4 | h4
          · have := ord_listed hcl i h3 p (hd.full p i h4 h1 (by omega))
            rw [hLp] at this; cases this
          · omega
        subst hip
        rw [show ops.size - i = (ops.size - (i + 1)) + 1 by omega, List.range'_succ, wpOpsIn_cons] at h
        refine wpOpIn_mono (fun a' w' h' => ih (i + 1) _ a' w' (by simpa using hsz) (by omega) (by omega) (fun k hk => ?_) (by omega) h') h
        rw [lof_set (by omega)]
        dsimp only
        rw [hL k hk]
        by_cases e : k = i
        · subst e; simp
        · have e2 : (k == i) = false := by simpa using e
          rw [e2, Bool.false_or]
          simp only [decide_eq_decide]; omega

theorem count_set : ∀ (l : List Bool) (i : Nat), l[i]? = some false → (l.set i true).count false + 1 = l.count false
  | [], i, h => by simp at h
  | b :: l, 0, h => by simp at h; subst h; simp
  | b :: l, i + 1, h => by
    have := count_set l i (by simpa using h)
    simp only [List.set_cons_succ, List.count_cons]
    omega

theorem Rel.look {tm tm' : Tm} {hp : List O} {ρ : Ren} {a : Act} {w : World} (h : Rel E.G B w0 S N D gs ρ tm hp a w) (e : look tm' = look tm) : Rel E.G B w0 S N D gs ρ tm' hp a w :=
  h.withTm fun t => by rw [e]; exact h.tr t

/-- what an operation yields is put down -/
theorem Rel.putT {tm : Tm} {hp : List O} {ρ ρ' : Ren} {hp' : List O} {a : Act} {w w' : World} (h : Rel E.G B w0 S N D gs ρ tm hp a w) (hl : ρ.le ρ') (hr : HR E.G B ρ' hp' w') (hb : Below B w0 w') (hk : KeepsOthers w w')
    {it : Item} (hd : ∀ d, it.o.dst = some d → d < N) {u : Value} (hv : VR ρ' it.v u) : Rel E.G B w0 S N D gs ρ' (it.putT tm) hp' (a.put it.o.dst u) w' := by
  obtain ⟨ms, hd1, hd2, hd3⟩ := h.df
  unfold Item.putT
  cases hdst : it.o.dst with
  | none => exact ⟨h.tr.mono hl, hr, hb, h.sz, ⟨ms, hd1, hd2.keeps hk, hd3⟩, h.gs.keeps hk, h.bs, h.ss, Nat.le_trans h.sw hk.size⟩
  | some d => exact ⟨(h.tr.mono hl).put (by rw [h.sz]; exact hd d hdst) hv, hr, hb, by simp [Act.put, h.sz], ⟨ms, hd1, hd2.keeps hk, hd3⟩, h.gs.keeps hk, h.bs, h.ss, Nat.le_trans h.sw hk.size⟩

theorem wanted_none {o : Oper} (h : o.guard = none) (f : Nat → Option Bool) : Region.wanted o f = true := by simp [Region.wanted, h]

/-- **EVERY ORDER** -/
theorem any_ok (hE : E.Ok P) (hI : Items E P ops N 0 items) (hm : items.length = m) (hd : DrawOk ops m) (hS : Sets E P ops hp0.length nA items 0 0 [] rs') (hgb : hp0.length + nA < gbase)
    (hT : ∀ (i : Nat) (it : Item), items[i]? = some it → it.tm = foldL Item.putT (fun k => decide (k < i)) items 0 tm0 ∧ it.hp = foldL Item.putN (fun k => decide (k < i)) items 0 (hp0 ++ List.replicate nA .rsv))
    (hk : ∀ a w ρ, Rel E.G B w0 S N D gs ρ (foldL Item.putT (fun _ => true) items 0 tm0) (foldL Item.putH (fun _ => true) items 0 (hp0 ++ List.replicate nA .rsv)) a w → ρ0.le ρ →
      wpOpsIn (Fr ro) n P ops Qx (List.range' m (ops.size - m)) a w) :
    ∀ (fuel : Nat) (listed : Array Bool) (a : Act) (w : World) (ρ : Ren), listed.size = ops.size → Closed ops (Lof listed) → (∀ k, m ≤ k → Lof listed k = false) → listed.toList.count false ≤ fuel →
      Rel E.G B w0 S N D gs ρ (foldL Item.putT (Lof listed) items 0 tm0) (foldL Item.putH (Lof listed) items 0 (hp0 ++ List.replicate nA .rsv)) a w → ρ0.le ρ → wpAnyIn (Fr ro) n P .any ops Qx fuel listed a w := by
  intro fuel
  induction fuel with
  | zero =>
    intro listed a w ρ hsz hc hge hcnt h hle
    by_cases hall : ∀ k, k < m → Lof listed k = true
    · refine tail_ok hd 0 m listed a w hsz (Nat.le_refl _) hd.le (fun k hks => ?_) ?_ (hk a w ρ ?_ hle)
      · rcases Nat.lt_or_ge k m with h1 | h1
        · rw [hall k h1]; simp [h1]
        · rw [hge k h1]; simp; omega
      · rcases Nat.lt_or_ge m ops.size with h1 | h1
        · exfalso
          have := hge m (Nat.le_refl _)
          have hmem : false ∈ listed.toList := by
            unfold Lof at this
            rw [Array.getD_eq_getD_getElem?, Array.getElem?_eq_getElem (by omega), Option.getD_some] at this
            rw [← this]
            simp
          have := List.count_pos_iff.2 hmem
          omega
        · omega
      · rwa [foldL_congr (L := Lof listed) (L' := fun _ => true) Item.putT items 0 tm0 (fun k _ hk => hall k (by omega)), foldL_congr (L := Lof listed) (L' := fun _ => true) Item.putH items 0 _ (fun k _ hk => hall k (by omega))] at h
    · exfalso
      obtain ⟨k, hk1⟩ := Classical.not_forall.1 hall
      obtain ⟨hkm, hk2⟩ := Classical.not_imp.1 hk1
      have hmem : false ∈ listed.toList := by
        have hk3 : Lof listed k = false := by simpa using hk2
        unfold Lof at hk3
        have := hd.le
        rw [Array.getD_eq_getD_getElem?, Array.getElem?_eq_getElem (by omega), Option.getD_some] at hk3
        rw [← hk3]
        simp
      have := List.count_pos_iff.2 hmem
      omega
  | succ fuel ih =>
    intro listed a w ρ hsz hc hge hcnt h hle
    by_cases hall : ∀ k, k < m → Lof listed k = true
    · refine tail_ok hd (fuel + 1) m listed a w hsz (Nat.le_refl _) hd.le (fun k hks => ?_) ?_ (hk a w ρ ?_ hle)
      · rcases Nat.lt_or_ge k m with h1 | h1
        · rw [hall k h1]; simp [h1]
        · rw [hge k h1]; simp; omega
      · have key : ∀ (l : List Bool) (m : Nat), (∀ k, m ≤ k → l.getD k false = false) → l.length - m ≤ l.count false := by
          intro l
          induction l with
          | nil => intro m _; simp
          | cons b l ihl =>
            intro m hm
            cases m with
            | zero =>
              have h1 := hm 0 (Nat.le_refl _)
              simp only [List.getD_cons_zero] at h1
              subst h1
              have := ihl 0 (fun k _ => by have := hm (k + 1) (by omega); simpa using this)
              simp only [List.length_cons, List.count_cons_self]
              omega
            | succ m =>
              have := ihl m (fun k hk => by have := hm (k + 1) (by omega); simpa using this)
              simp only [List.length_cons, List.count_cons]
              omega
        have := key listed.toList m (fun k hk => by
          have := hge k hk
          unfold Lof at this
          rw [Array.getD_eq_getD_getElem?] at this
          simpa [List.getD] using this)
        rw [Array.length_toList] at this
        omega
      · rwa [foldL_congr (L := Lof listed) (L' := fun _ => true) Item.putT items 0 tm0 (fun k _ hk => hall k (by omega)), foldL_congr (L := Lof listed) (L' := fun _ => true) Item.putH items 0 _ (fun k _ hk => hall k (by omega))] at h
    · obtain ⟨k0, hk1⟩ := Classical.not_forall.1 hall
      obtain ⟨hk0m, hk2⟩ := Classical.not_imp.1 hk1
      have hk3 : Lof listed k0 = false := by simpa using hk2
      have hms := hd.le
      refine ⟨fun h0 => ?_, fun i hi => ?_⟩
      · obtain ⟨j, hj1, hj2, hj3⟩ := least k0 hk3
        have := ready_of hsz (show j < ops.size by omega) hj2 (fun o ho e he hb => hj3 _ (hd.edge j o ho e he hb))
        rw [h0] at this; cases this
      · obtain ⟨h1, hLi, hri⟩ := ready_spec hsz hi
        have him : i < m := by
          rcases Nat.lt_or_ge i m with h2 | h2
          · exact h2
          · have := ord_listed hc i hri k0 (hd.full k0 i (by omega) h1 h2)
            rw [hk3] at this; cases this
        obtain ⟨it, hit⟩ : ∃ it, items[i]? = some it := ⟨items[i]'(by omega), by simp⟩
        have hio := hI.op i it hit
        rw [Nat.zero_add] at hio
        have hdstN : ∀ d, it.o.dst = some d → d < N := fun d => hI.dst i it d hit
        have hag := step_agree hI hm hd hc hri hLi hit tm0
        have htm := step_tm hI hm hd hc hri hLi hit tm0
        have hhp := step_hp hI hm hd hc hri hLi hit hS (hp1 := hp0 ++ List.replicate nA .rsv) (by simp)
        have hset := lof_set (listed := listed) (i := i) (by omega)
        -- what comes next
        have next : ∀ (a' : Act) (w' : World) (ρ' : Ren), Rel E.G B w0 S N D gs ρ' (it.putT (foldL Item.putT (Lof listed) items 0 tm0)) (it.putH (foldL Item.putH (Lof listed) items 0 (hp0 ++ List.replicate nA .rsv))) a' w' → ρ.le ρ' →
            wpAnyIn (Fr ro) n P .any ops Qx fuel (listed.setIfInBounds i true) a' w' := by
          intro a' w' ρ' h' hl'
          refine ih _ a' w' ρ' (by simpa using hsz) ?_ ?_ ?_ ?_ (Ren.le_trans hle hl')
          · rw [hset]
            intro j o ho hj e he hb
            dsimp only at hj ⊢
            rw [Bool.or_eq_true] at hj ⊢
            rcases hj with hj | hj
            · rw [beq_iff_eq] at hj
              subst hj
              exact .inr (hri o ho e he hb)
            · exact .inr (hc j o ho hj e he hb)
          · rw [hset]
            intro k hk
            dsimp only
            rw [hge k hk, Bool.or_false]
            simp; omega
          · have : (listed.setIfInBounds i true).toList = listed.toList.set i true := by simp
            rw [this]
            have hf : listed.toList[i]? = some false := by
              unfold Lof at hLi
              rw [Array.getD_eq_getD_getElem?, Array.getElem?_eq_getElem (by omega), Option.getD_some] at hLi
              rw [Array.getElem?_toList, Array.getElem?_eq_getElem (by omega), hLi]
            have := count_set _ _ hf
            omega
          · rw [hset, hhp]
            exact h'.look htm
        -- the temporaries and the heap that the operation was looked at with
        have hat := Sets.at items 0 0 [] hS (fun e he => by simp at he) (Nat.zero_le _)
        obtain ⟨hitm, hihp⟩ := hT i it hit
        have hBw : B ≤ w.heap.size := Nat.le_trans h.bs h.bel.size
        have htr : TR ρ (restr (names ops.toList it.o) it.tm) a := h.tr.restr fun t ht => by rw [hitm]; exact hag t ht
        have hsem := hI.sem i it hit
        unfold wpOpIn
        simp only [hio]
        rcases hsem with ⟨hw, hnd, hq⟩ | ⟨hw, hlo, hq⟩ | ⟨l, hw, hlo, hgu, hq⟩ | ⟨id, o, hw⟩
        · obtain ⟨q1, q2⟩ := hq ρ a w htr (by rw [hihp]; exact step_hv hI hm hd hc i hS h.hr)
          have hpH : ∀ x, it.putH x = x := fun x => by unfold Item.putH; rw [hw]
          rw [hpH] at next
          split
          · rename_i hwant
            obtain ⟨u, hrun, hv⟩ := q1 hwant
            exact ⟨fr_about ro it.o w _, by rw [show (Fr ro).round = ro from rfl, Oper.semAt_eq ro a.eval it.o hnd, hrun]; exact next _ _ ρ (h.putT (Ren.le_refl ρ) h.hr h.bel (KeepsOthers.refl w) hdstN hv) (Ren.le_refl ρ)⟩
          · rename_i hwant
            exact ⟨fr_about ro it.o w _, next _ _ ρ (h.putT (Ren.le_refl ρ) h.hr h.bel (KeepsOthers.refl w) hdstN (q2 (by simpa using hwant))) (Ren.le_refl ρ)⟩
        · obtain ⟨hlen, hLe⟩ := step_le (G := E.G) hI hm hd hc hri hLi hit hlo hS
          rw [← hihp] at hlen hLe
          obtain ⟨q1, q2⟩ := hq _ _ hlen hLe B w0 S D gs ρ a w h htr
          have hpH : ∀ x, it.putH x = x := fun x => by unfold Item.putH; rw [hw]
          rw [hpH] at next
          split
          · rename_i hwant
            exact q1 hwant n ro _ _ fun u w' ρ' hv hrel hl' => next _ _ ρ' (hrel.putT (Ren.le_refl ρ') hrel.hr hrel.bel (KeepsOthers.refl w') hdstN hv) hl'
          · rename_i hwant
            exact ⟨fr_about ro it.o w _, next _ _ ρ (h.putT (Ren.le_refl ρ) h.hr h.bel (KeepsOthers.refl w) hdstN (q2 (by simpa using hwant))) (Ren.le_refl ρ)⟩
        · obtain ⟨hlen, hLe⟩ := step_le (G := E.G) hI hm hd hc hri hLi hit hlo hS
          rw [← hihp] at hlen hLe
          have hpH : ∀ x, it.putH x = x ++ l := fun x => by unfold Item.putH; rw [hw]
          rw [hpH] at next
          rw [if_pos (wanted_none hgu _)]
          exact hq _ _ hlen hLe B w0 S D gs ρ a w n ro _ _ h htr fun u w' ρ' hv hrel hl' => next _ _ ρ' (hrel.putT (Ren.le_refl ρ') hrel.hr hrel.bel (KeepsOthers.refl w') hdstN hv) hl'
        · obtain ⟨l, rfl, hb1, hb2, hcase⟩ := hat i it id o hit hw
          have hpH : ∀ x, it.putH x = x.set id (.cells true l) := fun x => by unfold Item.putH; rw [hw]
          rw [hpH] at next
          -- no later one has been
          have hlater : ∀ (k : Nat) (x : Item) (o' : O), items[k]? = some x → Lof listed k = true → x.w = .set id o' → k < i := by
            intro k x o' hx hLk hxw
            rcases Nat.lt_trichotomy k i with h2 | h2 | h2
            · exact h2
            · subst h2; rw [hLi] at hLk; cases hLk
            · exfalso
              obtain ⟨_, _, _, _, hc2⟩ := hat k x id o' hx hxw
              rcases hc2 with ⟨_, _, s3⟩ | ⟨_, _, s3, _⟩
              · exact s3 i it _ h2 hit hw
              · have := (s3 i it _ h2 hit hw).1
                rw [Nat.zero_add, Nat.zero_add] at this
                have := ord_listed hc k (fun o ho' => hc k o ho' hLk) i this
                rw [hLi] at this; cases this
          rcases hcase with ⟨⟨hv, hgu, hnd, hrun⟩, _, s3⟩ | ⟨⟨hgu, hdn, hst⟩, _, s3, s4⟩
          · rw [if_pos (wanted_none hgu _)]
            obtain ⟨us, t, hrun, hnew⟩ := hrun a w
            have hrsv := rsv_at (L := Lof listed) hS hb1 hb2 (fun k x o' hx hLk hxw => s3 k x o' (hlater k x o' hx hLk hxw) hx hxw)
            obtain ⟨hr', hl'⟩ := h.hr.activate (show id < gbase by omega) hrsv hnew t hBw
            refine ⟨fr_about ro it.o w _, ?_⟩
            rw [show (Fr ro).round = ro from rfl, Oper.semAt_eq ro a.eval it.o hnd, hrun]
            refine next _ _ _ (h.putT hl' hr' (h.bel.alloc hBw _) (KeepsOthers.alloc w _) hdstN ?_) hl'
            rw [hv]
            exact ⟨_, Ren.add_same _ _ _, rfl, by simp [newRg, O.len], by simp [newRg]⟩
          · rw [if_pos (wanted_none hgu _)]
            have hput := put_at (L := Lof listed) (items := items) (nA := nA) (hp0 := hp0) (id := id) (n := l.length) hb2 (fun k x o' hx hLk hxw => (s3 k x o' (hlater k x o' hx hLk hxw) hx hxw).2) (by
              rcases s4 with ⟨e, he, _⟩ | ⟨q', x, o', h1, h2, h3⟩
              · simp at he
              · have := (s3 q' x o' h1 h2 h3).1
                rw [Nat.zero_add, Nat.zero_add] at this
                exact ⟨q', x, o', h2, ord_listed hc i hri q' this, h3⟩)
            have he := hst _ hput
            obtain ⟨w', hrun, hr', hb', hk'⟩ := evOp_store hE h.hr htr he
            refine uponIn_skip he (by simp) hrun (next _ _ ρ ?_ (Ren.le_refl ρ))
            have hrel := h.putT (it := it) (u := undef) (Ren.le_refl ρ) hr' (h.bel.trans hb') hk' hdstN
            have hpt : it.putT (foldL Item.putT (Lof listed) items 0 tm0) = foldL Item.putT (Lof listed) items 0 tm0 := by unfold Item.putT; rw [hdn]
            rw [hpt]
            obtain ⟨ms, hd1, hd2, hd3⟩ := h.df
            rw [hdn]
            exact ⟨h.tr, hr', h.bel.trans hb', h.sz, ⟨ms, hd1, hd2.keeps hk', hd3⟩, h.gs.keeps hk', h.bs, h.ss, Nat.le_trans h.sw hk'.size⟩

end Go.Ab
