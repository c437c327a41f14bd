/- An evaluator of the model on values that are partly known, and its soundness (part AbSched); no condition. -/
import Derived.Test.YtjckbgodcefogaaDoorAbDraw
namespace Go.Ab
open Go.RowKit

variable {E : Env} {G : List O} {P : Program}

/-! ### Any order comes to what the listed order comes to -/

theorem full_bits {b j i : Nat} (h : (b &&& (2 ^ j - 1)) = 2 ^ j - 1) (hi : i < j) : Nat.testBit b i = true := by
  have := congrArg (Nat.testBit · i) h
  simp only [Nat.testBit_and, Nat.testBit_two_pow_sub_one, hi, decide_true, Bool.and_true] at this
  exact this

/-- what 'drawB' says -/
structure DrawOk (ops : Array Oper) (m : Nat) : Prop where
  pair : ∀ i j x y, i < j → j < m → ops[i]? = some x → ops[j]? = some y → ord (befs ops.toList []) i j = false →
    conflict ops.toList x y = false ∧ (loud x.op = true → loud y.op = true → False)
  edge : ∀ j o, ops[j]? = some o → ∀ e ∈ o.after, Region.binds .any e = true → e.on < j
  full : ∀ i j, i < j → j < ops.size → m ≤ j → ord (befs ops.toList []) i j = true
  le : m ≤ ops.size

theorem cutGo_le (bf : List Nat) : ∀ j, cutGo bf j ≤ j
  | 0 => Nat.le_refl _
  | j + 1 => by
    simp only [cutGo]
    cases (bf.getD j 0 &&& (2 ^ j - 1) == 2 ^ j - 1)
    · exact Nat.le_refl _
    · exact Nat.le_succ_of_le (cutGo_le bf j)

theorem drawOk_of {ops : Array Oper} {m : Nat} (hm : m ≤ ops.size) (h : drawB ops.toList (befs ops.toList []) m = true) : DrawOk ops m := by
  simp only [drawB, Bool.and_eq_true, List.all_eq_true, List.mem_range] at h
  obtain ⟨⟨h1, h2⟩, h3⟩ := h
  refine ⟨fun i j x y hij hj hx hy ho => ?_, fun j o ho e he hb => ?_, fun i j hij hj hmj => ?_, hm⟩
  · have := h1 j hj i hij
    simp only [pairOk, Array.getElem?_toList, hx, hy, ho, Bool.or_false, Bool.not_eq_true', Bool.or_eq_false_iff, Bool.and_eq_false_iff] at this
    refine ⟨this.1, fun hx hy => ?_⟩
    rw [hx, hy] at this
    simp at this
  · have hj : j < ops.toList.length := by
      rw [Array.length_toList]
      exact (Array.getElem?_eq_some_iff.1 ho).1
    have := h2 j hj
    simp only [Array.getElem?_toList, ho] at this
    rw [List.all_eq_true] at this
    have := this e (by simpa using he)
    simp only [hb, Bool.not_true, Bool.false_or] at this
    exact blt_lt this
  · have := h3 j (by simpa using hj)
    have hb : Nat.blt j m = false := by
      cases hb : Nat.blt j m with
      | false => rfl
      | true => have := blt_lt hb; omega
    simp only [hb, Bool.false_or, beq_iff_eq] at this
    exact full_bits this hij

theorem conflict_spec {all : List Oper} {x y : Oper} (h : conflict all x y = false) :
    (∀ d, x.dst = some d → d ∉ names all y ∧ y.dst ≠ some d) ∧ (∀ d, y.dst = some d → d ∉ names all x) := by
  unfold conflict at h
  rw [Bool.or_eq_false_iff] at h
  refine ⟨fun d hd => ?_, fun d hd => ?_⟩
  · have := h.1
    rw [hd] at this
    simp only [Bool.or_eq_false_iff] at this
    exact ⟨by simpa using this.1, by simpa using this.2⟩
  · have := h.2
    rw [hd] at this
    simpa using this

/-- an operation ready, what is listed: the others do not meddle -/
theorem sep {ops : Array Oper} {m : Nat} (hd : DrawOk ops m) {L : Nat → Bool} (hc : Closed ops L) {i : Nat} (hr : ReadyAt ops L i) (hi : L i = false) (him : i < m) {y : Oper} (hy : ops[i]? = some y)
    {k : Nat} (hk : k < m) {x : Oper} (hx : ops[k]? = some x) (hne : k ≠ i) (h1 : k < i → L k = false) (h2 : i < k → L k = true) :
    (∀ d, x.dst = some d → d ∉ names ops.toList y ∧ y.dst ≠ some d) ∧ (loud x.op = true → loud y.op = true → False) := by
  rcases Nat.lt_or_gt_of_ne hne with h | h
  · have ho : ord (befs ops.toList []) k i = false := by
      cases ho : ord (befs ops.toList []) k i with
      | false => rfl
      | true => have := ord_listed hc i hr k ho; rw [h1 h] at this; cases this
    obtain ⟨c, l⟩ := hd.pair k i x y h him hx hy ho
    exact ⟨(conflict_spec c).1, l⟩
  · have ho : ord (befs ops.toList []) i k = false := by
      cases ho : ord (befs ops.toList []) i k with
      | false => rfl
      | true =>
        have := ord_listed hc k (fun o ho' => hc k o ho' (h2 h)) i ho
        rw [hi] at this; cases this
    obtain ⟨c, l⟩ := hd.pair i k y x h hk hy hx ho
    obtain ⟨c1, c2⟩ := conflict_spec c
    exact ⟨fun d hd => ⟨c2 d hd, fun e => (c1 d e).2 hd⟩, fun a b => l b a⟩

def Item.putF (it : Item) (f : Nat → V) : Nat → V := match it.o.dst with | some d => fun t => if d = t then it.v else f t | none => f

theorem look_putT (it : Item) (tm : Tm) : look (it.putT tm) = it.putF (look tm) := by
  funext t
  unfold Item.putT Item.putF
  cases it.o.dst with
  | none => rfl
  | some d => rw [look_cons]

theorem look_foldL (L : Nat → Bool) : ∀ (items : List Item) (i : Nat) (tm : Tm), look (foldL Item.putT L items i tm) = foldL Item.putF L items i (look tm)
  | [], _, _ => rfl
  | a :: l, i, tm => by
    simp only [foldL]
    rw [look_foldL L l]
    cases L i
    · rfl
    · simp only [cond_true]; rw [look_putT]

section step
variable {ops : Array Oper} {N m : Nat} {items : List Item} {L : Nat → Bool} {i : Nat} {it : Item}

/-- the temporaries looked at are as they were in the listed order -/
theorem step_agree (hI : Items E P ops N 0 items) (hm : items.length = m) (hd : DrawOk ops m) (hc : Closed ops L) (hr : ReadyAt ops L i) (hi : L i = false) (hit : items[i]? = some it) (tm0 : Tm) :
    ∀ t ∈ names ops.toList it.o, look (foldL Item.putT L items 0 tm0) t = look (foldL Item.putT (fun k => decide (k < i)) items 0 tm0) t := by
  intro t ht
  rw [look_foldL, look_foldL]
  have him : i < m := by rw [← hm]; exact (List.getElem?_eq_some_iff.1 hit).1
  have hy := hI.op i it hit
  rw [Nat.zero_add] at hy
  refine foldL_rel Item.putF (fun f => f t) items 0 _ _ rfl fun k a ha => ⟨fun x y h => ?_, ?_⟩
  · unfold Item.putF; cases a.o.dst with | none => exact h | some d => dsimp only; split <;> first | rfl | exact h
  · rw [Nat.zero_add]
    have hkm : k < m := by rw [← hm]; exact (List.getElem?_eq_some_iff.1 ha).1
    have hx := hI.op k a ha
    rw [Nat.zero_add] at hx
    by_cases hki : k = i
    · subst hki; left; rw [hi]; simp
    · by_cases hL : L k = decide (k < i)
      · exact .inl hL
      · right
        have hs := (sep hd hc hr hi him hy hkm hx hki (fun h => by cases e : L k with | false => rfl | true => exact absurd (by rw [e]; simp [h]) hL)
          (fun h => by cases e : L k with | true => rfl | false => exact absurd (by rw [e]; simp; omega) hL)).1
        intro f
        unfold Item.putF
        cases hdst : a.o.dst with
        | none => rfl
        | some d => dsimp only; rw [if_neg]; rintro rfl; exact (hs d hdst).1 ht

theorem step_tm (hI : Items E P ops N 0 items) (hm : items.length = m) (hd : DrawOk ops m) (hc : Closed ops L) (hr : ReadyAt ops L i) (hi : L i = false) (hit : items[i]? = some it) (tm0 : Tm) :
    look (foldL Item.putT (fun k => k == i || L k) items 0 tm0) = look (it.putT (foldL Item.putT L items 0 tm0)) := by
  rw [look_foldL, look_putT, look_foldL]
  have him : i < m := by rw [← hm]; exact (List.getElem?_eq_some_iff.1 hit).1
  have hy := hI.op i it hit
  rw [Nat.zero_add] at hy
  refine foldL_add Item.putF (fun _ => True) items 0 _ trivial (Nat.zero_le _) (by simpa using hit) hi (fun _ _ _ _ _ => trivial) ?_ trivial
  intro k a ha hik hL x _
  rw [Nat.zero_add] at hik hL
  have hkm : k < m := by rw [← hm]; exact (List.getElem?_eq_some_iff.1 ha).1
  have hx := hI.op k a ha
  rw [Nat.zero_add] at hx
  have hs := (sep hd hc hr hi him hy hkm hx (by omega) (fun h => by omega) (fun _ => hL)).1
  unfold Item.putF
  cases hdst : a.o.dst with
  | none => rfl
  | some d =>
    cases hdst2 : it.o.dst with
    | none => rfl
    | some d2 =>
      funext t
      dsimp only
      by_cases e : d = t
      · subst e
        rw [if_pos rfl, if_neg (fun (e2 : d2 = d) => (hs d hdst).2 (by rw [hdst2, e2])), if_pos rfl]
      · rw [if_neg e, if_neg e]

/-! #### The heap -/

theorem rsvOk_spec {bf : List Nat} {id j : Nat} {l : List V} {rs : List Rsv} (h : rsvOk bf id j l rs = true) :
    (∀ e ∈ rs, e.id = id → ord bf e.at_ j = true ∧ e.put.length = l.length) ∧ ∃ e ∈ rs, e.id = id := by
  simp only [rsvOk, Bool.and_eq_true, List.all_eq_true, List.any_eq_true] at h
  refine ⟨fun e he hid => ?_, ?_⟩
  · have := h.1 e he
    subst hid
    simp only [Nat.beq_refl, Bool.not_true, Bool.false_or, Bool.and_eq_true] at this
    exact ⟨this.1, Nat.eq_of_beq_eq_true this.2⟩
  · obtain ⟨e, he, hb⟩ := h.2
    exact ⟨e, he, Nat.eq_of_beq_eq_true hb⟩

theorem Sets.at {base nA : Nat} {rs' : List Rsv} : ∀ (items : List Item) (j na : Nat) (rs : List Rsv), Sets E P ops base nA items j na rs rs' → (∀ e ∈ rs, base ≤ e.id ∧ e.id < base + na) → na ≤ nA →
    ∀ (q : Nat) (it : Item) (id : Nat) (o : O), items[q]? = some it → it.w = .set id o → ∃ l, o = .cells true l ∧ base ≤ id ∧ id < base + nA ∧
      ((SemA E P id l it ∧ (∀ e ∈ rs, e.id ≠ id) ∧ ∀ (q' : Nat) (x : Item) (o' : O), q' < q → items[q']? = some x → x.w ≠ .set id o') ∨
       (SemS E P ops id l it ∧ (∀ e ∈ rs, e.id = id → ord (befs ops.toList []) e.at_ (j + q) = true ∧ e.put.length = l.length) ∧
        (∀ (q' : Nat) (x : Item) (o' : O), q' < q → items[q']? = some x → x.w = .set id o' → ord (befs ops.toList []) (j + q') (j + q) = true ∧ ∃ l', o' = .cells true l' ∧ l'.length = l.length) ∧
        ((∃ e ∈ rs, e.id = id) ∨ ∃ (q' : Nat) (x : Item) (o' : O), q' < q ∧ items[q']? = some x ∧ x.w = .set id o'))) := by
  intro items
  induction items with
  | nil => intro j na rs _ _ _ q it id o h; simp at h
  | cons b r ih =>
    intro j na rs h hrs hna q it id o hit hw
    cases q with
    | zero =>
      simp only [List.getElem?_cons_zero, Option.some.injEq] at hit
      subst hit
      simp only [Sets, hw] at h
      obtain ⟨l, rfl, ⟨rfl, h1, h2, _⟩ | ⟨h1, h2, _⟩⟩ := h
      · exact ⟨l, rfl, by omega, by omega, .inl ⟨h2, fun e he => by have := hrs e he; omega, fun q' x o' hq => by omega⟩⟩
      · obtain ⟨a1, e, he, hid⟩ := rsvOk_spec h1
        have := hrs e he
        exact ⟨l, rfl, by omega, by omega, .inr ⟨h2, a1, fun q' x o' hq => by omega, .inl ⟨e, he, hid⟩⟩⟩
    | succ q =>
      have key : ∃ na2 rs2, Sets E P ops base nA r (j + 1) na2 rs2 rs' ∧ (∀ e ∈ rs2, base ≤ e.id ∧ e.id < base + na2) ∧ na2 ≤ nA ∧ (∀ e ∈ rs, e ∈ rs2) ∧
          (∀ id o, b.w = .set id o → ∃ l, o = .cells true l ∧ (⟨id, j, l⟩ : Rsv) ∈ rs2) ∧ (∀ e ∈ rs2, e ∈ rs ∨ b.w = .set e.id (.cells true e.put)) := by
        unfold Sets at h
        split at h
        · rename_i id0 o0 hw0
          obtain ⟨l, rfl, ⟨rfl, h1, h2, h3⟩ | ⟨h1, h2, h3⟩⟩ := h
          · refine ⟨_, _, h3, fun e he => ?_, by omega, fun e he => by simp [he], fun id o h => ?_, fun e he => ?_⟩
            · rcases List.mem_append.1 he with he | he
              · have := hrs e he; omega
              · simp only [List.mem_singleton] at he; subst he; dsimp only; omega
            · rw [hw0] at h; cases h; exact ⟨l, rfl, by simp⟩
            · rcases List.mem_append.1 he with he | he
              · exact .inl he
              · simp only [List.mem_singleton] at he; subst he; exact .inr hw0
          · obtain ⟨a1, e0, he0, hid0⟩ := rsvOk_spec h1
            refine ⟨_, _, h3, fun e he => ?_, hna, fun e he => by simp [he], fun id o h => ?_, fun e he => ?_⟩
            · rcases List.mem_append.1 he with he | he
              · exact hrs e he
              · simp only [List.mem_singleton] at he; subst he; have := hrs e0 he0; dsimp only; omega
            · rw [hw0] at h; cases h; exact ⟨l, rfl, by simp⟩
            · rcases List.mem_append.1 he with he | he
              · exact .inl he
              · simp only [List.mem_singleton] at he; subst he; exact .inr hw0
        · rename_i hns
          exact ⟨na, rs, h, hrs, hna, fun _ h => h, fun id o h => absurd h (hns id o), fun _ h => .inl h⟩
      obtain ⟨na2, rs2, k1, k2, k3, k4, k5, k6⟩ := key
      obtain ⟨l, rfl, hb1, hb2, hc⟩ := ih (j + 1) na2 rs2 k1 k2 k3 q it id o (by simpa using hit) hw
      refine ⟨l, rfl, hb1, hb2, ?_⟩
      rcases hc with ⟨s1, s2, s3⟩ | ⟨s1, s2, s3, s4⟩
      · refine .inl ⟨s1, fun e he => s2 e (k4 e he), fun q' x o' hq hx hxw => ?_⟩
        cases q' with
        | zero =>
          simp only [List.getElem?_cons_zero, Option.some.injEq] at hx
          subst hx
          obtain ⟨l', _, hm⟩ := k5 _ _ hxw
          exact s2 _ hm rfl
        | succ q' => exact s3 q' x o' (by omega) (by simpa using hx) hxw
      · refine .inr ⟨s1, fun e he hid => ?_, fun q' x o' hq hx hxw => ?_, ?_⟩
        · have := s2 e (k4 e he) hid
          rwa [show j + 1 + q = j + (q + 1) by omega] at this
        · cases q' with
          | zero =>
            simp only [List.getElem?_cons_zero, Option.some.injEq] at hx
            subst hx
            obtain ⟨l', rfl, hm⟩ := k5 _ _ hxw
            have := s2 _ hm rfl
            rw [show j + 1 + q = j + (q + 1) by omega] at this
            exact ⟨this.1, l', rfl, this.2⟩
          | succ q' =>
            have := s3 q' x o' (by omega) (by simpa using hx) hxw
            rwa [show j + 1 + q = j + (q + 1) by omega, show j + 1 + q' = j + (q' + 1) by omega] at this
        · rcases s4 with ⟨e, he, hid⟩ | ⟨q', x, o', h1, h2, h3⟩
          · rcases k6 e he with h | h
            · exact .inl ⟨e, h, hid⟩
            · exact .inr ⟨0, b, _, by omega, rfl, by rw [← hid]; exact h⟩
          · exact .inr ⟨q' + 1, x, o', by omega, by simpa using h2, h3⟩

theorem Items.new_loud {j : Nat} (hI : Items E P ops N j items) {k : Nat} {a : Item} (ha : items[k]? = some a) {l : List O} (hw : a.w = .new l) : loud a.o.op = true := by
  rcases hI.sem k a ha with h | h | ⟨_, _, h, _⟩ | ⟨id, o, h⟩
  · rw [h.1] at hw; cases hw
  · exact h.2.1
  · exact h
  · rw [hw] at h; cases h

theorem step_hp (hI : Items E P ops N 0 items) (hm : items.length = m) (hd : DrawOk ops m) (hc : Closed ops L) (hr : ReadyAt ops L i) (hi : L i = false) (hit : items[i]? = some it)
    {base nA : Nat} {rs' : List Rsv} (hS : Sets E P ops base nA items 0 0 [] rs') {hp1 : List O} (hl : base + nA ≤ hp1.length) :
    foldL Item.putH (fun k => k == i || L k) items 0 hp1 = it.putH (foldL Item.putH L items 0 hp1) := by
  have him : i < m := by rw [← hm]; exact (List.getElem?_eq_some_iff.1 hit).1
  have hy := hI.op i it hit
  rw [Nat.zero_add] at hy
  have hpk : ∀ (a : Item) (x : List O), base + nA ≤ x.length → base + nA ≤ (a.putH x).length := by
    intro a x hx
    unfold Item.putH
    cases a.w with
    | none => exact hx
    | new l => simp; omega
    | set id o => simpa using hx
  have hat := Sets.at items 0 0 [] hS (fun e he => by simp at he) (Nat.zero_le _)
  refine foldL_add Item.putH (fun x => base + nA ≤ x.length) items 0 _ hl (Nat.zero_le _) (by simpa using hit) hi (fun _ a _ x hx => hpk a x hx) ?_ (hpk it _ hl)
  intro k a ha hik hL x hx
  rw [Nat.zero_add] at hik hL
  have hkm : k < m := by rw [← hm]; exact (List.getElem?_eq_some_iff.1 ha).1
  have hxo := hI.op k a ha
  rw [Nat.zero_add] at hxo
  have hs := (sep hd hc hr hi him hy hkm hxo (by omega) (fun h => by omega) (fun _ => hL)).2
  unfold Item.putH
  cases hw1 : a.w with
  | none => rfl
  | new l =>
    cases hw2 : it.w with
    | none => rfl
    | new l' => exact (hs (hI.new_loud ha hw1) (hI.new_loud hit hw2)).elim
    | set id o =>
      obtain ⟨_, _, _, h4, _⟩ := hat i it id o hit hw2
      dsimp only
      rw [List.set_append_left _ _ (by omega)]
  | set id o =>
    obtain ⟨l, rfl, _, h4, hcase⟩ := hat k a id o ha hw1
    cases hw2 : it.w with
    | none => rfl
    | new l' =>
      dsimp only
      rw [List.set_append_left _ _ (by omega)]
    | set id' o' =>
      dsimp only
      have hne : id ≠ id' := by
        rintro rfl
        rcases hcase with ⟨_, _, s3⟩ | ⟨_, _, s3, _⟩
        · exact s3 i it o' hik hit hw2
        · have := (s3 i it o' hik hit hw2).1
          rw [Nat.zero_add, Nat.zero_add] at this
          have := ord_listed hc k (fun o ho' => hc k o ho' hL) i this
          rw [hi] at this; cases this
      exact List.set_comm _ _ (Ne.symm hne)

/-- but for the blocks reserved, what calls have made is all -/
theorem putH_putN {base nA : Nat} : ∀ (items : List Item) (i : Nat) (x y : List O), (∀ (k : Nat) (a : Item) id o, items[k]? = some a → a.w = .set id o → base ≤ id ∧ id < base + nA) → x.length = y.length →
    (∀ b, ¬ (base ≤ b ∧ b < base + nA) → x.getD b .gone = y.getD b .gone) →
    (foldL Item.putH L items i x).length = (foldL Item.putN L items i y).length ∧ ∀ b, ¬ (base ≤ b ∧ b < base + nA) → (foldL Item.putH L items i x).getD b .gone = (foldL Item.putN L items i y).getD b .gone
  | [], _, _, _, _, h1, h2 => ⟨h1, h2⟩
  | a :: r, i, x, y, hr, h1, h2 => by
    simp only [foldL]
    have hr' : ∀ (k : Nat) (a : Item) id o, r[k]? = some a → a.w = .set id o → base ≤ id ∧ id < base + nA := fun k b id o hb hw => hr (k + 1) b id o (by simpa using hb) hw
    cases L i with
    | false => exact putH_putN r (i + 1) x y hr' h1 h2
    | true =>
      simp only [cond_true]
      refine putH_putN r (i + 1) _ _ hr' ?_ ?_
      · unfold Item.putH Item.putN
        cases a.w <;> simp [h1]
      · intro b hb
        unfold Item.putH Item.putN
        cases hw : a.w with
        | none => exact h2 b hb
        | new l =>
          dsimp only
          simp only [List.getD] at h2 ⊢
          by_cases hlt : b < x.length
          · rw [List.getElem?_append_left hlt, List.getElem?_append_left (by omega)]; exact h2 b hb
          · rw [List.getElem?_append_right (by omega), List.getElem?_append_right (by omega), h1]
        | set id o =>
          dsimp only
          have := hr 0 a id o rfl hw
          rw [← h2 b hb]
          simp only [List.getD]
          rw [List.getElem?_set_ne (by omega)]

theorem putN_ext : ∀ (items : List Item) (i : Nat) (x : List O), ∃ l, foldL Item.putN L items i x = x ++ l
  | [], _, x => ⟨[], by simp [foldL]⟩
  | a :: r, i, x => by
    simp only [foldL]
    obtain ⟨l, hl⟩ := putN_ext r (i + 1) (bif L i then a.putN x else x)
    rw [hl]
    cases L i with
    | false => exact ⟨l, rfl⟩
    | true =>
      unfold Item.putN
      cases a.w with
      | new l' => exact ⟨l' ++ l, by simp⟩
      | _ => exact ⟨l, rfl⟩

theorem putN_prefix : ∀ (items : List Item) (i : Nat) (x : List O),
    (∀ (k k' : Nat) (a a' : Item) l l', k < k' → items[k]? = some a → items[k']? = some a' → a.w = .new l → a'.w = .new l' → L (i + k') = true → L (i + k) = true) →
    ∃ l, foldL Item.putN (fun _ => true) items i x = foldL Item.putN L items i x ++ l
  | [], _, x, _ => ⟨[], by simp [foldL]⟩
  | a :: r, i, x, h => by
    simp only [foldL, cond_true]
    have h' : ∀ (k k' : Nat) (a a' : Item) l l', k < k' → r[k]? = some a → r[k']? = some a' → a.w = .new l → a'.w = .new l' → L (i + 1 + k') = true → L (i + 1 + k) = true := fun k k' a a' l l' h1 h2 h3 h4 h5 h6 => by
      have := h (k + 1) (k' + 1) a a' l l' (by omega) (by simpa using h2) (by simpa using h3) h4 h5 (by rwa [show i + (k' + 1) = i + 1 + k' by omega])
      rwa [show i + (k + 1) = i + 1 + k by omega] at this
    cases hL : L i with
    | true => exact putN_prefix r (i + 1) _ h'
    | false =>
      simp only [cond_false]
      cases hw : a.w with
      | new l =>
        have hno : ∀ (r : List Item) (j : Nat), (∀ (k' : Nat) (a' : Item) l', r[k']? = some a' → a'.w = .new l' → L (j + k') = false) → foldL Item.putN L r j x = x := by
          intro r
          induction r with
          | nil => intros; rfl
          | cons b r ih =>
            intro j hj
            simp only [foldL]
            have : (bif L j then b.putN x else x) = x := by
              cases hLj : L j with
              | false => rfl
              | true =>
                unfold Item.putN
                cases hwb : b.w with
                | new l' => have := hj 0 b l' rfl hwb; rw [Nat.add_zero, hLj] at this; cases this
                | _ => rfl
            rw [this]
            exact ih (j + 1) fun k' a' l' h1 h2 => by
              have := hj (k' + 1) a' l' (by simpa using h1) h2
              rwa [show j + (k' + 1) = j + 1 + k' by omega] at this
        rw [hno r (i + 1) fun k' a' l' h1 h2 => by
          cases hLk : L (i + 1 + k') with
          | false => rfl
          | true =>
            have := h 0 (k' + 1) a a' l l' (by omega) rfl (by simpa using h1) hw h2 (by rwa [show i + (k' + 1) = i + 1 + k' by omega])
            rw [Nat.add_zero, hL] at this; cases this]
        obtain ⟨l2, h2⟩ := putN_ext (L := fun _ => true) r (i + 1) (a.putN x)
        rw [h2]
        unfold Item.putN
        rw [hw]
        exact ⟨l ++ l2, by simp⟩
      | _ =>
        have : a.putN x = x := by unfold Item.putN; rw [hw]
        rw [this]
        exact putN_prefix r (i + 1) _ h'

/-- which calls have been made: no later one without those before it -/
theorem new_closed (hI : Items E P ops N 0 items) (hm : items.length = m) (hd : DrawOk ops m) (hc : Closed ops L) (k k' : Nat) (a a' : Item) (l l' : List O) (hk : k < k') (ha : items[k]? = some a) (ha' : items[k']? = some a')
    (hw : a.w = .new l) (hw' : a'.w = .new l') (hL : L (0 + k') = true) : L (0 + k) = true := by
  rw [Nat.zero_add] at hL ⊢
  have hkm : k' < m := by rw [← hm]; exact (List.getElem?_eq_some_iff.1 ha').1
  have h1 := hI.op k a ha
  have h2 := hI.op k' a' ha'
  rw [Nat.zero_add] at h1 h2
  cases ho : ord (befs ops.toList []) k k' with
  | true => exact ord_listed hc k' (fun o ho' => hc k' o ho' hL) k ho
  | false => exact ((hd.pair k k' a.o a'.o hk hkm h1 h2 ho).2 (hI.new_loud ha hw) (hI.new_loud ha' hw')).elim

variable {base nA : Nat} {rs' : List Rsv} {hp0 : List O} {B : Nat} {ρ : Ren} {w : World}

theorem set_range (hS : Sets E P ops base nA items 0 0 [] rs') : ∀ (k : Nat) (a : Item) id o, items[k]? = some a → a.w = .set id o → base ≤ id ∧ id < base + nA := fun k a id o ha hw => by
  obtain ⟨_, _, h1, h2, _⟩ := Sets.at items 0 0 [] hS (fun e he => by simp at he) (Nat.zero_le _) k a id o ha hw
  exact ⟨h1, h2⟩

theorem getD_pre {l l' : List O} {b : Nat} (h : b < l.length) : (l ++ l').getD b .gone = l.getD b .gone := by
  simp [List.getD, List.getElem?_append_left h]

theorem getD_gone {l : List O} {b : Nat} (h : l.getD b .gone ≠ .gone) : b < l.length := by
  rcases Nat.lt_or_ge b l.length with h1 | h1
  · exact h1
  · simp [List.getD, List.getElem?_eq_none h1] at h

/-- what stood in the listed order stands now, as far as it is there at all -/
theorem step_hv (hI : Items E P ops N 0 items) (hm : items.length = m) (hd : DrawOk ops m) (hc : Closed ops L) (i : Nat)
    (hS : Sets E P ops hp0.length nA items 0 0 [] rs') (hh : HR G B ρ (foldL Item.putH L items 0 (hp0 ++ List.replicate nA .rsv)) w) :
    HV G ρ (foldL Item.putN (fun k => decide (k < i)) items 0 (hp0 ++ List.replicate nA .rsv)) w := by
  refine ⟨fun b r hr hal hnr => ?_, hh.glob⟩
  by_cases hg : gbase ≤ b
  · have := hh.blocks b r hr
    rw [getO_glob hg] at hal ⊢
    rw [getO_glob hg] at this
    exact this hal
  · have hg : b < gbase := by omega
    rw [getO_hp hg] at hal hnr ⊢
    have hb := getD_gone hal
    obtain ⟨l0, h0⟩ := putN_ext (L := fun k => decide (k < i)) items 0 (hp0 ++ List.replicate nA .rsv)
    have hout : ¬ (hp0.length ≤ b ∧ b < hp0.length + nA) := by
      rintro ⟨h1, h2⟩
      apply hnr
      rw [h0, getD_pre (by simp; omega)]
      simp only [List.getD, List.getElem?_append_right h1]
      rw [List.getElem?_replicate, if_pos (by omega)]
      rfl
    obtain ⟨hl, he⟩ := putH_putN (L := L) (base := hp0.length) (nA := nA) items 0 (hp0 ++ List.replicate nA .rsv) _ (set_range hS) rfl (fun _ _ => rfl)
    have hbL : b < (foldL Item.putH L items 0 (hp0 ++ List.replicate nA .rsv)).length := by
      rcases Nat.lt_or_ge b (foldL Item.putH L items 0 (hp0 ++ List.replicate nA .rsv)).length with h | h
      · exact h
      · rw [hh.free b h hg] at hr; cases hr
    obtain ⟨l1, h1⟩ := putN_prefix (L := fun k => decide (k < i)) items 0 (hp0 ++ List.replicate nA .rsv) (fun k k' a a' l l' hk _ _ _ _ h => by simp at h ⊢; omega)
    obtain ⟨l2, h2⟩ := putN_prefix (L := L) items 0 (hp0 ++ List.replicate nA .rsv) (fun k k' a a' l l' hk ha ha' hw hw' h => new_closed hI hm hd hc k k' a a' l l' hk ha ha' hw hw' h)
    have heq : (foldL Item.putH L items 0 (hp0 ++ List.replicate nA .rsv)).getD b .gone = (foldL Item.putN (fun k => decide (k < i)) items 0 (hp0 ++ List.replicate nA .rsv)).getD b .gone := by
      rw [he b hout, ← getD_pre (l' := l2) (by omega), ← h2, h1, getD_pre hb]
    have := hh.blocks b r hr
    rw [getO_hp hg, heq] at this
    exact this hal

theorem step_le (hI : Items E P ops N 0 items) (hm : items.length = m) (hd : DrawOk ops m) (hc : Closed ops L) (hr : ReadyAt ops L i) (hi : L i = false) (hit : items[i]? = some it) (hlo : loud it.o.op = true)
    (hS : Sets E P ops hp0.length nA items 0 0 [] rs') :
    (foldL Item.putH L items 0 (hp0 ++ List.replicate nA .rsv)).length = (foldL Item.putN (fun k => decide (k < i)) items 0 (hp0 ++ List.replicate nA .rsv)).length ∧
      Le G (foldL Item.putN (fun k => decide (k < i)) items 0 (hp0 ++ List.replicate nA .rsv)) (foldL Item.putH L items 0 (hp0 ++ List.replicate nA .rsv)) := by
  have him : i < m := by rw [← hm]; exact (List.getElem?_eq_some_iff.1 hit).1
  have hy := hI.op i it hit
  rw [Nat.zero_add] at hy
  have hN : foldL Item.putN L items 0 (hp0 ++ List.replicate nA .rsv) = foldL Item.putN (fun k => decide (k < i)) items 0 (hp0 ++ List.replicate nA .rsv) := by
    refine foldL_rel Item.putN id items 0 _ _ rfl fun k a ha => ⟨fun x y h => by rw [show x = y from h], ?_⟩
    rw [Nat.zero_add]
    have hkm : k < m := by rw [← hm]; exact (List.getElem?_eq_some_iff.1 ha).1
    have hx := hI.op k a ha
    rw [Nat.zero_add] at hx
    by_cases hki : k = i
    · subst hki; left; rw [hi]; simp
    · by_cases hL : L k = decide (k < i)
      · exact .inl hL
      · right
        have hs := (sep hd hc hr hi him hy hkm hx hki (fun h => by cases e : L k with | false => rfl | true => exact absurd (by rw [e]; simp [h]) hL)
          (fun h => by cases e : L k with | true => rfl | false => exact absurd (by rw [e]; simp; omega) hL)).2
        intro x
        unfold Item.putN
        cases hw : a.w with
        | new l => exact (hs (hI.new_loud ha hw) hlo).elim
        | _ => rfl
  obtain ⟨hl, he⟩ := putH_putN (L := L) (base := hp0.length) (nA := nA) items 0 (hp0 ++ List.replicate nA .rsv) _ (set_range hS) rfl (fun _ _ => rfl)
  refine ⟨by rw [hl, hN], fun b hal hnr => ?_⟩
  by_cases hg : gbase ≤ b
  · rw [getO_glob hg, getO_glob hg]
  · have hg : b < gbase := by omega
    rw [getO_hp hg] at hal hnr
    rw [getO_hp hg, getO_hp hg]
    obtain ⟨l0, h0⟩ := putN_ext (L := fun k => decide (k < i)) items 0 (hp0 ++ List.replicate nA .rsv)
    have hout : ¬ (hp0.length ≤ b ∧ b < hp0.length + nA) := by
      rintro ⟨h1, h2⟩
      apply hnr
      rw [h0, getD_pre (by simp; omega)]
      simp only [List.getD, List.getElem?_append_right h1]
      rw [List.getElem?_replicate, if_pos (by omega)]
      rfl
    rw [he b hout, hN]

/-- a block reserved, as it stands -/
theorem rsv_at (_hS : Sets E P ops hp0.length nA items 0 0 [] rs') {id : Nat} (h1 : hp0.length ≤ id) (h2 : id < hp0.length + nA) :
    (∀ (k : Nat) (a : Item) o, items[k]? = some a → L k = true → a.w ≠ .set id o) → (foldL Item.putH L items 0 (hp0 ++ List.replicate nA .rsv)).getD id .gone = .rsv := by
  intro h
  have key : ∀ (items : List Item) (i : Nat) (x : List O), id < x.length → x.getD id .gone = .rsv → (∀ (k : Nat) (a : Item) o, items[k]? = some a → L (i + k) = true → a.w ≠ .set id o) → (foldL Item.putH L items i x).getD id .gone = .rsv := by
    intro items
    induction items with
    | nil => intro i x _ hx _; exact hx
    | cons a r ih =>
      intro i x hlt hx h
      simp only [foldL]
      have h' : ∀ (k : Nat) (a : Item) o, r[k]? = some a → L (i + 1 + k) = true → a.w ≠ .set id o := fun k b o hb hL => h (k + 1) b o (by simpa using hb) (by rwa [show i + (k + 1) = i + 1 + k by omega])
      cases hL : L i with
      | false => exact ih (i + 1) x hlt hx h'
      | true =>
        simp only [cond_true]
        unfold Item.putH
        cases hw : a.w with
        | none => exact ih (i + 1) x hlt hx h'
        | new l => exact ih (i + 1) _ (by simp; omega) (by rw [getD_pre hlt]; exact hx) h'
        | set id' o =>
          have hne : id' ≠ id := by rintro rfl; exact h 0 a o rfl hL hw
          exact ih (i + 1) _ (by simpa using hlt) (by rw [← hx]; simp only [List.getD]; rw [List.getElem?_set_ne hne]) h'
  refine key items 0 _ (by simp; omega) ?_ (fun k a o ha hL => h k a o ha (by rwa [Nat.zero_add] at hL))
  simp only [List.getD, List.getElem?_append_right h1]
  rw [List.getElem?_replicate, if_pos (by omega)]
  rfl

/-- a block reserved that has been written -/
theorem put_at {id n : Nat} (hlt : id < hp0.length + nA) (hall : ∀ (k : Nat) (a : Item) o, items[k]? = some a → L k = true → a.w = .set id o → ∃ l, o = .cells true l ∧ l.length = n)
    (hex : ∃ (k : Nat) (a : Item) (o : O), items[k]? = some a ∧ L k = true ∧ a.w = .set id o) : ∃ c, (foldL Item.putH L items 0 (hp0 ++ List.replicate nA .rsv)).getD id .gone = .cells true c ∧ c.length = n := by
  have key : ∀ (items : List Item) (i : Nat) (x : List O), id < x.length → (∀ (k : Nat) (a : Item) o, items[k]? = some a → L (i + k) = true → a.w = .set id o → ∃ l, o = .cells true l ∧ l.length = n) →
      ((∃ c, x.getD id .gone = .cells true c ∧ c.length = n) ∨ ∃ (k : Nat) (a : Item) (o : O), items[k]? = some a ∧ L (i + k) = true ∧ a.w = .set id o) → ∃ c, (foldL Item.putH L items i x).getD id .gone = .cells true c ∧ c.length = n := by
    intro items
    induction items with
    | nil => intro i x _ _ h; rcases h with h | ⟨k, a, o, h, _⟩; exact h; simp at h
    | cons a r ih =>
      intro i x hlt h hx
      simp only [foldL]
      have h' : ∀ (k : Nat) (a : Item) o, r[k]? = some a → L (i + 1 + k) = true → a.w = .set id o → ∃ l, o = .cells true l ∧ l.length = n := fun k b o hb hL => h (k + 1) b o (by simpa using hb) (by rwa [show i + (k + 1) = i + 1 + k by omega])
      have hx' : (∃ c, x.getD id .gone = .cells true c ∧ c.length = n) ∨ (∃ o, L i = true ∧ a.w = .set id o) ∨ ∃ (k : Nat) (a : Item) (o : O), r[k]? = some a ∧ L (i + 1 + k) = true ∧ a.w = .set id o := by
        rcases hx with hx | ⟨k, b, o, h1, h2, h3⟩
        · exact .inl hx
        · cases k with
          | zero => simp only [List.getElem?_cons_zero, Option.some.injEq] at h1; subst h1; exact .inr (.inl ⟨o, h2, h3⟩)
          | succ k => exact .inr (.inr ⟨k, b, o, by simpa using h1, by rwa [show i + (k + 1) = i + 1 + k by omega] at h2, h3⟩)
      cases hL : L i with
      | false =>
        refine ih (i + 1) x hlt h' ?_
        rcases hx' with h1 | ⟨o, h1, _⟩ | h1
        · exact .inl h1
        · rw [hL] at h1; cases h1
        · exact .inr h1
      | true =>
        simp only [cond_true]
        unfold Item.putH
        cases hw : a.w with
        | none =>
          refine ih (i + 1) x hlt h' ?_
          rcases hx' with h1 | ⟨o, _, h1⟩ | h1
          · exact .inl h1
          · rw [hw] at h1; cases h1
          · exact .inr h1
        | new l =>
          refine ih (i + 1) _ (by simp; omega) h' ?_
          rcases hx' with ⟨c, h1, h2⟩ | ⟨o, _, h1⟩ | h1
          · exact .inl ⟨c, by rw [getD_pre hlt]; exact h1, h2⟩
          · rw [hw] at h1; cases h1
          · exact .inr h1
        | set id' o =>
          by_cases hid : id' = id
          · subst hid
            obtain ⟨l, rfl, hl⟩ := h 0 a o rfl hL hw
            exact ih (i + 1) _ (by simpa using hlt) h' (.inl ⟨l, by simp [List.getD, hlt], hl⟩)
          · refine ih (i + 1) _ (by simpa using hlt) h' ?_
            rcases hx' with ⟨c, h1, h2⟩ | ⟨o', _, h1⟩ | h1
            · exact .inl ⟨c, by rw [← h1]; simp only [List.getD]; rw [List.getElem?_set_ne hid], h2⟩
            · rw [hw] at h1; cases h1; exact absurd rfl hid
            · exact .inr h1
  refine key items 0 _ (by simp; omega) (fun k a o ha hL => hall k a o ha (by rwa [Nat.zero_add] at hL)) (.inr ?_)
  obtain ⟨k, a, o, h1, h2, h3⟩ := hex
  exact ⟨k, a, o, h1, by rwa [Nat.zero_add], h3⟩

/-- a block reserved is made -/
theorem HR.activate {hp : List O} (hh : HR G B ρ hp w) {id : Nat} (hid : id < gbase) (hrs : hp.getD id .gone = .rsv) {o : O} {us : List Value} (hnew : ∀ ρ, NewOk ρ o us) (t : TypeId) (hB : B ≤ w.heap.size) :
    HR G B (ρ.add id (newRg o w.heap.size o.len)) (hp.set id o) (w.alloc (.cells us.toArray t)) ∧ ρ.le (ρ.add id (newRg o w.heap.size o.len)) := by
  have hno : ρ id = none := hh.rsv id (by rw [getO_hp hid]; exact hrs)
  have hle := Ren.le_add hno (newRg o w.heap.size o.len)
  have hlt : id < hp.length := getD_gone (by rw [hrs]; simp)
  have hget : ∀ b', b' ≠ id → getO G (hp.set id o) b' = getO G hp b' := by
    intro b' hne
    by_cases hg : b' < gbase
    · rw [getO_hp hg, getO_hp hg]
      simp [List.getD, Ne.symm hne]
    · rw [getO_glob (by omega), getO_glob (by omega)]
  have hgb : getO G (hp.set id o) id = o := by
    rw [getO_hp hid]
    simp [List.getD, hlt]
  have hown := (hnew ρ).own
  refine ⟨⟨?_, fun b h1 h2 => ?_, fun b h1 => ?_, ?_, ?_, fun g o' hg => ?_, by simpa using hh.small⟩, hle⟩
  · intro b x hx hal
    by_cases e : b = id
    · subst e
      rw [Ren.add_same] at hx
      cases hx
      rw [hgb]
      exact OR.new (hnew _) w t
    · rw [Ren.add_other ρ _ e] at hx
      rw [hget b e] at hal ⊢
      exact ((hh.blocks b x hx hal).mono hle).same (fun hp0 => heap_alloc_old w _ ((hh.blocks b x hx hal).lt hp0)) (by simp)
  · simp only [List.length_set] at h1
    rw [Ren.add_other ρ _ (by omega)]
    exact hh.free b h1 h2
  · by_cases e : b = id
    · subst e; rw [hgb] at h1; exact absurd h1 (hnew ρ).nrsv
    · rw [Ren.add_other ρ _ e]; rw [hget b e] at h1; exact hh.rsv b h1
  · intro b x hx ho hp0
    by_cases e : b = id
    · subst e
      rw [Ren.add_same] at hx
      cases hx
      exact hB
    · rw [Ren.add_other ρ _ e] at hx
      rw [hget b e] at ho
      exact hh.base b x hx ho hp0
  · intro b b' x x' hx hx' hal hp0 hp0' ho hne
    by_cases e : b = id
    · subst e
      rw [Ren.add_same] at hx
      cases hx
      rw [Ren.add_other ρ _ (Ne.symm hne)] at hx'
      rw [hget b' (Ne.symm hne)] at hal
      have := (hh.blocks b' x' hx' hal).lt hp0'
      simp only [newRg]
      omega
    · rw [Ren.add_other ρ _ e] at hx
      rw [hget b e] at ho
      by_cases e' : b' = id
      · subst e'
        rw [Ren.add_same] at hx'
        cases hx'
        have := (hh.blocks b x hx (fun e => by rw [e] at ho; simp [O.own] at ho)).lt hp0
        simp only [newRg]
        omega
      · rw [Ren.add_other ρ _ e'] at hx'
        rw [hget b' e'] at hal
        exact hh.apart b b' x x' hx hx' hal hp0 hp0' ho hne
  · obtain ⟨r, h1, h2⟩ := hh.glob g o' hg
    exact ⟨r, hle _ _ h1, h2⟩

theorem HR.reserve {hp : List O} (hh : HR G B ρ hp w) (n : Nat) (hsm : hp.length + n + 1 < gbase) : HR G B ρ (hp ++ List.replicate n .rsv) w := by
  have hget : ∀ b x, ρ b = some x → getO G (hp ++ List.replicate n .rsv) b = getO G hp b := by
    intro b x hx
    by_cases hb : b < gbase
    · rw [getO_hp hb, getO_hp hb]
      refine getD_pre ?_
      rcases Nat.lt_or_ge b hp.length with h | h
      · exact h
      · rw [hh.free b h hb] at hx; cases hx
    · rw [getO_glob (by omega), getO_glob (by omega)]
  refine ⟨fun b r hr hal => ?_, fun b h1 h2 => hh.free b (by simp at h1; omega) h2, fun b h1 => ?_, fun b r hr ho => ?_, fun b b' r r' hr hr' hal hp0 hp0' ho hne => ?_, hh.glob, by simp; omega⟩
  · rw [hget b r hr] at hal ⊢; exact hh.blocks b r hr hal
  · cases hx : ρ b with
    | none => rfl
    | some x => rw [hget b x hx] at h1; rw [hh.rsv b h1] at hx; cases hx
  · rw [hget b r hr] at ho; exact hh.base b r hr ho
  · rw [hget b' r' hr'] at hal; rw [hget b r hr] at ho; exact hh.apart b b' r r' hr hr' hal hp0 hp0' ho hne

end step

end Go.Ab
