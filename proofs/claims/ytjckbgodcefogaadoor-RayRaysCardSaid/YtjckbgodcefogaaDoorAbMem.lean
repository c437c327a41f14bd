/- An evaluator of the model on values that are partly known, and its soundness (part AbMem); no condition. -/
import Derived.Test.YtjckbgodcefogaaDoorAbOps
import Derived.RangeFuncOwn
namespace Go.Ab
section
variable {G : List O} {E : Env} {P : Program} {B : Nat} {ρ : Ren} {hp : List O} {w : World} {tm : List (Nat × V)} {a : Act}

/-- the cells of a new block are the abstract block's -/
structure NewOk (ρ : Ren) (o : O) (us : List Value) : Prop where
  alive : o ≠ .gone
  nrsv : o ≠ .rsv
  wf : o.wf
  own : o.own = true
  few : o.len ≤ maxLen
  size : us.length = o.len * o.wid
  cell : ∀ k j v, k < o.len → j < o.wid → o.cell k j = some v → ∃ x, us[k * o.wid + j]? = some x ∧ VR ρ v x

def newRg (o : O) (blk cp : Nat) : Rg := { blk := blk, base := 0, m := o.wid, n := o.len, cp := cp, ph := false }

def Ren.add (ρ : Ren) (b : Nat) (r : Rg) : Ren := fun i => if i = b then some r else ρ i

theorem Ren.add_same (ρ : Ren) (b : Nat) (r : Rg) : (ρ.add b r) b = some r := by simp [Ren.add]
theorem Ren.add_other (ρ : Ren) {b i : Nat} (r : Rg) (h : i ≠ b) : (ρ.add b r) i = ρ i := by simp [Ren.add, h]
theorem Ren.le_add {ρ : Ren} {b : Nat} (h : ρ b = none) (r : Rg) : ρ.le (ρ.add b r) := fun i x hx => by
  by_cases e : i = b
  · subst e; rw [h] at hx; cases hx
  · rw [Ren.add_other ρ r e]; exact hx

theorem getO_hp {b : Nat} (h : b < gbase) : getO G hp b = hp.getD b .gone := by
  unfold getO
  have : Nat.ble gbase b = false := by
    cases hb : Nat.ble gbase b with
    | false => rfl
    | true => have := Nat.le_of_ble_eq_true hb; omega
  rw [this]

theorem getO_glob {b : Nat} (h : gbase ≤ b) : getO G hp b = G.getD (b - gbase) .gone := by
  unfold getO
  rw [Nat.ble_eq_true_of_le h]

theorem getD_append_lt {l : List O} {x : O} {b : Nat} (h : b < l.length) : (l ++ [x]).getD b .gone = l.getD b .gone := by
  simp [List.getD, List.getElem?_append_left h]
theorem getD_append_eq {l : List O} {x : O} : (l ++ [x]).getD l.length .gone = x := by simp [List.getD]

/-- a block added behind the others -/
theorem HR.extend (hh : HR G B ρ hp w) {o : O} {w' : World} {r : Rg} (hs : w.heap.size ≤ w'.heap.size) (hold : ∀ k, k < w.heap.size → w'.heap[k]? = w.heap[k]?)
    (hr : OR (ρ.add hp.length r) o r w') (hB : o.own = true → r.ph = false → B ≤ r.blk) (hnew : o.own = true → r.ph = false → w.heap.size ≤ r.blk)
    (hold2 : r.ph = false → ∀ b x, ρ b = some x → (getO G hp b).own = true → x.ph = false → x.blk ≠ r.blk) (hsm : hp.length + 1 < gbase) :
    HR G B (ρ.add hp.length r) (hp ++ [o]) w' ∧ ρ.le (ρ.add hp.length r) := by
  have hno : ρ hp.length = none := hh.free _ (Nat.le_refl _) (by omega)
  have hle := Ren.le_add hno r
  have hget : ∀ b x, ρ b = some x → getO G (hp ++ [o]) b = getO G hp b := by
    intro b x hx
    by_cases hb : b < gbase
    · rw [getO_hp hb, getO_hp hb]
      have : b < hp.length := by
        rcases Nat.lt_or_ge b hp.length with h | h
        · exact h
        · rw [hh.free b h hb] at hx; cases hx
      exact getD_append_lt this
    · rw [getO_glob (by omega), getO_glob (by omega)]
  have hgn : getO G (hp ++ [o]) hp.length = o := by rw [getO_hp (by omega)]; exact getD_append_eq
  refine ⟨⟨?_, fun b h1 h2 => ?_, fun b h1 => ?_, ?_, ?_, ?_, by simp; omega⟩, hle⟩
  · intro b x hx hal
    by_cases e : b = hp.length
    · subst e
      rw [Ren.add_same] at hx
      cases hx
      rw [hgn]
      exact hr
    · rw [Ren.add_other ρ r e] at hx
      rw [hget b x hx] at hal ⊢
      exact ((hh.blocks b x hx hal).mono hle).same (fun hp0 => hold _ ((hh.blocks b x hx hal).lt hp0)) hs
  · simp only [List.length_append, List.length_singleton] at h1
    rw [Ren.add_other ρ r (by omega)]
    exact hh.free b (by omega) h2
  · by_cases e : b = hp.length
    · subst e; rw [hgn] at h1; exact absurd h1 hr.nrsv
    · rw [Ren.add_other ρ r e]
      cases hx : ρ b with
      | none => rfl
      | some x => rw [hget b x hx] at h1; rw [hh.rsv b h1] at hx; cases hx
  · intro b x hx ho hp0
    by_cases e : b = hp.length
    · subst e
      rw [Ren.add_same] at hx
      cases hx
      rw [hgn] at ho
      exact hB ho hp0
    · rw [Ren.add_other ρ r e] at hx
      rw [hget b x hx] at ho
      exact hh.base b x hx ho hp0
  · intro b b' x x' hx hx' hal hp0 hp0' ho hne
    by_cases e : b = hp.length
    · subst e
      rw [Ren.add_same] at hx
      cases hx
      rw [Ren.add_other ρ r (Ne.symm hne)] at hx'
      rw [hget b' x' hx'] at hal
      rw [hgn] at ho
      have := (hh.blocks b' x' hx' hal).lt hp0'
      have := hnew ho hp0
      omega
    · rw [Ren.add_other ρ r e] at hx
      rw [hget b x hx] at ho
      by_cases e' : b' = hp.length
      · subst e'
        rw [Ren.add_same] at hx'
        cases hx'
        exact hold2 hp0' b x hx ho hp0
      · rw [Ren.add_other ρ r e'] at hx'
        rw [hget b' x' hx'] at hal
        exact hh.apart b b' x x' hx hx' hal hp0 hp0' ho hne
  · intro g x hx
    obtain ⟨r', h1, h2⟩ := hh.glob g x hx
    refine ⟨r', ?_, h2⟩
    rw [Ren.add_other ρ r (by omega)]
    exact h1

/-- blocks of cells unchanged, whatever becomes of the others -/
theorem OR.cellsSame {ρ : Ren} {o : O} {r : Rg} {w w' : World} (h : OR ρ o r w) (hb : ∀ (k : Nat) (ob : Obj), w.heap[k]? = some ob → ob.isCells = true → w'.heap[k]? = some ob) (hs : w.heap.size ≤ w'.heap.size) : OR ρ o r w' where
  alive := h.alive
  nrsv := h.nrsv
  wf := h.wf
  n := h.n
  ph0 := h.ph0
  lt := fun hp => Nat.lt_of_lt_of_le (h.lt hp) hs
  m := h.m
  cp := h.cp
  cell := fun hp k j v hk hj hv => by
    obtain ⟨u, hu, hr⟩ := h.cell hp k j v hk hj hv
    refine ⟨u, ?_, hr⟩
    obtain ⟨ob, ho, hc⟩ := cells_of_cell hu
    exact (World.cell?_of_block ((hb _ _ ho hc).trans ho.symm)).trans hu
  own := fun ho hp => by
    obtain ⟨a, hm, cs, e, hc, hsz⟩ := h.own ho hp
    exact ⟨a, hm, cs, e, hb _ _ hc rfl, hsz⟩

theorem HR.cellsSame {w' : World} (h : HR G B ρ hp w) (hb : ∀ (k : Nat) (ob : Obj), w.heap[k]? = some ob → ob.isCells = true → w'.heap[k]? = some ob) (hs : w.heap.size ≤ w'.heap.size) : HR G B ρ hp w' :=
  ⟨fun b r e al => (h.blocks b r e al).cellsSame hb hs, h.free, h.rsv, h.base, h.apart, h.glob, h.small⟩

theorem OR.new {ρ : Ren} {o : O} {us : List Value} (h : NewOk ρ o us) (w : World) (t : TypeId) : OR ρ o (newRg o w.heap.size o.len) (w.alloc (.cells us.toArray t)) where
  alive := h.alive
  nrsv := h.nrsv
  wf := h.wf
  n := rfl
  ph0 := fun e => by simp [newRg] at e
  lt := fun _ => by simp [newRg]
  m := fun _ => rfl
  cp := fun _ => Nat.le_refl _
  cell := fun _ k j v hk hj hv => by
    obtain ⟨x, hx, hvx⟩ := h.cell k j v hk hj hv
    refine ⟨x, ?_, hvx⟩
    simp only [newRg, Nat.zero_add]
    rw [World.cell?_alloc_new]
    simpa using hx
  own := fun _ _ => ⟨rfl, h.few, us.toArray, t, heap_alloc_new _ _, by simp [newRg, h.size]⟩

theorem NewOk.mono {ρ ρ' : Ren} {o : O} {us : List Value} (h : NewOk ρ o us) (hl : ρ.le ρ') : NewOk ρ' o us :=
  ⟨h.alive, h.nrsv, h.wf, h.own, h.few, h.size, fun k j v hk hj hv => let ⟨x, hx, hvx⟩ := h.cell k j v hk hj hv; ⟨x, hx, VR.mono hl _ _ hvx⟩⟩

theorem NewOk.cells {ρ : Ren} {l : List V} {us : List Value} (h : VRL ρ l us) : NewOk ρ (.cells true l) us where
  alive := by simp
  nrsv := by simp
  wf := trivial
  own := rfl
  few := by simp [O.len, maxLen]
  size := by simp [O.len, O.wid, h.length]
  cell := fun k j v hk hj hv => by
    simp only [O.len] at hk
    obtain rfl : k = 0 := by omega
    simp only [O.cell] at hv
    obtain ⟨x, hx, hvx⟩ := h.get j v hv
    exact ⟨x, by simpa [O.wid] using hx, hvx⟩


theorem putCells_get : ∀ (vs l : List V) (j i : Nat), j + vs.length ≤ l.length → (putCells l j vs)[i]? = if j ≤ i ∧ i < j + vs.length then vs[i - j]? else l[i]?
  | [], l, j, i, _ => by
    simp only [putCells, List.length_nil, Nat.add_zero]
    rw [if_neg (by omega)]
  | v :: vs, l, j, i, h => by
    simp only [List.length_cons] at h
    rw [putCells, putCells_get vs _ _ i (by simp; omega)]
    simp only [List.length_cons]
    by_cases h1 : j + 1 ≤ i ∧ i < j + 1 + vs.length
    · rw [if_pos h1, if_pos (by omega), show i - j = (i - (j + 1)) + 1 by omega, List.getElem?_cons_succ]
    · rw [if_neg h1, List.getElem?_set]
      by_cases h2 : j = i
      · subst h2
        rw [if_pos rfl, if_pos (by omega), if_pos (by omega)]
        simp
      · rw [if_neg h2, if_neg (by omega)]

theorem putCells_one : ∀ (vs l : List V) (j : Nat), vs.all V.one = true → l.all V.one = true → (putCells l j vs).all V.one = true
  | [], l, j, _, h => h
  | v :: vs, l, j, h, hl => by
    simp only [List.all_cons, Bool.and_eq_true] at h
    rw [putCells]
    refine putCells_one vs _ _ h.2 (List.all_eq_true.2 fun x hx => ?_)
    rcases List.mem_or_eq_of_mem_set hx with h' | rfl
    · exact List.all_eq_true.1 hl x h'
    · exact h.1

/-! ### A slice written out -/

theorem allInts_ok {k : IntKind} : ∀ {rs : List (List V)} {zs : List Int}, allInts k rs = some zs → zs.length = rs.length ∧ ∀ i : Nat, i < rs.length → rs[i]? = some [V.int k (zs.getD i 0)] := by
  intro rs
  induction rs with
  | nil => intro zs h; simp only [allInts, Option.some.injEq] at h; subst h; exact ⟨rfl, fun i hi => by simp at hi⟩
  | cons r rs ih =>
    intro zs h
    unfold allInts at h
    split at h
    · rename_i heq; cases heq
    · rename_i k' n r' heq
      cases heq
      split at h
      · rename_i hk
        obtain rfl := of_decide_eq_true hk
        split at h
        · rename_i l hl
          cases h
          obtain ⟨h1, h2⟩ := ih hl
          refine ⟨by simp [h1], fun i hi => ?_⟩
          cases i with
          | zero => rfl
          | succ i => simpa using h2 i (by simpa using hi)
        · cases h
      · cases h
    · cases h

theorem rowInts_ok : ∀ {r : List V} {ks : List IntKind} {l : List Int}, rowInts r = some (ks, l) → ks.length = r.length ∧ l.length = r.length ∧ ∀ (j : Nat) (kd : IntKind), ks[j]? = some kd → r[j]? = some (V.int kd (l.getD j 0)) := by
  intro r
  induction r with
  | nil => intro ks l h; simp only [rowInts, Option.some.injEq, Prod.mk.injEq] at h; obtain ⟨rfl, rfl⟩ := h; exact ⟨rfl, rfl, fun j kd hj => by simp at hj⟩
  | cons v r ih =>
    intro ks l h
    unfold rowInts at h
    split at h
    · rename_i heq; cases heq
    · rename_i k n r' heq
      cases heq
      split at h
      · rename_i ks' l' hl
        cases h
        obtain ⟨h1, h2, h3⟩ := ih hl
        refine ⟨by simp [h1], by simp [h2], fun j kd hj => ?_⟩
        cases j with
        | zero => simp only [List.getElem?_cons_zero, Option.some.injEq] at hj; subst hj; rfl
        | succ j => simpa using h3 j kd (by simpa using hj)
      · cases h
    · cases h

theorem allRows_ok {ks : List IntKind} : ∀ {rs : List (List V)} {x : List (List Int)}, allRows ks rs = some x → x.length = rs.length ∧ (∀ row ∈ x, row.length = ks.length) ∧ ∀ (i j : Nat) (kd : IntKind), i < rs.length → ks[j]? = some kd → (rs[i]?).bind (·[j]?) = some (V.int kd ((x.getD i []).getD j 0)) := by
  intro rs
  induction rs with
  | nil => intro x h; simp only [allRows, Option.some.injEq] at h; subst h; exact ⟨rfl, by simp, fun i j kd hi => by simp at hi⟩
  | cons v rs ih =>
    intro x h
    unfold allRows at h
    split at h
    · rename_i ks' l hl
      split at h
      · rename_i hk
        obtain rfl := of_decide_eq_true hk
        split at h
        · rename_i x' hx
          cases h
          obtain ⟨r1, r2, r3⟩ := rowInts_ok hl
          obtain ⟨h1, h2, h3⟩ := ih hx
          refine ⟨by simp [h1], fun row hr => ?_, fun i j kd hi hj => ?_⟩
          · rcases List.mem_cons.1 hr with rfl | hr
            · omega
            · exact h2 row hr
          · cases i with
            | zero => simpa using r3 j kd hj
            | succ i => simpa using h3 i j kd (by simpa using hi) hj
        · cases h
      · cases h
    · cases h

theorem mkO_ok {m : Nat} {rs : List (List V)} (hrs : ∀ r ∈ rs, r.length = m ∧ r.all V.one = true) : (mkO m rs) ≠ .gone ∧ (mkO m rs) ≠ .rsv ∧ (mkO m rs).wf ∧ (mkO m rs).own = true ∧ (mkO m rs).len = rs.length ∧ (mkO m rs).wid = m ∧
    ∀ k j v, k < rs.length → j < m → (mkO m rs).cell k j = some v → (rs[k]?).bind (·[j]?) = some v := by
  have hv : ∀ k j v, (O.vals true m rs).cell k j = some v → (rs[k]?).bind (·[j]?) = some v := by
    intro k j v h
    simp only [O.cell] at h
    split at h
    · rename_i r hr; rw [hr]; exact h
    · cases h
  have hvals : (O.vals true m rs) ≠ .gone ∧ (O.vals true m rs) ≠ .rsv ∧ (O.vals true m rs).wf ∧ (O.vals true m rs).own = true ∧ (O.vals true m rs).len = rs.length ∧ (O.vals true m rs).wid = m ∧
      ∀ k j v, k < rs.length → j < m → (O.vals true m rs).cell k j = some v → (rs[k]?).bind (·[j]?) = some v := ⟨by simp, by simp, hrs, rfl, rfl, rfl, fun k j v _ _ h => hv k j v h⟩
  unfold mkO
  split
  · rename_i k n rs'
    split
    · rename_i zs hz
      obtain ⟨h1, h2⟩ := allInts_ok hz
      have hm : m = 1 := by have := (hrs [.int k n] (by simp)).1; simpa using this.symm
      refine ⟨by simp, by simp, trivial, rfl, by simp only [O.len]; exact h1, by simp only [O.wid]; exact hm.symm, fun i j v hi hj hc => ?_⟩
      obtain rfl : j = 0 := by omega
      simp only [O.cell, Option.some.injEq] at hc
      rw [h2 i hi]
      simp only [Option.bind_some, List.getElem?_cons_zero, hc]
    · exact hvals
  · rename_i r rs' hne
    split
    · rename_i ks l hr
      split
      · rename_i x hx
        obtain ⟨h1, h2, h3⟩ := allRows_ok hx
        obtain ⟨r1, _, _⟩ := rowInts_ok hr
        have hm := (hrs r (by simp)).1
        refine ⟨by simp, by simp, h2, rfl, by simp only [O.len]; exact h1, by simp only [O.wid]; omega, fun i j v hi hj hc => ?_⟩
        simp only [O.cell] at hc
        split at hc
        · rename_i kd hkd
          simp only [Option.some.injEq] at hc
          rw [h3 i j kd hi hkd, hc]
        · cases hc
      · exact hvals
    · exact hvals
  · exact hvals

theorem partsO_ok {sz : Nat} (hsz : 1 ≤ sz) : ∀ (parts : List (Nat × V)) (ps : List (Nat × Value)) (i0 : Nat) (l : List V) (cs : Array Value) (rs : List (List V)), partsO sz i0 parts = some rs →
    (∀ i : Nat, (∀ p : Nat × V, parts[i]? = some p → ∃ u, ps[i]? = some (p.1, u) ∧ VR ρ p.2 u) ∧ (parts[i]? = none → ps[i]? = none)) → VRL ρ l cs.toList → (i0 + parts.length) * sz ≤ l.length →
    ∃ cs' l', Instr.fill (fun i => some (i * sz, sz)) cs ps = some cs' ∧ VRL ρ l' cs'.toList ∧ l'.length = l.length ∧ rs.length = parts.length ∧ (∀ r ∈ rs, r.length = sz ∧ r.all V.one = true) ∧
      (∀ i, i < i0 * sz → l'[i]? = l[i]?) ∧ ∀ k j v, j < sz → (rs[k]?).bind (·[j]?) = some v → l'[(i0 + k) * sz + j]? = some v := by
  intro parts
  induction parts with
  | nil =>
    intro ps i0 l cs rs h hps hl _
    have h0 := (hps 0).2 rfl
    have : ps = [] := by cases ps with | nil => rfl | cons x xs => simp at h0
    subst this
    simp only [partsO, Option.some.injEq] at h
    subst h
    exact ⟨cs, l, rfl, hl, rfl, rfl, by simp, fun _ _ => rfl, fun k j v _ hv => by simp at hv⟩
  | cons p parts ih =>
    intro ps i0 l cs rs h hps hl hlen
    obtain ⟨i, v⟩ := p
    obtain ⟨u, hu, hvu⟩ := (hps 0).1 (i, v) rfl
    cases ps with
    | nil => simp at hu
    | cons q ps =>
      simp only [List.getElem?_cons_zero, Option.some.injEq] at hu
      subst hu
      simp only [partsO] at h
      split at h
      · rename_i hb
        simp only [Bool.and_eq_true] at hb
        obtain ⟨⟨hb1, hb2⟩, hb3⟩ := hb
        obtain rfl := Nat.eq_of_beq_eq_true hb1
        have hb2 := Nat.eq_of_beq_eq_true hb2
        split at h
        · rename_i rs' hrs
          cases h
          have hcells := VR.cells hvu hb3
          have hsz2 : u.cells.size = sz := by have := hcells.length; simp only [Array.length_toList] at this; omega
          have hcs : cs.size = l.length := by have := hl.length; simpa using this
          have hstep := fill_put v.cells u.cells.toList l cs (i0 * sz) 0 hcells hl
          rw [Nat.add_zero] at hstep
          simp only [List.length_cons] at hlen
          have hi1 : i0 * sz + sz ≤ l.length := by
            have : (i0 + 1) * sz ≤ (i0 + (parts.length + 1)) * sz := Nat.mul_le_mul_right _ (by omega)
            rw [Nat.add_mul, Nat.one_mul] at this
            omega
          have hrest : ∀ i : Nat, (∀ p : Nat × V, parts[i]? = some p → ∃ u, ps[i]? = some (p.1, u) ∧ VR ρ p.2 u) ∧ (parts[i]? = none → ps[i]? = none) := fun i => by simpa using hps (i + 1)
          obtain ⟨cs', l', hf, hr, hl1, hl2, hl3, hl4, hl5⟩ := ih ps (i0 + 1) _ _ rs' hrs hrest hstep (by rw [putCells_length, show i0 + 1 + parts.length = i0 + (parts.length + 1) by omega]; exact hlen)
          refine ⟨cs', l', ?_, hr, by rw [hl1, putCells_length], by simp [hl2], fun r hr => ?_, fun i hi => ?_, fun k j x hj hx => ?_⟩
          · simp only [Instr.fill, hsz2]
            rw [if_neg (by simp; omega)]
            rw [← Array.foldl_toList, Array.toList_zipIdx]
            exact hf
          · rcases List.mem_cons.1 hr with rfl | hr
            · exact ⟨hb2, hb3⟩
            · exact hl3 r hr
          · rw [hl4 i (by rw [Nat.add_mul]; omega), putCells_get _ _ _ _ (by omega), if_neg (by omega)]
          · cases k with
            | zero =>
              simp only [List.getElem?_cons_zero, Option.bind_some] at hx
              rw [Nat.add_zero, hl4 _ (by rw [Nat.add_mul]; omega), putCells_get _ _ _ _ (by omega), if_pos (by omega), Nat.add_sub_cancel_left]
              exact hx
            | succ k =>
              rw [show i0 + (k + 1) = i0 + 1 + k by omega]
              exact hl5 k j x hj (by simpa using hx)
        · cases h
      · cases h

theorem vrl_junk : ∀ (us : List Value), VRL ρ (List.replicate us.length .junk) us
  | [] => rfl
  | u :: us => ⟨u, us, rfl, trivial, vrl_junk us⟩

theorem buildO_ok (hE : E.Ok P) {t e : TypeId} {T Te : Ty} (hT : assoc E.ty t = some T) (hk : T.kd = .slice e) (hTe : assoc E.ty e = some Te) {n : Nat} {parts : List (Nat × V)} {ps : Array (Nat × Value)} {o : O} (h : buildO Te.sz n parts = some o)
    (hps : ∀ i : Nat, (∀ p : Nat × V, parts[i]? = some p → ∃ u, ps.toList[i]? = some (p.1, u) ∧ VR ρ p.2 u) ∧ (parts[i]? = none → ps.toList[i]? = none)) (w : World) :
    ∃ us, (Instr.buildSlice t n ps).run P w = .ok (.slice (some ⟨w.heap.size, 0, none⟩) n n) (w.alloc (.cells us.toArray e)) ∧ NewOk ρ o us ∧ o.len = n := by
  have hu := (hE.ty t T hT).und
  rw [hk] at hu
  dsimp only at hu
  obtain ⟨i, z, hi, hsz, _, hz, _⟩ := (hE.ty e Te hTe).info
  unfold buildO at h
  split at h
  · rename_i rs hrs
    split at h
    · rename_i hb
      cases h
      simp only [Bool.and_eq_true] at hb
      obtain ⟨⟨⟨hb1, hb2⟩, hb4⟩, hb3⟩ := hb
      have hb1 := Nat.eq_of_beq_eq_true hb1
      have hb2 := Nat.le_of_ble_eq_true hb2
      have hb4 := Nat.le_of_ble_eq_true hb4
      have hb3 := Nat.le_of_ble_eq_true hb3
      obtain ⟨cs, hcs⟩ : ∃ cs : Array Value, cs = (Array.range (n * Te.sz)).map ((if n * Te.sz = 0 then #[] else z.cells)[· % (if n * Te.sz = 0 then #[] else z.cells).size]!) := ⟨_, rfl⟩
      have hcsz : cs.size = n * Te.sz := by rw [hcs]; simp
      obtain ⟨cs', l', hf, hr, hl1, hl2, hl3, hl4, hl5⟩ := partsO_ok (ρ := ρ) hb2 parts ps.toList 0 (List.replicate cs.toList.length .junk) cs rs hrs hps (vrl_junk _) (by simp [hcsz, hb1])
      obtain ⟨m1, m2, m3, m4, m5, m6, m7⟩ := mkO_ok hl3
      have hlen : cs'.size = n * Te.sz := by have := hr.length; simp only [Array.length_toList] at this; rw [this, hl1]; simp [hcsz]
      refine ⟨cs'.toList, ?_, ⟨m1, m2, m3, m4, ?_, ?_, fun k j v hk hj hv => ?_⟩, by rw [m5, hl2, hb1]⟩
      · have hno : ¬ (16777216 < n * Te.sz) := by omega
        have hpos : 0 < Te.sz := hb2
        have hz0 : ¬ n * Te.sz = 0 := by have := Nat.mul_pos hb4 hpos; omega
        rw [if_neg hz0] at hcs
        rw [hcs] at hf
        simp only [Instr.buildSlice, Sem.run_bind, run_underlying hu, Result.andThen_ok, sizeOf, typeInfo, zeroValue]
        simp [hno, if_neg hz0, hsz, hi, hz, hf, newRow]
      · rw [m5, hl2, hb1]
        have : n ≤ n * Te.sz := Nat.le_mul_of_pos_right _ hb2
        simp only [maxLen]; omega
      · rw [m5, m6, hl2, hb1]; simp [hlen]
      · rw [m5] at hk
        rw [m6] at hj
        have := hl5 k j v hj (m7 k j v hk hj hv)
        rw [Nat.zero_add] at this
        rw [m6]
        exact hr.get _ _ this
    · cases h
  · cases h

/-- what an operation that makes a block comes to -/
theorem evOp_alloc (hE : E.Ok P) (hh : HR E.G B ρ hp w) (ht : TR ρ tm a) {o : Oper} {ob : O} {mk : Nat → V} (h : evOp E tm hp o.op = .alloc ob mk) :
    ∃ us t u, (execOp a.eval o).run P w = .ok (.value u) (w.alloc (.cells us.toArray t)) ∧ NewOk ρ ob us ∧
      ∀ ρ' b, ρ' b = some (newRg ob w.heap.size ob.len) → VR ρ' (mk b) u := by
  have hev := fun x => evA_ok (w := w) ht hh.hv x
  obtain ⟨dst, op, ty, pos, after, guard⟩ := o
  dsimp only at h
  unfold evOp at h
  split at h
  case h_1 | h_2 => cases h
  case h_3 => unfold pickV at h; (repeat' split at h) <;> cases h
  case h_4 t x =>
    split at h
    · rename_i T hT
      split at h
      · rename_i ha
        cases h
        have hc := VR.cells (hev x) ha
        refine ⟨(a.eval x).cells.toList, t, .pointer (some ⟨w.heap.size, 0, none⟩), ?_, NewOk.cells hc, fun ρ' b hb => ⟨_, hb, rfl, by simp [newRg, O.len], by simp [newRg]⟩⟩
        simp [execOp, Instr.box, newVar, newRow]
      · cases h
    · cases h
  case h_5 t =>
    split at h
    · rename_i T hT
      cases h
      obtain ⟨i, z, hi, hsz, _, hz, hzero⟩ := (hE.ty t T hT).info
      refine ⟨z.cells.toList, t, .pointer (some ⟨w.heap.size, 0, none⟩), ?_, NewOk.cells (hzero ρ), fun ρ' b hb => ⟨_, hb, rfl, by simp [newRg, O.len], by simp [newRg]⟩⟩
      simp [execOp, Instr.alloc, zeroValue, typeInfo, hi, hz, newVar, newRow]
    · cases h
  case h_10 =>
    (repeat' split at h) <;> first | cases h | exact (nv_bin h rfl).elim | skip
    · unfold shf at h; split at h <;> cases h
    · unfold bin at h; split at h <;> cases h
  case h_21 t n parts =>
    split at h
    · rename_i T hT
      split at h
      · rename_i e hk
        split at h
        · rename_i Te hTe
          split at h
          · rename_i o ho
            cases h
            have hps : ∀ i : Nat, (∀ p : Nat × V, (parts.toList.map fun p => (p.1, evA E tm p.2))[i]? = some p → ∃ u, (parts.map fun p => (p.1, a.eval p.2)).toList[i]? = some (p.1, u) ∧ VR ρ p.2 u) ∧
                ((parts.toList.map fun p => (p.1, evA E tm p.2))[i]? = none → (parts.map fun p => (p.1, a.eval p.2)).toList[i]? = none) := by
              intro i
              simp only [List.getElem?_map, Array.toList_map]
              cases parts.toList[i]? with
              | none => simp
              | some q =>
                simp only [Option.map_some, Option.some.injEq, reduceCtorEq, false_implies, and_true]
                rintro p rfl
                exact ⟨_, rfl, hev q.2⟩
            obtain ⟨us, hrun, hnew, hlen⟩ := buildO_ok (P := P) (ρ := ρ) hE hT hk hTe ho hps w
            refine ⟨us, e, .slice (some ⟨w.heap.size, 0, none⟩) n n, ?_, hnew, fun ρ' b hb => ⟨_, hb, by simp [newRg, hlen], fun e => by simp [newRg] at e, fun _ => ⟨by simp [newRg, hlen], ⟨w.heap.size, 0, none⟩, by simp [newRg, hlen], fun _ => by simp [newRg]⟩⟩⟩
            simp [execOp, hrun]
          · cases h
        · cases h
      · cases h
    · cases h
  all_goals ((repeat' split at h) <;> first | cases h | exact (nv_sl h rfl).elim | exact (nv_max h rfl).elim | exact (nv_app h rfl).elim)

/-- a row of cells is written -/
theorem storeCells_ok {o : O} {r : Rg} (ho : OR ρ o r w) (how : o.own = true) (hph : r.ph = false) (x : Nat) (us : List Value) (hx : x + us.length ≤ r.cp * r.m) (h1 : ∀ u ∈ us, u.oneCell' = true) :
    ∃ w' cs', (storeCells ⟨r.blk, x, none⟩ us).run P w = .ok () w' ∧ w'.heap.size = w.heap.size ∧ (∀ k, k ≠ r.blk → w'.heap[k]? = w.heap[k]?) ∧
      w'.os = w.os ∧ w'.tape = w.tape ∧ w'.output = w.output ∧
      (∃ e, w'.heap[r.blk]? = some (.cells cs' e (0, 0))) ∧ cs'.size = r.cp * r.m ∧
      ∀ i, w'.cell? ⟨r.blk, i, none⟩ = if x ≤ i ∧ i < x + us.length then us[i - x]? else w.cell? ⟨r.blk, i, none⟩ := by
  obtain ⟨hb, _, cs, e, hc, hsz⟩ := ho.own how hph
  have hrun := run_storeCells_at P r.blk x e us 0 cs w hc (by omega) h1
  simp only [Nat.add_zero] at hrun
  have hnew := setRow_heap w r.blk cs (cs.toList.take x ++ us ++ cs.toList.drop (x + us.length)).toArray e (0, 0) hc
  refine ⟨_, (cs.toList.take x ++ us ++ cs.toList.drop (x + us.length)).toArray, hrun, by simp, fun k hk => setRow_other w r.blk k _ hk, rfl, rfl, rfl, ⟨e, hnew⟩, ?_, ?_⟩
  · simp only [List.size_toArray, List.length_append, List.length_take, List.length_drop, Array.length_toList]
    omega
  · intro i
    rw [cell_of_row _ r.blk i _ e (0, 0) hnew, cell_of_row _ r.blk i cs e (0, 0) hc]
    have hl : (cs.toList.take x).length = x := by simp; omega
    simp only [List.getElem?_toArray]
    by_cases h2 : x ≤ i ∧ i < x + us.length
    · rw [if_pos h2, List.append_assoc, List.getElem?_append_right (by omega), hl, List.getElem?_append_left (by omega)]
    · rw [if_neg h2]
      by_cases h3 : i < x
      · rw [List.append_assoc, List.getElem?_append_left (by omega), List.getElem?_take]
        simp [h3]
      · rw [List.getElem?_append_right (by simp; omega)]
        simp only [List.length_append, hl, List.getElem?_drop]
        rw [show x + us.length + (i - (x + us.length)) = i by omega]
        simp

/-- a block written anew -/
theorem HR.update (hh : HR G B ρ hp w) {b : Nat} {r : Rg} (hr : ρ b = some r) (hb : b < gbase) (hph : r.ph = false) (how : (getO G hp b).own = true) {o' : O} {w' : World}
    (hs : w.heap.size = w'.heap.size) (hold : ∀ k, k ≠ r.blk → w'.heap[k]? = w.heap[k]?) (ho' : OR ρ o' r w') (_hown : o'.own = true) : HR G B ρ (hp.set b o') w' := by
  have hlt : b < hp.length := by
    rcases Nat.lt_or_ge b hp.length with h | h
    · exact h
    · rw [hh.free b h hb] at hr; cases hr
  have hget : ∀ b', b' ≠ b → getO G (hp.set b o') b' = getO G hp b' := by
    intro b' hne
    by_cases hg : b' < gbase
    · rw [getO_hp hg, getO_hp hg]
      simp [List.getD, Ne.symm hne]
    · rw [getO_glob (by omega), getO_glob (by omega)]
  have hgb : getO G (hp.set b o') b = o' := by
    rw [getO_hp hb]
    simp [List.getD, hlt]
  refine ⟨?_, fun b h1 h2 => hh.free b (by simpa using h1) h2, fun b' h1 => ?_, ?_, ?_, hh.glob, by simpa using hh.small⟩
  · intro b' r' hr' hal
    by_cases e : b' = b
    · subst e
      rw [hr] at hr'
      cases hr'
      rw [hgb]
      exact ho'
    · rw [hget b' e] at hal ⊢
      refine (hh.blocks b' r' hr' hal).same (fun hp' => hold _ ?_) (by omega)
      exact fun e2 => hh.apart b b' r r' hr hr' hal hph hp' how (Ne.symm e) e2.symm
  · by_cases e : b' = b
    · subst e; rw [hgb] at h1; exact absurd h1 ho'.nrsv
    · rw [hget b' e] at h1; exact hh.rsv b' h1
  · intro b' r' hr' ho hp'
    by_cases e : b' = b
    · subst e
      rw [hr] at hr'
      cases hr'
      exact hh.base _ _ hr how hp'
    · rw [hget b' e] at ho
      exact hh.base b' r' hr' ho hp'
  · intro b' b'' r' r'' hr' hr'' hal hp' hp'' ho hne
    have hal2 : getO G hp b'' ≠ .gone := by
      by_cases e : b'' = b
      · subst e; intro e2; rw [e2] at how; simp [O.own] at how
      · rwa [hget b'' e] at hal
    by_cases e : b' = b
    · subst e
      exact hh.apart _ b'' r' r'' hr' hr'' hal2 hp' hp'' how hne
    · rw [hget b' e] at ho
      exact hh.apart b' b'' r' r'' hr' hr'' hal2 hp' hp'' ho hne

theorem stO_ok {ob o' : O} {k j sz : Nat} {v : V} {u : Value} (hst : stO ob k j v sz = some o') (hvu : VR ρ v u) (hk : k < ob.len) (hwf : ob.wf) :
    ob.own = true ∧ o'.own = true ∧ 0 < sz ∧ o'.wf ∧ o' ≠ .gone ∧ o' ≠ .rsv ∧ o'.len = ob.len ∧ o'.wid = ob.wid ∧ j + sz ≤ ob.wid ∧ u.cells.toList.length = sz ∧ (∀ x ∈ u.cells.toList, x.oneCell' = true) ∧
      ∃ vs, VRL ρ vs u.cells.toList ∧ ∀ k' j' v', o'.cell k' j' = some v' →
        (k' = k ∧ j ≤ j' ∧ j' < j + sz ∧ vs[j' - j]? = some v') ∨ (¬ (k' = k ∧ j ≤ j' ∧ j' < j + sz) ∧ ob.cell k' j' = some v') := by
  unfold stO at hst
  split at hst
  · rename_i l
    split at hst
    · split at hst
      · rename_i hb
        simp only [Bool.and_eq_true, Nat.ble_eq] at hb
        obtain ⟨⟨⟨hb1, hb2⟩, hb3⟩, hb4⟩ := hb
        have hb1 := Nat.eq_of_beq_eq_true hb1
        cases hst
        have hc := VR.cells hvu hb3
        refine ⟨rfl, rfl, hb4, trivial, by simp, by simp, rfl, by simp [O.wid, putCells_length], by simpa [O.wid] using hb2, by rw [hc.length, hb1], VRL.oneCell hc hb3, v.cells, hc, ?_⟩
        intro k' j' v' hv
        cases k' with
        | succ => simp [O.cell] at hv
        | zero =>
          simp only [O.cell] at hv
          rw [putCells_get _ _ _ _ (by omega)] at hv
          by_cases hin : j ≤ j' ∧ j' < j + v.cells.length
          · rw [if_pos hin] at hv
            exact .inl ⟨rfl, hin.1, by omega, hv⟩
          · rw [if_neg hin] at hv
            exact .inr ⟨fun h => hin ⟨h.2.1, by omega⟩, hv⟩
      · cases hst
    · cases hst
  · rename_i kd zs
    split at hst
    · rename_i kd' n
      split at hst
      · rename_i hb
        simp only [Bool.and_eq_true, decide_eq_true_eq] at hb
        obtain ⟨rfl, hb⟩ := hb
        obtain rfl := Nat.eq_of_beq_eq_true hb
        cases hst
        cases hvu
        refine ⟨rfl, rfl, by omega, trivial, by simp, by simp, by simp [O.len], rfl, by simp [O.wid], rfl, by simp [Value.cells, Value.oneCell'], [.int kd n], ⟨_, _, rfl, rfl, rfl⟩, ?_⟩
        intro k' j' v' hv
        cases j' with
        | succ => simp [O.cell] at hv
        | zero =>
          simp only [O.cell, Option.some.injEq, List.getD_eq_getElem?_getD, List.getElem?_set] at hv
          by_cases hkk : k = k'
          · subst hkk
            simp only [O.len] at hk
            rw [if_pos rfl, if_pos hk] at hv
            exact .inl ⟨rfl, Nat.le_refl _, by omega, by simpa using hv⟩
          · rw [if_neg hkk] at hv
            exact .inr ⟨fun h => hkk h.1.symm, by simp [O.cell, ← hv]⟩
      · cases hst
    · cases hst
  · rename_i ks rs
    split at hst
    · rename_i kd' n
      split at hst
      · rename_i kd hkd
        split at hst
        · rename_i hb
          simp only [Bool.and_eq_true, decide_eq_true_eq] at hb
          obtain ⟨rfl, hb⟩ := hb
          obtain rfl := Nat.eq_of_beq_eq_true hb
          cases hst
          cases hvu
          have hjw : j < ks.length := (List.getElem?_eq_some_iff.1 hkd).1
          have hrow : ∀ hk' : k < rs.length, rs[k].length = ks.length := fun hk' => hwf _ (List.getElem_mem hk')
          refine ⟨rfl, rfl, by omega, ?_, by simp, by simp, by simp [O.len], rfl, by simp only [O.wid]; omega, rfl, by simp [Value.cells, Value.oneCell'], [.int kd n], ⟨_, _, rfl, rfl, rfl⟩, ?_⟩
          · intro row hr
            rcases List.mem_or_eq_of_mem_set hr with h | rfl
            · exact hwf _ h
            · simp only [O.len] at hk
              simp [hk, hrow hk]
          intro k' j' v' hv
          simp only [O.cell] at hv
          split at hv
          · rename_i kd2 hkd2
            simp only [Option.some.injEq, List.getD_eq_getElem?_getD, List.getElem?_set] at hv
            by_cases hkk : k = k'
            · subst hkk
              simp only [O.len] at hk
              rw [if_pos rfl, if_pos hk] at hv
              by_cases hjj : j = j'
              · subst hjj
                rw [hkd] at hkd2
                cases hkd2
                refine .inl ⟨rfl, Nat.le_refl _, by omega, ?_⟩
                have hl := hrow hk
                simp [hk, hl, hjw] at hv
                simpa using hv
              · refine .inr ⟨fun h => hjj (by omega), ?_⟩
                have hl := hrow hk
                simp [hk, hjj] at hv
                simp [O.cell, hkd2, hk, hv]
            · rw [if_neg hkk] at hv
              exact .inr ⟨fun h => hkk h.1.symm, by simp [O.cell, hkd2, ← hv]⟩
          · cases hv
        · cases hst
      · cases hst
    · cases hst
  · rename_i m rs
    split at hst
    · rename_i hb
      simp only [Bool.and_eq_true, Nat.ble_eq] at hb
      obtain ⟨⟨⟨hb1, hb2⟩, hb3⟩, hb4⟩ := hb
      have hb1 := Nat.eq_of_beq_eq_true hb1
      cases hst
      have hc := VR.cells hvu hb3
      have hk' : k < rs.length := hk
      have hrow : (rs.getD k []).length = m := by
        have : rs.getD k [] = rs[k] := by simp [List.getD, hk']
        rw [this]; exact (hwf _ (List.getElem_mem hk')).1
      have hrow1 : (rs.getD k []).all V.one = true := by
        have : rs.getD k [] = rs[k] := by simp [List.getD, hk']
        rw [this]; exact (hwf _ (List.getElem_mem hk')).2
      refine ⟨rfl, rfl, hb4, ?_, by simp, by simp, by simp [O.len], rfl, hb2, by rw [hc.length, hb1], VRL.oneCell hc hb3, v.cells, hc, ?_⟩
      · intro row hr
        rcases List.mem_or_eq_of_mem_set hr with h | rfl
        · exact hwf _ h
        · exact ⟨by rw [putCells_length]; exact hrow, putCells_one _ _ _ hb3 hrow1⟩
      intro k' j' v' hv
      simp only [O.cell, List.getElem?_set] at hv
      by_cases hkk : k = k'
      · subst hkk
        rw [if_pos rfl, if_pos hk'] at hv
        dsimp only at hv
        rw [putCells_get _ _ _ _ (by omega)] at hv
        by_cases hin : j ≤ j' ∧ j' < j + v.cells.length
        · rw [if_pos hin] at hv
          exact .inl ⟨rfl, hin.1, by omega, hv⟩
        · rw [if_neg hin] at hv
          refine .inr ⟨fun h => hin ⟨h.2.1, by omega⟩, ?_⟩
          simp only [O.cell]
          rw [List.getElem?_eq_getElem hk']
          dsimp only
          simpa [List.getD, hk'] using hv
      · rw [if_neg hkk] at hv
        exact .inr ⟨fun h => hkk h.1.symm, by simpa only [O.cell] using hv⟩
    · cases hst
  · cases hst

theorem spot_eq {k k' j j' m sz : Nat} (h1 : j + sz ≤ m) (h2 : j' < m) (_h3 : 0 < sz) : (k * m + j ≤ k' * m + j' ∧ k' * m + j' < k * m + j + sz) ↔ (k' = k ∧ j ≤ j' ∧ j' < j + sz) := by
  constructor
  · rintro ⟨a, b⟩
    have hk : k' = k := by
      rcases Nat.lt_trichotomy k' k with h | h | h
      · have : (k' + 1) * m ≤ k * m := Nat.mul_le_mul_right _ h
        rw [Nat.add_mul] at this
        omega
      · exact h
      · have : (k + 1) * m ≤ k' * m := Nat.mul_le_mul_right _ h
        rw [Nat.add_mul] at this
        omega
    subst hk
    exact ⟨rfl, by omega, by omega⟩
  · rintro ⟨rfl, a, b⟩
    omega

/-- what a store comes to -/
theorem evOp_store (hE : E.Ok P) (hh : HR E.G B ρ hp w) (ht : TR ρ tm a) {o : Oper} {b : Nat} {o' : O} (h : evOp E tm hp o.op = .store b o') :
    ∃ w', (execOp a.eval o).run P w = .ok .skip w' ∧ HR E.G B ρ (hp.set b o') w' ∧ RowKit.Below B w w' ∧ KeepsOthers w w' := by
  have hev := fun x => evA_ok (w := w) ht hh.hv x
  obtain ⟨dst, op, ty, pos, after, guard⟩ := o
  dsimp only at h
  unfold evOp at h
  split at h
  case h_1 | h_2 => cases h
  case h_3 => unfold pickV at h; (repeat' split at h) <;> cases h
  case h_7 t x y =>
    have hx := hev x
    have hy := hev y
    split at h
    · rename_i b' k j he
      rw [he] at hx
      split at h
      · rename_i T hT
        have hty := hE.ty t T hT
        split at h
        · cases h
        · rename_i hgb
          have hgb : b' < gbase := by
            rcases Nat.lt_or_ge b' gbase with h | h
            · exact h
            · rw [Nat.ble_eq_true_of_le h] at hgb; cases hgb
          split at h
          · rename_i o'' hst
            cases h
            obtain ⟨r, hr, hph, hk, hxe⟩ := hx
            have hob := hh.blocks b r hr (fun e => by rw [getO_hp hgb] at e; rw [e] at hst; simp [stO] at hst)
            have hbase0 := hh.base b r hr
            rw [getO_hp hgb] at hob hbase0
            rw [hob.n] at hk
            obtain ⟨how, how', hsz0, hwf', hal, hnr, hlen, hwid, hjsz, hus, h1, vs, hvs, hcl⟩ := stO_ok (ρ := ρ) hst hy hk hob.wf
            have hm := hob.m hph
            have hbase := (hob.own how hph).1
            have hcp := hob.cp hph
            have hfit : k * r.m + j + (a.eval y).cells.toList.length ≤ r.cp * r.m := by
              have : (k + 1) * r.m ≤ r.cp * r.m := Nat.mul_le_mul_right _ (by have := hob.n; omega)
              rw [Nat.add_mul] at this
              omega
            obtain ⟨w', cs', hrun, hsz, hold, hos, htp, hout, hheap, hcsz, hcell⟩ := storeCells_ok (P := P) hob how hph (k * r.m + j) _ hfit h1
            have hnew : OR ρ o' r w' := by
              refine ⟨hal, hnr, hwf', by rw [hlen]; exact hob.n, hob.ph0, fun hp' => by rw [hsz]; exact hob.lt hp', fun hp' => by rw [hwid]; exact hob.m hp', hob.cp, fun hp' k' j' v' hk' hj' hv' => ?_, fun _ _ => ⟨hbase, (hob.own how hph).2.1, cs', hheap.imp fun e he => ⟨he, hcsz⟩⟩⟩
              have hc := hcell (k' * r.m + j')
              rw [hus] at hc
              simp only [spot_eq (k := k) (k' := k') (j := j) (j' := j') (m := r.m) (sz := T.sz) (by omega) (by omega) hsz0] at hc
              rcases hcl k' j' v' hv' with ⟨rfl, h2, h3, h4⟩ | ⟨h2, h3⟩
              · rw [if_pos ⟨rfl, h2, h3⟩] at hc
                obtain ⟨x, hx, hvx⟩ := hvs.get _ _ h4
                refine ⟨x, ?_, hvx⟩
                rw [hbase, Nat.zero_add, hc, ← hx]
                congr 1
                omega
              · rw [if_neg h2] at hc
                obtain ⟨x, hx, hvx⟩ := hob.cell hp' k' j' v' (by omega) (by omega) h3
                refine ⟨x, ?_, hvx⟩
                rw [hbase, Nat.zero_add] at hx ⊢
                rw [hc]
                exact hx
            have hB := hbase0 how hph
            refine ⟨w', ?_, hh.update hr hgb hph (by rw [getO_hp hgb]; exact how) hsz.symm hold hnew how', ⟨hos, htp, hout, by omega, fun k hk => hold k (by omega)⟩, ⟨by omega, fun k obk hk hobk => ?_⟩⟩
            rotate_left
            · by_cases e : k = r.blk
              · subst e
                obtain ⟨_, _, cs2, e2, hc2, _⟩ := hob.own how hph
                rw [hc2] at hk
                cases hk
                simp [Obj.isCells] at hobk
              · exact (hold k e).trans hk
            have hvs2 : (a.eval y).cells.size = T.sz := by simpa using hus
            rw [hbase, Nat.zero_add] at hxe
            simp [execOp, Instr.storeAt, Instr.sureAddr, hxe, storeVar, hty.size, hvs2, hrun]
          · cases h
      · cases h
    · cases h
  case h_10 =>
    (repeat' split at h) <;> first | cases h | exact (nv_bin h rfl).elim | skip
    · unfold shf at h; split at h <;> cases h
    · unfold bin at h; split at h <;> cases h
  all_goals ((repeat' split at h) <;> first | cases h | exact (nv_sl h rfl).elim | exact (nv_max h rfl).elim | exact (nv_app h rfl).elim)

end
end Go.Ab
