/- An evaluator of the model on values that are partly known, and its soundness (part AbApp); no condition. -/
import Derived.Test.YtjckbgodcefogaaDoorAbMem
namespace Go.Ab
section
variable {G : List O} {E : Env} {P : Program} {B : Nat} {ρ : Ren} {hp : List O} {w : World} {tm : List (Nat × V)} {a : Act}

/-- a block is no more looked at -/
def killO (hp : List O) : Option Nat → List O
  | none => hp
  | some b => hp.set b .gone

theorem HR.kill (hh : HR G B ρ hp w) {b : Nat} (hb : b < gbase) : HR G B ρ (hp.set b .gone) w := by
  have hget : ∀ b', b' ≠ b → getO G (hp.set b .gone) b' = getO G hp b' := by
    intro b' hne
    by_cases hg : b' < gbase
    · rw [getO_hp hg, getO_hp hg]
      simp [List.getD, Ne.symm hne]
    · rw [getO_glob (by omega), getO_glob (by omega)]
  have hgb : getO G (hp.set b .gone) b = .gone := by
    rw [getO_hp hb]
    by_cases h : b < hp.length
    · simp [List.getD, h]
    · simp [List.getD, List.getElem?_eq_none (show (hp.set b O.gone).length ≤ b by simp; omega)]
  refine ⟨?_, fun b' h1 h2 => hh.free b' (by simpa using h1) h2, fun b' h1 => ?_, ?_, ?_, hh.glob, by simpa using hh.small⟩
  · intro b' r' hr' hal
    by_cases e : b' = b
    · subst e; exact absurd hgb hal
    · rw [hget b' e] at hal ⊢; exact hh.blocks b' r' hr' hal
  · by_cases e : b' = b
    · subst e; rw [hgb] at h1; cases h1
    · rw [hget b' e] at h1; exact hh.rsv b' h1
  · intro b' r' hr' ho hp'
    by_cases e : b' = b
    · subst e; rw [hgb] at ho; cases ho
    · rw [hget b' e] at ho; exact hh.base b' r' hr' ho hp'
  · intro b' b'' r' r'' hr' hr'' hal hp' hp'' ho hne
    by_cases e : b' = b
    · subst e; rw [hgb] at ho; cases ho
    · by_cases e2 : b'' = b
      · subst e2; exact absurd hgb hal
      · rw [hget b' e] at ho; rw [hget b'' e2] at hal
        exact hh.apart b' b'' r' r'' hr' hr'' hal hp' hp'' ho hne

/-- a block behind the others, whatever became of the world elsewhere -/
theorem HR.extend2 (hh : HR G B ρ hp w) {o : O} {w' : World} {r : Rg} (hs : w.heap.size ≤ w'.heap.size)
    (hold : ∀ b x, ρ b = some x → getO G hp b ≠ .gone → x.ph = false → w'.heap[x.blk]? = w.heap[x.blk]?)
    (hr : OR (ρ.add hp.length r) o r w') (hB : o.own = true → r.ph = false → B ≤ r.blk)
    (hnew : r.ph = false → ∀ b x, ρ b = some x → getO G hp b ≠ .gone → x.ph = false → x.blk ≠ r.blk) (hsm : hp.length + 1 < gbase) :
    HR G B (ρ.add hp.length r) (hp ++ [o]) w' ∧ ρ.le (ρ.add hp.length r) := by
  have hno : ρ hp.length = none := hh.free _ (Nat.le_refl _) (by omega)
  have hle := Ren.le_add hno r
  have hget : ∀ b x, ρ b = some x → getO G (hp ++ [o]) b = getO G hp b := by
    intro b x hx
    by_cases hb : b < gbase
    · rw [getO_hp hb, getO_hp hb]
      have : b < hp.length := by
        rcases Nat.lt_or_ge b hp.length with h | h
        · exact h
        · rw [hh.free b h hb] at hx; cases hx
      exact getD_append_lt this
    · rw [getO_glob (by omega), getO_glob (by omega)]
  have hgn : getO G (hp ++ [o]) hp.length = o := by rw [getO_hp (by omega)]; exact getD_append_eq
  refine ⟨⟨?_, fun b h1 h2 => ?_, fun b h1 => ?_, ?_, ?_, ?_, by simp; omega⟩, hle⟩
  · intro b x hx hal
    by_cases e : b = hp.length
    · subst e
      rw [Ren.add_same] at hx
      cases hx
      rw [hgn]
      exact hr
    · rw [Ren.add_other ρ r e] at hx
      rw [hget b x hx] at hal ⊢
      exact ((hh.blocks b x hx hal).mono hle).same (fun hp0 => hold b x hx hal hp0) hs
  · simp only [List.length_append, List.length_singleton] at h1
    rw [Ren.add_other ρ r (by omega)]
    exact hh.free b (by omega) h2
  · by_cases e : b = hp.length
    · subst e; rw [hgn] at h1; exact absurd h1 hr.nrsv
    · rw [Ren.add_other ρ r e]
      cases hx : ρ b with
      | none => rfl
      | some x => rw [hget b x hx] at h1; rw [hh.rsv b h1] at hx; cases hx
  · intro b x hx ho hp0
    by_cases e : b = hp.length
    · subst e
      rw [Ren.add_same] at hx
      cases hx
      rw [hgn] at ho
      exact hB ho hp0
    · rw [Ren.add_other ρ r e] at hx
      rw [hget b x hx] at ho
      exact hh.base b x hx ho hp0
  · intro b b' x x' hx hx' hal hp0 hp0' ho hne
    by_cases e : b = hp.length
    · subst e
      rw [Ren.add_same] at hx
      cases hx
      rw [Ren.add_other ρ r (Ne.symm hne)] at hx'
      rw [hget b' x' hx'] at hal
      exact fun e => hnew hp0 b' x' hx' hal hp0' e.symm
    · rw [Ren.add_other ρ r e] at hx
      rw [hget b x hx] at ho
      by_cases e' : b' = hp.length
      · subst e'
        rw [Ren.add_same] at hx'
        cases hx'
        exact hnew hp0' b x hx (fun e => by rw [e] at ho; cases ho) hp0
      · rw [Ren.add_other ρ r e'] at hx'
        rw [hget b' x' hx'] at hal
        exact hh.apart b b' x x' hx hx' hal hp0 hp0' ho hne
  · intro g x hx
    obtain ⟨r', h1, h2⟩ := hh.glob g x hx
    refine ⟨r', ?_, h2⟩
    rw [Ren.add_other ρ r (by omega)]
    exact h1

/-! ### append -/

theorem run_app_room (t ty e : TypeId) (i : TypeInfo) (ht : P.underlying t = some (.slice e)) (hi : P.info? e = some i)
    (g sLen sCap : Nat) (cur : Array Value) (e0 : TypeId) (hg : w.heap[g]? = some (.cells cur e0 (0, 0)))
    (ad : Addr) (m c : Nat) (news : List Value) (hl : news.length = m * i.size) (hnews : ∀ j u, news[j]? = some u → w.cell? (ad.add j) = some u) (h1 : ∀ u ∈ news, u.oneCell' = true)
    (hroom : sLen + m ≤ sCap) (hfit : sLen * i.size + news.length ≤ cur.size) :
    (Builtin.append_ #[t, t] ty #[.slice (some ⟨g, 0, none⟩) sLen sCap, .slice (some ad) m c]).run P w =
      .ok (.slice (some ⟨g, 0, none⟩) (sLen + m) sCap) (w.setRow g (cur.toList.take (sLen * i.size) ++ news ++ cur.toList.drop (sLen * i.size + news.length)).toArray) := by
  have hf := run_firstCells_some (P := P) w i.size m ad m c news hl hnews
  have hst := run_storeCells_at P g (sLen * i.size) e0 news 0 cur w hg (by simpa using hfit) h1
  simp only [Nat.add_zero] at hst
  simp [Builtin.append_, run_underlying ht, sizeOf, typeInfo, hi, Builtin.lenOf, hroom, hf, Addr.add_lit, hst]

/-- nothing appended -/
theorem run_app_nothing (t ty e : TypeId) (i : TypeInfo) (ht : P.underlying t = some (.slice e)) (hi : P.info? e = some i) (base : Option Addr) (sLen sCap : Nat) (hle : sLen ≤ sCap) (b2 : Option Addr) (c : Nat) :
    (Builtin.append_ #[t, t] ty #[.slice base sLen sCap, .slice b2 0 c]).run P w = .ok (.slice base sLen sCap) w := by
  cases base <;> cases b2 <;> simp [Builtin.append_, run_underlying ht, sizeOf, typeInfo, hi, Builtin.lenOf, hle, Builtin.firstCells, loadCells, loadCellsFrom, storeCells]

theorem list_of {p : Nat → Value → Prop} : ∀ (N : Nat), (∀ j, j < N → ∃ u, p j u) → ∃ us : List Value, us.length = N ∧ ∀ j u, us[j]? = some u → p j u
  | 0, _ => ⟨[], rfl, fun j u h => by simp at h⟩
  | N + 1, h => by
    obtain ⟨us, h1, h2⟩ := list_of N fun j hj => h j (by omega)
    obtain ⟨u, hu⟩ := h N (by omega)
    refine ⟨us ++ [u], by simp [h1], fun j x hx => ?_⟩
    by_cases hj : j < us.length
    · rw [List.getElem?_append_left hj] at hx; exact h2 j x hx
    · rw [List.getElem?_append_right (by omega)] at hx
      have : j = us.length := by
        rcases Nat.lt_or_ge (j - us.length) 1 with h | h
        · omega
        · rw [List.getElem?_eq_none (by simpa using h)] at hx; cases hx
      subst this
      rw [Nat.sub_self] at hx
      simp only [List.getElem?_cons_zero, Option.some.injEq] at hx
      rw [← hx, h1]
      exact hu

theorem O.cell_ex {o : O} (hr : o.isRows = true) (hwf : o.wf) {k j : Nat} (hk : k < o.len) (hj : j < o.wid) : ∃ v, o.cell k j = some v ∧ V.one v = true := by
  cases o with
  | ints w kd zs =>
    simp only [O.wid] at hj
    obtain rfl : j = 0 := by omega
    exact ⟨.int kd (zs.getD k 0), rfl, rfl⟩
  | rows w ks rs =>
    simp only [O.wid] at hj
    exact ⟨.int ks[j] ((rs.getD k []).getD j 0), by simp only [O.cell]; rw [List.getElem?_eq_getElem hj], rfl⟩
  | vals w m rs =>
    simp only [O.len] at hk
    simp only [O.wid] at hj
    obtain ⟨hl, h1⟩ := hwf _ (List.getElem_mem hk)
    exact ⟨rs[k][j], by simp only [O.cell]; rw [List.getElem?_eq_getElem hk]; dsimp only; rw [List.getElem?_eq_getElem (by omega)], List.all_eq_true.1 h1 _ (List.getElem_mem _)⟩
  | cells w l => cases hr
  | gone => cases hr
  | rsv => cases hr

theorem O.rows_alive {o : O} (h : o.isRows = true) : o ≠ .gone ∧ o ≠ .rsv := by cases o <;> simp_all [O.isRows]

/-- a window of a block lies in the world -/
theorem rows_lie (hh : HV G ρ hp w) {b : Nat} {r : Rg} (hr : ρ b = some r) (hp0 : r.ph = false) (hrow : (getO G hp b).isRows = true) {k n : Nat} (hn : k + n ≤ r.n) :
    ∃ us : List Value, us.length = n * r.m ∧ (∀ j u, us[j]? = some u → w.cell? ⟨r.blk, r.base + k * r.m + j, none⟩ = some u) ∧ (∀ u ∈ us, u.oneCell' = true) ∧
      ∀ k' j v, k' < n → j < r.m → (getO G hp b).cell (k + k') j = some v → ∃ u, us[k' * r.m + j]? = some u ∧ VR ρ v u := by
  obtain ⟨ha, hb⟩ := O.rows_alive hrow
  have hob := hh.blocks b r hr ha hb
  have hm := hob.m hp0
  have hlen := hob.n
  obtain ⟨us, h1, h2⟩ := list_of (p := fun j u => w.cell? ⟨r.blk, r.base + k * r.m + j, none⟩ = some u ∧ u.oneCell' = true ∧ ∀ v, (getO G hp b).cell (k + j / r.m) (j % r.m) = some v → VR ρ v u) (n * r.m) (fun j hj => by
    have hm0 : 0 < r.m := by
      rcases Nat.eq_zero_or_pos r.m with h | h
      · rw [h] at hj; simp at hj
      · exact h
    have hk' : j / r.m < n := Nat.div_lt_of_lt_mul (by rw [Nat.mul_comm]; exact hj)
    have hj' : j % r.m < r.m := Nat.mod_lt _ hm0
    obtain ⟨v, hv, hone⟩ := O.cell_ex hrow hob.wf (k := k + j / r.m) (j := j % r.m) (by omega) (by omega)
    obtain ⟨u, hu, hvu⟩ := hob.cell hp0 (k + j / r.m) (j % r.m) v (by omega) (by omega) hv
    refine ⟨u, ?_, VR.oneCell hvu hone, fun v' hv' => by rw [hv] at hv'; cases hv'; exact hvu⟩
    rw [← hu]
    congr 2
    rw [Nat.add_mul]
    have := Nat.div_add_mod j r.m
    rw [Nat.mul_comm] at this
    omega)
  refine ⟨us, h1, fun j u hu => (h2 j u hu).1, fun u hu => ?_, fun k' j v hk' hj hv => ?_⟩
  · obtain ⟨j, hj⟩ := List.getElem?_of_mem hu
    exact (h2 j u hj).2.1
  obtain ⟨x, hx⟩ : ∃ x, x = k' * r.m + j := ⟨_, rfl⟩
  have hd : x / r.m = k' ∧ x % r.m = j := by
    rw [hx, Nat.mul_comm k' r.m, Nat.mul_add_div (by omega), Nat.mul_add_mod, Nat.div_eq_of_lt hj, Nat.mod_eq_of_lt hj]
    exact ⟨rfl, rfl⟩
  rw [← hx]
  have hlt : x < us.length := by
    rw [h1]
    have : (k' + 1) * r.m ≤ n * r.m := Nat.mul_le_mul_right _ hk'
    rw [Nat.add_mul] at this
    omega
  refine ⟨us[x], List.getElem?_eq_getElem hlt, ?_⟩
  have := (h2 _ _ (List.getElem?_eq_getElem hlt)).2.2 v
  rw [hd.1, hd.2] at this
  exact this hv

theorem win_cell {o : O} {ww : Bool} {k n : Nat} (hr : o.isRows = true) (hn : k + n ≤ o.len) : (o.win ww k n).len = n ∧ (o.win ww k n).wid = o.wid ∧ (o.win ww k n).own = ww ∧ (o.win ww k n).isRows = true ∧ (o.wf → (o.win ww k n).wf) ∧
    ∀ k' j v, k' < n → (o.win ww k n).cell k' j = some v → o.cell (k + k') j = some v := by
  have hg : ∀ {α : Type} (l : List α) (d : α) (i : Nat), i < n → ((l.drop k).take n).getD i d = l.getD (k + i) d := by
    intro α l d i h
    simp [List.getD, h, List.getElem?_drop]
  cases o with
  | ints w kd zs =>
    simp only [O.len] at hn
    refine ⟨by simp only [O.win, O.len, List.length_take, List.length_drop]; omega, rfl, rfl, rfl, fun _ => trivial, fun k' j v hk hc => ?_⟩
    cases j with
    | zero => simp only [O.win, O.cell, Option.some.injEq] at hc ⊢; rw [← hc, hg _ _ _ hk]
    | succ j => simp [O.win, O.cell] at hc
  | rows w ks rs =>
    simp only [O.len] at hn
    refine ⟨by simp only [O.win, O.len, List.length_take, List.length_drop]; omega, rfl, rfl, rfl, fun h r hr => h r (List.mem_of_mem_drop (List.mem_of_mem_take hr)), fun k' j v hk hc => ?_⟩
    simp only [O.win, O.cell] at hc ⊢
    split at hc
    · simp only [Option.some.injEq] at hc ⊢; rw [← hc, hg _ _ _ hk]
    · cases hc
  | vals w m rs =>
    simp only [O.len] at hn
    refine ⟨by simp only [O.win, O.len, List.length_take, List.length_drop]; omega, rfl, rfl, rfl, fun h r hr => h r (List.mem_of_mem_drop (List.mem_of_mem_take hr)), fun k' j v hk hc => ?_⟩
    simp only [O.win, O.cell] at hc ⊢
    rw [List.getElem?_take, if_pos hk, List.getElem?_drop] at hc
    exact hc
  | cells w l => cases hr
  | gone => cases hr
  | rsv => cases hr

theorem cat_cell {o x y : O} (h : catO x y = some o) : o.len = x.len + y.len ∧ o.wid = x.wid ∧ y.wid = x.wid ∧ o.own = true ∧ o ≠ .gone ∧ o ≠ .rsv ∧ (x.wf → y.wf → o.wf) ∧ x.isRows = true ∧ y.isRows = true ∧
    ∀ k j v, k < o.len → o.cell k j = some v → (k < x.len ∧ x.cell k j = some v) ∨ (x.len ≤ k ∧ y.cell (k - x.len) j = some v) := by
  have hg : ∀ {α : Type} (l r : List α) (d : α) (i : Nat), (i < l.length → (l ++ r).getD i d = l.getD i d) ∧ (l.length ≤ i → (l ++ r).getD i d = r.getD (i - l.length) d) := by
    intro α l r d i
    exact ⟨fun h => by simp [List.getD, List.getElem?_append_left h], fun h => by simp [List.getD, List.getElem?_append_right h]⟩
  unfold catO at h
  split at h
  · split at h
    · rename_i k zs w' k' ys bb hk
      obtain rfl := of_decide_eq_true hk
      cases h
      refine ⟨by simp [O.len], rfl, rfl, rfl, by simp, by simp, fun _ _ => trivial, rfl, rfl, fun i j v hi hc => ?_⟩
      cases j with
      | succ j => simp [O.cell] at hc
      | zero =>
        simp only [O.cell, Option.some.injEq, O.len] at hc ⊢
        by_cases h : i < zs.length
        · exact .inl ⟨h, by rw [← hc, (hg zs ys 0 i).1 h]⟩
        · exact .inr ⟨by omega, by rw [← hc, (hg zs ys 0 i).2 (by omega)]⟩
    · cases h
  · split at h
    · rename_i ks rs w' ks' ys bb hk
      obtain rfl := of_decide_eq_true hk
      cases h
      refine ⟨by simp [O.len], rfl, rfl, rfl, by simp, by simp, fun hx hy r hr => (List.mem_append.1 hr).elim (hx r) (hy r), rfl, rfl, fun i j v hi hc => ?_⟩
      simp only [O.cell, O.len] at hc ⊢
      split at hc
      · simp only [Option.some.injEq] at hc ⊢
        by_cases h : i < rs.length
        · exact .inl ⟨h, by rw [← hc, (hg rs ys [] i).1 h]⟩
        · exact .inr ⟨by omega, by rw [← hc, (hg rs ys [] i).2 (by omega)]⟩
      · cases hc
    · cases h
  · split at h
    · rename_i m rs w' m' ys bb hk
      obtain rfl := Nat.eq_of_beq_eq_true hk
      cases h
      refine ⟨by simp [O.len], rfl, rfl, rfl, by simp, by simp, fun hx hy r hr => (List.mem_append.1 hr).elim (hx r) (hy r), rfl, rfl, fun i j v hi hc => ?_⟩
      simp only [O.cell, O.len] at hc ⊢
      by_cases h : i < rs.length
      · rw [List.getElem?_append_left h] at hc; exact .inl ⟨h, hc⟩
      · rw [List.getElem?_append_right (by omega)] at hc; exact .inr ⟨by omega, hc⟩
    · cases h
  · cases h

/-- a block that append made -/
theorem OR.grown {ρ : Ren} {o : O} (h1 : o ≠ .gone) (h2 : o ≠ .rsv) (hwf : o.wf) {us : List Value} {z : Array Value} {m cp : Nat} (e : TypeId) (hm : o.wid = m) (hl : us.length = o.len * m) (hcp : o.len ≤ cp) (hmax : cp ≤ maxLen) (hz : z.size = m)
    (hc : ∀ k j v, k < o.len → j < m → o.cell k j = some v → ∃ u, us[k * m + j]? = some u ∧ VR ρ v u) (w : World) :
    OR ρ o { blk := w.heap.size, base := 0, m := m, n := o.len, cp := cp, ph := false } (w.drew.alloc (.cells (us.toArray ++ Builtin.zeroCells z (cp - o.len)) e)) where
  alive := h1
  nrsv := h2
  wf := hwf
  n := rfl
  ph0 := fun e => by cases e
  lt := fun _ => by simp
  m := fun _ => hm.symm
  cp := fun _ => hcp
  cell := fun _ k j v hk hj hv => by
    rw [hm] at hj
    obtain ⟨u, hu, hvu⟩ := hc k j v hk hj hv
    refine ⟨u, ?_, hvu⟩
    dsimp only
    rw [Nat.zero_add]
    have := World.cell?_alloc_new w.drew (us.toArray ++ Builtin.zeroCells z (cp - o.len)) e (k * m + j)
    have hs : w.drew.heap.size = w.heap.size := rfl
    rw [hs] at this
    rw [this]
    have hlt := (List.getElem?_eq_some_iff.1 hu).1
    rw [Array.getElem?_append_left (by simpa using hlt)]
    simpa using hu
  own := fun _ _ => ⟨rfl, hmax, _, e, heap_alloc_new w.drew _, by
    simp only [Array.size_append, List.size_toArray, size_zeroCells, hz, hl]
    rw [← Nat.add_mul]
    congr 1
    omega⟩

theorem below_drew_alloc {B : Nat} {w : World} (hB : B ≤ w.heap.size) (o : Obj) : RowKit.Below B w (w.drew.alloc o) :=
  ⟨rfl, rfl, rfl, by simp, fun k hk => heap_alloc_old w.drew o (by show k < w.heap.size; omega)⟩

theorem keeps_drew_alloc (w : World) (o : Obj) : KeepsOthers w (w.drew.alloc o) :=
  ⟨by simp, fun k ob hk _ => (heap_alloc_old w.drew o (Array.getElem?_eq_some_iff.1 hk).1).trans hk⟩

def AppOk (E : Env) (P : Program) (B : Nat) (ρ : Ren) (hp : List O) (w : World) (old : Option Nat) (ob : O) (s : Sem Value) : Prop :=
  ∃ u w' r, s.run P w = .ok u w' ∧ RowKit.Below B w w' ∧ KeepsOthers w w' ∧ HR E.G B (ρ.add hp.length r) (killO hp old ++ [ob]) w' ∧ ρ.le (ρ.add hp.length r) ∧ VR (ρ.add hp.length r) (.sl hp.length 0 ob.len none) u

theorem killO_len (hp : List O) (old : Option Nat) : (killO hp old).length = hp.length := by cases old <;> simp [killO]

theorem HR.killO (hh : HR G B ρ hp w) {old : Option Nat} (h : ∀ b, old = some b → b < gbase) : HR G B ρ (Ab.killO hp old) w := by
  cases old with
  | none => exact hh
  | some b => exact hh.kill (h b rfl)

/-- nothing is there yet, and nothing comes -/
theorem app_none (hh : HR E.G B ρ hp w) {old : Option Nat} (hold : ∀ b, old = some b → b < gbase) {ob : O} (h1 : ob ≠ .gone) (h2 : ob ≠ .rsv) (hwf : ob.wf) (h0 : ob.len = 0) (hsm : hp.length + 1 < gbase) {s : Sem Value} (hs : s.run P w = .ok (.slice none 0 0) w) : AppOk E P B ρ hp w old ob s := by
  have hk := hh.killO hold
  obtain ⟨h3, h4⟩ := hk.extend2 (w' := w) (r := { blk := 0, base := 0, m := 0, n := 0, cp := 0, ph := true }) (o := ob) (Nat.le_refl _) (fun _ _ _ _ _ => rfl)
    ⟨h1, h2, hwf, h0.symm, fun _ => rfl, fun e => (by cases e), fun e => (by cases e), fun e => (by cases e), fun e => (by cases e), fun _ e => (by cases e)⟩ (fun _ e => (by cases e)) (fun e => (by cases e)) (by rw [killO_len]; exact hsm)
  rw [killO_len] at h3 h4
  refine ⟨_, w, _, hs, ⟨rfl, rfl, rfl, Nat.le_refl _, fun _ _ => rfl⟩, KeepsOthers.refl w, h3, h4, _, Ren.add_same _ _ _, by simp [h0], fun _ => ⟨h0, rfl⟩, fun e => (by cases e)⟩

/-- a new block -/
theorem app_new (hh : HR E.G B ρ hp w) (hB : B ≤ w.heap.size) {old : Option Nat} (hold : ∀ b, old = some b → b < gbase) {ob : O} (h1 : ob ≠ .gone) (h2 : ob ≠ .rsv) (hwf : ob.wf) (_hown : ob.own = true) (hsm : hp.length + 1 < gbase) {us : List Value} {z : Array Value} {m oc : Nat} (e : TypeId)
    (hm : ob.wid = m) (hl : us.length = ob.len * m) (hmax : ob.len ≤ maxLen) (hz : z.size = m)
    (hc : ∀ k j v, k < ob.len → j < m → ob.cell k j = some v → ∃ u, us[k * m + j]? = some u ∧ VR ρ v u) {s : Sem Value}
    (hs : s.run P w = .ok (.slice (some ⟨w.heap.size, 0, none⟩) ob.len (grownCap w ob.len oc e)) (w.drew.alloc (.cells (us.toArray ++ Builtin.zeroCells z (grownCap w ob.len oc e - ob.len)) e))) : AppOk E P B ρ hp w old ob s := by
  have hk := hh.killO hold
  have hfree : ρ hp.length = none := hh.free _ (Nat.le_refl _) (by omega)
  have hge := grownCap_ge w ob.len oc e
  have hcm := grownCap_le_maxLen w ob.len oc e hmax
  have hOR := OR.grown (ρ := ρ.add hp.length { blk := w.heap.size, base := 0, m := m, n := ob.len, cp := grownCap w ob.len oc e, ph := false }) h1 h2 hwf e hm hl hge hcm hz (fun k j v hk hj hv => let ⟨u, hu, hvu⟩ := hc k j v hk hj hv; ⟨u, hu, VR.mono (Ren.le_add hfree _) _ _ hvu⟩) w
  obtain ⟨h3, h4⟩ := hk.extend2 (o := ob) (r := { blk := w.heap.size, base := 0, m := m, n := ob.len, cp := grownCap w ob.len oc e, ph := false }) (w' := w.drew.alloc (.cells (us.toArray ++ Builtin.zeroCells z (grownCap w ob.len oc e - ob.len)) e)) (by simp)
    (fun b x hx hal hp0 => heap_alloc_old w.drew _ ((hk.blocks b x hx hal).lt hp0)) (by rw [killO_len]; exact hOR) (fun _ _ => hB) (fun _ b x hx hal hp0 => Nat.ne_of_lt ((hk.blocks b x hx hal).lt hp0)) (by rw [killO_len]; exact hsm)
  rw [killO_len] at h3 h4
  exact ⟨_, _, _, hs, below_drew_alloc hB _, keeps_drew_alloc w _, h3, h4, _, Ren.add_same _ _ _, by simp, fun e => (by cases e), fun _ => ⟨by simpa using hge, ⟨w.heap.size, 0, none⟩, by simp, fun _ => by simp⟩⟩

theorem appX_ok (hE : E.Ok P) (hh : HR E.G B ρ hp w) (hB : B ≤ w.heap.size) {t : TypeId} {sv xv : V} {s x : Value} (hsv : VR ρ sv s) (hxv : VR ρ xv x) {old : Option Nat} {c : Bool} {ob : O} (h : appX E hp t sv xv = .app old c ob) (hc : c = true) (hsm : hp.length + 1 < gbase) (ty : TypeId) :
    AppOk E P B ρ hp w old ob (Builtin.append_ #[t, t] ty #[s, x]) := by
  unfold appX at h
  split at h
  · rename_i T hT
    have hu := (hE.ty t T hT).und
    split at h
    · rename_i e hk
      rw [hk] at hu
      dsimp only at hu
      split at h
      · rename_i Te hTe
        obtain ⟨i, z, hi, hisz, hiby, hz, hzero⟩ := (hE.ty e Te hTe).info
        split at h
        · rename_i b2 k2 len2 cap2
          obtain ⟨r2, hr2, hkl2, hph2, hnp2⟩ := hxv
          split at h
          · rename_i hb
            simp only [Bool.and_eq_true] at hb
            obtain ⟨⟨⟨hrow2, hb2⟩, hb3⟩, hb4⟩ := hb
            have hb2 := Nat.eq_of_beq_eq_true hb2
            have hsz1 := Nat.le_of_ble_eq_true hb3
            have hby1 := Nat.le_of_ble_eq_true hb4
            obtain ⟨ha2, hn2⟩ := O.rows_alive hrow2
            have hob2 := hh.hv.blocks b2 r2 hr2 ha2 hn2
            have hlen2 := hob2.n
            -- what is appended
            have hzs : z.cells.size = Te.sz := by
              have := (hzero ρ).length
              rw [(hE.ty e Te hTe).zs] at this
              simpa using this
            have hx0 : len2 = 0 → ∃ b c, x = .slice b 0 c := by
              intro h0
              subst h0
              cases hp2 : r2.ph with
              | true => exact ⟨none, 0, (hph2 hp2).2⟩
              | false => obtain ⟨ad, e, _⟩ := (hnp2 hp2).2; exact ⟨_, _, e⟩
            have hsrc : len2 ≠ 0 → ∃ (ad : Addr) (c : Nat) (news : List Value), x = .slice (some ad) len2 c ∧ news.length = len2 * Te.sz ∧ (∀ j u, news[j]? = some u → w.cell? (ad.add j) = some u) ∧ (∀ u ∈ news, u.oneCell' = true) ∧
                ∀ k' j v, k' < len2 → j < Te.sz → (getO E.G hp b2).cell (k2 + k') j = some v → ∃ u, news[k' * Te.sz + j]? = some u ∧ VR ρ v u := by
              intro h0
              have hp2 : r2.ph = false := by
                cases hp2 : r2.ph with
                | true => exact absurd (hph2 hp2).1 h0
                | false => rfl
              obtain ⟨hle, ad, hx, had⟩ := hnp2 hp2
              have hm := hob2.m hp2
              obtain ⟨us, h1, h2, h3, h4⟩ := rows_lie hh.hv hr2 hp2 hrow2 hkl2
              have hms : r2.m = Te.sz := by omega
              rw [hms] at h1 h4
              refine ⟨ad, _, us, hx, h1, fun j u hu => ?_, h3, h4⟩
              rw [had (by omega), Addr.add_lit]
              exact h2 j u hu
            have hmaxb : ∀ n, n * Te.by_ ≤ 140737488355328 → n ≤ 140737488355328 := fun n hn => Nat.le_trans (Nat.le_mul_of_pos_right _ hby1) hn
            obtain ⟨w1, w2, w3, w4, w5, w6⟩ := win_cell (ww := true) (k := k2) (n := len2) hrow2 (by omega)
            obtain ⟨v1, v2, v3, v4, v5, v6⟩ := win_cell (ww := false) (k := k2) (n := len2) hrow2 (by omega)
            -- onto nothing
            have onto : ∀ (old : Option Nat) (ob : O), (∀ b, old = some b → b < gbase) → ob ≠ .gone → ob ≠ .rsv → ob.wf → ob.own = true → ob.len = len2 → ob.wid = Te.sz → len2 * Te.by_ ≤ 140737488355328 →
                (∀ k j v, k < len2 → j < Te.sz → ob.cell k j = some v → (getO E.G hp b2).cell (k2 + k) j = some v) → s = .slice none 0 0 → AppOk E P B ρ hp w old ob (Builtin.append_ #[t, t] ty #[s, x]) := by
              intro old ob ho1 ho2 ho3 ho4 ho5 ho6 ho7 hbb hcl hs
              subst hs
              by_cases h0 : len2 = 0
              · obtain ⟨bb, cc, rfl⟩ := hx0 h0
                exact app_none hh ho1 ho2 ho3 ho4 (by omega) hsm (run_app_nothing (P := P) (w := w) t ty e i hu hi none 0 0 (Nat.le_refl _) bb cc)
              · obtain ⟨ad, cc, news, rfl, n1, n2, n3, n4⟩ := hsrc h0
                have hfit := hmaxb _ hbb
                have hrun := run_append_nil (P := P) w t ty e i z hu hi hz ad len2 cc news (by rw [hisz]; exact n1) n2 (by omega) (by omega) (by rw [hiby]; omega)
                rw [← ho6] at hrun
                exact app_new hh hB ho1 ho2 ho3 ho4 ho5 hsm e ho7 (by rw [ho6]; exact n1) (by rw [ho6]; simp only [maxLen]; omega) hzs (fun k j v hk hj hv => n4 k j v (by omega) hj (hcl k j v (by omega) hj hv)) (by rw [ho6] at hrun ⊢; exact hrun)
            split at h
            · cases h
              have hc := of_decide_eq_true hc
              exact onto _ _ (by simp) (O.rows_alive w4).1 (O.rows_alive w4).2 (w5 hob2.wf) w3 w1 (by rw [w2]; exact hb2.symm) hc (fun k j v hk hj hv => w6 k j v hk hv) hsv
            · rename_i b len
              obtain ⟨r, hr, hkl, hph, hnp⟩ := hsv
              split at h
              · rename_i ob' hgb hown hcat
                cases h
                simp only [Bool.and_eq_true, decide_eq_true_eq] at hc
                obtain ⟨⟨hc1, hc2⟩, hc3⟩ := hc
                obtain ⟨c1, c2, c3, c4, c5, c6, c7, c8, c9, c10⟩ := cat_cell hcat
                have hgb : b < gbase := by
                  rcases Nat.lt_or_ge b gbase with h | h
                  · exact h
                  · rw [Nat.ble_eq_true_of_le h] at hgb; cases hgb
                obtain ⟨ha, hn⟩ := O.rows_alive c8
                have hob := hh.blocks b r hr ha
                have hwid : ob.wid = Te.sz := by rw [c2, ← c3, v2]; exact hb2.symm
                have hlen : ob.len = len + len2 := by rw [c1, v1, ← hc1]
                have hwf : ob.wf := c7 hob.wf (v5 hob2.wf)
                have holdb : ∀ b', some b = some b' → b' < gbase := fun b' e => by cases e; exact hgb
                cases hp0 : r.ph with
                | true =>
                  obtain ⟨e0, hs⟩ := hph hp0
                  exact onto _ _ holdb c5 c6 hwf c4 (by omega) hwid (by rw [e0, Nat.zero_add] at hc2; exact hc2) (fun k j v hk hj hv => by
                    rcases c10 k j v (by omega) hv with ⟨h1, _⟩ | ⟨_, h2⟩
                    · omega
                    · rw [← hc1, e0, Nat.sub_zero] at h2
                      exact v6 k j v hk h2) hs
                | false =>
                  obtain ⟨hle, ad, rfl, had⟩ := hnp hp0
                  simp only [Option.getD_none, Nat.sub_zero] at hle had
                  obtain ⟨hb0, hcpm, cs, e0, hheap, hcs⟩ := hob.own hown hp0
                  have hm := hob.m hp0
                  have hmsz : r.m = Te.sz := by rw [hm, ← c3, v2]; exact hb2.symm
                  have hrn := hob.n
                  obtain ⟨olds, o1, o2, o3, o4⟩ := rows_lie (n := len) (k := 0) hh.hv hr hp0 c8 (by omega)
                  rw [hmsz] at o1 o4
                  have hadr : len ≠ 0 ∨ r.cp ≠ 0 → ad = ⟨r.blk, 0, none⟩ := fun h => by rw [had (by omega), hb0]; simp
                  have oldat : ∀ j u, olds[j]? = some u → w.cell? (ad.add j) = some u := fun j u hu => by
                    have hlt := (List.getElem?_eq_some_iff.1 hu).1
                    have hl0 : len ≠ 0 := by intro e; rw [e] at o1; simp at o1; rw [o1] at hlt; simp at hlt
                    rw [hadr (.inl hl0), Addr.add_lit]
                    have := o2 j u hu
                    rw [hb0] at this
                    simpa using this
                  -- the block stays where it is
                  have stay : ∀ (w' : World) (s : Sem Value), s.run P w = .ok (.slice (some ad) ob.len r.cp) w' → RowKit.Below B w w' → KeepsOthers w w' → (∀ k, k ≠ r.blk → w'.heap[k]? = w.heap[k]?) → ob.len ≤ r.cp →
                      (∀ k j v, k < ob.len → j < r.m → ob.cell k j = some v → ∃ u, w'.cell? ⟨r.blk, k * r.m + j, none⟩ = some u ∧ VR ρ v u) → (∃ cs' e', w'.heap[r.blk]? = some (.cells cs' e' (0, 0)) ∧ cs'.size = r.cp * r.m) → AppOk E P B ρ hp w (some b) ob s := by
                    intro w' s hrun hbel hko hother hlecp hcells hown'
                    have hk := hh.kill hgb
                    have hfree : ρ hp.length = none := hh.free _ (Nat.le_refl _) (by omega)
                    have hap : ∀ b' x, ρ b' = some x → getO E.G (hp.set b .gone) b' ≠ .gone → x.ph = false → x.blk ≠ r.blk := by
                      intro b' x hx hal hxp
                      have hne : b' ≠ b := by
                        rintro rfl
                        apply hal
                        rw [getO_hp hgb]
                        by_cases h : b' < hp.length
                        · simp [List.getD, h]
                        · simp [List.getD, List.getElem?_eq_none (show (hp.set b' O.gone).length ≤ b' by simp; omega)]
                      have hal' : getO E.G hp b' ≠ .gone := by
                        by_cases hg : b' < gbase
                        · rw [getO_hp hg] at hal ⊢
                          simpa [List.getD, List.getElem?_set, Ne.symm hne] using hal
                        · rw [getO_glob (by omega)] at hal ⊢; exact hal
                      exact fun e => hh.apart b b' r x hr hx hal' hp0 hxp hown (Ne.symm hne) e.symm
                    obtain ⟨h3, h4⟩ := hk.extend2 (o := ob) (w' := w') (r := { r with n := ob.len }) hbel.size (fun b' x hx hal hxp => hother _ (hap b' x hx hal hxp))
                      ⟨c5, c6, hwf, rfl, fun e => (by rw [hp0] at e; cases e), fun _ => Nat.lt_of_lt_of_le (hob.lt hp0) hbel.size, fun _ => by rw [hwid]; exact hmsz, fun _ => hlecp, fun _ k j v hk hj hv => by
                        obtain ⟨u, hu, hvu⟩ := hcells k j v hk (by omega) hv
                        refine ⟨u, ?_, VR.mono (Ren.le_add (by simpa using hfree) _) _ _ hvu⟩
                        dsimp only
                        rw [hb0, Nat.zero_add]
                        exact hu, fun _ _ => ⟨hb0, hcpm, hown'⟩⟩
                      (fun _ _ => hh.base b r hr hown hp0) (fun _ => hap) (by simpa using hsm)
                    rw [List.length_set] at h3 h4
                    refine ⟨_, w', _, hrun, hbel, hko, h3, h4, _, Ren.add_same _ _ _, by simp, fun e => (by rw [hp0] at e; cases e), fun _ => ⟨by simpa using hlecp, ad, by simp, fun hne => ?_⟩⟩
                    rw [hadr (.inr (by simpa using hne)), hb0]
                    simp
                  by_cases h0 : len2 = 0
                  · obtain ⟨bb, cc, rfl⟩ := hx0 h0
                    have hl0 : ob.len = len := by omega
                    refine stay w _ (by rw [hl0]; exact run_app_nothing (P := P) (w := w) t ty e i hu hi (some ad) len r.cp hle bb cc) (RowKit.Below.refl _ _) (KeepsOthers.refl w) (fun _ _ => rfl) (by omega) (fun k j v hk hj hv => ?_) ⟨cs, e0, hheap, hcs⟩
                    rcases c10 k j v hk hv with ⟨h1, h2⟩ | ⟨h1, _⟩
                    · obtain ⟨u, hu, hvu⟩ := hob.cell hp0 k j v h1 (by omega) h2
                      rw [hb0, Nat.zero_add] at hu
                      exact ⟨u, hu, hvu⟩
                    · omega
                  · obtain ⟨ad2, cc, news, rfl, n1, n2, n3, n4⟩ := hsrc h0
                    have hfit := hmaxb _ hc2
                    have hcont : ∀ k j v, k < ob.len → j < Te.sz → ob.cell k j = some v → ∃ u, (olds ++ news)[k * Te.sz + j]? = some u ∧ VR ρ v u := by
                      intro k j v hk hj hv
                      rcases c10 k j v hk hv with ⟨h1, h2⟩ | ⟨h1, h2⟩
                      · obtain ⟨u, hu, hvu⟩ := o4 k j v (by omega) hj (by rw [Nat.zero_add]; exact h2)
                        exact ⟨u, by rw [List.getElem?_append_left (List.getElem?_eq_some_iff.1 hu).1]; exact hu, hvu⟩
                      · rw [← hc1] at h1 h2
                        obtain ⟨u, hu, hvu⟩ := n4 (k - len) j v (by omega) hj (v6 _ _ _ (by omega) h2)
                        refine ⟨u, ?_, hvu⟩
                        have hsp : k * Te.sz + j = len * Te.sz + ((k - len) * Te.sz + j) := by
                          have : k = len + (k - len) := by omega
                          rw [this, Nat.add_mul]
                          simp only [Nat.add_sub_cancel_left]
                          omega
                        rw [hsp, ← o1, List.getElem?_append_right (by omega), Nat.add_sub_cancel_left]
                        exact hu
                    by_cases hroom : len + len2 ≤ r.cp
                    · have hadr2 := hadr (.inr (by omega))
                      subst hadr2
                      have hfit2 : len * Te.sz + news.length ≤ cs.size := by rw [n1, hcs, ← Nat.add_mul, hmsz]; exact Nat.mul_le_mul_right _ hroom
                      have hrun := run_app_room (P := P) t ty e i hu hi r.blk len r.cp cs e0 hheap ad2 len2 cc news (by rw [hisz]; exact n1) n2 n3 hroom (by rw [hisz]; exact hfit2)
                      rw [← hlen, hisz] at hrun
                      have hnewrow := setRow_heap w r.blk cs (cs.toList.take (len * Te.sz) ++ news ++ cs.toList.drop (len * Te.sz + news.length)).toArray e0 (0, 0) hheap
                      have htake : cs.toList.take (len * Te.sz) = olds := by
                        apply List.ext_getElem?
                        intro j
                        by_cases hj : j < len * Te.sz
                        · rw [List.getElem?_take, if_pos hj]
                          have hlt : j < olds.length := by omega
                          have h1 := o2 j olds[j] (List.getElem?_eq_getElem hlt)
                          rw [hb0, Nat.zero_add, Nat.zero_mul, Nat.zero_add, cell_of_row w r.blk j cs e0 (0, 0) hheap] at h1
                          rw [List.getElem?_eq_getElem hlt]
                          simpa using h1
                        · rw [List.getElem?_take, if_neg hj, List.getElem?_eq_none (by omega)]
                      refine stay _ _ hrun ?_ ?_ (fun k hk => setRow_other w r.blk k _ hk) (by omega) (fun k j v hk hj hv => ?_) ⟨_, e0, hnewrow, ?_⟩
                      · exact ⟨rfl, rfl, rfl, by simp, fun k hk => setRow_other w r.blk k _ (by have := hh.base b r hr hown hp0; omega)⟩
                      · refine ⟨by simp, fun k obk hk hobk => ?_⟩
                        by_cases e1 : k = r.blk
                        · subst e1; rw [hheap] at hk; cases hk; simp [Obj.isCells] at hobk
                        · exact (setRow_other w r.blk k _ e1).trans hk
                      · rw [hmsz] at hj ⊢
                        obtain ⟨u, hu, hvu⟩ := hcont k j v hk hj hv
                        refine ⟨u, ?_, hvu⟩
                        rw [cell_of_row _ r.blk _ _ e0 (0, 0) hnewrow, htake]
                        rw [List.getElem?_toArray, List.getElem?_append_left (List.getElem?_eq_some_iff.1 hu).1]
                        exact hu
                      · simp only [List.size_toArray, List.length_append, List.length_take, List.length_drop, Array.length_toList]
                        omega
                    · have hrun := run_append_grow (P := P) w t ty e i z hu hi hz ad len r.cp olds (by rw [hisz]; exact o1) oldat ad2 len2 cc news (by rw [hisz]; exact n1) n2 (by omega) (by omega) (growslice_fits (by omega) (by rw [hiby]; exact hc2))
                      have hrun' : (Builtin.append_ #[t, t] ty #[.slice (some ad) len r.cp, .slice (some ad2) len2 cc]).run P w = .ok (.slice (some ⟨w.heap.size, 0, none⟩) ob.len (grownCap w ob.len r.cp e)) (w.drew.alloc (.cells ((olds ++ news).toArray ++ Builtin.zeroCells z.cells (grownCap w ob.len r.cp e - ob.len)) e)) := by
                        rw [hlen, hrun]
                        simp
                      exact app_new hh hB holdb c5 c6 hwf c4 hsm e hwid (by rw [List.length_append, o1, n1, hlen, Nat.add_mul]) (by rw [hlen]; simp only [maxLen]; omega) hzs hcont hrun'
              · cases h
            · cases h
          · cases h
        · cases h
      · cases h
    · cases h
  · cases h


theorem evOp_app (hE : E.Ok P) (hh : HR E.G B ρ hp w) (ht : TR ρ tm a) (hB : B ≤ w.heap.size) {o : Oper} {old : Option Nat} {c : Bool} {ob : O} (h : evOp E tm hp o.op = .app old c ob) (hc : c = true) (hsm : hp.length + 1 < gbase) :
    ∃ u w' r, (execOp a.eval o).run P w = .ok (.value u) w' ∧ RowKit.Below B w w' ∧ KeepsOthers w w' ∧ HR E.G B (ρ.add hp.length r) (killO hp old ++ [ob]) w' ∧ ρ.le (ρ.add hp.length r) ∧ VR (ρ.add hp.length r) (.sl hp.length 0 ob.len none) u := by
  have hev := fun x => evA_ok (w := w) ht hh.hv x
  obtain ⟨dst, op, ty, pos, after, guard⟩ := o
  dsimp only at h
  unfold evOp at h
  split at h
  case h_1 | h_2 => cases h
  case h_3 => unfold pickV at h; (repeat' split at h) <;> cases h
  case h_10 =>
    (repeat' split at h) <;> first | cases h | exact (nv_bin h rfl).elim | skip
    · unfold shf at h; split at h <;> cases h
    · unfold bin at h; split at h <;> cases h
  case h_16 cl =>
    split at h
    · cases h
    · (repeat' split at h) <;> cases h
    · rename_i hcal
      split at h
      · rename_i s x t t' hx ht'
        split at h
        · rename_i htt
          obtain rfl := Nat.eq_of_beq_eq_true htt
          have hargs : cl.args = #[s, x] := by cases cl with | mk c as ts => exact Array.toList_inj.1 hx
          have htys : cl.argTypes = #[t, t] := by cases cl with | mk c as ts => exact Array.toList_inj.1 ht'
          obtain ⟨u, w', r, hrun, rest⟩ := appX_ok (P := P) hE hh hB (hev s) (hev x) h hc hsm ty
          refine ⟨u, w', r, ?_, rest⟩
          simp [execOp, resolve, hcal, hargs, htys, invoke, builtin, hrun]
        · cases h
      · cases h
    all_goals ((repeat' split at h) <;> first | cases h | exact (nv_max h rfl).elim)
  all_goals ((repeat' split at h) <;> first | cases h | exact (nv_sl h rfl).elim)

end
end Go.Ab
