/- An evaluator of the model on values that are partly known, and its soundness (part AbFn); no condition. -/
import Derived.Test.YtjckbgodcefogaaDoorAbSound2
namespace Go.Ab
open Go.RowKit

variable {E : Env} {G : List O} {P : Program}

/-- a contract of a pure function: blocks H of the arguments; value v, new blocks N -/
def FnSound (G : List O) (P : Program) (f : FuncId) (args : List V) (H : List O) (v : V) (N : List O) : Prop :=
  ∀ ρ us w, HR G w.heap.size ρ H w → VRL ρ args us → Calls P f us.toArray w fun e w' => ∃ u ρ', e = .returned u ∧ VR ρ' v u ∧ HR G w.heap.size ρ' (H ++ N) w' ∧ ρ.le ρ' ∧ Below w.heap.size w w'

def Entered (P : Program) (f : FuncId) : Prop := ∃ fn, P.funcs[f]? = some fn ∧ (fn.name == "runtime.NumGoroutine") = false ∧ fn.body.isSome = true

structure Env.Fn (E : Env) (P : Program) : Prop where
  ok : E.Ok P
  mixed : P.follows .mixedOrders = true
  pf : ∀ f a h c v N, E.pf f a h = some (c, v, N) → c = true → Entered P f ∧ FnSound E.G P f a h v N
  inl : ∀ f fn, assoc E.inl f = some fn → P.funcs[f]? = some fn ∧ (fn.name == "runtime.NumGoroutine") = false

section
variable {B : Nat} {w0 : World} {S : Nat} {N : Nat} {D : List Deferred} {gs : List (Nat × Obj)} {ρ : Ren} {tm : Tm} {hp : List O} {a : Act} {w : World}

/-! #### Canonical arguments -/

/-- no block is the call's own: nothing is asked apart -/
theorem HR.view (hh : HR G B ρ hp w) {o : O} {r : Rg} (hr : OR (ρ.add hp.length r) o r w) (ho : o.own = false) (hnone : ∀ b, (getO G hp b).own = false) (hsm : hp.length + 1 < gbase) :
    HR G B (ρ.add hp.length r) (hp ++ [o]) w ∧ ρ.le (ρ.add hp.length r) ∧ ∀ b, (getO G (hp ++ [o]) b).own = false := by
  obtain ⟨h1, h2⟩ := hh.extend (w' := w) (r := r) (Nat.le_refl _) (fun _ _ => rfl) hr (fun e => by rw [ho] at e; cases e) (fun e => by rw [ho] at e; cases e) (fun _ b x _ e => by rw [hnone b] at e; cases e) hsm
  refine ⟨h1, h2, fun b => ?_⟩
  by_cases hb : b < gbase
  · rw [getO_hp hb]
    by_cases e : b < hp.length
    · rw [getD_append_lt e]; have := hnone b; rwa [getO_hp hb] at this
    · by_cases e2 : b = hp.length
      · subst e2; rw [getD_append_eq]; exact ho
      · have : (hp ++ [o]).getD b .gone = .gone := by simp [List.getD, List.getElem?_eq_none (show (hp ++ [o]).length ≤ b by simp; omega)]
        rw [this]; rfl
  · have := hnone b
    rw [getO_glob (by omega)] at this ⊢
    exact this

theorem OR.window {o o' : O} {r : Rg} (ho : OR ρ o r w) {k len cp : Nat} (hkl : k + len ≤ r.n) (hcp : r.ph = false → len ≤ cp) (hph : r.ph = true → len = 0) (hal : o' ≠ .gone) (hnr : o' ≠ .rsv) (hwf : o'.wf) (hlen : o'.len = len) (hwid : o'.wid = o.wid) (hown : o'.own = false)
    (hcell : ∀ k' j v, k' < len → o'.cell k' j = some v → o.cell (k + k') j = some v) (ρ' : Ren) (hv : ∀ k' j v u, o'.cell k' j = some v → VR ρ v u → VR ρ' v u) :
    OR ρ' o' { blk := r.blk, base := r.base + k * r.m, m := r.m, n := len, cp := cp, ph := r.ph } w where
  alive := hal
  nrsv := hnr
  wf := hwf
  n := hlen.symm
  ph0 := hph
  lt := ho.lt
  m := fun hp => by rw [hwid]; exact ho.m hp
  cp := hcp
  cell := fun hp k' j v hk hj hc => by
    have hn := ho.n
    obtain ⟨u, hu, hvu⟩ := ho.cell hp (k + k') j v (by omega) (by omega) (hcell k' j v (by omega) hc)
    refine ⟨u, ?_, hv k' j v u hc hvu⟩
    rw [← hu]
    congr 2
    simp only [Nat.add_mul]
    omega
  own := fun e => by rw [hown] at e; cases e

theorem getD_window {α : Type} (l : List α) (d : α) {k len i : Nat} (h : i < len) : ((l.drop k).take len).getD i d = l.getD (k + i) d := by
  simp [List.getD, h, List.getElem?_drop]

/-- what a step of 'canon' keeps -/
structure CanonOk (G : List O) (B : Nat) (ρ : Ren) (acc : List O) (w : World) : Prop where
  hr : HR G B ρ acc w
  own : ∀ b, (getO G acc b).own = false

mutual
theorem canon_len : ∀ (v : V) (acc : List O) (v' : V) (acc' : List O), canon E hp v acc = some (v', acc') → acc.length ≤ acc'.length
  | .sl b k len cap, acc, v', acc', h => by
    simp only [canon] at h
    split at h
    · cases h; simp
    · cases h; simp
    · split at h
      · cases h; simp
      · cases h
    · cases h
  | .agg l, acc, v', acc', h => by
    simp only [canon] at h
    split at h
    · rename_i l' a' h'; cases h; exact canonL_len l acc _ _ h'
    · cases h
  | .lit _, _, _, _, h => by cases h; exact Nat.le_refl _
  | .bool _, _, _, _, h => by cases h; exact Nat.le_refl _
  | .int _ _, _, _, _, h => by cases h; exact Nat.le_refl _
  | .str _, _, _, _, h => by cases h; exact Nat.le_refl _
  | .nils, _, _, _, h => by cases h; exact Nat.le_refl _
  | .ptr _ _ _, _, _, _, h => by cases h
  | .nilp, _, _, _, h => by cases h
  | .fn f l, acc, v', acc', h => by
    simp only [canon] at h
    split at h
    · rename_i l' a' h'; cases h; exact canonL_len l acc _ _ h'
    · cases h
  | .nilf, _, _, _, h => by cases h
  | .yl _, _, _, _, h => by cases h
  | .tup _, _, _, _, h => by cases h
  | .nili, _, _, _, h => by cases h
  | .when _ _, _, _, _, h => by cases h
  | .junk, _, _, _, h => by cases h
theorem canonL_len : ∀ (l : List V) (acc : List O) (l' : List V) (acc' : List O), canonL E hp l acc = some (l', acc') → acc.length ≤ acc'.length
  | [], _, _, _, h => by cases h; exact Nat.le_refl _
  | v :: l, acc, l', acc', h => by
    simp only [canonL] at h
    split at h
    · rename_i v1 a1 h1
      split at h
      · rename_i l2 a2 h2; cases h; exact Nat.le_trans (canon_len v acc _ _ h1) (canonL_len l _ _ _ h2)
      · cases h
    · cases h
end

mutual
theorem canon_ok (hh : HR E.G B ρ hp w) {C : Nat} : ∀ (v : V) (acc : List O) (v' : V) (acc' : List O) (ρ0 : Ren) (u : Value), canon E hp v acc = some (v', acc') → acc'.length < gbase → VR ρ v u → CanonOk E.G C ρ0 acc w →
    ∃ ρ1, ρ0.le ρ1 ∧ CanonOk E.G C ρ1 acc' w ∧ VR ρ1 v' u
  | .sl b k len cap, acc, v', acc', ρ0, u, h, hlt, hv, hc => by
    obtain ⟨r, hr, hkl, hp1, hp2⟩ := hv
    simp only [canon] at h
    have hcp : r.ph = false → len ≤ cap.getD (r.cp - k) := fun e => (hp2 e).1
    have hph : r.ph = true → len = 0 := fun e => (hp1 e).1
    have fin : ∀ (o' : O), o'.own = false → OR (ρ0.add acc.length { blk := r.blk, base := r.base + k * r.m, m := r.m, n := len, cp := cap.getD (r.cp - k), ph := r.ph }) o' { blk := r.blk, base := r.base + k * r.m, m := r.m, n := len, cp := cap.getD (r.cp - k), ph := r.ph } w →
        acc.length + 1 < gbase → ∃ ρ1, ρ0.le ρ1 ∧ CanonOk E.G C ρ1 (acc ++ [o']) w ∧ VR ρ1 (.sl acc.length 0 len none) u := by
      intro o' hown hor hsm
      obtain ⟨h1, h2, h3⟩ := hc.hr.view hor hown hc.own hsm
      refine ⟨_, h2, ⟨h1, h3⟩, _, Ren.add_same _ _ _, by simp, fun e => hp1 e, fun e => ⟨by simpa using hcp e, ?_⟩⟩
      obtain ⟨ad, h4, h5⟩ := (hp2 e).2
      exact ⟨ad, by simpa using h4, fun hne => by rw [h5 (by simpa using hne)]; simp⟩
    split at h
    · rename_i ww kd zs ho
      cases h
      have hob := hh.blocks b r hr (by rw [ho]; simp)
      rw [ho] at hob
      have hn : r.n = zs.length := hob.n
      refine fin _ rfl (hob.window (o' := .ints false kd ((zs.drop k).take len)) hkl hcp hph (by simp) (by simp) trivial (by simp [O.len]; omega) rfl rfl ?_ _ ?_) (by simpa using hlt)
      · intro k' j v hk hcl
        cases j with
        | zero => simp only [O.cell, Option.some.injEq] at hcl ⊢; rw [← hcl, getD_window _ _ hk]
        | succ j => simp [O.cell] at hcl
      · intro k' j v u hcl hvu
        cases j with
        | zero => simp only [O.cell, Option.some.injEq] at hcl; subst hcl; exact hvu
        | succ j => simp [O.cell] at hcl
    · rename_i ww ks rs ho
      cases h
      have hob := hh.blocks b r hr (by rw [ho]; simp)
      rw [ho] at hob
      have hn : r.n = rs.length := hob.n
      refine fin _ rfl (hob.window (o' := .rows false ks ((rs.drop k).take len)) hkl hcp hph (by simp) (by simp) ?_ (by simp [O.len]; omega) rfl rfl ?_ _ ?_) (by simpa using hlt)
      · intro row hrow
        exact hob.wf row (List.mem_of_mem_drop (List.mem_of_mem_take hrow))
      · intro k' j v hk hcl
        simp only [O.cell] at hcl ⊢
        split at hcl
        · simp only [Option.some.injEq] at hcl ⊢; rw [← hcl, getD_window _ _ hk]
        · cases hcl
      · intro k' j v u hcl hvu
        simp only [O.cell] at hcl
        split at hcl
        · simp only [Option.some.injEq] at hcl; subst hcl; exact hvu
        · cases hcl
    · rename_i ww m rs ho
      split at h
      · rename_i hpl
        cases h
        have hob := hh.blocks b r hr (by rw [ho]; simp)
        rw [ho] at hob
        have hn : r.n = rs.length := hob.n
        refine fin _ rfl (hob.window (o' := .vals false m ((rs.drop k).take len)) hkl hcp hph (by simp) (by simp) ?_ (by simp [O.len]; omega) rfl rfl ?_ _ ?_) (by simpa using hlt)
        · intro row hrow
          exact hob.wf row (List.mem_of_mem_drop (List.mem_of_mem_take hrow))
        · intro k' j v hk hcl
          simp only [O.cell] at hcl ⊢
          rw [List.getElem?_take, if_pos hk, List.getElem?_drop] at hcl
          exact hcl
        · intro k' j v u hcl hvu
          simp only [O.cell] at hcl
          split at hcl
          · rename_i row hrow
            have h1 := List.mem_of_mem_drop (List.mem_of_mem_take (List.mem_of_getElem? hrow))
            exact VR.pl v u (plL_mem (List.all_eq_true.1 hpl _ h1) v (List.mem_of_getElem? hcl)) hvu
          · cases hcl
      · cases h
    · cases h
  | .agg l, acc, v', acc', ρ0, u, h, hlt, hv, hc => by
    simp only [canon] at h
    split at h
    · rename_i l' a' h'
      cases h
      obtain ⟨us, rfl, hus⟩ := hv
      obtain ⟨ρ1, h1, h2, h3⟩ := canonL_ok hh l acc _ _ ρ0 us h' hlt hus hc
      exact ⟨ρ1, h1, h2, us, rfl, h3⟩
    · cases h
  | .lit _, _, _, _, ρ0, _, h, _, hv, hc => by cases h; exact ⟨ρ0, Ren.le_refl _, hc, hv⟩
  | .bool _, _, _, _, ρ0, _, h, _, hv, hc => by cases h; exact ⟨ρ0, Ren.le_refl _, hc, hv⟩
  | .int _ _, _, _, _, ρ0, _, h, _, hv, hc => by cases h; exact ⟨ρ0, Ren.le_refl _, hc, hv⟩
  | .str _, _, _, _, ρ0, _, h, _, hv, hc => by cases h; exact ⟨ρ0, Ren.le_refl _, hc, hv⟩
  | .nils, _, _, _, ρ0, _, h, _, hv, hc => by cases h; exact ⟨ρ0, Ren.le_refl _, hc, hv⟩
  | .ptr _ _ _, _, _, _, _, _, h, _, _, _ => by cases h
  | .nilp, _, _, _, _, _, h, _, _, _ => by cases h
  | .fn f l, acc, v', acc', ρ0, u, h, hlt, hv, hc => by
    simp only [canon] at h
    split at h
    · rename_i l' a' h'
      cases h
      obtain ⟨us, rfl, hus⟩ := hv
      obtain ⟨ρ1, h1, h2, h3⟩ := canonL_ok hh l acc _ _ ρ0 us h' hlt hus hc
      exact ⟨ρ1, h1, h2, us, rfl, h3⟩
    · cases h
  | .nilf, _, _, _, _, _, h, _, _, _ => by cases h
  | .yl _, _, _, _, _, _, h, _, _, _ => by cases h
  | .tup _, _, _, _, _, _, h, _, _, _ => by cases h
  | .nili, _, _, _, _, _, h, _, _, _ => by cases h
  | .when _ _, _, _, _, _, _, h, _, _, _ => by cases h
  | .junk, _, _, _, _, _, h, _, _, _ => by cases h
theorem canonL_ok (hh : HR E.G B ρ hp w) {C : Nat} : ∀ (l : List V) (acc : List O) (l' : List V) (acc' : List O) (ρ0 : Ren) (us : List Value), canonL E hp l acc = some (l', acc') → acc'.length < gbase → VRL ρ l us → CanonOk E.G C ρ0 acc w →
    ∃ ρ1, ρ0.le ρ1 ∧ CanonOk E.G C ρ1 acc' w ∧ VRL ρ1 l' us
  | [], acc, _, _, ρ0, us, h, _, hv, hc => by cases h; exact ⟨ρ0, Ren.le_refl _, hc, hv⟩
  | v :: l, acc, l', acc', ρ0, us, h, hlt, hv, hc => by
    obtain ⟨u, r, rfl, hvu, hvr⟩ := hv
    simp only [canonL] at h
    split at h
    · rename_i v1 a1 h1
      split at h
      · rename_i l2 a2 h2
        cases h
        obtain ⟨ρ1, l1, c1, x1⟩ := canon_ok hh v acc _ _ ρ0 u h1 (Nat.lt_of_le_of_lt (canonL_len l _ _ _ h2) hlt) hvu hc
        obtain ⟨ρ2, l2, c2, x2⟩ := canonL_ok hh l _ _ _ ρ1 r h2 hlt hvr c1
        exact ⟨ρ2, Ren.le_trans l1 l2, c2, u, r, rfl, VR.mono l2 _ _ x1, x2⟩
      · cases h
    · cases h
end

theorem O.data_cell {o : O} (ho : o.data = true) {k j : Nat} {v : V} (h : o.cell k j = some v) : V.pl v = true := by
  cases o with
  | ints _ kd zs => cases j <;> simp [O.cell] at h; subst h; rfl
  | rows _ ks rs =>
    simp only [O.cell] at h
    split at h
    · simp only [Option.some.injEq] at h; subst h; rfl
    · cases h
  | vals _ m rs =>
    simp only [O.cell] at h
    split at h
    · rename_i r hr
      exact plL_mem (List.all_eq_true.1 ho _ (List.mem_of_getElem? hr)) v (List.mem_of_getElem? h)
    · cases h
  | _ => cases ho

theorem OR.data {o : O} (ho : o.data = true) {r : Rg} (h : OR ρ o r w) (ρ' : Ren) : OR ρ' o r w where
  alive := h.alive
  nrsv := h.nrsv
  wf := h.wf
  n := h.n
  ph0 := h.ph0
  lt := h.lt
  m := h.m
  cp := h.cp
  cell := fun hp k j v hk hj hv => by
    obtain ⟨u, hu, hr⟩ := h.cell hp k j v hk hj hv
    exact ⟨u, hu, VR.pl v u (O.data_cell ho hv) hr⟩
  own := h.own

theorem O.tab_data {o : O} (h : o.tab = true) : o.data = true ∧ o.own = false := by
  cases o with
  | ints w _ _ => cases w <;> simp_all [O.tab, O.data, O.own]
  | rows w _ _ => cases w <;> simp_all [O.tab, O.data, O.own]
  | vals w _ _ => cases w <;> simp_all [O.tab, O.data, O.own]
  | _ => simp [O.tab] at h

/-- the globals alone -/
def Ren.globs (ρ : Ren) : Ren := fun b => if gbase ≤ b then ρ b else none

theorem HR.globs (hh : HR G B ρ hp w) (C : Nat) : CanonOk G C ρ.globs [] w := by
  have hget : ∀ b, gbase ≤ b → getO G [] b = getO G hp b := fun b h => by rw [getO_glob h, getO_glob h]
  have hown : ∀ b, (getO G [] b).own = false := by
    intro b
    by_cases hb : gbase ≤ b
    · rw [getO_glob hb]
      cases hg : G[b - gbase]? with
      | none => simp [List.getD, hg, O.own]
      | some o =>
        obtain ⟨r, _, _, _, _, _, _, h⟩ := hh.glob _ o hg
        simp [List.getD, hg, (O.tab_data h).2]
    · rw [getO_hp (by omega)]; rfl
  refine ⟨⟨?_, ?_, fun b h1 => ?_, ?_, ?_, ?_, by decide⟩, hown⟩
  · intro b r hr hal
    simp only [Ren.globs] at hr
    split at hr
    · rename_i hb
      have hob := hh.blocks b r hr (by rw [← hget b hb]; exact hal)
      rw [hget b hb] at hal ⊢
      rw [getO_glob hb] at hal hob ⊢
      cases hg : G[b - gbase]? with
      | none => simp [List.getD, hg] at hal
      | some o =>
        obtain ⟨_, _, _, _, _, _, _, h⟩ := hh.glob _ o hg
        refine hob.data ?_ _
        simp [List.getD, hg, (O.tab_data h).1]
    · cases hr
  · intro b _ h2
    simp [Ren.globs, show ¬ gbase ≤ b by omega]
  · by_cases hb : gbase ≤ b
    · rw [hget b hb] at h1
      simp [Ren.globs, hb, hh.rsv b h1]
    · simp [Ren.globs, hb]
  · intro b r hr ho; rw [hown] at ho; cases ho
  · intro b b' r r' _ _ _ _ _ ho; rw [hown] at ho; cases ho
  · intro g o hg
    obtain ⟨r, h1, h2⟩ := hh.glob g o hg
    exact ⟨r, by simp [Ren.globs, h1], h2⟩

/-! #### Results handed back -/

mutual
theorem shift_ok {d0 d1 : Nat} {ρ ρ' : Ren} (hm : ∀ b r, d0 ≤ b → b < gbase → ρ b = some r → ρ' (b - d0 + d1) = some r) : ∀ (v v' : V) (u : Value), V.shift d0 d1 v = some v' → VR ρ v u → VR ρ' v' u
  | .sl b k len cap, v', u, h, hv => by
    simp only [V.shift] at h
    split at h
    · rename_i hb
      cases h
      simp only [Bool.and_eq_true] at hb
      obtain ⟨r, hr, x⟩ := hv
      exact ⟨r, hm b r (Nat.le_of_ble_eq_true hb.1) (blt_lt hb.2) hr, x⟩
    · cases h
  | .agg l, v', u, h, hv => by
    simp only [V.shift] at h
    split at h
    · rename_i l' hl; cases h; obtain ⟨us, rfl, hus⟩ := hv; exact ⟨us, rfl, shiftL_ok hm l l' us hl hus⟩
    · cases h
  | .tup l, v', u, h, hv => by
    simp only [V.shift] at h
    split at h
    · rename_i l' hl; cases h; obtain ⟨us, rfl, hus⟩ := hv; exact ⟨us, rfl, shiftL_ok hm l l' us hl hus⟩
    · cases h
  | .lit _, _, _, h, hv => by cases h; exact hv
  | .bool _, _, _, h, hv => by cases h; exact hv
  | .int _ _, _, _, h, hv => by cases h; exact hv
  | .str _, _, _, h, hv => by cases h; exact hv
  | .nils, _, _, h, hv => by cases h; exact hv
  | .ptr _ _ _, _, _, h, _ => by cases h
  | .nilp, _, _, h, _ => by cases h
  | .fn _ _, _, _, h, _ => by cases h
  | .nilf, _, _, h, _ => by cases h
  | .yl _, _, _, h, _ => by cases h
  | .nili, _, _, h, _ => by cases h
  | .when _ _, _, _, h, _ => by cases h
  | .junk, _, _, h, _ => by cases h
theorem shiftL_ok {d0 d1 : Nat} {ρ ρ' : Ren} (hm : ∀ b r, d0 ≤ b → b < gbase → ρ b = some r → ρ' (b - d0 + d1) = some r) : ∀ (l l' : List V) (us : List Value), shiftL d0 d1 l = some l' → VRL ρ l us → VRL ρ' l' us
  | [], _, _, h, hv => by cases h; exact hv
  | v :: l, l', us, h, hv => by
    obtain ⟨u, r, rfl, h1, h2⟩ := hv
    simp only [shiftL] at h
    split at h
    · rename_i v1 e1
      split at h
      · rename_i l1 e2; cases h; exact ⟨u, r, rfl, shift_ok hm v v1 u e1 h1, shiftL_ok hm l l1 r e2 h2⟩
      · cases h
    · cases h
end

/-- blocks of a callee's taken over -/
theorem HR.adopt (hh : HR G B ρ hp w) {H new : List O} {ρ' : Ren} {w' : World} (hB : B ≤ w.heap.size) (hr' : HR G w.heap.size ρ' (H ++ new) w') (hbel : Below w.heap.size w w') (hdata : new.all O.isData = true) (hsm : hp.length + new.length + 1 < gbase) (hsm2 : (H ++ new).length < gbase) :
    ∃ ρ'', HR G B ρ'' (hp ++ new) w' ∧ ρ.le ρ'' ∧ ∀ b r, H.length ≤ b → b < gbase → ρ' b = some r → ρ'' (b - H.length + hp.length) = some r := by
  have hold := hh.frame hbel.size (fun k hk => hbel.block k hk)
  have hin : ∀ i, hp.length ≤ i → i < hp.length + new.length → getO G (hp ++ new) i = new.getD (i - hp.length) .gone ∧ getO G (H ++ new) (i - hp.length + H.length) = new.getD (i - hp.length) .gone ∧ (new.getD (i - hp.length) .gone).isData = true := by
    intro i h1 h2
    rw [getO_hp (by omega), getO_hp (by simp only [List.length_append] at hsm2; omega)]
    refine ⟨by simp [List.getD, List.getElem?_append_right h1], by simp [List.getD, List.getElem?_append_right], ?_⟩
    have hlt : i - hp.length < new.length := by omega
    simp only [List.getD, List.getElem?_eq_getElem hlt, Option.getD_some]
    exact List.all_eq_true.1 hdata _ (List.getElem_mem hlt)
  have hout : ∀ i x, ρ i = some x → getO G (hp ++ new) i = getO G hp i ∧ ¬ (hp.length ≤ i ∧ i < hp.length + new.length) := by
    intro i x hx
    by_cases hi : i < gbase
    · have : i < hp.length := by
        rcases Nat.lt_or_ge i hp.length with h | h
        · exact h
        · rw [hh.free i h hi] at hx; cases hx
      refine ⟨?_, by omega⟩
      rw [getO_hp hi, getO_hp hi]
      simp [List.getD, List.getElem?_append_left this]
    · exact ⟨by rw [getO_glob (by omega), getO_glob (by omega)], by omega⟩
  let ρ2 : Ren := fun i => if hp.length ≤ i ∧ i < hp.length + new.length then ρ' (i - hp.length + H.length) else ρ i
  have hle : ρ.le ρ2 := fun i x hx => by
    show (if _ then _ else _) = _
    rw [if_neg (hout i x hx).2]; exact hx
  have hcase : ∀ i x, ρ2 i = some x → (hp.length ≤ i ∧ i < hp.length + new.length ∧ ρ' (i - hp.length + H.length) = some x) ∨ (ρ i = some x ∧ ¬ (hp.length ≤ i ∧ i < hp.length + new.length)) := by
    intro i x hx
    by_cases h : hp.length ≤ i ∧ i < hp.length + new.length
    · exact .inl ⟨h.1, h.2, by simpa only [ρ2, if_pos h] using hx⟩
    · exact .inr ⟨by simpa only [ρ2, if_neg h] using hx, h⟩
  refine ⟨ρ2, ⟨?_, ?_, fun b h1 => ?_, ?_, ?_, ?_, by simp; omega⟩, hle, ?_⟩
  · intro b r hr hal
    rcases hcase b r hr with ⟨h1, h2, h3⟩ | ⟨h1, h2⟩
    · obtain ⟨e1, e2, e3⟩ := hin b h1 h2
      have := hr'.blocks _ r h3 (by rw [e2, ← e1]; exact hal)
      rw [e2] at this
      rw [e1]
      simp only [O.isData, Bool.and_eq_true] at e3
      exact this.data e3.1 _
    · rw [(hout b r h1).1] at hal ⊢
      exact (hold.blocks b r h1 hal).mono hle
  · intro b h1 h2
    simp only [List.length_append] at h1
    show (if _ then _ else _) = _
    rw [if_neg (by omega)]
    exact hh.free b (by omega) h2
  · cases hx : ρ2 b with
    | none => rfl
    | some x =>
      rcases hcase b x hx with ⟨h2, h3, _⟩ | ⟨h2, _⟩
      · obtain ⟨e1, _, e3⟩ := hin b h2 h3
        rw [← e1, h1] at e3; cases e3
      · rw [(hout b x h2).1] at h1; rw [hh.rsv b h1] at h2; cases h2
  · intro b r hr ho hp0
    rcases hcase b r hr with ⟨h1, h2, h3⟩ | ⟨h1, h2⟩
    · obtain ⟨e1, e2, e3⟩ := hin b h1 h2
      have := hr'.base _ r h3 (by rw [e2, ← e1]; exact ho) hp0
      omega
    · rw [(hout b r h1).1] at ho
      exact hh.base b r h1 ho hp0
  · intro b b' r r' hr hr2 hal hp0 hp0' ho hne
    rcases hcase b r hr with ⟨h1, h2, h3⟩ | ⟨h1, h2⟩
    · obtain ⟨e1, e2, e3⟩ := hin b h1 h2
      have hb1 := hr'.base _ r h3 (by rw [e2, ← e1]; exact ho) hp0
      rcases hcase b' r' hr2 with ⟨h1', h2', h3'⟩ | ⟨h1', h2'⟩
      · obtain ⟨e1', e2', _⟩ := hin b' h1' h2'
        exact hr'.apart _ _ r r' h3 h3' (by rw [e2', ← e1']; exact hal) hp0 hp0' (by rw [e2, ← e1]; exact ho) (by omega)
      · rw [(hout b' r' h1').1] at hal
        have := (hh.blocks b' r' h1' hal).lt hp0'
        omega
    · rw [(hout b r h1).1] at ho
      have hl1 := (hh.blocks b r h1 (fun e => by rw [e] at ho; simp [O.own] at ho)).lt hp0
      rcases hcase b' r' hr2 with ⟨h1', h2', h3'⟩ | ⟨h1', h2'⟩
      · obtain ⟨e1', e2', e3'⟩ := hin b' h1' h2'
        simp only [O.isData, Bool.and_eq_true] at e3'
        have := hr'.base _ r' h3' (by rw [e2']; exact e3'.2) hp0'
        omega
      · rw [(hout b' r' h1').1] at hal
        exact hh.apart b b' r r' h1 h1' hal hp0 hp0' ho hne
  · intro g o hg
    obtain ⟨r, h1, h2⟩ := hh.glob g o hg
    exact ⟨r, hle _ _ h1, h2⟩
  · intro b r h1 h2 hr
    have hb : b < (H ++ new).length := by
      rcases Nat.lt_or_ge b (H ++ new).length with h | h
      · exact h
      · rw [hr'.free b h h2] at hr; cases hr
    simp only [List.length_append] at hb
    show (if _ then _ else _) = _
    rw [if_pos (by omega), show b - H.length + hp.length - hp.length + H.length = b by omega]
    exact hr

/-! #### Calls -/

theorem callFunc_run {f : FuncId} {fn : Func} (hf : P.funcs[f]? = some fn) (hn : (fn.name == "runtime.NumGoroutine") = false) (hb : fn.body.isSome = true) (args : Array Value) (w : World) :
    (callFunc f args).run P w = .ok (.enter f args) w := by
  cases hb2 : fn.body with
  | none => rw [hb2] at hb; cases hb
  | some c => simp only [callFunc, Sem.run_bind, run_program, Result.andThen_ok, hf, hn, hb2]; rfl

theorem fr_none : Fr none = Fence.wide := rfl

def resSem (tmps : Array Value) : ResultVar → Sem Value
  | .tmp t => pure (tmps.getD t undef)
  | .cell a t => do loadVar t (← asAddr (tmps.getD a undef))

theorem resultsL_ok (hE : E.Ok P) (ht : TR ρ tm a) (hh : HR E.G B ρ hp w) : ∀ (rs : List ResultVar) (l : List V), resV E tm hp rs = some l →
    ∃ us : List Value, (rs.mapM (resSem a.tmps)).run P w = .ok us w ∧ VRL ρ l us
  | [], l, h => by cases h; exact ⟨[], by simp, rfl⟩
  | .tmp t :: r, l, h => by
    simp only [resV] at h
    split at h
    · rename_i l' hl
      cases h
      obtain ⟨us, hr, hv⟩ := resultsL_ok hE ht hh r l' hl
      exact ⟨a.tmps.getD t undef :: us, by simp [hr, resSem], _, us, rfl, ht t, hv⟩
    · cases h
  | .cell x t :: r, l, h => by
    simp only [resV] at h
    split at h
    · rename_i v he
      split at h
      · rename_i l' hl
        cases h
        obtain ⟨us, hr, hv⟩ := resultsL_ok hE ht hh r l' hl
        obtain ⟨ad, u, hx, hu, hvu⟩ := loadV_ok hE hh.hv (ht x) he
        refine ⟨u :: us, ?_, u, us, rfl, hvu, hv⟩
        simp only [List.mapM_cons, Sem.run_bind, resSem, hx, asAddr, Sem.run_pure, Result.andThen_ok, hu, hr]
      · cases h
    · cases h

theorem results_ok (hE : E.Ok P) (ht : TR ρ tm a) (hh : HR E.G B ρ hp w) {fn : Func} {l : List V} (h : resV E tm hp fn.results.toList = some l) :
    ∃ u, (results fn a.tmps).run P w = .ok u w ∧ VR ρ (oneOrTup l) u := by
  obtain ⟨us, hr, hv⟩ := resultsL_ok hE ht hh _ _ h
  have hm : (fn.results.mapM (resSem a.tmps)).run P w = .ok us.toArray w := by
    rw [Array.mapM_eq_mapM_toList]
    simp [hr]
  have hres : results fn a.tmps = (do let vs ← fn.results.mapM (resSem a.tmps); pure (if h : vs.size = 1 then vs[0] else .tuple vs)) := rfl
  rw [hres, Sem.run_bind, hm, Result.andThen_ok, Sem.run_pure]
  refine ⟨_, rfl, ?_⟩
  cases l with
  | nil => cases hv; exact ⟨[], by simp, rfl⟩
  | cons v l =>
    obtain ⟨u, r, rfl, h1, h2⟩ := hv
    cases l with
    | nil => cases h2; simpa [oneOrTup] using h1
    | cons v2 l =>
      obtain ⟨u2, r2, rfl, h3, h4⟩ := h2
      rw [dif_neg (by simp)]
      exact ⟨u :: u2 :: r2, rfl, u, _, rfl, h1, u2, r2, rfl, h3, h4⟩

theorem TR.init (ρ : Ren) : ∀ (l : List V) (us : List Value) (N : Nat), VRL ρ l us → TR ρ (initTm 0 l) { tmps := us.toArray ++ Array.replicate (N - us.length) undef, defers := [] } := by
  have key : ∀ (l : List V) (us : List Value) (i t : Nat), VRL ρ l us → (∃ j v, t = i + j ∧ l[j]? = some v ∧ look (initTm i l) t = v) ∨ look (initTm i l) t = .junk := by
    intro l
    induction l with
    | nil => intro us i t _; exact .inr rfl
    | cons v l ih =>
      intro us i t h
      obtain ⟨u, r, rfl, h1, h2⟩ := h
      simp only [initTm, look_cons]
      by_cases e : i = t
      · subst e; exact .inl ⟨0, v, rfl, rfl, by simp⟩
      · rw [if_neg e]
        rcases ih r (i + 1) t h2 with ⟨j, v', hj, hv, hl⟩ | hl
        · exact .inl ⟨j + 1, v', by omega, by simpa using hv, hl⟩
        · exact .inr hl
  intro l us N h t
  rcases key l us 0 t h with ⟨j, v, hj, hv, hl⟩ | hl
  · rw [hl]
    obtain rfl : t = j := by omega
    obtain ⟨u, hu, hvu⟩ := h.get t v hv
    have : t < us.length := (List.getElem?_eq_some_iff.1 hu).1
    have he : (us.toArray ++ Array.replicate (N - us.length) undef).getD t undef = u := by
      rw [Array.getD_eq_getD_getElem?, Array.getElem?_append_left (by simpa using this)]
      simp [hu]
    rw [he]; exact hvu
  · rw [hl]; trivial

/-- the marks that loops over functions have left are taken up: nothing that matters turns -/
theorem leaves_marks {fn : Func} {tmps : Array Value} {R : Ending → World → Prop} {n : Nat} {S : Nat} : ∀ (ms : List Nat) (w : World), GsOk (ms.map marked) w → ms.Nodup → (∀ d ∈ ms, S ≤ d) →
    (∀ w', w'.heap.size = w.heap.size → w'.os = w.os → w'.tape = w.tape → w'.output = w.output → (∀ k, (∀ d ∈ ms, k ≠ d) → w'.heap[k]? = w.heap[k]?) → (∀ d ∈ ms, w'.heap[d]? = some (.deferred none)) → ∃ v, (results fn tmps).run P w' = .ok v w' ∧ R (.returned v) w') →
    LeavesInM (Fr none) n P fn tmps R (ms.map mark) .returning w
  | [], w, _, _, _, h => by
    obtain ⟨v, h1, h2⟩ := h w rfl rfl rfl rfl (fun _ _ => rfl) (fun d hd => by simp at hd)
    exact ⟨v, h1, h2⟩
  | d :: ms, w, hg, hnd, hS, h => by
    refine ⟨by simp, .inl ⟨d, w.putObj d (.deferred none), rfl, ?_, ?_⟩⟩
    · have := (hg (marked d) (by simp)).1
      exact run_takeDeferred this
    · have hlt : d < w.heap.size := (Array.getElem?_eq_some_iff.1 (hg (marked d) (by simp)).1).1
      obtain ⟨hd, hnd⟩ := List.nodup_cons.1 hnd
      refine leaves_marks ms _ (fun p hp => ?_) hnd (fun x hx => hS x (by simp [hx])) ?_
      · have hp' : p ∈ (d :: ms).map marked := by simp only [List.map_cons, List.mem_cons]; exact .inr hp
        refine ⟨?_, (hg p hp').2⟩
        obtain ⟨x, hx, rfl⟩ := List.mem_map.1 hp
        rw [World.putObj_heap_other (fun e => hd (by have : x = d := e.symm ▸ rfl; exact this ▸ hx))]
        exact (hg _ hp').1
      · intro w' h1 h2 h3 h4 h5 h6
        refine h w' (by simpa using h1) h2 h3 h4 (fun k hk => ?_) (fun x hx => ?_)
        · rw [h5 k (fun x hx => hk x (by simp [hx])), World.putObj_heap_other (hk d (by simp))]
        · rcases List.mem_cons.1 hx with rfl | hx
          · rw [h5 x (fun y hy e => hd (e ▸ hy)), World.putObj_heap_same hlt]
          · exact h6 x hx

/-- a body evaluated: the call -/
theorem body_ok (hm : P.follows .mixedOrders = true) (hE : E.Ok P) (hpg : PgOk E P) (hps : PsOk E P) {hd : Hd} (hhd : HdOk E.G P hd) {f : FuncId} {fn : Func} {c : Code} (hf : P.funcs[f]? = some fn) (hb : fn.body = some c) {args : List V} {us : List Value}
    (hus : VRL ρ args us) (hlen : args.length ≤ fn.ntmps) (hh : HR E.G B ρ hp w) (hbel : Below B w0 w) (hB : B ≤ w0.heap.size) (hgs : GsOk gs w) {n : Nat} {k : Exit → Tm → List O → T} {Q : Exit → Tm → List O → Prop}
    (hs : sat E.G P Q (evC E hd hp.length fn.ntmps c (initTm 0 args) hp k)) {R : V → List O → Prop}
    (hk : ∀ e tm hp, sat E.G P Q (k e tm hp) → (e = .normal ∨ e = .ret) ∧ ∃ l, resV E tm hp fn.results.toList = some l ∧ R (oneOrTup l) hp) :
    CallsIn (Fr none) n P f us.toArray w fun e w' => ∃ u, e = .returned u ∧ ∃ v hp' ρ', VR ρ' v u ∧ HR E.G B ρ' hp' w' ∧ ρ.le ρ' ∧ Below B w0 w' ∧ GsOk gs w' ∧ R v hp' := by
  refine callsIn_of_wp_marks hf hb trivial ?_
  have hl := hus.length
  have hrel : Rel E.G B w0 w.heap.size fn.ntmps [] gs ρ (initTm 0 args) hp { tmps := us.toArray ++ Array.replicate (fn.ntmps - us.toArray.size) undef, defers := [] } w :=
    ⟨by simpa using TR.init ρ args us fn.ntmps hus, hh, hbel, by simp; omega, ⟨[], rfl, fun p hp => by simp at hp, by simp, by simp⟩, hgs, hB, hbel.size, Nat.le_refl _⟩
  refine wpIn_mono (evC_ok hm hE hpg hps hhd c _ _ k Q hs B w0 w.heap.size [] gs ρ _ w n none (.inl rfl) hrel) ?_
  rintro e a' w' ⟨tm', hp', ρ', h', hl', hs'⟩
  have hl' : ρ.le ρ' := fun b r e => hl' b r (by
    by_cases h1 : b < hp.length
    · exact .inl h1
    · by_cases h2 : gbase ≤ b
      · exact .inr h2
      · rw [hh.free b (by omega) (by omega)] at e; cases e) e
  obtain ⟨he, l, hres, hR⟩ := hk _ _ _ hs'
  have hpost : LeavesInM (Fr none) n P fn a'.tmps (fun e w' => ∃ u, e = .returned u ∧ ∃ v hp' ρ', VR ρ' v u ∧ HR E.G B ρ' hp' w' ∧ ρ.le ρ' ∧ Below B w0 w' ∧ GsOk gs w' ∧ R v hp') a'.defers .returning w' := by
    obtain ⟨ms, hd1, hd2, hd3, hd4⟩ := h'.df
    rw [hd1, List.append_nil]
    refine leaves_marks (S := w.heap.size) ms w' hd2 hd4 hd3 ?_
    intro w2 h1 h2 h3 h4 h5 h6
    have hdm : ∀ d ∈ ms, w'.heap[d]? = some (.deferred (some [])) := fun d hd => (hd2 (marked d) (List.mem_map.2 ⟨d, hd, rfl⟩)).1
    have hhr := h'.hr.cellsSame (w' := w2) (fun k ob hk hob => by
      rw [h5 k (fun d hd e => by subst e; rw [hdm k hd] at hk; cases hk; cases hob)]; exact hk) (by omega)
    obtain ⟨u, hrun, hv⟩ := results_ok hE h'.tr hhr hres
    refine ⟨u, hrun, u, rfl, _, hp', ρ', hv, hhr, hl', ?_, ?_, hR⟩
    · refine h'.bel.trans ⟨h2, h3, h4, by omega, fun k hk => h5 k fun d hd e => ?_⟩
      have := hd3 d hd
      have := hbel.size
      omega
    · intro p hp
      refine ⟨?_, (h'.gs p hp).2⟩
      rw [h5 p.1 (fun d hd e => ?_)]
      · exact (h'.gs p hp).1
      · have := (Array.getElem?_eq_some_iff.1 (hgs p hp).1).1
        have := hd3 d hd
        omega
  rcases he with rfl | rfl <;> exact hpost

/-- a call that a contract answers -/
theorem pf_good (hE : E.Fn P) {f : FuncId} {caps args : List V} {aa : List V} {hh0 : List O} {v v' : V} {new : List O} (hcan : canonL E hp (args ++ caps) [] = some (aa, hh0)) {c : Bool} (hpf : E.pf f aa hh0 = some (c, v, new)) (hcc : c = true)
    (hsh : V.shift hh0.length hp.length v = some v') (hdata : new.all O.isData = true) (hlen1 : hp.length + new.length + 1 < gbase) (hlen2 : hh0.length + new.length < gbase) :
    CallGood E.G P (.fn f caps) args hp fun x hp' => x = v' ∧ hp' = hp ++ new := by
  intro B w0 gs ρ w uf us n ro hh hbel hB hgs hfv hav
  obtain ⟨cus, rfl, hcv⟩ := hfv
  have hall := VRL.append hav hcv
  have hof : (Deferred.ofValue (.func (.func f) #[] cus.toArray) us.toArray).run P w = .ok { target := .fn (.func f) cus.toArray, args := us.toArray } w := by simp [Deferred.ofValue]
  obtain ⟨⟨fn, hf1, hf2, hf3⟩, hsound⟩ := hE.pf _ _ _ _ _ _ hpf hcc
  have hinv : (invoke (.fn (.func f) cus.toArray) us.toArray).run P w = .ok (.enter f (us ++ cus).toArray) w := by
    have : us.toArray ++ cus.toArray = (us ++ cus).toArray := by simp
    simp only [invoke, this]
    exact callFunc_run hf1 hf2 hf3 _ _
  obtain ⟨ρ1, _, hc1, hv1⟩ := canonL_ok hh (C := w.heap.size) (args ++ caps) [] _ _ ρ.globs (us ++ cus) hcan (by omega) hall (hh.globs _)
  refine ⟨_, hof, .inl ⟨f, _, hinv, callsIn_wide.2 ((hsound ρ1 (us ++ cus) w hc1.hr hv1).mono ?_)⟩⟩
  rintro e w' ⟨u, ρ2, rfl, hv2, hh2, hl2, hb2⟩
  have hBw : B ≤ w.heap.size := Nat.le_trans hB hbel.size
  obtain ⟨ρ3, hh3, hl3, hm3⟩ := hh.adopt hBw hh2 hb2 hdata (by omega) (by simp only [List.length_append]; omega)
  refine ⟨u, rfl, v', _, ρ3, shift_ok hm3 _ _ _ hsh hv2, hh3, hl3, hbel.trans (hb2.mono hBw), ?_, rfl, rfl⟩
  intro p hp
  have hlt := (Array.getElem?_eq_some_iff.1 (hgs p hp).1).1
  exact ⟨(hb2.block _ hlt).trans (hgs p hp).1, (hgs p hp).2⟩

theorem CallGood.mono {fv : V} {args : List V} {R R' : V → List O → Prop} (h : CallGood G P fv args hp R) (hr : ∀ v hp', R v hp' → R' v hp') : CallGood G P fv args hp R' := by
  intro B w0 gs ρ w uf us n ro hh hbel hB hgs hfv hav
  obtain ⟨d, h1, h2⟩ := h B w0 gs ρ w uf us n ro hh hbel hB hgs hfv hav
  refine ⟨d, h1, ?_⟩
  rcases h2 with ⟨f, as, h3, h4⟩ | ⟨l, f, t, x, y, h3, h4⟩
  · exact .inl ⟨f, as, h3, h4.mono fun e w' ⟨u, e1, v, hp', ρ', a1, a2, a3, a4, a5, a6⟩ => ⟨u, e1, v, hp', ρ', a1, a2, a3, a4, a5, hr _ _ a6⟩⟩
  · exact .inr ⟨l, f, t, x, y, h3, h4.mono fun e w' ⟨u, e1, v, hp', ρ', a1, a2, a3, a4, a5, a6⟩ => ⟨u, e1, v, hp', ρ', a1, a2, a3, a4, a5, hr _ _ a6⟩⟩

theorem pg_ok (hE : E.Fn P) : PgOk E P := fun _ _ _ _ _ _ _ _ _ _ hcan hpf hc hsh hdata h1 h2 => pf_good hE hcan hpf hc hsh hdata h1 h2

theorem ps_ok (hE : E.Fn P) : PsOk E P := by
  intro hp f args c v h hc
  unfold pfPlain at h
  split at h
  · rename_i g caps
    split at h
    · rename_i a h0 hcan
      split at h
      · rename_i c0 v0 hpf
        split at h
        · rename_i hl
          simp only [Bool.and_eq_true] at hl
          have h1 := blt_lt hl.1
          have h2 := blt_lt hl.2
          split at h
          · rename_i v1 hv1
            cases h
            refine (pf_good hE hcan hpf hc hv1 rfl (by simpa using h2) (by simpa using h1)).mono ?_
            rintro x hp' ⟨rfl, rfl⟩
            exact ⟨rfl, by simp⟩
          · cases h
        · cases h
      · cases h
    · cases h
  · cases h

theorem hdl_ok (hE : E.Fn P) : ∀ n, HdOk E.G P (hdl E n) := by
  intro n
  induction n with
  | zero => exact fun fv args hp k Q hs => hs.elim
  | succ m ih =>
    intro fv args hp k Q hs
    obtain ⟨f, caps, rfl⟩ : ∃ f caps, fv = .fn f caps := by
      cases fv <;> first | exact ⟨_, _, rfl⟩ | exact hs.elim
    simp only [hdl] at hs
    intro B w0 gs ρ w uf us n ro hh hbel hB hgs hfv hav
    obtain ⟨cus, rfl, hcv⟩ := hfv
    have hall := VRL.append hav hcv
    have hof : (Deferred.ofValue (.func (.func f) #[] cus.toArray) us.toArray).run P w = .ok { target := .fn (.func f) cus.toArray, args := us.toArray } w := by simp [Deferred.ofValue]
    have hinv : ∀ fn, P.funcs[f]? = some fn → (fn.name == "runtime.NumGoroutine") = false → fn.body.isSome = true → (invoke (.fn (.func f) cus.toArray) us.toArray).run P w = .ok (.enter f (us ++ cus).toArray) w := by
      intro fn h1 h2 h3
      have : us.toArray ++ cus.toArray = (us ++ cus).toArray := by simp
      simp only [invoke, this]
      exact callFunc_run h1 h2 h3 _ _
    split at hs
    · -- a contract
      rename_i c0 d0 v new heq
      split at heq
      · rename_i aa hh0 hcan
        split at heq
        · rename_i cc v0 new0 hpf
          cases heq
          split at hs
          · rename_i v' hsh hdata hlen
            obtain ⟨hcc, hs⟩ := hs
            rw [appL_eq, forceD_eq] at hs
            simp only [Bool.and_eq_true] at hlen
            have hlen1 := blt_lt hlen.1
            have hlen2 := blt_lt hlen.2
            refine ((pf_good hE hcan hpf hcc hsh hdata hlen1 hlen2).mono ?_) B w0 gs ρ w _ us n ro hh hbel hB hgs ⟨cus, rfl, hcv⟩ hav
            rintro x hp' ⟨rfl, rfl⟩
            exact hs
          · exact hs.elim
        · cases heq
      · cases heq
    · split at hs
      · rename_i fn hinl
        obtain ⟨hf1, hf2⟩ := hE.inl _ _ hinl
        split at hs
        · rename_i c hbody
          split at hs
          · rename_i hlen
            have hlen := Nat.le_of_ble_eq_true hlen
            refine ⟨_, hof, .inl ⟨f, _, hinv fn hf1 hf2 (by rw [hbody]; rfl), ?_⟩⟩
            refine body_ok hE.mixed hE.ok (pg_ok hE) (ps_ok hE) ih hf1 hbody hall hlen hh hbel hB hgs hs (R := fun v hp' => sat E.G P Q (k v hp')) ?_
            intro e tm hp' hq
            cases e with
            | normal =>
              dsimp only at hq
              split at hq
              · rename_i l hl; exact ⟨.inl rfl, l, hl, hq⟩
              · exact hq.elim
            | ret =>
              dsimp only at hq
              split at hq
              · rename_i l hl; exact ⟨.inr rfl, l, hl, hq⟩
              · exact hq.elim
            | _ => exact hq.elim
          · exact hs.elim
        · exact hs.elim
      · exact hs.elim

/-! #### A function's contract -/

theorem nodup_inj {l : List Nat} (h : l.Nodup) {i j : Nat} (hi : i < l.length) (hj : j < l.length) (e : l[i] = l[j]) : i = j := by
  rcases Nat.lt_trichotomy i j with h1 | h1 | h1
  · exact absurd e (List.pairwise_iff_getElem.1 h i j hi hj h1)
  · exact h1
  · exact absurd e.symm (List.pairwise_iff_getElem.1 h j i hj hi h1)

/-- some blocks of an inner heap put behind an outer one -/
theorem HR.take {H : List O} (hh : HR G B ρ H w) {hpc : List O} {ρ' : Ren} {w' : World} (hBw : B ≤ w.heap.size) (hr' : HR G w.heap.size ρ' hpc w') (hbel : Below w.heap.size w w') (bs : List Nat) (hnd : bs.Nodup)
    (hbs : ∀ b ∈ bs, b < gbase ∧ (hpc.getD b .gone).isData = true) (hsm : H.length + bs.length + 1 < gbase) :
    ∃ ρ'', HR G B ρ'' (H ++ bs.map (hpc.getD · .gone)) w' ∧ ρ.le ρ'' ∧ ∀ i b r, bs[i]? = some b → ρ' b = some r → ρ'' (H.length + i) = some r := by
  have hold := hh.frame hbel.size (fun k hk => hbel.block k hk)
  have hin : ∀ i, H.length ≤ i → i < H.length + bs.length → ∃ b, bs[i - H.length]? = some b ∧ getO G (H ++ bs.map (hpc.getD · .gone)) i = getO G hpc b ∧ (getO G hpc b).isData = true := by
    intro i h1 h2
    have hlt : i - H.length < bs.length := by omega
    have hmem := List.getElem_mem hlt
    refine ⟨bs[i - H.length], by simp [hlt], ?_, ?_⟩
    · rw [getO_hp (by omega), getO_hp (hbs _ hmem).1]
      simp [List.getD, List.getElem?_append_right h1, hlt]
    · rw [getO_hp (hbs _ hmem).1]; exact (hbs _ hmem).2
  have hout : ∀ i x, ρ i = some x → getO G (H ++ bs.map (hpc.getD · .gone)) i = getO G H i ∧ ¬ (H.length ≤ i ∧ i < H.length + bs.length) := by
    intro i x hx
    by_cases hi : i < gbase
    · have : i < H.length := by
        rcases Nat.lt_or_ge i H.length with h | h
        · exact h
        · rw [hh.free i h hi] at hx; cases hx
      refine ⟨?_, by omega⟩
      rw [getO_hp hi, getO_hp hi]
      simp [List.getD, List.getElem?_append_left this]
    · exact ⟨by rw [getO_glob (by omega), getO_glob (by omega)], by omega⟩
  let ρ2 : Ren := fun i => if H.length ≤ i ∧ i < H.length + bs.length then (bs[i - H.length]?).bind ρ' else ρ i
  have hle : ρ.le ρ2 := fun i x hx => by
    show (if _ then _ else _) = _
    rw [if_neg (hout i x hx).2]; exact hx
  have hcase : ∀ i x, ρ2 i = some x → (H.length ≤ i ∧ i < H.length + bs.length ∧ (bs[i - H.length]?).bind ρ' = some x) ∨ (ρ i = some x ∧ ¬ (H.length ≤ i ∧ i < H.length + bs.length)) := by
    intro i x hx
    by_cases h : H.length ≤ i ∧ i < H.length + bs.length
    · exact .inl ⟨h.1, h.2, by simpa only [ρ2, if_pos h] using hx⟩
    · exact .inr ⟨by simpa only [ρ2, if_neg h] using hx, h⟩
  refine ⟨ρ2, ⟨?_, ?_, fun b h1 => ?_, ?_, ?_, ?_, by simp; omega⟩, hle, ?_⟩
  · intro b r hr hal
    rcases hcase b r hr with ⟨h1, h2, h3⟩ | ⟨h1, h2⟩
    · obtain ⟨b0, e0, e1, e3⟩ := hin b h1 h2
      rw [e0] at h3
      have := hr'.blocks b0 r h3 (by rw [← e1]; exact hal)
      rw [e1]
      simp only [O.isData, Bool.and_eq_true] at e3
      exact this.data e3.1 _
    · rw [(hout b r h1).1] at hal ⊢
      exact (hold.blocks b r h1 hal).mono hle
  · intro b h1 h2
    simp only [List.length_append, List.length_map] at h1
    show (if _ then _ else _) = _
    rw [if_neg (by omega)]
    exact hh.free b (by omega) h2
  · cases hx : ρ2 b with
    | none => rfl
    | some x =>
      rcases hcase b x hx with ⟨h2, h3, _⟩ | ⟨h2, _⟩
      · obtain ⟨b0, _, e1, e3⟩ := hin b h2 h3
        rw [← e1, h1] at e3; cases e3
      · rw [(hout b x h2).1] at h1; rw [hh.rsv b h1] at h2; cases h2
  · intro b r hr ho hp0
    rcases hcase b r hr with ⟨h1, h2, h3⟩ | ⟨h1, h2⟩
    · obtain ⟨b0, e0, e1, e3⟩ := hin b h1 h2
      rw [e0] at h3
      have := hr'.base b0 r h3 (by rw [← e1]; exact ho) hp0
      omega
    · rw [(hout b r h1).1] at ho
      exact hh.base b r h1 ho hp0
  · intro b b' r r' hr hr2 hal hp0 hp0' ho hne
    rcases hcase b r hr with ⟨h1, h2, h3⟩ | ⟨h1, h2⟩
    · obtain ⟨b0, e0, e1, e3⟩ := hin b h1 h2
      rw [e0] at h3
      have hb1 := hr'.base b0 r h3 (by rw [← e1]; exact ho) hp0
      rcases hcase b' r' hr2 with ⟨h1', h2', h3'⟩ | ⟨h1', h2'⟩
      · obtain ⟨b0', e0', e1', _⟩ := hin b' h1' h2'
        rw [e0'] at h3'
        refine hr'.apart b0 b0' r r' h3 h3' (by rw [← e1']; exact hal) hp0 hp0' (by rw [← e1]; exact ho) (fun e => ?_)
        subst e
        have hi1 : b - H.length < bs.length := by omega
        have hi2 : b' - H.length < bs.length := by omega
        rw [List.getElem?_eq_getElem hi1, Option.some.injEq] at e0
        rw [List.getElem?_eq_getElem hi2, Option.some.injEq] at e0'
        have := nodup_inj hnd hi1 hi2 (e0.trans e0'.symm)
        omega
      · rw [(hout b' r' h1').1] at hal
        have := (hh.blocks b' r' h1' hal).lt hp0'
        omega
    · rw [(hout b r h1).1] at ho
      have hl1 := (hh.blocks b r h1 (fun e => by rw [e] at ho; simp [O.own] at ho)).lt hp0
      rcases hcase b' r' hr2 with ⟨h1', h2', h3'⟩ | ⟨h1', h2'⟩
      · obtain ⟨b0', e0', e1', e3'⟩ := hin b' h1' h2'
        rw [e0'] at h3'
        simp only [O.isData, Bool.and_eq_true] at e3'
        have := hr'.base b0' r' h3' e3'.2 hp0'
        omega
      · rw [(hout b' r' h1').1] at hal
        exact hh.apart b b' r r' h1 h1' hal hp0 hp0' ho hne
  · intro g o hg
    obtain ⟨r, h1, h2⟩ := hh.glob g o hg
    exact ⟨r, hle _ _ h1, h2⟩
  · intro i b r hi hr
    have hlt : i < bs.length := (List.getElem?_eq_some_iff.1 hi).1
    show (if _ then _ else _) = _
    rw [if_pos (by omega), show H.length + i - H.length = i by omega, hi]
    exact hr

def idx (b : Nat) : List Nat → Option Nat
  | [] => none
  | x :: l => match Nat.beq x b with
    | true => some 0
    | false => match idx b l with | some i => some (i + 1) | none => none

theorem idx_ok {b : Nat} : ∀ (l : List Nat) (i : Nat), idx b l = some i → l[i]? = some b
  | [], i, h => by cases h
  | x :: l, i, h => by
    simp only [idx] at h
    split at h
    · rename_i hb; cases h; simp [Nat.eq_of_beq_eq_true hb]
    · split at h
      · rename_i j hj; cases h; simpa using idx_ok l j hj
      · cases h

mutual
/-- a result as its caller sees it: block bs[i] is number d + i -/
def V.out (bs : List Nat) (d : Nat) : V → Option V
  | .sl b k len cap => match idx b bs with | some i => some (.sl (d + i) k len cap) | none => none
  | .lit b => some (.bool b)
  | .bool b => some (.bool b)
  | .int k n => some (.int k n)
  | .str s => some (.str s)
  | .nils => some .nils
  | .agg l => match outL bs d l with | some l => some (.agg l) | none => none
  | .tup l => match outL bs d l with | some l => some (.tup l) | none => none
  | _ => none
def outL (bs : List Nat) (d : Nat) : List V → Option (List V)
  | [] => some []
  | v :: l => match V.out bs d v with
    | some v => match outL bs d l with
      | some l => some (v :: l)
      | none => none
    | none => none
end

mutual
theorem out_ok {bs : List Nat} {d : Nat} {ρ ρ' : Ren} (hm : ∀ i b r, bs[i]? = some b → ρ b = some r → ρ' (d + i) = some r) : ∀ (v v' : V) (u : Value), V.out bs d v = some v' → VR ρ v u → VR ρ' v' u
  | .sl b k len cap, v', u, h, hv => by
    simp only [V.out] at h
    split at h
    · rename_i i hi
      cases h
      obtain ⟨r, hr, x⟩ := hv
      exact ⟨r, hm i b r (idx_ok bs i hi) hr, x⟩
    · cases h
  | .agg l, v', u, h, hv => by
    simp only [V.out] at h
    split at h
    · rename_i l' hl; cases h; obtain ⟨us, rfl, hus⟩ := hv; exact ⟨us, rfl, outL_ok hm l l' us hl hus⟩
    · cases h
  | .tup l, v', u, h, hv => by
    simp only [V.out] at h
    split at h
    · rename_i l' hl; cases h; obtain ⟨us, rfl, hus⟩ := hv; exact ⟨us, rfl, outL_ok hm l l' us hl hus⟩
    · cases h
  | .lit _, _, _, h, hv => by cases h; exact hv
  | .bool _, _, _, h, hv => by cases h; exact hv
  | .int _ _, _, _, h, hv => by cases h; exact hv
  | .str _, _, _, h, hv => by cases h; exact hv
  | .nils, _, _, h, hv => by cases h; exact hv
  | .ptr _ _ _, _, _, h, _ => by cases h
  | .nilp, _, _, h, _ => by cases h
  | .fn _ _, _, _, h, _ => by cases h
  | .nilf, _, _, h, _ => by cases h
  | .yl _, _, _, h, _ => by cases h
  | .nili, _, _, h, _ => by cases h
  | .when _ _, _, _, h, _ => by cases h
  | .junk, _, _, h, _ => by cases h
theorem outL_ok {bs : List Nat} {d : Nat} {ρ ρ' : Ren} (hm : ∀ i b r, bs[i]? = some b → ρ b = some r → ρ' (d + i) = some r) : ∀ (l l' : List V) (us : List Value), outL bs d l = some l' → VRL ρ l us → VRL ρ' l' us
  | [], _, _, h, hv => by cases h; exact hv
  | v :: l, l', us, h, hv => by
    obtain ⟨u, r, rfl, h1, h2⟩ := hv
    simp only [outL] at h
    split at h
    · rename_i v1 e1
      split at h
      · rename_i l1 e2; cases h; exact ⟨u, r, rfl, out_ok hm v v1 u e1 h1, outL_ok hm l l1 r e2 h2⟩
      · cases h
    · cases h
end

/-- the end of a function that hands back v, with the blocks bs of its heap -/
def Fin (E : Env) (fn : Func) (d : Nat) (v : V) (N : List O) : Exit → Tm → List O → Prop := fun e tm hp =>
  (e = .normal ∨ e = .ret) ∧ ∃ l bs, resV E tm hp fn.results.toList = some l ∧ V.out bs d (oneOrTup l) = some v ∧ bs.Nodup ∧ (∀ b ∈ bs, b < gbase ∧ (hp.getD b .gone).isData = true) ∧ N = bs.map (hp.getD · .gone) ∧ d + bs.length + 1 < gbase

/-- **A CONTRACT FROM AN EVALUATION** -/
theorem fn_sound (hE : E.Fn P) (n : Nat) {f : FuncId} {fn : Func} {c : Code} (hf : P.funcs[f]? = some fn) (hb : fn.body = some c) {args : List V} {H : List O} {v : V} {N : List O} (hlen : Nat.ble args.length fn.ntmps = true)
    (hs : sat E.G P (Fin E fn H.length v N) (evC E (hdl E n) H.length fn.ntmps c (initTm 0 args) H .ret)) : FnSound E.G P f args H v N := by
  intro ρ us w hh hus
  have hbody := body_ok (gs := []) (n := 0) hE.mixed hE.ok (pg_ok hE) (ps_ok hE) (hdl_ok hE n) hf hb hus (Nat.le_of_ble_eq_true hlen) hh (Below.refl _ w) (Nat.le_refl _) (fun p hp => by simp at hp) hs
    (R := fun v0 hp => ∃ bs, V.out bs H.length v0 = some v ∧ bs.Nodup ∧ (∀ b ∈ bs, b < gbase ∧ (hp.getD b .gone).isData = true) ∧ N = bs.map (hp.getD · .gone) ∧ H.length + bs.length + 1 < gbase)
    (fun e tm hp ⟨h1, l, bs, h2, h3⟩ => ⟨h1, l, h2, bs, h3⟩)
  refine (callsIn_wide.1 hbody).mono ?_
  rintro e w' ⟨u, rfl, v0, hp', ρ', hv, hr', hl', hb', _, bs, h1, h2, h3, rfl, h5⟩
  obtain ⟨ρ2, hr2, hl2, hm2⟩ := hh.take (Nat.le_refl _) hr' hb' bs h2 h3 h5
  exact ⟨u, ρ2, rfl, out_ok hm2 _ _ _ h1 hv, hr2, hl2, hb'⟩

end
end Go.Ab
