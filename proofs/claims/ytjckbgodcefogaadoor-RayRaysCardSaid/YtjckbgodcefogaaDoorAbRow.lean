/- An evaluator of the model on values that are partly known, and its soundness (part AbRow); no condition. -/
import Derived.Test.YtjckbgodcefogaaDoorAbFor
import Derived.WalkKit
import Derived.ProofKit
import Derived.OpenShut
import Derived.Deep.DeepHandedRow
import Derived.Lib.LaidTab
import Derived.Stop.LaidErr
namespace Go.Ab
open Go.RowKit Go.ChangeShapes Go.WideShapes

variable {P : Program}

def isK (d : Option TypeDesc) (k : IntKind) : Bool := match d with | some (.int k') => decide (k' = k) | _ => false
theorem isK_ok {d : Option TypeDesc} {k : IntKind} (h : isK d k = true) : d = some (.int k) := by
  unfold isK at h
  split at h
  · rw [of_decide_eq_true h]
  · cases h

/-! ### Tables: from a row's condition to the heap's relation -/

/-- the cells of a table of rows of integers -/
theorem rows_cells {enc : TypeId × Value → Unit} {W : World} {base : Nat} {sp : Nat → Bool} {held : Bool} {fuel : Nat} {t e : TypeId} {n m : Nat} {k : IntKind} {fs : Array Field} {cs : List Value} {rs : List (List Int)} {p : List MemPlace}
    (ht : P.underlying t = some (.array n e)) (he : P.underlying e = some (.struct fs)) (hce : P.cellsOf e = m) (hfs : fs.size = m) (hf : ∀ (j : Nat) (f : Field), fs[j]? = some f → f.offset = j ∧ P.underlying f.type = some (.int k) ∧ P.cellsOf f.type = 1)
    (h : DataW.trod enc P W base sp held fuel t cs = some (.agg (rs.map fun r => .agg (r.map fun z => .lit (.int k z))), p)) (i j : Nat) (r : List Int) (z : Int) (hi : rs[i]? = some r) (hj : r[j]? = some z) : cs[i * m + j]? = some (.int k z) := by
  obtain ⟨xs, m', rfl, hx, hl, hxl, hel⟩ := DataW.trod_array ht h
  simp only [Prod.mk.injEq, DataW.agg.injEq] at hx
  have hxs := hx.1
  have hin : i < n := by
    have h1 := congrArg List.length hxs
    simp at h1
    have := (List.getElem?_eq_some_iff.1 hi).1
    omega
  have hx1 : (xs.map (·.1))[i]? = some (.agg (r.map fun z => .lit (.int k z))) := by rw [← hxs]; simp [hi]
  simp only [List.getElem?_map, Option.map_eq_some_iff] at hx1
  obtain ⟨x, hx2, hx3⟩ := hx1
  have h2 := hel i hin
  rw [hx2] at h2
  obtain ⟨ys, m2, rfl, hy, hl2, hyl, hel2⟩ := DataW.trod_struct he h2
  have hy1 : (ys.map (·.1)) = r.map fun z => (.lit (.int k z) : DataW Unit) := by
    have : x.1 = .agg (ys.map (·.1)) := by rw [hy]
    rw [hx3] at this
    simpa using this.symm
  have hjm : j < m := by
    have h1 := congrArg List.length hy1
    simp at h1
    have := (List.getElem?_eq_some_iff.1 hj).1
    omega
  obtain ⟨f, hff⟩ : ∃ f, fs[j]? = some f := ⟨fs[j]'(by omega), by simp⟩
  obtain ⟨f1, f2, f3⟩ := hf j f hff
  have h3 := hel2 j f hff
  have hy2 : (ys.map (·.1))[j]? = some (.lit (.int k z)) := by rw [hy1]; simp [hj]
  simp only [List.getElem?_map, Option.map_eq_some_iff] at hy2
  obtain ⟨y, hy3, hy4⟩ := hy2
  rw [hy3, f1, f3] at h3
  obtain ⟨z', hc, rfl, _⟩ := DataW.trod_int f2 h3
  simp only [DataW.lit.injEq, Lit.int.injEq, true_and] at hy4
  subst hy4
  have h4 := congrArg (fun l : List Value => l[0]?) hc
  simp only [List.getElem?_take, List.getElem?_drop, hce, Nat.add_zero] at h4
  simpa [hjm] using h4

/-- the table's cells lie in its block -/
def TabAt (W : World) (g : Nat) (o : O) : Prop := ∀ k j v, k < o.len → j < o.wid → o.cell k j = some v → ∃ u, W.cell? ⟨g, k * o.wid + j, none⟩ = some u ∧ ∀ ρ, VR ρ v u

theorem tabAt_rows {W : World} {name : String} {g : Nat} {t e : TypeId} {n m : Nat} {k : IntKind} {fs : Array Field} {rs : List (List Int)} {rest : List (String × DataW Unit)}
    (hg : P.globalNamed name = some g) (hty : (P.globals[g]?).map (·.type) = some t) (ht : P.underlying t = some (.array n e)) (he : P.underlying e = some (.struct fs)) (hce : P.cellsOf e = m) (hfs : fs.size = m)
    (hf : (fs.toList.zipIdx.all fun p => p.1.offset == p.2 && isK (P.underlying p.1.type) k && P.cellsOf p.1.type == 1) = true)
    (hwf : (rs.all fun r => r.length == m) = true) (h : laidMet P ((name, .agg (rs.map fun r => .agg (r.map fun z => .lit (.int k z)))) :: rest) W) : TabAt W g (.rows false (List.replicate m k) rs) := by
  obtain ⟨ps, ⟨g', t', cs, fuel, p, q, hg', ht', hvar, hd, _, _⟩, _⟩ := h
  obtain rfl := Option.some.inj (hg.symm.trans hg')
  obtain rfl := Option.some.inj (hty.symm.trans ht')
  intro a b v ha hb hv
  simp only [O.len] at ha
  simp only [O.wid, List.length_replicate] at hb
  have hf' : ∀ (j : Nat) (f : Field), fs[j]? = some f → f.offset = j ∧ P.underlying f.type = some (.int k) ∧ P.cellsOf f.type = 1 := by
    intro j f hj
    have hmem : (f, j) ∈ fs.toList.zipIdx := by
      rw [List.mem_zipIdx_iff_getElem?]
      simpa using hj
    have := List.all_eq_true.1 hf _ hmem
    simp only [Bool.and_eq_true, beq_iff_eq] at this
    exact ⟨this.1.1, isK_ok this.1.2, this.2⟩
  have hr : rs[a]? = some (rs[a]'ha) := by simp [ha]
  have hlen : (rs[a]'ha).length = m := by
    have := List.all_eq_true.1 hwf _ (List.getElem_mem ha)
    simpa using this
  have hz : (rs[a]'ha)[b]? = some ((rs[a]'ha)[b]'(by omega)) := by simp [hlen, hb]
  have hc := rows_cells ht he hce hfs hf' hd a b _ _ hr hz
  have hcell := World.var?_cell hg hvar (a * m + b)
  rw [Array.getElem?_toList] at hc
  refine ⟨_, by simp only [O.wid, List.length_replicate]; rw [hcell]; exact hc, fun ρ => ?_⟩
  have hkb : (List.replicate m k)[b]? = some k := by simp [hb]
  simp only [O.cell, hkb, Option.some.injEq] at hv
  subst hv
  simp [VR, List.getD, hr, hz]

def gRen (G : List O) : Ren := fun i => match Nat.ble gbase i with
  | true => (G[i - gbase]?).map fun o => { blk := i - gbase, base := 0, m := o.wid, n := o.len, cp := o.len, ph := false }
  | false => none

/-- **AT THE START**: the tables alone -/
theorem start_hr {G : List O} {W : World} {B : Nat} (htab : ∀ (g : Nat) o, G[g]? = some o → TabAt W g o) (hG : (G.all fun o => o.tab && Nat.blt 0 o.len && Nat.blt 0 o.wid && (o.cell 0 0).isSome) = true) (hwf : ∀ o ∈ G, o.wf) : HR G B (gRen G) [] W := by
  have hget : ∀ b r, gRen G b = some r → gbase ≤ b ∧ ∃ o, G[b - gbase]? = some o ∧ r = { blk := b - gbase, base := 0, m := o.wid, n := o.len, cp := o.len, ph := false } ∧ getO G [] b = o := by
    intro b r h
    unfold gRen at h
    split at h
    · rename_i hb
      have hb := Nat.le_of_ble_eq_true hb
      obtain ⟨o, ho, rfl⟩ := Option.map_eq_some_iff.1 h
      exact ⟨hb, o, ho, rfl, by rw [getO_glob hb]; simp [List.getD, ho]⟩
    · cases h
  have hall : ∀ (g : Nat) o, G[g]? = some o → o.tab = true ∧ 0 < o.len ∧ 0 < o.wid ∧ (o.cell 0 0).isSome = true := by
    intro g o ho
    have := List.all_eq_true.1 hG o (List.mem_of_getElem? ho)
    simp only [Bool.and_eq_true] at this
    exact ⟨this.1.1.1, blt_lt this.1.1.2, blt_lt this.1.2, this.2⟩
  have hown : ∀ (g : Nat) o, G[g]? = some o → o.own = false := fun g o ho => (O.tab_data (hall g o ho).1).2
  refine ⟨?_, ?_, ?_, ?_, ?_, ?_, by simp [gbase]⟩
  · intro b r h _
    obtain ⟨hb, o, ho, rfl, hgo⟩ := hget b r h
    rw [hgo]
    obtain ⟨a1, a2, a3, a4⟩ := hall _ o ho
    have hne : o ≠ .gone ∧ o ≠ .rsv := by cases o <;> simp [O.tab] at a1 ⊢
    refine ⟨hne.1, hne.2, hwf o (List.mem_of_getElem? ho), rfl, (by simp), fun _ => ?_, fun _ => rfl, fun _ => Nat.le_refl _, fun _ k j v hk hj hv => ?_, fun h => ?_⟩
    · obtain ⟨v, hv⟩ := Option.isSome_iff_exists.1 a4
      obtain ⟨u, hu, _⟩ := htab _ o ho 0 0 v a2 a3 hv
      obtain ⟨ob, h1, _⟩ := cells_of_cell hu
      exact (Array.getElem?_eq_some_iff.1 h1).1
    · obtain ⟨u, hu, hv'⟩ := htab _ o ho k j v hk hj hv
      exact ⟨u, by simpa using hu, hv' _⟩
    · rw [hown _ o ho] at h; cases h
  · intro b _ hb
    unfold gRen
    split
    · rename_i h; have := Nat.le_of_ble_eq_true h; omega
    · rfl
  · intro b hb
    cases h : gRen G b with
    | none => rfl
    | some r =>
      obtain ⟨_, o, ho, _, hgo⟩ := hget b r h
      rw [hgo] at hb
      subst hb
      have := (hall _ _ ho).1
      cases this
  · intro b r h ho
    obtain ⟨_, o, ho2, _, hgo⟩ := hget b r h
    rw [hgo, hown _ o ho2] at ho; cases ho
  · intro b b' r r' h _ _ _ _ ho
    obtain ⟨_, o, ho2, _, hgo⟩ := hget b r h
    rw [hgo, hown _ o ho2] at ho; cases ho
  · intro g o ho
    refine ⟨{ blk := gbase + g - gbase, base := 0, m := o.wid, n := o.len, cp := o.len, ph := false }, ?_, by simp, rfl, rfl, rfl, (hall g o ho).2.1, (hall g o ho).1⟩
    unfold gRen
    rw [show Nat.ble gbase (gbase + g) = true from Nat.ble_eq_true_of_le (by omega)]
    simp [ho]

/-! ### What a law leaves -/

theorem frozen_below {W W' : World} (h : Below W.heap.size W W') {b off : Nat} (hb : b < W.heap.size) : W'.frozen? ⟨b, off, none⟩ = W.frozen? ⟨b, off, none⟩ := by
  unfold World.frozen?
  rw [h.block b hb]

section
variable {H : Type} {enc : TypeId × Value → H} {w : World}
theorem trodAll_stays (hl : laidOutB P = true) {W W' : World} {sp' : Nat → Bool} : ∀ {ts : List TypeId} {vs : List Value} {ds : List (DataW H)} {ps : List MemPlace}, (ts.all fun t => P.readableRec t && decide (t < P.types.size)) = true →
    DataW.TrodAll enc P W 0 (fun _ => true) true ts vs ds ps → (∀ p ∈ ps, W.sameAt W' p) → (∀ p ∈ ps, sp' p.block = true) → DataW.TrodAll enc P W' 0 sp' true ts vs ds ps
  | [], _, _, _, _, h, _, _ => by
    obtain ⟨rfl, rfl, rfl⟩ := trodAll_nil h
    exact trodAll_mk0
  | t :: ts, _, _, _, hr, h, h1, h2 => by
    obtain ⟨v, vs, d, ds, p, q, rfl, rfl, rfl, ha, hb⟩ := trodAll_cons h
    simp only [List.all_cons, Bool.and_eq_true, decide_eq_true_eq] at hr
    exact trodAll_cons_mk (WideElems.Trod_stays hl hr.1.1 hr.1.2 ha (fun x hx => h1 x (List.mem_append_left _ hx)) (fun x hx => h2 x (List.mem_append_left _ hx)))
      (trodAll_stays hl hr.2 hb (fun x hx => h1 x (List.mem_append_right _ hx)) (fun x hx => h2 x (List.mem_append_right _ hx)))
end

/-- a law that says true, and turns nothing that lay there -/
theorem law_post {H : Type} {enc : TypeId × Value → H} {f : Func} {s : ChangeSpec} {apart fresh handsOn again : Bool} {W W' : World} {args : Array Value} {ds gs : List (DataW H)} {before : List MemPlace} {tb : TypeId}
    (hW : DataW.Whole enc P f.params.toList s.vars apart W args.toList ds gs before) (hv : s.vars = []) (hfn : s.fn H (ds ++ gs) = { results := [.lit (.bool true)], args := ds })
    (hb : Below W.heap.size W W') (hl : laidOutB P = true) (hr : (f.params.toList.all fun t => P.readableRec t && decide (t < P.types.size)) = true) (hrt : f.resultTypes = #[tb]) (htb : P.underlying tb = some .bool) :
    s.post enc P f apart fresh handsOn again W args (.bool true) W' := by
  have hlt := hW.lt
  have hW' := hW
  obtain ⟨p, q, hA, hV, rfl, hz, hn⟩ := hW
  rw [hv] at hV
  obtain ⟨rfl, rfl⟩ := trodVars_none hV
  have hsame : ∀ x ∈ p, W.sameAt W' x := fun x hx => hb.same (hlt x (List.mem_append_left _ hx))
  have hargs : ∀ sp : Nat → Bool, (∀ x ∈ p, sp x.block = true) → DataW.TrodAll enc P W' 0 sp true f.params.toList args.toList ds p := fun sp hs => trodAll_stays hl hr hA hsame hs
  have hres : ∀ (b : Nat) (sp : Nat → Bool) (hd : Bool), DataW.TrodAll enc P W' b sp hd f.resultTypes.toList ((Value.bool true).resultList f.resultTypes.size) [.lit (.bool true)] [] := fun b sp hd => by
    rw [hrt]
    exact trodAll_mk1 (shut_bool htb true)
  refine ⟨ds, [], p ++ [], [], p, [], hW', ?_, ?_, ?_, hb.frame _, fun _ => ?_⟩
  · rw [hfn]; exact hres _ _ _
  · rw [hfn]; exact hargs _ (fun x hx => by simpa using hlt x (List.mem_append_left _ hx))
  · rw [hfn, hv]; rfl
  · refine ⟨ok_one hrt rfl (okWide_bool_mk htb true), _, [], (([] ++ p) ++ []), ⟨[] ++ p, [], trodAll_append (hargs _ (fun _ _ => rfl)) (hres _ _ _), by rw [hv]; rfl, rfl, ?_, ?_⟩, ?_⟩
    · intro b off hp
      have hp' : MemPlace.cell b off ∈ p ++ [] := by simpa using hp
      rw [frozen_below hb (b := b) (hlt _ hp')]
      exact hz b off hp'
    · intro ha
      have := hn ha
      simpa using this
    · intro x hx _
      simpa using hx

/-! ### Arguments -/
theorem arg_pair {H : Type} {enc : TypeId × Value → H} {W : World} {base : Nat} {sp : Nat → Bool} {held : Bool} {r : Reach} {b0 : Nat} {t : TypeId} {k : IntKind} {fs : Array Field} {v : Value} {d : DataW H} {ps : List MemPlace} (ht : P.underlying t = some (.struct fs)) (hfs : fs.size = 2) (hct : P.cellsOf t = 2)
    (hf : (fs.toList.zipIdx.all fun p => p.1.offset == p.2 && isK (P.underlying p.1.type) k && P.cellsOf p.1.type == 1) = true) (hval : Value.okWide P W r b0 t v) (h : DataW.Trod enc P W base sp held t v d ps) :
    ∃ x y, v = .agg #[.int k x, .int k y] ∧ (Lit.int k x).wf = true ∧ (Lit.int k y).wf = true := by
  obtain ⟨cs, rfl, hsz⟩ := okWide_struct ht hval
  obtain ⟨fuel, h⟩ := h
  obtain ⟨xs, m, rfl, hx, hl, hxl, hel⟩ := DataW.trod_struct ht h
  have key : ∀ j, j < 2 → ∃ z, cs[j]? = some (.int k z) ∧ (Lit.int k z).wf = true := by
    intro j hj
    obtain ⟨f, hff⟩ : ∃ f, fs[j]? = some f := ⟨fs[j]'(by omega), by simp⟩
    have hmem : (f, j) ∈ fs.toList.zipIdx := by
      rw [List.mem_zipIdx_iff_getElem?]
      simpa using hff
    have hh := List.all_eq_true.1 hf _ hmem
    simp only [Bool.and_eq_true, beq_iff_eq] at hh
    have h3 := hel j f hff
    obtain ⟨x, hx⟩ : ∃ x, xs[j]? = some x := ⟨xs[j]'(by omega), by simp⟩
    rw [hx, hh.1.1, hh.2] at h3
    obtain ⟨z, hc, _, hw⟩ := DataW.trod_int (isK_ok hh.1.2) h3
    refine ⟨z, ?_, hw⟩
    have h4 := congrArg (fun l : List Value => l[0]?) hc
    simpa [List.getElem?_take, List.getElem?_drop, Value.cells] using h4
  obtain ⟨x, hx, hxw⟩ := key 0 (by omega)
  obtain ⟨y, hy, hyw⟩ := key 1 (by omega)
  refine ⟨x, y, ?_, hxw, hyw⟩
  have : cs = #[.int k x, .int k y] := by
    apply Array.ext_getElem?
    intro i
    rcases i with _ | _ | i
    · simpa using hx
    · simpa using hy
    · rw [Array.getElem?_eq_none (by omega)]; simp
  rw [this]

end Go.Ab
