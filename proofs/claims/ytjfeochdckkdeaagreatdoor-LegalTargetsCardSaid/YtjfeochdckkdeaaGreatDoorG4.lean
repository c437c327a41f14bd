/- An evaluator of the model on values that are partly known, and its soundness (text G4); no condition. -/
import Derived.Test.YtjfeochdckkdeaaGreatDoorG3
import Derived.WalkKit
import Derived.ProofKit
import Derived.OpenShut
import Derived.Deep.DeepHandedRow
import Derived.Lib.LaidTab
import Derived.Stop.LaidErr
namespace Go.Ab
open Go.RowKit Go.ChangeShapes Go.WideShapes
variable {P : Program}
def isK (d : Option TypeDesc) (k : IntKind) : Bool := match d with | some (.int k') => decide (k' = k) | _ => false
theorem isK_ok {d : Option TypeDesc} {k : IntKind} (h : isK d k = true) : d = some (.int k) := by
 unfold isK at h
 split at h
 ·rw [of_decide_eq_true h]
 ·cases h
theorem rows_cells {enc : TypeId × Value → Unit} {W : World} {base : Nat} {sp : Nat → Bool} {held : Bool} {fuel : Nat} {t e : TypeId} {n m : Nat} {k : IntKind} {fs : Array Field} {cs : List Value} {rs : List (List Int)} {p : List MemPlace}
  (ht : P.underlying t = some (.array n e)) (he : P.underlying e = some (.struct fs)) (hce : P.cellsOf e = m) (hfs : fs.size = m) (hf : ∀ (j : Nat) (f : Field), fs[j]? = some f → f.offset = j ∧ P.underlying f.type = some (.int k) ∧ P.cellsOf f.type = 1)
  (h : DataW.trod enc P W base sp held fuel t cs = some (.agg (rs.map fun r => .agg (r.map fun z => .lit (.int k z))), p)) (i j : Nat) (r : List Int) (z : Int) (hi : rs[i]? = some r) (hj : r[j]? = some z) : cs[i * m + j]? = some (.int k z) := by
 obtain ⟨xs, m', rfl, hx, hl, hxl, hel⟩ := DataW.trod_array ht h
 simp only [Prod.mk.injEq, DataW.agg.injEq] at hx
 have hxs := hx.1
 have hin : i < n := by
  have h1 := congrArg List.length hxs
  simp at h1
  have := (List.getElem?_eq_some_iff.1 hi).1
  omega
 have hx1 : (xs.map (·.1))[i]? = some (.agg (r.map fun z => .lit (.int k z))) := by rw [← hxs]; simp [hi]
 simp only [List.getElem?_map, Option.map_eq_some_iff] at hx1
 obtain ⟨x, hx2, hx3⟩ := hx1
 have h2 := hel i hin
 rw [hx2] at h2
 obtain ⟨ys, m2, rfl, hy, hl2, hyl, hel2⟩ := DataW.trod_struct he h2
 have hy1 : (ys.map (·.1)) = r.map fun z => (.lit (.int k z) : DataW Unit) := by
  have : x.1 = .agg (ys.map (·.1)) := by rw [hy]
  rw [hx3] at this
  simpa using this.symm
 have hjm : j < m := by
  have h1 := congrArg List.length hy1
  simp at h1
  have := (List.getElem?_eq_some_iff.1 hj).1
  omega
 obtain ⟨f, hff⟩ : ∃ f, fs[j]? = some f := ⟨fs[j]'(by omega), by simp⟩
 obtain ⟨f1, f2, f3⟩ := hf j f hff
 have h3 := hel2 j f hff
 have hy2 : (ys.map (·.1))[j]? = some (.lit (.int k z)) := by rw [hy1]; simp [hj]
 simp only [List.getElem?_map, Option.map_eq_some_iff] at hy2
 obtain ⟨y, hy3, hy4⟩ := hy2
 rw [hy3, f1, f3] at h3
 obtain ⟨z', hc, rfl, _⟩ := DataW.trod_int f2 h3
 simp only [DataW.lit.injEq, Lit.int.injEq, true_and] at hy4
 subst hy4
 have h4 := congrArg (fun l : List Value => l[0]?) hc
 simp only [List.getElem?_take, List.getElem?_drop, hce, Nat.add_zero] at h4
 simpa [hjm] using h4
def TabAt (W : World) (g : Nat) (o : O) : Prop := ∀ k j v, k < o.len → j < o.wid → o.cell k j = some v → ∃ u, W.cell? ⟨g, k * o.wid + j, none⟩ = some u ∧ ∀ ρ, VR ρ v u
theorem tabAt_rows {W : World} {name : String} {g : Nat} {t e : TypeId} {n m : Nat} {k : IntKind} {fs : Array Field} {rs : List (List Int)} {rest : List (String × DataW Unit)}
  (hg : P.globalNamed name = some g) (hty : (P.globals[g]?).map (·.type) = some t) (ht : P.underlying t = some (.array n e)) (he : P.underlying e = some (.struct fs)) (hce : P.cellsOf e = m) (hfs : fs.size = m)
  (hf : (fs.toList.zipIdx.all fun p => p.1.offset == p.2 && isK (P.underlying p.1.type) k && P.cellsOf p.1.type == 1) = true)
  (hwf : (rs.all fun r => r.length == m) = true) (h : laidMet P ((name, .agg (rs.map fun r => .agg (r.map fun z => .lit (.int k z)))) :: rest) W) : TabAt W g (.rows false (List.replicate m k) rs) := by
 obtain ⟨ps, ⟨g', t', cs, fuel, p, q, hg', ht', hvar, hd, _, _⟩, _⟩ := h
 obtain rfl := Option.some.inj (hg.symm.trans hg')
 obtain rfl := Option.some.inj (hty.symm.trans ht')
 intro a b v ha hb hv
 simp only [O.len] at ha
 simp only [O.wid, List.length_replicate] at hb
 have hf' : ∀ (j : Nat) (f : Field), fs[j]? = some f → f.offset = j ∧ P.underlying f.type = some (.int k) ∧ P.cellsOf f.type = 1 := by
  intro j f hj
  have hmem : (f, j) ∈ fs.toList.zipIdx := by
   rw [List.mem_zipIdx_iff_getElem?]
   simpa using hj
  have := List.all_eq_true.1 hf _ hmem
  simp only [Bool.and_eq_true, beq_iff_eq] at this
  exact ⟨this.1.1, isK_ok this.1.2, this.2⟩
 have hr : rs[a]? = some (rs[a]'ha) := by simp [ha]
 have hlen : (rs[a]'ha).length = m := by
  have := List.all_eq_true.1 hwf _ (List.getElem_mem ha)
  simpa using this
 have hz : (rs[a]'ha)[b]? = some ((rs[a]'ha)[b]'(by omega)) := by simp [hlen, hb]
 have hc := rows_cells ht he hce hfs hf' hd a b _ _ hr hz
 have hcell := World.var?_cell hg hvar (a * m + b)
 rw [Array.getElem?_toList] at hc
 refine ⟨_, by simp only [O.wid, List.length_replicate]; rw [hcell]; exact hc, fun ρ => ?_⟩
 have hkb : (List.replicate m k)[b]? = some k := by simp [hb]
 simp only [O.cell, hkb, Option.some.injEq] at hv
 subst hv
 simp [VR, List.getD, hr, hz]
def gRen (G : List O) : Ren := fun i => match Nat.ble gbase i with
 | true => (G[i - gbase]?).map fun o => { blk := i - gbase, base := 0, m := o.wid, n := o.len, cp := o.len, ph := false }
 | false => none
theorem frozen_below {W W' : World} (h : Below W.heap.size W W') {b off : Nat} (hb : b < W.heap.size) : W'.frozen? ⟨b, off, none⟩ = W.frozen? ⟨b, off, none⟩ := by
 unfold World.frozen?
 rw [h.block b hb]
section
variable {H : Type} {enc : TypeId × Value → H} {w : World}
theorem trodAll_stays (hl : laidOutB P = true) {W W' : World} {sp' : Nat → Bool} : ∀ {ts : List TypeId} {vs : List Value} {ds : List (DataW H)} {ps : List MemPlace}, (ts.all fun t => P.readableRec t && decide (t < P.types.size)) = true →
  DataW.TrodAll enc P W 0 (fun _ => true) true ts vs ds ps → (∀ p ∈ ps, W.sameAt W' p) → (∀ p ∈ ps, sp' p.block = true) → DataW.TrodAll enc P W' 0 sp' true ts vs ds ps
 | [], _, _, _, _, h, _, _ => by
  obtain ⟨rfl, rfl, rfl⟩ := trodAll_nil h
  exact trodAll_mk0
 | t :: ts, _, _, _, hr, h, h1, h2 => by
  obtain ⟨v, vs, d, ds, p, q, rfl, rfl, rfl, ha, hb⟩ := trodAll_cons h
  simp only [List.all_cons, Bool.and_eq_true, decide_eq_true_eq] at hr
  exact trodAll_cons_mk (WideElems.Trod_stays hl hr.1.1 hr.1.2 ha (fun x hx => h1 x (List.mem_append_left _ hx)) (fun x hx => h2 x (List.mem_append_left _ hx)))
   (trodAll_stays hl hr.2 hb (fun x hx => h1 x (List.mem_append_right _ hx)) (fun x hx => h2 x (List.mem_append_right _ hx)))
end
theorem law_post {H : Type} {enc : TypeId × Value → H} {f : Func} {s : ChangeSpec} {apart fresh handsOn again : Bool} {W W' : World} {args : Array Value} {ds gs : List (DataW H)} {before : List MemPlace} {tb : TypeId}
  (hW : DataW.Whole enc P f.params.toList s.vars apart W args.toList ds gs before) (hv : s.vars = []) (hfn : s.fn H (ds ++ gs) = { results := [.lit (.bool true)], args := ds })
  (hb : Below W.heap.size W W') (hl : laidOutB P = true) (hr : (f.params.toList.all fun t => P.readableRec t && decide (t < P.types.size)) = true) (hrt : f.resultTypes = #[tb]) (htb : P.underlying tb = some .bool) :
  s.post enc P f apart fresh handsOn again W args (.bool true) W' := by
 have hlt := hW.lt
 have hW' := hW
 obtain ⟨p, q, hA, hV, rfl, hz, hn⟩ := hW
 rw [hv] at hV
 obtain ⟨rfl, rfl⟩ := trodVars_none hV
 have hsame : ∀ x ∈ p, W.sameAt W' x := fun x hx => hb.same (hlt x (List.mem_append_left _ hx))
 have hargs : ∀ sp : Nat → Bool, (∀ x ∈ p, sp x.block = true) → DataW.TrodAll enc P W' 0 sp true f.params.toList args.toList ds p := fun sp hs => trodAll_stays hl hr hA hsame hs
 have hres : ∀ (b : Nat) (sp : Nat → Bool) (hd : Bool), DataW.TrodAll enc P W' b sp hd f.resultTypes.toList ((Value.bool true).resultList f.resultTypes.size) [.lit (.bool true)] [] := fun b sp hd => by
  rw [hrt]
  exact trodAll_mk1 (shut_bool htb true)
 refine ⟨ds, [], p ++ [], [], p, [], hW', ?_, ?_, ?_, hb.frame _, fun _ => ?_⟩
 ·rw [hfn]; exact hres _ _ _
 ·rw [hfn]; exact hargs _ (fun x hx => by simpa using hlt x (List.mem_append_left _ hx))
 ·rw [hfn, hv]; rfl
 ·refine ⟨ok_one hrt rfl (okWide_bool_mk htb true), _, [], (([] ++ p) ++ []), ⟨[] ++ p, [], trodAll_append (hargs _ (fun _ _ => rfl)) (hres _ _ _), by rw [hv]; rfl, rfl, ?_, ?_⟩, ?_⟩
  ·intro b off hp
   have hp' : MemPlace.cell b off ∈ p ++ [] := by simpa using hp
   rw [frozen_below hb (b := b) (hlt _ hp')]
   exact hz b off hp'
  ·intro ha
   have := hn ha
   simpa using this
  ·intro x hx _
   simpa using hx
theorem cell_int {W : World} {base : Nat} {t : TypeId} {k : IntKind} {v : Value} (ht : P.underlying t = some (.int k)) (h : Cell.okWide P W .any base t v) : ∃ n, v = .int k n ∧ k.min ≤ n ∧ n ≤ k.max := by
 unfold Cell.okWide Cell.ok at h
 rw [ht] at h
 cases v <;> simp at h
 obtain ⟨rfl, h1, h2⟩ := h
 exact ⟨_, rfl, h1, h2⟩
theorem cell_bool {W : World} {base : Nat} {t : TypeId} {v : Value} (ht : P.underlying t = some .bool) (h : Cell.okWide P W .any base t v) : ∃ b, v = .bool b := by
 unfold Cell.okWide Cell.ok at h
 rw [ht] at h
 cases v <;> simp at h
 exact ⟨_, rfl⟩
theorem row_cell {W : World} {base : Nat} {t : TypeId} {ts : List TypeId} {cs : Array Value} (h : Row.okWide P W .any base t cs) (hts : P.cellTypes P.depth t = some ts) (hn : cs.size = ts.length) {i : Nat} {u : TypeId} (hu : ts[i]? = some u) : ∃ v, cs[i]? = some v ∧ Cell.okWide P W .any base u v := by
 obtain ⟨ts', h1, _, h3⟩ := h
 rw [hts] at h1
 obtain rfl := Option.some.inj h1
 have hi := (List.getElem?_eq_some_iff.1 hu).1
 have hc : cs[i]? = some (cs[i]'(by omega)) := by simp
 obtain ⟨u', h4, h5⟩ := h3 i _ hc
 rw [Nat.mod_eq_of_lt hi, hu] at h4
 obtain rfl := Option.some.inj h4
 exact ⟨_, hc, h5⟩
theorem slice_rg {H : Type} {enc : TypeId × Value → H} {W : World} {base : Nat} {sp : Nat → Bool} {held : Bool} {b0 fuel : Nat} {t e : TypeId} {k : IntKind} {v : Value} {x : DataW H × List MemPlace} (ht : P.underlying t = some (.slice e)) (he : P.underlying e = some (.int k)) (hc : P.cellsOf e = 1)
  (hok : Cell.okWide P W .any b0 t v) (h : DataW.trod enc P W base sp held fuel t [v] = some x) :
  ∃ (r : Rg) (zs : List Int), (∀ (ρ : Ren) b, ρ b = some r → VR ρ (.sl b 0 zs.length none) v) ∧ (∀ ρ, OR ρ (.ints false k zs) r W) ∧ (∀ n ∈ zs, (Lit.int k n).wf = true) := by
 rcases open_ints ht he hc h with ⟨h1, _⟩ | ⟨a, len, cap, zs, h1, _, h3, _, h5, _, h7, h8⟩
 ·obtain rfl : v = .slice none 0 0 := by simpa using h1
  refine ⟨{ blk := 0, base := 0, m := 1, n := 0, cp := 0, ph := true }, [], fun ρ b hb => ⟨_, hb, by simp, fun _ => ⟨rfl, rfl⟩, fun e => by cases e⟩, fun ρ => ?_, by simp⟩
  exact ⟨by simp, by simp, trivial, rfl, fun _ => rfl, fun e => (by cases e), fun e => (by cases e), fun e => (by cases e), fun e => (by cases e), fun e => (by cases e)⟩
 ·obtain rfl : v = .slice (some a) len cap := by simpa using h1
  have hhas : P.underlying t = some (.slice e) := ht
  unfold Cell.okWide Cell.ok at hok
  rw [hhas] at hok
  simp only at hok
  obtain ⟨_, _, _, hspot, row, cells, hshape, _⟩ := hok
  have hlt : a.block < W.heap.size := by
   unfold World.shape? at hshape
   split at hshape
   ·rename_i hx; exact (Array.getElem?_eq_some_iff.1 hx).1
   ·cases hshape
  have hlen : len ≤ zs.length := by rw [h5]; split <;> omega
  have hl2 : (zs.take len).length = len := by simp; omega
  obtain ⟨blk, off, spot⟩ := a
  dsimp only at hspot hlt
  subst hspot
  refine ⟨{ blk := blk, base := off, m := 1, n := len, cp := cap, ph := false }, zs.take len, fun ρ b hb => ⟨_, hb, by simp only [hl2]; omega, fun e => (by cases e), fun _ => ⟨by simp only [hl2]; simpa using h3, _, by simp only [hl2]; rfl, fun _ => by simp⟩⟩, fun ρ => ?_, fun n hn => h8 n (List.mem_of_mem_take hn)⟩
  refine ⟨by simp, by simp, trivial, hl2.symm, fun e => (by cases e), fun _ => hlt, fun _ => rfl, fun _ => h3, fun _ i j u hi hj hu => ?_, fun e => (by cases e)⟩
  simp only [O.len, hl2] at hi
  simp only [O.wid] at hj
  obtain rfl : j = 0 := by omega
  simp only [O.cell, Option.some.injEq] at hu
  subst hu
  have hcell := h7 i (by omega)
  rw [add_plain] at hcell
  refine ⟨_, by simpa using hcell, ?_⟩
  have hi2 : i < zs.length := by omega
  simp [VR, List.getD, hi]
theorem field_trod {H : Type} {enc : TypeId × Value → H} {W : World} {base : Nat} {sp : Nat → Bool} {held : Bool} {t : TypeId} {fs : Array Field} {cs : Array Value} {d : DataW H} {ps : List MemPlace} (ht : P.underlying t = some (.struct fs))
  (h : DataW.Trod enc P W base sp held t (.agg cs) d ps) {j : Nat} {f : Field} (hf : fs[j]? = some f) (hc : P.cellsOf f.type = 1) {s : Value} (hs : cs[f.offset]? = some s) : ∃ fuel x, DataW.trod enc P W base sp held fuel f.type [s] = some x := by
 obtain ⟨fuel, h⟩ := h
 obtain ⟨xs, m, _, _, _, hxl, hel⟩ := DataW.trod_struct ht h
 have h3 := hel j f hf
 have hj := (Array.getElem?_eq_some_iff.1 hf).1
 obtain ⟨x, hx⟩ : ∃ x, xs[j]? = some x := ⟨xs[j]'(by omega), by simp⟩
 rw [hx, hc] at h3
 have e : (cs.toList.drop f.offset).take 1 = [s] := by
  have hlt := (Array.getElem?_eq_some_iff.1 hs).1
  have hl : cs.toList[f.offset]? = some s := by simpa using hs
  apply List.ext_getElem?
  intro i
  cases i with
  | zero => simpa [List.getElem?_take, List.getElem?_drop] using hl
  | succ i => simp [List.getElem?_take]
 refine ⟨m, x, ?_⟩
 rw [← e]
 exact h3
end Go.Ab

namespace Go.Ab
open Go.RowKit Go.ChangeShapes Go.WideShapes
variable {P : Program}
def litV : Lit → V
 | .bool b => .lit b
 | .int k n => .int k n
 | _ => .junk
def fieldK (d : Option TypeDesc) (l : Lit) : Bool := match d, l with
 | some (.int k), .int k' _ => decide (k = k')
 | some .bool, .bool _ => true
 | _, _ => false
theorem struct_lits {enc : TypeId × Value → Unit} {W : World} {base : Nat} {sp : Nat → Bool} {held : Bool} {fuel : Nat} {e : TypeId} {fs : Array Field} {cs : List Value} {r : List Lit} {p : List MemPlace}
  (he : P.underlying e = some (.struct fs)) (hf : (fs.toList.zipIdx.all fun q => q.1.offset == q.2 && P.cellsOf q.1.type == 1 && (match r[q.2]? with | some l => fieldK (P.underlying q.1.type) l | none => false)) = true)
  (h : DataW.trod enc P W base sp held fuel e cs = some (.agg (r.map fun l => .lit l), p)) (j : Nat) (l : Lit) (hj : r[j]? = some l) : ∃ v, cs[j]? = some v ∧ ∀ ρ, VR ρ (litV l) v := by
 obtain ⟨ys, m2, rfl, hy, hl2, hyl, hel2⟩ := DataW.trod_struct he h
 have hy1 : ys.map (·.1) = r.map fun l => (.lit l : DataW Unit) := by
  simp only [Prod.mk.injEq, DataW.agg.injEq] at hy
  exact hy.1.symm
 have hjm : j < fs.size := by
  have h1 := congrArg List.length hy1
  simp at h1
  have := (List.getElem?_eq_some_iff.1 hj).1
  omega
 obtain ⟨f, hff⟩ : ∃ f, fs[j]? = some f := ⟨fs[j]'(by omega), by simp⟩
 have hmem : (f, j) ∈ fs.toList.zipIdx := by
  rw [List.mem_zipIdx_iff_getElem?]
  simpa using hff
 have hfj := List.all_eq_true.1 hf _ hmem
 simp only [Bool.and_eq_true, beq_iff_eq, hj] at hfj
 obtain ⟨⟨f1, f2⟩, f3⟩ := hfj
 have h3 := hel2 j f hff
 have hy2 : (ys.map (·.1))[j]? = some (.lit l) := by rw [hy1]; simp [hj]
 simp only [List.getElem?_map, Option.map_eq_some_iff] at hy2
 obtain ⟨y, hy3, hy4⟩ := hy2
 rw [hy3, f1, f2] at h3
 have get : ∀ {v : Value}, (cs.drop j).take 1 = [v] → cs[j]? = some v := by
  intro v hc
  have h4 := congrArg (fun l : List Value => l[0]?) hc
  simpa [List.getElem?_take, List.getElem?_drop] using h4
 unfold fieldK at f3
 split at f3
 ·rename_i k k' n hk
  obtain rfl := of_decide_eq_true f3
  obtain ⟨z', hc, rfl, _⟩ := DataW.trod_int hk h3
  simp only [DataW.lit.injEq, Lit.int.injEq, true_and] at hy4
  subst hy4
  exact ⟨_, get hc, fun ρ => rfl⟩
 ·rename_i b hk
  obtain ⟨z', hc, rfl⟩ := DataW.trod_bool hk h3
  simp only [DataW.lit.injEq, Lit.bool.injEq] at hy4
  subst hy4
  exact ⟨_, get hc, fun ρ => rfl⟩
 ·cases f3
theorem tabAt_lits {W : World} {name : String} {g : Nat} {t e : TypeId} {n m : Nat} {fs : Array Field} {rs : List (List Lit)} {rest : List (String × DataW Unit)}
  (hg : P.globalNamed name = some g) (hty : (P.globals[g]?).map (·.type) = some t) (ht : P.underlying t = some (.array n e)) (he : P.underlying e = some (.struct fs)) (hce : P.cellsOf e = m)
  (hf : (rs.all fun r => r.length == m && fs.toList.zipIdx.all fun q => q.1.offset == q.2 && P.cellsOf q.1.type == 1 && (match r[q.2]? with | some l => fieldK (P.underlying q.1.type) l | none => false)) = true)
  (h : laidMet P ((name, .agg (rs.map fun r => .agg (r.map fun l => .lit l))) :: rest) W) {k : Nat} (_hk : k = n * m) (hm : 0 < m) {l : List V} (hl : l = rs.flatMap fun r => r.map litV) : TabAt W g (.vals false k [l]) := by
 obtain ⟨ps, ⟨g', t', cs, fuel, p, q, hg', ht', hvar, hd, _, _⟩, _⟩ := h
 obtain rfl := Option.some.inj (hg.symm.trans hg')
 obtain rfl := Option.some.inj (hty.symm.trans ht')
 intro a b v ha hb hv
 simp only [O.len, List.length_singleton] at ha
 obtain rfl : a = 0 := by omega
 simp only [O.wid] at hb
 simp only [O.cell, List.getElem?_cons_zero] at hv
 obtain ⟨xs, m', rfl, hx, hl', hxl, hel⟩ := DataW.trod_array ht hd
 simp only [Prod.mk.injEq, DataW.agg.injEq] at hx
 have hxs := hx.1
 have hrl : rs.length = n := by
  have h1 := congrArg List.length hxs
  simp at h1
  omega
 -- the row and the place in it
 have hlen : ∀ r ∈ rs, (r.map litV).length = m := fun r hr => by
  have := List.all_eq_true.1 hf r hr
  simp only [Bool.and_eq_true, beq_iff_eq] at this
  simpa using this.1
 have flat : ∀ (rs : List (List Lit)), (∀ r ∈ rs, (r.map litV).length = m) → ∀ (b : Nat) v, (rs.flatMap fun r => r.map litV)[b]? = some v → ∃ r, rs[b / m]? = some r ∧ (r.map litV)[b % m]? = some v := by
  intro rs
  induction rs with
  | nil => intro _ b v hv; simp at hv
  | cons r rs ih =>
   intro hlen b v hv
   have hr := hlen r (by simp)
   simp only [List.flatMap_cons] at hv
   rcases Nat.lt_or_ge b m with hb | hb
   ·rw [List.getElem?_append_left (by omega)] at hv
    rw [Nat.div_eq_of_lt hb, Nat.mod_eq_of_lt hb]
    exact ⟨r, rfl, hv⟩
   ·rw [List.getElem?_append_right (by omega), hr] at hv
    obtain ⟨r', h1, h2⟩ := ih (fun r hr => hlen r (by simp [hr])) (b - m) v hv
    refine ⟨r', ?_, ?_⟩
    ·have : b / m = (b - m) / m + 1 := by
      have := Nat.div_eq_sub_div hm hb
      omega
     rw [this]; simpa using h1
    ·rw [Nat.mod_eq_sub_mod hb]; exact h2
 subst hl
 obtain ⟨r, h1, h2⟩ := flat rs hlen b v hv
 simp only [List.getElem?_map, Option.map_eq_some_iff] at h2
 obtain ⟨lt, h3, rfl⟩ := h2
 have hin : b / m < n := by rw [← hrl]; exact (List.getElem?_eq_some_iff.1 h1).1
 have hx1 : (xs.map (·.1))[b / m]? = some (.agg (r.map fun l => .lit l)) := by rw [← hxs]; simp [h1]
 simp only [List.getElem?_map, Option.map_eq_some_iff] at hx1
 obtain ⟨x, hx2, hx3⟩ := hx1
 have h4 := hel (b / m) hin
 rw [hx2] at h4
 have hrm := List.all_eq_true.1 hf r (List.mem_of_getElem? h1)
 simp only [Bool.and_eq_true] at hrm
 have hxe : x = (.agg (r.map fun l => .lit l), x.2) := by rw [← hx3]
 rw [hxe] at h4
 obtain ⟨v, hc, hvr⟩ := struct_lits he hrm.2 h4 (b % m) lt h3
 have hbm : b % m < m := Nat.mod_lt _ hm
 rw [hce, List.getElem?_take, if_pos hbm, List.getElem?_drop, Nat.mul_comm, Nat.div_add_mod] at hc
 have hcell := World.var?_cell hg hvar b
 rw [Array.getElem?_toList] at hc
 exact ⟨v, by rw [Nat.zero_mul, Nat.zero_add, hcell]; exact hc, hvr⟩
theorem tabAt_struct {W : World} {name : String} {g : Nat} {e : TypeId} {m : Nat} {k : IntKind} {fs : Array Field} {zs : List Int} {rest : List (String × DataW Unit)}
  (hg : P.globalNamed name = some g) (hty : (P.globals[g]?).map (·.type) = some e) (he : P.underlying e = some (.struct fs)) (hm : zs.length = m)
  (hf : (fs.toList.zipIdx.all fun q => q.1.offset == q.2 && P.cellsOf q.1.type == 1 && (match (zs.map fun z => Lit.int k z)[q.2]? with | some l => fieldK (P.underlying q.1.type) l | none => false)) = true)
  (h : laidMet P ((name, .agg ((zs.map fun z => Lit.int k z).map fun l => .lit l)) :: rest) W) : TabAt W g (.rows false (List.replicate m k) [zs]) := by
 obtain ⟨ps, ⟨g', t', cs, fuel, p, q, hg', ht', hvar, hd, _, _⟩, _⟩ := h
 obtain rfl := Option.some.inj (hg.symm.trans hg')
 obtain rfl := Option.some.inj (hty.symm.trans ht')
 intro a b v ha hb hv
 simp only [O.len, List.length_singleton] at ha
 obtain rfl : a = 0 := by omega
 simp only [O.wid, List.length_replicate] at hb
 have hkb : (List.replicate m k)[b]? = some k := by simp [hb]
 simp only [O.cell, hkb, Option.some.injEq] at hv
 subst hv
 have hz : (zs.map fun z => Lit.int k z)[b]? = some (.int k (zs.getD b 0)) := by
  rw [List.getElem?_map]
  simp [List.getD, show b < zs.length by omega]
 obtain ⟨u, hc, hvr⟩ := struct_lits he hf hd b _ hz
 have hcell := World.var?_cell hg hvar b
 rw [Array.getElem?_toList] at hc
 exact ⟨u, by rw [Nat.zero_mul, Nat.zero_add, hcell]; exact hc, fun ρ => hvr ρ⟩
theorem tabAt_ints {W : World} {name : String} {g : Nat} {t e : TypeId} {n : Nat} {k : IntKind} {zs : List Int} {rest : List (String × DataW Unit)}
  (hg : P.globalNamed name = some g) (hty : (P.globals[g]?).map (·.type) = some t) (ht : P.underlying t = some (.array n e)) (he : P.underlying e = some (.int k)) (hce : P.cellsOf e = 1) (hct : P.cellsOf t = n)
  (h : laidMet P ((name, .agg (zs.map fun z => .lit (.int k z))) :: rest) W) : TabAt W g (.ints false k zs) := by
 have hT := Lib.tabIs_of_head (zs := zs) hg hty ht he hce hct h
 intro a b v ha hb hv
 simp only [O.wid] at hb
 obtain rfl : b = 0 := by omega
 simp only [O.cell, Option.some.injEq] at hv
 subst hv
 have hc := hT.cell hg a ha
 exact ⟨_, by simpa [O.wid] using hc, fun ρ => rfl⟩
theorem tab_lt {W : World} {g : Nat} {o : O} (h : TabAt W g o) (hk : Nat.blt 0 o.len = true) (hj : Nat.blt 0 o.wid = true) (hc : (o.cell 0 0).isSome = true) : g < W.heap.size := by
 obtain ⟨v, hv⟩ := Option.isSome_iff_exists.1 hc
 obtain ⟨u, hu, _⟩ := h 0 0 v (blt_lt hk) (blt_lt hj) hv
 obtain ⟨ob, h1, _⟩ := cells_of_cell hu
 exact (Array.getElem?_eq_some_iff.1 h1).1
theorem start_hr2 {G : List O} {W : World} {B : Nat} (htab : ∀ (g : Nat) o, G[g]? = some o → TabAt W g o) (hlt : ∀ (g : Nat) o, G[g]? = some o → g < W.heap.size) (hG : (G.all fun o => o.tab && Nat.blt 0 o.len && Nat.blt 0 o.wid) = true) (hwf : ∀ o ∈ G, o.wf) : HR G B (gRen G) [] W := by
 have hget : ∀ b r, gRen G b = some r → gbase ≤ b ∧ ∃ o, G[b - gbase]? = some o ∧ r = { blk := b - gbase, base := 0, m := o.wid, n := o.len, cp := o.len, ph := false } ∧ getO G [] b = o := by
  intro b r h
  unfold gRen at h
  split at h
  ·rename_i hb
   have hb := Nat.le_of_ble_eq_true hb
   obtain ⟨o, ho, rfl⟩ := Option.map_eq_some_iff.1 h
   exact ⟨hb, o, ho, rfl, by rw [getO_glob hb]; simp [List.getD, ho]⟩
  ·cases h
 have hall : ∀ (g : Nat) o, G[g]? = some o → o.tab = true ∧ 0 < o.len ∧ 0 < o.wid := by
  intro g o ho
  have := List.all_eq_true.1 hG o (List.mem_of_getElem? ho)
  simp only [Bool.and_eq_true] at this
  exact ⟨this.1.1, blt_lt this.1.2, blt_lt this.2⟩
 have hown : ∀ (g : Nat) o, G[g]? = some o → o.own = false := fun g o ho => (O.tab_data (hall g o ho).1).2
 refine ⟨?_, ?_, ?_, ?_, ?_, ?_, by simp [gbase]⟩
 ·intro b r h _
  obtain ⟨hb, o, ho, rfl, hgo⟩ := hget b r h
  rw [hgo]
  obtain ⟨a1, a2, a3⟩ := hall _ o ho
  have hne : o ≠ .gone ∧ o ≠ .rsv := by cases o <;> simp [O.tab] at a1 ⊢
  refine ⟨hne.1, hne.2, hwf o (List.mem_of_getElem? ho), rfl, (by simp), fun _ => ?_, fun _ => rfl, fun _ => Nat.le_refl _, fun _ k j v hk hj hv => ?_, fun h => ?_⟩
  ·exact hlt _ o ho
  ·obtain ⟨u, hu, hv'⟩ := htab _ o ho k j v hk hj hv
   exact ⟨u, by simpa using hu, hv' _⟩
  ·rw [hown _ o ho] at h; cases h
 ·intro b _ hb
  unfold gRen
  split
  ·rename_i h; have := Nat.le_of_ble_eq_true h; omega
  ·rfl
 ·intro b hb
  cases h : gRen G b with
  | none => rfl
  | some r =>
   obtain ⟨_, o, ho, _, hgo⟩ := hget b r h
   rw [hgo] at hb
   subst hb
   have := (hall _ _ ho).1
   cases this
 ·intro b r h ho
  obtain ⟨_, o, ho2, _, hgo⟩ := hget b r h
  rw [hgo, hown _ o ho2] at ho; cases ho
 ·intro b b' r r' h _ _ _ _ ho
  obtain ⟨_, o, ho2, _, hgo⟩ := hget b r h
  rw [hgo, hown _ o ho2] at ho; cases ho
 ·intro g o ho
  refine ⟨{ blk := gbase + g - gbase, base := 0, m := o.wid, n := o.len, cp := o.len, ph := false }, ?_, by simp, rfl, rfl, rfl, (hall g o ho).2.1, (hall g o ho).1⟩
  unfold gRen
  rw [show Nat.ble gbase (gbase + g) = true from Nat.ble_eq_true_of_le (by omega)]
  simp [ho]
end Go.Ab

namespace Go.Ab
open Go.RowKit
variable {P : Program}
mutual
def V.inA (bs : List Nat) : V → Bool
 | .sl b _ _ _ => bs.any (Nat.beq b)
 | .lit _ | .bool _ | .int _ _ | .str _ | .nils => true
 | .agg l => inAL bs l
 | .tup l => inAL bs l
 | _ => false
def inAL (bs : List Nat) : List V → Bool
 | [] => true
 | v :: l => V.inA bs v && inAL bs l
end
mutual
theorem inA_ok {bs : List Nat} {ρ ρ' : Ren} (hm : ∀ b r, b ∈ bs → ρ b = some r → ρ' b = some r) : ∀ (v : V) (u : Value), V.inA bs v = true → VR ρ v u → VR ρ' v u
 | .sl b k len cap, u, h, hv => by
  simp only [V.inA, List.any_eq_true] at h
  obtain ⟨b', hb, e⟩ := h
  obtain rfl := Nat.eq_of_beq_eq_true e
  obtain ⟨r, hr, x⟩ := hv
  exact ⟨r, hm _ _ hb hr, x⟩
 | .agg l, u, h, hv => by obtain ⟨us, rfl, hus⟩ := hv; exact ⟨us, rfl, inAL_ok hm l us h hus⟩
 | .tup l, u, h, hv => by obtain ⟨us, rfl, hus⟩ := hv; exact ⟨us, rfl, inAL_ok hm l us h hus⟩
 | .lit _, _, _, hv => hv
 | .bool _, _, _, hv => hv
 | .int _ _, _, _, hv => hv
 | .str _, _, _, hv => hv
 | .nils, _, _, hv => hv
 | .ptr _ _ _, _, h, _ => by cases h
 | .nilp, _, h, _ => by cases h
 | .fn _ _, _, h, _ => by cases h
 | .nilf, _, h, _ => by cases h
 | .yl _, _, h, _ => by cases h
 | .nili, _, h, _ => by cases h
 | .when _ _, _, h, _ => by cases h
 | .junk, _, h, _ => by cases h
theorem inAL_ok {bs : List Nat} {ρ ρ' : Ren} (hm : ∀ b r, b ∈ bs → ρ b = some r → ρ' b = some r) : ∀ (l : List V) (us : List Value), inAL bs l = true → VRL ρ l us → VRL ρ' l us
 | [], _, _, hv => hv
 | v :: l, us, h, hv => by
  simp only [inAL, Bool.and_eq_true] at h
  obtain ⟨u, r, rfl, h1, h2⟩ := hv
  exact ⟨u, r, rfl, inA_ok hm v u h.1 h1, inAL_ok hm l r h.2 h2⟩
end
mutual
theorem sls_known {ρ : Ren} : ∀ (v : V) (u : Value), VR ρ v u → ∀ b, b ∈ (V.sls v).map (·.1) → ∃ r, ρ b = some r
 | .sl b k len cap, u, hv, b', hb => by
  obtain ⟨r, hr, _⟩ := hv
  simp only [V.sls, List.map_cons, List.map_nil, List.mem_singleton] at hb
  exact ⟨r, hb ▸ hr⟩
 | .agg l, u, hv, b', hb => by obtain ⟨us, rfl, hus⟩ := hv; rw [V.sls] at hb; exact slsL_known l us hus b' hb
 | .fn _ l, u, hv, b', hb => by obtain ⟨us, rfl, hus⟩ := hv; rw [V.sls] at hb; exact slsL_known l us hus b' hb
 | .tup _, _, _, _, hb => by simp [V.sls] at hb
 | .lit _, _, _, _, hb => by simp [V.sls] at hb
 | .bool _, _, _, _, hb => by simp [V.sls] at hb
 | .int _ _, _, _, _, hb => by simp [V.sls] at hb
 | .str _, _, _, _, hb => by simp [V.sls] at hb
 | .nils, _, _, _, hb => by simp [V.sls] at hb
 | .ptr _ _ _, _, _, _, hb => by simp [V.sls] at hb
 | .nilp, _, _, _, hb => by simp [V.sls] at hb
 | .nilf, _, _, _, hb => by simp [V.sls] at hb
 | .yl _, _, _, _, hb => by simp [V.sls] at hb
 | .nili, _, _, _, hb => by simp [V.sls] at hb
 | .when _ _, _, _, _, hb => by simp [V.sls] at hb
 | .junk, _, _, _, hb => by simp [V.sls] at hb
theorem slsL_known {ρ : Ren} : ∀ (l : List V) (us : List Value), VRL ρ l us → ∀ b, b ∈ (slsL l).map (·.1) → ∃ r, ρ b = some r
 | [], _, _, _, hb => by simp [slsL] at hb
 | v :: l, us, hv, b', hb => by
  obtain ⟨u, r, rfl, h1, h2⟩ := hv
  simp only [slsL, List.map_append, List.mem_append] at hb
  rcases hb with hb | hb
  ·exact sls_known v u h1 b' hb
  ·exact slsL_known l r h2 b' hb
end
def FinA (E : Env) (fn : Func) (args : List V) (v : V) : Exit → Tm → List O → Prop := fun e tm hp =>
 (e = .normal ∨ e = .ret) ∧ ∃ l, resV E tm hp fn.results.toList = some l ∧ oneOrTup l = v ∧ V.inA ((slsL args).map (·.1)) v = true
theorem fn_soundA {E : Env} (hE : E.Fn P) (n : Nat) {f : FuncId} {fn : Func} {c : Code} (hf : P.funcs[f]? = some fn) (hb : fn.body = some c) {args : List V} {H : List O} {v : V} (hlen : Nat.ble args.length fn.ntmps = true)
  (hs : sat E.G P (FinA E fn args v) (evC E (hdl E n) H.length fn.ntmps c (initTm 0 args) H .ret)) (hsm : Nat.blt (H.length + 1) gbase = true := by rfl) : FnSound E.G P f args H v [] := by
 intro ρ us w hh hus
 have hbody := body_okE (gs := []) (n := 0) hE n hf hb hus (Nat.le_of_ble_eq_true hlen) hh (Below.refl _ w) (Nat.le_refl _) (fun p hp => by simp at hp) hs
  (R := fun v0 hp => v0 = v ∧ V.inA ((slsL args).map (·.1)) v = true)
  (fun e tm hp ⟨h1, l, h2, h3, h4⟩ => ⟨tm, hp, Ent.refl _ _ _, h1, l, h2, h3, h4⟩)
 refine (callsIn_wide.1 hbody).mono ?_
 rintro e w' ⟨u, rfl, v0, hp', ρ', hv, hr', hl', hb', _, rfl, h4⟩
 obtain ⟨ρ2, hr2, hl2, hm2⟩ := hh.take (Nat.le_refl _) hr' hb' [] List.nodup_nil (by simp) (by simpa using blt_lt hsm)
 refine ⟨u, ρ2, rfl, inA_ok (fun b r hb hr => ?_) _ _ h4 hv, hr2, hl2, hb'⟩
 obtain ⟨r0, hr0⟩ := slsL_known args us hus b hb
 have := hl' _ _ hr0
 rw [hr] at this
 cases this
 exact hl2 _ _ hr0
end Go.Ab

namespace Go.Ab
open Go.RowKit
variable {E : Env} {P : Program} {G : List O}
theorem fn_soundDM (hE : E.Fn P) (n : Nat) {f : FuncId} {fn : Func} {c rest : Code} (hf : P.funcs[f]? = some fn) (hb : fn.body = some c) {args : List V} {H : List O} {v : V} {N : List O} (hlen : Nat.ble args.length fn.ntmps = true)
  (ds : List DV) {Q1 : Tm → List O → Prop}
  (hpre : ∀ B w0 S ρ a w k Q, Rel E.G B w0 S fn.ntmps [] [] ρ (initTm 0 args) H a w → a.defers = [] →
   (∀ D tm' hp' ρ' a' w', Rel E.G B w0 S fn.ntmps D [] ρ' tm' hp' a' w' → ρ.le ρ' → DRel ρ' ds D → Q1 tm' hp' → rest.wpIn (Fr none) k P Q a' w') → c.wpIn (Fr none) k P Q a w)
  (hs : ∀ tm1 hp1, Q1 tm1 hp1 → H.length ≤ hp1.length ∧ sat E.G P (FinDL E P fn hp1.length H.length v N ds) (evC E (hdl E n) hp1.length fn.ntmps rest tm1 hp1 .ret)) : FnSound E.G P f args H v N := by
 intro ρ us w hh hus
 have hl := hus.length
 have hrel : Rel E.G w.heap.size w w.heap.size fn.ntmps [] [] ρ (initTm 0 args) H { tmps := us.toArray ++ Array.replicate (fn.ntmps - us.toArray.size) undef, defers := [] } w :=
  ⟨by simpa using TR.init ρ args us fn.ntmps hus, hh, Below.refl _ w, by have := Nat.le_of_ble_eq_true hlen; simp; omega, ⟨[], rfl, fun p hp => by simp at hp, by simp, by simp⟩, fun p hp => by simp at hp, Nat.le_refl _, Nat.le_refl _, Nat.le_refl _⟩
 have hbody : CallsIn (Fr none) 0 P f us.toArray w fun e w' => ∃ u, e = .returned u ∧ ∃ v0 hp' ρ', VR ρ' v0 u ∧ HR E.G w.heap.size ρ' hp' w' ∧ ρ.le ρ' ∧ Below w.heap.size w w' ∧
   ∃ bs v4, Like v4 v ∧ V.out bs H.length v0 = some v4 ∧ bs.Nodup ∧ (∀ b ∈ bs, b < gbase ∧ (hp'.getD b .gone).isData = true) ∧ N = bs.map (hp'.getD · .gone) ∧ H.length + bs.length + 1 < gbase := by
  refine callsIn_of_wp_marks hf hb trivial (hpre _ _ _ ρ _ w 0 _ hrel rfl ?_)
  intro D tm1 hp1 ρ1 a1 w1 hr1 hle1 hD hq1
  obtain ⟨hlen1, hs1⟩ := hs tm1 hp1 hq1
  refine wpIn_mono (evC_ok hE.mixed hE.ok (pg_ok hE) (ps_ok hE) (hdl_ok hE n) rest _ _ .ret _ hs1 _ _ _ _ _ ρ1 _ w1 0 none (.inl rfl) hr1) ?_
  rintro e a' w' ⟨tm0, hp0, ρ0, h0, hl0, hs'⟩
  obtain ⟨u, tm2, hp2, hex, hent, hlv⟩ := hs'
  obtain ⟨ρ2, l1, h'⟩ := h0.ent hent
  have hle0 : ρ1.le ρ0 := fun b r e => by
   have hc : b < hp1.length ∨ gbase ≤ b := by
    by_cases h1 : b < hp1.length
    ·exact .inl h1
    ·by_cases h2 : gbase ≤ b
     ·exact .inr h2
     ·rw [hr1.hr.free b (by omega) (by omega)] at e; cases e
   exact hl0 b r hc e
  have hle2 : ρ1.le ρ2 := fun b r e => by
   have hc : b < hp1.length ∨ gbase ≤ b := by
    by_cases h1 : b < hp1.length
    ·exact .inl h1
    ·by_cases h2 : gbase ≤ b
     ·exact .inr h2
     ·rw [hr1.hr.free b (by omega) (by omega)] at e; cases e
   exact l1 b r hc (hle0 b r e)
  have hle : ρ.le ρ2 := Ren.le_trans hle1 hle2
  have hu : u ≠ .run := by rintro rfl; cases e <;> cases hex
  have hpost : LeavesInM (Fr none) 0 P fn a'.tmps (fun e w' => ∃ u, e = .returned u ∧ ∃ v0 hp' ρ', VR ρ' v0 u ∧ HR E.G w.heap.size ρ' hp' w' ∧ ρ.le ρ' ∧ Below w.heap.size w w' ∧
   ∃ bs v4, Like v4 v ∧ V.out bs H.length v0 = some v4 ∧ bs.Nodup ∧ (∀ b ∈ bs, b < gbase ∧ (hp'.getD b .gone).isData = true) ∧ N = bs.map (hp'.getD · .gone) ∧ H.length + bs.length + 1 < gbase) a'.defers u w' := by
   obtain ⟨ms, hd1, hd2, hd3, hd4⟩ := h'.df
   rw [hd1]
   refine leaves_marksD hu ms w' hd2 hd4 fun w2 ht => ?_
   obtain ⟨k1, k2, k3⟩ := h'.took hd2 hd3 (fun p hp => by simp at hp) ht
   refine lv_ok (B := w.heap.size) (w0 := w) (gs := []) (ρb := ρ) rfl (Nat.le_refl _) ?_ ds D u ρ2 tm2 hp2 w2 hle (DRel.mono hle2 _ _ hD) h'.tr k1 k2 k3 hlv
   rintro ρ3 tm3 hp3 w3 hle3 htr3 hh3 hbel3 _ ⟨tm4, hp4, v4, hent4, hlk, _, l, bs, q1, q2⟩
   obtain ⟨ρ4, l4, htr, hh4⟩ := hent4 _ ρ3 a' w3 htr3 hh3
   have hle4 : ρ.le ρ4 := fun b r e => by
    have hc : b < H.length ∨ gbase ≤ b := by
     by_cases h1 : b < H.length
     ·exact .inl h1
     ·by_cases h2 : gbase ≤ b
      ·exact .inr h2
      ·rw [hh.free b (by omega) (by omega)] at e; cases e
    exact l4 b r hc (hle3 b r e)
   obtain ⟨u, hrun, hv⟩ := results_ok hE.ok htr hh4 q1
   exact ⟨u, hrun, u, rfl, _, hp4, ρ4, hv, hh4, hle4, hbel3, bs, v4, hlk, q2⟩
  cases e with
  | normal => cases hex; exact hpost
  | ret => cases hex; exact hpost
  | panic ch => cases hex; exact hpost
  | _ => cases hex
 refine (callsIn_wide.1 hbody).mono ?_
 rintro e w' ⟨u, rfl, v0, hp', ρ', hv, hr', hl', hb', bs, v4, hlk, h1, h2, h3, rfl, h5⟩
 obtain ⟨ρ2, hr2, hl2, hm2⟩ := hh.take (Nat.le_refl _) hr' hb' bs h2 h3 h5
 exact ⟨u, ρ2, rfl, hlk _ _ (out_ok hm2 _ _ _ h1 hv), hr2, hl2, hb'⟩
end Go.Ab

namespace Go.Ab
open Go.RowKit
variable {E : Env} {P : Program} {N : Nat} {tm : Tm} {hp : List O} {G : List O}
def needO {α : Type} (b : Bool) (k : Option α) : Option α := bif b then k else none
def callO {α β : Type} (o : Option β) (d : β) (F : β → Option α) : Option α := needO o.isSome (F (o.getD d))
def joinO {σ α : Type} (k : Option (σ ⊕ α)) (F : σ → Option α) : Option α :=
 match k with
 | none => none
 | some (.inl s) => F s
 | some (.inr r) => some r
def escO {σ α : Type} (k : Option α) : Option (σ ⊕ α) := k.map .inr
def loopO {σ ξ α : Type} (step : σ → Option (σ ⊕ (ξ ⊕ α))) (F : ξ → Option α) : Nat → σ → Option α
 | 0, _ => none
 | n + 1, s => match step s with
  | none => none
  | some (.inl s') => loopO step F n s'
  | some (.inr (.inl x)) => F x
  | some (.inr (.inr r)) => some r
@[simp] theorem needO_true {α : Type} (k : Option α) : needO true k = k := rfl
@[simp] theorem needO_false {α : Type} (k : Option α) : needO false k = none := rfl
@[simp] theorem callO_some {α β : Type} (y d : β) (F : β → Option α) : callO (some y) d F = F y := rfl
@[simp] theorem joinO_inl {σ α : Type} (s : σ) (F : σ → Option α) : joinO (some (.inl s)) F = F s := rfl
@[simp] theorem joinO_inr {σ α : Type} (r : α) (F : σ → Option α) : joinO (some (.inr r)) F = some r := rfl
@[simp] theorem escO_some {σ α : Type} (r : α) : escO (σ := σ) (some r) = some (.inr r) := rfl
theorem loopO_next {σ ξ α : Type} {step : σ → Option (σ ⊕ (ξ ⊕ α))} {F : ξ → Option α} {n : Nat} {s s' : σ} (h : step s = some (.inl s')) : loopO step F (n + 1) s = loopO step F n s' := by rw [loopO, h]
theorem loopO_exit {σ ξ α : Type} {step : σ → Option (σ ⊕ (ξ ⊕ α))} {F : ξ → Option α} {n : Nat} {s : σ} {x : ξ} (h : step s = some (.inr (.inl x))) : loopO step F (n + 1) s = F x := by rw [loopO, h]
theorem loopO_ret {σ ξ α : Type} {step : σ → Option (σ ⊕ (ξ ⊕ α))} {F : ξ → Option α} {n : Nat} {s : σ} {r : α} (h : step s = some (.inr (.inr r))) : loopO step F (n + 1) s = some r := by rw [loopO, h]
def satO {α : Type} (E : Env) (P : Program) (R : α → Exit → Tm → List O → Prop) (o : Option α) (t : T) : Prop := ∀ r, o = some r → sat E.G P (R r) t
section
variable {α σ ξ : Type} {R : α → Exit → Tm → List O → Prop} {K K1 K2 : Option α} {t x y : T} {b c : Bool}
theorem so_need (h : satO E P R K t) : satO E P R (needO b K) (.need b t) := fun r hr => by
 cases b with
 | true => exact ⟨rfl, h r hr⟩
 | false => cases hr
theorem so_triv (hb : b = true) (h : satO E P R K t) : satO E P R K (.need b t) := fun r hr => ⟨hb, h r hr⟩
theorem so_as (hb : c = true → b = true) (h : satO E P R K t) : satO E P R (needO c K) (.need b t) := fun r hr => by
 cases c with
 | true => exact ⟨hb rfl, h r hr⟩
 | false => cases hr
theorem so_if (h : b = true → satO E P R K t) : satO E P R (needO b K) t := fun r hr => by
 cases b with
 | true => exact h rfl r hr
 | false => cases hr
theorem so_callas {β : Type} {o : Option β} {d : β} {F : β → Option α} (hb : o.isSome = true → b = true) (h : satO E P R (F (o.getD d)) t) : satO E P R (callO o d F) (.need b t) := so_as hb h
theorem so_ret {r : α} {e : Exit} (h : R r e tm hp) : satO E P R (some r) (.ret e tm hp) := fun r' hr => by cases hr; exact h
theorem so_split (hE : E.Fn P) (n : Nat) {μ : Nat} {c : Operand} {x y : Code} {k : Exit → Tm → List O → T} (hc : evA E tm c = .bool b)
  (h1 : satO E P R K1 (evC E (hdl E n) μ N x tm hp k)) (h2 : satO E P R K2 (evC E (hdl E n) μ N y tm hp k)) : satO E P R (bif b then K1 else K2) (.loop (.cond c x y) μ N tm hp k) := fun r hr => by
 refine sat_split hE n hc (fun e => ?_) (fun e => ?_)
 ·subst e; exact h1 r hr
 ·subst e; exact h2 r hr
def JR (E : Env) (P : Program) (R : α → Exit → Tm → List O → Prop) (μ : Nat) (st : σ → Tm × List O) (k : Exit → Tm → List O → T) : σ ⊕ α → Exit → Tm → List O → Prop
 | .inl s, e, tm, hp => e = .normal ∧ Ent E.G μ tm hp (st s).1 (st s).2
 | .inr r, e, tm, hp => sat E.G P (R r) (k e tm hp)
theorem so_nrm {μ : Nat} {st : σ → Tm × List O} {k : Exit → Tm → List O → T} {s : σ} (h : Ent E.G μ tm hp (st s).1 (st s).2) : satO E P (JR E P R μ st k) (some (.inl s)) (.ret .normal tm hp) := so_ret ⟨rfl, h⟩
theorem so_join (hE : E.Fn P) (n : Nat) (st : σ → Tm × List O) {K1 K2 : Option (σ ⊕ α)} {F : σ → Option α} {μ : Nat} {c : Operand} {x y : Code} {k : Exit → Tm → List O → T} (hc : evA E tm c = .bool b)
  (h1 : satO E P (JR E P R μ st k) K1 (evC E (hdl E n) μ N x tm hp .ret)) (h2 : satO E P (JR E P R μ st k) K2 (evC E (hdl E n) μ N y tm hp .ret))
  (h : ∀ s, satO E P R (F s) (k .normal (st s).1 (st s).2)) : satO E P R (joinO (bif b then K1 else K2) F) (.loop (.cond c x y) μ N tm hp k) := fun r hr => by
 have go : ∀ {K : Option (σ ⊕ α)} {t : T}, satO E P (JR E P R μ st k) K t → joinO K F = some r → sat E.G P (fun e tm' hp' => ∃ tm2 hp2, Ent E.G μ tm' hp' tm2 hp2 ∧ sat E.G P (R r) (k e tm2 hp2)) t := by
  intro K t hk hj
  cases K with
  | none => cases hj
  | some o =>
   refine sat_mono ?_ (hk o rfl)
   intro e tm' hp' hq
   cases o with
   | inl s => obtain ⟨rfl, hq⟩ := hq; exact ⟨_, _, hq, h s r hj⟩
   | inr r' => cases hj; exact ⟨_, _, Ent.refl _ _ _, hq⟩
 refine sat_join hE n (fun e tm hp => sat E.G P (R r) (k e tm hp)) hc (fun e => ?_) (fun e => ?_) (fun _ _ _ h => h)
 ·subst e; exact go h1 hr
 ·subst e; exact go h2 hr
def LR (E : Env) (P : Program) (R : α → Exit → Tm → List O → Prop) (μ : Nat) (st : σ → Tm × List O) (sx : ξ → Tm × List O) (ex : Exit) (k : Exit → Tm → List O → T) : σ ⊕ (ξ ⊕ α) → Exit → Tm → List O → Prop
 | .inl s, e, tm, hp => e = .normal ∧ Ent E.G μ tm hp (st s).1 (st s).2
 | .inr (.inl x), e, tm, hp => e = ex ∧ Ent E.G μ tm hp (sx x).1 (sx x).2 ∧ e ≠ .normal
 | .inr (.inr r), e, tm, hp => sat E.G P (R r) (k e tm hp) ∧ e ≠ .normal
theorem so_next {μ : Nat} {st : σ → Tm × List O} {sx : ξ → Tm × List O} {ex : Exit} {k : Exit → Tm → List O → T} {s : σ} (h : Ent E.G μ tm hp (st s).1 (st s).2) : satO E P (LR E P R μ st sx ex k) (some (.inl s)) (.ret .normal tm hp) := so_ret ⟨rfl, h⟩
theorem so_exit {μ : Nat} {st : σ → Tm × List O} {sx : ξ → Tm × List O} {i : Nat} {k : Exit → Tm → List O → T} {x : ξ} (h : Ent E.G μ tm hp (sx x).1 (sx x).2) : satO E P (LR E P R μ st sx (.exit i) k) (some (.inr (.inl x))) (.ret (.exit i) tm hp) := so_ret ⟨rfl, h, by simp⟩
theorem so_out {μ : Nat} {st : σ → Tm × List O} {sx : ξ → Tm × List O} {ex : Exit} {k : Exit → Tm → List O → T} {e : Exit} (he : e ≠ .normal) (h : satO E P R K (k e tm hp)) : satO E P (LR E P R μ st sx ex k) (escO (escO K)) (.ret e tm hp) := fun r hr => by
 cases K with
 | none => cases hr
 | some r' => cases hr; exact ⟨h r' rfl, he⟩
theorem so_loop (hE : E.Fn P) (n : Nat) (st : σ → Tm × List O) (sx : ξ → Tm × List O) (ex : Exit) {step : σ → Option (σ ⊕ (ξ ⊕ α))} {F : ξ → Option α} {m : Nat} {s0 : σ} {μ : Nat} {body : Code} {k : Exit → Tm → List O → T}
  (h0 : Ent E.G μ tm hp (st s0).1 (st s0).2)
  (hb : ∀ s, satO E P (LR E P R μ st sx ex k) (step s) (evC E (hdl E n) μ N body (st s).1 (st s).2 .ret))
  (h : ∀ x, satO E P R (F x) (k ex (sx x).1 (sx x).2)) : satO E P R (loopO step F m s0) (.loop (.loop body) μ N tm hp k) := fun r hr => by
 refine ⟨fun e tm' hp' => sat E.G P (R r) (k e tm' hp'), ?_, fun _ _ _ h => h⟩
 refine Good.ent h0 (Good.loop (fun j tm hp => ∃ s, loopO step F (j + 1) s = some r ∧ tm = (st s).1 ∧ hp = (st s).2) (m := m - 1) ⟨s0, ?_, rfl, rfl⟩ ?_)
 ·cases m with
  | zero => cases hr
  | succ m => exact hr
 rintro j tm1 hp1 ⟨s, hs, rfl, rfl⟩
 rw [loopO] at hs
 cases ho : step s with
 | none => rw [ho] at hs; cases hs
 | some o =>
  rw [ho] at hs
  have hg := evC_ok hE.mixed hE.ok (pg_ok hE) (ps_ok hE) (hdl_ok hE n) body _ _ _ _ (hb s o ho)
  cases o with
  | inl s' =>
   refine hg.mono ?_
   rintro e tm2 hp2 ⟨rfl, h2⟩
   dsimp only at hs
   cases j with
   | zero => cases hs
   | succ j => exact ⟨j, _, _, by omega, h2, s', hs, rfl, rfl⟩
  | inr o =>
   cases o with
   | inl x =>
    -- an exit: what is known of it is named anew
    intro B w0 S D gs ρ a w n ro h0 hrel
    refine wpIn_mono (hg B w0 S D gs ρ a w n ro h0 hrel) ?_
    rintro e a' w' ⟨tm2, hp2, ρ2, hr2, hl2, rfl, h2, hne⟩
    obtain ⟨ρ3, l3, hr3⟩ := hr2.ent h2
    refine ⟨_, _, ρ3, hr3, Ren.leB_trans hl2 l3, ?_⟩
    have hz := h x r hs
    cases e with
    | normal => exact absurd rfl hne
    | _ => exact hz
   | inr r' =>
    refine hg.mono ?_
    rintro e tm2 hp2 ⟨h2, h3⟩
    cases hs
    cases e with
    | normal => exact absurd rfl h3
    | _ => exact h2
end
def ulV : V → V
 | .lit b => .bool b
 | v => v
def ulO : O → O
 | .cells w l => .cells w (l.map ulV)
 | o => o
def ulT : Tm → Tm
 | [] => []
 | (t, v) :: r => (t, ulV v) :: ulT r
def ulH : List O → List O
 | [] => []
 | o :: r => ulO o :: ulH r
theorem ulV_ok {ρ : Ren} {v : V} {u : Value} (h : VR ρ v u) : VR ρ (ulV v) u := by cases v <;> exact h
theorem ulH_get : ∀ (hp : List O) (b : Nat), (ulH hp).getD b .gone = ulO (hp.getD b .gone)
 | [], b => by simp [ulH, ulO]
 | o :: r, 0 => by simp [ulH]
 | o :: r, b + 1 => by simpa [ulH] using ulH_get r b
theorem ulH_len : ∀ hp : List O, (ulH hp).length = hp.length
 | [] => rfl
 | o :: r => by simp [ulH, ulH_len r]
theorem ulH_getO (hp : List O) (b : Nat) : getO G (ulH hp) b = getO G hp b ∨ getO G (ulH hp) b = ulO (getO G hp b) := by
 by_cases h : b < gbase
 ·rw [getO_hp h, getO_hp h]; exact .inr (ulH_get hp b)
 ·rw [getO_glob (by omega), getO_glob (by omega)]; exact .inl rfl
theorem ulO_gone {o : O} : (ulO o = .gone ↔ o = .gone) ∧ (ulO o = .rsv ↔ o = .rsv) ∧ (ulO o).own = o.own ∧ (ulO o).len = o.len ∧ (ulO o).wid = o.wid := by
 cases o <;> simp [ulO, O.own, O.len, O.wid]
theorem OR.un {ρ : Ren} {o : O} {r : Rg} {w : World} (h : OR ρ o r w) : OR ρ (ulO o) r w := by
 obtain ⟨e1, e2, e3, e4, e5⟩ := ulO_gone (o := o)
 refine ⟨fun e => h.alive (e1.1 e), fun e => h.nrsv (e2.1 e), ?_, by rw [e4]; exact h.n, h.ph0, h.lt, fun hp => by rw [e5]; exact h.m hp, h.cp, fun hp k j v hk hj hv => ?_, fun e => h.own (by rw [← e3]; exact e)⟩
 ·have := h.wf; cases o <;> exact this
 ·rw [e4] at hk
  rw [e5] at hj
  cases o with
  | cells w' l =>
   cases k with
   | zero =>
    have hv : (l.map ulV)[j]? = some v := hv
    simp only [List.getElem?_map, Option.map_eq_some_iff] at hv
    obtain ⟨v0, h0, rfl⟩ := hv
    obtain ⟨u, h1, h2⟩ := h.cell hp 0 _ v0 hk hj h0
    exact ⟨u, h1, ulV_ok h2⟩
   | succ k => cases hv
  | _ => exact h.cell hp k j v hk hj hv
theorem ulT_look : ∀ (tm : Tm) (t : Nat), look (ulT tm) t = ulV (look tm t)
 | [], _ => rfl
 | (i, v) :: r, t => by
  rw [ulT, look_cons, look_cons, ulT_look r t]; split <;> rfl
theorem Ent.ul {μ : Nat} : Ent G μ tm hp (ulT tm) (ulH hp) := by
 intro B ρ a w htr hh
 have hal : ∀ b, getO G (ulH hp) b ≠ .gone → getO G hp b ≠ .gone := fun b h e => by
  rcases ulH_getO (G := G) hp b with e2 | e2
  ·exact h (e2.trans e)
  ·rw [e] at e2; exact h e2
 have how : ∀ b, (getO G (ulH hp) b).own = (getO G hp b).own := fun b => by
  rcases ulH_getO (G := G) hp b with e2 | e2
  ·rw [e2]
  ·rw [e2]; exact ulO_gone.2.2.1
 refine ⟨ρ, Ren.leB_refl μ ρ, fun t => by rw [ulT_look]; exact ulV_ok (htr t), fun b r hr h => ?_, fun b h => ?_, fun b h => ?_, fun b r hr h => ?_, fun b b' r r' h1 h2 h3 h4 h5 h6 => ?_, hh.glob, ?_⟩
 ·rcases ulH_getO (G := G) hp b with e2 | e2
  ·rw [e2]; exact hh.blocks b r hr (hal b h)
  ·rw [e2]; exact (hh.blocks b r hr (hal b h)).un
 ·rw [ulH_len] at h; exact hh.free b h
 ·rcases ulH_getO (G := G) hp b with e2 | e2
  ·exact hh.rsv b (e2.symm.trans h)
  ·exact hh.rsv b (ulO_gone.2.1.1 (e2.symm.trans h))
 ·rw [how] at h; exact hh.base b r hr h
 ·rw [how] at h6; exact hh.apart b b' r r' h1 h2 (hal _ h3) h4 h5 h6
 ·rw [ulH_len]; exact hh.small
theorem Ent.rn {μ : Nat} {tm1 tm' : Tm} {hp1 hp' : List O} (bs ts : List Nat) (h : renHp bs hp bs = some hp1) (ht : renTm bs tm ts = some tm1) (hb : (preB bs μ && distB bs && (bs.all fun b => Nat.blt b hp.length) && Nat.blt bs.length gbase) = true)
  (h2 : ulH hp1 = hp') (h3 : ulT tm1 = tm') : Ent G μ tm hp tm' hp' := by
 subst h2; subst h3; exact (Ent.ren bs ts h ht hb).trans Ent.ul
def emptyO : O → Bool
 | .ints _ _ [] => true
 | .rows _ _ [] => true
 | .vals _ _ [] => true
 | _ => false
theorem emptyO_ok {o : O} (h : emptyO o = true) : o ≠ .gone ∧ o ≠ .rsv ∧ o.wf ∧ o.len = 0 := by
 unfold emptyO at h
 split at h <;> simp_all [O.wf, O.len]
theorem Ent.phT {μ : Nat} (t : Nat) (o : O) (ht : look tm t = .nils) (ho : emptyO o = true) (hsm : Nat.blt (hlen hp + 1) gbase = true) {n : Nat} (hn : hlen hp = n) {hp' : List O} (hh : hp ++ [o] = hp') : Ent G μ tm hp ((t, .sl n 0 0 none) :: tm) hp' := by
 subst hn; subst hh
 rw [hlen_eq] at hsm ⊢
 exact Ent.phanT ht (emptyO_ok ho) (blt_lt hsm)
theorem Ent.phC {μ : Nat} (b j : Nat) (o : O) {ww : Bool} {l : List V} (hb : hp.getD b .gone = .cells ww l) (hj : l[j]? = some .nils) (ho : emptyO o = true) (hsm : Nat.blt (hlen hp + 1) gbase = true) {hp' : List O} (hh : hp.set b (.cells ww (l.set j (.sl (hlen hp) 0 0 none))) ++ [o] = hp') : Ent G μ tm hp tm hp' := by
 subst hh
 rw [hlen_eq] at hsm ⊢
 exact Ent.phan hb hj (emptyO_ok ho) (blt_lt hsm)
def outBs (bs : List Nat) (hp : List O) (d : Nat) : Bool := distB bs && (bs.all fun b => Nat.blt b gbase && (hp.getD b .gone).isData) && Nat.blt (d + bs.length + 1) gbase
mutual
def V.outB (is bs : List Nat) (d : Nat) : V → Option V
 | .sl b k len cap => match idx b bs with
  | some i => some (.sl (d + i) k len cap)
  | none => match is.any (Nat.beq b) with | true => some (.sl b k len cap) | false => none
 | .lit b => some (.bool b)
 | .bool b => some (.bool b)
 | .int k n => some (.int k n)
 | .str s => some (.str s)
 | .nils => some .nils
 | .agg l => match outBL is bs d l with | some l => some (.agg l) | none => none
 | .tup l => match outBL is bs d l with | some l => some (.tup l) | none => none
 | _ => none
def outBL (is bs : List Nat) (d : Nat) : List V → Option (List V)
 | [] => some []
 | v :: l => match V.outB is bs d v with
  | some v => match outBL is bs d l with
   | some l => some (v :: l)
   | none => none
  | none => none
end
mutual
theorem outB_ok {is bs : List Nat} {d : Nat} {ρ ρ' : Ren} (hm : ∀ i b r, bs[i]? = some b → ρ b = some r → ρ' (d + i) = some r) (hi : ∀ b r, b ∈ is → ρ b = some r → ρ' b = some r) : ∀ (v v' : V) (u : Value), V.outB is bs d v = some v' → VR ρ v u → VR ρ' v' u
 | .sl b k len cap, v', u, h, hv => by
  obtain ⟨r, hr, x⟩ := hv
  simp only [V.outB] at h
  split at h
  ·rename_i i hi'; cases h; exact ⟨r, hm i b r (idx_ok bs i hi') hr, x⟩
  ·split at h
   ·rename_i hb
    cases h
    obtain ⟨b', hb', e⟩ := List.any_eq_true.1 hb
    obtain rfl := Nat.eq_of_beq_eq_true e
    exact ⟨r, hi _ _ hb' hr, x⟩
   ·cases h
 | .agg l, v', u, h, hv => by
  simp only [V.outB] at h
  split at h
  ·rename_i l' hl; cases h; obtain ⟨us, rfl, hus⟩ := hv; exact ⟨us, rfl, outBL_ok hm hi l l' us hl hus⟩
  ·cases h
 | .tup l, v', u, h, hv => by
  simp only [V.outB] at h
  split at h
  ·rename_i l' hl; cases h; obtain ⟨us, rfl, hus⟩ := hv; exact ⟨us, rfl, outBL_ok hm hi l l' us hl hus⟩
  ·cases h
 | .lit _, _, _, h, hv => by cases h; exact hv
 | .bool _, _, _, h, hv => by cases h; exact hv
 | .int _ _, _, _, h, hv => by cases h; exact hv
 | .str _, _, _, h, hv => by cases h; exact hv
 | .nils, _, _, h, hv => by cases h; exact hv
 | .ptr _ _ _, _, _, h, _ => by cases h
 | .nilp, _, _, h, _ => by cases h
 | .fn _ _, _, _, h, _ => by cases h
 | .nilf, _, _, h, _ => by cases h
 | .yl _, _, _, h, _ => by cases h
 | .nili, _, _, h, _ => by cases h
 | .when _ _, _, _, h, _ => by cases h
 | .junk, _, _, h, _ => by cases h
theorem outBL_ok {is bs : List Nat} {d : Nat} {ρ ρ' : Ren} (hm : ∀ i b r, bs[i]? = some b → ρ b = some r → ρ' (d + i) = some r) (hi : ∀ b r, b ∈ is → ρ b = some r → ρ' b = some r) : ∀ (l l' : List V) (us : List Value), outBL is bs d l = some l' → VRL ρ l us → VRL ρ' l' us
 | [], _, _, h, hv => by cases h; exact hv
 | v :: l, l', us, h, hv => by
  obtain ⟨u, r, rfl, h1, h2⟩ := hv
  simp only [outBL] at h
  split at h
  ·rename_i v1 e1
   split at h
   ·rename_i l1 e2; cases h; exact ⟨u, r, rfl, outB_ok hm hi v v1 u e1 h1, outBL_ok hm hi l l1 r e2 h2⟩
   ·cases h
  ·cases h
end
def FinB (E : Env) (fn : Func) (args : List V) (d : Nat) (v : V) (N : List O) : Exit → Tm → List O → Prop := fun e tm0 hp0 =>
 ∃ tm hp, Ent E.G d tm0 hp0 tm hp ∧ (e = .normal ∨ e = .ret) ∧ ∃ l bs, resV E tm hp fn.results.toList = some l ∧ V.outB ((slsL args).map (·.1)) bs d (oneOrTup l) = some v ∧ outBs bs hp d = true ∧ bs.map (hp.getD · .gone) = N
theorem fin_bs {fn : Func} {args : List V} {d : Nat} {v v' : V} {Ns : List O} {e : Exit} {l : List V} (bs : List Nat) (he : e = .normal ∨ e = .ret) (h1 : resV E tm hp fn.results.toList = some l) (h2 : V.outB ((slsL args).map (·.1)) bs d (oneOrTup l) = some v') (hb : outBs bs hp d = true) (hN : bs.map (hp.getD · .gone) = Ns) (hv : v' = v) : FinB E fn args d v Ns e tm hp := by
 subst hv
 exact ⟨tm, hp, Ent.refl _ _ _, he, l, bs, h1, h2, hb, hN⟩
theorem fin_ent {fn : Func} {args : List V} {d : Nat} {v : V} {Ns : List O} {e : Exit} {tm' : Tm} {hp' : List O} (h : Ent E.G d tm hp tm' hp') (h2 : FinB E fn args d v Ns e tm' hp') : FinB E fn args d v Ns e tm hp := by
 obtain ⟨tm2, hp2, h3, h4⟩ := h2
 exact ⟨tm2, hp2, h.trans h3, h4⟩
theorem fin_phT {fn : Func} {args : List V} {d : Nat} {v : V} {Ns : List O} {e : Exit} (t : Nat) (o : O) (ht : look tm t = .nils) (ho : emptyO o = true) (hsm : Nat.blt (hlen hp + 1) gbase = true) (h2 : FinB E fn args d v Ns e ((t, .sl (hlen hp) 0 0 none) :: tm) (hp ++ [o])) : FinB E fn args d v Ns e tm hp := fin_ent (Ent.phT t o ht ho hsm rfl rfl) h2
theorem fn_soundB (hE : E.Fn P) (n : Nat) {f : FuncId} {fn : Func} {c : Code} (hf : P.funcs[f]? = some fn) (hb : fn.body = some c) {args : List V} {H : List O} {v : V} {Ns : List O} (hlen : Nat.ble args.length fn.ntmps = true)
  (hs : sat E.G P (FinB E fn args H.length v Ns) (evC E (hdl E n) H.length fn.ntmps c (initTm 0 args) H .ret)) : FnSound E.G P f args H v Ns := by
 intro ρ us w hh hus
 have hbody := body_okE (gs := []) (n := 0) hE n hf hb hus (Nat.le_of_ble_eq_true hlen) hh (Below.refl _ w) (Nat.le_refl _) (fun p hp => by simp at hp) hs
  (R := fun v0 hp => ∃ bs, V.outB ((slsL args).map (·.1)) bs H.length v0 = some v ∧ outBs bs hp H.length = true ∧ bs.map (hp.getD · .gone) = Ns)
  (fun e tm hp ⟨tm', hp', h0, h1, l, bs, h2, h3⟩ => ⟨tm', hp', h0, h1, l, h2, bs, h3⟩)
 refine (callsIn_wide.1 hbody).mono ?_
 rintro e w' ⟨u, rfl, v0, hp', ρ', hv, hr', hl', hb', _, bs, h1, h2, rfl⟩
 simp only [outBs, Bool.and_eq_true] at h2
 obtain ⟨ρ2, hr2, hl2, hm2⟩ := hh.take (Nat.le_refl _) hr' hb' bs (distB_ok h2.1.1) (fun b h => by have := List.all_eq_true.1 h2.1.2 b h; simp only [Bool.and_eq_true] at this; exact ⟨blt_lt this.1, this.2⟩) (blt_lt h2.2)
 refine ⟨u, ρ2, rfl, outB_ok hm2 (fun b r hb hr => ?_) _ _ _ h1 hv, hr2, hl2, hb'⟩
 obtain ⟨r0, hr0⟩ := slsL_known args us hus b hb
 have := hl' _ _ hr0
 rw [hr] at this
 cases this
 exact hl2 _ _ hr0
theorem so_fn {α : Type} {f : FuncId} {fn : Func} {c : Code} {args : List V} {H : List O} {o : Option α} {r : α} {v : V} {Ns : List O} (hE : E.Fn P) (n : Nat) (hf : P.funcs[f]? = some fn) (hb : fn.body = some c) (hlen : Nat.ble args.length fn.ntmps = true) (toV : α → V) (toN : α → List O) (hr : o = some r)
  (h : satO E P (fun r => FinB E fn args H.length (toV r) (toN r)) o (evC E (hdl E n) H.length fn.ntmps c (initTm 0 args) H .ret)) (hv : toV r = v) (hN : toN r = Ns) : FnSound E.G P f args H v Ns := by
 subst hv; subst hN; exact fn_soundB hE n hf hb hlen (h r hr)
def retC {α : Type} (c : Bool) (o : Option α) (d : α) (toV : α → V) (toN : α → List O) : Option (Bool × V × List O) := some (c && o.isSome, toV (o.getD d), toN (o.getD d))
theorem ret_ok {α : Type} {c c0 : Bool} {o : Option α} {d : α} {toV : α → V} {toN : α → List O} {v : V} {Ns : List O} (h : retC c o d toV toN = some (c0, v, Ns)) (hc : c0 = true) : c = true ∧ ∃ r, o = some r ∧ toV r = v ∧ toN r = Ns := by
 cases h
 simp only [Bool.and_eq_true] at hc
 obtain ⟨r, rfl⟩ := Option.isSome_iff_exists.1 hc.2
 exact ⟨hc.1, r, rfl, rfl, rfl⟩
theorem so_as2 {α : Type} {R : α → Exit → Tm → List O → Prop} {K : Option α} {t : T} {b c1 c2 : Bool} (hb : (c1 && c2) = true → b = true) (h : satO E P R K t) : satO E P R (needO c1 (needO c2 K)) (.need b t) := fun r hr => by
 cases c1 with
 | true => cases c2 with
  | true => exact ⟨hb rfl, h r hr⟩
  | false => cases hr
 | false => cases hr
theorem so_out1 {α : Type} {R : α → Exit → Tm → List O → Prop} {K : Option α} {t : T} (h : satO E P R K t) : satO E P R K t := h
theorem pa {x y : Bool} (h1 : x = true) (h2 : y = true) : (x && y) = true := by rw [h1, h2]; rfl
theorem pl {x y c : Bool} (h1 : x = true) (h2 : c = true → y = true) (h : c = true) : (x && y) = true := by rw [h1, h2 h]; rfl
theorem pr {x y c : Bool} (h1 : c = true → x = true) (h2 : y = true) (h : c = true) : (x && y) = true := by rw [h1 h, h2]; rfl
theorem pb {x y c d : Bool} (h1 : c = true → x = true) (h2 : d = true → y = true) (h : (c && d) = true) : (x && y) = true := by
 simp only [Bool.and_eq_true] at h
 rw [h1 h.1, h2 h.2]; rfl
theorem pg {x y : Bool} (h : y = true) : (x || y) = true := by rw [h]; simp
theorem pi {x y c : Bool} (h1 : c = true → y = true) (h : (x || c) = true) : (x || y) = true := by
 cases x with
 | true => rfl
 | false => exact h1 h
theorem win_eq {α : Type} {l : List α} {n : Nat} (h : n = l.length) : (l.drop 0).take n = l := by subst h; simp
theorem win_len {α : Type} {l : List α} {n : Nat} (h : n = l.length) : n = ((l.drop 0).take n).length := by rw [win_eq h, h]
end Go.Ab
namespace Go.Ab
theorem so_none {E : Env} {P : Program} {α : Type} {R : α → Exit → Tm → List O → Prop} {t : T} : satO E P R none t := fun _ h => by cases h
end Go.Ab
namespace Go.Ab
section
variable {E : Env} {P : Program} {N : Nat} {tm : Tm} {hp : List O} {α : Type} {R : α → Exit → Tm → List O → Prop} {K : Option α} {b : Bool}
theorem so_yes (hE : E.Fn P) (n : Nat) {μ : Nat} {c : Operand} {x y : Code} {k : Exit → Tm → List O → T} (hc : evA E tm c = .bool b) (hb : b = true)
  (h1 : satO E P R K (evC E (hdl E n) μ N x tm hp k)) : satO E P R K (.loop (.cond c x y) μ N tm hp k) := fun r hr => sat_split hE n hc (fun _ => h1 r hr) (fun e => by rw [hb] at e; cases e)
theorem so_no (hE : E.Fn P) (n : Nat) {μ : Nat} {c : Operand} {x y : Code} {k : Exit → Tm → List O → T} (hc : evA E tm c = .bool b) (hb : b = false)
  (h1 : satO E P R K (evC E (hdl E n) μ N y tm hp k)) : satO E P R K (.loop (.cond c x y) μ N tm hp k) := fun r hr => sat_split hE n hc (fun e => by rw [hb] at e; cases e) (fun _ => h1 r hr)
end
end Go.Ab

namespace Go.Ab
open Go.RowKit
variable {E : Env} {P : Program} {N : Nat} {tm : Tm} {hp : List O} {G : List O}
def rangeO {β σ ξ α : Type} (step : β → σ → Option (σ ⊕ (ξ ⊕ α))) (F : σ → Option α) (Fx : ξ → Option α) : List β → σ → Option α
 | [], s => F s
 | x :: l, s => match step x s with
  | none => none
  | some (.inl s') => rangeO step F Fx l s'
  | some (.inr (.inl y)) => Fx y
  | some (.inr (.inr r)) => some r
@[simp] theorem rangeO_nil {β σ ξ α : Type} {step : β → σ → Option (σ ⊕ (ξ ⊕ α))} {F : σ → Option α} {Fx : ξ → Option α} {s : σ} : rangeO step F Fx [] s = F s := rfl
theorem rangeO_next {β σ ξ α : Type} {step : β → σ → Option (σ ⊕ (ξ ⊕ α))} {F : σ → Option α} {Fx : ξ → Option α} {x : β} {l : List β} {s s' : σ} (h : step x s = some (.inl s')) : rangeO step F Fx (x :: l) s = rangeO step F Fx l s' := by rw [rangeO, h]
section
variable {α β σ ξ : Type} {R : α → Exit → Tm → List O → Prop}
def RR (E : Env) (P : Program) (R : α → Exit → Tm → List O → Prop) (μ' : Nat) (st : σ → List O) (sx : ξ → List O) (ex : Nat) (tk : Tm) (C : List O → Prop) (k : Exit → Tm → List O → T) : σ ⊕ (ξ ⊕ α) → Exit → Tm → List O → Prop
 | .inl s, e, _, hp => e = .normal ∧ Ent E.G μ' [] hp [] (st s)
 | .inr (.inl x), e, _, hp => e = .exit ex ∧ Ent E.G μ' [] hp [] (sx x)
 | .inr (.inr r), e, _, hp => e = .ret ∧ ∃ hp4, Ent E.G μ' [] hp [] hp4 ∧ C hp4 ∧ sat E.G P (R r) (k .ret tk hp4)
variable {μ' : Nat} {st : σ → List O} {sx : ξ → List O} {ex : Nat} {tk : Tm} {C : List O → Prop} {k : Exit → Tm → List O → T}
theorem so_rnext {s : σ} (h : Ent E.G μ' [] hp [] (st s)) : satO E P (RR E P R μ' st sx ex tk C k) (some (.inl s)) (.ret .normal tm hp) := so_ret ⟨rfl, h⟩
theorem so_range (hE : E.Fn P) (n μ' : Nat) (st : σ → List O) (sx : ξ → List O) (ex : Nat) (xs : List β) (enc : β → List V) (tmA : β → σ → Tm) (bs ts : List Nat) {step : β → σ → Option (σ ⊕ (ξ ⊕ α))} {F : σ → Option α} {Fx : ξ → Option α} {s0 : σ} {μ : Nat} {g : Operand} {ps : Array Tmp} {asg body : Code}
  {tm1 : Tm} {f : FuncId} {caps : List V} {cs : List (List V)}
  (h0 : Ent E.G μ tm hp tm1 (st s0)) (hsq : SqSound E.G P f cs (xs.map enc)) (hL : ∀ x, (enc x).length = ps.size) (hent : Entered P f)
  (hg : evA E tm1 g = .fn f caps) (hμ : Nat.ble μ μ' = true) (htl : limL μ' ((keepT tm1 ts).map (·.2)) = true) (hpl : (plainC asg && plainC body) = true) (hps : ps.toList.all (fun p => Nat.blt p N) = true)
  (hbs : (bs.all (fun b => Nat.blt b μ') && Nat.blt (bs.length + 1) gbase) = true)
  (hcap : ∀ s, capsOf (st s) caps = some (bs, cs)) (hcapx : ∀ x, capsOf (sx x) caps = some (bs, cs))
  (hasg : ∀ x s, evC E (hdl E n) μ' N asg (putPs ps.toList (enc x) (keepT tm1 ts)) (st s) .ret = .ret .normal (tmA x s) (st s))
  (hb : ∀ x s, satO E P (RR E P R μ' st sx ex (keepT tm1 ts) (fun hp => capsOf hp caps = some (bs, cs)) k) (step x s) (evC E (hdl E n) μ' N body (tmA x s) (st s) .ret))
  (h : ∀ s, satO E P R (F s) (k .normal (keepT tm1 ts) (st s))) (hx : ∀ x, satO E P R (Fx x) (k (.exit ex) (keepT tm1 ts) (sx x))) :
  satO E P R (rangeO step F Fx xs s0) (.loop (.rangeFunc g ps asg body) μ N tm hp k) := fun r hr => by
 refine sat_range hE n μ' bs ts h0 hsq (fun vs hvs => by obtain ⟨x, _, rfl⟩ := List.mem_map.1 hvs; exact hL x) hent hg hμ htl hpl hps hbs
  (fun i hp' => ∃ s, hp' = st s ∧ rangeO step F Fx (xs.drop i) s = some r)
  (fun e hp' => (∃ x, e = .exit ex ∧ hp' = sx x ∧ Fx x = some r) ∨ (e = .ret ∧ capsOf hp' caps = some (bs, cs) ∧ sat E.G P (R r) (k .ret (keepT tm1 ts) hp')))
  ⟨s0, rfl, by rw [List.drop_zero]; exact hr⟩ ?_ ?_ ?_ ?_ ?_
 ·rintro i hp' ⟨s, rfl, _⟩; exact hcap s
 ·rintro e hp' (⟨x, _, rfl, _⟩ | ⟨_, h2, _⟩)
  ·exact hcapx x
  ·exact h2
 ·rintro i vs hp' hvs ⟨s, rfl, hs⟩
  rw [List.getElem?_map, Option.map_eq_some_iff] at hvs
  obtain ⟨x, hxi, rfl⟩ := hvs
  obtain ⟨hi, rfl⟩ := List.getElem?_eq_some_iff.1 hxi
  rw [hasg]
  refine ⟨rfl, ?_⟩
  rw [List.drop_eq_getElem_cons hi, rangeO] at hs
  cases ho : step xs[i] s with
  | none => rw [ho] at hs; cases hs
  | some o =>
   rw [ho] at hs
   refine sat_mono ?_ (hb xs[i] s o ho)
   intro e tm' hp3 hq
   cases o with
   | inl s' => obtain ⟨rfl, h2⟩ := hq; exact ⟨_, h2, s', rfl, hs⟩
   | inr o =>
    cases o with
    | inl y => obtain ⟨rfl, h2⟩ := hq; exact ⟨_, h2, .inl ⟨y, rfl, rfl, hs⟩⟩
    | inr r' =>
     obtain ⟨rfl, hp4, h2, h3, h4⟩ := hq
     cases hs
     exact ⟨hp4, h2, .inr ⟨rfl, h3, h4⟩⟩
 ·rintro hp' ⟨s, rfl, hs⟩
  rw [List.length_map, List.drop_length] at hs
  exact h s r hs
 ·rintro e hp' (⟨x, rfl, rfl, h2⟩ | ⟨rfl, _, h3⟩)
  ·exact hx x r h2
  ·exact h3
end
end Go.Ab
namespace Go.Ab
open Go.RowKit
variable {E : Env} {P : Program} {N : Nat} {tm : Tm} {hp : List O} {G : List O}
section
variable {α σ : Type} {R : α → Exit → Tm → List O → Prop}
def satRn (E : Env) (P : Program) (R : α → Exit → Tm → List O → Prop) (n μ N : Nat) (body : Code) (k : Exit → Tm → List O → T) (m : Nat) (K : Option α) (tm : Tm) (hp : List O) : Prop :=
 ∀ r, K = some r → rnds E P n μ N body (fun e tm hp => sat E.G P (R r) (k e tm hp)) m tm hp
theorem so_rounds (hE : E.Fn P) (n m : Nat) {μ : Nat} {body : Code} {k : Exit → Tm → List O → T} {K : Option α} (h : satRn E P R n μ N body k m K tm hp) : satO E P R K (.loop (.loop body) μ N tm hp k) := fun r hr => sat_rounds hE n m (h r hr)
def UR (E : Env) (P : Program) (R : α → Exit → Tm → List O → Prop) (μ : Nat) (st : σ → Tm × List O) (k : Exit → Tm → List O → T) : σ ⊕ α → Exit → Tm → List O → Prop
 | .inl s, e, tm, hp => e = .normal ∧ Ent E.G μ tm hp (st s).1 (st s).2
 | .inr r, e, tm, hp => e ≠ .normal ∧ sat E.G P (R r) (k e tm hp)
theorem so_unrm {μ : Nat} {st : σ → Tm × List O} {k : Exit → Tm → List O → T} {s : σ} (h : Ent E.G μ tm hp (st s).1 (st s).2) : satO E P (UR E P R μ st k) (some (.inl s)) (.ret .normal tm hp) := so_ret ⟨rfl, h⟩
theorem so_uesc {μ : Nat} {st : σ → Tm × List O} {k : Exit → Tm → List O → T} {e : Exit} {K : Option α} (he : e ≠ .normal) (h : satO E P R K (k e tm hp)) : satO E P (UR E P R μ st k) (escO K) (.ret e tm hp) := fun r hr => by
 cases K with
 | none => cases hr
 | some r' => cases hr; exact ⟨he, h r' rfl⟩
theorem so_rnd {n m μ : Nat} {body : Code} {k : Exit → Tm → List O → T} (st : σ → Tm × List O) {K : Option (σ ⊕ α)} {F : σ → Option α} (h1 : satO E P (UR E P R μ st k) K (evC E (hdl E n) μ N body tm hp .ret))
  (h2 : ∀ s, satRn E P R n μ N body k m (F s) (st s).1 (st s).2) : satRn E P R n μ N body k (m + 1) (joinO K F) tm hp := fun r hr => by
 cases K with
 | none => cases hr
 | some o =>
  refine rnd (sat_mono ?_ (h1 o rfl))
  intro e tm' hp' hq
  cases o with
  | inl s => obtain ⟨rfl, hq⟩ := hq; exact ⟨_, _, hq, h2 s r hr⟩
  | inr r' =>
   obtain ⟨he, hq⟩ := hq
   cases hr
   cases e with
   | normal => exact absurd rfl he
   | _ => exact hq
theorem so_uend {n m μ : Nat} {body : Code} {k : Exit → Tm → List O → T} {s : σ → Tm × List O} : ∀ u, satRn E P R n μ N body k m (none : Option α) (s u).1 (s u).2 := fun _ _ h => by cases h
end
end Go.Ab

namespace Go.Ab
noncomputable def altC (x : T) (l : List Nat) (y : T) : T := match l with
 | [] => x
 | _ :: _ => .isnil 0 fun b => Bool.rec y x b
noncomputable def alts (F : Nat → T) (l : List Nat) : T := List.rec .fail (fun j l y => altC (F j) l y) l
theorem sat_alts {G : List O} {P : Program} {Q : Exit → Tm → List O → Prop} {F : Nat → T} : ∀ {l : List Nat}, sat G P Q (alts F l) → ∀ j ∈ l, sat G P Q (F j)
 | [], _, _, h => by cases h
 | [x], h, _, hy => by
  obtain rfl := List.mem_singleton.1 hy
  exact h
 | x :: x2 :: l, h, y, hy => by
  rcases List.mem_cons.1 hy with rfl | hy
  ·exact h true fun _ => rfl
  ·exact sat_alts (l := x2 :: l) (h false fun e => by cases e) y hy
def rdy (ops : List Oper) (listed : List Bool) : List Nat :=
 (List.range ops.length).filter fun i => !listed.getD i true && (match ops[i]? with
  | some o => o.after.toList.all fun e => !Region.binds .any e || listed.getD e.on false
  | none => false)
theorem rdy_eq (ops : Array Oper) (listed : List Bool) : Region.ready .any ops listed.toArray = rdy ops.toList listed := by
 unfold Region.ready rdy
 rw [Array.length_toList]
 refine List.filter_congr fun i _ => ?_
 have hg : ∀ (j : Nat) (d : Bool), listed.toArray.getD j d = listed.getD j d := fun j d => by simp [List.getD]
 simp only [hg, Array.getElem?_toList]
 cases ops[i]? <;> simp
abbrev AnyR := List Bool → Tm → List O → (Tm → List O → T) → T
def any0 (ops : List Oper) : AnyR := fun listed tm hp k => match rdy ops listed with
 | [] => k tm hp
 | _ :: _ => .fail
noncomputable def anyS (E : Env) (hd : Hd) (N : Nat) (ops : List Oper) (r : AnyR) : AnyR := fun listed tm hp k => match rdy ops listed with
 | [] => k tm hp
 | j :: l => alts (fun j => match ops[j]? with
  | some o => (match o.guard with
   | none => opK E hd N o tm hp fun tm hp => r (listed.set j true) tm hp k
   | some _ => .fail)
  | none => .fail) (j :: l)
noncomputable def anyT (E : Env) (hd : Hd) (N : Nat) (ops : List Oper) (n : Nat) : AnyR := Nat.rec (any0 ops) (fun _ r => anyS E hd N ops r) n
theorem anyT_succ (E : Env) (hd : Hd) (N : Nat) (ops : List Oper) (n : Nat) : anyT E hd N ops (n + 1) = anyS E hd N ops (anyT E hd N ops n) := rfl
theorem anyT_zero (E : Env) (hd : Hd) (N : Nat) (ops : List Oper) : anyT E hd N ops 0 = any0 ops := rfl
variable {E : Env} {P : Program} {tm : Tm} {hp : List O}
theorem any_go (hE : E.Ok P) {hd : Hd} (hhd : HdOk E.G P hd) {N : Nat} {ops : Array Oper} {k : Tm → List O → T} {Q : Exit → Tm → List O → Prop} {n : Nat} {ro : Option Nat} {Qx : Exit → Act → World → Prop} {ρ0 : Ren} {B : Nat} {w0 : World} {S : Nat} {D : List Deferred} {gs : List (Nat × Obj)}
  (hQx : ∀ a' w', (∃ tm' hp' ρ', Rel E.G B w0 S N D gs ρ' tm' hp' a' w' ∧ ρ0.le ρ' ∧ sat E.G P Q (k tm' hp')) → Qx .normal a' w') :
  ∀ (fuel : Nat) (listed : List Bool) (tm : Tm) (hp : List O) (ρ : Ren) (a : Act) (w : World), sat E.G P Q (anyT E hd N ops.toList fuel listed tm hp k) → Rel E.G B w0 S N D gs ρ tm hp a w → ρ0.le ρ →
   wpAnyIn (Fr ro) n P .any ops Qx fuel listed.toArray a w
 | 0, listed, tm, hp, ρ, a, w, hs, h, hle => by
  rw [anyT_zero] at hs
  unfold any0 at hs
  split at hs
  ·rename_i hr
   rw [← rdy_eq] at hr
   exact ⟨hr, hQx a w ⟨tm, hp, ρ, h, hle, hs⟩⟩
  ·cases hs
 | fuel + 1, listed, tm, hp, ρ, a, w, hs, h, hle => by
  rw [anyT_succ] at hs
  unfold anyS at hs
  split at hs
  ·rename_i hr
   rw [← rdy_eq] at hr
   exact ⟨fun _ => hQx a w ⟨tm, hp, ρ, h, hle, hs⟩, by rw [hr]; simp⟩
  ·rename_i j l hr
   rw [← rdy_eq] at hr
   refine ⟨fun e => (by rw [hr] at e; cases e), fun i hi => ?_⟩
   rw [hr] at hi
   have hx := sat_alts hs _ hi
   split at hx
   ·rename_i o ho
    split at hx
    ·rename_i hg
     unfold wpOpIn
     rw [Array.getElem?_toList] at ho
     rw [ho]
     dsimp only
     rw [if_pos (by simp [Region.wanted, hg])]
     exact opK_ok hE hhd hx B w0 S D gs ρ a w n ro _ _ h fun a' w' ⟨tm', hp', ρ', h', hl', hs'⟩ =>
      (by simpa using any_go hE hhd hQx fuel _ tm' hp' ρ' a' w' hs' h' (Ren.le_trans hle hl'))
    ·cases hx
   ·cases hx
theorem Good.any (hE : E.Fn P) (m : Nat) {μ N id : Nat} {ops : Array Oper} {R : Exit → Tm → List O → Prop}
  (h : sat E.G P (fun e tm' hp' => ∃ tm2 hp2, Ent E.G μ tm' hp' tm2 hp2 ∧ R e tm2 hp2) (anyT E (hdl E m) N ops.toList ops.toList.length (List.replicate ops.toList.length false) tm hp (.ret .normal))) : Good E.G P μ N (.region id ops true) tm hp R := by
 intro B w0 S D gs ρ a w n ro _ hr
 refine wpIn_region_any hE.mixed ?_
 have hl : Array.replicate ops.size false = (List.replicate ops.toList.length false).toArray := by simp
 rw [hl, ← Array.length_toList]
 refine (any_go (ρ0 := ρ) hE.ok (hdl_ok hE m) (Q := fun e tm' hp' => ∃ tm2 hp2, Ent E.G μ tm' hp' tm2 hp2 ∧ R e tm2 hp2) (k := .ret .normal) ?_ _ _ _ _ ρ _ _ h (hr.draw _) (Ren.le_refl ρ))
 rintro a' w' ⟨tm', hp', ρ', r1, r2, tm2, hp2, r3, r4⟩
 obtain ⟨ρ2, l2, r5⟩ := r1.ent r3
 exact ⟨tm2, hp2, ρ2, r5, Ren.leB_trans r2.leB l2, r4⟩
variable {α σ : Type} {R : α → Exit → Tm → List O → Prop}
end Go.Ab

namespace Go.Ab
open Go.RowKit
variable {E : Env} {G : List O} {P : Program} {N : Nat} {tm : Tm} {hp : List O}
theorem Ent.phanZ {μ : Nat} {t : Nat} {o : O} (ht : look tm t = .nils) (ho : o ≠ .gone ∧ o ≠ .rsv ∧ o.wf ∧ o.len = 0) (hsm : hp.length + 1 < gbase) :
  Ent G μ tm hp ((t, .sl hp.length 0 0 (some 0)) :: tm) (hp ++ [o]) := by
 intro B ρ a w htr hh
 have hfree := hh.free hp.length (Nat.le_refl _) (by omega)
 have hle := Ren.le_add hfree { blk := 0, base := 0, m := 1, n := 0, cp := 0, ph := true }
 have hget : ∀ i x, ρ i = some x → getO G (hp ++ [o]) i = getO G hp i := by
  intro i x hx
  by_cases hi : i < gbase
  ·have : i < hp.length := by
    rcases Nat.lt_or_ge i hp.length with h | h
    ·exact h
    ·rw [hh.free i h hi] at hx; cases hx
   rw [getO_hp hi, getO_hp hi]
   simp [List.getD, List.getElem?_append_left this]
  ·rw [getO_glob (by omega), getO_glob (by omega)]
 have hgetn : getO G (hp ++ [o]) hp.length = o := by
  rw [getO_hp (by omega)]
  simp [List.getD]
 have hc : ∀ i r, (ρ.add hp.length { blk := 0, base := 0, m := 1, n := 0, cp := 0, ph := true }) i = some r → (i = hp.length ∧ r.ph = true ∧ r.n = 0) ∨ ρ i = some r := by
  intro i r hr
  by_cases e : i = hp.length
  ·subst e; rw [Ren.add_same] at hr; cases hr; exact .inl ⟨rfl, rfl, rfl⟩
  ·rw [Ren.add_other _ _ e] at hr; exact .inr hr
 refine ⟨_, hle.leB, fun t' => ?_, ?_, ?_, fun i h1 => ?_, ?_, ?_, ?_, by simp; omega⟩
 ·rw [look_cons]
  by_cases e : t = t'
  ·subst e
   rw [if_pos rfl]
   have := htr t
   rw [ht] at this
   exact ⟨_, Ren.add_same _ _ _, Nat.le_refl _, fun _ => ⟨rfl, this⟩, fun e => by cases e⟩
  ·rw [if_neg e]; exact VR.mono hle _ _ (htr t')
 ·intro i r hr hal
  rcases hc i r hr with ⟨rfl, h2, h3⟩ | h2
  ·rw [hgetn]
   exact ⟨ho.1, ho.2.1, ho.2.2.1, by rw [ho.2.2.2]; exact h3, fun _ => h3, fun e => (by rw [h2] at e; cases e), fun e => (by rw [h2] at e; cases e), fun e => (by rw [h2] at e; cases e), fun e => (by rw [h2] at e; cases e), fun _ e => (by rw [h2] at e; cases e)⟩
  ·rw [hget i r h2] at hal ⊢
   exact (hh.blocks i r h2 hal).mono hle
 ·intro i h1 h2
  simp only [List.length_append, List.length_singleton] at h1
  rw [Ren.add_other _ _ (by omega)]
  exact hh.free i (by omega) h2
 ·cases hx : (ρ.add hp.length { blk := 0, base := 0, m := 1, n := 0, cp := 0, ph := true }) i with
  | none => rfl
  | some r =>
   rcases hc i r hx with ⟨rfl, _⟩ | h2
   ·rw [hgetn] at h1; exact absurd h1 ho.2.1
   ·rw [hget i r h2] at h1; rw [hh.rsv i h1] at h2; cases h2
 ·intro i r hr how hp0
  rcases hc i r hr with ⟨rfl, h2, h3⟩ | h2
  ·rw [h2] at hp0; cases hp0
  ·rw [hget i r h2] at how; exact hh.base i r h2 how hp0
 ·intro i i' r r' hr hr' hal hp0 hp0' how hne
  rcases hc i r hr with ⟨rfl, h2, h3⟩ | h2
  ·rw [h2] at hp0; cases hp0
  ·rcases hc i' r' hr' with ⟨rfl, h2', h3'⟩ | h2'
   ·rw [h2'] at hp0'; cases hp0'
   ·exact hh.apart i i' r r' h2 h2' (by rw [hget i' r' h2'] at hal; exact hal) hp0 hp0' (by rw [hget i r h2] at how; exact how) hne
 ·intro g o' hg
  obtain ⟨r, h1, h2⟩ := hh.glob g o' hg
  exact ⟨r, hle _ _ h1, h2⟩
theorem fin_phZ {fn : Func} {args : List V} {d : Nat} {v : V} {Ns : List O} {e : Exit} (t : Nat) (o : O) (ht : look tm t = .nils) (ho : emptyO o = true) (hsm : Nat.blt (hlen hp + 1) gbase = true) (h2 : FinB E fn args d v Ns e ((t, .sl (hlen hp) 0 0 (some 0)) :: tm) (hp ++ [o])) : FinB E fn args d v Ns e tm hp := by
 rw [hlen_eq] at hsm h2
 exact fin_ent (Ent.phanZ ht (emptyO_ok ho) (blt_lt hsm)) h2
end Go.Ab
