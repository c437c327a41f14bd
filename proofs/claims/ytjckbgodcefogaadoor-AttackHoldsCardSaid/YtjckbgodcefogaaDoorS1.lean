/- Contracts of the functions that the laws reach, and plain laws of what they compute (text S1); no condition. -/
import Derived.Test.YtjckbgodcefogaaDoorE3
import Derived.Test.YtjckbgodcefogaaDoorProg
import Derived.Test.YtjckbgodcefogaaDoorCards
import Derived.Test.YtjckbgodcefogaaDoorTie
namespace Go.Ab
open Go.Proofs
noncomputable abbrev PP : Program := Tryd.prog
def tyT : List (TypeId × Ty) := [
  (3, ⟨1, 8, [.int .i64 0], .int .i64⟩),
  (58, ⟨3, 40, [.int .i64 0, .int .i64 0, .nils], .struct [(0, 23), (2, 56)]⟩),
  (23, ⟨2, 16, [.int .i64 0, .int .i64 0], .struct [(0, 3), (1, 3)]⟩),
  (32, ⟨1, 8, [.int .u64 0], .int .u64⟩),
  (45, ⟨1, 1, [.int .i8 0], .int .i8⟩),
  (56, ⟨1, 24, [.nils], .slice 45⟩),
  (33, ⟨1, 8, [.int .i64 0], .int .i64⟩),
  (24, ⟨1, 24, [.nils], .slice 3⟩),
  (77, ⟨2, 16, [.int .i64 0, .int .i64 0], .struct [(0, 3), (1, 3)]⟩),
  (93, ⟨2, 16, [.int .i64 0, .int .i64 0], .struct [(0, 3), (1, 3)]⟩),
  (9, ⟨1, 16, [.str []], .str⟩),
  (4, ⟨1, 1, [.lit false], .bool⟩),
  (127, ⟨1, 24, [.nils], .slice 9⟩),
  (96, ⟨8, 64, [.int .i64 0, .int .i64 0, .int .i64 0, .int .i64 0, .int .i64 0, .int .i64 0, .int .i64 0, .int .i64 0], .array 4 93⟩),
  (91, ⟨1, 24, [.nils], .slice 93⟩),
  (5, ⟨1, 1, [.int .u8 0], .int .u8⟩),
  (27, ⟨1, 8, [.nilf], .func⟩),
  (94, ⟨16, 128, [.int .i64 0, .int .i64 0, .int .i64 0, .int .i64 0, .int .i64 0, .int .i64 0, .int .i64 0, .int .i64 0, .int .i64 0, .int .i64 0, .int .i64 0, .int .i64 0, .int .i64 0, .int .i64 0, .int .i64 0, .int .i64 0], .array 8 93⟩)]
theorem tyOk : tyT.all (fun p => tyB PP p.1 p.2) = true := by kernel_rfl
theorem mixedOk : PP.follows .mixedOrders = true := by kernel_rfl
def leapsT : List (List Int) := [[1, 2], [2, 1], [2, -1], [1, -2], [-1, -2], [-2, -1], [-2, 1], [-1, 2]]
def diagT : List (List Int) := [[1, 1], [-1, 1], [-1, -1], [1, -1]]
def straT : List (List Int) := [[1, 0], [0, 1], [-1, 0], [0, -1]]
def GG : List O := [.rows false [.i64, .i64] leapsT, .rows false [.i64, .i64] diagT, .rows false [.i64, .i64] straT]
abbrev EE (cts : List (FuncId × CF)) (inl : List (FuncId × Func)) : Env := mkE tyT GG cts inl
theorem EE_ok {cts : List (FuncId × CF)} {inl : List (FuncId × Func)} (hc : CtsOk GG PP cts) (hi : InlOk PP inl) : (EE cts inl).Fn PP := env_ok mixedOk tyOk hc hi
end Go.Ab

namespace Go.Ab
open Go.Proofs Go.Proofs.YtjckbgodcefogaaDoor Go.RowKit Go.ChangeShapes Go.WideShapes Go.ChangeAt
set_option maxRecDepth 100000

abbrev laidAll : List (String × DataW Unit) := [("caissa/ray.straight", Rows.laid_caissa_ray_straight), ("caissa/ray.diagonal", Rows.laid_caissa_ray_diagonal), ("caissa/ray.leaps", Rows.laid_caissa_ray_leaps)]
theorem seat_own : ownKnob Tryd.prog.godebug = none := by kernel_rfl
theorem seat_laidOut : laidOutB Tryd.prog = true := by kernel_rfl
theorem seat_g2 : Tryd.prog.globalNamed "caissa/ray.straight" = some 2 := by kernel_rfl
theorem seat_g1 : Tryd.prog.globalNamed "caissa/ray.diagonal" = some 1 := by kernel_rfl
theorem seat_g0 : Tryd.prog.globalNamed "caissa/ray.leaps" = some 0 := by kernel_rfl
theorem seat_t2 : (Tryd.prog.globals[2]?).map (·.type) = some 96 := by kernel_rfl
theorem seat_t1 : (Tryd.prog.globals[1]?).map (·.type) = some 96 := by kernel_rfl
theorem seat_t0 : (Tryd.prog.globals[0]?).map (·.type) = some 94 := by kernel_rfl
theorem seat_c93 : Tryd.prog.cellsOf 93 = 2 := by kernel_rfl
theorem seat_c3 : Tryd.prog.cellsOf 3 = 1 := by kernel_rfl
theorem seat_c23 : Tryd.prog.cellsOf 23 = 2 := by kernel_rfl
theorem seat_f93 {fs : Array Field} (h : Tryd.prog.underlying 93 = some (.struct fs)) : fs.size = 2 ∧ (fs.toList.zipIdx.all fun p => p.1.offset == p.2 && isK (Tryd.prog.underlying p.1.type) .i64 && Tryd.prog.cellsOf p.1.type == 1) = true := by
  rw [Tryd.underlying93] at h
  cases h
  refine ⟨rfl, ?_⟩
  simp [isK, Tryd.underlying3, seat_c3]

theorem seat_tabs {W : World} (h : laidMet PP laidAll W) (g : Nat) (o : O) (ho : GG[g]? = some o) : TabAt W g o := by
  have hs := seat_f93 Tryd.underlying93
  match g, ho with
  | 0, ho => cases ho; exact tabAt_rows (rs := leapsT) (rest := []) seat_g0 seat_t0 Tryd.underlying94 Tryd.underlying93 seat_c93 hs.1 hs.2 rfl h.tail.tail
  | 1, ho => cases ho; exact tabAt_rows (rs := diagT) (rest := _) seat_g1 seat_t1 Tryd.underlying96 Tryd.underlying93 seat_c93 hs.1 hs.2 rfl h.tail
  | 2, ho => cases ho; exact tabAt_rows (rs := straT) (rest := _) seat_g2 seat_t2 Tryd.underlying96 Tryd.underlying93 seat_c93 hs.1 hs.2 rfl h
theorem seat_wf : ∀ o ∈ GG, o.wf := by
  intro o ho
  simp only [GG, List.mem_cons, List.not_mem_nil, or_false] at ho
  rcases ho with rfl | rfl | rfl <;> simp [O.wf, leapsT, diagT, straT]
theorem seat_hr {W : World} (h : laidMet PP laidAll W) (B : Nat) : HR GG B (gRen GG) [] W := start_hr (seat_tabs h) rfl seat_wf

/-- from a function's contract to what the row asks -/
theorem seat_law {H : Type} {enc : TypeId × Value → H} {f : FuncId} {fn : Func} {s : ChangeSpec} {W : World} {args : Array Value} {ds gs : List (DataW H)} {before : List MemPlace} {tb : TypeId} {vs : List V} {us : List Value}
    (hW : DataW.Whole enc PP fn.params.toList s.vars false W args.toList ds gs before) (hL : laidMet PP laidAll W) (hv : s.vars = []) (hfn : s.fn H (ds ++ gs) = { results := [.lit (.bool true)], args := ds })
    (hr : (fn.params.toList.all fun t => PP.readableRec t && decide (t < PP.types.size)) = true) (hrt : fn.resultTypes = #[tb]) (htb : PP.underlying tb = some .bool)
    (hs : FnSound GG PP f vs [] (.bool true) []) (hvs : VRL (gRen GG) vs us) (hus : args = us.toArray) :
    Calls PP f args W fun e W' => ∃ v, e = .returned v ∧ s.post enc PP fn false true false false W args v W' := by
  subst hus
  refine (hs _ us W (seat_hr hL _) hvs).mono ?_
  rintro e W' ⟨u, ρ', rfl, hu, _, _, hb⟩
  have hu : u = .bool true := hu
  subst hu
  exact ⟨_, rfl, law_post hW hv hfn hb seat_laidOut hr hrt htb⟩

/-- likewise, with blocks that came in -/
theorem seat_lawH {H : Type} {enc : TypeId × Value → H} {f : FuncId} {fn : Func} {s : ChangeSpec} {W : World} {args : Array Value} {ds gs : List (DataW H)} {before : List MemPlace} {tb : TypeId} {vs : List V} {us : List Value} {Hp : List O} {ρ : Ren}
    (hW : DataW.Whole enc PP fn.params.toList s.vars false W args.toList ds gs before) (hr0 : HR GG W.heap.size ρ Hp W) (hv : s.vars = []) (hfn : s.fn H (ds ++ gs) = { results := [.lit (.bool true)], args := ds })
    (hr : (fn.params.toList.all fun t => PP.readableRec t && decide (t < PP.types.size)) = true) (hrt : fn.resultTypes = #[tb]) (htb : PP.underlying tb = some .bool)
    (hs : FnSound GG PP f vs Hp (.bool true) []) (hvs : VRL ρ vs us) (hus : args = us.toArray) :
    Calls PP f args W fun e W' => ∃ v, e = .returned v ∧ s.post enc PP fn false true false false W args v W' := by
  subst hus
  refine (hs _ us W hr0 hvs).mono ?_
  rintro e W' ⟨u, ρ', rfl, hu, _, _, hb⟩
  have hu : u = .bool true := hu
  subst hu
  exact ⟨_, rfl, law_post hW hv hfn hb seat_laidOut hr hrt htb⟩
theorem seat_none (b : Nat) : (getO GG [] b).own = false := by
  unfold getO
  split
  · rename_i h
    have hb := Nat.le_of_ble_eq_true h
    rcases Nat.lt_or_ge (b - gbase) 3 with h3 | h3
    · have : b - gbase = 0 ∨ b - gbase = 1 ∨ b - gbase = 2 := by omega
      rcases this with e | e | e <;> rw [e] <;> rfl
    · have : GG.getD (b - gbase) .gone = .gone := by
        have : GG.length = 3 := rfl
        simp [List.getD, List.getElem?_eq_none (show GG.length ≤ b - gbase by omega)]
      rw [this]; rfl
  · rfl

/-- a world in which the tables lie as the program's text lays them -/
def tabCells (rs : List (List Int)) : Array Value := (rs.flatMap fun r => r.map fun z => Value.int .i64 z).toArray
def setTab (c : Array Value) : Obj → Obj
  | .cells _ t frozen => .cells c t frozen
  | o => o
noncomputable def laidWorld (os : Os) : World :=
  { World.holding PP os ⟨#[], #[], []⟩ with heap := (((World.holding PP os ⟨#[], #[], []⟩).heap.modify 0 (setTab (tabCells leapsT))).modify 1 (setTab (tabCells diagT))).modify 2 (setTab (tabCells straT)) }

theorem uk_wf {x : Int} (h : (Lit.int .u64 x).wf = true) : (decide (0 ≤ x) && decide (x < 18446744073709551616)) = true := by
  simp only [Lit.wf, Bool.and_eq_true, decide_eq_true_eq] at h ⊢
  have h1 : IntKind.u64.min = 0 := rfl
  have h2 : IntKind.u64.max = 18446744073709551615 := rfl
  omega
theorem vr_pair {ρ : Ren} (x y : Int) : VR ρ (.agg [.int .i64 x, .int .i64 y]) (.agg #[.int .i64 x, .int .i64 y]) := ⟨[.int .i64 x, .int .i64 y], rfl, _, _, rfl, rfl, _, _, rfl, rfl, rfl⟩
theorem seat_f23 {fs : Array Field} (h : Tryd.prog.underlying 23 = some (.struct fs)) : fs.size = 2 ∧ (fs.toList.zipIdx.all fun p => p.1.offset == p.2 && isK (Tryd.prog.underlying p.1.type) .i64 && Tryd.prog.cellsOf p.1.type == 1) = true := by
  rw [Tryd.underlying23] at h
  cases h
  refine ⟨rfl, ?_⟩
  simp [isK, Tryd.underlying3, seat_c3]
theorem arg_size {H : Type} {enc : TypeId × Value → H} {W : World} {base : Nat} {sp : Nat → Bool} {held : Bool} {r : Reach} {b0 : Nat} {v : Value} {d : DataW H} {ps : List MemPlace} (hval : Value.okWide PP W r b0 23 v) (h : DataW.Trod enc PP W base sp held 23 v d ps) :
    ∃ x y, v = .agg #[.int .i64 x, .int .i64 y] ∧ (Lit.int .i64 x).wf = true ∧ (Lit.int .i64 y).wf = true :=
  arg_pair (enc := enc) (W := W) (base := base) (sp := sp) (held := held) (d := d) (ps := ps) (v := v) (P := PP) (t := 23) (k := .i64) (r := r) (b0 := b0) Tryd.underlying23 (seat_f23 Tryd.underlying23).1 seat_c23 (seat_f23 Tryd.underlying23).2 hval h
theorem seat_ts58 : Tryd.prog.cellTypes Tryd.prog.depth 58 = some [3, 3, 56] := by kernel_rfl
theorem seat_c58 : Tryd.prog.cellsOf 58 = 3 := by kernel_rfl
theorem seat_c56 : Tryd.prog.cellsOf 56 = 1 := by kernel_rfl
theorem seat_c45 : Tryd.prog.cellsOf 45 = 1 := by kernel_rfl
theorem seat_f58 {fs : Array Field} (h : Tryd.prog.underlying 58 = some (.struct fs)) : ∃ f, fs[1]? = some f ∧ f.offset = 2 ∧ f.type = 56 := by
  rw [Tryd.underlying58] at h
  cases h
  exact ⟨_, rfl, rfl, rfl⟩
theorem arg_board {H : Type} {enc : TypeId × Value → H} {W : World} {base : Nat} {sp : Nat → Bool} {held : Bool} {b0 : Nat} {v : Value} {d : DataW H} {ps : List MemPlace} (hval : Value.okWide PP W .any b0 58 v) (h : DataW.Trod enc PP W base sp held 58 v d ps) :
    ∃ x y s r zs, v = .agg #[.int .i64 x, .int .i64 y, s] ∧ (∀ (ρ : Ren) b, ρ b = some r → VR ρ (.sl b 0 (List.length zs) none) s) ∧ (∀ ρ, OR ρ (.ints false .i8 zs) r W) := by
  have hv := hval
  unfold Value.okWide at hv
  rw [Tryd.underlying58] at hv
  obtain ⟨cs, rfl, hsz, hrow⟩ := hv
  have hsz : cs.size = 3 := hsz.trans seat_c58
  obtain ⟨v0, h0, k0⟩ := row_cell (i := 0) hrow seat_ts58 hsz rfl
  obtain ⟨v1, h1, k1⟩ := row_cell (i := 1) hrow seat_ts58 hsz rfl
  obtain ⟨v2, h2, k2⟩ := row_cell (i := 2) hrow seat_ts58 hsz rfl
  obtain ⟨x, rfl, _, _⟩ := cell_int Tryd.underlying3 k0
  obtain ⟨y, rfl, _, _⟩ := cell_int Tryd.underlying3 k1
  obtain ⟨fl, hf, ho, hft⟩ := seat_f58 Tryd.underlying58
  obtain ⟨fuel, z, hz⟩ := field_trod Tryd.underlying58 h hf (by rw [hft]; exact seat_c56) (by rw [ho]; exact h2)
  rw [hft] at hz
  obtain ⟨r, zs, hr1, hr2, _⟩ := slice_rg Tryd.underlying56 Tryd.underlying45 seat_c45 k2 hz
  refine ⟨x, y, v2, r, zs, ?_, hr1, hr2⟩
  congr 1
  apply Array.ext_getElem?
  intro i
  rcases i with _ | _ | _ | i
  · simpa using h0
  · simpa using h1
  · simpa using h2
  · rw [Array.getElem?_eq_none (by omega)]; simp
theorem vr_board {ρ : Ren} (x y : Int) {b n : Nat} {s : Value} (h : VR ρ (.sl b 0 n none) s) : VR ρ (.agg [.int .i64 x, .int .i64 y, .sl b 0 n none]) (.agg #[.int .i64 x, .int .i64 y, s]) := ⟨[.int .i64 x, .int .i64 y, s], rfl, _, _, rfl, rfl, _, _, rfl, rfl, _, _, rfl, h, rfl⟩
end Go.Ab
