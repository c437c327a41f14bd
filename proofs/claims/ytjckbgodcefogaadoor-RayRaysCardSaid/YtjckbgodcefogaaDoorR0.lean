/- Contracts of the functions that the laws reach, or plain laws of what they compute (part R0); no condition. -/
import Derived.Test.YtjckbgodcefogaaDoorXSeat
import Derived.Test.YtjckbgodcefogaaDoorAbRow
import Derived.Test.YtjckbgodcefogaaDoorCards
import Derived.Test.YtjckbgodcefogaaDoorTie
namespace Go.Ab
open Go.Proofs Go.Proofs.YtjckbgodcefogaaDoor Go.RowKit Go.ChangeShapes Go.WideShapes Go.ChangeAt
set_option maxRecDepth 100000

abbrev laidAll : List (String × DataW Unit) := [("caissa/ray.straight", Rows.laid_caissa_ray_straight), ("caissa/ray.diagonal", Rows.laid_caissa_ray_diagonal), ("caissa/ray.leaps", Rows.laid_caissa_ray_leaps)]
theorem seat_own : ownKnob Tryd.prog.godebug = none := by kernel_rfl
theorem seat_laidOut : laidOutB Tryd.prog = true := by kernel_rfl
theorem seat_g2 : Tryd.prog.globalNamed "caissa/ray.straight" = some 2 := by kernel_rfl
theorem seat_g1 : Tryd.prog.globalNamed "caissa/ray.diagonal" = some 1 := by kernel_rfl
theorem seat_g0 : Tryd.prog.globalNamed "caissa/ray.leaps" = some 0 := by kernel_rfl
theorem seat_t2 : (Tryd.prog.globals[2]?).map (·.type) = some 96 := by kernel_rfl
theorem seat_t1 : (Tryd.prog.globals[1]?).map (·.type) = some 96 := by kernel_rfl
theorem seat_t0 : (Tryd.prog.globals[0]?).map (·.type) = some 94 := by kernel_rfl
theorem seat_c93 : Tryd.prog.cellsOf 93 = 2 := by kernel_rfl
theorem seat_c3 : Tryd.prog.cellsOf 3 = 1 := by kernel_rfl
theorem seat_c23 : Tryd.prog.cellsOf 23 = 2 := by kernel_rfl
theorem seat_f93 {fs : Array Field} (h : Tryd.prog.underlying 93 = some (.struct fs)) : fs.size = 2 ∧ (fs.toList.zipIdx.all fun p => p.1.offset == p.2 && isK (Tryd.prog.underlying p.1.type) .i64 && Tryd.prog.cellsOf p.1.type == 1) = true := by
  rw [Tryd.underlying93] at h
  cases h
  refine ⟨rfl, ?_⟩
  simp [isK, Tryd.underlying3, seat_c3]

theorem seat_tabs {W : World} (h : laidMet PP laidAll W) (g : Nat) (o : O) (ho : GG[g]? = some o) : TabAt W g o := by
  have hs := seat_f93 Tryd.underlying93
  match g, ho with
  | 0, ho => cases ho; exact tabAt_rows (rs := leapsT) (rest := []) seat_g0 seat_t0 Tryd.underlying94 Tryd.underlying93 seat_c93 hs.1 hs.2 rfl h.tail.tail
  | 1, ho => cases ho; exact tabAt_rows (rs := diagT) (rest := _) seat_g1 seat_t1 Tryd.underlying96 Tryd.underlying93 seat_c93 hs.1 hs.2 rfl h.tail
  | 2, ho => cases ho; exact tabAt_rows (rs := straT) (rest := _) seat_g2 seat_t2 Tryd.underlying96 Tryd.underlying93 seat_c93 hs.1 hs.2 rfl h
theorem seat_wf : ∀ o ∈ GG, o.wf := by
  intro o ho
  simp only [GG, List.mem_cons, List.not_mem_nil, or_false] at ho
  rcases ho with rfl | rfl | rfl <;> simp [O.wf, leapsT, diagT, straT]
theorem seat_hr {W : World} (h : laidMet PP laidAll W) (B : Nat) : HR GG B (gRen GG) [] W := start_hr (seat_tabs h) rfl seat_wf

/-- from a function's contract to what the row asks -/
theorem seat_law {H : Type} {enc : TypeId × Value → H} {f : FuncId} {fn : Func} {s : ChangeSpec} {W : World} {args : Array Value} {ds gs : List (DataW H)} {before : List MemPlace} {tb : TypeId} {vs : List V} {us : List Value}
    (hW : DataW.Whole enc PP fn.params.toList s.vars false W args.toList ds gs before) (hL : laidMet PP laidAll W) (hv : s.vars = []) (hfn : s.fn H (ds ++ gs) = { results := [.lit (.bool true)], args := ds })
    (hr : (fn.params.toList.all fun t => PP.readableRec t && decide (t < PP.types.size)) = true) (hrt : fn.resultTypes = #[tb]) (htb : PP.underlying tb = some .bool)
    (hs : FnSound GG PP f vs [] (.bool true) []) (hvs : VRL (gRen GG) vs us) (hus : args = us.toArray) :
    Calls PP f args W fun e W' => ∃ v, e = .returned v ∧ s.post enc PP fn false true false false W args v W' := by
  subst hus
  refine (hs _ us W (seat_hr hL _) hvs).mono ?_
  rintro e W' ⟨u, ρ', rfl, hu, _, _, hb⟩
  have hu : u = .bool true := hu
  subst hu
  exact ⟨_, rfl, law_post hW hv hfn hb seat_laidOut hr hrt htb⟩

/-- a world in which the tables lie as the program's text lays them -/
def tabCells (rs : List (List Int)) : Array Value := (rs.flatMap fun r => r.map fun z => Value.int .i64 z).toArray
def setTab (c : Array Value) : Obj → Obj
  | .cells _ t frozen => .cells c t frozen
  | o => o
noncomputable def laidWorld (os : Os) : World :=
  { World.holding PP os ⟨#[], #[], []⟩ with heap := (((World.holding PP os ⟨#[], #[], []⟩).heap.modify 0 (setTab (tabCells leapsT))).modify 1 (setTab (tabCells diagT))).modify 2 (setTab (tabCells straT)) }

theorem vr_pair {ρ : Ren} (x y : Int) : VR ρ (.agg [.int .i64 x, .int .i64 y]) (.agg #[.int .i64 x, .int .i64 y]) := ⟨[.int .i64 x, .int .i64 y], rfl, _, _, rfl, rfl, _, _, rfl, rfl, rfl⟩
theorem seat_f23 {fs : Array Field} (h : Tryd.prog.underlying 23 = some (.struct fs)) : fs.size = 2 ∧ (fs.toList.zipIdx.all fun p => p.1.offset == p.2 && isK (Tryd.prog.underlying p.1.type) .i64 && Tryd.prog.cellsOf p.1.type == 1) = true := by
  rw [Tryd.underlying23] at h
  cases h
  refine ⟨rfl, ?_⟩
  simp [isK, Tryd.underlying3, seat_c3]
theorem arg_size {H : Type} {enc : TypeId × Value → H} {W : World} {base : Nat} {sp : Nat → Bool} {held : Bool} {r : Reach} {b0 : Nat} {v : Value} {d : DataW H} {ps : List MemPlace} (hval : Value.okWide PP W r b0 23 v) (h : DataW.Trod enc PP W base sp held 23 v d ps) :
    ∃ x y, v = .agg #[.int .i64 x, .int .i64 y] ∧ (Lit.int .i64 x).wf = true ∧ (Lit.int .i64 y).wf = true :=
  arg_pair (enc := enc) (W := W) (base := base) (sp := sp) (held := held) (d := d) (ps := ps) (v := v) (P := PP) (t := 23) (k := .i64) (r := r) (b0 := b0) Tryd.underlying23 (seat_f23 Tryd.underlying23).1 seat_c23 (seat_f23 Tryd.underlying23).2 hval h
end Go.Ab
