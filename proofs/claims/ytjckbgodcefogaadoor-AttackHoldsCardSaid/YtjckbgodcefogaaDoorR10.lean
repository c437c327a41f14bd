/- Contracts of the functions that the laws reach, and plain laws of what they compute (text R10); no condition. -/
import Derived.Test.YtjckbgodcefogaaDoorS1
import Derived.Test.YtjckbgodcefogaaDoorX31
namespace Go.Ab
open Go.Proofs Go.Proofs.YtjckbgodcefogaaDoor Go.RowKit Go.ChangeShapes Go.WideShapes Go.ChangeAt
set_option maxRecDepth 100000
namespace attackHolds

theorem contract (H : Type) (enc : TypeId × Value → H) (W : World) (base : Nat) (args : Array Value) (ds gs : List (DataW H)) (before : List MemPlace)
    (hval : ∀ (j : Nat) t v, Tryd.f12.params[j]? = some t → args[j]? = some v → Value.okWide Tryd.prog W .any base t v)
    (hW : DataW.Whole enc Tryd.prog Tryd.f12.params.toList Rows.attackHoldsSpec.vars false W args.toList ds gs before) (hL : laidMetH Tryd.prog Rows.attackHoldsRow.laid W) :
    Calls Tryd.prog 12 args W fun e W' => ∃ v, e = .returned v ∧ Rows.attackHoldsSpec.post enc Tryd.prog Tryd.f12 false true false false W args v W' := by
  have hW' := hW
  obtain ⟨p, q, hA0, hV, rfl, hfz, hnd⟩ := hW
  have hA : DataW.TrodAll enc Tryd.prog W 0 (fun _ => true) true Tryd.f12.params.toList args.toList ds p := hA0
  obtain ⟨rfl, rfl⟩ := trodVars_none hV
  rw [Tryd.params12] at hA hval
  clear hA0 hV hfz hnd
  obtain ⟨v0, w0, d0, ds0, p0, q0, e0, g0, rfl, h0, r0⟩ := trodAll_cons hA
  obtain ⟨v1, w1, d1, ds1, p1, q1, e1, g1, rfl, h1, r1⟩ := trodAll_cons r0
  obtain ⟨v2, w2, d2, ds2, p2, q2, e2, g2, rfl, h2, r2⟩ := trodAll_cons r1
  obtain ⟨en, gn, rfl⟩ := trodAll_nil r2
  obtain rfl : args = #[v0, v1, v2] := Array.toList_inj.1 (by rw [e0, e1, e2, en])
  obtain rfl : ds = [d0, d1, d2] := by rw [g0, g1, g2, gn]
  obtain ⟨x0, y0, s0, rg0, zs0, hv0, sv0, so0⟩ := arg_board (hval 0 58 v0 rfl rfl) h0
  obtain ⟨x1, hv1, _, _⟩ := open_bool Tryd.underlying4 (hval 1 4 v1 rfl rfl) h1
  obtain ⟨x2, hv2, _, _, hw2⟩ := open_int Tryd.underlying3 (hval 2 3 v2 rfl rfl) h2
  obtain ⟨hr1, _, _⟩ := (seat_hr hL W.heap.size).view (r := rg0) (so0 _) rfl seat_none (blt_lt rfl)
  refine seat_lawH (tb := 4) (vs := [.agg [.int .i64 x0, .int .i64 y0, .sl 0 0 zs0.length none], .bool x1, .int .i64 x2]) (us := [v0, v1, v2]) hW' hr1 rfl rfl (by kernel_rfl) (by kernel_rfl) Tryd.underlying4 ?_ ⟨_, _, rfl, (by rw [hv0]; exact vr_board _ _ (sv0 _ _ (Ren.add_same _ _ _))), _, _, rfl, hv1, _, _, rfl, hv2, rfl⟩ rfl
  exact (c_lawHolds5_ok.2 _ _ _ _ _ rfl (decide_eq_true rfl))

theorem laid_met (os : Os) : laidMet Tryd.prog Rows.attackHoldsRow.laid ((laidWorld os).forCall (fun _ _ => 0) ⟨#[], #[.agg #[.int .i64 0, .int .i64 0, .slice none 0 0], .bool false, .int .i64 0], []⟩).memory :=
  laidMet_of_run' 8 (by kernel_rfl) (by kernel_rfl)
theorem reads (os : Os) {H : Type} (enc : TypeId × Value → H) : ∃ places, DataW.whole enc Tryd.prog ((laidWorld os).forCall (fun _ _ => 0) ⟨#[], #[.agg #[.int .i64 0, .int .i64 0, .slice none 0 0], .bool false, .int .i64 0], []⟩).memory Tryd.f12.params.toList Rows.attackHoldsSpec.vars false (#[.agg #[.int .i64 0, .int .i64 0, .slice none 0 0], .bool false, .int .i64 0] : Array Value).toList 8 = some ([.agg [.agg [.lit (.int .i64 0), .lit (.int .i64 0)], .nil], .lit (.bool false), .lit (.int .i64 0)], [], places) :=
  ⟨[], by kernel_rfl⟩

theorem lifted (os : Os) (started : os.Started) (H : Type) (enc : TypeId × Value → H) (F : Stop.Interp) :
    ReturnsInHanded {} Tryd.checked os 12 .any ((OpenSpec.ofChange Rows.attackHoldsSpec).preRow enc Tryd.prog Tryd.f12 Rows.attackHoldsRow.domain false Rows.attackHoldsRow.laid) (((OpenSpec.ofChange Rows.attackHoldsSpec).at F).post enc Tryd.prog Tryd.f12 false true false false) := by
  obtain ⟨places, hx⟩ := reads os enc
  refine returnsInHanded_of_row (C := Tryd.checked) (s := OpenSpec.ofChange Rows.attackHoldsSpec) seat_own started (by kernel_rfl) Tryd.func12
    (witness_row_at (enc := enc) (C := Tryd.checked) false (laidWorld os) #[.agg #[.int .i64 0, .int .i64 0, .slice none 0 0], .bool false, .int .i64 0] rfl (by kernel_rfl) (by kernel_rfl) (by kernel_rfl)
      (OpenSpec.preRow_of_cond 8 hx (by kernel_rfl) (fun k hk => by cases hk) (by kernel_rfl) (laid_met os))) ?_
  intro W base args ds gs before hval hW _ _ _ hL _ _
  exact contract H enc W base args ds gs before hval hW hL

theorem said : Rows.AttackHoldsSaid :=
  OpenClaim.holds_of_cond 12 Tryd.f12 rfl rfl rfl rfl rfl rfl rfl ⟨rfl, rfl, rfl, rfl, rfl⟩ rfl rfl rfl rfl rfl (by kernel_rfl) Tryd.func12 (by kernel_rfl)
    (of_decide_eq_true (by kernel_rfl)) (by unfold Func.isWrapper; first | (rw [if_pos (by decide +kernel)]; kernel_rfl) | (rw [if_neg (by decide +kernel)]; exact ⟨rfl, rfl⟩))
    (fun os started H enc _ F => by rw [OpenClaim.pre_eq_preRow]; exact lifted os started H enc F)

theorem plain (f : FuncId) (fn : Func) (hf : Tryd.pinned.checked.prog.funcNamed "caissa/caissalaw05.AttackHolds" = some f) (hfn : Tryd.pinned.checked.prog.funcs[f]? = some fn) :
    false = Tryd.pinned.checked.prog.looks [] ∧ ∀ (j : Nat) t, fn.params[j]? = some t → Tryd.pinned.checked.prog.wantsStandIn t = false := by
  obtain rfl : f = 12 := Option.some.inj ((show Tryd.prog.funcNamed "caissa/caissalaw05.AttackHolds" = some 12 by kernel_rfl).symm.trans hf) |>.symm
  obtain rfl : fn = Tryd.f12 := (Option.some.inj (Tryd.func12.symm.trans hfn)).symm
  refine ⟨by kernel_rfl, fun j t ht => ?_⟩
  rw [Tryd.params12] at ht
  have hm := Array.mem_of_getElem? ht
  have hall : (Tryd.f12.params.toList.all fun t => !Tryd.prog.wantsStandIn t) = true := by kernel_rfl
  rw [Tryd.params12] at hall
  have h2 := List.all_eq_true.1 hall t (Array.mem_toList_iff.2 hm)
  rw [Bool.not_eq_true'] at h2
  exact h2

/-- the card -/
theorem card : Rows.AttackHoldsCardSaid :=
  Claim7.holds_tied_plain_at .later [] _ _ _ _ said (fun _ h => by cases h) (by kernel_rfl) (fun _ h => by cases h) attackHolds_row_tie rfl ⟨rfl, rfl⟩ (by kernel_rfl) rfl plain (by kernel_rfl)
end attackHolds
#print axioms attackHolds.card
end Go.Ab
