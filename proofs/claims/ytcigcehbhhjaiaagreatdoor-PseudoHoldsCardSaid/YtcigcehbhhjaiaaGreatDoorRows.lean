/-
  NARROWER THAN 'FOR EVERY INPUT', by the rows' own cells (each row's printed sentence says how): MakingMakes: laid · MakingPlays: laid · PseudoMoves: laid · PseudoIs: laid · PseudoCaptures: laid · MakingUnmakes: laid · MakingBacks: laid · MakingHolds: laid · PseudoHolds: laid.
  DERIVED. THE GIVEN ROWS OF THIS SEAT. 9 by the template 'for every input the law returns true; each argument reads behind the call as it read before'; 0 by the template 'total and deterministic' (their statements: YtcigcehbhhjaiaaGreatDoorTotals.lean).
  GIVEN WITH THE SEED: the statements are not yours to turn. If you find one false, say at which input.
  Laid BY PROGRAM, IN A SANDBOX (cutbox-rows.mjs): the forced cells as the released guide's own fill.sh prints them over the translation dda6bda46b5576b5… (all of the seat's roots in one cut). By AI agents, Wed Nov 11 2026. No macro, syntax, notation, axiom, sorry.
-/
import Derived.Test.YtcigcehbhhjaiaaGreatDoorChecked
import GoSem.Claim
import GoSem.ClaimJoined
import GoSem.ClaimMapViews
import Derived.JoinedTies
import Derived.KernelRfl
namespace Go.Proofs.YtcigcehbhhjaiaaGreatDoor
/- THE CELL 'sum', in the pinned program and in every row, IS THE sha256 OF THE DUMP (.gsa) THAT YtcigcehbhhjaiaaGreatDoorProg.lean LOADS. Nothing in Lean hashes anything: it is a label: what it is worth is what the hold of that sum in a sandbox is worth. -/
noncomputable def Tryz.pinned : Pinned := { name := "ytcigcehbhhjaiaagreatdoor", sum := "dda6bda46b5576b5429d7887aed97a3e7c0ac5922a78eed44a4733053d792f06", checked := Tryz.checked }
namespace Rows
def none {H : Type} : Left H := { results := [], args := [] }

/- WHAT THE LISTED PACKAGE-LEVEL VARIABLES READ AS WHEN THE CALL BEGINS. Each datum BY PROGRAM (the guide's laid-datum.mjs) off the statement by which the dump's own 'gosem.cut.vars' lays the variable. In a bare row this is a premise. The card (YtcigcehbhhjaiaaGreatDoorCards.lean) ties it to the program's text. -/
def laid_caissa_ray_straight {H : Type} : DataW H := .agg [.agg [.lit (.int .i64 1), .lit (.int .i64 0)], .agg [.lit (.int .i64 0), .lit (.int .i64 1)], .agg [.lit (.int .i64 (-1)), .lit (.int .i64 0)], .agg [.lit (.int .i64 0), .lit (.int .i64 (-1))]]
def laid_caissa_ray_diagonal {H : Type} : DataW H := .agg [.agg [.lit (.int .i64 1), .lit (.int .i64 1)], .agg [.lit (.int .i64 (-1)), .lit (.int .i64 1)], .agg [.lit (.int .i64 (-1)), .lit (.int .i64 (-1))], .agg [.lit (.int .i64 1), .lit (.int .i64 (-1))]]
def laid_caissa_ray_leaps {H : Type} : DataW H := .agg [.agg [.lit (.int .i64 1), .lit (.int .i64 2)], .agg [.lit (.int .i64 2), .lit (.int .i64 1)], .agg [.lit (.int .i64 2), .lit (.int .i64 (-1))], .agg [.lit (.int .i64 1), .lit (.int .i64 (-2))], .agg [.lit (.int .i64 (-1)), .lit (.int .i64 (-2))], .agg [.lit (.int .i64 (-2)), .lit (.int .i64 (-1))], .agg [.lit (.int .i64 (-2)), .lit (.int .i64 1)], .agg [.lit (.int .i64 (-1)), .lit (.int .i64 2)]]
def laid_caissa_position_full {H : Type} : DataW H := .agg [.lit (.int .i64 8), .lit (.int .i64 8)]
def laid_caissa_making_castles {H : Type} : DataW H := .agg [.agg [.lit (.int .u8 1), .lit (.bool false), .lit (.int .i64 4), .lit (.int .i64 6), .lit (.int .i64 7), .lit (.int .i64 5)], .agg [.lit (.int .u8 2), .lit (.bool false), .lit (.int .i64 4), .lit (.int .i64 2), .lit (.int .i64 0), .lit (.int .i64 3)], .agg [.lit (.int .u8 4), .lit (.bool true), .lit (.int .i64 60), .lit (.int .i64 62), .lit (.int .i64 63), .lit (.int .i64 61)], .agg [.lit (.int .u8 8), .lit (.bool true), .lit (.int .i64 60), .lit (.int .i64 58), .lit (.int .i64 56), .lit (.int .i64 59)]]
def laid_math_bits_deBruijn64tab {H : Type} : DataW H := .agg [.lit (.int .u8 0), .lit (.int .u8 1), .lit (.int .u8 56), .lit (.int .u8 2), .lit (.int .u8 57), .lit (.int .u8 49), .lit (.int .u8 28), .lit (.int .u8 3), .lit (.int .u8 61), .lit (.int .u8 58), .lit (.int .u8 42), .lit (.int .u8 50), .lit (.int .u8 38), .lit (.int .u8 29), .lit (.int .u8 17), .lit (.int .u8 4), .lit (.int .u8 62), .lit (.int .u8 47), .lit (.int .u8 59), .lit (.int .u8 36), .lit (.int .u8 45), .lit (.int .u8 43), .lit (.int .u8 51), .lit (.int .u8 22), .lit (.int .u8 53), .lit (.int .u8 39), .lit (.int .u8 33), .lit (.int .u8 30), .lit (.int .u8 24), .lit (.int .u8 18), .lit (.int .u8 12), .lit (.int .u8 5), .lit (.int .u8 63), .lit (.int .u8 55), .lit (.int .u8 48), .lit (.int .u8 27), .lit (.int .u8 60), .lit (.int .u8 41), .lit (.int .u8 37), .lit (.int .u8 16), .lit (.int .u8 46), .lit (.int .u8 35), .lit (.int .u8 44), .lit (.int .u8 21), .lit (.int .u8 52), .lit (.int .u8 32), .lit (.int .u8 23), .lit (.int .u8 11), .lit (.int .u8 54), .lit (.int .u8 26), .lit (.int .u8 40), .lit (.int .u8 15), .lit (.int .u8 34), .lit (.int .u8 20), .lit (.int .u8 31), .lit (.int .u8 10), .lit (.int .u8 25), .lit (.int .u8 14), .lit (.int .u8 19), .lit (.int .u8 9), .lit (.int .u8 13), .lit (.int .u8 8), .lit (.int .u8 7), .lit (.int .u8 6)]

/-- 'caissalaw08.MakingMakes': WHATEVER THE INPUT: true; the input reads as it did. -/
def makingMakesSpec : ChangeSpec := { name := "makingMakes", fn := fun _ => fun
  | [d1, d2] => { results := [.lit (.bool true)], args := [d1, d2] }
  | _ => none }
def makingMakesRow : OpenClaim := { program := "ytcigcehbhhjaiaagreatdoor", sum := "dda6bda46b5576b5429d7887aed97a3e7c0ac5922a78eed44a4733053d792f06", func := "caissa/caissalaw08.MakingMakes", spec := "makingMakes", unfollowed := true, recurses := true, named := ["caissa/ray.leaps", "caissa/ray.diagonal", "caissa/ray.straight", "caissa/position.full", "caissa/making.castles"], apart := false, laid := [("caissa/ray.straight", laid_caissa_ray_straight), ("caissa/ray.diagonal", laid_caissa_ray_diagonal), ("caissa/ray.leaps", laid_caissa_ray_leaps), ("caissa/position.full", laid_caissa_position_full), ("caissa/making.castles", laid_caissa_making_castles)] }
def MakingMakesSaid : Prop := makingMakesRow.holds Tryz.pinned (OpenSpec.ofChange makingMakesSpec)

/-- ITS FALSE NEIGHBOUR: 'it returns false'. Refute it at one input. -/
def makingMakesWrong : ChangeSpec := { name := "makingMakes", fn := fun _ => fun
  | [d1, d2] => { results := [.lit (.bool false)], args := [d1, d2] }
  | _ => none }
def MakingMakesWrongFalsely : Prop := makingMakesRow.holds Tryz.pinned (OpenSpec.ofChange makingMakesWrong)

/-- 'caissalaw08.MakingPlays': WHATEVER THE INPUT: true; the input reads as it did. -/
def makingPlaysSpec : ChangeSpec := { name := "makingPlays", fn := fun _ => fun
  | [d1, d2, d3] => { results := [.lit (.bool true)], args := [d1, d2, d3] }
  | _ => none }
def makingPlaysRow : OpenClaim := { program := "ytcigcehbhhjaiaagreatdoor", sum := "dda6bda46b5576b5429d7887aed97a3e7c0ac5922a78eed44a4733053d792f06", func := "caissa/caissalaw08.MakingPlays", spec := "makingPlays", unfollowed := true, recurses := true, named := ["caissa/ray.leaps", "caissa/ray.diagonal", "caissa/ray.straight", "caissa/position.full", "caissa/making.castles"], apart := false, laid := [("caissa/ray.straight", laid_caissa_ray_straight), ("caissa/ray.diagonal", laid_caissa_ray_diagonal), ("caissa/ray.leaps", laid_caissa_ray_leaps), ("caissa/position.full", laid_caissa_position_full), ("caissa/making.castles", laid_caissa_making_castles)] }
def MakingPlaysSaid : Prop := makingPlaysRow.holds Tryz.pinned (OpenSpec.ofChange makingPlaysSpec)

/-- ITS FALSE NEIGHBOUR: 'it returns false'. Refute it at one input. -/
def makingPlaysWrong : ChangeSpec := { name := "makingPlays", fn := fun _ => fun
  | [d1, d2, d3] => { results := [.lit (.bool false)], args := [d1, d2, d3] }
  | _ => none }
def MakingPlaysWrongFalsely : Prop := makingPlaysRow.holds Tryz.pinned (OpenSpec.ofChange makingPlaysWrong)

/-- 'caissalaw09.PseudoMoves': WHATEVER THE INPUT: true; the input reads as it did. -/
def pseudoMovesSpec : ChangeSpec := { name := "pseudoMoves", fn := fun _ => fun
  | [d1, d2] => { results := [.lit (.bool true)], args := [d1, d2] }
  | _ => none }
def pseudoMovesRow : OpenClaim := { program := "ytcigcehbhhjaiaagreatdoor", sum := "dda6bda46b5576b5429d7887aed97a3e7c0ac5922a78eed44a4733053d792f06", func := "caissa/caissalaw09.PseudoMoves", spec := "pseudoMoves", unfollowed := true, recurses := true, named := ["caissa/ray.leaps", "caissa/ray.diagonal", "caissa/ray.straight", "caissa/position.full", "math/bits.deBruijn64tab"], apart := false, laid := [("math/bits.deBruijn64tab", laid_math_bits_deBruijn64tab), ("caissa/ray.straight", laid_caissa_ray_straight), ("caissa/ray.diagonal", laid_caissa_ray_diagonal), ("caissa/ray.leaps", laid_caissa_ray_leaps), ("caissa/position.full", laid_caissa_position_full)] }
def PseudoMovesSaid : Prop := pseudoMovesRow.holds Tryz.pinned (OpenSpec.ofChange pseudoMovesSpec)

/-- ITS FALSE NEIGHBOUR: 'it returns false'. Refute it at one input. -/
def pseudoMovesWrong : ChangeSpec := { name := "pseudoMoves", fn := fun _ => fun
  | [d1, d2] => { results := [.lit (.bool false)], args := [d1, d2] }
  | _ => none }
def PseudoMovesWrongFalsely : Prop := pseudoMovesRow.holds Tryz.pinned (OpenSpec.ofChange pseudoMovesWrong)

/-- 'caissalaw09.PseudoIs': WHATEVER THE INPUT: true; the input reads as it did. -/
def pseudoIsSpec : ChangeSpec := { name := "pseudoIs", fn := fun _ => fun
  | [d1, d2] => { results := [.lit (.bool true)], args := [d1, d2] }
  | _ => none }
def pseudoIsRow : OpenClaim := { program := "ytcigcehbhhjaiaagreatdoor", sum := "dda6bda46b5576b5429d7887aed97a3e7c0ac5922a78eed44a4733053d792f06", func := "caissa/caissalaw09.PseudoIs", spec := "pseudoIs", unfollowed := true, recurses := true, named := ["caissa/ray.leaps", "caissa/ray.diagonal", "caissa/ray.straight", "caissa/position.full", "math/bits.deBruijn64tab"], apart := false, laid := [("math/bits.deBruijn64tab", laid_math_bits_deBruijn64tab), ("caissa/ray.straight", laid_caissa_ray_straight), ("caissa/ray.diagonal", laid_caissa_ray_diagonal), ("caissa/ray.leaps", laid_caissa_ray_leaps), ("caissa/position.full", laid_caissa_position_full)] }
def PseudoIsSaid : Prop := pseudoIsRow.holds Tryz.pinned (OpenSpec.ofChange pseudoIsSpec)

/-- ITS FALSE NEIGHBOUR: 'it returns false'. Refute it at one input. -/
def pseudoIsWrong : ChangeSpec := { name := "pseudoIs", fn := fun _ => fun
  | [d1, d2] => { results := [.lit (.bool false)], args := [d1, d2] }
  | _ => none }
def PseudoIsWrongFalsely : Prop := pseudoIsRow.holds Tryz.pinned (OpenSpec.ofChange pseudoIsWrong)

/-- 'caissalaw09.PseudoCaptures': WHATEVER THE INPUT: true; the input reads as it did. -/
def pseudoCapturesSpec : ChangeSpec := { name := "pseudoCaptures", fn := fun _ => fun
  | [d1, d2] => { results := [.lit (.bool true)], args := [d1, d2] }
  | _ => none }
def pseudoCapturesRow : OpenClaim := { program := "ytcigcehbhhjaiaagreatdoor", sum := "dda6bda46b5576b5429d7887aed97a3e7c0ac5922a78eed44a4733053d792f06", func := "caissa/caissalaw09.PseudoCaptures", spec := "pseudoCaptures", unfollowed := true, recurses := true, named := ["caissa/ray.leaps", "caissa/ray.diagonal", "caissa/ray.straight", "caissa/position.full", "math/bits.deBruijn64tab"], apart := false, laid := [("math/bits.deBruijn64tab", laid_math_bits_deBruijn64tab), ("caissa/ray.straight", laid_caissa_ray_straight), ("caissa/ray.diagonal", laid_caissa_ray_diagonal), ("caissa/ray.leaps", laid_caissa_ray_leaps), ("caissa/position.full", laid_caissa_position_full)] }
def PseudoCapturesSaid : Prop := pseudoCapturesRow.holds Tryz.pinned (OpenSpec.ofChange pseudoCapturesSpec)

/-- ITS FALSE NEIGHBOUR: 'it returns false'. Refute it at one input. -/
def pseudoCapturesWrong : ChangeSpec := { name := "pseudoCaptures", fn := fun _ => fun
  | [d1, d2] => { results := [.lit (.bool false)], args := [d1, d2] }
  | _ => none }
def PseudoCapturesWrongFalsely : Prop := pseudoCapturesRow.holds Tryz.pinned (OpenSpec.ofChange pseudoCapturesWrong)

/-- 'caissalaw08.MakingUnmakes': WHATEVER THE INPUT: true; the input reads as it did. -/
def makingUnmakesSpec : ChangeSpec := { name := "makingUnmakes", fn := fun _ => fun
  | [d1, d2] => { results := [.lit (.bool true)], args := [d1, d2] }
  | _ => none }
def makingUnmakesRow : OpenClaim := { program := "ytcigcehbhhjaiaagreatdoor", sum := "dda6bda46b5576b5429d7887aed97a3e7c0ac5922a78eed44a4733053d792f06", func := "caissa/caissalaw08.MakingUnmakes", spec := "makingUnmakes", unfollowed := true, recurses := true, named := ["caissa/ray.leaps", "caissa/ray.diagonal", "caissa/ray.straight", "caissa/position.full", "caissa/making.castles"], apart := false, laid := [("caissa/ray.straight", laid_caissa_ray_straight), ("caissa/ray.diagonal", laid_caissa_ray_diagonal), ("caissa/ray.leaps", laid_caissa_ray_leaps), ("caissa/position.full", laid_caissa_position_full), ("caissa/making.castles", laid_caissa_making_castles)] }
def MakingUnmakesSaid : Prop := makingUnmakesRow.holds Tryz.pinned (OpenSpec.ofChange makingUnmakesSpec)

/-- ITS FALSE NEIGHBOUR: 'it returns false'. Refute it at one input. -/
def makingUnmakesWrong : ChangeSpec := { name := "makingUnmakes", fn := fun _ => fun
  | [d1, d2] => { results := [.lit (.bool false)], args := [d1, d2] }
  | _ => none }
def MakingUnmakesWrongFalsely : Prop := makingUnmakesRow.holds Tryz.pinned (OpenSpec.ofChange makingUnmakesWrong)

/-- 'caissalaw08.MakingBacks': WHATEVER THE INPUT: true; the input reads as it did. -/
def makingBacksSpec : ChangeSpec := { name := "makingBacks", fn := fun _ => fun
  | [d1, d2, d3, d4] => { results := [.lit (.bool true)], args := [d1, d2, d3, d4] }
  | _ => none }
def makingBacksRow : OpenClaim := { program := "ytcigcehbhhjaiaagreatdoor", sum := "dda6bda46b5576b5429d7887aed97a3e7c0ac5922a78eed44a4733053d792f06", func := "caissa/caissalaw08.MakingBacks", spec := "makingBacks", unfollowed := true, recurses := true, named := ["caissa/ray.leaps", "caissa/ray.diagonal", "caissa/ray.straight", "caissa/position.full", "caissa/making.castles"], apart := false, laid := [("caissa/ray.straight", laid_caissa_ray_straight), ("caissa/ray.diagonal", laid_caissa_ray_diagonal), ("caissa/ray.leaps", laid_caissa_ray_leaps), ("caissa/position.full", laid_caissa_position_full), ("caissa/making.castles", laid_caissa_making_castles)] }
def MakingBacksSaid : Prop := makingBacksRow.holds Tryz.pinned (OpenSpec.ofChange makingBacksSpec)

/-- ITS FALSE NEIGHBOUR: 'it returns false'. Refute it at one input. -/
def makingBacksWrong : ChangeSpec := { name := "makingBacks", fn := fun _ => fun
  | [d1, d2, d3, d4] => { results := [.lit (.bool false)], args := [d1, d2, d3, d4] }
  | _ => none }
def MakingBacksWrongFalsely : Prop := makingBacksRow.holds Tryz.pinned (OpenSpec.ofChange makingBacksWrong)

/-- 'caissalaw08.MakingHolds': WHATEVER THE INPUT: true; the input reads as it did. -/
def makingHoldsSpec : ChangeSpec := { name := "makingHolds", fn := fun _ => fun
  | [d1, d2, d3, d4] => { results := [.lit (.bool true)], args := [d1, d2, d3, d4] }
  | _ => none }
def makingHoldsRow : OpenClaim := { program := "ytcigcehbhhjaiaagreatdoor", sum := "dda6bda46b5576b5429d7887aed97a3e7c0ac5922a78eed44a4733053d792f06", func := "caissa/caissalaw08.MakingHolds", spec := "makingHolds", unfollowed := true, recurses := true, named := ["caissa/ray.leaps", "caissa/ray.diagonal", "caissa/ray.straight", "caissa/position.full", "caissa/making.castles"], apart := false, laid := [("caissa/ray.straight", laid_caissa_ray_straight), ("caissa/ray.diagonal", laid_caissa_ray_diagonal), ("caissa/ray.leaps", laid_caissa_ray_leaps), ("caissa/position.full", laid_caissa_position_full), ("caissa/making.castles", laid_caissa_making_castles)] }
def MakingHoldsSaid : Prop := makingHoldsRow.holds Tryz.pinned (OpenSpec.ofChange makingHoldsSpec)

/-- ITS FALSE NEIGHBOUR: 'it returns false'. Refute it at one input. -/
def makingHoldsWrong : ChangeSpec := { name := "makingHolds", fn := fun _ => fun
  | [d1, d2, d3, d4] => { results := [.lit (.bool false)], args := [d1, d2, d3, d4] }
  | _ => none }
def MakingHoldsWrongFalsely : Prop := makingHoldsRow.holds Tryz.pinned (OpenSpec.ofChange makingHoldsWrong)

/-- 'caissalaw09.PseudoHolds': WHATEVER THE INPUT: true; the input reads as it did. -/
def pseudoHoldsSpec : ChangeSpec := { name := "pseudoHolds", fn := fun _ => fun
  | [d1, d2] => { results := [.lit (.bool true)], args := [d1, d2] }
  | _ => none }
def pseudoHoldsRow : OpenClaim := { program := "ytcigcehbhhjaiaagreatdoor", sum := "dda6bda46b5576b5429d7887aed97a3e7c0ac5922a78eed44a4733053d792f06", func := "caissa/caissalaw09.PseudoHolds", spec := "pseudoHolds", unfollowed := true, recurses := true, named := ["caissa/ray.leaps", "caissa/ray.diagonal", "caissa/ray.straight", "caissa/position.full", "math/bits.deBruijn64tab", "caissa/making.castles"], apart := false, laid := [("math/bits.deBruijn64tab", laid_math_bits_deBruijn64tab), ("caissa/ray.straight", laid_caissa_ray_straight), ("caissa/ray.diagonal", laid_caissa_ray_diagonal), ("caissa/ray.leaps", laid_caissa_ray_leaps), ("caissa/position.full", laid_caissa_position_full), ("caissa/making.castles", laid_caissa_making_castles)] }
def PseudoHoldsSaid : Prop := pseudoHoldsRow.holds Tryz.pinned (OpenSpec.ofChange pseudoHoldsSpec)

/-- ITS FALSE NEIGHBOUR: 'it returns false'. Refute it at one input. -/
def pseudoHoldsWrong : ChangeSpec := { name := "pseudoHolds", fn := fun _ => fun
  | [d1, d2] => { results := [.lit (.bool false)], args := [d1, d2] }
  | _ => none }
def PseudoHoldsWrongFalsely : Prop := pseudoHoldsRow.holds Tryz.pinned (OpenSpec.ofChange pseudoHoldsWrong)

/- THE SECOND FORM. 'bulk': how many values and letters a reading holds, each counted each time it is reached (what is shared counts as often as it is met; a slice's spare places count too). A statement '..UptoSaid' is the law's where the arguments, and the package variables that the reading takes, are together of bulk at most 1048576: NARROWER than '..Said'. Prove '..Said' where nothing that the law and all that it calls make is longer than what came in: it says more and counts as full. Else prove '..UptoSaid'. A law counts once. -/
mutual
def uptoBulk {H : Type} : DataW H → Nat
  | .lit (.string bytes) => bytes.length + 1
  | .lit _ => 1
  | .nil => 1
  | .ptr d => uptoBulk d + 1
  | .slice elems spare => uptoBulkAll elems + uptoBulkAll spare + 1
  | .agg parts => uptoBulkAll parts + 1
  | .iface _ d => uptoBulk d + 1
  | .map entries => uptoBulkEntries entries + 1
  | .held _ => 1
def uptoBulkAll {H : Type} : List (DataW H) → Nat
  | [] => 0
  | d :: r => uptoBulk d + uptoBulkAll r
def uptoBulkEntries {H : Type} : List (Lit × DataW H) → Nat
  | [] => 0
  | x :: r => uptoBulkEntry x + uptoBulkEntries r
def uptoBulkEntry {H : Type} : Lit × DataW H → Nat
  | (.string bytes, d) => bytes.length + uptoBulk d + 1
  | (_, d) => uptoBulk d + 1
 end
def uptoSmall : (H : Type) → List (DataW H) → Bool := fun _ ds => decide (uptoBulkAll ds ≤ 1048576)
def OpenSpec.upto (s : _root_.Go.ChangeSpec) : _root_.Go.OpenSpec := { _root_.Go.OpenSpec.ofChange s with cond := some uptoSmall }

/-- 'caissalaw08.MakingMakes', WHERE WHAT IT READS IS OF BULK AT MOST 1048576: true; the input reads as it did. -/
def makingMakesUptoRow : OpenClaim := { program := "ytcigcehbhhjaiaagreatdoor", sum := "dda6bda46b5576b5429d7887aed97a3e7c0ac5922a78eed44a4733053d792f06", func := "caissa/caissalaw08.MakingMakes", spec := "makingMakes", unfollowed := true, recurses := true, named := ["caissa/ray.leaps", "caissa/ray.diagonal", "caissa/ray.straight", "caissa/position.full", "caissa/making.castles"], apart := false, laid := [("caissa/ray.straight", laid_caissa_ray_straight), ("caissa/ray.diagonal", laid_caissa_ray_diagonal), ("caissa/ray.leaps", laid_caissa_ray_leaps), ("caissa/position.full", laid_caissa_position_full), ("caissa/making.castles", laid_caissa_making_castles)], narrowed := true }
def MakingMakesUptoSaid : Prop := makingMakesUptoRow.holds Tryz.pinned (OpenSpec.upto makingMakesSpec)

/-- 'caissalaw08.MakingPlays', WHERE WHAT IT READS IS OF BULK AT MOST 1048576: true; the input reads as it did. -/
def makingPlaysUptoRow : OpenClaim := { program := "ytcigcehbhhjaiaagreatdoor", sum := "dda6bda46b5576b5429d7887aed97a3e7c0ac5922a78eed44a4733053d792f06", func := "caissa/caissalaw08.MakingPlays", spec := "makingPlays", unfollowed := true, recurses := true, named := ["caissa/ray.leaps", "caissa/ray.diagonal", "caissa/ray.straight", "caissa/position.full", "caissa/making.castles"], apart := false, laid := [("caissa/ray.straight", laid_caissa_ray_straight), ("caissa/ray.diagonal", laid_caissa_ray_diagonal), ("caissa/ray.leaps", laid_caissa_ray_leaps), ("caissa/position.full", laid_caissa_position_full), ("caissa/making.castles", laid_caissa_making_castles)], narrowed := true }
def MakingPlaysUptoSaid : Prop := makingPlaysUptoRow.holds Tryz.pinned (OpenSpec.upto makingPlaysSpec)

/-- 'caissalaw09.PseudoMoves', WHERE WHAT IT READS IS OF BULK AT MOST 1048576: true; the input reads as it did. -/
def pseudoMovesUptoRow : OpenClaim := { program := "ytcigcehbhhjaiaagreatdoor", sum := "dda6bda46b5576b5429d7887aed97a3e7c0ac5922a78eed44a4733053d792f06", func := "caissa/caissalaw09.PseudoMoves", spec := "pseudoMoves", unfollowed := true, recurses := true, named := ["caissa/ray.leaps", "caissa/ray.diagonal", "caissa/ray.straight", "caissa/position.full", "math/bits.deBruijn64tab"], apart := false, laid := [("math/bits.deBruijn64tab", laid_math_bits_deBruijn64tab), ("caissa/ray.straight", laid_caissa_ray_straight), ("caissa/ray.diagonal", laid_caissa_ray_diagonal), ("caissa/ray.leaps", laid_caissa_ray_leaps), ("caissa/position.full", laid_caissa_position_full)], narrowed := true }
def PseudoMovesUptoSaid : Prop := pseudoMovesUptoRow.holds Tryz.pinned (OpenSpec.upto pseudoMovesSpec)

/-- 'caissalaw09.PseudoIs', WHERE WHAT IT READS IS OF BULK AT MOST 1048576: true; the input reads as it did. -/
def pseudoIsUptoRow : OpenClaim := { program := "ytcigcehbhhjaiaagreatdoor", sum := "dda6bda46b5576b5429d7887aed97a3e7c0ac5922a78eed44a4733053d792f06", func := "caissa/caissalaw09.PseudoIs", spec := "pseudoIs", unfollowed := true, recurses := true, named := ["caissa/ray.leaps", "caissa/ray.diagonal", "caissa/ray.straight", "caissa/position.full", "math/bits.deBruijn64tab"], apart := false, laid := [("math/bits.deBruijn64tab", laid_math_bits_deBruijn64tab), ("caissa/ray.straight", laid_caissa_ray_straight), ("caissa/ray.diagonal", laid_caissa_ray_diagonal), ("caissa/ray.leaps", laid_caissa_ray_leaps), ("caissa/position.full", laid_caissa_position_full)], narrowed := true }
def PseudoIsUptoSaid : Prop := pseudoIsUptoRow.holds Tryz.pinned (OpenSpec.upto pseudoIsSpec)

/-- 'caissalaw09.PseudoCaptures', WHERE WHAT IT READS IS OF BULK AT MOST 1048576: true; the input reads as it did. -/
def pseudoCapturesUptoRow : OpenClaim := { program := "ytcigcehbhhjaiaagreatdoor", sum := "dda6bda46b5576b5429d7887aed97a3e7c0ac5922a78eed44a4733053d792f06", func := "caissa/caissalaw09.PseudoCaptures", spec := "pseudoCaptures", unfollowed := true, recurses := true, named := ["caissa/ray.leaps", "caissa/ray.diagonal", "caissa/ray.straight", "caissa/position.full", "math/bits.deBruijn64tab"], apart := false, laid := [("math/bits.deBruijn64tab", laid_math_bits_deBruijn64tab), ("caissa/ray.straight", laid_caissa_ray_straight), ("caissa/ray.diagonal", laid_caissa_ray_diagonal), ("caissa/ray.leaps", laid_caissa_ray_leaps), ("caissa/position.full", laid_caissa_position_full)], narrowed := true }
def PseudoCapturesUptoSaid : Prop := pseudoCapturesUptoRow.holds Tryz.pinned (OpenSpec.upto pseudoCapturesSpec)

/-- 'caissalaw08.MakingUnmakes', WHERE WHAT IT READS IS OF BULK AT MOST 1048576: true; the input reads as it did. -/
def makingUnmakesUptoRow : OpenClaim := { program := "ytcigcehbhhjaiaagreatdoor", sum := "dda6bda46b5576b5429d7887aed97a3e7c0ac5922a78eed44a4733053d792f06", func := "caissa/caissalaw08.MakingUnmakes", spec := "makingUnmakes", unfollowed := true, recurses := true, named := ["caissa/ray.leaps", "caissa/ray.diagonal", "caissa/ray.straight", "caissa/position.full", "caissa/making.castles"], apart := false, laid := [("caissa/ray.straight", laid_caissa_ray_straight), ("caissa/ray.diagonal", laid_caissa_ray_diagonal), ("caissa/ray.leaps", laid_caissa_ray_leaps), ("caissa/position.full", laid_caissa_position_full), ("caissa/making.castles", laid_caissa_making_castles)], narrowed := true }
def MakingUnmakesUptoSaid : Prop := makingUnmakesUptoRow.holds Tryz.pinned (OpenSpec.upto makingUnmakesSpec)

/-- 'caissalaw08.MakingBacks', WHERE WHAT IT READS IS OF BULK AT MOST 1048576: true; the input reads as it did. -/
def makingBacksUptoRow : OpenClaim := { program := "ytcigcehbhhjaiaagreatdoor", sum := "dda6bda46b5576b5429d7887aed97a3e7c0ac5922a78eed44a4733053d792f06", func := "caissa/caissalaw08.MakingBacks", spec := "makingBacks", unfollowed := true, recurses := true, named := ["caissa/ray.leaps", "caissa/ray.diagonal", "caissa/ray.straight", "caissa/position.full", "caissa/making.castles"], apart := false, laid := [("caissa/ray.straight", laid_caissa_ray_straight), ("caissa/ray.diagonal", laid_caissa_ray_diagonal), ("caissa/ray.leaps", laid_caissa_ray_leaps), ("caissa/position.full", laid_caissa_position_full), ("caissa/making.castles", laid_caissa_making_castles)], narrowed := true }
def MakingBacksUptoSaid : Prop := makingBacksUptoRow.holds Tryz.pinned (OpenSpec.upto makingBacksSpec)

/-- 'caissalaw08.MakingHolds', WHERE WHAT IT READS IS OF BULK AT MOST 1048576: true; the input reads as it did. -/
def makingHoldsUptoRow : OpenClaim := { program := "ytcigcehbhhjaiaagreatdoor", sum := "dda6bda46b5576b5429d7887aed97a3e7c0ac5922a78eed44a4733053d792f06", func := "caissa/caissalaw08.MakingHolds", spec := "makingHolds", unfollowed := true, recurses := true, named := ["caissa/ray.leaps", "caissa/ray.diagonal", "caissa/ray.straight", "caissa/position.full", "caissa/making.castles"], apart := false, laid := [("caissa/ray.straight", laid_caissa_ray_straight), ("caissa/ray.diagonal", laid_caissa_ray_diagonal), ("caissa/ray.leaps", laid_caissa_ray_leaps), ("caissa/position.full", laid_caissa_position_full), ("caissa/making.castles", laid_caissa_making_castles)], narrowed := true }
def MakingHoldsUptoSaid : Prop := makingHoldsUptoRow.holds Tryz.pinned (OpenSpec.upto makingHoldsSpec)

/-- 'caissalaw09.PseudoHolds', WHERE WHAT IT READS IS OF BULK AT MOST 1048576: true; the input reads as it did. -/
def pseudoHoldsUptoRow : OpenClaim := { program := "ytcigcehbhhjaiaagreatdoor", sum := "dda6bda46b5576b5429d7887aed97a3e7c0ac5922a78eed44a4733053d792f06", func := "caissa/caissalaw09.PseudoHolds", spec := "pseudoHolds", unfollowed := true, recurses := true, named := ["caissa/ray.leaps", "caissa/ray.diagonal", "caissa/ray.straight", "caissa/position.full", "math/bits.deBruijn64tab", "caissa/making.castles"], apart := false, laid := [("math/bits.deBruijn64tab", laid_math_bits_deBruijn64tab), ("caissa/ray.straight", laid_caissa_ray_straight), ("caissa/ray.diagonal", laid_caissa_ray_diagonal), ("caissa/ray.leaps", laid_caissa_ray_leaps), ("caissa/position.full", laid_caissa_position_full), ("caissa/making.castles", laid_caissa_making_castles)], narrowed := true }
def PseudoHoldsUptoSaid : Prop := pseudoHoldsUptoRow.holds Tryz.pinned (OpenSpec.upto pseudoHoldsSpec)

end Rows
end Go.Proofs.YtcigcehbhhjaiaaGreatDoor
