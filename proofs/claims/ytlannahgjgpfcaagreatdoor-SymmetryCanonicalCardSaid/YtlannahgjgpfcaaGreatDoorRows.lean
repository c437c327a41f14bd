/-
  NARROWER THAN 'FOR EVERY INPUT', by the rows' own cells (each row's printed sentence says how): SymmetryGroup: laid · SymmetryCanonical: laid · SymmetryPositions: laid · SymmetryMoves: laid · SymmetrySquares: laid · SymmetryHolds: laid.
  DERIVED. THE GIVEN ROWS OF THIS SEAT. 6 by the template 'for every input the law returns true; each argument reads behind the call as it read before'; 0 by the template 'total and deterministic' (their statements: YtlannahgjgpfcaaGreatDoorTotals.lean).
  GIVEN WITH THE SEED: the statements are not yours to turn. If you find one false, say at which input.
  Laid BY PROGRAM, IN A SANDBOX (cutbox-rows.mjs): the forced cells as the released guide's own fill.sh prints them over the translation 7d65d48223e52a92… (all of the seat's roots in one cut). By AI agents, Wed Nov 11 2026. No macro, syntax, notation, axiom, sorry.
-/
import Derived.Test.YtlannahgjgpfcaaGreatDoorChecked
import GoSem.Claim
import GoSem.ClaimJoined
import GoSem.ClaimMapViews
import Derived.JoinedTies
import Derived.KernelRfl
namespace Go.Proofs.YtlannahgjgpfcaaGreatDoor
/- THE CELL 'sum', in the pinned program and in every row, IS THE sha256 OF THE DUMP (.gsa) THAT YtlannahgjgpfcaaGreatDoorProg.lean LOADS. Nothing in Lean hashes anything: it is a label: what it is worth is what the hold of that sum in a sandbox is worth. -/
noncomputable def Tryz.pinned : Pinned := { name := "ytlannahgjgpfcaagreatdoor", sum := "7d65d48223e52a922c44617f2271d61273522265aede7463c831ed6ba898f775", checked := Tryz.checked }
namespace Rows
def none {H : Type} : Left H := { results := [], args := [] }

/- WHAT THE LISTED PACKAGE-LEVEL VARIABLES READ AS WHEN THE CALL BEGINS. Each datum BY PROGRAM (the guide's laid-datum.mjs) off the statement by which the dump's own 'gosem.cut.vars' lays the variable. In a bare row this is a premise. The card (YtlannahgjgpfcaaGreatDoorCards.lean) ties it to the program's text. -/
def laid_caissa_piece_kinds {H : Type} : DataW H := .agg [.agg [.lit (.int .u8 80), .lit (.int .i64 1), .lit (.string [112, 97, 119, 110])], .agg [.lit (.int .u8 78), .lit (.int .i64 3), .lit (.string [107, 110, 105, 103, 104, 116])], .agg [.lit (.int .u8 66), .lit (.int .i64 3), .lit (.string [98, 105, 115, 104, 111, 112])], .agg [.lit (.int .u8 82), .lit (.int .i64 5), .lit (.string [114, 111, 111, 107])], .agg [.lit (.int .u8 81), .lit (.int .i64 9), .lit (.string [113, 117, 101, 101, 110])], .agg [.lit (.int .u8 75), .lit (.int .i64 0), .lit (.string [107, 105, 110, 103])], .agg [.lit (.int .u8 65), .lit (.int .i64 0), .lit (.string [102, 97, 105, 114, 121, 45, 97])], .agg [.lit (.int .u8 67), .lit (.int .i64 0), .lit (.string [102, 97, 105, 114, 121, 45, 99])], .agg [.lit (.int .u8 68), .lit (.int .i64 0), .lit (.string [102, 97, 105, 114, 121, 45, 100])], .agg [.lit (.int .u8 69), .lit (.int .i64 0), .lit (.string [102, 97, 105, 114, 121, 45, 101])], .agg [.lit (.int .u8 70), .lit (.int .i64 0), .lit (.string [102, 97, 105, 114, 121, 45, 102])], .agg [.lit (.int .u8 71), .lit (.int .i64 0), .lit (.string [102, 97, 105, 114, 121, 45, 103])], .agg [.lit (.int .u8 72), .lit (.int .i64 0), .lit (.string [102, 97, 105, 114, 121, 45, 104])], .agg [.lit (.int .u8 73), .lit (.int .i64 0), .lit (.string [102, 97, 105, 114, 121, 45, 105])], .agg [.lit (.int .u8 74), .lit (.int .i64 0), .lit (.string [102, 97, 105, 114, 121, 45, 106])]]
def laid_math_bits_deBruijn32tab {H : Type} : DataW H := .agg [.lit (.int .u8 0), .lit (.int .u8 1), .lit (.int .u8 28), .lit (.int .u8 2), .lit (.int .u8 29), .lit (.int .u8 14), .lit (.int .u8 24), .lit (.int .u8 3), .lit (.int .u8 30), .lit (.int .u8 22), .lit (.int .u8 20), .lit (.int .u8 15), .lit (.int .u8 25), .lit (.int .u8 17), .lit (.int .u8 4), .lit (.int .u8 8), .lit (.int .u8 31), .lit (.int .u8 27), .lit (.int .u8 13), .lit (.int .u8 23), .lit (.int .u8 21), .lit (.int .u8 19), .lit (.int .u8 16), .lit (.int .u8 7), .lit (.int .u8 26), .lit (.int .u8 12), .lit (.int .u8 18), .lit (.int .u8 6), .lit (.int .u8 11), .lit (.int .u8 5), .lit (.int .u8 10), .lit (.int .u8 9)]
def laid_math_bits_deBruijn64tab {H : Type} : DataW H := .agg [.lit (.int .u8 0), .lit (.int .u8 1), .lit (.int .u8 56), .lit (.int .u8 2), .lit (.int .u8 57), .lit (.int .u8 49), .lit (.int .u8 28), .lit (.int .u8 3), .lit (.int .u8 61), .lit (.int .u8 58), .lit (.int .u8 42), .lit (.int .u8 50), .lit (.int .u8 38), .lit (.int .u8 29), .lit (.int .u8 17), .lit (.int .u8 4), .lit (.int .u8 62), .lit (.int .u8 47), .lit (.int .u8 59), .lit (.int .u8 36), .lit (.int .u8 45), .lit (.int .u8 43), .lit (.int .u8 51), .lit (.int .u8 22), .lit (.int .u8 53), .lit (.int .u8 39), .lit (.int .u8 33), .lit (.int .u8 30), .lit (.int .u8 24), .lit (.int .u8 18), .lit (.int .u8 12), .lit (.int .u8 5), .lit (.int .u8 63), .lit (.int .u8 55), .lit (.int .u8 48), .lit (.int .u8 27), .lit (.int .u8 60), .lit (.int .u8 41), .lit (.int .u8 37), .lit (.int .u8 16), .lit (.int .u8 46), .lit (.int .u8 35), .lit (.int .u8 44), .lit (.int .u8 21), .lit (.int .u8 52), .lit (.int .u8 32), .lit (.int .u8 23), .lit (.int .u8 11), .lit (.int .u8 54), .lit (.int .u8 26), .lit (.int .u8 40), .lit (.int .u8 15), .lit (.int .u8 34), .lit (.int .u8 20), .lit (.int .u8 31), .lit (.int .u8 10), .lit (.int .u8 25), .lit (.int .u8 14), .lit (.int .u8 19), .lit (.int .u8 9), .lit (.int .u8 13), .lit (.int .u8 8), .lit (.int .u8 7), .lit (.int .u8 6)]
def laid_internal_strconv_uint64pow10 {H : Type} : DataW H := .agg [.lit (.int .u64 1), .lit (.int .u64 10), .lit (.int .u64 100), .lit (.int .u64 1000), .lit (.int .u64 10000), .lit (.int .u64 100000), .lit (.int .u64 1000000), .lit (.int .u64 10000000), .lit (.int .u64 100000000), .lit (.int .u64 1000000000), .lit (.int .u64 10000000000), .lit (.int .u64 100000000000), .lit (.int .u64 1000000000000), .lit (.int .u64 10000000000000), .lit (.int .u64 100000000000000), .lit (.int .u64 1000000000000000), .lit (.int .u64 10000000000000000), .lit (.int .u64 100000000000000000), .lit (.int .u64 1000000000000000000), .lit (.int .u64 10000000000000000000)]
def laid_caissa_ray_straight {H : Type} : DataW H := .agg [.agg [.lit (.int .i64 1), .lit (.int .i64 0)], .agg [.lit (.int .i64 0), .lit (.int .i64 1)], .agg [.lit (.int .i64 (-1)), .lit (.int .i64 0)], .agg [.lit (.int .i64 0), .lit (.int .i64 (-1))]]
def laid_caissa_ray_diagonal {H : Type} : DataW H := .agg [.agg [.lit (.int .i64 1), .lit (.int .i64 1)], .agg [.lit (.int .i64 (-1)), .lit (.int .i64 1)], .agg [.lit (.int .i64 (-1)), .lit (.int .i64 (-1))], .agg [.lit (.int .i64 1), .lit (.int .i64 (-1))]]
def laid_caissa_ray_leaps {H : Type} : DataW H := .agg [.agg [.lit (.int .i64 1), .lit (.int .i64 2)], .agg [.lit (.int .i64 2), .lit (.int .i64 1)], .agg [.lit (.int .i64 2), .lit (.int .i64 (-1))], .agg [.lit (.int .i64 1), .lit (.int .i64 (-2))], .agg [.lit (.int .i64 (-1)), .lit (.int .i64 (-2))], .agg [.lit (.int .i64 (-2)), .lit (.int .i64 (-1))], .agg [.lit (.int .i64 (-2)), .lit (.int .i64 1)], .agg [.lit (.int .i64 (-1)), .lit (.int .i64 2)]]
def laid_caissa_position_full {H : Type} : DataW H := .agg [.lit (.int .i64 8), .lit (.int .i64 8)]
def laid_caissa_making_castles {H : Type} : DataW H := .agg [.agg [.lit (.int .u8 1), .lit (.bool false), .lit (.int .i64 4), .lit (.int .i64 6), .lit (.int .i64 7), .lit (.int .i64 5)], .agg [.lit (.int .u8 2), .lit (.bool false), .lit (.int .i64 4), .lit (.int .i64 2), .lit (.int .i64 0), .lit (.int .i64 3)], .agg [.lit (.int .u8 4), .lit (.bool true), .lit (.int .i64 60), .lit (.int .i64 62), .lit (.int .i64 63), .lit (.int .i64 61)], .agg [.lit (.int .u8 8), .lit (.bool true), .lit (.int .i64 60), .lit (.int .i64 58), .lit (.int .i64 56), .lit (.int .i64 59)]]

/-- 'caissalaw19.SymmetryGroup': WHATEVER THE INPUT: true; the input reads as it did. -/
def symmetryGroupSpec : ChangeSpec := { name := "symmetryGroup", fn := fun _ => fun
  | [d1, d2] => { results := [.lit (.bool true)], args := [d1, d2] }
  | _ => none }
def symmetryGroupRow : OpenClaim := { program := "ytlannahgjgpfcaagreatdoor", sum := "7d65d48223e52a922c44617f2271d61273522265aede7463c831ed6ba898f775", func := "caissa/caissalaw19.SymmetryGroup", spec := "symmetryGroup", inPlace := ["internal/abi.NoEscape", "internal/bytealg.MakeNoZero", "internal/bytealg.abigen_runtime_cmpstring"], unfollowed := true, recurses := true, named := ["caissa/ray.leaps", "caissa/ray.diagonal", "caissa/ray.straight", "caissa/position.full", "internal/strconv.uint64pow10", "math/bits.deBruijn32tab", "math/bits.deBruijn64tab", "caissa/piece.kinds"], apart := false, laid := [("caissa/piece.kinds", laid_caissa_piece_kinds), ("math/bits.deBruijn32tab", laid_math_bits_deBruijn32tab), ("math/bits.deBruijn64tab", laid_math_bits_deBruijn64tab), ("internal/strconv.uint64pow10", laid_internal_strconv_uint64pow10), ("caissa/ray.straight", laid_caissa_ray_straight), ("caissa/ray.diagonal", laid_caissa_ray_diagonal), ("caissa/ray.leaps", laid_caissa_ray_leaps), ("caissa/position.full", laid_caissa_position_full)] }
def SymmetryGroupSaid : Prop := symmetryGroupRow.holds Tryz.pinned (OpenSpec.ofChange symmetryGroupSpec)

/-- ITS FALSE NEIGHBOUR: 'it returns false'. Refute it at one input. -/
def symmetryGroupWrong : ChangeSpec := { name := "symmetryGroup", fn := fun _ => fun
  | [d1, d2] => { results := [.lit (.bool false)], args := [d1, d2] }
  | _ => none }
def SymmetryGroupWrongFalsely : Prop := symmetryGroupRow.holds Tryz.pinned (OpenSpec.ofChange symmetryGroupWrong)

/-- 'caissalaw19.SymmetryCanonical': WHATEVER THE INPUT: true; the input reads as it did. -/
def symmetryCanonicalSpec : ChangeSpec := { name := "symmetryCanonical", fn := fun _ => fun
  | [d] => { results := [.lit (.bool true)], args := [d] }
  | _ => none }
def symmetryCanonicalRow : OpenClaim := { program := "ytlannahgjgpfcaagreatdoor", sum := "7d65d48223e52a922c44617f2271d61273522265aede7463c831ed6ba898f775", func := "caissa/caissalaw19.SymmetryCanonical", spec := "symmetryCanonical", inPlace := ["internal/abi.NoEscape", "internal/bytealg.MakeNoZero", "internal/bytealg.abigen_runtime_cmpstring"], unfollowed := true, recurses := true, named := ["caissa/ray.leaps", "caissa/ray.diagonal", "caissa/ray.straight", "caissa/position.full", "internal/strconv.uint64pow10", "math/bits.deBruijn32tab", "math/bits.deBruijn64tab", "caissa/piece.kinds"], apart := false, laid := [("caissa/piece.kinds", laid_caissa_piece_kinds), ("math/bits.deBruijn32tab", laid_math_bits_deBruijn32tab), ("math/bits.deBruijn64tab", laid_math_bits_deBruijn64tab), ("internal/strconv.uint64pow10", laid_internal_strconv_uint64pow10), ("caissa/ray.straight", laid_caissa_ray_straight), ("caissa/ray.diagonal", laid_caissa_ray_diagonal), ("caissa/ray.leaps", laid_caissa_ray_leaps), ("caissa/position.full", laid_caissa_position_full)] }
def SymmetryCanonicalSaid : Prop := symmetryCanonicalRow.holds Tryz.pinned (OpenSpec.ofChange symmetryCanonicalSpec)

/-- ITS FALSE NEIGHBOUR: 'it returns false'. Refute it at one input. -/
def symmetryCanonicalWrong : ChangeSpec := { name := "symmetryCanonical", fn := fun _ => fun
  | [d] => { results := [.lit (.bool false)], args := [d] }
  | _ => none }
def SymmetryCanonicalWrongFalsely : Prop := symmetryCanonicalRow.holds Tryz.pinned (OpenSpec.ofChange symmetryCanonicalWrong)

/-- 'caissalaw19.SymmetryPositions': WHATEVER THE INPUT: true; the input reads as it did. -/
def symmetryPositionsSpec : ChangeSpec := { name := "symmetryPositions", fn := fun _ => fun
  | [d1, d2] => { results := [.lit (.bool true)], args := [d1, d2] }
  | _ => none }
def symmetryPositionsRow : OpenClaim := { program := "ytlannahgjgpfcaagreatdoor", sum := "7d65d48223e52a922c44617f2271d61273522265aede7463c831ed6ba898f775", func := "caissa/caissalaw19.SymmetryPositions", spec := "symmetryPositions", inPlace := ["internal/abi.NoEscape", "internal/bytealg.MakeNoZero", "internal/bytealg.abigen_runtime_cmpstring"], unfollowed := true, recurses := true, named := ["caissa/ray.leaps", "caissa/ray.diagonal", "caissa/ray.straight", "caissa/position.full", "internal/strconv.uint64pow10", "math/bits.deBruijn32tab", "math/bits.deBruijn64tab", "caissa/piece.kinds"], apart := false, laid := [("caissa/piece.kinds", laid_caissa_piece_kinds), ("math/bits.deBruijn32tab", laid_math_bits_deBruijn32tab), ("math/bits.deBruijn64tab", laid_math_bits_deBruijn64tab), ("internal/strconv.uint64pow10", laid_internal_strconv_uint64pow10), ("caissa/ray.straight", laid_caissa_ray_straight), ("caissa/ray.diagonal", laid_caissa_ray_diagonal), ("caissa/ray.leaps", laid_caissa_ray_leaps), ("caissa/position.full", laid_caissa_position_full)] }
def SymmetryPositionsSaid : Prop := symmetryPositionsRow.holds Tryz.pinned (OpenSpec.ofChange symmetryPositionsSpec)

/-- ITS FALSE NEIGHBOUR: 'it returns false'. Refute it at one input. -/
def symmetryPositionsWrong : ChangeSpec := { name := "symmetryPositions", fn := fun _ => fun
  | [d1, d2] => { results := [.lit (.bool false)], args := [d1, d2] }
  | _ => none }
def SymmetryPositionsWrongFalsely : Prop := symmetryPositionsRow.holds Tryz.pinned (OpenSpec.ofChange symmetryPositionsWrong)

/-- 'caissalaw19.SymmetryMoves': WHATEVER THE INPUT: true; the input reads as it did. -/
def symmetryMovesSpec : ChangeSpec := { name := "symmetryMoves", fn := fun _ => fun
  | [d1, d2, d3, d4] => { results := [.lit (.bool true)], args := [d1, d2, d3, d4] }
  | _ => none }
def symmetryMovesRow : OpenClaim := { program := "ytlannahgjgpfcaagreatdoor", sum := "7d65d48223e52a922c44617f2271d61273522265aede7463c831ed6ba898f775", func := "caissa/caissalaw19.SymmetryMoves", spec := "symmetryMoves", inPlace := ["internal/abi.NoEscape", "internal/bytealg.MakeNoZero", "internal/bytealg.abigen_runtime_cmpstring"], unfollowed := true, recurses := true, named := ["caissa/ray.leaps", "caissa/ray.diagonal", "caissa/ray.straight", "caissa/position.full", "internal/strconv.uint64pow10", "math/bits.deBruijn32tab", "math/bits.deBruijn64tab", "caissa/piece.kinds"], apart := false, laid := [("caissa/piece.kinds", laid_caissa_piece_kinds), ("math/bits.deBruijn32tab", laid_math_bits_deBruijn32tab), ("math/bits.deBruijn64tab", laid_math_bits_deBruijn64tab), ("internal/strconv.uint64pow10", laid_internal_strconv_uint64pow10), ("caissa/ray.straight", laid_caissa_ray_straight), ("caissa/ray.diagonal", laid_caissa_ray_diagonal), ("caissa/ray.leaps", laid_caissa_ray_leaps), ("caissa/position.full", laid_caissa_position_full)] }
def SymmetryMovesSaid : Prop := symmetryMovesRow.holds Tryz.pinned (OpenSpec.ofChange symmetryMovesSpec)

/-- ITS FALSE NEIGHBOUR: 'it returns false'. Refute it at one input. -/
def symmetryMovesWrong : ChangeSpec := { name := "symmetryMoves", fn := fun _ => fun
  | [d1, d2, d3, d4] => { results := [.lit (.bool false)], args := [d1, d2, d3, d4] }
  | _ => none }
def SymmetryMovesWrongFalsely : Prop := symmetryMovesRow.holds Tryz.pinned (OpenSpec.ofChange symmetryMovesWrong)

/-- 'caissalaw19.SymmetrySquares': WHATEVER THE INPUT: true; the input reads as it did. -/
def symmetrySquaresSpec : ChangeSpec := { name := "symmetrySquares", fn := fun _ => fun
  | [d1, d2, d3, d4] => { results := [.lit (.bool true)], args := [d1, d2, d3, d4] }
  | _ => none }
def symmetrySquaresRow : OpenClaim := { program := "ytlannahgjgpfcaagreatdoor", sum := "7d65d48223e52a922c44617f2271d61273522265aede7463c831ed6ba898f775", func := "caissa/caissalaw19.SymmetrySquares", spec := "symmetrySquares", inPlace := ["internal/abi.NoEscape", "internal/bytealg.MakeNoZero", "internal/bytealg.abigen_runtime_cmpstring"], unfollowed := true, recurses := true, named := ["caissa/ray.leaps", "caissa/ray.diagonal", "caissa/ray.straight", "caissa/position.full", "internal/strconv.uint64pow10", "math/bits.deBruijn32tab", "math/bits.deBruijn64tab", "caissa/piece.kinds"], apart := false, laid := [("caissa/piece.kinds", laid_caissa_piece_kinds), ("math/bits.deBruijn32tab", laid_math_bits_deBruijn32tab), ("math/bits.deBruijn64tab", laid_math_bits_deBruijn64tab), ("internal/strconv.uint64pow10", laid_internal_strconv_uint64pow10), ("caissa/ray.straight", laid_caissa_ray_straight), ("caissa/ray.diagonal", laid_caissa_ray_diagonal), ("caissa/ray.leaps", laid_caissa_ray_leaps), ("caissa/position.full", laid_caissa_position_full)] }
def SymmetrySquaresSaid : Prop := symmetrySquaresRow.holds Tryz.pinned (OpenSpec.ofChange symmetrySquaresSpec)

/-- ITS FALSE NEIGHBOUR: 'it returns false'. Refute it at one input. -/
def symmetrySquaresWrong : ChangeSpec := { name := "symmetrySquares", fn := fun _ => fun
  | [d1, d2, d3, d4] => { results := [.lit (.bool false)], args := [d1, d2, d3, d4] }
  | _ => none }
def SymmetrySquaresWrongFalsely : Prop := symmetrySquaresRow.holds Tryz.pinned (OpenSpec.ofChange symmetrySquaresWrong)

/-- 'caissalaw19.SymmetryHolds': WHATEVER THE INPUT: true; the input reads as it did. -/
def symmetryHoldsSpec : ChangeSpec := { name := "symmetryHolds", fn := fun _ => fun
  | [d1, d2, d3, d4] => { results := [.lit (.bool true)], args := [d1, d2, d3, d4] }
  | _ => none }
def symmetryHoldsRow : OpenClaim := { program := "ytlannahgjgpfcaagreatdoor", sum := "7d65d48223e52a922c44617f2271d61273522265aede7463c831ed6ba898f775", func := "caissa/caissalaw19.SymmetryHolds", spec := "symmetryHolds", inPlace := ["internal/abi.NoEscape", "internal/bytealg.MakeNoZero", "internal/bytealg.abigen_runtime_cmpstring"], unfollowed := true, recurses := true, named := ["caissa/ray.leaps", "caissa/ray.diagonal", "caissa/ray.straight", "caissa/position.full", "internal/strconv.uint64pow10", "math/bits.deBruijn32tab", "math/bits.deBruijn64tab", "caissa/piece.kinds", "caissa/making.castles"], apart := false, laid := [("caissa/piece.kinds", laid_caissa_piece_kinds), ("math/bits.deBruijn32tab", laid_math_bits_deBruijn32tab), ("math/bits.deBruijn64tab", laid_math_bits_deBruijn64tab), ("internal/strconv.uint64pow10", laid_internal_strconv_uint64pow10), ("caissa/ray.straight", laid_caissa_ray_straight), ("caissa/ray.diagonal", laid_caissa_ray_diagonal), ("caissa/ray.leaps", laid_caissa_ray_leaps), ("caissa/position.full", laid_caissa_position_full), ("caissa/making.castles", laid_caissa_making_castles)] }
def SymmetryHoldsSaid : Prop := symmetryHoldsRow.holds Tryz.pinned (OpenSpec.ofChange symmetryHoldsSpec)

/-- ITS FALSE NEIGHBOUR: 'it returns false'. Refute it at one input. -/
def symmetryHoldsWrong : ChangeSpec := { name := "symmetryHolds", fn := fun _ => fun
  | [d1, d2, d3, d4] => { results := [.lit (.bool false)], args := [d1, d2, d3, d4] }
  | _ => none }
def SymmetryHoldsWrongFalsely : Prop := symmetryHoldsRow.holds Tryz.pinned (OpenSpec.ofChange symmetryHoldsWrong)

/- THE SECOND FORM. 'bulk': how many values and letters a reading holds, each counted each time it is reached (what is shared counts as often as it is met; a slice's spare places count too). A statement '..UptoSaid' is the law's where the arguments, and the package variables that the reading takes, are together of bulk at most 1048576: NARROWER than '..Said'. Prove '..Said' where nothing that the law and all that it calls make is longer than what came in: it says more and counts as full. Else prove '..UptoSaid'. A law counts once. -/
mutual
def uptoBulk {H : Type} : DataW H → Nat
  | .lit (.string bytes) => bytes.length + 1
  | .lit _ => 1
  | .nil => 1
  | .ptr d => uptoBulk d + 1
  | .slice elems spare => uptoBulkAll elems + uptoBulkAll spare + 1
  | .agg parts => uptoBulkAll parts + 1
  | .iface _ d => uptoBulk d + 1
  | .map entries => uptoBulkEntries entries + 1
  | .held _ => 1
def uptoBulkAll {H : Type} : List (DataW H) → Nat
  | [] => 0
  | d :: r => uptoBulk d + uptoBulkAll r
def uptoBulkEntries {H : Type} : List (Lit × DataW H) → Nat
  | [] => 0
  | x :: r => uptoBulkEntry x + uptoBulkEntries r
def uptoBulkEntry {H : Type} : Lit × DataW H → Nat
  | (.string bytes, d) => bytes.length + uptoBulk d + 1
  | (_, d) => uptoBulk d + 1
 end
def uptoSmall : (H : Type) → List (DataW H) → Bool := fun _ ds => decide (uptoBulkAll ds ≤ 1048576)
def OpenSpec.upto (s : _root_.Go.ChangeSpec) : _root_.Go.OpenSpec := { _root_.Go.OpenSpec.ofChange s with cond := some uptoSmall }

/-- 'caissalaw19.SymmetryGroup', WHERE WHAT IT READS IS OF BULK AT MOST 1048576: true; the input reads as it did. -/
def symmetryGroupUptoRow : OpenClaim := { program := "ytlannahgjgpfcaagreatdoor", sum := "7d65d48223e52a922c44617f2271d61273522265aede7463c831ed6ba898f775", func := "caissa/caissalaw19.SymmetryGroup", spec := "symmetryGroup", inPlace := ["internal/abi.NoEscape", "internal/bytealg.MakeNoZero", "internal/bytealg.abigen_runtime_cmpstring"], unfollowed := true, recurses := true, named := ["caissa/ray.leaps", "caissa/ray.diagonal", "caissa/ray.straight", "caissa/position.full", "internal/strconv.uint64pow10", "math/bits.deBruijn32tab", "math/bits.deBruijn64tab", "caissa/piece.kinds"], apart := false, laid := [("caissa/piece.kinds", laid_caissa_piece_kinds), ("math/bits.deBruijn32tab", laid_math_bits_deBruijn32tab), ("math/bits.deBruijn64tab", laid_math_bits_deBruijn64tab), ("internal/strconv.uint64pow10", laid_internal_strconv_uint64pow10), ("caissa/ray.straight", laid_caissa_ray_straight), ("caissa/ray.diagonal", laid_caissa_ray_diagonal), ("caissa/ray.leaps", laid_caissa_ray_leaps), ("caissa/position.full", laid_caissa_position_full)], narrowed := true }
def SymmetryGroupUptoSaid : Prop := symmetryGroupUptoRow.holds Tryz.pinned (OpenSpec.upto symmetryGroupSpec)

/-- 'caissalaw19.SymmetryCanonical', WHERE WHAT IT READS IS OF BULK AT MOST 1048576: true; the input reads as it did. -/
def symmetryCanonicalUptoRow : OpenClaim := { program := "ytlannahgjgpfcaagreatdoor", sum := "7d65d48223e52a922c44617f2271d61273522265aede7463c831ed6ba898f775", func := "caissa/caissalaw19.SymmetryCanonical", spec := "symmetryCanonical", inPlace := ["internal/abi.NoEscape", "internal/bytealg.MakeNoZero", "internal/bytealg.abigen_runtime_cmpstring"], unfollowed := true, recurses := true, named := ["caissa/ray.leaps", "caissa/ray.diagonal", "caissa/ray.straight", "caissa/position.full", "internal/strconv.uint64pow10", "math/bits.deBruijn32tab", "math/bits.deBruijn64tab", "caissa/piece.kinds"], apart := false, laid := [("caissa/piece.kinds", laid_caissa_piece_kinds), ("math/bits.deBruijn32tab", laid_math_bits_deBruijn32tab), ("math/bits.deBruijn64tab", laid_math_bits_deBruijn64tab), ("internal/strconv.uint64pow10", laid_internal_strconv_uint64pow10), ("caissa/ray.straight", laid_caissa_ray_straight), ("caissa/ray.diagonal", laid_caissa_ray_diagonal), ("caissa/ray.leaps", laid_caissa_ray_leaps), ("caissa/position.full", laid_caissa_position_full)], narrowed := true }
def SymmetryCanonicalUptoSaid : Prop := symmetryCanonicalUptoRow.holds Tryz.pinned (OpenSpec.upto symmetryCanonicalSpec)

/-- 'caissalaw19.SymmetryPositions', WHERE WHAT IT READS IS OF BULK AT MOST 1048576: true; the input reads as it did. -/
def symmetryPositionsUptoRow : OpenClaim := { program := "ytlannahgjgpfcaagreatdoor", sum := "7d65d48223e52a922c44617f2271d61273522265aede7463c831ed6ba898f775", func := "caissa/caissalaw19.SymmetryPositions", spec := "symmetryPositions", inPlace := ["internal/abi.NoEscape", "internal/bytealg.MakeNoZero", "internal/bytealg.abigen_runtime_cmpstring"], unfollowed := true, recurses := true, named := ["caissa/ray.leaps", "caissa/ray.diagonal", "caissa/ray.straight", "caissa/position.full", "internal/strconv.uint64pow10", "math/bits.deBruijn32tab", "math/bits.deBruijn64tab", "caissa/piece.kinds"], apart := false, laid := [("caissa/piece.kinds", laid_caissa_piece_kinds), ("math/bits.deBruijn32tab", laid_math_bits_deBruijn32tab), ("math/bits.deBruijn64tab", laid_math_bits_deBruijn64tab), ("internal/strconv.uint64pow10", laid_internal_strconv_uint64pow10), ("caissa/ray.straight", laid_caissa_ray_straight), ("caissa/ray.diagonal", laid_caissa_ray_diagonal), ("caissa/ray.leaps", laid_caissa_ray_leaps), ("caissa/position.full", laid_caissa_position_full)], narrowed := true }
def SymmetryPositionsUptoSaid : Prop := symmetryPositionsUptoRow.holds Tryz.pinned (OpenSpec.upto symmetryPositionsSpec)

/-- 'caissalaw19.SymmetryMoves', WHERE WHAT IT READS IS OF BULK AT MOST 1048576: true; the input reads as it did. -/
def symmetryMovesUptoRow : OpenClaim := { program := "ytlannahgjgpfcaagreatdoor", sum := "7d65d48223e52a922c44617f2271d61273522265aede7463c831ed6ba898f775", func := "caissa/caissalaw19.SymmetryMoves", spec := "symmetryMoves", inPlace := ["internal/abi.NoEscape", "internal/bytealg.MakeNoZero", "internal/bytealg.abigen_runtime_cmpstring"], unfollowed := true, recurses := true, named := ["caissa/ray.leaps", "caissa/ray.diagonal", "caissa/ray.straight", "caissa/position.full", "internal/strconv.uint64pow10", "math/bits.deBruijn32tab", "math/bits.deBruijn64tab", "caissa/piece.kinds"], apart := false, laid := [("caissa/piece.kinds", laid_caissa_piece_kinds), ("math/bits.deBruijn32tab", laid_math_bits_deBruijn32tab), ("math/bits.deBruijn64tab", laid_math_bits_deBruijn64tab), ("internal/strconv.uint64pow10", laid_internal_strconv_uint64pow10), ("caissa/ray.straight", laid_caissa_ray_straight), ("caissa/ray.diagonal", laid_caissa_ray_diagonal), ("caissa/ray.leaps", laid_caissa_ray_leaps), ("caissa/position.full", laid_caissa_position_full)], narrowed := true }
def SymmetryMovesUptoSaid : Prop := symmetryMovesUptoRow.holds Tryz.pinned (OpenSpec.upto symmetryMovesSpec)

/-- 'caissalaw19.SymmetrySquares', WHERE WHAT IT READS IS OF BULK AT MOST 1048576: true; the input reads as it did. -/
def symmetrySquaresUptoRow : OpenClaim := { program := "ytlannahgjgpfcaagreatdoor", sum := "7d65d48223e52a922c44617f2271d61273522265aede7463c831ed6ba898f775", func := "caissa/caissalaw19.SymmetrySquares", spec := "symmetrySquares", inPlace := ["internal/abi.NoEscape", "internal/bytealg.MakeNoZero", "internal/bytealg.abigen_runtime_cmpstring"], unfollowed := true, recurses := true, named := ["caissa/ray.leaps", "caissa/ray.diagonal", "caissa/ray.straight", "caissa/position.full", "internal/strconv.uint64pow10", "math/bits.deBruijn32tab", "math/bits.deBruijn64tab", "caissa/piece.kinds"], apart := false, laid := [("caissa/piece.kinds", laid_caissa_piece_kinds), ("math/bits.deBruijn32tab", laid_math_bits_deBruijn32tab), ("math/bits.deBruijn64tab", laid_math_bits_deBruijn64tab), ("internal/strconv.uint64pow10", laid_internal_strconv_uint64pow10), ("caissa/ray.straight", laid_caissa_ray_straight), ("caissa/ray.diagonal", laid_caissa_ray_diagonal), ("caissa/ray.leaps", laid_caissa_ray_leaps), ("caissa/position.full", laid_caissa_position_full)], narrowed := true }
def SymmetrySquaresUptoSaid : Prop := symmetrySquaresUptoRow.holds Tryz.pinned (OpenSpec.upto symmetrySquaresSpec)

/-- 'caissalaw19.SymmetryHolds', WHERE WHAT IT READS IS OF BULK AT MOST 1048576: true; the input reads as it did. -/
def symmetryHoldsUptoRow : OpenClaim := { program := "ytlannahgjgpfcaagreatdoor", sum := "7d65d48223e52a922c44617f2271d61273522265aede7463c831ed6ba898f775", func := "caissa/caissalaw19.SymmetryHolds", spec := "symmetryHolds", inPlace := ["internal/abi.NoEscape", "internal/bytealg.MakeNoZero", "internal/bytealg.abigen_runtime_cmpstring"], unfollowed := true, recurses := true, named := ["caissa/ray.leaps", "caissa/ray.diagonal", "caissa/ray.straight", "caissa/position.full", "internal/strconv.uint64pow10", "math/bits.deBruijn32tab", "math/bits.deBruijn64tab", "caissa/piece.kinds", "caissa/making.castles"], apart := false, laid := [("caissa/piece.kinds", laid_caissa_piece_kinds), ("math/bits.deBruijn32tab", laid_math_bits_deBruijn32tab), ("math/bits.deBruijn64tab", laid_math_bits_deBruijn64tab), ("internal/strconv.uint64pow10", laid_internal_strconv_uint64pow10), ("caissa/ray.straight", laid_caissa_ray_straight), ("caissa/ray.diagonal", laid_caissa_ray_diagonal), ("caissa/ray.leaps", laid_caissa_ray_leaps), ("caissa/position.full", laid_caissa_position_full), ("caissa/making.castles", laid_caissa_making_castles)], narrowed := true }
def SymmetryHoldsUptoSaid : Prop := symmetryHoldsUptoRow.holds Tryz.pinned (OpenSpec.upto symmetryHoldsSpec)

end Rows
end Go.Proofs.YtlannahgjgpfcaaGreatDoor
