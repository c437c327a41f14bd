/-
  NARROWER THAN 'FOR EVERY INPUT', by the rows' own cells (each row's printed sentence says how): RayRays: laid · RayLines: laid · RayReaches: laid · RayPawns: laid · RayHolds: laid · AttackAttackers: laid · AttackAll: laid · AttackChecks: laid · AttackPins: laid · AttackHolds: laid.
  DERIVED. THE GIVEN ROWS OF THIS SEAT. 10 by the template 'for every input the law returns true; each argument reads behind the call as it read before'; 0 by the template 'total and deterministic' (their statements: YtjckbgodcefogaaDoorTotals.lean).
  GIVEN WITH THE SEED: the statements are not yours to turn. If you find one false, say at which input.
  Laid BY PROGRAM, IN A SANDBOX (cutbox-rows.mjs): the forced cells as the released guide's own fill.sh prints them over the translation ed9ba0c0694bf153… (all of the seat's roots in one cut). By AI agents, Wed Nov 11 2026. No macro, syntax, notation, axiom, sorry.
-/
import Derived.Test.YtjckbgodcefogaaDoorChecked
import GoSem.Claim
import GoSem.ClaimJoined
import GoSem.ClaimMapViews
import Derived.JoinedTies
import Derived.KernelRfl
namespace Go.Proofs.YtjckbgodcefogaaDoor
/- THE CELL 'sum', in the pinned program and in every row, IS THE sha256 OF THE DUMP (.gsa) THAT YtjckbgodcefogaaDoorProg.lean LOADS. Nothing in Lean hashes anything: it is a label: what it is worth is what the hold of that sum in a sandbox is worth. -/
noncomputable def Tryd.pinned : Pinned := { name := "ytjckbgodcefogaadoor", sum := "ed9ba0c0694bf153d90c8fe76841e84e09925951c3b99419c1beb9595415b0bd", checked := Tryd.checked }
namespace Rows
def none {H : Type} : Left H := { results := [], args := [] }

/- WHAT THE LISTED PACKAGE-LEVEL VARIABLES READ AS WHEN THE CALL BEGINS. Each datum BY PROGRAM (the guide's laid-datum.mjs) off the statement by which the dump's own 'gosem.cut.vars' lays the variable. In a bare row this is a premise. The card (YtjckbgodcefogaaDoorCards.lean) ties it to the program's text. -/
def laid_caissa_ray_straight {H : Type} : DataW H := .agg [.agg [.lit (.int .i64 1), .lit (.int .i64 0)], .agg [.lit (.int .i64 0), .lit (.int .i64 1)], .agg [.lit (.int .i64 (-1)), .lit (.int .i64 0)], .agg [.lit (.int .i64 0), .lit (.int .i64 (-1))]]
def laid_caissa_ray_diagonal {H : Type} : DataW H := .agg [.agg [.lit (.int .i64 1), .lit (.int .i64 1)], .agg [.lit (.int .i64 (-1)), .lit (.int .i64 1)], .agg [.lit (.int .i64 (-1)), .lit (.int .i64 (-1))], .agg [.lit (.int .i64 1), .lit (.int .i64 (-1))]]
def laid_caissa_ray_leaps {H : Type} : DataW H := .agg [.agg [.lit (.int .i64 1), .lit (.int .i64 2)], .agg [.lit (.int .i64 2), .lit (.int .i64 1)], .agg [.lit (.int .i64 2), .lit (.int .i64 (-1))], .agg [.lit (.int .i64 1), .lit (.int .i64 (-2))], .agg [.lit (.int .i64 (-1)), .lit (.int .i64 (-2))], .agg [.lit (.int .i64 (-2)), .lit (.int .i64 (-1))], .agg [.lit (.int .i64 (-2)), .lit (.int .i64 1)], .agg [.lit (.int .i64 (-1)), .lit (.int .i64 2)]]

/-- 'caissalaw04.RayRays': WHATEVER THE INPUT: true; the input reads as it did. -/
def rayRaysSpec : ChangeSpec := { name := "rayRays", fn := fun _ => fun
  | [d1, d2, d3, d4, d5] => { results := [.lit (.bool true)], args := [d1, d2, d3, d4, d5] }
  | _ => none }
def rayRaysRow : OpenClaim := { program := "ytjckbgodcefogaadoor", sum := "ed9ba0c0694bf153d90c8fe76841e84e09925951c3b99419c1beb9595415b0bd", func := "caissa/caissalaw04.RayRays", spec := "rayRays", unfollowed := true, recurses := true, named := ["caissa/ray.leaps", "caissa/ray.diagonal", "caissa/ray.straight"], apart := false, laid := [("caissa/ray.straight", laid_caissa_ray_straight), ("caissa/ray.diagonal", laid_caissa_ray_diagonal), ("caissa/ray.leaps", laid_caissa_ray_leaps)] }
def RayRaysSaid : Prop := rayRaysRow.holds Tryd.pinned (OpenSpec.ofChange rayRaysSpec)

/-- ITS FALSE NEIGHBOUR: 'it returns false'. Refute it at one input. -/
def rayRaysWrong : ChangeSpec := { name := "rayRays", fn := fun _ => fun
  | [d1, d2, d3, d4, d5] => { results := [.lit (.bool false)], args := [d1, d2, d3, d4, d5] }
  | _ => none }
def RayRaysWrongFalsely : Prop := rayRaysRow.holds Tryd.pinned (OpenSpec.ofChange rayRaysWrong)

/-- 'caissalaw04.RayLines': WHATEVER THE INPUT: true; the input reads as it did. -/
def rayLinesSpec : ChangeSpec := { name := "rayLines", fn := fun _ => fun
  | [d1, d2, d3] => { results := [.lit (.bool true)], args := [d1, d2, d3] }
  | _ => none }
def rayLinesRow : OpenClaim := { program := "ytjckbgodcefogaadoor", sum := "ed9ba0c0694bf153d90c8fe76841e84e09925951c3b99419c1beb9595415b0bd", func := "caissa/caissalaw04.RayLines", spec := "rayLines", unfollowed := true, recurses := true, named := ["caissa/ray.leaps", "caissa/ray.diagonal", "caissa/ray.straight"], apart := false, laid := [("caissa/ray.straight", laid_caissa_ray_straight), ("caissa/ray.diagonal", laid_caissa_ray_diagonal), ("caissa/ray.leaps", laid_caissa_ray_leaps)] }
def RayLinesSaid : Prop := rayLinesRow.holds Tryd.pinned (OpenSpec.ofChange rayLinesSpec)

/-- ITS FALSE NEIGHBOUR: 'it returns false'. Refute it at one input. -/
def rayLinesWrong : ChangeSpec := { name := "rayLines", fn := fun _ => fun
  | [d1, d2, d3] => { results := [.lit (.bool false)], args := [d1, d2, d3] }
  | _ => none }
def RayLinesWrongFalsely : Prop := rayLinesRow.holds Tryd.pinned (OpenSpec.ofChange rayLinesWrong)

/-- 'caissalaw04.RayReaches': WHATEVER THE INPUT: true; the input reads as it did. -/
def rayReachesSpec : ChangeSpec := { name := "rayReaches", fn := fun _ => fun
  | [d1, d2, d3, d4] => { results := [.lit (.bool true)], args := [d1, d2, d3, d4] }
  | _ => none }
def rayReachesRow : OpenClaim := { program := "ytjckbgodcefogaadoor", sum := "ed9ba0c0694bf153d90c8fe76841e84e09925951c3b99419c1beb9595415b0bd", func := "caissa/caissalaw04.RayReaches", spec := "rayReaches", unfollowed := true, recurses := true, named := ["caissa/ray.leaps", "caissa/ray.diagonal", "caissa/ray.straight"], apart := false, laid := [("caissa/ray.straight", laid_caissa_ray_straight), ("caissa/ray.diagonal", laid_caissa_ray_diagonal), ("caissa/ray.leaps", laid_caissa_ray_leaps)] }
def RayReachesSaid : Prop := rayReachesRow.holds Tryd.pinned (OpenSpec.ofChange rayReachesSpec)

/-- ITS FALSE NEIGHBOUR: 'it returns false'. Refute it at one input. -/
def rayReachesWrong : ChangeSpec := { name := "rayReaches", fn := fun _ => fun
  | [d1, d2, d3, d4] => { results := [.lit (.bool false)], args := [d1, d2, d3, d4] }
  | _ => none }
def RayReachesWrongFalsely : Prop := rayReachesRow.holds Tryd.pinned (OpenSpec.ofChange rayReachesWrong)

/-- 'caissalaw04.RayPawns': WHATEVER THE INPUT: true; the input reads as it did. -/
def rayPawnsSpec : ChangeSpec := { name := "rayPawns", fn := fun _ => fun
  | [d1, d2, d3, d4] => { results := [.lit (.bool true)], args := [d1, d2, d3, d4] }
  | _ => none }
def rayPawnsRow : OpenClaim := { program := "ytjckbgodcefogaadoor", sum := "ed9ba0c0694bf153d90c8fe76841e84e09925951c3b99419c1beb9595415b0bd", func := "caissa/caissalaw04.RayPawns", spec := "rayPawns", unfollowed := true, recurses := true, named := ["caissa/ray.leaps", "caissa/ray.diagonal", "caissa/ray.straight"], apart := false, laid := [("caissa/ray.straight", laid_caissa_ray_straight), ("caissa/ray.diagonal", laid_caissa_ray_diagonal), ("caissa/ray.leaps", laid_caissa_ray_leaps)] }
def RayPawnsSaid : Prop := rayPawnsRow.holds Tryd.pinned (OpenSpec.ofChange rayPawnsSpec)

/-- ITS FALSE NEIGHBOUR: 'it returns false'. Refute it at one input. -/
def rayPawnsWrong : ChangeSpec := { name := "rayPawns", fn := fun _ => fun
  | [d1, d2, d3, d4] => { results := [.lit (.bool false)], args := [d1, d2, d3, d4] }
  | _ => none }
def RayPawnsWrongFalsely : Prop := rayPawnsRow.holds Tryd.pinned (OpenSpec.ofChange rayPawnsWrong)

/-- 'caissalaw04.RayHolds': WHATEVER THE INPUT: true; the input reads as it did. -/
def rayHoldsSpec : ChangeSpec := { name := "rayHolds", fn := fun _ => fun
  | [d1, d2, d3, d4, d5, d6] => { results := [.lit (.bool true)], args := [d1, d2, d3, d4, d5, d6] }
  | _ => none }
def rayHoldsRow : OpenClaim := { program := "ytjckbgodcefogaadoor", sum := "ed9ba0c0694bf153d90c8fe76841e84e09925951c3b99419c1beb9595415b0bd", func := "caissa/caissalaw04.RayHolds", spec := "rayHolds", unfollowed := true, recurses := true, named := ["caissa/ray.leaps", "caissa/ray.diagonal", "caissa/ray.straight"], apart := false, laid := [("caissa/ray.straight", laid_caissa_ray_straight), ("caissa/ray.diagonal", laid_caissa_ray_diagonal), ("caissa/ray.leaps", laid_caissa_ray_leaps)] }
def RayHoldsSaid : Prop := rayHoldsRow.holds Tryd.pinned (OpenSpec.ofChange rayHoldsSpec)

/-- ITS FALSE NEIGHBOUR: 'it returns false'. Refute it at one input. -/
def rayHoldsWrong : ChangeSpec := { name := "rayHolds", fn := fun _ => fun
  | [d1, d2, d3, d4, d5, d6] => { results := [.lit (.bool false)], args := [d1, d2, d3, d4, d5, d6] }
  | _ => none }
def RayHoldsWrongFalsely : Prop := rayHoldsRow.holds Tryd.pinned (OpenSpec.ofChange rayHoldsWrong)

/-- 'caissalaw05.AttackAttackers': WHATEVER THE INPUT: true; the input reads as it did. -/
def attackAttackersSpec : ChangeSpec := { name := "attackAttackers", fn := fun _ => fun
  | [d1, d2, d3] => { results := [.lit (.bool true)], args := [d1, d2, d3] }
  | _ => none }
def attackAttackersRow : OpenClaim := { program := "ytjckbgodcefogaadoor", sum := "ed9ba0c0694bf153d90c8fe76841e84e09925951c3b99419c1beb9595415b0bd", func := "caissa/caissalaw05.AttackAttackers", spec := "attackAttackers", unfollowed := true, recurses := true, named := ["caissa/ray.leaps", "caissa/ray.diagonal", "caissa/ray.straight"], apart := false, laid := [("caissa/ray.straight", laid_caissa_ray_straight), ("caissa/ray.diagonal", laid_caissa_ray_diagonal), ("caissa/ray.leaps", laid_caissa_ray_leaps)] }
def AttackAttackersSaid : Prop := attackAttackersRow.holds Tryd.pinned (OpenSpec.ofChange attackAttackersSpec)

/-- ITS FALSE NEIGHBOUR: 'it returns false'. Refute it at one input. -/
def attackAttackersWrong : ChangeSpec := { name := "attackAttackers", fn := fun _ => fun
  | [d1, d2, d3] => { results := [.lit (.bool false)], args := [d1, d2, d3] }
  | _ => none }
def AttackAttackersWrongFalsely : Prop := attackAttackersRow.holds Tryd.pinned (OpenSpec.ofChange attackAttackersWrong)

/-- 'caissalaw05.AttackAll': WHATEVER THE INPUT: true; the input reads as it did. -/
def attackAllSpec : ChangeSpec := { name := "attackAll", fn := fun _ => fun
  | [d1, d2] => { results := [.lit (.bool true)], args := [d1, d2] }
  | _ => none }
def attackAllRow : OpenClaim := { program := "ytjckbgodcefogaadoor", sum := "ed9ba0c0694bf153d90c8fe76841e84e09925951c3b99419c1beb9595415b0bd", func := "caissa/caissalaw05.AttackAll", spec := "attackAll", unfollowed := true, recurses := true, named := ["caissa/ray.leaps", "caissa/ray.diagonal", "caissa/ray.straight"], apart := false, laid := [("caissa/ray.straight", laid_caissa_ray_straight), ("caissa/ray.diagonal", laid_caissa_ray_diagonal), ("caissa/ray.leaps", laid_caissa_ray_leaps)] }
def AttackAllSaid : Prop := attackAllRow.holds Tryd.pinned (OpenSpec.ofChange attackAllSpec)

/-- ITS FALSE NEIGHBOUR: 'it returns false'. Refute it at one input. -/
def attackAllWrong : ChangeSpec := { name := "attackAll", fn := fun _ => fun
  | [d1, d2] => { results := [.lit (.bool false)], args := [d1, d2] }
  | _ => none }
def AttackAllWrongFalsely : Prop := attackAllRow.holds Tryd.pinned (OpenSpec.ofChange attackAllWrong)

/-- 'caissalaw05.AttackChecks': WHATEVER THE INPUT: true; the input reads as it did. -/
def attackChecksSpec : ChangeSpec := { name := "attackChecks", fn := fun _ => fun
  | [d1, d2] => { results := [.lit (.bool true)], args := [d1, d2] }
  | _ => none }
def attackChecksRow : OpenClaim := { program := "ytjckbgodcefogaadoor", sum := "ed9ba0c0694bf153d90c8fe76841e84e09925951c3b99419c1beb9595415b0bd", func := "caissa/caissalaw05.AttackChecks", spec := "attackChecks", unfollowed := true, recurses := true, named := ["caissa/ray.leaps", "caissa/ray.diagonal", "caissa/ray.straight"], apart := false, laid := [("caissa/ray.straight", laid_caissa_ray_straight), ("caissa/ray.diagonal", laid_caissa_ray_diagonal), ("caissa/ray.leaps", laid_caissa_ray_leaps)] }
def AttackChecksSaid : Prop := attackChecksRow.holds Tryd.pinned (OpenSpec.ofChange attackChecksSpec)

/-- ITS FALSE NEIGHBOUR: 'it returns false'. Refute it at one input. -/
def attackChecksWrong : ChangeSpec := { name := "attackChecks", fn := fun _ => fun
  | [d1, d2] => { results := [.lit (.bool false)], args := [d1, d2] }
  | _ => none }
def AttackChecksWrongFalsely : Prop := attackChecksRow.holds Tryd.pinned (OpenSpec.ofChange attackChecksWrong)

/-- 'caissalaw05.AttackPins': WHATEVER THE INPUT: true; the input reads as it did. -/
def attackPinsSpec : ChangeSpec := { name := "attackPins", fn := fun _ => fun
  | [d1, d2, d3] => { results := [.lit (.bool true)], args := [d1, d2, d3] }
  | _ => none }
def attackPinsRow : OpenClaim := { program := "ytjckbgodcefogaadoor", sum := "ed9ba0c0694bf153d90c8fe76841e84e09925951c3b99419c1beb9595415b0bd", func := "caissa/caissalaw05.AttackPins", spec := "attackPins", unfollowed := true, recurses := true, named := ["caissa/ray.leaps", "caissa/ray.diagonal", "caissa/ray.straight"], apart := false, laid := [("caissa/ray.straight", laid_caissa_ray_straight), ("caissa/ray.diagonal", laid_caissa_ray_diagonal), ("caissa/ray.leaps", laid_caissa_ray_leaps)] }
def AttackPinsSaid : Prop := attackPinsRow.holds Tryd.pinned (OpenSpec.ofChange attackPinsSpec)

/-- ITS FALSE NEIGHBOUR: 'it returns false'. Refute it at one input. -/
def attackPinsWrong : ChangeSpec := { name := "attackPins", fn := fun _ => fun
  | [d1, d2, d3] => { results := [.lit (.bool false)], args := [d1, d2, d3] }
  | _ => none }
def AttackPinsWrongFalsely : Prop := attackPinsRow.holds Tryd.pinned (OpenSpec.ofChange attackPinsWrong)

/-- 'caissalaw05.AttackHolds': WHATEVER THE INPUT: true; the input reads as it did. -/
def attackHoldsSpec : ChangeSpec := { name := "attackHolds", fn := fun _ => fun
  | [d1, d2, d3] => { results := [.lit (.bool true)], args := [d1, d2, d3] }
  | _ => none }
def attackHoldsRow : OpenClaim := { program := "ytjckbgodcefogaadoor", sum := "ed9ba0c0694bf153d90c8fe76841e84e09925951c3b99419c1beb9595415b0bd", func := "caissa/caissalaw05.AttackHolds", spec := "attackHolds", unfollowed := true, recurses := true, named := ["caissa/ray.leaps", "caissa/ray.diagonal", "caissa/ray.straight"], apart := false, laid := [("caissa/ray.straight", laid_caissa_ray_straight), ("caissa/ray.diagonal", laid_caissa_ray_diagonal), ("caissa/ray.leaps", laid_caissa_ray_leaps)] }
def AttackHoldsSaid : Prop := attackHoldsRow.holds Tryd.pinned (OpenSpec.ofChange attackHoldsSpec)

/-- ITS FALSE NEIGHBOUR: 'it returns false'. Refute it at one input. -/
def attackHoldsWrong : ChangeSpec := { name := "attackHolds", fn := fun _ => fun
  | [d1, d2, d3] => { results := [.lit (.bool false)], args := [d1, d2, d3] }
  | _ => none }
def AttackHoldsWrongFalsely : Prop := attackHoldsRow.holds Tryd.pinned (OpenSpec.ofChange attackHoldsWrong)

/- THE SECOND FORM. 'bulk': how many values and letters a reading holds, each counted each time it is reached (what is shared counts as often as it is met; a slice's spare places count too). A statement '..UptoSaid' is the law's where the arguments, and the package variables that the reading takes, are together of bulk at most 1048576: NARROWER than '..Said'. Prove '..Said' where nothing that the law and all that it calls make is longer than what came in: it says more and counts as full. Else prove '..UptoSaid'. A law counts once. -/
mutual
def uptoBulk {H : Type} : DataW H → Nat
  | .lit (.string bytes) => bytes.length + 1
  | .lit _ => 1
  | .nil => 1
  | .ptr d => uptoBulk d + 1
  | .slice elems spare => uptoBulkAll elems + uptoBulkAll spare + 1
  | .agg parts => uptoBulkAll parts + 1
  | .iface _ d => uptoBulk d + 1
  | .map entries => uptoBulkEntries entries + 1
  | .held _ => 1
def uptoBulkAll {H : Type} : List (DataW H) → Nat
  | [] => 0
  | d :: r => uptoBulk d + uptoBulkAll r
def uptoBulkEntries {H : Type} : List (Lit × DataW H) → Nat
  | [] => 0
  | x :: r => uptoBulkEntry x + uptoBulkEntries r
def uptoBulkEntry {H : Type} : Lit × DataW H → Nat
  | (.string bytes, d) => bytes.length + uptoBulk d + 1
  | (_, d) => uptoBulk d + 1
 end
def uptoSmall : (H : Type) → List (DataW H) → Bool := fun _ ds => decide (uptoBulkAll ds ≤ 1048576)
def OpenSpec.upto (s : _root_.Go.ChangeSpec) : _root_.Go.OpenSpec := { _root_.Go.OpenSpec.ofChange s with cond := some uptoSmall }

/-- 'caissalaw04.RayRays', WHERE WHAT IT READS IS OF BULK AT MOST 1048576: true; the input reads as it did. -/
def rayRaysUptoRow : OpenClaim := { program := "ytjckbgodcefogaadoor", sum := "ed9ba0c0694bf153d90c8fe76841e84e09925951c3b99419c1beb9595415b0bd", func := "caissa/caissalaw04.RayRays", spec := "rayRays", unfollowed := true, recurses := true, named := ["caissa/ray.leaps", "caissa/ray.diagonal", "caissa/ray.straight"], apart := false, laid := [("caissa/ray.straight", laid_caissa_ray_straight), ("caissa/ray.diagonal", laid_caissa_ray_diagonal), ("caissa/ray.leaps", laid_caissa_ray_leaps)], narrowed := true }
def RayRaysUptoSaid : Prop := rayRaysUptoRow.holds Tryd.pinned (OpenSpec.upto rayRaysSpec)

/-- 'caissalaw04.RayLines', WHERE WHAT IT READS IS OF BULK AT MOST 1048576: true; the input reads as it did. -/
def rayLinesUptoRow : OpenClaim := { program := "ytjckbgodcefogaadoor", sum := "ed9ba0c0694bf153d90c8fe76841e84e09925951c3b99419c1beb9595415b0bd", func := "caissa/caissalaw04.RayLines", spec := "rayLines", unfollowed := true, recurses := true, named := ["caissa/ray.leaps", "caissa/ray.diagonal", "caissa/ray.straight"], apart := false, laid := [("caissa/ray.straight", laid_caissa_ray_straight), ("caissa/ray.diagonal", laid_caissa_ray_diagonal), ("caissa/ray.leaps", laid_caissa_ray_leaps)], narrowed := true }
def RayLinesUptoSaid : Prop := rayLinesUptoRow.holds Tryd.pinned (OpenSpec.upto rayLinesSpec)

/-- 'caissalaw04.RayReaches', WHERE WHAT IT READS IS OF BULK AT MOST 1048576: true; the input reads as it did. -/
def rayReachesUptoRow : OpenClaim := { program := "ytjckbgodcefogaadoor", sum := "ed9ba0c0694bf153d90c8fe76841e84e09925951c3b99419c1beb9595415b0bd", func := "caissa/caissalaw04.RayReaches", spec := "rayReaches", unfollowed := true, recurses := true, named := ["caissa/ray.leaps", "caissa/ray.diagonal", "caissa/ray.straight"], apart := false, laid := [("caissa/ray.straight", laid_caissa_ray_straight), ("caissa/ray.diagonal", laid_caissa_ray_diagonal), ("caissa/ray.leaps", laid_caissa_ray_leaps)], narrowed := true }
def RayReachesUptoSaid : Prop := rayReachesUptoRow.holds Tryd.pinned (OpenSpec.upto rayReachesSpec)

/-- 'caissalaw04.RayPawns', WHERE WHAT IT READS IS OF BULK AT MOST 1048576: true; the input reads as it did. -/
def rayPawnsUptoRow : OpenClaim := { program := "ytjckbgodcefogaadoor", sum := "ed9ba0c0694bf153d90c8fe76841e84e09925951c3b99419c1beb9595415b0bd", func := "caissa/caissalaw04.RayPawns", spec := "rayPawns", unfollowed := true, recurses := true, named := ["caissa/ray.leaps", "caissa/ray.diagonal", "caissa/ray.straight"], apart := false, laid := [("caissa/ray.straight", laid_caissa_ray_straight), ("caissa/ray.diagonal", laid_caissa_ray_diagonal), ("caissa/ray.leaps", laid_caissa_ray_leaps)], narrowed := true }
def RayPawnsUptoSaid : Prop := rayPawnsUptoRow.holds Tryd.pinned (OpenSpec.upto rayPawnsSpec)

/-- 'caissalaw04.RayHolds', WHERE WHAT IT READS IS OF BULK AT MOST 1048576: true; the input reads as it did. -/
def rayHoldsUptoRow : OpenClaim := { program := "ytjckbgodcefogaadoor", sum := "ed9ba0c0694bf153d90c8fe76841e84e09925951c3b99419c1beb9595415b0bd", func := "caissa/caissalaw04.RayHolds", spec := "rayHolds", unfollowed := true, recurses := true, named := ["caissa/ray.leaps", "caissa/ray.diagonal", "caissa/ray.straight"], apart := false, laid := [("caissa/ray.straight", laid_caissa_ray_straight), ("caissa/ray.diagonal", laid_caissa_ray_diagonal), ("caissa/ray.leaps", laid_caissa_ray_leaps)], narrowed := true }
def RayHoldsUptoSaid : Prop := rayHoldsUptoRow.holds Tryd.pinned (OpenSpec.upto rayHoldsSpec)

/-- 'caissalaw05.AttackAttackers', WHERE WHAT IT READS IS OF BULK AT MOST 1048576: true; the input reads as it did. -/
def attackAttackersUptoRow : OpenClaim := { program := "ytjckbgodcefogaadoor", sum := "ed9ba0c0694bf153d90c8fe76841e84e09925951c3b99419c1beb9595415b0bd", func := "caissa/caissalaw05.AttackAttackers", spec := "attackAttackers", unfollowed := true, recurses := true, named := ["caissa/ray.leaps", "caissa/ray.diagonal", "caissa/ray.straight"], apart := false, laid := [("caissa/ray.straight", laid_caissa_ray_straight), ("caissa/ray.diagonal", laid_caissa_ray_diagonal), ("caissa/ray.leaps", laid_caissa_ray_leaps)], narrowed := true }
def AttackAttackersUptoSaid : Prop := attackAttackersUptoRow.holds Tryd.pinned (OpenSpec.upto attackAttackersSpec)

/-- 'caissalaw05.AttackAll', WHERE WHAT IT READS IS OF BULK AT MOST 1048576: true; the input reads as it did. -/
def attackAllUptoRow : OpenClaim := { program := "ytjckbgodcefogaadoor", sum := "ed9ba0c0694bf153d90c8fe76841e84e09925951c3b99419c1beb9595415b0bd", func := "caissa/caissalaw05.AttackAll", spec := "attackAll", unfollowed := true, recurses := true, named := ["caissa/ray.leaps", "caissa/ray.diagonal", "caissa/ray.straight"], apart := false, laid := [("caissa/ray.straight", laid_caissa_ray_straight), ("caissa/ray.diagonal", laid_caissa_ray_diagonal), ("caissa/ray.leaps", laid_caissa_ray_leaps)], narrowed := true }
def AttackAllUptoSaid : Prop := attackAllUptoRow.holds Tryd.pinned (OpenSpec.upto attackAllSpec)

/-- 'caissalaw05.AttackChecks', WHERE WHAT IT READS IS OF BULK AT MOST 1048576: true; the input reads as it did. -/
def attackChecksUptoRow : OpenClaim := { program := "ytjckbgodcefogaadoor", sum := "ed9ba0c0694bf153d90c8fe76841e84e09925951c3b99419c1beb9595415b0bd", func := "caissa/caissalaw05.AttackChecks", spec := "attackChecks", unfollowed := true, recurses := true, named := ["caissa/ray.leaps", "caissa/ray.diagonal", "caissa/ray.straight"], apart := false, laid := [("caissa/ray.straight", laid_caissa_ray_straight), ("caissa/ray.diagonal", laid_caissa_ray_diagonal), ("caissa/ray.leaps", laid_caissa_ray_leaps)], narrowed := true }
def AttackChecksUptoSaid : Prop := attackChecksUptoRow.holds Tryd.pinned (OpenSpec.upto attackChecksSpec)

/-- 'caissalaw05.AttackPins', WHERE WHAT IT READS IS OF BULK AT MOST 1048576: true; the input reads as it did. -/
def attackPinsUptoRow : OpenClaim := { program := "ytjckbgodcefogaadoor", sum := "ed9ba0c0694bf153d90c8fe76841e84e09925951c3b99419c1beb9595415b0bd", func := "caissa/caissalaw05.AttackPins", spec := "attackPins", unfollowed := true, recurses := true, named := ["caissa/ray.leaps", "caissa/ray.diagonal", "caissa/ray.straight"], apart := false, laid := [("caissa/ray.straight", laid_caissa_ray_straight), ("caissa/ray.diagonal", laid_caissa_ray_diagonal), ("caissa/ray.leaps", laid_caissa_ray_leaps)], narrowed := true }
def AttackPinsUptoSaid : Prop := attackPinsUptoRow.holds Tryd.pinned (OpenSpec.upto attackPinsSpec)

/-- 'caissalaw05.AttackHolds', WHERE WHAT IT READS IS OF BULK AT MOST 1048576: true; the input reads as it did. -/
def attackHoldsUptoRow : OpenClaim := { program := "ytjckbgodcefogaadoor", sum := "ed9ba0c0694bf153d90c8fe76841e84e09925951c3b99419c1beb9595415b0bd", func := "caissa/caissalaw05.AttackHolds", spec := "attackHolds", unfollowed := true, recurses := true, named := ["caissa/ray.leaps", "caissa/ray.diagonal", "caissa/ray.straight"], apart := false, laid := [("caissa/ray.straight", laid_caissa_ray_straight), ("caissa/ray.diagonal", laid_caissa_ray_diagonal), ("caissa/ray.leaps", laid_caissa_ray_leaps)], narrowed := true }
def AttackHoldsUptoSaid : Prop := attackHoldsUptoRow.holds Tryd.pinned (OpenSpec.upto attackHoldsSpec)

end Rows
end Go.Proofs.YtjckbgodcefogaaDoor
