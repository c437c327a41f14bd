/- Contracts of the functions that the laws reach, and plain laws of what they compute (text G10); no condition. -/
import Derived.Test.YtcigcehbhhjaiaaGreatDoorG9
set_option maxRecDepth 100000
set_option maxHeartbeats 4000000
namespace Go.Ab
open Go.Proofs
variable {kCa kDb : Bool}
variable {kCa kDb : Bool}
noncomputable abbrev E7 : Env := EE true false [(25, c_rvalid), (136, c_Parse), (92, c_Name), (31, c_rmvalid), (68, c_rOf), (144, c_pletter), (181, c_pparse), (91, c_btext), (143, c_cast6)] []
theorem E7_ok : E7.Fn PP := EE_ok ⟨c_rvalid_ok, c_Parse_ok, c_Name_ok, c_rmvalid_ok, c_rOf_ok, c_pletter_ok, c_pparse_ok, c_btext_ok, c_cast6_ok, trivial⟩ trivial
noncomputable abbrev xs8 : List (FuncId × Func) := [(40, Tryz.f40), (41, Tryz.f41), (88, Tryz.f88), (140, Tryz.f140), (142, Tryz.f142), (90, Tryz.f90), (141, Tryz.f141), (181, Tryz.f181), (89, Tryz.f89), (42, Tryz.f42), (28, Tryz.f28), (77, Tryz.f77)]
theorem xs8_ok : InlOk PP xs8 := ⟨⟨Tryz.func40, by kernel_rfl⟩, ⟨Tryz.func41, by kernel_rfl⟩, ⟨Tryz.func88, by kernel_rfl⟩, ⟨Tryz.func140, by kernel_rfl⟩, ⟨Tryz.func142, by kernel_rfl⟩, ⟨Tryz.func90, by kernel_rfl⟩, ⟨Tryz.func141, by kernel_rfl⟩, ⟨Tryz.func181, by kernel_rfl⟩, ⟨Tryz.func89, by kernel_rfl⟩, ⟨Tryz.func42, by kernel_rfl⟩, ⟨Tryz.func28, by kernel_rfl⟩, ⟨Tryz.func77, by kernel_rfl⟩, trivial⟩
def posS0 : List UInt8 := [56, 120, 56, 32, 114, 110, 98, 113, 107, 98, 110, 114, 47, 112, 112, 112, 112, 112, 112, 112, 112, 47, 56, 47, 56, 47, 56, 47, 56, 47, 80, 80, 80, 80, 80, 80, 80, 80, 47, 82, 78, 66, 81, 75, 66, 78, 82, 32, 119, 32, 75, 81, 107, 113, 32, 45, 32, 48, 32, 49]
def posV0 : V × List O := (.agg [I 8, I 8, .sl 0 0 64 none, .lit false, .int .u8 15, I (-1), I 0, I 1], [.ints true .i8 [4, 2, 3, 5, 6, 3, 2, 4, 1, 1, 1, 1, 1, 1, 1, 1, 0, 0, 0, 0, 0, 0, 0, 0, 0, 0, 0, 0, 0, 0, 0, 0, 0, 0, 0, 0, 0, 0, 0, 0, 0, 0, 0, 0, 0, 0, 0, 0, -1, -1, -1, -1, -1, -1, -1, -1, -4, -2, -3, -5, -6, -3, -2, -4]])
theorem posR0 : runFn { E7 with pf := pfRun E7 xs8 1000 8, cc := true } 3 1000 Tryz.f40 [.str posS0] [] = some posV0 := by kernel_rfl
def posS1 : List UInt8 := [51, 120, 54, 32, 107, 50, 47, 51, 47, 51, 47, 80, 112, 49, 47, 51, 47, 50, 75, 32, 119, 32, 45, 32, 98, 52, 32, 48, 32, 49]
def posV1 : V × List O := (.agg [I 3, I 6, .sl 0 0 18 none, .lit false, .int .u8 0, I 10, I 0, I 1], [.ints true .i8 [0, 0, 6, 0, 0, 0, 1, -1, 0, 0, 0, 0, 0, 0, 0, -6, 0, 0]])
theorem posR1 : runFn { E7 with pf := pfRun E7 xs8 1000 8, cc := true } 3 1000 Tryz.f40 [.str posS1] [] = some posV1 := by kernel_rfl
def posS2 : List UInt8 := [51, 120, 51, 32, 50, 107, 47, 80, 50, 47, 50, 75, 32, 119, 32, 45, 32, 45, 32, 53, 32, 55]
def posV2 : V × List O := (.agg [I 3, I 3, .sl 0 0 9 none, .lit false, .int .u8 0, I (-1), I 5, I 7], [.ints true .i8 [0, 0, 6, 1, 0, 0, 0, 0, -6]])
theorem posR2 : runFn { E7 with pf := pfRun E7 xs8 1000 8, cc := true } 3 1000 Tryz.f40 [.str posS2] [] = some posV2 := by kernel_rfl
def posS3 : List UInt8 := [56, 120, 56, 32, 52, 107, 51, 47, 56, 47, 56, 47, 56, 47, 56, 47, 56, 47, 56, 47, 82, 51, 75, 50, 82, 32, 119, 32, 75, 81, 32, 45, 32, 51, 32, 57]
def posV3 : V × List O := (.agg [I 8, I 8, .sl 0 0 64 none, .lit false, .int .u8 3, I (-1), I 3, I 9], [.ints true .i8 [4, 0, 0, 0, 6, 0, 0, 4, 0, 0, 0, 0, 0, 0, 0, 0, 0, 0, 0, 0, 0, 0, 0, 0, 0, 0, 0, 0, 0, 0, 0, 0, 0, 0, 0, 0, 0, 0, 0, 0, 0, 0, 0, 0, 0, 0, 0, 0, 0, 0, 0, 0, 0, 0, 0, 0, 0, 0, 0, 0, -6, 0, 0, 0]])
theorem posR3 : runFn { E7 with pf := pfRun E7 xs8 1000 8, cc := true } 3 1000 Tryz.f40 [.str posS3] [] = some posV3 := by kernel_rfl
def posS4 : List UInt8 := [56, 120, 56, 32, 52, 107, 114, 50, 47, 56, 47, 56, 47, 56, 47, 56, 47, 56, 47, 56, 47, 82, 51, 75, 50, 82, 32, 119, 32, 75, 81, 32, 45, 32, 51, 32, 57]
def posV4 : V × List O := (.agg [I 8, I 8, .sl 0 0 64 none, .lit false, .int .u8 3, I (-1), I 3, I 9], [.ints true .i8 [4, 0, 0, 0, 6, 0, 0, 4, 0, 0, 0, 0, 0, 0, 0, 0, 0, 0, 0, 0, 0, 0, 0, 0, 0, 0, 0, 0, 0, 0, 0, 0, 0, 0, 0, 0, 0, 0, 0, 0, 0, 0, 0, 0, 0, 0, 0, 0, 0, 0, 0, 0, 0, 0, 0, 0, 0, 0, 0, 0, -6, -4, 0, 0]])
theorem posR4 : runFn { E7 with pf := pfRun E7 xs8 1000 8, cc := true } 3 1000 Tryz.f40 [.str posS4] [] = some posV4 := by kernel_rfl
def posS5 : List UInt8 := [52, 120, 52, 32, 49, 107, 50, 47, 49, 114, 50, 47, 49, 82, 50, 47, 49, 75, 50, 32, 119, 32, 45, 32, 45, 32, 48, 32, 49]
def posV5 : V × List O := (.agg [I 4, I 4, .sl 0 0 16 none, .lit false, .int .u8 0, I (-1), I 0, I 1], [.ints true .i8 [0, 6, 0, 0, 0, 4, 0, 0, 0, -4, 0, 0, 0, -6, 0, 0]])
theorem posR5 : runFn { E7 with pf := pfRun E7 xs8 1000 8, cc := true } 3 1000 Tryz.f40 [.str posS5] [] = some posV5 := by kernel_rfl
def posT (s : List UInt8) : Option (V × List O) := if s = posS0 then some posV0 else if s = posS1 then some posV1 else if s = posS2 then some posV2 else if s = posS3 then some posV3 else if s = posS4 then some posV4 else if s = posS5 then some posV5 else none
theorem posT_ok {s : List UInt8} {x : V × List O} (h : posT s = some x) : FnSound (GGx true false) PP 40 [.str s] [] x.1 x.2 := by
 unfold posT at h
 by_cases e0 : s = posS0
 ·rw [if_pos e0] at h; cases h; subst e0; exact run_ct E7_ok xs8_ok 1000 8 Tryz.func40 posR0
 rw [if_neg e0] at h
 by_cases e1 : s = posS1
 ·rw [if_pos e1] at h; cases h; subst e1; exact run_ct E7_ok xs8_ok 1000 8 Tryz.func40 posR1
 rw [if_neg e1] at h
 by_cases e2 : s = posS2
 ·rw [if_pos e2] at h; cases h; subst e2; exact run_ct E7_ok xs8_ok 1000 8 Tryz.func40 posR2
 rw [if_neg e2] at h
 by_cases e3 : s = posS3
 ·rw [if_pos e3] at h; cases h; subst e3; exact run_ct E7_ok xs8_ok 1000 8 Tryz.func40 posR3
 rw [if_neg e3] at h
 by_cases e4 : s = posS4
 ·rw [if_pos e4] at h; cases h; subst e4; exact run_ct E7_ok xs8_ok 1000 8 Tryz.func40 posR4
 rw [if_neg e4] at h
 by_cases e5 : s = posS5
 ·rw [if_pos e5] at h; cases h; subst e5; exact run_ct E7_ok xs8_ok 1000 8 Tryz.func40 posR5
 rw [if_neg e5] at h
 cases h
def c_pos8 : CF
 | [.str s], [] => match posT s with
  | some x => some (true, x.1, x.2)
  | none => none
 | _, _ => none
theorem c_pos8_ok : CtOk (GGx true false) PP (40, c_pos8) := by
 refine ct_mk Tryz.func40 (by kernel_rfl) rfl fun a0 h0 c0 v0 N0 e hc => ?_
 unfold c_pos8 at e
 split at e
 ·split at e
  ·rename_i h
   cases e
   exact posT_ok h
  ·cases e
 ·cases e
noncomputable abbrev E8 : Env := EE true false [(15, c_make), (40, c_pos8), (136, c_Parse), (92, c_Name), (31, c_rmvalid), (68, c_rOf), (144, c_pletter), (181, c_pparse), (91, c_btext)] []
theorem E8_ok : E8.Fn PP := EE_ok ⟨c_make_ok, c_pos8_ok, c_Parse_ok, c_Name_ok, c_rmvalid_ok, c_rOf_ok, c_pletter_ok, c_pparse_ok, c_btext_ok, trivial⟩ trivial
theorem run8 : runFn { E8 with pf := pfRun E8 xs8 1000 8, cc := true } 3 1000 Tryz.f13 [] [] = some (.lit true, []) := by kernel_rfl
def c_known8 : CF
 | [], [] => some (true, .bool true, [])
 | _, _ => none
theorem c_known8_ok : CtOk (GGx true false) PP (13, c_known8) := by
 refine ct_mk Tryz.func13 (by kernel_rfl) rfl fun a0 h0 c0 v0 N0 e hc => ?_
 unfold c_known8 at e
 split at e
 ·cases e
  exact FnSound.like (run_ct E8_ok xs8_ok 1000 8 Tryz.func13 run8) (fun _ _ h => h)
 ·cases e
end Go.Ab
