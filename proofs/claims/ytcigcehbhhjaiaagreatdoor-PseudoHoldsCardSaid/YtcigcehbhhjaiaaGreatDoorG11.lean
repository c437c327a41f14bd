/- Contracts of the functions that the laws reach, and plain laws of what they compute (text G11); no condition. -/
import Derived.Test.YtcigcehbhhjaiaaGreatDoorG10
set_option maxRecDepth 100000
set_option maxHeartbeats 4000000
namespace Go.Ab
open Go.Proofs
variable {kCa : Bool}
noncomputable abbrev E9 (kCa : Bool) : Env := EE kCa true [(25, c_rvalid), (136, c_Parse), (92, c_Name), (31, c_rmvalid), (68, c_rOf), (144, c_pletter), (181, c_pparse), (91, c_btext), (143, c_cast6)] []
theorem E9_ok : (E9 kCa).Fn PP := EE_ok ⟨c_rvalid_ok, c_Parse_ok, c_Name_ok, c_rmvalid_ok, c_rOf_ok, c_pletter_ok, c_pparse_ok, c_btext_ok, c_cast6_ok, trivial⟩ trivial
noncomputable abbrev xs9 : List (FuncId × Func) := [(61, Tryz.f61), (63, Tryz.f63), (88, Tryz.f88), (140, Tryz.f140), (142, Tryz.f142), (90, Tryz.f90), (141, Tryz.f141), (181, Tryz.f181), (89, Tryz.f89), (62, Tryz.f62), (120, Tryz.f120), (28, Tryz.f28), (77, Tryz.f77)]
theorem xs9_ok : InlOk PP xs9 := ⟨⟨Tryz.func61, by kernel_rfl⟩, ⟨Tryz.func63, by kernel_rfl⟩, ⟨Tryz.func88, by kernel_rfl⟩, ⟨Tryz.func140, by kernel_rfl⟩, ⟨Tryz.func142, by kernel_rfl⟩, ⟨Tryz.func90, by kernel_rfl⟩, ⟨Tryz.func141, by kernel_rfl⟩, ⟨Tryz.func181, by kernel_rfl⟩, ⟨Tryz.func89, by kernel_rfl⟩, ⟨Tryz.func62, by kernel_rfl⟩, ⟨Tryz.func120, by kernel_rfl⟩, ⟨Tryz.func28, by kernel_rfl⟩, ⟨Tryz.func77, by kernel_rfl⟩, trivial⟩
def poqS0 : List UInt8 := [56, 120, 56, 32, 114, 110, 98, 113, 107, 98, 110, 114, 47, 112, 112, 112, 112, 112, 112, 112, 112, 47, 56, 47, 56, 47, 56, 47, 56, 47, 80, 80, 80, 80, 80, 80, 80, 80, 47, 82, 78, 66, 81, 75, 66, 78, 82, 32, 119, 32, 75, 81, 107, 113, 32, 45, 32, 48, 32, 49]
def poqV0 : V × List O := (.agg [I 8, I 8, .sl 0 0 64 none, .lit false, .int .u8 15, I (-1), I 0, I 1], [.ints true .i8 [4, 2, 3, 5, 6, 3, 2, 4, 1, 1, 1, 1, 1, 1, 1, 1, 0, 0, 0, 0, 0, 0, 0, 0, 0, 0, 0, 0, 0, 0, 0, 0, 0, 0, 0, 0, 0, 0, 0, 0, 0, 0, 0, 0, 0, 0, 0, 0, -1, -1, -1, -1, -1, -1, -1, -1, -4, -2, -3, -5, -6, -3, -2, -4]])
theorem poqR0 : runFn { E9 kCa with pf := pfRun (E9 kCa) xs9 1000 8, cc := true } 3 1000 Tryz.f61 [.str poqS0] [] = some poqV0 := by kernel_rfl
def poqS1 : List UInt8 := [52, 120, 52, 32, 49, 107, 50, 47, 49, 114, 50, 47, 49, 82, 50, 47, 49, 75, 50, 32, 119, 32, 45, 32, 45, 32, 48, 32, 49]
def poqV1 : V × List O := (.agg [I 4, I 4, .sl 0 0 16 none, .lit false, .int .u8 0, I (-1), I 0, I 1], [.ints true .i8 [0, 6, 0, 0, 0, 4, 0, 0, 0, -4, 0, 0, 0, -6, 0, 0]])
theorem poqR1 : runFn { E9 kCa with pf := pfRun (E9 kCa) xs9 1000 8, cc := true } 3 1000 Tryz.f61 [.str poqS1] [] = some poqV1 := by kernel_rfl
def poqS2 : List UInt8 := [51, 120, 51, 32, 50, 107, 47, 80, 50, 47, 50, 75, 32, 119, 32, 45, 32, 45, 32, 53, 32, 55]
def poqV2 : V × List O := (.agg [I 3, I 3, .sl 0 0 9 none, .lit false, .int .u8 0, I (-1), I 5, I 7], [.ints true .i8 [0, 0, 6, 1, 0, 0, 0, 0, -6]])
theorem poqR2 : runFn { E9 kCa with pf := pfRun (E9 kCa) xs9 1000 8, cc := true } 3 1000 Tryz.f61 [.str poqS2] [] = some poqV2 := by kernel_rfl
def poqS3 : List UInt8 := [56, 120, 56, 32, 52, 107, 114, 50, 47, 56, 47, 56, 47, 56, 47, 56, 47, 56, 47, 56, 47, 82, 51, 75, 50, 82, 32, 119, 32, 75, 81, 32, 45, 32, 51, 32, 57]
def poqV3 : V × List O := (.agg [I 8, I 8, .sl 0 0 64 none, .lit false, .int .u8 3, I (-1), I 3, I 9], [.ints true .i8 [4, 0, 0, 0, 6, 0, 0, 4, 0, 0, 0, 0, 0, 0, 0, 0, 0, 0, 0, 0, 0, 0, 0, 0, 0, 0, 0, 0, 0, 0, 0, 0, 0, 0, 0, 0, 0, 0, 0, 0, 0, 0, 0, 0, 0, 0, 0, 0, 0, 0, 0, 0, 0, 0, 0, 0, 0, 0, 0, 0, -6, -4, 0, 0]])
theorem poqR3 : runFn { E9 kCa with pf := pfRun (E9 kCa) xs9 1000 8, cc := true } 3 1000 Tryz.f61 [.str poqS3] [] = some poqV3 := by kernel_rfl
def poqT (s : List UInt8) : Option (V × List O) := if s = poqS0 then some poqV0 else if s = poqS1 then some poqV1 else if s = poqS2 then some poqV2 else if s = poqS3 then some poqV3 else none
theorem poqT_ok {s : List UInt8} {x : V × List O} (h : poqT s = some x) : FnSound (GGx kCa true) PP 61 [.str s] [] x.1 x.2 := by
 unfold poqT at h
 by_cases e0 : s = poqS0
 ·rw [if_pos e0] at h; cases h; subst e0; exact run_ct E9_ok xs9_ok 1000 8 Tryz.func61 poqR0
 rw [if_neg e0] at h
 by_cases e1 : s = poqS1
 ·rw [if_pos e1] at h; cases h; subst e1; exact run_ct E9_ok xs9_ok 1000 8 Tryz.func61 poqR1
 rw [if_neg e1] at h
 by_cases e2 : s = poqS2
 ·rw [if_pos e2] at h; cases h; subst e2; exact run_ct E9_ok xs9_ok 1000 8 Tryz.func61 poqR2
 rw [if_neg e2] at h
 by_cases e3 : s = poqS3
 ·rw [if_pos e3] at h; cases h; subst e3; exact run_ct E9_ok xs9_ok 1000 8 Tryz.func61 poqR3
 rw [if_neg e3] at h
 cases h
def c_pos9 : CF
 | [.str s], [] => match poqT s with
  | some x => some (true, x.1, x.2)
  | none => none
 | _, _ => none
theorem c_pos9_ok : CtOk (GGx kCa true) PP (61, c_pos9) := by
 refine ct_mk Tryz.func61 (by kernel_rfl) rfl fun a0 h0 c0 v0 N0 e hc => ?_
 unfold c_pos9 at e
 split at e
 ·split at e
  ·rename_i h
   cases e
   exact poqT_ok h
  ·cases e
 ·cases e
noncomputable abbrev E10 (kCa : Bool) : Env := EE kCa true [(23, c_pmoves), (24, c_pfrom), (30, c_pis), (33, c_pcap), (34, c_pcas), (61, c_pos9), (136, c_Parse), (92, c_Name), (31, c_rmvalid), (68, c_rOf), (144, c_pletter), (181, c_pparse), (91, c_btext)] []
theorem E10_ok : (E10 kCa).Fn PP := EE_ok ⟨c_pmoves_ok, c_pfrom_ok, c_pis_ok, c_pcap_ok, c_pcas_ok, c_pos9_ok, c_Parse_ok, c_Name_ok, c_rmvalid_ok, c_rOf_ok, c_pletter_ok, c_pparse_ok, c_btext_ok, trivial⟩ trivial
theorem run9 : runFn { E10 kCa with pf := pfRun (E10 kCa) xs9 1000 8, cc := true } 3 1000 Tryz.f22 [] [] = some (.lit true, []) := by kernel_rfl
def c_known9 : CF
 | [], [] => some (true, .bool true, [])
 | _, _ => none
theorem c_known9_ok : CtOk (GGx kCa true) PP (22, c_known9) := by
 refine ct_mk Tryz.func22 (by kernel_rfl) rfl fun a0 h0 c0 v0 N0 e hc => ?_
 unfold c_known9 at e
 split at e
 ·cases e
  exact FnSound.like (run_ct E10_ok xs9_ok 1000 8 Tryz.func22 run9) (fun _ _ h => h)
 ·cases e
end Go.Ab
