/- Contracts of the functions that the laws reach, and plain laws of what they compute (text G10); no condition. -/
import Derived.Test.YtjfeochdckkdeaaGreatDoorG9
set_option maxRecDepth 100000
namespace Go.Ab
open Go.Proofs
section
variable {p : Psn} {a b : Int}
theorem PsH.pa0 (o : PsH p) (h : 0 ≤ p.pa) : validB p.f p.r p.pa = true ∧ p.zs.getD p.pa.toNat 0 = 0 := by
 have hps := o.pass
 simp only [passB, Bool.or_eq_true, Bool.and_eq_true, decide_eq_true_eq] at hps
 rcases hps with hps | ⟨⟨⟨⟨⟨⟨_, _⟩, p3⟩, _⟩, p5⟩, _⟩, _⟩
 ·omega
 ·exact ⟨p3, p5⟩
end
end Go.Ab

set_option maxRecDepth 100000
namespace Go.Ab
open Go.Proofs
section
variable {p : Psn} {a b : Int}
end
end Go.Ab

set_option maxRecDepth 100000
set_option maxHeartbeats 4000000
namespace Go.Ab
open Go.Proofs
variable {kCa kDb : Bool}
def pletter (p : Int) : Option (Int) := let x5 := (#[112, 110, 98, 114, 113, 107, 97, 99, 100, 101, 102, 103, 104, 105, 106] : Array UInt8).toList; let x6 := (#[80, 78, 66, 82, 81, 75, 65, 67, 68, 69, 70, 71, 72, 73, 74] : Array UInt8).toList; let x7 := IntKind.i8.wrap (IntKind.i8.wrap (0 - p) - 1); let x8 := IntKind.i8.wrap (p - 1); let x3 := Int.ofNat x6.length; let x4 := Int.ofNat x5.length; bif decide (p < 0) then needO (decide (0 ≤ x7) && decide (x7 < x4)) (some (Int.ofNat (x5.getD x7.toNat 0).toNat)) else needO (decide (0 ≤ x8) && decide (x8 < x3)) (some (Int.ofNat (x6.getD x8.toNat 0).toNat))
def pletter_V (R : Int) : V := .int .u8 R
def pletter_N (_R : Int) : List O := []
def c_pletter : CF
 | [.int .i8 p_0], [] => retC true (pletter p_0) 0 pletter_V pletter_N
 | _, _ => none
theorem pletter_snd (p : Int) {r} (hr : pletter p = some r) : FnSound (GGx kCa kDb) PP 182 [.int .i8 p] [] (pletter_V r) (pletter_N r) := by
 have hE := cutE (EE_ok (kCa := kCa) (kDb := kDb) (cts := []) (inl := []) trivial trivial)
 refine so_fn hE 2 Tryz.func182 rfl rfl pletter_V pletter_N hr ?_ rfl rfl
 refine so_split hE 2 rfl ?_ ?_
 ·refine so_need ?_
  exact so_ret (fin_bs [] (.inr rfl) rfl rfl rfl rfl rfl)
 refine so_need ?_
 exact so_ret (fin_bs [] (.inr rfl) rfl rfl rfl rfl rfl)
theorem c_pletter_ok : CtOk (GGx kCa kDb) PP (182, c_pletter) := by
 refine ct_mk Tryz.func182 (by kernel_rfl) rfl fun a0 h0 c0 v0 N0 e hc => ?_
 unfold c_pletter at e
 split at e
 ·rename_i p_0
  obtain ⟨hl, r, hr, rfl, rfl⟩ := ret_ok e hc
  exact pletter_snd p_0 hr
 ·cases e
def pparse_s1 : Int → Int → Option (Int ⊕ Unit ⊕ Int) := fun (c s5 : Int) => let x12 := !decide (s5 = 0); bif decide (s5 ≤ 15) then needO (!x12 || (pletter s5).isSome) (bif x12 && decide ((pletter s5).getD 0 = c) then escO (escO (some s5)) else some (Sum.inl (IntKind.i8.wrap (s5 + 1)))) else some (Sum.inr (Sum.inl ()))
def pparse (c : Int) : Option (Int) := loopO (pparse_s1 c) (fun (_s10 : Unit) => some 0) 1000000 (-15)
def pparse_V (R : Int) : V := .int .i8 R
def pparse_N (_R : Int) : List O := []
def c_pparse : CF
 | [.int .u8 c_0], [] => retC true (pparse c_0) 0 pparse_V pparse_N
 | _, _ => none
theorem pparse_snd (c : Int) {r} (hr : pparse c = some r) : FnSound (GGx kCa kDb) PP 165 [.int .u8 c] [] (pparse_V r) (pparse_N r) := by
 have hE := cutE (EE_ok (kCa := kCa) (kDb := kDb) (cts := [(182, c_pletter)]) (inl := []) ⟨c_pletter_ok, trivial⟩ trivial)
 refine so_fn hE 2 Tryz.func165 rfl rfl pparse_V pparse_N hr ?_ rfl rfl
 refine so_loop hE 2 (fun (s5 : Int) => ([(0, V.int IntKind.u8 c), (2, V.int IntKind.i8 0), (3, V.int IntKind.i8 s5)], [])) (fun (s10 : Unit) => ([(2, V.int IntKind.i8 0)], [])) (.exit 0) ((Ent.rn [] [0, 2, 3] rfl rfl rfl rfl rfl)) (fun s5 => ?_) (fun s10 => ?_)
 ·refine so_split hE 2 rfl ?_ ?_
  ·refine so_triv (Bool.not_or_self _) ?_
   refine so_as (pi (pl rfl id)) ?_
   refine so_triv (Bool.not_or_self _) ?_
   refine so_triv (Bool.not_or_self _) ?_
   refine so_triv (Bool.not_or_self _) ?_
   refine so_split hE 2 rfl ?_ ?_
   ·refine so_out (by simp) (so_out1 ?_)
    exact so_ret (fin_bs [] (.inr rfl) rfl rfl rfl rfl rfl)
   exact so_next ((Ent.rn [] [0, 2, 3] rfl rfl rfl rfl rfl))
  exact so_exit ((Ent.rn [] [2] rfl rfl rfl rfl rfl))
 exact so_ret (fin_bs [] (.inr rfl) rfl rfl rfl rfl rfl)
theorem c_pparse_ok : CtOk (GGx kCa kDb) PP (165, c_pparse) := by
 refine ct_mk Tryz.func165 (by kernel_rfl) rfl fun a0 h0 c0 v0 N0 e hc => ?_
 unfold c_pparse at e
 split at e
 ·rename_i c_0
  obtain ⟨hl, r, hr, rfl, rfl⟩ := ret_ok e hc
  exact pparse_snd c_0 hr
 ·cases e
end Go.Ab

set_option maxRecDepth 100000
set_option maxHeartbeats 4000000
namespace Go.Ab
open Go.Proofs
variable {kCa kDb : Bool}
end Go.Ab

set_option maxRecDepth 100000
set_option maxHeartbeats 4000000
namespace Go.Ab
open Go.Proofs
variable {kCa kDb : Bool}
def cast6_s1 : Int → List UInt8 × Int → Option (List UInt8 × Int ⊕ List UInt8 × Int × Bool ⊕ Int ⊕ Unit ⊕ Int) := fun (s27 : Int) => let x54 := (#[75, 81, 107, 113] : Array UInt8).toList; let x53 := Int.ofNat x54.length; fun (s33 : List UInt8 × Int) => let x58 := (s27.fdiv (2 ^ Min.min s33.2.toNat IntKind.i64.bits)).tmod 2; let x59 := decide (s33.2 < 4); let x60 := decide (0 ≤ s33.2); let x61 := IntKind.i64.wrap (s33.2 + 1); let x57 := List.take (x61.toNat - s33.2.toNat) (List.drop s33.2.toNat x54); let x56 := s33.1.length + x57.length; bif x59 then needO x60 (joinO (bif decide (x58 = 1) then needO (x60 && decide (s33.2 ≤ x61) && decide (x61 ≤ x53)) (needO (decide (x56 ≤ 4611686018427387904)) (some (Sum.inl (s33.1 ++ x57)))) else some (Sum.inl s33.1)) fun (s35 : List UInt8) => some (Sum.inl (s35, x61))) else some (Sum.inr (Sum.inl (s33.1, s33.2, x59)))
def cast6_s2 : List UInt8 → (Int → List UInt8 × Int → Option (List UInt8 × Int ⊕ List UInt8 × Int × Bool ⊕ Int ⊕ Unit ⊕ Int)) → Int → Option (Int ⊕ Unit ⊕ Int) := fun (s : List UInt8) (cast6_s1 : Int → List UInt8 × Int → Option (List UInt8 × Int ⊕ List UInt8 × Int × Bool ⊕ Int ⊕ Unit ⊕ Int)) (s27 : Int) => bif decide (s27 < 16) then loopO (cast6_s1 s27) (fun (s45 : List UInt8 × Int × Bool) => joinO (bif s45.1 == (#[] : Array UInt8).toList then some (Sum.inl (#[45] : Array UInt8).toList) else some (Sum.inl s45.1)) fun (s47 : List UInt8) => bif s47 == s then escO (escO (some s27)) else some (Sum.inl (IntKind.i64.wrap (s27 + 1)))) 1000000 ((#[] : Array UInt8).toList, 0) else some (Sum.inr (Sum.inl ()))
def cast6 (s : List UInt8) : Option (Int) := loopO (cast6_s2 s cast6_s1) (fun (_s52 : Unit) => some (-1)) 1000000 0
def cast6_V (R : Int) : V := .int .i64 R
def cast6_N (_R : Int) : List O := []
def c_cast6 : CF
 | [.str s_0], [] => retC true (cast6 s_0) 0 cast6_V cast6_N
 | _, _ => none
theorem cast6_snd (s : List UInt8) {r} (hr : cast6 s = some r) : FnSound (GGx kCa kDb) PP 132 [.str s] [] (cast6_V r) (cast6_N r) := by
 have hE := cutE (EE_ok (kCa := kCa) (kDb := kDb) (cts := []) (inl := []) trivial trivial)
 refine so_fn hE 2 Tryz.func132 rfl rfl cast6_V cast6_N hr ?_ rfl rfl
 refine so_loop hE 2 (fun (s27 : Int) => ([(0, V.str s), (2, V.int IntKind.i64 0), (3, V.int IntKind.i64 s27)], [])) (fun (s52 : Unit) => ([(2, V.int IntKind.i64 0)], [])) (.exit 0) ((Ent.rn [] [0, 2, 3] rfl rfl rfl rfl rfl)) (fun s27 => ?_) (fun s52 => ?_)
 ·refine so_split hE 2 rfl ?_ ?_
  ·refine so_loop hE 2 (fun (s33 : List UInt8 × Int) => ([(0, V.str s), (2, V.int IntKind.i64 0), (3, V.int IntKind.i64 s27), (4, V.str s33.1), (5, V.int IntKind.i64 s33.2), (6, V.int IntKind.i64 s27), (7, V.bool (decide (s27 < 16)))], [])) (fun (s45 : List UInt8 × Int × Bool) => ([(0, V.str s), (2, V.int IntKind.i64 0), (3, V.int IntKind.i64 s27), (4, V.str s45.1), (5, V.int IntKind.i64 s45.2.1), (6, V.int IntKind.i64 s27), (7, V.bool (decide (s27 < 16))), (10, V.int IntKind.i64 s45.2.1), (11, V.bool s45.2.2)], [])) (.exit 2) ((Ent.rn [] [0, 2, 3, 4, 5, 6, 7] rfl rfl rfl rfl rfl)) (fun s33 => ?_) (fun s45 => ?_)
   ·refine so_split hE 2 rfl ?_ ?_
    ·refine so_need ?_
     refine so_triv rfl ?_
     refine so_join hE 2 (let x74 := s27.fdiv (2 ^ Min.min s33.2.toNat IntKind.i64.bits); let x73 := x74.tmod 2; fun (s35 : List UInt8) => ([(0, V.str s), (2, V.int IntKind.i64 0), (3, V.int IntKind.i64 s27), (4, V.str s35), (5, V.int IntKind.i64 s33.2), (6, V.int IntKind.i64 s27), (7, V.bool (decide (s27 < 16))), (10, V.int IntKind.i64 s33.2), (11, V.bool (decide (s33.2 < 4))), (14, V.int IntKind.i64 s27), (15, V.int IntKind.i64 s33.2), (16, V.int IntKind.i64 x74), (17, V.int IntKind.i64 x73), (18, V.bool (decide (x73 = 1)))], [])) rfl ?_ ?_ (fun s35 => ?_)
     ·refine so_need ?_
      refine so_need ?_
      exact so_nrm ((Ent.rn [] [0, 2, 3, 4, 5, 6, 7, 10, 11, 14, 15, 16, 17, 18] rfl rfl rfl rfl rfl))
     ·exact so_nrm ((Ent.rn [] [0, 2, 3, 4, 5, 6, 7, 10, 11, 14, 15, 16, 17, 18] rfl rfl rfl rfl rfl))
     exact so_next ((Ent.rn [] [0, 2, 3, 4, 5, 6, 7] rfl rfl rfl rfl rfl))
    exact so_exit ((Ent.rn [] [0, 2, 3, 4, 5, 6, 7, 10, 11] rfl rfl rfl rfl rfl))
   refine so_join hE 2 (fun (s47 : List UInt8) => ([(0, V.str s), (2, V.int IntKind.i64 0), (3, V.int IntKind.i64 s27), (4, V.str s47), (5, V.int IntKind.i64 s45.2.1), (6, V.int IntKind.i64 s27), (7, V.bool (decide (s27 < 16))), (10, V.int IntKind.i64 s45.2.1), (11, V.bool s45.2.2), (25, V.str s45.1), (26, V.bool (s45.1 == (#[] : Array UInt8).toList))], [])) rfl ?_ ?_ (fun s47 => ?_)
   ·exact so_nrm ((Ent.rn [] [0, 2, 3, 4, 5, 6, 7, 10, 11, 25, 26] rfl rfl rfl rfl rfl))
   ·exact so_nrm ((Ent.rn [] [0, 2, 3, 4, 5, 6, 7, 10, 11, 25, 26] rfl rfl rfl rfl rfl))
   refine so_split hE 2 rfl ?_ ?_
   ·refine so_out (by simp) (so_out1 ?_)
    exact so_ret (fin_bs [] (.inr rfl) rfl rfl rfl rfl rfl)
   exact so_next ((Ent.rn [] [0, 2, 3] rfl rfl rfl rfl rfl))
  exact so_exit ((Ent.rn [] [2] rfl rfl rfl rfl rfl))
 exact so_ret (fin_bs [] (.inr rfl) rfl rfl rfl rfl rfl)
theorem c_cast6_ok : CtOk (GGx kCa kDb) PP (132, c_cast6) := by
 refine ct_mk Tryz.func132 (by kernel_rfl) rfl fun a0 h0 c0 v0 N0 e hc => ?_
 unfold c_cast6 at e
 split at e
 ·rename_i s_0
  obtain ⟨hl, r, hr, rfl, rfl⟩ := ret_ok e hc
  exact cast6_snd s_0 hr
 ·cases e
end Go.Ab

set_option maxRecDepth 100000
set_option maxHeartbeats 4000000
namespace Go.Ab
open Go.Proofs
variable {kCa kDb : Bool}
end Go.Ab
