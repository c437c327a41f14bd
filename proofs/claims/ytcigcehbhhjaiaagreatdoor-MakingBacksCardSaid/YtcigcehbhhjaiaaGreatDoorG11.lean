/- Contracts of the functions that the laws reach, and plain laws of what they compute (text G11); no condition. -/
import Derived.Test.YtcigcehbhhjaiaaGreatDoorG9
import Derived.Test.YtcigcehbhhjaiaaGreatDoorG10
import Derived.Test.YtcigcehbhhjaiaaGreatDoorG4
import Derived.Test.YtcigcehbhhjaiaaGreatDoorG8
set_option maxRecDepth 100000
set_option maxHeartbeats 4000000
namespace Go.Ab
open Go.Proofs
variable {kCa kDb : Bool}
def small8 (p : Psn) : Option (Bool) := some (decide (Int.ofNat p.zs.length ≤ 64))
def small8_V (R : Bool) : V := Bb R
def small8_N (_R : Bool) : List O := []
def c_small8 : CF
 | [.agg [.int .i64 p_0, .int .i64 p_1, .sl 0 0 p_2n none, .bool p_3, .int .u8 p_4, .int .i64 p_5, .int .i64 p_6, .int .i64 p_7]], [.ints false .i8 p_2] => retC (decide (p_2n = p_2.length)) (small8 ⟨p_0, p_1, p_2, p_3, p_4, p_5, p_6, p_7⟩) false small8_V small8_N
 | _, _ => none
theorem small8_snd (p : Psn) {r} (hr : small8 p = some r) : FnSound (GGx kCa kDb) PP 12 [.agg [.int .i64 p.f, .int .i64 p.r, .sl 0 0 p.zs.length none, Bb p.bl, .int .u8 p.ca, .int .i64 p.pa, .int .i64 p.ha, .int .i64 p.fu]] [.ints false .i8 p.zs] (small8_V r) (small8_N r) := by
 have hE := cutE (EE_ok (kCa := kCa) (kDb := kDb) (cts := []) (inl := []) trivial trivial)
 refine so_fn hE 2 Tryz.func12 rfl rfl small8_V small8_N hr ?_ rfl rfl
 exact so_ret (fin_bs [] (.inr rfl) rfl rfl rfl rfl rfl)
theorem c_small8_ok : CtOk (GGx kCa kDb) PP (12, c_small8) := by
 refine ct_mk Tryz.func12 (by kernel_rfl) rfl fun a0 h0 c0 v0 N0 e hc => ?_
 unfold c_small8 at e
 split at e
 ·rename_i p_0 p_1 p_2n p_3 p_4 p_5 p_6 p_7 p_2
  obtain ⟨hl, r, hr, rfl, rfl⟩ := ret_ok e hc
  simp only [decide_eq_true_eq] at hl
  obtain rfl := hl
  exact small8_snd ⟨p_0, p_1, p_2, p_3, p_4, p_5, p_6, p_7⟩ hr
 ·cases e
end Go.Ab

set_option maxRecDepth 100000
set_option maxHeartbeats 4000000
namespace Go.Ab
open Go.Proofs
variable {kCa kDb : Bool}
end Go.Ab

set_option maxRecDepth 100000
namespace Go.Ab
theorem mkP_len64 {p : Psn} {m : Mov} (h : p.zs.length ≤ 64) : (mkP p m).zs.length ≤ 64 := by
 unfold mkP
 cases decide (mkE5 p m = 0)
 ·exact Nat.zero_le _
 ·exact Nat.le_trans (Nat.le_of_eq zs3_len) h
theorem equalB_self (p : Psn) : equalB p p = true := by simp [equalB, sameB]
theorem w64_small {i : Int} (h1 : 0 ≤ i) (h2 : i ≤ 100000) : IntKind.i64.wrap i = i := by
 exact w64_id (by omega) (by omega)
end Go.Ab

set_option maxRecDepth 100000
set_option maxHeartbeats 4000000
namespace Go.Ab
open Go.Proofs
variable {kCa kDb : Bool}
def play_s1 : List (List Int) → List (List Int) × List Int × Int × Int × Bool × Int × Int × Int × Int × Int → Option (List (List Int) × List Int × Int × Int × Bool × Int × Int × Int × Int × Int ⊕ List (List Int) × List Int × Int × Int × Bool × Int × Int × Int × Int ⊕ Psn × List (List Int) × Int × Int) := fun (l : List (List Int)) (s15 : List (List Int) × List Int × Int × Int × Bool × Int × Int × Int × Int × Int) => let x82 := s15.2.2.2.2.2.2.2.2.1; let x83 := s15.2.2.2.2.2.2.2.2.2; let x84 := s15.2.2.2.2.2.2.2.1; let x85 := s15.2.2.2.2.2.2.1; let x87 := s15.2.2.2.2.2.1; let x89 := s15.2.2.2.2.1; let x90 := s15.2.2.2.1; let x91 := s15.2.2.1; let x93 := s15.2.1; let x94 := s15.1; let x80 := decide (x83 < Int.ofNat l.length); let x81 := l.getD x83.toNat []; let x88 := List.take x93.length (List.drop 0 x93); let x92 := (x94.length + 1) * 72; let x78 := Psn.mk x91 x90 x88 x89 x87 x85 x84 x82; let x79 := Mov.mk (x81.getD 0 0) (x81.getD 1 0) (x81.getD 2 0); let x86 := x88.length; let x75 := mkP x78 x79; let x76 := mkE5 x78 x79; let x77 := mkU x78 x79; let x74 := x77.m; bif x80 then needO (decide (0 ≤ x83) && x80) (needO (decide (x86 ≤ 64)) (bif !decide (x76 = 0) then escO (escO (some (Psn.mk 0 0 [] false 0 0 0 0, [], x83, x76))) else joinO (needO (decide (x92 ≤ 140737488355328)) (some (Sum.inl ()))) fun (_s16 : Unit) => some (Sum.inl (x94 ++ List.take 1 (List.drop 0 [iL [x74.a, x74.b, x74.p, x77.c, x77.at_, x77.ca, x77.pa, x77.ha, x77.fu]]), x75.zs, x75.f, x75.r, x75.bl, x75.ca, x75.pa, x75.ha, x75.fu, IntKind.i64.wrap (x83 + 1))))) else some (Sum.inr (Sum.inl (x94, x93, x91, x90, x89, x87, x85, x84, x82)))
def play (p : Psn) (l : List (List Int)) : Option (Psn × List (List Int) × Int × Int) := let x99 := List.take p.zs.length (List.drop 0 p.zs); let x98 := x99.length; let x97 := decide (x98 ≤ 64); needO x97 (bif !(Psn.mk p.f p.r x99 p.bl p.ca p.pa p.ha p.fu).ok || decide (1000 < Int.ofNat l.length) then some (Psn.mk 0 0 [] false 0 0 0 0, [], 0, 2) else needO x97 (loopO (play_s1 l) (fun (s48 : List (List Int) × List Int × Int × Int × Bool × Int × Int × Int × Int) => some (Psn.mk s48.2.2.1 s48.2.2.2.1 s48.2.1 s48.2.2.2.2.1 s48.2.2.2.2.2.1 s48.2.2.2.2.2.2.1 s48.2.2.2.2.2.2.2.1 s48.2.2.2.2.2.2.2.2, s48.1, 0, 0)) 1000000 ([], x99, p.f, p.r, p.bl, p.ca, p.pa, p.ha, p.fu, 0)))
end Go.Ab

set_option maxRecDepth 100000
set_option maxHeartbeats 4000000
namespace Go.Ab
open Go.Proofs
variable {kCa kDb : Bool}
def refPlay_s1 : List (List Int) → List (List Int) × List Int × Int × Int × Bool × Int × Int × Int × Int × Int → Option (List (List Int) × List Int × Int × Int × Bool × Int × Int × Int × Int × Int ⊕ List (List Int) × List Int × Int × Int × Bool × Int × Int × Int × Int ⊕ Psn × List (List Int) × Int × Int) := fun (l : List (List Int)) (s15 : List (List Int) × List Int × Int × Int × Bool × Int × Int × Int × Int × Int) => let x81 := s15.2.2.2.2.2.2.2.2.2; let x82 := s15.2.2.2.2.2.2.2.2.1; let x83 := s15.2.2.2.2.2.2.2.1; let x84 := s15.2.2.2.2.2.2.1; let x87 := s15.2.2.2.2.2.1; let x88 := s15.2.2.2.2.1; let x89 := s15.2.2.2.1; let x90 := s15.2.2.1; let x92 := s15.2.1; let x93 := s15.1; let x79 := decide (x81 < Int.ofNat l.length); let x80 := l.getD x81.toNat []; let x86 := List.take x92.length (List.drop 0 x92); let x91 := (x93.length + 1) * 72; let x77 := Psn.mk x90 x89 x86 x88 x87 x84 x83 x82; let x78 := Mov.mk (x80.getD 0 0) (x80.getD 1 0) (x80.getD 2 0); let x85 := x86.length; let x74 := rmE x77 x78; let x75 := rmP x77 x78; let x76 := rmU x77 x78; let x73 := x76.m; bif x79 then needO (decide (0 ≤ x81) && x79) (needO (decide (x85 ≤ 64)) (bif !decide (x74 = 0) then escO (escO (some (Psn.mk 0 0 [] false 0 0 0 0, [], x81, x74))) else needO (decide (x91 ≤ 140737488355328)) (some (Sum.inl (x93 ++ List.take 1 (List.drop 0 [iL [x73.a, x73.b, x73.p, x76.c, x76.at_, x76.ca, x76.pa, x76.ha, x76.fu]]), x75.zs, x75.f, x75.r, x75.bl, x75.ca, x75.pa, x75.ha, x75.fu, IntKind.i64.wrap (x81 + 1)))))) else some (Sum.inr (Sum.inl (x93, x92, x90, x89, x88, x87, x84, x83, x82)))
def refPlay (p : Psn) (l : List (List Int)) : Option (Psn × List (List Int) × Int × Int) := let x97 := List.take p.zs.length (List.drop 0 p.zs); let x96 := x97.length; let x95 := decide (x96 ≤ 64); needO x95 (bif !validL (Psn.mk p.f p.r x97 p.bl p.ca p.pa p.ha p.fu) || decide (1000 < Int.ofNat l.length) then some (Psn.mk 0 0 [] false 0 0 0 0, [], 0, 2) else needO x95 (loopO (refPlay_s1 l) (fun (s47 : List (List Int) × List Int × Int × Int × Bool × Int × Int × Int × Int) => some (Psn.mk s47.2.2.1 s47.2.2.2.1 s47.2.1 s47.2.2.2.2.1 s47.2.2.2.2.2.1 s47.2.2.2.2.2.2.1 s47.2.2.2.2.2.2.2.1 s47.2.2.2.2.2.2.2.2, s47.1, 0, 0)) 1000000 ([], x97, p.f, p.r, p.bl, p.ca, p.pa, p.ha, p.fu, 0)))
def refPlay_V (R : Psn × List (List Int) × Int × Int) : V := .tup [.agg [.int .i64 R.1.f, .int .i64 R.1.r, .sl 2 0 R.1.zs.length none, Bb R.1.bl, .int .u8 R.1.ca, .int .i64 R.1.pa, .int .i64 R.1.ha, .int .i64 R.1.fu], .sl 3 0 R.2.1.length none, .int .i64 R.2.2.1, .int .i64 R.2.2.2]
def refPlay_N (R : Psn × List (List Int) × Int × Int) : List O := [.ints true .i8 R.1.zs, .rows true [.i64, .i64, .i8, .i8, .i64, .u8, .i64, .i64, .i64] R.2.1]
def c_refPlay : CF
 | [.agg [.int .i64 p_0, .int .i64 p_1, .sl 0 0 p_2n none, .bool p_3, .int .u8 p_4, .int .i64 p_5, .int .i64 p_6, .int .i64 p_7], .sl 1 0 l_0n none], [.ints false .i8 p_2, .rows false [.i64, .i64, .i8] l_0] => retC (decide (p_2n = p_2.length) && decide (l_0n = l_0.length)) (refPlay ⟨p_0, p_1, p_2, p_3, p_4, p_5, p_6, p_7⟩ l_0) (⟨0, 0, [], false, 0, 0, 0, 0⟩, [], 0, 0) refPlay_V refPlay_N
 | _, _ => none
theorem refPlay_snd (p : Psn) (l : List (List Int)) {r} (hr : refPlay p l = some r) : FnSound (GGx kCa kDb) PP 19 [.agg [.int .i64 p.f, .int .i64 p.r, .sl 0 0 p.zs.length none, Bb p.bl, .int .u8 p.ca, .int .i64 p.pa, .int .i64 p.ha, .int .i64 p.fu], .sl 1 0 l.length none] [.ints false .i8 p.zs, .rows false [.i64, .i64, .i8] l] (refPlay_V r) (refPlay_N r) := by
 have hE := cutE (EE_ok (kCa := kCa) (kDb := kDb) (cts := [(14, c_rcopy), (16, c_rmake), (25, c_rvalid)]) (inl := []) ⟨c_rcopy_ok, c_rmake_ok, c_rvalid_ok, trivial⟩ trivial)
 refine so_fn hE 2 Tryz.func19 rfl rfl refPlay_V refPlay_N hr ?_ rfl rfl
 refine so_as (pl (decide_eq_true (win_len rfl)) id) ?_
 refine so_triv (Bool.not_or_self _) ?_
 refine so_triv (Bool.not_or_self _) ?_
 refine so_triv (Bool.or_not_self _) ?_
 refine so_split hE 2 rfl ?_ ?_
 ·exact so_ret (fin_phC 3 2 (.ints true .i8 []) rfl rfl rfl rfl <| fin_phT 5 (.rows true [.i64, .i64, .i8, .i8, .i64, .u8, .i64, .i64, .i64] []) rfl rfl rfl <| fin_bs [4, 5] (.inr rfl) rfl rfl rfl rfl rfl)
 refine so_as (pl (decide_eq_true (win_len rfl)) id) ?_
 refine so_loop hE 2 (fun (s15 : List (List Int) × List Int × Int × Int × Bool × Int × Int × Int × Int × Int) => let x100 := s15.2.1; let x101 := s15.1; ([(1, V.sl 1 0 l.length none), (4, V.ptr 2 0 0), (5, V.nils), (6, V.int IntKind.i64 0), (7, V.int IntKind.i64 0), (8, V.ptr 3 0 0), (9, V.sl 4 0 x101.length none), (10, V.int IntKind.i64 s15.2.2.2.2.2.2.2.2.2)], [O.ints false IntKind.i8 p.zs, O.rows false [IntKind.i64, IntKind.i64, IntKind.i8] l, O.cells true [V.int IntKind.i64 0, V.int IntKind.i64 0, V.nils, V.bool false, V.int IntKind.u8 0, V.int IntKind.i64 0, V.int IntKind.i64 0, V.int IntKind.i64 0], O.cells true [V.int IntKind.i64 s15.2.2.1, V.int IntKind.i64 s15.2.2.2.1, V.sl 5 0 x100.length none, V.bool s15.2.2.2.2.1, V.int IntKind.u8 s15.2.2.2.2.2.1, V.int IntKind.i64 s15.2.2.2.2.2.2.1, V.int IntKind.i64 s15.2.2.2.2.2.2.2.1, V.int IntKind.i64 s15.2.2.2.2.2.2.2.2.1], O.rows true [IntKind.i64, IntKind.i64, IntKind.i8, IntKind.i8, IntKind.i64, IntKind.u8, IntKind.i64, IntKind.i64, IntKind.i64] x101, O.ints true IntKind.i8 x100])) (fun (s47 : List (List Int) × List Int × Int × Int × Bool × Int × Int × Int × Int) => let x103 := s47.2.1; let x104 := s47.1; ([(4, V.ptr 2 0 0), (5, V.nils), (6, V.int IntKind.i64 0), (7, V.int IntKind.i64 0), (8, V.ptr 3 0 0), (9, V.sl 4 0 x104.length none)], [O.ints false IntKind.i8 p.zs, O.rows false [IntKind.i64, IntKind.i64, IntKind.i8] l, O.cells true [V.int IntKind.i64 0, V.int IntKind.i64 0, V.nils, V.bool false, V.int IntKind.u8 0, V.int IntKind.i64 0, V.int IntKind.i64 0, V.int IntKind.i64 0], O.cells true [V.int IntKind.i64 s47.2.2.1, V.int IntKind.i64 s47.2.2.2.1, V.sl 5 0 x103.length none, V.bool s47.2.2.2.2.1, V.int IntKind.u8 s47.2.2.2.2.2.1, V.int IntKind.i64 s47.2.2.2.2.2.2.1, V.int IntKind.i64 s47.2.2.2.2.2.2.2.1, V.int IntKind.i64 s47.2.2.2.2.2.2.2.2], O.rows true [IntKind.i64, IntKind.i64, IntKind.i8, IntKind.i8, IntKind.i64, IntKind.u8, IntKind.i64, IntKind.i64, IntKind.i64] x104, O.ints true IntKind.i8 x103])) (.exit 0) ((Ent.phT 9 (O.rows true [IntKind.i64, IntKind.i64, IntKind.i8, IntKind.i8, IntKind.i64, IntKind.u8, IntKind.i64, IntKind.i64, IntKind.i64] []) rfl rfl rfl rfl rfl).trans (Ent.rn [0, 1, 3, 5, 6, 4] [1, 4, 5, 6, 7, 8, 9, 10] rfl rfl rfl rfl rfl)) (fun s15 => ?_) (fun s47 => ?_)
 ·refine so_split hE 2 rfl ?_ ?_
  ·refine so_triv rfl ?_
   refine so_need ?_
   refine so_as (pl (decide_eq_true (win_len rfl)) id) ?_
   refine so_split hE 2 rfl ?_ ?_
   ·refine so_out (by simp) (so_out1 ?_)
    exact so_ret (fin_phC 2 2 (.ints true .i8 []) rfl rfl rfl rfl <| fin_phT 5 (.rows true [.i64, .i64, .i8, .i8, .i64, .u8, .i64, .i64, .i64] []) rfl rfl rfl <| fin_bs [9, 10] (.inr rfl) rfl rfl rfl rfl rfl)
   refine so_as (pr (pl (decide_eq_true rfl) id) rfl) ?_
   exact so_next ((Ent.rn [0, 1, 2, 3, 10, 8] [1, 4, 5, 6, 7, 8, 9, 10] rfl rfl rfl rfl rfl))
  exact so_exit ((Ent.rn [0, 1, 2, 3, 4, 5] [4, 5, 6, 7, 8, 9] rfl rfl rfl rfl rfl))
 exact so_ret (fin_bs [5, 4] (.inr rfl) rfl rfl rfl rfl rfl)
theorem c_refPlay_ok : CtOk (GGx kCa kDb) PP (19, c_refPlay) := by
 refine ct_mk Tryz.func19 (by kernel_rfl) rfl fun a0 h0 c0 v0 N0 e hc => ?_
 unfold c_refPlay at e
 split at e
 ·rename_i p_0 p_1 p_2n p_3 p_4 p_5 p_6 p_7 l_0n p_2 l_0
  obtain ⟨hl, r, hr, rfl, rfl⟩ := ret_ok e hc
  simp only [Bool.and_eq_true, decide_eq_true_eq] at hl
  obtain ⟨rfl, rfl⟩ := hl
  exact refPlay_snd ⟨p_0, p_1, p_2, p_3, p_4, p_5, p_6, p_7⟩ l_0 hr
 ·cases e
end Go.Ab

set_option maxRecDepth 100000
set_option maxHeartbeats 4000000
namespace Go.Ab
open Go.Proofs
variable {kCa kDb : Bool}
def orCF (c1 c2 : CF) : CF := fun a h => match c1 a h with
 | some x => some x
 | none => c2 a h
theorem orCF_ok {G : List O} {P : Program} {f : FuncId} {c1 c2 : CF} (h1 : CtOk G P (f, c1)) (h2 : CtOk G P (f, c2)) : CtOk G P (f, orCF c1 c2) := by
 refine ⟨h1.1, fun a h c v N e hc => ?_⟩
 change orCF c1 c2 a h = _ at e
 unfold orCF at e
 split at e
 ·rename_i x hx
  cases e
  exact h1.2 a h c v N hx hc
 ·exact h2.2 a h c v N e hc
def c_requal0 : CF
 | [.agg [.int .i64 f, .int .i64 r, .sl 0 0 len none, .bool bl, .int .u8 ca, .int .i64 pa, .int .i64 ha, .int .i64 fu], .agg [.int .i64 f2, .int .i64 r2, .nils, .bool bl2, .int .u8 ca2, .int .i64 pa2, .int .i64 ha2, .int .i64 fu2]], [.ints false .i8 zs] => some (decide (len = zs.length) && decide (zs.length ≤ 64), .bool (equalB ⟨f, r, zs, bl, ca, pa, ha, fu⟩ ⟨f2, r2, [], bl2, ca2, pa2, ha2, fu2⟩), [])
 | _, _ => none
theorem c_requal0_ok : CtOk (GGx kCa kDb) PP (17, c_requal0) := by
 refine ct_mk Tryz.func17 (by kernel_rfl) rfl fun a0 h0 c0 v0 N0 e hc => ?_
 unfold c_requal0 at e
 split at e
 ·rename_i f r len bl ca pa ha fu f2 r2 bl2 ca2 pa2 ha2 fu2 zs
  cases e
  simp only [Bool.and_eq_true, decide_eq_true_eq] at hc
  obtain ⟨rfl, hc2⟩ := hc
  refine FnSound.nil (args' := [.agg [.int .i64 f, .int .i64 r, .sl 0 0 zs.length none, .bool bl, .int .u8 ca, .int .i64 pa, .int .i64 ha, .int .i64 fu], .agg [.int .i64 f2, .int .i64 r2, .sl 1 0 0 none, .bool bl2, .int .u8 ca2, .int .i64 pa2, .int .i64 ha2, .int .i64 fu2]]) .i8 (blt_lt rfl) ?_ ((c_requal_ok (kCa := kCa) (kDb := kDb)).2 _ _ _ _ _ rfl (by simp [hc2]))
  rintro ρ us h1 ⟨u1, r1, rfl, h2, u2, r2, rfl, ⟨ws, rfl, x0, y0, rfl, e0, x1, y1, rfl, e1, x2, y2, rfl, e2, e3⟩, e4⟩
  exact ⟨u1, _, rfl, h2, _, _, rfl, ⟨_, rfl, x0, _, rfl, e0, x1, _, rfl, e1, x2, _, rfl, vr_ph h1 e2, e3⟩, e4⟩
 ·cases e
def c_requalX : CF := orCF c_requal c_requal0
theorem c_requalX_ok : CtOk (GGx kCa kDb) PP (17, c_requalX) := orCF_ok c_requal_ok c_requal0_ok
end Go.Ab

set_option maxRecDepth 100000
set_option maxHeartbeats 4000000
namespace Go.Ab
open Go.Proofs
variable {kCa kDb : Bool}
end Go.Ab

set_option maxRecDepth 100000
namespace Go.Ab
open Go.Proofs
theorem u8andn_nn (a b : Int) : 0 ≤ u8andn a b := by
 unfold u8andn band
 exact Int.emod_nonneg _ (by decide)
theorem mkP_ca {p : Psn} {m : Mov} : 0 ≤ (mkP p m).ca := by
 unfold mkP
 cases decide (mkE5 p m = 0)
 ·exact Int.le_refl 0
 ·exact u8andn_nn _ _
theorem psn_eta (q : Psn) : (⟨q.f, q.r, q.zs, q.bl, q.ca, q.pa, q.ha, q.fu⟩ : Psn) = q := rfl
abbrev PlS := List (List Int) × List Int × Int × Int × Bool × Int × Int × Int × Int × Int
def plM (l : List (List Int)) (i : Nat) : Mov := ⟨(l.getD i []).getD 0 0, (l.getD i []).getD 1 0, (l.getD i []).getD 2 0⟩
def plN (us : List (List Int)) (q : Psn) (i : Int) : PlS := (us, q.zs, q.f, q.r, q.bl, q.ca, q.pa, q.ha, q.fu, i)
theorem play_step {l : List (List Int)} {us : List (List Int)} {q : Psn} {i : Nat} (hi : i < l.length) (hl : l.length ≤ 1000) (hu : us.length = i) (hz : q.zs.length ≤ 64) :
  play_s1 l (plN us q i) = bif !decide (mkE5 q (plM l i) = 0) then some (.inr (.inr (psn0, [], (i : Int), mkE5 q (plM l i)))) else
   some (.inl (plN (us ++ [[(mkU q (plM l i)).m.a, (mkU q (plM l i)).m.b, (mkU q (plM l i)).m.p, (mkU q (plM l i)).c, (mkU q (plM l i)).at_, (mkU q (plM l i)).ca, (mkU q (plM l i)).pa, (mkU q (plM l i)).ha, (mkU q (plM l i)).fu]]) (mkP q (plM l i)) ((i + 1 : Nat) : Int))) := by
 unfold play_s1 plN
 simp only [List.drop_zero, List.take_length]
 have h1 : decide ((i : Int) < Int.ofNat l.length) = true := by simp; omega
 have h2 : decide ((0 : Int) ≤ i) = true := by simp
 have h3 : decide (q.zs.length ≤ 64) = true := by simpa using hz
 have h4 : decide ((us.length + 1) * 72 ≤ 140737488355328) = true := by simp; omega
 rw [h1, h2, h3, h4, w64_small (by omega) (by omega)]
 cases h : decide (mkE5 q (plM l i) = 0)
 ·have h' : decide (mkE5 ⟨q.f, q.r, q.zs, q.bl, q.ca, q.pa, q.ha, q.fu⟩ ⟨(l.getD (i : Int).toNat []).getD 0 0, (l.getD (i : Int).toNat []).getD 1 0, (l.getD (i : Int).toNat []).getD 2 0⟩ = 0) = false := h
  rw [h']; rfl
 ·have h' : decide (mkE5 ⟨q.f, q.r, q.zs, q.bl, q.ca, q.pa, q.ha, q.fu⟩ ⟨(l.getD (i : Int).toNat []).getD 0 0, (l.getD (i : Int).toNat []).getD 1 0, (l.getD (i : Int).toNat []).getD 2 0⟩ = 0) = true := h
  rw [h']; rfl
theorem play_last {l : List (List Int)} {us : List (List Int)} {q : Psn} {i : Nat} (hi : i = l.length) : play_s1 l (plN us q i) = some (.inr (.inl (us, q.zs, q.f, q.r, q.bl, q.ca, q.pa, q.ha, q.fu))) := by
 unfold play_s1 plN
 simp only [List.drop_zero, List.take_length]
 have h1 : decide ((i : Int) < Int.ofNat l.length) = false := by simp; omega
 rw [h1]; rfl
theorem ref_step {l : List (List Int)} {us : List (List Int)} {q : Psn} {i : Nat} (hi : i < l.length) (hl : l.length ≤ 1000) (hu : us.length = i) (hz : q.zs.length ≤ 64) (hc : 0 ≤ q.ca) :
  refPlay_s1 l (plN us q i) = play_s1 l (plN us q i) := by
 rw [play_step hi hl hu hz]
 obtain ⟨e1, e2, e3⟩ := make_eq (p := q) (m := plM l i) hz hc
 rw [← e1, ← e2, ← e3]
 unfold refPlay_s1 plN
 simp only [List.drop_zero, List.take_length]
 have h1 : decide ((i : Int) < Int.ofNat l.length) = true := by simp; omega
 have h2 : decide ((0 : Int) ≤ i) = true := by simp
 have h3 : decide (q.zs.length ≤ 64) = true := by simpa using hz
 have h4 : decide ((us.length + 1) * 72 ≤ 140737488355328) = true := by simp; omega
 rw [h1, h2, h3, h4, w64_small (by omega) (by omega)]
 cases h : decide (rmE q (plM l i) = 0)
 ·have h' : decide (rmE ⟨q.f, q.r, q.zs, q.bl, q.ca, q.pa, q.ha, q.fu⟩ ⟨(l.getD (i : Int).toNat []).getD 0 0, (l.getD (i : Int).toNat []).getD 1 0, (l.getD (i : Int).toNat []).getD 2 0⟩ = 0) = false := h
  rw [h']; rfl
 ·have h' : decide (rmE ⟨q.f, q.r, q.zs, q.bl, q.ca, q.pa, q.ha, q.fu⟩ ⟨(l.getD (i : Int).toNat []).getD 0 0, (l.getD (i : Int).toNat []).getD 1 0, (l.getD (i : Int).toNat []).getD 2 0⟩ = 0) = true := h
  rw [h']; rfl
theorem ref_last {l : List (List Int)} {us : List (List Int)} {q : Psn} {i : Nat} (hi : i = l.length) : refPlay_s1 l (plN us q i) = some (.inr (.inl (us, q.zs, q.f, q.r, q.bl, q.ca, q.pa, q.ha, q.fu))) := by
 unfold refPlay_s1 plN
 simp only [List.drop_zero, List.take_length]
 have h1 : decide ((i : Int) < Int.ofNat l.length) = false := by simp; omega
 rw [h1]; rfl
abbrev PlR := Psn × List (List Int) × Int × Int
def plF (s : List (List Int) × List Int × Int × Int × Bool × Int × Int × Int × Int) : Option PlR := some (⟨s.2.2.1, s.2.2.2.1, s.2.1, s.2.2.2.2.1, s.2.2.2.2.2.1, s.2.2.2.2.2.2.1, s.2.2.2.2.2.2.2.1, s.2.2.2.2.2.2.2.2⟩, s.1, 0, 0)
theorem play_run {l : List (List Int)} (hl : l.length ≤ 1000) : ∀ (j fuel i : Nat) (us : List (List Int)) (q : Psn), i + j = l.length → us.length = i → q.zs.length ≤ 64 → 0 ≤ q.ca → j < fuel →
  ∃ r : PlR, loopO (play_s1 l) plF fuel (plN us q i) = some r ∧ loopO (refPlay_s1 l) plF fuel (plN us q i) = some r ∧ r.1.zs.length ≤ 64 ∧ r.2.1.length ≤ 1000
 | j, 0, i, us, q, _, _, _, _, h => absurd h (by omega)
 | 0, fuel + 1, i, us, q, h, hu, hz, _, _ => by
  refine ⟨(q, us, 0, 0), ?_, ?_, hz, (by show us.length ≤ 1000; omega)⟩
  ·rw [loopO_exit (play_last (by omega))]; rfl
  ·rw [loopO_exit (ref_last (by omega))]; rfl
 | j + 1, fuel + 1, i, us, q, h, hu, hz, hc, hf => by
  have hs := play_step (l := l) (us := us) (q := q) (i := i) (by omega) hl hu hz
  have hr := ref_step (l := l) (us := us) (q := q) (i := i) (by omega) hl hu hz hc
  cases he : decide (mkE5 q (plM l i) = 0)
  ·rw [he] at hs
   have hs : play_s1 l (plN us q i) = some (.inr (.inr (psn0, [], (i : Int), mkE5 q (plM l i)))) := hs
   exact ⟨_, loopO_ret hs, loopO_ret (hr.trans hs), Nat.zero_le _, Nat.zero_le _⟩
  ·rw [he] at hs
   simp only [Bool.not_true, cond_false] at hs
   rw [loopO_next hs, loopO_next (hr.trans hs)]
   exact play_run hl j fuel (i + 1) _ _ (by omega) (by simp [hu]) (mkP_len64 hz) mkP_ca (by omega)
theorem play_run0 {p : Psn} {l : List (List Int)} (hl : l.length ≤ 1000) (hz : p.zs.length ≤ 64) (hc : 0 ≤ p.ca) :
  ∃ r : PlR, loopO (play_s1 l) plF 1000000 ([], p.zs, p.f, p.r, p.bl, p.ca, p.pa, p.ha, p.fu, 0) = some r ∧ loopO (refPlay_s1 l) plF 1000000 ([], p.zs, p.f, p.r, p.bl, p.ca, p.pa, p.ha, p.fu, 0) = some r ∧ r.1.zs.length ≤ 64 ∧ r.2.1.length ≤ 1000 :=
 play_run hl l.length 1000000 0 [] p (by omega) rfl hz hc (by omega)
theorem play_eq {p : Psn} {l : List (List Int)} (hz : p.zs.length ≤ 64) (hc : 0 ≤ p.ca) : ∃ r : PlR, play p l = some r ∧ refPlay p l = some r ∧ r.1.zs.length ≤ 64 ∧ r.2.1.length ≤ 1000 := by
 unfold play refPlay
 simp only [List.drop_zero, List.take_length, psn_eta]
 have h3 : decide (p.zs.length ≤ 64) = true := by simpa using hz
 rw [h3, psn_valid hz hc]
 simp only [needO_true]
 by_cases hl : l.length ≤ 1000
 ·have h1 : decide ((1000 : Int) < Int.ofNat l.length) = false := by simp; omega
  rw [h1, Bool.or_false]
  cases p.ok
  ·exact ⟨_, rfl, rfl, Nat.zero_le _, Nat.zero_le _⟩
  ·simp only [Bool.not_true, cond_false]
   exact play_run0 hl hz hc
 ·have h1 : decide ((1000 : Int) < Int.ofNat l.length) = true := by simp; omega
  rw [h1, Bool.or_true]
  exact ⟨_, rfl, rfl, Nat.zero_le _, Nat.zero_le _⟩
end Go.Ab

set_option maxRecDepth 100000
set_option maxHeartbeats 4000000
namespace Go.Ab
open Go.Proofs
variable {kDb : Bool}
def ownB (zs : List Int) (bl : Bool) (b pr : Int) : Int := bif !decide (pr = 0) then (bif !bl then w8 (0 - 1) else 1) else zs.getD b.toNat 0
def bkC (f r : Int) (bl : Bool) (own uca a b bit : Int) (c : Bool) (k to : Int) : Bool := decide (absP own = 6) && !decide (u8and uca bit = 0) && (c == !bl) && decide (k = a) && decide (to = b) && decide (IntKind.i64.wrap (f * r) = 64)
def bkS (f r : Int) (bl : Bool) (own uca a b : Int) (l : List Int) (bit : Int) (c : Bool) (k to cor cro : Int) : List Int := bif bkC f r bl own uca a b bit c k to then (l.set cor.toNat (l.getD cro.toNat 0)).set cro.toNat 0 else l
def bk0 (f r : Int) (zs : List Int) (bl : Bool) (uca a b pr : Int) : List Int :=
 bkS f r bl (ownB zs bl b pr) uca a b (bkS f r bl (ownB zs bl b pr) uca a b (bkS f r bl (ownB zs bl b pr) uca a b (bkS f r bl (ownB zs bl b pr) uca a b ((zs.set b.toNat 0).set a.toNat (ownB zs bl b pr)) 1 false 4 6 7 5) 2 false 4 2 0 3) 4 true 60 62 63 61) 8 true 60 58 56 59
def bkZ (f r : Int) (zs : List Int) (bl : Bool) (u : Und) : List Int := bif decide (0 ≤ u.at_) && decide (u.at_ < zs.length) then (bk0 f r zs bl u.ca u.m.a u.m.b u.m.p).set u.at_.toNat u.c else bk0 f r zs bl u.ca u.m.a u.m.b u.m.p
def bkP (p : Psn) (u : Und) : Psn := ⟨p.f, p.r, bkZ p.f p.r p.zs p.bl u, !p.bl, u.ca, u.pa, u.ha, u.fu⟩
theorem bkS_len {f r : Int} {bl : Bool} {own uca a b : Int} {l : List Int} {bit : Int} {c : Bool} {k to cor cro : Int} : (bkS f r bl own uca a b l bit c k to cor cro).length = l.length := by
 unfold bkS; cases bkC f r bl own uca a b bit c k to <;> simp
theorem bk0_len {f r : Int} {zs : List Int} {bl : Bool} {uca a b pr : Int} : (bk0 f r zs bl uca a b pr).length = zs.length := by
 simp only [bk0, bkS_len, List.length_set]
theorem bkZ_len {f r : Int} {zs : List Int} {bl : Bool} {u : Und} : (bkZ f r zs bl u).length = zs.length := by
 unfold bkZ; cases (decide (0 ≤ u.at_) && decide (u.at_ < zs.length)) <;> simp [bk0_len]
theorem bk_64 {f r : Int} {zs : List Int} {bl : Bool} {own uca a b bit : Int} {c : Bool} {k to : Int} (hbd : validBd f r zs = true) (h : bkC f r bl own uca a b bit c k to = true) : zs.length = 64 := by
 simp only [bkC, Bool.and_eq_true, decide_eq_true_eq] at h
 have hv := bd_valid hbd
 have hb := vs_bd hv.1
 have h1 := h.2
 have : 0 ≤ f * r ∧ f * r ≤ 64 := by
  have e1 : f * r ≤ 8 * r := Int.mul_le_mul_of_nonneg_right (by omega) (by omega)
  exact ⟨Int.mul_nonneg (by omega) (by omega), by omega⟩
 rw [w64_id (by omega) (by omega)] at h1
 have := hv.2
 omega
def c_before : CF
 | [.agg [.int .i64 f, .int .i64 r, .sl 0 0 len none, .bool bl, .int .u8 ca, .int .i64 pa, .int .i64 ha, .int .i64 fu], .agg [.int .i64 a, .int .i64 b, .int .i8 pr, .int .i8 c, .int .i64 at_, .int .u8 uca, .int .i64 upa, .int .i64 uha, .int .i64 ufu]], [.ints false .i8 zs] => some (decide (len = zs.length) && decide (zs.length ≤ 64) && (validBd f r zs && validB f r a && validB f r b), psV 1 (bkP ⟨f, r, zs, bl, ca, pa, ha, fu⟩ ⟨⟨a, b, pr⟩, c, at_, uca, upa, uha, ufu⟩), [.ints true .i8 (bkZ f r zs bl ⟨⟨a, b, pr⟩, c, at_, uca, upa, uha, ufu⟩)])
 | _, _ => none
theorem c_before_ok : CtOk (GGx true kDb) PP (86, c_before) := by
 refine ct_mk Tryz.func86 (by kernel_rfl) rfl fun a0 h0 c0 v0 N0 e hc => ?_
 unfold c_before at e
 split at e
 ·rename_i f r len bl ca pa ha fu a b pr c at_ uca upa uha ufu zs
  cases e
  have hE := cutE (EE_ok (kCa := true) (kDb := kDb) (cts := [(52, c_pcopy), (51, c_kind)]) (inl := []) ⟨c_pcopy_ok, c_kind_ok, trivial⟩ trivial)
  refine fn_soundL hE 2 Tryz.func86 rfl rfl ?_
  simp only [Bool.and_eq_true, decide_eq_true_eq] at hc
  obtain ⟨⟨rfl, hc2⟩, ⟨hbd, hva⟩, hvb⟩ := hc
  obtain ⟨ha0, ha1⟩ := (bd_sq hbd).1 hva
  obtain ⟨hb0, hb1⟩ := (bd_sq hbd).1 hvb
  repeat (first | (first | refine sat_self ?_ | refine sat_nd ?_) | refine sat_need (need_ix ha0 ha1) ?_ | refine sat_need (need_ix hb0 hb1) ?_ | refine sat_need (need_bd hc2 rfl) ?_)
  refine sat_join hE 2 (fun e tm hp => e = .normal ∧ ∃ (own : Int) (l : List Int) (len : Nat), own = ownB zs bl b pr ∧ l = zs ∧ len = zs.length ∧ tm = [(2, .ptr 1 0 0), (3, .ptr 2 0 0), (4, .ptr 3 0 0), (5, .ptr 5 0 0), (6, .ptr 6 0 0), (7, .int .i8 own)] ∧ hp = [.ints false .i8 zs, .cells true [I f, I r, .sl 0 0 zs.length none, Bb bl, .int .u8 ca, I pa, I ha, I fu], .cells true [I a, I b, .int .i8 pr, .int .i8 c, I at_, .int .u8 uca, I upa, I uha, I ufu], .cells true [I 0, I 0, .nils, .lit false, .int .u8 0, I 0, I 0, I 0], .ints true .i8 l, .cells true [I f, I r, .sl 4 0 len none, Bb (!bl), .int .u8 uca, I upa, I uha, I ufu], .cells true [I a, I b, .int .i8 pr]]) rfl (fun h => ?_) (fun h => ?_) ?_
  ·have h : (!decide (pr = 0)) = true := h
   repeat (first | (first | refine sat_self ?_ | refine sat_nd ?_) | refine sat_need (need_ix ha0 ha1) ?_ | refine sat_need (need_ix hb0 hb1) ?_ | refine sat_need (need_bd hc2 rfl) ?_)
   refine sat_split hE 2 rfl (fun h2 => ?_) (fun h2 => ?_)
   ·have h2 : (!bl) = true := h2
    exact sat_ret ⟨_, _, Ent.ren [0, 1, 2, 3, 4, 5, 6] [2, 3, 4, 5, 6, 7] rfl rfl rfl, rfl, _, tk zs, (tk zs).length, by rw [ownB, h, h2]; rfl, by rw [tk_eq], by rw [tk_eq], rfl, rfl⟩
   ·have h2 : (!bl) = false := h2
    exact sat_ret ⟨_, _, Ent.ren [0, 1, 2, 3, 4, 5, 6] [2, 3, 4, 5, 6, 7] rfl rfl rfl, rfl, _, tk zs, (tk zs).length, by rw [ownB, h, h2]; rfl, by rw [tk_eq], by rw [tk_eq], rfl, rfl⟩
  ·have h : (!decide (pr = 0)) = false := h
   exact sat_ret ⟨_, _, Ent.ren [0, 1, 2, 3, 4, 5, 6] [2, 3, 4, 5, 6, 7] rfl rfl rfl, rfl, _, tk zs, (tk zs).length, by rw [ownB, h]; rfl, by rw [tk_eq], by rw [tk_eq], rfl, rfl⟩
  rintro e tm hp ⟨rfl, own, l, len, hown, hl, hlen, rfl, rfl⟩
  have ha1 : a < len := by rw [hlen]; exact ha1
  have hb1 : b < len := by rw [hlen]; exact hb1
  repeat (first | (first | refine sat_self ?_ | refine sat_nd ?_) | refine sat_need (need_ix ha0 ha1) ?_ | refine sat_need (need_ix hb0 hb1) ?_ | refine sat_need (need_bd hc2 rfl) ?_)
  refine sat_rounds hE 2 5 ?_
  refine rnd ?_
  refine sat_split hE 2 rfl (fun _ => ?_) (fun h => absurd h (by decide))
  repeat (first | (first | refine sat_self ?_ | refine sat_nd ?_) | refine sat_need (need_ix ha0 ha1) ?_ | refine sat_need (need_ix hb0 hb1) ?_ | refine sat_need (need_bd hc2 rfl) ?_)
  refine sat_join hE 2 (fun e tm hp => e = .normal ∧ ∃ l2 : List Int, l2 = bkS f r bl own uca a b ((l.set b.toNat 0).set a.toNat own) 1 false 4 6 7 5 ∧ tm = [(2, .ptr 1 0 0), (3, .ptr 2 0 0), (4, .ptr 3 0 0), (5, .ptr 5 0 0), (6, .ptr 6 0 0), (7, .int .i8 own), (54, .agg [.int .u8 1, .lit false, .int .i64 4, .int .i64 6, .int .i64 7, .int .i64 5, .int .u8 2, .lit false, .int .i64 4, .int .i64 2, .int .i64 0, .int .i64 3, .int .u8 4, .lit true, .int .i64 60, .int .i64 62, .int .i64 63, .int .i64 61, .int .u8 8, .lit true, .int .i64 60, .int .i64 58, .int .i64 56, .int .i64 59]), (55, I 0)] ∧ hp = [.ints false .i8 zs, .cells true [I f, I r, .sl 0 0 zs.length none, Bb bl, .int .u8 ca, I pa, I ha, I fu], .cells true [I a, I b, .int .i8 pr, .int .i8 c, I at_, .int .u8 uca, I upa, I uha, I ufu], .cells true [I 0, I 0, .nils, .lit false, .int .u8 0, I 0, I 0, I 0], .ints true .i8 l2, .cells true [I f, I r, .sl 4 0 len none, Bb (!bl), .int .u8 uca, I upa, I uha, I ufu], .cells true [I a, I b, .int .i8 pr]]) rfl (fun h => ?_) (fun h => ?_) ?_
  ·have h : bkC f r bl own uca a b 1 false 4 6 = true := h
   have h64 : len = 64 := by rw [hlen]; exact bk_64 hbd h
   repeat (first | (first | refine sat_self ?_ | refine sat_nd ?_) | refine sat_need (by simp only [Bool.and_eq_true, decide_eq_true_eq]; omega) ?_)
   exact sat_ret ⟨_, _, Ent.ren [0, 1, 2, 3, 4, 5, 6] [2, 3, 4, 5, 6, 7, 54, 55] rfl rfl rfl, rfl, _, by rw [bkS, h]; rfl, rfl, rfl⟩
  ·have h : bkC f r bl own uca a b 1 false 4 6 = false := h
   exact sat_ret ⟨_, _, Ent.ren [0, 1, 2, 3, 4, 5, 6] [2, 3, 4, 5, 6, 7, 54, 55] rfl rfl rfl, rfl, _, by rw [bkS, h]; rfl, rfl, rfl⟩
  rw [hl]; clear hl
  rintro e tm hp ⟨rfl, l, hl, rfl, rfl⟩
  refine sat_ret ⟨[(2, .ptr 1 0 0), (3, .ptr 2 0 0), (4, .ptr 3 0 0), (5, .ptr 5 0 0), (6, .ptr 6 0 0), (7, .int .i8 own), (54, .agg [.int .u8 1, .lit false, .int .i64 4, .int .i64 6, .int .i64 7, .int .i64 5, .int .u8 2, .lit false, .int .i64 4, .int .i64 2, .int .i64 0, .int .i64 3, .int .u8 4, .lit true, .int .i64 60, .int .i64 62, .int .i64 63, .int .i64 61, .int .u8 8, .lit true, .int .i64 60, .int .i64 58, .int .i64 56, .int .i64 59]), (55, I 1)], [.ints false .i8 zs, .cells true [I f, I r, .sl 0 0 zs.length none, Bb bl, .int .u8 ca, I pa, I ha, I fu], .cells true [I a, I b, .int .i8 pr, .int .i8 c, I at_, .int .u8 uca, I upa, I uha, I ufu], .cells true [I 0, I 0, .nils, .lit false, .int .u8 0, I 0, I 0, I 0], .ints true .i8 l, .cells true [I f, I r, .sl 4 0 len none, Bb (!bl), .int .u8 uca, I upa, I uha, I ufu], .cells true [I a, I b, .int .i8 pr]], Ent.ren [0, 1, 2, 3, 4, 5, 6] [2, 3, 4, 5, 6, 7, 54, 55] rfl rfl rfl, ?_⟩
  refine rnd ?_
  refine sat_split hE 2 rfl (fun _ => ?_) (fun h => absurd h (by decide))
  repeat (first | (first | refine sat_self ?_ | refine sat_nd ?_) | refine sat_need (need_ix ha0 ha1) ?_ | refine sat_need (need_ix hb0 hb1) ?_ | refine sat_need (need_bd hc2 rfl) ?_)
  refine sat_join hE 2 (fun e tm hp => e = .normal ∧ ∃ l2 : List Int, l2 = bkS f r bl own uca a b l 2 false 4 2 0 3 ∧ tm = [(2, .ptr 1 0 0), (3, .ptr 2 0 0), (4, .ptr 3 0 0), (5, .ptr 5 0 0), (6, .ptr 6 0 0), (7, .int .i8 own), (54, .agg [.int .u8 1, .lit false, .int .i64 4, .int .i64 6, .int .i64 7, .int .i64 5, .int .u8 2, .lit false, .int .i64 4, .int .i64 2, .int .i64 0, .int .i64 3, .int .u8 4, .lit true, .int .i64 60, .int .i64 62, .int .i64 63, .int .i64 61, .int .u8 8, .lit true, .int .i64 60, .int .i64 58, .int .i64 56, .int .i64 59]), (55, I 1)] ∧ hp = [.ints false .i8 zs, .cells true [I f, I r, .sl 0 0 zs.length none, Bb bl, .int .u8 ca, I pa, I ha, I fu], .cells true [I a, I b, .int .i8 pr, .int .i8 c, I at_, .int .u8 uca, I upa, I uha, I ufu], .cells true [I 0, I 0, .nils, .lit false, .int .u8 0, I 0, I 0, I 0], .ints true .i8 l2, .cells true [I f, I r, .sl 4 0 len none, Bb (!bl), .int .u8 uca, I upa, I uha, I ufu], .cells true [I a, I b, .int .i8 pr]]) rfl (fun h => ?_) (fun h => ?_) ?_
  ·have h : bkC f r bl own uca a b 2 false 4 2 = true := h
   have h64 : len = 64 := by rw [hlen]; exact bk_64 hbd h
   repeat (first | (first | refine sat_self ?_ | refine sat_nd ?_) | refine sat_need (by simp only [Bool.and_eq_true, decide_eq_true_eq]; omega) ?_)
   exact sat_ret ⟨_, _, Ent.ren [0, 1, 2, 3, 4, 5, 6] [2, 3, 4, 5, 6, 7, 54, 55] rfl rfl rfl, rfl, _, by rw [bkS, h]; rfl, rfl, rfl⟩
  ·have h : bkC f r bl own uca a b 2 false 4 2 = false := h
   exact sat_ret ⟨_, _, Ent.ren [0, 1, 2, 3, 4, 5, 6] [2, 3, 4, 5, 6, 7, 54, 55] rfl rfl rfl, rfl, _, by rw [bkS, h]; rfl, rfl, rfl⟩
  subst hl
  rintro e tm hp ⟨rfl, l, hl, rfl, rfl⟩
  refine sat_ret ⟨[(2, .ptr 1 0 0), (3, .ptr 2 0 0), (4, .ptr 3 0 0), (5, .ptr 5 0 0), (6, .ptr 6 0 0), (7, .int .i8 own), (54, .agg [.int .u8 1, .lit false, .int .i64 4, .int .i64 6, .int .i64 7, .int .i64 5, .int .u8 2, .lit false, .int .i64 4, .int .i64 2, .int .i64 0, .int .i64 3, .int .u8 4, .lit true, .int .i64 60, .int .i64 62, .int .i64 63, .int .i64 61, .int .u8 8, .lit true, .int .i64 60, .int .i64 58, .int .i64 56, .int .i64 59]), (55, I 2)], [.ints false .i8 zs, .cells true [I f, I r, .sl 0 0 zs.length none, Bb bl, .int .u8 ca, I pa, I ha, I fu], .cells true [I a, I b, .int .i8 pr, .int .i8 c, I at_, .int .u8 uca, I upa, I uha, I ufu], .cells true [I 0, I 0, .nils, .lit false, .int .u8 0, I 0, I 0, I 0], .ints true .i8 l, .cells true [I f, I r, .sl 4 0 len none, Bb (!bl), .int .u8 uca, I upa, I uha, I ufu], .cells true [I a, I b, .int .i8 pr]], Ent.ren [0, 1, 2, 3, 4, 5, 6] [2, 3, 4, 5, 6, 7, 54, 55] rfl rfl rfl, ?_⟩
  refine rnd ?_
  refine sat_split hE 2 rfl (fun _ => ?_) (fun h => absurd h (by decide))
  repeat (first | (first | refine sat_self ?_ | refine sat_nd ?_) | refine sat_need (need_ix ha0 ha1) ?_ | refine sat_need (need_ix hb0 hb1) ?_ | refine sat_need (need_bd hc2 rfl) ?_)
  refine sat_join hE 2 (fun e tm hp => e = .normal ∧ ∃ l2 : List Int, l2 = bkS f r bl own uca a b l 4 true 60 62 63 61 ∧ tm = [(2, .ptr 1 0 0), (3, .ptr 2 0 0), (4, .ptr 3 0 0), (5, .ptr 5 0 0), (6, .ptr 6 0 0), (7, .int .i8 own), (54, .agg [.int .u8 1, .lit false, .int .i64 4, .int .i64 6, .int .i64 7, .int .i64 5, .int .u8 2, .lit false, .int .i64 4, .int .i64 2, .int .i64 0, .int .i64 3, .int .u8 4, .lit true, .int .i64 60, .int .i64 62, .int .i64 63, .int .i64 61, .int .u8 8, .lit true, .int .i64 60, .int .i64 58, .int .i64 56, .int .i64 59]), (55, I 2)] ∧ hp = [.ints false .i8 zs, .cells true [I f, I r, .sl 0 0 zs.length none, Bb bl, .int .u8 ca, I pa, I ha, I fu], .cells true [I a, I b, .int .i8 pr, .int .i8 c, I at_, .int .u8 uca, I upa, I uha, I ufu], .cells true [I 0, I 0, .nils, .lit false, .int .u8 0, I 0, I 0, I 0], .ints true .i8 l2, .cells true [I f, I r, .sl 4 0 len none, Bb (!bl), .int .u8 uca, I upa, I uha, I ufu], .cells true [I a, I b, .int .i8 pr]]) rfl (fun h => ?_) (fun h => ?_) ?_
  ·have h : bkC f r bl own uca a b 4 true 60 62 = true := h
   have h64 : len = 64 := by rw [hlen]; exact bk_64 hbd h
   repeat (first | (first | refine sat_self ?_ | refine sat_nd ?_) | refine sat_need (by simp only [Bool.and_eq_true, decide_eq_true_eq]; omega) ?_)
   exact sat_ret ⟨_, _, Ent.ren [0, 1, 2, 3, 4, 5, 6] [2, 3, 4, 5, 6, 7, 54, 55] rfl rfl rfl, rfl, _, by rw [bkS, h]; rfl, rfl, rfl⟩
  ·have h : bkC f r bl own uca a b 4 true 60 62 = false := h
   exact sat_ret ⟨_, _, Ent.ren [0, 1, 2, 3, 4, 5, 6] [2, 3, 4, 5, 6, 7, 54, 55] rfl rfl rfl, rfl, _, by rw [bkS, h]; rfl, rfl, rfl⟩
  subst hl
  rintro e tm hp ⟨rfl, l, hl, rfl, rfl⟩
  refine sat_ret ⟨[(2, .ptr 1 0 0), (3, .ptr 2 0 0), (4, .ptr 3 0 0), (5, .ptr 5 0 0), (6, .ptr 6 0 0), (7, .int .i8 own), (54, .agg [.int .u8 1, .lit false, .int .i64 4, .int .i64 6, .int .i64 7, .int .i64 5, .int .u8 2, .lit false, .int .i64 4, .int .i64 2, .int .i64 0, .int .i64 3, .int .u8 4, .lit true, .int .i64 60, .int .i64 62, .int .i64 63, .int .i64 61, .int .u8 8, .lit true, .int .i64 60, .int .i64 58, .int .i64 56, .int .i64 59]), (55, I 3)], [.ints false .i8 zs, .cells true [I f, I r, .sl 0 0 zs.length none, Bb bl, .int .u8 ca, I pa, I ha, I fu], .cells true [I a, I b, .int .i8 pr, .int .i8 c, I at_, .int .u8 uca, I upa, I uha, I ufu], .cells true [I 0, I 0, .nils, .lit false, .int .u8 0, I 0, I 0, I 0], .ints true .i8 l, .cells true [I f, I r, .sl 4 0 len none, Bb (!bl), .int .u8 uca, I upa, I uha, I ufu], .cells true [I a, I b, .int .i8 pr]], Ent.ren [0, 1, 2, 3, 4, 5, 6] [2, 3, 4, 5, 6, 7, 54, 55] rfl rfl rfl, ?_⟩
  refine rnd ?_
  refine sat_split hE 2 rfl (fun _ => ?_) (fun h => absurd h (by decide))
  repeat (first | (first | refine sat_self ?_ | refine sat_nd ?_) | refine sat_need (need_ix ha0 ha1) ?_ | refine sat_need (need_ix hb0 hb1) ?_ | refine sat_need (need_bd hc2 rfl) ?_)
  refine sat_join hE 2 (fun e tm hp => e = .normal ∧ ∃ l2 : List Int, l2 = bkS f r bl own uca a b l 8 true 60 58 56 59 ∧ tm = [(2, .ptr 1 0 0), (3, .ptr 2 0 0), (4, .ptr 3 0 0), (5, .ptr 5 0 0), (6, .ptr 6 0 0), (7, .int .i8 own), (54, .agg [.int .u8 1, .lit false, .int .i64 4, .int .i64 6, .int .i64 7, .int .i64 5, .int .u8 2, .lit false, .int .i64 4, .int .i64 2, .int .i64 0, .int .i64 3, .int .u8 4, .lit true, .int .i64 60, .int .i64 62, .int .i64 63, .int .i64 61, .int .u8 8, .lit true, .int .i64 60, .int .i64 58, .int .i64 56, .int .i64 59]), (55, I 3)] ∧ hp = [.ints false .i8 zs, .cells true [I f, I r, .sl 0 0 zs.length none, Bb bl, .int .u8 ca, I pa, I ha, I fu], .cells true [I a, I b, .int .i8 pr, .int .i8 c, I at_, .int .u8 uca, I upa, I uha, I ufu], .cells true [I 0, I 0, .nils, .lit false, .int .u8 0, I 0, I 0, I 0], .ints true .i8 l2, .cells true [I f, I r, .sl 4 0 len none, Bb (!bl), .int .u8 uca, I upa, I uha, I ufu], .cells true [I a, I b, .int .i8 pr]]) rfl (fun h => ?_) (fun h => ?_) ?_
  ·have h : bkC f r bl own uca a b 8 true 60 58 = true := h
   have h64 : len = 64 := by rw [hlen]; exact bk_64 hbd h
   repeat (first | (first | refine sat_self ?_ | refine sat_nd ?_) | refine sat_need (by simp only [Bool.and_eq_true, decide_eq_true_eq]; omega) ?_)
   exact sat_ret ⟨_, _, Ent.ren [0, 1, 2, 3, 4, 5, 6] [2, 3, 4, 5, 6, 7, 54, 55] rfl rfl rfl, rfl, _, by rw [bkS, h]; rfl, rfl, rfl⟩
  ·have h : bkC f r bl own uca a b 8 true 60 58 = false := h
   exact sat_ret ⟨_, _, Ent.ren [0, 1, 2, 3, 4, 5, 6] [2, 3, 4, 5, 6, 7, 54, 55] rfl rfl rfl, rfl, _, by rw [bkS, h]; rfl, rfl, rfl⟩
  subst hl
  rintro e tm hp ⟨rfl, l, hl, rfl, rfl⟩
  refine sat_ret ⟨[(2, .ptr 1 0 0), (3, .ptr 2 0 0), (4, .ptr 3 0 0), (5, .ptr 5 0 0), (6, .ptr 6 0 0), (7, .int .i8 own), (54, .agg [.int .u8 1, .lit false, .int .i64 4, .int .i64 6, .int .i64 7, .int .i64 5, .int .u8 2, .lit false, .int .i64 4, .int .i64 2, .int .i64 0, .int .i64 3, .int .u8 4, .lit true, .int .i64 60, .int .i64 62, .int .i64 63, .int .i64 61, .int .u8 8, .lit true, .int .i64 60, .int .i64 58, .int .i64 56, .int .i64 59]), (55, I 4)], [.ints false .i8 zs, .cells true [I f, I r, .sl 0 0 zs.length none, Bb bl, .int .u8 ca, I pa, I ha, I fu], .cells true [I a, I b, .int .i8 pr, .int .i8 c, I at_, .int .u8 uca, I upa, I uha, I ufu], .cells true [I 0, I 0, .nils, .lit false, .int .u8 0, I 0, I 0, I 0], .ints true .i8 l, .cells true [I f, I r, .sl 4 0 len none, Bb (!bl), .int .u8 uca, I upa, I uha, I ufu], .cells true [I a, I b, .int .i8 pr]], Ent.ren [0, 1, 2, 3, 4, 5, 6] [2, 3, 4, 5, 6, 7, 54, 55] rfl rfl rfl, ?_⟩
  refine rnd ?_
  refine sat_split hE 2 rfl (fun h => absurd h (by decide)) (fun _ => ?_)
  refine sat_ret ?_
  repeat (first | (first | refine sat_self ?_ | refine sat_nd ?_) | refine sat_need (need_ix ha0 ha1) ?_ | refine sat_need (need_ix hb0 hb1) ?_ | refine sat_need (need_bd hc2 rfl) ?_)
  rw [hown] at hl
  have hl : l = bk0 f r zs bl uca a b pr := hl
  have hll : len = l.length := by rw [hl, bk0_len, hlen]
  refine sat_split hE 2 rfl (fun h => ?_) (fun h => ?_)
  ·have h : (decide (0 ≤ at_) && decide (at_ < len)) = true := h
   have h9 := h
   simp only [Bool.and_eq_true, decide_eq_true_eq] at h9
   repeat (first | (first | refine sat_self ?_ | refine sat_nd ?_) | refine sat_need (by simp only [Bool.and_eq_true, decide_eq_true_eq]; omega) ?_)
   have hz : l.set at_.toNat c = bkZ f r zs bl ⟨⟨a, b, pr⟩, c, at_, uca, upa, uha, ufu⟩ := by rw [bkZ, ← hl, ← hlen, h]; rfl
   refine sat_ret (fin_l0 (fin_new 4 (.inr rfl) rfl rfl rfl rfl (by rw [← hz]; rfl) (by show _ = V.agg [I f, I r, .sl 1 0 (bkZ f r zs bl ⟨⟨a, b, pr⟩, c, at_, uca, upa, uha, ufu⟩).length none, Bb (!bl), .int .u8 uca, I upa, I uha, I ufu]; rw [bkZ_len, hlen]; rfl)))
  ·have h : (decide (0 ≤ at_) && decide (at_ < len)) = false := h
   have hz : l = bkZ f r zs bl ⟨⟨a, b, pr⟩, c, at_, uca, upa, uha, ufu⟩ := by rw [bkZ, ← hlen, h, ← hl]; rfl
   refine sat_ret (fin_l0 (fin_new 4 (.inr rfl) rfl rfl rfl rfl (by rw [← hz]; rfl) (by show _ = V.agg [I f, I r, .sl 1 0 (bkZ f r zs bl ⟨⟨a, b, pr⟩, c, at_, uca, upa, uha, ufu⟩).length none, Bb (!bl), .int .u8 uca, I upa, I uha, I ufu]; rw [bkZ_len, hlen]; rfl)))
 ·cases e
end Go.Ab

set_option maxRecDepth 100000
set_option maxHeartbeats 4000000
namespace Go.Ab
open Go.Proofs
variable {kDb : Bool}
def undB (u v : Und) : Bool := (decide (u.m.a = v.m.a) && (decide (u.m.b = v.m.b) && decide (u.m.p = v.m.p))) && (decide (u.c = v.c) && (decide (u.at_ = v.at_) && (decide (u.ca = v.ca) && (decide (u.pa = v.pa) && (decide (u.ha = v.ha) && decide (u.fu = v.fu))))))
def umE (p : Psn) (u : Und) : Int := bif !p.ok || !mvB p.f p.r u.m.a u.m.b u.m.p then 2 else bif !decide (mkE5 (bkP p u) u.m = 0) || !undB (mkU (bkP p u) u.m) u || !equalB (mkP (bkP p u) u.m) p then 10 else 0
def umP (p : Psn) (u : Und) : Psn := bif decide (umE p u = 0) then bkP p u else psn0
theorem um_err {p : Psn} {u : Und} {n : Int} (h : umE p u = n) (hn : n ≠ 0) : umP p u = psn0 := by
 have h0 : decide (umE p u = 0) = false := by rw [h]; simpa using hn
 rw [umP, h0]; rfl
theorem need_eq2 {zs ws : List Int} {g : Bool} {n m : Nat} (h1 : n = zs.length) (h2 : zs.length ≤ 64) (h3 : m = ws.length) (h4 : ws.length ≤ 64) : (!g || (decide (n = ((zs.drop 0).take n).length) && decide (((zs.drop 0).take n).length ≤ 64) && decide (m = ((ws.drop 0).take m).length) && decide (((ws.drop 0).take m).length ≤ 64))) = true := by
 subst h1; subst h3; simp [h2, h4]
theorem mkP_len {p : Psn} {m : Mov} (h : p.zs.length ≤ 64) : (mkP p m).zs.length ≤ 64 := by
 unfold mkP
 cases decide (mkE5 p m = 0)
 ·simp
 ·rw [cond_true]; dsimp only; rw [zs3_len]; exact h
def c_unmake : CF
 | [.agg [.int .i64 f, .int .i64 r, .sl 0 0 len none, .bool bl, .int .u8 ca, .int .i64 pa, .int .i64 ha, .int .i64 fu], .agg [.int .i64 a, .int .i64 b, .int .i8 pr, .int .i8 c, .int .i64 at_, .int .u8 uca, .int .i64 upa, .int .i64 uha, .int .i64 ufu]], [.ints false .i8 zs] => some (decide (len = zs.length) && decide (zs.length ≤ 64), .tup [psV 1 (umP ⟨f, r, zs, bl, ca, pa, ha, fu⟩ ⟨⟨a, b, pr⟩, c, at_, uca, upa, uha, ufu⟩), I (umE ⟨f, r, zs, bl, ca, pa, ha, fu⟩ ⟨⟨a, b, pr⟩, c, at_, uca, upa, uha, ufu⟩)], [.ints true .i8 (umP ⟨f, r, zs, bl, ca, pa, ha, fu⟩ ⟨⟨a, b, pr⟩, c, at_, uca, upa, uha, ufu⟩).zs])
 | _, _ => none
theorem c_unmake_ok : CtOk (GGx true kDb) PP (37, c_unmake) := by
 refine ct_mk Tryz.func37 (by kernel_rfl) rfl fun a0 h0 c0 v0 N0 e hc => ?_
 unfold c_unmake at e
 split at e
 ·rename_i f r len bl ca pa ha fu a b pr c at_ uca upa uha ufu zs
  cases e
  have hE := cutE (EE_ok (kCa := true) (kDb := kDb) (cts := [(46, c_pvalid), (47, c_mvalid), (86, c_before), (15, c_make), (87, c_equal)]) (inl := []) ⟨c_pvalid_ok, c_mvalid_ok, c_before_ok, c_make_ok, c_equal_ok, trivial⟩ trivial)
  refine fn_soundL hE 2 Tryz.func37 rfl rfl ?_
  simp only [Bool.and_eq_true, decide_eq_true_eq] at hc
  obtain ⟨rfl, hc2⟩ := hc
  repeat (first | (first | refine sat_self ?_ | refine sat_nd ?_) | refine sat_need (need_bd hc2 rfl) ?_)
  refine sat_split hE 2 rfl (fun h => ?_) (fun h => ?_)
  ·have h : (!(Psn.ok ⟨f, r, tk zs, bl, ca, pa, ha, fu⟩) || !mvB f r a b pr) = true := h
   rw [tk_eq] at h
   have he : umE ⟨f, r, zs, bl, ca, pa, ha, fu⟩ ⟨⟨a, b, pr⟩, c, at_, uca, upa, uha, ufu⟩ = 2 := by simp only [umE, h, cond_true]
   rw [um_err he (by decide), he]
   exact sat_ret (fin_le (Ent.phan (b := 3) (j := 2) (ww := true) (o := .ints true .i8 []) rfl rfl ⟨by simp, by simp, trivial, rfl⟩ (blt_lt rfl)) (fin_new 4 (.inr rfl) rfl rfl rfl rfl rfl rfl) (fun _ _ h => h))
  have h : (!(Psn.ok ⟨f, r, tk zs, bl, ca, pa, ha, fu⟩) || !mvB f r a b pr) = false := h
  rw [tk_eq] at h
  have e1 : (!(Psn.ok ⟨f, r, zs, bl, ca, pa, ha, fu⟩) || !mvB f r a b pr) = false := h
  simp only [Bool.or_eq_false_iff, Bool.not_eq_false'] at h
  obtain ⟨hbd, hcas⟩ := ok_bd h.1
  obtain ⟨hva, hvb⟩ := mv_ab h.2
  dsimp only at hbd hcas
  have hv3 : (validBd f r (tk zs) && validB f r a && validB f r b) = true := by rw [tk_eq, hbd, hva, hvb]; rfl
  have hv4 : (validBd f r (tk zs) && (validB f r a && validB f r b)) = true := by rw [tk_eq, hbd, hva, hvb]; rfl
  have hbl : (bkZ f r (tk zs) bl ⟨⟨a, b, pr⟩, c, at_, uca, upa, uha, ufu⟩).length ≤ 64 := by rw [bkZ_len, tk_len]; exact hc2
  have hml : (mkP ⟨f, r, tk (bkZ f r (tk zs) bl ⟨⟨a, b, pr⟩, c, at_, uca, upa, uha, ufu⟩), !bl, uca, upa, uha, ufu⟩ ⟨a, b, pr⟩).zs.length ≤ 64 := mkP_len (by show (tk _).length ≤ 64; rw [tk_len]; exact hbl)
  repeat (first | (first | refine sat_self ?_ | refine sat_nd ?_) | refine sat_need (need_bdv hc2 rfl hv3) ?_ | refine sat_need (need_out rfl hbl) ?_ | refine sat_need (need_eq2 rfl hml rfl hc2) ?_)
  refine sat_split hE 2 rfl (fun h => ?_) (fun h => ?_)
  ·have h : (!decide (mkE5 ⟨f, r, tk (bkZ f r (tk zs) bl ⟨⟨a, b, pr⟩, c, at_, uca, upa, uha, ufu⟩), !bl, uca, upa, uha, ufu⟩ ⟨a, b, pr⟩ = 0) || !undB (mkU ⟨f, r, tk (bkZ f r (tk zs) bl ⟨⟨a, b, pr⟩, c, at_, uca, upa, uha, ufu⟩), !bl, uca, upa, uha, ufu⟩ ⟨a, b, pr⟩) ⟨⟨a, b, pr⟩, c, at_, uca, upa, uha, ufu⟩ || !equalB ⟨(mkP ⟨f, r, tk (bkZ f r (tk zs) bl ⟨⟨a, b, pr⟩, c, at_, uca, upa, uha, ufu⟩), !bl, uca, upa, uha, ufu⟩ ⟨a, b, pr⟩).f, (mkP ⟨f, r, tk (bkZ f r (tk zs) bl ⟨⟨a, b, pr⟩, c, at_, uca, upa, uha, ufu⟩), !bl, uca, upa, uha, ufu⟩ ⟨a, b, pr⟩).r, tk (mkP ⟨f, r, tk (bkZ f r (tk zs) bl ⟨⟨a, b, pr⟩, c, at_, uca, upa, uha, ufu⟩), !bl, uca, upa, uha, ufu⟩ ⟨a, b, pr⟩).zs, (mkP ⟨f, r, tk (bkZ f r (tk zs) bl ⟨⟨a, b, pr⟩, c, at_, uca, upa, uha, ufu⟩), !bl, uca, upa, uha, ufu⟩ ⟨a, b, pr⟩).bl, (mkP ⟨f, r, tk (bkZ f r (tk zs) bl ⟨⟨a, b, pr⟩, c, at_, uca, upa, uha, ufu⟩), !bl, uca, upa, uha, ufu⟩ ⟨a, b, pr⟩).ca, (mkP ⟨f, r, tk (bkZ f r (tk zs) bl ⟨⟨a, b, pr⟩, c, at_, uca, upa, uha, ufu⟩), !bl, uca, upa, uha, ufu⟩ ⟨a, b, pr⟩).pa, (mkP ⟨f, r, tk (bkZ f r (tk zs) bl ⟨⟨a, b, pr⟩, c, at_, uca, upa, uha, ufu⟩), !bl, uca, upa, uha, ufu⟩ ⟨a, b, pr⟩).ha, (mkP ⟨f, r, tk (bkZ f r (tk zs) bl ⟨⟨a, b, pr⟩, c, at_, uca, upa, uha, ufu⟩), !bl, uca, upa, uha, ufu⟩ ⟨a, b, pr⟩).fu⟩ ⟨f, r, tk zs, bl, ca, pa, ha, fu⟩) = true := h
   simp only [tk_eq] at h
   have h : (!decide (mkE5 (bkP ⟨f, r, zs, bl, ca, pa, ha, fu⟩ ⟨⟨a, b, pr⟩, c, at_, uca, upa, uha, ufu⟩) ⟨a, b, pr⟩ = 0) || !undB (mkU (bkP ⟨f, r, zs, bl, ca, pa, ha, fu⟩ ⟨⟨a, b, pr⟩, c, at_, uca, upa, uha, ufu⟩) ⟨a, b, pr⟩) ⟨⟨a, b, pr⟩, c, at_, uca, upa, uha, ufu⟩ || !equalB (mkP (bkP ⟨f, r, zs, bl, ca, pa, ha, fu⟩ ⟨⟨a, b, pr⟩, c, at_, uca, upa, uha, ufu⟩) ⟨a, b, pr⟩) ⟨f, r, zs, bl, ca, pa, ha, fu⟩) = true := h
   have he : umE ⟨f, r, zs, bl, ca, pa, ha, fu⟩ ⟨⟨a, b, pr⟩, c, at_, uca, upa, uha, ufu⟩ = 10 := by simp only [umE, e1, h, cond_true, cond_false]
   rw [um_err he (by decide), he]
   exact sat_ret (fin_le (Ent.phan (b := 3) (j := 2) (ww := true) (o := .ints true .i8 []) rfl rfl ⟨by simp, by simp, trivial, rfl⟩ (blt_lt rfl)) (fin_new 9 (.inr rfl) rfl rfl rfl rfl rfl rfl) (fun _ _ h => h))
  ·have h : (!decide (mkE5 ⟨f, r, tk (bkZ f r (tk zs) bl ⟨⟨a, b, pr⟩, c, at_, uca, upa, uha, ufu⟩), !bl, uca, upa, uha, ufu⟩ ⟨a, b, pr⟩ = 0) || !undB (mkU ⟨f, r, tk (bkZ f r (tk zs) bl ⟨⟨a, b, pr⟩, c, at_, uca, upa, uha, ufu⟩), !bl, uca, upa, uha, ufu⟩ ⟨a, b, pr⟩) ⟨⟨a, b, pr⟩, c, at_, uca, upa, uha, ufu⟩ || !equalB ⟨(mkP ⟨f, r, tk (bkZ f r (tk zs) bl ⟨⟨a, b, pr⟩, c, at_, uca, upa, uha, ufu⟩), !bl, uca, upa, uha, ufu⟩ ⟨a, b, pr⟩).f, (mkP ⟨f, r, tk (bkZ f r (tk zs) bl ⟨⟨a, b, pr⟩, c, at_, uca, upa, uha, ufu⟩), !bl, uca, upa, uha, ufu⟩ ⟨a, b, pr⟩).r, tk (mkP ⟨f, r, tk (bkZ f r (tk zs) bl ⟨⟨a, b, pr⟩, c, at_, uca, upa, uha, ufu⟩), !bl, uca, upa, uha, ufu⟩ ⟨a, b, pr⟩).zs, (mkP ⟨f, r, tk (bkZ f r (tk zs) bl ⟨⟨a, b, pr⟩, c, at_, uca, upa, uha, ufu⟩), !bl, uca, upa, uha, ufu⟩ ⟨a, b, pr⟩).bl, (mkP ⟨f, r, tk (bkZ f r (tk zs) bl ⟨⟨a, b, pr⟩, c, at_, uca, upa, uha, ufu⟩), !bl, uca, upa, uha, ufu⟩ ⟨a, b, pr⟩).ca, (mkP ⟨f, r, tk (bkZ f r (tk zs) bl ⟨⟨a, b, pr⟩, c, at_, uca, upa, uha, ufu⟩), !bl, uca, upa, uha, ufu⟩ ⟨a, b, pr⟩).pa, (mkP ⟨f, r, tk (bkZ f r (tk zs) bl ⟨⟨a, b, pr⟩, c, at_, uca, upa, uha, ufu⟩), !bl, uca, upa, uha, ufu⟩ ⟨a, b, pr⟩).ha, (mkP ⟨f, r, tk (bkZ f r (tk zs) bl ⟨⟨a, b, pr⟩, c, at_, uca, upa, uha, ufu⟩), !bl, uca, upa, uha, ufu⟩ ⟨a, b, pr⟩).fu⟩ ⟨f, r, tk zs, bl, ca, pa, ha, fu⟩) = false := h
   simp only [tk_eq] at h
   have h : (!decide (mkE5 (bkP ⟨f, r, zs, bl, ca, pa, ha, fu⟩ ⟨⟨a, b, pr⟩, c, at_, uca, upa, uha, ufu⟩) ⟨a, b, pr⟩ = 0) || !undB (mkU (bkP ⟨f, r, zs, bl, ca, pa, ha, fu⟩ ⟨⟨a, b, pr⟩, c, at_, uca, upa, uha, ufu⟩) ⟨a, b, pr⟩) ⟨⟨a, b, pr⟩, c, at_, uca, upa, uha, ufu⟩ || !equalB (mkP (bkP ⟨f, r, zs, bl, ca, pa, ha, fu⟩ ⟨⟨a, b, pr⟩, c, at_, uca, upa, uha, ufu⟩) ⟨a, b, pr⟩) ⟨f, r, zs, bl, ca, pa, ha, fu⟩) = false := h
   have he : umE ⟨f, r, zs, bl, ca, pa, ha, fu⟩ ⟨⟨a, b, pr⟩, c, at_, uca, upa, uha, ufu⟩ = 0 := by simp only [umE, e1, h, cond_false]
   have hp : umP ⟨f, r, zs, bl, ca, pa, ha, fu⟩ ⟨⟨a, b, pr⟩, c, at_, uca, upa, uha, ufu⟩ = bkP ⟨f, r, zs, bl, ca, pa, ha, fu⟩ ⟨⟨a, b, pr⟩, c, at_, uca, upa, uha, ufu⟩ := by rw [umP, he]; rfl
   rw [hp, he]
   refine sat_ret (fin_l0 (fin_new 4 (.inr rfl) rfl rfl rfl rfl (by show [O.ints true .i8 (bkZ f r (tk zs) bl ⟨⟨a, b, pr⟩, c, at_, uca, upa, uha, ufu⟩)] = _; rw [tk_eq]; rfl) (by show V.tup [V.agg [I f, I r, .sl 1 0 (bkZ f r (tk zs) bl ⟨⟨a, b, pr⟩, c, at_, uca, upa, uha, ufu⟩).length none, Bb (!bl), .int .u8 uca, I upa, I uha, I ufu], I 0] = _; rw [tk_eq]; rfl)))
 ·cases e
end Go.Ab

set_option maxRecDepth 100000
namespace Go.Ab
open Go.Proofs
theorem ext_getD {l k : List Int} (h : l.length = k.length) (h2 : ∀ i, i < l.length → l.getD i 0 = k.getD i 0) : l = k := by
 refine List.ext_getElem h fun i h3 h4 => ?_
 have := h2 i h3
 simpa [List.getD, h3, h4] using this
theorem getD_set2 {l : List Int} {j i : Nat} {v : Int} : (l.set j v).getD i 0 = if i = j ∧ j < l.length then v else l.getD i 0 := by
 by_cases hj : j < l.length
 ·by_cases e : i = j
  ·subst e; simp [List.getD, hj]
  ·rw [if_neg (fun h => e h.1)]; simp [List.getD, List.getElem?_set_ne (Ne.symm e)]
 ·rw [if_neg (fun h => hj h.2), List.set_eq_of_length_le (by omega)]
theorem bk_castle {zs : List Int} {k to cor cro : Nat} {K : Int} (d1 : k ≠ to) (d2 : k ≠ cor) (d3 : k ≠ cro) (d4 : to ≠ cor) (d5 : to ≠ cro) (d6 : cor ≠ cro) (l1 : k < zs.length) (l2 : to < zs.length) (l3 : cor < zs.length) (l4 : cro < zs.length) (hK : K = zs.getD k 0) (h1 : zs.getD cro 0 = 0) (h2 : zs.getD to 0 = 0) {z2 z3 z4 : List Int} (e2 : z2 = (zs.set k 0).set to K) (e3 : z3 = (z2.set cro (z2.getD cor 0)).set cor 0) (e4 : z4 = (z3.set to 0).set k K) : (z4.set cor (z4.getD cro 0)).set cro 0 = zs := by
 subst e2 e3 e4
 refine ext_getD (by simp) fun i _ => ?_
 simp only [getD_set2, List.length_set]
 by_cases i1 : i = k
 ·subst i1; simp [l1, d2, d3, hK]
 by_cases i2 : i = to
 ·subst i2; rw [h2]; simp [l2, d4, d5, i1]
 by_cases i3 : i = cor
 ·subst i3; simp [l3, l4, d6, d2.symm, d3.symm, d4.symm, d5.symm, d6.symm]
 by_cases i4 : i = cro
 ·subst i4; rw [h1]; simp [l4]
 simp [i1, i2, i3, i4]
theorem mk_mv {p : Psn} {m : Mov} (hl : p.zs.length ≤ 64) (hca : 0 ≤ p.ca) (h : mkE5 p m = 0) : MvOk p m ∧ err4 p m = false ∧ err5 p m = false := by
 unfold mkE5 at h
 cases h1 : err1 p m with
 | true => rw [h1] at h; cases h
 | false =>
  rw [h1] at h
  cases h2 : isP (p.zs.getD m.a.toNat 0) p.bl with
  | false => rw [h2] at h; cases h
  | true =>
   rw [h2] at h
   cases h3 : err3 p m with
   | true => rw [h3] at h; cases h
   | false =>
    rw [h3] at h
    cases h4 : err4 p m with
    | true => rw [h4] at h; cases h
    | false =>
     rw [h4] at h
     cases h5 : err5 p m with
     | true => rw [h5] at h; cases h
     | false => exact ⟨mvok hl hca h1 h2 h3, rfl, rfl⟩
theorem way4 {zs : List Int} {bl : Bool} {ca a b : Int} (h : wayN zs bl ca a b = 4) (hk : absP (zs.getD a.toNat 0) = 6) : csSkip bl ca a b false 1 4 6 = true ∧ csSkip bl ca a b false 2 4 2 = true ∧ csSkip bl ca a b true 4 60 62 = true ∧ csSkip bl ca a b true 8 60 58 = true := by
 unfold wayN at h
 rw [hk] at h
 cases n1 : csSkip bl ca a b false 1 4 6 with
 | false => rw [n1] at h; cases h
 | true =>
  rw [n1] at h
  cases n2 : csSkip bl ca a b false 2 4 2 with
  | false => rw [n2] at h; cases h
  | true =>
   rw [n2] at h
   cases n3 : csSkip bl ca a b true 4 60 62 with
   | false => rw [n3] at h; cases h
   | true =>
    rw [n3] at h
    cases n4 : csSkip bl ca a b true 8 60 58 with
    | false => rw [n4] at h; cases h
    | true => exact ⟨rfl, rfl, rfl, rfl⟩
def CastIs (p : Psn) (m : Mov) (bl : Bool) (bit k to cor cro : Int) : Prop := p.bl = bl ∧ u8and p.ca bit ≠ 0 ∧ m.a = k ∧ m.b = to ∧ wCor (wayN p.zs p.bl p.ca m.a m.b) = cor ∧ wCro (wayN p.zs p.bl p.ca m.a m.b) = cro ∧ p.zs.getD cro.toNat 0 = 0 ∧ p.zs.getD to.toNat 0 = 0
section
variable {p : Psn} {m : Mov}
theorem MvOk.cast4 (o : MvOk p m) (hn : wayN p.zs p.bl p.ca m.a m.b ≠ 4) : p.f = 8 ∧ p.r = 8 ∧ p.zs.length = 64 ∧ kind8 (p.zs.getD m.a.toNat 0) = 6 ∧ m.p = 0 ∧ cstR p.f p.r p.zs p.bl p.ca p.pa m.a m.b m.p = true ∧
  (CastIs p m false 1 4 6 7 5 ∨ CastIs p m false 2 4 2 0 3 ∨ CastIs p m true 4 60 62 63 61 ∨ CastIs p m true 8 60 58 56 59) := by
 obtain ⟨hk, hp0, hg⟩ := o.wayg hn
 obtain ⟨h88, h64, _⟩ := cast_88 (a := m.a) (b := m.b) (bl := p.bl) o.bd o.cast hn
 simp only [is88, Bool.and_eq_true, decide_eq_true_eq] at h88
 have hw : wayB p.f p.r p.zs (wayN p.zs p.bl p.ca m.a m.b) = true := by
  have := o.so
  simp only [err3, hg, Bool.not_false, Bool.true_and, Bool.or_eq_false_iff, Bool.not_eq_false'] at this
  exact this.2.1
 refine ⟨h88.1, h88.2, h64, hk, hp0, by unfold cstR; rw [hw, hg]; rfl, ?_⟩
 have hbd := o.bd
 rw [h88.1, h88.2] at hw hbd
 have key : ∀ {n : Nat} {l : List Int}, wayN p.zs p.bl p.ca m.a m.b = n → validB 8 8 (wFrom n) = true → validB 8 8 (wCor n) = true → (lineR 8 (wFrom n) (wCor n)).2.2 = true → betwL 8 8 (wFrom n) (wCor n) = l → emptyB p.zs l = true := by
  rintro n l hn v1 v2 v3 rfl
  rw [hn] at hw
  simp only [wayB, Bool.and_eq_true] at hw
  rw [empty_eq hbd o.hl v1 v2 v3]
  exact hw.2
 unfold CastIs
 obtain ⟨_, hsq⟩ := way_is hn
 rcases hsq with ⟨hn, e1, e2, e3, e4⟩ | ⟨hn, e1, e2, e3, e4⟩ | ⟨hn, e1, e2, e3, e4⟩ | ⟨hn, e1, e2, e3, e4⟩
 ·have k1 := key (l := [5, 6]) hn (by decide) (by decide) (by decide) (by kernel_rfl)
  simp only [emptyB, List.all_cons, List.all_nil, Bool.and_true, Bool.and_eq_true, decide_eq_true_eq] at k1
  exact .inl ⟨e1, e2, e3, e4, by rw [hn]; rfl, by rw [hn]; rfl, k1.1, k1.2⟩
 ·have k1 := key (l := [3, 2, 1]) hn (by decide) (by decide) (by decide) (by kernel_rfl)
  simp only [emptyB, List.all_cons, List.all_nil, Bool.and_true, Bool.and_eq_true, decide_eq_true_eq] at k1
  exact .inr (.inl ⟨e1, e2, e3, e4, by rw [hn]; rfl, by rw [hn]; rfl, k1.1, k1.2.1⟩)
 ·have k1 := key (l := [61, 62]) hn (by decide) (by decide) (by decide) (by kernel_rfl)
  simp only [emptyB, List.all_cons, List.all_nil, Bool.and_true, Bool.and_eq_true, decide_eq_true_eq] at k1
  exact .inr (.inr (.inl ⟨e1, e2, e3, e4, by rw [hn]; rfl, by rw [hn]; rfl, k1.1, k1.2⟩))
 ·have k1 := key (l := [59, 58, 57]) hn (by decide) (by decide) (by decide) (by kernel_rfl)
  simp only [emptyB, List.all_cons, List.all_nil, Bool.and_true, Bool.and_eq_true, decide_eq_true_eq] at k1
  exact .inr (.inr (.inr ⟨e1, e2, e3, e4, by rw [hn]; rfl, by rw [hn]; rfl, k1.1, k1.2.1⟩))
theorem MvOk.at_cast (o : MvOk p m) (hk : kind8 (p.zs.getD m.a.toNat 0) = 6) (hb : p.zs.getD m.b.toNat 0 = 0) : at2R p.f p.zs p.pa m.a m.b = -1 := by
 have he : epB p.zs p.pa m.a m.b = false := by unfold epB; rw [o.kd, hk]; rfl
 unfold at2R capR at1R
 rw [he, cond_false, hb]; rfl
theorem bkS_no {f r : Int} {bl : Bool} {own uca a b : Int} {l : List Int} {bit : Int} {c : Bool} {k to cor cro : Int} (h : bkC f r bl own uca a b bit c k to = false) : bkS f r bl own uca a b l bit c k to cor cro = l := by
 unfold bkS; rw [h]; rfl
theorem bkS_yes {f r : Int} {bl : Bool} {own uca a b : Int} {l : List Int} {bit : Int} {c : Bool} {k to cor cro : Int} (h : bkC f r bl own uca a b bit c k to = true) : bkS f r bl own uca a b l bit c k to cor cro = (l.set cor.toNat (l.getD cro.toNat 0)).set cro.toNat 0 := by
 unfold bkS; rw [h]; rfl
theorem bkC_iff {f r : Int} {bl : Bool} {own uca a b bit : Int} {c : Bool} {k to : Int} : bkC f r bl own uca a b bit c k to = true ↔ absP own = 6 ∧ u8and uca bit ≠ 0 ∧ c = !bl ∧ k = a ∧ to = b ∧ IntKind.i64.wrap (f * r) = 64 := by
 unfold bkC
 simp only [Bool.and_eq_true, decide_eq_true_eq, Bool.not_eq_true', decide_eq_false_iff_not, beq_iff_eq]
 exact ⟨fun ⟨⟨⟨⟨⟨h1, h2⟩, h3⟩, h4⟩, h5⟩, h6⟩ => ⟨h1, h2, h3, h4, h5, h6⟩, fun ⟨h1, h2, h3, h4, h5, h6⟩ => ⟨⟨⟨⟨⟨h1, h2⟩, h3⟩, h4⟩, h5⟩, h6⟩⟩
def bkB (zs : List Int) (bl : Bool) (a b pr : Int) : List Int := (zs.set b.toNat 0).set a.toNat (ownB zs bl b pr)
theorem bk0_none {f r : Int} {zs : List Int} {bl : Bool} {uca a b pr : Int} (h1 : bkC f r bl (ownB zs bl b pr) uca a b 1 false 4 6 = false) (h2 : bkC f r bl (ownB zs bl b pr) uca a b 2 false 4 2 = false) (h3 : bkC f r bl (ownB zs bl b pr) uca a b 4 true 60 62 = false) (h4 : bkC f r bl (ownB zs bl b pr) uca a b 8 true 60 58 = false) : bk0 f r zs bl uca a b pr = bkB zs bl a b pr := by
 unfold bk0
 rw [bkS_no h4, bkS_no h3, bkS_no h2, bkS_no h1]; rfl
theorem bk0_ways {f r : Int} {zs : List Int} {bl : Bool} {uca a b pr : Int} : (bkC f r bl (ownB zs bl b pr) uca a b 1 false 4 6 = false ∧ bkC f r bl (ownB zs bl b pr) uca a b 2 false 4 2 = false ∧ bkC f r bl (ownB zs bl b pr) uca a b 4 true 60 62 = false ∧ bkC f r bl (ownB zs bl b pr) uca a b 8 true 60 58 = false ∧ bk0 f r zs bl uca a b pr = bkB zs bl a b pr) ∨
  ∃ (bit : Int) (c : Bool) (k to cor cro : Int), ((bit, c, k, to, cor, cro) = (1, false, 4, 6, 7, 5) ∨ (bit, c, k, to, cor, cro) = (2, false, 4, 2, 0, 3) ∨ (bit, c, k, to, cor, cro) = (4, true, 60, 62, 63, 61) ∨ (bit, c, k, to, cor, cro) = (8, true, 60, 58, 56, 59)) ∧
   bkC f r bl (ownB zs bl b pr) uca a b bit c k to = true ∧ bk0 f r zs bl uca a b pr = ((bkB zs bl a b pr).set cor.toNat ((bkB zs bl a b pr).getD cro.toNat 0)).set cro.toNat 0 := by
 have no : ∀ {bit k to bit' k' to' : Int} {c c' : Bool}, bkC f r bl (ownB zs bl b pr) uca a b bit c k to = true → (c ≠ c' ∨ k ≠ k' ∨ to ≠ to') → bkC f r bl (ownB zs bl b pr) uca a b bit' c' k' to' = false := by
  intro bit k to bit' k' to' c c' h1 h2
  rw [Bool.eq_false_iff]
  intro h3
  obtain ⟨_, _, e1, e2, e3, _⟩ := bkC_iff.1 h1
  obtain ⟨_, _, f1, f2, f3, _⟩ := bkC_iff.1 h3
  rcases h2 with h | h | h
  ·exact h (e1.trans f1.symm)
  ·exact h (e2.trans f2.symm)
  ·exact h (e3.trans f3.symm)
 cases h1 : bkC f r bl (ownB zs bl b pr) uca a b 1 false 4 6 with
 | true =>
  refine .inr ⟨1, false, 4, 6, 7, 5, .inl rfl, h1, ?_⟩
  unfold bk0
  rw [bkS_no (no h1 (.inl (by decide))), bkS_no (no h1 (.inl (by decide))), bkS_no (no h1 (.inr (.inr (by decide)))), bkS_yes h1]; rfl
 | false =>
  cases h2 : bkC f r bl (ownB zs bl b pr) uca a b 2 false 4 2 with
  | true =>
   refine .inr ⟨2, false, 4, 2, 0, 3, .inr (.inl rfl), h2, ?_⟩
   unfold bk0
   rw [bkS_no (no h2 (.inl (by decide))), bkS_no (no h2 (.inl (by decide))), bkS_no h1, bkS_yes h2]; rfl
  | false =>
   cases h3 : bkC f r bl (ownB zs bl b pr) uca a b 4 true 60 62 with
   | true =>
    refine .inr ⟨4, true, 60, 62, 63, 61, .inr (.inr (.inl rfl)), h3, ?_⟩
    unfold bk0
    rw [bkS_no (no h3 (.inr (.inr (by decide)))), bkS_no h2, bkS_no h1, bkS_yes h3]; rfl
   | false =>
    cases h4 : bkC f r bl (ownB zs bl b pr) uca a b 8 true 60 58 with
    | true =>
     refine .inr ⟨8, true, 60, 58, 56, 59, .inr (.inr (.inr rfl)), h4, ?_⟩
     unfold bk0
     rw [bkS_no h3, bkS_no h2, bkS_no h1, bkS_yes h4]; rfl
    | false => exact .inl ⟨rfl, rfl, rfl, rfl, bk0_none h1 h2 h3 h4⟩
theorem MvOk.own3 (o : MvOk p m) : ownB (zs3R p.f p.r p.zs p.bl p.ca p.pa m.a m.b m.p) (!p.bl) m.b m.p = p.zs.getD m.a.toNat 0 := by
 obtain ⟨⟨sa0, sa1⟩, ⟨sb0, sb1⟩⟩ := o.sq
 unfold ownB
 by_cases hp : m.p = 0
 ·rw [decide_eq_true hp, Bool.not_true, cond_false]
  unfold zs3R putR
  rw [decide_eq_true hp]
  simp only [Bool.not_true, Bool.false_and, cond_false]
  have h2 := o.z2.2 m.b.toNat (by omega)
  rw [if_pos rfl] at h2
  cases hc : cstR p.f p.r p.zs p.bl p.ca p.pa m.a m.b m.p with
  | false => rw [cond_false]; exact h2
  | true =>
   have hn : wayN p.zs p.bl p.ca m.a m.b ≠ 4 := by intro e; unfold cstR at hc; rw [e] at hc; simp [wayB] at hc
   obtain ⟨_, _, h64, _, _, _, hs⟩ := o.cast4 hn
   rw [cond_true, getD_set2, getD_set2]
   have : m.b.toNat ≠ (wCor (wayN p.zs p.bl p.ca m.a m.b)).toNat ∧ m.b.toNat ≠ (wCro (wayN p.zs p.bl p.ca m.a m.b)).toNat := by
    rcases hs with ⟨_, _, _, e1, e2, e3, _⟩ | ⟨_, _, _, e1, e2, e3, _⟩ | ⟨_, _, _, e1, e2, e3, _⟩ | ⟨_, _, _, e1, e2, e3, _⟩ <;> rw [e2, e3, e1] <;> decide
   rw [if_neg (fun h => this.1 h.1), if_neg (fun h => this.2 h.1), h2]
 ·have hk1 : kind8 (p.zs.getD m.a.toNat 0) = 1 := by
   by_cases h : kind8 (p.zs.getD m.a.toNat 0) = 1
   ·exact h
   ·exact absurd (o.pr0 h) hp
  rw [decide_eq_false hp, Bool.not_false, cond_true, Bool.not_not]
  have hb := getD_bd o.h m.a.toNat
  rw [kind_abs hb] at hk1
  have hpp := o.hp
  unfold isP at hpp
  cases hbl : p.bl with
  | true =>
   rw [hbl] at hpp
   simp only [Bool.and_true, Bool.not_true, Bool.and_false, Bool.or_false, decide_eq_true_eq] at hpp
   rw [cond_true, show w8 (0 - 1) = -1 by decide]; omega
  | false =>
   rw [hbl] at hpp
   simp only [Bool.and_false, Bool.not_false, Bool.and_true, Bool.false_or, decide_eq_true_eq] at hpp
   rw [cond_false]; omega
theorem MvOk.back (o : MvOk p m) : bkZ p.f p.r (zs3R p.f p.r p.zs p.bl p.ca p.pa m.a m.b m.p) (!p.bl) ⟨m, capR p.f p.zs p.pa m.a m.b, at2R p.f p.zs p.pa m.a m.b, p.ca, p.pa, p.ha, p.fu⟩ = p.zs := by
 obtain ⟨⟨sa0, sa1⟩, ⟨sb0, sb1⟩⟩ := o.sq
 have hlen := zs3_len (f := p.f) (r := p.r) (zs := p.zs) (bl := p.bl) (ca := p.ca) (pa := p.pa) (a := m.a) (b := m.b) (pr := m.p)
 have hl2 := zs2_len (f := p.f) (zs := p.zs) (pa := p.pa) (a := m.a) (b := m.b)
 have hw3 := o.own3
 have hbc : ∀ {bit k to : Int} {c : Bool}, bkC p.f p.r (!p.bl) (ownB (zs3R p.f p.r p.zs p.bl p.ca p.pa m.a m.b m.p) (!p.bl) m.b m.p) p.ca m.a m.b bit c k to = true → absP (p.zs.getD m.a.toNat 0) = 6 ∧ csSkip p.bl p.ca m.a m.b c bit k to = false := by
  intro bit k to c h
  rw [hw3] at h
  obtain ⟨h1, h2, h3, h4, h5, _⟩ := bkC_iff.1 h
  refine ⟨h1, ?_⟩
  have := sk_iff.2 ⟨h3.trans (Bool.not_not _), h2, h4, h5⟩
  simpa using this
 by_cases hn : wayN p.zs p.bl p.ca m.a m.b = 4
 ·have hcs : cstR p.f p.r p.zs p.bl p.ca p.pa m.a m.b m.p = false := by unfold cstR; rw [hn]; simp [wayB]
  have hno : bk0 p.f p.r (zs3R p.f p.r p.zs p.bl p.ca p.pa m.a m.b m.p) (!p.bl) p.ca m.a m.b m.p = bkB (zs3R p.f p.r p.zs p.bl p.ca p.pa m.a m.b m.p) (!p.bl) m.a m.b m.p := by
   have hf : ∀ {bit k to : Int} {c : Bool}, (absP (p.zs.getD m.a.toNat 0) = 6 → csSkip p.bl p.ca m.a m.b c bit k to = true) → bkC p.f p.r (!p.bl) (ownB (zs3R p.f p.r p.zs p.bl p.ca p.pa m.a m.b m.p) (!p.bl) m.b m.p) p.ca m.a m.b bit c k to = false := by
    intro bit k to c h
    rw [Bool.eq_false_iff]
    intro h2
    obtain ⟨h3, h4⟩ := hbc h2
    rw [h h3] at h4; cases h4
   exact bk0_none (hf fun h => (way4 hn h).1) (hf fun h => (way4 hn h).2.1) (hf fun h => (way4 hn h).2.2.1) (hf fun h => (way4 hn h).2.2.2)
  have h3 : ∀ i : Nat, i < p.zs.length → i ≠ m.b.toNat → i ≠ m.a.toNat → (zs3R p.f p.r p.zs p.bl p.ca p.pa m.a m.b m.p).getD i 0 = (zs1R p.f p.zs p.pa m.a m.b).getD i 0 := by
   intro i hi h1 h2
   have hz := o.z2.2 i hi
   rw [if_neg h1, if_neg h2] at hz
   rw [← hz]
   unfold zs3R putR
   rw [hcs, cond_false]
   cases decide (m.p = 0) <;> cases p.bl <;> simp only [Bool.not_true, Bool.not_false, Bool.and_self, Bool.and_false, Bool.false_and, cond_true, cond_false] <;> first | rfl | (rw [getD_set2, if_neg (fun h => h1 h.1)])
  unfold bkZ
  dsimp only
  rw [hno, hlen]
  unfold bkB
  rw [hw3]
  have hab : m.a.toNat ≠ m.b.toNat := by have := o.hab; omega
  cases hc : decide (0 ≤ at2R p.f p.zs p.pa m.a m.b) with
  | true =>
   obtain ⟨c1, c2, c3, c4⟩ := o.cap.2.1 (of_decide_eq_true hc)
   have c0 := of_decide_eq_true hc
   rw [decide_eq_true c1, Bool.and_self, cond_true]
   refine ext_getD (by simp only [List.length_set, hlen]) fun i hi => ?_
   simp only [List.length_set, hlen] at hi
   simp only [getD_set2, List.length_set, hlen]
   by_cases i1 : i = (at2R p.f p.zs p.pa m.a m.b).toNat
   ·rw [if_pos ⟨i1, by omega⟩, i1, c4]; rfl
   rw [if_neg (fun h => i1 h.1)]
   by_cases i2 : i = m.a.toNat
   ·rw [if_pos ⟨i2, by omega⟩, i2]
   rw [if_neg (fun h => i2 h.1)]
   by_cases i3 : i = m.b.toNat
   ·rw [if_pos ⟨i3, by omega⟩, i3]
    cases he : epB p.zs p.pa m.a m.b with
    | true =>
     simp only [epB, Bool.and_eq_true, decide_eq_true_eq] at he
     rw [o.kd] at he
     exact (o.ep he.1 he.2).2.2.2.2.1.symm
    | false =>
     exfalso
     apply i1
     rw [c4]; unfold at1R; rw [he]; exact i3
   rw [if_neg (fun h => i3 h.1), h3 i hi i3 i2]
   unfold zs1R
   rw [hc, cond_true, getD_set2, if_neg (fun h => i1 h.1)]
  | false =>
   obtain ⟨c1, c2, c3⟩ := o.cap.2.2.1 (by have := of_decide_eq_false hc; omega)
   rw [Bool.false_and, cond_false]
   refine ext_getD (by simp only [List.length_set, hlen]) fun i hi => ?_
   simp only [List.length_set, hlen] at hi
   simp only [getD_set2, List.length_set, hlen]
   by_cases i2 : i = m.a.toNat
   ·rw [if_pos ⟨i2, by omega⟩, i2]
   rw [if_neg (fun h => i2 h.1)]
   by_cases i3 : i = m.b.toNat
   ·rw [if_pos ⟨i3, by omega⟩, i3, c3]
   rw [if_neg (fun h => i3 h.1), h3 i hi i3 i2]
   unfold zs1R
   rw [hc, cond_false]
 ·obtain ⟨hf, hr, h64, hk, hp0, hcs, hs⟩ := o.cast4 hn
  have hbz : p.zs.getD m.b.toNat 0 = 0 := by
   rcases hs with ⟨_, _, _, e1, _, _, _, e2⟩ | ⟨_, _, _, e1, _, _, _, e2⟩ | ⟨_, _, _, e1, _, _, _, e2⟩ | ⟨_, _, _, e1, _, _, _, e2⟩ <;> rw [e1] <;> exact e2
  have hat := o.at_cast hk hbz
  unfold bkZ
  dsimp only
  rw [hat, decide_eq_false (show ¬ (0 : Int) ≤ -1 by decide), Bool.false_and, cond_false]
  have hz1 : zs1R p.f p.zs p.pa m.a m.b = p.zs := by unfold zs1R; rw [hat]; rfl
  have hz3 : zs3R p.f p.r p.zs p.bl p.ca p.pa m.a m.b m.p = ((zs2R p.f p.zs p.pa m.a m.b).set (wCro (wayN p.zs p.bl p.ca m.a m.b)).toNat ((zs2R p.f p.zs p.pa m.a m.b).getD (wCor (wayN p.zs p.bl p.ca m.a m.b)).toNat 0)).set (wCor (wayN p.zs p.bl p.ca m.a m.b)).toNat 0 := by
   unfold zs3R putR
   rw [hcs, hp0]; rfl
  have hz2 : zs2R p.f p.zs p.pa m.a m.b = (p.zs.set m.a.toNat 0).set m.b.toNat (p.zs.getD m.a.toNat 0) := by unfold zs2R; rw [hz1]
  have fin : ∀ {bit k to cor cro : Int} {c : Bool}, CastIs p m c bit k to cor cro → k.toNat ≠ to.toNat → k.toNat ≠ cor.toNat → k.toNat ≠ cro.toNat → to.toNat ≠ cor.toNat → to.toNat ≠ cro.toNat → cor.toNat ≠ cro.toNat → cor.toNat < 64 → cro.toNat < 64 →
    ((bit, c, k, to, cor, cro) = (1, false, 4, 6, 7, 5) ∨ (bit, c, k, to, cor, cro) = (2, false, 4, 2, 0, 3) ∨ (bit, c, k, to, cor, cro) = (4, true, 60, 62, 63, 61) ∨ (bit, c, k, to, cor, cro) = (8, true, 60, 58, 56, 59)) →
    bk0 p.f p.r (zs3R p.f p.r p.zs p.bl p.ca p.pa m.a m.b m.p) (!p.bl) p.ca m.a m.b m.p = p.zs := by
   intro bit k to cor cro c ⟨q1, q2, q3, q4, q5, q6, q7, q8⟩ d1 d2 d3 d4 d5 d6 l3 l4 hrow
   have hC : bkC p.f p.r (!p.bl) (ownB (zs3R p.f p.r p.zs p.bl p.ca p.pa m.a m.b m.p) (!p.bl) m.b m.p) p.ca m.a m.b bit c k to = true := by
    rw [hw3, bkC_iff, o.kd, hf, hr]
    exact ⟨hk, q2, by rw [Bool.not_not]; exact q1.symm, q3.symm, q4.symm, by decide⟩
   rcases bk0_ways (f := p.f) (r := p.r) (zs := zs3R p.f p.r p.zs p.bl p.ca p.pa m.a m.b m.p) (bl := !p.bl) (uca := p.ca) (a := m.a) (b := m.b) (pr := m.p) with ⟨n1, n2, n3, n4, _⟩ | ⟨bit', c', k', to', cor', cro', hrow', hC', he⟩
   ·exfalso
    rcases hrow with h | h | h | h <;> cases h
    ·rw [n1] at hC; cases hC
    ·rw [n2] at hC; cases hC
    ·rw [n3] at hC; cases hC
    ·rw [n4] at hC; cases hC
   ·rw [he]
    obtain ⟨_, _, f1, f2, f3, _⟩ := bkC_iff.1 hC
    obtain ⟨_, _, g1, g2, g3, _⟩ := bkC_iff.1 hC'
    have h1 : c = c' := f1.trans g1.symm
    have h2 : k = k' := f2.trans g2.symm
    have h3 : to = to' := f3.trans g3.symm
    have h4 : cor' = cor ∧ cro' = cro := by
     subst h1 h2 h3
     rcases hrow with h | h | h | h <;> cases h <;> rcases hrow' with h | h | h | h <;> cases h <;> exact ⟨rfl, rfl⟩
    rw [h4.1, h4.2]
    unfold bkB
    rw [hw3]
    refine bk_castle (z2 := zs2R p.f p.zs p.pa m.a m.b) (z3 := zs3R p.f p.r p.zs p.bl p.ca p.pa m.a m.b m.p) d1 d2 d3 d4 d5 d6 (by omega) (by omega) (by omega) (by omega) ?_ q7 q8 ?_ ?_ (by rw [q3, q4])
    ·exact q3 ▸ rfl
    ·rw [hz2, q3, q4]
    ·rw [hz3, q5, q6]
  rcases hs with h | h | h | h
  ·exact fin h (by decide) (by decide) (by decide) (by decide) (by decide) (by decide) (by decide) (by decide) (.inl rfl)
  ·exact fin h (by decide) (by decide) (by decide) (by decide) (by decide) (by decide) (by decide) (by decide) (.inr (.inl rfl))
  ·exact fin h (by decide) (by decide) (by decide) (by decide) (by decide) (by decide) (by decide) (by decide) (.inr (.inr (.inl rfl)))
  ·exact fin h (by decide) (by decide) (by decide) (by decide) (by decide) (by decide) (by decide) (by decide) (.inr (.inr (.inr rfl)))
end
theorem mk_p {p : Psn} {m : Mov} (h : mkE5 p m = 0) : mkP p m = ⟨p.f, p.r, zs3R p.f p.r p.zs p.bl p.ca p.pa m.a m.b m.p, !p.bl, caR p.ca m.a m.b, paR p.f p.zs m.a m.b, haR p.f p.zs p.pa p.ha m.a m.b, fuR p.bl p.fu⟩ ∧ mkU p m = ⟨m, capR p.f p.zs p.pa m.a m.b, at2R p.f p.zs p.pa m.a m.b, p.ca, p.pa, p.ha, p.fu⟩ := by
 constructor
 ·unfold mkP; rw [decide_eq_true h]; rfl
 ·unfold mkU; rw [decide_eq_true h]; rfl
theorem bk_mk {p : Psn} {m : Mov} (hl : p.zs.length ≤ 64) (hca : 0 ≤ p.ca) (h : mkE5 p m = 0) : bkP (mkP p m) (mkU p m) = p := by
 obtain ⟨e1, e2⟩ := mk_p h
 rw [e1, e2]
 unfold bkP
 dsimp only
 rw [(mk_mv hl hca h).1.back, Bool.not_not]
end Go.Ab

set_option maxRecDepth 100000
set_option maxHeartbeats 4000000
namespace Go.Ab
open Go.Proofs
variable {kCa kDb : Bool}
def refUnmake_s1 : Psn → Und → List Int → Int → Option (Int ⊕ Unit ⊕ Psn × Bool) := fun (p : Psn) (u : Und) (s9 : List Int) => let x42 := iL [1, 2, 4, 8]; let x46 := (List.take p.zs.length (List.drop 0 p.zs)).length; let x45 := List.take x46 (List.drop 0 s9); let x44 := x45.length; let x43 := Int.ofNat x44; fun (s12 : Int) => let x73 := parseR 8 8 (rowN (x42.getD s12.toNat 0) 0); let x74 := parseR 8 8 (rowN (x42.getD s12.toNat 0) 1); let x75 := parseR 8 8 (rowN (x42.getD s12.toNat 0) 2); let x76 := parseR 8 8 (rowN (x42.getD s12.toNat 0) 3); let x77 := IntKind.i64.wrap (s12 + 1); let x67 := decide (0 ≤ x76) && decide (x76 < x43); let x72 := x76.toNat; let x71 := (x45.set x75.toNat (x45.getD x72 0)).set x72 0; let x70 := List.take x44 (List.drop 0 x71); let x68 := Psn.mk p.f p.r x70 (!p.bl) u.ca u.pa u.ha u.fu; let x69 := x70.length; let x64 := rmU x68 (Mov.mk u.m.a u.m.b u.m.p); let x65 := rmE x68 (Mov.mk u.m.a u.m.b u.m.p); let x66 := rmP x68 (Mov.mk u.m.a u.m.b u.m.p); let x56 := x66.zs; let x57 := x64.pa; let x58 := x64.m; let x59 := x64.c; let x60 := x64.at_; let x61 := x64.fu; let x62 := x64.ca; let x63 := x64.ha; let x52 := List.take x56.length (List.drop 0 x56); let x53 := x58.a; let x54 := x58.p; let x55 := x58.b; let x50 := decide (x65 = 0) && (decide (x53 = u.m.a) && (decide (x55 = u.m.b) && decide (x54 = u.m.p)) && (decide (x59 = u.c) && (decide (x60 = u.at_) && (decide (x62 = u.ca) && (decide (x57 = u.pa) && (decide (x63 = u.ha) && decide (x61 = u.fu))))))); let x51 := x52.length; let x49 := !x50; let x48 := x49 || x50; bif decide (s12 < Int.ofNat 4) then needO (decide (0 ≤ s12) && decide (s12 < Int.ofNat 4)) (bif !decide (p.f = 8) || !decide (p.r = 8) || !decide (u.m.a = x73) || !decide (u.m.b = x74) then some (Sum.inl x77) else needO (decide (x46 = x44) && decide (x44 ≤ 64)) (needO x67 (needO (decide (0 ≤ x75) && decide (x75 < x43)) (needO x67 (needO (decide (x69 ≤ 64)) (needO x48 (needO x48 (needO (x49 || decide (x51 ≤ 64) && decide ((List.take p.zs.length (List.drop 0 p.zs)).length ≤ 64)) (needO x48 (bif x50 && equalB (Psn.mk x66.f x66.r x52 x66.bl x66.ca x66.pa x66.ha x66.fu) (Psn.mk p.f p.r (List.take p.zs.length (List.drop 0 p.zs)) p.bl p.ca p.pa p.ha p.fu) then escO (escO (some (Psn.mk p.f p.r x71 (!p.bl) u.ca u.pa u.ha u.fu, true))) else some (Sum.inl x77))))))))))) else some (Sum.inr (Sum.inl ()))
def refUnmake (p : Psn) (u : Und) : Option (Psn × Bool) := let x84 := List.take p.zs.length (List.drop 0 p.zs); let x81 := x84.set u.m.b.toNat 0; let x83 := x84.length; let x82 := Int.ofNat x83; let x79 := decide (0 ≤ u.m.b) && decide (u.m.b < x82); let x80 := decide (0 ≤ u.at_) && decide (u.at_ < x82); needO (decide (x83 ≤ 64)) (needO x79 (joinO (bif !decide (u.m.p = 0) then joinO (bif !p.bl then some (Sum.inl (-1)) else some (Sum.inl 1)) fun (s5 : Int) => some (Sum.inl s5) else some (Sum.inl (x84.getD u.m.b.toNat 0))) fun (s7 : Int) => needO x79 (needO (decide (0 ≤ u.m.a) && decide (u.m.a < x82)) (joinO (bif x80 then needO x80 (some (Sum.inl ((x81.set u.m.a.toNat s7).set u.at_.toNat u.c))) else some (Sum.inl (x81.set u.m.a.toNat s7))) fun (s9 : List Int) => let x107 := Psn.mk p.f p.r (List.take x83 (List.drop 0 s9)) (!p.bl) u.ca u.pa u.ha u.fu; let x104 := rmP x107 (Mov.mk u.m.a u.m.b u.m.p); let x105 := rmU x107 (Mov.mk u.m.a u.m.b u.m.p); let x106 := rmE x107 (Mov.mk u.m.a u.m.b u.m.p); let x96 := x105.c; let x97 := x105.pa; let x98 := x105.fu; let x99 := x105.ha; let x100 := x105.m; let x101 := x105.at_; let x102 := x105.ca; let x103 := x104.zs; let x92 := List.take x103.length (List.drop 0 x103); let x93 := x100.b; let x94 := x100.p; let x95 := x100.a; let x90 := decide (x106 = 0) && (decide (x95 = u.m.a) && (decide (x93 = u.m.b) && decide (x94 = u.m.p)) && (decide (x96 = u.c) && (decide (x101 = u.at_) && (decide (x102 = u.ca) && (decide (x97 = u.pa) && (decide (x99 = u.ha) && decide (x98 = u.fu))))))); let x91 := x92.length; let x89 := !x90; let x88 := x89 || x90; needO (decide (x83 = (List.take x83 (List.drop 0 s9)).length) && decide ((List.take x83 (List.drop 0 s9)).length ≤ 64)) (needO x88 (needO x88 (needO (x89 || decide (x91 ≤ 64) && decide ((List.take p.zs.length (List.drop 0 p.zs)).length ≤ 64)) (needO x88 (bif x90 && equalB (Psn.mk x104.f x104.r x92 x104.bl x104.ca x104.pa x104.ha x104.fu) (Psn.mk p.f p.r (List.take p.zs.length (List.drop 0 p.zs)) p.bl p.ca p.pa p.ha p.fu) then needO (decide (x83 = s9.length)) (some (Psn.mk p.f p.r s9 (!p.bl) u.ca u.pa u.ha u.fu, true)) else loopO (refUnmake_s1 p u s9) (fun (s17 : Unit) => some (Psn.mk 0 0 [] false 0 0 0 0, false)) 1000000 0)))))))))
def refUnmake_V (R : Psn × Bool) : V := .tup [.agg [.int .i64 R.1.f, .int .i64 R.1.r, .sl 1 0 R.1.zs.length none, Bb R.1.bl, .int .u8 R.1.ca, .int .i64 R.1.pa, .int .i64 R.1.ha, .int .i64 R.1.fu], Bb R.2]
def refUnmake_N (R : Psn × Bool) : List O := [.ints true .i8 R.1.zs]
def c_refUnmake : CF
 | [.agg [.int .i64 p_0, .int .i64 p_1, .sl 0 0 p_2n none, .bool p_3, .int .u8 p_4, .int .i64 p_5, .int .i64 p_6, .int .i64 p_7], .agg [.int .i64 u_0, .int .i64 u_1, .int .i8 u_2, .int .i8 u_3, .int .i64 u_4, .int .u8 u_5, .int .i64 u_6, .int .i64 u_7, .int .i64 u_8]], [.ints false .i8 p_2] => retC (decide (p_2n = p_2.length)) (refUnmake ⟨p_0, p_1, p_2, p_3, p_4, p_5, p_6, p_7⟩ ⟨⟨u_0, u_1, u_2⟩, u_3, u_4, u_5, u_6, u_7, u_8⟩) (⟨0, 0, [], false, 0, 0, 0, 0⟩, false) refUnmake_V refUnmake_N
 | _, _ => none
theorem refUnmake_snd (p : Psn) (u : Und) {r} (hr : refUnmake p u = some r) : FnSound (GGx kCa kDb) PP 38 [.agg [.int .i64 p.f, .int .i64 p.r, .sl 0 0 p.zs.length none, Bb p.bl, .int .u8 p.ca, .int .i64 p.pa, .int .i64 p.ha, .int .i64 p.fu], .agg [.int .i64 u.m.a, .int .i64 u.m.b, .int .i8 u.m.p, .int .i8 u.c, .int .i64 u.at_, .int .u8 u.ca, .int .i64 u.pa, .int .i64 u.ha, .int .i64 u.fu]] [.ints false .i8 p.zs] (refUnmake_V r) (refUnmake_N r) := by
 have hE := cutE (EE_ok (kCa := kCa) (kDb := kDb) (cts := [(14, c_rcopy), (16, c_rmake), (17, c_requal), (82, c_rrow), (83, c_rsquare)]) (inl := []) ⟨c_rcopy_ok, c_rmake_ok, c_requal_ok, c_rrow_ok, c_rsquare_ok, trivial⟩ trivial)
 refine so_fn hE 2 Tryz.func38 rfl rfl refUnmake_V refUnmake_N hr ?_ rfl rfl
 refine so_as (pl (decide_eq_true (win_len rfl)) id) ?_
 refine so_triv rfl ?_
 refine so_need ?_
 refine so_join hE 2 (let x109 := [V.int IntKind.u8 u.ca, V.int IntKind.i64 u.pa, V.int IntKind.i64 u.ha, V.int IntKind.i64 u.fu]; let x110 := List.take p.zs.length (List.drop 0 p.zs); fun (s7 : Int) => ([(2, V.ptr 1 0 0), (3, V.ptr 2 0 0), (4, V.ptr 3 0 0), (5, V.bool false), (6, V.ptr 4 0 0), (7, V.ptr 5 0 0), (8, V.int IntKind.i8 s7)], [O.ints false IntKind.i8 p.zs, O.cells true [V.int IntKind.i64 p.f, V.int IntKind.i64 p.r, V.sl 0 0 p.zs.length none, V.bool p.bl, V.int IntKind.u8 p.ca, V.int IntKind.i64 p.pa, V.int IntKind.i64 p.ha, V.int IntKind.i64 p.fu], O.cells true (V.int IntKind.i64 u.m.a :: V.int IntKind.i64 u.m.b :: V.int IntKind.i8 u.m.p :: V.int IntKind.i8 u.c :: V.int IntKind.i64 u.at_ :: x109), O.cells true [V.int IntKind.i64 0, V.int IntKind.i64 0, V.nils, V.bool false, V.int IntKind.u8 0, V.int IntKind.i64 0, V.int IntKind.i64 0, V.int IntKind.i64 0], O.cells true (V.int IntKind.i64 p.f :: V.int IntKind.i64 p.r :: V.sl 6 0 x110.length none :: (V.bool !p.bl) :: x109), O.cells true [V.int IntKind.i64 u.m.a, V.int IntKind.i64 u.m.b, V.int IntKind.i8 u.m.p], O.ints true IntKind.i8 x110])) rfl ?_ ?_ (fun s7 => ?_)
 ·refine so_join hE 2 (let x112 := [V.int IntKind.u8 u.ca, V.int IntKind.i64 u.pa, V.int IntKind.i64 u.ha, V.int IntKind.i64 u.fu]; let x113 := List.take p.zs.length (List.drop 0 p.zs); fun (s5 : Int) => ([(2, V.ptr 1 0 0), (3, V.ptr 2 0 0), (4, V.ptr 3 0 0), (5, V.bool false), (6, V.ptr 4 0 0), (7, V.ptr 5 0 0), (8, V.int IntKind.i8 s5)], [O.ints false IntKind.i8 p.zs, O.cells true [V.int IntKind.i64 p.f, V.int IntKind.i64 p.r, V.sl 0 0 p.zs.length none, V.bool p.bl, V.int IntKind.u8 p.ca, V.int IntKind.i64 p.pa, V.int IntKind.i64 p.ha, V.int IntKind.i64 p.fu], O.cells true (V.int IntKind.i64 u.m.a :: V.int IntKind.i64 u.m.b :: V.int IntKind.i8 u.m.p :: V.int IntKind.i8 u.c :: V.int IntKind.i64 u.at_ :: x112), O.cells true [V.int IntKind.i64 0, V.int IntKind.i64 0, V.nils, V.bool false, V.int IntKind.u8 0, V.int IntKind.i64 0, V.int IntKind.i64 0, V.int IntKind.i64 0], O.cells true (V.int IntKind.i64 p.f :: V.int IntKind.i64 p.r :: V.sl 6 0 x113.length none :: (V.bool !p.bl) :: x112), O.cells true [V.int IntKind.i64 u.m.a, V.int IntKind.i64 u.m.b, V.int IntKind.i8 u.m.p], O.ints true IntKind.i8 x113])) rfl ?_ ?_ (fun s5 => ?_)
  ·exact so_nrm ((Ent.rn [0, 1, 2, 3, 5, 6, 4] [2, 3, 4, 5, 6, 7, 8] rfl rfl rfl rfl rfl))
  ·exact so_nrm ((Ent.rn [0, 1, 2, 3, 5, 6, 4] [2, 3, 4, 5, 6, 7, 8] rfl rfl rfl rfl rfl))
  exact so_nrm ((Ent.rn [0, 1, 2, 3, 4, 5, 6] [2, 3, 4, 5, 6, 7, 8] rfl rfl rfl rfl rfl))
 ·exact so_nrm ((Ent.rn [0, 1, 2, 3, 5, 6, 4] [2, 3, 4, 5, 6, 7, 8] rfl rfl rfl rfl rfl))
 refine so_need ?_
 refine so_need ?_
 refine so_triv (Bool.not_or_self _) ?_
 refine so_triv (Bool.not_or_self _) ?_
 refine so_triv (Bool.not_or_self _) ?_
 refine so_triv (Bool.not_or_self _) ?_
 refine so_triv (Bool.not_or_self _) ?_
 refine so_triv (Bool.not_or_self _) ?_
 refine so_join hE 2 (let x115 := [V.int IntKind.u8 u.ca, V.int IntKind.i64 u.pa, V.int IntKind.i64 u.ha, V.int IntKind.i64 u.fu]; fun (s9 : List Int) => ([(2, V.ptr 1 0 0), (3, V.ptr 2 0 0), (4, V.ptr 3 0 0), (5, V.bool false), (6, V.ptr 4 0 0), (7, V.ptr 5 0 0)], [O.ints false IntKind.i8 p.zs, O.cells true [V.int IntKind.i64 p.f, V.int IntKind.i64 p.r, V.sl 0 0 p.zs.length none, V.bool p.bl, V.int IntKind.u8 p.ca, V.int IntKind.i64 p.pa, V.int IntKind.i64 p.ha, V.int IntKind.i64 p.fu], O.cells true (V.int IntKind.i64 u.m.a :: V.int IntKind.i64 u.m.b :: V.int IntKind.i8 u.m.p :: V.int IntKind.i8 u.c :: V.int IntKind.i64 u.at_ :: x115), O.cells true [V.int IntKind.i64 0, V.int IntKind.i64 0, V.nils, V.bool false, V.int IntKind.u8 0, V.int IntKind.i64 0, V.int IntKind.i64 0, V.int IntKind.i64 0], O.cells true (V.int IntKind.i64 p.f :: V.int IntKind.i64 p.r :: V.sl 6 0 (List.take p.zs.length (List.drop 0 p.zs)).length none :: (V.bool !p.bl) :: x115), O.cells true [V.int IntKind.i64 u.m.a, V.int IntKind.i64 u.m.b, V.int IntKind.i8 u.m.p], O.ints true IntKind.i8 s9])) rfl ?_ ?_ (fun s9 => ?_)
 ·refine so_need ?_
  exact so_nrm ((Ent.rn [0, 1, 2, 3, 4, 5, 6] [2, 3, 4, 5, 6, 7] rfl rfl rfl rfl rfl))
 ·exact so_nrm ((Ent.rn [0, 1, 2, 3, 4, 5, 6] [2, 3, 4, 5, 6, 7] rfl rfl rfl rfl rfl))
 refine so_need ?_
 refine so_triv (Bool.not_or_self _) ?_
 refine so_triv (Bool.not_or_self _) ?_
 refine so_triv (Bool.not_or_self _) ?_
 refine so_need ?_
 refine so_need ?_
 refine so_as (pi (pb (pr (pl (decide_eq_true (win_len rfl)) id) (decide_eq_true (win_len rfl))) id)) ?_
 refine so_need ?_
 refine so_split hE 2 rfl ?_ ?_
 ·refine so_if (fun h0 => ?_)
  exact so_ret (fin_bs [6] (.inr rfl) rfl rfl rfl rfl (by have qh0 := of_decide_eq_true h0; simp_all [refUnmake_V]))
 refine so_loop hE 2 (let x117 := [V.int IntKind.u8 u.ca, V.int IntKind.i64 u.pa, V.int IntKind.i64 u.ha, V.int IntKind.i64 u.fu]; fun (s12 : Int) => ([(2, V.ptr 1 0 0), (3, V.ptr 2 0 0), (4, V.ptr 3 0 0), (5, V.bool false), (6, V.ptr 4 0 0), (7, V.ptr 5 0 0), (99, V.sl 6 0 4 none), (100, V.int IntKind.i64 (Int.ofNat 4)), (101, V.int IntKind.i64 s12)], [O.ints false IntKind.i8 p.zs, O.cells true [V.int IntKind.i64 p.f, V.int IntKind.i64 p.r, V.sl 0 0 p.zs.length none, V.bool p.bl, V.int IntKind.u8 p.ca, V.int IntKind.i64 p.pa, V.int IntKind.i64 p.ha, V.int IntKind.i64 p.fu], O.cells true (V.int IntKind.i64 u.m.a :: V.int IntKind.i64 u.m.b :: V.int IntKind.i8 u.m.p :: V.int IntKind.i8 u.c :: V.int IntKind.i64 u.at_ :: x117), O.cells true [V.int IntKind.i64 0, V.int IntKind.i64 0, V.nils, V.bool false, V.int IntKind.u8 0, V.int IntKind.i64 0, V.int IntKind.i64 0, V.int IntKind.i64 0], O.cells true (V.int IntKind.i64 p.f :: V.int IntKind.i64 p.r :: V.sl 7 0 (List.take p.zs.length (List.drop 0 p.zs)).length none :: (V.bool !p.bl) :: x117), O.cells true [V.int IntKind.i64 u.m.a, V.int IntKind.i64 u.m.b, V.int IntKind.i8 u.m.p], O.ints true IntKind.u8 (iL [1, 2, 4, 8]), O.ints true IntKind.i8 s9])) (fun (s17 : Unit) => ([(4, V.ptr 1 0 0), (5, V.bool false)], [O.ints false IntKind.i8 p.zs, O.cells true [V.int IntKind.i64 0, V.int IntKind.i64 0, V.nils, V.bool false, V.int IntKind.u8 0, V.int IntKind.i64 0, V.int IntKind.i64 0, V.int IntKind.i64 0]])) (.exit 0) ((Ent.rn [0, 1, 2, 3, 4, 5, 10, 6] [2, 3, 4, 5, 6, 7, 99, 100, 101] rfl rfl rfl rfl rfl)) (fun s12 => ?_) (fun s17 => ?_)
 ·refine so_split hE 2 rfl ?_ ?_
  ·refine so_need ?_
   refine so_triv rfl ?_
   refine so_triv rfl ?_
   refine so_triv (Bool.not_or_self _) ?_
   refine so_triv (Bool.not_or_self _) ?_
   refine so_triv (Bool.not_or_self _) ?_
   refine so_triv (Bool.or_not_self _) ?_
   refine so_triv (Bool.not_or_self _) ?_
   refine so_triv (Bool.not_or_self _) ?_
   refine so_triv (pg rfl) ?_
   refine so_triv (Bool.not_or_self _) ?_
   refine so_triv (Bool.not_or_self _) ?_
   refine so_triv (pg rfl) ?_
   refine so_triv (Bool.not_or_self _) ?_
   refine so_triv (Bool.not_or_self _) ?_
   refine so_triv (Bool.or_not_self _) ?_
   refine so_triv (Bool.not_or_self _) ?_
   refine so_triv (Bool.not_or_self _) ?_
   refine so_triv (pg rfl) ?_
   refine so_triv (Bool.not_or_self _) ?_
   refine so_triv (Bool.not_or_self _) ?_
   refine so_triv (pg rfl) ?_
   refine so_triv (Bool.not_or_self _) ?_
   refine so_triv (Bool.not_or_self _) ?_
   refine so_triv (Bool.or_not_self _) ?_
   refine so_split hE 2 rfl ?_ ?_
   ·exact so_next ((Ent.rn [0, 1, 2, 3, 4, 5, 6, 7] [2, 3, 4, 5, 6, 7, 99, 100, 101] rfl rfl rfl rfl rfl))
   refine so_need ?_
   refine so_triv rfl ?_
   refine so_triv rfl ?_
   refine so_triv rfl ?_
   refine so_triv rfl ?_
   refine so_triv rfl ?_
   refine so_need ?_
   refine so_need ?_
   refine so_triv rfl ?_
   refine so_triv rfl ?_
   refine so_triv rfl ?_
   refine so_need ?_
   refine so_as (pl (decide_eq_true (win_len (by simp only [List.length_set]))) id) ?_
   refine so_triv (Bool.not_or_self _) ?_
   refine so_triv (Bool.not_or_self _) ?_
   refine so_triv (Bool.not_or_self _) ?_
   refine so_need ?_
   refine so_need ?_
   refine so_as (pi (pb (pr (pl (decide_eq_true (win_len rfl)) id) (decide_eq_true (win_len rfl))) id)) ?_
   refine so_need ?_
   refine so_split hE 2 rfl ?_ ?_
   ·refine so_out (by simp) (so_out1 ?_)
    exact so_ret (fin_bs [9] (.inr rfl) rfl rfl rfl rfl (by simp [refUnmake_V]))
   exact so_next ((Ent.rn [0, 1, 2, 3, 4, 5, 6, 7] [2, 3, 4, 5, 6, 7, 99, 100, 101] rfl rfl rfl rfl rfl))
  exact so_exit ((Ent.rn [0, 3] [4, 5] rfl rfl rfl rfl rfl))
 exact so_ret (fin_phC 1 2 (.ints true .i8 []) rfl rfl rfl rfl <| fin_bs [2] (.inr rfl) rfl rfl rfl rfl rfl)
theorem c_refUnmake_ok : CtOk (GGx kCa kDb) PP (38, c_refUnmake) := by
 refine ct_mk Tryz.func38 (by kernel_rfl) rfl fun a0 h0 c0 v0 N0 e hc => ?_
 unfold c_refUnmake at e
 split at e
 ·rename_i p_0 p_1 p_2n p_3 p_4 p_5 p_6 p_7 u_0 u_1 u_2 u_3 u_4 u_5 u_6 u_7 u_8 p_2
  obtain ⟨hl, r, hr, rfl, rfl⟩ := ret_ok e hc
  simp only [Bool.and_eq_true, decide_eq_true_eq] at hl
  obtain rfl := hl
  exact refUnmake_snd ⟨p_0, p_1, p_2, p_3, p_4, p_5, p_6, p_7⟩ ⟨⟨u_0, u_1, u_2⟩, u_3, u_4, u_5, u_6, u_7, u_8⟩ hr
 ·cases e
end Go.Ab

set_option maxRecDepth 100000
namespace Go.Ab
open Go.Proofs
def cndP (p : Psn) (u : Und) (zs : List Int) : Psn := ⟨p.f, p.r, zs, !p.bl, u.ca, u.pa, u.ha, u.fu⟩
def tstB (p : Psn) (u : Und) (zs : List Int) : Bool := (decide (mkE5 (cndP p u zs) u.m = 0) && undB (mkU (cndP p u zs) u.m) u) && equalB (mkP (cndP p u zs) u.m) p
def ru0 (zs : List Int) (bl : Bool) (u : Und) : List Int := bif decide (0 ≤ u.at_) && decide (u.at_ < zs.length) then (bkB zs bl u.m.a u.m.b u.m.p).set u.at_.toNat u.c else bkB zs bl u.m.a u.m.b u.m.p
def ruC (zs : List Int) (cor cro : Int) : List Int := (zs.set cor.toNat (zs.getD cro.toNat 0)).set cro.toNat 0
theorem undB_eq {u v : Und} (h : undB u v = true) : u = v := by
 simp only [undB, Bool.and_eq_true, decide_eq_true_eq] at h
 obtain ⟨⟨h1, h2, h3⟩, h4, h5, h6, h7, h8, h9⟩ := h
 rcases u with ⟨⟨a, b, c⟩, d, e, f, g, i, j⟩
 rcases v with ⟨⟨a', b', c'⟩, d', e', f', g', i', j'⟩
 dsimp only at h1 h2 h3 h4 h5 h6 h7 h8 h9
 subst h1 h2 h3 h4 h5 h6 h7 h8 h9; rfl
theorem undB_self (u : Und) : undB u u = true := by simp [undB]
theorem equalB_eq {p q : Psn} (h : equalB p q = true) : p = q := by
 simp only [equalB, sameB, Bool.and_eq_true, decide_eq_true_eq, beq_iff_eq] at h
 obtain ⟨⟨⟨⟨⟨⟨⟨h1, h2⟩, h3⟩, h4⟩, h5⟩, h6⟩, h7⟩, h8⟩ := h
 rcases p with ⟨a, b, c, d, e, f, g, i⟩
 rcases q with ⟨a', b', c', d', e', f', g', i'⟩
 dsimp only at h1 h2 h3 h4 h5 h6 h7 h8
 subst h1 h2 h3 h4 h5 h6 h7 h8; rfl
theorem tst_eq {p : Psn} {u : Und} {zs : List Int} (h : tstB p u zs = true) : mkE5 (cndP p u zs) u.m = 0 ∧ mkU (cndP p u zs) u.m = u ∧ mkP (cndP p u zs) u.m = p := by
 unfold tstB at h
 simp only [Bool.and_eq_true, decide_eq_true_eq] at h
 exact ⟨h.1.1, undB_eq h.1.2, equalB_eq h.2⟩
theorem tst_bk {p : Psn} {u : Und} {zs : List Int} (hl : zs.length ≤ 64) (hca : 0 ≤ u.ca) (h : tstB p u zs = true) : cndP p u zs = bkP p u := by
 obtain ⟨h1, h2, h3⟩ := tst_eq h
 have := bk_mk (p := cndP p u zs) (m := u.m) hl hca h1
 rw [h2, h3] at this
 exact this.symm
theorem cnd_zs {p : Psn} {u : Und} {zs zs' : List Int} (h : cndP p u zs = cndP p u zs') : zs = zs' := congrArg Psn.zs h
theorem bk_cnd (p : Psn) (u : Und) : bkP p u = cndP p u (bkZ p.f p.r p.zs p.bl u) := rfl
theorem bk_in {p : Psn} {u : Und} (hl : p.zs.length ≤ 64) (hca : 0 ≤ u.ca) (h : tstB p u (bkZ p.f p.r p.zs p.bl u) = true) :
  bkZ p.f p.r p.zs p.bl u = ru0 p.zs p.bl u ∨ ∃ (k to cor cro : Int), ((k, to, cor, cro) = (4, 6, 7, 5) ∨ (k, to, cor, cro) = (4, 2, 0, 3) ∨ (k, to, cor, cro) = (60, 62, 63, 61) ∨ (k, to, cor, cro) = (60, 58, 56, 59)) ∧ p.f = 8 ∧ p.r = 8 ∧ u.m.a = k ∧ u.m.b = to ∧ bkZ p.f p.r p.zs p.bl u = ruC (ru0 p.zs p.bl u) cor cro := by
 obtain ⟨h1, h2, h3⟩ := tst_eq h
 rcases bk0_ways (f := p.f) (r := p.r) (zs := p.zs) (bl := p.bl) (uca := u.ca) (a := u.m.a) (b := u.m.b) (pr := u.m.p) with ⟨_, _, _, _, he⟩ | ⟨bit, c, k, to, cor, cro, hrow, hC, he⟩
 ·left; unfold bkZ ru0; rw [he]
 ·right
  have hlen : (bkZ p.f p.r p.zs p.bl u).length ≤ 64 := by rw [bkZ_len]; exact hl
  obtain ⟨o, _, _⟩ := mk_mv (p := cndP p u (bkZ p.f p.r p.zs p.bl u)) (m := u.m) hlen hca h1
  obtain ⟨_, e2⟩ := mk_p h1
  rw [h2] at e2
  obtain ⟨g1, g2, g3, g4, g5, _⟩ := bkC_iff.1 hC
  have hat : u.at_ = at2R p.f (bkZ p.f p.r p.zs p.bl u) u.pa u.m.a u.m.b := congrArg Und.at_ e2
  have hcp : u.c = capR p.f (bkZ p.f p.r p.zs p.bl u) u.pa u.m.a u.m.b := congrArg Und.c e2
  obtain ⟨⟨sa0, sa1⟩, ⟨sb0, sb1⟩⟩ := o.sq
  replace sa0 : 0 ≤ u.m.a := sa0
  replace sb0 : 0 ≤ u.m.b := sb0
  replace sa1 : u.m.a < (bkZ p.f p.r p.zs p.bl u).length := sa1
  replace sb1 : u.m.b < (bkZ p.f p.r p.zs p.bl u).length := sb1
  rw [bkZ_len] at sa1 sb1
  have dist : k.toNat ≠ cor.toNat ∧ k.toNat ≠ cro.toNat := by
   rcases hrow with e | e | e | e <;> cases e <;> decide
  have hna : 0 ≤ u.at_ → u.at_ ≠ u.m.a := fun h0 => by
   rw [hat] at h0 ⊢
   exact (o.cap.2.1 h0).2.2.1
  -- the king stands on its square
  have hown : (bkZ p.f p.r p.zs p.bl u).getD u.m.a.toNat 0 = ownB p.zs p.bl u.m.b u.m.p := by
   have hb0 : (bk0 p.f p.r p.zs p.bl u.ca u.m.a u.m.b u.m.p).getD u.m.a.toNat 0 = ownB p.zs p.bl u.m.b u.m.p := by
    rw [he, getD_set2, getD_set2, ← g4, if_neg (fun h => dist.2 h.1), if_neg (fun h => dist.1 h.1)]
    unfold bkB
    rw [getD_set2, g4, if_pos ⟨rfl, by rw [List.length_set]; omega⟩]
   unfold bkZ
   cases hi : decide (0 ≤ u.at_) && decide (u.at_ < p.zs.length) with
   | false => exact hb0
   | true =>
    simp only [Bool.and_eq_true, decide_eq_true_eq] at hi
    rw [cond_true, getD_set2, if_neg]
    ·exact hb0
    ·rintro ⟨h, _⟩
     have := hna hi.1
     omega
  have hn : wayN (bkZ p.f p.r p.zs p.bl u) (!p.bl) u.ca u.m.a u.m.b ≠ 4 := by
   intro hn
   have hw := way4 hn (by rw [hown]; exact g1)
   have hs := sk_iff.2 (⟨g3, g2, g4, g5⟩ : c = (!p.bl) ∧ u8and u.ca bit ≠ 0 ∧ k = u.m.a ∧ to = u.m.b)
   rcases hrow with e | e | e | e <;> cases e
   ·rw [hw.1] at hs; cases hs
   ·rw [hw.2.1] at hs; cases hs
   ·rw [hw.2.2.1] at hs; cases hs
   ·rw [hw.2.2.2] at hs; cases hs
  obtain ⟨q1, q2, q3, q4, _, _, hs⟩ := o.cast4 hn
  have hbz : (bkZ p.f p.r p.zs p.bl u).getD u.m.b.toNat 0 = 0 := by
   rcases hs with ⟨_, _, _, e1, _, _, _, e2⟩ | ⟨_, _, _, e1, _, _, _, e2⟩ | ⟨_, _, _, e1, _, _, _, e2⟩ | ⟨_, _, _, e1, _, _, _, e2⟩ <;> rw [e1] <;> exact e2
  have hm1 : u.at_ = -1 := by rw [hat]; exact o.at_cast q4 hbz
  have hi : (decide (0 ≤ u.at_) && decide (u.at_ < p.zs.length)) = false := by rw [hm1]; rfl
  refine ⟨k, to, cor, cro, ?_, q1, q2, g4.symm, g5.symm, ?_⟩
  ·rcases hrow with e | e | e | e <;> cases e
   ·exact .inl rfl
   ·exact .inr (.inl rfl)
   ·exact .inr (.inr (.inl rfl))
   ·exact .inr (.inr (.inr rfl))
  ·unfold bkZ ru0 ruC
   rw [hi, cond_false, cond_false, he]
def ruF : Unit → Option (Psn × Bool) := fun _ => some (⟨0, 0, [], false, 0, 0, 0, 0⟩, false)
def ruT (p : Psn) (u : Und) (s9 : List Int) : Option (Psn × Bool) := let x84 := List.take p.zs.length (List.drop 0 p.zs); let x83 := x84.length; let x107 := Psn.mk p.f p.r (List.take x83 (List.drop 0 s9)) (!p.bl) u.ca u.pa u.ha u.fu; let x104 := rmP x107 (Mov.mk u.m.a u.m.b u.m.p); let x105 := rmU x107 (Mov.mk u.m.a u.m.b u.m.p); let x106 := rmE x107 (Mov.mk u.m.a u.m.b u.m.p); let x96 := x105.c; let x97 := x105.pa; let x98 := x105.fu; let x99 := x105.ha; let x100 := x105.m; let x101 := x105.at_; let x102 := x105.ca; let x103 := x104.zs; let x92 := List.take x103.length (List.drop 0 x103); let x93 := x100.b; let x94 := x100.p; let x95 := x100.a; let x90 := decide (x106 = 0) && (decide (x95 = u.m.a) && (decide (x93 = u.m.b) && decide (x94 = u.m.p)) && (decide (x96 = u.c) && (decide (x101 = u.at_) && (decide (x102 = u.ca) && (decide (x97 = u.pa) && (decide (x99 = u.ha) && decide (x98 = u.fu))))))); let x91 := x92.length; let x89 := !x90; let x88 := x89 || x90; needO (decide (x83 = (List.take x83 (List.drop 0 s9)).length) && decide ((List.take x83 (List.drop 0 s9)).length ≤ 64)) (needO x88 (needO x88 (needO (x89 || decide (x91 ≤ 64) && decide ((List.take p.zs.length (List.drop 0 p.zs)).length ≤ 64)) (needO x88 (bif x90 && equalB (Psn.mk x104.f x104.r x92 x104.bl x104.ca x104.pa x104.ha x104.fu) (Psn.mk p.f p.r (List.take p.zs.length (List.drop 0 p.zs)) p.bl p.ca p.pa p.ha p.fu) then needO (decide (x83 = s9.length)) (some (Psn.mk p.f p.r s9 (!p.bl) u.ca u.pa u.ha u.fu, true)) else loopO (refUnmake_s1 p u s9) (fun (_s17 : Unit) => some (Psn.mk 0 0 [] false 0 0 0 0, false)) 1000000 0)))))
theorem ru_own {p : Psn} {u : Und} (hb : 0 ≤ u.m.b ∧ u.m.b < p.zs.length) (ha : 0 ≤ u.m.a ∧ u.m.a < p.zs.length) (hl : p.zs.length ≤ 64) : refUnmake p u = ruT p u (ru0 p.zs p.bl u) := by
 have h1 : decide (p.zs.length ≤ 64) = true := by simpa using hl
 have h2 : (decide (0 ≤ u.m.b) && decide (u.m.b < Int.ofNat p.zs.length)) = true := by simp [hb]
 have h3 : (decide (0 ≤ u.m.a) && decide (u.m.a < Int.ofNat p.zs.length)) = true := by simp [ha]
 unfold refUnmake ru0 bkB ownB ruT
 simp only [List.drop_zero, List.take_length, h1, h2, h3, needO_true]
 have h4 : (decide (u.at_ < Int.ofNat p.zs.length)) = decide (u.at_ < (p.zs.length : Int)) := rfl
 rw [h4, show w8 (0 - 1) = -1 by decide]
 cases decide (u.m.p = 0) <;> cases p.bl <;> cases (decide (0 ≤ u.at_) && decide (u.at_ < (p.zs.length : Int))) <;> rfl
section
variable {p : Psn} {u : Und} {s9 : List Int}
theorem ru_t (hl : p.zs.length ≤ 64) (hs : s9.length = p.zs.length) (hca : 0 ≤ u.ca) : ruT p u s9 = bif tstB p u s9 then some (cndP p u s9, true) else loopO (refUnmake_s1 p u s9) ruF 1000000 0 := by
 obtain ⟨e1, e2, e3⟩ := make_eq (p := cndP p u s9) (m := u.m) (by rw [← hs] at hl; exact hl) hca
 have ht : s9.take p.zs.length = s9 := by rw [← hs, List.take_length]
 have h1 : decide (p.zs.length ≤ 64) = true := by simpa using hl
 have h2 : decide (s9.length ≤ 64) = true := by rw [hs]; exact h1
 have h3 : decide ((mkP (cndP p u s9) u.m).zs.length ≤ 64) = true := by have := mkP_len (p := cndP p u s9) (m := u.m) (by rw [← hs] at hl; exact hl); simpa using this
 have hm : (⟨u.m.a, u.m.b, u.m.p⟩ : Mov) = u.m := rfl
 have hc : (⟨p.f, p.r, s9, !p.bl, u.ca, u.pa, u.ha, u.fu⟩ : Psn) = cndP p u s9 := rfl
 have hq : ∀ q : Psn, (⟨q.f, q.r, q.zs, q.bl, q.ca, q.pa, q.ha, q.fu⟩ : Psn) = q := fun _ => rfl
 have hd : decide (p.zs.length = s9.length) = true := by simpa using hs.symm
 unfold ruT
 simp only [List.drop_zero, List.take_length, ht, hm, hc, e1, e2, e3, hq, h1, h2, h3, hd, needO_true, Bool.and_self, Bool.or_true, Bool.not_or_self]
 rfl
theorem ru_step (hl : p.zs.length ≤ 64) (hs : s9.length = p.zs.length) (hca : 0 ≤ u.ca) (hbd : validBd p.f p.r p.zs = true) {i bit k to cor cro : Int} (hi0 : 0 ≤ i) (hi : i < 4) (hb : (iL [1, 2, 4, 8]).getD i.toNat 0 = bit) (q0 : sqW bit 0 = k) (q1 : sqW bit 1 = to) (q2 : sqW bit 2 = cor) (q3 : sqW bit 3 = cro) (c0 : 0 ≤ cor) (c1 : cor < 64) (d0 : 0 ≤ cro) (d1 : cro < 64) :
  refUnmake_s1 p u s9 i = bif !(!decide (p.f = 8) || !decide (p.r = 8) || !decide (u.m.a = k) || !decide (u.m.b = to)) && tstB p u (ruC s9 cor cro) then some (.inr (.inr (cndP p u (ruC s9 cor cro), true))) else some (.inl (i + 1)) := by
 have ht : s9.take p.zs.length = s9 := by rw [← hs, List.take_length]
 unfold sqW at q0 q1 q2 q3
 have hw : IntKind.i64.wrap (i + 1) = i + 1 := w64_id (by omega) (by omega)
 have h4 : decide (i < Int.ofNat 4) = true := by simp; omega
 have h5 : decide (0 ≤ i) = true := by simpa using hi0
 unfold refUnmake_s1
 simp only [List.drop_zero, List.take_length, ht, hb, q0, q1, q2, q3, hw, h4, h5, needO_true, Bool.and_self, cond_true]
 cases hr : (!decide (p.f = 8) || !decide (p.r = 8) || !decide (u.m.a = k) || !decide (u.m.b = to)) with
 | true => rfl
 | false =>
  have hr' := hr
  simp only [Bool.or_eq_false_iff, Bool.not_eq_false', decide_eq_true_eq] at hr'
  have h64 : p.zs.length = 64 := by
   have := hbd; rw [hr'.1.1.1, hr'.1.1.2] at this
   exact bd_88 this rfl
  have hlc : (ruC s9 cor cro).length = s9.length := by unfold ruC; simp
  obtain ⟨e1, e2, e3⟩ := make_eq (p := cndP p u (ruC s9 cor cro)) (m := u.m) (by show (ruC s9 cor cro).length ≤ 64; omega) hca
  have h1 : decide (p.zs.length ≤ 64) = true := by simpa using hl
  have hd : decide (p.zs.length = s9.length) = true := by simpa using hs.symm
  have h2 : decide (s9.length ≤ 64) = true := by rw [hs]; exact h1
  have h3 : decide ((mkP (cndP p u (ruC s9 cor cro)) u.m).zs.length ≤ 64) = true := by
   have := mkP_len (p := cndP p u (ruC s9 cor cro)) (m := u.m) (by show (ruC s9 cor cro).length ≤ 64; omega)
   simpa using this
  have h6 : (decide (0 ≤ cor) && decide (cor < Int.ofNat s9.length)) = true := by simp; omega
  have h7 : (decide (0 ≤ cro) && decide (cro < Int.ofNat s9.length)) = true := by simp; omega
  have hz : (s9.set cor.toNat (s9.getD cro.toNat 0)).set cro.toNat 0 = ruC s9 cor cro := rfl
  have htc : (ruC s9 cor cro).take s9.length = ruC s9 cor cro := by rw [← hlc, List.take_length]
  have h8 : decide ((ruC s9 cor cro).length ≤ 64) = true := by rw [hlc]; exact h2
  have hm : (⟨u.m.a, u.m.b, u.m.p⟩ : Mov) = u.m := rfl
  have hc : (⟨p.f, p.r, ruC s9 cor cro, !p.bl, u.ca, u.pa, u.ha, u.fu⟩ : Psn) = cndP p u (ruC s9 cor cro) := rfl
  have hq : ∀ q : Psn, (⟨q.f, q.r, q.zs, q.bl, q.ca, q.pa, q.ha, q.fu⟩ : Psn) = q := fun _ => rfl
  simp only [cond_false, Bool.not_false, Bool.true_and, hd, h2, h6, h7, hz, htc, h8, hm, hc, e1, e2, e3, hq, h1, h3, needO_true, Bool.and_self, Bool.or_true, Bool.not_or_self]
  cases hx : tstB p u (ruC s9 cor cro) with
  | true =>
   unfold tstB at hx
   exact (congrArg (fun b => bif b then _ else _) hx).trans rfl
  | false =>
   unfold tstB at hx
   exact (congrArg (fun b => bif b then _ else _) hx).trans rfl
theorem ru_last : refUnmake_s1 p u s9 (0 + 1 + 1 + 1 + 1) = some (.inr (.inl ())) := by
 unfold refUnmake_s1
 rfl
theorem ru_go (hl : p.zs.length ≤ 64) (hs : s9.length = p.zs.length) (hca : 0 ≤ u.ca) {k to cor cro i : Int} {n : Nat} {r : Option (Psn × Bool)}
  (h : refUnmake_s1 p u s9 i = bif !(!decide (p.f = 8) || !decide (p.r = 8) || !decide (u.m.a = k) || !decide (u.m.b = to)) && tstB p u (ruC s9 cor cro) then some (.inr (.inr (cndP p u (ruC s9 cor cro), true))) else some (.inl (i + 1)))
  (hy : tstB p u (bkZ p.f p.r p.zs p.bl u) = true → r = some (bkP p u, true)) (hn : ¬ ((p.f = 8 ∧ p.r = 8 ∧ u.m.a = k ∧ u.m.b = to) ∧ tstB p u (ruC s9 cor cro) = true) → loopO (refUnmake_s1 p u s9) ruF n (i + 1) = r) : loopO (refUnmake_s1 p u s9) ruF (n + 1) i = r := by
 cases hc : (!(!decide (p.f = 8) || !decide (p.r = 8) || !decide (u.m.a = k) || !decide (u.m.b = to)) && tstB p u (ruC s9 cor cro)) with
 | true =>
  rw [hc, cond_true] at h
  rw [loopO_ret h]
  simp only [Bool.and_eq_true] at hc
  have hb := tst_bk (by unfold ruC; simp only [List.length_set]; omega) hca hc.2
  rw [hb]
  refine (hy ?_).symm
  have : ruC s9 cor cro = bkZ p.f p.r p.zs p.bl u := cnd_zs (hb.trans (bk_cnd p u))
  rw [← this]; exact hc.2
 | false =>
  rw [hc, cond_false] at h
  rw [loopO_next h]
  refine hn ?_
  rintro ⟨⟨h1, h2, h3, h4⟩, h5⟩
  rw [decide_eq_true h1, decide_eq_true h2, decide_eq_true h3, decide_eq_true h4, h5] at hc
  cases hc
end
theorem refUnmake_eq {p : Psn} {u : Und} (hl : p.zs.length ≤ 64) (hca : 0 ≤ u.ca) (hok : p.ok = true) (hmv : mvB p.f p.r u.m.a u.m.b u.m.p = true) :
  refUnmake p u = some (bif tstB p u (bkZ p.f p.r p.zs p.bl u) then (bkP p u, true) else (⟨0, 0, [], false, 0, 0, 0, 0⟩, false)) := by
 have hbd : validBd p.f p.r p.zs = true := (ok_bd hok).1
 obtain ⟨hva, hvb⟩ := mv_ab hmv
 rw [ru_own ((bd_sq hbd).1 hvb) ((bd_sq hbd).1 hva) hl]
 have hs : (ru0 p.zs p.bl u).length = p.zs.length := by
  unfold ru0 bkB; cases (decide (0 ≤ u.at_) && decide (u.at_ < (p.zs.length : Int))) <;> simp
 rw [ru_t hl hs hca]
 have hy : tstB p u (bkZ p.f p.r p.zs p.bl u) = true → some (bif tstB p u (bkZ p.f p.r p.zs p.bl u) then (bkP p u, true) else (⟨0, 0, [], false, 0, 0, 0, 0⟩, false)) = some (bkP p u, true) := fun h => by rw [h]; rfl
 cases h0 : tstB p u (ru0 p.zs p.bl u) with
 | true =>
  have hb := tst_bk (by omega) hca h0
  rw [cond_true, hb]
  refine (hy ?_).symm
  rw [← cnd_zs (hb.trans (bk_cnd p u))]; exact h0
 | false =>
  rw [cond_false]
  obtain ⟨q1, q2, q3, q4, q5, q6, q7, q8⟩ := sqs
  obtain ⟨p1, p2, p3, p4, p5, p6, p7, p8⟩ := sq01
  refine ru_go hl hs hca (ru_step hl hs hca hbd (i := 0) (by decide) (by decide) rfl p1 p2 q1 q2 (by decide) (by decide) (by decide) (by decide)) hy fun n1 => ?_
  refine ru_go hl hs hca (ru_step hl hs hca hbd (i := 0 + 1) (by decide) (by decide) rfl p3 p4 q3 q4 (by decide) (by decide) (by decide) (by decide)) hy fun n2 => ?_
  refine ru_go hl hs hca (ru_step hl hs hca hbd (i := 0 + 1 + 1) (by decide) (by decide) rfl p5 p6 q5 q6 (by decide) (by decide) (by decide) (by decide)) hy fun n3 => ?_
  refine ru_go hl hs hca (ru_step hl hs hca hbd (i := 0 + 1 + 1 + 1) (by decide) (by decide) rfl p7 p8 q7 q8 (by decide) (by decide) (by decide) (by decide)) hy fun n4 => ?_
  refine (loopO_exit (n := 999995) (x := ()) ru_last).trans ?_
  cases h : tstB p u (bkZ p.f p.r p.zs p.bl u) with
  | false => rfl
  | true =>
   exfalso
   rcases bk_in hl hca h with he | ⟨k, to, cor, cro, hrow, e1, e2, e3, e4, he⟩
   ·rw [he, h0] at h; cases h
   ·rw [he] at h
    rcases hrow with e | e | e | e <;> cases e
    ·exact n1 ⟨⟨e1, e2, e3, e4⟩, h⟩
    ·exact n2 ⟨⟨e1, e2, e3, e4⟩, h⟩
    ·exact n3 ⟨⟨e1, e2, e3, e4⟩, h⟩
    ·exact n4 ⟨⟨e1, e2, e3, e4⟩, h⟩
theorem um_eq {p : Psn} {u : Und} (hok : p.ok = true) (hmv : mvB p.f p.r u.m.a u.m.b u.m.p = true) : umE p u = (bif tstB p u (bkZ p.f p.r p.zs p.bl u) then 0 else 10) ∧ umP p u = (bif tstB p u (bkZ p.f p.r p.zs p.bl u) then bkP p u else ⟨0, 0, [], false, 0, 0, 0, 0⟩) := by
 have h : umE p u = (bif tstB p u (bkZ p.f p.r p.zs p.bl u) then 0 else 10) := by
  unfold umE
  rw [hok, hmv]
  show (bif !decide (mkE5 (cndP p u (bkZ p.f p.r p.zs p.bl u)) u.m = 0) || !undB (mkU (cndP p u (bkZ p.f p.r p.zs p.bl u)) u.m) u || !equalB (mkP (cndP p u (bkZ p.f p.r p.zs p.bl u)) u.m) p then (10 : Int) else 0) = _
  unfold tstB
  cases decide (mkE5 (cndP p u (bkZ p.f p.r p.zs p.bl u)) u.m = 0) <;> cases undB (mkU (cndP p u (bkZ p.f p.r p.zs p.bl u)) u.m) u <;> cases equalB (mkP (cndP p u (bkZ p.f p.r p.zs p.bl u)) u.m) p <;> rfl
 refine ⟨h, ?_⟩
 unfold umP
 rw [h]
 cases tstB p u (bkZ p.f p.r p.zs p.bl u) <;> rfl
end Go.Ab

set_option maxRecDepth 100000
namespace Go.Ab
open Go.Proofs
theorem keep_all : ∀ ca : _root_.Fin 16, ∀ a1 a2 a3 a4 b1 b2 b3 b4 : Bool,
  (u8and (u8andn (ca.val : Int) (u8or (fR4 a1 a2 a3 a4) (fR4 b1 b2 b3 b4))) 1 ≠ 0 → u8and (ca.val : Int) 1 ≠ 0 ∧ a1 = false ∧ b1 = false) ∧
  (u8and (u8andn (ca.val : Int) (u8or (fR4 a1 a2 a3 a4) (fR4 b1 b2 b3 b4))) 2 ≠ 0 → u8and (ca.val : Int) 2 ≠ 0 ∧ a2 = false ∧ b2 = false) ∧
  (u8and (u8andn (ca.val : Int) (u8or (fR4 a1 a2 a3 a4) (fR4 b1 b2 b3 b4))) 4 ≠ 0 → u8and (ca.val : Int) 4 ≠ 0 ∧ a3 = false ∧ b3 = false) ∧
  (u8and (u8andn (ca.val : Int) (u8or (fR4 a1 a2 a3 a4) (fR4 b1 b2 b3 b4))) 8 ≠ 0 → u8and (ca.val : Int) 8 ≠ 0 ∧ a4 = false ∧ b4 = false) ∧
  u8andn (ca.val : Int) (u8or (fR4 a1 a2 a3 a4) (fR4 b1 b2 b3 b4)) < 16 := by decide +kernel
theorem keep_ca {ca a b : Int} (h : 0 ≤ ca ∧ ca ≤ 15) :
  (u8and (caR ca a b) 1 ≠ 0 → u8and ca 1 ≠ 0 ∧ (4 ≠ a ∧ 7 ≠ a) ∧ 4 ≠ b ∧ 7 ≠ b) ∧ (u8and (caR ca a b) 2 ≠ 0 → u8and ca 2 ≠ 0 ∧ (4 ≠ a ∧ 0 ≠ a) ∧ 4 ≠ b ∧ 0 ≠ b) ∧
  (u8and (caR ca a b) 4 ≠ 0 → u8and ca 4 ≠ 0 ∧ (60 ≠ a ∧ 63 ≠ a) ∧ 60 ≠ b ∧ 63 ≠ b) ∧ (u8and (caR ca a b) 8 ≠ 0 → u8and ca 8 ≠ 0 ∧ (60 ≠ a ∧ 56 ≠ a) ∧ 60 ≠ b ∧ 56 ≠ b) ∧ caR ca a b < 16 := by
 have hl : ∀ at_, lostR at_ = fR4 (decide (4 = at_) || decide (7 = at_)) (decide (4 = at_) || decide (0 = at_)) (decide (60 = at_) || decide (63 = at_)) (decide (60 = at_) || decide (56 = at_)) := fun at_ => rfl
 have := keep_all ⟨ca.toNat, by omega⟩ (decide (4 = a) || decide (7 = a)) (decide (4 = a) || decide (0 = a)) (decide (60 = a) || decide (63 = a)) (decide (60 = a) || decide (56 = a)) (decide (4 = b) || decide (7 = b)) (decide (4 = b) || decide (0 = b)) (decide (60 = b) || decide (63 = b)) (decide (60 = b) || decide (56 = b))
 unfold caR
 rw [hl, hl]
 dsimp only at this
 rw [show ((ca.toNat : Nat) : Int) = ca by omega] at this
 simp only [Bool.or_eq_false_iff, decide_eq_false_iff_not] at this
 exact this
section
variable {p : Psn} {m : Mov}
theorem MvOk.kO (o : MvOk p m) : ∃ K : Nat, K < p.zs.length ∧ p.zs.getD K 0 = kgP (!p.bl) ∧ (∀ i : Nat, i < p.zs.length → p.zs.getD i 0 = kgP (!p.bl) → i = K) ∧ attR p.f p.r p.zs K p.bl = 0 := by
 have hk := o.kings
 simp only [kingsB, Bool.and_eq_true, decide_eq_true_eq] at hk
 obtain ⟨⟨_, h2⟩, h3⟩ := hk
 unfold checkersR at h2 h3
 cases hc : decide ((kingR p.f p.r p.zs (!p.bl)).2 = 0) with
 | false =>
  rw [hc, cond_false] at h2
  exact absurd h2 (of_decide_eq_false hc)
 | true =>
  rw [hc, cond_true, Bool.not_not] at h3
  obtain ⟨K, k1, k2, k3, k4⟩ := king_uniq o.h o.hl (of_decide_eq_true hc)
  rcases king_iff (bl := !p.bl) o.h o.hl with ⟨h5, _⟩ | ⟨h5, _, _⟩
  ·omega
  ·rw [h5, k3] at h3
   exact ⟨K, k1, k2, k4, h3⟩
theorem MvOk.attacks (o : MvOk p m) (hz : p.zs.getD m.b.toNat 0 ≠ 0) : m.a ∈ attL p.f p.r p.zs m.b p.bl := by
 obtain ⟨⟨sa0, sa1⟩, ⟨sb0, sb1⟩⟩ := o.sq
 refine mem_attL.2 ⟨sa0, sa1, o.hp, ?_⟩
 unfold attB4
 cases hk : decide (kind8 (p.zs.getD m.a.toNat 0) = 1) with
 | true =>
  rw [cond_true]
  have hneg : decide (p.zs.getD m.a.toNat 0 < 0) = p.bl := by
   have hp := o.hp
   unfold isP at hp
   cases hb : p.bl <;> rw [hb] at hp <;> simp only [Bool.and_true, Bool.not_true, Bool.and_false, Bool.or_false, Bool.not_false, Bool.false_or, decide_eq_true_eq] at hp
   ·simp only [decide_eq_false_iff_not]; omega
   ·simp only [decide_eq_true_eq]; exact hp
  rw [hneg, has_mem, mem_filtB]
  have hlt := valid_lt o.hb
  refine ⟨hlt.1, by omega, ?_⟩
  rcases (o.steps (of_decide_eq_true hk)).1 with h | h
  ·exfalso
   obtain ⟨hou, hob⟩ := occ_bt o.bd o.hl
   have hocc : hasB (occR p.f p.r p.zs) m.b = true := by
    rw [has_bt' hou o.hb, hob, decide_eq_true (show m.b.toNat < p.zs.length by omega), decide_eq_false hz]; rfl
   simp only [stepsB, Bool.or_eq_true, Bool.and_eq_true, decide_eq_true_eq, Bool.not_eq_true'] at h
   rcases h with ⟨h1, h2⟩ | ⟨⟨⟨⟨h1, _⟩, _⟩, _⟩, h2⟩ <;> rw [← h1, hocc] at h2 <;> cases h2
  ·exact h.1
 | false =>
  rw [cond_false, decide_eq_false o.hab, Bool.not_false, Bool.true_and]
  have hn : wayN p.zs p.bl p.ca m.a m.b = 4 := by
   refine Decidable.byContradiction fun hn => hz ?_
   obtain ⟨_, _, _, _, _, _, hs⟩ := o.cast4 hn
   rcases hs with ⟨_, _, _, e1, _, _, _, e2⟩ | ⟨_, _, _, e1, _, _, _, e2⟩ | ⟨_, _, _, e1, _, _, _, e2⟩ | ⟨_, _, _, e1, _, _, _, e2⟩ <;> rw [e1] <;> exact e2
  have hso := o.so
  have hw : wayB p.f p.r p.zs 4 = false := rfl
  simp only [err3, hn, hw, Bool.not_false, Bool.true_or, Bool.and_true, Bool.or_eq_false_iff, Bool.not_eq_false'] at hso
  have hg := hso.2
  rw [goes_eq (_ca := p.ca) o.h o.hl o.ha o.hb o.hp, hk, cond_false, Bool.and_eq_true] at hg
  exact hg.2
theorem MvOk.noking (o : MvOk p m) (h : 0 ≤ at2R p.f p.zs p.pa m.a m.b) : p.zs.getD (at2R p.f p.zs p.pa m.a m.b).toNat 0 ≠ kgP (!p.bl) := by
 obtain ⟨c1, c2, c3, c4⟩ := o.cap.2.1 h
 intro hkg
 cases he : epB p.zs p.pa m.a m.b with
 | true =>
  simp only [epB, Bool.and_eq_true, decide_eq_true_eq] at he
  rw [o.kd] at he
  obtain ⟨e1, _, e3, _⟩ := o.ep he.1 he.2
  rw [c4, e1, e3] at hkg
  revert hkg; cases p.bl <;> decide
 | false =>
  have h1 : at2R p.f p.zs p.pa m.a m.b = m.b := by rw [c4]; unfold at1R; rw [he]; rfl
  rw [h1] at hkg
  obtain ⟨K, k1, k2, k3, k4⟩ := o.kO
  obtain ⟨⟨sa0, sa1⟩, ⟨sb0, sb1⟩⟩ := o.sq
  have hK := k3 m.b.toNat (by omega) hkg
  have ha := o.attacks (by rw [hkg]; cases p.bl <;> decide)
  have hb := (attR_bt (bl := p.bl) o.h o.hl o.hb).2 m.a.toNat
  rw [show ((m.a.toNat : Nat) : Int) = m.a by omega, decide_eq_true ha, show m.b = ((K : Nat) : Int) by omega, k4, bt_0] at hb
  cases hb
theorem MvOk.zn (o : MvOk p m) (hn : wayN p.zs p.bl p.ca m.a m.b = 4) : ∀ i : Nat, i < p.zs.length → (zs3R p.f p.r p.zs p.bl p.ca p.pa m.a m.b m.p).getD i 0 = if i = m.b.toNat then (bif decide (m.p = 0) then p.zs.getD m.a.toNat 0 else bif p.bl then w8 (0 - m.p) else m.p) else if i = m.a.toNat then 0 else (zs1R p.f p.zs p.pa m.a m.b).getD i 0 := by
 intro i hi
 have hcs : cstR p.f p.r p.zs p.bl p.ca p.pa m.a m.b m.p = false := by unfold cstR; rw [hn]; rfl
 have hl2 := zs2_len (f := p.f) (zs := p.zs) (pa := p.pa) (a := m.a) (b := m.b)
 have hz := o.z2.2 i hi
 obtain ⟨_, ⟨sb0, sb1⟩⟩ := o.sq
 unfold zs3R putR
 rw [hcs]
 cases decide (m.p = 0) <;> cases p.bl <;> simp only [Bool.not_true, Bool.not_false, Bool.and_self, Bool.and_false, Bool.false_and, cond_true, cond_false] <;> first
  | exact hz
  | (rw [getD_set2, hl2, hz]
     by_cases e : i = m.b.toNat
     ·rw [if_pos ⟨e, by omega⟩, if_pos e]
     ·rw [if_neg (fun h => e h.1), if_neg e, if_neg e])
theorem MvOk.zc (o : MvOk p m) (hn : wayN p.zs p.bl p.ca m.a m.b ≠ 4) : ∃ (k to cor cro : Nat), (p.bl = false ∧ ((k, to, cor, cro) = (4, 6, 7, 5) ∨ (k, to, cor, cro) = (4, 2, 0, 3)) ∨ p.bl = true ∧ ((k, to, cor, cro) = (60, 62, 63, 61) ∨ (k, to, cor, cro) = (60, 58, 56, 59))) ∧ m.a = k ∧ m.b = to ∧ p.zs.getD cor 0 = ofP 4 p.bl ∧ p.zs.getD cro 0 = 0 ∧ p.zs.getD to 0 = 0 ∧
  ∀ i : Nat, i < p.zs.length → (zs3R p.f p.r p.zs p.bl p.ca p.pa m.a m.b m.p).getD i 0 = if i = cor then 0 else if i = cro then p.zs.getD cor 0 else if i = to then p.zs.getD k 0 else if i = k then 0 else p.zs.getD i 0 := by
 obtain ⟨hf, hr, h64, hk, hp0, hcs, hs⟩ := o.cast4 hn
 have hbz : p.zs.getD m.b.toNat 0 = 0 := by
  rcases hs with ⟨_, _, _, e1, _, _, _, e2⟩ | ⟨_, _, _, e1, _, _, _, e2⟩ | ⟨_, _, _, e1, _, _, _, e2⟩ | ⟨_, _, _, e1, _, _, _, e2⟩ <;> rw [e1] <;> exact e2
 have hat := o.at_cast hk hbz
 have hz1 : zs1R p.f p.zs p.pa m.a m.b = p.zs := by unfold zs1R; rw [hat]; rfl
 have hz3 : zs3R p.f p.r p.zs p.bl p.ca p.pa m.a m.b m.p = ((zs2R p.f p.zs p.pa m.a m.b).set (wCro (wayN p.zs p.bl p.ca m.a m.b)).toNat ((zs2R p.f p.zs p.pa m.a m.b).getD (wCor (wayN p.zs p.bl p.ca m.a m.b)).toNat 0)).set (wCor (wayN p.zs p.bl p.ca m.a m.b)).toNat 0 := by
  unfold zs3R putR
  rw [hcs, hp0]; rfl
 have hl2 := zs2_len (f := p.f) (zs := p.zs) (pa := p.pa) (a := m.a) (b := m.b)
 have hcast := o.cast
 simp only [castB, Bool.and_eq_true, Bool.not_eq_true', decide_eq_true_eq] at hcast
 obtain ⟨⟨⟨⟨c1, c2⟩, c3⟩, c4⟩, _⟩ := hcast
 have fin : ∀ {c : Bool} {bit : Int} {k to cor cro : Nat}, CastIs p m c bit k to cor cro → cor ≠ k → cor ≠ to → cor < 64 → cro < 64 → k < 64 → to < 64 → ∀ i : Nat, i < p.zs.length → (zs3R p.f p.r p.zs p.bl p.ca p.pa m.a m.b m.p).getD i 0 = if i = cor then 0 else if i = cro then p.zs.getD cor 0 else if i = to then p.zs.getD k 0 else if i = k then 0 else p.zs.getD i 0 := by
  intro c bit k to cor cro ⟨_, _, q3, q4, q5, q6, _, _⟩ d1 d2 l1 l2 l3 l4 i hi
  have hz2 : ∀ i : Nat, i < p.zs.length → (zs2R p.f p.zs p.pa m.a m.b).getD i 0 = if i = to then p.zs.getD k 0 else if i = k then 0 else p.zs.getD i 0 := fun i hi => by
   have := o.z2.2 i hi
   rw [hz1] at this
   rw [this, q3, q4, Int.toNat_natCast, Int.toNat_natCast]
  rw [hz3, q5, q6, Int.toNat_natCast, Int.toNat_natCast, getD_set2, List.length_set, hl2]
  by_cases e : i = cor
  ·rw [if_pos ⟨e, by omega⟩, if_pos e]
  ·rw [if_neg (fun h => e h.1), if_neg e, getD_set2, hl2]
   by_cases e2 : i = cro
   ·rw [if_pos ⟨e2, by omega⟩, if_pos e2, hz2 cor (by omega), if_neg d2, if_neg d1]
   ·rw [if_neg (fun h => e2 h.1), if_neg e2, hz2 i hi]
 rcases hs with h | h | h | h
 ·have ⟨q1, q2, q3, q4, q5, q6, q7, q8⟩ := h
  exact ⟨4, 6, 7, 5, .inl ⟨q1, .inl rfl⟩, q3, q4, by rw [q1]; exact (right_88 c1 q2).2.2.2, q7, q8, fin (k := 4) (to := 6) (cor := 7) (cro := 5) h (by decide) (by decide) (by decide) (by decide) (by decide) (by decide)⟩
 ·have ⟨q1, q2, q3, q4, q5, q6, q7, q8⟩ := h
  exact ⟨4, 2, 0, 3, .inl ⟨q1, .inr rfl⟩, q3, q4, by rw [q1]; exact (right_88 c2 q2).2.2.2, q7, q8, fin (k := 4) (to := 2) (cor := 0) (cro := 3) h (by decide) (by decide) (by decide) (by decide) (by decide) (by decide)⟩
 ·have ⟨q1, q2, q3, q4, q5, q6, q7, q8⟩ := h
  exact ⟨60, 62, 63, 61, .inr ⟨q1, .inl rfl⟩, q3, q4, by rw [q1]; exact (right_88 c3 q2).2.2.2, q7, q8, fin (k := 60) (to := 62) (cor := 63) (cro := 61) h (by decide) (by decide) (by decide) (by decide) (by decide) (by decide)⟩
 ·have ⟨q1, q2, q3, q4, q5, q6, q7, q8⟩ := h
  exact ⟨60, 58, 56, 59, .inr ⟨q1, .inr rfl⟩, q3, q4, by rw [q1]; exact (right_88 c4 q2).2.2.2, q7, q8, fin (k := 60) (to := 58) (cor := 56) (cro := 59) h (by decide) (by decide) (by decide) (by decide) (by decide) (by decide)⟩
theorem own_not {n : Int} {bl : Bool} (h : isP n bl = true) : n ≠ kgP (!bl) := by
 intro e
 rw [e] at h
 revert h; cases bl <;> decide
theorem MvOk.z1i (o : MvOk p m) (i : Nat) : (0 ≤ at2R p.f p.zs p.pa m.a m.b ∧ i = (at2R p.f p.zs p.pa m.a m.b).toNat ∧ (zs1R p.f p.zs p.pa m.a m.b).getD i 0 = 0) ∨ (zs1R p.f p.zs p.pa m.a m.b).getD i 0 = p.zs.getD i 0 := by
 unfold zs1R
 cases hc : decide (0 ≤ at2R p.f p.zs p.pa m.a m.b) with
 | false => exact .inr rfl
 | true =>
  obtain ⟨c1, _⟩ := o.cap.2.1 (of_decide_eq_true hc)
  have c0 := of_decide_eq_true hc
  rw [cond_true, getD_set2]
  by_cases e : i = (at2R p.f p.zs p.pa m.a m.b).toNat
  ·rw [if_pos ⟨e, by omega⟩]; exact .inl ⟨c0, e, rfl⟩
  ·rw [if_neg (fun h => e h.1)]; exact .inr rfl
theorem MvOk.put (o : MvOk p m) (hp : m.p ≠ 0) : kind8 (p.zs.getD m.a.toNat 0) = 1 ∧ (2 ≤ m.p ∧ m.p ≤ 5) ∧ ((bif p.bl then w8 (0 - m.p) else m.p) = m.p ∨ (bif p.bl then w8 (0 - m.p) else m.p) = -m.p) := by
 have hpr : 2 ≤ m.p ∧ m.p ≤ 5 := o.hpr.resolve_left hp
 refine ⟨?_, hpr, ?_⟩
 ·by_cases h : kind8 (p.zs.getD m.a.toNat 0) = 1
  ·exact h
  ·exact absurd (o.pr0 h) hp
 ·cases p.bl
  ·exact .inl rfl
  ·right; rw [cond_true, w8_in (by omega) (by omega)]; omega
theorem MvOk.king2 (o : MvOk p m) : (kingR p.f p.r (zs3R p.f p.r p.zs p.bl p.ca p.pa m.a m.b m.p) (!p.bl)).2 = 0 := by
 obtain ⟨⟨sa0, sa1⟩, ⟨sb0, sb1⟩⟩ := o.sq
 obtain ⟨K, k1, k2, k3, _⟩ := o.kO
 have hlen := zs3_len (f := p.f) (r := p.r) (zs := p.zs) (bl := p.bl) (ca := p.ca) (pa := p.pa) (a := m.a) (b := m.b) (pr := m.p)
 have kz : (0 : Int) ≠ kgP (!p.bl) := by cases p.bl <;> decide
 have hKa : K ≠ m.a.toNat := fun e => own_not o.hp (by rw [← e]; exact k2)
 refine (king_one (K := K) o.z3.1 (by rw [hlen]; exact o.hl) (by rw [hlen]; exact k1) ?_ fun i hi he => ?_).1
 ·by_cases hn : wayN p.zs p.bl p.ca m.a m.b = 4
  ·have hKb : K ≠ m.b.toNat := by
    intro e
    have hz : p.zs.getD m.b.toNat 0 ≠ 0 := by rw [← e, k2]; exact kz.symm
    have h0 : 0 ≤ at2R p.f p.zs p.pa m.a m.b := by
     refine Decidable.byContradiction fun h => hz ?_
     exact (o.cap.2.2.1 (by omega)).2.2
    obtain ⟨_, _, _, c4⟩ := o.cap.2.1 h0
    have hnk := o.noking h0
    cases hep : epB p.zs p.pa m.a m.b with
    | true =>
     simp only [epB, Bool.and_eq_true, decide_eq_true_eq] at hep
     rw [o.kd] at hep
     exact hz (o.ep hep.1 hep.2).2.2.2.2.1
    | false =>
     have h1 : at2R p.f p.zs p.pa m.a m.b = m.b := by rw [c4]; unfold at1R; rw [hep]; rfl
     rw [h1, ← e] at hnk
     exact hnk k2
   rw [o.zn hn K k1, if_neg hKb, if_neg hKa]
   rcases o.z1i K with ⟨h0, e, _⟩ | h
   ·exact absurd (by rw [← e]; exact k2) (o.noking h0)
   ·rw [h, k2]
  ·obtain ⟨k, to, cor, cro, _, e1, e2, e3, e4, e5, hz⟩ := o.zc hn
   have d1 : K ≠ cor := fun e => by rw [e, e3] at k2; revert k2; cases p.bl <;> decide
   have d2 : K ≠ cro := fun e => by rw [e, e4] at k2; exact kz k2
   have d3 : K ≠ to := fun e => by rw [e, e5] at k2; exact kz k2
   rw [hz K k1, if_neg d1, if_neg d2, if_neg d3, if_neg (by omega), k2]
 ·rw [hlen] at hi
  by_cases hn : wayN p.zs p.bl p.ca m.a m.b = 4
  ·rw [o.zn hn i hi] at he
   by_cases eb : i = m.b.toNat
   ·exfalso
    rw [if_pos eb] at he
    cases hp : decide (m.p = 0) with
    | true => rw [hp, cond_true] at he; exact own_not o.hp he
    | false =>
     rw [hp, cond_false] at he
     obtain ⟨_, h2, h3⟩ := o.put (of_decide_eq_false hp)
     have : kgP (!p.bl) = 6 ∨ kgP (!p.bl) = -6 := by cases p.bl <;> simp [kgP]
     omega
   ·rw [if_neg eb] at he
    by_cases ea : i = m.a.toNat
    ·rw [if_pos ea] at he; exact absurd he kz
    ·rw [if_neg ea] at he
     rcases o.z1i i with ⟨_, _, h⟩ | h
     ·rw [h] at he; exact absurd he kz
     ·rw [h] at he; exact k3 i hi he
  ·obtain ⟨k, to, cor, cro, _, e1, e2, e3, e4, e5, hz⟩ := o.zc hn
   rw [hz i hi] at he
   by_cases d1 : i = cor
   ·rw [if_pos d1] at he; exact absurd he kz
   rw [if_neg d1] at he
   by_cases d2 : i = cro
   ·exfalso; rw [if_pos d2, e3] at he; revert he; cases p.bl <;> decide
   rw [if_neg d2] at he
   by_cases d3 : i = to
   ·rw [if_pos d3] at he
    have := own_not o.hp
    rw [e1, Int.toNat_natCast] at this
    exact absurd he this
   rw [if_neg d3] at he
   by_cases d4 : i = k
   ·rw [if_pos d4] at he; exact absurd he kz
   rw [if_neg d4] at he
   exact k3 i hi he
theorem row_last {f r b : Int} {zs : List Int} (hbd : validBd f r zs = true) (hb : validB f r b = true) : (zs.length - f.toNat ≤ b.toNat ↔ py f b = r - 1) ∧ (b.toNat < f.toNat ↔ py f b = 0) := by
 obtain ⟨b0, b1, b2, b3, b4, b5, b6, b7, b8, b9⟩ := px_bd hb
 have hl := (bd_valid hbd).2
 have hlt := valid_lt hb
 have hfr : f * r = (r - 1) * f + f := by rw [Int.sub_mul, Int.mul_comm r f]; omega
 have h1 : (zs.length - f.toNat ≤ b.toNat) ↔ (r - 1) * f ≤ b := by omega
 have h2 : (b.toNat < f.toNat) ↔ b < f := by omega
 rw [h1, h2]
 constructor
 ·constructor
  ·intro h
   refine Decidable.byContradiction fun hne => ?_
   have : (py f b + 1) * f ≤ (r - 1) * f := Int.mul_le_mul_of_nonneg_right (by omega) (by omega)
   rw [Int.add_mul] at this
   omega
  ·intro h
   rw [← h]; omega
 ·constructor
  ·intro h
   refine Decidable.byContradiction fun hne => ?_
   have : 1 * f ≤ py f b * f := Int.mul_le_mul_of_nonneg_right (by omega) (by omega)
   omega
  ·intro h
   rw [h] at b5; omega
theorem MvOk.pawns2 (o : MvOk p m) : pawnsB p.f (zs3R p.f p.r p.zs p.bl p.ca p.pa m.a m.b m.p) = true := by
 obtain ⟨⟨sa0, sa1⟩, ⟨sb0, sb1⟩⟩ := o.sq
 have hlen := zs3_len (f := p.f) (r := p.r) (zs := p.zs) (bl := p.bl) (ca := p.ca) (pa := p.pa) (a := m.a) (b := m.b) (pr := m.p)
 have hok := o.ok
 simp only [Psn.ok, Bool.and_eq_true] at hok
 have hpw := hok.1.1.1.2
 simp only [pawnsB, Bool.and_eq_true, Bool.not_eq_true'] at hpw ⊢
 obtain ⟨w1, w2⟩ := row_last o.bd o.hb
 -- a pawn that stands after the move
 have key : ∀ (v : Int) (i : Nat), i < p.zs.length → (v = 1 ∨ v = -1) → (zs3R p.f p.r p.zs p.bl p.ca p.pa m.a m.b m.p).getD i 0 = v → p.zs.getD i 0 = v ∨ (i = m.b.toNat ∧ m.p = 0 ∧ p.zs.getD m.a.toNat 0 = v) := by
  intro v i hi hv he
  by_cases hn : wayN p.zs p.bl p.ca m.a m.b = 4
  ·rw [o.zn hn i hi] at he
   by_cases eb : i = m.b.toNat
   ·rw [if_pos eb] at he
    cases hp : decide (m.p = 0) with
    | true => rw [hp, cond_true] at he; exact .inr ⟨eb, of_decide_eq_true hp, he⟩
    | false =>
     rw [hp, cond_false] at he
     obtain ⟨_, h2, h3⟩ := o.put (of_decide_eq_false hp)
     omega
   ·rw [if_neg eb] at he
    by_cases ea : i = m.a.toNat
    ·rw [if_pos ea] at he; omega
    ·rw [if_neg ea] at he
     rcases o.z1i i with ⟨_, _, h⟩ | h
     ·omega
     ·rw [h] at he; exact .inl he
  ·obtain ⟨_, _, _, hk6, _⟩ := o.cast4 hn
   obtain ⟨k, to, cor, cro, _, e1, e2, e3, e4, e5, hz⟩ := o.zc hn
   rw [hz i hi] at he
   by_cases d1 : i = cor
   ·rw [if_pos d1] at he; omega
   rw [if_neg d1] at he
   by_cases d2 : i = cro
   ·exfalso
    rw [if_pos d2, e3] at he
    rcases hv with rfl | rfl <;> revert he <;> cases p.bl <;> decide
   rw [if_neg d2] at he
   by_cases d3 : i = to
   ·exfalso
    rw [if_pos d3] at he
    rw [e1, Int.toNat_natCast, he] at hk6
    rcases hv with rfl | rfl <;> revert hk6 <;> decide
   rw [if_neg d3] at he
   by_cases d4 : i = k
   ·rw [if_pos d4] at he; omega
   rw [if_neg d4] at he
   exact .inl he
 have lastW : lastR p.r false = p.r - 1 := w64_id (by have := (px_bd o.hb); omega) (by have := (px_bd o.hb); omega)
 have kd1 : ∀ v : Int, (v = 1 ∨ v = -1) → p.zs.getD m.a.toNat 0 = v → kind8 (p.zs.getD m.a.toNat 0) = 1 := by
  intro v hv h; rw [h]; rcases hv with rfl | rfl <;> decide
 constructor
 ·rw [Bool.eq_false_iff]
  intro h
  obtain ⟨i, h1, h2, h3⟩ := any_drop.1 h
  rw [hlen] at h1 h2
  simp only [isV, decide_eq_true_eq] at h3
  rcases key 1 i h2 (.inl rfl) h3.symm with h4 | ⟨rfl, h4, h5⟩
  ·have := hpw.1
   rw [Bool.eq_false_iff] at this
   exact this (any_drop.2 ⟨i, h1, h2, by simp only [isV, decide_eq_true_eq]; exact h4.symm⟩)
  ·have hbl : p.bl = false := by
    have hp := o.hp; rw [h5] at hp
    cases hb : p.bl with
    | false => rfl
    | true => rw [hb] at hp; revert hp; decide
   have hl := (o.steps (kd1 1 (.inl rfl) h5)).2
   rw [hbl, lastW] at hl
   exact hl.2 (w1.1 h1) h4
 ·rw [Bool.eq_false_iff]
  intro h
  obtain ⟨i, h1, h2, h3⟩ := any_take.1 h
  rw [hlen] at h2
  simp only [isV, decide_eq_true_eq] at h3
  rcases key (-1) i h2 (.inr rfl) h3.symm with h4 | ⟨rfl, h4, h5⟩
  ·have := hpw.2
   rw [Bool.eq_false_iff] at this
   exact this (any_take.2 ⟨i, h1, h2, by simp only [isV, decide_eq_true_eq]; exact h4.symm⟩)
  ·have hbl : p.bl = true := by
    have hp := o.hp; rw [h5] at hp
    cases hb : p.bl with
    | true => rfl
    | false => rw [hb] at hp; revert hp; decide
   have hl := (o.steps (kd1 (-1) (.inr rfl) h5)).2
   rw [hbl] at hl
   exact hl.2 (w2.1 h1) h4
theorem MvOk.cast2 (o : MvOk p m) : castB p.f p.r (zs3R p.f p.r p.zs p.bl p.ca p.pa m.a m.b m.p) (caR p.ca m.a m.b) = true := by
 obtain ⟨⟨sa0, sa1⟩, ⟨sb0, sb1⟩⟩ := o.sq
 obtain ⟨g1, g2, g3, g4, g5⟩ := keep_ca (a := m.a) (b := m.b) o.caB
 have hc := o.cast
 simp only [castB, Bool.and_eq_true, Bool.not_eq_true', decide_eq_true_eq] at hc ⊢
 obtain ⟨⟨⟨⟨c1, c2⟩, c3⟩, c4⟩, _⟩ := hc
 have key : ∀ {bit : Int} {k q : Nat} {c : Bool}, rtX p.f p.r p.zs p.ca bit k q c = false → ((c, k, q) = (false, 4, 7) ∨ (c, k, q) = (false, 4, 0) ∨ (c, k, q) = (true, 60, 63) ∨ (c, k, q) = (true, 60, 56)) → (u8and (caR p.ca m.a m.b) bit ≠ 0 → u8and p.ca bit ≠ 0 ∧ ((k : Int) ≠ m.a ∧ (q : Int) ≠ m.a) ∧ (k : Int) ≠ m.b ∧ (q : Int) ≠ m.b) → rtX p.f p.r (zs3R p.f p.r p.zs p.bl p.ca p.pa m.a m.b m.p) (caR p.ca m.a m.b) bit k q c = false := by
  intro bit k q c hr hrow hg
  unfold rtX
  cases hb : decide (u8and (caR p.ca m.a m.b) bit = 0) with
  | true => rfl
  | false =>
   obtain ⟨h1, ⟨h2, h3⟩, h4, h5⟩ := hg (of_decide_eq_false hb)
   obtain ⟨f8, r8, hk, hq⟩ := right_88 hr h1
   have h64 : p.zs.length = 64 := bd_88 o.bd (by rw [f8, r8]; rfl)
   have hlt : k < 64 ∧ q < 64 := by rcases hrow with e | e | e | e <;> cases e <;> decide
   have same : ∀ (i : Nat) (v : Int), i < 64 → (i : Int) ≠ m.a → (i : Int) ≠ m.b → (i = k ∨ i = q) → p.zs.getD i 0 = ofP v c → (v = 6 ∨ v = 4) → (zs3R p.f p.r p.zs p.bl p.ca p.pa m.a m.b m.p).getD i 0 = ofP v c := by
    intro i v hi ha hb' hik hz hv
    by_cases hn : wayN p.zs p.bl p.ca m.a m.b = 4
    ·rw [o.zn hn i (by omega), if_neg (by omega), if_neg (by omega)]
     rcases o.z1i i with ⟨h0, e, _⟩ | h
     ·exfalso
      obtain ⟨_, _, _, e4⟩ := o.cap.2.1 h0
      cases hep : epB p.zs p.pa m.a m.b with
      | true =>
       simp only [epB, Bool.and_eq_true, decide_eq_true_eq] at hep
       rw [o.kd] at hep
       obtain ⟨e1, _, e3, _⟩ := o.ep hep.1 hep.2
       rw [e4, e1] at e
       rw [e, e3] at hz
       rcases hv with rfl | rfl <;> revert hz <;> cases p.bl <;> cases c <;> decide
      | false =>
       have h1 : at2R p.f p.zs p.pa m.a m.b = m.b := by rw [e4]; unfold at1R; rw [hep]; rfl
       omega
     ·rw [h, hz]
    ·obtain ⟨k', to, cor, cro, hside, e1, e2, e3, e4, e5, hz3⟩ := o.zc hn
     have hd : i ≠ cor ∧ i ≠ cro ∧ i ≠ to ∧ i ≠ k' := by
      rcases hside with ⟨_, e | e⟩ | ⟨_, e | e⟩ <;> cases e <;> rcases hrow with e | e | e | e <;> cases e <;> omega
     rw [hz3 i (by omega), if_neg hd.1, if_neg hd.2.1, if_neg hd.2.2.1, if_neg hd.2.2.2, hz]
   rw [same k 6 hlt.1 h2 h4 (.inl rfl) hk (.inl rfl), same q 4 hlt.2 h3 h5 (.inr rfl) hq (.inr rfl), f8, r8]
   simp [is88]
 exact ⟨⟨⟨⟨key c1 (.inl rfl) g1, key c2 (.inr (.inl rfl)) g2⟩, key c3 (.inr (.inr (.inl rfl))) g3⟩, key c4 (.inr (.inr (.inr rfl))) g4⟩, g5⟩
theorem MvOk.pass2 (o : MvOk p m) : passB p.f p.r (zs3R p.f p.r p.zs p.bl p.ca p.pa m.a m.b m.p) (!p.bl) (paR p.f p.zs m.a m.b) (haR p.f p.zs p.pa p.ha m.a m.b) = true := by
 obtain ⟨⟨sa0, sa1⟩, ⟨sb0, sb1⟩⟩ := o.sq
 unfold passB
 cases ht : twoB p.f p.zs m.a m.b with
 | false => unfold paR; rw [ht]; rfl
 | true =>
  simp only [twoB, Bool.and_eq_true, Bool.or_eq_true, decide_eq_true_eq] at ht
  rw [o.kd] at ht
  obtain ⟨hk, ht⟩ := ht
  obtain ⟨a0, a1, a2, a3, a4, a5, a6, a7, a8, a9⟩ := px_bd o.ha
  obtain ⟨b0, b1, b2, b3, b4, b5, _⟩ := px_bd o.hb
  have hla := valid_lt o.ha
  have hlb := valid_lt o.hb
  rw [w64_id (n := m.b - m.a) (by omega) (by omega), w64_id (n := 2 * p.f) (by omega) (by omega), w64_id (n := -2 * p.f) (by omega) (by omega)] at ht
  have hfw : fwd p.bl = 1 ∨ fwd p.bl = -1 := by cases p.bl <;> simp [fwd]
  have hone : ∀ d : Int, py p.f m.b = py p.f m.a + d → py p.f m.b * p.f = py p.f m.a * p.f + d * p.f := fun d h => by rw [h, Int.add_mul]
  have hsteps := o.steps hk
  have hst : px p.f m.b = px p.f m.a ∧ py p.f m.b = py p.f m.a + 2 * fwd p.bl ∧ py p.f m.a = secR p.r p.bl ∧ 6 ≤ p.r ∧ validB p.f p.r (m.b - fwd p.bl * p.f) = true ∧ hasB (occR p.f p.r p.zs) (m.b - fwd p.bl * p.f) = false := by
   rcases hsteps.1 with h | h
   ·obtain ⟨e1, h2⟩ := step_sq o.ha o.hb h
    rcases h2 with e2 | ⟨e2, e3, e4, e5, e6⟩
    ·exfalso
     have := hone _ e2
     rcases hfw with e | e <;> rw [e] at this <;> omega
    ·exact ⟨e1, e2, e3, e4, e5, e6⟩
   ·exfalso
    have h1 := h.1
    simp only [pawnC, Bool.and_eq_true, Bool.or_eq_true, decide_eq_true_eq] at h1
    rw [pc_w o.ha o.hb] at h1
    have e1 : m.a.tmod p.f = px p.f m.a := rfl
    have e2 : m.b.tmod p.f = px p.f m.b := rfl
    rw [e1, e2, w64_id (n := px p.f m.b - px p.f m.a) (by omega) (by omega), w64_id (n := px p.f m.a - px p.f m.b) (by omega) (by omega)] at h1
    have := hone (fwd p.bl) (by omega)
    rcases hfw with e | e <;> rw [e] at this <;> omega
  obtain ⟨e1, e2, e3, e4, e5, e6⟩ := hst
  have hmul : py p.f m.b * p.f = py p.f m.a * p.f + 2 * (fwd p.bl * p.f) := by rw [e2, Int.add_mul, Int.mul_assoc]
  have hd2 : m.b - m.a = 2 * (fwd p.bl * p.f) := by omega
  have hr : m.b - fwd p.bl * p.f = m.a + fwd p.bl * p.f := by omega
  have hlc := valid_lt e5
  rw [hr] at e5 e6 hlc
  have hpa : paR p.f p.zs m.a m.b = m.a + fwd p.bl * p.f := by
   have ht' : twoB p.f p.zs m.a m.b = true := by
    simp only [twoB, Bool.and_eq_true, Bool.or_eq_true, decide_eq_true_eq]
    rw [o.kd, w64_id (n := m.b - m.a) (by omega) (by omega), w64_id (n := 2 * p.f) (by omega) (by omega), w64_id (n := -2 * p.f) (by omega) (by omega)]
    exact ⟨hk, ht⟩
   unfold paR
   rw [ht', cond_true, w64_id (n := m.b - m.a) (by omega) (by omega), hd2, Int.mul_tdiv_cancel_left _ (by decide), w64_id (n := fwd p.bl * p.f) (by omega) (by omega), w64_id (by omega) (by omega)]
  have hha : haR p.f p.zs p.pa p.ha m.a m.b = 0 := by unfold haR; rw [o.kd, hk]; rfl
  rw [hpa, hha]
  obtain ⟨c0, c1, c2, c3, c4, c5, _⟩ := px_bd e5
  have hpy : py p.f (m.a + fwd p.bl * p.f) = py p.f m.a + fwd p.bl := by
   have := pl_uniq (f := p.f) (by omega) c1 c2 a1 a2 (show px p.f (m.a + fwd p.bl * p.f) + py p.f (m.a + fwd p.bl * p.f) * p.f = px p.f m.a + (py p.f m.a + fwd p.bl) * p.f by rw [c5, Int.add_mul]; omega)
   exact this.2
  have hlc2 := (bd_sq o.bd).1 e5
  have hmz : p.zs.getD (m.a + fwd p.bl * p.f).toNat 0 = 0 := by
   obtain ⟨hou, hob⟩ := occ_bt o.bd o.hl
   rw [has_bt' hou e5, hob, decide_eq_true (show (m.a + fwd p.bl * p.f).toNat < p.zs.length by omega), Bool.true_and] at e6
   simpa using e6
  have hfz : fwd p.bl * p.f = p.f ∨ fwd p.bl * p.f = -p.f := by rcases hfw with e | e <;> rw [e] <;> omega
  have hn : wayN p.zs p.bl p.ca m.a m.b = 4 := by
   refine Decidable.byContradiction fun hn => ?_
   have := (o.wayg hn).1
   omega
  have hsec : secR p.r false = 1 ∧ secR p.r true = p.r - 2 := ⟨rfl, w64_id (by omega) (by omega)⟩
  have hlast : lastR p.r false = p.r - 1 ∧ lastR p.r true = 0 := ⟨w64_id (by omega) (by omega), rfl⟩
  have hp0 : m.p = 0 := by
   refine Decidable.byContradiction fun hp => ?_
   have := hsteps.2.1 hp
   cases hb : p.bl with
   | false => rw [hb] at this e2 e3; rw [hlast.1] at this; rw [hsec.1] at e3; simp only [fwd, cond_false] at e2; omega
   | true => rw [hb] at this e2 e3; rw [hlast.2] at this; rw [hsec.2] at e3; simp only [fwd, cond_true] at e2; omega
  have zA : (zs3R p.f p.r p.zs p.bl p.ca p.pa m.a m.b m.p).getD m.a.toNat 0 = 0 := by
   rw [o.zn hn _ (by omega), if_neg (by have := o.hab; omega), if_pos rfl]
  have zB : (zs3R p.f p.r p.zs p.bl p.ca p.pa m.a m.b m.p).getD m.b.toNat 0 = ofP 1 p.bl := by
   rw [o.zn hn _ (by omega), if_pos rfl, decide_eq_true hp0, cond_true]
   have hb := getD_bd o.h m.a.toNat
   rw [kind_abs hb] at hk
   have hp := o.hp
   unfold isP at hp
   cases hbl : p.bl <;> rw [hbl] at hp <;> simp only [Bool.and_true, Bool.not_true, Bool.and_false, Bool.or_false, Bool.not_false, Bool.false_or, decide_eq_true_eq] at hp
   ·show p.zs.getD m.a.toNat 0 = 1; omega
   ·rw [show ofP 1 true = -1 by decide]; omega
  have zM : (zs3R p.f p.r p.zs p.bl p.ca p.pa m.a m.b m.p).getD (m.a + fwd p.bl * p.f).toNat 0 = 0 := by
   rw [o.zn hn _ (by omega), if_neg (by omega), if_neg (by omega)]
   rcases o.z1i (m.a + fwd p.bl * p.f).toNat with ⟨_, _, h⟩ | h
   ·exact h
   ·rw [h, hmz]
  have hpi : IntKind.i64.wrap ((m.a + fwd p.bl * p.f).tdiv p.f) = rkP p.r (!p.bl) := by
   rw [c0, hpy, e3]
   cases p.bl with
   | false => rw [hsec.1]; rfl
   | true =>
    rw [hsec.2]
    show p.r - 2 + -1 = IntKind.i64.wrap (p.r - 3)
    rw [w64_id (by omega) (by omega)]; omega
  have hup : upP p.f (!p.bl) = fwd p.bl * p.f := by
   cases p.bl with
   | false => show p.f = 1 * p.f; omega
   | true =>
    show IntKind.i64.wrap (0 - p.f) = -1 * p.f
    rw [w64_id (by omega) (by omega)]; omega
  rw [hup, show m.a + fwd p.bl * p.f - fwd p.bl * p.f = m.a by omega, show m.a + fwd p.bl * p.f + fwd p.bl * p.f = m.b by omega, w64_id (n := m.a) (by omega) (by omega), w64_id (n := m.b) (by omega) (by omega), zA, zB, zM, hpi, e5, decide_eq_true e4, Bool.not_not]
  simp
theorem MvOk.valid (o : MvOk p m) (h4 : err4 p m = false) (h5 : err5 p m = false) : (⟨p.f, p.r, zs3R p.f p.r p.zs p.bl p.ca p.pa m.a m.b m.p, !p.bl, caR p.ca m.a m.b, paR p.f p.zs m.a m.b, haR p.f p.zs p.pa p.ha m.a m.b, fuR p.bl p.fu⟩ : Psn).ok = true := by
 have hok := o.ok
 simp only [Psn.ok, Bool.and_eq_true] at hok ⊢
 obtain ⟨z1, z2⟩ := o.z3
 refine ⟨⟨⟨⟨⟨(orth_valid z1).2.2.1, ?_⟩, o.pawns2⟩, o.cast2⟩, o.pass2⟩, ?_⟩
 ·simp only [kingsB, Bool.and_eq_true, decide_eq_true_eq, Bool.not_not]
  refine ⟨⟨o.king2, ?_⟩, ?_⟩
  ·unfold checkersR; rw [decide_eq_true z2]; rfl
  ·simp only [err4, Bool.or_eq_false_iff] at h4
   have := h4.1
   simpa [chkB] using this
 ·have hc := hok.2
  simp only [cntB, Bool.and_eq_true, decide_eq_true_eq] at hc ⊢
  simp only [err5, Bool.or_eq_false_iff, decide_eq_false_iff_not] at h5
  obtain ⟨⟨⟨h1, h2⟩, h3⟩, h6⟩ := hc
  have g1 : 0 ≤ haR p.f p.zs p.pa p.ha m.a m.b := by
   unfold haR
   cases (decide (absP (p.zs.getD m.a.toNat 0) = 1) || !decide (capR p.f p.zs p.pa m.a m.b = 0))
   ·rw [cond_false, w64_id (by omega) (by omega)]; omega
   ·exact Int.le_refl 0
  have g2 : 1 ≤ fuR p.bl p.fu := by
   unfold fuR
   cases p.bl
   ·exact h3
   ·rw [cond_true, w64_id (by omega) (by omega)]; omega
  exact ⟨⟨⟨g1, by omega⟩, g2⟩, by omega⟩
end
theorem mk_valid {p : Psn} {m : Mov} (hl : p.zs.length ≤ 64) (hca : 0 ≤ p.ca) (h : mkE5 p m = 0) : (mkP p m).ok = true := by
 obtain ⟨o, h4, h5⟩ := mk_mv hl hca h
 rw [(mk_p h).1]
 exact o.valid h4 h5
end Go.Ab

set_option maxRecDepth 100000
set_option maxHeartbeats 4000000
namespace Go.Ab
open Go.Proofs
variable {kCa kDb : Bool}
end Go.Ab

set_option maxRecDepth 100000
set_option maxHeartbeats 4000000
namespace Go.Ab
open Go.Proofs
variable {kCa kDb : Bool}
def back_s1 : List (List Int) → List Int × Int × Int × Bool × Int × Int × Int × Int × Int → Option (List Int × Int × Int × Bool × Int × Int × Int × Int × Int ⊕ List Int × Int × Int × Bool × Int × Int × Int × Int ⊕ Psn × Int) := fun (l : List (List Int)) (s13 : List Int × Int × Int × Bool × Int × Int × Int × Int × Int) => let x74 := s13.2.2.2.2.2.2.2.1; let x75 := s13.2.2.2.2.2.2.2.2; let x76 := s13.2.2.2.2.2.2.1; let x77 := s13.2.2.2.2.2.1; let x78 := s13.2.2.2.2.1; let x79 := s13.2.2.2.1; let x80 := s13.2.2.1; let x83 := s13.2.1; let x84 := s13.1; let x72 := decide (0 ≤ x75); let x73 := l.getD x75.toNat []; let x82 := List.take x84.length (List.drop 0 x84); let x70 := Und.mk (Mov.mk (x73.getD 0 0) (x73.getD 1 0) (x73.getD 2 0)) (x73.getD 3 0) (x73.getD 4 0) (x73.getD 5 0) (x73.getD 6 0) (x73.getD 7 0) (x73.getD 8 0); let x71 := Psn.mk x83 x80 x82 x79 x78 x77 x76 x74; let x81 := x82.length; let x68 := umP x71 x70; let x69 := umE x71 x70; bif x72 then needO (x72 && decide (x75 < Int.ofNat l.length)) (needO (decide (x81 ≤ 64)) (bif !decide (x69 = 0) then escO (escO (some (Psn.mk 0 0 [] false 0 0 0 0, x69))) else some (Sum.inl (x68.zs, x68.f, x68.r, x68.bl, x68.ca, x68.pa, x68.ha, x68.fu, IntKind.i64.wrap (x75 - 1))))) else some (Sum.inr (Sum.inl (x84, x83, x80, x79, x78, x77, x76, x74)))
def back (p : Psn) (l : List (List Int)) : Option (Psn × Int) := let x88 := List.take p.zs.length (List.drop 0 p.zs); let x87 := x88.length; let x86 := decide (x87 ≤ 64); needO x86 (bif !(Psn.mk p.f p.r x88 p.bl p.ca p.pa p.ha p.fu).ok || decide (1000 < Int.ofNat l.length) then some (Psn.mk 0 0 [] false 0 0 0 0, 2) else needO x86 (loopO (back_s1 l) (fun (s42 : List Int × Int × Int × Bool × Int × Int × Int × Int) => some (Psn.mk s42.2.1 s42.2.2.1 s42.1 s42.2.2.2.1 s42.2.2.2.2.1 s42.2.2.2.2.2.1 s42.2.2.2.2.2.2.1 s42.2.2.2.2.2.2.2, 0)) 1000000 (x88, p.f, p.r, p.bl, p.ca, p.pa, p.ha, p.fu, IntKind.i64.wrap (Int.ofNat l.length - 1))))
def back_V (R : Psn × Int) : V := .tup [.agg [.int .i64 R.1.f, .int .i64 R.1.r, .sl 2 0 R.1.zs.length none, Bb R.1.bl, .int .u8 R.1.ca, .int .i64 R.1.pa, .int .i64 R.1.ha, .int .i64 R.1.fu], .int .i64 R.2]
def back_N (R : Psn × Int) : List O := [.ints true .i8 R.1.zs]
def c_back : CF
 | [.agg [.int .i64 p_0, .int .i64 p_1, .sl 0 0 p_2n none, .bool p_3, .int .u8 p_4, .int .i64 p_5, .int .i64 p_6, .int .i64 p_7], .sl 1 0 l_0n none], [.ints false .i8 p_2, .rows false [.i64, .i64, .i8, .i8, .i64, .u8, .i64, .i64, .i64] l_0] => retC (decide (p_2n = p_2.length) && decide (l_0n = l_0.length)) (back ⟨p_0, p_1, p_2, p_3, p_4, p_5, p_6, p_7⟩ l_0) (⟨0, 0, [], false, 0, 0, 0, 0⟩, 0) back_V back_N
 | _, _ => none
theorem back_snd (p : Psn) (l : List (List Int)) {r} (hr : back p l = some r) : FnSound (GGx true kDb) PP 39 [.agg [.int .i64 p.f, .int .i64 p.r, .sl 0 0 p.zs.length none, Bb p.bl, .int .u8 p.ca, .int .i64 p.pa, .int .i64 p.ha, .int .i64 p.fu], .sl 1 0 l.length none] [.ints false .i8 p.zs, .rows false [.i64, .i64, .i8, .i8, .i64, .u8, .i64, .i64, .i64] l] (back_V r) (back_N r) := by
 have hE := cutE (EE_ok (kCa := true) (kDb := kDb) (cts := [(37, c_unmake), (46, c_pvalid), (52, c_pcopy)]) (inl := []) ⟨c_unmake_ok, c_pvalid_ok, c_pcopy_ok, trivial⟩ trivial)
 refine so_fn hE 2 Tryz.func39 rfl rfl back_V back_N hr ?_ rfl rfl
 refine so_as (pl (decide_eq_true (win_len rfl)) id) ?_
 refine so_triv (Bool.not_or_self _) ?_
 refine so_triv (Bool.not_or_self _) ?_
 refine so_triv (Bool.or_not_self _) ?_
 refine so_split hE 2 rfl ?_ ?_
 ·exact so_ret (fin_phC 3 2 (.ints true .i8 []) rfl rfl rfl rfl <| fin_bs [4] (.inr rfl) rfl rfl rfl rfl rfl)
 refine so_as (pl (decide_eq_true (win_len rfl)) id) ?_
 refine so_loop hE 2 (fun (s13 : List Int × Int × Int × Bool × Int × Int × Int × Int × Int) => let x91 := s13.1; ([(1, V.sl 1 0 l.length none), (4, V.ptr 2 0 0), (5, V.int IntKind.i64 0), (6, V.ptr 3 0 0), (7, V.int IntKind.i64 s13.2.2.2.2.2.2.2.2)], [O.ints false IntKind.i8 p.zs, O.rows false [IntKind.i64, IntKind.i64, IntKind.i8, IntKind.i8, IntKind.i64, IntKind.u8, IntKind.i64, IntKind.i64, IntKind.i64] l, O.cells true [V.int IntKind.i64 0, V.int IntKind.i64 0, V.nils, V.bool false, V.int IntKind.u8 0, V.int IntKind.i64 0, V.int IntKind.i64 0, V.int IntKind.i64 0], O.cells true [V.int IntKind.i64 s13.2.1, V.int IntKind.i64 s13.2.2.1, V.sl 4 0 x91.length none, V.bool s13.2.2.2.1, V.int IntKind.u8 s13.2.2.2.2.1, V.int IntKind.i64 s13.2.2.2.2.2.1, V.int IntKind.i64 s13.2.2.2.2.2.2.1, V.int IntKind.i64 s13.2.2.2.2.2.2.2.1], O.ints true IntKind.i8 x91])) (fun (s42 : List Int × Int × Int × Bool × Int × Int × Int × Int) => let x93 := s42.1; ([(4, V.ptr 2 0 0), (5, V.int IntKind.i64 0), (6, V.ptr 3 0 0)], [O.ints false IntKind.i8 p.zs, O.rows false [IntKind.i64, IntKind.i64, IntKind.i8, IntKind.i8, IntKind.i64, IntKind.u8, IntKind.i64, IntKind.i64, IntKind.i64] l, O.cells true [V.int IntKind.i64 0, V.int IntKind.i64 0, V.nils, V.bool false, V.int IntKind.u8 0, V.int IntKind.i64 0, V.int IntKind.i64 0, V.int IntKind.i64 0], O.cells true [V.int IntKind.i64 s42.2.1, V.int IntKind.i64 s42.2.2.1, V.sl 4 0 x93.length none, V.bool s42.2.2.2.1, V.int IntKind.u8 s42.2.2.2.2.1, V.int IntKind.i64 s42.2.2.2.2.2.1, V.int IntKind.i64 s42.2.2.2.2.2.2.1, V.int IntKind.i64 s42.2.2.2.2.2.2.2], O.ints true IntKind.i8 x93])) (.exit 0) ((Ent.rn [0, 1, 3, 5, 4] [1, 4, 5, 6, 7] rfl rfl rfl rfl rfl)) (fun s13 => ?_) (fun s42 => ?_)
 ·refine so_split hE 2 rfl ?_ ?_
  ·refine so_triv rfl ?_
   refine so_need ?_
   refine so_as (pl (decide_eq_true (win_len rfl)) id) ?_
   refine so_split hE 2 rfl ?_ ?_
   ·refine so_out (by simp) (so_out1 ?_)
    exact so_ret (fin_phC 2 2 (.ints true .i8 []) rfl rfl rfl rfl <| fin_bs [7] (.inr rfl) rfl rfl rfl rfl rfl)
   exact so_next ((Ent.rn [0, 1, 2, 3, 6] [1, 4, 5, 6, 7] rfl rfl rfl rfl rfl))
  exact so_exit ((Ent.rn [0, 1, 2, 3, 4] [4, 5, 6] rfl rfl rfl rfl rfl))
 exact so_ret (fin_bs [4] (.inr rfl) rfl rfl rfl rfl rfl)
theorem c_back_ok : CtOk (GGx true kDb) PP (39, c_back) := by
 refine ct_mk Tryz.func39 (by kernel_rfl) rfl fun a0 h0 c0 v0 N0 e hc => ?_
 unfold c_back at e
 split at e
 ·rename_i p_0 p_1 p_2n p_3 p_4 p_5 p_6 p_7 l_0n p_2 l_0
  obtain ⟨hl, r, hr, rfl, rfl⟩ := ret_ok e hc
  simp only [Bool.and_eq_true, decide_eq_true_eq] at hl
  obtain ⟨rfl, rfl⟩ := hl
  exact back_snd ⟨p_0, p_1, p_2, p_3, p_4, p_5, p_6, p_7⟩ l_0 hr
 ·cases e
end Go.Ab

set_option maxRecDepth 100000
namespace Go.Ab
open Go.Proofs
theorem um_mk {q : Psn} {m : Mov} (hl : q.zs.length ≤ 64) (hca : 0 ≤ q.ca) (h : mkE5 q m = 0) : umE (mkP q m) (mkU q m) = 0 ∧ umP (mkP q m) (mkU q m) = q ∧ (mkU q m).m = m ∧ (mkP q m).f = q.f ∧ (mkP q m).r = q.r ∧ (mkP q m).bl = !q.bl ∧ mvB q.f q.r m.a m.b m.p = true ∧ (mkU q m).ca = q.ca ∧ q.ok = true := by
 obtain ⟨e1, e2⟩ := mk_p h
 obtain ⟨o, _, _⟩ := mk_mv hl hca h
 have hb := bk_mk hl hca h
 have hv := mk_valid hl hca h
 have hm : (mkU q m).m = m := by rw [e2]
 have hf : (mkP q m).f = q.f ∧ (mkP q m).r = q.r ∧ (mkP q m).bl = !q.bl := by rw [e1]; exact ⟨rfl, rfl, rfl⟩
 have hmv : mvB q.f q.r m.a m.b m.p = true := by
  unfold mvB
  rw [o.ha, o.hb, decide_eq_false o.hab]
  rcases o.hpr with h | h
  ·rw [decide_eq_true h]; rfl
  ·rw [decide_eq_true h.1, decide_eq_true h.2]; simp
 have hE : umE (mkP q m) (mkU q m) = 0 := by
  unfold umE
  rw [hb, hm, hv, hf.1, hf.2.1, hmv, h, undB_self, equalB_self]; rfl
 refine ⟨hE, ?_, hm, hf.1, hf.2.1, hf.2.2, hmv, by rw [e2], o.ok⟩
 unfold umP
 rw [hE, hb]; rfl
def rowU (u : Und) : List Int := [u.m.a, u.m.b, u.m.p, u.c, u.at_, u.ca, u.pa, u.ha, u.fu]
def undR (l : List Int) : Und := ⟨⟨l.getD 0 0, l.getD 1 0, l.getD 2 0⟩, l.getD 3 0, l.getD 4 0, l.getD 5 0, l.getD 6 0, l.getD 7 0, l.getD 8 0⟩
theorem und_row (u : Und) : undR (rowU u) = u := rfl
inductive Ch (p : Psn) : List (List Int) → Psn → Prop
 | nil : Ch p [] p
 | snoc {us : List (List Int)} {q : Psn} {m : Mov} : Ch p us q → mkE5 q m = 0 → Ch p (us ++ [rowU (mkU q m)]) (mkP q m)
def unmL : Psn → List (List Int) → Psn × Int
 | q, [] => (q, 0)
 | q, row :: rest => bif decide (umE q (undR row) = 0) then unmL (umP q (undR row)) rest else (⟨0, 0, [], false, 0, 0, 0, 0⟩, umE q (undR row))
def RowOk (f r : Int) (row : List Int) : Prop := mvB f r (row.getD 0 0) (row.getD 1 0) (row.getD 2 0) = true ∧ 0 ≤ row.getD 5 0
theorem Ch.all {p : Psn} (hl : p.zs.length ≤ 64) (hca : 0 ≤ p.ca) (hok : p.ok = true) {us : List (List Int)} {q : Psn} (h : Ch p us q) :
  q.zs.length ≤ 64 ∧ 0 ≤ q.ca ∧ q.ok = true ∧ q.f = p.f ∧ q.r = p.r ∧ (∀ row ∈ us, RowOk p.f p.r row) ∧ unmL q us.reverse = (p, 0) := by
 induction h with
 | nil => exact ⟨hl, hca, hok, rfl, rfl, ⟨fun _ h => (by cases h), rfl⟩⟩
 | @snoc us q m h1 h2 ih =>
  obtain ⟨i1, i2, i3, i4, i5, i6, i7⟩ := ih
  obtain ⟨g1, g2, g3, g4, g5, _, g6, g7, _⟩ := um_mk i1 i2 h2
  refine ⟨mkP_len64 i1, mkP_ca, mk_valid i1 i2 h2, g4.trans i4, g5.trans i5, fun row hr => ?_, ?_⟩
  ·rcases List.mem_append.1 hr with hr | hr
   ·exact i6 row hr
   ·obtain rfl := List.mem_singleton.1 hr
    refine ⟨?_, ?_⟩
    ·show mvB p.f p.r (mkU q m).m.a (mkU q m).m.b (mkU q m).m.p = true
     rw [g3, ← i4, ← i5]; exact g6
    ·show 0 ≤ (mkU q m).ca
     rw [g7]; exact i2
  ·rw [List.reverse_append, List.reverse_singleton, List.singleton_append]
   unfold unmL
   rw [und_row, g1, g2, decide_eq_true rfl, cond_true]
   exact i7
theorem play_chain {p : Psn} {l : List (List Int)} (hl : l.length ≤ 1000) : ∀ (j fuel i : Nat) (us : List (List Int)) (q : Psn), i + j = l.length → us.length = i → q.zs.length ≤ 64 → 0 ≤ q.ca → j < fuel → Ch p us q →
  ∀ r : PlR, loopO (play_s1 l) plF fuel (plN us q i) = some r → r.2.2.2 = 0 → Ch p r.2.1 r.1 ∧ r.2.1.length = l.length
 | j, 0, i, us, q, _, _, _, _, h, _ => absurd h (by omega)
 | 0, fuel + 1, i, us, q, h, hu, _, _, _, hc => by
  intro r hr _
  rw [loopO_exit (play_last (by omega))] at hr
  cases hr
  exact ⟨hc, by show us.length = _; omega⟩
 | j + 1, fuel + 1, i, us, q, h, hu, hz, hca, hf, hc => by
  intro r hr h0
  have hs := play_step (l := l) (us := us) (q := q) (i := i) (by omega) hl hu hz
  cases he : decide (mkE5 q (plM l i) = 0)
  ·rw [he] at hs
   have hs : play_s1 l (plN us q i) = some (.inr (.inr (psn0, [], (i : Int), mkE5 q (plM l i)))) := hs
   rw [loopO_ret hs] at hr
   cases hr
   exact absurd h0 (of_decide_eq_false he)
  ·rw [he] at hs
   simp only [Bool.not_true, cond_false] at hs
   rw [loopO_next hs] at hr
   exact play_chain hl j fuel (i + 1) _ _ (by omega) (by simp [hu]) (mkP_len64 hz) mkP_ca (by omega) (hc.snoc (of_decide_eq_true he)) r hr h0
theorem play_chain0 {p : Psn} {l : List (List Int)} (hl : l.length ≤ 1000) (hz : p.zs.length ≤ 64) (hca : 0 ≤ p.ca) {r : PlR} (h : loopO (play_s1 l) plF 1000000 ([], p.zs, p.f, p.r, p.bl, p.ca, p.pa, p.ha, p.fu, 0) = some r) (h0 : r.2.2.2 = 0) : Ch p r.2.1 r.1 ∧ r.2.1.length = l.length :=
 play_chain hl l.length 1000000 0 [] p (by omega) rfl hz hca (by omega) .nil r h h0
theorem play_ok {p : Psn} {l : List (List Int)} (hz : p.zs.length ≤ 64) (hca : 0 ≤ p.ca) (hl : l.length ≤ 1000) {r : PlR} (h : play p l = some r) (h0 : r.2.2.2 = 0) : p.ok = true ∧ Ch p r.2.1 r.1 ∧ r.2.1.length = l.length := by
 unfold play at h
 simp only [List.drop_zero, List.take_length, psn_eta] at h
 have h3 : decide (p.zs.length ≤ 64) = true := by simpa using hz
 have h1 : decide ((1000 : Int) < Int.ofNat l.length) = false := by simp; omega
 rw [h3, h1] at h
 simp only [needO_true, Bool.or_false] at h
 cases hk : p.ok with
 | false =>
  rw [hk] at h
  cases h
  cases h0
 | true =>
  rw [hk] at h
  simp only [Bool.not_true, cond_false] at h
  exact ⟨rfl, play_chain0 hl hz hca h h0⟩
abbrev BkS := List Int × Int × Int × Bool × Int × Int × Int × Int × Int
def bkN (q : Psn) (i : Int) : BkS := (q.zs, q.f, q.r, q.bl, q.ca, q.pa, q.ha, q.fu, i)
def bkF (s : List Int × Int × Int × Bool × Int × Int × Int × Int) : Option (Psn × Int) := some (⟨s.2.1, s.2.2.1, s.1, s.2.2.2.1, s.2.2.2.2.1, s.2.2.2.2.2.1, s.2.2.2.2.2.2.1, s.2.2.2.2.2.2.2⟩, 0)
theorem umP_len64 {p : Psn} {u : Und} (h : p.zs.length ≤ 64) : (umP p u).zs.length ≤ 64 := by
 unfold umP
 cases decide (umE p u = 0)
 ·exact Nat.zero_le _
 ·exact Nat.le_trans (Nat.le_of_eq bkZ_len) h
theorem back_step {l : List (List Int)} {q : Psn} {j : Nat} (hj : j < l.length) (hl : l.length ≤ 1000) (hz : q.zs.length ≤ 64) :
  back_s1 l (bkN q j) = bif decide (umE q (undR (l.getD j [])) = 0) then some (.inl (bkN (umP q (undR (l.getD j []))) ((j : Int) - 1))) else some (.inr (.inr (⟨0, 0, [], false, 0, 0, 0, 0⟩, umE q (undR (l.getD j []))))) := by
 unfold back_s1 bkN
 simp only [List.drop_zero, List.take_length, psn_eta]
 have h1 : decide ((j : Int) < Int.ofNat l.length) = true := by simp; omega
 have h2 : decide ((0 : Int) ≤ j) = true := by simp
 have h3 : decide (q.zs.length ≤ 64) = true := by simpa using hz
 rw [h1, h2, h3, w64_id (n := (j : Int) - 1) (by omega) (by omega)]
 show (bif !decide (umE q (undR (l.getD j [])) = 0) then _ else _) = _
 cases decide (umE q (undR (l.getD j [])) = 0) <;> rfl
theorem back_end {l : List (List Int)} {q : Psn} : back_s1 l (bkN q (-1)) = some (.inr (.inl (q.zs, q.f, q.r, q.bl, q.ca, q.pa, q.ha, q.fu))) := by
 unfold back_s1 bkN
 rfl
theorem take_rev {l : List (List Int)} {j : Nat} (h : j < l.length) : (l.take (j + 1)).reverse = l.getD j [] :: (l.take j).reverse := by
 rw [List.take_add_one, List.reverse_append]
 have : l[j]?.toList = [l.getD j []] := by simp [List.getD, h]
 rw [this]; rfl
theorem back_run {l : List (List Int)} (hl : l.length ≤ 1000) : ∀ (j fuel : Nat) (q : Psn), j ≤ l.length → j < fuel → q.zs.length ≤ 64 → loopO (back_s1 l) bkF fuel (bkN q ((j : Int) - 1)) = some (unmL q (l.take j).reverse)
 | j, 0, q, _, h, _ => absurd h (by omega)
 | 0, fuel + 1, q, _, _, _ => by
  rw [show ((0 : Nat) : Int) - 1 = -1 from rfl, loopO_exit (back_end (l := l))]; rfl
 | j + 1, fuel + 1, q, h, hf, hz => by
  have hs := back_step (q := q) (j := j) (show j < l.length by omega) hl hz
  rw [show ((j + 1 : Nat) : Int) - 1 = (j : Int) by omega, take_rev (by omega)]
  unfold unmL
  cases he : decide (umE q (undR (l.getD j [])) = 0) with
  | true =>
   rw [he, cond_true] at hs
   rw [loopO_next hs, cond_true]
   exact back_run hl j fuel _ (by omega) (by omega) (umP_len64 hz)
  | false =>
   rw [he, cond_false] at hs
   rw [loopO_ret hs, cond_false]
theorem back_run0 {q : Psn} {l : List (List Int)} (hl : l.length ≤ 1000) (hz : q.zs.length ≤ 64) : loopO (back_s1 l) bkF 1000000 (q.zs, q.f, q.r, q.bl, q.ca, q.pa, q.ha, q.fu, (l.length : Int) - 1) = some (unmL q l.reverse) := by
 have := back_run hl l.length 1000000 q (Nat.le_refl _) (by omega) hz
 rw [List.take_length] at this
 exact this
theorem back_eq {q : Psn} {l : List (List Int)} (hl : l.length ≤ 1000) (hz : q.zs.length ≤ 64) (hok : q.ok = true) : back q l = some (unmL q l.reverse) := by
 unfold back
 simp only [List.drop_zero, List.take_length, psn_eta]
 have h3 : decide (q.zs.length ≤ 64) = true := by simpa using hz
 have h1 : decide ((1000 : Int) < Int.ofNat l.length) = false := by simp; omega
 rw [h3, h1, hok, show IntKind.i64.wrap (Int.ofNat l.length - 1) = (l.length : Int) - 1 from w64_id (by show -9223372036854775808 ≤ (l.length : Int) - 1; omega) (by show (l.length : Int) - 1 ≤ 9223372036854775807; omega)]
 simp only [needO_true, Bool.or_false, Bool.not_true, cond_false]
 exact back_run0 hl hz
end Go.Ab

set_option maxRecDepth 100000
set_option maxHeartbeats 4000000
namespace Go.Ab
open Go.Proofs
variable {kCa kDb : Bool}
structure Nl where
def back0_s1 : Unit → Option (Unit ⊕ Unit ⊕ Psn × Int) := fun (s3 : Unit) => some (Sum.inr (Sum.inl ()))
def back0 (p : Psn) (l : Nl) : Option (Psn × Int) := let x28 := List.take p.zs.length (List.drop 0 p.zs); let x26 := Psn.mk p.f p.r x28 p.bl p.ca p.pa p.ha p.fu; let x27 := x28.length; let x25 := decide (x27 ≤ 64); needO x25 (bif !x26.ok || decide (1000 < 0) then some (Psn.mk 0 0 [] false 0 0 0 0, 2) else needO x25 (loopO back0_s1 (fun (s6 : Unit) => some (x26, 0)) 1000000 ()))
def back0_V (R : Psn × Int) : V := .tup [.agg [.int .i64 R.1.f, .int .i64 R.1.r, .sl 1 0 R.1.zs.length none, Bb R.1.bl, .int .u8 R.1.ca, .int .i64 R.1.pa, .int .i64 R.1.ha, .int .i64 R.1.fu], .int .i64 R.2]
def back0_N (R : Psn × Int) : List O := [.ints true .i8 R.1.zs]
def c_back0 : CF
 | [.agg [.int .i64 p_0, .int .i64 p_1, .sl 0 0 p_2n none, .bool p_3, .int .u8 p_4, .int .i64 p_5, .int .i64 p_6, .int .i64 p_7], .nils], [.ints false .i8 p_2] => retC (decide (p_2n = p_2.length)) (back0 ⟨p_0, p_1, p_2, p_3, p_4, p_5, p_6, p_7⟩ ⟨⟩) (⟨0, 0, [], false, 0, 0, 0, 0⟩, 0) back0_V back0_N
 | _, _ => none
theorem back0_snd (p : Psn) (l : Nl) {r} (hr : back0 p l = some r) : FnSound (GGx true kDb) PP 39 [.agg [.int .i64 p.f, .int .i64 p.r, .sl 0 0 p.zs.length none, Bb p.bl, .int .u8 p.ca, .int .i64 p.pa, .int .i64 p.ha, .int .i64 p.fu], .nils] [.ints false .i8 p.zs] (back0_V r) (back0_N r) := by
 have hE := cutE (EE_ok (kCa := true) (kDb := kDb) (cts := [(37, c_unmake), (46, c_pvalid), (52, c_pcopy)]) (inl := []) ⟨c_unmake_ok, c_pvalid_ok, c_pcopy_ok, trivial⟩ trivial)
 refine so_fn hE 2 Tryz.func39 rfl rfl back0_V back0_N hr ?_ rfl rfl
 refine so_as (pl (decide_eq_true (win_len rfl)) id) ?_
 refine so_triv (Bool.not_or_self _) ?_
 refine so_triv (Bool.not_or_self _) ?_
 refine so_triv (Bool.or_not_self _) ?_
 refine so_split hE 2 rfl ?_ ?_
 ·exact so_ret (fin_phC 2 2 (.ints true .i8 []) rfl rfl rfl rfl <| fin_bs [3] (.inr rfl) rfl rfl rfl rfl rfl)
 refine so_as (pl (decide_eq_true (win_len rfl)) id) ?_
 refine so_loop hE 2 (let x30 := List.take p.zs.length (List.drop 0 p.zs); fun (s3 : Unit) => ([(1, V.nils), (4, V.ptr 1 0 0), (5, V.int IntKind.i64 0), (6, V.ptr 2 0 0), (7, V.int IntKind.i64 (IntKind.i64.wrap (0 - 1)))], [O.ints false IntKind.i8 p.zs, O.cells true [V.int IntKind.i64 0, V.int IntKind.i64 0, V.nils, V.bool false, V.int IntKind.u8 0, V.int IntKind.i64 0, V.int IntKind.i64 0, V.int IntKind.i64 0], O.cells true [V.int IntKind.i64 p.f, V.int IntKind.i64 p.r, V.sl 3 0 x30.length none, V.bool p.bl, V.int IntKind.u8 p.ca, V.int IntKind.i64 p.pa, V.int IntKind.i64 p.ha, V.int IntKind.i64 p.fu], O.ints true IntKind.i8 x30])) (let x32 := List.take p.zs.length (List.drop 0 p.zs); fun (s6 : Unit) => ([(4, V.ptr 1 0 0), (5, V.int IntKind.i64 0), (6, V.ptr 2 0 0)], [O.ints false IntKind.i8 p.zs, O.cells true [V.int IntKind.i64 0, V.int IntKind.i64 0, V.nils, V.bool false, V.int IntKind.u8 0, V.int IntKind.i64 0, V.int IntKind.i64 0, V.int IntKind.i64 0], O.cells true [V.int IntKind.i64 p.f, V.int IntKind.i64 p.r, V.sl 3 0 x32.length none, V.bool p.bl, V.int IntKind.u8 p.ca, V.int IntKind.i64 p.pa, V.int IntKind.i64 p.ha, V.int IntKind.i64 p.fu], O.ints true IntKind.i8 x32])) (.exit 0) ((Ent.rn [0, 2, 4, 3] [1, 4, 5, 6, 7] rfl rfl rfl rfl rfl)) (fun s3 => ?_) (fun s6 => ?_)
 ·refine so_no hE 2 rfl rfl ?_
  exact so_exit ((Ent.rn [0, 1, 2, 3] [4, 5, 6] rfl rfl rfl rfl rfl))
 exact so_ret (fin_bs [3] (.inr rfl) rfl rfl rfl rfl rfl)
theorem c_back0_ok : CtOk (GGx true kDb) PP (39, c_back0) := by
 refine ct_mk Tryz.func39 (by kernel_rfl) rfl fun a0 h0 c0 v0 N0 e hc => ?_
 unfold c_back0 at e
 split at e
 ·rename_i p_0 p_1 p_2n p_3 p_4 p_5 p_6 p_7 p_2
  obtain ⟨hl, r, hr, rfl, rfl⟩ := ret_ok e hc
  simp only [Bool.and_eq_true, decide_eq_true_eq] at hl
  obtain rfl := hl
  exact back0_snd ⟨p_0, p_1, p_2, p_3, p_4, p_5, p_6, p_7⟩ ⟨⟩ hr
 ·cases e
def c_backX : CF := fun a h => match c_back a h with
 | some x => some x
 | none => c_back0 a h
theorem c_backX_ok : CtOk (GGx true kDb) PP (39, c_backX) := by
 refine ⟨(c_back_ok (kDb := kDb)).1, fun a h c v N e hc => ?_⟩
 change (match c_back a h with
 | some x => some x
 | none => c_back0 a h) = _ at e
 split at e
 ·rename_i x hx
  cases e
  exact c_back_ok.2 a h c v N hx hc
 ·exact c_back0_ok.2 a h c v N e hc
end Go.Ab
