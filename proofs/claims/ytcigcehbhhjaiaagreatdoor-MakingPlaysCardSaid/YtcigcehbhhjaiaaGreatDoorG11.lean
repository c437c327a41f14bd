/- Contracts of the functions that the laws reach, and plain laws of what they compute (text G11); no condition. -/
import Derived.Test.YtcigcehbhhjaiaaGreatDoorG9
import Derived.Test.YtcigcehbhhjaiaaGreatDoorG10
import Derived.Test.YtcigcehbhhjaiaaGreatDoorG4
set_option maxRecDepth 100000
set_option maxHeartbeats 4000000
namespace Go.Ab
open Go.Proofs
variable {kCa kDb : Bool}
def small8 (p : Psn) : Option (Bool) := Option.some (Decidable.decide (Int.ofNat p.zs.length ≤ 64))
def small8_V (R : Bool) : V := Bb R
def small8_N (_R : Bool) : List O := []
def c_small8 : CF
  | [.agg [.int .i64 p_0, .int .i64 p_1, .sl 0 0 p_2n none, .bool p_3, .int .u8 p_4, .int .i64 p_5, .int .i64 p_6, .int .i64 p_7]], [.ints false .i8 p_2] => retC (decide (p_2n = p_2.length)) (small8 ⟨p_0, p_1, p_2, p_3, p_4, p_5, p_6, p_7⟩) false small8_V small8_N
  | _, _ => none
theorem small8_snd (p : Psn) {r} (hr : small8 p = some r) : FnSound (GGx kCa kDb) PP 12 [.agg [.int .i64 p.f, .int .i64 p.r, .sl 0 0 p.zs.length none, Bb p.bl, .int .u8 p.ca, .int .i64 p.pa, .int .i64 p.ha, .int .i64 p.fu]] [.ints false .i8 p.zs] (small8_V r) (small8_N r) := by
  have hE := cutE (EE_ok (kCa := kCa) (kDb := kDb) (cts := []) (inl := []) trivial trivial)
  refine so_fn hE 2 Tryz.func12 rfl rfl small8_V small8_N hr ?_ rfl rfl
  exact so_ret (fin_bs [] (.inr rfl) rfl rfl rfl rfl rfl)
theorem c_small8_ok : CtOk (GGx kCa kDb) PP (12, c_small8) := by
  refine ct_mk Tryz.func12 (by kernel_rfl) rfl fun a0 h0 c0 v0 N0 e hc => ?_
  unfold c_small8 at e
  split at e
  · rename_i p_0 p_1 p_2n p_3 p_4 p_5 p_6 p_7 p_2
    obtain ⟨hl, r, hr, rfl, rfl⟩ := ret_ok e hc
    simp only [decide_eq_true_eq] at hl
    obtain rfl := hl
    exact small8_snd ⟨p_0, p_1, p_2, p_3, p_4, p_5, p_6, p_7⟩ hr
  · cases e
def same8_s1 : List (List Int) → List (List Int) → Int → Option (Int ⊕ Unit ⊕ Bool) := fun (a b : List (List Int)) (s6 : Int) => let x13 := (a.getD s6.toNat []).getD 4 0; let x14 := (a.getD s6.toNat []).getD 2 0; let x15 := (b.getD s6.toNat []).getD 0 0; let x16 := (a.getD s6.toNat []).getD 1 0; let x17 := (b.getD s6.toNat []).getD 3 0; let x18 := (a.getD s6.toNat []).getD 6 0; let x19 := (a.getD s6.toNat []).getD 0 0; let x20 := (b.getD s6.toNat []).getD 2 0; let x21 := (b.getD s6.toNat []).getD 8 0; let x22 := (b.getD s6.toNat []).getD 1 0; let x23 := (b.getD s6.toNat []).getD 5 0; let x24 := (b.getD s6.toNat []).getD 4 0; let x25 := (a.getD s6.toNat []).getD 3 0; let x26 := (a.getD s6.toNat []).getD 7 0; let x27 := (b.getD s6.toNat []).getD 6 0; let x28 := (b.getD s6.toNat []).getD 7 0; let x29 := (a.getD s6.toNat []).getD 5 0; let x30 := (a.getD s6.toNat []).getD 8 0; let x31 := Decidable.decide (0 ≤ s6); let x32 := Decidable.decide (s6 < Int.ofNat a.length); bif x32 then needO (x31 && x32) (needO (x31 && Decidable.decide (s6 < Int.ofNat b.length)) (bif !(Decidable.decide (x19 = x15) && (Decidable.decide (x16 = x22) && Decidable.decide (x14 = x20)) && (Decidable.decide (x25 = x17) && (Decidable.decide (x13 = x24) && (Decidable.decide (x29 = x23) && (Decidable.decide (x18 = x27) && (Decidable.decide (x26 = x28) && Decidable.decide (x30 = x21))))))) then escO (escO (Option.some Bool.false)) else Option.some (Sum.inl (IntKind.i64.wrap (s6 + 1))))) else Option.some (Sum.inr (Sum.inl ()))
def same8 (a : List (List Int)) (b : List (List Int)) : Option (Bool) := bif !Decidable.decide (Int.ofNat a.length = Int.ofNat b.length) then Option.some Bool.false else loopO (same8_s1 a b) (fun (_s11 : Unit) => Option.some Bool.true) 1000000 0
def same8_V (R : Bool) : V := Bb R
def same8_N (_R : Bool) : List O := []
def c_same8 : CF
  | [.sl 0 0 a_0n none, .sl 1 0 b_0n none], [.rows false [.i64, .i64, .i8, .i8, .i64, .u8, .i64, .i64, .i64] a_0, .rows false [.i64, .i64, .i8, .i8, .i64, .u8, .i64, .i64, .i64] b_0] => retC (decide (a_0n = a_0.length) && decide (b_0n = b_0.length)) (same8 a_0 b_0) false same8_V same8_N
  | _, _ => none
theorem same8_snd (a : List (List Int)) (b : List (List Int)) {r} (hr : same8 a b = some r) : FnSound (GGx kCa kDb) PP 20 [.sl 0 0 a.length none, .sl 1 0 b.length none] [.rows false [.i64, .i64, .i8, .i8, .i64, .u8, .i64, .i64, .i64] a, .rows false [.i64, .i64, .i8, .i8, .i64, .u8, .i64, .i64, .i64] b] (same8_V r) (same8_N r) := by
  have hE := cutE (EE_ok (kCa := kCa) (kDb := kDb) (cts := []) (inl := []) trivial trivial)
  refine so_fn hE 2 Tryz.func20 rfl rfl same8_V same8_N hr ?_ rfl rfl
  refine so_split hE 2 rfl ?_ ?_
  · exact so_ret (fin_bs [] (.inr rfl) rfl rfl rfl rfl rfl)
  refine so_loop hE 2 (let x35 := [IntKind.i64, IntKind.i64, IntKind.i8, IntKind.i8, IntKind.i64, IntKind.u8, IntKind.i64, IntKind.i64, IntKind.i64]; fun (s6 : Int) => ([(0, V.sl 0 0 a.length Option.none), (1, V.sl 1 0 b.length Option.none), (4, V.bool Bool.false), (5, V.int IntKind.i64 s6)], [O.rows Bool.false x35 a, O.rows Bool.false x35 b])) (let x37 := [IntKind.i64, IntKind.i64, IntKind.i8, IntKind.i8, IntKind.i64, IntKind.u8, IntKind.i64, IntKind.i64, IntKind.i64]; fun (s11 : Unit) => ([(4, V.bool Bool.false)], [O.rows Bool.false x37 a, O.rows Bool.false x37 b])) (.exit 0) ((Ent.rn [0, 1] [0, 1, 4, 5] rfl rfl rfl rfl rfl)) (fun s6 => ?_) (fun s11 => ?_)
  · refine so_split hE 2 rfl ?_ ?_
    · refine so_triv rfl ?_
      refine so_need ?_
      refine so_need ?_
      refine so_split hE 2 rfl ?_ ?_
      · refine so_out (by simp) (so_out1 ?_)
        exact so_ret (fin_bs [] (.inr rfl) rfl rfl rfl rfl rfl)
      exact so_next ((Ent.rn [0, 1] [0, 1, 4, 5] rfl rfl rfl rfl rfl))
    exact so_exit ((Ent.rn [0, 1] [4] rfl rfl rfl rfl rfl))
  exact so_ret (fin_bs [] (.inr rfl) rfl rfl rfl rfl rfl)
theorem c_same8_ok : CtOk (GGx kCa kDb) PP (20, c_same8) := by
  refine ct_mk Tryz.func20 (by kernel_rfl) rfl fun a0 h0 c0 v0 N0 e hc => ?_
  unfold c_same8 at e
  split at e
  · rename_i a_0n b_0n a_0 b_0
    obtain ⟨hl, r, hr, rfl, rfl⟩ := ret_ok e hc
    simp only [Bool.and_eq_true, decide_eq_true_eq] at hl
    obtain ⟨rfl, rfl⟩ := hl
    exact same8_snd a_0 b_0 hr
  · cases e
end Go.Ab

set_option maxRecDepth 100000
set_option maxHeartbeats 4000000
namespace Go.Ab
open Go.Proofs
variable {kCa kDb : Bool}
end Go.Ab

set_option maxRecDepth 100000
namespace Go.Ab
theorem mkP_len64 {p : Psn} {m : Mov} (h : p.zs.length ≤ 64) : (mkP p m).zs.length ≤ 64 := by
  unfold mkP
  cases decide (mkE5 p m = 0)
  · exact Nat.zero_le _
  · exact Nat.le_trans (Nat.le_of_eq zs3_len) h
theorem equalB_self (p : Psn) : equalB p p = true := by simp [equalB, sameB]
theorem w64_small {i : Int} (h1 : 0 ≤ i) (h2 : i ≤ 100000) : IntKind.i64.wrap i = i := by
  exact w64_id (by omega) (by omega)
end Go.Ab

set_option maxRecDepth 100000
set_option maxHeartbeats 4000000
namespace Go.Ab
open Go.Proofs
variable {kCa kDb : Bool}
def play_s1 : List (List Int) → List (List Int) × List Int × Int × Int × Bool × Int × Int × Int × Int × Int → Option (List (List Int) × List Int × Int × Int × Bool × Int × Int × Int × Int × Int ⊕ List (List Int) × List Int × Int × Int × Bool × Int × Int × Int × Int ⊕ Psn × List (List Int) × Int × Int) := fun (l : List (List Int)) (s15 : List (List Int) × List Int × Int × Int × Bool × Int × Int × Int × Int × Int) => let x82 := s15.snd.snd.snd.snd.snd.snd.snd.snd.fst; let x83 := s15.snd.snd.snd.snd.snd.snd.snd.snd.snd; let x84 := s15.snd.snd.snd.snd.snd.snd.snd.fst; let x85 := s15.snd.snd.snd.snd.snd.snd.fst; let x87 := s15.snd.snd.snd.snd.snd.fst; let x89 := s15.snd.snd.snd.snd.fst; let x90 := s15.snd.snd.snd.fst; let x91 := s15.snd.snd.fst; let x93 := s15.snd.fst; let x94 := s15.fst; let x80 := Decidable.decide (x83 < Int.ofNat l.length); let x81 := l.getD x83.toNat []; let x88 := List.take x93.length (List.drop 0 x93); let x92 := (x94.length + 1) * 72; let x78 := Psn.mk x91 x90 x88 x89 x87 x85 x84 x82; let x79 := Mov.mk (x81.getD 0 0) (x81.getD 1 0) (x81.getD 2 0); let x86 := x88.length; let x75 := mkP x78 x79; let x76 := mkE5 x78 x79; let x77 := mkU x78 x79; let x74 := x77.m; bif x80 then needO (Decidable.decide (0 ≤ x83) && x80) (needO (Decidable.decide (x86 ≤ 64)) (bif !Decidable.decide (x76 = 0) then escO (escO (Option.some (Psn.mk 0 0 [] Bool.false 0 0 0 0, [], x83, x76))) else joinO (needO (Decidable.decide (x92 ≤ 140737488355328)) (Option.some (Sum.inl ()))) fun (_s16 : Unit) => Option.some (Sum.inl (x94 ++ List.take 1 (List.drop 0 [iL [x74.a, x74.b, x74.p, x77.c, x77.at_, x77.ca, x77.pa, x77.ha, x77.fu]]), x75.zs, x75.f, x75.r, x75.bl, x75.ca, x75.pa, x75.ha, x75.fu, IntKind.i64.wrap (x83 + 1))))) else Option.some (Sum.inr (Sum.inl (x94, x93, x91, x90, x89, x87, x85, x84, x82)))
def play (p : Psn) (l : List (List Int)) : Option (Psn × List (List Int) × Int × Int) := let x99 := List.take p.zs.length (List.drop 0 p.zs); let x98 := x99.length; let x97 := Decidable.decide (x98 ≤ 64); needO x97 (bif !(Psn.mk p.f p.r x99 p.bl p.ca p.pa p.ha p.fu).ok || Decidable.decide (1000 < Int.ofNat l.length) then Option.some (Psn.mk 0 0 [] Bool.false 0 0 0 0, [], 0, 2) else needO x97 (loopO (play_s1 l) (fun (s48 : List (List Int) × List Int × Int × Int × Bool × Int × Int × Int × Int) => Option.some (Psn.mk s48.snd.snd.fst s48.snd.snd.snd.fst s48.snd.fst s48.snd.snd.snd.snd.fst s48.snd.snd.snd.snd.snd.fst s48.snd.snd.snd.snd.snd.snd.fst s48.snd.snd.snd.snd.snd.snd.snd.fst s48.snd.snd.snd.snd.snd.snd.snd.snd, s48.fst, 0, 0)) 1000000 ([], x99, p.f, p.r, p.bl, p.ca, p.pa, p.ha, p.fu, 0)))
def play_V (R : Psn × List (List Int) × Int × Int) : V := .tup [.agg [.int .i64 R.1.f, .int .i64 R.1.r, .sl 2 0 R.1.zs.length none, Bb R.1.bl, .int .u8 R.1.ca, .int .i64 R.1.pa, .int .i64 R.1.ha, .int .i64 R.1.fu], .sl 3 0 R.2.1.length none, .int .i64 R.2.2.1, .int .i64 R.2.2.2]
def play_N (R : Psn × List (List Int) × Int × Int) : List O := [.ints true .i8 R.1.zs, .rows true [.i64, .i64, .i8, .i8, .i64, .u8, .i64, .i64, .i64] R.2.1]
def c_play : CF
  | [.agg [.int .i64 p_0, .int .i64 p_1, .sl 0 0 p_2n none, .bool p_3, .int .u8 p_4, .int .i64 p_5, .int .i64 p_6, .int .i64 p_7], .sl 1 0 l_0n none], [.ints false .i8 p_2, .rows false [.i64, .i64, .i8] l_0] => retC (decide (p_2n = p_2.length) && decide (l_0n = l_0.length)) (play ⟨p_0, p_1, p_2, p_3, p_4, p_5, p_6, p_7⟩ l_0) (⟨0, 0, [], false, 0, 0, 0, 0⟩, [], 0, 0) play_V play_N
  | _, _ => none
theorem play_snd (p : Psn) (l : List (List Int)) {r} (hr : play p l = some r) : FnSound (GGx true kDb) PP 18 [.agg [.int .i64 p.f, .int .i64 p.r, .sl 0 0 p.zs.length none, Bb p.bl, .int .u8 p.ca, .int .i64 p.pa, .int .i64 p.ha, .int .i64 p.fu], .sl 1 0 l.length none] [.ints false .i8 p.zs, .rows false [.i64, .i64, .i8] l] (play_V r) (play_N r) := by
  have hE := cutE (EE_ok (kCa := true) (kDb := kDb) (cts := [(15, c_make), (46, c_pvalid), (52, c_pcopy)]) (inl := []) ⟨c_make_ok, c_pvalid_ok, c_pcopy_ok, trivial⟩ trivial)
  refine so_fn hE 2 Tryz.func18 rfl rfl play_V play_N hr ?_ rfl rfl
  refine so_as (pl (decide_eq_true (win_len rfl)) id) ?_
  refine so_triv (Bool.not_or_self _) ?_
  refine so_triv (Bool.not_or_self _) ?_
  refine so_triv (Bool.or_not_self _) ?_
  refine so_split hE 2 rfl ?_ ?_
  · exact so_ret (fin_phC 3 2 (.ints true .i8 []) rfl rfl rfl rfl <| fin_phT 5 (.rows true [.i64, .i64, .i8, .i8, .i64, .u8, .i64, .i64, .i64] []) rfl rfl rfl <| fin_bs [4, 5] (.inr rfl) rfl rfl rfl rfl rfl)
  refine so_as (pl (decide_eq_true (win_len rfl)) id) ?_
  refine so_loop hE 2 (fun (s15 : List (List Int) × List Int × Int × Int × Bool × Int × Int × Int × Int × Int) => let x102 := s15.snd.fst; let x103 := s15.fst; ([(4, V.ptr 2 0 0), (5, V.nils), (6, V.int IntKind.i64 0), (7, V.int IntKind.i64 0), (8, V.ptr 3 0 0), (9, V.sl 4 0 x103.length Option.none), (26, V.sl 1 0 l.length Option.none), (27, V.int IntKind.i64 (Int.ofNat l.length)), (28, V.int IntKind.i64 s15.snd.snd.snd.snd.snd.snd.snd.snd.snd)], [O.ints Bool.false IntKind.i8 p.zs, O.rows Bool.false [IntKind.i64, IntKind.i64, IntKind.i8] l, O.cells Bool.true [V.int IntKind.i64 0, V.int IntKind.i64 0, V.nils, V.bool Bool.false, V.int IntKind.u8 0, V.int IntKind.i64 0, V.int IntKind.i64 0, V.int IntKind.i64 0], O.cells Bool.true [V.int IntKind.i64 s15.snd.snd.fst, V.int IntKind.i64 s15.snd.snd.snd.fst, V.sl 5 0 x102.length Option.none, V.bool s15.snd.snd.snd.snd.fst, V.int IntKind.u8 s15.snd.snd.snd.snd.snd.fst, V.int IntKind.i64 s15.snd.snd.snd.snd.snd.snd.fst, V.int IntKind.i64 s15.snd.snd.snd.snd.snd.snd.snd.fst, V.int IntKind.i64 s15.snd.snd.snd.snd.snd.snd.snd.snd.fst], O.rows Bool.true [IntKind.i64, IntKind.i64, IntKind.i8, IntKind.i8, IntKind.i64, IntKind.u8, IntKind.i64, IntKind.i64, IntKind.i64] x103, O.ints Bool.true IntKind.i8 x102])) (fun (s48 : List (List Int) × List Int × Int × Int × Bool × Int × Int × Int × Int) => let x105 := s48.snd.fst; let x106 := s48.fst; ([(4, V.ptr 2 0 0), (5, V.nils), (6, V.int IntKind.i64 0), (7, V.int IntKind.i64 0), (8, V.ptr 3 0 0), (9, V.sl 4 0 x106.length Option.none)], [O.ints Bool.false IntKind.i8 p.zs, O.rows Bool.false [IntKind.i64, IntKind.i64, IntKind.i8] l, O.cells Bool.true [V.int IntKind.i64 0, V.int IntKind.i64 0, V.nils, V.bool Bool.false, V.int IntKind.u8 0, V.int IntKind.i64 0, V.int IntKind.i64 0, V.int IntKind.i64 0], O.cells Bool.true [V.int IntKind.i64 s48.snd.snd.fst, V.int IntKind.i64 s48.snd.snd.snd.fst, V.sl 5 0 x105.length Option.none, V.bool s48.snd.snd.snd.snd.fst, V.int IntKind.u8 s48.snd.snd.snd.snd.snd.fst, V.int IntKind.i64 s48.snd.snd.snd.snd.snd.snd.fst, V.int IntKind.i64 s48.snd.snd.snd.snd.snd.snd.snd.fst, V.int IntKind.i64 s48.snd.snd.snd.snd.snd.snd.snd.snd], O.rows Bool.true [IntKind.i64, IntKind.i64, IntKind.i8, IntKind.i8, IntKind.i64, IntKind.u8, IntKind.i64, IntKind.i64, IntKind.i64] x106, O.ints Bool.true IntKind.i8 x105])) (.exit 0) ((Ent.phT 9 (O.rows Bool.true [IntKind.i64, IntKind.i64, IntKind.i8, IntKind.i8, IntKind.i64, IntKind.u8, IntKind.i64, IntKind.i64, IntKind.i64] []) rfl rfl rfl rfl rfl).trans (Ent.rn [0, 1, 3, 5, 6, 4] [4, 5, 6, 7, 8, 9, 26, 27, 28] rfl rfl rfl rfl rfl)) (fun s15 => ?_) (fun s48 => ?_)
  · refine so_split hE 2 rfl ?_ ?_
    · refine so_need ?_
      refine so_as (pl (decide_eq_true (win_len rfl)) id) ?_
      refine so_split hE 2 rfl ?_ ?_
      · refine so_out (by simp) (so_out1 ?_)
        exact so_ret (fin_phC 2 2 (.ints true .i8 []) rfl rfl rfl rfl <| fin_phT 5 (.rows true [.i64, .i64, .i8, .i8, .i64, .u8, .i64, .i64, .i64] []) rfl rfl rfl <| fin_bs [10, 11] (.inr rfl) rfl rfl rfl rfl rfl)
      refine so_any hE 2 (let x115 := s15.snd.snd.snd.snd.snd.snd.snd.snd.snd; let x116 := s15.snd.fst; let x112 := Psn.mk s15.snd.snd.fst s15.snd.snd.snd.fst (List.take x116.length (List.drop 0 x116)) s15.snd.snd.snd.snd.fst s15.snd.snd.snd.snd.snd.fst s15.snd.snd.snd.snd.snd.snd.fst s15.snd.snd.snd.snd.snd.snd.snd.fst s15.snd.snd.snd.snd.snd.snd.snd.snd.fst; let x114 := l.getD x115.toNat []; let x113 := Mov.mk (x114.getD 0 0) (x114.getD 1 0) (x114.getD 2 0); let x110 := mkP x112 x113; let x111 := mkU x112 x113; let x108 := x110.zs; let x109 := x111.m; let x107 := s15.fst ++ List.take 1 (List.drop 0 [iL [x109.a, x109.b, x109.p, x111.c, x111.at_, x111.ca, x111.pa, x111.ha, x111.fu]]); fun (s16 : Unit) => ([(4, V.ptr 2 0 0), (5, V.nils), (6, V.int IntKind.i64 0), (7, V.int IntKind.i64 0), (8, V.ptr 3 0 0), (9, V.sl 4 0 x107.length Option.none), (26, V.sl 1 0 l.length Option.none), (27, V.int IntKind.i64 (Int.ofNat l.length)), (28, V.int IntKind.i64 x115)], [O.ints Bool.false IntKind.i8 p.zs, O.rows Bool.false [IntKind.i64, IntKind.i64, IntKind.i8] l, O.cells Bool.true [V.int IntKind.i64 0, V.int IntKind.i64 0, V.nils, V.bool Bool.false, V.int IntKind.u8 0, V.int IntKind.i64 0, V.int IntKind.i64 0, V.int IntKind.i64 0], O.cells Bool.true [V.int IntKind.i64 x110.f, V.int IntKind.i64 x110.r, V.sl 5 0 x108.length Option.none, V.bool x110.bl, V.int IntKind.u8 x110.ca, V.int IntKind.i64 x110.pa, V.int IntKind.i64 x110.ha, V.int IntKind.i64 x110.fu], O.rows Bool.true [IntKind.i64, IntKind.i64, IntKind.i8, IntKind.i8, IntKind.i64, IntKind.u8, IntKind.i64, IntKind.i64, IntKind.i64] x107, O.ints Bool.true IntKind.i8 x108])) ?_ (fun s16 => ?_)
      · refine so_both ?_ ?_
        · refine so_both ?_ ?_
          · refine so_as (pr (pl (decide_eq_true rfl) id) rfl) ?_
            exact so_nrm ((Ent.rn [0, 1, 2, 3, 11, 7] [4, 5, 6, 7, 8, 9, 26, 27, 28] rfl rfl rfl rfl rfl))
          refine so_both ?_ ?_
          · refine so_as (pr (pl (decide_eq_true rfl) id) rfl) ?_
            exact so_nrm ((Ent.rn [0, 1, 2, 3, 11, 7] [4, 5, 6, 7, 8, 9, 26, 27, 28] rfl rfl rfl rfl rfl))
          refine so_as (pr (pl (decide_eq_true rfl) id) rfl) ?_
          exact so_nrm ((Ent.rn [0, 1, 2, 3, 11, 7] [4, 5, 6, 7, 8, 9, 26, 27, 28] rfl rfl rfl rfl rfl))
        refine so_both ?_ ?_
        · refine so_both ?_ ?_
          · refine so_as (pr (pl (decide_eq_true rfl) id) rfl) ?_
            exact so_nrm ((Ent.rn [0, 1, 2, 3, 11, 7] [4, 5, 6, 7, 8, 9, 26, 27, 28] rfl rfl rfl rfl rfl))
          refine so_both ?_ ?_
          · refine so_as (pr (pl (decide_eq_true rfl) id) rfl) ?_
            exact so_nrm ((Ent.rn [0, 1, 2, 3, 11, 7] [4, 5, 6, 7, 8, 9, 26, 27, 28] rfl rfl rfl rfl rfl))
          refine so_both ?_ ?_
          · refine so_as (pr (pl (decide_eq_true rfl) id) rfl) ?_
            exact so_nrm ((Ent.rn [0, 1, 2, 3, 11, 7] [4, 5, 6, 7, 8, 9, 26, 27, 28] rfl rfl rfl rfl rfl))
          refine so_as (pr (pl (decide_eq_true rfl) id) rfl) ?_
          exact so_nrm ((Ent.rn [0, 1, 2, 3, 11, 7] [4, 5, 6, 7, 8, 9, 26, 27, 28] rfl rfl rfl rfl rfl))
        refine so_both ?_ ?_
        · refine so_both ?_ ?_
          · refine so_as (pr (pl (decide_eq_true rfl) id) rfl) ?_
            exact so_nrm ((Ent.rn [0, 1, 2, 3, 11, 7] [4, 5, 6, 7, 8, 9, 26, 27, 28] rfl rfl rfl rfl rfl))
          refine so_as (pr (pl (decide_eq_true rfl) id) rfl) ?_
          exact so_nrm ((Ent.rn [0, 1, 2, 3, 11, 7] [4, 5, 6, 7, 8, 9, 26, 27, 28] rfl rfl rfl rfl rfl))
        refine so_both ?_ ?_
        · refine so_both ?_ ?_
          · refine so_as (pr (pl (decide_eq_true rfl) id) rfl) ?_
            exact so_nrm ((Ent.rn [0, 1, 2, 3, 11, 7] [4, 5, 6, 7, 8, 9, 26, 27, 28] rfl rfl rfl rfl rfl))
          refine so_both ?_ ?_
          · refine so_as (pr (pl (decide_eq_true rfl) id) rfl) ?_
            exact so_nrm ((Ent.rn [0, 1, 2, 3, 11, 7] [4, 5, 6, 7, 8, 9, 26, 27, 28] rfl rfl rfl rfl rfl))
          refine so_as (pr (pl (decide_eq_true rfl) id) rfl) ?_
          exact so_nrm ((Ent.rn [0, 1, 2, 3, 11, 7] [4, 5, 6, 7, 8, 9, 26, 27, 28] rfl rfl rfl rfl rfl))
        refine so_both ?_ ?_
        · refine so_as (pr (pl (decide_eq_true rfl) id) rfl) ?_
          exact so_nrm ((Ent.rn [0, 1, 2, 3, 11, 7] [4, 5, 6, 7, 8, 9, 26, 27, 28] rfl rfl rfl rfl rfl))
        refine so_both ?_ ?_
        · refine so_as (pr (pl (decide_eq_true rfl) id) rfl) ?_
          exact so_nrm ((Ent.rn [0, 1, 2, 3, 11, 7] [4, 5, 6, 7, 8, 9, 26, 27, 28] rfl rfl rfl rfl rfl))
        refine so_as (pr (pl (decide_eq_true rfl) id) rfl) ?_
        exact so_nrm ((Ent.rn [0, 1, 2, 3, 11, 7] [4, 5, 6, 7, 8, 9, 26, 27, 28] rfl rfl rfl rfl rfl))
      exact so_next ((Ent.rn [0, 1, 2, 3, 4, 5] [4, 5, 6, 7, 8, 9, 26, 27, 28] rfl rfl rfl rfl rfl))
    exact so_exit ((Ent.rn [0, 1, 2, 3, 4, 5] [4, 5, 6, 7, 8, 9] rfl rfl rfl rfl rfl))
  exact so_ret (fin_bs [5, 4] (.inr rfl) rfl rfl rfl rfl rfl)
theorem c_play_ok : CtOk (GGx true kDb) PP (18, c_play) := by
  refine ct_mk Tryz.func18 (by kernel_rfl) rfl fun a0 h0 c0 v0 N0 e hc => ?_
  unfold c_play at e
  split at e
  · rename_i p_0 p_1 p_2n p_3 p_4 p_5 p_6 p_7 l_0n p_2 l_0
    obtain ⟨hl, r, hr, rfl, rfl⟩ := ret_ok e hc
    simp only [Bool.and_eq_true, decide_eq_true_eq] at hl
    obtain ⟨rfl, rfl⟩ := hl
    exact play_snd ⟨p_0, p_1, p_2, p_3, p_4, p_5, p_6, p_7⟩ l_0 hr
  · cases e
end Go.Ab

set_option maxRecDepth 100000
set_option maxHeartbeats 4000000
namespace Go.Ab
open Go.Proofs
variable {kCa kDb : Bool}
def refPlay_s1 : List (List Int) → List (List Int) × List Int × Int × Int × Bool × Int × Int × Int × Int × Int → Option (List (List Int) × List Int × Int × Int × Bool × Int × Int × Int × Int × Int ⊕ List (List Int) × List Int × Int × Int × Bool × Int × Int × Int × Int ⊕ Psn × List (List Int) × Int × Int) := fun (l : List (List Int)) (s15 : List (List Int) × List Int × Int × Int × Bool × Int × Int × Int × Int × Int) => let x81 := s15.snd.snd.snd.snd.snd.snd.snd.snd.snd; let x82 := s15.snd.snd.snd.snd.snd.snd.snd.snd.fst; let x83 := s15.snd.snd.snd.snd.snd.snd.snd.fst; let x84 := s15.snd.snd.snd.snd.snd.snd.fst; let x87 := s15.snd.snd.snd.snd.snd.fst; let x88 := s15.snd.snd.snd.snd.fst; let x89 := s15.snd.snd.snd.fst; let x90 := s15.snd.snd.fst; let x92 := s15.snd.fst; let x93 := s15.fst; let x79 := Decidable.decide (x81 < Int.ofNat l.length); let x80 := l.getD x81.toNat []; let x86 := List.take x92.length (List.drop 0 x92); let x91 := (x93.length + 1) * 72; let x77 := Psn.mk x90 x89 x86 x88 x87 x84 x83 x82; let x78 := Mov.mk (x80.getD 0 0) (x80.getD 1 0) (x80.getD 2 0); let x85 := x86.length; let x74 := rmE x77 x78; let x75 := rmP x77 x78; let x76 := rmU x77 x78; let x73 := x76.m; bif x79 then needO (Decidable.decide (0 ≤ x81) && x79) (needO (Decidable.decide (x85 ≤ 64)) (bif !Decidable.decide (x74 = 0) then escO (escO (Option.some (Psn.mk 0 0 [] Bool.false 0 0 0 0, [], x81, x74))) else needO (Decidable.decide (x91 ≤ 140737488355328)) (Option.some (Sum.inl (x93 ++ List.take 1 (List.drop 0 [iL [x73.a, x73.b, x73.p, x76.c, x76.at_, x76.ca, x76.pa, x76.ha, x76.fu]]), x75.zs, x75.f, x75.r, x75.bl, x75.ca, x75.pa, x75.ha, x75.fu, IntKind.i64.wrap (x81 + 1)))))) else Option.some (Sum.inr (Sum.inl (x93, x92, x90, x89, x88, x87, x84, x83, x82)))
def refPlay (p : Psn) (l : List (List Int)) : Option (Psn × List (List Int) × Int × Int) := let x97 := List.take p.zs.length (List.drop 0 p.zs); let x96 := x97.length; let x95 := Decidable.decide (x96 ≤ 64); needO x95 (bif !validL (Psn.mk p.f p.r x97 p.bl p.ca p.pa p.ha p.fu) || Decidable.decide (1000 < Int.ofNat l.length) then Option.some (Psn.mk 0 0 [] Bool.false 0 0 0 0, [], 0, 2) else needO x95 (loopO (refPlay_s1 l) (fun (s47 : List (List Int) × List Int × Int × Int × Bool × Int × Int × Int × Int) => Option.some (Psn.mk s47.snd.snd.fst s47.snd.snd.snd.fst s47.snd.fst s47.snd.snd.snd.snd.fst s47.snd.snd.snd.snd.snd.fst s47.snd.snd.snd.snd.snd.snd.fst s47.snd.snd.snd.snd.snd.snd.snd.fst s47.snd.snd.snd.snd.snd.snd.snd.snd, s47.fst, 0, 0)) 1000000 ([], x97, p.f, p.r, p.bl, p.ca, p.pa, p.ha, p.fu, 0)))
def refPlay_V (R : Psn × List (List Int) × Int × Int) : V := .tup [.agg [.int .i64 R.1.f, .int .i64 R.1.r, .sl 2 0 R.1.zs.length none, Bb R.1.bl, .int .u8 R.1.ca, .int .i64 R.1.pa, .int .i64 R.1.ha, .int .i64 R.1.fu], .sl 3 0 R.2.1.length none, .int .i64 R.2.2.1, .int .i64 R.2.2.2]
def refPlay_N (R : Psn × List (List Int) × Int × Int) : List O := [.ints true .i8 R.1.zs, .rows true [.i64, .i64, .i8, .i8, .i64, .u8, .i64, .i64, .i64] R.2.1]
def c_refPlay : CF
  | [.agg [.int .i64 p_0, .int .i64 p_1, .sl 0 0 p_2n none, .bool p_3, .int .u8 p_4, .int .i64 p_5, .int .i64 p_6, .int .i64 p_7], .sl 1 0 l_0n none], [.ints false .i8 p_2, .rows false [.i64, .i64, .i8] l_0] => retC (decide (p_2n = p_2.length) && decide (l_0n = l_0.length)) (refPlay ⟨p_0, p_1, p_2, p_3, p_4, p_5, p_6, p_7⟩ l_0) (⟨0, 0, [], false, 0, 0, 0, 0⟩, [], 0, 0) refPlay_V refPlay_N
  | _, _ => none
theorem refPlay_snd (p : Psn) (l : List (List Int)) {r} (hr : refPlay p l = some r) : FnSound (GGx kCa kDb) PP 19 [.agg [.int .i64 p.f, .int .i64 p.r, .sl 0 0 p.zs.length none, Bb p.bl, .int .u8 p.ca, .int .i64 p.pa, .int .i64 p.ha, .int .i64 p.fu], .sl 1 0 l.length none] [.ints false .i8 p.zs, .rows false [.i64, .i64, .i8] l] (refPlay_V r) (refPlay_N r) := by
  have hE := cutE (EE_ok (kCa := kCa) (kDb := kDb) (cts := [(14, c_rcopy), (16, c_rmake), (25, c_rvalid)]) (inl := []) ⟨c_rcopy_ok, c_rmake_ok, c_rvalid_ok, trivial⟩ trivial)
  refine so_fn hE 2 Tryz.func19 rfl rfl refPlay_V refPlay_N hr ?_ rfl rfl
  refine so_as (pl (decide_eq_true (win_len rfl)) id) ?_
  refine so_triv (Bool.not_or_self _) ?_
  refine so_triv (Bool.not_or_self _) ?_
  refine so_triv (Bool.or_not_self _) ?_
  refine so_split hE 2 rfl ?_ ?_
  · exact so_ret (fin_phC 3 2 (.ints true .i8 []) rfl rfl rfl rfl <| fin_phT 5 (.rows true [.i64, .i64, .i8, .i8, .i64, .u8, .i64, .i64, .i64] []) rfl rfl rfl <| fin_bs [4, 5] (.inr rfl) rfl rfl rfl rfl rfl)
  refine so_as (pl (decide_eq_true (win_len rfl)) id) ?_
  refine so_loop hE 2 (fun (s15 : List (List Int) × List Int × Int × Int × Bool × Int × Int × Int × Int × Int) => let x100 := s15.snd.fst; let x101 := s15.fst; ([(1, V.sl 1 0 l.length Option.none), (4, V.ptr 2 0 0), (5, V.nils), (6, V.int IntKind.i64 0), (7, V.int IntKind.i64 0), (8, V.ptr 3 0 0), (9, V.sl 4 0 x101.length Option.none), (10, V.int IntKind.i64 s15.snd.snd.snd.snd.snd.snd.snd.snd.snd)], [O.ints Bool.false IntKind.i8 p.zs, O.rows Bool.false [IntKind.i64, IntKind.i64, IntKind.i8] l, O.cells Bool.true [V.int IntKind.i64 0, V.int IntKind.i64 0, V.nils, V.bool Bool.false, V.int IntKind.u8 0, V.int IntKind.i64 0, V.int IntKind.i64 0, V.int IntKind.i64 0], O.cells Bool.true [V.int IntKind.i64 s15.snd.snd.fst, V.int IntKind.i64 s15.snd.snd.snd.fst, V.sl 5 0 x100.length Option.none, V.bool s15.snd.snd.snd.snd.fst, V.int IntKind.u8 s15.snd.snd.snd.snd.snd.fst, V.int IntKind.i64 s15.snd.snd.snd.snd.snd.snd.fst, V.int IntKind.i64 s15.snd.snd.snd.snd.snd.snd.snd.fst, V.int IntKind.i64 s15.snd.snd.snd.snd.snd.snd.snd.snd.fst], O.rows Bool.true [IntKind.i64, IntKind.i64, IntKind.i8, IntKind.i8, IntKind.i64, IntKind.u8, IntKind.i64, IntKind.i64, IntKind.i64] x101, O.ints Bool.true IntKind.i8 x100])) (fun (s47 : List (List Int) × List Int × Int × Int × Bool × Int × Int × Int × Int) => let x103 := s47.snd.fst; let x104 := s47.fst; ([(4, V.ptr 2 0 0), (5, V.nils), (6, V.int IntKind.i64 0), (7, V.int IntKind.i64 0), (8, V.ptr 3 0 0), (9, V.sl 4 0 x104.length Option.none)], [O.ints Bool.false IntKind.i8 p.zs, O.rows Bool.false [IntKind.i64, IntKind.i64, IntKind.i8] l, O.cells Bool.true [V.int IntKind.i64 0, V.int IntKind.i64 0, V.nils, V.bool Bool.false, V.int IntKind.u8 0, V.int IntKind.i64 0, V.int IntKind.i64 0, V.int IntKind.i64 0], O.cells Bool.true [V.int IntKind.i64 s47.snd.snd.fst, V.int IntKind.i64 s47.snd.snd.snd.fst, V.sl 5 0 x103.length Option.none, V.bool s47.snd.snd.snd.snd.fst, V.int IntKind.u8 s47.snd.snd.snd.snd.snd.fst, V.int IntKind.i64 s47.snd.snd.snd.snd.snd.snd.fst, V.int IntKind.i64 s47.snd.snd.snd.snd.snd.snd.snd.fst, V.int IntKind.i64 s47.snd.snd.snd.snd.snd.snd.snd.snd], O.rows Bool.true [IntKind.i64, IntKind.i64, IntKind.i8, IntKind.i8, IntKind.i64, IntKind.u8, IntKind.i64, IntKind.i64, IntKind.i64] x104, O.ints Bool.true IntKind.i8 x103])) (.exit 0) ((Ent.phT 9 (O.rows Bool.true [IntKind.i64, IntKind.i64, IntKind.i8, IntKind.i8, IntKind.i64, IntKind.u8, IntKind.i64, IntKind.i64, IntKind.i64] []) rfl rfl rfl rfl rfl).trans (Ent.rn [0, 1, 3, 5, 6, 4] [1, 4, 5, 6, 7, 8, 9, 10] rfl rfl rfl rfl rfl)) (fun s15 => ?_) (fun s47 => ?_)
  · refine so_split hE 2 rfl ?_ ?_
    · refine so_triv rfl ?_
      refine so_need ?_
      refine so_as (pl (decide_eq_true (win_len rfl)) id) ?_
      refine so_split hE 2 rfl ?_ ?_
      · refine so_out (by simp) (so_out1 ?_)
        exact so_ret (fin_phC 2 2 (.ints true .i8 []) rfl rfl rfl rfl <| fin_phT 5 (.rows true [.i64, .i64, .i8, .i8, .i64, .u8, .i64, .i64, .i64] []) rfl rfl rfl <| fin_bs [9, 10] (.inr rfl) rfl rfl rfl rfl rfl)
      refine so_as (pr (pl (decide_eq_true rfl) id) rfl) ?_
      exact so_next ((Ent.rn [0, 1, 2, 3, 10, 8] [1, 4, 5, 6, 7, 8, 9, 10] rfl rfl rfl rfl rfl))
    exact so_exit ((Ent.rn [0, 1, 2, 3, 4, 5] [4, 5, 6, 7, 8, 9] rfl rfl rfl rfl rfl))
  exact so_ret (fin_bs [5, 4] (.inr rfl) rfl rfl rfl rfl rfl)
theorem c_refPlay_ok : CtOk (GGx kCa kDb) PP (19, c_refPlay) := by
  refine ct_mk Tryz.func19 (by kernel_rfl) rfl fun a0 h0 c0 v0 N0 e hc => ?_
  unfold c_refPlay at e
  split at e
  · rename_i p_0 p_1 p_2n p_3 p_4 p_5 p_6 p_7 l_0n p_2 l_0
    obtain ⟨hl, r, hr, rfl, rfl⟩ := ret_ok e hc
    simp only [Bool.and_eq_true, decide_eq_true_eq] at hl
    obtain ⟨rfl, rfl⟩ := hl
    exact refPlay_snd ⟨p_0, p_1, p_2, p_3, p_4, p_5, p_6, p_7⟩ l_0 hr
  · cases e
end Go.Ab

set_option maxRecDepth 100000
set_option maxHeartbeats 4000000
namespace Go.Ab
open Go.Proofs
variable {kCa kDb : Bool}
def orCF (c1 c2 : CF) : CF := fun a h => match c1 a h with
  | some x => some x
  | none => c2 a h
theorem orCF_ok {G : List O} {P : Program} {f : FuncId} {c1 c2 : CF} (h1 : CtOk G P (f, c1)) (h2 : CtOk G P (f, c2)) : CtOk G P (f, orCF c1 c2) := by
  refine ⟨h1.1, fun a h c v N e hc => ?_⟩
  change orCF c1 c2 a h = _ at e
  unfold orCF at e
  split at e
  · rename_i x hx
    cases e
    exact h1.2 a h c v N hx hc
  · exact h2.2 a h c v N e hc
def c_requal0 : CF
  | [.agg [.int .i64 f, .int .i64 r, .sl 0 0 len none, .bool bl, .int .u8 ca, .int .i64 pa, .int .i64 ha, .int .i64 fu], .agg [.int .i64 f2, .int .i64 r2, .nils, .bool bl2, .int .u8 ca2, .int .i64 pa2, .int .i64 ha2, .int .i64 fu2]], [.ints false .i8 zs] => some (decide (len = zs.length) && decide (zs.length ≤ 64), .bool (equalB ⟨f, r, zs, bl, ca, pa, ha, fu⟩ ⟨f2, r2, [], bl2, ca2, pa2, ha2, fu2⟩), [])
  | _, _ => none
theorem c_requal0_ok : CtOk (GGx kCa kDb) PP (17, c_requal0) := by
  refine ct_mk Tryz.func17 (by kernel_rfl) rfl fun a0 h0 c0 v0 N0 e hc => ?_
  unfold c_requal0 at e
  split at e
  · rename_i f r len bl ca pa ha fu f2 r2 bl2 ca2 pa2 ha2 fu2 zs
    cases e
    simp only [Bool.and_eq_true, decide_eq_true_eq] at hc
    obtain ⟨rfl, hc2⟩ := hc
    refine FnSound.nil (args' := [.agg [.int .i64 f, .int .i64 r, .sl 0 0 zs.length none, .bool bl, .int .u8 ca, .int .i64 pa, .int .i64 ha, .int .i64 fu], .agg [.int .i64 f2, .int .i64 r2, .sl 1 0 0 none, .bool bl2, .int .u8 ca2, .int .i64 pa2, .int .i64 ha2, .int .i64 fu2]]) .i8 (blt_lt rfl) ?_ ((c_requal_ok (kCa := kCa) (kDb := kDb)).2 _ _ _ _ _ rfl (by simp [hc2]))
    rintro ρ us h1 ⟨u1, r1, rfl, h2, u2, r2, rfl, ⟨ws, rfl, x0, y0, rfl, e0, x1, y1, rfl, e1, x2, y2, rfl, e2, e3⟩, e4⟩
    exact ⟨u1, _, rfl, h2, _, _, rfl, ⟨_, rfl, x0, _, rfl, e0, x1, _, rfl, e1, x2, _, rfl, vr_ph h1 e2, e3⟩, e4⟩
  · cases e
def c_requalX : CF := orCF c_requal c_requal0
theorem c_requalX_ok : CtOk (GGx kCa kDb) PP (17, c_requalX) := orCF_ok c_requal_ok c_requal0_ok
end Go.Ab

set_option maxRecDepth 100000
set_option maxHeartbeats 4000000
namespace Go.Ab
open Go.Proofs
variable {kCa kDb : Bool}
def lawPlays_s1 : List (List Int) → Int → List (List Int) × Int → Option (List (List Int) × Int ⊕ List (List Int) ⊕ Bool) := fun (l : List (List Int)) (many : Int) (s9 : List (List Int) × Int) => let x20 := (s9.fst.length + 1) * 24; bif Decidable.decide (s9.snd < many) then needO (Decidable.decide (0 < Int.ofNat l.length)) (needO (Decidable.decide (x20 ≤ 140737488355328)) (Option.some (Sum.inl (s9.fst ++ List.take 1 (List.drop 0 [iL [(l.getD (Int.toNat 0) []).getD 0 0, (l.getD (Int.toNat 0) []).getD 1 0, (l.getD (Int.toNat 0) []).getD 2 0]]), IntKind.i64.wrap (s9.snd + 1))))) else Option.some (Sum.inr (Sum.inl s9.fst))
def lawPlays (p : Psn) (l : List (List Int)) (many : Int) : Option (Bool) := let x22 := Psn.mk 0 0 [] Bool.false 0 0 0 0; let x23 := Psn.mk p.f p.r (List.take p.zs.length (List.drop 0 p.zs)) p.bl p.ca p.pa p.ha p.fu; let x24 := List.take l.length (List.drop 0 l); callO (small8 x23) Bool.false fun (y3 : Bool) => bif !y3 || Decidable.decide (30 < Int.ofNat l.length) then Option.some Bool.true else callO (play x23 x24) (x22, [], 0, 0) fun (y4 : Psn × List (List Int) × Int × Int) => let x30 := List.take y4.fst.zs.length (List.drop 0 y4.fst.zs); let x31 := y4.snd.snd.snd; let x32 := y4.snd.snd.fst; let x33 := y4.snd.fst; let x27 := Psn.mk y4.fst.f y4.fst.r x30 y4.fst.bl y4.fst.ca y4.fst.pa y4.fst.ha y4.fst.fu; let x28 := List.take x33.length (List.drop 0 x33); let x29 := x30.length; callO (refPlay x23 x24) (x22, [], 0, 0) fun (y5 : Psn × List (List Int) × Int × Int) => let x38 := List.take y5.fst.zs.length (List.drop 0 y5.fst.zs); let x39 := y5.snd.snd.fst; let x40 := y5.snd.snd.snd; let x41 := y5.snd.fst; let x35 := !equalB x27 (Psn.mk y5.fst.f y5.fst.r x38 y5.fst.bl y5.fst.ca y5.fst.pa y5.fst.ha y5.fst.fu); let x36 := List.take x41.length (List.drop 0 x41); let x37 := x38.length; needO (Decidable.decide (x29 ≤ 64) && Decidable.decide (x37 ≤ 64)) (needO (!!x35 || (same8 x28 x36).isSome) (bif x35 || !(same8 x28 x36).getD Bool.false || !Decidable.decide (x32 = x39) || !Decidable.decide (x31 = x40) then Option.some Bool.false else bif Decidable.decide (many < 1001) || Decidable.decide (1005 < many) || Decidable.decide (Int.ofNat l.length = 0) then Option.some Bool.true else loopO (lawPlays_s1 l many) (fun (s17 : List (List Int)) => callO (play (Psn.mk p.f p.r (List.take p.zs.length (List.drop 0 p.zs)) p.bl p.ca p.pa p.ha p.fu) (List.take s17.length (List.drop 0 s17))) (x22, [], 0, 0) fun (y18 : Psn × List (List Int) × Int × Int) => let x45 := List.take y18.fst.zs.length (List.drop 0 y18.fst.zs); let x46 := Int.ofNat y18.snd.fst.length; let x47 := y18.snd.snd.fst; let x48 := y18.snd.snd.snd; let x44 := x45.length; needO (Decidable.decide (x44 ≤ 64)) (Option.some (equalB (Psn.mk y18.fst.f y18.fst.r x45 y18.fst.bl y18.fst.ca y18.fst.pa y18.fst.ha y18.fst.fu) x22 && Decidable.decide (x46 = 0) && Decidable.decide (x47 = 0) && Decidable.decide (x48 = 2) && Bool.true))) 1000000 ([], 0)))
def lawPlays_V (R : Bool) : V := Bb R
def lawPlays_N (_R : Bool) : List O := []
theorem lawPlays_snd (p : Psn) (l : List (List Int)) (many : Int) {r} (hr : lawPlays p l many = some r) : FnSound (GGx true false) PP 4 [.agg [.int .i64 p.f, .int .i64 p.r, .sl 0 0 p.zs.length none, Bb p.bl, .int .u8 p.ca, .int .i64 p.pa, .int .i64 p.ha, .int .i64 p.fu], .sl 1 0 l.length none, .int .i64 many] [.ints false .i8 p.zs, .rows false [.i64, .i64, .i8] l] (lawPlays_V r) (lawPlays_N r) := by
  have hE := cutE (EE_ok (kCa := true) (kDb := false) (cts := [(12, c_small8), (13, c_known8), (17, c_requalX), (18, c_play), (19, c_refPlay), (20, c_same8)]) (inl := []) ⟨c_small8_ok, c_known8_ok, c_requalX_ok, c_play_ok, c_refPlay_ok, c_same8_ok, trivial⟩ trivial)
  refine so_fn hE 2 Tryz.func4 rfl rfl lawPlays_V lawPlays_N hr ?_ rfl rfl
  unfold lawPlays
  refine so_callas (pl (decide_eq_true (win_len rfl)) id) ?_
  refine so_triv (Bool.not_or_self _) ?_
  refine so_triv (Bool.not_or_self _) ?_
  refine so_triv (Bool.or_not_self _) ?_
  refine so_split hE 2 rfl ?_ ?_
  · refine so_triv rfl ?_
    exact so_ret (fin_bs [] (.inr rfl) rfl rfl rfl rfl rfl)
  refine so_callas (pl (pa (decide_eq_true (win_len rfl)) (decide_eq_true (win_len rfl))) id) ?_
  refine so_callas (pl (pa (decide_eq_true (win_len rfl)) (decide_eq_true (win_len rfl))) id) ?_
  refine so_as (pb (pr (pl (decide_eq_true (win_len rfl)) id) (decide_eq_true (win_len rfl))) id) ?_
  refine so_triv (Bool.not_or_self _) ?_
  refine so_triv (Bool.not_or_self _) ?_
  refine so_as (pi (pl (pa (decide_eq_true (win_len rfl)) (decide_eq_true (win_len rfl))) id)) ?_
  refine so_triv (Bool.not_or_self _) ?_
  refine so_triv (Bool.or_not_self _) ?_
  refine so_triv (Bool.not_or_self _) ?_
  refine so_triv (Bool.not_or_self _) ?_
  refine so_triv (Bool.or_not_self _) ?_
  refine so_triv (Bool.not_or_self _) ?_
  refine so_triv (Bool.not_or_self _) ?_
  refine so_triv (Bool.or_not_self _) ?_
  refine so_split hE 2 rfl ?_ ?_
  · exact so_ret (fin_bs [] (.inr rfl) rfl rfl rfl rfl rfl)
  refine so_triv (Bool.not_or_self _) ?_
  refine so_triv (Bool.or_not_self _) ?_
  refine so_triv (Bool.not_or_self _) ?_
  refine so_triv (Bool.not_or_self _) ?_
  refine so_triv (Bool.or_not_self _) ?_
  refine so_split hE 2 rfl ?_ ?_
  · refine so_triv rfl ?_
    exact so_ret (fin_bs [] (.inr rfl) rfl rfl rfl rfl rfl)
  refine so_loop hE 2 (let x52 := Psn.mk 0 0 [] Bool.false 0 0 0 0; let x53 := Psn.mk p.f p.r (List.take p.zs.length (List.drop 0 p.zs)) p.bl p.ca p.pa p.ha p.fu; let x54 := List.take l.length (List.drop 0 l); let x49 := ((play x53 x54).getD (x52, [], 0, 0)).snd.fst; let x51 := ((play x53 x54).getD (x52, [], 0, 0)).fst; let x50 := x51.zs; fun (s9 : List (List Int) × Int) => ([(1, V.sl 1 0 l.length Option.none), (2, V.int IntKind.i64 many), (3, V.ptr 2 0 0), (6, V.bool Bool.false), (7, V.ptr 3 0 0), (8, V.sl 4 0 x49.length Option.none), (9, V.int IntKind.i64 ((play x53 x54).getD (x52, [], 0, 0)).snd.snd.fst), (10, V.int IntKind.i64 ((play x53 x54).getD (x52, [], 0, 0)).snd.snd.snd), (15, V.sl 5 0 s9.fst.length Option.none), (16, V.int IntKind.i64 s9.snd)], [O.ints Bool.false IntKind.i8 p.zs, O.rows Bool.false [IntKind.i64, IntKind.i64, IntKind.i8] l, O.cells Bool.true [V.int IntKind.i64 p.f, V.int IntKind.i64 p.r, V.sl 0 0 p.zs.length Option.none, V.bool p.bl, V.int IntKind.u8 p.ca, V.int IntKind.i64 p.pa, V.int IntKind.i64 p.ha, V.int IntKind.i64 p.fu], O.cells Bool.true [V.int IntKind.i64 x51.f, V.int IntKind.i64 x51.r, V.sl 6 0 x50.length Option.none, V.bool x51.bl, V.int IntKind.u8 x51.ca, V.int IntKind.i64 x51.pa, V.int IntKind.i64 x51.ha, V.int IntKind.i64 x51.fu], O.rows Bool.true [IntKind.i64, IntKind.i64, IntKind.i8, IntKind.i8, IntKind.i64, IntKind.u8, IntKind.i64, IntKind.i64, IntKind.i64] x49, O.rows Bool.true [IntKind.i64, IntKind.i64, IntKind.i8] s9.fst, O.ints Bool.true IntKind.i8 x50])) (let x59 := Psn.mk 0 0 [] Bool.false 0 0 0 0; let x60 := Psn.mk p.f p.r (List.take p.zs.length (List.drop 0 p.zs)) p.bl p.ca p.pa p.ha p.fu; let x61 := List.take l.length (List.drop 0 l); let x56 := ((play x60 x61).getD (x59, [], 0, 0)).snd.fst; let x58 := ((play x60 x61).getD (x59, [], 0, 0)).fst; let x57 := x58.zs; fun (s17 : List (List Int)) => ([(3, V.ptr 2 0 0), (6, V.bool Bool.false), (7, V.ptr 3 0 0), (8, V.sl 4 0 x56.length Option.none), (9, V.int IntKind.i64 ((play x60 x61).getD (x59, [], 0, 0)).snd.snd.fst), (10, V.int IntKind.i64 ((play x60 x61).getD (x59, [], 0, 0)).snd.snd.snd), (15, V.sl 5 0 s17.length Option.none)], [O.ints Bool.false IntKind.i8 p.zs, O.rows Bool.false [IntKind.i64, IntKind.i64, IntKind.i8] l, O.cells Bool.true [V.int IntKind.i64 p.f, V.int IntKind.i64 p.r, V.sl 0 0 p.zs.length Option.none, V.bool p.bl, V.int IntKind.u8 p.ca, V.int IntKind.i64 p.pa, V.int IntKind.i64 p.ha, V.int IntKind.i64 p.fu], O.cells Bool.true [V.int IntKind.i64 x58.f, V.int IntKind.i64 x58.r, V.sl 6 0 x57.length Option.none, V.bool x58.bl, V.int IntKind.u8 x58.ca, V.int IntKind.i64 x58.pa, V.int IntKind.i64 x58.ha, V.int IntKind.i64 x58.fu], O.rows Bool.true [IntKind.i64, IntKind.i64, IntKind.i8, IntKind.i8, IntKind.i64, IntKind.u8, IntKind.i64, IntKind.i64, IntKind.i64] x56, O.rows Bool.true [IntKind.i64, IntKind.i64, IntKind.i8] s17, O.ints Bool.true IntKind.i8 x57])) (.exit 0) ((Ent.phT 15 (O.rows Bool.true [IntKind.i64, IntKind.i64, IntKind.i8] []) rfl rfl rfl rfl rfl).trans (Ent.rn [0, 1, 2, 5, 4, 9, 3] [1, 2, 3, 6, 7, 8, 9, 10, 15, 16] rfl rfl rfl rfl rfl)) (fun s9 => ?_) (fun s17 => ?_)
  · refine so_split hE 2 rfl ?_ ?_
    · refine so_as (pl rfl id) ?_
      refine so_as (pr (pl (decide_eq_true rfl) id) rfl) ?_
      exact so_next ((Ent.rn [0, 1, 2, 3, 4, 8, 6] [1, 2, 3, 6, 7, 8, 9, 10, 15, 16] rfl rfl rfl rfl rfl))
    exact so_exit ((Ent.rn [0, 1, 2, 3, 4, 5, 6] [3, 6, 7, 8, 9, 10, 15] rfl rfl rfl rfl rfl))
  refine so_callas (pl (pa (decide_eq_true (win_len rfl)) (decide_eq_true (win_len rfl))) id) ?_
  refine so_as (pl (decide_eq_true (win_len rfl)) id) ?_
  refine so_triv (Bool.not_or_self _) ?_
  refine so_triv (Bool.not_or_self _) ?_
  refine so_triv (Bool.not_or_self _) ?_
  refine so_triv (Bool.not_or_self _) ?_
  refine so_triv (Bool.not_or_self _) ?_
  refine so_triv (Bool.not_or_self _) ?_
  refine so_triv (Bool.not_or_self _) ?_
  refine so_triv (pg rfl) ?_
  refine so_triv (Bool.not_or_self _) ?_
  exact so_ret (fin_bs [] (.inr rfl) rfl rfl rfl rfl rfl)
end Go.Ab

set_option maxRecDepth 100000
namespace Go.Ab
open Go.Proofs
theorem u8andn_nn (a b : Int) : 0 ≤ u8andn a b := by
  unfold u8andn band
  exact Int.emod_nonneg _ (by decide)
theorem mkP_ca {p : Psn} {m : Mov} : 0 ≤ (mkP p m).ca := by
  unfold mkP
  cases decide (mkE5 p m = 0)
  · exact Int.le_refl 0
  · exact u8andn_nn _ _
theorem psn_eta (q : Psn) : (⟨q.f, q.r, q.zs, q.bl, q.ca, q.pa, q.ha, q.fu⟩ : Psn) = q := rfl
abbrev PlS := List (List Int) × List Int × Int × Int × Bool × Int × Int × Int × Int × Int
def plM (l : List (List Int)) (i : Nat) : Mov := ⟨(l.getD i []).getD 0 0, (l.getD i []).getD 1 0, (l.getD i []).getD 2 0⟩
def plN (us : List (List Int)) (q : Psn) (i : Int) : PlS := (us, q.zs, q.f, q.r, q.bl, q.ca, q.pa, q.ha, q.fu, i)
theorem play_step {l : List (List Int)} {us : List (List Int)} {q : Psn} {i : Nat} (hi : i < l.length) (hl : l.length ≤ 1000) (hu : us.length = i) (hz : q.zs.length ≤ 64) :
    play_s1 l (plN us q i) = bif !decide (mkE5 q (plM l i) = 0) then some (.inr (.inr (psn0, [], (i : Int), mkE5 q (plM l i)))) else
      some (.inl (plN (us ++ [[(mkU q (plM l i)).m.a, (mkU q (plM l i)).m.b, (mkU q (plM l i)).m.p, (mkU q (plM l i)).c, (mkU q (plM l i)).at_, (mkU q (plM l i)).ca, (mkU q (plM l i)).pa, (mkU q (plM l i)).ha, (mkU q (plM l i)).fu]]) (mkP q (plM l i)) ((i + 1 : Nat) : Int))) := by
  unfold play_s1 plN
  simp only [List.drop_zero, List.take_length]
  have h1 : decide ((i : Int) < Int.ofNat l.length) = true := by simp; omega
  have h2 : decide ((0 : Int) ≤ i) = true := by simp
  have h3 : decide (q.zs.length ≤ 64) = true := by simpa using hz
  have h4 : decide ((us.length + 1) * 72 ≤ 140737488355328) = true := by simp; omega
  rw [h1, h2, h3, h4, w64_small (by omega) (by omega)]
  cases h : decide (mkE5 q (plM l i) = 0)
  · have h' : decide (mkE5 ⟨q.f, q.r, q.zs, q.bl, q.ca, q.pa, q.ha, q.fu⟩ ⟨(l.getD (i : Int).toNat []).getD 0 0, (l.getD (i : Int).toNat []).getD 1 0, (l.getD (i : Int).toNat []).getD 2 0⟩ = 0) = false := h
    rw [h']; rfl
  · have h' : decide (mkE5 ⟨q.f, q.r, q.zs, q.bl, q.ca, q.pa, q.ha, q.fu⟩ ⟨(l.getD (i : Int).toNat []).getD 0 0, (l.getD (i : Int).toNat []).getD 1 0, (l.getD (i : Int).toNat []).getD 2 0⟩ = 0) = true := h
    rw [h']; rfl
theorem play_last {l : List (List Int)} {us : List (List Int)} {q : Psn} {i : Nat} (hi : i = l.length) : play_s1 l (plN us q i) = some (.inr (.inl (us, q.zs, q.f, q.r, q.bl, q.ca, q.pa, q.ha, q.fu))) := by
  unfold play_s1 plN
  simp only [List.drop_zero, List.take_length]
  have h1 : decide ((i : Int) < Int.ofNat l.length) = false := by simp; omega
  rw [h1]; rfl
theorem ref_step {l : List (List Int)} {us : List (List Int)} {q : Psn} {i : Nat} (hi : i < l.length) (hl : l.length ≤ 1000) (hu : us.length = i) (hz : q.zs.length ≤ 64) (hc : 0 ≤ q.ca) :
    refPlay_s1 l (plN us q i) = play_s1 l (plN us q i) := by
  rw [play_step hi hl hu hz]
  obtain ⟨e1, e2, e3⟩ := make_eq (p := q) (m := plM l i) hz hc
  rw [← e1, ← e2, ← e3]
  unfold refPlay_s1 plN
  simp only [List.drop_zero, List.take_length]
  have h1 : decide ((i : Int) < Int.ofNat l.length) = true := by simp; omega
  have h2 : decide ((0 : Int) ≤ i) = true := by simp
  have h3 : decide (q.zs.length ≤ 64) = true := by simpa using hz
  have h4 : decide ((us.length + 1) * 72 ≤ 140737488355328) = true := by simp; omega
  rw [h1, h2, h3, h4, w64_small (by omega) (by omega)]
  cases h : decide (rmE q (plM l i) = 0)
  · have h' : decide (rmE ⟨q.f, q.r, q.zs, q.bl, q.ca, q.pa, q.ha, q.fu⟩ ⟨(l.getD (i : Int).toNat []).getD 0 0, (l.getD (i : Int).toNat []).getD 1 0, (l.getD (i : Int).toNat []).getD 2 0⟩ = 0) = false := h
    rw [h']; rfl
  · have h' : decide (rmE ⟨q.f, q.r, q.zs, q.bl, q.ca, q.pa, q.ha, q.fu⟩ ⟨(l.getD (i : Int).toNat []).getD 0 0, (l.getD (i : Int).toNat []).getD 1 0, (l.getD (i : Int).toNat []).getD 2 0⟩ = 0) = true := h
    rw [h']; rfl
theorem ref_last {l : List (List Int)} {us : List (List Int)} {q : Psn} {i : Nat} (hi : i = l.length) : refPlay_s1 l (plN us q i) = some (.inr (.inl (us, q.zs, q.f, q.r, q.bl, q.ca, q.pa, q.ha, q.fu))) := by
  unfold refPlay_s1 plN
  simp only [List.drop_zero, List.take_length]
  have h1 : decide ((i : Int) < Int.ofNat l.length) = false := by simp; omega
  rw [h1]; rfl
abbrev PlR := Psn × List (List Int) × Int × Int
def plF (s : List (List Int) × List Int × Int × Int × Bool × Int × Int × Int × Int) : Option PlR := some (⟨s.2.2.1, s.2.2.2.1, s.2.1, s.2.2.2.2.1, s.2.2.2.2.2.1, s.2.2.2.2.2.2.1, s.2.2.2.2.2.2.2.1, s.2.2.2.2.2.2.2.2⟩, s.1, 0, 0)
theorem play_run {l : List (List Int)} (hl : l.length ≤ 1000) : ∀ (j fuel i : Nat) (us : List (List Int)) (q : Psn), i + j = l.length → us.length = i → q.zs.length ≤ 64 → 0 ≤ q.ca → j < fuel →
    ∃ r : PlR, loopO (play_s1 l) plF fuel (plN us q i) = some r ∧ loopO (refPlay_s1 l) plF fuel (plN us q i) = some r ∧ r.1.zs.length ≤ 64 ∧ r.2.1.length ≤ 1000
  | j, 0, i, us, q, _, _, _, _, h => absurd h (by omega)
  | 0, fuel + 1, i, us, q, h, hu, hz, _, _ => by
    refine ⟨(q, us, 0, 0), ?_, ?_, hz, (by show us.length ≤ 1000; omega)⟩
    · rw [loopO_exit (play_last (by omega))]; rfl
    · rw [loopO_exit (ref_last (by omega))]; rfl
  | j + 1, fuel + 1, i, us, q, h, hu, hz, hc, hf => by
    have hs := play_step (l := l) (us := us) (q := q) (i := i) (by omega) hl hu hz
    have hr := ref_step (l := l) (us := us) (q := q) (i := i) (by omega) hl hu hz hc
    cases he : decide (mkE5 q (plM l i) = 0)
    · rw [he] at hs
      have hs : play_s1 l (plN us q i) = some (.inr (.inr (psn0, [], (i : Int), mkE5 q (plM l i)))) := hs
      exact ⟨_, loopO_ret hs, loopO_ret (hr.trans hs), Nat.zero_le _, Nat.zero_le _⟩
    · rw [he] at hs
      simp only [Bool.not_true, cond_false] at hs
      rw [loopO_next hs, loopO_next (hr.trans hs)]
      exact play_run hl j fuel (i + 1) _ _ (by omega) (by simp [hu]) (mkP_len64 hz) mkP_ca (by omega)
theorem play_run0 {p : Psn} {l : List (List Int)} (hl : l.length ≤ 1000) (hz : p.zs.length ≤ 64) (hc : 0 ≤ p.ca) :
    ∃ r : PlR, loopO (play_s1 l) plF 1000000 ([], p.zs, p.f, p.r, p.bl, p.ca, p.pa, p.ha, p.fu, 0) = some r ∧ loopO (refPlay_s1 l) plF 1000000 ([], p.zs, p.f, p.r, p.bl, p.ca, p.pa, p.ha, p.fu, 0) = some r ∧ r.1.zs.length ≤ 64 ∧ r.2.1.length ≤ 1000 :=
  play_run hl l.length 1000000 0 [] p (by omega) rfl hz hc (by omega)
theorem play_eq {p : Psn} {l : List (List Int)} (hz : p.zs.length ≤ 64) (hc : 0 ≤ p.ca) : ∃ r : PlR, play p l = some r ∧ refPlay p l = some r ∧ r.1.zs.length ≤ 64 ∧ r.2.1.length ≤ 1000 := by
  unfold play refPlay
  simp only [List.drop_zero, List.take_length, psn_eta]
  have h3 : decide (p.zs.length ≤ 64) = true := by simpa using hz
  rw [h3, psn_valid hz hc]
  simp only [needO_true]
  by_cases hl : l.length ≤ 1000
  · have h1 : decide ((1000 : Int) < Int.ofNat l.length) = false := by simp; omega
    rw [h1, Bool.or_false]
    cases p.ok
    · exact ⟨_, rfl, rfl, Nat.zero_le _, Nat.zero_le _⟩
    · simp only [Bool.not_true, cond_false]
      exact play_run0 hl hz hc
  · have h1 : decide ((1000 : Int) < Int.ofNat l.length) = true := by simp; omega
    rw [h1, Bool.or_true]
    exact ⟨_, rfl, rfl, Nat.zero_le _, Nat.zero_le _⟩
theorem play_many {p : Psn} {l : List (List Int)} (hz : p.zs.length ≤ 64) (hl : 1000 < l.length) : play p l = some (psn0, [], 0, 2) := by
  unfold play
  simp only [List.drop_zero, List.take_length, psn_eta]
  have h3 : decide (p.zs.length ≤ 64) = true := by simpa using hz
  have h1 : decide ((1000 : Int) < Int.ofNat l.length) = true := by simp; omega
  rw [h3, h1, Bool.or_true]
  rfl
theorem same8_self {a : List (List Int)} (h : a.length ≤ 1000) : same8 a a = some true := by
  have go : ∀ (j fuel i : Nat), i + j = a.length → j < fuel → loopO (same8_s1 a a) (fun _ : Unit => some true) fuel (i : Int) = some true := by
    intro j
    induction j with
    | zero =>
      intro fuel i hi hf
      obtain ⟨fuel, rfl⟩ : ∃ k, fuel = k + 1 := ⟨fuel - 1, by omega⟩
      rw [loopO_exit (x := ())]
      unfold same8_s1
      have h1 : decide ((i : Int) < Int.ofNat a.length) = false := by simp; omega
      simp only [h1]; rfl
    | succ j ih =>
      intro fuel i hi hf
      obtain ⟨fuel, rfl⟩ : ∃ k, fuel = k + 1 := ⟨fuel - 1, by omega⟩
      have h1 : decide ((i : Int) < Int.ofNat a.length) = true := by simp; omega
      have h2 : decide ((0 : Int) ≤ i) = true := by simp
      have : same8_s1 a a (i : Int) = some (.inl ((i + 1 : Nat) : Int)) := by
        unfold same8_s1
        simp only [h1, h2, w64_small (i := (i : Int) + 1) (by omega) (by omega), decide_true]
        rfl
      rw [loopO_next this]
      exact ih fuel (i + 1) (by omega) (by omega)
  unfold same8
  rw [show (!decide (Int.ofNat a.length = Int.ofNat a.length)) = false by simp]
  exact go a.length 1000000 0 (by omega) (by omega)
theorem copies {l : List (List Int)} {many : Int} {F : List (List Int) → Option Bool} {b : Bool} (h0 : 0 < l.length) (h2 : many ≤ 1005) (hF : ∀ c, (c.length : Int) = many → F c = some b) : ∀ (j fuel i : Nat) (c : List (List Int)), ((i + j : Nat) : Int) = many → c.length = i → j < fuel →
    loopO (lawPlays_s1 l many) F fuel (c, (i : Int)) = some b
  | j, 0, i, c, _, _, h => absurd h (by omega)
  | 0, fuel + 1, i, c, h, hc, _ => by
    rw [loopO_exit (x := c)]
    · exact hF c (by omega)
    · unfold lawPlays_s1
      have h1 : decide ((i : Int) < many) = false := by simp; omega
      simp only [h1]; rfl
  | j + 1, fuel + 1, i, c, h, hc, hf => by
    have h1 : decide ((i : Int) < many) = true := by simp; omega
    have h3 : decide ((0 : Int) < Int.ofNat l.length) = true := by simp; omega
    have h4 : decide ((c.length + 1) * 24 ≤ 140737488355328) = true := by simp; omega
    have : ∃ x, lawPlays_s1 l many (c, (i : Int)) = some (.inl (c ++ [x], ((i + 1 : Nat) : Int))) := by
      unfold lawPlays_s1
      simp only [h1, h3, h4, w64_small (i := (i : Int) + 1) (by omega) (by omega)]
      exact ⟨_, rfl⟩
    obtain ⟨x, hx⟩ := this
    rw [loopO_next hx]
    exact copies h0 h2 hF j fuel (i + 1) _ (by omega) (by simp [hc]) (by omega)
theorem copies0 {l : List (List Int)} {many : Int} {F : List (List Int) → Option Bool} {b : Bool} (h0 : 0 < l.length) (h1 : 0 ≤ many) (h2 : many ≤ 1005) (hF : ∀ c, (c.length : Int) = many → F c = some b) : loopO (lawPlays_s1 l many) F 1000000 ([], 0) = some b :=
  copies h0 h2 hF many.toNat 1000000 0 [] (by omega) rfl (by omega)
theorem lawPlays_true {p : Psn} {l : List (List Int)} {many : Int} (hca : 0 ≤ p.ca) : lawPlays p l many = some true := by
  unfold lawPlays
  simp only [List.drop_zero, List.take_length, psn_eta]
  rw [show small8 p = some (decide (Int.ofNat p.zs.length ≤ 64)) from rfl, callO_some]
  by_cases hz : p.zs.length ≤ 64
  · have h1 : decide (Int.ofNat p.zs.length ≤ 64) = true := by simp; omega
    rw [h1]
    obtain ⟨r, e1, e2, e3, e4⟩ := play_eq (l := l) hz hca
    rw [e1, e2]
    simp only [callO_some, equalB_self, same8_self e4, e3, decide_true, Bool.and_self, needO_true, Bool.not_true, Bool.not_false, Bool.false_or, Option.isSome_some, Option.getD_some, Bool.or_true, cond_false]
    by_cases hm : many < 1001 ∨ 1005 < many ∨ l.length = 0
    · have : (decide (many < 1001) || decide (1005 < many) || decide (Int.ofNat l.length = 0)) = true := by
        rcases hm with h | h | h <;> simp [h]
      rw [this]
      cases decide ((30 : Int) < Int.ofNat l.length) <;> rfl
    · have : (decide (many < 1001) || decide (1005 < many) || decide (Int.ofNat l.length = 0)) = false := by
        rw [decide_eq_false (p := many < 1001) (by omega), decide_eq_false (p := 1005 < many) (by omega), decide_eq_false (p := Int.ofNat l.length = 0) (fun e => by have e : ((l.length : Nat) : Int) = 0 := e; omega)]
        rfl
      rw [this]
      cases decide ((30 : Int) < Int.ofNat l.length)
      · simp only [cond_false]
        exact copies0 (by omega) (by omega) (by omega) fun c hc => by rw [play_many hz (by omega)]; rfl
      · rfl
  · have h1 : decide (Int.ofNat p.zs.length ≤ 64) = false := by simp; omega
    rw [h1]; rfl
end Go.Ab
