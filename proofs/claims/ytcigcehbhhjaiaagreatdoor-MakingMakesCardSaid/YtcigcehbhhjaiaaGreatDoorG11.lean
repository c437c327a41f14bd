/- Contracts of the functions that the laws reach, and plain laws of what they compute (text G11); no condition. -/
import Derived.Test.YtcigcehbhhjaiaaGreatDoorG9
import Derived.Test.YtcigcehbhhjaiaaGreatDoorG10
set_option maxRecDepth 100000
set_option maxHeartbeats 4000000
namespace Go.Ab
open Go.Proofs
variable {kCa kDb : Bool}
def small8 (p : Psn) : Option (Bool) := Option.some (Decidable.decide (Int.ofNat p.zs.length ≤ 64))
def small8_V (R : Bool) : V := Bb R
def small8_N (_R : Bool) : List O := []
def c_small8 : CF
  | [.agg [.int .i64 p_0, .int .i64 p_1, .sl 0 0 p_2n none, .bool p_3, .int .u8 p_4, .int .i64 p_5, .int .i64 p_6, .int .i64 p_7]], [.ints false .i8 p_2] => retC (decide (p_2n = p_2.length)) (small8 ⟨p_0, p_1, p_2, p_3, p_4, p_5, p_6, p_7⟩) false small8_V small8_N
  | _, _ => none
theorem small8_snd (p : Psn) {r} (hr : small8 p = some r) : FnSound (GGx kCa kDb) PP 12 [.agg [.int .i64 p.f, .int .i64 p.r, .sl 0 0 p.zs.length none, Bb p.bl, .int .u8 p.ca, .int .i64 p.pa, .int .i64 p.ha, .int .i64 p.fu]] [.ints false .i8 p.zs] (small8_V r) (small8_N r) := by
  have hE := cutE (EE_ok (kCa := kCa) (kDb := kDb) (cts := []) (inl := []) trivial trivial)
  refine so_fn hE 2 Tryz.func12 rfl rfl small8_V small8_N hr ?_ rfl rfl
  exact so_ret (fin_bs [] (.inr rfl) rfl rfl rfl rfl rfl)
theorem c_small8_ok : CtOk (GGx kCa kDb) PP (12, c_small8) := by
  refine ct_mk Tryz.func12 (by kernel_rfl) rfl fun a0 h0 c0 v0 N0 e hc => ?_
  unfold c_small8 at e
  split at e
  · rename_i p_0 p_1 p_2n p_3 p_4 p_5 p_6 p_7 p_2
    obtain ⟨hl, r, hr, rfl, rfl⟩ := ret_ok e hc
    simp only [decide_eq_true_eq] at hl
    obtain rfl := hl
    exact small8_snd ⟨p_0, p_1, p_2, p_3, p_4, p_5, p_6, p_7⟩ hr
  · cases e
def same8_s1 : List (List Int) → List (List Int) → Int → Option (Int ⊕ Unit ⊕ Bool) := fun (a b : List (List Int)) (s6 : Int) => let x13 := (a.getD s6.toNat []).getD 4 0; let x14 := (a.getD s6.toNat []).getD 2 0; let x15 := (b.getD s6.toNat []).getD 0 0; let x16 := (a.getD s6.toNat []).getD 1 0; let x17 := (b.getD s6.toNat []).getD 3 0; let x18 := (a.getD s6.toNat []).getD 6 0; let x19 := (a.getD s6.toNat []).getD 0 0; let x20 := (b.getD s6.toNat []).getD 2 0; let x21 := (b.getD s6.toNat []).getD 8 0; let x22 := (b.getD s6.toNat []).getD 1 0; let x23 := (b.getD s6.toNat []).getD 5 0; let x24 := (b.getD s6.toNat []).getD 4 0; let x25 := (a.getD s6.toNat []).getD 3 0; let x26 := (a.getD s6.toNat []).getD 7 0; let x27 := (b.getD s6.toNat []).getD 6 0; let x28 := (b.getD s6.toNat []).getD 7 0; let x29 := (a.getD s6.toNat []).getD 5 0; let x30 := (a.getD s6.toNat []).getD 8 0; let x31 := Decidable.decide (0 ≤ s6); let x32 := Decidable.decide (s6 < Int.ofNat a.length); bif x32 then needO (x31 && x32) (needO (x31 && Decidable.decide (s6 < Int.ofNat b.length)) (bif !(Decidable.decide (x19 = x15) && (Decidable.decide (x16 = x22) && Decidable.decide (x14 = x20)) && (Decidable.decide (x25 = x17) && (Decidable.decide (x13 = x24) && (Decidable.decide (x29 = x23) && (Decidable.decide (x18 = x27) && (Decidable.decide (x26 = x28) && Decidable.decide (x30 = x21))))))) then escO (escO (Option.some Bool.false)) else Option.some (Sum.inl (IntKind.i64.wrap (s6 + 1))))) else Option.some (Sum.inr (Sum.inl ()))
def same8 (a : List (List Int)) (b : List (List Int)) : Option (Bool) := bif !Decidable.decide (Int.ofNat a.length = Int.ofNat b.length) then Option.some Bool.false else loopO (same8_s1 a b) (fun (_s11 : Unit) => Option.some Bool.true) 1000000 0
def same8_V (R : Bool) : V := Bb R
def same8_N (_R : Bool) : List O := []
def c_same8 : CF
  | [.sl 0 0 a_0n none, .sl 1 0 b_0n none], [.rows false [.i64, .i64, .i8, .i8, .i64, .u8, .i64, .i64, .i64] a_0, .rows false [.i64, .i64, .i8, .i8, .i64, .u8, .i64, .i64, .i64] b_0] => retC (decide (a_0n = a_0.length) && decide (b_0n = b_0.length)) (same8 a_0 b_0) false same8_V same8_N
  | _, _ => none
theorem same8_snd (a : List (List Int)) (b : List (List Int)) {r} (hr : same8 a b = some r) : FnSound (GGx kCa kDb) PP 20 [.sl 0 0 a.length none, .sl 1 0 b.length none] [.rows false [.i64, .i64, .i8, .i8, .i64, .u8, .i64, .i64, .i64] a, .rows false [.i64, .i64, .i8, .i8, .i64, .u8, .i64, .i64, .i64] b] (same8_V r) (same8_N r) := by
  have hE := cutE (EE_ok (kCa := kCa) (kDb := kDb) (cts := []) (inl := []) trivial trivial)
  refine so_fn hE 2 Tryz.func20 rfl rfl same8_V same8_N hr ?_ rfl rfl
  refine so_split hE 2 rfl ?_ ?_
  · exact so_ret (fin_bs [] (.inr rfl) rfl rfl rfl rfl rfl)
  refine so_loop hE 2 (let x35 := [IntKind.i64, IntKind.i64, IntKind.i8, IntKind.i8, IntKind.i64, IntKind.u8, IntKind.i64, IntKind.i64, IntKind.i64]; fun (s6 : Int) => ([(0, V.sl 0 0 a.length Option.none), (1, V.sl 1 0 b.length Option.none), (4, V.bool Bool.false), (5, V.int IntKind.i64 s6)], [O.rows Bool.false x35 a, O.rows Bool.false x35 b])) (let x37 := [IntKind.i64, IntKind.i64, IntKind.i8, IntKind.i8, IntKind.i64, IntKind.u8, IntKind.i64, IntKind.i64, IntKind.i64]; fun (s11 : Unit) => ([(4, V.bool Bool.false)], [O.rows Bool.false x37 a, O.rows Bool.false x37 b])) (.exit 0) ((Ent.rn [0, 1] [0, 1, 4, 5] rfl rfl rfl rfl rfl)) (fun s6 => ?_) (fun s11 => ?_)
  · refine so_split hE 2 rfl ?_ ?_
    · refine so_triv rfl ?_
      refine so_need ?_
      refine so_need ?_
      refine so_split hE 2 rfl ?_ ?_
      · refine so_out (by simp) (so_out1 ?_)
        exact so_ret (fin_bs [] (.inr rfl) rfl rfl rfl rfl rfl)
      exact so_next ((Ent.rn [0, 1] [0, 1, 4, 5] rfl rfl rfl rfl rfl))
    exact so_exit ((Ent.rn [0, 1] [4] rfl rfl rfl rfl rfl))
  exact so_ret (fin_bs [] (.inr rfl) rfl rfl rfl rfl rfl)
theorem c_same8_ok : CtOk (GGx kCa kDb) PP (20, c_same8) := by
  refine ct_mk Tryz.func20 (by kernel_rfl) rfl fun a0 h0 c0 v0 N0 e hc => ?_
  unfold c_same8 at e
  split at e
  · rename_i a_0n b_0n a_0 b_0
    obtain ⟨hl, r, hr, rfl, rfl⟩ := ret_ok e hc
    simp only [Bool.and_eq_true, decide_eq_true_eq] at hl
    obtain ⟨rfl, rfl⟩ := hl
    exact same8_snd a_0 b_0 hr
  · cases e
def small9 (p : Psn) : Option (Bool) := Option.some (Decidable.decide (Int.ofNat p.zs.length ≤ 64))
def small9_V (R : Bool) : V := Bb R
def small9_N (_R : Bool) : List O := []
def c_small9 : CF
  | [.agg [.int .i64 p_0, .int .i64 p_1, .sl 0 0 p_2n none, .bool p_3, .int .u8 p_4, .int .i64 p_5, .int .i64 p_6, .int .i64 p_7]], [.ints false .i8 p_2] => retC (decide (p_2n = p_2.length)) (small9 ⟨p_0, p_1, p_2, p_3, p_4, p_5, p_6, p_7⟩) false small9_V small9_N
  | _, _ => none
theorem small9_snd (p : Psn) {r} (hr : small9 p = some r) : FnSound (GGx kCa kDb) PP 21 [.agg [.int .i64 p.f, .int .i64 p.r, .sl 0 0 p.zs.length none, Bb p.bl, .int .u8 p.ca, .int .i64 p.pa, .int .i64 p.ha, .int .i64 p.fu]] [.ints false .i8 p.zs] (small9_V r) (small9_N r) := by
  have hE := cutE (EE_ok (kCa := kCa) (kDb := kDb) (cts := []) (inl := []) trivial trivial)
  refine so_fn hE 2 Tryz.func21 rfl rfl small9_V small9_N hr ?_ rfl rfl
  exact so_ret (fin_bs [] (.inr rfl) rfl rfl rfl rfl rfl)
theorem c_small9_ok : CtOk (GGx kCa kDb) PP (21, c_small9) := by
  refine ct_mk Tryz.func21 (by kernel_rfl) rfl fun a0 h0 c0 v0 N0 e hc => ?_
  unfold c_small9 at e
  split at e
  · rename_i p_0 p_1 p_2n p_3 p_4 p_5 p_6 p_7 p_2
    obtain ⟨hl, r, hr, rfl, rfl⟩ := ret_ok e hc
    simp only [decide_eq_true_eq] at hl
    obtain rfl := hl
    exact small9_snd ⟨p_0, p_1, p_2, p_3, p_4, p_5, p_6, p_7⟩ hr
  · cases e
def msame_s1 : List (List Int) → List (List Int) → Int → Option (Int ⊕ Unit ⊕ Bool) := fun (a b : List (List Int)) (s6 : Int) => let x13 := (a.getD s6.toNat []).getD 1 0; let x14 := (a.getD s6.toNat []).getD 0 0; let x15 := (b.getD s6.toNat []).getD 2 0; let x16 := (a.getD s6.toNat []).getD 2 0; let x17 := (b.getD s6.toNat []).getD 1 0; let x18 := (b.getD s6.toNat []).getD 0 0; let x19 := Decidable.decide (s6 < Int.ofNat a.length); let x20 := Decidable.decide (0 ≤ s6); bif x19 then needO (x20 && x19) (needO (x20 && Decidable.decide (s6 < Int.ofNat b.length)) (bif !(Decidable.decide (x14 = x18) && (Decidable.decide (x13 = x17) && Decidable.decide (x16 = x15))) then escO (escO (Option.some Bool.false)) else Option.some (Sum.inl (IntKind.i64.wrap (s6 + 1))))) else Option.some (Sum.inr (Sum.inl ()))
def msame (a : List (List Int)) (b : List (List Int)) : Option (Bool) := bif !Decidable.decide (Int.ofNat a.length = Int.ofNat b.length) then Option.some Bool.false else loopO (msame_s1 a b) (fun (_s11 : Unit) => Option.some Bool.true) 1000000 0
def msame_V (R : Bool) : V := Bb R
def msame_N (_R : Bool) : List O := []
def c_msame : CF
  | [.sl 0 0 a_0n none, .sl 1 0 b_0n none], [.rows false [.i64, .i64, .i8] a_0, .rows false [.i64, .i64, .i8] b_0] => retC (decide (a_0n = a_0.length) && decide (b_0n = b_0.length)) (msame a_0 b_0) false msame_V msame_N
  | _, _ => none
theorem msame_snd (a : List (List Int)) (b : List (List Int)) {r} (hr : msame a b = some r) : FnSound (GGx kCa kDb) PP 26 [.sl 0 0 a.length none, .sl 1 0 b.length none] [.rows false [.i64, .i64, .i8] a, .rows false [.i64, .i64, .i8] b] (msame_V r) (msame_N r) := by
  have hE := cutE (EE_ok (kCa := kCa) (kDb := kDb) (cts := []) (inl := []) trivial trivial)
  refine so_fn hE 2 Tryz.func26 rfl rfl msame_V msame_N hr ?_ rfl rfl
  refine so_split hE 2 rfl ?_ ?_
  · exact so_ret (fin_bs [] (.inr rfl) rfl rfl rfl rfl rfl)
  refine so_loop hE 2 (fun (s6 : Int) => ([(0, V.sl 0 0 a.length Option.none), (1, V.sl 1 0 b.length Option.none), (4, V.bool Bool.false), (5, V.int IntKind.i64 s6)], [O.rows Bool.false [IntKind.i64, IntKind.i64, IntKind.i8] a, O.rows Bool.false [IntKind.i64, IntKind.i64, IntKind.i8] b])) (fun (s11 : Unit) => ([(4, V.bool Bool.false)], [O.rows Bool.false [IntKind.i64, IntKind.i64, IntKind.i8] a, O.rows Bool.false [IntKind.i64, IntKind.i64, IntKind.i8] b])) (.exit 0) ((Ent.rn [0, 1] [0, 1, 4, 5] rfl rfl rfl rfl rfl)) (fun s6 => ?_) (fun s11 => ?_)
  · refine so_split hE 2 rfl ?_ ?_
    · refine so_triv rfl ?_
      refine so_need ?_
      refine so_need ?_
      refine so_split hE 2 rfl ?_ ?_
      · refine so_out (by simp) (so_out1 ?_)
        exact so_ret (fin_bs [] (.inr rfl) rfl rfl rfl rfl rfl)
      exact so_next ((Ent.rn [0, 1] [0, 1, 4, 5] rfl rfl rfl rfl rfl))
    exact so_exit ((Ent.rn [0, 1] [4] rfl rfl rfl rfl rfl))
  exact so_ret (fin_bs [] (.inr rfl) rfl rfl rfl rfl rfl)
theorem c_msame_ok : CtOk (GGx kCa kDb) PP (26, c_msame) := by
  refine ct_mk Tryz.func26 (by kernel_rfl) rfl fun a0 h0 c0 v0 N0 e hc => ?_
  unfold c_msame at e
  split at e
  · rename_i a_0n b_0n a_0 b_0
    obtain ⟨hl, r, hr, rfl, rfl⟩ := ret_ok e hc
    simp only [Bool.and_eq_true, decide_eq_true_eq] at hl
    obtain ⟨rfl, rfl⟩ := hl
    exact msame_snd a_0 b_0 hr
  · cases e
end Go.Ab

set_option maxRecDepth 100000
set_option maxHeartbeats 4000000
namespace Go.Ab
open Go.Proofs
variable {kCa kDb : Bool}
def lawMakes_s1 : Psn → Mov → List Int × Int → Option (List Int × Int ⊕ Unit ⊕ Bool) := fun (p : Psn) (m : Mov) => let x14 := Int.ofNat (mkP (Psn.mk p.f p.r (List.take p.zs.length (List.drop 0 p.zs)) p.bl p.ca p.pa p.ha p.fu) (Mov.mk m.a m.b m.p)).zs.length; fun (s6 : List Int × Int) => let x17 := Decidable.decide (s6.snd < x14); let x16 := Decidable.decide (0 ≤ s6.snd) && x17; bif x17 then needO x16 (needO x16 (Option.some (Sum.inl (s6.fst.set s6.snd.toNat (IntKind.i8.wrap (s6.fst.getD s6.snd.toNat 0 + 1)), IntKind.i64.wrap (s6.snd + 1))))) else Option.some (Sum.inr (Sum.inl ()))
def lawMakes (p : Psn) (m : Mov) : Option (Bool) := let x59 := List.take p.zs.length (List.drop 0 p.zs); let x57 := Psn.mk p.f p.r x59 p.bl p.ca p.pa p.ha p.fu; let x58 := x59.length; let x26 := Decidable.decide (x58 ≤ 64); let x50 := rmP x57 (Mov.mk m.a m.b m.p); let x51 := rmE x57 (Mov.mk m.a m.b m.p); let x52 := mkE5 x57 (Mov.mk m.a m.b m.p); let x53 := mkU x57 (Mov.mk m.a m.b m.p); let x54 := mkP x57 (Mov.mk m.a m.b m.p); let x55 := rmU x57 (Mov.mk m.a m.b m.p); let x56 := List.take x58 (List.drop 0 x59); let x33 := x50.zs; let x34 := x55.m; let x35 := x55.pa; let x36 := x53.ha; let x37 := x53.c; let x38 := x55.ha; let x39 := x53.m; let x40 := x53.pa; let x41 := x55.c; let x42 := x55.fu; let x43 := x56.length; let x44 := x53.at_; let x45 := x55.ca; let x46 := x53.ca; let x47 := x53.fu; let x48 := x55.at_; let x49 := x54.zs; let x24 := List.take x49.length (List.drop 0 x49); let x25 := List.take x33.length (List.drop 0 x33); let x27 := x34.b; let x28 := x39.p; let x29 := x39.a; let x30 := x34.p; let x31 := x34.a; let x32 := x39.b; let x21 := !equalB (Psn.mk x54.f x54.r x24 x54.bl x54.ca x54.pa x54.ha x54.fu) (Psn.mk x50.f x50.r x25 x50.bl x50.ca x50.pa x50.ha x50.fu) || !(Decidable.decide (x29 = x31) && (Decidable.decide (x32 = x27) && Decidable.decide (x28 = x30)) && (Decidable.decide (x37 = x41) && (Decidable.decide (x44 = x48) && (Decidable.decide (x46 = x45) && (Decidable.decide (x40 = x35) && (Decidable.decide (x36 = x38) && Decidable.decide (x47 = x42))))))); let x22 := x25.length; let x23 := x24.length; let x20 := !x21; let x19 := !x20 || x20; callO (small8 x57) Bool.false fun (y2 : Bool) => bif !y2 then Option.some Bool.true else needO x26 (needO x26 (needO x26 (needO (Decidable.decide (x23 ≤ 64) && Decidable.decide (x22 ≤ 64)) (needO x19 (needO x19 (needO (x21 || x20) (bif x21 || !Decidable.decide (x52 = x51) then Option.some Bool.false else loopO (lawMakes_s1 p m) (fun (_s13 : Unit) => needO (Decidable.decide (x43 ≤ 64) && Decidable.decide ((List.take p.zs.length (List.drop 0 p.zs)).length ≤ 64)) (Option.some (equalB (Psn.mk p.f p.r x56 p.bl p.ca p.pa p.ha p.fu) (Psn.mk p.f p.r (List.take p.zs.length (List.drop 0 p.zs)) p.bl p.ca p.pa p.ha p.fu) && Bool.true))) 1000000 (x49, 0))))))))
def lawMakes_V (R : Bool) : V := Bb R
def lawMakes_N (_R : Bool) : List O := []
def c_lawMakes : CF
  | [.agg [.int .i64 p_0, .int .i64 p_1, .sl 0 0 p_2n none, .bool p_3, .int .u8 p_4, .int .i64 p_5, .int .i64 p_6, .int .i64 p_7], .agg [.int .i64 m_0, .int .i64 m_1, .int .i8 m_2]], [.ints false .i8 p_2] => retC (decide (p_2n = p_2.length)) (lawMakes ⟨p_0, p_1, p_2, p_3, p_4, p_5, p_6, p_7⟩ ⟨m_0, m_1, m_2⟩) false lawMakes_V lawMakes_N
  | _, _ => none
theorem lawMakes_snd (p : Psn) (m : Mov) {r} (hr : lawMakes p m = some r) : FnSound (GGx true false) PP 3 [.agg [.int .i64 p.f, .int .i64 p.r, .sl 0 0 p.zs.length none, Bb p.bl, .int .u8 p.ca, .int .i64 p.pa, .int .i64 p.ha, .int .i64 p.fu], .agg [.int .i64 m.a, .int .i64 m.b, .int .i8 m.p]] [.ints false .i8 p.zs] (lawMakes_V r) (lawMakes_N r) := by
  have hE := cutE (EE_ok (kCa := true) (kDb := false) (cts := [(12, c_small8), (13, c_known8), (14, c_rcopy), (15, c_make), (16, c_rmake), (17, c_requal)]) (inl := []) ⟨c_small8_ok, c_known8_ok, c_rcopy_ok, c_make_ok, c_rmake_ok, c_requal_ok, trivial⟩ trivial)
  refine so_fn hE 2 Tryz.func3 rfl rfl lawMakes_V lawMakes_N hr ?_ rfl rfl
  unfold lawMakes
  refine so_callas (pl (decide_eq_true (win_len rfl)) id) ?_
  refine so_split hE 2 rfl ?_ ?_
  · refine so_triv rfl ?_
    exact so_ret (fin_bs [] (.inr rfl) rfl rfl rfl rfl rfl)
  refine so_as (pl (decide_eq_true (win_len rfl)) id) ?_
  refine so_as (pl (decide_eq_true (win_len rfl)) id) ?_
  refine so_as (pl (decide_eq_true (win_len rfl)) id) ?_
  refine so_as (pb (pr (pl (decide_eq_true (win_len rfl)) id) (decide_eq_true (win_len rfl))) id) ?_
  refine so_triv (Bool.not_or_self _) ?_
  refine so_triv (Bool.not_or_self _) ?_
  refine so_triv (Bool.or_not_self _) ?_
  refine so_need ?_
  refine so_need ?_
  refine so_need ?_
  refine so_split hE 2 rfl ?_ ?_
  · exact so_ret (fin_bs [] (.inr rfl) rfl rfl rfl rfl rfl)
  refine so_loop hE 2 (let x64 := [V.bool p.bl, V.int IntKind.u8 p.ca, V.int IntKind.i64 p.pa, V.int IntKind.i64 p.ha, V.int IntKind.i64 p.fu]; let x65 := List.take p.zs.length (List.drop 0 p.zs); let x63 := mkP (Psn.mk p.f p.r x65 p.bl p.ca p.pa p.ha p.fu) (Mov.mk m.a m.b m.p); let x62 := x63.zs.length; fun (s6 : List Int × Int) => ([(2, V.ptr 1 0 0), (4, V.bool Bool.false), (5, V.ptr 2 0 0), (6, V.ptr 3 0 0), (49, V.int IntKind.i64 (Int.ofNat x62)), (50, V.int IntKind.i64 s6.snd)], [O.ints Bool.false IntKind.i8 p.zs, O.cells Bool.true (V.int IntKind.i64 p.f :: V.int IntKind.i64 p.r :: V.sl 0 0 p.zs.length Option.none :: x64), O.cells Bool.true (V.int IntKind.i64 p.f :: V.int IntKind.i64 p.r :: V.sl 4 0 x65.length Option.none :: x64), O.cells Bool.true [V.int IntKind.i64 x63.f, V.int IntKind.i64 x63.r, V.sl 5 0 x62 Option.none, V.bool x63.bl, V.int IntKind.u8 x63.ca, V.int IntKind.i64 x63.pa, V.int IntKind.i64 x63.ha, V.int IntKind.i64 x63.fu], O.ints Bool.true IntKind.i8 x65, O.ints Bool.true IntKind.i8 s6.fst])) (let x67 := [V.bool p.bl, V.int IntKind.u8 p.ca, V.int IntKind.i64 p.pa, V.int IntKind.i64 p.ha, V.int IntKind.i64 p.fu]; let x68 := List.take p.zs.length (List.drop 0 p.zs); fun (s13 : Unit) => ([(2, V.ptr 1 0 0), (4, V.bool Bool.false), (5, V.ptr 2 0 0)], [O.ints Bool.false IntKind.i8 p.zs, O.cells Bool.true (V.int IntKind.i64 p.f :: V.int IntKind.i64 p.r :: V.sl 0 0 p.zs.length Option.none :: x67), O.cells Bool.true (V.int IntKind.i64 p.f :: V.int IntKind.i64 p.r :: V.sl 3 0 x68.length Option.none :: x67), O.ints Bool.true IntKind.i8 x68])) (.exit 0) ((Ent.rn [0, 1, 4, 6, 3, 5] [2, 4, 5, 6, 49, 50] rfl rfl rfl rfl rfl)) (fun s6 => ?_) (fun s13 => ?_)
  · refine so_split hE 2 rfl ?_ ?_
    · refine so_need ?_
      refine so_need ?_
      exact so_next ((Ent.rn [0, 1, 2, 3, 4, 5] [2, 4, 5, 6, 49, 50] rfl rfl rfl rfl rfl))
    exact so_exit ((Ent.rn [0, 1, 2, 4] [2, 4, 5] rfl rfl rfl rfl rfl))
  refine so_as (pb (pr (pl (decide_eq_true (win_len rfl)) id) (decide_eq_true (win_len rfl))) id) ?_
  refine so_triv (pg rfl) ?_
  refine so_triv (Bool.not_or_self _) ?_
  exact so_ret (fin_bs [] (.inr rfl) rfl rfl rfl rfl rfl)
theorem c_lawMakes_ok : CtOk (GGx true false) PP (3, c_lawMakes) := by
  refine ct_mk Tryz.func3 (by kernel_rfl) rfl fun a0 h0 c0 v0 N0 e hc => ?_
  unfold c_lawMakes at e
  split at e
  · rename_i p_0 p_1 p_2n p_3 p_4 p_5 p_6 p_7 m_0 m_1 m_2 p_2
    obtain ⟨hl, r, hr, rfl, rfl⟩ := ret_ok e hc
    simp only [decide_eq_true_eq] at hl
    obtain rfl := hl
    exact lawMakes_snd ⟨p_0, p_1, p_2, p_3, p_4, p_5, p_6, p_7⟩ ⟨m_0, m_1, m_2⟩ hr
  · cases e
end Go.Ab

set_option maxRecDepth 100000
namespace Go.Ab
theorem mkP_len64 {p : Psn} {m : Mov} (h : p.zs.length ≤ 64) : (mkP p m).zs.length ≤ 64 := by
  unfold mkP
  cases decide (mkE5 p m = 0)
  · exact Nat.zero_le _
  · exact Nat.le_trans (Nat.le_of_eq zs3_len) h
theorem equalB_self (p : Psn) : equalB p p = true := by simp [equalB, sameB]
theorem w64_small {i : Int} (h1 : 0 ≤ i) (h2 : i ≤ 100000) : IntKind.i64.wrap i = i := by
  exact w64_id (by omega) (by omega)
theorem inc_loop {p : Psn} {m : Mov} {F : Unit → Option Bool} {n : Nat} (hn : n = (mkP p m).zs.length) (hl : n ≤ 64) : ∀ (j fuel i : Nat) (zs : List Int), i + j = n → j < fuel →
    loopO (lawMakes_s1 p m) F fuel (zs, (i : Int)) = F ()
  | j, 0, i, zs, _, h => absurd h (by omega)
  | 0, fuel + 1, i, zs, h, _ => by
    refine loopO_exit (x := ()) ?_
    unfold lawMakes_s1
    simp only [List.drop_zero, List.take_length, ← hn]
    have : decide ((i : Int) < Int.ofNat n) = false := by simp; omega
    rw [this]; rfl
  | j + 1, fuel + 1, i, zs, h, hf => by
    have hs : lawMakes_s1 p m (zs, (i : Int)) = some (.inl (zs.set i (IntKind.i8.wrap (zs.getD i 0 + 1)), ((i + 1 : Nat) : Int))) := by
      unfold lawMakes_s1
      simp only [List.drop_zero, List.take_length, ← hn]
      have h1 : decide ((i : Int) < Int.ofNat n) = true := by simp; omega
      have h2 : decide ((0 : Int) ≤ i) = true := by simp
      rw [h1, h2, w64_small (by omega) (by omega)]
      rfl
    rw [loopO_next hs]
    exact inc_loop hn hl j fuel (i + 1) _ (by omega) (by omega)
theorem lawMakes_true {p : Psn} {m : Mov} (hca : 0 ≤ p.ca) : lawMakes p m = some true := by
  unfold lawMakes
  simp only [List.drop_zero, List.take_length]
  rw [show small8 ⟨p.f, p.r, p.zs, p.bl, p.ca, p.pa, p.ha, p.fu⟩ = some (decide (Int.ofNat p.zs.length ≤ 64)) from rfl, callO_some]
  by_cases hl : p.zs.length ≤ 64
  · have h1 : decide (Int.ofNat p.zs.length ≤ 64) = true := by simp; omega
    obtain ⟨e1, e2, e3⟩ := make_eq (p := p) (m := m) hl hca
    have hp : (⟨p.f, p.r, p.zs, p.bl, p.ca, p.pa, p.ha, p.fu⟩ : Psn) = p := rfl
    have hm : (⟨m.a, m.b, m.p⟩ : Mov) = m := rfl
    have hk := mkP_len64 (m := m) hl
    rw [h1, hp, hm, e1, e2, e3]
    have hq : ∀ q : Psn, (⟨q.f, q.r, q.zs, q.bl, q.ca, q.pa, q.ha, q.fu⟩ : Psn) = q := fun _ => rfl
    simp only [hq, equalB_self, decide_true, hl, hk, Bool.and_self, Bool.not_true, Bool.or_self, cond_false, needO_true, Bool.not_false, Bool.or_true]
    rw [show ((0 : Int)) = ((0 : Nat) : Int) from rfl, inc_loop rfl hk (mkP p m).zs.length 1000000 0 _ (by omega) (by omega)]
  · have h1 : decide (Int.ofNat p.zs.length ≤ 64) = false := by simp; omega
    rw [h1]; rfl
end Go.Ab
