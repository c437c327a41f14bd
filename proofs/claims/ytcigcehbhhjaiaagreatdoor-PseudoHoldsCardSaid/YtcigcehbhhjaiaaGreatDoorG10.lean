/- Contracts of the functions that the laws reach, and plain laws of what they compute (text G10); no condition. -/
import Derived.Test.YtcigcehbhhjaiaaGreatDoorG9
import Derived.Test.YtcigcehbhhjaiaaGreatDoorG4
import Derived.Test.YtcigcehbhhjaiaaGreatDoorG3
set_option maxRecDepth 100000
set_option maxHeartbeats 4000000
namespace Go.Ab
open Go.Proofs
variable {kCa kDb : Bool}
def uis (p : Psn) (m : Mov) : Option (Bool) := let x4 := !decide (p.zs.getD m.a.toNat 0 = 0) && decide (p.zs.getD m.a.toNat 0 < 0) == p.bl; let x6 := List.take p.zs.length (List.drop 0 p.zs); let x5 := x6.length; needO (decide (0 ≤ m.a) && decide (m.a < Int.ofNat p.zs.length)) (needO (!x4 || decide (x5 ≤ 64) && (validBd p.f p.r x6 && castL p.f p.r x6 p.ca && validB p.f p.r m.a && validB p.f p.r m.b)) (some (x4 && soL p.f p.r x6 p.bl p.ca p.pa m.a m.b m.p)))
def uis_V (R : Bool) : V := Bb R
def uis_N (_R : Bool) : List O := []
def c_uis : CF
 | [.agg [.int .i64 p_0, .int .i64 p_1, .sl 0 0 p_2n none, .bool p_3, .int .u8 p_4, .int .i64 p_5, .int .i64 p_6, .int .i64 p_7], .agg [.int .i64 m_0, .int .i64 m_1, .int .i8 m_2]], [.ints false .i8 p_2] => retC (decide (p_2n = p_2.length)) (uis ⟨p_0, p_1, p_2, p_3, p_4, p_5, p_6, p_7⟩ ⟨m_0, m_1, m_2⟩) false uis_V uis_N
 | _, _ => none
theorem uis_snd (p : Psn) (m : Mov) {r} (hr : uis p m = some r) : FnSound (GGx kCa kDb) PP 32 [.agg [.int .i64 p.f, .int .i64 p.r, .sl 0 0 p.zs.length none, Bb p.bl, .int .u8 p.ca, .int .i64 p.pa, .int .i64 p.ha, .int .i64 p.fu], .agg [.int .i64 m.a, .int .i64 m.b, .int .i8 m.p]] [.ints false .i8 p.zs] (uis_V r) (uis_N r) := by
 have hE := cutE (EE_ok (kCa := kCa) (kDb := kDb) (cts := [(57, c_rso)]) (inl := []) ⟨c_rso_ok, trivial⟩ trivial)
 refine so_fn hE 2 Tryz.func32 rfl rfl uis_V uis_N hr ?_ rfl rfl
 refine so_need ?_
 refine so_triv (Bool.not_or_self _) ?_
 refine so_triv (Bool.not_or_self _) ?_
 refine so_triv (Bool.not_or_self _) ?_
 refine so_triv (Bool.not_or_self _) ?_
 refine so_triv (Bool.not_or_self _) ?_
 refine so_triv (Bool.not_or_self _) ?_
 refine so_triv (Bool.not_or_self _) ?_
 refine so_as (pi (pb (pl (decide_eq_true (win_len rfl)) id) id)) ?_
 refine so_triv (Bool.not_or_self _) ?_
 exact so_ret (fin_bs [] (.inr rfl) rfl rfl rfl rfl rfl)
theorem c_uis_ok : CtOk (GGx kCa kDb) PP (32, c_uis) := by
 refine ct_mk Tryz.func32 (by kernel_rfl) rfl fun a0 h0 c0 v0 N0 e hc => ?_
 unfold c_uis at e
 split at e
 ·rename_i p_0 p_1 p_2n p_3 p_4 p_5 p_6 p_7 m_0 m_1 m_2 p_2
  obtain ⟨hl, r, hr, rfl, rfl⟩ := ret_ok e hc
  simp only [decide_eq_true_eq] at hl
  obtain rfl := hl
  exact uis_snd ⟨p_0, p_1, p_2, p_3, p_4, p_5, p_6, p_7⟩ ⟨m_0, m_1, m_2⟩ hr
 ·cases e
def ufrom_s1 : Psn → Int → List (List Int) × Int → List (List Int) × Int → Option (List (List Int) × Int ⊕ List (List Int) ⊕ List (List Int) × Int ⊕ List (List Int) ⊕ List (List Int)) := fun (p : Psn) (from_ : Int) (s23 : List (List Int) × Int) => let x48 := iL [0, 2, 3, 4, 5]; let x49 := Psn.mk p.f p.r (List.take p.zs.length (List.drop 0 p.zs)) p.bl p.ca p.pa p.ha p.fu; fun (s29 : List (List Int) × Int) => let x51 := (s29.1.length + 1) * 24; let x54 := x48.getD s29.2.toNat 0; let x52 := mvB p.f p.r from_ s23.2 x54; let x53 := Mov.mk from_ s23.2 x54; bif decide (s29.2 < Int.ofNat 5) then needO (decide (0 ≤ s29.2) && decide (s29.2 < Int.ofNat 5)) (needO (!x52 || (uis x49 x53).isSome) (joinO (bif x52 && (uis x49 x53).getD false then needO (decide (x51 ≤ 140737488355328)) (some (Sum.inl (s29.1 ++ List.take 1 (List.drop 0 [iL [from_, s23.2, x54]])))) else some (Sum.inl s29.1)) fun (s31 : List (List Int)) => some (Sum.inl (s31, IntKind.i64.wrap (s29.2 + 1))))) else some (Sum.inr (Sum.inl s29.1))
def ufrom_s2 : Psn → Int → (Psn → Int → List (List Int) × Int → List (List Int) × Int → Option (List (List Int) × Int ⊕ List (List Int) ⊕ List (List Int) × Int ⊕ List (List Int) ⊕ List (List Int))) → List (List Int) × Int → Option (List (List Int) × Int ⊕ List (List Int) ⊕ List (List Int)) := fun (p : Psn) (from_ : Int) (ufrom_s1 : Psn → Int → List (List Int) × Int → List (List Int) × Int → Option (List (List Int) × Int ⊕ List (List Int) ⊕ List (List Int) × Int ⊕ List (List Int) ⊕ List (List Int))) (s23 : List (List Int) × Int) => bif decide (s23.2 < Int.ofNat p.zs.length) then loopO (ufrom_s1 p from_ s23) (fun (s39 : List (List Int)) => some (Sum.inl (s39, IntKind.i64.wrap (s23.2 + 1)))) 1000000 (s23.1, 0) else some (Sum.inr (Sum.inl s23.1))
def ufrom (p : Psn) (from_ : Int) : Option (List (List Int)) := loopO (ufrom_s2 p from_ ufrom_s1) (fun (s47 : List (List Int)) => some s47) 1000000 ([], 0)
def ufrom_V (R : List (List Int)) : V := .sl 1 0 R.length none
def ufrom_N (R : List (List Int)) : List O := [.rows true [.i64, .i64, .i8] R]
def c_ufrom : CF
 | [.agg [.int .i64 p_0, .int .i64 p_1, .sl 0 0 p_2n none, .bool p_3, .int .u8 p_4, .int .i64 p_5, .int .i64 p_6, .int .i64 p_7], .int .i64 from__0], [.ints false .i8 p_2] => retC (decide (p_2n = p_2.length)) (ufrom ⟨p_0, p_1, p_2, p_3, p_4, p_5, p_6, p_7⟩ from__0) [] ufrom_V ufrom_N
 | _, _ => none
theorem ufrom_snd (p : Psn) (from_ : Int) {r} (hr : ufrom p from_ = some r) : FnSound (GGx kCa kDb) PP 29 [.agg [.int .i64 p.f, .int .i64 p.r, .sl 0 0 p.zs.length none, Bb p.bl, .int .u8 p.ca, .int .i64 p.pa, .int .i64 p.ha, .int .i64 p.fu], .int .i64 from_] [.ints false .i8 p.zs] (ufrom_V r) (ufrom_N r) := by
 have hE := cutE (EE_ok (kCa := kCa) (kDb := kDb) (cts := [(31, c_rmvalid), (32, c_uis)]) (inl := []) ⟨c_rmvalid_ok, c_uis_ok, trivial⟩ trivial)
 refine so_fn hE 2 Tryz.func29 rfl rfl ufrom_V ufrom_N hr ?_ rfl rfl
 refine so_loop hE 2 (fun (s23 : List (List Int) × Int) => ([(1, V.int IntKind.i64 from_), (2, V.ptr 1 0 0), (4, V.nils), (5, V.sl 2 0 s23.1.length none), (6, V.int IntKind.i64 s23.2)], [O.ints false IntKind.i8 p.zs, O.cells true [V.int IntKind.i64 p.f, V.int IntKind.i64 p.r, V.sl 0 0 p.zs.length none, V.bool p.bl, V.int IntKind.u8 p.ca, V.int IntKind.i64 p.pa, V.int IntKind.i64 p.ha, V.int IntKind.i64 p.fu], O.rows true [IntKind.i64, IntKind.i64, IntKind.i8] s23.1])) (fun (s47 : List (List Int)) => ([(4, V.nils), (5, V.sl 1 0 s47.length none)], [O.ints false IntKind.i8 p.zs, O.rows true [IntKind.i64, IntKind.i64, IntKind.i8] s47])) (.exit 0) ((Ent.phT 5 (O.rows true [IntKind.i64, IntKind.i64, IntKind.i8] []) rfl rfl rfl rfl rfl).trans (Ent.rn [0, 1, 2] [1, 2, 4, 5, 6] rfl rfl rfl rfl rfl)) (fun s23 => ?_) (fun s47 => ?_)
 ·refine so_split hE 2 rfl ?_ ?_
  ·refine so_loop hE 2 (fun (s29 : List (List Int) × Int) => ([(1, V.int IntKind.i64 from_), (2, V.ptr 1 0 0), (4, V.nils), (5, V.sl 2 0 s29.1.length none), (6, V.int IntKind.i64 s23.2), (17, V.sl 3 0 5 none), (18, V.int IntKind.i64 (Int.ofNat 5)), (19, V.int IntKind.i64 s29.2)], [O.ints false IntKind.i8 p.zs, O.cells true [V.int IntKind.i64 p.f, V.int IntKind.i64 p.r, V.sl 0 0 p.zs.length none, V.bool p.bl, V.int IntKind.u8 p.ca, V.int IntKind.i64 p.pa, V.int IntKind.i64 p.ha, V.int IntKind.i64 p.fu], O.rows true [IntKind.i64, IntKind.i64, IntKind.i8] s29.1, O.ints true IntKind.i8 (iL [0, 2, 3, 4, 5])])) (fun (s39 : List (List Int)) => ([(1, V.int IntKind.i64 from_), (2, V.ptr 1 0 0), (4, V.nils), (5, V.sl 2 0 s39.length none), (6, V.int IntKind.i64 s23.2)], [O.ints false IntKind.i8 p.zs, O.cells true [V.int IntKind.i64 p.f, V.int IntKind.i64 p.r, V.sl 0 0 p.zs.length none, V.bool p.bl, V.int IntKind.u8 p.ca, V.int IntKind.i64 p.pa, V.int IntKind.i64 p.ha, V.int IntKind.i64 p.fu], O.rows true [IntKind.i64, IntKind.i64, IntKind.i8] s39])) (.exit 2) ((Ent.rn [0, 1, 2, 3] [1, 2, 4, 5, 6, 17, 18, 19] rfl rfl rfl rfl rfl)) (fun s29 => ?_) (fun s39 => ?_)
   ·refine so_split hE 2 rfl ?_ ?_
    ·refine so_need ?_
     refine so_triv rfl ?_
     refine so_triv (Bool.not_or_self _) ?_
     refine so_triv (Bool.not_or_self _) ?_
     refine so_as (pi (pl (decide_eq_true (win_len rfl)) id)) ?_
     refine so_triv (Bool.not_or_self _) ?_
     refine so_join hE 2 (fun (s31 : List (List Int)) => ([(1, V.int IntKind.i64 from_), (2, V.ptr 1 0 0), (4, V.nils), (5, V.sl 2 0 s31.length none), (6, V.int IntKind.i64 s23.2), (17, V.sl 3 0 5 none), (18, V.int IntKind.i64 (Int.ofNat 5)), (19, V.int IntKind.i64 s29.2)], [O.ints false IntKind.i8 p.zs, O.cells true [V.int IntKind.i64 p.f, V.int IntKind.i64 p.r, V.sl 0 0 p.zs.length none, V.bool p.bl, V.int IntKind.u8 p.ca, V.int IntKind.i64 p.pa, V.int IntKind.i64 p.ha, V.int IntKind.i64 p.fu], O.rows true [IntKind.i64, IntKind.i64, IntKind.i8] s31, O.ints true IntKind.i8 (iL [0, 2, 3, 4, 5])])) rfl ?_ ?_ (fun s31 => ?_)
     ·refine so_as (pr (pl (decide_eq_true rfl) id) rfl) ?_
      exact so_nrm ((Ent.rn [0, 1, 6, 3] [1, 2, 4, 5, 6, 17, 18, 19] rfl rfl rfl rfl rfl))
     ·exact so_nrm ((Ent.rn [0, 1, 2, 3] [1, 2, 4, 5, 6, 17, 18, 19] rfl rfl rfl rfl rfl))
     exact so_next ((Ent.rn [0, 1, 2, 3] [1, 2, 4, 5, 6, 17, 18, 19] rfl rfl rfl rfl rfl))
    exact so_exit ((Ent.rn [0, 1, 2] [1, 2, 4, 5, 6] rfl rfl rfl rfl rfl))
   exact so_next ((Ent.rn [0, 1, 2] [1, 2, 4, 5, 6] rfl rfl rfl rfl rfl))
  exact so_exit ((Ent.rn [0, 2] [4, 5] rfl rfl rfl rfl rfl))
 exact so_ret (fin_bs [1] (.inr rfl) rfl rfl rfl rfl rfl)
theorem c_ufrom_ok : CtOk (GGx kCa kDb) PP (29, c_ufrom) := by
 refine ct_mk Tryz.func29 (by kernel_rfl) rfl fun a0 h0 c0 v0 N0 e hc => ?_
 unfold c_ufrom at e
 split at e
 ·rename_i p_0 p_1 p_2n p_3 p_4 p_5 p_6 p_7 from__0 p_2
  obtain ⟨hl, r, hr, rfl, rfl⟩ := ret_ok e hc
  simp only [decide_eq_true_eq] at hl
  obtain rfl := hl
  exact ufrom_snd ⟨p_0, p_1, p_2, p_3, p_4, p_5, p_6, p_7⟩ from__0 hr
 ·cases e
def umoves_s1 : Psn → List (List Int) × Int → Option (List (List Int) × Int ⊕ List (List Int) ⊕ List (List Int)) := fun (p : Psn) (s7 : List (List Int) × Int) => bif decide (s7.2 < Int.ofNat p.zs.length) then callO (ufrom (Psn.mk p.f p.r (List.take p.zs.length (List.drop 0 p.zs)) p.bl p.ca p.pa p.ha p.fu) s7.2) [] fun (y8 : List (List Int)) => let x19 := (s7.1.length + y8.length) * 24; needO (decide (x19 ≤ 140737488355328) && !Nat.beq 2 (1 - hlen ([] ++ [O.ints false IntKind.i8 (List.take p.zs.length (List.drop 0 p.zs))]) + 2 + 1)) (some (Sum.inl (s7.1 ++ List.take y8.length (List.drop 0 y8), IntKind.i64.wrap (s7.2 + 1)))) else some (Sum.inr (Sum.inl s7.1))
def umoves (p : Psn) : Option (List (List Int)) := loopO (umoves_s1 p) (fun (s16 : List (List Int)) => some s16) 1000000 ([], 0)
def umoves_V (R : List (List Int)) : V := .sl 1 0 R.length none
def umoves_N (R : List (List Int)) : List O := [.rows true [.i64, .i64, .i8] R]
def c_umoves : CF
 | [.agg [.int .i64 p_0, .int .i64 p_1, .sl 0 0 p_2n none, .bool p_3, .int .u8 p_4, .int .i64 p_5, .int .i64 p_6, .int .i64 p_7]], [.ints false .i8 p_2] => retC (decide (p_2n = p_2.length)) (umoves ⟨p_0, p_1, p_2, p_3, p_4, p_5, p_6, p_7⟩) [] umoves_V umoves_N
 | _, _ => none
theorem umoves_snd (p : Psn) {r} (hr : umoves p = some r) : FnSound (GGx kCa kDb) PP 27 [.agg [.int .i64 p.f, .int .i64 p.r, .sl 0 0 p.zs.length none, Bb p.bl, .int .u8 p.ca, .int .i64 p.pa, .int .i64 p.ha, .int .i64 p.fu]] [.ints false .i8 p.zs] (umoves_V r) (umoves_N r) := by
 have hE := cutE (EE_ok (kCa := kCa) (kDb := kDb) (cts := [(29, c_ufrom)]) (inl := []) ⟨c_ufrom_ok, trivial⟩ trivial)
 refine so_fn hE 2 Tryz.func27 rfl rfl umoves_V umoves_N hr ?_ rfl rfl
 refine so_loop hE 2 (fun (s7 : List (List Int) × Int) => ([(1, V.ptr 1 0 0), (2, V.nils), (3, V.sl 2 0 s7.1.length none), (4, V.int IntKind.i64 s7.2)], [O.ints false IntKind.i8 p.zs, O.cells true [V.int IntKind.i64 p.f, V.int IntKind.i64 p.r, V.sl 0 0 p.zs.length none, V.bool p.bl, V.int IntKind.u8 p.ca, V.int IntKind.i64 p.pa, V.int IntKind.i64 p.ha, V.int IntKind.i64 p.fu], O.rows true [IntKind.i64, IntKind.i64, IntKind.i8] s7.1])) (fun (s16 : List (List Int)) => ([(2, V.nils), (3, V.sl 1 0 s16.length none)], [O.ints false IntKind.i8 p.zs, O.rows true [IntKind.i64, IntKind.i64, IntKind.i8] s16])) (.exit 0) ((Ent.phT 3 (O.rows true [IntKind.i64, IntKind.i64, IntKind.i8] []) rfl rfl rfl rfl rfl).trans (Ent.rn [0, 1, 2] [1, 2, 3, 4] rfl rfl rfl rfl rfl)) (fun s7 => ?_) (fun s16 => ?_)
 ·refine so_split hE 2 rfl ?_ ?_
  ·refine so_callas (pl (decide_eq_true (win_len rfl)) id) ?_
   refine so_as (pb (pl (decide_eq_true rfl) id) id) ?_
   exact so_next ((Ent.rn [0, 1, 4] [1, 2, 3, 4] rfl rfl rfl rfl rfl))
  exact so_exit ((Ent.rn [0, 2] [2, 3] rfl rfl rfl rfl rfl))
 exact so_ret (fin_bs [1] (.inr rfl) rfl rfl rfl rfl rfl)
theorem c_umoves_ok : CtOk (GGx kCa kDb) PP (27, c_umoves) := by
 refine ct_mk Tryz.func27 (by kernel_rfl) rfl fun a0 h0 c0 v0 N0 e hc => ?_
 unfold c_umoves at e
 split at e
 ·rename_i p_0 p_1 p_2n p_3 p_4 p_5 p_6 p_7 p_2
  obtain ⟨hl, r, hr, rfl, rfl⟩ := ret_ok e hc
  simp only [decide_eq_true_eq] at hl
  obtain rfl := hl
  exact umoves_snd ⟨p_0, p_1, p_2, p_3, p_4, p_5, p_6, p_7⟩ hr
 ·cases e
def sdist (s : Siz) (a : Int) (b : Int) : Option (Int × Int) := let x5 := (placeR s.f s.r a).snd.1; let x6 := (placeR s.f s.r a).snd.2; let x7 := (placeR s.f s.r b).snd.1; let x8 := (placeR s.f s.r b).snd.2; bif !decide (x6 = 0) || !decide (x8 = 0) then some (0, 2) else some (imax true (imax true (imax true (IntKind.i64.wrap ((placeR s.f s.r a).fst - (placeR s.f s.r b).fst)) (IntKind.i64.wrap ((placeR s.f s.r b).fst - (placeR s.f s.r a).fst))) (IntKind.i64.wrap (x5 - x7))) (IntKind.i64.wrap (x7 - x5)), 0)
def sdist_V (R : Int × Int) : V := .tup [.int .i64 R.1, .int .i64 R.2]
def sdist_N (_R : Int × Int) : List O := []
def c_sdist : CF
 | [.agg [.int .i64 s_0, .int .i64 s_1], .int .i64 a_0, .int .i64 b_0], [] => retC true (sdist ⟨s_0, s_1⟩ a_0 b_0) (0, 0) sdist_V sdist_N
 | _, _ => none
theorem sdist_snd (s : Siz) (a : Int) (b : Int) {r} (hr : sdist s a b = some r) : FnSound (GGx kCa kDb) PP 80 [.agg [.int .i64 s.f, .int .i64 s.r], .int .i64 a, .int .i64 b] [] (sdist_V r) (sdist_N r) := by
 have hE := cutE (EE_ok (kCa := kCa) (kDb := kDb) (cts := [(135, c_place)]) (inl := []) ⟨c_place_ok, trivial⟩ trivial)
 refine so_fn hE 2 Tryz.func80 rfl rfl sdist_V sdist_N hr ?_ rfl rfl
 refine so_triv rfl ?_
 refine so_triv rfl ?_
 refine so_triv (Bool.not_or_self _) ?_
 refine so_triv (Bool.or_not_self _) ?_
 refine so_split hE 2 rfl ?_ ?_
 ·exact so_ret (fin_bs [] (.inr rfl) rfl rfl rfl rfl rfl)
 exact so_ret (fin_bs [] (.inr rfl) rfl rfl rfl rfl rfl)
theorem c_sdist_ok : CtOk (GGx kCa kDb) PP (80, c_sdist) := by
 refine ct_mk Tryz.func80 (by kernel_rfl) rfl fun a0 h0 c0 v0 N0 e hc => ?_
 unfold c_sdist at e
 split at e
 ·rename_i s_0 s_1 a_0 b_0
  obtain ⟨hl, r, hr, rfl, rfl⟩ := ret_ok e hc
  exact sdist_snd ⟨s_0, s_1⟩ a_0 b_0 hr
 ·cases e
def sIdxM_s1 : List (List Int) → Mov → Int → Option (Int ⊕ Unit ⊕ Int) := fun (s : List (List Int)) (v : Mov) (s6 : Int) => let x13 := (s.getD s6.toNat []).getD 0 0; let x14 := (s.getD s6.toNat []).getD 2 0; let x15 := (s.getD s6.toNat []).getD 1 0; let x16 := decide (s6 < Int.ofNat s.length); bif x16 then needO (decide (0 ≤ s6) && x16) (bif decide (v.a = x13) && (decide (v.b = x15) && decide (v.p = x14)) then escO (escO (some s6)) else some (Sum.inl (IntKind.i64.wrap (s6 + 1)))) else some (Sum.inr (Sum.inl ()))
def sIdxM (s : List (List Int)) (v : Mov) : Option (Int) := loopO (sIdxM_s1 s v) (fun (_s11 : Unit) => some (-1)) 1000000 0
def sIdxM_V (R : Int) : V := .int .i64 R
def sIdxM_N (_R : Int) : List O := []
def c_sIdxM : CF
 | [.sl 0 0 s_0n none, .agg [.int .i64 v_0, .int .i64 v_1, .int .i8 v_2]], [.rows false [.i64, .i64, .i8] s_0] => retC (decide (s_0n = s_0.length)) (sIdxM s_0 ⟨v_0, v_1, v_2⟩) 0 sIdxM_V sIdxM_N
 | _, _ => none
theorem sIdxM_snd (s : List (List Int)) (v : Mov) {r} (hr : sIdxM s v = some r) : FnSound (GGx kCa kDb) PP 134 [.sl 0 0 s.length none, .agg [.int .i64 v.a, .int .i64 v.b, .int .i8 v.p]] [.rows false [.i64, .i64, .i8] s] (sIdxM_V r) (sIdxM_N r) := by
 have hE := cutE (EE_ok (kCa := kCa) (kDb := kDb) (cts := []) (inl := []) trivial trivial)
 refine so_fn hE 2 Tryz.func134 rfl rfl sIdxM_V sIdxM_N hr ?_ rfl rfl
 refine so_loop hE 2 (fun (s6 : Int) => ([(0, V.sl 0 0 s.length none), (3, V.ptr 1 0 0), (4, V.int IntKind.i64 0), (7, V.int IntKind.i64 (Int.ofNat s.length)), (8, V.int IntKind.i64 s6)], [O.rows false [IntKind.i64, IntKind.i64, IntKind.i8] s, O.cells true [V.int IntKind.i64 v.a, V.int IntKind.i64 v.b, V.int IntKind.i8 v.p]])) (fun (s11 : Unit) => ([(4, V.int IntKind.i64 0)], [O.rows false [IntKind.i64, IntKind.i64, IntKind.i8] s])) (.exit 0) ((Ent.rn [0, 1] [0, 3, 4, 7, 8] rfl rfl rfl rfl rfl)) (fun s6 => ?_) (fun s11 => ?_)
 ·refine so_split hE 2 rfl ?_ ?_
  ·refine so_triv rfl ?_
   refine so_need ?_
   refine so_split hE 2 rfl ?_ ?_
   ·refine so_out (by simp) (so_out1 ?_)
    exact so_ret (fin_bs [] (.inr rfl) rfl rfl rfl rfl rfl)
   exact so_next ((Ent.rn [0, 1] [0, 3, 4, 7, 8] rfl rfl rfl rfl rfl))
  exact so_exit ((Ent.rn [0] [4] rfl rfl rfl rfl rfl))
 exact so_ret (fin_bs [] (.inr rfl) rfl rfl rfl rfl rfl)
theorem c_sIdxM_ok : CtOk (GGx kCa kDb) PP (134, c_sIdxM) := by
 refine ct_mk Tryz.func134 (by kernel_rfl) rfl fun a0 h0 c0 v0 N0 e hc => ?_
 unfold c_sIdxM at e
 split at e
 ·rename_i s_0n v_0 v_1 v_2 s_0
  obtain ⟨hl, r, hr, rfl, rfl⟩ := ret_ok e hc
  simp only [decide_eq_true_eq] at hl
  obtain rfl := hl
  exact sIdxM_snd s_0 ⟨v_0, v_1, v_2⟩ hr
 ·cases e
def sConM (s : List (List Int)) (v : Mov) : Option (Bool) := callO (sIdxM (List.take s.length (List.drop 0 s)) (Mov.mk v.a v.b v.p)) 0 fun (y4 : Int) => some (decide (0 ≤ y4))
def sConM_V (R : Bool) : V := Bb R
def sConM_N (_R : Bool) : List O := []
def c_sConM : CF
 | [.sl 0 0 s_0n none, .agg [.int .i64 v_0, .int .i64 v_1, .int .i8 v_2]], [.rows false [.i64, .i64, .i8] s_0] => retC (decide (s_0n = s_0.length)) (sConM s_0 ⟨v_0, v_1, v_2⟩) false sConM_V sConM_N
 | _, _ => none
theorem sConM_snd (s : List (List Int)) (v : Mov) {r} (hr : sConM s v = some r) : FnSound (GGx kCa kDb) PP 78 [.sl 0 0 s.length none, .agg [.int .i64 v.a, .int .i64 v.b, .int .i8 v.p]] [.rows false [.i64, .i64, .i8] s] (sConM_V r) (sConM_N r) := by
 have hE := cutE (EE_ok (kCa := kCa) (kDb := kDb) (cts := [(134, c_sIdxM)]) (inl := []) ⟨c_sIdxM_ok, trivial⟩ trivial)
 refine so_fn hE 2 Tryz.func78 rfl rfl sConM_V sConM_N hr ?_ rfl rfl
 unfold sConM
 refine so_callas (pl (decide_eq_true (win_len rfl)) id) ?_
 exact so_ret (fin_bs [] (.inr rfl) rfl rfl rfl rfl rfl)
theorem c_sConM_ok : CtOk (GGx kCa kDb) PP (78, c_sConM) := by
 refine ct_mk Tryz.func78 (by kernel_rfl) rfl fun a0 h0 c0 v0 N0 e hc => ?_
 unfold c_sConM at e
 split at e
 ·rename_i s_0n v_0 v_1 v_2 s_0
  obtain ⟨hl, r, hr, rfl, rfl⟩ := ret_ok e hc
  simp only [decide_eq_true_eq] at hl
  obtain rfl := hl
  exact sConM_snd s_0 ⟨v_0, v_1, v_2⟩ hr
 ·cases e
def spawn (s : Sgt) (from_ : Int) : Option (Int) := let x6 := decide (0 ≤ s.p.pa); joinO (bif x6 then needO x6 (some (Sum.inl (band Go.BinOp.or IntKind.u64 (band Go.BinOp.andNot IntKind.u64 s.all s.own) (IntKind.u64.wrap (1 * 2 ^ Min.min s.p.pa.toNat IntKind.u64.bits))))) else some (Sum.inl (band Go.BinOp.andNot IntKind.u64 s.all s.own))) fun (s5 : Int) => some (band Go.BinOp.or IntKind.u64 (stepsR s.p.f s.p.r s.p.bl from_ s.all).fst (band Go.BinOp.and IntKind.u64 (pawnR s.p.f s.p.r s.p.bl from_).fst s5))
def spawn_V (R : Int) : V := .int .u64 R
def spawn_N (_R : Int) : List O := []
def c_spawn : CF
 | [.agg [.int .i64 s_0, .int .i64 s_1, .sl 0 0 s_2n none, .bool s_3, .int .u8 s_4, .int .i64 s_5, .int .i64 s_6, .int .i64 s_7, .int .u64 s_8, .int .u64 s_9], .int .i64 from__0], [.ints false .i8 s_2] => retC (decide (s_2n = s_2.length)) (spawn ⟨⟨s_0, s_1, s_2, s_3, s_4, s_5, s_6, s_7⟩, s_8, s_9⟩ from__0) 0 spawn_V spawn_N
 | _, _ => none
theorem spawn_snd (s : Sgt) (from_ : Int) {r} (hr : spawn s from_ = some r) : FnSound (GGx kCa kDb) PP 174 [.agg [.int .i64 s.p.f, .int .i64 s.p.r, .sl 0 0 s.p.zs.length none, Bb s.p.bl, .int .u8 s.p.ca, .int .i64 s.p.pa, .int .i64 s.p.ha, .int .i64 s.p.fu, .int .u64 s.own, .int .u64 s.all], .int .i64 from_] [.ints false .i8 s.p.zs] (spawn_V r) (spawn_N r) := by
 have hE := cutE (EE_ok (kCa := kCa) (kDb := kDb) (cts := [(107, c_steps), (108, c_pawn)]) (inl := []) ⟨c_steps_ok, c_pawn_ok, trivial⟩ trivial)
 refine so_fn hE 2 Tryz.func174 rfl rfl spawn_V spawn_N hr ?_ rfl rfl
 refine so_triv rfl ?_
 refine so_triv rfl ?_
 refine so_join hE 2 (fun (s5 : Int) => ([(4, V.int IntKind.u64 0), (5, V.int IntKind.u64 (stepsR s.p.f s.p.r s.p.bl from_ s.all).fst), (7, V.int IntKind.u64 (pawnR s.p.f s.p.r s.p.bl from_).fst), (9, V.int IntKind.u64 s5)], [O.ints false IntKind.i8 s.p.zs])) rfl ?_ ?_ (fun s5 => ?_)
 ·refine so_need ?_
  exact so_nrm ((Ent.rn [0] [4, 5, 7, 9] rfl rfl rfl rfl rfl))
 ·exact so_nrm ((Ent.rn [0] [4, 5, 7, 9] rfl rfl rfl rfl rfl))
 exact so_ret (fin_bs [] (.inr rfl) rfl rfl rfl rfl rfl)
theorem c_spawn_ok : CtOk (GGx kCa kDb) PP (174, c_spawn) := by
 refine ct_mk Tryz.func174 (by kernel_rfl) rfl fun a0 h0 c0 v0 N0 e hc => ?_
 unfold c_spawn at e
 split at e
 ·rename_i s_0 s_1 s_2n s_3 s_4 s_5 s_6 s_7 s_8 s_9 from__0 s_2
  obtain ⟨hl, r, hr, rfl, rfl⟩ := ret_ok e hc
  simp only [decide_eq_true_eq] at hl
  obtain rfl := hl
  exact spawn_snd ⟨⟨s_0, s_1, s_2, s_3, s_4, s_5, s_6, s_7⟩, s_8, s_9⟩ from__0 hr
 ·cases e
end Go.Ab

set_option maxRecDepth 100000
set_option maxHeartbeats 4000000
namespace Go.Ab
open Go.Proofs
variable {kCa kDb : Bool}
def sways (s : Sgt) (from_ : Int) : Option (Int) := let x21 := band Go.BinOp.and IntKind.u64 (betwR s.p.f s.p.r 60 56).fst s.all; let x22 := band Go.BinOp.and IntKind.u64 (betwR s.p.f s.p.r 60 63).fst s.all; let x23 := band Go.BinOp.and IntKind.u64 (betwR s.p.f s.p.r 4 0).fst s.all; let x24 := band Go.BinOp.and IntKind.u64 (betwR s.p.f s.p.r 4 7).fst s.all; let x25 := !decide (from_ = 60); let x26 := !decide (from_ = 4); joinO (bif decide (band Go.BinOp.and IntKind.u8 s.p.ca 1 = 0) || !s.p.bl == false || x26 then some (Sum.inl 0) else joinO (bif decide (x24 = 0) then some (Sum.inl (band Go.BinOp.or IntKind.u64 0 (IntKind.u64.wrap (1 * 2 ^ Min.min (Int.toNat 6) IntKind.u64.bits)))) else some (Sum.inl 0)) fun (s5 : Int) => some (Sum.inl s5)) fun (s7 : Int) => joinO (bif decide (band Go.BinOp.and IntKind.u8 s.p.ca 2 = 0) || !s.p.bl == false || x26 then some (Sum.inl s7) else joinO (bif decide (x23 = 0) then some (Sum.inl (band Go.BinOp.or IntKind.u64 s7 (IntKind.u64.wrap (1 * 2 ^ Min.min (Int.toNat 2) IntKind.u64.bits)))) else some (Sum.inl s7)) fun (s9 : Int) => some (Sum.inl s9)) fun (s11 : Int) => joinO (bif decide (band Go.BinOp.and IntKind.u8 s.p.ca 4 = 0) || !s.p.bl == true || x25 then some (Sum.inl s11) else joinO (bif decide (x22 = 0) then some (Sum.inl (band Go.BinOp.or IntKind.u64 s11 (IntKind.u64.wrap (1 * 2 ^ Min.min (Int.toNat 62) IntKind.u64.bits)))) else some (Sum.inl s11)) fun (s13 : Int) => some (Sum.inl s13)) fun (s15 : Int) => joinO (bif decide (band Go.BinOp.and IntKind.u8 s.p.ca 8 = 0) || !s.p.bl == true || x25 then some (Sum.inl s15) else joinO (bif decide (x21 = 0) then some (Sum.inl (band Go.BinOp.or IntKind.u64 s15 (IntKind.u64.wrap (1 * 2 ^ Min.min (Int.toNat 58) IntKind.u64.bits)))) else some (Sum.inl s15)) fun (s17 : Int) => some (Sum.inl s17)) fun (s19 : Int) => joinO (escO (some s19)) fun (_s20 : Unit) => none
def sways_V (R : Int) : V := .int .u64 R
def sways_N (_R : Int) : List O := []
def c_sways : CF
 | [.agg [.int .i64 s_0, .int .i64 s_1, .sl 0 0 s_2n none, .bool s_3, .int .u8 s_4, .int .i64 s_5, .int .i64 s_6, .int .i64 s_7, .int .u64 s_8, .int .u64 s_9], .int .i64 from__0], [.ints false .i8 s_2] => retC (decide (s_2n = s_2.length)) (sways ⟨⟨s_0, s_1, s_2, s_3, s_4, s_5, s_6, s_7⟩, s_8, s_9⟩ from__0) 0 sways_V sways_N
 | _, _ => none
theorem sways_snd (s : Sgt) (from_ : Int) {r} (hr : sways s from_ = some r) : FnSound (GGx kCa kDb) PP 175 [.agg [.int .i64 s.p.f, .int .i64 s.p.r, .sl 0 0 s.p.zs.length none, Bb s.p.bl, .int .u8 s.p.ca, .int .i64 s.p.pa, .int .i64 s.p.ha, .int .i64 s.p.fu, .int .u64 s.own, .int .u64 s.all], .int .i64 from_] [.ints false .i8 s.p.zs] (sways_V r) (sways_N r) := by
 have hE := cutE (EE_ok (kCa := kCa) (kDb := kDb) (cts := [(104, c_betw)]) (inl := []) ⟨c_betw_ok, trivial⟩ trivial)
 refine so_fn hE 2 Tryz.func175 rfl rfl sways_V sways_N hr ?_ rfl rfl
 refine so_rounds hE 2 5 ?_
 refine so_rnd (let x120 := [V.int IntKind.u8 s.p.ca, V.int IntKind.i64 s.p.pa, V.int IntKind.i64 s.p.ha, V.int IntKind.i64 s.p.fu, V.int IntKind.u64 s.own, V.int IntKind.u64 s.all]; let x122 := decide (band Go.BinOp.and IntKind.u8 s.p.ca 1 = 0); let x123 := [V.int IntKind.i64 4, V.int IntKind.i64 7, V.int IntKind.i64 6]; let x124 := EE kCa kDb [(104, c_betw)] []; let x125 := IntKind.i64.wrap (0 + 1); let x119 := x122 || !s.p.bl == false; let x121 := V.int IntKind.u8 1 :: V.lit false :: x123; let x118 := (13, V.agg [V.int IntKind.u8 8, V.lit true, V.int IntKind.i64 60, V.int IntKind.i64 56, V.int IntKind.i64 58]) :: (12, V.agg [V.int IntKind.u8 4, V.lit true, V.int IntKind.i64 60, V.int IntKind.i64 63, V.int IntKind.i64 62]) :: (11, V.agg [V.int IntKind.u8 2, V.lit false, V.int IntKind.i64 4, V.int IntKind.i64 0, V.int IntKind.i64 2]) :: (10, V.agg x121) :: (5, V.int IntKind.u64 0) :: (4, V.int IntKind.u64 0) :: (2, V.ptr 1 0 0) :: initTm 0 [V.agg (V.int IntKind.i64 s.p.f :: V.int IntKind.i64 s.p.r :: V.sl 0 0 s.p.zs.length none :: Bb s.p.bl :: x120), V.int IntKind.i64 from_]; fun (s7 : Int) => ([(1, V.int IntKind.i64 from_), (2, V.ptr 1 0 0), (4, V.int IntKind.u64 0), (5, V.int IntKind.u64 s7), (7, V.ptr 2 0 0), (14, V.sl 3 0 4 none), (15, V.int IntKind.i64 (Int.ofNat 4)), (16, V.int IntKind.i64 x125), (17, V.bool (decide (0 < Int.ofNat 4))), (18, V.ptr 3 0 0), (19, V.agg x121), (20, V.ptr 1 0 0), (21, V.ptr 1 0 4), (22, V.int IntKind.u8 s.p.ca), (23, V.ptr 2 0 0), (24, V.int IntKind.u8 1), (25, V.int IntKind.u8 (band Go.BinOp.and IntKind.u8 s.p.ca 1)), (26, V.bool x122), (27, V.bool x122), (34, V.bool x119), (35, V.bool x119), (40, V.bool (x119 || !decide (from_ = 4))), (62, V.int IntKind.i64 x125)], [O.ints false IntKind.i8 s.p.zs, O.cells true (V.int IntKind.i64 s.p.f :: V.int IntKind.i64 s.p.r :: V.sl 0 0 s.p.zs.length none :: V.bool s.p.bl :: x120), O.cells true (V.int IntKind.u8 1 :: V.bool false :: x123), O.vals true 5 [(evA (let __src := x124; Env.mk __src.ty __src.G __src.pf __src.inl __src.cc __src.pn true) x118 (Go.Operand.tmp 10)).cells, (evA (let __src := x124; Env.mk __src.ty __src.G __src.pf __src.inl __src.cc __src.pn true) x118 (Go.Operand.tmp 11)).cells, (evA (let __src := x124; Env.mk __src.ty __src.G __src.pf __src.inl __src.cc __src.pn true) x118 (Go.Operand.tmp 12)).cells, (evA (let __src := x124; Env.mk __src.ty __src.G __src.pf __src.inl __src.cc __src.pn true) x118 (Go.Operand.tmp 13)).cells]])) ?_ (fun s7 => ?_)
 ·refine so_yes hE 2 rfl rfl ?_
  refine so_triv rfl ?_
  refine so_triv (Bool.not_or_self _) ?_
  refine so_triv (Bool.not_or_self _) ?_
  refine so_triv (Bool.not_or_self _) ?_
  refine so_triv (Bool.not_or_self _) ?_
  refine so_triv (Bool.not_or_self _) ?_
  refine so_triv (Bool.or_not_self _) ?_
  refine so_triv (Bool.not_or_self _) ?_
  refine so_triv (Bool.not_or_self _) ?_
  refine so_triv (Bool.not_or_self _) ?_
  refine so_triv (Bool.or_not_self _) ?_
  refine so_split hE 2 rfl ?_ ?_
  ·exact so_unrm ((Ent.rn [0, 1, 3, 2] [1, 2, 4, 5, 7, 14, 15, 16, 17, 18, 19, 20, 21, 22, 23, 24, 25, 26, 27, 34, 35, 40, 62] rfl rfl rfl rfl rfl))
  refine so_triv rfl ?_
  refine so_join hE 2 (let x39 := [V.int IntKind.u8 s.p.ca, V.int IntKind.i64 s.p.pa, V.int IntKind.i64 s.p.ha, V.int IntKind.i64 s.p.fu, V.int IntKind.u64 s.own, V.int IntKind.u64 s.all]; let x41 := decide (band Go.BinOp.and IntKind.u8 s.p.ca 1 = 0); let x42 := [V.int IntKind.i64 4, V.int IntKind.i64 7, V.int IntKind.i64 6]; let x44 := EE kCa kDb [(104, c_betw)] []; let x45 := (betwR s.p.f s.p.r 4 7).fst; let x46 := (betwR s.p.f s.p.r 4 7).snd; let x37 := [V.int IntKind.u64 x45, V.int IntKind.i64 x46]; let x38 := x41 || !s.p.bl == false; let x40 := V.int IntKind.u8 1 :: V.lit false :: x42; let x43 := band Go.BinOp.and IntKind.u64 x45 s.all; let x36 := (13, V.agg [V.int IntKind.u8 8, V.lit true, V.int IntKind.i64 60, V.int IntKind.i64 56, V.int IntKind.i64 58]) :: (12, V.agg [V.int IntKind.u8 4, V.lit true, V.int IntKind.i64 60, V.int IntKind.i64 63, V.int IntKind.i64 62]) :: (11, V.agg [V.int IntKind.u8 2, V.lit false, V.int IntKind.i64 4, V.int IntKind.i64 0, V.int IntKind.i64 2]) :: (10, V.agg x40) :: (5, V.int IntKind.u64 0) :: (4, V.int IntKind.u64 0) :: (2, V.ptr 1 0 0) :: initTm 0 [V.agg (V.int IntKind.i64 s.p.f :: V.int IntKind.i64 s.p.r :: V.sl 0 0 s.p.zs.length none :: Bb s.p.bl :: x39), V.int IntKind.i64 from_]; fun (s5 : Int) => ([(1, V.int IntKind.i64 from_), (2, V.ptr 1 0 0), (4, V.int IntKind.u64 0), (5, V.int IntKind.u64 s5), (7, V.ptr 2 0 0), (8, V.int IntKind.u64 x45), (14, V.sl 3 0 4 none), (15, V.int IntKind.i64 (Int.ofNat 4)), (16, V.int IntKind.i64 0), (17, V.bool (decide (0 < Int.ofNat 4))), (18, V.ptr 3 0 0), (19, V.agg x40), (20, V.ptr 1 0 0), (21, V.ptr 1 0 4), (22, V.int IntKind.u8 s.p.ca), (23, V.ptr 2 0 0), (24, V.int IntKind.u8 1), (25, V.int IntKind.u8 (band Go.BinOp.and IntKind.u8 s.p.ca 1)), (26, V.bool x41), (27, V.bool x41), (34, V.bool x38), (35, V.bool x38), (40, V.bool (x38 || !decide (from_ = 4))), (41, V.tup x37), (42, V.ptr 1 0 0), (43, V.ptr 1 0 0), (44, V.agg [V.int IntKind.i64 s.p.f, V.int IntKind.i64 s.p.r]), (45, V.ptr 2 0 2), (46, V.int IntKind.i64 4), (47, V.ptr 2 0 3), (48, V.int IntKind.i64 7), (49, V.tup x37), (50, V.int IntKind.u64 x45), (51, V.int IntKind.i64 x46), (52, V.int IntKind.u64 x45), (53, V.ptr 1 0 9), (54, V.int IntKind.u64 s.all), (55, V.int IntKind.u64 x43), (56, V.bool (decide (x43 = 0)))], [O.ints false IntKind.i8 s.p.zs, O.cells true (V.int IntKind.i64 s.p.f :: V.int IntKind.i64 s.p.r :: V.sl 0 0 s.p.zs.length none :: V.bool s.p.bl :: x39), O.cells true (V.int IntKind.u8 1 :: V.bool false :: x42), O.vals true 5 [(evA (let __src := x44; Env.mk __src.ty __src.G __src.pf __src.inl __src.cc __src.pn true) x36 (Go.Operand.tmp 10)).cells, (evA (let __src := x44; Env.mk __src.ty __src.G __src.pf __src.inl __src.cc __src.pn true) x36 (Go.Operand.tmp 11)).cells, (evA (let __src := x44; Env.mk __src.ty __src.G __src.pf __src.inl __src.cc __src.pn true) x36 (Go.Operand.tmp 12)).cells, (evA (let __src := x44; Env.mk __src.ty __src.G __src.pf __src.inl __src.cc __src.pn true) x36 (Go.Operand.tmp 13)).cells]])) rfl ?_ ?_ (fun s5 => ?_)
  ·refine so_triv rfl ?_
   exact so_nrm ((Ent.rn [0, 1, 3, 2] [1, 2, 4, 5, 7, 8, 14, 15, 16, 17, 18, 19, 20, 21, 22, 23, 24, 25, 26, 27, 34, 35, 40, 41, 42, 43, 44, 45, 46, 47, 48, 49, 50, 51, 52, 53, 54, 55, 56] rfl rfl rfl rfl rfl))
  ·exact so_nrm ((Ent.rn [0, 1, 3, 2] [1, 2, 4, 5, 7, 8, 14, 15, 16, 17, 18, 19, 20, 21, 22, 23, 24, 25, 26, 27, 34, 35, 40, 41, 42, 43, 44, 45, 46, 47, 48, 49, 50, 51, 52, 53, 54, 55, 56] rfl rfl rfl rfl rfl))
  exact so_unrm ((Ent.rn [0, 1, 2, 3] [1, 2, 4, 5, 7, 14, 15, 16, 17, 18, 19, 20, 21, 22, 23, 24, 25, 26, 27, 34, 35, 40, 62] rfl rfl rfl rfl rfl))
 refine so_rnd (let x110 := [V.int IntKind.u8 s.p.ca, V.int IntKind.i64 s.p.pa, V.int IntKind.i64 s.p.ha, V.int IntKind.i64 s.p.fu, V.int IntKind.u64 s.own, V.int IntKind.u64 s.all]; let x112 := decide (band Go.BinOp.and IntKind.u8 s.p.ca 2 = 0); let x114 := [V.int IntKind.i64 4, V.int IntKind.i64 0, V.int IntKind.i64 2]; let x115 := EE kCa kDb [(104, c_betw)] []; let x116 := IntKind.i64.wrap (0 + 1); let x109 := x112 || !s.p.bl == false; let x111 := V.int IntKind.u8 2 :: V.lit false :: x114; let x113 := IntKind.i64.wrap (x116 + 1); let x108 := (13, V.agg [V.int IntKind.u8 8, V.lit true, V.int IntKind.i64 60, V.int IntKind.i64 56, V.int IntKind.i64 58]) :: (12, V.agg [V.int IntKind.u8 4, V.lit true, V.int IntKind.i64 60, V.int IntKind.i64 63, V.int IntKind.i64 62]) :: (11, V.agg x111) :: (10, V.agg [V.int IntKind.u8 1, V.lit false, V.int IntKind.i64 4, V.int IntKind.i64 7, V.int IntKind.i64 6]) :: (5, V.int IntKind.u64 0) :: (4, V.int IntKind.u64 0) :: (2, V.ptr 1 0 0) :: initTm 0 [V.agg (V.int IntKind.i64 s.p.f :: V.int IntKind.i64 s.p.r :: V.sl 0 0 s.p.zs.length none :: Bb s.p.bl :: x110), V.int IntKind.i64 from_]; fun (s11 : Int) => ([(1, V.int IntKind.i64 from_), (2, V.ptr 1 0 0), (4, V.int IntKind.u64 0), (5, V.int IntKind.u64 s11), (7, V.ptr 2 0 0), (14, V.sl 3 0 4 none), (15, V.int IntKind.i64 (Int.ofNat 4)), (16, V.int IntKind.i64 x113), (17, V.bool (decide (x116 < Int.ofNat 4))), (18, V.ptr 3 1 0), (19, V.agg x111), (20, V.ptr 1 0 0), (21, V.ptr 1 0 4), (22, V.int IntKind.u8 s.p.ca), (23, V.ptr 2 0 0), (24, V.int IntKind.u8 2), (25, V.int IntKind.u8 (band Go.BinOp.and IntKind.u8 s.p.ca 2)), (26, V.bool x112), (27, V.bool x112), (34, V.bool x109), (35, V.bool x109), (40, V.bool (x109 || !decide (from_ = 4))), (62, V.int IntKind.i64 x113)], [O.ints false IntKind.i8 s.p.zs, O.cells true (V.int IntKind.i64 s.p.f :: V.int IntKind.i64 s.p.r :: V.sl 0 0 s.p.zs.length none :: V.bool s.p.bl :: x110), O.cells true (V.int IntKind.u8 2 :: V.bool false :: x114), O.vals true 5 [(evA (let __src := x115; Env.mk __src.ty __src.G __src.pf __src.inl __src.cc __src.pn true) x108 (Go.Operand.tmp 10)).cells, (evA (let __src := x115; Env.mk __src.ty __src.G __src.pf __src.inl __src.cc __src.pn true) x108 (Go.Operand.tmp 11)).cells, (evA (let __src := x115; Env.mk __src.ty __src.G __src.pf __src.inl __src.cc __src.pn true) x108 (Go.Operand.tmp 12)).cells, (evA (let __src := x115; Env.mk __src.ty __src.G __src.pf __src.inl __src.cc __src.pn true) x108 (Go.Operand.tmp 13)).cells]])) ?_ (fun s11 => ?_)
 ·refine so_yes hE 2 rfl rfl ?_
  refine so_triv rfl ?_
  refine so_triv (Bool.not_or_self _) ?_
  refine so_triv (Bool.not_or_self _) ?_
  refine so_triv (Bool.not_or_self _) ?_
  refine so_triv (Bool.not_or_self _) ?_
  refine so_triv (Bool.not_or_self _) ?_
  refine so_triv (Bool.or_not_self _) ?_
  refine so_triv (Bool.not_or_self _) ?_
  refine so_triv (Bool.not_or_self _) ?_
  refine so_triv (Bool.not_or_self _) ?_
  refine so_triv (Bool.or_not_self _) ?_
  refine so_split hE 2 rfl ?_ ?_
  ·exact so_unrm ((Ent.rn [0, 1, 4, 3] [1, 2, 4, 5, 7, 14, 15, 16, 17, 18, 19, 20, 21, 22, 23, 24, 25, 26, 27, 34, 35, 40, 62] rfl rfl rfl rfl rfl))
  refine so_triv rfl ?_
  refine so_join hE 2 (let x51 := [V.int IntKind.u8 s.p.ca, V.int IntKind.i64 s.p.pa, V.int IntKind.i64 s.p.ha, V.int IntKind.i64 s.p.fu, V.int IntKind.u64 s.own, V.int IntKind.u64 s.all]; let x53 := decide (band Go.BinOp.and IntKind.u8 s.p.ca 2 = 0); let x54 := [V.int IntKind.i64 4, V.int IntKind.i64 0, V.int IntKind.i64 2]; let x56 := EE kCa kDb [(104, c_betw)] []; let x57 := (betwR s.p.f s.p.r 4 0).fst; let x58 := (betwR s.p.f s.p.r 4 0).snd; let x59 := IntKind.i64.wrap (0 + 1); let x49 := [V.int IntKind.u64 x57, V.int IntKind.i64 x58]; let x50 := x53 || !s.p.bl == false; let x52 := V.int IntKind.u8 2 :: V.lit false :: x54; let x55 := band Go.BinOp.and IntKind.u64 x57 s.all; let x48 := (13, V.agg [V.int IntKind.u8 8, V.lit true, V.int IntKind.i64 60, V.int IntKind.i64 56, V.int IntKind.i64 58]) :: (12, V.agg [V.int IntKind.u8 4, V.lit true, V.int IntKind.i64 60, V.int IntKind.i64 63, V.int IntKind.i64 62]) :: (11, V.agg x52) :: (10, V.agg [V.int IntKind.u8 1, V.lit false, V.int IntKind.i64 4, V.int IntKind.i64 7, V.int IntKind.i64 6]) :: (5, V.int IntKind.u64 0) :: (4, V.int IntKind.u64 0) :: (2, V.ptr 1 0 0) :: initTm 0 [V.agg (V.int IntKind.i64 s.p.f :: V.int IntKind.i64 s.p.r :: V.sl 0 0 s.p.zs.length none :: Bb s.p.bl :: x51), V.int IntKind.i64 from_]; fun (s9 : Int) => ([(1, V.int IntKind.i64 from_), (2, V.ptr 1 0 0), (4, V.int IntKind.u64 0), (5, V.int IntKind.u64 s9), (7, V.ptr 2 0 0), (8, V.int IntKind.u64 x57), (14, V.sl 3 0 4 none), (15, V.int IntKind.i64 (Int.ofNat 4)), (16, V.int IntKind.i64 x59), (17, V.bool (decide (x59 < Int.ofNat 4))), (18, V.ptr 3 1 0), (19, V.agg x52), (20, V.ptr 1 0 0), (21, V.ptr 1 0 4), (22, V.int IntKind.u8 s.p.ca), (23, V.ptr 2 0 0), (24, V.int IntKind.u8 2), (25, V.int IntKind.u8 (band Go.BinOp.and IntKind.u8 s.p.ca 2)), (26, V.bool x53), (27, V.bool x53), (34, V.bool x50), (35, V.bool x50), (40, V.bool (x50 || !decide (from_ = 4))), (41, V.tup x49), (42, V.ptr 1 0 0), (43, V.ptr 1 0 0), (44, V.agg [V.int IntKind.i64 s.p.f, V.int IntKind.i64 s.p.r]), (45, V.ptr 2 0 2), (46, V.int IntKind.i64 4), (47, V.ptr 2 0 3), (48, V.int IntKind.i64 0), (49, V.tup x49), (50, V.int IntKind.u64 x57), (51, V.int IntKind.i64 x58), (52, V.int IntKind.u64 x57), (53, V.ptr 1 0 9), (54, V.int IntKind.u64 s.all), (55, V.int IntKind.u64 x55), (56, V.bool (decide (x55 = 0))), (62, V.int IntKind.i64 x59)], [O.ints false IntKind.i8 s.p.zs, O.cells true (V.int IntKind.i64 s.p.f :: V.int IntKind.i64 s.p.r :: V.sl 0 0 s.p.zs.length none :: V.bool s.p.bl :: x51), O.cells true (V.int IntKind.u8 2 :: V.bool false :: x54), O.vals true 5 [(evA (let __src := x56; Env.mk __src.ty __src.G __src.pf __src.inl __src.cc __src.pn true) x48 (Go.Operand.tmp 10)).cells, (evA (let __src := x56; Env.mk __src.ty __src.G __src.pf __src.inl __src.cc __src.pn true) x48 (Go.Operand.tmp 11)).cells, (evA (let __src := x56; Env.mk __src.ty __src.G __src.pf __src.inl __src.cc __src.pn true) x48 (Go.Operand.tmp 12)).cells, (evA (let __src := x56; Env.mk __src.ty __src.G __src.pf __src.inl __src.cc __src.pn true) x48 (Go.Operand.tmp 13)).cells]])) rfl ?_ ?_ (fun s9 => ?_)
  ·refine so_triv rfl ?_
   exact so_nrm ((Ent.rn [0, 1, 4, 3] [1, 2, 4, 5, 7, 8, 14, 15, 16, 17, 18, 19, 20, 21, 22, 23, 24, 25, 26, 27, 34, 35, 40, 41, 42, 43, 44, 45, 46, 47, 48, 49, 50, 51, 52, 53, 54, 55, 56, 62] rfl rfl rfl rfl rfl))
  ·exact so_nrm ((Ent.rn [0, 1, 4, 3] [1, 2, 4, 5, 7, 8, 14, 15, 16, 17, 18, 19, 20, 21, 22, 23, 24, 25, 26, 27, 34, 35, 40, 41, 42, 43, 44, 45, 46, 47, 48, 49, 50, 51, 52, 53, 54, 55, 56, 62] rfl rfl rfl rfl rfl))
  exact so_unrm ((Ent.rn [0, 1, 2, 3] [1, 2, 4, 5, 7, 14, 15, 16, 17, 18, 19, 20, 21, 22, 23, 24, 25, 26, 27, 34, 35, 40, 62] rfl rfl rfl rfl rfl))
 refine so_rnd (let x101 := [V.int IntKind.u8 s.p.ca, V.int IntKind.i64 s.p.pa, V.int IntKind.i64 s.p.ha, V.int IntKind.i64 s.p.fu, V.int IntKind.u64 s.own, V.int IntKind.u64 s.all]; let x103 := decide (band Go.BinOp.and IntKind.u8 s.p.ca 4 = 0); let x104 := IntKind.i64.wrap (IntKind.i64.wrap (0 + 1) + 1); let x105 := [V.int IntKind.i64 60, V.int IntKind.i64 63, V.int IntKind.i64 62]; let x106 := EE kCa kDb [(104, c_betw)] []; let x99 := x103 || !s.p.bl == true; let x100 := IntKind.i64.wrap (x104 + 1); let x102 := V.int IntKind.u8 4 :: V.lit true :: x105; let x98 := (13, V.agg [V.int IntKind.u8 8, V.lit true, V.int IntKind.i64 60, V.int IntKind.i64 56, V.int IntKind.i64 58]) :: (12, V.agg x102) :: (11, V.agg [V.int IntKind.u8 2, V.lit false, V.int IntKind.i64 4, V.int IntKind.i64 0, V.int IntKind.i64 2]) :: (10, V.agg [V.int IntKind.u8 1, V.lit false, V.int IntKind.i64 4, V.int IntKind.i64 7, V.int IntKind.i64 6]) :: (5, V.int IntKind.u64 0) :: (4, V.int IntKind.u64 0) :: (2, V.ptr 1 0 0) :: initTm 0 [V.agg (V.int IntKind.i64 s.p.f :: V.int IntKind.i64 s.p.r :: V.sl 0 0 s.p.zs.length none :: Bb s.p.bl :: x101), V.int IntKind.i64 from_]; fun (s15 : Int) => ([(1, V.int IntKind.i64 from_), (2, V.ptr 1 0 0), (4, V.int IntKind.u64 0), (5, V.int IntKind.u64 s15), (7, V.ptr 2 0 0), (14, V.sl 3 0 4 none), (15, V.int IntKind.i64 (Int.ofNat 4)), (16, V.int IntKind.i64 x100), (17, V.bool (decide (x104 < Int.ofNat 4))), (18, V.ptr 3 2 0), (19, V.agg x102), (20, V.ptr 1 0 0), (21, V.ptr 1 0 4), (22, V.int IntKind.u8 s.p.ca), (23, V.ptr 2 0 0), (24, V.int IntKind.u8 4), (25, V.int IntKind.u8 (band Go.BinOp.and IntKind.u8 s.p.ca 4)), (26, V.bool x103), (27, V.bool x103), (34, V.bool x99), (35, V.bool x99), (40, V.bool (x99 || !decide (from_ = 60))), (62, V.int IntKind.i64 x100)], [O.ints false IntKind.i8 s.p.zs, O.cells true (V.int IntKind.i64 s.p.f :: V.int IntKind.i64 s.p.r :: V.sl 0 0 s.p.zs.length none :: V.bool s.p.bl :: x101), O.cells true (V.int IntKind.u8 4 :: V.bool true :: x105), O.vals true 5 [(evA (let __src := x106; Env.mk __src.ty __src.G __src.pf __src.inl __src.cc __src.pn true) x98 (Go.Operand.tmp 10)).cells, (evA (let __src := x106; Env.mk __src.ty __src.G __src.pf __src.inl __src.cc __src.pn true) x98 (Go.Operand.tmp 11)).cells, (evA (let __src := x106; Env.mk __src.ty __src.G __src.pf __src.inl __src.cc __src.pn true) x98 (Go.Operand.tmp 12)).cells, (evA (let __src := x106; Env.mk __src.ty __src.G __src.pf __src.inl __src.cc __src.pn true) x98 (Go.Operand.tmp 13)).cells]])) ?_ (fun s15 => ?_)
 ·refine so_yes hE 2 rfl rfl ?_
  refine so_triv rfl ?_
  refine so_triv (Bool.not_or_self _) ?_
  refine so_triv (Bool.not_or_self _) ?_
  refine so_triv (Bool.not_or_self _) ?_
  refine so_triv (Bool.not_or_self _) ?_
  refine so_triv (Bool.not_or_self _) ?_
  refine so_triv (Bool.or_not_self _) ?_
  refine so_triv (Bool.not_or_self _) ?_
  refine so_triv (Bool.not_or_self _) ?_
  refine so_triv (Bool.not_or_self _) ?_
  refine so_triv (Bool.or_not_self _) ?_
  refine so_split hE 2 rfl ?_ ?_
  ·exact so_unrm ((Ent.rn [0, 1, 4, 3] [1, 2, 4, 5, 7, 14, 15, 16, 17, 18, 19, 20, 21, 22, 23, 24, 25, 26, 27, 34, 35, 40, 62] rfl rfl rfl rfl rfl))
  refine so_triv rfl ?_
  refine so_join hE 2 (let x64 := [V.int IntKind.u8 s.p.ca, V.int IntKind.i64 s.p.pa, V.int IntKind.i64 s.p.ha, V.int IntKind.i64 s.p.fu, V.int IntKind.u64 s.own, V.int IntKind.u64 s.all]; let x66 := decide (band Go.BinOp.and IntKind.u8 s.p.ca 4 = 0); let x67 := IntKind.i64.wrap (IntKind.i64.wrap (0 + 1) + 1); let x68 := [V.int IntKind.i64 60, V.int IntKind.i64 63, V.int IntKind.i64 62]; let x70 := EE kCa kDb [(104, c_betw)] []; let x71 := (betwR s.p.f s.p.r 60 63).snd; let x72 := (betwR s.p.f s.p.r 60 63).fst; let x62 := [V.int IntKind.u64 x72, V.int IntKind.i64 x71]; let x63 := x66 || !s.p.bl == true; let x65 := V.int IntKind.u8 4 :: V.lit true :: x68; let x69 := band Go.BinOp.and IntKind.u64 x72 s.all; let x61 := (13, V.agg [V.int IntKind.u8 8, V.lit true, V.int IntKind.i64 60, V.int IntKind.i64 56, V.int IntKind.i64 58]) :: (12, V.agg x65) :: (11, V.agg [V.int IntKind.u8 2, V.lit false, V.int IntKind.i64 4, V.int IntKind.i64 0, V.int IntKind.i64 2]) :: (10, V.agg [V.int IntKind.u8 1, V.lit false, V.int IntKind.i64 4, V.int IntKind.i64 7, V.int IntKind.i64 6]) :: (5, V.int IntKind.u64 0) :: (4, V.int IntKind.u64 0) :: (2, V.ptr 1 0 0) :: initTm 0 [V.agg (V.int IntKind.i64 s.p.f :: V.int IntKind.i64 s.p.r :: V.sl 0 0 s.p.zs.length none :: Bb s.p.bl :: x64), V.int IntKind.i64 from_]; fun (s13 : Int) => ([(1, V.int IntKind.i64 from_), (2, V.ptr 1 0 0), (4, V.int IntKind.u64 0), (5, V.int IntKind.u64 s13), (7, V.ptr 2 0 0), (8, V.int IntKind.u64 x72), (14, V.sl 3 0 4 none), (15, V.int IntKind.i64 (Int.ofNat 4)), (16, V.int IntKind.i64 x67), (17, V.bool (decide (x67 < Int.ofNat 4))), (18, V.ptr 3 2 0), (19, V.agg x65), (20, V.ptr 1 0 0), (21, V.ptr 1 0 4), (22, V.int IntKind.u8 s.p.ca), (23, V.ptr 2 0 0), (24, V.int IntKind.u8 4), (25, V.int IntKind.u8 (band Go.BinOp.and IntKind.u8 s.p.ca 4)), (26, V.bool x66), (27, V.bool x66), (34, V.bool x63), (35, V.bool x63), (40, V.bool (x63 || !decide (from_ = 60))), (41, V.tup x62), (42, V.ptr 1 0 0), (43, V.ptr 1 0 0), (44, V.agg [V.int IntKind.i64 s.p.f, V.int IntKind.i64 s.p.r]), (45, V.ptr 2 0 2), (46, V.int IntKind.i64 60), (47, V.ptr 2 0 3), (48, V.int IntKind.i64 63), (49, V.tup x62), (50, V.int IntKind.u64 x72), (51, V.int IntKind.i64 x71), (52, V.int IntKind.u64 x72), (53, V.ptr 1 0 9), (54, V.int IntKind.u64 s.all), (55, V.int IntKind.u64 x69), (56, V.bool (decide (x69 = 0))), (62, V.int IntKind.i64 x67)], [O.ints false IntKind.i8 s.p.zs, O.cells true (V.int IntKind.i64 s.p.f :: V.int IntKind.i64 s.p.r :: V.sl 0 0 s.p.zs.length none :: V.bool s.p.bl :: x64), O.cells true (V.int IntKind.u8 4 :: V.bool true :: x68), O.vals true 5 [(evA (let __src := x70; Env.mk __src.ty __src.G __src.pf __src.inl __src.cc __src.pn true) x61 (Go.Operand.tmp 10)).cells, (evA (let __src := x70; Env.mk __src.ty __src.G __src.pf __src.inl __src.cc __src.pn true) x61 (Go.Operand.tmp 11)).cells, (evA (let __src := x70; Env.mk __src.ty __src.G __src.pf __src.inl __src.cc __src.pn true) x61 (Go.Operand.tmp 12)).cells, (evA (let __src := x70; Env.mk __src.ty __src.G __src.pf __src.inl __src.cc __src.pn true) x61 (Go.Operand.tmp 13)).cells]])) rfl ?_ ?_ (fun s13 => ?_)
  ·refine so_triv rfl ?_
   exact so_nrm ((Ent.rn [0, 1, 4, 3] [1, 2, 4, 5, 7, 8, 14, 15, 16, 17, 18, 19, 20, 21, 22, 23, 24, 25, 26, 27, 34, 35, 40, 41, 42, 43, 44, 45, 46, 47, 48, 49, 50, 51, 52, 53, 54, 55, 56, 62] rfl rfl rfl rfl rfl))
  ·exact so_nrm ((Ent.rn [0, 1, 4, 3] [1, 2, 4, 5, 7, 8, 14, 15, 16, 17, 18, 19, 20, 21, 22, 23, 24, 25, 26, 27, 34, 35, 40, 41, 42, 43, 44, 45, 46, 47, 48, 49, 50, 51, 52, 53, 54, 55, 56, 62] rfl rfl rfl rfl rfl))
  exact so_unrm ((Ent.rn [0, 1, 2, 3] [1, 2, 4, 5, 7, 14, 15, 16, 17, 18, 19, 20, 21, 22, 23, 24, 25, 26, 27, 34, 35, 40, 62] rfl rfl rfl rfl rfl))
 refine so_rnd (let x91 := IntKind.i64.wrap (IntKind.i64.wrap (IntKind.i64.wrap (0 + 1) + 1) + 1); let x92 := [V.int IntKind.u8 s.p.ca, V.int IntKind.i64 s.p.pa, V.int IntKind.i64 s.p.ha, V.int IntKind.i64 s.p.fu, V.int IntKind.u64 s.own, V.int IntKind.u64 s.all]; let x94 := decide (band Go.BinOp.and IntKind.u8 s.p.ca 8 = 0); let x95 := [V.int IntKind.i64 60, V.int IntKind.i64 56, V.int IntKind.i64 58]; let x96 := EE kCa kDb [(104, c_betw)] []; let x89 := IntKind.i64.wrap (x91 + 1); let x90 := x94 || !s.p.bl == true; let x93 := V.int IntKind.u8 8 :: V.lit true :: x95; let x88 := (13, V.agg x93) :: (12, V.agg [V.int IntKind.u8 4, V.lit true, V.int IntKind.i64 60, V.int IntKind.i64 63, V.int IntKind.i64 62]) :: (11, V.agg [V.int IntKind.u8 2, V.lit false, V.int IntKind.i64 4, V.int IntKind.i64 0, V.int IntKind.i64 2]) :: (10, V.agg [V.int IntKind.u8 1, V.lit false, V.int IntKind.i64 4, V.int IntKind.i64 7, V.int IntKind.i64 6]) :: (5, V.int IntKind.u64 0) :: (4, V.int IntKind.u64 0) :: (2, V.ptr 1 0 0) :: initTm 0 [V.agg (V.int IntKind.i64 s.p.f :: V.int IntKind.i64 s.p.r :: V.sl 0 0 s.p.zs.length none :: Bb s.p.bl :: x92), V.int IntKind.i64 from_]; fun (s19 : Int) => ([(1, V.int IntKind.i64 from_), (2, V.ptr 1 0 0), (4, V.int IntKind.u64 0), (5, V.int IntKind.u64 s19), (7, V.ptr 2 0 0), (14, V.sl 3 0 4 none), (15, V.int IntKind.i64 (Int.ofNat 4)), (16, V.int IntKind.i64 x89), (17, V.bool (decide (x91 < Int.ofNat 4))), (18, V.ptr 3 3 0), (19, V.agg x93), (20, V.ptr 1 0 0), (21, V.ptr 1 0 4), (22, V.int IntKind.u8 s.p.ca), (23, V.ptr 2 0 0), (24, V.int IntKind.u8 8), (25, V.int IntKind.u8 (band Go.BinOp.and IntKind.u8 s.p.ca 8)), (26, V.bool x94), (27, V.bool x94), (34, V.bool x90), (35, V.bool x90), (40, V.bool (x90 || !decide (from_ = 60))), (62, V.int IntKind.i64 x89)], [O.ints false IntKind.i8 s.p.zs, O.cells true (V.int IntKind.i64 s.p.f :: V.int IntKind.i64 s.p.r :: V.sl 0 0 s.p.zs.length none :: V.bool s.p.bl :: x92), O.cells true (V.int IntKind.u8 8 :: V.bool true :: x95), O.vals true 5 [(evA (let __src := x96; Env.mk __src.ty __src.G __src.pf __src.inl __src.cc __src.pn true) x88 (Go.Operand.tmp 10)).cells, (evA (let __src := x96; Env.mk __src.ty __src.G __src.pf __src.inl __src.cc __src.pn true) x88 (Go.Operand.tmp 11)).cells, (evA (let __src := x96; Env.mk __src.ty __src.G __src.pf __src.inl __src.cc __src.pn true) x88 (Go.Operand.tmp 12)).cells, (evA (let __src := x96; Env.mk __src.ty __src.G __src.pf __src.inl __src.cc __src.pn true) x88 (Go.Operand.tmp 13)).cells]])) ?_ (fun s19 => ?_)
 ·refine so_yes hE 2 rfl rfl ?_
  refine so_triv rfl ?_
  refine so_triv (Bool.not_or_self _) ?_
  refine so_triv (Bool.not_or_self _) ?_
  refine so_triv (Bool.not_or_self _) ?_
  refine so_triv (Bool.not_or_self _) ?_
  refine so_triv (Bool.not_or_self _) ?_
  refine so_triv (Bool.or_not_self _) ?_
  refine so_triv (Bool.not_or_self _) ?_
  refine so_triv (Bool.not_or_self _) ?_
  refine so_triv (Bool.not_or_self _) ?_
  refine so_triv (Bool.or_not_self _) ?_
  refine so_split hE 2 rfl ?_ ?_
  ·exact so_unrm ((Ent.rn [0, 1, 4, 3] [1, 2, 4, 5, 7, 14, 15, 16, 17, 18, 19, 20, 21, 22, 23, 24, 25, 26, 27, 34, 35, 40, 62] rfl rfl rfl rfl rfl))
  refine so_triv rfl ?_
  refine so_join hE 2 (let x77 := IntKind.i64.wrap (IntKind.i64.wrap (IntKind.i64.wrap (0 + 1) + 1) + 1); let x78 := [V.int IntKind.u8 s.p.ca, V.int IntKind.i64 s.p.pa, V.int IntKind.i64 s.p.ha, V.int IntKind.i64 s.p.fu, V.int IntKind.u64 s.own, V.int IntKind.u64 s.all]; let x80 := decide (band Go.BinOp.and IntKind.u8 s.p.ca 8 = 0); let x81 := [V.int IntKind.i64 60, V.int IntKind.i64 56, V.int IntKind.i64 58]; let x83 := EE kCa kDb [(104, c_betw)] []; let x84 := (betwR s.p.f s.p.r 60 56).fst; let x85 := (betwR s.p.f s.p.r 60 56).snd; let x75 := [V.int IntKind.u64 x84, V.int IntKind.i64 x85]; let x76 := x80 || !s.p.bl == true; let x79 := V.int IntKind.u8 8 :: V.lit true :: x81; let x82 := band Go.BinOp.and IntKind.u64 x84 s.all; let x74 := (13, V.agg x79) :: (12, V.agg [V.int IntKind.u8 4, V.lit true, V.int IntKind.i64 60, V.int IntKind.i64 63, V.int IntKind.i64 62]) :: (11, V.agg [V.int IntKind.u8 2, V.lit false, V.int IntKind.i64 4, V.int IntKind.i64 0, V.int IntKind.i64 2]) :: (10, V.agg [V.int IntKind.u8 1, V.lit false, V.int IntKind.i64 4, V.int IntKind.i64 7, V.int IntKind.i64 6]) :: (5, V.int IntKind.u64 0) :: (4, V.int IntKind.u64 0) :: (2, V.ptr 1 0 0) :: initTm 0 [V.agg (V.int IntKind.i64 s.p.f :: V.int IntKind.i64 s.p.r :: V.sl 0 0 s.p.zs.length none :: Bb s.p.bl :: x78), V.int IntKind.i64 from_]; fun (s17 : Int) => ([(1, V.int IntKind.i64 from_), (2, V.ptr 1 0 0), (4, V.int IntKind.u64 0), (5, V.int IntKind.u64 s17), (7, V.ptr 2 0 0), (8, V.int IntKind.u64 x84), (14, V.sl 3 0 4 none), (15, V.int IntKind.i64 (Int.ofNat 4)), (16, V.int IntKind.i64 x77), (17, V.bool (decide (x77 < Int.ofNat 4))), (18, V.ptr 3 3 0), (19, V.agg x79), (20, V.ptr 1 0 0), (21, V.ptr 1 0 4), (22, V.int IntKind.u8 s.p.ca), (23, V.ptr 2 0 0), (24, V.int IntKind.u8 8), (25, V.int IntKind.u8 (band Go.BinOp.and IntKind.u8 s.p.ca 8)), (26, V.bool x80), (27, V.bool x80), (34, V.bool x76), (35, V.bool x76), (40, V.bool (x76 || !decide (from_ = 60))), (41, V.tup x75), (42, V.ptr 1 0 0), (43, V.ptr 1 0 0), (44, V.agg [V.int IntKind.i64 s.p.f, V.int IntKind.i64 s.p.r]), (45, V.ptr 2 0 2), (46, V.int IntKind.i64 60), (47, V.ptr 2 0 3), (48, V.int IntKind.i64 56), (49, V.tup x75), (50, V.int IntKind.u64 x84), (51, V.int IntKind.i64 x85), (52, V.int IntKind.u64 x84), (53, V.ptr 1 0 9), (54, V.int IntKind.u64 s.all), (55, V.int IntKind.u64 x82), (56, V.bool (decide (x82 = 0))), (62, V.int IntKind.i64 x77)], [O.ints false IntKind.i8 s.p.zs, O.cells true (V.int IntKind.i64 s.p.f :: V.int IntKind.i64 s.p.r :: V.sl 0 0 s.p.zs.length none :: V.bool s.p.bl :: x78), O.cells true (V.int IntKind.u8 8 :: V.bool true :: x81), O.vals true 5 [(evA (let __src := x83; Env.mk __src.ty __src.G __src.pf __src.inl __src.cc __src.pn true) x74 (Go.Operand.tmp 10)).cells, (evA (let __src := x83; Env.mk __src.ty __src.G __src.pf __src.inl __src.cc __src.pn true) x74 (Go.Operand.tmp 11)).cells, (evA (let __src := x83; Env.mk __src.ty __src.G __src.pf __src.inl __src.cc __src.pn true) x74 (Go.Operand.tmp 12)).cells, (evA (let __src := x83; Env.mk __src.ty __src.G __src.pf __src.inl __src.cc __src.pn true) x74 (Go.Operand.tmp 13)).cells]])) rfl ?_ ?_ (fun s17 => ?_)
  ·refine so_triv rfl ?_
   exact so_nrm ((Ent.rn [0, 1, 4, 3] [1, 2, 4, 5, 7, 8, 14, 15, 16, 17, 18, 19, 20, 21, 22, 23, 24, 25, 26, 27, 34, 35, 40, 41, 42, 43, 44, 45, 46, 47, 48, 49, 50, 51, 52, 53, 54, 55, 56, 62] rfl rfl rfl rfl rfl))
  ·exact so_nrm ((Ent.rn [0, 1, 4, 3] [1, 2, 4, 5, 7, 8, 14, 15, 16, 17, 18, 19, 20, 21, 22, 23, 24, 25, 26, 27, 34, 35, 40, 41, 42, 43, 44, 45, 46, 47, 48, 49, 50, 51, 52, 53, 54, 55, 56, 62] rfl rfl rfl rfl rfl))
  exact so_unrm ((Ent.rn [0, 1, 2, 3] [1, 2, 4, 5, 7, 14, 15, 16, 17, 18, 19, 20, 21, 22, 23, 24, 25, 26, 27, 34, 35, 40, 62] rfl rfl rfl rfl rfl))
 refine so_rnd (fun (s : Unit) => ([], [])) ?_ so_uend
 refine so_no hE 2 rfl rfl ?_
 refine so_uesc (by simp) ?_
 exact so_ret (fin_bs [] (.inr rfl) rfl rfl rfl rfl rfl)
theorem c_sways_ok : CtOk (GGx kCa kDb) PP (175, c_sways) := by
 refine ct_mk Tryz.func175 (by kernel_rfl) rfl fun a0 h0 c0 v0 N0 e hc => ?_
 unfold c_sways at e
 split at e
 ·rename_i s_0 s_1 s_2n s_3 s_4 s_5 s_6 s_7 s_8 s_9 from__0 s_2
  obtain ⟨hl, r, hr, rfl, rfl⟩ := ret_ok e hc
  simp only [decide_eq_true_eq] at hl
  obtain rfl := hl
  exact sways_snd ⟨⟨s_0, s_1, s_2, s_3, s_4, s_5, s_6, s_7⟩, s_8, s_9⟩ from__0 hr
 ·cases e
def stargets (s : Sgt) (from_ : Int) : Option (Int) := let x10 := Sgt.mk (Psn.mk s.p.f s.p.r (List.take s.p.zs.length (List.drop 0 s.p.zs)) s.p.bl s.p.ca s.p.pa s.p.ha s.p.fu) s.own s.all; let x12 := (pkind (s.p.zs.getD from_.toNat 0)).getD 0; let x11 := (reachR s.p.f s.p.r x12 from_ s.all).fst; needO (decide (0 ≤ from_) && decide (from_ < Int.ofNat s.p.zs.length)) (callO (pkind (s.p.zs.getD from_.toNat 0)) Inhabited.default fun (_y4 : Int) => bif decide (x12 = 1) then callO (spawn x10 from_) 0 fun (y6 : Int) => some y6 else joinO (bif decide (x12 = 6) then callO (sways x10 from_) 0 fun (y7 : Int) => some (Sum.inl (band Go.BinOp.or IntKind.u64 x11 y7)) else some (Sum.inl x11)) fun (s9 : Int) => some (band Go.BinOp.andNot IntKind.u64 s9 s.own))
def stargets_V (R : Int) : V := .int .u64 R
def stargets_N (_R : Int) : List O := []
def c_stargets : CF
 | [.agg [.int .i64 s_0, .int .i64 s_1, .sl 0 0 s_2n none, .bool s_3, .int .u8 s_4, .int .i64 s_5, .int .i64 s_6, .int .i64 s_7, .int .u64 s_8, .int .u64 s_9], .int .i64 from__0], [.ints false .i8 s_2] => retC (decide (s_2n = s_2.length)) (stargets ⟨⟨s_0, s_1, s_2, s_3, s_4, s_5, s_6, s_7⟩, s_8, s_9⟩ from__0) 0 stargets_V stargets_N
 | _, _ => none
theorem stargets_snd (s : Sgt) (from_ : Int) {r} (hr : stargets s from_ = some r) : FnSound (GGx kCa kDb) PP 124 [.agg [.int .i64 s.p.f, .int .i64 s.p.r, .sl 0 0 s.p.zs.length none, Bb s.p.bl, .int .u8 s.p.ca, .int .i64 s.p.pa, .int .i64 s.p.ha, .int .i64 s.p.fu, .int .u64 s.own, .int .u64 s.all], .int .i64 from_] [.ints false .i8 s.p.zs] (stargets_V r) (stargets_N r) := by
 have hE := cutE (EE_ok (kCa := kCa) (kDb := kDb) (cts := [(79, c_pkind), (106, c_reach), (174, c_spawn), (175, c_sways)]) (inl := []) ⟨c_pkind_ok, c_reach_ok, c_spawn_ok, c_sways_ok, trivial⟩ trivial)
 refine so_fn hE 2 Tryz.func124 rfl rfl stargets_V stargets_N hr ?_ rfl rfl
 refine so_need ?_
 refine so_callas (pl rfl id) ?_
 refine so_split hE 2 rfl ?_ ?_
 ·refine so_callas (pl (decide_eq_true (win_len rfl)) id) ?_
  exact so_ret (fin_bs [] (.inr rfl) rfl rfl rfl rfl rfl)
 refine so_triv rfl ?_
 refine so_join hE 2 (fun (s9 : Int) => ([(2, V.ptr 1 0 0), (4, V.int IntKind.u64 0), (6, V.int IntKind.u64 s9)], [O.ints false IntKind.i8 s.p.zs, O.cells true [V.int IntKind.i64 s.p.f, V.int IntKind.i64 s.p.r, V.sl 0 0 s.p.zs.length none, V.bool s.p.bl, V.int IntKind.u8 s.p.ca, V.int IntKind.i64 s.p.pa, V.int IntKind.i64 s.p.ha, V.int IntKind.i64 s.p.fu, V.int IntKind.u64 s.own, V.int IntKind.u64 s.all]])) rfl ?_ ?_ (fun s9 => ?_)
 ·refine so_callas (pl (decide_eq_true (win_len rfl)) id) ?_
  exact so_nrm ((Ent.rn [0, 1] [2, 4, 6] rfl rfl rfl rfl rfl))
 ·exact so_nrm ((Ent.rn [0, 1] [2, 4, 6] rfl rfl rfl rfl rfl))
 exact so_ret (fin_bs [] (.inr rfl) rfl rfl rfl rfl rfl)
theorem c_stargets_ok : CtOk (GGx kCa kDb) PP (124, c_stargets) := by
 refine ct_mk Tryz.func124 (by kernel_rfl) rfl fun a0 h0 c0 v0 N0 e hc => ?_
 unfold c_stargets at e
 split at e
 ·rename_i s_0 s_1 s_2n s_3 s_4 s_5 s_6 s_7 s_8 s_9 from__0 s_2
  obtain ⟨hl, r, hr, rfl, rfl⟩ := ret_ok e hc
  simp only [decide_eq_true_eq] at hl
  obtain rfl := hl
  exact stargets_snd ⟨⟨s_0, s_1, s_2, s_3, s_4, s_5, s_6, s_7⟩, s_8, s_9⟩ from__0 hr
 ·cases e
def tz (x : Int) : Option (Int) := let x2 := (IntKind.u64.wrap (band Go.BinOp.and IntKind.u64 x (IntKind.u64.wrap (0 - x)) * 285870213051353865)).fdiv (2 ^ Min.min (Int.toNat 58) IntKind.u64.bits); bif decide (x = 0) then some 64 else needO (decide (0 ≤ x2) && decide (x2 < Int.ofNat 64)) (some (IntKind.i64.wrap (brujT.getD x2.toNat 0)))
def tz_V (R : Int) : V := .int .i64 R
def tz_N (_R : Int) : List O := []
def c_tz : CF
 | [.int .u64 x_0], [] => retC true (tz x_0) 0 tz_V tz_N
 | _, _ => none
theorem tz_snd (x : Int) {r} (hr : tz x = some r) : FnSound (GGx kCa true) PP 123 [.int .u64 x] [] (tz_V r) (tz_N r) := by
 have hE := cutE (EE_ok (kCa := kCa) (kDb := true) (cts := []) (inl := []) trivial trivial)
 refine so_fn hE 2 Tryz.func123 rfl rfl tz_V tz_N hr ?_ rfl rfl
 refine so_split hE 2 rfl ?_ ?_
 ·exact so_ret (fin_bs [] (.inr rfl) rfl rfl rfl rfl rfl)
 refine so_triv rfl ?_
 refine so_need ?_
 exact so_ret (fin_bs [] (.inr rfl) rfl rfl rfl rfl rfl)
theorem c_tz_ok : CtOk (GGx kCa true) PP (123, c_tz) := by
 refine ct_mk Tryz.func123 (by kernel_rfl) rfl fun a0 h0 c0 v0 N0 e hc => ?_
 unfold c_tz at e
 split at e
 ·rename_i x_0
  obtain ⟨hl, r, hr, rfl, rfl⟩ := ret_ok e hc
  exact tz_snd x_0 hr
 ·cases e
end Go.Ab

set_option maxRecDepth 100000
set_option maxHeartbeats 4000000
namespace Go.Ab
open Go.Proofs
variable {kCa : Bool}
def tzf (x : Int) : Int := (tz x).getD 0
def andPred (x : Int) : Int := uand x (IntKind.u64.wrap (x - 1))
theorem e58 : (2 : Int) ^ Min.min (Int.toNat 58) IntKind.u64.bits = 288230376151711744 := by decide
theorem w0 (y : Int) : 0 ≤ IntKind.u64.wrap y ∧ IntKind.u64.wrap y < 18446744073709551616 := by
 rw [u64_wrap]
 exact ⟨Int.emod_nonneg _ (by decide), Int.emod_lt_of_pos _ (by decide)⟩
theorem d58 (z : Int) (h2 : 0 ≤ z ∧ z < 18446744073709551616) : (decide (0 ≤ z.fdiv 288230376151711744) && decide (z.fdiv 288230376151711744 < Int.ofNat 64)) = true := by
 have h3 : z.fdiv 288230376151711744 = z / 288230376151711744 := Int.fdiv_eq_ediv_of_nonneg _ (by decide)
 rw [h3]
 have h4 : decide (0 ≤ z / 288230376151711744) = true := by simp; omega
 have h5 : decide (z / 288230376151711744 < Int.ofNat 64) = true := by
  rw [decide_eq_true_eq]; show z / 288230376151711744 < 64; omega
 rw [h4, h5]; rfl
theorem tz_some (x : Int) : (tz x).isSome = true := by
 unfold tz
 cases decide (x = 0)
 ·rw [cond_false, e58, d58 _ (w0 _)]; rfl
 ·rfl
def eachGo : Nat → Int → List Int
 | 0, _ => []
 | k + 1, s => bif decide (s = 0) then [] else tzf s :: eachGo k (andPred s)
def eachL (s : Int) : List Int := eachGo 66 s
theorem andPred_u (x : Int) : Uk (andPred x) := uk_and _ _
theorem low_bit (n : Nat) (h : n ≠ 0) : ∃ t k, n = 2 ^ t * (2 * k + 1) := by
 induction n using Nat.strongRecOn with
 | _ n ih =>
  by_cases ho : n % 2 = 1
  ·exact ⟨0, n / 2, by omega⟩
  ·obtain ⟨t, k, e⟩ := ih (n / 2) (by omega) (by omega)
   exact ⟨t + 1, k, by rw [Nat.pow_succ, Nat.mul_assoc, Nat.mul_comm 2, ← Nat.mul_assoc, ← e]; omega⟩
theorem bit_odd (t k j : Nat) : (2 ^ t * (2 * k + 1)).testBit j = (decide (t ≤ j) && (decide (j = t) || k.testBit (j - t - 1))) := by
 rw [Nat.testBit_two_pow_mul]
 by_cases h : t ≤ j
 ·by_cases e : j = t
  ·subst e; simp
  ·obtain ⟨i, rfl⟩ : ∃ i, j = t + 1 + i := ⟨j - t - 1, by omega⟩
   have e1 : t + 1 + i - t = i + 1 := by omega
   have e2 : t + 1 + i - t - 1 = i := by omega
   rw [e1]
   have e3 : (2 * k + 1).testBit (i + 1) = k.testBit i := by rw [Nat.testBit_succ]; congr 1; omega
   simp only [e3, decide_eq_true h, decide_eq_false e, Bool.true_and, Bool.false_or, Nat.add_sub_cancel]
 ·simp [h]
theorem bit_pred (t k j : Nat) : (2 ^ t * (2 * k + 1) - 1).testBit j = (decide (j < t) || (!decide (j = t) && k.testBit (j - t - 1))) := by
 have hp : 0 < 2 ^ t := Nat.two_pow_pos t
 have e : 2 ^ t * (2 * k + 1) - 1 = 2 ^ t * (2 * k) + (2 ^ t - 1) := by rw [Nat.mul_add]; omega
 rw [e, Nat.testBit_two_pow_mul_add _ (by omega)]
 by_cases h : j < t
 ·rw [if_pos h, Nat.testBit_two_pow_sub_one]; simp [h]
 ·rw [if_neg h]
  by_cases e2 : j = t
  ·subst e2; simp
  ·obtain ⟨i, rfl⟩ : ∃ i, j = t + 1 + i := ⟨j - t - 1, by omega⟩
   have e1 : t + 1 + i - t = i + 1 := by omega
   have e4 : t + 1 + i - t - 1 = i := by omega
   rw [e1, Nat.testBit_succ, show 2 * k / 2 = k by omega]
   simp only [decide_eq_false h, decide_eq_false e2, Bool.false_or, Bool.not_false, Bool.true_and, Nat.add_sub_cancel]
theorem low_u {x : Int} (hu : Uk x) (h0 : x ≠ 0) : ∃ t k : Nat, t < 64 ∧ x.toNat = 2 ^ t * (2 * k + 1) := by
 obtain ⟨t, k, e⟩ := low_bit x.toNat (by have := hu.1; omega)
 refine ⟨t, k, ?_, e⟩
 refine Decidable.byContradiction fun h => ?_
 have h1 : 2 ^ 64 ≤ 2 ^ t := Nat.pow_le_pow_right (by decide) (by omega)
 have h2 : 2 ^ t ≤ x.toNat := by rw [e]; exact Nat.le_mul_of_pos_right _ (by omega)
 have := hu.2
 omega
theorem uk_pow {t : Nat} (ht : t < 64) : Uk ((2 ^ t : Nat) : Int) := by
 have : (2 : Nat) ^ t < 2 ^ 64 := Nat.pow_lt_pow_right (by decide) ht
 exact ⟨Int.natCast_nonneg _, by omega⟩
theorem neg_and {x : Int} (hu : Uk x) {t k : Nat} (ht : t < 64) (e : x.toNat = 2 ^ t * (2 * k + 1)) : uand x (IntKind.u64.wrap (0 - x)) = ((2 ^ t : Nat) : Int) := by
 have hw : Uk (IntKind.u64.wrap (0 - x)) := w0 _
 have hp : 0 < 2 ^ t := Nat.two_pow_pos t
 have hpos : 0 < x.toNat := by rw [e]; exact Nat.mul_pos hp (by omega)
 have hn : (IntKind.u64.wrap (0 - x)).toNat = 2 ^ 64 - (x.toNat - 1 + 1) := by
  rw [u64_wrap]
  have h1 := hu.1
  have h2 := hu.2
  have : (0 - x) % 18446744073709551616 = 18446744073709551616 - x := by omega
  rw [this]; omega
 refine uk_ext (uk_and _ _) (uk_pow ht) fun j hj => ?_
 rw [bt_and hu hw]
 unfold bt
 rw [hn, Nat.testBit_two_pow_sub_succ (by have := hu.2; omega), e, bit_odd, bit_pred, Int.toNat_natCast, Nat.testBit_two_pow]
 by_cases h1 : j < t
 ·rw [decide_eq_true h1, decide_eq_false (show ¬ t ≤ j by omega), decide_eq_false (show ¬ t = j by omega)]; rfl
 ·by_cases h2 : j = t
  ·rw [decide_eq_false h1, decide_eq_true h2, decide_eq_true (show t ≤ j by omega), decide_eq_true hj, decide_eq_true h2.symm]; rfl
  ·rw [decide_eq_false h1, decide_eq_false h2, decide_eq_true (show t ≤ j by omega), decide_eq_true hj, decide_eq_false (show ¬ t = j by omega)]
   cases k.testBit (j - t - 1) <;> rfl
theorem bruj_all : ∀ t : _root_.Fin 64, IntKind.i64.wrap (brujT.getD ((IntKind.u64.wrap (((2 ^ t.val : Nat) : Int) * 285870213051353865)).fdiv 288230376151711744).toNat 0) = ((t.val : Nat) : Int) := by decide +kernel
theorem getD_need (v : Int) : (needO true (some v)).getD 0 = v := rfl
theorem tz_form {x : Int} (h : x ≠ 0) {z : Int} (hz : band Go.BinOp.and IntKind.u64 x (IntKind.u64.wrap (0 - x)) = z) : tzf x = IntKind.i64.wrap (brujT.getD ((IntKind.u64.wrap (z * 285870213051353865)).fdiv 288230376151711744).toNat 0) := by
 unfold tzf tz
 rw [decide_eq_false h, cond_false, e58, d58 _ (w0 _), getD_need, hz]
theorem tzf_low {x : Int} (hu : Uk x) {t k : Nat} (ht : t < 64) (e : x.toNat = 2 ^ t * (2 * k + 1)) : tzf x = t := by
 have hp : 0 < 2 ^ t := Nat.two_pow_pos t
 have hpos : 0 < x.toNat := by rw [e]; exact Nat.mul_pos hp (by omega)
 exact (tz_form (by omega) (neg_and hu ht e)).trans (bruj_all ⟨t, ht⟩)
theorem pred_bt {x : Int} (hu : Uk x) {t k : Nat} (_ht : t < 64) (e : x.toNat = 2 ^ t * (2 * k + 1)) (j : Nat) : bt (andPred x) j = (bt x j && !decide (j = t)) := by
 have hp : 0 < 2 ^ t := Nat.two_pow_pos t
 have hpos : 0 < x.toNat := by rw [e]; exact Nat.mul_pos hp (by omega)
 have h1 := hu.1
 have h2 := hu.2
 have hw : IntKind.u64.wrap (x - 1) = x - 1 := u64_id ⟨by omega, by omega⟩
 unfold andPred
 rw [hw, bt_and hu ⟨by omega, by omega⟩]
 unfold bt
 rw [show (x - 1).toNat = x.toNat - 1 by omega, e, bit_odd, bit_pred]
 by_cases h1 : j < t
 ·rw [decide_eq_true h1, decide_eq_false (show ¬ t ≤ j by omega)]; rfl
 ·by_cases h2 : j = t
  ·rw [decide_eq_false h1, decide_eq_true h2]; simp
  ·rw [decide_eq_false h1, decide_eq_false h2, decide_eq_true (show t ≤ j by omega)]
   cases k.testBit (j - t - 1) <;> rfl
def bitL (x : Int) : List Int := ((List.range 64).filter (bt x)).map Int.ofNat
theorem filter_none {α : Type} {p : α → Bool} {l : List α} (h : ∀ a ∈ l, p a = false) : l.filter p = [] := by
 rw [List.filter_eq_nil_iff]; exact fun a ha => by rw [h a ha]; decide
theorem bitL_cons {x : Int} (hu : Uk x) {t k : Nat} (ht : t < 64) (e : x.toNat = 2 ^ t * (2 * k + 1)) : bitL x = (t : Int) :: bitL (andPred x) := by
 have hr : List.range 64 = List.range' 0 t ++ t :: List.range' (t + 1) (63 - t) := by
  rw [List.range_eq_range', show 64 = t + (1 + (63 - t)) by omega, ← List.range'_append_1, ← List.range'_append_1]
  simp [Nat.add_comm]
 have hlow : ∀ j ∈ List.range' 0 t, bt x j = false := by
  intro j hj
  have := List.mem_range'_1.1 hj
  unfold bt
  rw [e, bit_odd, decide_eq_false (show ¬ t ≤ j by omega)]; rfl
 have ht1 : bt x t = true := by unfold bt; rw [e, bit_odd]; simp
 unfold bitL
 rw [hr, List.filter_append, List.filter_append, filter_none hlow, filter_none (p := bt (andPred x)) (l := List.range' 0 t) (fun j hj => by rw [pred_bt hu ht e, hlow j hj]; rfl), List.filter_cons, List.filter_cons, ht1, pred_bt hu ht e, ht1]
 have h2 : (List.range' (t + 1) (63 - t)).filter (bt (andPred x)) = (List.range' (t + 1) (63 - t)).filter (bt x) := by
  refine List.filter_congr fun j hj => ?_
  have := List.mem_range'_1.1 hj
  rw [pred_bt hu ht e, decide_eq_false (show ¬ j = t by omega)]; simp
 rw [h2]
 simp
theorem bitL_0 : bitL 0 = [] := by unfold bitL; rw [filter_none fun j _ => bt_0 j]; rfl
theorem bitL_len (x : Int) : (bitL x).length ≤ 64 := by
 unfold bitL
 rw [List.length_map]
 exact Nat.le_trans (List.length_filter_le _ _) (by simp)
theorem each_go : ∀ (n : Nat) {x : Int}, Uk x → (bitL x).length < n → eachGo n x = bitL x
 | 0, _, _, h => absurd h (by omega)
 | n + 1, x, hu, h => by
  unfold eachGo
  by_cases h0 : x = 0
  ·subst h0; rw [bitL_0]; rfl
  ·obtain ⟨t, k, ht, e⟩ := low_u hu h0
   have hc := bitL_cons hu ht e
   rw [hc] at h ⊢
   rw [decide_eq_false h0, cond_false, tzf_low hu ht e, each_go n (andPred_u x) (by simpa using h)]
theorem eachL_eq {x : Int} (hu : Uk x) : eachL x = bitL x := each_go 66 hu (by have := bitL_len x; omega)
theorem eachL_sq (s : Int) : SqSound (GGx kCa true) PP 122 [[U s]] ((eachL s).map fun x => [I x]) := by
 have hE := EE_ok (kCa := kCa) (kDb := true) (cts := [(123, c_tz)]) (inl := []) ⟨c_tz_ok, trivial⟩ trivial
 refine sq_sound hE Tryz.func122 rfl rfl rfl rfl fun nn l S0 ρc J ok => ?_
 refine YG.seq (YG.seg hE 2 ?_)
 repeat (first | refine sat_self ?_ | refine sat_nd ?_)
 refine sat_ret ?_
 refine YG.block (YG.loop (fun a : Nat × Int => (some a.1, [(0, .yl 1), (1, .ptr 0 0 0), (3, U a.2)], hp0 [[U s]]))
  (fun a => a.1 ≤ (eachL s).length ∧ a.1 ≤ 65 ∧ (eachL s).drop a.1 = eachGo (66 - a.1) a.2 ∧ (a.1 = 0 ∨ (Uk a.2 ∧ (bitL a.2).length + a.1 ≤ 65)))
  (fun a => 66 - a.1) (0, s) rfl (Ent.ren [0, 1] [0, 1, 3] rfl rfl rfl) ⟨Nat.zero_le _, Nat.zero_le _, rfl, .inl rfl⟩ ?_)
 rintro ⟨i, x⟩ ⟨i1, i2, i3, i4⟩
 dsimp only at i1 i2 i3 i4 ⊢
 refine YG.seq (YG.seg hE 2 ?_)
 repeat (first | refine sat_self ?_ | refine sat_nd ?_)
 refine sat_br (fun h1 => sat_ret ?_) (fun h1 => sat_ret ?_)
 ·have h0 : x ≠ 0 := by simpa using h1
  have hi : i ≤ 64 := by
   rcases i4 with h | ⟨hu, h⟩
   ·omega
   ·obtain ⟨t, k, ht, e⟩ := low_u hu h0
    rw [bitL_cons hu ht e, List.length_cons] at h
    omega
  have hgo : eachGo (66 - i) x = tzf x :: eachGo (66 - (i + 1)) (andPred x) := by
   rw [show 66 - i = (66 - (i + 1)) + 1 by omega, eachGo, decide_eq_false h0, cond_false]
  rw [hgo] at i3
  have hlt : i < (eachL s).length := by
   have := congrArg List.length i3
   simp only [List.length_drop, List.length_cons] at this
   omega
  have hat : (eachL s)[i]? = some (tzf x) := by
   have := congrArg (fun l : List Int => l[0]?) i3
   simpa using this
  have hdr : (eachL s).drop (i + 1) = eachGo (66 - (i + 1)) (andPred x) := by
   have := congrArg (List.drop 1) i3
   simpa [List.drop_drop, Nat.add_comm] using this
  refine YG.seq (YG.block (YG.seq (YG.yregAt ok 2 3 rfl rfl rfl ?_)))
  repeat (first | (first | refine sat_self ?_ | refine sat_nd ?_) | refine sat_need (by simp [tz_some]) ?_)
  refine sat_ret ?_
  refine ⟨i, [I (tzf x)], [0, 1, 3], rfl, by simp [hat], rfl, rfl, rfl, rfl, fun b => ?_⟩
  cases b with
  | true =>
   refine sat_ret ?_
   refine YG.seg hE 2 ?_
   refine sat_ret ?_
   refine YG.seg hE 2 ?_
   repeat (first | refine sat_self ?_ | refine sat_nd ?_)
   refine sat_ret ⟨(i + 1, andPred x), ?_, ?_, rfl, Ent.ren [0, 1] [0, 1, 3] rfl rfl rfl⟩
   ·dsimp only
    refine ⟨hlt, by omega, hdr, .inr ⟨andPred_u x, ?_⟩⟩
    rcases i4 with h | ⟨hu, h⟩
    ·have := bitL_len (andPred x); omega
    ·obtain ⟨t, k, ht, e⟩ := low_u hu h0
     rw [bitL_cons hu ht e, List.length_cons] at h
     omega
   ·dsimp only; omega
  | false =>
   refine sat_ret ?_
   refine YG.seg hE 2 ?_
   exact sat_ret ⟨.inr rfl, .inr rfl⟩
 ·have h0 : x = 0 := by simpa using h1
  rw [h0] at i3
  have hlen : i = (eachL s).length := by
   have : eachGo (66 - i) 0 = [] := by rw [show 66 - i = (65 - i) + 1 by omega]; rfl
   rw [this] at i3
   have := congrArg List.length i3
   simp only [List.length_drop, List.length_nil] at this
   omega
  exact ⟨.inl rfl, .inl (by simp [← hlen])⟩
end Go.Ab

set_option maxRecDepth 100000
set_option maxHeartbeats 4000000
namespace Go.Ab
open Go.Proofs
variable {kCa kDb : Bool}
def sfrom_s1 : Int → Int → List (List Int) × Int → Option (List (List Int) × Int ⊕ List (List Int) ⊕ List (List Int) ⊕ List (List Int) ⊕ List (List Int)) := fun (at_ e4 : Int) (s25 : List (List Int) × Int) => let x39 := (s25.1.length + 1) * 24; bif decide (s25.2 ≤ 5) then needO (decide (x39 ≤ 140737488355328)) (some (Sum.inl (s25.1 ++ List.take 1 (List.drop 0 [iL [at_, e4, s25.2]]), IntKind.i8.wrap (s25.2 + 1)))) else some (Sum.inr (Sum.inl s25.1))
def sfrom_s2 : Sgt → Int → (Int → Int → List (List Int) × Int → Option (List (List Int) × Int ⊕ List (List Int) ⊕ List (List Int) ⊕ List (List Int) ⊕ List (List Int))) → Int → List (List Int) → Option (List (List Int) ⊕ List (List Int) ⊕ List (List Int)) := fun (s : Sgt) (at_ : Int) (sfrom_s1 : Int → Int → List (List Int) × Int → Option (List (List Int) × Int ⊕ List (List Int) ⊕ List (List Int) ⊕ List (List Int) ⊕ List (List Int))) => let x42 := Sgt.mk (Psn.mk s.p.f s.p.r (List.take s.p.zs.length (List.drop 0 s.p.zs)) s.p.bl s.p.ca s.p.pa s.p.ha s.p.fu) s.own s.all; let x43 := (pkind (s.p.zs.getD at_.toNat 0)).getD 0; let x41 := !decide (x43 = 1); fun (e4 : Int) (s20 : List (List Int)) => let x46 := (s20.length + 1) * 24; needO (decide (0 ≤ at_) && decide (at_ < Int.ofNat s.p.zs.length)) (callO (pkind (s.p.zs.getD at_.toNat 0)) Inhabited.default fun (_y21 : Int) => needO (!!x41 || (plast x42 e4).isSome) (bif x41 || !(plast x42 e4).getD false then needO (decide (x46 ≤ 140737488355328)) (some (Sum.inl (s20 ++ List.take 1 (List.drop 0 [iL [at_, e4, 0]])))) else loopO (sfrom_s1 at_ e4) (fun (s33 : List (List Int)) => some (Sum.inl s33)) 1000000 (s20, 2)))
def sfrom (s : Sgt) (at_ : Int) : Option (List (List Int)) := let x50 := band Go.BinOp.and IntKind.u64 (s.own.fdiv (2 ^ Min.min at_.toNat IntKind.u64.bits)) 1; needO (decide (0 ≤ at_)) (bif decide (x50 = 0) then some [] else callO (stargets (Sgt.mk (Psn.mk s.p.f s.p.r (List.take s.p.zs.length (List.drop 0 s.p.zs)) s.p.bl s.p.ca s.p.pa s.p.ha s.p.fu) s.own s.all) at_) 0 fun (y3 : Int) => rangeO (sfrom_s2 s at_ sfrom_s1) (fun (s20 : List (List Int)) => some s20) (fun (_s20 : List (List Int)) => none) (eachL y3) [])
def sfrom_V (R : List (List Int)) : V := .sl 1 0 R.length none
def sfrom_N (R : List (List Int)) : List O := [.rows true [.i64, .i64, .i8] R]
def c_sfrom : CF
 | [.agg [.int .i64 s_0, .int .i64 s_1, .sl 0 0 s_2n none, .bool s_3, .int .u8 s_4, .int .i64 s_5, .int .i64 s_6, .int .i64 s_7, .int .u64 s_8, .int .u64 s_9], .int .i64 at__0], [.ints false .i8 s_2] => retC (decide (s_2n = s_2.length)) (sfrom ⟨⟨s_0, s_1, s_2, s_3, s_4, s_5, s_6, s_7⟩, s_8, s_9⟩ at__0) [] sfrom_V sfrom_N
 | _, _ => none
theorem sfrom_snd (s : Sgt) (at_ : Int) {r} (hr : sfrom s at_ = some r) : FnSound (GGx kCa true) PP 66 [.agg [.int .i64 s.p.f, .int .i64 s.p.r, .sl 0 0 s.p.zs.length none, Bb s.p.bl, .int .u8 s.p.ca, .int .i64 s.p.pa, .int .i64 s.p.ha, .int .i64 s.p.fu, .int .u64 s.own, .int .u64 s.all], .int .i64 at_] [.ints false .i8 s.p.zs] (sfrom_V r) (sfrom_N r) := by
 have hE := cutE (EE_ok (kCa := kCa) (kDb := true) (cts := [(79, c_pkind), (124, c_stargets), (125, c_plast)]) (inl := [(65, Tryz.f65)]) ⟨c_pkind_ok, c_stargets_ok, c_plast_ok, trivial⟩ ⟨⟨Tryz.func65, by kernel_rfl⟩, trivial⟩)
 refine so_fn hE 2 Tryz.func66 rfl rfl sfrom_V sfrom_N hr ?_ rfl rfl
 refine so_need ?_
 refine so_split hE 2 rfl ?_ ?_
 ·exact so_ret (fin_phT 4 (.rows true [.i64, .i64, .i8] []) rfl rfl rfl <| fin_bs [3] (.inr rfl) rfl rfl rfl rfl rfl)
 refine so_callas (pl (decide_eq_true (win_len rfl)) id) ?_
 refine so_range hE 2 5 (fun (s20 : List (List Int)) => [O.ints false IntKind.i8 s.p.zs, O.cells true [V.int IntKind.i64 s.p.f, V.int IntKind.i64 s.p.r, V.sl 0 0 s.p.zs.length none, V.bool s.p.bl, V.int IntKind.u8 s.p.ca, V.int IntKind.i64 s.p.pa, V.int IntKind.i64 s.p.ha, V.int IntKind.i64 s.p.fu, V.int IntKind.u64 s.own, V.int IntKind.u64 s.all], O.cells true [V.int IntKind.i64 at_], O.cells true [V.sl 5 0 s20.length none], O.cells true [V.int IntKind.u64 ((stargets (Sgt.mk (Psn.mk s.p.f s.p.r (List.take s.p.zs.length (List.drop 0 s.p.zs)) s.p.bl s.p.ca s.p.pa s.p.ha s.p.fu) s.own s.all) at_).getD 0)], O.rows true [IntKind.i64, IntKind.i64, IntKind.i8] s20]) (fun (s20 : List (List Int)) => [O.ints false IntKind.i8 s.p.zs, O.cells true [V.int IntKind.i64 s.p.f, V.int IntKind.i64 s.p.r, V.sl 0 0 s.p.zs.length none, V.bool s.p.bl, V.int IntKind.u8 s.p.ca, V.int IntKind.i64 s.p.pa, V.int IntKind.i64 s.p.ha, V.int IntKind.i64 s.p.fu, V.int IntKind.u64 s.own, V.int IntKind.u64 s.all], O.cells true [V.int IntKind.i64 at_], O.cells true [V.sl 5 0 s20.length none], O.cells true [V.int IntKind.u64 ((stargets (Sgt.mk (Psn.mk s.p.f s.p.r (List.take s.p.zs.length (List.drop 0 s.p.zs)) s.p.bl s.p.ca s.p.pa s.p.ha s.p.fu) s.own s.all) at_).getD 0)], O.rows true [IntKind.i64, IntKind.i64, IntKind.i8] s20]) 0 (eachL ((stargets (Sgt.mk (Psn.mk s.p.f s.p.r (List.take s.p.zs.length (List.drop 0 s.p.zs)) s.p.bl s.p.ca s.p.pa s.p.ha s.p.fu) s.own s.all) at_).getD 0)) (fun (e4 : Int) => [V.int IntKind.i64 e4]) (fun (e4 : Int) (s20 : List (List Int)) => (6, V.int IntKind.i64 e4) :: putPs (#[18] : Array Nat).toList [V.int IntKind.i64 e4] [(2, V.ptr 1 0 0), (3, V.ptr 2 0 0), (4, V.nils), (5, V.ptr 3 0 0), (17, V.fn 122 [V.ptr 4 0 0])]) [4] [2, 3, 4, 5, 17] ((Ent.rn [0, 1, 2, 3, 4] [2, 3, 4, 5, 17] rfl rfl rfl rfl rfl).trans ((Ent.phC 3 0 (O.rows true [IntKind.i64, IntKind.i64, IntKind.i8] []) rfl rfl rfl rfl rfl).trans (Ent.rn [0, 1, 2, 3, 4, 5] [2, 3, 4, 5, 17] rfl rfl rfl rfl rfl))) (eachL_sq _) (fun _ => rfl) (ent Tryz.func122 (by kernel_rfl) rfl) rfl rfl rfl rfl rfl rfl (fun _ => rfl) (fun _ => rfl) (fun _ _ => rfl) (fun e4 s20 => ?_) (fun s20 => ?_) (fun s20 => so_none)
 ·refine so_need ?_
  refine so_callas (pl rfl id) ?_
  refine so_triv (Bool.not_or_self _) ?_
  refine so_triv (Bool.not_or_self _) ?_
  refine so_as (pi (pl (decide_eq_true (win_len rfl)) id)) ?_
  refine so_triv (Bool.not_or_self _) ?_
  refine so_triv (Bool.or_not_self _) ?_
  refine so_split hE 2 rfl ?_ ?_
  ·refine so_as (pr (pl (decide_eq_true rfl) id) rfl) ?_
   exact so_rnext ((Ent.rn [0, 1, 2, 3, 4, 7] [] rfl rfl rfl rfl rfl))
  refine so_loop hE 2 (fun (s25 : List (List Int) × Int) => ([(3, V.ptr 2 0 0), (5, V.ptr 3 0 0), (6, V.int IntKind.i64 e4), (7, V.int IntKind.i8 s25.2)], [O.ints false IntKind.i8 s.p.zs, O.cells true [V.int IntKind.i64 s.p.f, V.int IntKind.i64 s.p.r, V.sl 0 0 s.p.zs.length none, V.bool s.p.bl, V.int IntKind.u8 s.p.ca, V.int IntKind.i64 s.p.pa, V.int IntKind.i64 s.p.ha, V.int IntKind.i64 s.p.fu, V.int IntKind.u64 s.own, V.int IntKind.u64 s.all], O.cells true [V.int IntKind.i64 at_], O.cells true [V.sl 5 0 s25.1.length none], O.cells true [V.int IntKind.u64 ((stargets (Sgt.mk (Psn.mk s.p.f s.p.r (List.take s.p.zs.length (List.drop 0 s.p.zs)) s.p.bl s.p.ca s.p.pa s.p.ha s.p.fu) s.own s.all) at_).getD 0)], O.rows true [IntKind.i64, IntKind.i64, IntKind.i8] s25.1])) (fun (s33 : List (List Int)) => ([], [O.ints false IntKind.i8 s.p.zs, O.cells true [V.int IntKind.i64 s.p.f, V.int IntKind.i64 s.p.r, V.sl 0 0 s.p.zs.length none, V.bool s.p.bl, V.int IntKind.u8 s.p.ca, V.int IntKind.i64 s.p.pa, V.int IntKind.i64 s.p.ha, V.int IntKind.i64 s.p.fu, V.int IntKind.u64 s.own, V.int IntKind.u64 s.all], O.cells true [V.int IntKind.i64 at_], O.cells true [V.sl 5 0 s33.length none], O.cells true [V.int IntKind.u64 ((stargets (Sgt.mk (Psn.mk s.p.f s.p.r (List.take s.p.zs.length (List.drop 0 s.p.zs)) s.p.bl s.p.ca s.p.pa s.p.ha s.p.fu) s.own s.all) at_).getD 0)], O.rows true [IntKind.i64, IntKind.i64, IntKind.i8] s33])) (.exit 2) ((Ent.rn [0, 1, 2, 3, 4, 5] [3, 5, 6, 7] rfl rfl rfl rfl rfl)) (fun s25 => ?_) (fun s33 => ?_)
  ·refine so_split hE 2 rfl ?_ ?_
   ·refine so_as (pr (pl (decide_eq_true rfl) id) rfl) ?_
    exact so_next ((Ent.rn [0, 1, 2, 3, 4, 7] [3, 5, 6, 7] rfl rfl rfl rfl rfl))
   exact so_exit ((Ent.rn [0, 1, 2, 3, 4, 5] [] rfl rfl rfl rfl rfl))
  exact so_rnext ((Ent.rn [0, 1, 2, 3, 4, 5] [] rfl rfl rfl rfl rfl))
 exact so_ret (fin_bs [5] (.inr rfl) rfl rfl rfl rfl rfl)
theorem c_sfrom_ok : CtOk (GGx kCa true) PP (66, c_sfrom) := by
 refine ct_mk Tryz.func66 (by kernel_rfl) rfl fun a0 h0 c0 v0 N0 e hc => ?_
 unfold c_sfrom at e
 split at e
 ·rename_i s_0 s_1 s_2n s_3 s_4 s_5 s_6 s_7 s_8 s_9 at__0 s_2
  obtain ⟨hl, r, hr, rfl, rfl⟩ := ret_ok e hc
  simp only [decide_eq_true_eq] at hl
  obtain rfl := hl
  exact sfrom_snd ⟨⟨s_0, s_1, s_2, s_3, s_4, s_5, s_6, s_7⟩, s_8, s_9⟩ at__0 hr
 ·cases e
def pmoves_s1 : Psn → Sgt → Int → List (List Int) → Option (List (List Int) ⊕ List (List Int) ⊕ List (List Int) × Int) := fun (p : Psn) (y2 : Sgt) => let x13 := (List.take y2.p.zs.length (List.drop 0 p.zs)).length; fun (e3 : Int) (s7 : List (List Int)) => needO (decide (y2.p.zs.length = x13)) (callO (sfrom (Sgt.mk (Psn.mk y2.p.f y2.p.r (List.take y2.p.zs.length (List.drop 0 p.zs)) y2.p.bl y2.p.ca y2.p.pa y2.p.ha y2.p.fu) y2.own y2.all) e3) [] fun (y8 : List (List Int)) => let x17 := (s7.length + y8.length) * 24; needO (decide (x17 ≤ 140737488355328) && !Nat.beq 4 (1 - hlen ([] ++ [O.ints false IntKind.i8 (List.take y2.p.zs.length (List.drop 0 p.zs))]) + 4 + 1)) (some (Sum.inl (s7 ++ List.take y8.length (List.drop 0 y8)))))
def pmoves (p : Psn) : Option (List (List Int) × Int) := let x21 := List.take p.zs.length (List.drop 0 p.zs); let x19 := Psn.mk p.f p.r x21 p.bl p.ca p.pa p.ha p.fu; let x20 := x21.length; needO (decide (x20 ≤ 64)) (bif !x19.ok then some ([], 2) else callO (plook x19) (Sgt.mk (Psn.mk 0 0 [] false 0 0 0 0) 0 0) fun (y2 : Sgt) => rangeO (pmoves_s1 p y2) (fun (s7 : List (List Int)) => some (s7, 0)) (fun (_s7 : List (List Int)) => none) (eachL y2.own) [])
def pmoves_V (R : List (List Int) × Int) : V := .tup [.sl 1 0 R.1.length none, .int .i64 R.2]
def pmoves_N (R : List (List Int) × Int) : List O := [.rows true [.i64, .i64, .i8] R.1]
def c_pmoves : CF
 | [.agg [.int .i64 p_0, .int .i64 p_1, .sl 0 0 p_2n none, .bool p_3, .int .u8 p_4, .int .i64 p_5, .int .i64 p_6, .int .i64 p_7]], [.ints false .i8 p_2] => retC (decide (p_2n = p_2.length)) (pmoves ⟨p_0, p_1, p_2, p_3, p_4, p_5, p_6, p_7⟩) ([], 0) pmoves_V pmoves_N
 | _, _ => none
theorem pmoves_snd (p : Psn) {r} (hr : pmoves p = some r) : FnSound (GGx kCa true) PP 23 [.agg [.int .i64 p.f, .int .i64 p.r, .sl 0 0 p.zs.length none, Bb p.bl, .int .u8 p.ca, .int .i64 p.pa, .int .i64 p.ha, .int .i64 p.fu]] [.ints false .i8 p.zs] (pmoves_V r) (pmoves_N r) := by
 have hE := cutE (EE_ok (kCa := kCa) (kDb := true) (cts := [(46, c_pvalid), (64, c_plook), (66, c_sfrom)]) (inl := [(65, Tryz.f65)]) ⟨c_pvalid_ok, c_plook_ok, c_sfrom_ok, trivial⟩ ⟨⟨Tryz.func65, by kernel_rfl⟩, trivial⟩)
 refine so_fn hE 2 Tryz.func23 rfl rfl pmoves_V pmoves_N hr ?_ rfl rfl
 refine so_as (pl (decide_eq_true (win_len rfl)) id) ?_
 refine so_split hE 2 rfl ?_ ?_
 ·exact so_ret (fin_phT 2 (.rows true [.i64, .i64, .i8] []) rfl rfl rfl <| fin_bs [2] (.inr rfl) rfl rfl rfl rfl rfl)
 refine so_callas (pl (decide_eq_true (win_len rfl)) id) ?_
 refine so_range hE 2 4 (let x27 := (plook (Psn.mk p.f p.r (List.take p.zs.length (List.drop 0 p.zs)) p.bl p.ca p.pa p.ha p.fu)).getD (Sgt.mk (Psn.mk 0 0 [] false 0 0 0 0) 0 0); let x25 := x27.own; let x26 := x27.p; fun (s7 : List (List Int)) => [O.ints false IntKind.i8 p.zs, O.cells true [V.int IntKind.i64 x26.f, V.int IntKind.i64 x26.r, V.sl 0 0 x26.zs.length none, V.bool x26.bl, V.int IntKind.u8 x26.ca, V.int IntKind.i64 x26.pa, V.int IntKind.i64 x26.ha, V.int IntKind.i64 x26.fu, V.int IntKind.u64 x25, V.int IntKind.u64 x27.all], O.cells true [V.sl 4 0 s7.length none], O.cells true [V.int IntKind.u64 x25], O.rows true [IntKind.i64, IntKind.i64, IntKind.i8] s7]) (let x31 := (plook (Psn.mk p.f p.r (List.take p.zs.length (List.drop 0 p.zs)) p.bl p.ca p.pa p.ha p.fu)).getD (Sgt.mk (Psn.mk 0 0 [] false 0 0 0 0) 0 0); let x29 := x31.own; let x30 := x31.p; fun (s7 : List (List Int)) => [O.ints false IntKind.i8 p.zs, O.cells true [V.int IntKind.i64 x30.f, V.int IntKind.i64 x30.r, V.sl 0 0 x30.zs.length none, V.bool x30.bl, V.int IntKind.u8 x30.ca, V.int IntKind.i64 x30.pa, V.int IntKind.i64 x30.ha, V.int IntKind.i64 x30.fu, V.int IntKind.u64 x29, V.int IntKind.u64 x31.all], O.cells true [V.sl 4 0 s7.length none], O.cells true [V.int IntKind.u64 x29], O.rows true [IntKind.i64, IntKind.i64, IntKind.i8] s7]) 0 (eachL ((plook (Psn.mk p.f p.r (List.take p.zs.length (List.drop 0 p.zs)) p.bl p.ca p.pa p.ha p.fu)).getD (Sgt.mk (Psn.mk 0 0 [] false 0 0 0 0) 0 0)).own) (fun (e3 : Int) => [V.int IntKind.i64 e3]) (fun (e3 : Int) (s7 : List (List Int)) => (6, V.int IntKind.i64 e3) :: putPs (#[15] : Array Nat).toList [V.int IntKind.i64 e3] [(2, V.nils), (3, V.int IntKind.i64 0), (4, V.ptr 1 0 0), (5, V.ptr 2 0 0), (14, V.fn 122 [V.ptr 3 0 0])]) [3] [2, 3, 4, 5, 14] ((Ent.rn [0, 2, 3, 4] [2, 3, 4, 5, 14] rfl rfl rfl rfl rfl).trans ((Ent.phC 2 0 (O.rows true [IntKind.i64, IntKind.i64, IntKind.i8] []) rfl rfl rfl rfl rfl).trans (Ent.rn [0, 1, 2, 3, 4] [2, 3, 4, 5, 14] rfl rfl rfl rfl rfl))) (eachL_sq _) (fun _ => rfl) (ent Tryz.func122 (by kernel_rfl) rfl) rfl rfl rfl rfl rfl rfl (fun _ => rfl) (fun _ => rfl) (fun _ _ => rfl) (fun e3 s7 => ?_) (fun s7 => ?_) (fun s7 => so_none)
 ·refine so_triv rfl ?_
  refine so_as2 id ?_
  refine so_as (pb (pl (decide_eq_true rfl) id) id) ?_
  exact so_rnext ((Ent.rn [0, 1, 2, 3, 6] [] rfl rfl rfl rfl rfl))
 exact so_ret (fin_bs [4] (.inr rfl) rfl rfl rfl rfl rfl)
theorem c_pmoves_ok : CtOk (GGx kCa true) PP (23, c_pmoves) := by
 refine ct_mk Tryz.func23 (by kernel_rfl) rfl fun a0 h0 c0 v0 N0 e hc => ?_
 unfold c_pmoves at e
 split at e
 ·rename_i p_0 p_1 p_2n p_3 p_4 p_5 p_6 p_7 p_2
  obtain ⟨hl, r, hr, rfl, rfl⟩ := ret_ok e hc
  simp only [decide_eq_true_eq] at hl
  obtain rfl := hl
  exact pmoves_snd ⟨p_0, p_1, p_2, p_3, p_4, p_5, p_6, p_7⟩ hr
 ·cases e
def pfrom (p : Psn) (at_ : Int) : Option (List (List Int) × Int) := let x7 := List.take p.zs.length (List.drop 0 p.zs); let x5 := Psn.mk p.f p.r x7 p.bl p.ca p.pa p.ha p.fu; let x6 := x7.length; needO (decide (x6 ≤ 64)) (bif !x5.ok || !validB p.f p.r at_ then some ([], 2) else callO (plook x5) (Sgt.mk (Psn.mk 0 0 [] false 0 0 0 0) 0 0) fun (y3 : Sgt) => let x10 := List.take y3.p.zs.length (List.drop 0 p.zs); let x9 := x10.length; needO (decide (y3.p.zs.length = x9)) (callO (sfrom (Sgt.mk (Psn.mk y3.p.f y3.p.r x10 y3.p.bl y3.p.ca y3.p.pa y3.p.ha y3.p.fu) y3.own y3.all) at_) [] fun (y4 : List (List Int)) => some (y4, 0)))
def pfrom_V (R : List (List Int) × Int) : V := .tup [.sl 1 0 R.1.length none, .int .i64 R.2]
def pfrom_N (R : List (List Int) × Int) : List O := [.rows true [.i64, .i64, .i8] R.1]
def c_pfrom : CF
 | [.agg [.int .i64 p_0, .int .i64 p_1, .sl 0 0 p_2n none, .bool p_3, .int .u8 p_4, .int .i64 p_5, .int .i64 p_6, .int .i64 p_7], .int .i64 at__0], [.ints false .i8 p_2] => retC (decide (p_2n = p_2.length)) (pfrom ⟨p_0, p_1, p_2, p_3, p_4, p_5, p_6, p_7⟩ at__0) ([], 0) pfrom_V pfrom_N
 | _, _ => none
theorem pfrom_snd (p : Psn) (at_ : Int) {r} (hr : pfrom p at_ = some r) : FnSound (GGx kCa true) PP 24 [.agg [.int .i64 p.f, .int .i64 p.r, .sl 0 0 p.zs.length none, Bb p.bl, .int .u8 p.ca, .int .i64 p.pa, .int .i64 p.ha, .int .i64 p.fu], .int .i64 at_] [.ints false .i8 p.zs] (pfrom_V r) (pfrom_N r) := by
 have hE := cutE (EE_ok (kCa := kCa) (kDb := true) (cts := [(46, c_pvalid), (64, c_plook), (66, c_sfrom), (67, c_valid)]) (inl := []) ⟨c_pvalid_ok, c_plook_ok, c_sfrom_ok, c_valid_ok, trivial⟩ trivial)
 refine so_fn hE 2 Tryz.func24 rfl rfl pfrom_V pfrom_N hr ?_ rfl rfl
 refine so_as (pl (decide_eq_true (win_len rfl)) id) ?_
 refine so_triv (Bool.not_or_self _) ?_
 refine so_triv (Bool.not_or_self _) ?_
 refine so_triv (Bool.not_or_self _) ?_
 refine so_triv (pg rfl) ?_
 refine so_triv (Bool.not_or_self _) ?_
 refine so_triv (Bool.or_not_self _) ?_
 refine so_split hE 2 rfl ?_ ?_
 ·exact so_ret (fin_phT 4 (.rows true [.i64, .i64, .i8] []) rfl rfl rfl <| fin_bs [2] (.inr rfl) rfl rfl rfl rfl rfl)
 refine so_callas (pl (decide_eq_true (win_len rfl)) id) ?_
 refine so_as2 id ?_
 exact so_ret (fin_bs [2] (.inr rfl) rfl rfl rfl rfl rfl)
theorem c_pfrom_ok : CtOk (GGx kCa true) PP (24, c_pfrom) := by
 refine ct_mk Tryz.func24 (by kernel_rfl) rfl fun a0 h0 c0 v0 N0 e hc => ?_
 unfold c_pfrom at e
 split at e
 ·rename_i p_0 p_1 p_2n p_3 p_4 p_5 p_6 p_7 at__0 p_2
  obtain ⟨hl, r, hr, rfl, rfl⟩ := ret_ok e hc
  simp only [decide_eq_true_eq] at hl
  obtain rfl := hl
  exact pfrom_snd ⟨p_0, p_1, p_2, p_3, p_4, p_5, p_6, p_7⟩ at__0 hr
 ·cases e
def pis (p : Psn) (m : Mov) : Option (Bool × Int) := let x8 := List.take p.zs.length (List.drop 0 p.zs); let x6 := Psn.mk p.f p.r x8 p.bl p.ca p.pa p.ha p.fu; let x7 := x8.length; needO (decide (x7 ≤ 64)) (bif !x6.ok || !mvB p.f p.r m.a m.b m.p then some (false, 2) else callO (plook x6) (Sgt.mk (Psn.mk 0 0 [] false 0 0 0 0) 0 0) fun (y3 : Sgt) => let x11 := List.take y3.p.zs.length (List.drop 0 p.zs); let x10 := x11.length; needO (decide (y3.p.zs.length = x10)) (callO (sfrom (Sgt.mk (Psn.mk y3.p.f y3.p.r x11 y3.p.bl y3.p.ca y3.p.pa y3.p.ha y3.p.fu) y3.own y3.all) m.a) [] fun (y4 : List (List Int)) => callO (sConM (List.take y4.length (List.drop 0 y4)) (Mov.mk m.a m.b m.p)) false fun (y5 : Bool) => some (y5, 0)))
def pis_V (R : Bool × Int) : V := .tup [Bb R.1, .int .i64 R.2]
def pis_N (_R : Bool × Int) : List O := []
def c_pis : CF
 | [.agg [.int .i64 p_0, .int .i64 p_1, .sl 0 0 p_2n none, .bool p_3, .int .u8 p_4, .int .i64 p_5, .int .i64 p_6, .int .i64 p_7], .agg [.int .i64 m_0, .int .i64 m_1, .int .i8 m_2]], [.ints false .i8 p_2] => retC (decide (p_2n = p_2.length)) (pis ⟨p_0, p_1, p_2, p_3, p_4, p_5, p_6, p_7⟩ ⟨m_0, m_1, m_2⟩) (false, 0) pis_V pis_N
 | _, _ => none
theorem pis_snd (p : Psn) (m : Mov) {r} (hr : pis p m = some r) : FnSound (GGx kCa true) PP 30 [.agg [.int .i64 p.f, .int .i64 p.r, .sl 0 0 p.zs.length none, Bb p.bl, .int .u8 p.ca, .int .i64 p.pa, .int .i64 p.ha, .int .i64 p.fu], .agg [.int .i64 m.a, .int .i64 m.b, .int .i8 m.p]] [.ints false .i8 p.zs] (pis_V r) (pis_N r) := by
 have hE := cutE (EE_ok (kCa := kCa) (kDb := true) (cts := [(46, c_pvalid), (47, c_mvalid), (64, c_plook), (66, c_sfrom), (78, c_sConM)]) (inl := []) ⟨c_pvalid_ok, c_mvalid_ok, c_plook_ok, c_sfrom_ok, c_sConM_ok, trivial⟩ trivial)
 refine so_fn hE 2 Tryz.func30 rfl rfl pis_V pis_N hr ?_ rfl rfl
 refine so_as (pl (decide_eq_true (win_len rfl)) id) ?_
 refine so_triv (Bool.not_or_self _) ?_
 refine so_triv (Bool.not_or_self _) ?_
 refine so_triv (Bool.not_or_self _) ?_
 refine so_triv (pg rfl) ?_
 refine so_triv (Bool.not_or_self _) ?_
 refine so_triv (Bool.or_not_self _) ?_
 refine so_split hE 2 rfl ?_ ?_
 ·exact so_ret (fin_bs [] (.inr rfl) rfl rfl rfl rfl rfl)
 refine so_triv rfl ?_
 refine so_callas (pl (decide_eq_true (win_len rfl)) id) ?_
 refine so_as2 id ?_
 refine so_callas (pl (decide_eq_true (win_len rfl)) id) ?_
 exact so_ret (fin_bs [] (.inr rfl) rfl rfl rfl rfl rfl)
theorem c_pis_ok : CtOk (GGx kCa true) PP (30, c_pis) := by
 refine ct_mk Tryz.func30 (by kernel_rfl) rfl fun a0 h0 c0 v0 N0 e hc => ?_
 unfold c_pis at e
 split at e
 ·rename_i p_0 p_1 p_2n p_3 p_4 p_5 p_6 p_7 m_0 m_1 m_2 p_2
  obtain ⟨hl, r, hr, rfl, rfl⟩ := ret_ok e hc
  simp only [decide_eq_true_eq] at hl
  obtain rfl := hl
  exact pis_snd ⟨p_0, p_1, p_2, p_3, p_4, p_5, p_6, p_7⟩ ⟨m_0, m_1, m_2⟩ hr
 ·cases e
def pcap (p : Psn) (m : Mov) : Option (Int × Int × Int) := let x7 := (pkind (p.zs.getD m.a.toNat 0)).getD 0; let x8 := !decide (p.f = 0); callO (pis (Psn.mk p.f p.r (List.take p.zs.length (List.drop 0 p.zs)) p.bl p.ca p.pa p.ha p.fu) (Mov.mk m.a m.b m.p)) (false, 0) fun (y3 : Bool × Int) => bif !decide (y3.2 = 0) then some (0, 0, y3.2) else bif !y3.1 then some (0, 0, 10) else needO (decide (0 ≤ m.a) && decide (m.a < Int.ofNat p.zs.length)) (callO (pkind (p.zs.getD m.a.toNat 0)) Inhabited.default fun (_y4 : Int) => joinO (bif decide (x7 = 1) && decide (m.b = p.pa) then needO x8 (needO x8 (some (Sum.inl (IntKind.i64.wrap (IntKind.i64.wrap (m.a - m.a.tmod p.f) + m.b.tmod p.f))))) else some (Sum.inl m.b)) fun (s6 : Int) => let x12 := decide (0 ≤ s6) && decide (s6 < Int.ofNat p.zs.length); needO x12 (bif decide (p.zs.getD s6.toNat 0 = 0) then some (0, -1, 0) else needO x12 (some (p.zs.getD s6.toNat 0, s6, 0))))
def pcap_V (R : Int × Int × Int) : V := .tup [.int .i8 R.1, .int .i64 R.2.1, .int .i64 R.2.2]
def pcap_N (_R : Int × Int × Int) : List O := []
def c_pcap : CF
 | [.agg [.int .i64 p_0, .int .i64 p_1, .sl 0 0 p_2n none, .bool p_3, .int .u8 p_4, .int .i64 p_5, .int .i64 p_6, .int .i64 p_7], .agg [.int .i64 m_0, .int .i64 m_1, .int .i8 m_2]], [.ints false .i8 p_2] => retC (decide (p_2n = p_2.length)) (pcap ⟨p_0, p_1, p_2, p_3, p_4, p_5, p_6, p_7⟩ ⟨m_0, m_1, m_2⟩) (0, 0, 0) pcap_V pcap_N
 | _, _ => none
theorem pcap_snd (p : Psn) (m : Mov) {r} (hr : pcap p m = some r) : FnSound (GGx kCa true) PP 33 [.agg [.int .i64 p.f, .int .i64 p.r, .sl 0 0 p.zs.length none, Bb p.bl, .int .u8 p.ca, .int .i64 p.pa, .int .i64 p.ha, .int .i64 p.fu], .agg [.int .i64 m.a, .int .i64 m.b, .int .i8 m.p]] [.ints false .i8 p.zs] (pcap_V r) (pcap_N r) := by
 have hE := cutE (EE_ok (kCa := kCa) (kDb := true) (cts := [(30, c_pis), (79, c_pkind)]) (inl := []) ⟨c_pis_ok, c_pkind_ok, trivial⟩ trivial)
 refine so_fn hE 2 Tryz.func33 rfl rfl pcap_V pcap_N hr ?_ rfl rfl
 unfold pcap
 refine so_callas (pl (decide_eq_true (win_len rfl)) id) ?_
 refine so_split hE 2 rfl ?_ ?_
 ·exact so_ret (fin_bs [] (.inr rfl) rfl rfl rfl rfl rfl)
 refine so_split hE 2 rfl ?_ ?_
 ·exact so_ret (fin_bs [] (.inr rfl) rfl rfl rfl rfl rfl)
 refine so_need ?_
 refine so_callas (pl rfl id) ?_
 refine so_triv (Bool.not_or_self _) ?_
 refine so_triv (Bool.not_or_self _) ?_
 refine so_triv (Bool.not_or_self _) ?_
 refine so_triv (Bool.not_or_self _) ?_
 refine so_triv (Bool.not_or_self _) ?_
 refine so_join hE 2 (fun (s6 : Int) => ([(2, V.ptr 1 0 0), (4, V.int IntKind.i8 0), (5, V.int IntKind.i64 0), (6, V.int IntKind.i64 0), (9, V.int IntKind.i64 s6)], [O.ints false IntKind.i8 p.zs, O.cells true [V.int IntKind.i64 p.f, V.int IntKind.i64 p.r, V.sl 0 0 p.zs.length none, V.bool p.bl, V.int IntKind.u8 p.ca, V.int IntKind.i64 p.pa, V.int IntKind.i64 p.ha, V.int IntKind.i64 p.fu]])) rfl ?_ ?_ (fun s6 => ?_)
 ·refine so_triv rfl ?_
  refine so_need ?_
  refine so_need ?_
  exact so_nrm ((Ent.rn [0, 1] [2, 4, 5, 6, 9] rfl rfl rfl rfl rfl))
 ·exact so_nrm ((Ent.rn [0, 1] [2, 4, 5, 6, 9] rfl rfl rfl rfl rfl))
 refine so_need ?_
 refine so_split hE 2 rfl ?_ ?_
 ·exact so_ret (fin_bs [] (.inr rfl) rfl rfl rfl rfl rfl)
 refine so_need ?_
 exact so_ret (fin_bs [] (.inr rfl) rfl rfl rfl rfl rfl)
theorem c_pcap_ok : CtOk (GGx kCa true) PP (33, c_pcap) := by
 refine ct_mk Tryz.func33 (by kernel_rfl) rfl fun a0 h0 c0 v0 N0 e hc => ?_
 unfold c_pcap at e
 split at e
 ·rename_i p_0 p_1 p_2n p_3 p_4 p_5 p_6 p_7 m_0 m_1 m_2 p_2
  obtain ⟨hl, r, hr, rfl, rfl⟩ := ret_ok e hc
  simp only [decide_eq_true_eq] at hl
  obtain rfl := hl
  exact pcap_snd ⟨p_0, p_1, p_2, p_3, p_4, p_5, p_6, p_7⟩ ⟨m_0, m_1, m_2⟩ hr
 ·cases e
def pcas (p : Psn) (m : Mov) : Option (Bool × Int) := let x6 := (pkind (p.zs.getD m.a.toNat 0)).getD 0; callO (pis (Psn.mk p.f p.r (List.take p.zs.length (List.drop 0 p.zs)) p.bl p.ca p.pa p.ha p.fu) (Mov.mk m.a m.b m.p)) (false, 0) fun (y3 : Bool × Int) => bif !decide (y3.2 = 0) then some (false, y3.2) else bif !y3.1 then some (false, 10) else callO (sdist (Siz.mk p.f p.r) m.a m.b) (0, 0) fun (y4 : Int × Int) => needO (decide (0 ≤ m.a) && decide (m.a < Int.ofNat p.zs.length)) (callO (pkind (p.zs.getD m.a.toNat 0)) Inhabited.default fun (_y5 : Int) => some (decide (x6 = 6) && decide (y4.1 = 2), 0))
def pcas_V (R : Bool × Int) : V := .tup [Bb R.1, .int .i64 R.2]
def pcas_N (_R : Bool × Int) : List O := []
def c_pcas : CF
 | [.agg [.int .i64 p_0, .int .i64 p_1, .sl 0 0 p_2n none, .bool p_3, .int .u8 p_4, .int .i64 p_5, .int .i64 p_6, .int .i64 p_7], .agg [.int .i64 m_0, .int .i64 m_1, .int .i8 m_2]], [.ints false .i8 p_2] => retC (decide (p_2n = p_2.length)) (pcas ⟨p_0, p_1, p_2, p_3, p_4, p_5, p_6, p_7⟩ ⟨m_0, m_1, m_2⟩) (false, 0) pcas_V pcas_N
 | _, _ => none
theorem pcas_snd (p : Psn) (m : Mov) {r} (hr : pcas p m = some r) : FnSound (GGx kCa true) PP 34 [.agg [.int .i64 p.f, .int .i64 p.r, .sl 0 0 p.zs.length none, Bb p.bl, .int .u8 p.ca, .int .i64 p.pa, .int .i64 p.ha, .int .i64 p.fu], .agg [.int .i64 m.a, .int .i64 m.b, .int .i8 m.p]] [.ints false .i8 p.zs] (pcas_V r) (pcas_N r) := by
 have hE := cutE (EE_ok (kCa := kCa) (kDb := true) (cts := [(30, c_pis), (79, c_pkind), (80, c_sdist)]) (inl := []) ⟨c_pis_ok, c_pkind_ok, c_sdist_ok, trivial⟩ trivial)
 refine so_fn hE 2 Tryz.func34 rfl rfl pcas_V pcas_N hr ?_ rfl rfl
 unfold pcas
 refine so_callas (pl (decide_eq_true (win_len rfl)) id) ?_
 refine so_split hE 2 rfl ?_ ?_
 ·exact so_ret (fin_bs [] (.inr rfl) rfl rfl rfl rfl rfl)
 refine so_split hE 2 rfl ?_ ?_
 ·exact so_ret (fin_bs [] (.inr rfl) rfl rfl rfl rfl rfl)
 refine so_callas (pl rfl id) ?_
 refine so_need ?_
 refine so_callas (pl rfl id) ?_
 refine so_triv (Bool.not_or_self _) ?_
 refine so_triv (Bool.not_or_self _) ?_
 exact so_ret (fin_bs [] (.inr rfl) rfl rfl rfl rfl rfl)
theorem c_pcas_ok : CtOk (GGx kCa true) PP (34, c_pcas) := by
 refine ct_mk Tryz.func34 (by kernel_rfl) rfl fun a0 h0 c0 v0 N0 e hc => ?_
 unfold c_pcas at e
 split at e
 ·rename_i p_0 p_1 p_2n p_3 p_4 p_5 p_6 p_7 m_0 m_1 m_2 p_2
  obtain ⟨hl, r, hr, rfl, rfl⟩ := ret_ok e hc
  simp only [decide_eq_true_eq] at hl
  obtain rfl := hl
  exact pcas_snd ⟨p_0, p_1, p_2, p_3, p_4, p_5, p_6, p_7⟩ ⟨m_0, m_1, m_2⟩ hr
 ·cases e
end Go.Ab

set_option maxRecDepth 100000
namespace Go.Ab
open Go.Proofs
structure PsH (p : Psn) : Prop where
 h : orthBd p.f p.r p.zs = true
 hl : p.zs.length ≤ 64
 ok : p.ok = true
 ca : 0 ≤ p.ca
theorem psh {p : Psn} (hl : p.zs.length ≤ 64) (hca : 0 ≤ p.ca) (hok : p.ok = true) : PsH p := by
 refine ⟨?_, hl, hok, hca⟩
 have hk := hok
 simp only [Psn.ok, kingsB, Bool.and_eq_true, decide_eq_true_eq] at hk
 cases h : orthBd p.f p.r p.zs with
 | true => rfl
 | false => have := hk.1.1.1.1.2.1.1; unfold kingR at this; rw [h] at this; cases this
section
variable {p : Psn}
theorem PsH.bd (o : PsH p) : validBd p.f p.r p.zs = true := (orth_valid o.h).2.2.1
theorem PsH.cast (o : PsH p) : castB p.f p.r p.zs p.ca = true := by have := o.ok; simp only [Psn.ok, Bool.and_eq_true] at this; exact this.1.1.2
theorem PsH.pass (o : PsH p) : passB p.f p.r p.zs p.bl p.pa p.ha = true := by have := o.ok; simp only [Psn.ok, Bool.and_eq_true] at this; exact this.1.2
end
def canM (p : Psn) (a b pr : Int) : Bool := mvB p.f p.r a b pr && isP (p.zs.getD a.toNat 0) p.bl && !err3 p ⟨a, b, pr⟩
def prs : List Int := [0, 2, 3, 4, 5]
def rowsM (p : Psn) (a b : Int) : List (List Int) := (prs.filter (canM p a b)).map fun pr => [a, b, pr]
def psL (p : Psn) (a : Int) : List (List Int) := ((List.range p.zs.length).map Int.ofNat).flatMap (rowsM p a)
def ownS (p : Psn) : Int := bif p.bl then whereR negP p.zs else whereR posP p.zs
theorem own_bt {p : Psn} (hl : p.zs.length ≤ 64) : Uk (ownS p) ∧ ∀ m : Nat, bt (ownS p) m = (decide (m < p.zs.length) && isP (p.zs.getD m 0) p.bl) := by
 obtain ⟨h1, h2⟩ := where_bt posP hl
 obtain ⟨h3, h4⟩ := where_bt negP hl
 unfold ownS
 cases hb : p.bl with
 | true => exact ⟨h3, fun m => by rw [cond_true, h4]; unfold negP isP; simp⟩
 | false => exact ⟨h1, fun m => by rw [cond_false, h2]; unfold posP isP; simp⟩
theorem sg_eta (p : Psn) (w x : Int) : (⟨⟨p.f, p.r, p.zs, p.bl, p.ca, p.pa, p.ha, p.fu⟩, w, x⟩ : Sgt) = ⟨p, w, x⟩ := rfl
theorem look_eq {p : Psn} (hl : p.zs.length ≤ 64) (hbd : validBd p.f p.r p.zs = true) : plook p = some ⟨p, ownS p, occR p.f p.r p.zs⟩ := by
 have h1 : decide (p.zs.length ≤ 1000000) = true := by simp; omega
 have h2 : (sidesR p.f p.r p.zs).1 = whereR posP p.zs ∧ (sidesR p.f p.r p.zs).2.1 = whereR negP p.zs := by unfold sidesR; rw [hbd]; exact ⟨rfl, rfl⟩
 unfold plook ownS occR
 simp only [List.drop_zero, List.take_length, h1, h2.1, h2.2, needO_true, sg_eta]
 cases p.bl <;> rfl
def swS (prev : Int) (skip free : Bool) (y : Int) : Int := bif skip then prev else bif free then y else prev
theorem sw_join {α : Type} {prev y : Int} {skip free : Bool} {F : Int → Option α} : joinO (bif skip then some (.inl prev) else joinO (bif free then some (.inl y) else some (.inl prev)) fun s => some (.inl s)) F = F (swS prev skip free y) := by
 cases skip <;> cases free <;> rfl
def sw1 (p : Psn) (a : Int) : Int := swS 0 (decide (u8and p.ca 1 = 0) || !p.bl == false || !decide (a = 4)) (decide (uand (betwR p.f p.r 4 7).1 (occR p.f p.r p.zs) = 0)) (uor 0 (ushl 1 6))
def sw2 (p : Psn) (a : Int) : Int := swS (sw1 p a) (decide (u8and p.ca 2 = 0) || !p.bl == false || !decide (a = 4)) (decide (uand (betwR p.f p.r 4 0).1 (occR p.f p.r p.zs) = 0)) (uor (sw1 p a) (ushl 1 2))
def sw3 (p : Psn) (a : Int) : Int := swS (sw2 p a) (decide (u8and p.ca 4 = 0) || !p.bl == true || !decide (a = 60)) (decide (uand (betwR p.f p.r 60 63).1 (occR p.f p.r p.zs) = 0)) (uor (sw2 p a) (ushl 1 62))
def sw4 (p : Psn) (a : Int) : Int := swS (sw3 p a) (decide (u8and p.ca 8 = 0) || !p.bl == true || !decide (a = 60)) (decide (uand (betwR p.f p.r 60 56).1 (occR p.f p.r p.zs) = 0)) (uor (sw3 p a) (ushl 1 58))
theorem ways_eq {p : Psn} {w a : Int} : sways ⟨p, w, occR p.f p.r p.zs⟩ a = some (sw4 p a) := by
 unfold sways
 simp only [sw_join]
 rfl
theorem sw_step {x prev g : Int} {skip free : Bool} (hp : Uk prev) (hg0 : 0 ≤ g) (hg : g < 64) (hx : x = swS prev skip free (uor prev (ushl 1 g))) : Uk x ∧ ∀ n : Nat, bt x n = (bt prev n || (!skip && free && decide (g = n))) := by
 subst hx
 unfold swS
 cases skip with
 | true => exact ⟨hp, fun n => by simp⟩
 | false =>
  cases free with
  | true => exact ⟨uk_or _ _, fun n => by rw [cond_false, cond_true, bt_or hp (uk_shl _ _), bt_shl hg0 hg]; rfl⟩
  | false => exact ⟨hp, fun n => by simp⟩
theorem sw_bt {p : Psn} {a : Int} : Uk (sw4 p a) ∧ ∀ n : Nat, bt (sw4 p a) n = ((!(decide (u8and p.ca 1 = 0) || !p.bl == false || !decide (a = 4)) && decide (uand (betwR p.f p.r 4 7).1 (occR p.f p.r p.zs) = 0) && decide ((6 : Int) = n)) ||
  (!(decide (u8and p.ca 2 = 0) || !p.bl == false || !decide (a = 4)) && decide (uand (betwR p.f p.r 4 0).1 (occR p.f p.r p.zs) = 0) && decide ((2 : Int) = n)) ||
  (!(decide (u8and p.ca 4 = 0) || !p.bl == true || !decide (a = 60)) && decide (uand (betwR p.f p.r 60 63).1 (occR p.f p.r p.zs) = 0) && decide ((62 : Int) = n)) ||
  (!(decide (u8and p.ca 8 = 0) || !p.bl == true || !decide (a = 60)) && decide (uand (betwR p.f p.r 60 56).1 (occR p.f p.r p.zs) = 0) && decide ((58 : Int) = n))) := by
 obtain ⟨u1, b1⟩ := sw_step (x := sw1 p a) (g := 6) uk_0 (by decide) (by decide) rfl
 obtain ⟨u2, b2⟩ := sw_step (x := sw2 p a) (g := 2) u1 (by decide) (by decide) rfl
 obtain ⟨u3, b3⟩ := sw_step (x := sw3 p a) (g := 62) u2 (by decide) (by decide) rfl
 obtain ⟨u4, b4⟩ := sw_step (x := sw4 p a) (g := 58) u3 (by decide) (by decide) rfl
 exact ⟨u4, fun n => by rw [b4, b3, b2, b1, bt_0, Bool.false_or]⟩
theorem way_bt {p : Psn} {a b : Int} (hk : absP (p.zs.getD a.toNat 0) = 6) (hb : 0 ≤ b) : bt (sw4 p a) b.toNat = wayB p.f p.r p.zs (wayN p.zs p.bl p.ca a b) := by
 have hs : ∀ {c : Bool} {bit k to : Int}, (!(decide (u8and p.ca bit = 0) || !p.bl == c || !decide (a = k)) && decide (to = ((b.toNat : Nat) : Int))) = !csSkip p.bl p.ca a b c bit k to := by
  intro c bit k to
  rw [Bool.eq_iff_iff, sk_iff, show ((b.toNat : Nat) : Int) = b by omega]
  simp only [Bool.and_eq_true, Bool.not_eq_true', Bool.or_eq_false_iff, decide_eq_false_iff_not, Bool.not_eq_false', decide_eq_true_eq]
  constructor
  ·rintro ⟨⟨⟨h1, h2⟩, h3⟩, h4⟩
   exact ⟨(by cases c <;> cases hb : p.bl <;> rw [hb] at h2 <;> first | rfl | cases h2), h1, h3.symm, h4⟩
  ·rintro ⟨h1, h2, h3, h4⟩
   exact ⟨⟨⟨h2, by rw [h1]; cases p.bl <;> rfl⟩, h3.symm⟩, h4⟩
 have re : ∀ x y z : Bool, (x && y && z) = ((x && z) && y) := by decide
 rw [sw_bt.2, re, re (!(decide (u8and p.ca 2 = 0) || _ || _)), re (!(decide (u8and p.ca 4 = 0) || _ || _)), re (!(decide (u8and p.ca 8 = 0) || _ || _)), hs, hs, hs, hs]
 unfold wayN
 rw [hk]
 have w0 : wayB p.f p.r p.zs 0 = decide (uand (betwR p.f p.r 4 7).1 (occR p.f p.r p.zs) = 0) := rfl
 have w1 : wayB p.f p.r p.zs 1 = decide (uand (betwR p.f p.r 4 0).1 (occR p.f p.r p.zs) = 0) := rfl
 have w2 : wayB p.f p.r p.zs 2 = decide (uand (betwR p.f p.r 60 63).1 (occR p.f p.r p.zs) = 0) := rfl
 have w3 : wayB p.f p.r p.zs 3 = decide (uand (betwR p.f p.r 60 56).1 (occR p.f p.r p.zs) = 0) := rfl
 have w4 : wayB p.f p.r p.zs 4 = false := rfl
 have one : ∀ {c c' : Bool} {bit bit' k k' to to' : Int}, (!csSkip p.bl p.ca a b c bit k to) = true → (c ≠ c' ∨ to ≠ to') → (!csSkip p.bl p.ca a b c' bit' k' to') = false := by
  intro c c' bit bit' k k' to to' h1 h2
  rw [Bool.eq_false_iff]
  intro h3
  obtain ⟨e1, _, _, e4⟩ := sk_iff.1 h1
  obtain ⟨f1, _, _, f4⟩ := sk_iff.1 h3
  rcases h2 with h | h
  ·exact h (e1.trans f1.symm)
  ·exact h (e4.trans f4.symm)
 cases n1 : (!csSkip p.bl p.ca a b false 1 4 6) with
 | true =>
  rw [one n1 (.inr (by decide)), one n1 (.inl (by decide)), one n1 (.inl (by decide))]
  simp only [Bool.true_and, Bool.false_and, Bool.or_false, decide_true, Bool.not_true, cond_true, cond_false, w0]
 | false =>
  cases n2 : (!csSkip p.bl p.ca a b false 2 4 2) with
  | true =>
   rw [one n2 (.inl (by decide)), one n2 (.inl (by decide))]
   simp only [Bool.true_and, Bool.false_and, Bool.or_false, Bool.false_or, decide_true, Bool.not_true, cond_true, cond_false, w1]
  | false =>
   cases n3 : (!csSkip p.bl p.ca a b true 4 60 62) with
   | true =>
    rw [one n3 (.inr (by decide))]
    simp only [Bool.true_and, Bool.false_and, Bool.or_false, Bool.false_or, decide_true, Bool.not_true, cond_true, cond_false, w2]
   | false =>
    cases n4 : (!csSkip p.bl p.ca a b true 8 60 58) with
    | true => simp only [Bool.true_and, Bool.false_and, Bool.false_or, decide_true, Bool.not_true, cond_true, cond_false, w3]
    | false => simp only [Bool.false_and, Bool.or_self, decide_true, Bool.not_true, cond_false, w4]
def tgR (p : Psn) (a : Int) : Int :=
 bif decide (absP (p.zs.getD a.toNat 0) = 1) then uor (stepsR p.f p.r p.bl a (occR p.f p.r p.zs)).1 (uand (pawnR p.f p.r p.bl a).1 (bif decide (0 ≤ p.pa) then uor (uandn (occR p.f p.r p.zs) (ownS p)) (ushl 1 p.pa) else uandn (occR p.f p.r p.zs) (ownS p)))
 else uandn (bif decide (absP (p.zs.getD a.toNat 0) = 6) then uor (reachR p.f p.r (absP (p.zs.getD a.toNat 0)) a (occR p.f p.r p.zs)).1 (sw4 p a) else (reachR p.f p.r (absP (p.zs.getD a.toNat 0)) a (occR p.f p.r p.zs)).1) (ownS p)
theorem pk_eq (v : Int) : pkind v = some (absP v) := rfl
theorem spawn_eq {p : Psn} {a : Int} : spawn ⟨p, ownS p, occR p.f p.r p.zs⟩ a = some (uor (stepsR p.f p.r p.bl a (occR p.f p.r p.zs)).1 (uand (pawnR p.f p.r p.bl a).1 (bif decide (0 ≤ p.pa) then uor (uandn (occR p.f p.r p.zs) (ownS p)) (ushl 1 p.pa) else uandn (occR p.f p.r p.zs) (ownS p)))) := by
 unfold spawn
 cases h : decide (0 ≤ p.pa) with
 | true => simp only [cond_true, needO_true, joinO_inl]
 | false => simp only [cond_false, joinO_inl]
theorem tg_eq {p : Psn} {a : Int} (ha : 0 ≤ a ∧ a < p.zs.length) : stargets ⟨p, ownS p, occR p.f p.r p.zs⟩ a = some (tgR p a) := by
 have h1 : (decide (0 ≤ a) && decide (a < Int.ofNat p.zs.length)) = true := by simp; omega
 unfold stargets tgR
 simp only [List.drop_zero, List.take_length, sg_eta, pk_eq, h1, needO_true, callO_some, Option.getD_some, spawn_eq, ways_eq]
 by_cases h2 : absP (p.zs.getD a.toNat 0) = 1
 ·simp only [h2, decide_true, cond_true]
 ·by_cases h3 : absP (p.zs.getD a.toNat 0) = 6
  ·have h6 : ((6 : Int) = 1) = False := by simp
   simp only [h3, h6, decide_false, decide_true, cond_true, cond_false, joinO_inl]
  ·simp only [h2, h3, decide_false, cond_false, joinO_inl]
end Go.Ab

set_option maxRecDepth 100000
namespace Go.Ab
open Go.Proofs
def lastB (p : Psn) (b : Int) : Bool := decide (py p.f b = lastR p.r p.bl)
def tgB (p : Psn) (a b : Int) : Bool := !isP (p.zs.getD b.toNat 0) p.bl &&
 (bif decide (kind8 (p.zs.getD a.toNat 0) = 1) then stepsB p.f p.r p.bl a (occR p.f p.r p.zs) b || (pawnC p.f p.bl a b && (!decide (p.zs.getD b.toNat 0 = 0) || decide (b = p.pa)))
 else reachesB p.f p.r (kind8 (p.zs.getD a.toNat 0)) a b (occR p.f p.r p.zs) || wayB p.f p.r p.zs (wayN p.zs p.bl p.ca a b))
section
variable {p : Psn} {a b : Int}
theorem PsH.ab (o : PsH p) (ha : validB p.f p.r a = true) : absP (p.zs.getD a.toNat 0) = kind8 (p.zs.getD a.toNat 0) := by
 obtain ⟨h0, h1⟩ := (bd_sq o.bd).1 ha
 exact abs_kind o.h h0 h1
theorem pn_eq (o : PsH p) (hb : validB p.f p.r b = true) {pr : Int} : pnL p.f p.r p.zs p.bl p.pa a b pr = ((lastB p b == !decide (pr = 0)) && (stepsB p.f p.r p.bl a (occR p.f p.r p.zs) b || (pawnC p.f p.bl a b && (!decide (p.zs.getD b.toNat 0 = 0) || decide (b = p.pa))))) := by
 have hin : ∀ c : Int → Bool, hasL b (filtB c id (p.f * p.r).toNat) = c b := fun c => by
  rw [Bool.eq_iff_iff, has_mem, mem_filtB]
  have := valid_lt hb
  exact ⟨fun h => h.2.2, fun h => ⟨this.1, by omega, h⟩⟩
 unfold pnL lastB
 rw [hin, hin, occ_eq o.bd o.hl, (px_bd hb).1]
 cases (decide (py p.f b = lastR p.r p.bl) == !decide (pr = 0)) <;> cases stepsB p.f p.r p.bl a (occR p.f p.r p.zs) b <;> rfl
theorem can_eq (o : PsH p) (ha : validB p.f p.r a = true) (hb : validB p.f p.r b = true) (hown : isP (p.zs.getD a.toNat 0) p.bl = true) {pr : Int} (hpr : pr = 0 ∨ (2 ≤ pr ∧ pr ≤ 5)) :
  canM p a b pr = (tgB p a b && ((decide (kind8 (p.zs.getD a.toNat 0) = 1) && lastB p b) == !decide (pr = 0))) := by
 unfold canM tgB err3
 dsimp only
 rw [hown, Bool.and_true, goes_eq (_ca := p.ca) o.h o.hl ha hb hown, occ_eq o.bd o.hl, pn_eq o hb]
 cases hi : isP (p.zs.getD b.toNat 0) p.bl with
 | true => simp
 | false =>
  have hab : a ≠ b := fun e => by rw [e, hi] at hown; cases hown
  have hmv : mvB p.f p.r a b pr = true := by
   unfold mvB
   rw [ha, hb, decide_eq_false hab]
   rcases hpr with h | h
   ·rw [decide_eq_true h]; rfl
   ·rw [decide_eq_true h.1, decide_eq_true h.2]; simp
  rw [hmv]
  cases hk : decide (kind8 (p.zs.getD a.toNat 0) = 1) with
  | true =>
   have hw : wayB p.f p.r p.zs (wayN p.zs p.bl p.ca a b) = false := by
    have : wayN p.zs p.bl p.ca a b = 4 := by
     unfold wayN
     rw [o.ab ha, of_decide_eq_true hk]; rfl
    rw [this]; rfl
   rw [hw]
   cases (stepsB p.f p.r p.bl a (occR p.f p.r p.zs) b || (pawnC p.f p.bl a b && (!decide (p.zs.getD b.toNat 0 = 0) || decide (b = p.pa)))) <;> cases lastB p b <;> cases decide (pr = 0) <;> rfl
  | false =>
   cases reachesB p.f p.r (kind8 (p.zs.getD a.toNat 0)) a b (occR p.f p.r p.zs) <;> cases wayB p.f p.r p.zs (wayN p.zs p.bl p.ca a b) <;> cases decide (pr = 0) <;> rfl
theorem rows_eq (o : PsH p) (ha : validB p.f p.r a = true) (hb : validB p.f p.r b = true) (hown : isP (p.zs.getD a.toNat 0) p.bl = true) :
  rowsM p a b = bif tgB p a b then (bif decide (kind8 (p.zs.getD a.toNat 0) = 1) && lastB p b then [[a, b, 2], [a, b, 3], [a, b, 4], [a, b, 5]] else [[a, b, 0]]) else [] := by
 unfold rowsM prs
 simp only [List.filter_cons, List.filter_nil]
 rw [can_eq o ha hb hown (.inl rfl), can_eq o ha hb hown (pr := 2) (.inr (by decide)), can_eq o ha hb hown (pr := 3) (.inr (by decide)), can_eq o ha hb hown (pr := 4) (.inr (by decide)), can_eq o ha hb hown (pr := 5) (.inr (by decide))]
 cases tgB p a b <;> cases (decide (kind8 (p.zs.getD a.toNat 0) = 1) && lastB p b) <;> simp
theorem rows_none (hown : isP (p.zs.getD a.toNat 0) p.bl = false) : rowsM p a b = [] := by
 unfold rowsM
 rw [filter_none fun pr _ => by unfold canM; rw [hown]; simp]; rfl
theorem PsH.pa0 (o : PsH p) (h : 0 ≤ p.pa) : validB p.f p.r p.pa = true ∧ p.zs.getD p.pa.toNat 0 = 0 := by
 have hps := o.pass
 simp only [passB, Bool.or_eq_true, Bool.and_eq_true, decide_eq_true_eq] at hps
 rcases hps with hps | ⟨⟨⟨⟨⟨⟨_, _⟩, p3⟩, _⟩, p5⟩, _⟩, _⟩
 ·omega
 ·exact ⟨p3, p5⟩
theorem tg_bt (o : PsH p) (ha : validB p.f p.r a = true) (hown : isP (p.zs.getD a.toNat 0) p.bl = true) :
  Uk (tgR p a) ∧ (∀ n : Nat, n < 64 → bt (tgR p a) n = true → n < p.zs.length) ∧ ∀ b, validB p.f p.r b = true → bt (tgR p a) b.toNat = tgB p a b := by
 obtain ⟨ha0, ha1⟩ := (bd_sq o.bd).1 ha
 obtain ⟨hou, hob⟩ := occ_bt o.bd o.hl
 obtain ⟨hwu, hwb⟩ := own_bt o.hl
 have hray : rayOn p.f p.r a (occR p.f p.r p.zs) = true := (rayOn_iff hou).2 ⟨ha, occ_on o.h o.hl⟩
 have hon : ∀ {s : Int}, OnS p.f p.r s → ∀ n : Nat, n < 64 → bt s n = true → n < p.zs.length := fun h n hn hb => by
  have := (bd_sq o.bd).1 (h n hn hb)
  omega
 unfold tgR tgB
 rw [o.ab ha]
 cases hk : decide (kind8 (p.zs.getD a.toNat 0) = 1) with
 | true =>
  simp only [cond_true]
  obtain ⟨_, s1, s3, s2⟩ := steps_bt (bl := p.bl) hray hou
  obtain ⟨_, p1, p3, p2⟩ := pawn_bt (bl := p.bl) ha
  have hot : Uk (bif decide (0 ≤ p.pa) then uor (uandn (occR p.f p.r p.zs) (ownS p)) (ushl 1 p.pa) else uandn (occR p.f p.r p.zs) (ownS p)) ∧ ∀ b, validB p.f p.r b = true → bt (bif decide (0 ≤ p.pa) then uor (uandn (occR p.f p.r p.zs) (ownS p)) (ushl 1 p.pa) else uandn (occR p.f p.r p.zs) (ownS p)) b.toNat = ((!decide (p.zs.getD b.toNat 0 = 0) && !isP (p.zs.getD b.toNat 0) p.bl) || decide (b = p.pa)) := by
   have base : ∀ b, validB p.f p.r b = true → bt (uandn (occR p.f p.r p.zs) (ownS p)) b.toNat = (!decide (p.zs.getD b.toNat 0 = 0) && !isP (p.zs.getD b.toNat 0) p.bl) := fun b hb => by
    have := (bd_sq o.bd).1 hb
    rw [bt_andn hou hwu, hob, hwb, decide_eq_true (show b.toNat < p.zs.length by omega), Bool.true_and, Bool.true_and]
   cases hp : decide (0 ≤ p.pa) with
   | true =>
    have hp0 := of_decide_eq_true hp
    have hv := (o.pa0 hp0).1
    have hlt := valid_lt hv
    refine ⟨uk_or _ _, fun b hb => ?_⟩
    have hb0 := (valid_lt hb).1
    rw [cond_true, bt_or (uk_andn _ _) (uk_shl _ _), base b hb, bt_shl hlt.1 hlt.2.2]
    congr 1
    rw [decide_eq_decide]; omega
   | false =>
    refine ⟨uk_andn _ _, fun b hb => ?_⟩
    have hb0 := (valid_lt hb).1
    have hp0 := of_decide_eq_false hp
    rw [cond_false, base b hb, decide_eq_false (show ¬ b = p.pa by omega), Bool.or_false]
  refine ⟨uk_or _ _, fun n hn h => ?_, fun b hb => ?_⟩
  ·rw [bt_or s1 (uk_and _ _), Bool.or_eq_true] at h
   rcases h with h | h
   ·exact hon s3 n hn h
   ·rw [bt_and p1 hot.1, Bool.and_eq_true] at h
    exact hon p3 n hn h.1
  ·have hlt := (bd_sq o.bd).1 hb
   rw [bt_or s1 (uk_and _ _), s2 b hb, bt_and p1 hot.1, p2 b hb, hot.2 b hb]
   cases hi : isP (p.zs.getD b.toNat 0) p.bl with
   | true =>
    have hz := isP_nz hi
    have hst : stepsB p.f p.r p.bl a (occR p.f p.r p.zs) b = false := by
     have hocc : hasB (occR p.f p.r p.zs) b = true := by
      rw [has_bt' hou hb, hob, decide_eq_true (show b.toNat < p.zs.length by omega), decide_eq_false hz]; rfl
     rw [Bool.eq_false_iff]
     intro h
     simp only [stepsB, Bool.or_eq_true, Bool.and_eq_true, decide_eq_true_eq, Bool.not_eq_true'] at h
     rcases h with ⟨h1, h2⟩ | ⟨⟨⟨⟨h1, _⟩, _⟩, _⟩, h2⟩ <;> rw [← h1, hocc] at h2 <;> cases h2
    have hpa : decide (b = p.pa) = false := by
     rw [decide_eq_false_iff_not]
     intro e
     have := (o.pa0 (by omega)).2
     rw [← e] at this
     exact hz this
    rw [hst, hpa]; simp
   | false => simp
 | false =>
  simp only [cond_false]
  have hk5 := kinds_of o.h ha0 ha1 hown (of_decide_eq_false hk)
  obtain ⟨r1, r2, r3⟩ := reach_bt hray hou hk5
  replace r1 : Uk (reachR p.f p.r (kind8 (p.zs.getD a.toNat 0)) a (occR p.f p.r p.zs)).1 := r1
  replace r2 : OnS p.f p.r (reachR p.f p.r (kind8 (p.zs.getD a.toNat 0)) a (occR p.f p.r p.zs)).1 := r2
  replace r3 : ∀ b, validB p.f p.r b = true → bt (reachR p.f p.r (kind8 (p.zs.getD a.toNat 0)) a (occR p.f p.r p.zs)).1 b.toNat = reachesB p.f p.r (kind8 (p.zs.getD a.toNat 0)) a b (occR p.f p.r p.zs) := r3
  have hsw : Uk (bif decide (kind8 (p.zs.getD a.toNat 0) = 6) then uor (reachR p.f p.r (kind8 (p.zs.getD a.toNat 0)) a (occR p.f p.r p.zs)).1 (sw4 p a) else (reachR p.f p.r (kind8 (p.zs.getD a.toNat 0)) a (occR p.f p.r p.zs)).1) ∧
    (∀ n : Nat, n < 64 → bt (bif decide (kind8 (p.zs.getD a.toNat 0) = 6) then uor (reachR p.f p.r (kind8 (p.zs.getD a.toNat 0)) a (occR p.f p.r p.zs)).1 (sw4 p a) else (reachR p.f p.r (kind8 (p.zs.getD a.toNat 0)) a (occR p.f p.r p.zs)).1) n = true → n < p.zs.length) ∧
    ∀ b, validB p.f p.r b = true → bt (bif decide (kind8 (p.zs.getD a.toNat 0) = 6) then uor (reachR p.f p.r (kind8 (p.zs.getD a.toNat 0)) a (occR p.f p.r p.zs)).1 (sw4 p a) else (reachR p.f p.r (kind8 (p.zs.getD a.toNat 0)) a (occR p.f p.r p.zs)).1) b.toNat = (reachesB p.f p.r (kind8 (p.zs.getD a.toNat 0)) a b (occR p.f p.r p.zs) || wayB p.f p.r p.zs (wayN p.zs p.bl p.ca a b)) := by
   cases h6 : decide (kind8 (p.zs.getD a.toNat 0) = 6) with
   | true =>
    have hk6 : absP (p.zs.getD a.toNat 0) = 6 := by rw [o.ab ha]; exact of_decide_eq_true h6
    refine ⟨uk_or _ _, fun n hn h => ?_, fun b hb => ?_⟩
    ·rw [cond_true, bt_or r1 sw_bt.1, Bool.or_eq_true] at h
     rcases h with h | h
     ·exact hon r2 n hn h
     ·have h64 : p.zs.length = 64 := by
       have hc := o.cast
       simp only [castB, Bool.and_eq_true, Bool.not_eq_true', decide_eq_true_eq] at hc
       obtain ⟨⟨⟨⟨c1, c2⟩, c3⟩, c4⟩, _⟩ := hc
       rw [sw_bt.2] at h
       simp only [Bool.or_eq_true, Bool.and_eq_true, Bool.not_eq_true', Bool.or_eq_false_iff, decide_eq_false_iff_not] at h
       have fin : ∀ {bit : Int} {k q : Nat} {c : Bool}, rtX p.f p.r p.zs p.ca bit k q c = false → u8and p.ca bit ≠ 0 → p.zs.length = 64 := fun h1 h2 => by
        obtain ⟨f8, r8, _⟩ := right_88 h1 h2
        exact bd_88 o.bd (by rw [f8, r8]; rfl)
       rcases h with ((⟨⟨⟨⟨h, _⟩, _⟩, _⟩, _⟩ | ⟨⟨⟨⟨h, _⟩, _⟩, _⟩, _⟩) | ⟨⟨⟨⟨h, _⟩, _⟩, _⟩, _⟩) | ⟨⟨⟨⟨h, _⟩, _⟩, _⟩, _⟩
       ·exact fin c1 h
       ·exact fin c2 h
       ·exact fin c3 h
       ·exact fin c4 h
      omega
    ·rw [cond_true, bt_or r1 sw_bt.1, r3 b hb, way_bt hk6 (valid_lt hb).1]
   | false =>
    refine ⟨r1, hon r2, fun b hb => ?_⟩
    have hw : wayN p.zs p.bl p.ca a b = 4 := by
     unfold wayN
     rw [o.ab ha, h6]; rfl
    rw [cond_false, r3 b hb, hw]
    have : wayB p.f p.r p.zs 4 = false := rfl
    rw [this, Bool.or_false]
  refine ⟨uk_andn _ _, fun n hn h => ?_, fun b hb => ?_⟩
  ·rw [bt_andn hsw.1 hwu, Bool.and_eq_true] at h
   exact hsw.2.1 n hn h.1
  ·have hlt := (bd_sq o.bd).1 hb
   rw [bt_andn hsw.1 hwu, hsw.2.2 b hb, hwb, decide_eq_true (show b.toNat < p.zs.length by omega), Bool.true_and, Bool.and_comm]
end
end Go.Ab

set_option maxRecDepth 100000
namespace Go.Ab
open Go.Proofs
theorem flat_filter {α β : Type} (q : α → Bool) (g : α → List β) : ∀ l : List α, (l.filter q).flatMap g = l.flatMap fun x => bif q x then g x else []
 | [] => rfl
 | x :: l => by
  rw [List.filter_cons, List.flatMap_cons, ← flat_filter q g l]
  cases q x <;> simp
theorem flat_congr {α β : Type} {f g : α → List β} : ∀ {l : List α}, (∀ x ∈ l, f x = g x) → l.flatMap f = l.flatMap g
 | [], _ => rfl
 | x :: l, h => by rw [List.flatMap_cons, List.flatMap_cons, h x (List.mem_cons_self ..), flat_congr fun y hy => h y (List.mem_cons_of_mem _ hy)]
theorem flat_range {β : Type} {q : Nat → Bool} {g : Int → List β} {n : Nat} (hn : n ≤ 64) (hq : ∀ m, m < 64 → q m = true → m < n) :
  (((List.range 64).filter q).map Int.ofNat).flatMap g = ((List.range n).map Int.ofNat).flatMap fun x => bif q x.toNat then g x else [] := by
 rw [List.flatMap_map, List.flatMap_map, flat_filter, List.range_eq_range', List.range_eq_range', show 64 = n + (64 - n) by omega, ← List.range'_append_1, List.flatMap_append]
 have h2 : (List.range' (0 + n) (64 - n)).flatMap (fun x => bif q x then g (Int.ofNat x) else []) = [] := by
  rw [List.flatMap_eq_nil_iff]
  intro x hx
  have hx := List.mem_range'_1.1 hx
  cases h : q x with
  | false => rfl
  | true => have := hq x (by omega) h; omega
 rw [h2, List.append_nil]
 rfl
theorem range_app {α : Type} {step : Int → List (List Int) → Option (List (List Int) ⊕ (List (List Int) ⊕ α))} {F Fx : List (List Int) → Option α} {rows : Int → List (List Int)} {M k : Nat} : ∀ {l : List Int} {acc : List (List Int)},
  (∀ x ∈ l, ∀ acc : List (List Int), acc.length ≤ M → step x acc = some (.inl (acc ++ rows x))) → (∀ x ∈ l, (rows x).length ≤ k) → acc.length + k * l.length ≤ M → rangeO step F Fx l acc = F (acc ++ l.flatMap rows)
 | [], acc, _, _, _ => by rw [rangeO_nil, List.flatMap_nil, List.append_nil]
 | x :: l, acc, hs, hr, hM => by
  rw [List.length_cons, Nat.mul_add] at hM
  rw [rangeO_next (hs x (List.mem_cons_self ..) acc (by omega)), range_app (fun y hy => hs y (List.mem_cons_of_mem _ hy)) (fun y hy => hr y (List.mem_cons_of_mem _ hy)) (by have := hr x (List.mem_cons_self ..); rw [List.length_append]; omega), List.flatMap_cons, List.append_assoc]
theorem row_last' {f r b : Int} {zs : List Int} (_hbd : validBd f r zs = true) (hb : validB f r b = true) : ((r - 1) * f ≤ b ↔ py f b = r - 1) ∧ (b < f ↔ py f b = 0) := by
 obtain ⟨b0, b1, b2, b3, b4, b5, b6, b7, b8, b9⟩ := px_bd hb
 constructor
 ·constructor
  ·intro h
   refine Decidable.byContradiction fun hne => ?_
   have : (py f b + 1) * f ≤ (r - 1) * f := Int.mul_le_mul_of_nonneg_right (by omega) (by omega)
   rw [Int.add_mul] at this
   omega
  ·intro h
   rw [← h]; omega
 ·constructor
  ·intro h
   refine Decidable.byContradiction fun hne => ?_
   have : 1 * f ≤ py f b * f := Int.mul_le_mul_of_nonneg_right (by omega) (by omega)
   omega
  ·intro h
   rw [h] at b5; omega
section
variable {p : Psn} {a b : Int}
def lastQ (p : Psn) (b : Int) : Bool := bif p.bl then decide (b < p.f) else decide (IntKind.i64.wrap (p.f * IntKind.i64.wrap (p.r - 1)) ≤ b)
theorem plast_eq (w x : Int) : plast ⟨p, w, x⟩ b = some (lastQ p b) := by
 unfold plast lastQ
 cases h : p.bl <;> rfl
theorem last_eq (o : PsH p) (hb : validB p.f p.r b = true) : lastQ p b = lastB p b := by
 obtain ⟨w1, w2⟩ := row_last' o.bd hb
 obtain ⟨b0, b1, b2, b3, b4, b5, b6, b7, b8, b9⟩ := px_bd hb
 have hlt := valid_lt hb
 unfold lastQ lastB
 cases p.bl with
 | true =>
  rw [cond_true, decide_eq_decide, show lastR p.r true = 0 from rfl]
  exact w2
 | false =>
  have h1 : IntKind.i64.wrap (p.r - 1) = p.r - 1 := w64_id (by omega) (by omega)
  have hm : 0 ≤ p.f * (p.r - 1) ∧ p.f * (p.r - 1) ≤ 64 := by
   have e1 : p.f * (p.r - 1) ≤ 8 * (p.r - 1) := Int.mul_le_mul_of_nonneg_right (by omega) (by omega)
   exact ⟨Int.mul_nonneg (by omega) (by omega), by omega⟩
  rw [cond_false, decide_eq_decide, h1, w64_id (by omega) (by omega), show lastR p.r false = p.r - 1 from h1, Int.mul_comm]
  exact w1
def rowsP (p : Psn) (a b : Int) : List (List Int) := bif decide (absP (p.zs.getD a.toNat 0) = 1) && lastQ p b then [[a, b, 2], [a, b, 3], [a, b, 4], [a, b, 5]] else [[a, b, 0]]
theorem rowsP_len : (rowsP p a b).length ≤ 4 := by
 unfold rowsP
 cases (decide (absP (p.zs.getD a.toNat 0) = 1) && lastQ p b) <;> simp
theorem app_ok {acc : List (List Int)} (h : acc.length ≤ 100000) : decide ((acc.length + 1) * 24 ≤ 140737488355328) = true := by simp; omega
theorem prom_step {acc : List (List Int)} {q : Int} (h : acc.length ≤ 100000) (h1 : 0 ≤ q) (h2 : q ≤ 5) : sfrom_s1 a b (acc, q) = some (.inl (acc ++ [[a, b, q]], q + 1)) := by
 unfold sfrom_s1
 simp only [app_ok h, decide_eq_true h2, cond_true, needO_true]
 rw [show IntKind.i8.wrap (q + 1) = q + 1 from w8_in (by omega) (by omega)]
 rfl
theorem prom_end {acc : List (List Int)} : sfrom_s1 a b (acc, 2 + 1 + 1 + 1 + 1) = some (.inr (.inl acc)) := by
 unfold sfrom_s1
 rfl
theorem prom_run {acc : List (List Int)} (h : acc.length ≤ 90000) : loopO (sfrom_s1 a b) (fun s33 : List (List Int) => some (.inl s33)) 1000000 (acc, 2) = some (.inl (acc ++ [[a, b, 2], [a, b, 3], [a, b, 4], [a, b, 5]])) := by
 rw [show (1000000 : Nat) = 999995 + 1 + 1 + 1 + 1 + 1 by rfl]
 rw [loopO_next (prom_step (by omega) (by decide) (by decide)), loopO_next (prom_step (by simp; omega) (by decide) (by decide)), loopO_next (prom_step (by simp; omega) (by decide) (by decide)), loopO_next (prom_step (by simp; omega) (by decide) (by decide)), loopO_exit prom_end]
 simp
theorem sf_step (ha : 0 ≤ a ∧ a < p.zs.length) {acc : List (List Int)} (h : acc.length ≤ 90000) : sfrom_s2 ⟨p, ownS p, occR p.f p.r p.zs⟩ a sfrom_s1 b acc = some (.inl (acc ++ rowsP p a b)) := by
 have h1 : (decide (0 ≤ a) && decide (a < Int.ofNat p.zs.length)) = true := by simp; omega
 unfold sfrom_s2 rowsP
 simp only [List.drop_zero, List.take_length, sg_eta, pk_eq, h1, needO_true, callO_some, Option.getD_some, plast_eq, Option.isSome_some, Bool.or_true, app_ok (show acc.length ≤ 100000 by omega), prom_run h]
 by_cases h2 : absP (p.zs.getD a.toNat 0) = 1
 ·simp only [h2, decide_true, Bool.not_true, Bool.false_or, Bool.true_and]
  cases lastQ p b <;> rfl
 ·simp only [h2, decide_false, Bool.not_false, Bool.true_or, Bool.false_and]
  rfl
theorem bitL_mem {x n : Int} (h : n ∈ bitL x) : 0 ≤ n ∧ n < 64 ∧ bt x n.toNat = true := by
 unfold bitL at h
 obtain ⟨m, hm, rfl⟩ := List.mem_map.1 h
 rw [List.mem_filter, List.mem_range] at hm
 exact ⟨Int.natCast_nonneg _, Int.ofNat_lt.2 hm.1, by simpa using hm.2⟩
theorem sfrom_eq (o : PsH p) (ha : validB p.f p.r a = true) : sfrom ⟨p, ownS p, occR p.f p.r p.zs⟩ a = some (psL p a) := by
 have hA := (bd_sq o.bd).1 ha
 have hlt := valid_lt ha
 obtain ⟨hwu, hwb⟩ := own_bt o.hl
 have h0 : decide (band Go.BinOp.and IntKind.u64 ((ownS p).fdiv (2 ^ Min.min a.toNat IntKind.u64.bits)) 1 = 0) = !isP (p.zs.getD a.toNat 0) p.bl := by
  have := bit_of0 hwu hlt.1 hlt.2.2
  rw [hwb, decide_eq_true (show a.toNat < p.zs.length by omega), Bool.true_and] at this
  exact this
 unfold sfrom
 simp only [List.drop_zero, List.take_length, sg_eta, decide_eq_true hlt.1, needO_true]
 rw [h0]
 cases hi : isP (p.zs.getD a.toNat 0) p.bl with
 | false =>
  rw [Bool.not_false, cond_true]
  congr 1
  unfold psL
  rw [eq_comm, List.flatMap_eq_nil_iff]
  exact fun _ _ => rows_none hi
 | true =>
  rw [Bool.not_true, cond_false, tg_eq hA, callO_some]
  obtain ⟨t1, t2, t3⟩ := tg_bt o ha hi
  rw [eachL_eq t1]
  have hlen := bitL_len (tgR p a)
  rw [range_app (rows := rowsP p a) (M := 90000) (k := 4) (fun x _ acc h => sf_step hA h) (fun _ _ => rowsP_len) (by simp; omega), List.nil_append]
  congr 1
  unfold bitL psL
  rw [flat_range o.hl t2]
  refine flat_congr fun x hx => ?_
  obtain ⟨m, hm, rfl⟩ := List.mem_map.1 hx
  have hm := List.mem_range.1 hm
  have hv : validB p.f p.r (Int.ofNat m) = true := (bd_sq o.bd).2 ⟨Int.natCast_nonneg _, Int.ofNat_lt.2 hm⟩
  rw [t3 _ hv, rows_eq o ha hv hi]
  unfold rowsP
  rw [last_eq o hv, o.ab ha]
end
end Go.Ab

set_option maxRecDepth 100000
set_option maxHeartbeats 4000000
namespace Go.Ab
open Go.Proofs
variable {kCa kDb : Bool}
def pletter (p : Int) : Option (Int) := let x5 := (#[112, 110, 98, 114, 113, 107, 97, 99, 100, 101, 102, 103, 104, 105, 106] : Array UInt8).toList; let x6 := (#[80, 78, 66, 82, 81, 75, 65, 67, 68, 69, 70, 71, 72, 73, 74] : Array UInt8).toList; let x7 := IntKind.i8.wrap (IntKind.i8.wrap (0 - p) - 1); let x8 := IntKind.i8.wrap (p - 1); let x3 := Int.ofNat x6.length; let x4 := Int.ofNat x5.length; bif decide (p < 0) then needO (decide (0 ≤ x7) && decide (x7 < x4)) (some (Int.ofNat (x5.getD x7.toNat 0).toNat)) else needO (decide (0 ≤ x8) && decide (x8 < x3)) (some (Int.ofNat (x6.getD x8.toNat 0).toNat))
def pletter_V (R : Int) : V := .int .u8 R
def pletter_N (_R : Int) : List O := []
def c_pletter : CF
 | [.int .i8 p_0], [] => retC true (pletter p_0) 0 pletter_V pletter_N
 | _, _ => none
theorem pletter_snd (p : Int) {r} (hr : pletter p = some r) : FnSound (GGx kCa kDb) PP 144 [.int .i8 p] [] (pletter_V r) (pletter_N r) := by
 have hE := cutE (EE_ok (kCa := kCa) (kDb := kDb) (cts := []) (inl := []) trivial trivial)
 refine so_fn hE 2 Tryz.func144 rfl rfl pletter_V pletter_N hr ?_ rfl rfl
 refine so_split hE 2 rfl ?_ ?_
 ·refine so_need ?_
  exact so_ret (fin_bs [] (.inr rfl) rfl rfl rfl rfl rfl)
 refine so_need ?_
 exact so_ret (fin_bs [] (.inr rfl) rfl rfl rfl rfl rfl)
theorem c_pletter_ok : CtOk (GGx kCa kDb) PP (144, c_pletter) := by
 refine ct_mk Tryz.func144 (by kernel_rfl) rfl fun a0 h0 c0 v0 N0 e hc => ?_
 unfold c_pletter at e
 split at e
 ·rename_i p_0
  obtain ⟨hl, r, hr, rfl, rfl⟩ := ret_ok e hc
  exact pletter_snd p_0 hr
 ·cases e
def pparse_s1 : Int → Int → Option (Int ⊕ Unit ⊕ Int) := fun (c s5 : Int) => let x12 := !decide (s5 = 0); bif decide (s5 ≤ 15) then needO (!x12 || (pletter s5).isSome) (bif x12 && decide ((pletter s5).getD 0 = c) then escO (escO (some s5)) else some (Sum.inl (IntKind.i8.wrap (s5 + 1)))) else some (Sum.inr (Sum.inl ()))
def pparse (c : Int) : Option (Int) := loopO (pparse_s1 c) (fun (_s10 : Unit) => some 0) 1000000 (-15)
def pparse_V (R : Int) : V := .int .i8 R
def pparse_N (_R : Int) : List O := []
def c_pparse : CF
 | [.int .u8 c_0], [] => retC true (pparse c_0) 0 pparse_V pparse_N
 | _, _ => none
theorem pparse_snd (c : Int) {r} (hr : pparse c = some r) : FnSound (GGx kCa kDb) PP 181 [.int .u8 c] [] (pparse_V r) (pparse_N r) := by
 have hE := cutE (EE_ok (kCa := kCa) (kDb := kDb) (cts := [(144, c_pletter)]) (inl := []) ⟨c_pletter_ok, trivial⟩ trivial)
 refine so_fn hE 2 Tryz.func181 rfl rfl pparse_V pparse_N hr ?_ rfl rfl
 refine so_loop hE 2 (fun (s5 : Int) => ([(0, V.int IntKind.u8 c), (2, V.int IntKind.i8 0), (3, V.int IntKind.i8 s5)], [])) (fun (s10 : Unit) => ([(2, V.int IntKind.i8 0)], [])) (.exit 0) ((Ent.rn [] [0, 2, 3] rfl rfl rfl rfl rfl)) (fun s5 => ?_) (fun s10 => ?_)
 ·refine so_split hE 2 rfl ?_ ?_
  ·refine so_triv (Bool.not_or_self _) ?_
   refine so_as (pi (pl rfl id)) ?_
   refine so_triv (Bool.not_or_self _) ?_
   refine so_triv (Bool.not_or_self _) ?_
   refine so_triv (Bool.not_or_self _) ?_
   refine so_split hE 2 rfl ?_ ?_
   ·refine so_out (by simp) (so_out1 ?_)
    exact so_ret (fin_bs [] (.inr rfl) rfl rfl rfl rfl rfl)
   exact so_next ((Ent.rn [] [0, 2, 3] rfl rfl rfl rfl rfl))
  exact so_exit ((Ent.rn [] [2] rfl rfl rfl rfl rfl))
 exact so_ret (fin_bs [] (.inr rfl) rfl rfl rfl rfl rfl)
theorem c_pparse_ok : CtOk (GGx kCa kDb) PP (181, c_pparse) := by
 refine ct_mk Tryz.func181 (by kernel_rfl) rfl fun a0 h0 c0 v0 N0 e hc => ?_
 unfold c_pparse at e
 split at e
 ·rename_i c_0
  obtain ⟨hl, r, hr, rfl, rfl⟩ := ret_ok e hc
  exact pparse_snd c_0 hr
 ·cases e
end Go.Ab

set_option maxRecDepth 100000
set_option maxHeartbeats 4000000
namespace Go.Ab
open Go.Proofs
variable {kCa kDb : Bool}
def btext_s1 : Bd → List UInt8 × Int → List UInt8 × Int × Int → Option (List UInt8 × Int × Int ⊕ List UInt8 × Int × Int × Bool ⊕ List UInt8 × Int ⊕ List UInt8 ⊕ List UInt8) := fun (b : Bd) (s33 : List UInt8 × Int) => let x72 := (#[48, 49, 50, 51, 52, 53, 54, 55, 56] : Array UInt8).toList; let x73 := IntKind.i64.wrap (s33.2 * b.f); let x71 := Int.ofNat x72.length; fun (s43 : List UInt8 × Int × Int) => let x81 := decide (s43.2.2 < b.f); let x82 := decide (s43.2.2 ≤ b.f); let x83 := IntKind.i64.wrap (s43.2.1 + 1); let x84 := IntKind.i64.wrap (s43.2.2 + 1); let x85 := IntKind.i64.wrap (x73 + s43.2.2); let x75 := decide (0 ≤ x85) && decide (x85 < Int.ofNat b.zs.length); let x78 := List.take (x83.toNat - s43.2.1.toNat) (List.drop s43.2.1.toNat x72); let x80 := b.zs.getD x85.toNat 0; let x76 := s43.1.length + x78.length; let x79 := bytesS (List.take 1 (List.drop 0 (iL [(pletter x80).getD 0]))); let x77 := x79.length; bif x82 then needO (!x81 || x75) (bif x81 && decide (x80 = 0) then some (Sum.inl (s43.1, x83, x84)) else joinO (bif decide (0 < s43.2.1) then needO (decide (0 ≤ s43.2.1) && decide (s43.2.1 ≤ x83) && decide (x83 ≤ x71)) (needO (decide (x76 ≤ 4611686018427387904)) (some (Sum.inl (s43.1 ++ x78, 0)))) else some (Sum.inl (s43.1, s43.2.1))) fun (s46 : List UInt8 × Int) => let x87 := s46.1.length + x77; joinO (bif x81 then needO x75 (callO (pletter x80) Inhabited.default fun (_y47 : Int) => needO (decide (x87 ≤ 4611686018427387904)) (some (Sum.inl (s46.1 ++ x79)))) else some (Sum.inl s46.1)) fun (s49 : List UInt8) => some (Sum.inl (s49, s46.2, x84))) else some (Sum.inr (Sum.inl (s43.1, s43.2.1, s43.2.2, x82)))
def btext_s2 : Bd → (Bd → List UInt8 × Int → List UInt8 × Int × Int → Option (List UInt8 × Int × Int ⊕ List UInt8 × Int × Int × Bool ⊕ List UInt8 × Int ⊕ List UInt8 ⊕ List UInt8)) → List UInt8 × Int → Option (List UInt8 × Int ⊕ List UInt8 ⊕ List UInt8) := fun (b : Bd) (btext_s1 : Bd → List UInt8 × Int → List UInt8 × Int × Int → Option (List UInt8 × Int × Int ⊕ List UInt8 × Int × Int × Bool ⊕ List UInt8 × Int ⊕ List UInt8 ⊕ List UInt8)) => let x91 := (#[47] : Array UInt8).toList.length; fun (s33 : List UInt8 × Int) => let x93 := s33.1.length + x91; bif decide (0 ≤ s33.2) then joinO (bif !s33.1 == (#[] : Array UInt8).toList then needO (decide (x93 ≤ 4611686018427387904)) (some (Sum.inl (s33.1 ++ (#[47] : Array UInt8).toList))) else some (Sum.inl s33.1)) fun (s35 : List UInt8) => loopO (btext_s1 b s33) (fun (s62 : List UInt8 × Int × Int × Bool) => some (Sum.inl (s62.1, IntKind.i64.wrap (s33.2 - 1)))) 1000000 (s35, 0, 0) else some (Sum.inr (Sum.inl s33.1))
def btext (b : Bd) : Option (List UInt8) := loopO (btext_s2 b btext_s1) (fun (s70 : List UInt8) => some s70) 1000000 ((#[] : Array UInt8).toList, IntKind.i64.wrap (b.r - 1))
def btext_V (R : List UInt8) : V := .str R
def btext_N (_R : List UInt8) : List O := []
def c_btext : CF
 | [.agg [.int .i64 b_0, .int .i64 b_1, .sl 0 0 b_2n none]], [.ints false .i8 b_2] => retC (decide (b_2n = b_2.length)) (btext ⟨b_0, b_1, b_2⟩) [] btext_V btext_N
 | _, _ => none
theorem btext_snd (b : Bd) {r} (hr : btext b = some r) : FnSound (GGx kCa kDb) PP 91 [.agg [.int .i64 b.f, .int .i64 b.r, .sl 0 0 b.zs.length none]] [.ints false .i8 b.zs] (btext_V r) (btext_N r) := by
 have hE := cutE (EE_ok (kCa := kCa) (kDb := kDb) (cts := [(144, c_pletter)]) (inl := []) ⟨c_pletter_ok, trivial⟩ trivial)
 refine so_fn hE 2 Tryz.func91 rfl rfl btext_V btext_N hr ?_ rfl rfl
 refine so_loop hE 2 (fun (s33 : List UInt8 × Int) => ([(1, V.ptr 1 0 0), (2, V.str (#[] : Array UInt8).toList), (3, V.str s33.1), (4, V.int IntKind.i64 s33.2)], [O.ints false IntKind.i8 b.zs, O.cells true [V.int IntKind.i64 b.f, V.int IntKind.i64 b.r, V.sl 0 0 b.zs.length none]])) (fun (s70 : List UInt8) => ([(2, V.str (#[] : Array UInt8).toList), (3, V.str s70)], [O.ints false IntKind.i8 b.zs])) (.exit 0) ((Ent.rn [0, 1] [1, 2, 3, 4] rfl rfl rfl rfl rfl)) (fun s33 => ?_) (fun s70 => ?_)
 ·refine so_split hE 2 rfl ?_ ?_
  ·refine so_join hE 2 (fun (s35 : List UInt8) => ([(1, V.ptr 1 0 0), (2, V.str (#[] : Array UInt8).toList), (3, V.str s35), (4, V.int IntKind.i64 s33.2), (11, V.int IntKind.i64 s33.2), (12, V.bool (decide (0 ≤ s33.2))), (15, V.str s33.1), (16, V.bool !s33.1 == (#[] : Array UInt8).toList)], [O.ints false IntKind.i8 b.zs, O.cells true [V.int IntKind.i64 b.f, V.int IntKind.i64 b.r, V.sl 0 0 b.zs.length none]])) rfl ?_ ?_ (fun s35 => ?_)
   ·refine so_need ?_
    exact so_nrm ((Ent.rn [0, 1] [1, 2, 3, 4, 11, 12, 15, 16] rfl rfl rfl rfl rfl))
   ·exact so_nrm ((Ent.rn [0, 1] [1, 2, 3, 4, 11, 12, 15, 16] rfl rfl rfl rfl rfl))
   refine so_loop hE 2 (fun (s43 : List UInt8 × Int × Int) => ([(1, V.ptr 1 0 0), (2, V.str (#[] : Array UInt8).toList), (3, V.str s43.1), (4, V.int IntKind.i64 s33.2), (5, V.int IntKind.i64 s43.2.1), (6, V.int IntKind.i64 s43.2.2), (11, V.int IntKind.i64 s33.2), (12, V.bool (decide (0 ≤ s33.2))), (15, V.str s33.1), (16, V.bool !s33.1 == (#[] : Array UInt8).toList)], [O.ints false IntKind.i8 b.zs, O.cells true [V.int IntKind.i64 b.f, V.int IntKind.i64 b.r, V.sl 0 0 b.zs.length none]])) (fun (s62 : List UInt8 × Int × Int × Bool) => let x103 := s62.2.2.1; ([(1, V.ptr 1 0 0), (2, V.str (#[] : Array UInt8).toList), (3, V.str s62.1), (4, V.int IntKind.i64 s33.2), (5, V.int IntKind.i64 s62.2.1), (6, V.int IntKind.i64 x103), (11, V.int IntKind.i64 s33.2), (12, V.bool (decide (0 ≤ s33.2))), (15, V.str s33.1), (16, V.bool !s33.1 == (#[] : Array UInt8).toList), (19, V.int IntKind.i64 x103), (20, V.ptr 1 0 0), (21, V.ptr 1 0 0), (22, V.int IntKind.i64 b.f), (23, V.bool s62.2.2.2)], [O.ints false IntKind.i8 b.zs, O.cells true [V.int IntKind.i64 b.f, V.int IntKind.i64 b.r, V.sl 0 0 b.zs.length none]])) (.exit 2) ((Ent.rn [0, 1] [1, 2, 3, 4, 5, 6, 11, 12, 15, 16] rfl rfl rfl rfl rfl)) (fun s43 => ?_) (fun s62 => ?_)
   ·refine so_split hE 2 rfl ?_ ?_
    ·refine so_triv (Bool.not_or_self _) ?_
     refine so_triv (Bool.not_or_self _) ?_
     refine so_triv (Bool.not_or_self _) ?_
     refine so_triv (Bool.not_or_self _) ?_
     refine so_triv (Bool.not_or_self _) ?_
     refine so_triv (Bool.not_or_self _) ?_
     refine so_triv (Bool.not_or_self _) ?_
     refine so_triv (Bool.not_or_self _) ?_
     refine so_triv (Bool.not_or_self _) ?_
     refine so_need ?_
     refine so_triv (Bool.not_or_self _) ?_
     refine so_triv (Bool.not_or_self _) ?_
     refine so_triv (Bool.not_or_self _) ?_
     refine so_split hE 2 rfl ?_ ?_
     ·exact so_next ((Ent.rn [0, 1] [1, 2, 3, 4, 5, 6, 11, 12, 15, 16] rfl rfl rfl rfl rfl))
     refine so_join hE 2 (let x104 := b.zs.getD (IntKind.i64.wrap (IntKind.i64.wrap (s33.2 * b.f) + s43.2.2)).toNat 0; let x105 := decide (s43.2.2 < b.f); fun (s46 : List UInt8 × Int) => ([(1, V.ptr 1 0 0), (2, V.str (#[] : Array UInt8).toList), (3, V.str s46.1), (4, V.int IntKind.i64 s33.2), (5, V.int IntKind.i64 s46.2), (6, V.int IntKind.i64 s43.2.2), (11, V.int IntKind.i64 s33.2), (12, V.bool (decide (0 ≤ s33.2))), (15, V.str s33.1), (16, V.bool !s33.1 == (#[] : Array UInt8).toList), (19, V.int IntKind.i64 s43.2.2), (20, V.ptr 1 0 0), (21, V.ptr 1 0 0), (22, V.int IntKind.i64 b.f), (23, V.bool (decide (s43.2.2 ≤ b.f))), (26, V.int IntKind.i64 s43.2.2), (27, V.ptr 1 0 0), (28, V.ptr 1 0 0), (29, V.int IntKind.i64 b.f), (30, V.bool x105), (31, V.bool x105), (44, V.bool (x105 && decide (x104 = 0))), (47, V.int IntKind.i64 s43.2.1), (48, V.bool (decide (0 < s43.2.1)))], [O.ints false IntKind.i8 b.zs, O.cells true [V.int IntKind.i64 b.f, V.int IntKind.i64 b.r, V.sl 0 0 b.zs.length none]])) rfl ?_ ?_ (fun s46 => ?_)
     ·refine so_need ?_
      refine so_need ?_
      exact so_nrm ((Ent.rn [0, 1] [1, 2, 3, 4, 5, 6, 11, 12, 15, 16, 19, 20, 21, 22, 23, 26, 27, 28, 29, 30, 31, 44, 47, 48] rfl rfl rfl rfl rfl))
     ·exact so_nrm ((Ent.rn [0, 1] [1, 2, 3, 4, 5, 6, 11, 12, 15, 16, 19, 20, 21, 22, 23, 26, 27, 28, 29, 30, 31, 44, 47, 48] rfl rfl rfl rfl rfl))
     refine so_join hE 2 (let x107 := b.zs.getD (IntKind.i64.wrap (IntKind.i64.wrap (s33.2 * b.f) + s43.2.2)).toNat 0; let x108 := decide (s43.2.2 < b.f); fun (s49 : List UInt8) => ([(1, V.ptr 1 0 0), (2, V.str (#[] : Array UInt8).toList), (3, V.str s49), (4, V.int IntKind.i64 s33.2), (5, V.int IntKind.i64 s46.2), (6, V.int IntKind.i64 s43.2.2), (11, V.int IntKind.i64 s33.2), (12, V.bool (decide (0 ≤ s33.2))), (15, V.str s33.1), (16, V.bool !s33.1 == (#[] : Array UInt8).toList), (19, V.int IntKind.i64 s43.2.2), (20, V.ptr 1 0 0), (21, V.ptr 1 0 0), (22, V.int IntKind.i64 b.f), (23, V.bool (decide (s43.2.2 ≤ b.f))), (26, V.int IntKind.i64 s43.2.2), (27, V.ptr 1 0 0), (28, V.ptr 1 0 0), (29, V.int IntKind.i64 b.f), (30, V.bool x108), (31, V.bool x108), (44, V.bool (x108 && decide (x107 = 0))), (47, V.int IntKind.i64 s43.2.1), (48, V.bool (decide (0 < s43.2.1))), (55, V.int IntKind.i64 s43.2.2), (56, V.ptr 1 0 0), (57, V.ptr 1 0 0), (58, V.int IntKind.i64 b.f), (59, V.bool x108)], [O.ints false IntKind.i8 b.zs, O.cells true [V.int IntKind.i64 b.f, V.int IntKind.i64 b.r, V.sl 0 0 b.zs.length none]])) rfl ?_ ?_ (fun s49 => ?_)
     ·refine so_need ?_
      refine so_as (pl rfl id) ?_
      refine so_need ?_
      exact so_nrm ((Ent.rn [0, 1] [1, 2, 3, 4, 5, 6, 11, 12, 15, 16, 19, 20, 21, 22, 23, 26, 27, 28, 29, 30, 31, 44, 47, 48, 55, 56, 57, 58, 59] rfl rfl rfl rfl rfl))
     ·exact so_nrm ((Ent.rn [0, 1] [1, 2, 3, 4, 5, 6, 11, 12, 15, 16, 19, 20, 21, 22, 23, 26, 27, 28, 29, 30, 31, 44, 47, 48, 55, 56, 57, 58, 59] rfl rfl rfl rfl rfl))
     exact so_next ((Ent.rn [0, 1] [1, 2, 3, 4, 5, 6, 11, 12, 15, 16] rfl rfl rfl rfl rfl))
    exact so_exit ((Ent.rn [0, 1] [1, 2, 3, 4, 5, 6, 11, 12, 15, 16, 19, 20, 21, 22, 23] rfl rfl rfl rfl rfl))
   exact so_next ((Ent.rn [0, 1] [1, 2, 3, 4] rfl rfl rfl rfl rfl))
  exact so_exit ((Ent.rn [0] [2, 3] rfl rfl rfl rfl rfl))
 exact so_ret (fin_bs [] (.inr rfl) rfl rfl rfl rfl rfl)
theorem c_btext_ok : CtOk (GGx kCa kDb) PP (91, c_btext) := by
 refine ct_mk Tryz.func91 (by kernel_rfl) rfl fun a0 h0 c0 v0 N0 e hc => ?_
 unfold c_btext at e
 split at e
 ·rename_i b_0 b_1 b_2n b_2
  obtain ⟨hl, r, hr, rfl, rfl⟩ := ret_ok e hc
  simp only [decide_eq_true_eq] at hl
  obtain rfl := hl
  exact btext_snd ⟨b_0, b_1, b_2⟩ hr
 ·cases e
end Go.Ab

set_option maxRecDepth 100000
set_option maxHeartbeats 4000000
namespace Go.Ab
open Go.Proofs
variable {kCa kDb : Bool}
def cast6_s1 : Int → List UInt8 × Int → Option (List UInt8 × Int ⊕ List UInt8 × Int × Bool ⊕ Int ⊕ Unit ⊕ Int) := fun (s27 : Int) => let x54 := (#[75, 81, 107, 113] : Array UInt8).toList; let x53 := Int.ofNat x54.length; fun (s33 : List UInt8 × Int) => let x58 := (s27.fdiv (2 ^ Min.min s33.2.toNat IntKind.i64.bits)).tmod 2; let x59 := decide (s33.2 < 4); let x60 := decide (0 ≤ s33.2); let x61 := IntKind.i64.wrap (s33.2 + 1); let x57 := List.take (x61.toNat - s33.2.toNat) (List.drop s33.2.toNat x54); let x56 := s33.1.length + x57.length; bif x59 then needO x60 (joinO (bif decide (x58 = 1) then needO (x60 && decide (s33.2 ≤ x61) && decide (x61 ≤ x53)) (needO (decide (x56 ≤ 4611686018427387904)) (some (Sum.inl (s33.1 ++ x57)))) else some (Sum.inl s33.1)) fun (s35 : List UInt8) => some (Sum.inl (s35, x61))) else some (Sum.inr (Sum.inl (s33.1, s33.2, x59)))
def cast6_s2 : List UInt8 → (Int → List UInt8 × Int → Option (List UInt8 × Int ⊕ List UInt8 × Int × Bool ⊕ Int ⊕ Unit ⊕ Int)) → Int → Option (Int ⊕ Unit ⊕ Int) := fun (s : List UInt8) (cast6_s1 : Int → List UInt8 × Int → Option (List UInt8 × Int ⊕ List UInt8 × Int × Bool ⊕ Int ⊕ Unit ⊕ Int)) (s27 : Int) => bif decide (s27 < 16) then loopO (cast6_s1 s27) (fun (s45 : List UInt8 × Int × Bool) => joinO (bif s45.1 == (#[] : Array UInt8).toList then some (Sum.inl (#[45] : Array UInt8).toList) else some (Sum.inl s45.1)) fun (s47 : List UInt8) => bif s47 == s then escO (escO (some s27)) else some (Sum.inl (IntKind.i64.wrap (s27 + 1)))) 1000000 ((#[] : Array UInt8).toList, 0) else some (Sum.inr (Sum.inl ()))
def cast6 (s : List UInt8) : Option (Int) := loopO (cast6_s2 s cast6_s1) (fun (_s52 : Unit) => some (-1)) 1000000 0
def cast6_V (R : Int) : V := .int .i64 R
def cast6_N (_R : Int) : List O := []
def c_cast6 : CF
 | [.str s_0], [] => retC true (cast6 s_0) 0 cast6_V cast6_N
 | _, _ => none
theorem cast6_snd (s : List UInt8) {r} (hr : cast6 s = some r) : FnSound (GGx kCa kDb) PP 143 [.str s] [] (cast6_V r) (cast6_N r) := by
 have hE := cutE (EE_ok (kCa := kCa) (kDb := kDb) (cts := []) (inl := []) trivial trivial)
 refine so_fn hE 2 Tryz.func143 rfl rfl cast6_V cast6_N hr ?_ rfl rfl
 refine so_loop hE 2 (fun (s27 : Int) => ([(0, V.str s), (2, V.int IntKind.i64 0), (3, V.int IntKind.i64 s27)], [])) (fun (s52 : Unit) => ([(2, V.int IntKind.i64 0)], [])) (.exit 0) ((Ent.rn [] [0, 2, 3] rfl rfl rfl rfl rfl)) (fun s27 => ?_) (fun s52 => ?_)
 ·refine so_split hE 2 rfl ?_ ?_
  ·refine so_loop hE 2 (fun (s33 : List UInt8 × Int) => ([(0, V.str s), (2, V.int IntKind.i64 0), (3, V.int IntKind.i64 s27), (4, V.str s33.1), (5, V.int IntKind.i64 s33.2), (6, V.int IntKind.i64 s27), (7, V.bool (decide (s27 < 16)))], [])) (fun (s45 : List UInt8 × Int × Bool) => ([(0, V.str s), (2, V.int IntKind.i64 0), (3, V.int IntKind.i64 s27), (4, V.str s45.1), (5, V.int IntKind.i64 s45.2.1), (6, V.int IntKind.i64 s27), (7, V.bool (decide (s27 < 16))), (10, V.int IntKind.i64 s45.2.1), (11, V.bool s45.2.2)], [])) (.exit 2) ((Ent.rn [] [0, 2, 3, 4, 5, 6, 7] rfl rfl rfl rfl rfl)) (fun s33 => ?_) (fun s45 => ?_)
   ·refine so_split hE 2 rfl ?_ ?_
    ·refine so_need ?_
     refine so_triv rfl ?_
     refine so_join hE 2 (let x74 := s27.fdiv (2 ^ Min.min s33.2.toNat IntKind.i64.bits); let x73 := x74.tmod 2; fun (s35 : List UInt8) => ([(0, V.str s), (2, V.int IntKind.i64 0), (3, V.int IntKind.i64 s27), (4, V.str s35), (5, V.int IntKind.i64 s33.2), (6, V.int IntKind.i64 s27), (7, V.bool (decide (s27 < 16))), (10, V.int IntKind.i64 s33.2), (11, V.bool (decide (s33.2 < 4))), (14, V.int IntKind.i64 s27), (15, V.int IntKind.i64 s33.2), (16, V.int IntKind.i64 x74), (17, V.int IntKind.i64 x73), (18, V.bool (decide (x73 = 1)))], [])) rfl ?_ ?_ (fun s35 => ?_)
     ·refine so_need ?_
      refine so_need ?_
      exact so_nrm ((Ent.rn [] [0, 2, 3, 4, 5, 6, 7, 10, 11, 14, 15, 16, 17, 18] rfl rfl rfl rfl rfl))
     ·exact so_nrm ((Ent.rn [] [0, 2, 3, 4, 5, 6, 7, 10, 11, 14, 15, 16, 17, 18] rfl rfl rfl rfl rfl))
     exact so_next ((Ent.rn [] [0, 2, 3, 4, 5, 6, 7] rfl rfl rfl rfl rfl))
    exact so_exit ((Ent.rn [] [0, 2, 3, 4, 5, 6, 7, 10, 11] rfl rfl rfl rfl rfl))
   refine so_join hE 2 (fun (s47 : List UInt8) => ([(0, V.str s), (2, V.int IntKind.i64 0), (3, V.int IntKind.i64 s27), (4, V.str s47), (5, V.int IntKind.i64 s45.2.1), (6, V.int IntKind.i64 s27), (7, V.bool (decide (s27 < 16))), (10, V.int IntKind.i64 s45.2.1), (11, V.bool s45.2.2), (25, V.str s45.1), (26, V.bool (s45.1 == (#[] : Array UInt8).toList))], [])) rfl ?_ ?_ (fun s47 => ?_)
   ·exact so_nrm ((Ent.rn [] [0, 2, 3, 4, 5, 6, 7, 10, 11, 25, 26] rfl rfl rfl rfl rfl))
   ·exact so_nrm ((Ent.rn [] [0, 2, 3, 4, 5, 6, 7, 10, 11, 25, 26] rfl rfl rfl rfl rfl))
   refine so_split hE 2 rfl ?_ ?_
   ·refine so_out (by simp) (so_out1 ?_)
    exact so_ret (fin_bs [] (.inr rfl) rfl rfl rfl rfl rfl)
   exact so_next ((Ent.rn [] [0, 2, 3] rfl rfl rfl rfl rfl))
  exact so_exit ((Ent.rn [] [2] rfl rfl rfl rfl rfl))
 exact so_ret (fin_bs [] (.inr rfl) rfl rfl rfl rfl rfl)
theorem c_cast6_ok : CtOk (GGx kCa kDb) PP (143, c_cast6) := by
 refine ct_mk Tryz.func143 (by kernel_rfl) rfl fun a0 h0 c0 v0 N0 e hc => ?_
 unfold c_cast6 at e
 split at e
 ·rename_i s_0
  obtain ⟨hl, r, hr, rfl, rfl⟩ := ret_ok e hc
  exact cast6_snd s_0 hr
 ·cases e
end Go.Ab

set_option maxRecDepth 100000
set_option maxHeartbeats 4000000
namespace Go.Ab
open Go.Proofs
variable {kCa kDb : Bool}
end Go.Ab
