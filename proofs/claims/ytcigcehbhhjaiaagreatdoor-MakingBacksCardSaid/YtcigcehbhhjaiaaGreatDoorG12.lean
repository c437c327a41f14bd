/- Contracts of the functions that the laws reach, and plain laws of what they compute (text G12); no condition. -/
import Derived.Test.YtcigcehbhhjaiaaGreatDoorG4
import Derived.Test.YtcigcehbhhjaiaaGreatDoorG11
import Derived.Test.YtcigcehbhhjaiaaGreatDoorG10
set_option maxRecDepth 100000
set_option maxHeartbeats 4000000
namespace Go.Ab
open Go.Proofs
variable {kCa kDb : Bool}
instance : Inhabited Psn := ⟨⟨0, 0, [], false, 0, 0, 0, 0⟩⟩
def lawBacks_s1 : Psn × List (List Int) × Int × Int → List (List Int) → List Int × Int × Int × Bool × Int × Int × Int × Int × Bool × Int → Option (List Int × Int × Int × Bool × Int × Int × Int × Int × Bool × Int ⊕ List Int × Int × Int × Bool × Int × Int × Int × Int × Bool ⊕ Bool) := fun (y5 : Psn × List (List Int) × Int × Int) (s21 : List (List Int)) => let x89 := Psn.mk 0 0 [] false 0 0 0 0; let x90 := Int.ofNat y5.2.1.length; fun (s44 : List Int × Int × Int × Bool × Int × Int × Int × Int × Bool × Int) => let x97 := s44.2.2.2.2.2.2.2.2.2; let x98 := s44.2.2.2.2.2.2.2.2.1; let x99 := s44.2.2.2.2.2.2.2.1; let x100 := s44.2.2.2.2.2.2.1; let x101 := s44.2.2.2.2.2.1; let x102 := s44.2.2.2.2.1; let x103 := s44.2.2.2.1; let x104 := s44.2.2.1; let x105 := s44.2.1; let x106 := s44.1; let x94 := Psn.mk x105 x104 (List.take x106.length (List.drop 0 x106)) x103 x102 x101 x100 x99; let x95 := decide (0 ≤ x97); let x96 := s21.getD x97.toNat []; let x93 := Und.mk (Mov.mk (x96.getD 0 0) (x96.getD 1 0) (x96.getD 2 0)) (x96.getD 3 0) (x96.getD 4 0) (x96.getD 5 0) (x96.getD 6 0) (x96.getD 7 0) (x96.getD 8 0); let x92 := ((refUnmake x94 x93).getD (x89, false)).fst; bif x95 && x98 then joinO (needO (x95 && decide (x97 < x90)) (callO (refUnmake x94 x93) Inhabited.default fun (y45 : Psn × Bool) => some (Sum.inl ()))) fun (s55 : Unit) => some (Sum.inl (x92.zs, x92.f, x92.r, x92.bl, x92.ca, x92.pa, x92.ha, x92.fu, ((refUnmake x94 x93).getD (x89, false)).snd, IntKind.i64.wrap (x97 - 1))) else some (Sum.inr (Sum.inl (x106, x105, x104, x103, x102, x101, x100, x99, x98)))
def lawBacks (p : Psn) (l : List (List Int)) (which : Int) (what : Int) : Option (Bool) := let x111 := Psn.mk 0 0 [] false 0 0 0 0; let x114 := List.take p.zs.length (List.drop 0 p.zs); let x112 := Psn.mk p.f p.r x114 p.bl p.ca p.pa p.ha p.fu; let x113 := x114.length; let x110 := decide (x113 ≤ 64); callO (small8 x112) false fun (y4 : Bool) => bif !y4 || decide (30 < Int.ofNat l.length) then some true else callO (refPlay x112 (List.take l.length (List.drop 0 l))) (x111, [], 0, 0) fun (y5 : Psn × List (List Int) × Int × Int) => let x119 := List.take y5.1.zs.length (List.drop 0 y5.1.zs); let x123 := y5.2.2.2; let x125 := y5.2.1; let x118 := x119.length; let x124 := x125.length; let x122 := Int.ofNat x124; let x121 := (IntKind.i64.wrap which).tmod x122; let x120 := x121.toNat; let x117 := x125.getD x120 []; bif !decide (x123 = 0) then callO (back0 x112 Nl.mk) (x111, 0) fun (y7 : Psn × Int) => let x130 := List.take y7.1.zs.length (List.drop 0 y7.1.zs); let x128 := Psn.mk y7.1.f y7.1.r x130 y7.1.bl y7.1.ca y7.1.pa y7.1.ha y7.1.fu; let x129 := x130.length; let x127 := decide (x129 ≤ 64); needO x110 (bif !validL x112 then needO x127 (some (equalB x128 x111 && decide (y7.2 = 2) && true)) else needO (x127 && x110) (some (equalB x128 x112 && decide (y7.2 = 0) && true))) else joinO (bif decide (0 < x122) then needO (!decide (x122 = 0)) (needO (decide (0 ≤ x121) && decide (x121 < x122)) (joinO (bif decide (what.tmod 7 = 0) then some (Sum.inl (x125.set x120 (x117.set 3 (IntKind.i8.wrap (5 - x117.getD 3 0))))) else joinO (bif decide (what.tmod 7 = 1) then some (Sum.inl (x125.set x120 (x117.set 4 (IntKind.i64.wrap (x117.getD 4 0 + 1))))) else joinO (bif decide (what.tmod 7 = 2) then some (Sum.inl (x125.set x120 (x117.set 5 (band Go.BinOp.xor IntKind.u8 (x117.getD 5 0) 3)))) else joinO (bif decide (what.tmod 7 = 3) then some (Sum.inl (x125.set x120 (x117.set 6 (IntKind.i64.wrap (x117.getD 6 0 + 1))))) else joinO (bif decide (what.tmod 7 = 4) then some (Sum.inl (x125.set x120 (x117.set 7 (IntKind.i64.wrap (x117.getD 7 0 + 1))))) else joinO (bif decide (what.tmod 7 = 5) then some (Sum.inl (x125.set x120 (x117.set 8 (IntKind.i64.wrap (x117.getD 8 0 + 1))))) else some (Sum.inl x125)) fun (s9 : List (List Int)) => some (Sum.inl s9)) fun (s11 : List (List Int)) => some (Sum.inl s11)) fun (s13 : List (List Int)) => some (Sum.inl s13)) fun (s15 : List (List Int)) => some (Sum.inl s15)) fun (s17 : List (List Int)) => some (Sum.inl s17)) fun (s19 : List (List Int)) => some (Sum.inl s19))) else some (Sum.inl x125)) fun (s21 : List (List Int)) => needO (decide (x118 ≤ 64)) (loopO (lawBacks_s1 y5 s21) (fun (s87 : List Int × Int × Int × Bool × Int × Int × Int × Int × Bool) => let x141 := s87.1; let x140 := List.take x141.length (List.drop 0 x141); let x139 := x140.length; needO (decide (x124 = (List.take x124 (List.drop 0 s21)).length)) (callO (back (Psn.mk y5.1.f y5.1.r x119 y5.1.bl y5.1.ca y5.1.pa y5.1.ha y5.1.fu) (List.take x124 (List.drop 0 s21))) (x111, 0) fun (y88 : Psn × Int) => let x146 := List.take y88.1.zs.length (List.drop 0 y88.1.zs); let x144 := Psn.mk y88.1.f y88.1.r x146 y88.1.bl y88.1.ca y88.1.pa y88.1.ha y88.1.fu; let x145 := x146.length; let x143 := decide (x145 ≤ 64); bif !s87.2.2.2.2.2.2.2.2 then needO x143 (some (equalB x144 x111 && decide (y88.2 = 10) && true)) else needO (x143 && decide (x139 ≤ 64)) (some (equalB x144 (Psn.mk s87.2.1 s87.2.2.1 x140 s87.2.2.2.1 s87.2.2.2.2.1 s87.2.2.2.2.2.1 s87.2.2.2.2.2.2.1 s87.2.2.2.2.2.2.2.1) && decide (y88.2 = 0) && true)))) 1000000 (x119, y5.1.f, y5.1.r, y5.1.bl, y5.1.ca, y5.1.pa, y5.1.ha, y5.1.fu, true, IntKind.i64.wrap (x122 - 1)))
def lawBacks_V (R : Bool) : V := Bb R
def lawBacks_N (R : Bool) : List O := []
theorem lawBacks_snd (p : Psn) (l : List (List Int)) (which : Int) (what : Int) {r} (hr : lawBacks p l which what = some r) : FnSound (GGx true false) PP 9 [.agg [.int .i64 p.f, .int .i64 p.r, .sl 0 0 p.zs.length none, Bb p.bl, .int .u8 p.ca, .int .i64 p.pa, .int .i64 p.ha, .int .i64 p.fu], .sl 1 0 l.length none, .int .u8 which, .int .u8 what] [.ints false .i8 p.zs, .rows false [.i64, .i64, .i8] l] (lawBacks_V r) (lawBacks_N r) := by
 have hE := cutE (EE_ok (kCa := true) (kDb := false) (cts := [(12, c_small8), (13, c_known8), (14, c_rcopy), (17, c_requalX), (19, c_refPlay), (25, c_rvalid), (38, c_refUnmake), (39, c_backX)]) (inl := []) ⟨c_small8_ok, c_known8_ok, c_rcopy_ok, c_requalX_ok, c_refPlay_ok, c_rvalid_ok, c_refUnmake_ok, c_backX_ok, trivial⟩ trivial)
 refine so_fn hE 2 Tryz.func9 rfl rfl lawBacks_V lawBacks_N hr ?_ rfl rfl
 unfold lawBacks
 refine so_callas (pl (decide_eq_true (win_len rfl)) id) ?_
 refine so_triv (Bool.not_or_self _) ?_
 refine so_triv (Bool.not_or_self _) ?_
 refine so_triv (Bool.or_not_self _) ?_
 refine so_split hE 2 rfl ?_ ?_
 ·refine so_triv rfl ?_
  exact so_ret (fin_bs [] (.inr rfl) rfl rfl rfl rfl rfl)
 refine so_callas (pl (pa (decide_eq_true (win_len rfl)) (decide_eq_true (win_len rfl))) id) ?_
 refine so_split hE 2 rfl ?_ ?_
 ·refine so_callas (pl (decide_eq_true (win_len rfl)) id) ?_
  refine so_as (pl (decide_eq_true (win_len rfl)) id) ?_
  refine so_split hE 2 rfl ?_ ?_
  ·refine so_as (pl (decide_eq_true (win_len rfl)) id) ?_
   refine so_triv (Bool.not_or_self _) ?_
   refine so_triv (Bool.not_or_self _) ?_
   refine so_triv (pg rfl) ?_
   refine so_triv (Bool.not_or_self _) ?_
   exact so_ret (fin_bs [] (.inr rfl) rfl rfl rfl rfl rfl)
  refine so_as (pb (pr (pl (decide_eq_true (win_len rfl)) id) (decide_eq_true (win_len rfl))) id) ?_
  refine so_triv (Bool.not_or_self _) ?_
  refine so_triv (Bool.not_or_self _) ?_
  refine so_triv (pg rfl) ?_
  refine so_triv (Bool.not_or_self _) ?_
  exact so_ret (fin_bs [] (.inr rfl) rfl rfl rfl rfl rfl)
 refine so_join hE 2 (let x149 := Psn.mk 0 0 [] false 0 0 0 0; let x150 := Psn.mk p.f p.r (List.take p.zs.length (List.drop 0 p.zs)) p.bl p.ca p.pa p.ha p.fu; let x151 := List.take l.length (List.drop 0 l); let x148 := ((refPlay x150 x151).getD (x149, [], 0, 0)).fst; let x147 := x148.zs; fun (s21 : List (List Int)) => ([(8, V.bool false), (9, V.ptr 2 0 0), (10, V.sl 3 0 ((refPlay x150 x151).getD (x149, [], 0, 0)).snd.1.length none)], [O.ints false IntKind.i8 p.zs, O.rows false [IntKind.i64, IntKind.i64, IntKind.i8] l, O.cells true [V.int IntKind.i64 x148.f, V.int IntKind.i64 x148.r, V.sl 4 0 x147.length none, V.bool x148.bl, V.int IntKind.u8 x148.ca, V.int IntKind.i64 x148.pa, V.int IntKind.i64 x148.ha, V.int IntKind.i64 x148.fu], O.rows true [IntKind.i64, IntKind.i64, IntKind.i8, IntKind.i8, IntKind.i64, IntKind.u8, IntKind.i64, IntKind.i64, IntKind.i64] s21, O.ints true IntKind.i8 x147])) rfl ?_ ?_ (fun s21 => ?_)
 ·refine so_need ?_
  refine so_need ?_
  refine so_triv rfl ?_
  refine so_join hE 2 (let x155 := Psn.mk 0 0 [] false 0 0 0 0; let x156 := Psn.mk p.f p.r (List.take p.zs.length (List.drop 0 p.zs)) p.bl p.ca p.pa p.ha p.fu; let x157 := List.take l.length (List.drop 0 l); let x154 := ((refPlay x156 x157).getD (x155, [], 0, 0)).fst; let x153 := x154.zs; fun (s19 : List (List Int)) => ([(8, V.bool false), (9, V.ptr 2 0 0), (10, V.sl 3 0 ((refPlay x156 x157).getD (x155, [], 0, 0)).snd.1.length none)], [O.ints false IntKind.i8 p.zs, O.rows false [IntKind.i64, IntKind.i64, IntKind.i8] l, O.cells true [V.int IntKind.i64 x154.f, V.int IntKind.i64 x154.r, V.sl 4 0 x153.length none, V.bool x154.bl, V.int IntKind.u8 x154.ca, V.int IntKind.i64 x154.pa, V.int IntKind.i64 x154.ha, V.int IntKind.i64 x154.fu], O.rows true [IntKind.i64, IntKind.i64, IntKind.i8, IntKind.i8, IntKind.i64, IntKind.u8, IntKind.i64, IntKind.i64, IntKind.i64] s19, O.ints true IntKind.i8 x153])) rfl ?_ ?_ (fun s19 => ?_)
  ·exact so_nrm ((Ent.rn [0, 1, 5, 4, 3] [8, 9, 10] rfl rfl rfl rfl rfl))
  ·refine so_join hE 2 (let x161 := Psn.mk 0 0 [] false 0 0 0 0; let x162 := Psn.mk p.f p.r (List.take p.zs.length (List.drop 0 p.zs)) p.bl p.ca p.pa p.ha p.fu; let x163 := List.take l.length (List.drop 0 l); let x160 := ((refPlay x162 x163).getD (x161, [], 0, 0)).fst; let x159 := x160.zs; fun (s17 : List (List Int)) => ([(8, V.bool false), (9, V.ptr 2 0 0), (10, V.sl 3 0 ((refPlay x162 x163).getD (x161, [], 0, 0)).snd.1.length none)], [O.ints false IntKind.i8 p.zs, O.rows false [IntKind.i64, IntKind.i64, IntKind.i8] l, O.cells true [V.int IntKind.i64 x160.f, V.int IntKind.i64 x160.r, V.sl 4 0 x159.length none, V.bool x160.bl, V.int IntKind.u8 x160.ca, V.int IntKind.i64 x160.pa, V.int IntKind.i64 x160.ha, V.int IntKind.i64 x160.fu], O.rows true [IntKind.i64, IntKind.i64, IntKind.i8, IntKind.i8, IntKind.i64, IntKind.u8, IntKind.i64, IntKind.i64, IntKind.i64] s17, O.ints true IntKind.i8 x159])) rfl ?_ ?_ (fun s17 => ?_)
   ·exact so_nrm ((Ent.rn [0, 1, 5, 4, 3] [8, 9, 10] rfl rfl rfl rfl rfl))
   ·refine so_join hE 2 (let x167 := Psn.mk 0 0 [] false 0 0 0 0; let x168 := Psn.mk p.f p.r (List.take p.zs.length (List.drop 0 p.zs)) p.bl p.ca p.pa p.ha p.fu; let x169 := List.take l.length (List.drop 0 l); let x166 := ((refPlay x168 x169).getD (x167, [], 0, 0)).fst; let x165 := x166.zs; fun (s15 : List (List Int)) => ([(8, V.bool false), (9, V.ptr 2 0 0), (10, V.sl 3 0 ((refPlay x168 x169).getD (x167, [], 0, 0)).snd.1.length none)], [O.ints false IntKind.i8 p.zs, O.rows false [IntKind.i64, IntKind.i64, IntKind.i8] l, O.cells true [V.int IntKind.i64 x166.f, V.int IntKind.i64 x166.r, V.sl 4 0 x165.length none, V.bool x166.bl, V.int IntKind.u8 x166.ca, V.int IntKind.i64 x166.pa, V.int IntKind.i64 x166.ha, V.int IntKind.i64 x166.fu], O.rows true [IntKind.i64, IntKind.i64, IntKind.i8, IntKind.i8, IntKind.i64, IntKind.u8, IntKind.i64, IntKind.i64, IntKind.i64] s15, O.ints true IntKind.i8 x165])) rfl ?_ ?_ (fun s15 => ?_)
    ·exact so_nrm ((Ent.rn [0, 1, 5, 4, 3] [8, 9, 10] rfl rfl rfl rfl rfl))
    ·refine so_join hE 2 (let x173 := Psn.mk 0 0 [] false 0 0 0 0; let x174 := Psn.mk p.f p.r (List.take p.zs.length (List.drop 0 p.zs)) p.bl p.ca p.pa p.ha p.fu; let x175 := List.take l.length (List.drop 0 l); let x172 := ((refPlay x174 x175).getD (x173, [], 0, 0)).fst; let x171 := x172.zs; fun (s13 : List (List Int)) => ([(8, V.bool false), (9, V.ptr 2 0 0), (10, V.sl 3 0 ((refPlay x174 x175).getD (x173, [], 0, 0)).snd.1.length none)], [O.ints false IntKind.i8 p.zs, O.rows false [IntKind.i64, IntKind.i64, IntKind.i8] l, O.cells true [V.int IntKind.i64 x172.f, V.int IntKind.i64 x172.r, V.sl 4 0 x171.length none, V.bool x172.bl, V.int IntKind.u8 x172.ca, V.int IntKind.i64 x172.pa, V.int IntKind.i64 x172.ha, V.int IntKind.i64 x172.fu], O.rows true [IntKind.i64, IntKind.i64, IntKind.i8, IntKind.i8, IntKind.i64, IntKind.u8, IntKind.i64, IntKind.i64, IntKind.i64] s13, O.ints true IntKind.i8 x171])) rfl ?_ ?_ (fun s13 => ?_)
     ·exact so_nrm ((Ent.rn [0, 1, 5, 4, 3] [8, 9, 10] rfl rfl rfl rfl rfl))
     ·refine so_join hE 2 (let x179 := Psn.mk 0 0 [] false 0 0 0 0; let x180 := Psn.mk p.f p.r (List.take p.zs.length (List.drop 0 p.zs)) p.bl p.ca p.pa p.ha p.fu; let x181 := List.take l.length (List.drop 0 l); let x178 := ((refPlay x180 x181).getD (x179, [], 0, 0)).fst; let x177 := x178.zs; fun (s11 : List (List Int)) => ([(8, V.bool false), (9, V.ptr 2 0 0), (10, V.sl 3 0 ((refPlay x180 x181).getD (x179, [], 0, 0)).snd.1.length none)], [O.ints false IntKind.i8 p.zs, O.rows false [IntKind.i64, IntKind.i64, IntKind.i8] l, O.cells true [V.int IntKind.i64 x178.f, V.int IntKind.i64 x178.r, V.sl 4 0 x177.length none, V.bool x178.bl, V.int IntKind.u8 x178.ca, V.int IntKind.i64 x178.pa, V.int IntKind.i64 x178.ha, V.int IntKind.i64 x178.fu], O.rows true [IntKind.i64, IntKind.i64, IntKind.i8, IntKind.i8, IntKind.i64, IntKind.u8, IntKind.i64, IntKind.i64, IntKind.i64] s11, O.ints true IntKind.i8 x177])) rfl ?_ ?_ (fun s11 => ?_)
      ·exact so_nrm ((Ent.rn [0, 1, 5, 4, 3] [8, 9, 10] rfl rfl rfl rfl rfl))
      ·refine so_join hE 2 (let x185 := Psn.mk 0 0 [] false 0 0 0 0; let x186 := Psn.mk p.f p.r (List.take p.zs.length (List.drop 0 p.zs)) p.bl p.ca p.pa p.ha p.fu; let x187 := List.take l.length (List.drop 0 l); let x184 := ((refPlay x186 x187).getD (x185, [], 0, 0)).fst; let x183 := x184.zs; fun (s9 : List (List Int)) => ([(8, V.bool false), (9, V.ptr 2 0 0), (10, V.sl 3 0 ((refPlay x186 x187).getD (x185, [], 0, 0)).snd.1.length none)], [O.ints false IntKind.i8 p.zs, O.rows false [IntKind.i64, IntKind.i64, IntKind.i8] l, O.cells true [V.int IntKind.i64 x184.f, V.int IntKind.i64 x184.r, V.sl 4 0 x183.length none, V.bool x184.bl, V.int IntKind.u8 x184.ca, V.int IntKind.i64 x184.pa, V.int IntKind.i64 x184.ha, V.int IntKind.i64 x184.fu], O.rows true [IntKind.i64, IntKind.i64, IntKind.i8, IntKind.i8, IntKind.i64, IntKind.u8, IntKind.i64, IntKind.i64, IntKind.i64] s9, O.ints true IntKind.i8 x183])) rfl ?_ ?_ (fun s9 => ?_)
       ·exact so_nrm ((Ent.rn [0, 1, 5, 4, 3] [8, 9, 10] rfl rfl rfl rfl rfl))
       ·exact so_nrm ((Ent.rn [0, 1, 5, 4, 3] [8, 9, 10] rfl rfl rfl rfl rfl))
       exact so_nrm ((Ent.rn [0, 1, 2, 3, 4] [8, 9, 10] rfl rfl rfl rfl rfl))
      exact so_nrm ((Ent.rn [0, 1, 2, 3, 4] [8, 9, 10] rfl rfl rfl rfl rfl))
     exact so_nrm ((Ent.rn [0, 1, 2, 3, 4] [8, 9, 10] rfl rfl rfl rfl rfl))
    exact so_nrm ((Ent.rn [0, 1, 2, 3, 4] [8, 9, 10] rfl rfl rfl rfl rfl))
   exact so_nrm ((Ent.rn [0, 1, 2, 3, 4] [8, 9, 10] rfl rfl rfl rfl rfl))
  exact so_nrm ((Ent.rn [0, 1, 2, 3, 4] [8, 9, 10] rfl rfl rfl rfl rfl))
 ·exact so_nrm ((Ent.rn [0, 1, 5, 4, 3] [8, 9, 10] rfl rfl rfl rfl rfl))
 refine so_as (pl (decide_eq_true (win_len rfl)) id) ?_
 refine so_loop hE 2 (let x191 := Psn.mk 0 0 [] false 0 0 0 0; let x192 := Psn.mk p.f p.r (List.take p.zs.length (List.drop 0 p.zs)) p.bl p.ca p.pa p.ha p.fu; let x193 := List.take l.length (List.drop 0 l); let x190 := ((refPlay x192 x193).getD (x191, [], 0, 0)).fst; let x189 := x190.zs; fun (s44 : List Int × Int × Int × Bool × Int × Int × Int × Int × Bool × Int) => let x195 := s44.1; ([(8, V.bool false), (9, V.ptr 2 0 0), (10, V.sl 3 0 ((refPlay x192 x193).getD (x191, [], 0, 0)).snd.1.length none), (16, V.ptr 4 0 0), (17, V.bool s44.2.2.2.2.2.2.2.2.1), (18, V.int IntKind.i64 s44.2.2.2.2.2.2.2.2.2)], [O.ints false IntKind.i8 p.zs, O.rows false [IntKind.i64, IntKind.i64, IntKind.i8] l, O.cells true [V.int IntKind.i64 x190.f, V.int IntKind.i64 x190.r, V.sl 5 0 x189.length none, V.bool x190.bl, V.int IntKind.u8 x190.ca, V.int IntKind.i64 x190.pa, V.int IntKind.i64 x190.ha, V.int IntKind.i64 x190.fu], O.rows true [IntKind.i64, IntKind.i64, IntKind.i8, IntKind.i8, IntKind.i64, IntKind.u8, IntKind.i64, IntKind.i64, IntKind.i64] s21, O.cells true [V.int IntKind.i64 s44.2.1, V.int IntKind.i64 s44.2.2.1, V.sl 6 0 x195.length none, V.bool s44.2.2.2.1, V.int IntKind.u8 s44.2.2.2.2.1, V.int IntKind.i64 s44.2.2.2.2.2.1, V.int IntKind.i64 s44.2.2.2.2.2.2.1, V.int IntKind.i64 s44.2.2.2.2.2.2.2.1], O.ints true IntKind.i8 x189, O.ints true IntKind.i8 x195])) (let x198 := Psn.mk 0 0 [] false 0 0 0 0; let x199 := Psn.mk p.f p.r (List.take p.zs.length (List.drop 0 p.zs)) p.bl p.ca p.pa p.ha p.fu; let x200 := List.take l.length (List.drop 0 l); let x197 := ((refPlay x199 x200).getD (x198, [], 0, 0)).fst; let x196 := x197.zs; fun (s87 : List Int × Int × Int × Bool × Int × Int × Int × Int × Bool) => let x202 := s87.1; ([(8, V.bool false), (9, V.ptr 2 0 0), (10, V.sl 3 0 ((refPlay x199 x200).getD (x198, [], 0, 0)).snd.1.length none), (16, V.ptr 4 0 0), (17, V.bool s87.2.2.2.2.2.2.2.2)], [O.ints false IntKind.i8 p.zs, O.rows false [IntKind.i64, IntKind.i64, IntKind.i8] l, O.cells true [V.int IntKind.i64 x197.f, V.int IntKind.i64 x197.r, V.sl 5 0 x196.length none, V.bool x197.bl, V.int IntKind.u8 x197.ca, V.int IntKind.i64 x197.pa, V.int IntKind.i64 x197.ha, V.int IntKind.i64 x197.fu], O.rows true [IntKind.i64, IntKind.i64, IntKind.i8, IntKind.i8, IntKind.i64, IntKind.u8, IntKind.i64, IntKind.i64, IntKind.i64] s21, O.cells true [V.int IntKind.i64 s87.2.1, V.int IntKind.i64 s87.2.2.1, V.sl 6 0 x202.length none, V.bool s87.2.2.2.1, V.int IntKind.u8 s87.2.2.2.2.1, V.int IntKind.i64 s87.2.2.2.2.2.1, V.int IntKind.i64 s87.2.2.2.2.2.2.1, V.int IntKind.i64 s87.2.2.2.2.2.2.2.1], O.ints true IntKind.i8 x196, O.ints true IntKind.i8 x202])) (.exit 1) ((Ent.rn [0, 1, 2, 3, 6, 4, 5] [8, 9, 10, 16, 17, 18] rfl rfl rfl rfl rfl)) (fun s44 => ?_) (fun s87 => ?_)
 ·refine so_triv (Bool.not_or_self _) ?_
  refine so_split hE 2 rfl ?_ ?_
  ·refine so_any hE 2 (let x210 := s44.2.2.2.2.2.2.2.2.2; let x211 := Psn.mk 0 0 [] false 0 0 0 0; let x212 := Psn.mk p.f p.r (List.take p.zs.length (List.drop 0 p.zs)) p.bl p.ca p.pa p.ha p.fu; let x213 := s44.1; let x214 := List.take l.length (List.drop 0 l); let x206 := Psn.mk s44.2.1 s44.2.2.1 (List.take x213.length (List.drop 0 x213)) s44.2.2.2.1 s44.2.2.2.2.1 s44.2.2.2.2.2.1 s44.2.2.2.2.2.2.1 s44.2.2.2.2.2.2.2.1; let x208 := ((refPlay x212 x214).getD (x211, [], 0, 0)).fst; let x209 := s21.getD x210.toNat []; let x205 := Und.mk (Mov.mk (x209.getD 0 0) (x209.getD 1 0) (x209.getD 2 0)) (x209.getD 3 0) (x209.getD 4 0) (x209.getD 5 0) (x209.getD 6 0) (x209.getD 7 0) (x209.getD 8 0); let x207 := x208.zs; let x204 := ((refUnmake x206 x205).getD (x211, false)).fst; let x203 := x204.zs; fun (s55 : Unit) => ([(8, V.bool false), (9, V.ptr 2 0 0), (10, V.sl 3 0 ((refPlay x212 x214).getD (x211, [], 0, 0)).snd.1.length none), (16, V.ptr 4 0 0), (17, V.bool ((refUnmake x206 x205).getD (x211, false)).snd), (18, V.int IntKind.i64 x210)], [O.ints false IntKind.i8 p.zs, O.rows false [IntKind.i64, IntKind.i64, IntKind.i8] l, O.cells true [V.int IntKind.i64 x208.f, V.int IntKind.i64 x208.r, V.sl 5 0 x207.length none, V.bool x208.bl, V.int IntKind.u8 x208.ca, V.int IntKind.i64 x208.pa, V.int IntKind.i64 x208.ha, V.int IntKind.i64 x208.fu], O.rows true [IntKind.i64, IntKind.i64, IntKind.i8, IntKind.i8, IntKind.i64, IntKind.u8, IntKind.i64, IntKind.i64, IntKind.i64] s21, O.cells true [V.int IntKind.i64 x204.f, V.int IntKind.i64 x204.r, V.sl 6 0 x203.length none, V.bool x204.bl, V.int IntKind.u8 x204.ca, V.int IntKind.i64 x204.pa, V.int IntKind.i64 x204.ha, V.int IntKind.i64 x204.fu], O.ints true IntKind.i8 x207, O.ints true IntKind.i8 x203])) ?_ (fun s55 => ?_)
   ·refine so_both ?_ ?_
    ·refine so_both ?_ ?_
     ·refine so_need ?_
      refine so_callas (pl (decide_eq_true (win_len rfl)) id) ?_
      refine so_both ?_ ?_
      ·refine so_both ?_ ?_
       ·exact so_nrm ((Ent.rn [0, 1, 2, 3, 4, 5, 7] [8, 9, 10, 16, 17, 18] rfl rfl rfl rfl rfl))
       exact so_nrm ((Ent.rn [0, 1, 2, 3, 4, 5, 7] [8, 9, 10, 16, 17, 18] rfl rfl rfl rfl rfl))
      exact so_nrm ((Ent.rn [0, 1, 2, 3, 4, 5, 7] [8, 9, 10, 16, 17, 18] rfl rfl rfl rfl rfl))
     refine so_need ?_
     refine so_callas (pl (decide_eq_true (win_len rfl)) id) ?_
     refine so_both ?_ ?_
     ·refine so_both ?_ ?_
      ·exact so_nrm ((Ent.rn [0, 1, 2, 3, 4, 5, 7] [8, 9, 10, 16, 17, 18] rfl rfl rfl rfl rfl))
      exact so_nrm ((Ent.rn [0, 1, 2, 3, 4, 5, 7] [8, 9, 10, 16, 17, 18] rfl rfl rfl rfl rfl))
     exact so_nrm ((Ent.rn [0, 1, 2, 3, 4, 5, 7] [8, 9, 10, 16, 17, 18] rfl rfl rfl rfl rfl))
    refine so_both ?_ ?_
    ·refine so_both ?_ ?_
     ·refine so_need ?_
      refine so_callas (pl (decide_eq_true (win_len rfl)) id) ?_
      refine so_both ?_ ?_
      ·refine so_both ?_ ?_
       ·exact so_nrm ((Ent.rn [0, 1, 2, 3, 4, 5, 7] [8, 9, 10, 16, 17, 18] rfl rfl rfl rfl rfl))
       exact so_nrm ((Ent.rn [0, 1, 2, 3, 4, 5, 7] [8, 9, 10, 16, 17, 18] rfl rfl rfl rfl rfl))
      exact so_nrm ((Ent.rn [0, 1, 2, 3, 4, 5, 7] [8, 9, 10, 16, 17, 18] rfl rfl rfl rfl rfl))
     refine so_both ?_ ?_
     ·refine so_need ?_
      refine so_callas (pl (decide_eq_true (win_len rfl)) id) ?_
      refine so_both ?_ ?_
      ·refine so_both ?_ ?_
       ·exact so_nrm ((Ent.rn [0, 1, 2, 3, 4, 5, 7] [8, 9, 10, 16, 17, 18] rfl rfl rfl rfl rfl))
       exact so_nrm ((Ent.rn [0, 1, 2, 3, 4, 5, 7] [8, 9, 10, 16, 17, 18] rfl rfl rfl rfl rfl))
      exact so_nrm ((Ent.rn [0, 1, 2, 3, 4, 5, 7] [8, 9, 10, 16, 17, 18] rfl rfl rfl rfl rfl))
     refine so_need ?_
     refine so_both ?_ ?_
     ·refine so_callas (pl (decide_eq_true (win_len rfl)) id) ?_
      refine so_both ?_ ?_
      ·refine so_both ?_ ?_
       ·exact so_nrm ((Ent.rn [0, 1, 2, 3, 4, 5, 7] [8, 9, 10, 16, 17, 18] rfl rfl rfl rfl rfl))
       exact so_nrm ((Ent.rn [0, 1, 2, 3, 4, 5, 7] [8, 9, 10, 16, 17, 18] rfl rfl rfl rfl rfl))
      exact so_nrm ((Ent.rn [0, 1, 2, 3, 4, 5, 7] [8, 9, 10, 16, 17, 18] rfl rfl rfl rfl rfl))
     refine so_callas (pl (decide_eq_true (win_len rfl)) id) ?_
     refine so_both ?_ ?_
     ·refine so_both ?_ ?_
      ·exact so_nrm ((Ent.rn [0, 1, 2, 3, 4, 5, 7] [8, 9, 10, 16, 17, 18] rfl rfl rfl rfl rfl))
      exact so_nrm ((Ent.rn [0, 1, 2, 3, 4, 5, 7] [8, 9, 10, 16, 17, 18] rfl rfl rfl rfl rfl))
     exact so_nrm ((Ent.rn [0, 1, 2, 3, 4, 5, 7] [8, 9, 10, 16, 17, 18] rfl rfl rfl rfl rfl))
    refine so_both ?_ ?_
    ·refine so_need ?_
     refine so_callas (pl (decide_eq_true (win_len rfl)) id) ?_
     refine so_both ?_ ?_
     ·refine so_both ?_ ?_
      ·exact so_nrm ((Ent.rn [0, 1, 2, 3, 4, 5, 7] [8, 9, 10, 16, 17, 18] rfl rfl rfl rfl rfl))
      exact so_nrm ((Ent.rn [0, 1, 2, 3, 4, 5, 7] [8, 9, 10, 16, 17, 18] rfl rfl rfl rfl rfl))
     exact so_nrm ((Ent.rn [0, 1, 2, 3, 4, 5, 7] [8, 9, 10, 16, 17, 18] rfl rfl rfl rfl rfl))
    refine so_both ?_ ?_
    ·refine so_need ?_
     refine so_callas (pl (decide_eq_true (win_len rfl)) id) ?_
     refine so_both ?_ ?_
     ·refine so_both ?_ ?_
      ·exact so_nrm ((Ent.rn [0, 1, 2, 3, 4, 5, 7] [8, 9, 10, 16, 17, 18] rfl rfl rfl rfl rfl))
      exact so_nrm ((Ent.rn [0, 1, 2, 3, 4, 5, 7] [8, 9, 10, 16, 17, 18] rfl rfl rfl rfl rfl))
     exact so_nrm ((Ent.rn [0, 1, 2, 3, 4, 5, 7] [8, 9, 10, 16, 17, 18] rfl rfl rfl rfl rfl))
    refine so_need ?_
    refine so_both ?_ ?_
    ·refine so_callas (pl (decide_eq_true (win_len rfl)) id) ?_
     refine so_both ?_ ?_
     ·refine so_both ?_ ?_
      ·exact so_nrm ((Ent.rn [0, 1, 2, 3, 4, 5, 7] [8, 9, 10, 16, 17, 18] rfl rfl rfl rfl rfl))
      exact so_nrm ((Ent.rn [0, 1, 2, 3, 4, 5, 7] [8, 9, 10, 16, 17, 18] rfl rfl rfl rfl rfl))
     exact so_nrm ((Ent.rn [0, 1, 2, 3, 4, 5, 7] [8, 9, 10, 16, 17, 18] rfl rfl rfl rfl rfl))
    refine so_callas (pl (decide_eq_true (win_len rfl)) id) ?_
    refine so_both ?_ ?_
    ·refine so_both ?_ ?_
     ·exact so_nrm ((Ent.rn [0, 1, 2, 3, 4, 5, 7] [8, 9, 10, 16, 17, 18] rfl rfl rfl rfl rfl))
     exact so_nrm ((Ent.rn [0, 1, 2, 3, 4, 5, 7] [8, 9, 10, 16, 17, 18] rfl rfl rfl rfl rfl))
    exact so_nrm ((Ent.rn [0, 1, 2, 3, 4, 5, 7] [8, 9, 10, 16, 17, 18] rfl rfl rfl rfl rfl))
   exact so_next ((Ent.rn [0, 1, 2, 3, 4, 5, 6] [8, 9, 10, 16, 17, 18] rfl rfl rfl rfl rfl))
  exact so_exit ((Ent.rn [0, 1, 2, 3, 4, 5, 6] [8, 9, 10, 16, 17] rfl rfl rfl rfl rfl))
 refine so_as2 (pb (pl (decide_eq_true (win_len rfl)) id) id) ?_
 refine so_split hE 2 rfl ?_ ?_
 ·refine so_as (pl (decide_eq_true (win_len rfl)) id) ?_
  refine so_triv (Bool.not_or_self _) ?_
  refine so_triv (Bool.not_or_self _) ?_
  refine so_triv (pg rfl) ?_
  refine so_triv (Bool.not_or_self _) ?_
  exact so_ret (fin_bs [] (.inr rfl) rfl rfl rfl rfl rfl)
 refine so_as (pb (pr (pl (decide_eq_true (win_len rfl)) id) (decide_eq_true (win_len rfl))) id) ?_
 refine so_triv (Bool.not_or_self _) ?_
 refine so_triv (Bool.not_or_self _) ?_
 refine so_triv (pg rfl) ?_
 refine so_triv (Bool.not_or_self _) ?_
 exact so_ret (fin_bs [] (.inr rfl) rfl rfl rfl rfl rfl)
end Go.Ab

set_option maxRecDepth 100000
namespace Go.Ab
open Go.Proofs
abbrev LbS := List Int × Int × Int × Bool × Int × Int × Int × Int × Bool × Int
def lbN (q : Psn) (g : Bool) (i : Int) : LbS := (q.zs, q.f, q.r, q.bl, q.ca, q.pa, q.ha, q.fu, g, i)
def refL : Psn → List (List Int) → Psn × Bool
 | q, [] => (q, true)
 | q, row :: rest => bif tstB q (undR row) (bkZ q.f q.r q.zs q.bl (undR row)) then refL (bkP q (undR row)) rest else (⟨0, 0, [], false, 0, 0, 0, 0⟩, false)
theorem tst_ok {q : Psn} {u : Und} (hl : q.zs.length ≤ 64) (hca : 0 ≤ u.ca) (h : tstB q u (bkZ q.f q.r q.zs q.bl u) = true) : (bkP q u).ok = true ∧ (bkP q u).zs.length ≤ 64 ∧ 0 ≤ (bkP q u).ca ∧ (bkP q u).f = q.f ∧ (bkP q u).r = q.r := by
 obtain ⟨h1, _, _⟩ := tst_eq h
 have hlen : (bkP q u).zs.length ≤ 64 := Nat.le_trans (Nat.le_of_eq bkZ_len) hl
 exact ⟨(um_mk (q := bkP q u) hlen hca h1).2.2.2.2.2.2.2.2, hlen, hca, rfl, rfl⟩
theorem ref_unm : ∀ {l : List (List Int)} {q : Psn}, q.zs.length ≤ 64 → q.ok = true → (∀ row ∈ l, RowOk q.f q.r row) → unmL q l = ((refL q l).1, bif (refL q l).2 then 0 else 10) ∧ (refL q l).1.zs.length ≤ 64
 | [], q, hl, _, _ => ⟨rfl, hl⟩
 | row :: rest, q, hl, hok, hr => by
  obtain ⟨hmv, hc⟩ := hr row (List.mem_cons_self ..)
  obtain ⟨e1, e2⟩ := um_eq (p := q) (u := undR row) hok hmv
  unfold unmL refL
  rw [e1, e2]
  cases ht : tstB q (undR row) (bkZ q.f q.r q.zs q.bl (undR row)) with
  | true =>
   obtain ⟨g1, g2, _, g4, g5⟩ := tst_ok (u := undR row) hl hc ht
   simp only [cond_true, decide_true]
   exact ref_unm g2 g1 fun row hr' => by rw [g4, g5]; exact hr row (List.mem_cons_of_mem _ hr')
  | false => exact ⟨rfl, Nat.zero_le _⟩
section
variable {y : Psn × List (List Int) × Int × Int} {us : List (List Int)}
theorem lb_exit {q : Psn} {g : Bool} {i : Int} (h : (decide (0 ≤ i) && g) = false) : lawBacks_s1 y us (lbN q g i) = some (.inr (.inl (q.zs, q.f, q.r, q.bl, q.ca, q.pa, q.ha, q.fu, g))) := by
 unfold lawBacks_s1 lbN
 simp only [List.drop_zero, List.take_length, h, cond_false]
theorem lb_step {q : Psn} {j : Nat} (hj : j < y.2.1.length) (hl : y.2.1.length ≤ 1000) (hz : q.zs.length ≤ 64) (hok : q.ok = true) (hr : RowOk q.f q.r (us.getD j [])) :
  lawBacks_s1 y us (lbN q true j) = bif tstB q (undR (us.getD j [])) (bkZ q.f q.r q.zs q.bl (undR (us.getD j []))) then some (.inl (lbN (bkP q (undR (us.getD j []))) true ((j : Int) - 1))) else some (.inl (lbN ⟨0, 0, [], false, 0, 0, 0, 0⟩ false ((j : Int) - 1))) := by
 have h1 : decide ((j : Int) < Int.ofNat y.2.1.length) = true := by simp; omega
 have h2 : decide ((0 : Int) ≤ j) = true := by simp
 have hu := refUnmake_eq (p := q) (u := undR (us.getD j [])) hz hr.2 hok hr.1
 have hx : (⟨⟨(us.getD (j : Int).toNat []).getD 0 0, (us.getD (j : Int).toNat []).getD 1 0, (us.getD (j : Int).toNat []).getD 2 0⟩, (us.getD (j : Int).toNat []).getD 3 0, (us.getD (j : Int).toNat []).getD 4 0, (us.getD (j : Int).toNat []).getD 5 0, (us.getD (j : Int).toNat []).getD 6 0, (us.getD (j : Int).toNat []).getD 7 0, (us.getD (j : Int).toNat []).getD 8 0⟩ : Und) = undR (us.getD j []) := rfl
 unfold lawBacks_s1 lbN
 simp only [List.drop_zero, List.take_length, psn_eta, hx, hu, h1, h2, Bool.and_self, cond_true, needO_true, callO_some, joinO_inl, Option.getD_some]
 rw [w64_id (n := (j : Int) - 1) (by omega) (by omega)]
 cases tstB q (undR (us.getD j [])) (bkZ q.f q.r q.zs q.bl (undR (us.getD j []))) <;> rfl
theorem lb_run {F : List Int × Int × Int × Bool × Int × Int × Int × Int × Bool → Option Bool} (hl : y.2.1.length ≤ 1000) : ∀ (j fuel : Nat) (q : Psn), j ≤ y.2.1.length → j < us.length + 1 → j + 1 < fuel → q.zs.length ≤ 64 → q.ok = true → (∀ row ∈ us, RowOk q.f q.r row) →
  loopO (lawBacks_s1 y us) F fuel (lbN q true ((j : Int) - 1)) = F ((refL q (us.take j).reverse).1.zs, (refL q (us.take j).reverse).1.f, (refL q (us.take j).reverse).1.r, (refL q (us.take j).reverse).1.bl, (refL q (us.take j).reverse).1.ca, (refL q (us.take j).reverse).1.pa, (refL q (us.take j).reverse).1.ha, (refL q (us.take j).reverse).1.fu, (refL q (us.take j).reverse).2)
 | j, 0, q, _, _, h, _, _, _ => absurd h (by omega)
 | 0, fuel + 1, q, _, _, _, _, _, _ => by
  rw [show ((0 : Nat) : Int) - 1 = -1 from rfl, loopO_exit (lb_exit (q := q) (g := true) (i := -1) rfl)]; rfl
 | j + 1, fuel + 1, q, h, hj, hf, hz, hok, hr => by
  have hrow : RowOk q.f q.r (us.getD j []) := hr _ (by have : us.getD j [] = us[j]'(by omega) := by simp [List.getD, show j < us.length by omega]
                                                       rw [this]; exact List.getElem_mem _)
  have hs := lb_step (y := y) (us := us) (q := q) (j := j) (by omega) hl hz hok hrow
  rw [show ((j + 1 : Nat) : Int) - 1 = (j : Int) by omega, take_rev (by omega)]
  unfold refL
  cases ht : tstB q (undR (us.getD j [])) (bkZ q.f q.r q.zs q.bl (undR (us.getD j []))) with
  | true =>
   rw [ht, cond_true] at hs
   obtain ⟨g1, g2, _, g4, g5⟩ := tst_ok (u := undR (us.getD j [])) hz hrow.2 ht
   rw [loopO_next hs]
   simp only [cond_true]
   exact lb_run hl j fuel _ (by omega) (by omega) (by omega) g2 g1 fun row hr' => by rw [g4, g5]; exact hr row hr'
  | false =>
   rw [ht, cond_false] at hs
   obtain ⟨fuel, rfl⟩ : ∃ k, fuel = k + 1 := ⟨fuel - 1, by omega⟩
   rw [loopO_next hs, loopO_exit (lb_exit (q := ⟨0, 0, [], false, 0, 0, 0, 0⟩) (g := false) (i := (j : Int) - 1) (Bool.and_false _))]
   rfl
theorem lb_run0 {F : List Int × Int × Int × Bool × Int × Int × Int × Int × Bool → Option Bool} {q : Psn} {b : Option Bool} (hl : y.2.1.length ≤ 1000) (hy : us.length = y.2.1.length) (hz : q.zs.length ≤ 64) (hok : q.ok = true) (hr : ∀ row ∈ us, RowOk q.f q.r row)
  (hF : ∀ x : Psn × Bool, refL q us.reverse = x → F (x.1.zs, x.1.f, x.1.r, x.1.bl, x.1.ca, x.1.pa, x.1.ha, x.1.fu, x.2) = b) : loopO (lawBacks_s1 y us) F 1000000 (q.zs, q.f, q.r, q.bl, q.ca, q.pa, q.ha, q.fu, true, (us.length : Int) - 1) = b := by
 have := lb_run (F := F) hl us.length 1000000 q (by omega) (by omega) (by omega) hz hok hr
 rw [List.take_length] at this
 exact this.trans (hF _ rfl)
end
theorem row_set {f r : Int} {us : List (List Int)} {n k : Nat} {v : Int} (h : ∀ row ∈ us, RowOk f r row) (hn : n < us.length) (hk : 3 ≤ k) (hv : k = 5 → 0 ≤ v) : ∀ row ∈ us.set n ((us.getD n []).set k v), RowOk f r row := by
 intro row hr
 rcases List.mem_or_eq_of_mem_set hr with hr | rfl
 ·exact h row hr
 ·have h0 : RowOk f r (us.getD n []) := h _ (by have : us.getD n [] = us[n] := by simp [List.getD, hn]
                                                rw [this]; exact List.getElem_mem _)
  unfold RowOk at h0 ⊢
  rw [getD_set2, getD_set2, getD_set2, getD_set2, if_neg (by omega), if_neg (by omega), if_neg (by omega)]
  refine ⟨h0.1, ?_⟩
  by_cases e : 5 = k ∧ k < (us.getD n []).length
  ·rw [if_pos e]; exact hv e.1.symm
  ·rw [if_neg e]; exact h0.2
theorem back0_eq {p : Psn} (hl : p.zs.length ≤ 64) : back0 p ⟨⟩ = some (bif p.ok then (p, 0) else (⟨0, 0, [], false, 0, 0, 0, 0⟩, 2)) := by
 unfold back0
 simp only [List.drop_zero, List.take_length, psn_eta]
 have h3 : decide (p.zs.length ≤ 64) = true := by simpa using hl
 rw [h3]
 cases p.ok <;> rfl
theorem refL_no : ∀ {l : List (List Int)} {q : Psn}, (refL q l).2 = false → (refL q l).1 = ⟨0, 0, [], false, 0, 0, 0, 0⟩
 | [], q, h => by cases h
 | row :: rest, q, h => by
  unfold refL at h ⊢
  cases ht : tstB q (undR row) (bkZ q.f q.r q.zs q.bl (undR row)) with
  | true => rw [ht] at h; exact refL_no (l := rest) h
  | false => rfl
theorem joinO_all {σ : Type} {Good : σ → Prop} {K : Option (σ ⊕ Bool)} {F : σ → Option Bool} {b : Option Bool} (hK : ∃ s, K = some (.inl s) ∧ Good s) (hF : ∀ s, Good s → F s = b) : joinO K F = b := by
 obtain ⟨s, rfl, hs⟩ := hK
 exact hF s hs
theorem lawBacks_true {p : Psn} {l : List (List Int)} {which what : Int} (hca : 0 ≤ p.ca) (hw : 0 ≤ which ∧ which < 256) : lawBacks p l which what = some true := by
 unfold lawBacks
 simp only [List.drop_zero, List.take_length, psn_eta]
 rw [show small8 p = some (decide (Int.ofNat p.zs.length ≤ 64)) from rfl, callO_some]
 by_cases hl : p.zs.length ≤ 64
 ·have h1 : decide (Int.ofNat p.zs.length ≤ 64) = true := by simp; omega
  have h2 : decide (p.zs.length ≤ 64) = true := by simpa using hl
  rw [h1, h2]
  by_cases hb : l.length ≤ 30
  ·have h3 : decide ((30 : Int) < Int.ofNat l.length) = false := by simp; omega
   rw [h3]
   obtain ⟨r, hr, hr2, _, _⟩ := play_eq (l := l) hl hca
   rw [hr2]
   simp only [Bool.not_true, Bool.or_self, cond_false, needO_true, callO_some, back0_eq hl, psn_valid hl hca]
   cases he : decide (r.2.2.2 = 0) with
   | false =>
    simp only [Bool.not_false, cond_true]
    cases p.ok with
    | true => simp only [cond_true, Bool.not_true, cond_false, h2, equalB_self, Bool.and_self, needO_true, decide_true]
    | false => rfl
   | true =>
    obtain ⟨hok, hch, hlen⟩ := play_ok hl hca (by omega) hr (of_decide_eq_true he)
    obtain ⟨c1, c2, c3, c4, c5, c6, _⟩ := hch.all hl hca hok
    rw [← c4, ← c5] at c6
    simp only [Bool.not_true, cond_false]
    refine joinO_all (Good := fun s : List (List Int) => s.length = r.2.1.length ∧ ∀ row ∈ s, RowOk r.1.f r.1.r row) ?_ ?_
    ·cases hz : decide ((0 : Int) < Int.ofNat r.2.1.length) with
     | false => exact ⟨_, rfl, rfl, c6⟩
     | true =>
      have hpos : 0 < r.2.1.length := by have := of_decide_eq_true hz; exact Int.ofNat_lt.1 this
      have hwr : IntKind.i64.wrap which = which := w64_id (by omega) (by omega)
      have hm0 : 0 ≤ which.tmod (Int.ofNat r.2.1.length) := Int.tmod_nonneg _ hw.1
      have hm1 : which.tmod (Int.ofNat r.2.1.length) < Int.ofNat r.2.1.length := Int.tmod_lt_of_pos _ (Int.ofNat_lt.2 hpos)
      have hn0 : decide (Int.ofNat r.2.1.length = 0) = false := by rw [decide_eq_false_iff_not]; intro e; have e : ((r.2.1.length : Nat) : Int) = 0 := e; omega
      rw [hwr, decide_eq_true hm0, decide_eq_true hm1, hn0]
      simp only [Bool.not_false, Bool.and_self, needO_true, cond_true]
      have hn : (which.tmod (Int.ofNat r.2.1.length)).toNat < r.2.1.length := by
       have : (which.tmod (Int.ofNat r.2.1.length)).toNat < (Int.ofNat r.2.1.length).toNat := by omega
       exact this
      cases decide (what.tmod 7 = 0) with
      | true => exact ⟨_, rfl, by simp, row_set c6 hn (by omega) (fun e => by omega)⟩
      | false =>
      cases decide (what.tmod 7 = 1) with
      | true => exact ⟨_, rfl, by simp, row_set c6 hn (by omega) (fun e => by omega)⟩
      | false =>
      cases decide (what.tmod 7 = 2) with
      | true => exact ⟨_, rfl, by simp, row_set c6 hn (by omega) (fun _ => Int.emod_nonneg _ (by decide))⟩
      | false =>
      cases decide (what.tmod 7 = 3) with
      | true => exact ⟨_, rfl, by simp, row_set c6 hn (by omega) (fun e => by omega)⟩
      | false =>
      cases decide (what.tmod 7 = 4) with
      | true => exact ⟨_, rfl, by simp, row_set c6 hn (by omega) (fun e => by omega)⟩
      | false =>
      cases decide (what.tmod 7 = 5) with
      | true => exact ⟨_, rfl, by simp, row_set c6 hn (by omega) (fun e => by omega)⟩
      | false => exact ⟨_, rfl, rfl, c6⟩
    ·rintro us ⟨hus, hrow⟩
     have h64 : decide (r.1.zs.length ≤ 64) = true := by simpa using c1
     have hi : IntKind.i64.wrap (Int.ofNat r.2.1.length - 1) = (us.length : Int) - 1 := by
      rw [hus]; exact w64_id (by show -9223372036854775808 ≤ (r.2.1.length : Int) - 1; omega) (by show (r.2.1.length : Int) - 1 ≤ 9223372036854775807; omega)
     rw [h64, hi]
     simp only [needO_true]
     refine lb_run0 (y := r) (by omega) hus c1 c3 hrow fun x hx => ?_
     have ht : us.take r.2.1.length = us := by rw [← hus, List.take_length]
     have hd : decide (r.2.1.length = us.length) = true := by rw [hus]; exact decide_eq_true rfl
     obtain ⟨u1, u2⟩ := ref_unm (l := us.reverse) c1 c3 (fun row hr' => hrow row (List.mem_reverse.1 hr'))
     rw [hx] at u1 u2
     have hbk := back_eq (q := r.1) (l := us) (by omega) c1 c3
     rw [u1] at hbk
     have hx64 : decide (x.1.zs.length ≤ 64) = true := by simpa using u2
     simp only [ht, hd, hbk, needO_true, callO_some, hx64, psn_eta]
     cases hg : x.2 with
     | true => simp only [Bool.not_true, cond_false, cond_true, Bool.and_self, needO_true, equalB_self, decide_true]
     | false =>
      have := refL_no (q := r.1) (l := us.reverse) (by rw [hx]; exact hg)
      rw [hx] at this
      simp only [Bool.not_false, cond_true, cond_false, needO_true, this, equalB_self, decide_true, Bool.and_self]
  ·have h3 : decide ((30 : Int) < Int.ofNat l.length) = true := by simp; omega
   rw [h3]
   cases (decide (Int.ofNat p.zs.length ≤ 64)) <;> rfl
 ·have h1 : decide (Int.ofNat p.zs.length ≤ 64) = false := by simp; omega
  rw [h1]; rfl
end Go.Ab
