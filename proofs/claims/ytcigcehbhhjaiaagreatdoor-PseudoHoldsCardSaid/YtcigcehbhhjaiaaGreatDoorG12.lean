/- Contracts of the functions that the laws reach, and plain laws of what they compute (text G12); no condition. -/
import Derived.Test.YtcigcehbhhjaiaaGreatDoorG11
import Derived.Test.YtcigcehbhhjaiaaGreatDoorG9
import Derived.Test.YtcigcehbhhjaiaaGreatDoorG10
set_option maxRecDepth 100000
set_option maxHeartbeats 4000000
namespace Go.Ab
open Go.Proofs
variable {kCa kDb : Bool}
def lawPM (p : Psn) (at_ : Int) : Option (Bool) := let x15 := List.take p.zs.length (List.drop 0 p.zs); let x13 := Psn.mk p.f p.r x15 p.bl p.ca p.pa p.ha p.fu; let x14 := x15.length; let x10 := decide (x14 ≤ 64); let x12 := List.take x14 (List.drop 0 x15); let x11 := x12.length; callO (small9 x13) false fun (y3 : Bool) => bif !y3 then some true else needO x10 (callO (pmoves x13) ([], 0) fun (y4 : List (List Int) × Int) => callO (pfrom x13 at_) ([], 0) fun (y5 : List (List Int) × Int) => let x19 := decide (Int.ofNat y5.1.length = 0); let x20 := decide (y5.2 = 2); needO (decide (x11 ≤ 64) && x10) (bif !equalB (Psn.mk p.f p.r x12 p.bl p.ca p.pa p.ha p.fu) x13 then some false else needO x10 (bif !validL x13 then some (decide (Int.ofNat y4.1.length = 0) && decide (y4.2 = 2) && x19 && x20 && true) else callO (umoves x13) [] fun (y6 : List (List Int)) => callO (msame (List.take y4.1.length (List.drop 0 y4.1)) (List.take y6.length (List.drop 0 y6))) false fun (y7 : Bool) => bif !y7 || !decide (y4.2 = 0) then some false else bif !validB p.f p.r at_ then some (x19 && x20 && true) else callO (ufrom x13 at_) [] fun (y8 : List (List Int)) => callO (msame (List.take y5.1.length (List.drop 0 y5.1)) (List.take y8.length (List.drop 0 y8))) false fun (y9 : Bool) => some (y9 && decide (y5.2 = 0) && true))))
def lawPM_V (R : Bool) : V := Bb R
def lawPM_N (_R : Bool) : List O := []
theorem lawPM_snd (p : Psn) (at_ : Int) {r} (hr : lawPM p at_ = some r) : FnSound (GGx kCa true) PP 5 [.agg [.int .i64 p.f, .int .i64 p.r, .sl 0 0 p.zs.length none, Bb p.bl, .int .u8 p.ca, .int .i64 p.pa, .int .i64 p.ha, .int .i64 p.fu], .int .i64 at_] [.ints false .i8 p.zs] (lawPM_V r) (lawPM_N r) := by
 have hE := cutE (EE_ok (kCa := kCa) (kDb := true) (cts := [(14, c_rcopy), (17, c_requal), (21, c_small9), (22, c_known9), (23, c_pmoves), (24, c_pfrom), (25, c_rvalid), (26, c_msame), (27, c_umoves), (28, c_Valid), (29, c_ufrom)]) (inl := []) ⟨c_rcopy_ok, c_requal_ok, c_small9_ok, c_known9_ok, c_pmoves_ok, c_pfrom_ok, c_rvalid_ok, c_msame_ok, c_umoves_ok, c_Valid_ok, c_ufrom_ok, trivial⟩ trivial)
 refine so_fn hE 2 Tryz.func5 rfl rfl lawPM_V lawPM_N hr ?_ rfl rfl
 unfold lawPM
 refine so_callas (pl (decide_eq_true (win_len rfl)) id) ?_
 refine so_split hE 2 rfl ?_ ?_
 ·refine so_triv rfl ?_
  exact so_ret (fin_bs [] (.inr rfl) rfl rfl rfl rfl rfl)
 refine so_as (pl (decide_eq_true (win_len rfl)) id) ?_
 refine so_callas (pl (decide_eq_true (win_len rfl)) id) ?_
 refine so_callas (pl (decide_eq_true (win_len rfl)) id) ?_
 refine so_as (pb (pr (pl (decide_eq_true (win_len rfl)) id) (decide_eq_true (win_len rfl))) id) ?_
 refine so_split hE 2 rfl ?_ ?_
 ·exact so_ret (fin_bs [] (.inr rfl) rfl rfl rfl rfl rfl)
 refine so_as (pl (decide_eq_true (win_len rfl)) id) ?_
 refine so_split hE 2 rfl ?_ ?_
 ·refine so_triv (Bool.not_or_self _) ?_
  refine so_triv (Bool.not_or_self _) ?_
  refine so_triv (Bool.not_or_self _) ?_
  refine so_triv (Bool.not_or_self _) ?_
  refine so_triv (Bool.not_or_self _) ?_
  refine so_triv (Bool.not_or_self _) ?_
  refine so_triv (Bool.not_or_self _) ?_
  refine so_triv (pg rfl) ?_
  refine so_triv (Bool.not_or_self _) ?_
  exact so_ret (fin_bs [] (.inr rfl) rfl rfl rfl rfl rfl)
 refine so_callas (pl (decide_eq_true (win_len rfl)) id) ?_
 refine so_callas (pl (pa (decide_eq_true (win_len rfl)) (decide_eq_true (win_len rfl))) id) ?_
 refine so_triv (Bool.not_or_self _) ?_
 refine so_triv (Bool.or_not_self _) ?_
 refine so_split hE 2 rfl ?_ ?_
 ·exact so_ret (fin_bs [] (.inr rfl) rfl rfl rfl rfl rfl)
 refine so_triv rfl ?_
 refine so_split hE 2 rfl ?_ ?_
 ·refine so_triv (Bool.not_or_self _) ?_
  refine so_triv (Bool.not_or_self _) ?_
  refine so_triv (pg rfl) ?_
  refine so_triv (Bool.not_or_self _) ?_
  exact so_ret (fin_bs [] (.inr rfl) rfl rfl rfl rfl rfl)
 refine so_callas (pl (decide_eq_true (win_len rfl)) id) ?_
 refine so_callas (pl (pa (decide_eq_true (win_len rfl)) (decide_eq_true (win_len rfl))) id) ?_
 refine so_triv (Bool.not_or_self _) ?_
 refine so_triv (Bool.not_or_self _) ?_
 refine so_triv (pg rfl) ?_
 refine so_triv (Bool.not_or_self _) ?_
 exact so_ret (fin_bs [] (.inr rfl) rfl rfl rfl rfl rfl)
def lawPI (p : Psn) (m : Mov) : Option (Bool) := let x8 := List.take p.zs.length (List.drop 0 p.zs); let x6 := Psn.mk p.f p.r x8 p.bl p.ca p.pa p.ha p.fu; let x7 := x8.length; callO (small9 x6) false fun (y3 : Bool) => bif !y3 then some true else callO (pis x6 (Mov.mk m.a m.b m.p)) (false, 0) fun (y4 : Bool × Int) => needO (decide (x7 ≤ 64)) (bif !validL x6 || !mvB p.f p.r m.a m.b m.p then some (!y4.1 && decide (y4.2 = 2) && true) else callO (uis x6 (Mov.mk m.a m.b m.p)) false fun (y5 : Bool) => some (y4.1 == y5 && decide (y4.2 = 0) && true))
def lawPI_V (R : Bool) : V := Bb R
def lawPI_N (_R : Bool) : List O := []
theorem lawPI_snd (p : Psn) (m : Mov) {r} (hr : lawPI p m = some r) : FnSound (GGx kCa true) PP 6 [.agg [.int .i64 p.f, .int .i64 p.r, .sl 0 0 p.zs.length none, Bb p.bl, .int .u8 p.ca, .int .i64 p.pa, .int .i64 p.ha, .int .i64 p.fu], .agg [.int .i64 m.a, .int .i64 m.b, .int .i8 m.p]] [.ints false .i8 p.zs] (lawPI_V r) (lawPI_N r) := by
 have hE := cutE (EE_ok (kCa := kCa) (kDb := true) (cts := [(21, c_small9), (22, c_known9), (25, c_rvalid), (30, c_pis), (31, c_rmvalid), (32, c_uis)]) (inl := []) ⟨c_small9_ok, c_known9_ok, c_rvalid_ok, c_pis_ok, c_rmvalid_ok, c_uis_ok, trivial⟩ trivial)
 refine so_fn hE 2 Tryz.func6 rfl rfl lawPI_V lawPI_N hr ?_ rfl rfl
 unfold lawPI
 refine so_callas (pl (decide_eq_true (win_len rfl)) id) ?_
 refine so_split hE 2 rfl ?_ ?_
 ·refine so_triv rfl ?_
  exact so_ret (fin_bs [] (.inr rfl) rfl rfl rfl rfl rfl)
 refine so_callas (pl (decide_eq_true (win_len rfl)) id) ?_
 refine so_as (pl (decide_eq_true (win_len rfl)) id) ?_
 refine so_triv (Bool.not_or_self _) ?_
 refine so_triv (Bool.not_or_self _) ?_
 refine so_triv (Bool.not_or_self _) ?_
 refine so_triv (pg rfl) ?_
 refine so_triv (Bool.not_or_self _) ?_
 refine so_triv (Bool.or_not_self _) ?_
 refine so_split hE 2 rfl ?_ ?_
 ·refine so_triv (Bool.not_or_self _) ?_
  refine so_triv (Bool.not_or_self _) ?_
  refine so_triv (pg rfl) ?_
  refine so_triv (Bool.not_or_self _) ?_
  exact so_ret (fin_bs [] (.inr rfl) rfl rfl rfl rfl rfl)
 refine so_callas (pl (decide_eq_true (win_len rfl)) id) ?_
 refine so_triv (Bool.not_or_self _) ?_
 refine so_triv (Bool.not_or_self _) ?_
 refine so_triv (pg rfl) ?_
 refine so_triv (Bool.not_or_self _) ?_
 exact so_ret (fin_bs [] (.inr rfl) rfl rfl rfl rfl rfl)
def lawPC (p : Psn) (m : Mov) : Option (Bool) := let x12 := cgL p.f p.r (List.take p.zs.length (List.drop 0 p.zs)) p.bl p.ca m.a m.b m.p; let x15 := List.take p.zs.length (List.drop 0 p.zs); let x11 := Psn.mk p.f p.r x15 p.bl p.ca p.pa p.ha p.fu; let x13 := capL p.f p.r x15 p.pa m.a m.b; let x14 := x15.length; let x9 := decide (0 ≤ x13); let x10 := decide (x14 ≤ 64); callO (small9 x11) false fun (y3 : Bool) => bif !y3 then some true else callO (pcap x11 (Mov.mk m.a m.b m.p)) (0, 0, 0) fun (y4 : Int × Int × Int) => let x18 := decide (y4.1 = 0) && decide (y4.2.1 = 0); let x19 := decide (y4.2.2 = 0); let x20 := decide (y4.2.1 = x13); callO (pcas x11 (Mov.mk m.a m.b m.p)) (false, 0) fun (y5 : Bool × Int) => needO x10 (bif !validL x11 || !mvB p.f p.r m.a m.b m.p then some (x18 && decide (y4.2.2 = 2) && !y5.1 && decide (y5.2 = 2) && true) else callO (uis x11 (Mov.mk m.a m.b m.p)) false fun (y6 : Bool) => bif !y6 then some (x18 && decide (y4.2.2 = 10) && !y5.1 && decide (y5.2 = 10) && true) else needO (x10 && (validBd p.f p.r x15 && castL p.f p.r x15 p.ca && validB p.f p.r m.a && validB p.f p.r m.b)) (joinO (bif x9 then needO (x9 && decide (x13 < Int.ofNat p.zs.length)) (some (Sum.inl (p.zs.getD x13.toNat 0))) else some (Sum.inl 0)) fun (s8 : Int) => let x24 := decide (y4.1 = s8) && x20 && x19; needO (!x24 || decide ((List.take p.zs.length (List.drop 0 p.zs)).length ≤ 64) && (validBd p.f p.r (List.take p.zs.length (List.drop 0 p.zs)) && castL p.f p.r (List.take p.zs.length (List.drop 0 p.zs)) p.ca && validB p.f p.r m.a && validB p.f p.r m.b)) (some (x24 && y5.1 == !decide (x12 = 0) && decide (y5.2 = 0) && true))))
def lawPC_V (R : Bool) : V := Bb R
def lawPC_N (_R : Bool) : List O := []
theorem lawPC_snd (p : Psn) (m : Mov) {r} (hr : lawPC p m = some r) : FnSound (GGx kCa true) PP 7 [.agg [.int .i64 p.f, .int .i64 p.r, .sl 0 0 p.zs.length none, Bb p.bl, .int .u8 p.ca, .int .i64 p.pa, .int .i64 p.ha, .int .i64 p.fu], .agg [.int .i64 m.a, .int .i64 m.b, .int .i8 m.p]] [.ints false .i8 p.zs] (lawPC_V r) (lawPC_N r) := by
 have hE := cutE (EE_ok (kCa := kCa) (kDb := true) (cts := [(21, c_small9), (22, c_known9), (25, c_rvalid), (31, c_rmvalid), (32, c_uis), (33, c_pcap), (34, c_pcas), (35, c_rcap), (36, c_rcgl)]) (inl := []) ⟨c_small9_ok, c_known9_ok, c_rvalid_ok, c_rmvalid_ok, c_uis_ok, c_pcap_ok, c_pcas_ok, c_rcap_ok, c_rcgl_ok, trivial⟩ trivial)
 refine so_fn hE 2 Tryz.func7 rfl rfl lawPC_V lawPC_N hr ?_ rfl rfl
 unfold lawPC
 refine so_callas (pl (decide_eq_true (win_len rfl)) id) ?_
 refine so_split hE 2 rfl ?_ ?_
 ·refine so_triv rfl ?_
  exact so_ret (fin_bs [] (.inr rfl) rfl rfl rfl rfl rfl)
 refine so_callas (pl (decide_eq_true (win_len rfl)) id) ?_
 refine so_callas (pl (decide_eq_true (win_len rfl)) id) ?_
 refine so_as (pl (decide_eq_true (win_len rfl)) id) ?_
 refine so_triv (Bool.not_or_self _) ?_
 refine so_triv (Bool.not_or_self _) ?_
 refine so_triv (Bool.not_or_self _) ?_
 refine so_triv (pg rfl) ?_
 refine so_triv (Bool.not_or_self _) ?_
 refine so_triv (Bool.or_not_self _) ?_
 refine so_split hE 2 rfl ?_ ?_
 ·refine so_triv (Bool.not_or_self _) ?_
  refine so_triv (Bool.not_or_self _) ?_
  refine so_triv (Bool.not_or_self _) ?_
  refine so_triv (Bool.not_or_self _) ?_
  refine so_triv (Bool.not_or_self _) ?_
  refine so_triv (Bool.not_or_self _) ?_
  refine so_triv (Bool.not_or_self _) ?_
  refine so_triv (Bool.not_or_self _) ?_
  refine so_triv (pg rfl) ?_
  refine so_triv (Bool.not_or_self _) ?_
  exact so_ret (fin_bs [] (.inr rfl) rfl rfl rfl rfl rfl)
 refine so_callas (pl (decide_eq_true (win_len rfl)) id) ?_
 refine so_split hE 2 rfl ?_ ?_
 ·refine so_triv (Bool.not_or_self _) ?_
  refine so_triv (Bool.not_or_self _) ?_
  refine so_triv (Bool.not_or_self _) ?_
  refine so_triv (Bool.not_or_self _) ?_
  refine so_triv (Bool.not_or_self _) ?_
  refine so_triv (Bool.not_or_self _) ?_
  refine so_triv (Bool.not_or_self _) ?_
  refine so_triv (Bool.not_or_self _) ?_
  refine so_triv (pg rfl) ?_
  refine so_triv (Bool.not_or_self _) ?_
  exact so_ret (fin_bs [] (.inr rfl) rfl rfl rfl rfl rfl)
 refine so_as (pb (pl (decide_eq_true (win_len rfl)) id) id) ?_
 refine so_join hE 2 (let x26 := List.take p.zs.length (List.drop 0 p.zs); let x25 := Psn.mk p.f p.r x26 p.bl p.ca p.pa p.ha p.fu; fun (s8 : Int) => ([(2, V.ptr 1 0 0), (3, V.ptr 2 0 0), (4, V.bool false), (5, V.int IntKind.i8 ((pcap x25 (Mov.mk m.a m.b m.p)).getD (0, 0, 0)).fst), (6, V.int IntKind.i64 ((pcap x25 (Mov.mk m.a m.b m.p)).getD (0, 0, 0)).snd.1), (7, V.int IntKind.i64 ((pcap x25 (Mov.mk m.a m.b m.p)).getD (0, 0, 0)).snd.2), (8, V.bool ((pcas x25 (Mov.mk m.a m.b m.p)).getD (false, 0)).fst), (9, V.int IntKind.i64 ((pcas x25 (Mov.mk m.a m.b m.p)).getD (false, 0)).snd), (10, V.int IntKind.i64 (capL p.f p.r x26 p.pa m.a m.b)), (11, V.int IntKind.i8 s8)], [O.ints false IntKind.i8 p.zs, O.cells true [V.int IntKind.i64 p.f, V.int IntKind.i64 p.r, V.sl 0 0 p.zs.length none, V.bool p.bl, V.int IntKind.u8 p.ca, V.int IntKind.i64 p.pa, V.int IntKind.i64 p.ha, V.int IntKind.i64 p.fu], O.cells true [V.int IntKind.i64 m.a, V.int IntKind.i64 m.b, V.int IntKind.i8 m.p]])) rfl ?_ ?_ (fun s8 => ?_)
 ·refine so_need ?_
  exact so_nrm ((Ent.rn [0, 1, 2] [2, 3, 4, 5, 6, 7, 8, 9, 10, 11] rfl rfl rfl rfl rfl))
 ·exact so_nrm ((Ent.rn [0, 1, 2] [2, 3, 4, 5, 6, 7, 8, 9, 10, 11] rfl rfl rfl rfl rfl))
 refine so_triv (Bool.not_or_self _) ?_
 refine so_triv (Bool.not_or_self _) ?_
 refine so_triv (Bool.not_or_self _) ?_
 refine so_triv (Bool.not_or_self _) ?_
 refine so_triv (Bool.not_or_self _) ?_
 refine so_triv (Bool.not_or_self _) ?_
 refine so_triv (Bool.not_or_self _) ?_
 refine so_as (pi (pb (pl (decide_eq_true (win_len rfl)) id) id)) ?_
 refine so_triv (Bool.not_or_self _) ?_
 refine so_triv (Bool.not_or_self _) ?_
 refine so_triv (Bool.not_or_self _) ?_
 refine so_triv (Bool.not_or_self _) ?_
 refine so_triv (Bool.not_or_self _) ?_
 refine so_triv (Bool.not_or_self _) ?_
 refine so_triv (pg rfl) ?_
 refine so_triv (Bool.not_or_self _) ?_
 exact so_ret (fin_bs [] (.inr rfl) rfl rfl rfl rfl rfl)
end Go.Ab

set_option maxRecDepth 100000
namespace Go.Ab
open Go.Proofs
theorem psn_eta' (q : Psn) : (⟨q.f, q.r, q.zs, q.bl, q.ca, q.pa, q.ha, q.fu⟩ : Psn) = q := rfl
theorem equalB_self' (p : Psn) : equalB p p = true := by simp [equalB, sameB]
section
variable {p : Psn}
theorem uis_eq (o : PsH p) {m : Mov} (hmv : mvB p.f p.r m.a m.b m.p = true) : uis p m = some (canM p m.a m.b m.p) := by
 have hmv' := hmv
 simp only [mvB, Bool.and_eq_true] at hmv'
 obtain ⟨⟨⟨ha, hb⟩, _⟩, _⟩ := hmv'
 have hA := (bd_sq o.bd).1 ha
 have h1 : (decide (0 ≤ m.a) && decide (m.a < Int.ofNat p.zs.length)) = true := by simp; omega
 have h2 : decide (p.zs.length ≤ 64) = true := by simpa using o.hl
 have h3 : (!decide (p.zs.getD m.a.toNat 0 = 0) && decide (p.zs.getD m.a.toNat 0 < 0) == p.bl) = isP (p.zs.getD m.a.toNat 0) p.bl := own_is _ _
 unfold uis canM
 simp only [List.drop_zero, List.take_length, h1, h2, h3, o.bd, cast_eq o.ca, o.cast, ha, hb, hmv, Bool.and_self, Bool.or_true, needO_true]
 cases hi : isP (p.zs.getD m.a.toNat 0) p.bl with
 | false => rfl
 | true => rw [so_eq o.h o.hl o.cast o.ca ha hb hi]; rfl
theorem can_mv {a b pr : Int} (h : mvB p.f p.r a b pr = false) : canM p a b pr = false := by unfold canM; rw [h]; rfl
theorem uf_step (o : PsH p) {a i : Int} {s : List (List Int) × Int} {acc : List (List Int)} (h : acc.length ≤ 100000) (h0 : 0 ≤ i) (h5 : i < 5) :
  ufrom_s1 p a s (acc, i) = some (.inl (acc ++ (bif canM p a s.2 (prs.getD i.toNat 0) then [[a, s.2, prs.getD i.toNat 0]] else []), i + 1)) := by
 have h1 : decide (i < Int.ofNat 5) = true := by rw [decide_eq_true_eq]; exact h5
 have hw : IntKind.i64.wrap (i + 1) = i + 1 := w64_id (by omega) (by omega)
 have hp : (iL [0, 2, 3, 4, 5]).getD i.toNat 0 = prs.getD i.toNat 0 := rfl
 unfold ufrom_s1
 simp only [List.drop_zero, List.take_length, psn_eta', h1, decide_eq_true h0, hw, hp, cond_true, needO_true, Bool.and_self, app_ok h]
 cases hm : mvB p.f p.r a s.2 (prs.getD i.toNat 0) with
 | false =>
  rw [can_mv hm]
  simp only [Bool.not_false, Bool.true_or, needO_true, Bool.false_and, cond_false, joinO_inl, List.append_nil]
 | true =>
  have hu := uis_eq o (m := ⟨a, s.2, prs.getD i.toNat 0⟩) hm
  rw [hu]
  simp only [Option.isSome_some, Bool.or_true, needO_true, Bool.true_and, Option.getD_some]
  cases canM p a s.2 (prs.getD i.toNat 0) with
  | true => rfl
  | false => simp only [cond_false, joinO_inl, List.append_nil]
theorem uf_end {a : Int} {s : List (List Int) × Int} {acc : List (List Int)} : ufrom_s1 p a s (acc, 0 + 1 + 1 + 1 + 1 + 1) = some (.inr (.inl acc)) := by
 unfold ufrom_s1
 rfl
theorem cf_len {a b pr : Int} : (bif canM p a b pr then [[a, b, pr]] else []).length ≤ 1 := by cases canM p a b pr <;> simp
theorem rowsM_app {a b : Int} : rowsM p a b = (bif canM p a b 0 then [[a, b, 0]] else []) ++ ((bif canM p a b 2 then [[a, b, 2]] else []) ++ ((bif canM p a b 3 then [[a, b, 3]] else []) ++ ((bif canM p a b 4 then [[a, b, 4]] else []) ++ (bif canM p a b 5 then [[a, b, 5]] else [])))) := by
 unfold rowsM prs
 simp only [List.filter_cons, List.filter_nil]
 cases canM p a b 0 <;> cases canM p a b 2 <;> cases canM p a b 3 <;> cases canM p a b 4 <;> cases canM p a b 5 <;> rfl
theorem rowsM_len {a b : Int} : (rowsM p a b).length ≤ 5 := by
 unfold rowsM
 rw [List.length_map]
 exact Nat.le_trans (List.length_filter_le _ _) (by decide)
theorem uf_run (o : PsH p) {a : Int} {s : List (List Int) × Int} {F : List (List Int) → Option (List (List Int) × Int ⊕ List (List Int) ⊕ List (List Int))} {acc : List (List Int)} (h : acc.length ≤ 90000) : loopO (ufrom_s1 p a s) F 1000000 (acc, 0) = F (acc ++ rowsM p a s.2) := by
 rw [show (1000000 : Nat) = 999994 + 1 + 1 + 1 + 1 + 1 + 1 by rfl]
 have c0 := cf_len (p := p) (a := a) (b := s.2) (pr := prs.getD (0 : Int).toNat 0)
 have c1 := cf_len (p := p) (a := a) (b := s.2) (pr := prs.getD (0 + 1 : Int).toNat 0)
 have c2 := cf_len (p := p) (a := a) (b := s.2) (pr := prs.getD (0 + 1 + 1 : Int).toNat 0)
 have c3 := cf_len (p := p) (a := a) (b := s.2) (pr := prs.getD (0 + 1 + 1 + 1 : Int).toNat 0)
 rw [loopO_next (uf_step o (by omega) (by decide) (by decide)), loopO_next (uf_step o (by simp only [List.length_append]; omega) (by decide) (by decide)), loopO_next (uf_step o (by simp only [List.length_append]; omega) (by decide) (by decide)), loopO_next (uf_step o (by simp only [List.length_append]; omega) (by decide) (by decide)), loopO_next (uf_step o (by simp only [List.length_append]; omega) (by decide) (by decide)), loopO_exit uf_end, rowsM_app]
 simp only [List.append_assoc]
 rfl
theorem uo_step (o : PsH p) {a : Int} {j : Nat} (hj : j < p.zs.length) {acc : List (List Int)} (h : acc.length ≤ 90000) : ufrom_s2 p a ufrom_s1 (acc, (j : Int)) = some (.inl (acc ++ rowsM p a j, ((j + 1 : Nat) : Int))) := by
 have hl := o.hl
 have h1 : decide ((j : Int) < Int.ofNat p.zs.length) = true := by simp; omega
 unfold ufrom_s2
 simp only [h1, cond_true]
 rw [uf_run o h, show IntKind.i64.wrap ((j : Int) + 1) = ((j + 1 : Nat) : Int) from w64_id (by omega) (by omega)]
theorem uo_run (o : PsH p) {a : Int} {F : List (List Int) → Option (List (List Int))} : ∀ (k fuel j : Nat) (acc : List (List Int)), j + k = p.zs.length → k < fuel → acc.length + 5 * k ≤ 90000 →
  loopO (ufrom_s2 p a ufrom_s1) F fuel (acc, (j : Int)) = F (acc ++ ((List.range' j k).map Int.ofNat).flatMap (rowsM p a))
 | k, 0, j, acc, _, h, _ => absurd h (by omega)
 | 0, fuel + 1, j, acc, h, _, _ => by
  have h1 : decide ((j : Int) < Int.ofNat p.zs.length) = false := by simp; omega
  rw [loopO_exit (x := acc)]
  ·simp
  ·unfold ufrom_s2; simp only [h1, cond_false]
 | k + 1, fuel + 1, j, acc, h, hf, hM => by
  have := rowsM_len (p := p) (a := a) (b := (j : Int))
  rw [loopO_next (uo_step o (by omega) (by omega)), uo_run o k fuel (j + 1) _ (by omega) (by omega) (by rw [List.length_append]; omega), List.range'_succ, List.map_cons, List.flatMap_cons, List.append_assoc]
  rfl
theorem psL_len {a : Int} (hl : p.zs.length ≤ 64) : (psL p a).length ≤ 320 := by
 have key : ∀ l : List Int, (l.flatMap (rowsM p a)).length ≤ 5 * l.length := by
  intro l
  induction l with
  | nil => simp
  | cons x l ih =>
   have := rowsM_len (p := p) (a := a) (b := x)
   rw [List.flatMap_cons, List.length_append, List.length_cons]
   omega
 have := key ((List.range p.zs.length).map Int.ofNat)
 rw [List.length_map, List.length_range] at this
 unfold psL
 omega
theorem ufrom_eq (o : PsH p) {a : Int} : ufrom p a = some (psL p a) := by
 have hl := o.hl
 have := uo_run o (a := a) (F := fun s => some s) p.zs.length 1000000 0 [] (by omega) (by omega) (by simp; omega)
 unfold ufrom psL
 rw [List.range_eq_range']
 exact this.trans (by rw [List.nil_append])
def allL (p : Psn) : List (List Int) := ((List.range p.zs.length).map Int.ofNat).flatMap (psL p)
theorem um_step (o : PsH p) {j : Nat} (hj : j < p.zs.length) {acc : List (List Int)} (h : acc.length ≤ 90000) : umoves_s1 p (acc, (j : Int)) = some (.inl (acc ++ psL p j, ((j + 1 : Nat) : Int))) := by
 have hl := o.hl
 have h1 : decide ((j : Int) < Int.ofNat p.zs.length) = true := by simp; omega
 have hp := psL_len (p := p) (a := (j : Int)) hl
 have h2 : decide ((acc.length + (psL p j).length) * 24 ≤ 140737488355328) = true := by simp; omega
 unfold umoves_s1
 simp only [List.drop_zero, List.take_length, psn_eta', h1, cond_true, ufrom_eq o, callO_some, h2]
 rw [show IntKind.i64.wrap ((j : Int) + 1) = ((j + 1 : Nat) : Int) from w64_id (by omega) (by omega)]
 rfl
theorem um_run (o : PsH p) {F : List (List Int) → Option (List (List Int))} : ∀ (k fuel j : Nat) (acc : List (List Int)), j + k = p.zs.length → k < fuel → acc.length + 320 * k ≤ 90000 →
  loopO (umoves_s1 p) F fuel (acc, (j : Int)) = F (acc ++ ((List.range' j k).map Int.ofNat).flatMap (psL p))
 | k, 0, j, acc, _, h, _ => absurd h (by omega)
 | 0, fuel + 1, j, acc, h, _, _ => by
  have h1 : decide ((j : Int) < Int.ofNat p.zs.length) = false := by simp; omega
  rw [loopO_exit (x := acc)]
  ·simp
  ·unfold umoves_s1; simp only [h1, cond_false]
 | k + 1, fuel + 1, j, acc, h, hf, hM => by
  have := psL_len (p := p) (a := (j : Int)) o.hl
  rw [loopO_next (um_step o (by omega) (by omega)), um_run o k fuel (j + 1) _ (by omega) (by omega) (by rw [List.length_append]; omega), List.range'_succ, List.map_cons, List.flatMap_cons, List.append_assoc]
  rfl
theorem umoves_eq (o : PsH p) : umoves p = some (allL p) := by
 have hl := o.hl
 have := um_run o (F := fun s => some s) p.zs.length 1000000 0 [] (by omega) (by omega) (by simp; omega)
 unfold umoves allL
 rw [List.range_eq_range']
 exact this.trans (by rw [List.nil_append])
theorem pm_step (o : PsH p) {a : Int} (ha : validB p.f p.r a = true) {acc : List (List Int)} (h : acc.length ≤ 90000) : pmoves_s1 p ⟨p, ownS p, occR p.f p.r p.zs⟩ a acc = some (.inl (acc ++ psL p a)) := by
 have hp := psL_len (p := p) (a := a) o.hl
 have h2 : decide ((acc.length + (psL p a).length) * 24 ≤ 140737488355328) = true := by have := o.hl; simp; omega
 unfold pmoves_s1
 simp only [List.drop_zero, List.take_length, sg_eta, decide_true, needO_true, sfrom_eq o ha, callO_some, h2]
 rfl
theorem own_list (o : PsH p) {α : Type} {g : Int → List α} (hg : ∀ a : Int, isP (p.zs.getD a.toNat 0) p.bl = false → g a = []) : (bitL (ownS p)).flatMap g = ((List.range p.zs.length).map Int.ofNat).flatMap g := by
 obtain ⟨hwu, hwb⟩ := own_bt o.hl
 unfold bitL
 rw [flat_range o.hl (fun m _ h => by rw [hwb, Bool.and_eq_true, decide_eq_true_eq] at h; exact h.1)]
 refine flat_congr fun x hx => ?_
 obtain ⟨m, hm, rfl⟩ := List.mem_map.1 hx
 have hm := List.mem_range.1 hm
 rw [hwb, show (Int.ofNat m).toNat = m from rfl, decide_eq_true hm, Bool.true_and]
 cases h : isP (p.zs.getD m 0) p.bl with
 | true => rfl
 | false => exact (hg (Int.ofNat m) h).symm
theorem psL_none {a : Int} (h : isP (p.zs.getD a.toNat 0) p.bl = false) : psL p a = [] := by
 unfold psL
 rw [List.flatMap_eq_nil_iff]
 exact fun _ _ => rows_none h
theorem pmoves_eq (o : PsH p) : pmoves p = some (allL p, 0) := by
 obtain ⟨hwu, hwb⟩ := own_bt o.hl
 have h1 : decide (p.zs.length ≤ 64) = true := by simpa using o.hl
 have hlen := bitL_len (ownS p)
 unfold pmoves
 simp only [List.drop_zero, List.take_length, psn_eta', h1, o.ok, needO_true, Bool.not_true, cond_false, look_eq o.hl o.bd, callO_some, eachL_eq hwu]
 rw [range_app (rows := psL p) (M := 90000) (k := 320) (fun x hx acc h => ?_) (fun _ _ => psL_len o.hl) (by simp; omega), List.nil_append, own_list o (fun _ h => psL_none h)]
 ·rfl
 ·obtain ⟨b1, b2, b3⟩ := bitL_mem hx
  rw [hwb, Bool.and_eq_true, decide_eq_true_eq] at b3
  exact pm_step o ((bd_sq o.bd).2 ⟨b1, by omega⟩) h
theorem pfrom_eq (o : PsH p) {a : Int} (ha : validB p.f p.r a = true) : pfrom p a = some (psL p a, 0) := by
 have h1 : decide (p.zs.length ≤ 64) = true := by simpa using o.hl
 unfold pfrom
 simp only [List.drop_zero, List.take_length, psn_eta', h1, o.ok, ha, needO_true, Bool.not_true, Bool.or_self, cond_false, look_eq o.hl o.bd, callO_some, decide_true, sfrom_eq o ha]
theorem pm_bad (hl : p.zs.length ≤ 64) (h : p.ok = false) : pmoves p = some ([], 2) := by
 have h1 : decide (p.zs.length ≤ 64) = true := by simpa using hl
 unfold pmoves
 simp only [List.drop_zero, List.take_length, psn_eta', h1, h, needO_true, Bool.not_false, cond_true]
theorem pf_bad (hl : p.zs.length ≤ 64) {a : Int} (h : (!p.ok || !validB p.f p.r a) = true) : pfrom p a = some ([], 2) := by
 have h1 : decide (p.zs.length ≤ 64) = true := by simpa using hl
 unfold pfrom
 simp only [List.drop_zero, List.take_length, psn_eta', h1, h, needO_true, cond_true]
theorem msame_self {a : List (List Int)} (h : a.length ≤ 100000) : msame a a = some true := by
 have go : ∀ (j fuel i : Nat), i + j = a.length → j < fuel → loopO (msame_s1 a a) (fun _ : Unit => some true) fuel (i : Int) = some true := by
  intro j
  induction j with
  | zero =>
   intro fuel i hi hf
   obtain ⟨fuel, rfl⟩ : ∃ k, fuel = k + 1 := ⟨fuel - 1, by omega⟩
   rw [loopO_exit (x := ())]
   unfold msame_s1
   have h1 : decide ((i : Int) < Int.ofNat a.length) = false := by simp; omega
   simp only [h1]; rfl
  | succ j ih =>
   intro fuel i hi hf
   obtain ⟨fuel, rfl⟩ : ∃ k, fuel = k + 1 := ⟨fuel - 1, by omega⟩
   have h1 : decide ((i : Int) < Int.ofNat a.length) = true := by simp; omega
   have h2 : decide ((0 : Int) ≤ i) = true := by simp
   have : msame_s1 a a (i : Int) = some (.inl ((i + 1 : Nat) : Int)) := by
    unfold msame_s1
    simp only [h1, h2, show IntKind.i64.wrap ((i : Int) + 1) = ((i + 1 : Nat) : Int) from w64_id (by omega) (by omega), decide_true]
    rfl
   rw [loopO_next this]
   exact ih fuel (i + 1) (by omega) (by omega)
 unfold msame
 rw [show (!decide (Int.ofNat a.length = Int.ofNat a.length)) = false by simp]
 exact go a.length 1000000 0 (by omega) (by omega)
theorem allL_len (o : PsH p) : (allL p).length ≤ 100000 := by
 have key : ∀ l : List Int, (l.flatMap (psL p)).length ≤ 320 * l.length := by
  intro l
  induction l with
  | nil => simp
  | cons x l ih =>
   have := psL_len (p := p) (a := x) o.hl
   rw [List.flatMap_cons, List.length_append, List.length_cons]
   omega
 have := key ((List.range p.zs.length).map Int.ofNat)
 rw [List.length_map, List.length_range] at this
 have := o.hl
 unfold allL
 omega
end
theorem lawPM_true {p : Psn} {a : Int} (hca : 0 ≤ p.ca) : lawPM p a = some true := by
 unfold lawPM
 simp only [List.drop_zero, List.take_length, psn_eta']
 rw [show small9 p = some (decide (Int.ofNat p.zs.length ≤ 64)) from rfl, callO_some]
 by_cases hl : p.zs.length ≤ 64
 ·have h1 : decide (Int.ofNat p.zs.length ≤ 64) = true := by simp; omega
  have h2 : decide (p.zs.length ≤ 64) = true := by simpa using hl
  rw [h1, h2, psn_valid hl hca, equalB_self']
  simp only [Bool.not_true, cond_false, needO_true, Bool.and_self]
  cases hok : p.ok with
  | false =>
   rw [pm_bad hl hok, pf_bad hl (by rw [hok]; rfl)]; rfl
  | true =>
   have o := psh hl hca hok
   rw [pmoves_eq o, umoves_eq o]
   cases hv : validB p.f p.r a with
   | false =>
    rw [pf_bad hl (by rw [hv]; simp)]
    simp only [callO_some, Bool.not_true, cond_false, msame_self (allL_len o), decide_true, Bool.or_self, Bool.not_false, cond_true]
    rfl
   | true =>
    rw [pfrom_eq o hv, ufrom_eq o]
    simp only [callO_some, Bool.not_true, cond_false, msame_self (allL_len o), decide_true, Bool.or_self, msame_self (show (psL p a).length ≤ 100000 by have := psL_len (p := p) (a := a) hl; omega), Bool.and_self]
 ·have h1 : decide (Int.ofNat p.zs.length ≤ 64) = false := by simp; omega
  rw [h1]; rfl
end Go.Ab

set_option maxRecDepth 100000
namespace Go.Ab
open Go.Proofs
theorem king_uniq {f r : Int} {zs : List Int} {bl : Bool} (h : orthBd f r zs = true) (hl : zs.length ≤ 64) (hk : (kingR f r zs bl).2 = 0) : ∃ K : Nat, K < zs.length ∧ zs.getD K 0 = kgP bl ∧ refKing zs bl = (K : Int) ∧ ∀ i : Nat, i < zs.length → zs.getD i 0 = kgP bl → i = K := by
 rcases king_ref zs bl hl with ⟨h1, _⟩ | ⟨h1, h2, h3, h4, h5, h6⟩
 ·unfold kingR at hk; rw [h, h1] at hk; cases hk
 ·refine ⟨(kingI zs bl).toNat, by omega, h5, by omega, fun i hi he => ?_⟩
  have := h6 i hi he
  omega
theorem reaches_king {f r a b occ : Int} (_ha : validB f r a = true) (_hb : validB f r b = true) (h : reachesB f r 6 a b occ = true) : distR f a b = 1 := by
 unfold reachesB at h
 simpa using h
def WayIs (p : Psn) (m : Mov) (n : Nat) (bl : Bool) (bit k to : Int) : Prop := wayN p.zs p.bl p.ca m.a m.b = n ∧ p.bl = bl ∧ u8and p.ca bit ≠ 0 ∧ m.a = k ∧ m.b = to
theorem way_is {p : Psn} {m : Mov} (hn : wayN p.zs p.bl p.ca m.a m.b ≠ 4) : absP (p.zs.getD m.a.toNat 0) = 6 ∧ (WayIs p m 0 false 1 4 6 ∨ WayIs p m 1 false 2 4 2 ∨ WayIs p m 2 true 4 60 62 ∨ WayIs p m 3 true 8 60 58) := by
 unfold WayIs
 cases hk : decide (absP (p.zs.getD m.a.toNat 0) = 6) with
 | false => exact absurd (by unfold wayN; rw [hk]; rfl) hn
 | true =>
  refine ⟨of_decide_eq_true hk, ?_⟩
  cases n1 : (!csSkip p.bl p.ca m.a m.b false 1 4 6) with
  | true =>
   obtain ⟨e1, e2, e3, e4⟩ := sk_iff.1 n1
   exact .inl ⟨by unfold wayN; rw [hk, n1]; rfl, e1.symm, e2, e3.symm, e4.symm⟩
  | false =>
   cases n2 : (!csSkip p.bl p.ca m.a m.b false 2 4 2) with
   | true =>
    obtain ⟨e1, e2, e3, e4⟩ := sk_iff.1 n2
    exact .inr (.inl ⟨by unfold wayN; rw [hk, n1, n2]; rfl, e1.symm, e2, e3.symm, e4.symm⟩)
   | false =>
    cases n3 : (!csSkip p.bl p.ca m.a m.b true 4 60 62) with
    | true =>
     obtain ⟨e1, e2, e3, e4⟩ := sk_iff.1 n3
     exact .inr (.inr (.inl ⟨by unfold wayN; rw [hk, n1, n2, n3]; rfl, e1.symm, e2, e3.symm, e4.symm⟩))
    | false =>
     cases n4 : (!csSkip p.bl p.ca m.a m.b true 8 60 58) with
     | true =>
      obtain ⟨e1, e2, e3, e4⟩ := sk_iff.1 n4
      exact .inr (.inr (.inr ⟨by unfold wayN; rw [hk, n1, n2, n3, n4]; rfl, e1.symm, e2, e3.symm, e4.symm⟩))
     | false => exact absurd (by unfold wayN; rw [hk, n1, n2, n3, n4]; rfl) hn
section
variable {p : Psn} {m : Mov}
theorem MvOk.pr0 (o : MvOk p m) (hk : kind8 (p.zs.getD m.a.toNat 0) ≠ 1) : m.p = 0 := by
 have := o.so
 simp only [err3, Bool.or_eq_false_iff] at this
 have hg := goes_eq (bl := p.bl) (_ca := p.ca) (pa := p.pa) (pr := m.p) o.h o.hl o.ha o.hb o.hp
 rw [decide_eq_false hk, cond_false] at hg
 rw [hg] at this
 by_cases h : m.p = 0
 ·exact h
 ·rw [decide_eq_false h] at this; simp at this
theorem MvOk.wayg (o : MvOk p m) (hn : wayN p.zs p.bl p.ca m.a m.b ≠ 4) : kind8 (p.zs.getD m.a.toNat 0) = 6 ∧ m.p = 0 ∧ goesB p.f p.r p.zs p.bl p.pa m.a m.b m.p = false := by
 obtain ⟨hk6, hsq⟩ := way_is hn
 have hk : kind8 (p.zs.getD m.a.toNat 0) = 6 := by rw [← o.kd]; exact hk6
 have hp0 : m.p = 0 := o.pr0 (by rw [hk]; decide)
 refine ⟨hk, hp0, ?_⟩
 rw [goes_eq (_ca := p.ca) o.h o.hl o.ha o.hb o.hp, hk, hp0]
 simp only [decide_true, Bool.true_and]
 cases hr : reachesB p.f p.r 6 m.a m.b (occL p.zs) with
 | false => rfl
 | true =>
  exfalso
  have hd := reaches_king o.ha o.hb hr
  obtain ⟨h88, _⟩ := cast_88 (a := m.a) (b := m.b) (bl := p.bl) o.bd o.cast hn
  simp only [is88, Bool.and_eq_true, decide_eq_true_eq] at h88
  rw [h88.1] at hd
  rcases hsq with ⟨_, _, _, e1, e2⟩ | ⟨_, _, _, e1, e2⟩ | ⟨_, _, _, e1, e2⟩ | ⟨_, _, _, e1, e2⟩ <;> rw [e1, e2] at hd <;> exact absurd hd (by decide)
theorem MvOk.way (o : MvOk p m) (hw : wayB p.f p.r p.zs (wayN p.zs p.bl p.ca m.a m.b) = true) : kind8 (p.zs.getD m.a.toNat 0) = 6 ∧ m.p = 0 ∧ goesB p.f p.r p.zs p.bl p.pa m.a m.b m.p = false ∧
  (cgL p.f p.r p.zs p.bl p.ca m.a m.b m.p ≠ 0) ∧ sqW (cgL p.f p.r p.zs p.bl p.ca m.a m.b m.p) 2 = wCor (wayN p.zs p.bl p.ca m.a m.b) ∧ sqW (cgL p.f p.r p.zs p.bl p.ca m.a m.b m.p) 3 = wCro (wayN p.zs p.bl p.ca m.a m.b) := by
 have hn : wayN p.zs p.bl p.ca m.a m.b ≠ 4 := by intro e; rw [e] at hw; simp [wayB] at hw
 obtain ⟨hk, hp0, hg⟩ := o.wayg hn
 obtain ⟨w1, w2⟩ := way_cg (bl := p.bl) (b := m.b) (pr := m.p) o.h o.hl o.cast o.ca o.sq.1.1 o.sq.1.2
 rw [hw, hp0] at w1
 rw [hp0] at w2 hg ⊢
 have hc : (!decide (cgL p.f p.r p.zs p.bl p.ca m.a m.b 0 = 0)) = true := w1
 obtain ⟨s1, s2, _⟩ := w2 hc
 exact ⟨hk, rfl, hg, by simpa using hc, s1, s2⟩
theorem MvOk.noway (o : MvOk p m) (hw : wayB p.f p.r p.zs (wayN p.zs p.bl p.ca m.a m.b) = false) : cgL p.f p.r p.zs p.bl p.ca m.a m.b m.p = 0 := by
 obtain ⟨w1, _⟩ := way_cg (bl := p.bl) (b := m.b) (pr := m.p) o.h o.hl o.cast o.ca o.sq.1.1 o.sq.1.2
 rw [hw, Bool.and_false] at w1
 simpa using w1
theorem sgn_own {n : Int} {bl : Bool} (h : isP n bl = true) : sgn n = sdI bl := by rw [isP_sgn] at h; exact of_decide_eq_true h
theorem MvOk.af (o : MvOk p m) : afZ p.f p.r p.zs p.bl p.ca p.pa m.a m.b m.p = zs3R p.f p.r p.zs p.bl p.ca p.pa m.a m.b m.p := by
 have h1 : afZ1 p.f p.r p.zs p.pa m.a m.b = zs1R p.f p.zs p.pa m.a m.b := by unfold afZ1 zs1R; rw [o.cap.1]
 have h2 : afZ2 p.f p.r p.zs p.pa m.a m.b = zs2R p.f p.zs p.pa m.a m.b := by unfold afZ2 zs2R; rw [h1]
 unfold afZ zs3R putR afZ3
 rw [h2]
 by_cases hp : m.p = 0
 ·rw [hp]
  simp only [decide_true, Bool.not_true, Bool.false_and, cond_false]
  cases hw : wayB p.f p.r p.zs (wayN p.zs p.bl p.ca m.a m.b) with
  | true =>
   obtain ⟨_, _, g, c, s1, s2⟩ := o.way hw
   rw [hp] at g c s1 s2
   unfold cstR afZ4
   rw [hw, g, s1, s2, decide_eq_false c]; rfl
  | false =>
   have hc := o.noway hw
   rw [hp] at hc
   unfold cstR afZ4
   rw [hw, hc]; rfl
 ·have hpr : 2 ≤ m.p ∧ m.p ≤ 5 := o.hpr.resolve_left hp
  have hc : cgL p.f p.r p.zs p.bl p.ca m.a m.b m.p = 0 := by unfold cgL; rw [decide_eq_false hp]; simp
  rw [hc, decide_eq_false hp]
  simp only [Bool.not_false, Bool.true_and, cond_true]
  have hs := sgn_own o.hp
  unfold afZ4
  rw [hs]
  cases p.bl with
  | true =>
   have : w8 (m.p * w8 (sdI true)) = w8 (0 - m.p) := by
    rw [show w8 (sdI true) = -1 by decide]; congr 1; omega
   rw [this]; rfl
  | false =>
   have : w8 (m.p * w8 (sdI false)) = m.p := by
    rw [show w8 (sdI false) = 1 by decide, Int.mul_one]; exact w8_in (by omega) (by omega)
   rw [this]; rfl
end
end Go.Ab

set_option maxRecDepth 100000
namespace Go.Ab
open Go.Proofs
def rowIs (m : Mov) (row : List Int) : Bool := decide (m.a = row.getD 0 0) && (decide (m.b = row.getD 1 0) && decide (m.p = row.getD 2 0))
theorem idx_step {l : List (List Int)} {m : Mov} {i : Nat} (hi : i < l.length) (hl : l.length ≤ 100000) : sIdxM_s1 l m (i : Int) = bif rowIs m (l.getD i []) then some (.inr (.inr (i : Int))) else some (.inl ((i + 1 : Nat) : Int)) := by
 have h1 : decide ((i : Int) < Int.ofNat l.length) = true := by simp; omega
 have h2 : decide ((0 : Int) ≤ i) = true := by simp
 unfold sIdxM_s1
 simp only [h1, h2, cond_true, needO_true, Bool.and_self]
 rw [show IntKind.i64.wrap ((i : Int) + 1) = ((i + 1 : Nat) : Int) from w64_id (by omega) (by omega)]
 show (bif rowIs m (l.getD i []) then _ else _) = _
 cases rowIs m (l.getD i []) <;> rfl
theorem idx_run {l : List (List Int)} {m : Mov} (hl : l.length ≤ 100000) : ∀ (k fuel i : Nat), i + k = l.length → k < fuel → ∃ r : Int, loopO (sIdxM_s1 l m) (fun _ : Unit => some (-1)) fuel (i : Int) = some r ∧ decide (0 ≤ r) = (l.drop i).any (rowIs m)
 | k, 0, i, _, h => absurd h (by omega)
 | 0, fuel + 1, i, h, _ => by
  have h1 : decide ((i : Int) < Int.ofNat l.length) = false := by simp; omega
  refine ⟨-1, ?_, ?_⟩
  ·rw [loopO_exit (x := ())]
   unfold sIdxM_s1
   simp only [h1, cond_false]
  ·rw [List.drop_eq_nil_of_le (by omega)]; rfl
 | k + 1, fuel + 1, i, h, hf => by
  have hs := idx_step (m := m) (show i < l.length by omega) hl
  have hd : l.drop i = l.getD i [] :: l.drop (i + 1) := by
   rw [List.drop_eq_getElem_cons (show i < l.length by omega)]
   simp [List.getD, show i < l.length by omega]
  rw [hd, List.any_cons]
  cases hr : rowIs m (l.getD i []) with
  | true =>
   rw [hr, cond_true] at hs
   exact ⟨(i : Int), loopO_ret hs, by simp⟩
  | false =>
   rw [hr, cond_false] at hs
   obtain ⟨r, h1, h2⟩ := idx_run hl k fuel (i + 1) (by omega) (by omega)
   exact ⟨r, (loopO_next hs).trans h1, by rw [h2, Bool.false_or]⟩
theorem con_eq {l : List (List Int)} {m : Mov} (hl : l.length ≤ 100000) : sConM l m = some (l.any (rowIs m)) := by
 obtain ⟨r, h1, h2⟩ := idx_run (m := m) hl l.length 1000000 0 (by omega) (by omega)
 unfold sConM sIdxM
 simp only [List.drop_zero, List.take_length]
 have h1 : loopO (sIdxM_s1 l ⟨m.a, m.b, m.p⟩) (fun _ : Unit => some (-1)) 1000000 0 = some r := h1
 rw [h1, callO_some, h2]; rfl
section
variable {p : Psn} {m : Mov}
theorem in_psL (o : PsH p) (hmv : mvB p.f p.r m.a m.b m.p = true) : (psL p m.a).any (rowIs m) = canM p m.a m.b m.p := by
 have hmv' := hmv
 simp only [mvB, Bool.and_eq_true, Bool.or_eq_true, decide_eq_true_eq] at hmv'
 obtain ⟨⟨⟨ha, hb⟩, _⟩, hp⟩ := hmv'
 have hB := (bd_sq o.bd).1 hb
 rw [Bool.eq_iff_iff, List.any_eq_true]
 unfold psL
 constructor
 ·rintro ⟨row, hr, hi⟩
  obtain ⟨b, hb, hr⟩ := List.mem_flatMap.1 hr
  unfold rowsM at hr
  obtain ⟨pr, hpr, rfl⟩ := List.mem_map.1 hr
  have hc := (List.mem_filter.1 hpr).2
  simp only [rowIs, Bool.and_eq_true, decide_eq_true_eq] at hi
  have e1 : m.b = b := hi.2.1
  have e2 : m.p = pr := hi.2.2
  rw [e1, e2]; exact hc
 ·intro h
  refine ⟨[m.a, m.b, m.p], List.mem_flatMap.2 ⟨m.b, List.mem_map.2 ⟨m.b.toNat, List.mem_range.2 (by omega), by show ((m.b.toNat : Nat) : Int) = m.b; omega⟩, ?_⟩, ?_⟩
  ·unfold rowsM
   refine List.mem_map.2 ⟨m.p, List.mem_filter.2 ⟨?_, h⟩, rfl⟩
   unfold prs
   simp only [List.mem_cons, List.not_mem_nil, or_false]
   omega
  ·simp [rowIs]
theorem pis_eq (o : PsH p) (hmv : mvB p.f p.r m.a m.b m.p = true) : pis p m = some (canM p m.a m.b m.p, 0) := by
 have h1 : decide (p.zs.length ≤ 64) = true := by simpa using o.hl
 have ha : validB p.f p.r m.a = true := by
  have := hmv
  simp only [mvB, Bool.and_eq_true] at this
  exact this.1.1.1
 have hlen := psL_len (p := p) (a := m.a) o.hl
 unfold pis
 simp only [List.drop_zero, List.take_length, psn_eta', h1, o.ok, hmv, needO_true, Bool.not_true, Bool.or_self, cond_false, look_eq o.hl o.bd, callO_some, decide_true, sfrom_eq o ha]
 rw [con_eq (by omega), callO_some]
 have := in_psL (m := ⟨m.a, m.b, m.p⟩) o hmv
 exact congrArg (fun b => some (b, (0 : Int))) this
theorem pis_bad (hl : p.zs.length ≤ 64) (h : (!p.ok || !mvB p.f p.r m.a m.b m.p) = true) : pis p m = some (false, 2) := by
 have h1 : decide (p.zs.length ≤ 64) = true := by simpa using hl
 unfold pis
 simp only [List.drop_zero, List.take_length, psn_eta', h1, h, needO_true, cond_true]
theorem lawPI_true (hca : 0 ≤ p.ca) : lawPI p m = some true := by
 unfold lawPI
 simp only [List.drop_zero, List.take_length, psn_eta']
 rw [show small9 p = some (decide (Int.ofNat p.zs.length ≤ 64)) from rfl, callO_some]
 have hm : (⟨m.a, m.b, m.p⟩ : Mov) = m := rfl
 rw [hm]
 by_cases hl : p.zs.length ≤ 64
 ·have h1 : decide (Int.ofNat p.zs.length ≤ 64) = true := by simp; omega
  have h2 : decide (p.zs.length ≤ 64) = true := by simpa using hl
  rw [h1, h2, psn_valid hl hca]
  cases hb : (!p.ok || !mvB p.f p.r m.a m.b m.p) with
  | true => rw [pis_bad hl hb]; rfl
  | false =>
   simp only [Bool.or_eq_false_iff, Bool.not_eq_false'] at hb
   have o := psh hl hca hb.1
   rw [pis_eq o hb.2, uis_eq o hb.2]
   simp only [Bool.not_true, cond_false, callO_some, needO_true]
   cases canM p m.a m.b m.p <;> rfl
 ·have h1 : decide (Int.ofNat p.zs.length ≤ 64) = false := by simp; omega
  rw [h1]; rfl
theorem can_mvok (o : PsH p) (h : canM p m.a m.b m.p = true) : MvOk p m := by
 unfold canM at h
 simp only [Bool.and_eq_true, Bool.not_eq_true'] at h
 obtain ⟨⟨hmv, hp⟩, he⟩ := h
 simp only [mvB, Bool.and_eq_true, Bool.or_eq_true, decide_eq_true_eq, Bool.not_eq_true', decide_eq_false_iff_not] at hmv
 obtain ⟨⟨⟨ha, hb⟩, hab⟩, hpr⟩ := hmv
 exact ⟨o.h, o.hl, o.ok, o.ca, ha, hb, hab, hpr, hp, he⟩
theorem imax_or (x y : Int) : imax true x y = x ∨ imax true x y = y := by
 unfold imax
 dsimp only
 cases decide (x < y)
 ·exact .inl rfl
 ·exact .inr rfl
theorem abs_ge {n : Int} (h1 : -8 ≤ n) (h2 : n ≤ 8) : n ≤ absI n ∧ -n ≤ absI n := by
 unfold absI
 by_cases h : n < 0
 ·rw [decide_eq_true h, cond_true, w64_id (by omega) (by omega)]; omega
 ·rw [decide_eq_false h, cond_false]; omega
theorem dist_one {f r a b : Int} (ha : validB f r a = true) (hb : validB f r b = true) : ∃ d : Int, sdist ⟨f, r⟩ a b = some (d, 0) ∧ (distR f a b = 1 → d ≠ 2) := by
 obtain ⟨a0, a1, a2, a3, a4, a5, a6, a7, a8, a9⟩ := px_bd ha
 obtain ⟨b0, b1, b2, b3, b4, b5, _⟩ := px_bd hb
 have pa : placeR f r a = (px f a, py f a, 0) := by unfold placeR; rw [ha, cond_true, a0]
 have pb : placeR f r b = (px f b, py f b, 0) := by unfold placeR; rw [hb, cond_true, b0]
 refine ⟨imax true (imax true (imax true (IntKind.i64.wrap (px f a - px f b)) (IntKind.i64.wrap (px f b - px f a))) (IntKind.i64.wrap (py f a - py f b))) (IntKind.i64.wrap (py f b - py f a)), ?_, ?_⟩
 ·unfold sdist
  rw [pa, pb]
  rfl
 ·intro h hd
  unfold distR at h
  rw [a0, b0, show a.tmod f = px f a from rfl, show b.tmod f = px f b from rfl, w64_id (n := py f a - py f b) (by omega) (by omega), w64_id (n := px f a - px f b) (by omega) (by omega)] at h
  rw [w64_id (n := px f a - px f b) (by omega) (by omega), w64_id (n := px f b - px f a) (by omega) (by omega), w64_id (n := py f a - py f b) (by omega) (by omega), w64_id (n := py f b - py f a) (by omega) (by omega)] at hd
  have gx := abs_ge (n := px f a - px f b) (by omega) (by omega)
  have gy := abs_ge (n := py f a - py f b) (by omega) (by omega)
  have hx : absI (px f a - px f b) ≤ 1 ∧ absI (py f a - py f b) ≤ 1 := by
   by_cases hc : absI (py f a - py f b) < absI (px f a - px f b)
   ·rw [decide_eq_true hc, cond_true] at h; omega
   ·rw [decide_eq_false hc, cond_false] at h; omega
  have o1 := imax_or (px f a - px f b) (px f b - px f a)
  have o2 := imax_or (imax true (px f a - px f b) (px f b - px f a)) (py f a - py f b)
  have o3 := imax_or (imax true (imax true (px f a - px f b) (px f b - px f a)) (py f a - py f b)) (py f b - py f a)
  omega
theorem MvOk.castles (o : MvOk p m) : ∃ d : Int, sdist ⟨p.f, p.r⟩ m.a m.b = some (d, 0) ∧ (decide (absP (p.zs.getD m.a.toNat 0) = 6) && decide (d = 2)) = !decide (cgL p.f p.r p.zs p.bl p.ca m.a m.b m.p = 0) := by
 cases hw : wayB p.f p.r p.zs (wayN p.zs p.bl p.ca m.a m.b) with
 | true =>
  have hn : wayN p.zs p.bl p.ca m.a m.b ≠ 4 := by intro e; rw [e] at hw; simp [wayB] at hw
  obtain ⟨hk, _, _, hc, _⟩ := o.way hw
  obtain ⟨h88, _⟩ := cast_88 (a := m.a) (b := m.b) (bl := p.bl) o.bd o.cast hn
  simp only [is88, Bool.and_eq_true, decide_eq_true_eq] at h88
  obtain ⟨_, hsq⟩ := way_is hn
  refine ⟨2, ?_, by rw [o.kd, decide_eq_true hk, decide_eq_false hc]; rfl⟩
  rw [h88.1, h88.2]
  rcases hsq with ⟨_, _, _, e1, e2⟩ | ⟨_, _, _, e1, e2⟩ | ⟨_, _, _, e1, e2⟩ | ⟨_, _, _, e1, e2⟩ <;> rw [e1, e2] <;> decide
 | false =>
  have hc := o.noway hw
  obtain ⟨d, h1, h2⟩ := dist_one o.ha o.hb
  refine ⟨d, h1, ?_⟩
  rw [o.kd, decide_eq_true hc]
  cases hk : decide (kind8 (p.zs.getD m.a.toNat 0) = 6) with
  | false => rfl
  | true =>
   have hk6 := of_decide_eq_true hk
   have hso := o.so
   simp only [err3, hw, Bool.not_false, Bool.true_or, Bool.and_true, Bool.or_eq_false_iff, Bool.not_eq_false'] at hso
   have hg := hso.2
   rw [goes_eq (_ca := p.ca) o.h o.hl o.ha o.hb o.hp, hk6] at hg
   have hg : (decide (m.p = 0) && reachesB p.f p.r 6 m.a m.b (occL p.zs)) = true := hg
   rw [Bool.and_eq_true] at hg
   have := h2 (reaches_king o.ha o.hb hg.2)
   rw [decide_eq_false this]; rfl
theorem pcap_eq (o : PsH p) (hmv : mvB p.f p.r m.a m.b m.p = true) : pcap p m = some (bif canM p m.a m.b m.p then (capR p.f p.zs p.pa m.a m.b, at2R p.f p.zs p.pa m.a m.b, 0) else (0, 0, 10)) := by
 have hm : (⟨m.a, m.b, m.p⟩ : Mov) = m := rfl
 unfold pcap
 simp only [List.drop_zero, List.take_length, psn_eta', hm, pis_eq o hmv, callO_some, decide_true, Bool.not_true, cond_false, pk_eq, Option.getD_some]
 cases hc : canM p m.a m.b m.p with
 | false => rfl
 | true =>
  have k := can_mvok o hc
  obtain ⟨⟨sa0, sa1⟩, ⟨sb0, sb1⟩⟩ := k.sq
  have hf := px_bd k.ha
  have h1 : (decide (0 ≤ m.a) && decide (m.a < Int.ofNat p.zs.length)) = true := by simp; omega
  have h2 : decide (p.f = 0) = false := by rw [decide_eq_false_iff_not]; omega
  have hat : (0 ≤ at1R p.f p.zs p.pa m.a m.b ∧ at1R p.f p.zs p.pa m.a m.b < p.zs.length) := by
   unfold at1R
   cases he : epB p.zs p.pa m.a m.b with
   | true =>
    simp only [epB, Bool.and_eq_true, decide_eq_true_eq] at he
    rw [k.kd] at he
    obtain ⟨e1, e2, _⟩ := k.ep he.1 he.2
    have hep : epB p.zs p.pa m.a m.b = true := by simp only [epB, k.kd, he.1, he.2, decide_true, Bool.and_self]
    unfold at1R at e1
    rw [hep] at e1
    rw [e1]
    exact (bd_sq k.bd).1 e2
   | false => exact ⟨sb0, sb1⟩
  have h3 : (decide (0 ≤ at1R p.f p.zs p.pa m.a m.b) && decide (at1R p.f p.zs p.pa m.a m.b < Int.ofNat p.zs.length)) = true := by simp; omega
  rw [h1, h2]
  simp only [Bool.not_true, Bool.not_false, cond_false, cond_true, needO_true]
  have hj : ∀ F : Int → Option (Int × Int × Int), joinO (bif decide (absP (p.zs.getD m.a.toNat 0) = 1) && decide (m.b = p.pa) then some (.inl (IntKind.i64.wrap (IntKind.i64.wrap (m.a - m.a.tmod p.f) + m.b.tmod p.f))) else some (.inl m.b)) F = F (at1R p.f p.zs p.pa m.a m.b) := by
   intro F
   unfold at1R epB
   cases (decide (absP (p.zs.getD m.a.toNat 0) = 1) && decide (m.b = p.pa)) <;> rfl
  refine (hj _).trans ?_
  rw [h3]
  simp only [needO_true]
  unfold at2R capR
  by_cases hz : p.zs.getD (at1R p.f p.zs p.pa m.a m.b).toNat 0 = 0
  ·rw [decide_eq_true hz, hz]; rfl
  ·rw [decide_eq_false hz]; rfl
theorem pcas_eq (o : PsH p) (hmv : mvB p.f p.r m.a m.b m.p = true) : pcas p m = some (bif canM p m.a m.b m.p then (!decide (cgL p.f p.r p.zs p.bl p.ca m.a m.b m.p = 0), 0) else (false, 10)) := by
 have hm : (⟨m.a, m.b, m.p⟩ : Mov) = m := rfl
 unfold pcas
 simp only [List.drop_zero, List.take_length, psn_eta', hm, pis_eq o hmv, callO_some, decide_true, Bool.not_true, cond_false, pk_eq, Option.getD_some]
 cases hc : canM p m.a m.b m.p with
 | false => rfl
 | true =>
  have k := can_mvok o hc
  obtain ⟨⟨sa0, sa1⟩, _⟩ := k.sq
  have h1 : (decide (0 ≤ m.a) && decide (m.a < Int.ofNat p.zs.length)) = true := by simp; omega
  obtain ⟨d, hd, he⟩ := k.castles
  rw [hd, h1]
  simp only [Bool.not_true, cond_false, cond_true, callO_some, needO_true]
  exact congrArg (fun b => some (b, (0 : Int))) he
theorem pcap_bad (hl : p.zs.length ≤ 64) (h : (!p.ok || !mvB p.f p.r m.a m.b m.p) = true) : pcap p m = some (0, 0, 2) ∧ pcas p m = some (false, 2) := by
 have hm : (⟨m.a, m.b, m.p⟩ : Mov) = m := rfl
 constructor
 ·unfold pcap
  simp only [List.drop_zero, List.take_length, psn_eta', hm, pis_bad hl h, callO_some]
  rfl
 ·unfold pcas
  simp only [List.drop_zero, List.take_length, psn_eta', hm, pis_bad hl h, callO_some]
  rfl
theorem lawPC_true (hca : 0 ≤ p.ca) : lawPC p m = some true := by
 have hm : (⟨m.a, m.b, m.p⟩ : Mov) = m := rfl
 unfold lawPC
 simp only [List.drop_zero, List.take_length, psn_eta', hm]
 rw [show small9 p = some (decide (Int.ofNat p.zs.length ≤ 64)) from rfl, callO_some]
 by_cases hl : p.zs.length ≤ 64
 ·have h1 : decide (Int.ofNat p.zs.length ≤ 64) = true := by simp; omega
  have h2 : decide (p.zs.length ≤ 64) = true := by simpa using hl
  rw [h1, h2, psn_valid hl hca]
  cases hb : (!p.ok || !mvB p.f p.r m.a m.b m.p) with
  | true =>
   obtain ⟨e1, e2⟩ := pcap_bad (m := m) hl hb
   rw [e1, e2]; rfl
  | false =>
   simp only [Bool.or_eq_false_iff, Bool.not_eq_false'] at hb
   have o := psh hl hca hb.1
   rw [pcap_eq o hb.2, pcas_eq o hb.2, uis_eq o hb.2]
   simp only [Bool.not_true, cond_false, callO_some, needO_true]
   cases hc : canM p m.a m.b m.p with
   | false => rfl
   | true =>
    have k := can_mvok o hc
    obtain ⟨c1, c2, c3, c4⟩ := k.cap
    have hv : (validBd p.f p.r p.zs && castL p.f p.r p.zs p.ca && validB p.f p.r m.a && validB p.f p.r m.b) = true := by rw [k.bd, cast_eq k.ca, k.cast, k.ha, k.hb]; rfl
    simp only [cond_true, Bool.not_true, cond_false, hv, Bool.and_self, needO_true, Bool.or_true, c1, decide_true, Bool.and_true]
    by_cases h0 : 0 ≤ at2R p.f p.zs p.pa m.a m.b
    ·obtain ⟨g1, _, _, g4⟩ := c2 h0
     have hlt : decide (at2R p.f p.zs p.pa m.a m.b < Int.ofNat p.zs.length) = true := decide_eq_true g1
     rw [decide_eq_true h0, hlt]
     simp only [Bool.and_self, needO_true, cond_true, joinO_inl]
     have : decide (capR p.f p.zs p.pa m.a m.b = p.zs.getD (at2R p.f p.zs p.pa m.a m.b).toNat 0) = true := by rw [g4]; exact decide_eq_true rfl
     rw [this]
     cases decide (cgL p.f p.r p.zs p.bl p.ca m.a m.b m.p = 0) <;> rfl
    ·obtain ⟨_, g2, _⟩ := c3 (by omega)
     rw [decide_eq_false h0, g2]
     cases decide (cgL p.f p.r p.zs p.bl p.ca m.a m.b m.p = 0) <;> rfl
 ·have h1 : decide (Int.ofNat p.zs.length ≤ 64) = false := by simp; omega
  rw [h1]; rfl
end
end Go.Ab

set_option maxRecDepth 100000
namespace Go.Ab
open Go.Proofs
theorem getD_setn {l : List Int} {j i : Nat} {v : Int} (hi : i < l.length) : (l.set j v).getD i 0 = if i = j then v else l.getD i 0 := by
 by_cases e : i = j
 ·subst e; simp [List.getD, hi]
 ·rw [if_neg e]; simp [List.getD, List.getElem?_set_ne (Ne.symm e)]
theorem orth_setn {f r : Int} {zs : List Int} {j : Nat} {v : Int} (h : orthBd f r zs = true) (hv : -6 ≤ v ∧ v ≤ 6) : orthBd f r (zs.set j v) = true := by
 have := orth_set (j := (j : Int)) h hv
 rwa [Int.toNat_natCast] at this
theorem getD_bd {f r : Int} {zs : List Int} (h : orthBd f r zs = true) (i : Nat) : -6 ≤ zs.getD i 0 ∧ zs.getD i 0 ≤ 6 := by
 by_cases hi : i < zs.length
 ·exact (orth_valid h).2.2.2 _ (getD_mem hi)
 ·simp [List.getD, List.getElem?_eq_none (by omega : zs.length ≤ i)]
section
variable {p : Psn} {m : Mov}
theorem MvOk.z1 (o : MvOk p m) : orthBd p.f p.r (zs1R p.f p.zs p.pa m.a m.b) = true ∧ ∀ i : Nat, i < p.zs.length → (zs1R p.f p.zs p.pa m.a m.b).getD i 0 = p.zs.getD i 0 ∨ ((zs1R p.f p.zs p.pa m.a m.b).getD i 0 = 0 ∧ isP (p.zs.getD i 0) p.bl = false) := by
 unfold zs1R
 cases hc : decide (0 ≤ at2R p.f p.zs p.pa m.a m.b) with
 | false => exact ⟨o.h, fun i _ => .inl rfl⟩
 | true =>
  obtain ⟨c1, c2, c3, _⟩ := o.cap.2.1 (of_decide_eq_true hc)
  refine ⟨orth_setn o.h (by omega), fun i hi => ?_⟩
  rw [cond_true, getD_setn hi]
  by_cases e : i = (at2R p.f p.zs p.pa m.a m.b).toNat
  ·right
   rw [if_pos e, e]
   refine ⟨rfl, ?_⟩
   rw [isP_sgn] at c2 ⊢
   rw [of_decide_eq_true c2]
   cases p.bl <;> decide
  ·left; rw [if_neg e]
theorem MvOk.z2 (o : MvOk p m) : orthBd p.f p.r (zs2R p.f p.zs p.pa m.a m.b) = true ∧ ∀ i : Nat, i < p.zs.length → (zs2R p.f p.zs p.pa m.a m.b).getD i 0 = if i = m.b.toNat then p.zs.getD m.a.toNat 0 else if i = m.a.toNat then 0 else (zs1R p.f p.zs p.pa m.a m.b).getD i 0 := by
 have hl := zs1_len (f := p.f) (zs := p.zs) (pa := p.pa) (a := m.a) (b := m.b)
 refine ⟨orth_setn (orth_setn o.z1.1 (by omega)) (getD_bd o.h _), fun i hi => ?_⟩
 unfold zs2R
 rw [getD_setn (by rw [List.length_set, hl]; exact hi), getD_setn (by rw [hl]; exact hi)]
end
end Go.Ab

set_option maxRecDepth 100000
namespace Go.Ab
open Go.Proofs
def fR4 (k1 k2 k3 k4 : Bool) : Int := bif k4 then u8or (bif k3 then u8or (bif k2 then u8or (bif k1 then u8or 0 1 else 0) 2 else (bif k1 then u8or 0 1 else 0)) 4 else (bif k2 then u8or (bif k1 then u8or 0 1 else 0) 2 else (bif k1 then u8or 0 1 else 0))) 8 else (bif k3 then u8or (bif k2 then u8or (bif k1 then u8or 0 1 else 0) 2 else (bif k1 then u8or 0 1 else 0)) 4 else (bif k2 then u8or (bif k1 then u8or 0 1 else 0) 2 else (bif k1 then u8or 0 1 else 0)))
def gR1 (ca bit : Int) (k : Bool) : Int := bif decide ((IntKind.u8.wrap (ca.tdiv bit)).tmod 2 = 1) && k then IntKind.u8.wrap (ca - bit) else ca
theorem rights_all : ∀ ca : _root_.Fin 16, ∀ a1 a2 a3 a4 b1 b2 b3 b4 : Bool, u8andn (ca.val : Int) (u8or (fR4 a1 a2 a3 a4) (fR4 b1 b2 b3 b4)) = gR1 (gR1 (gR1 (gR1 (ca.val : Int) 1 (a1 || b1)) 2 (a2 || b2)) 4 (a3 || b3)) 8 (a4 || b4) := by decide +kernel
theorem rights_eq {ca a b : Int} (h : 0 ≤ ca ∧ ca ≤ 15) : afC ca a b = caR ca a b := by
 obtain ⟨q1, q2, q3, q4, q5, q6, q7, q8⟩ := sqs
 obtain ⟨p1, p2, p3, p4, p5, p6, p7, p8⟩ := sq01
 have hl : ∀ at_, lostR at_ = fR4 (decide (4 = at_) || decide (7 = at_)) (decide (4 = at_) || decide (0 = at_)) (decide (60 = at_) || decide (63 = at_)) (decide (60 = at_) || decide (56 = at_)) := fun at_ => rfl
 have hs : ∀ c bit k q, sqW bit 0 = k → sqW bit 2 = q → afS c a b bit = gR1 c bit ((decide (k = a) || decide (q = a)) || (decide (k = b) || decide (q = b))) := by
  intro c bit k q h0 h2
  unfold afS gR1 hasL
  rw [h0, h2]
  unfold hasL hasL
  simp only [Bool.or_false]
 have := rights_all ⟨ca.toNat, by omega⟩ (decide (4 = a) || decide (7 = a)) (decide (4 = a) || decide (0 = a)) (decide (60 = a) || decide (63 = a)) (decide (60 = a) || decide (56 = a)) (decide (4 = b) || decide (7 = b)) (decide (4 = b) || decide (0 = b)) (decide (60 = b) || decide (63 = b)) (decide (60 = b) || decide (56 = b))
 unfold afC caR
 rw [hl, hl, hs _ 1 4 7 p1 q1, hs _ 2 4 0 p3 q3, hs _ 4 60 63 p5 q5, hs _ 8 60 56 p7 q7]
 dsimp only at this
 rw [show ((ca.toNat : Nat) : Int) = ca by omega] at this
 exact this.symm
section
variable {p : Psn} {m : Mov}
theorem MvOk.pas (o : MvOk p m) : afPa p.f p.r p.zs m.a m.b = paR p.f p.zs m.a m.b := by
 unfold afPa paR twoB
 rw [o.kd]
 cases hk : decide (kind8 (p.zs.getD m.a.toNat 0) = 1) with
 | false => rfl
 | true =>
  obtain ⟨a0, a1, a2, a3, a4, a5, a6⟩ := px_bd o.ha
  obtain ⟨b0, b1, b2, b3, b4, b5, _⟩ := px_bd o.hb
  have hla := valid_lt o.ha
  have hlb := valid_lt o.hb
  have hfw : fwd p.bl = 1 ∨ fwd p.bl = -1 := by cases p.bl <;> simp [fwd]
  rw [pc_w o.hb o.ha, pc_w o.ha o.hb, a0, b0, w64_id (n := m.b - m.a) (by omega) (by omega), w64_id (n := 2 * p.f) (by omega) (by omega), w64_id (n := -2 * p.f) (by omega) (by omega)]
  simp only [Bool.true_and]
  have hdiff : m.b - m.a = (px p.f m.b - px p.f m.a) + (py p.f m.b * p.f - py p.f m.a * p.f) := by omega
  have one : ∀ d : Int, (d = 1 ∨ d = -1) → py p.f m.b = py p.f m.a + d → (-1 ≤ px p.f m.b - px p.f m.a ∧ px p.f m.b - px p.f m.a ≤ 1) → (decide (py p.f m.a - py p.f m.b = 2) || decide (py p.f m.b - py p.f m.a = 2)) = false ∧ (decide (m.b - m.a = 2 * p.f) || decide (m.b - m.a = -2 * p.f)) = false := by
   intro d hd hy hx
   have : py p.f m.b * p.f = py p.f m.a * p.f + d * p.f := by rw [hy, Int.add_mul]
   constructor
   ·rw [decide_eq_false (by omega), decide_eq_false (by omega)]; rfl
   ·rcases hd with rfl | rfl <;> rw [decide_eq_false (by omega), decide_eq_false (by omega)] <;> rfl
  rcases (o.steps (of_decide_eq_true hk)).1 with h | h
  ·obtain ⟨e1, h2⟩ := step_sq o.ha o.hb h
   rcases h2 with e2 | ⟨e2, _, _, e5, _⟩
   ·obtain ⟨g1, g2⟩ := one (fwd p.bl) hfw e2 (by omega)
    rw [g1, g2]; rfl
   ·have hmul : py p.f m.b * p.f = py p.f m.a * p.f + 2 * (fwd p.bl * p.f) := by rw [e2, Int.add_mul, Int.mul_assoc]
    have hd2 : m.b - m.a = 2 * (fwd p.bl * p.f) := by omega
    have g1 : (decide (py p.f m.a - py p.f m.b = 2) || decide (py p.f m.b - py p.f m.a = 2)) = true := by
     rcases hfw with e | e
     ·rw [decide_eq_true (p := py p.f m.b - py p.f m.a = 2) (by omega), Bool.or_true]
     ·rw [decide_eq_true (p := py p.f m.a - py p.f m.b = 2) (by omega), Bool.true_or]
    have g2 : (decide (m.b - m.a = 2 * p.f) || decide (m.b - m.a = -2 * p.f)) = true := by
     rcases hfw with e | e <;> rw [e] at hd2
     ·rw [decide_eq_true (p := m.b - m.a = 2 * p.f) (by omega), Bool.true_or]
     ·rw [decide_eq_true (p := m.b - m.a = -2 * p.f) (by omega), Bool.or_true]
    rw [g1, g2, cond_true, cond_true, hd2, Int.mul_tdiv_cancel_left _ (by decide)]
    have hr : m.b - fwd p.bl * p.f = m.a + fwd p.bl * p.f := by omega
    have hlc := valid_lt e5
    rw [hr] at e5 hlc
    rw [w64_id (n := fwd p.bl * p.f) (by omega) (by omega), w64_id (n := m.a + fwd p.bl * p.f) (by omega) (by omega)]
    have hy : py p.f m.a + py p.f m.b = 2 * (py p.f m.a + fwd p.bl) := by omega
    rw [w64_id (n := py p.f m.a + py p.f m.b) (by omega) (by omega), hy, Int.mul_tdiv_cancel_left _ (by decide), w64_id (n := py p.f m.a + fwd p.bl) (by omega) (by omega)]
    obtain ⟨_, c1, c2, c3, c4, c5, _⟩ := px_bd e5
    have hu := pl_uniq (f := p.f) (by omega) c1 c2 a1 a2 (show px p.f (m.a + fwd p.bl * p.f) + py p.f (m.a + fwd p.bl * p.f) * p.f = px p.f m.a + (py p.f m.a + fwd p.bl) * p.f by rw [c5, Int.add_mul]; omega)
    have ho : onB p.f p.r (m.a.tmod p.f) (py p.f m.a + fwd p.bl) = true := on_mk a1 a2 (by omega) (by omega)
    exact (num_iff (valid_vs o.ha) ho e5).2 ⟨hu.1, hu.2⟩
  ·have hat := h.1
   simp only [pawnC, Bool.and_eq_true, Bool.or_eq_true, decide_eq_true_eq] at hat
   rw [pc_w o.ha o.hb] at hat
   have e1 : m.a.tmod p.f = px p.f m.a := rfl
   have e2 : m.b.tmod p.f = px p.f m.b := rfl
   rw [e1, e2, w64_id (n := px p.f m.b - px p.f m.a) (by omega) (by omega), w64_id (n := px p.f m.a - px p.f m.b) (by omega) (by omega)] at hat
   obtain ⟨g1, g2⟩ := one (fwd p.bl) hfw (by omega) (by omega)
   rw [g1, g2]; rfl
theorem MvOk.half (o : MvOk p m) : afHa p.f p.r p.zs p.pa p.ha m.a m.b = haR p.f p.zs p.pa p.ha m.a m.b := by
 unfold afHa haR
 rw [o.kd, o.cap.1]
 have : decide (0 ≤ at2R p.f p.zs p.pa m.a m.b) = !decide (capR p.f p.zs p.pa m.a m.b = 0) := by
  by_cases h : 0 ≤ at2R p.f p.zs p.pa m.a m.b
  ·rw [decide_eq_true h, decide_eq_false (o.cap.2.2.2 h)]; rfl
  ·rw [decide_eq_false h, decide_eq_true (o.cap.2.2.1 (by omega)).2.1]; rfl
 rw [this]
theorem MvOk.caB (o : MvOk p m) : 0 ≤ p.ca ∧ p.ca ≤ 15 := by
 have := o.cast
 simp only [castB, Bool.and_eq_true, decide_eq_true_eq] at this
 exact ⟨o.ca, by omega⟩
theorem MvOk.after (o : MvOk p m) : afP p m = ⟨p.f, p.r, zs3R p.f p.r p.zs p.bl p.ca p.pa m.a m.b m.p, !p.bl, caR p.ca m.a m.b, paR p.f p.zs m.a m.b, haR p.f p.zs p.pa p.ha m.a m.b, fuR p.bl p.fu⟩ := by
 unfold afP
 rw [o.af, o.pas, o.half, rights_eq o.caB]
end
end Go.Ab

set_option maxRecDepth 100000
namespace Go.Ab
open Go.Proofs
def CastIs (p : Psn) (m : Mov) (bl : Bool) (bit k to cor cro : Int) : Prop := p.bl = bl ∧ u8and p.ca bit ≠ 0 ∧ m.a = k ∧ m.b = to ∧ wCor (wayN p.zs p.bl p.ca m.a m.b) = cor ∧ wCro (wayN p.zs p.bl p.ca m.a m.b) = cro ∧ p.zs.getD cro.toNat 0 = 0 ∧ p.zs.getD to.toNat 0 = 0
section
variable {p : Psn} {m : Mov}
theorem MvOk.cast4 (o : MvOk p m) (hn : wayN p.zs p.bl p.ca m.a m.b ≠ 4) : p.f = 8 ∧ p.r = 8 ∧ p.zs.length = 64 ∧ kind8 (p.zs.getD m.a.toNat 0) = 6 ∧ m.p = 0 ∧ cstR p.f p.r p.zs p.bl p.ca p.pa m.a m.b m.p = true ∧
  (CastIs p m false 1 4 6 7 5 ∨ CastIs p m false 2 4 2 0 3 ∨ CastIs p m true 4 60 62 63 61 ∨ CastIs p m true 8 60 58 56 59) := by
 obtain ⟨hk, hp0, hg⟩ := o.wayg hn
 obtain ⟨h88, h64, _⟩ := cast_88 (a := m.a) (b := m.b) (bl := p.bl) o.bd o.cast hn
 simp only [is88, Bool.and_eq_true, decide_eq_true_eq] at h88
 have hw : wayB p.f p.r p.zs (wayN p.zs p.bl p.ca m.a m.b) = true := by
  have := o.so
  simp only [err3, hg, Bool.not_false, Bool.true_and, Bool.or_eq_false_iff, Bool.not_eq_false'] at this
  exact this.2.1
 refine ⟨h88.1, h88.2, h64, hk, hp0, by unfold cstR; rw [hw, hg]; rfl, ?_⟩
 have hbd := o.bd
 rw [h88.1, h88.2] at hw hbd
 have key : ∀ {n : Nat} {l : List Int}, wayN p.zs p.bl p.ca m.a m.b = n → validB 8 8 (wFrom n) = true → validB 8 8 (wCor n) = true → (lineR 8 (wFrom n) (wCor n)).2.2 = true → betwL 8 8 (wFrom n) (wCor n) = l → emptyB p.zs l = true := by
  rintro n l hn v1 v2 v3 rfl
  rw [hn] at hw
  simp only [wayB, Bool.and_eq_true] at hw
  rw [empty_eq hbd o.hl v1 v2 v3]
  exact hw.2
 unfold CastIs
 obtain ⟨_, hsq⟩ := way_is hn
 rcases hsq with ⟨hn, e1, e2, e3, e4⟩ | ⟨hn, e1, e2, e3, e4⟩ | ⟨hn, e1, e2, e3, e4⟩ | ⟨hn, e1, e2, e3, e4⟩
 ·have k1 := key (l := [5, 6]) hn (by decide) (by decide) (by decide) (by kernel_rfl)
  simp only [emptyB, List.all_cons, List.all_nil, Bool.and_true, Bool.and_eq_true, decide_eq_true_eq] at k1
  exact .inl ⟨e1, e2, e3, e4, by rw [hn]; rfl, by rw [hn]; rfl, k1.1, k1.2⟩
 ·have k1 := key (l := [3, 2, 1]) hn (by decide) (by decide) (by decide) (by kernel_rfl)
  simp only [emptyB, List.all_cons, List.all_nil, Bool.and_true, Bool.and_eq_true, decide_eq_true_eq] at k1
  exact .inr (.inl ⟨e1, e2, e3, e4, by rw [hn]; rfl, by rw [hn]; rfl, k1.1, k1.2.1⟩)
 ·have k1 := key (l := [61, 62]) hn (by decide) (by decide) (by decide) (by kernel_rfl)
  simp only [emptyB, List.all_cons, List.all_nil, Bool.and_true, Bool.and_eq_true, decide_eq_true_eq] at k1
  exact .inr (.inr (.inl ⟨e1, e2, e3, e4, by rw [hn]; rfl, by rw [hn]; rfl, k1.1, k1.2⟩))
 ·have k1 := key (l := [59, 58, 57]) hn (by decide) (by decide) (by decide) (by kernel_rfl)
  simp only [emptyB, List.all_cons, List.all_nil, Bool.and_true, Bool.and_eq_true, decide_eq_true_eq] at k1
  exact .inr (.inr (.inr ⟨e1, e2, e3, e4, by rw [hn]; rfl, by rw [hn]; rfl, k1.1, k1.2.1⟩))
end
end Go.Ab

set_option maxRecDepth 100000
namespace Go.Ab
open Go.Proofs
section
variable {p : Psn} {m : Mov}
theorem MvOk.kO (o : MvOk p m) : ∃ K : Nat, K < p.zs.length ∧ p.zs.getD K 0 = kgP (!p.bl) ∧ (∀ i : Nat, i < p.zs.length → p.zs.getD i 0 = kgP (!p.bl) → i = K) ∧ attR p.f p.r p.zs K p.bl = 0 := by
 have hk := o.kings
 simp only [kingsB, Bool.and_eq_true, decide_eq_true_eq] at hk
 obtain ⟨⟨_, h2⟩, h3⟩ := hk
 unfold checkersR at h2 h3
 cases hc : decide ((kingR p.f p.r p.zs (!p.bl)).2 = 0) with
 | false =>
  rw [hc, cond_false] at h2
  exact absurd h2 (of_decide_eq_false hc)
 | true =>
  rw [hc, cond_true, Bool.not_not] at h3
  obtain ⟨K, k1, k2, k3, k4⟩ := king_uniq o.h o.hl (of_decide_eq_true hc)
  rcases king_iff (bl := !p.bl) o.h o.hl with ⟨h5, _⟩ | ⟨h5, _, _⟩
  ·omega
  ·rw [h5, k3] at h3
   exact ⟨K, k1, k2, k4, h3⟩
theorem MvOk.attacks (o : MvOk p m) (hz : p.zs.getD m.b.toNat 0 ≠ 0) : m.a ∈ attL p.f p.r p.zs m.b p.bl := by
 obtain ⟨⟨sa0, sa1⟩, ⟨sb0, sb1⟩⟩ := o.sq
 refine mem_attL.2 ⟨sa0, sa1, o.hp, ?_⟩
 unfold attB4
 cases hk : decide (kind8 (p.zs.getD m.a.toNat 0) = 1) with
 | true =>
  rw [cond_true]
  have hneg : decide (p.zs.getD m.a.toNat 0 < 0) = p.bl := by
   have hp := o.hp
   unfold isP at hp
   cases hb : p.bl <;> rw [hb] at hp <;> simp only [Bool.and_true, Bool.not_true, Bool.and_false, Bool.or_false, Bool.not_false, Bool.false_or, decide_eq_true_eq] at hp
   ·simp only [decide_eq_false_iff_not]; omega
   ·simp only [decide_eq_true_eq]; exact hp
  rw [hneg, has_mem, mem_filtB]
  have hlt := valid_lt o.hb
  refine ⟨hlt.1, by omega, ?_⟩
  rcases (o.steps (of_decide_eq_true hk)).1 with h | h
  ·exfalso
   obtain ⟨hou, hob⟩ := occ_bt o.bd o.hl
   have hocc : hasB (occR p.f p.r p.zs) m.b = true := by
    rw [has_bt' hou o.hb, hob, decide_eq_true (show m.b.toNat < p.zs.length by omega), decide_eq_false hz]; rfl
   simp only [stepsB, Bool.or_eq_true, Bool.and_eq_true, decide_eq_true_eq, Bool.not_eq_true'] at h
   rcases h with ⟨h1, h2⟩ | ⟨⟨⟨⟨h1, _⟩, _⟩, _⟩, h2⟩ <;> rw [← h1, hocc] at h2 <;> cases h2
  ·exact h.1
 | false =>
  rw [cond_false, decide_eq_false o.hab, Bool.not_false, Bool.true_and]
  have hn : wayN p.zs p.bl p.ca m.a m.b = 4 := by
   refine Decidable.byContradiction fun hn => hz ?_
   obtain ⟨_, _, _, _, _, _, hs⟩ := o.cast4 hn
   rcases hs with ⟨_, _, _, e1, _, _, _, e2⟩ | ⟨_, _, _, e1, _, _, _, e2⟩ | ⟨_, _, _, e1, _, _, _, e2⟩ | ⟨_, _, _, e1, _, _, _, e2⟩ <;> rw [e1] <;> exact e2
  have hso := o.so
  have hw : wayB p.f p.r p.zs 4 = false := rfl
  simp only [err3, hn, hw, Bool.not_false, Bool.true_or, Bool.and_true, Bool.or_eq_false_iff, Bool.not_eq_false'] at hso
  have hg := hso.2
  rw [goes_eq (_ca := p.ca) o.h o.hl o.ha o.hb o.hp, hk, cond_false, Bool.and_eq_true] at hg
  exact hg.2
theorem MvOk.noking (o : MvOk p m) (h : 0 ≤ at2R p.f p.zs p.pa m.a m.b) : p.zs.getD (at2R p.f p.zs p.pa m.a m.b).toNat 0 ≠ kgP (!p.bl) := by
 obtain ⟨c1, c2, c3, c4⟩ := o.cap.2.1 h
 intro hkg
 cases he : epB p.zs p.pa m.a m.b with
 | true =>
  simp only [epB, Bool.and_eq_true, decide_eq_true_eq] at he
  rw [o.kd] at he
  obtain ⟨e1, _, e3, _⟩ := o.ep he.1 he.2
  rw [c4, e1, e3] at hkg
  revert hkg; cases p.bl <;> decide
 | false =>
  have h1 : at2R p.f p.zs p.pa m.a m.b = m.b := by rw [c4]; unfold at1R; rw [he]; rfl
  rw [h1] at hkg
  obtain ⟨K, k1, k2, k3, k4⟩ := o.kO
  obtain ⟨⟨sa0, sa1⟩, ⟨sb0, sb1⟩⟩ := o.sq
  have hK := k3 m.b.toNat (by omega) hkg
  have ha := o.attacks (by rw [hkg]; cases p.bl <;> decide)
  have hb := (attR_bt (bl := p.bl) o.h o.hl o.hb).2 m.a.toNat
  rw [show ((m.a.toNat : Nat) : Int) = m.a by omega, decide_eq_true ha, show m.b = ((K : Nat) : Int) by omega, k4, bt_0] at hb
  cases hb
theorem MvOk.put (o : MvOk p m) (hp : m.p ≠ 0) : kind8 (p.zs.getD m.a.toNat 0) = 1 ∧ (2 ≤ m.p ∧ m.p ≤ 5) ∧ ((bif p.bl then w8 (0 - m.p) else m.p) = m.p ∨ (bif p.bl then w8 (0 - m.p) else m.p) = -m.p) := by
 have hpr : 2 ≤ m.p ∧ m.p ≤ 5 := o.hpr.resolve_left hp
 refine ⟨?_, hpr, ?_⟩
 ·by_cases h : kind8 (p.zs.getD m.a.toNat 0) = 1
  ·exact h
  ·exact absurd (o.pr0 h) hp
 ·cases p.bl
  ·exact .inl rfl
  ·right; rw [cond_true, w8_in (by omega) (by omega)]; omega
end
end Go.Ab

set_option maxRecDepth 100000
set_option maxHeartbeats 4000000
namespace Go.Ab
open Go.Proofs
variable {kCa kDb : Bool}
def lawPH_s1 : Mov → List (List Int) × Int → Bool × Int → Option (Bool × Int ⊕ Bool ⊕ Unit ⊕ Bool) := fun (m : Mov) (y3 : List (List Int) × Int) (s8 : Bool × Int) => let x44 := decide (s8.2 < Int.ofNat y3.1.length); let x48 := y3.1.getD s8.2.toNat []; let x45 := x48.getD 2 0; let x46 := x48.getD 1 0; let x47 := x48.getD 0 0; bif x44 then needO (decide (0 ≤ s8.2) && x44) (some (Sum.inl (s8.1 || decide (x47 = m.a) && (decide (x46 = m.b) && decide (x45 = m.p)), IntKind.i64.wrap (s8.2 + 1)))) else some (Sum.inr (Sum.inl s8.1))
def lawPH_s2 : Psn → List (List Int) × Int → Option (List (List Int) × Int ⊕ List (List Int) ⊕ Bool) := fun (p : Psn) (s22 : List (List Int) × Int) => bif decide (s22.2 < Int.ofNat p.zs.length) then callO (pfrom (Psn.mk p.f p.r (List.take p.zs.length (List.drop 0 p.zs)) p.bl p.ca p.pa p.ha p.fu) s22.2) ([], 0) fun (y23 : List (List Int) × Int) => let x52 := (s22.1.length + y23.1.length) * 24; bif !decide (y23.2 = 0) then escO (escO (some false)) else needO (decide (x52 ≤ 140737488355328) && !Nat.beq 3 (1 - hlen ([] ++ [O.ints false IntKind.i8 (List.take p.zs.length (List.drop 0 p.zs))]) + 3 + 1)) (some (Sum.inl (s22.1 ++ List.take y23.1.length (List.drop 0 y23.1), IntKind.i64.wrap (s22.2 + 1)))) else some (Sum.inr (Sum.inl s22.1))
def lawPH_s3 : Psn → List (List Int) × Int → Int → Option (Int ⊕ Unit ⊕ Bool) := fun (p : Psn) (y3 : List (List Int) × Int) => let x54 := Psn.mk p.f p.r (List.take p.zs.length (List.drop 0 p.zs)) p.bl p.ca p.pa p.ha p.fu; fun (s35 : Int) => let x58 := Mov.mk ((y3.1.getD s35.toNat []).getD 0 0) ((y3.1.getD s35.toNat []).getD 1 0) ((y3.1.getD s35.toNat []).getD 2 0); let x59 := decide (s35 < Int.ofNat y3.1.length); let x56 := ((pcap x54 x58).getD (0, 0, 0)).snd.2; let x57 := ((pcap x54 x58).getD (0, 0, 0)).fst; bif x59 then needO (decide (0 ≤ s35) && x59) (callO (pcap x54 x58) Inhabited.default fun (_y36 : Int × Int × Int) => bif !decide (x56 = 0) || decide (x57 = 6) || decide (x57 = -6) then escO (escO (some false)) else some (Sum.inl (IntKind.i64.wrap (s35 + 1)))) else some (Sum.inr (Sum.inl ()))
def lawPH (p : Psn) (m : Mov) : Option (Bool) := let x66 := List.take p.zs.length (List.drop 0 p.zs); let x64 := Psn.mk p.f p.r x66 p.bl p.ca p.pa p.ha p.fu; let x65 := x66.length; let x62 := decide (x65 ≤ 64); let x63 := mkE5 x64 (Mov.mk m.a m.b m.p); callO (small9 x64) false fun (y2 : Bool) => needO (!!!y2 || x62) (bif !y2 || !validL x64 then some true else callO (pmoves x64) ([], 0) fun (y3 : List (List Int) × Int) => bif !decide (y3.2 = 0) then some false else joinO (bif mvB p.f p.r m.a m.b m.p then callO (pis x64 (Mov.mk m.a m.b m.p)) (false, 0) fun (y4 : Bool × Int) => needO x62 (loopO (lawPH_s1 m y3) (fun (s16 : Bool) => bif !decide (y4.2 = 0) || !y4.1 == s16 || !y4.1 == (decide (x63 = 0) || decide (x63 = 90) || decide (x63 = 7)) then escO (some false) else some (Sum.inl ())) 1000000 (false, 0)) else some (Sum.inl ())) fun (_s17 : Unit) => loopO (lawPH_s2 p) (fun (s31 : List (List Int)) => loopO (lawPH_s3 p y3) (fun (_s41 : Unit) => callO (msame (List.take s31.length (List.drop 0 s31)) (List.take y3.1.length (List.drop 0 y3.1))) false fun (y42 : Bool) => some (y42 && true)) 1000000 0) 1000000 ([], 0))
def lawPH_V (R : Bool) : V := Bb R
def lawPH_N (_R : Bool) : List O := []
theorem lawPH_snd (p : Psn) (m : Mov) {r} (hr : lawPH p m = some r) : FnSound (GGx true true) PP 11 [.agg [.int .i64 p.f, .int .i64 p.r, .sl 0 0 p.zs.length none, Bb p.bl, .int .u8 p.ca, .int .i64 p.pa, .int .i64 p.ha, .int .i64 p.fu], .agg [.int .i64 m.a, .int .i64 m.b, .int .i8 m.p]] [.ints false .i8 p.zs] (lawPH_V r) (lawPH_N r) := by
 have hE := cutE (EE_ok (kCa := true) (kDb := true) (cts := [(15, c_make), (21, c_small9), (22, c_known9), (23, c_pmoves), (24, c_pfrom), (25, c_rvalid), (26, c_msame), (30, c_pis), (31, c_rmvalid), (33, c_pcap)]) (inl := []) ⟨c_make_ok, c_small9_ok, c_known9_ok, c_pmoves_ok, c_pfrom_ok, c_rvalid_ok, c_msame_ok, c_pis_ok, c_rmvalid_ok, c_pcap_ok, trivial⟩ trivial)
 refine so_fn hE 2 Tryz.func11 rfl rfl lawPH_V lawPH_N hr ?_ rfl rfl
 unfold lawPH
 refine so_callas (pl (decide_eq_true (win_len rfl)) id) ?_
 refine so_triv (Bool.not_or_self _) ?_
 refine so_as (pi (pl (decide_eq_true (win_len rfl)) id)) ?_
 refine so_triv (Bool.not_or_self _) ?_
 refine so_triv (Bool.or_not_self _) ?_
 refine so_split hE 2 rfl ?_ ?_
 ·refine so_triv rfl ?_
  exact so_ret (fin_bs [] (.inr rfl) rfl rfl rfl rfl rfl)
 refine so_callas (pl (decide_eq_true (win_len rfl)) id) ?_
 refine so_split hE 2 rfl ?_ ?_
 ·exact so_ret (fin_bs [] (.inr rfl) rfl rfl rfl rfl rfl)
 refine so_triv rfl ?_
 refine so_join hE 2 (let x75 := ((pmoves (Psn.mk p.f p.r (List.take p.zs.length (List.drop 0 p.zs)) p.bl p.ca p.pa p.ha p.fu)).getD ([], 0)).fst; fun (s17 : Unit) => ([(2, V.ptr 1 0 0), (4, V.bool false), (5, V.sl 2 0 x75.length none)], [O.ints false IntKind.i8 p.zs, O.cells true [V.int IntKind.i64 p.f, V.int IntKind.i64 p.r, V.sl 0 0 p.zs.length none, V.bool p.bl, V.int IntKind.u8 p.ca, V.int IntKind.i64 p.pa, V.int IntKind.i64 p.ha, V.int IntKind.i64 p.fu], O.rows true [IntKind.i64, IntKind.i64, IntKind.i8] x75])) rfl ?_ ?_ (fun s17 => ?_)
 ·refine so_callas (pl (decide_eq_true (win_len rfl)) id) ?_
  refine so_as (pl (decide_eq_true (win_len rfl)) id) ?_
  refine so_loop hE 2 (let x79 := Psn.mk p.f p.r (List.take p.zs.length (List.drop 0 p.zs)) p.bl p.ca p.pa p.ha p.fu; let x78 := ((pmoves x79).getD ([], 0)).fst; let x77 := x78.length; fun (s8 : Bool × Int) => ([(2, V.ptr 1 0 0), (3, V.ptr 2 0 0), (4, V.bool false), (5, V.sl 3 0 x77 none), (7, V.bool ((pis x79 (Mov.mk m.a m.b m.p)).getD (false, 0)).fst), (8, V.int IntKind.i64 ((pis x79 (Mov.mk m.a m.b m.p)).getD (false, 0)).snd), (11, V.int IntKind.i64 (mkE5 x79 (Mov.mk m.a m.b m.p))), (12, V.bool s8.1), (57, V.sl 3 0 x77 none), (58, V.int IntKind.i64 (Int.ofNat x77)), (59, V.int IntKind.i64 s8.2)], [O.ints false IntKind.i8 p.zs, O.cells true [V.int IntKind.i64 p.f, V.int IntKind.i64 p.r, V.sl 0 0 p.zs.length none, V.bool p.bl, V.int IntKind.u8 p.ca, V.int IntKind.i64 p.pa, V.int IntKind.i64 p.ha, V.int IntKind.i64 p.fu], O.cells true [V.int IntKind.i64 m.a, V.int IntKind.i64 m.b, V.int IntKind.i8 m.p], O.rows true [IntKind.i64, IntKind.i64, IntKind.i8] x78])) (let x82 := Psn.mk p.f p.r (List.take p.zs.length (List.drop 0 p.zs)) p.bl p.ca p.pa p.ha p.fu; let x81 := ((pmoves x82).getD ([], 0)).fst; fun (s16 : Bool) => ([(2, V.ptr 1 0 0), (4, V.bool false), (5, V.sl 2 0 x81.length none), (7, V.bool ((pis x82 (Mov.mk m.a m.b m.p)).getD (false, 0)).fst), (8, V.int IntKind.i64 ((pis x82 (Mov.mk m.a m.b m.p)).getD (false, 0)).snd), (11, V.int IntKind.i64 (mkE5 x82 (Mov.mk m.a m.b m.p))), (12, V.bool s16)], [O.ints false IntKind.i8 p.zs, O.cells true [V.int IntKind.i64 p.f, V.int IntKind.i64 p.r, V.sl 0 0 p.zs.length none, V.bool p.bl, V.int IntKind.u8 p.ca, V.int IntKind.i64 p.pa, V.int IntKind.i64 p.ha, V.int IntKind.i64 p.fu], O.rows true [IntKind.i64, IntKind.i64, IntKind.i8] x81])) (.exit 0) ((Ent.rn [0, 1, 2, 3] [2, 3, 4, 5, 7, 8, 11, 12, 57, 58, 59] rfl rfl rfl rfl rfl)) (fun s8 => ?_) (fun s16 => ?_)
  ·refine so_split hE 2 rfl ?_ ?_
   ·refine so_need ?_
    refine so_triv (Bool.not_or_self _) ?_
    refine so_triv (Bool.not_or_self _) ?_
    refine so_triv (Bool.or_not_self _) ?_
    exact so_next ((Ent.rn [0, 1, 2, 3] [2, 3, 4, 5, 7, 8, 11, 12, 57, 58, 59] rfl rfl rfl rfl rfl))
   exact so_exit ((Ent.rn [0, 1, 3] [2, 4, 5, 7, 8, 11, 12] rfl rfl rfl rfl rfl))
  refine so_triv (Bool.not_or_self _) ?_
  refine so_triv (Bool.not_or_self _) ?_
  refine so_triv (Bool.or_not_self _) ?_
  refine so_triv (Bool.not_or_self _) ?_
  refine so_triv (Bool.not_or_self _) ?_
  refine so_triv (Bool.not_or_self _) ?_
  refine so_triv (Bool.not_or_self _) ?_
  refine so_triv (tt10 _ _) ?_
  refine so_triv (Bool.not_or_self _) ?_
  refine so_triv (Bool.not_or_self _) ?_
  refine so_triv (Bool.not_or_self _) ?_
  refine so_triv (tt10 _ _) ?_
  refine so_triv (Bool.not_or_self _) ?_
  refine so_triv (Bool.not_or_self _) ?_
  refine so_triv (Bool.or_not_self _) ?_
  refine so_split hE 2 rfl ?_ ?_
  ·refine so_esc ?_
   exact so_ret (fin_bs [] (.inr rfl) rfl rfl rfl rfl rfl)
  exact so_nrm ((Ent.rn [0, 1, 2] [2, 4, 5] rfl rfl rfl rfl rfl))
 ·exact so_nrm ((Ent.rn [0, 1, 3] [2, 4, 5] rfl rfl rfl rfl rfl))
 refine so_loop hE 2 (let x84 := ((pmoves (Psn.mk p.f p.r (List.take p.zs.length (List.drop 0 p.zs)) p.bl p.ca p.pa p.ha p.fu)).getD ([], 0)).fst; fun (s22 : List (List Int) × Int) => ([(2, V.ptr 1 0 0), (4, V.bool false), (5, V.sl 2 0 x84.length none), (15, V.sl 3 0 s22.1.length none), (93, V.int IntKind.i64 (Int.ofNat p.zs.length)), (94, V.int IntKind.i64 s22.2)], [O.ints false IntKind.i8 p.zs, O.cells true [V.int IntKind.i64 p.f, V.int IntKind.i64 p.r, V.sl 0 0 p.zs.length none, V.bool p.bl, V.int IntKind.u8 p.ca, V.int IntKind.i64 p.pa, V.int IntKind.i64 p.ha, V.int IntKind.i64 p.fu], O.rows true [IntKind.i64, IntKind.i64, IntKind.i8] x84, O.rows true [IntKind.i64, IntKind.i64, IntKind.i8] s22.1])) (let x86 := ((pmoves (Psn.mk p.f p.r (List.take p.zs.length (List.drop 0 p.zs)) p.bl p.ca p.pa p.ha p.fu)).getD ([], 0)).fst; fun (s31 : List (List Int)) => ([(2, V.ptr 1 0 0), (4, V.bool false), (5, V.sl 2 0 x86.length none), (15, V.sl 3 0 s31.length none)], [O.ints false IntKind.i8 p.zs, O.cells true [V.int IntKind.i64 p.f, V.int IntKind.i64 p.r, V.sl 0 0 p.zs.length none, V.bool p.bl, V.int IntKind.u8 p.ca, V.int IntKind.i64 p.pa, V.int IntKind.i64 p.ha, V.int IntKind.i64 p.fu], O.rows true [IntKind.i64, IntKind.i64, IntKind.i8] x86, O.rows true [IntKind.i64, IntKind.i64, IntKind.i8] s31])) (.exit 2) ((Ent.phT 15 (O.rows true [IntKind.i64, IntKind.i64, IntKind.i8] []) rfl rfl rfl rfl rfl).trans (Ent.rn [0, 1, 2, 3] [2, 4, 5, 15, 93, 94] rfl rfl rfl rfl rfl)) (fun s22 => ?_) (fun s31 => ?_)
 ·refine so_split hE 2 rfl ?_ ?_
  ·refine so_callas (pl (decide_eq_true (win_len rfl)) id) ?_
   refine so_split hE 2 rfl ?_ ?_
   ·refine so_out (by simp) (so_out1 ?_)
    exact so_ret (fin_bs [] (.inr rfl) rfl rfl rfl rfl rfl)
   refine so_as (pb (pl (decide_eq_true rfl) id) id) ?_
   exact so_next ((Ent.rn [0, 1, 2, 5] [2, 4, 5, 15, 93, 94] rfl rfl rfl rfl rfl))
  exact so_exit ((Ent.rn [0, 1, 2, 3] [2, 4, 5, 15] rfl rfl rfl rfl rfl))
 refine so_loop hE 2 (let x89 := ((pmoves (Psn.mk p.f p.r (List.take p.zs.length (List.drop 0 p.zs)) p.bl p.ca p.pa p.ha p.fu)).getD ([], 0)).fst; let x88 := x89.length; fun (s35 : Int) => ([(2, V.ptr 1 0 0), (4, V.bool false), (5, V.sl 2 0 x88 none), (15, V.sl 3 0 s31.length none), (109, V.sl 2 0 x88 none), (110, V.int IntKind.i64 (Int.ofNat x88)), (111, V.int IntKind.i64 s35)], [O.ints false IntKind.i8 p.zs, O.cells true [V.int IntKind.i64 p.f, V.int IntKind.i64 p.r, V.sl 0 0 p.zs.length none, V.bool p.bl, V.int IntKind.u8 p.ca, V.int IntKind.i64 p.pa, V.int IntKind.i64 p.ha, V.int IntKind.i64 p.fu], O.rows true [IntKind.i64, IntKind.i64, IntKind.i8] x89, O.rows true [IntKind.i64, IntKind.i64, IntKind.i8] s31])) (let x91 := ((pmoves (Psn.mk p.f p.r (List.take p.zs.length (List.drop 0 p.zs)) p.bl p.ca p.pa p.ha p.fu)).getD ([], 0)).fst; fun (s41 : Unit) => ([(4, V.bool false), (5, V.sl 1 0 x91.length none), (15, V.sl 2 0 s31.length none)], [O.ints false IntKind.i8 p.zs, O.rows true [IntKind.i64, IntKind.i64, IntKind.i8] x91, O.rows true [IntKind.i64, IntKind.i64, IntKind.i8] s31])) (.exit 4) ((Ent.rn [0, 1, 2, 3] [2, 4, 5, 15, 109, 110, 111] rfl rfl rfl rfl rfl)) (fun s35 => ?_) (fun s41 => ?_)
 ·refine so_split hE 2 rfl ?_ ?_
  ·refine so_need ?_
   refine so_callas (pl (decide_eq_true (win_len rfl)) id) ?_
   refine so_triv (Bool.not_or_self _) ?_
   refine so_triv (Bool.or_not_self _) ?_
   refine so_triv (Bool.not_or_self _) ?_
   refine so_triv (Bool.or_not_self _) ?_
   refine so_split hE 2 rfl ?_ ?_
   ·refine so_out (by simp) (so_out1 ?_)
    exact so_ret (fin_bs [] (.inr rfl) rfl rfl rfl rfl rfl)
   exact so_next ((Ent.rn [0, 1, 2, 3] [2, 4, 5, 15, 109, 110, 111] rfl rfl rfl rfl rfl))
  exact so_exit ((Ent.rn [0, 2, 3] [4, 5, 15] rfl rfl rfl rfl rfl))
 refine so_callas (pl (pa (decide_eq_true (win_len rfl)) (decide_eq_true (win_len rfl))) id) ?_
 refine so_triv (pg rfl) ?_
 refine so_triv (Bool.not_or_self _) ?_
 exact so_ret (fin_bs [] (.inr rfl) rfl rfl rfl rfl rfl)
end Go.Ab

set_option maxRecDepth 100000
namespace Go.Ab
open Go.Proofs
section
variable {p : Psn} {m : Mov}
theorem allL_mem (_o : PsH p) {row : List Int} (h : row ∈ allL p) : ∃ a b pr : Int, row = [a, b, pr] ∧ canM p a b pr = true := by
 unfold allL at h
 obtain ⟨a, _, h⟩ := List.mem_flatMap.1 h
 unfold psL at h
 obtain ⟨b, _, h⟩ := List.mem_flatMap.1 h
 unfold rowsM at h
 obtain ⟨pr, hpr, rfl⟩ := List.mem_map.1 h
 exact ⟨a, b, pr, rfl, (List.mem_filter.1 hpr).2⟩
theorem in_allL (o : PsH p) (hmv : mvB p.f p.r m.a m.b m.p = true) : (allL p).any (rowIs m) = canM p m.a m.b m.p := by
 have hmv' := hmv
 simp only [mvB, Bool.and_eq_true] at hmv'
 have hA := (bd_sq o.bd).1 hmv'.1.1.1
 rw [← in_psL o hmv, Bool.eq_iff_iff, List.any_eq_true, List.any_eq_true]
 constructor
 ·rintro ⟨row, hr, hi⟩
  unfold allL at hr
  obtain ⟨a, ha, hr⟩ := List.mem_flatMap.1 hr
  have hr0 := hr
  unfold psL at hr
  obtain ⟨b, _, hr⟩ := List.mem_flatMap.1 hr
  unfold rowsM at hr
  obtain ⟨pr, _, rfl⟩ := List.mem_map.1 hr
  have hi' := hi
  simp only [rowIs, Bool.and_eq_true, decide_eq_true_eq] at hi'
  have e1 : m.a = a := hi'.1
  exact ⟨_, by rw [e1]; exact hr0, hi⟩
 ·rintro ⟨row, hr, hi⟩
  refine ⟨row, ?_, hi⟩
  unfold allL
  exact List.mem_flatMap.2 ⟨m.a, List.mem_map.2 ⟨m.a.toNat, List.mem_range.2 (by omega), by show ((m.a.toNat : Nat) : Int) = m.a; omega⟩, hr⟩
theorem mk_codes (h : p.ok = true) (hmv : mvB p.f p.r m.a m.b m.p = true) : (decide (mkE5 p m = 0) || decide (mkE5 p m = 90) || decide (mkE5 p m = 7)) = canM p m.a m.b m.p := by
 have h1 : err1 p m = false := by unfold err1; rw [h, hmv]; rfl
 unfold mkE5 canM
 rw [h1, hmv]
 cases isP (p.zs.getD m.a.toNat 0) p.bl with
 | false => rfl
 | true =>
  cases err3 p m with
  | true => rfl
  | false => cases err4 p m <;> cases err5 p m <;> rfl
theorem row_get {l : List (List Int)} {i : Nat} : rowIs m (l.getD i []) = (decide ((l.getD i []).getD 0 0 = m.a) && (decide ((l.getD i []).getD 1 0 = m.b) && decide ((l.getD i []).getD 2 0 = m.p))) := by
 unfold rowIs
 rw [show decide (m.a = (l.getD i []).getD 0 0) = decide ((l.getD i []).getD 0 0 = m.a) from decide_eq_decide.2 eq_comm, show decide (m.b = (l.getD i []).getD 1 0) = decide ((l.getD i []).getD 1 0 = m.b) from decide_eq_decide.2 eq_comm, show decide (m.p = (l.getD i []).getD 2 0) = decide ((l.getD i []).getD 2 0 = m.p) from decide_eq_decide.2 eq_comm]
theorem drop_getD {l : List (List Int)} {i : Nat} (h : i < l.length) : l.drop i = l.getD i [] :: l.drop (i + 1) := by
 rw [List.drop_eq_getElem_cons h]
 simp [List.getD, h]
theorem h1_run {y : List (List Int) × Int} (hl : y.1.length ≤ 100000) {F : Bool → Option (Unit ⊕ Bool)} : ∀ (k fuel i : Nat) (b : Bool), i + k = y.1.length → k < fuel → loopO (lawPH_s1 m y) F fuel (b, (i : Int)) = F (b || (y.1.drop i).any (rowIs m))
 | k, 0, i, _, _, h => absurd h (by omega)
 | 0, fuel + 1, i, b, h, _ => by
  have h1 : decide ((i : Int) < Int.ofNat y.1.length) = false := by simp; omega
  rw [loopO_exit (x := b)]
  ·rw [List.drop_eq_nil_of_le (by omega)]; simp
  ·unfold lawPH_s1
   simp only [h1, cond_false]
 | k + 1, fuel + 1, i, b, h, hf => by
  have h1 : decide ((i : Int) < Int.ofNat y.1.length) = true := by simp; omega
  have h2 : decide ((0 : Int) ≤ i) = true := by simp
  have hs : lawPH_s1 m y (b, (i : Int)) = some (.inl (b || rowIs m (y.1.getD i []), ((i + 1 : Nat) : Int))) := by
   unfold lawPH_s1
   simp only [h1, h2, cond_true, needO_true, Bool.and_self]
   rw [show IntKind.i64.wrap ((i : Int) + 1) = ((i + 1 : Nat) : Int) from w64_id (by omega) (by omega), row_get]
   rfl
  rw [loopO_next hs, h1_run hl k fuel (i + 1) _ (by omega) (by omega), drop_getD (show i < y.1.length by omega), List.any_cons, Bool.or_assoc]
theorem h2_step (o : PsH p) {j : Nat} (hj : j < p.zs.length) {acc : List (List Int)} (h : acc.length ≤ 90000) : lawPH_s2 p (acc, (j : Int)) = some (.inl (acc ++ psL p j, ((j + 1 : Nat) : Int))) := by
 have hl := o.hl
 have h1 : decide ((j : Int) < Int.ofNat p.zs.length) = true := by simp; omega
 have hp := psL_len (p := p) (a := (j : Int)) hl
 have hv : validB p.f p.r (j : Int) = true := (bd_sq o.bd).2 ⟨Int.natCast_nonneg _, Int.ofNat_lt.2 hj⟩
 have h2 : decide ((acc.length + (psL p j).length) * 24 ≤ 140737488355328) = true := by simp; omega
 unfold lawPH_s2
 simp only [List.drop_zero, List.take_length, psn_eta', h1, cond_true, pfrom_eq o hv, callO_some, h2, decide_true, Bool.not_true, cond_false]
 rw [show IntKind.i64.wrap ((j : Int) + 1) = ((j + 1 : Nat) : Int) from w64_id (by omega) (by omega)]
 rfl
theorem h2_run (o : PsH p) {F : List (List Int) → Option Bool} : ∀ (k fuel j : Nat) (acc : List (List Int)), j + k = p.zs.length → k < fuel → acc.length + 320 * k ≤ 90000 →
  loopO (lawPH_s2 p) F fuel (acc, (j : Int)) = F (acc ++ ((List.range' j k).map Int.ofNat).flatMap (psL p))
 | k, 0, j, acc, _, h, _ => absurd h (by omega)
 | 0, fuel + 1, j, acc, h, _, _ => by
  have h1 : decide ((j : Int) < Int.ofNat p.zs.length) = false := by simp; omega
  rw [loopO_exit (x := acc)]
  ·simp
  ·unfold lawPH_s2; simp only [h1, cond_false]
 | k + 1, fuel + 1, j, acc, h, hf, hM => by
  have := psL_len (p := p) (a := (j : Int)) o.hl
  rw [loopO_next (h2_step o (by omega) (by omega)), h2_run o k fuel (j + 1) _ (by omega) (by omega) (by rw [List.length_append]; omega), List.range'_succ, List.map_cons, List.flatMap_cons, List.append_assoc]
  rfl
theorem h2_all (o : PsH p) {F : List (List Int) → Option Bool} : loopO (lawPH_s2 p) F 1000000 ([], 0) = F (allL p) := by
 have hl := o.hl
 have := h2_run o (F := F) p.zs.length 1000000 0 [] (by omega) (by omega) (by simp; omega)
 unfold allL
 rw [List.range_eq_range']
 exact this.trans (by rw [List.nil_append])
theorem cap_noking (o : PsH p) (hc : canM p m.a m.b m.p = true) : decide (capR p.f p.zs p.pa m.a m.b = 6) = false ∧ decide (capR p.f p.zs p.pa m.a m.b = -6) = false := by
 have k := can_mvok o hc
 by_cases h0 : 0 ≤ at2R p.f p.zs p.pa m.a m.b
 ·obtain ⟨g1, g2, _, g4⟩ := k.cap.2.1 h0
  have hk := k.noking h0
  have e : capR p.f p.zs p.pa m.a m.b = p.zs.getD (at2R p.f p.zs p.pa m.a m.b).toNat 0 := by rw [g4]; rfl
  rw [e, decide_eq_false_iff_not, decide_eq_false_iff_not]
  unfold isP at g2
  unfold kgP at hk
  cases hb : p.bl with
  | false =>
   rw [hb] at g2 hk
   simp only [Bool.not_false, Bool.and_true, Bool.not_true, Bool.and_false, Bool.or_false, decide_eq_true_eq, cond_true] at g2 hk
   exact ⟨by omega, hk⟩
  | true =>
   rw [hb] at g2 hk
   simp only [Bool.not_true, Bool.and_false, Bool.not_false, Bool.and_true, Bool.false_or, decide_eq_true_eq, cond_false] at g2 hk
   exact ⟨hk, by omega⟩
 ·obtain ⟨_, g2, _⟩ := k.cap.2.2.1 (by omega)
  rw [g2]; exact ⟨rfl, rfl⟩
theorem h3_run (o : PsH p) {y : List (List Int) × Int} (hl : y.1.length ≤ 100000) (hy : ∀ row ∈ y.1, row ∈ allL p) {F : Unit → Option Bool} : ∀ (k fuel i : Nat), i + k = y.1.length → k < fuel → loopO (lawPH_s3 p y) F fuel (i : Int) = F ()
 | k, 0, i, _, h => absurd h (by omega)
 | 0, fuel + 1, i, h, _ => by
  have h1 : decide ((i : Int) < Int.ofNat y.1.length) = false := by simp; omega
  rw [loopO_exit (x := ())]
  unfold lawPH_s3
  simp only [h1, cond_false]
 | k + 1, fuel + 1, i, h, hf => by
  have h1 : decide ((i : Int) < Int.ofNat y.1.length) = true := by simp; omega
  have h2 : decide ((0 : Int) ≤ i) = true := by simp
  have hmem : y.1.getD i [] ∈ allL p := hy _ (by
   have : y.1.getD i [] = y.1[i]'(by omega) := by simp [List.getD, show i < y.1.length by omega]
   rw [this]; exact List.getElem_mem _)
  obtain ⟨a, b, pr, hrow, hc⟩ := allL_mem o hmem
  have hmv : mvB p.f p.r a b pr = true := by
   unfold canM at hc
   rw [Bool.and_eq_true, Bool.and_eq_true] at hc
   exact hc.1.1
  have hp := pcap_eq o (m := ⟨a, b, pr⟩) hmv
  have hk := cap_noking o (m := ⟨a, b, pr⟩) hc
  rw [show canM p (⟨a, b, pr⟩ : Mov).a (⟨a, b, pr⟩ : Mov).b (⟨a, b, pr⟩ : Mov).p = true from hc, cond_true] at hp
  have hs : lawPH_s3 p y (i : Int) = some (.inl ((i + 1 : Nat) : Int)) := by
   have hg : y.1.getD (i : Int).toNat [] = [a, b, pr] := hrow
   have hm : (⟨([a, b, pr] : List Int).getD 0 0, ([a, b, pr] : List Int).getD 1 0, ([a, b, pr] : List Int).getD 2 0⟩ : Mov) = ⟨a, b, pr⟩ := rfl
   unfold lawPH_s3
   simp only [List.drop_zero, List.take_length, psn_eta', h1, h2, cond_true, needO_true, Bool.and_self, hg, hm, hp, callO_some, Option.getD_some, decide_true, Bool.not_true, hk.1, hk.2, Bool.or_self, cond_false]
   rw [show IntKind.i64.wrap ((i : Int) + 1) = ((i + 1 : Nat) : Int) from w64_id (by omega) (by omega)]
  rw [loopO_next hs]
  exact h3_run o hl hy k fuel (i + 1) (by omega) (by omega)
theorem h1_run0 {y : List (List Int) × Int} (hl : y.1.length ≤ 100000) {F : Bool → Option (Unit ⊕ Bool)} : loopO (lawPH_s1 m y) F 1000000 (false, 0) = F (y.1.any (rowIs m)) := by
 have := h1_run (m := m) hl (F := F) y.1.length 1000000 0 false (by omega) (by omega)
 rw [List.drop_zero, Bool.false_or] at this
 exact this
theorem h3_run0 (o : PsH p) {y : List (List Int) × Int} (hl : y.1.length ≤ 100000) (hy : ∀ row ∈ y.1, row ∈ allL p) {F : Unit → Option Bool} : loopO (lawPH_s3 p y) F 1000000 0 = F () :=
 h3_run o hl hy y.1.length 1000000 0 (by omega) (by omega)
theorem lawPH_true (hca : 0 ≤ p.ca) : lawPH p m = some true := by
 have hm : (⟨m.a, m.b, m.p⟩ : Mov) = m := rfl
 unfold lawPH
 simp only [List.drop_zero, List.take_length, psn_eta', hm]
 rw [show small9 p = some (decide (Int.ofNat p.zs.length ≤ 64)) from rfl, callO_some]
 by_cases hl : p.zs.length ≤ 64
 ·have h1 : decide (Int.ofNat p.zs.length ≤ 64) = true := by simp; omega
  have h2 : decide (p.zs.length ≤ 64) = true := by simpa using hl
  rw [h1, h2, psn_valid hl hca]
  simp only [Bool.not_true, Bool.or_true, needO_true, Bool.false_or]
  cases hok : p.ok with
  | false => rfl
  | true =>
   have o := psh hl hca hok
   have hlen := allL_len o
   rw [pmoves_eq o, callO_some]
   simp only [Bool.not_true, cond_false, decide_true]
   have hjoin : ∀ F : Unit → Option Bool, joinO (bif mvB p.f p.r m.a m.b m.p then callO (pis p m) (false, 0) fun y4 : Bool × Int => loopO (lawPH_s1 m (allL p, 0)) (fun s16 : Bool => bif !decide (y4.2 = 0) || !y4.1 == s16 || !y4.1 == (decide (mkE5 p m = 0) || decide (mkE5 p m = 90) || decide (mkE5 p m = 7)) then escO (some false) else some (.inl ())) 1000000 (false, 0) else some (.inl ())) F = F () := by
    intro F
    cases hmv : mvB p.f p.r m.a m.b m.p with
    | false => rfl
    | true =>
     rw [cond_true, pis_eq o hmv, callO_some, h1_run0 (y := (allL p, 0)) hlen, in_allL o hmv, mk_codes hok hmv]
     cases canM p m.a m.b m.p <;> rfl
   rw [hjoin, h2_all o, h3_run0 o (y := (allL p, 0)) hlen (fun _ h => h), msame_self hlen]
   rfl
 ·have h1 : decide (Int.ofNat p.zs.length ≤ 64) = false := by simp; omega
  rw [h1]; rfl
end
end Go.Ab
