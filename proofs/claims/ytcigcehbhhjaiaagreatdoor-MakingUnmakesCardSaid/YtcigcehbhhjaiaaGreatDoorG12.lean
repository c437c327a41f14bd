/- Contracts of the functions that the laws reach, and plain laws of what they compute (text G12); no condition. -/
import Derived.Test.YtcigcehbhhjaiaaGreatDoorG10
import Derived.Test.YtcigcehbhhjaiaaGreatDoorG4
import Derived.Test.YtcigcehbhhjaiaaGreatDoorG11
import Derived.Test.YtcigcehbhhjaiaaGreatDoorG9
set_option maxRecDepth 100000
set_option maxHeartbeats 4000000
namespace Go.Ab
open Go.Proofs
variable {kCa kDb : Bool}
def orCF (c1 c2 : CF) : CF := fun a h => match c1 a h with
  | some x => some x
  | none => c2 a h
theorem orCF_ok {G : List O} {P : Program} {f : FuncId} {c1 c2 : CF} (h1 : CtOk G P (f, c1)) (h2 : CtOk G P (f, c2)) : CtOk G P (f, orCF c1 c2) := by
  refine ⟨h1.1, fun a h c v N e hc => ?_⟩
  change orCF c1 c2 a h = _ at e
  unfold orCF at e
  split at e
  · rename_i x hx
    cases e
    exact h1.2 a h c v N hx hc
  · exact h2.2 a h c v N e hc
def c_requal0 : CF
  | [.agg [.int .i64 f, .int .i64 r, .sl 0 0 len none, .bool bl, .int .u8 ca, .int .i64 pa, .int .i64 ha, .int .i64 fu], .agg [.int .i64 f2, .int .i64 r2, .nils, .bool bl2, .int .u8 ca2, .int .i64 pa2, .int .i64 ha2, .int .i64 fu2]], [.ints false .i8 zs] => some (decide (len = zs.length) && decide (zs.length ≤ 64), .bool (equalB ⟨f, r, zs, bl, ca, pa, ha, fu⟩ ⟨f2, r2, [], bl2, ca2, pa2, ha2, fu2⟩), [])
  | _, _ => none
theorem c_requal0_ok : CtOk (GGx kCa kDb) PP (17, c_requal0) := by
  refine ct_mk Tryz.func17 (by kernel_rfl) rfl fun a0 h0 c0 v0 N0 e hc => ?_
  unfold c_requal0 at e
  split at e
  · rename_i f r len bl ca pa ha fu f2 r2 bl2 ca2 pa2 ha2 fu2 zs
    cases e
    simp only [Bool.and_eq_true, decide_eq_true_eq] at hc
    obtain ⟨rfl, hc2⟩ := hc
    refine FnSound.nil (args' := [.agg [.int .i64 f, .int .i64 r, .sl 0 0 zs.length none, .bool bl, .int .u8 ca, .int .i64 pa, .int .i64 ha, .int .i64 fu], .agg [.int .i64 f2, .int .i64 r2, .sl 1 0 0 none, .bool bl2, .int .u8 ca2, .int .i64 pa2, .int .i64 ha2, .int .i64 fu2]]) .i8 (blt_lt rfl) ?_ ((c_requal_ok (kCa := kCa) (kDb := kDb)).2 _ _ _ _ _ rfl (by simp [hc2]))
    rintro ρ us h1 ⟨u1, r1, rfl, h2, u2, r2, rfl, ⟨ws, rfl, x0, y0, rfl, e0, x1, y1, rfl, e1, x2, y2, rfl, e2, e3⟩, e4⟩
    exact ⟨u1, _, rfl, h2, _, _, rfl, ⟨_, rfl, x0, _, rfl, e0, x1, _, rfl, e1, x2, _, rfl, vr_ph h1 e2, e3⟩, e4⟩
  · cases e
def c_requalX : CF := orCF c_requal c_requal0
theorem c_requalX_ok : CtOk (GGx kCa kDb) PP (17, c_requalX) := orCF_ok c_requal_ok c_requal0_ok
end Go.Ab

set_option maxRecDepth 100000
set_option maxHeartbeats 4000000
namespace Go.Ab
open Go.Proofs
variable {kCa kDb : Bool}
def lawUnmakes (p : Psn) (u : Und) : Option (Bool) := let x15 := Psn.mk 0 0 [] Bool.false 0 0 0 0; let x17 := Und.mk (Mov.mk u.m.a u.m.b u.m.p) u.c u.at_ u.ca u.pa u.ha u.fu; let x19 := List.take p.zs.length (List.drop 0 p.zs); let x16 := Psn.mk p.f p.r x19 p.bl p.ca p.pa p.ha p.fu; let x18 := x19.length; let x10 := umP x16 x17; let x11 := umE x16 x17; let x12 := Decidable.decide (x18 ≤ 64); let x14 := List.take x18 (List.drop 0 x19); let x9 := x10.zs; let x13 := x14.length; let x8 := List.take x9.length (List.drop 0 x9); let x5 := Psn.mk x10.f x10.r x8 x10.bl x10.ca x10.pa x10.ha x10.fu; let x7 := x8.length; let x4 := equalB x5 x15; let x6 := Decidable.decide (x7 ≤ 64); callO (small8 x16) Bool.false fun (y2 : Bool) => bif !y2 then Option.some Bool.true else needO x12 (needO x12 (needO (Decidable.decide (x13 ≤ 64) && x12) (bif !equalB (Psn.mk p.f p.r x14 p.bl p.ca p.pa p.ha p.fu) x16 then Option.some Bool.false else needO x12 (bif !validL x16 || !mvB p.f p.r u.m.a u.m.b u.m.p then needO x6 (Option.some (x4 && Decidable.decide (x11 = 2) && Bool.true)) else callO (refUnmake x16 x17) (x15, Bool.false) fun (y3 : Psn × Bool) => let x23 := List.take y3.fst.zs.length (List.drop 0 y3.fst.zs); let x22 := x23.length; bif !y3.snd then needO x6 (Option.some (x4 && Decidable.decide (x11 = 10) && Bool.true)) else needO (x6 && Decidable.decide (x22 ≤ 64)) (Option.some (equalB x5 (Psn.mk y3.fst.f y3.fst.r x23 y3.fst.bl y3.fst.ca y3.fst.pa y3.fst.ha y3.fst.fu) && Decidable.decide (x11 = 0) && Bool.true))))))
def lawUnmakes_V (R : Bool) : V := Bb R
def lawUnmakes_N (R : Bool) : List O := []
theorem lawUnmakes_snd (p : Psn) (u : Und) {r} (hr : lawUnmakes p u = some r) : FnSound (GGx true false) PP 8 [.agg [.int .i64 p.f, .int .i64 p.r, .sl 0 0 p.zs.length none, Bb p.bl, .int .u8 p.ca, .int .i64 p.pa, .int .i64 p.ha, .int .i64 p.fu], .agg [.int .i64 u.m.a, .int .i64 u.m.b, .int .i8 u.m.p, .int .i8 u.c, .int .i64 u.at_, .int .u8 u.ca, .int .i64 u.pa, .int .i64 u.ha, .int .i64 u.fu]] [.ints false .i8 p.zs] (lawUnmakes_V r) (lawUnmakes_N r) := by
  have hE := cutE (EE_ok (kCa := true) (kDb := false) (cts := [(12, c_small8), (13, c_known8), (14, c_rcopy), (17, c_requalX), (25, c_rvalid), (31, c_rmvalid), (37, c_unmake), (38, c_refUnmake)]) (inl := []) ⟨c_small8_ok, c_known8_ok, c_rcopy_ok, c_requalX_ok, c_rvalid_ok, c_rmvalid_ok, c_unmake_ok, c_refUnmake_ok, trivial⟩ trivial)
  refine so_fn hE 2 Tryz.func8 rfl rfl lawUnmakes_V lawUnmakes_N hr ?_ rfl rfl
  unfold lawUnmakes
  refine so_callas (pl (decide_eq_true (win_len rfl)) id) ?_
  refine so_split hE 2 rfl ?_ ?_
  · refine so_triv rfl ?_
    exact so_ret (fin_bs [] (.inr rfl) rfl rfl rfl rfl rfl)
  refine so_as (pl (decide_eq_true (win_len rfl)) id) ?_
  refine so_as (pl (decide_eq_true (win_len rfl)) id) ?_
  refine so_as (pb (pr (pl (decide_eq_true (win_len rfl)) id) (decide_eq_true (win_len rfl))) id) ?_
  refine so_split hE 2 rfl ?_ ?_
  · exact so_ret (fin_bs [] (.inr rfl) rfl rfl rfl rfl rfl)
  refine so_as (pl (decide_eq_true (win_len rfl)) id) ?_
  refine so_triv (Bool.not_or_self _) ?_
  refine so_triv (Bool.not_or_self _) ?_
  refine so_triv (Bool.not_or_self _) ?_
  refine so_triv (Bool.not_or_self _) ?_
  refine so_triv (pg rfl) ?_
  refine so_triv (Bool.not_or_self _) ?_
  refine so_triv (Bool.or_not_self _) ?_
  refine so_split hE 2 rfl ?_ ?_
  · refine so_as (pl (decide_eq_true (win_len rfl)) id) ?_
    refine so_triv (Bool.not_or_self _) ?_
    refine so_triv (Bool.not_or_self _) ?_
    refine so_triv (pg rfl) ?_
    refine so_triv (Bool.not_or_self _) ?_
    exact so_ret (fin_bs [] (.inr rfl) rfl rfl rfl rfl rfl)
  refine so_callas (pl (decide_eq_true (win_len rfl)) id) ?_
  refine so_split hE 2 rfl ?_ ?_
  · refine so_as (pl (decide_eq_true (win_len rfl)) id) ?_
    refine so_triv (Bool.not_or_self _) ?_
    refine so_triv (Bool.not_or_self _) ?_
    refine so_triv (pg rfl) ?_
    refine so_triv (Bool.not_or_self _) ?_
    exact so_ret (fin_bs [] (.inr rfl) rfl rfl rfl rfl rfl)
  refine so_as (pb (pr (pl (decide_eq_true (win_len rfl)) id) (decide_eq_true (win_len rfl))) id) ?_
  refine so_triv (Bool.not_or_self _) ?_
  refine so_triv (Bool.not_or_self _) ?_
  refine so_triv (pg rfl) ?_
  refine so_triv (Bool.not_or_self _) ?_
  exact so_ret (fin_bs [] (.inr rfl) rfl rfl rfl rfl rfl)
end Go.Ab

set_option maxRecDepth 100000
set_option maxHeartbeats 4000000
namespace Go.Ab
open Go.Proofs
variable {kCa kDb : Bool}
end Go.Ab

set_option maxRecDepth 100000
namespace Go.Ab
theorem equalB_self (p : Psn) : equalB p p = true := by simp [equalB, sameB]
end Go.Ab

set_option maxRecDepth 100000
namespace Go.Ab
open Go.Proofs
theorem um_bad {p : Psn} {u : Und} (h : (!p.ok || !mvB p.f p.r u.m.a u.m.b u.m.p) = true) : umE p u = 2 ∧ umP p u = ⟨0, 0, [], false, 0, 0, 0, 0⟩ := by
  have h1 : umE p u = 2 := by unfold umE; rw [h]; rfl
  exact ⟨h1, by unfold umP; rw [h1]; rfl⟩
theorem umP_len {p : Psn} {u : Und} (h : p.zs.length ≤ 64) : (umP p u).zs.length ≤ 64 := by
  unfold umP
  cases decide (umE p u = 0)
  · exact Nat.zero_le _
  · exact Nat.le_trans (Nat.le_of_eq bkZ_len) h
theorem lawUnmakes_true {p : Psn} {u : Und} (hca : 0 ≤ p.ca) (hu : 0 ≤ u.ca) : lawUnmakes p u = some true := by
  have hq : ∀ q : Psn, (⟨q.f, q.r, q.zs, q.bl, q.ca, q.pa, q.ha, q.fu⟩ : Psn) = q := fun _ => rfl
  have hv : (⟨⟨u.m.a, u.m.b, u.m.p⟩, u.c, u.at_, u.ca, u.pa, u.ha, u.fu⟩ : Und) = u := rfl
  unfold lawUnmakes
  simp only [List.drop_zero, List.take_length, hq, hv]
  rw [show small8 p = some (decide (Int.ofNat p.zs.length ≤ 64)) from rfl, callO_some]
  by_cases hl : p.zs.length ≤ 64
  · have h1 : decide (Int.ofNat p.zs.length ≤ 64) = true := by simp; omega
    have h2 : decide (p.zs.length ≤ 64) = true := by simpa using hl
    have h3 : decide ((umP p u).zs.length ≤ 64) = true := by simpa using umP_len (u := u) hl
    rw [h1, h2, h3, psn_valid hl hca, equalB_self]
    simp only [Bool.not_true, cond_false, Bool.and_self, needO_true, Bool.and_true]
    cases hb : (!p.ok || !mvB p.f p.r u.m.a u.m.b u.m.p) with
    | true =>
      obtain ⟨e1, e2⟩ := um_bad hb
      rw [e1, e2, equalB_self]; rfl
    | false =>
      have hb' := hb
      simp only [Bool.or_eq_false_iff, Bool.not_eq_false'] at hb'
      obtain ⟨e1, e2⟩ := um_eq (p := p) (u := u) hb'.1 hb'.2
      rw [refUnmake_eq hl hu hb'.1 hb'.2, e1, e2]
      have h4 : decide ((bkP p u).zs.length ≤ 64) = true := by have : (bkP p u).zs.length = p.zs.length := bkZ_len; rw [this]; exact h2
      simp only [cond_false, callO_some]
      cases tstB p u (bkZ p.f p.r p.zs p.bl u) with
      | true => simp only [cond_true, h4, equalB_self]; rfl
      | false => simp only [cond_false, equalB_self]; rfl
  · have h1 : decide (Int.ofNat p.zs.length ≤ 64) = false := by simp; omega
    rw [h1]; rfl
end Go.Ab
