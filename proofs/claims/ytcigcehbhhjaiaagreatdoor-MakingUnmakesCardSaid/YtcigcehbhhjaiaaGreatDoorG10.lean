/- Contracts of the functions that the laws reach, and plain laws of what they compute (text G10); no condition. -/
import Derived.Test.YtcigcehbhhjaiaaGreatDoorG9
import Derived.Test.YtcigcehbhhjaiaaGreatDoorG4
set_option maxRecDepth 100000
set_option maxHeartbeats 4000000
namespace Go.Ab
open Go.Proofs
variable {kDb : Bool}
def undB (u v : Und) : Bool := (decide (u.m.a = v.m.a) && (decide (u.m.b = v.m.b) && decide (u.m.p = v.m.p))) && (decide (u.c = v.c) && (decide (u.at_ = v.at_) && (decide (u.ca = v.ca) && (decide (u.pa = v.pa) && (decide (u.ha = v.ha) && decide (u.fu = v.fu))))))
def umE (p : Psn) (u : Und) : Int := bif !p.ok || !mvB p.f p.r u.m.a u.m.b u.m.p then 2 else bif !decide (mkE5 (bkP p u) u.m = 0) || !undB (mkU (bkP p u) u.m) u || !equalB (mkP (bkP p u) u.m) p then 10 else 0
def umP (p : Psn) (u : Und) : Psn := bif decide (umE p u = 0) then bkP p u else psn0
theorem um_err {p : Psn} {u : Und} {n : Int} (h : umE p u = n) (hn : n ≠ 0) : umP p u = psn0 := by
  have h0 : decide (umE p u = 0) = false := by rw [h]; simpa using hn
  rw [umP, h0]; rfl
theorem need_eq2 {zs ws : List Int} {g : Bool} {n m : Nat} (h1 : n = zs.length) (h2 : zs.length ≤ 64) (h3 : m = ws.length) (h4 : ws.length ≤ 64) : (!g || (decide (n = ((zs.drop 0).take n).length) && decide (((zs.drop 0).take n).length ≤ 64) && decide (m = ((ws.drop 0).take m).length) && decide (((ws.drop 0).take m).length ≤ 64))) = true := by
  subst h1; subst h3; simp [h2, h4]
theorem mkP_len {p : Psn} {m : Mov} (h : p.zs.length ≤ 64) : (mkP p m).zs.length ≤ 64 := by
  unfold mkP
  cases decide (mkE5 p m = 0)
  · simp
  · rw [cond_true]; dsimp only; rw [zs3_len]; exact h
def c_unmake : CF
  | [.agg [.int .i64 f, .int .i64 r, .sl 0 0 len none, .bool bl, .int .u8 ca, .int .i64 pa, .int .i64 ha, .int .i64 fu], .agg [.int .i64 a, .int .i64 b, .int .i8 pr, .int .i8 c, .int .i64 at_, .int .u8 uca, .int .i64 upa, .int .i64 uha, .int .i64 ufu]], [.ints false .i8 zs] => some (decide (len = zs.length) && decide (zs.length ≤ 64), .tup [psV 1 (umP ⟨f, r, zs, bl, ca, pa, ha, fu⟩ ⟨⟨a, b, pr⟩, c, at_, uca, upa, uha, ufu⟩), I (umE ⟨f, r, zs, bl, ca, pa, ha, fu⟩ ⟨⟨a, b, pr⟩, c, at_, uca, upa, uha, ufu⟩)], [.ints true .i8 (umP ⟨f, r, zs, bl, ca, pa, ha, fu⟩ ⟨⟨a, b, pr⟩, c, at_, uca, upa, uha, ufu⟩).zs])
  | _, _ => none
theorem c_unmake_ok : CtOk (GGx true kDb) PP (37, c_unmake) := by
  refine ct_mk Tryz.func37 (by kernel_rfl) rfl fun a0 h0 c0 v0 N0 e hc => ?_
  unfold c_unmake at e
  split at e
  · rename_i f r len bl ca pa ha fu a b pr c at_ uca upa uha ufu zs
    cases e
    have hE := cutE (EE_ok (kCa := true) (kDb := kDb) (cts := [(46, c_pvalid), (47, c_mvalid), (86, c_before), (15, c_make), (87, c_equal)]) (inl := []) ⟨c_pvalid_ok, c_mvalid_ok, c_before_ok, c_make_ok, c_equal_ok, trivial⟩ trivial)
    refine fn_soundL hE 2 Tryz.func37 rfl rfl ?_
    simp only [Bool.and_eq_true, decide_eq_true_eq] at hc
    obtain ⟨rfl, hc2⟩ := hc
    repeat (first | (first | refine sat_self ?_ | refine sat_nd ?_) | refine sat_need (need_bd hc2 rfl) ?_)
    refine sat_split hE 2 rfl (fun h => ?_) (fun h => ?_)
    · have h : (!(Psn.ok ⟨f, r, tk zs, bl, ca, pa, ha, fu⟩) || !mvB f r a b pr) = true := h
      rw [tk_eq] at h
      have he : umE ⟨f, r, zs, bl, ca, pa, ha, fu⟩ ⟨⟨a, b, pr⟩, c, at_, uca, upa, uha, ufu⟩ = 2 := by simp only [umE, h, cond_true]
      rw [um_err he (by decide), he]
      exact sat_ret (fin_le (Ent.phan (b := 3) (j := 2) (ww := true) (o := .ints true .i8 []) rfl rfl ⟨by simp, by simp, trivial, rfl⟩ (blt_lt rfl)) (fin_new 4 (.inr rfl) rfl rfl rfl rfl rfl rfl) (fun _ _ h => h))
    have h : (!(Psn.ok ⟨f, r, tk zs, bl, ca, pa, ha, fu⟩) || !mvB f r a b pr) = false := h
    rw [tk_eq] at h
    have e1 : (!(Psn.ok ⟨f, r, zs, bl, ca, pa, ha, fu⟩) || !mvB f r a b pr) = false := h
    simp only [Bool.or_eq_false_iff, Bool.not_eq_false'] at h
    obtain ⟨hbd, hcas⟩ := ok_bd h.1
    obtain ⟨hva, hvb⟩ := mv_ab h.2
    dsimp only at hbd hcas
    have hv3 : (validBd f r (tk zs) && validB f r a && validB f r b) = true := by rw [tk_eq, hbd, hva, hvb]; rfl
    have hv4 : (validBd f r (tk zs) && (validB f r a && validB f r b)) = true := by rw [tk_eq, hbd, hva, hvb]; rfl
    have hbl : (bkZ f r (tk zs) bl ⟨⟨a, b, pr⟩, c, at_, uca, upa, uha, ufu⟩).length ≤ 64 := by rw [bkZ_len, tk_len]; exact hc2
    have hml : (mkP ⟨f, r, tk (bkZ f r (tk zs) bl ⟨⟨a, b, pr⟩, c, at_, uca, upa, uha, ufu⟩), !bl, uca, upa, uha, ufu⟩ ⟨a, b, pr⟩).zs.length ≤ 64 := mkP_len (by show (tk _).length ≤ 64; rw [tk_len]; exact hbl)
    repeat (first | (first | refine sat_self ?_ | refine sat_nd ?_) | refine sat_need (need_bdv hc2 rfl hv3) ?_ | refine sat_need (need_out rfl hbl) ?_ | refine sat_need (need_eq2 rfl hml rfl hc2) ?_)
    refine sat_split hE 2 rfl (fun h => ?_) (fun h => ?_)
    · have h : (!decide (mkE5 ⟨f, r, tk (bkZ f r (tk zs) bl ⟨⟨a, b, pr⟩, c, at_, uca, upa, uha, ufu⟩), !bl, uca, upa, uha, ufu⟩ ⟨a, b, pr⟩ = 0) || !undB (mkU ⟨f, r, tk (bkZ f r (tk zs) bl ⟨⟨a, b, pr⟩, c, at_, uca, upa, uha, ufu⟩), !bl, uca, upa, uha, ufu⟩ ⟨a, b, pr⟩) ⟨⟨a, b, pr⟩, c, at_, uca, upa, uha, ufu⟩ || !equalB ⟨(mkP ⟨f, r, tk (bkZ f r (tk zs) bl ⟨⟨a, b, pr⟩, c, at_, uca, upa, uha, ufu⟩), !bl, uca, upa, uha, ufu⟩ ⟨a, b, pr⟩).f, (mkP ⟨f, r, tk (bkZ f r (tk zs) bl ⟨⟨a, b, pr⟩, c, at_, uca, upa, uha, ufu⟩), !bl, uca, upa, uha, ufu⟩ ⟨a, b, pr⟩).r, tk (mkP ⟨f, r, tk (bkZ f r (tk zs) bl ⟨⟨a, b, pr⟩, c, at_, uca, upa, uha, ufu⟩), !bl, uca, upa, uha, ufu⟩ ⟨a, b, pr⟩).zs, (mkP ⟨f, r, tk (bkZ f r (tk zs) bl ⟨⟨a, b, pr⟩, c, at_, uca, upa, uha, ufu⟩), !bl, uca, upa, uha, ufu⟩ ⟨a, b, pr⟩).bl, (mkP ⟨f, r, tk (bkZ f r (tk zs) bl ⟨⟨a, b, pr⟩, c, at_, uca, upa, uha, ufu⟩), !bl, uca, upa, uha, ufu⟩ ⟨a, b, pr⟩).ca, (mkP ⟨f, r, tk (bkZ f r (tk zs) bl ⟨⟨a, b, pr⟩, c, at_, uca, upa, uha, ufu⟩), !bl, uca, upa, uha, ufu⟩ ⟨a, b, pr⟩).pa, (mkP ⟨f, r, tk (bkZ f r (tk zs) bl ⟨⟨a, b, pr⟩, c, at_, uca, upa, uha, ufu⟩), !bl, uca, upa, uha, ufu⟩ ⟨a, b, pr⟩).ha, (mkP ⟨f, r, tk (bkZ f r (tk zs) bl ⟨⟨a, b, pr⟩, c, at_, uca, upa, uha, ufu⟩), !bl, uca, upa, uha, ufu⟩ ⟨a, b, pr⟩).fu⟩ ⟨f, r, tk zs, bl, ca, pa, ha, fu⟩) = true := h
      simp only [tk_eq] at h
      have h : (!decide (mkE5 (bkP ⟨f, r, zs, bl, ca, pa, ha, fu⟩ ⟨⟨a, b, pr⟩, c, at_, uca, upa, uha, ufu⟩) ⟨a, b, pr⟩ = 0) || !undB (mkU (bkP ⟨f, r, zs, bl, ca, pa, ha, fu⟩ ⟨⟨a, b, pr⟩, c, at_, uca, upa, uha, ufu⟩) ⟨a, b, pr⟩) ⟨⟨a, b, pr⟩, c, at_, uca, upa, uha, ufu⟩ || !equalB (mkP (bkP ⟨f, r, zs, bl, ca, pa, ha, fu⟩ ⟨⟨a, b, pr⟩, c, at_, uca, upa, uha, ufu⟩) ⟨a, b, pr⟩) ⟨f, r, zs, bl, ca, pa, ha, fu⟩) = true := h
      have he : umE ⟨f, r, zs, bl, ca, pa, ha, fu⟩ ⟨⟨a, b, pr⟩, c, at_, uca, upa, uha, ufu⟩ = 10 := by simp only [umE, e1, h, cond_true, cond_false]
      rw [um_err he (by decide), he]
      exact sat_ret (fin_le (Ent.phan (b := 3) (j := 2) (ww := true) (o := .ints true .i8 []) rfl rfl ⟨by simp, by simp, trivial, rfl⟩ (blt_lt rfl)) (fin_new 9 (.inr rfl) rfl rfl rfl rfl rfl rfl) (fun _ _ h => h))
    · have h : (!decide (mkE5 ⟨f, r, tk (bkZ f r (tk zs) bl ⟨⟨a, b, pr⟩, c, at_, uca, upa, uha, ufu⟩), !bl, uca, upa, uha, ufu⟩ ⟨a, b, pr⟩ = 0) || !undB (mkU ⟨f, r, tk (bkZ f r (tk zs) bl ⟨⟨a, b, pr⟩, c, at_, uca, upa, uha, ufu⟩), !bl, uca, upa, uha, ufu⟩ ⟨a, b, pr⟩) ⟨⟨a, b, pr⟩, c, at_, uca, upa, uha, ufu⟩ || !equalB ⟨(mkP ⟨f, r, tk (bkZ f r (tk zs) bl ⟨⟨a, b, pr⟩, c, at_, uca, upa, uha, ufu⟩), !bl, uca, upa, uha, ufu⟩ ⟨a, b, pr⟩).f, (mkP ⟨f, r, tk (bkZ f r (tk zs) bl ⟨⟨a, b, pr⟩, c, at_, uca, upa, uha, ufu⟩), !bl, uca, upa, uha, ufu⟩ ⟨a, b, pr⟩).r, tk (mkP ⟨f, r, tk (bkZ f r (tk zs) bl ⟨⟨a, b, pr⟩, c, at_, uca, upa, uha, ufu⟩), !bl, uca, upa, uha, ufu⟩ ⟨a, b, pr⟩).zs, (mkP ⟨f, r, tk (bkZ f r (tk zs) bl ⟨⟨a, b, pr⟩, c, at_, uca, upa, uha, ufu⟩), !bl, uca, upa, uha, ufu⟩ ⟨a, b, pr⟩).bl, (mkP ⟨f, r, tk (bkZ f r (tk zs) bl ⟨⟨a, b, pr⟩, c, at_, uca, upa, uha, ufu⟩), !bl, uca, upa, uha, ufu⟩ ⟨a, b, pr⟩).ca, (mkP ⟨f, r, tk (bkZ f r (tk zs) bl ⟨⟨a, b, pr⟩, c, at_, uca, upa, uha, ufu⟩), !bl, uca, upa, uha, ufu⟩ ⟨a, b, pr⟩).pa, (mkP ⟨f, r, tk (bkZ f r (tk zs) bl ⟨⟨a, b, pr⟩, c, at_, uca, upa, uha, ufu⟩), !bl, uca, upa, uha, ufu⟩ ⟨a, b, pr⟩).ha, (mkP ⟨f, r, tk (bkZ f r (tk zs) bl ⟨⟨a, b, pr⟩, c, at_, uca, upa, uha, ufu⟩), !bl, uca, upa, uha, ufu⟩ ⟨a, b, pr⟩).fu⟩ ⟨f, r, tk zs, bl, ca, pa, ha, fu⟩) = false := h
      simp only [tk_eq] at h
      have h : (!decide (mkE5 (bkP ⟨f, r, zs, bl, ca, pa, ha, fu⟩ ⟨⟨a, b, pr⟩, c, at_, uca, upa, uha, ufu⟩) ⟨a, b, pr⟩ = 0) || !undB (mkU (bkP ⟨f, r, zs, bl, ca, pa, ha, fu⟩ ⟨⟨a, b, pr⟩, c, at_, uca, upa, uha, ufu⟩) ⟨a, b, pr⟩) ⟨⟨a, b, pr⟩, c, at_, uca, upa, uha, ufu⟩ || !equalB (mkP (bkP ⟨f, r, zs, bl, ca, pa, ha, fu⟩ ⟨⟨a, b, pr⟩, c, at_, uca, upa, uha, ufu⟩) ⟨a, b, pr⟩) ⟨f, r, zs, bl, ca, pa, ha, fu⟩) = false := h
      have he : umE ⟨f, r, zs, bl, ca, pa, ha, fu⟩ ⟨⟨a, b, pr⟩, c, at_, uca, upa, uha, ufu⟩ = 0 := by simp only [umE, e1, h, cond_false]
      have hp : umP ⟨f, r, zs, bl, ca, pa, ha, fu⟩ ⟨⟨a, b, pr⟩, c, at_, uca, upa, uha, ufu⟩ = bkP ⟨f, r, zs, bl, ca, pa, ha, fu⟩ ⟨⟨a, b, pr⟩, c, at_, uca, upa, uha, ufu⟩ := by rw [umP, he]; rfl
      rw [hp, he]
      refine sat_ret (fin_l0 (fin_new 4 (.inr rfl) rfl rfl rfl rfl (by show [O.ints true .i8 (bkZ f r (tk zs) bl ⟨⟨a, b, pr⟩, c, at_, uca, upa, uha, ufu⟩)] = _; rw [tk_eq]; rfl) (by show V.tup [V.agg [I f, I r, .sl 1 0 (bkZ f r (tk zs) bl ⟨⟨a, b, pr⟩, c, at_, uca, upa, uha, ufu⟩).length none, Bb (!bl), .int .u8 uca, I upa, I uha, I ufu], I 0] = _; rw [tk_eq]; rfl)))
  · cases e

end Go.Ab

set_option maxRecDepth 100000
namespace Go.Ab
open Go.Proofs
theorem ext_getD {l k : List Int} (h : l.length = k.length) (h2 : ∀ i, i < l.length → l.getD i 0 = k.getD i 0) : l = k := by
  refine List.ext_getElem h fun i h3 h4 => ?_
  have := h2 i h3
  simpa [List.getD, h3, h4] using this
theorem getD_set2 {l : List Int} {j i : Nat} {v : Int} : (l.set j v).getD i 0 = if i = j ∧ j < l.length then v else l.getD i 0 := by
  by_cases hj : j < l.length
  · by_cases e : i = j
    · subst e; simp [List.getD, hj]
    · rw [if_neg (fun h => e h.1)]; simp [List.getD, List.getElem?_set_ne (Ne.symm e)]
  · rw [if_neg (fun h => hj h.2), List.set_eq_of_length_le (by omega)]
theorem bk_castle {zs : List Int} {k to cor cro : Nat} {K : Int} (d1 : k ≠ to) (d2 : k ≠ cor) (d3 : k ≠ cro) (d4 : to ≠ cor) (d5 : to ≠ cro) (d6 : cor ≠ cro) (l1 : k < zs.length) (l2 : to < zs.length) (l3 : cor < zs.length) (l4 : cro < zs.length) (hK : K = zs.getD k 0) (h1 : zs.getD cro 0 = 0) (h2 : zs.getD to 0 = 0) {z2 z3 z4 : List Int} (e2 : z2 = (zs.set k 0).set to K) (e3 : z3 = (z2.set cro (z2.getD cor 0)).set cor 0) (e4 : z4 = (z3.set to 0).set k K) : (z4.set cor (z4.getD cro 0)).set cro 0 = zs := by
  subst e2 e3 e4
  refine ext_getD (by simp) fun i _ => ?_
  simp only [getD_set2, List.length_set]
  by_cases i1 : i = k
  · subst i1; simp [l1, d2, d3, hK]
  by_cases i2 : i = to
  · subst i2; rw [h2]; simp [l2, d4, d5, i1]
  by_cases i3 : i = cor
  · subst i3; simp [l3, l4, d6, d2.symm, d3.symm, d4.symm, d5.symm, d6.symm]
  by_cases i4 : i = cro
  · subst i4; rw [h1]; simp [l4]
  simp [i1, i2, i3, i4]
theorem mk_mv {p : Psn} {m : Mov} (hl : p.zs.length ≤ 64) (hca : 0 ≤ p.ca) (h : mkE5 p m = 0) : MvOk p m ∧ err4 p m = false ∧ err5 p m = false := by
  unfold mkE5 at h
  cases h1 : err1 p m with
  | true => rw [h1] at h; cases h
  | false =>
    rw [h1] at h
    cases h2 : isP (p.zs.getD m.a.toNat 0) p.bl with
    | false => rw [h2] at h; cases h
    | true =>
      rw [h2] at h
      cases h3 : err3 p m with
      | true => rw [h3] at h; cases h
      | false =>
        rw [h3] at h
        cases h4 : err4 p m with
        | true => rw [h4] at h; cases h
        | false =>
          rw [h4] at h
          cases h5 : err5 p m with
          | true => rw [h5] at h; cases h
          | false => exact ⟨mvok hl hca h1 h2 h3, rfl, rfl⟩
theorem way4 {zs : List Int} {bl : Bool} {ca a b : Int} (h : wayN zs bl ca a b = 4) (hk : absP (zs.getD a.toNat 0) = 6) : csSkip bl ca a b false 1 4 6 = true ∧ csSkip bl ca a b false 2 4 2 = true ∧ csSkip bl ca a b true 4 60 62 = true ∧ csSkip bl ca a b true 8 60 58 = true := by
  unfold wayN at h
  rw [hk] at h
  cases n1 : csSkip bl ca a b false 1 4 6 with
  | false => rw [n1] at h; cases h
  | true =>
    rw [n1] at h
    cases n2 : csSkip bl ca a b false 2 4 2 with
    | false => rw [n2] at h; cases h
    | true =>
      rw [n2] at h
      cases n3 : csSkip bl ca a b true 4 60 62 with
      | false => rw [n3] at h; cases h
      | true =>
        rw [n3] at h
        cases n4 : csSkip bl ca a b true 8 60 58 with
        | false => rw [n4] at h; cases h
        | true => exact ⟨rfl, rfl, rfl, rfl⟩
def CastIs (p : Psn) (m : Mov) (bl : Bool) (bit k to cor cro : Int) : Prop := p.bl = bl ∧ u8and p.ca bit ≠ 0 ∧ m.a = k ∧ m.b = to ∧ wCor (wayN p.zs p.bl p.ca m.a m.b) = cor ∧ wCro (wayN p.zs p.bl p.ca m.a m.b) = cro ∧ p.zs.getD cro.toNat 0 = 0 ∧ p.zs.getD to.toNat 0 = 0
section
variable {p : Psn} {m : Mov}
theorem MvOk.cast4 (o : MvOk p m) (hn : wayN p.zs p.bl p.ca m.a m.b ≠ 4) : p.f = 8 ∧ p.r = 8 ∧ p.zs.length = 64 ∧ kind8 (p.zs.getD m.a.toNat 0) = 6 ∧ m.p = 0 ∧ cstR p.f p.r p.zs p.bl p.ca p.pa m.a m.b m.p = true ∧
    (CastIs p m false 1 4 6 7 5 ∨ CastIs p m false 2 4 2 0 3 ∨ CastIs p m true 4 60 62 63 61 ∨ CastIs p m true 8 60 58 56 59) := by
  obtain ⟨hk, hp0, hg⟩ := o.wayg hn
  obtain ⟨h88, h64, _⟩ := cast_88 (a := m.a) (b := m.b) (bl := p.bl) o.bd o.cast hn
  simp only [is88, Bool.and_eq_true, decide_eq_true_eq] at h88
  have hw : wayB p.f p.r p.zs (wayN p.zs p.bl p.ca m.a m.b) = true := by
    have := o.so
    simp only [err3, hg, Bool.not_false, Bool.true_and, Bool.or_eq_false_iff, Bool.not_eq_false'] at this
    exact this.2.1
  refine ⟨h88.1, h88.2, h64, hk, hp0, by unfold cstR; rw [hw, hg]; rfl, ?_⟩
  have hbd := o.bd
  rw [h88.1, h88.2] at hw hbd
  have key : ∀ {n : Nat} {l : List Int}, wayN p.zs p.bl p.ca m.a m.b = n → validB 8 8 (wFrom n) = true → validB 8 8 (wCor n) = true → (lineR 8 (wFrom n) (wCor n)).2.2 = true → betwL 8 8 (wFrom n) (wCor n) = l → emptyB p.zs l = true := by
    rintro n l hn v1 v2 v3 rfl
    rw [hn] at hw
    simp only [wayB, Bool.and_eq_true] at hw
    rw [empty_eq hbd o.hl v1 v2 v3]
    exact hw.2
  unfold CastIs
  obtain ⟨_, hsq⟩ := way_is hn
  rcases hsq with ⟨hn, e1, e2, e3, e4⟩ | ⟨hn, e1, e2, e3, e4⟩ | ⟨hn, e1, e2, e3, e4⟩ | ⟨hn, e1, e2, e3, e4⟩
  · have k1 := key (l := [5, 6]) hn (by decide) (by decide) (by decide) (by kernel_rfl)
    simp only [emptyB, List.all_cons, List.all_nil, Bool.and_true, Bool.and_eq_true, decide_eq_true_eq] at k1
    exact .inl ⟨e1, e2, e3, e4, by rw [hn]; rfl, by rw [hn]; rfl, k1.1, k1.2⟩
  · have k1 := key (l := [3, 2, 1]) hn (by decide) (by decide) (by decide) (by kernel_rfl)
    simp only [emptyB, List.all_cons, List.all_nil, Bool.and_true, Bool.and_eq_true, decide_eq_true_eq] at k1
    exact .inr (.inl ⟨e1, e2, e3, e4, by rw [hn]; rfl, by rw [hn]; rfl, k1.1, k1.2.1⟩)
  · have k1 := key (l := [61, 62]) hn (by decide) (by decide) (by decide) (by kernel_rfl)
    simp only [emptyB, List.all_cons, List.all_nil, Bool.and_true, Bool.and_eq_true, decide_eq_true_eq] at k1
    exact .inr (.inr (.inl ⟨e1, e2, e3, e4, by rw [hn]; rfl, by rw [hn]; rfl, k1.1, k1.2⟩))
  · have k1 := key (l := [59, 58, 57]) hn (by decide) (by decide) (by decide) (by kernel_rfl)
    simp only [emptyB, List.all_cons, List.all_nil, Bool.and_true, Bool.and_eq_true, decide_eq_true_eq] at k1
    exact .inr (.inr (.inr ⟨e1, e2, e3, e4, by rw [hn]; rfl, by rw [hn]; rfl, k1.1, k1.2.1⟩))
theorem MvOk.at_cast (o : MvOk p m) (hk : kind8 (p.zs.getD m.a.toNat 0) = 6) (hb : p.zs.getD m.b.toNat 0 = 0) : at2R p.f p.zs p.pa m.a m.b = -1 := by
  have he : epB p.zs p.pa m.a m.b = false := by unfold epB; rw [o.kd, hk]; rfl
  unfold at2R capR at1R
  rw [he, cond_false, hb]; rfl
theorem bkS_no {f r : Int} {bl : Bool} {own uca a b : Int} {l : List Int} {bit : Int} {c : Bool} {k to cor cro : Int} (h : bkC f r bl own uca a b bit c k to = false) : bkS f r bl own uca a b l bit c k to cor cro = l := by
  unfold bkS; rw [h]; rfl
theorem bkS_yes {f r : Int} {bl : Bool} {own uca a b : Int} {l : List Int} {bit : Int} {c : Bool} {k to cor cro : Int} (h : bkC f r bl own uca a b bit c k to = true) : bkS f r bl own uca a b l bit c k to cor cro = (l.set cor.toNat (l.getD cro.toNat 0)).set cro.toNat 0 := by
  unfold bkS; rw [h]; rfl
theorem bkC_iff {f r : Int} {bl : Bool} {own uca a b bit : Int} {c : Bool} {k to : Int} : bkC f r bl own uca a b bit c k to = true ↔ absP own = 6 ∧ u8and uca bit ≠ 0 ∧ c = !bl ∧ k = a ∧ to = b ∧ IntKind.i64.wrap (f * r) = 64 := by
  unfold bkC
  simp only [Bool.and_eq_true, decide_eq_true_eq, Bool.not_eq_true', decide_eq_false_iff_not, beq_iff_eq]
  exact ⟨fun ⟨⟨⟨⟨⟨h1, h2⟩, h3⟩, h4⟩, h5⟩, h6⟩ => ⟨h1, h2, h3, h4, h5, h6⟩, fun ⟨h1, h2, h3, h4, h5, h6⟩ => ⟨⟨⟨⟨⟨h1, h2⟩, h3⟩, h4⟩, h5⟩, h6⟩⟩
def bkB (zs : List Int) (bl : Bool) (a b pr : Int) : List Int := (zs.set b.toNat 0).set a.toNat (ownB zs bl b pr)
theorem bk0_none {f r : Int} {zs : List Int} {bl : Bool} {uca a b pr : Int} (h1 : bkC f r bl (ownB zs bl b pr) uca a b 1 false 4 6 = false) (h2 : bkC f r bl (ownB zs bl b pr) uca a b 2 false 4 2 = false) (h3 : bkC f r bl (ownB zs bl b pr) uca a b 4 true 60 62 = false) (h4 : bkC f r bl (ownB zs bl b pr) uca a b 8 true 60 58 = false) : bk0 f r zs bl uca a b pr = bkB zs bl a b pr := by
  unfold bk0
  rw [bkS_no h4, bkS_no h3, bkS_no h2, bkS_no h1]; rfl
theorem bk0_ways {f r : Int} {zs : List Int} {bl : Bool} {uca a b pr : Int} : (bkC f r bl (ownB zs bl b pr) uca a b 1 false 4 6 = false ∧ bkC f r bl (ownB zs bl b pr) uca a b 2 false 4 2 = false ∧ bkC f r bl (ownB zs bl b pr) uca a b 4 true 60 62 = false ∧ bkC f r bl (ownB zs bl b pr) uca a b 8 true 60 58 = false ∧ bk0 f r zs bl uca a b pr = bkB zs bl a b pr) ∨
    ∃ (bit : Int) (c : Bool) (k to cor cro : Int), ((bit, c, k, to, cor, cro) = (1, false, 4, 6, 7, 5) ∨ (bit, c, k, to, cor, cro) = (2, false, 4, 2, 0, 3) ∨ (bit, c, k, to, cor, cro) = (4, true, 60, 62, 63, 61) ∨ (bit, c, k, to, cor, cro) = (8, true, 60, 58, 56, 59)) ∧
      bkC f r bl (ownB zs bl b pr) uca a b bit c k to = true ∧ bk0 f r zs bl uca a b pr = ((bkB zs bl a b pr).set cor.toNat ((bkB zs bl a b pr).getD cro.toNat 0)).set cro.toNat 0 := by
  have no : ∀ {bit k to bit' k' to' : Int} {c c' : Bool}, bkC f r bl (ownB zs bl b pr) uca a b bit c k to = true → (c ≠ c' ∨ k ≠ k' ∨ to ≠ to') → bkC f r bl (ownB zs bl b pr) uca a b bit' c' k' to' = false := by
    intro bit k to bit' k' to' c c' h1 h2
    rw [Bool.eq_false_iff]
    intro h3
    obtain ⟨_, _, e1, e2, e3, _⟩ := bkC_iff.1 h1
    obtain ⟨_, _, f1, f2, f3, _⟩ := bkC_iff.1 h3
    rcases h2 with h | h | h
    · exact h (e1.trans f1.symm)
    · exact h (e2.trans f2.symm)
    · exact h (e3.trans f3.symm)
  cases h1 : bkC f r bl (ownB zs bl b pr) uca a b 1 false 4 6 with
  | true =>
    refine .inr ⟨1, false, 4, 6, 7, 5, .inl rfl, h1, ?_⟩
    unfold bk0
    rw [bkS_no (no h1 (.inl (by decide))), bkS_no (no h1 (.inl (by decide))), bkS_no (no h1 (.inr (.inr (by decide)))), bkS_yes h1]; rfl
  | false =>
    cases h2 : bkC f r bl (ownB zs bl b pr) uca a b 2 false 4 2 with
    | true =>
      refine .inr ⟨2, false, 4, 2, 0, 3, .inr (.inl rfl), h2, ?_⟩
      unfold bk0
      rw [bkS_no (no h2 (.inl (by decide))), bkS_no (no h2 (.inl (by decide))), bkS_no h1, bkS_yes h2]; rfl
    | false =>
      cases h3 : bkC f r bl (ownB zs bl b pr) uca a b 4 true 60 62 with
      | true =>
        refine .inr ⟨4, true, 60, 62, 63, 61, .inr (.inr (.inl rfl)), h3, ?_⟩
        unfold bk0
        rw [bkS_no (no h3 (.inr (.inr (by decide)))), bkS_no h2, bkS_no h1, bkS_yes h3]; rfl
      | false =>
        cases h4 : bkC f r bl (ownB zs bl b pr) uca a b 8 true 60 58 with
        | true =>
          refine .inr ⟨8, true, 60, 58, 56, 59, .inr (.inr (.inr rfl)), h4, ?_⟩
          unfold bk0
          rw [bkS_no h3, bkS_no h2, bkS_no h1, bkS_yes h4]; rfl
        | false => exact .inl ⟨rfl, rfl, rfl, rfl, bk0_none h1 h2 h3 h4⟩
theorem MvOk.own3 (o : MvOk p m) : ownB (zs3R p.f p.r p.zs p.bl p.ca p.pa m.a m.b m.p) (!p.bl) m.b m.p = p.zs.getD m.a.toNat 0 := by
  obtain ⟨⟨sa0, sa1⟩, ⟨sb0, sb1⟩⟩ := o.sq
  unfold ownB
  by_cases hp : m.p = 0
  · rw [decide_eq_true hp, Bool.not_true, cond_false]
    unfold zs3R putR
    rw [decide_eq_true hp]
    simp only [Bool.not_true, Bool.false_and, cond_false]
    have h2 := o.z2.2 m.b.toNat (by omega)
    rw [if_pos rfl] at h2
    cases hc : cstR p.f p.r p.zs p.bl p.ca p.pa m.a m.b m.p with
    | false => rw [cond_false]; exact h2
    | true =>
      have hn : wayN p.zs p.bl p.ca m.a m.b ≠ 4 := by intro e; unfold cstR at hc; rw [e] at hc; simp [wayB] at hc
      obtain ⟨_, _, h64, _, _, _, hs⟩ := o.cast4 hn
      rw [cond_true, getD_set2, getD_set2]
      have : m.b.toNat ≠ (wCor (wayN p.zs p.bl p.ca m.a m.b)).toNat ∧ m.b.toNat ≠ (wCro (wayN p.zs p.bl p.ca m.a m.b)).toNat := by
        rcases hs with ⟨_, _, _, e1, e2, e3, _⟩ | ⟨_, _, _, e1, e2, e3, _⟩ | ⟨_, _, _, e1, e2, e3, _⟩ | ⟨_, _, _, e1, e2, e3, _⟩ <;> rw [e2, e3, e1] <;> decide
      rw [if_neg (fun h => this.1 h.1), if_neg (fun h => this.2 h.1), h2]
  · have hk1 : kind8 (p.zs.getD m.a.toNat 0) = 1 := by
      by_cases h : kind8 (p.zs.getD m.a.toNat 0) = 1
      · exact h
      · exact absurd (o.pr0 h) hp
    rw [decide_eq_false hp, Bool.not_false, cond_true, Bool.not_not]
    have hb := getD_bd o.h m.a.toNat
    rw [kind_abs hb] at hk1
    have hpp := o.hp
    unfold isP at hpp
    cases hbl : p.bl with
    | true =>
      rw [hbl] at hpp
      simp only [Bool.and_true, Bool.not_true, Bool.and_false, Bool.or_false, decide_eq_true_eq] at hpp
      rw [cond_true, show w8 (0 - 1) = -1 by decide]; omega
    | false =>
      rw [hbl] at hpp
      simp only [Bool.and_false, Bool.not_false, Bool.and_true, Bool.false_or, decide_eq_true_eq] at hpp
      rw [cond_false]; omega
theorem MvOk.back (o : MvOk p m) : bkZ p.f p.r (zs3R p.f p.r p.zs p.bl p.ca p.pa m.a m.b m.p) (!p.bl) ⟨m, capR p.f p.zs p.pa m.a m.b, at2R p.f p.zs p.pa m.a m.b, p.ca, p.pa, p.ha, p.fu⟩ = p.zs := by
  obtain ⟨⟨sa0, sa1⟩, ⟨sb0, sb1⟩⟩ := o.sq
  have hlen := zs3_len (f := p.f) (r := p.r) (zs := p.zs) (bl := p.bl) (ca := p.ca) (pa := p.pa) (a := m.a) (b := m.b) (pr := m.p)
  have hl2 := zs2_len (f := p.f) (zs := p.zs) (pa := p.pa) (a := m.a) (b := m.b)
  have hw3 := o.own3
  have hbc : ∀ {bit k to : Int} {c : Bool}, bkC p.f p.r (!p.bl) (ownB (zs3R p.f p.r p.zs p.bl p.ca p.pa m.a m.b m.p) (!p.bl) m.b m.p) p.ca m.a m.b bit c k to = true → absP (p.zs.getD m.a.toNat 0) = 6 ∧ csSkip p.bl p.ca m.a m.b c bit k to = false := by
    intro bit k to c h
    rw [hw3] at h
    obtain ⟨h1, h2, h3, h4, h5, _⟩ := bkC_iff.1 h
    refine ⟨h1, ?_⟩
    have := sk_iff.2 ⟨h3.trans (Bool.not_not _), h2, h4, h5⟩
    simpa using this
  by_cases hn : wayN p.zs p.bl p.ca m.a m.b = 4
  · have hcs : cstR p.f p.r p.zs p.bl p.ca p.pa m.a m.b m.p = false := by unfold cstR; rw [hn]; simp [wayB]
    have hno : bk0 p.f p.r (zs3R p.f p.r p.zs p.bl p.ca p.pa m.a m.b m.p) (!p.bl) p.ca m.a m.b m.p = bkB (zs3R p.f p.r p.zs p.bl p.ca p.pa m.a m.b m.p) (!p.bl) m.a m.b m.p := by
      have hf : ∀ {bit k to : Int} {c : Bool}, (absP (p.zs.getD m.a.toNat 0) = 6 → csSkip p.bl p.ca m.a m.b c bit k to = true) → bkC p.f p.r (!p.bl) (ownB (zs3R p.f p.r p.zs p.bl p.ca p.pa m.a m.b m.p) (!p.bl) m.b m.p) p.ca m.a m.b bit c k to = false := by
        intro bit k to c h
        rw [Bool.eq_false_iff]
        intro h2
        obtain ⟨h3, h4⟩ := hbc h2
        rw [h h3] at h4; cases h4
      exact bk0_none (hf fun h => (way4 hn h).1) (hf fun h => (way4 hn h).2.1) (hf fun h => (way4 hn h).2.2.1) (hf fun h => (way4 hn h).2.2.2)
    have h3 : ∀ i : Nat, i < p.zs.length → i ≠ m.b.toNat → i ≠ m.a.toNat → (zs3R p.f p.r p.zs p.bl p.ca p.pa m.a m.b m.p).getD i 0 = (zs1R p.f p.zs p.pa m.a m.b).getD i 0 := by
      intro i hi h1 h2
      have hz := o.z2.2 i hi
      rw [if_neg h1, if_neg h2] at hz
      rw [← hz]
      unfold zs3R putR
      rw [hcs, cond_false]
      cases decide (m.p = 0) <;> cases p.bl <;> simp only [Bool.not_true, Bool.not_false, Bool.and_self, Bool.and_false, Bool.false_and, cond_true, cond_false] <;> first | rfl | (rw [getD_set2, if_neg (fun h => h1 h.1)])
    unfold bkZ
    dsimp only
    rw [hno, hlen]
    unfold bkB
    rw [hw3]
    have hab : m.a.toNat ≠ m.b.toNat := by have := o.hab; omega
    cases hc : decide (0 ≤ at2R p.f p.zs p.pa m.a m.b) with
    | true =>
      obtain ⟨c1, c2, c3, c4⟩ := o.cap.2.1 (of_decide_eq_true hc)
      have c0 := of_decide_eq_true hc
      rw [decide_eq_true c1, Bool.and_self, cond_true]
      refine ext_getD (by simp only [List.length_set, hlen]) fun i hi => ?_
      simp only [List.length_set, hlen] at hi
      simp only [getD_set2, List.length_set, hlen]
      by_cases i1 : i = (at2R p.f p.zs p.pa m.a m.b).toNat
      · rw [if_pos ⟨i1, by omega⟩, i1, c4]; rfl
      rw [if_neg (fun h => i1 h.1)]
      by_cases i2 : i = m.a.toNat
      · rw [if_pos ⟨i2, by omega⟩, i2]
      rw [if_neg (fun h => i2 h.1)]
      by_cases i3 : i = m.b.toNat
      · rw [if_pos ⟨i3, by omega⟩, i3]
        cases he : epB p.zs p.pa m.a m.b with
        | true =>
          simp only [epB, Bool.and_eq_true, decide_eq_true_eq] at he
          rw [o.kd] at he
          exact (o.ep he.1 he.2).2.2.2.2.1.symm
        | false =>
          exfalso
          apply i1
          rw [c4]; unfold at1R; rw [he]; exact i3
      rw [if_neg (fun h => i3 h.1), h3 i hi i3 i2]
      unfold zs1R
      rw [hc, cond_true, getD_set2, if_neg (fun h => i1 h.1)]
    | false =>
      obtain ⟨c1, c2, c3⟩ := o.cap.2.2.1 (by have := of_decide_eq_false hc; omega)
      rw [Bool.false_and, cond_false]
      refine ext_getD (by simp only [List.length_set, hlen]) fun i hi => ?_
      simp only [List.length_set, hlen] at hi
      simp only [getD_set2, List.length_set, hlen]
      by_cases i2 : i = m.a.toNat
      · rw [if_pos ⟨i2, by omega⟩, i2]
      rw [if_neg (fun h => i2 h.1)]
      by_cases i3 : i = m.b.toNat
      · rw [if_pos ⟨i3, by omega⟩, i3, c3]
      rw [if_neg (fun h => i3 h.1), h3 i hi i3 i2]
      unfold zs1R
      rw [hc, cond_false]
  · obtain ⟨hf, hr, h64, hk, hp0, hcs, hs⟩ := o.cast4 hn
    have hbz : p.zs.getD m.b.toNat 0 = 0 := by
      rcases hs with ⟨_, _, _, e1, _, _, _, e2⟩ | ⟨_, _, _, e1, _, _, _, e2⟩ | ⟨_, _, _, e1, _, _, _, e2⟩ | ⟨_, _, _, e1, _, _, _, e2⟩ <;> rw [e1] <;> exact e2
    have hat := o.at_cast hk hbz
    unfold bkZ
    dsimp only
    rw [hat, decide_eq_false (show ¬ (0 : Int) ≤ -1 by decide), Bool.false_and, cond_false]
    have hz1 : zs1R p.f p.zs p.pa m.a m.b = p.zs := by unfold zs1R; rw [hat]; rfl
    have hz3 : zs3R p.f p.r p.zs p.bl p.ca p.pa m.a m.b m.p = ((zs2R p.f p.zs p.pa m.a m.b).set (wCro (wayN p.zs p.bl p.ca m.a m.b)).toNat ((zs2R p.f p.zs p.pa m.a m.b).getD (wCor (wayN p.zs p.bl p.ca m.a m.b)).toNat 0)).set (wCor (wayN p.zs p.bl p.ca m.a m.b)).toNat 0 := by
      unfold zs3R putR
      rw [hcs, hp0]; rfl
    have hz2 : zs2R p.f p.zs p.pa m.a m.b = (p.zs.set m.a.toNat 0).set m.b.toNat (p.zs.getD m.a.toNat 0) := by unfold zs2R; rw [hz1]
    have fin : ∀ {bit k to cor cro : Int} {c : Bool}, CastIs p m c bit k to cor cro → k.toNat ≠ to.toNat → k.toNat ≠ cor.toNat → k.toNat ≠ cro.toNat → to.toNat ≠ cor.toNat → to.toNat ≠ cro.toNat → cor.toNat ≠ cro.toNat → cor.toNat < 64 → cro.toNat < 64 →
        ((bit, c, k, to, cor, cro) = (1, false, 4, 6, 7, 5) ∨ (bit, c, k, to, cor, cro) = (2, false, 4, 2, 0, 3) ∨ (bit, c, k, to, cor, cro) = (4, true, 60, 62, 63, 61) ∨ (bit, c, k, to, cor, cro) = (8, true, 60, 58, 56, 59)) →
        bk0 p.f p.r (zs3R p.f p.r p.zs p.bl p.ca p.pa m.a m.b m.p) (!p.bl) p.ca m.a m.b m.p = p.zs := by
      intro bit k to cor cro c ⟨q1, q2, q3, q4, q5, q6, q7, q8⟩ d1 d2 d3 d4 d5 d6 l3 l4 hrow
      have hC : bkC p.f p.r (!p.bl) (ownB (zs3R p.f p.r p.zs p.bl p.ca p.pa m.a m.b m.p) (!p.bl) m.b m.p) p.ca m.a m.b bit c k to = true := by
        rw [hw3, bkC_iff, o.kd, hf, hr]
        exact ⟨hk, q2, by rw [Bool.not_not]; exact q1.symm, q3.symm, q4.symm, by decide⟩
      rcases bk0_ways (f := p.f) (r := p.r) (zs := zs3R p.f p.r p.zs p.bl p.ca p.pa m.a m.b m.p) (bl := !p.bl) (uca := p.ca) (a := m.a) (b := m.b) (pr := m.p) with ⟨n1, n2, n3, n4, _⟩ | ⟨bit', c', k', to', cor', cro', hrow', hC', he⟩
      · exfalso
        rcases hrow with h | h | h | h <;> cases h
        · rw [n1] at hC; cases hC
        · rw [n2] at hC; cases hC
        · rw [n3] at hC; cases hC
        · rw [n4] at hC; cases hC
      · rw [he]
        obtain ⟨_, _, f1, f2, f3, _⟩ := bkC_iff.1 hC
        obtain ⟨_, _, g1, g2, g3, _⟩ := bkC_iff.1 hC'
        have h1 : c = c' := f1.trans g1.symm
        have h2 : k = k' := f2.trans g2.symm
        have h3 : to = to' := f3.trans g3.symm
        have h4 : cor' = cor ∧ cro' = cro := by
          subst h1 h2 h3
          rcases hrow with h | h | h | h <;> cases h <;> rcases hrow' with h | h | h | h <;> cases h <;> exact ⟨rfl, rfl⟩
        rw [h4.1, h4.2]
        unfold bkB
        rw [hw3]
        refine bk_castle (z2 := zs2R p.f p.zs p.pa m.a m.b) (z3 := zs3R p.f p.r p.zs p.bl p.ca p.pa m.a m.b m.p) d1 d2 d3 d4 d5 d6 (by omega) (by omega) (by omega) (by omega) ?_ q7 q8 ?_ ?_ (by rw [q3, q4])
        · exact q3 ▸ rfl
        · rw [hz2, q3, q4]
        · rw [hz3, q5, q6]
    rcases hs with h | h | h | h
    · exact fin h (by decide) (by decide) (by decide) (by decide) (by decide) (by decide) (by decide) (by decide) (.inl rfl)
    · exact fin h (by decide) (by decide) (by decide) (by decide) (by decide) (by decide) (by decide) (by decide) (.inr (.inl rfl))
    · exact fin h (by decide) (by decide) (by decide) (by decide) (by decide) (by decide) (by decide) (by decide) (.inr (.inr (.inl rfl)))
    · exact fin h (by decide) (by decide) (by decide) (by decide) (by decide) (by decide) (by decide) (by decide) (.inr (.inr (.inr rfl)))
end
theorem mk_p {p : Psn} {m : Mov} (h : mkE5 p m = 0) : mkP p m = ⟨p.f, p.r, zs3R p.f p.r p.zs p.bl p.ca p.pa m.a m.b m.p, !p.bl, caR p.ca m.a m.b, paR p.f p.zs m.a m.b, haR p.f p.zs p.pa p.ha m.a m.b, fuR p.bl p.fu⟩ ∧ mkU p m = ⟨m, capR p.f p.zs p.pa m.a m.b, at2R p.f p.zs p.pa m.a m.b, p.ca, p.pa, p.ha, p.fu⟩ := by
  constructor
  · unfold mkP; rw [decide_eq_true h]; rfl
  · unfold mkU; rw [decide_eq_true h]; rfl
theorem bk_mk {p : Psn} {m : Mov} (hl : p.zs.length ≤ 64) (hca : 0 ≤ p.ca) (h : mkE5 p m = 0) : bkP (mkP p m) (mkU p m) = p := by
  obtain ⟨e1, e2⟩ := mk_p h
  rw [e1, e2]
  unfold bkP
  dsimp only
  rw [(mk_mv hl hca h).1.back, Bool.not_not]
end Go.Ab

namespace Go.Ab
abbrev iL (l : List Int) : List Int := l
structure Bd where
  f : Int
  r : Int
  zs : List Int
end Go.Ab

set_option maxRecDepth 100000
set_option maxHeartbeats 4000000
namespace Go.Ab
open Go.Proofs
variable {kCa kDb : Bool}
def refUnmake_s1 : Psn → Und → List Int → Int → Option (Int ⊕ Unit ⊕ Psn × Bool) := fun (p : Psn) (u : Und) (s9 : List Int) => let x42 := iL [1, 2, 4, 8]; let x46 := (List.take p.zs.length (List.drop 0 p.zs)).length; let x45 := List.take x46 (List.drop 0 s9); let x44 := x45.length; let x43 := Int.ofNat x44; fun (s12 : Int) => let x73 := parseR 8 8 (rowN (x42.getD s12.toNat 0) 0); let x74 := parseR 8 8 (rowN (x42.getD s12.toNat 0) 1); let x75 := parseR 8 8 (rowN (x42.getD s12.toNat 0) 2); let x76 := parseR 8 8 (rowN (x42.getD s12.toNat 0) 3); let x77 := IntKind.i64.wrap (s12 + 1); let x67 := Decidable.decide (0 ≤ x76) && Decidable.decide (x76 < x43); let x72 := x76.toNat; let x71 := (x45.set x75.toNat (x45.getD x72 0)).set x72 0; let x70 := List.take x44 (List.drop 0 x71); let x68 := Psn.mk p.f p.r x70 (!p.bl) u.ca u.pa u.ha u.fu; let x69 := x70.length; let x64 := rmU x68 (Mov.mk u.m.a u.m.b u.m.p); let x65 := rmE x68 (Mov.mk u.m.a u.m.b u.m.p); let x66 := rmP x68 (Mov.mk u.m.a u.m.b u.m.p); let x56 := x66.zs; let x57 := x64.pa; let x58 := x64.m; let x59 := x64.c; let x60 := x64.at_; let x61 := x64.fu; let x62 := x64.ca; let x63 := x64.ha; let x52 := List.take x56.length (List.drop 0 x56); let x53 := x58.a; let x54 := x58.p; let x55 := x58.b; let x50 := Decidable.decide (x65 = 0) && (Decidable.decide (x53 = u.m.a) && (Decidable.decide (x55 = u.m.b) && Decidable.decide (x54 = u.m.p)) && (Decidable.decide (x59 = u.c) && (Decidable.decide (x60 = u.at_) && (Decidable.decide (x62 = u.ca) && (Decidable.decide (x57 = u.pa) && (Decidable.decide (x63 = u.ha) && Decidable.decide (x61 = u.fu))))))); let x51 := x52.length; let x49 := !x50; let x48 := x49 || x50; bif Decidable.decide (s12 < Int.ofNat 4) then needO (Decidable.decide (0 ≤ s12) && Decidable.decide (s12 < Int.ofNat 4)) (bif !Decidable.decide (p.f = 8) || !Decidable.decide (p.r = 8) || !Decidable.decide (u.m.a = x73) || !Decidable.decide (u.m.b = x74) then Option.some (Sum.inl x77) else needO (Decidable.decide (x46 = x44) && Decidable.decide (x44 ≤ 64)) (needO x67 (needO (Decidable.decide (0 ≤ x75) && Decidable.decide (x75 < x43)) (needO x67 (needO (Decidable.decide (x69 ≤ 64)) (needO x48 (needO x48 (needO (x49 || Decidable.decide (x51 ≤ 64) && Decidable.decide ((List.take p.zs.length (List.drop 0 p.zs)).length ≤ 64)) (needO x48 (bif x50 && equalB (Psn.mk x66.f x66.r x52 x66.bl x66.ca x66.pa x66.ha x66.fu) (Psn.mk p.f p.r (List.take p.zs.length (List.drop 0 p.zs)) p.bl p.ca p.pa p.ha p.fu) then escO (escO (Option.some (Psn.mk p.f p.r x71 (!p.bl) u.ca u.pa u.ha u.fu, Bool.true))) else Option.some (Sum.inl x77))))))))))) else Option.some (Sum.inr (Sum.inl ()))
def refUnmake (p : Psn) (u : Und) : Option (Psn × Bool) := let x84 := List.take p.zs.length (List.drop 0 p.zs); let x81 := x84.set u.m.b.toNat 0; let x83 := x84.length; let x82 := Int.ofNat x83; let x79 := Decidable.decide (0 ≤ u.m.b) && Decidable.decide (u.m.b < x82); let x80 := Decidable.decide (0 ≤ u.at_) && Decidable.decide (u.at_ < x82); needO (Decidable.decide (x83 ≤ 64)) (needO x79 (joinO (bif !Decidable.decide (u.m.p = 0) then joinO (bif !p.bl then Option.some (Sum.inl (-1)) else Option.some (Sum.inl 1)) fun (s5 : Int) => Option.some (Sum.inl s5) else Option.some (Sum.inl (x84.getD u.m.b.toNat 0))) fun (s7 : Int) => needO x79 (needO (Decidable.decide (0 ≤ u.m.a) && Decidable.decide (u.m.a < x82)) (joinO (bif x80 then needO x80 (Option.some (Sum.inl ((x81.set u.m.a.toNat s7).set u.at_.toNat u.c))) else Option.some (Sum.inl (x81.set u.m.a.toNat s7))) fun (s9 : List Int) => let x107 := Psn.mk p.f p.r (List.take x83 (List.drop 0 s9)) (!p.bl) u.ca u.pa u.ha u.fu; let x104 := rmP x107 (Mov.mk u.m.a u.m.b u.m.p); let x105 := rmU x107 (Mov.mk u.m.a u.m.b u.m.p); let x106 := rmE x107 (Mov.mk u.m.a u.m.b u.m.p); let x96 := x105.c; let x97 := x105.pa; let x98 := x105.fu; let x99 := x105.ha; let x100 := x105.m; let x101 := x105.at_; let x102 := x105.ca; let x103 := x104.zs; let x92 := List.take x103.length (List.drop 0 x103); let x93 := x100.b; let x94 := x100.p; let x95 := x100.a; let x90 := Decidable.decide (x106 = 0) && (Decidable.decide (x95 = u.m.a) && (Decidable.decide (x93 = u.m.b) && Decidable.decide (x94 = u.m.p)) && (Decidable.decide (x96 = u.c) && (Decidable.decide (x101 = u.at_) && (Decidable.decide (x102 = u.ca) && (Decidable.decide (x97 = u.pa) && (Decidable.decide (x99 = u.ha) && Decidable.decide (x98 = u.fu))))))); let x91 := x92.length; let x89 := !x90; let x88 := x89 || x90; needO (Decidable.decide (x83 = (List.take x83 (List.drop 0 s9)).length) && Decidable.decide ((List.take x83 (List.drop 0 s9)).length ≤ 64)) (needO x88 (needO x88 (needO (x89 || Decidable.decide (x91 ≤ 64) && Decidable.decide ((List.take p.zs.length (List.drop 0 p.zs)).length ≤ 64)) (needO x88 (bif x90 && equalB (Psn.mk x104.f x104.r x92 x104.bl x104.ca x104.pa x104.ha x104.fu) (Psn.mk p.f p.r (List.take p.zs.length (List.drop 0 p.zs)) p.bl p.ca p.pa p.ha p.fu) then needO (Decidable.decide (x83 = s9.length)) (Option.some (Psn.mk p.f p.r s9 (!p.bl) u.ca u.pa u.ha u.fu, Bool.true)) else loopO (refUnmake_s1 p u s9) (fun (s17 : Unit) => Option.some (Psn.mk 0 0 [] Bool.false 0 0 0 0, Bool.false)) 1000000 0)))))))))
def refUnmake_V (R : Psn × Bool) : V := .tup [.agg [.int .i64 R.1.f, .int .i64 R.1.r, .sl 1 0 R.1.zs.length none, Bb R.1.bl, .int .u8 R.1.ca, .int .i64 R.1.pa, .int .i64 R.1.ha, .int .i64 R.1.fu], Bb R.2]
def refUnmake_N (R : Psn × Bool) : List O := [.ints true .i8 R.1.zs]
def c_refUnmake : CF
  | [.agg [.int .i64 p_0, .int .i64 p_1, .sl 0 0 p_2n none, .bool p_3, .int .u8 p_4, .int .i64 p_5, .int .i64 p_6, .int .i64 p_7], .agg [.int .i64 u_0, .int .i64 u_1, .int .i8 u_2, .int .i8 u_3, .int .i64 u_4, .int .u8 u_5, .int .i64 u_6, .int .i64 u_7, .int .i64 u_8]], [.ints false .i8 p_2] => retC (decide (p_2n = p_2.length)) (refUnmake ⟨p_0, p_1, p_2, p_3, p_4, p_5, p_6, p_7⟩ ⟨⟨u_0, u_1, u_2⟩, u_3, u_4, u_5, u_6, u_7, u_8⟩) (⟨0, 0, [], false, 0, 0, 0, 0⟩, false) refUnmake_V refUnmake_N
  | _, _ => none
theorem refUnmake_snd (p : Psn) (u : Und) {r} (hr : refUnmake p u = some r) : FnSound (GGx kCa kDb) PP 38 [.agg [.int .i64 p.f, .int .i64 p.r, .sl 0 0 p.zs.length none, Bb p.bl, .int .u8 p.ca, .int .i64 p.pa, .int .i64 p.ha, .int .i64 p.fu], .agg [.int .i64 u.m.a, .int .i64 u.m.b, .int .i8 u.m.p, .int .i8 u.c, .int .i64 u.at_, .int .u8 u.ca, .int .i64 u.pa, .int .i64 u.ha, .int .i64 u.fu]] [.ints false .i8 p.zs] (refUnmake_V r) (refUnmake_N r) := by
  have hE := cutE (EE_ok (kCa := kCa) (kDb := kDb) (cts := [(14, c_rcopy), (16, c_rmake), (17, c_requal), (82, c_rrow), (83, c_rsquare)]) (inl := []) ⟨c_rcopy_ok, c_rmake_ok, c_requal_ok, c_rrow_ok, c_rsquare_ok, trivial⟩ trivial)
  refine so_fn hE 2 Tryz.func38 rfl rfl refUnmake_V refUnmake_N hr ?_ rfl rfl
  refine so_as (pl (decide_eq_true (win_len rfl)) id) ?_
  refine so_triv rfl ?_
  refine so_need ?_
  refine so_join hE 2 (let x109 := [V.int IntKind.u8 u.ca, V.int IntKind.i64 u.pa, V.int IntKind.i64 u.ha, V.int IntKind.i64 u.fu]; let x110 := List.take p.zs.length (List.drop 0 p.zs); fun (s7 : Int) => ([(2, V.ptr 1 0 0), (3, V.ptr 2 0 0), (4, V.ptr 3 0 0), (5, V.bool Bool.false), (6, V.ptr 4 0 0), (7, V.ptr 5 0 0), (8, V.int IntKind.i8 s7)], [O.ints Bool.false IntKind.i8 p.zs, O.cells Bool.true [V.int IntKind.i64 p.f, V.int IntKind.i64 p.r, V.sl 0 0 p.zs.length Option.none, V.bool p.bl, V.int IntKind.u8 p.ca, V.int IntKind.i64 p.pa, V.int IntKind.i64 p.ha, V.int IntKind.i64 p.fu], O.cells Bool.true (V.int IntKind.i64 u.m.a :: V.int IntKind.i64 u.m.b :: V.int IntKind.i8 u.m.p :: V.int IntKind.i8 u.c :: V.int IntKind.i64 u.at_ :: x109), O.cells Bool.true [V.int IntKind.i64 0, V.int IntKind.i64 0, V.nils, V.bool Bool.false, V.int IntKind.u8 0, V.int IntKind.i64 0, V.int IntKind.i64 0, V.int IntKind.i64 0], O.cells Bool.true (V.int IntKind.i64 p.f :: V.int IntKind.i64 p.r :: V.sl 6 0 x110.length Option.none :: (V.bool !p.bl) :: x109), O.cells Bool.true [V.int IntKind.i64 u.m.a, V.int IntKind.i64 u.m.b, V.int IntKind.i8 u.m.p], O.ints Bool.true IntKind.i8 x110])) rfl ?_ ?_ (fun s7 => ?_)
  · refine so_join hE 2 (let x112 := [V.int IntKind.u8 u.ca, V.int IntKind.i64 u.pa, V.int IntKind.i64 u.ha, V.int IntKind.i64 u.fu]; let x113 := List.take p.zs.length (List.drop 0 p.zs); fun (s5 : Int) => ([(2, V.ptr 1 0 0), (3, V.ptr 2 0 0), (4, V.ptr 3 0 0), (5, V.bool Bool.false), (6, V.ptr 4 0 0), (7, V.ptr 5 0 0), (8, V.int IntKind.i8 s5)], [O.ints Bool.false IntKind.i8 p.zs, O.cells Bool.true [V.int IntKind.i64 p.f, V.int IntKind.i64 p.r, V.sl 0 0 p.zs.length Option.none, V.bool p.bl, V.int IntKind.u8 p.ca, V.int IntKind.i64 p.pa, V.int IntKind.i64 p.ha, V.int IntKind.i64 p.fu], O.cells Bool.true (V.int IntKind.i64 u.m.a :: V.int IntKind.i64 u.m.b :: V.int IntKind.i8 u.m.p :: V.int IntKind.i8 u.c :: V.int IntKind.i64 u.at_ :: x112), O.cells Bool.true [V.int IntKind.i64 0, V.int IntKind.i64 0, V.nils, V.bool Bool.false, V.int IntKind.u8 0, V.int IntKind.i64 0, V.int IntKind.i64 0, V.int IntKind.i64 0], O.cells Bool.true (V.int IntKind.i64 p.f :: V.int IntKind.i64 p.r :: V.sl 6 0 x113.length Option.none :: (V.bool !p.bl) :: x112), O.cells Bool.true [V.int IntKind.i64 u.m.a, V.int IntKind.i64 u.m.b, V.int IntKind.i8 u.m.p], O.ints Bool.true IntKind.i8 x113])) rfl ?_ ?_ (fun s5 => ?_)
    · exact so_nrm ((Ent.rn [0, 1, 2, 3, 5, 6, 4] [2, 3, 4, 5, 6, 7, 8] rfl rfl rfl rfl rfl))
    · exact so_nrm ((Ent.rn [0, 1, 2, 3, 5, 6, 4] [2, 3, 4, 5, 6, 7, 8] rfl rfl rfl rfl rfl))
    exact so_nrm ((Ent.rn [0, 1, 2, 3, 4, 5, 6] [2, 3, 4, 5, 6, 7, 8] rfl rfl rfl rfl rfl))
  · exact so_nrm ((Ent.rn [0, 1, 2, 3, 5, 6, 4] [2, 3, 4, 5, 6, 7, 8] rfl rfl rfl rfl rfl))
  refine so_need ?_
  refine so_need ?_
  refine so_triv (Bool.not_or_self _) ?_
  refine so_triv (Bool.not_or_self _) ?_
  refine so_triv (Bool.not_or_self _) ?_
  refine so_triv (Bool.not_or_self _) ?_
  refine so_triv (Bool.not_or_self _) ?_
  refine so_triv (Bool.not_or_self _) ?_
  refine so_join hE 2 (let x115 := [V.int IntKind.u8 u.ca, V.int IntKind.i64 u.pa, V.int IntKind.i64 u.ha, V.int IntKind.i64 u.fu]; fun (s9 : List Int) => ([(2, V.ptr 1 0 0), (3, V.ptr 2 0 0), (4, V.ptr 3 0 0), (5, V.bool Bool.false), (6, V.ptr 4 0 0), (7, V.ptr 5 0 0)], [O.ints Bool.false IntKind.i8 p.zs, O.cells Bool.true [V.int IntKind.i64 p.f, V.int IntKind.i64 p.r, V.sl 0 0 p.zs.length Option.none, V.bool p.bl, V.int IntKind.u8 p.ca, V.int IntKind.i64 p.pa, V.int IntKind.i64 p.ha, V.int IntKind.i64 p.fu], O.cells Bool.true (V.int IntKind.i64 u.m.a :: V.int IntKind.i64 u.m.b :: V.int IntKind.i8 u.m.p :: V.int IntKind.i8 u.c :: V.int IntKind.i64 u.at_ :: x115), O.cells Bool.true [V.int IntKind.i64 0, V.int IntKind.i64 0, V.nils, V.bool Bool.false, V.int IntKind.u8 0, V.int IntKind.i64 0, V.int IntKind.i64 0, V.int IntKind.i64 0], O.cells Bool.true (V.int IntKind.i64 p.f :: V.int IntKind.i64 p.r :: V.sl 6 0 (List.take p.zs.length (List.drop 0 p.zs)).length Option.none :: (V.bool !p.bl) :: x115), O.cells Bool.true [V.int IntKind.i64 u.m.a, V.int IntKind.i64 u.m.b, V.int IntKind.i8 u.m.p], O.ints Bool.true IntKind.i8 s9])) rfl ?_ ?_ (fun s9 => ?_)
  · refine so_need ?_
    exact so_nrm ((Ent.rn [0, 1, 2, 3, 4, 5, 6] [2, 3, 4, 5, 6, 7] rfl rfl rfl rfl rfl))
  · exact so_nrm ((Ent.rn [0, 1, 2, 3, 4, 5, 6] [2, 3, 4, 5, 6, 7] rfl rfl rfl rfl rfl))
  refine so_need ?_
  refine so_triv (Bool.not_or_self _) ?_
  refine so_triv (Bool.not_or_self _) ?_
  refine so_triv (Bool.not_or_self _) ?_
  refine so_need ?_
  refine so_need ?_
  refine so_as (pi (pb (pr (pl (decide_eq_true (win_len rfl)) id) (decide_eq_true (win_len rfl))) id)) ?_
  refine so_need ?_
  refine so_split hE 2 rfl ?_ ?_
  · refine so_if (fun h0 => ?_)
    exact so_ret (fin_bs [6] (.inr rfl) rfl rfl rfl rfl (by have qh0 := of_decide_eq_true h0; simp_all [refUnmake_V]))
  refine so_loop hE 2 (let x117 := [V.int IntKind.u8 u.ca, V.int IntKind.i64 u.pa, V.int IntKind.i64 u.ha, V.int IntKind.i64 u.fu]; fun (s12 : Int) => ([(2, V.ptr 1 0 0), (3, V.ptr 2 0 0), (4, V.ptr 3 0 0), (5, V.bool Bool.false), (6, V.ptr 4 0 0), (7, V.ptr 5 0 0), (99, V.sl 6 0 4 Option.none), (100, V.int IntKind.i64 (Int.ofNat 4)), (101, V.int IntKind.i64 s12)], [O.ints Bool.false IntKind.i8 p.zs, O.cells Bool.true [V.int IntKind.i64 p.f, V.int IntKind.i64 p.r, V.sl 0 0 p.zs.length Option.none, V.bool p.bl, V.int IntKind.u8 p.ca, V.int IntKind.i64 p.pa, V.int IntKind.i64 p.ha, V.int IntKind.i64 p.fu], O.cells Bool.true (V.int IntKind.i64 u.m.a :: V.int IntKind.i64 u.m.b :: V.int IntKind.i8 u.m.p :: V.int IntKind.i8 u.c :: V.int IntKind.i64 u.at_ :: x117), O.cells Bool.true [V.int IntKind.i64 0, V.int IntKind.i64 0, V.nils, V.bool Bool.false, V.int IntKind.u8 0, V.int IntKind.i64 0, V.int IntKind.i64 0, V.int IntKind.i64 0], O.cells Bool.true (V.int IntKind.i64 p.f :: V.int IntKind.i64 p.r :: V.sl 7 0 (List.take p.zs.length (List.drop 0 p.zs)).length Option.none :: (V.bool !p.bl) :: x117), O.cells Bool.true [V.int IntKind.i64 u.m.a, V.int IntKind.i64 u.m.b, V.int IntKind.i8 u.m.p], O.ints Bool.true IntKind.u8 (iL [1, 2, 4, 8]), O.ints Bool.true IntKind.i8 s9])) (fun (s17 : Unit) => ([(4, V.ptr 1 0 0), (5, V.bool Bool.false)], [O.ints Bool.false IntKind.i8 p.zs, O.cells Bool.true [V.int IntKind.i64 0, V.int IntKind.i64 0, V.nils, V.bool Bool.false, V.int IntKind.u8 0, V.int IntKind.i64 0, V.int IntKind.i64 0, V.int IntKind.i64 0]])) (.exit 0) ((Ent.rn [0, 1, 2, 3, 4, 5, 10, 6] [2, 3, 4, 5, 6, 7, 99, 100, 101] rfl rfl rfl rfl rfl)) (fun s12 => ?_) (fun s17 => ?_)
  · refine so_split hE 2 rfl ?_ ?_
    · refine so_need ?_
      refine so_triv rfl ?_
      refine so_triv rfl ?_
      refine so_triv (Bool.not_or_self _) ?_
      refine so_triv (Bool.not_or_self _) ?_
      refine so_triv (Bool.not_or_self _) ?_
      refine so_triv (Bool.or_not_self _) ?_
      refine so_triv (Bool.not_or_self _) ?_
      refine so_triv (Bool.not_or_self _) ?_
      refine so_triv (pg rfl) ?_
      refine so_triv (Bool.not_or_self _) ?_
      refine so_triv (Bool.not_or_self _) ?_
      refine so_triv (pg rfl) ?_
      refine so_triv (Bool.not_or_self _) ?_
      refine so_triv (Bool.not_or_self _) ?_
      refine so_triv (Bool.or_not_self _) ?_
      refine so_triv (Bool.not_or_self _) ?_
      refine so_triv (Bool.not_or_self _) ?_
      refine so_triv (pg rfl) ?_
      refine so_triv (Bool.not_or_self _) ?_
      refine so_triv (Bool.not_or_self _) ?_
      refine so_triv (pg rfl) ?_
      refine so_triv (Bool.not_or_self _) ?_
      refine so_triv (Bool.not_or_self _) ?_
      refine so_triv (Bool.or_not_self _) ?_
      refine so_split hE 2 rfl ?_ ?_
      · exact so_next ((Ent.rn [0, 1, 2, 3, 4, 5, 6, 7] [2, 3, 4, 5, 6, 7, 99, 100, 101] rfl rfl rfl rfl rfl))
      refine so_need ?_
      refine so_triv rfl ?_
      refine so_triv rfl ?_
      refine so_triv rfl ?_
      refine so_triv rfl ?_
      refine so_triv rfl ?_
      refine so_need ?_
      refine so_need ?_
      refine so_triv rfl ?_
      refine so_triv rfl ?_
      refine so_triv rfl ?_
      refine so_need ?_
      refine so_as (pl (decide_eq_true (win_len (by simp only [List.length_set]))) id) ?_
      refine so_triv (Bool.not_or_self _) ?_
      refine so_triv (Bool.not_or_self _) ?_
      refine so_triv (Bool.not_or_self _) ?_
      refine so_need ?_
      refine so_need ?_
      refine so_as (pi (pb (pr (pl (decide_eq_true (win_len rfl)) id) (decide_eq_true (win_len rfl))) id)) ?_
      refine so_need ?_
      refine so_split hE 2 rfl ?_ ?_
      · refine so_out (by simp) (so_out1 ?_)
        exact so_ret (fin_bs [9] (.inr rfl) rfl rfl rfl rfl (by simp [refUnmake_V]))
      exact so_next ((Ent.rn [0, 1, 2, 3, 4, 5, 6, 7] [2, 3, 4, 5, 6, 7, 99, 100, 101] rfl rfl rfl rfl rfl))
    exact so_exit ((Ent.rn [0, 3] [4, 5] rfl rfl rfl rfl rfl))
  exact so_ret (fin_phC 1 2 (.ints true .i8 []) rfl rfl rfl rfl <| fin_bs [2] (.inr rfl) rfl rfl rfl rfl rfl)
theorem c_refUnmake_ok : CtOk (GGx kCa kDb) PP (38, c_refUnmake) := by
  refine ct_mk Tryz.func38 (by kernel_rfl) rfl fun a0 h0 c0 v0 N0 e hc => ?_
  unfold c_refUnmake at e
  split at e
  · rename_i p_0 p_1 p_2n p_3 p_4 p_5 p_6 p_7 u_0 u_1 u_2 u_3 u_4 u_5 u_6 u_7 u_8 p_2
    obtain ⟨hl, r, hr, rfl, rfl⟩ := ret_ok e hc
    simp only [Bool.and_eq_true, decide_eq_true_eq] at hl
    obtain rfl := hl
    exact refUnmake_snd ⟨p_0, p_1, p_2, p_3, p_4, p_5, p_6, p_7⟩ ⟨⟨u_0, u_1, u_2⟩, u_3, u_4, u_5, u_6, u_7, u_8⟩ hr
  · cases e
end Go.Ab

set_option maxRecDepth 100000
namespace Go.Ab
open Go.Proofs
def cndP (p : Psn) (u : Und) (zs : List Int) : Psn := ⟨p.f, p.r, zs, !p.bl, u.ca, u.pa, u.ha, u.fu⟩
def tstB (p : Psn) (u : Und) (zs : List Int) : Bool := (decide (mkE5 (cndP p u zs) u.m = 0) && undB (mkU (cndP p u zs) u.m) u) && equalB (mkP (cndP p u zs) u.m) p
def ru0 (zs : List Int) (bl : Bool) (u : Und) : List Int := bif decide (0 ≤ u.at_) && decide (u.at_ < zs.length) then (bkB zs bl u.m.a u.m.b u.m.p).set u.at_.toNat u.c else bkB zs bl u.m.a u.m.b u.m.p
def ruC (zs : List Int) (cor cro : Int) : List Int := (zs.set cor.toNat (zs.getD cro.toNat 0)).set cro.toNat 0
theorem undB_eq {u v : Und} (h : undB u v = true) : u = v := by
  simp only [undB, Bool.and_eq_true, decide_eq_true_eq] at h
  obtain ⟨⟨h1, h2, h3⟩, h4, h5, h6, h7, h8, h9⟩ := h
  rcases u with ⟨⟨a, b, c⟩, d, e, f, g, i, j⟩
  rcases v with ⟨⟨a', b', c'⟩, d', e', f', g', i', j'⟩
  dsimp only at h1 h2 h3 h4 h5 h6 h7 h8 h9
  subst h1 h2 h3 h4 h5 h6 h7 h8 h9; rfl
theorem equalB_eq {p q : Psn} (h : equalB p q = true) : p = q := by
  simp only [equalB, sameB, Bool.and_eq_true, decide_eq_true_eq, beq_iff_eq] at h
  obtain ⟨⟨⟨⟨⟨⟨⟨h1, h2⟩, h3⟩, h4⟩, h5⟩, h6⟩, h7⟩, h8⟩ := h
  rcases p with ⟨a, b, c, d, e, f, g, i⟩
  rcases q with ⟨a', b', c', d', e', f', g', i'⟩
  dsimp only at h1 h2 h3 h4 h5 h6 h7 h8
  subst h1 h2 h3 h4 h5 h6 h7 h8; rfl
theorem tst_eq {p : Psn} {u : Und} {zs : List Int} (h : tstB p u zs = true) : mkE5 (cndP p u zs) u.m = 0 ∧ mkU (cndP p u zs) u.m = u ∧ mkP (cndP p u zs) u.m = p := by
  unfold tstB at h
  simp only [Bool.and_eq_true, decide_eq_true_eq] at h
  exact ⟨h.1.1, undB_eq h.1.2, equalB_eq h.2⟩
theorem tst_bk {p : Psn} {u : Und} {zs : List Int} (hl : zs.length ≤ 64) (hca : 0 ≤ u.ca) (h : tstB p u zs = true) : cndP p u zs = bkP p u := by
  obtain ⟨h1, h2, h3⟩ := tst_eq h
  have := bk_mk (p := cndP p u zs) (m := u.m) hl hca h1
  rw [h2, h3] at this
  exact this.symm
theorem cnd_zs {p : Psn} {u : Und} {zs zs' : List Int} (h : cndP p u zs = cndP p u zs') : zs = zs' := congrArg Psn.zs h
theorem bk_cnd (p : Psn) (u : Und) : bkP p u = cndP p u (bkZ p.f p.r p.zs p.bl u) := rfl
theorem bk_in {p : Psn} {u : Und} (hl : p.zs.length ≤ 64) (hca : 0 ≤ u.ca) (h : tstB p u (bkZ p.f p.r p.zs p.bl u) = true) :
    bkZ p.f p.r p.zs p.bl u = ru0 p.zs p.bl u ∨ ∃ (k to cor cro : Int), ((k, to, cor, cro) = (4, 6, 7, 5) ∨ (k, to, cor, cro) = (4, 2, 0, 3) ∨ (k, to, cor, cro) = (60, 62, 63, 61) ∨ (k, to, cor, cro) = (60, 58, 56, 59)) ∧ p.f = 8 ∧ p.r = 8 ∧ u.m.a = k ∧ u.m.b = to ∧ bkZ p.f p.r p.zs p.bl u = ruC (ru0 p.zs p.bl u) cor cro := by
  obtain ⟨h1, h2, h3⟩ := tst_eq h
  rcases bk0_ways (f := p.f) (r := p.r) (zs := p.zs) (bl := p.bl) (uca := u.ca) (a := u.m.a) (b := u.m.b) (pr := u.m.p) with ⟨_, _, _, _, he⟩ | ⟨bit, c, k, to, cor, cro, hrow, hC, he⟩
  · left; unfold bkZ ru0; rw [he]
  · right
    have hlen : (bkZ p.f p.r p.zs p.bl u).length ≤ 64 := by rw [bkZ_len]; exact hl
    obtain ⟨o, _, _⟩ := mk_mv (p := cndP p u (bkZ p.f p.r p.zs p.bl u)) (m := u.m) hlen hca h1
    obtain ⟨_, e2⟩ := mk_p h1
    rw [h2] at e2
    obtain ⟨g1, g2, g3, g4, g5, _⟩ := bkC_iff.1 hC
    have hat : u.at_ = at2R p.f (bkZ p.f p.r p.zs p.bl u) u.pa u.m.a u.m.b := congrArg Und.at_ e2
    have hcp : u.c = capR p.f (bkZ p.f p.r p.zs p.bl u) u.pa u.m.a u.m.b := congrArg Und.c e2
    obtain ⟨⟨sa0, sa1⟩, ⟨sb0, sb1⟩⟩ := o.sq
    replace sa0 : 0 ≤ u.m.a := sa0
    replace sb0 : 0 ≤ u.m.b := sb0
    replace sa1 : u.m.a < (bkZ p.f p.r p.zs p.bl u).length := sa1
    replace sb1 : u.m.b < (bkZ p.f p.r p.zs p.bl u).length := sb1
    rw [bkZ_len] at sa1 sb1
    have dist : k.toNat ≠ cor.toNat ∧ k.toNat ≠ cro.toNat := by
      rcases hrow with e | e | e | e <;> cases e <;> decide
    have hna : 0 ≤ u.at_ → u.at_ ≠ u.m.a := fun h0 => by
      rw [hat] at h0 ⊢
      exact (o.cap.2.1 h0).2.2.1
    -- the king stands on its square
    have hown : (bkZ p.f p.r p.zs p.bl u).getD u.m.a.toNat 0 = ownB p.zs p.bl u.m.b u.m.p := by
      have hb0 : (bk0 p.f p.r p.zs p.bl u.ca u.m.a u.m.b u.m.p).getD u.m.a.toNat 0 = ownB p.zs p.bl u.m.b u.m.p := by
        rw [he, getD_set2, getD_set2, ← g4, if_neg (fun h => dist.2 h.1), if_neg (fun h => dist.1 h.1)]
        unfold bkB
        rw [getD_set2, g4, if_pos ⟨rfl, by rw [List.length_set]; omega⟩]
      unfold bkZ
      cases hi : decide (0 ≤ u.at_) && decide (u.at_ < p.zs.length) with
      | false => exact hb0
      | true =>
        simp only [Bool.and_eq_true, decide_eq_true_eq] at hi
        rw [cond_true, getD_set2, if_neg]
        · exact hb0
        · rintro ⟨h, _⟩
          have := hna hi.1
          omega
    have hn : wayN (bkZ p.f p.r p.zs p.bl u) (!p.bl) u.ca u.m.a u.m.b ≠ 4 := by
      intro hn
      have hw := way4 hn (by rw [hown]; exact g1)
      have hs := sk_iff.2 (⟨g3, g2, g4, g5⟩ : c = (!p.bl) ∧ u8and u.ca bit ≠ 0 ∧ k = u.m.a ∧ to = u.m.b)
      rcases hrow with e | e | e | e <;> cases e
      · rw [hw.1] at hs; cases hs
      · rw [hw.2.1] at hs; cases hs
      · rw [hw.2.2.1] at hs; cases hs
      · rw [hw.2.2.2] at hs; cases hs
    obtain ⟨q1, q2, q3, q4, _, _, hs⟩ := o.cast4 hn
    have hbz : (bkZ p.f p.r p.zs p.bl u).getD u.m.b.toNat 0 = 0 := by
      rcases hs with ⟨_, _, _, e1, _, _, _, e2⟩ | ⟨_, _, _, e1, _, _, _, e2⟩ | ⟨_, _, _, e1, _, _, _, e2⟩ | ⟨_, _, _, e1, _, _, _, e2⟩ <;> rw [e1] <;> exact e2
    have hm1 : u.at_ = -1 := by rw [hat]; exact o.at_cast q4 hbz
    have hi : (decide (0 ≤ u.at_) && decide (u.at_ < p.zs.length)) = false := by rw [hm1]; rfl
    refine ⟨k, to, cor, cro, ?_, q1, q2, g4.symm, g5.symm, ?_⟩
    · rcases hrow with e | e | e | e <;> cases e
      · exact .inl rfl
      · exact .inr (.inl rfl)
      · exact .inr (.inr (.inl rfl))
      · exact .inr (.inr (.inr rfl))
    · unfold bkZ ru0 ruC
      rw [hi, cond_false, cond_false, he]
def ruF : Unit → Option (Psn × Bool) := fun _ => some (⟨0, 0, [], false, 0, 0, 0, 0⟩, false)
def ruT (p : Psn) (u : Und) (s9 : List Int) : Option (Psn × Bool) := let x84 := List.take p.zs.length (List.drop 0 p.zs); let x83 := x84.length; let x107 := Psn.mk p.f p.r (List.take x83 (List.drop 0 s9)) (!p.bl) u.ca u.pa u.ha u.fu; let x104 := rmP x107 (Mov.mk u.m.a u.m.b u.m.p); let x105 := rmU x107 (Mov.mk u.m.a u.m.b u.m.p); let x106 := rmE x107 (Mov.mk u.m.a u.m.b u.m.p); let x96 := x105.c; let x97 := x105.pa; let x98 := x105.fu; let x99 := x105.ha; let x100 := x105.m; let x101 := x105.at_; let x102 := x105.ca; let x103 := x104.zs; let x92 := List.take x103.length (List.drop 0 x103); let x93 := x100.b; let x94 := x100.p; let x95 := x100.a; let x90 := Decidable.decide (x106 = 0) && (Decidable.decide (x95 = u.m.a) && (Decidable.decide (x93 = u.m.b) && Decidable.decide (x94 = u.m.p)) && (Decidable.decide (x96 = u.c) && (Decidable.decide (x101 = u.at_) && (Decidable.decide (x102 = u.ca) && (Decidable.decide (x97 = u.pa) && (Decidable.decide (x99 = u.ha) && Decidable.decide (x98 = u.fu))))))); let x91 := x92.length; let x89 := !x90; let x88 := x89 || x90; needO (Decidable.decide (x83 = (List.take x83 (List.drop 0 s9)).length) && Decidable.decide ((List.take x83 (List.drop 0 s9)).length ≤ 64)) (needO x88 (needO x88 (needO (x89 || Decidable.decide (x91 ≤ 64) && Decidable.decide ((List.take p.zs.length (List.drop 0 p.zs)).length ≤ 64)) (needO x88 (bif x90 && equalB (Psn.mk x104.f x104.r x92 x104.bl x104.ca x104.pa x104.ha x104.fu) (Psn.mk p.f p.r (List.take p.zs.length (List.drop 0 p.zs)) p.bl p.ca p.pa p.ha p.fu) then needO (Decidable.decide (x83 = s9.length)) (Option.some (Psn.mk p.f p.r s9 (!p.bl) u.ca u.pa u.ha u.fu, Bool.true)) else loopO (refUnmake_s1 p u s9) (fun (_s17 : Unit) => Option.some (Psn.mk 0 0 [] Bool.false 0 0 0 0, Bool.false)) 1000000 0)))))
theorem ru_own {p : Psn} {u : Und} (hb : 0 ≤ u.m.b ∧ u.m.b < p.zs.length) (ha : 0 ≤ u.m.a ∧ u.m.a < p.zs.length) (hl : p.zs.length ≤ 64) : refUnmake p u = ruT p u (ru0 p.zs p.bl u) := by
  have h1 : decide (p.zs.length ≤ 64) = true := by simpa using hl
  have h2 : (decide (0 ≤ u.m.b) && decide (u.m.b < Int.ofNat p.zs.length)) = true := by simp [hb]
  have h3 : (decide (0 ≤ u.m.a) && decide (u.m.a < Int.ofNat p.zs.length)) = true := by simp [ha]
  unfold refUnmake ru0 bkB ownB ruT
  simp only [List.drop_zero, List.take_length, h1, h2, h3, needO_true]
  have h4 : (decide (u.at_ < Int.ofNat p.zs.length)) = decide (u.at_ < (p.zs.length : Int)) := rfl
  rw [h4, show w8 (0 - 1) = -1 by decide]
  cases decide (u.m.p = 0) <;> cases p.bl <;> cases (decide (0 ≤ u.at_) && decide (u.at_ < (p.zs.length : Int))) <;> rfl
section
variable {p : Psn} {u : Und} {s9 : List Int}
theorem ru_t (hl : p.zs.length ≤ 64) (hs : s9.length = p.zs.length) (hca : 0 ≤ u.ca) : ruT p u s9 = bif tstB p u s9 then some (cndP p u s9, true) else loopO (refUnmake_s1 p u s9) ruF 1000000 0 := by
  obtain ⟨e1, e2, e3⟩ := make_eq (p := cndP p u s9) (m := u.m) (by rw [← hs] at hl; exact hl) hca
  have ht : s9.take p.zs.length = s9 := by rw [← hs, List.take_length]
  have h1 : decide (p.zs.length ≤ 64) = true := by simpa using hl
  have h2 : decide (s9.length ≤ 64) = true := by rw [hs]; exact h1
  have h3 : decide ((mkP (cndP p u s9) u.m).zs.length ≤ 64) = true := by have := mkP_len (p := cndP p u s9) (m := u.m) (by rw [← hs] at hl; exact hl); simpa using this
  have hm : (⟨u.m.a, u.m.b, u.m.p⟩ : Mov) = u.m := rfl
  have hc : (⟨p.f, p.r, s9, !p.bl, u.ca, u.pa, u.ha, u.fu⟩ : Psn) = cndP p u s9 := rfl
  have hq : ∀ q : Psn, (⟨q.f, q.r, q.zs, q.bl, q.ca, q.pa, q.ha, q.fu⟩ : Psn) = q := fun _ => rfl
  have hd : decide (p.zs.length = s9.length) = true := by simpa using hs.symm
  unfold ruT
  simp only [List.drop_zero, List.take_length, ht, hm, hc, e1, e2, e3, hq, h1, h2, h3, hd, needO_true, Bool.and_self, Bool.or_true, Bool.not_or_self]
  rfl
theorem ru_step (hl : p.zs.length ≤ 64) (hs : s9.length = p.zs.length) (hca : 0 ≤ u.ca) (hbd : validBd p.f p.r p.zs = true) {i bit k to cor cro : Int} (hi0 : 0 ≤ i) (hi : i < 4) (hb : (iL [1, 2, 4, 8]).getD i.toNat 0 = bit) (q0 : sqW bit 0 = k) (q1 : sqW bit 1 = to) (q2 : sqW bit 2 = cor) (q3 : sqW bit 3 = cro) (c0 : 0 ≤ cor) (c1 : cor < 64) (d0 : 0 ≤ cro) (d1 : cro < 64) :
    refUnmake_s1 p u s9 i = bif !(!decide (p.f = 8) || !decide (p.r = 8) || !decide (u.m.a = k) || !decide (u.m.b = to)) && tstB p u (ruC s9 cor cro) then some (.inr (.inr (cndP p u (ruC s9 cor cro), true))) else some (.inl (i + 1)) := by
  have ht : s9.take p.zs.length = s9 := by rw [← hs, List.take_length]
  unfold sqW at q0 q1 q2 q3
  have hw : IntKind.i64.wrap (i + 1) = i + 1 := w64_id (by omega) (by omega)
  have h4 : decide (i < Int.ofNat 4) = true := by simp; omega
  have h5 : decide (0 ≤ i) = true := by simpa using hi0
  unfold refUnmake_s1
  simp only [List.drop_zero, List.take_length, ht, hb, q0, q1, q2, q3, hw, h4, h5, needO_true, Bool.and_self, cond_true]
  cases hr : (!decide (p.f = 8) || !decide (p.r = 8) || !decide (u.m.a = k) || !decide (u.m.b = to)) with
  | true => rfl
  | false =>
    have hr' := hr
    simp only [Bool.or_eq_false_iff, Bool.not_eq_false', decide_eq_true_eq] at hr'
    have h64 : p.zs.length = 64 := by
      have := hbd; rw [hr'.1.1.1, hr'.1.1.2] at this
      exact bd_88 this rfl
    have hlc : (ruC s9 cor cro).length = s9.length := by unfold ruC; simp
    obtain ⟨e1, e2, e3⟩ := make_eq (p := cndP p u (ruC s9 cor cro)) (m := u.m) (by show (ruC s9 cor cro).length ≤ 64; omega) hca
    have h1 : decide (p.zs.length ≤ 64) = true := by simpa using hl
    have hd : decide (p.zs.length = s9.length) = true := by simpa using hs.symm
    have h2 : decide (s9.length ≤ 64) = true := by rw [hs]; exact h1
    have h3 : decide ((mkP (cndP p u (ruC s9 cor cro)) u.m).zs.length ≤ 64) = true := by
      have := mkP_len (p := cndP p u (ruC s9 cor cro)) (m := u.m) (by show (ruC s9 cor cro).length ≤ 64; omega)
      simpa using this
    have h6 : (decide (0 ≤ cor) && decide (cor < Int.ofNat s9.length)) = true := by simp; omega
    have h7 : (decide (0 ≤ cro) && decide (cro < Int.ofNat s9.length)) = true := by simp; omega
    have hz : (s9.set cor.toNat (s9.getD cro.toNat 0)).set cro.toNat 0 = ruC s9 cor cro := rfl
    have htc : (ruC s9 cor cro).take s9.length = ruC s9 cor cro := by rw [← hlc, List.take_length]
    have h8 : decide ((ruC s9 cor cro).length ≤ 64) = true := by rw [hlc]; exact h2
    have hm : (⟨u.m.a, u.m.b, u.m.p⟩ : Mov) = u.m := rfl
    have hc : (⟨p.f, p.r, ruC s9 cor cro, !p.bl, u.ca, u.pa, u.ha, u.fu⟩ : Psn) = cndP p u (ruC s9 cor cro) := rfl
    have hq : ∀ q : Psn, (⟨q.f, q.r, q.zs, q.bl, q.ca, q.pa, q.ha, q.fu⟩ : Psn) = q := fun _ => rfl
    simp only [cond_false, Bool.not_false, Bool.true_and, hd, h2, h6, h7, hz, htc, h8, hm, hc, e1, e2, e3, hq, h1, h3, needO_true, Bool.and_self, Bool.or_true, Bool.not_or_self]
    cases hx : tstB p u (ruC s9 cor cro) with
    | true =>
      unfold tstB at hx
      exact (congrArg (fun b => bif b then _ else _) hx).trans rfl
    | false =>
      unfold tstB at hx
      exact (congrArg (fun b => bif b then _ else _) hx).trans rfl
theorem ru_last : refUnmake_s1 p u s9 (0 + 1 + 1 + 1 + 1) = some (.inr (.inl ())) := by
  unfold refUnmake_s1
  rfl
theorem ru_go (hl : p.zs.length ≤ 64) (hs : s9.length = p.zs.length) (hca : 0 ≤ u.ca) {k to cor cro i : Int} {n : Nat} {r : Option (Psn × Bool)}
    (h : refUnmake_s1 p u s9 i = bif !(!decide (p.f = 8) || !decide (p.r = 8) || !decide (u.m.a = k) || !decide (u.m.b = to)) && tstB p u (ruC s9 cor cro) then some (.inr (.inr (cndP p u (ruC s9 cor cro), true))) else some (.inl (i + 1)))
    (hy : tstB p u (bkZ p.f p.r p.zs p.bl u) = true → r = some (bkP p u, true)) (hn : ¬ ((p.f = 8 ∧ p.r = 8 ∧ u.m.a = k ∧ u.m.b = to) ∧ tstB p u (ruC s9 cor cro) = true) → loopO (refUnmake_s1 p u s9) ruF n (i + 1) = r) : loopO (refUnmake_s1 p u s9) ruF (n + 1) i = r := by
  cases hc : (!(!decide (p.f = 8) || !decide (p.r = 8) || !decide (u.m.a = k) || !decide (u.m.b = to)) && tstB p u (ruC s9 cor cro)) with
  | true =>
    rw [hc, cond_true] at h
    rw [loopO_ret h]
    simp only [Bool.and_eq_true] at hc
    have hb := tst_bk (by unfold ruC; simp only [List.length_set]; omega) hca hc.2
    rw [hb]
    refine (hy ?_).symm
    have : ruC s9 cor cro = bkZ p.f p.r p.zs p.bl u := cnd_zs (hb.trans (bk_cnd p u))
    rw [← this]; exact hc.2
  | false =>
    rw [hc, cond_false] at h
    rw [loopO_next h]
    refine hn ?_
    rintro ⟨⟨h1, h2, h3, h4⟩, h5⟩
    rw [decide_eq_true h1, decide_eq_true h2, decide_eq_true h3, decide_eq_true h4, h5] at hc
    cases hc
end
theorem refUnmake_eq {p : Psn} {u : Und} (hl : p.zs.length ≤ 64) (hca : 0 ≤ u.ca) (hok : p.ok = true) (hmv : mvB p.f p.r u.m.a u.m.b u.m.p = true) :
    refUnmake p u = some (bif tstB p u (bkZ p.f p.r p.zs p.bl u) then (bkP p u, true) else (⟨0, 0, [], false, 0, 0, 0, 0⟩, false)) := by
  have hbd : validBd p.f p.r p.zs = true := (ok_bd hok).1
  obtain ⟨hva, hvb⟩ := mv_ab hmv
  rw [ru_own ((bd_sq hbd).1 hvb) ((bd_sq hbd).1 hva) hl]
  have hs : (ru0 p.zs p.bl u).length = p.zs.length := by
    unfold ru0 bkB; cases (decide (0 ≤ u.at_) && decide (u.at_ < (p.zs.length : Int))) <;> simp
  rw [ru_t hl hs hca]
  have hy : tstB p u (bkZ p.f p.r p.zs p.bl u) = true → some (bif tstB p u (bkZ p.f p.r p.zs p.bl u) then (bkP p u, true) else (⟨0, 0, [], false, 0, 0, 0, 0⟩, false)) = some (bkP p u, true) := fun h => by rw [h]; rfl
  cases h0 : tstB p u (ru0 p.zs p.bl u) with
  | true =>
    have hb := tst_bk (by omega) hca h0
    rw [cond_true, hb]
    refine (hy ?_).symm
    rw [← cnd_zs (hb.trans (bk_cnd p u))]; exact h0
  | false =>
    rw [cond_false]
    obtain ⟨q1, q2, q3, q4, q5, q6, q7, q8⟩ := sqs
    obtain ⟨p1, p2, p3, p4, p5, p6, p7, p8⟩ := sq01
    refine ru_go hl hs hca (ru_step hl hs hca hbd (i := 0) (by decide) (by decide) rfl p1 p2 q1 q2 (by decide) (by decide) (by decide) (by decide)) hy fun n1 => ?_
    refine ru_go hl hs hca (ru_step hl hs hca hbd (i := 0 + 1) (by decide) (by decide) rfl p3 p4 q3 q4 (by decide) (by decide) (by decide) (by decide)) hy fun n2 => ?_
    refine ru_go hl hs hca (ru_step hl hs hca hbd (i := 0 + 1 + 1) (by decide) (by decide) rfl p5 p6 q5 q6 (by decide) (by decide) (by decide) (by decide)) hy fun n3 => ?_
    refine ru_go hl hs hca (ru_step hl hs hca hbd (i := 0 + 1 + 1 + 1) (by decide) (by decide) rfl p7 p8 q7 q8 (by decide) (by decide) (by decide) (by decide)) hy fun n4 => ?_
    refine (loopO_exit (n := 999995) (x := ()) ru_last).trans ?_
    cases h : tstB p u (bkZ p.f p.r p.zs p.bl u) with
    | false => rfl
    | true =>
      exfalso
      rcases bk_in hl hca h with he | ⟨k, to, cor, cro, hrow, e1, e2, e3, e4, he⟩
      · rw [he, h0] at h; cases h
      · rw [he] at h
        rcases hrow with e | e | e | e <;> cases e
        · exact n1 ⟨⟨e1, e2, e3, e4⟩, h⟩
        · exact n2 ⟨⟨e1, e2, e3, e4⟩, h⟩
        · exact n3 ⟨⟨e1, e2, e3, e4⟩, h⟩
        · exact n4 ⟨⟨e1, e2, e3, e4⟩, h⟩
theorem um_eq {p : Psn} {u : Und} (hok : p.ok = true) (hmv : mvB p.f p.r u.m.a u.m.b u.m.p = true) : umE p u = (bif tstB p u (bkZ p.f p.r p.zs p.bl u) then 0 else 10) ∧ umP p u = (bif tstB p u (bkZ p.f p.r p.zs p.bl u) then bkP p u else ⟨0, 0, [], false, 0, 0, 0, 0⟩) := by
  have h : umE p u = (bif tstB p u (bkZ p.f p.r p.zs p.bl u) then 0 else 10) := by
    unfold umE
    rw [hok, hmv]
    show (bif !decide (mkE5 (cndP p u (bkZ p.f p.r p.zs p.bl u)) u.m = 0) || !undB (mkU (cndP p u (bkZ p.f p.r p.zs p.bl u)) u.m) u || !equalB (mkP (cndP p u (bkZ p.f p.r p.zs p.bl u)) u.m) p then (10 : Int) else 0) = _
    unfold tstB
    cases decide (mkE5 (cndP p u (bkZ p.f p.r p.zs p.bl u)) u.m = 0) <;> cases undB (mkU (cndP p u (bkZ p.f p.r p.zs p.bl u)) u.m) u <;> cases equalB (mkP (cndP p u (bkZ p.f p.r p.zs p.bl u)) u.m) p <;> rfl
  refine ⟨h, ?_⟩
  unfold umP
  rw [h]
  cases tstB p u (bkZ p.f p.r p.zs p.bl u) <;> rfl
end Go.Ab

set_option maxRecDepth 100000
set_option maxHeartbeats 4000000
namespace Go.Ab
open Go.Proofs
variable {kCa kDb : Bool}
def small8 (p : Psn) : Option (Bool) := Option.some (Decidable.decide (Int.ofNat p.zs.length ≤ 64))
def small8_V (R : Bool) : V := Bb R
def small8_N (_R : Bool) : List O := []
def c_small8 : CF
  | [.agg [.int .i64 p_0, .int .i64 p_1, .sl 0 0 p_2n none, .bool p_3, .int .u8 p_4, .int .i64 p_5, .int .i64 p_6, .int .i64 p_7]], [.ints false .i8 p_2] => retC (decide (p_2n = p_2.length)) (small8 ⟨p_0, p_1, p_2, p_3, p_4, p_5, p_6, p_7⟩) false small8_V small8_N
  | _, _ => none
theorem small8_snd (p : Psn) {r} (hr : small8 p = some r) : FnSound (GGx kCa kDb) PP 12 [.agg [.int .i64 p.f, .int .i64 p.r, .sl 0 0 p.zs.length none, Bb p.bl, .int .u8 p.ca, .int .i64 p.pa, .int .i64 p.ha, .int .i64 p.fu]] [.ints false .i8 p.zs] (small8_V r) (small8_N r) := by
  have hE := cutE (EE_ok (kCa := kCa) (kDb := kDb) (cts := []) (inl := []) trivial trivial)
  refine so_fn hE 2 Tryz.func12 rfl rfl small8_V small8_N hr ?_ rfl rfl
  exact so_ret (fin_bs [] (.inr rfl) rfl rfl rfl rfl rfl)
theorem c_small8_ok : CtOk (GGx kCa kDb) PP (12, c_small8) := by
  refine ct_mk Tryz.func12 (by kernel_rfl) rfl fun a0 h0 c0 v0 N0 e hc => ?_
  unfold c_small8 at e
  split at e
  · rename_i p_0 p_1 p_2n p_3 p_4 p_5 p_6 p_7 p_2
    obtain ⟨hl, r, hr, rfl, rfl⟩ := ret_ok e hc
    simp only [decide_eq_true_eq] at hl
    obtain rfl := hl
    exact small8_snd ⟨p_0, p_1, p_2, p_3, p_4, p_5, p_6, p_7⟩ hr
  · cases e
end Go.Ab

set_option maxRecDepth 100000
set_option maxHeartbeats 4000000
namespace Go.Ab
open Go.Proofs
variable {kCa kDb : Bool}
def pletter (p : Int) : Option (Int) := let x5 := (#[112, 110, 98, 114, 113, 107, 97, 99, 100, 101, 102, 103, 104, 105, 106] : Array UInt8).toList; let x6 := (#[80, 78, 66, 82, 81, 75, 65, 67, 68, 69, 70, 71, 72, 73, 74] : Array UInt8).toList; let x7 := IntKind.i8.wrap (IntKind.i8.wrap (0 - p) - 1); let x8 := IntKind.i8.wrap (p - 1); let x3 := Int.ofNat x6.length; let x4 := Int.ofNat x5.length; bif Decidable.decide (p < 0) then needO (Decidable.decide (0 ≤ x7) && Decidable.decide (x7 < x4)) (Option.some (Int.ofNat (x5.getD x7.toNat 0).toNat)) else needO (Decidable.decide (0 ≤ x8) && Decidable.decide (x8 < x3)) (Option.some (Int.ofNat (x6.getD x8.toNat 0).toNat))
def pletter_V (R : Int) : V := .int .u8 R
def pletter_N (_R : Int) : List O := []
def c_pletter : CF
  | [.int .i8 p_0], [] => retC true (pletter p_0) 0 pletter_V pletter_N
  | _, _ => none
theorem pletter_snd (p : Int) {r} (hr : pletter p = some r) : FnSound (GGx kCa kDb) PP 144 [.int .i8 p] [] (pletter_V r) (pletter_N r) := by
  have hE := cutE (EE_ok (kCa := kCa) (kDb := kDb) (cts := []) (inl := []) trivial trivial)
  refine so_fn hE 2 Tryz.func144 rfl rfl pletter_V pletter_N hr ?_ rfl rfl
  refine so_split hE 2 rfl ?_ ?_
  · refine so_need ?_
    exact so_ret (fin_bs [] (.inr rfl) rfl rfl rfl rfl rfl)
  refine so_need ?_
  exact so_ret (fin_bs [] (.inr rfl) rfl rfl rfl rfl rfl)
theorem c_pletter_ok : CtOk (GGx kCa kDb) PP (144, c_pletter) := by
  refine ct_mk Tryz.func144 (by kernel_rfl) rfl fun a0 h0 c0 v0 N0 e hc => ?_
  unfold c_pletter at e
  split at e
  · rename_i p_0
    obtain ⟨hl, r, hr, rfl, rfl⟩ := ret_ok e hc
    exact pletter_snd p_0 hr
  · cases e
def pparse_s1 : Int → Int → Option (Int ⊕ Unit ⊕ Int) := fun (c s5 : Int) => let x12 := !Decidable.decide (s5 = 0); bif Decidable.decide (s5 ≤ 15) then needO (!x12 || (pletter s5).isSome) (bif x12 && Decidable.decide ((pletter s5).getD 0 = c) then escO (escO (Option.some s5)) else Option.some (Sum.inl (IntKind.i8.wrap (s5 + 1)))) else Option.some (Sum.inr (Sum.inl ()))
def pparse (c : Int) : Option (Int) := loopO (pparse_s1 c) (fun (_s10 : Unit) => Option.some 0) 1000000 (-15)
def pparse_V (R : Int) : V := .int .i8 R
def pparse_N (_R : Int) : List O := []
def c_pparse : CF
  | [.int .u8 c_0], [] => retC true (pparse c_0) 0 pparse_V pparse_N
  | _, _ => none
theorem pparse_snd (c : Int) {r} (hr : pparse c = some r) : FnSound (GGx kCa kDb) PP 181 [.int .u8 c] [] (pparse_V r) (pparse_N r) := by
  have hE := cutE (EE_ok (kCa := kCa) (kDb := kDb) (cts := [(144, c_pletter)]) (inl := []) ⟨c_pletter_ok, trivial⟩ trivial)
  refine so_fn hE 2 Tryz.func181 rfl rfl pparse_V pparse_N hr ?_ rfl rfl
  refine so_loop hE 2 (fun (s5 : Int) => ([(0, V.int IntKind.u8 c), (2, V.int IntKind.i8 0), (3, V.int IntKind.i8 s5)], [])) (fun (s10 : Unit) => ([(2, V.int IntKind.i8 0)], [])) (.exit 0) ((Ent.rn [] [0, 2, 3] rfl rfl rfl rfl rfl)) (fun s5 => ?_) (fun s10 => ?_)
  · refine so_split hE 2 rfl ?_ ?_
    · refine so_triv (Bool.not_or_self _) ?_
      refine so_as (pi (pl rfl id)) ?_
      refine so_triv (Bool.not_or_self _) ?_
      refine so_triv (Bool.not_or_self _) ?_
      refine so_triv (Bool.not_or_self _) ?_
      refine so_split hE 2 rfl ?_ ?_
      · refine so_out (by simp) (so_out1 ?_)
        exact so_ret (fin_bs [] (.inr rfl) rfl rfl rfl rfl rfl)
      exact so_next ((Ent.rn [] [0, 2, 3] rfl rfl rfl rfl rfl))
    exact so_exit ((Ent.rn [] [2] rfl rfl rfl rfl rfl))
  exact so_ret (fin_bs [] (.inr rfl) rfl rfl rfl rfl rfl)
theorem c_pparse_ok : CtOk (GGx kCa kDb) PP (181, c_pparse) := by
  refine ct_mk Tryz.func181 (by kernel_rfl) rfl fun a0 h0 c0 v0 N0 e hc => ?_
  unfold c_pparse at e
  split at e
  · rename_i c_0
    obtain ⟨hl, r, hr, rfl, rfl⟩ := ret_ok e hc
    exact pparse_snd c_0 hr
  · cases e
end Go.Ab

set_option maxRecDepth 100000
set_option maxHeartbeats 4000000
namespace Go.Ab
open Go.Proofs
variable {kCa kDb : Bool}
def btext_s1 : Bd → List UInt8 × Int → List UInt8 × Int × Int → Option (List UInt8 × Int × Int ⊕ List UInt8 × Int × Int × Bool ⊕ List UInt8 × Int ⊕ List UInt8 ⊕ List UInt8) := fun (b : Bd) (s33 : List UInt8 × Int) => let x72 := (#[48, 49, 50, 51, 52, 53, 54, 55, 56] : Array UInt8).toList; let x73 := IntKind.i64.wrap (s33.snd * b.f); let x71 := Int.ofNat x72.length; fun (s43 : List UInt8 × Int × Int) => let x81 := Decidable.decide (s43.snd.snd < b.f); let x82 := Decidable.decide (s43.snd.snd ≤ b.f); let x83 := IntKind.i64.wrap (s43.snd.fst + 1); let x84 := IntKind.i64.wrap (s43.snd.snd + 1); let x85 := IntKind.i64.wrap (x73 + s43.snd.snd); let x75 := Decidable.decide (0 ≤ x85) && Decidable.decide (x85 < Int.ofNat b.zs.length); let x78 := List.take (x83.toNat - s43.snd.fst.toNat) (List.drop s43.snd.fst.toNat x72); let x80 := b.zs.getD x85.toNat 0; let x76 := s43.fst.length + x78.length; let x79 := bytesS (List.take 1 (List.drop 0 (iL [(pletter x80).getD 0]))); let x77 := x79.length; bif x82 then needO (!x81 || x75) (bif x81 && Decidable.decide (x80 = 0) then Option.some (Sum.inl (s43.fst, x83, x84)) else joinO (bif Decidable.decide (0 < s43.snd.fst) then needO (Decidable.decide (0 ≤ s43.snd.fst) && Decidable.decide (s43.snd.fst ≤ x83) && Decidable.decide (x83 ≤ x71)) (needO (Decidable.decide (x76 ≤ 4611686018427387904)) (Option.some (Sum.inl (s43.fst ++ x78, 0)))) else Option.some (Sum.inl (s43.fst, s43.snd.fst))) fun (s46 : List UInt8 × Int) => let x87 := s46.fst.length + x77; joinO (bif x81 then needO x75 (callO (pletter x80) Inhabited.default fun (_y47 : Int) => needO (Decidable.decide (x87 ≤ 4611686018427387904)) (Option.some (Sum.inl (s46.fst ++ x79)))) else Option.some (Sum.inl s46.fst)) fun (s49 : List UInt8) => Option.some (Sum.inl (s49, s46.snd, x84))) else Option.some (Sum.inr (Sum.inl (s43.fst, s43.snd.fst, s43.snd.snd, x82)))
def btext_s2 : Bd → (Bd → List UInt8 × Int → List UInt8 × Int × Int → Option (List UInt8 × Int × Int ⊕ List UInt8 × Int × Int × Bool ⊕ List UInt8 × Int ⊕ List UInt8 ⊕ List UInt8)) → List UInt8 × Int → Option (List UInt8 × Int ⊕ List UInt8 ⊕ List UInt8) := fun (b : Bd) (btext_s1 : Bd → List UInt8 × Int → List UInt8 × Int × Int → Option (List UInt8 × Int × Int ⊕ List UInt8 × Int × Int × Bool ⊕ List UInt8 × Int ⊕ List UInt8 ⊕ List UInt8)) => let x91 := (#[47] : Array UInt8).toList.length; fun (s33 : List UInt8 × Int) => let x93 := s33.fst.length + x91; bif Decidable.decide (0 ≤ s33.snd) then joinO (bif !s33.fst == (#[] : Array UInt8).toList then needO (Decidable.decide (x93 ≤ 4611686018427387904)) (Option.some (Sum.inl (s33.fst ++ (#[47] : Array UInt8).toList))) else Option.some (Sum.inl s33.fst)) fun (s35 : List UInt8) => loopO (btext_s1 b s33) (fun (s62 : List UInt8 × Int × Int × Bool) => Option.some (Sum.inl (s62.fst, IntKind.i64.wrap (s33.snd - 1)))) 1000000 (s35, 0, 0) else Option.some (Sum.inr (Sum.inl s33.fst))
def btext (b : Bd) : Option (List UInt8) := loopO (btext_s2 b btext_s1) (fun (s70 : List UInt8) => Option.some s70) 1000000 ((#[] : Array UInt8).toList, IntKind.i64.wrap (b.r - 1))
def btext_V (R : List UInt8) : V := .str R
def btext_N (_R : List UInt8) : List O := []
def c_btext : CF
  | [.agg [.int .i64 b_0, .int .i64 b_1, .sl 0 0 b_2n none]], [.ints false .i8 b_2] => retC (decide (b_2n = b_2.length)) (btext ⟨b_0, b_1, b_2⟩) [] btext_V btext_N
  | _, _ => none
theorem btext_snd (b : Bd) {r} (hr : btext b = some r) : FnSound (GGx kCa kDb) PP 91 [.agg [.int .i64 b.f, .int .i64 b.r, .sl 0 0 b.zs.length none]] [.ints false .i8 b.zs] (btext_V r) (btext_N r) := by
  have hE := cutE (EE_ok (kCa := kCa) (kDb := kDb) (cts := [(144, c_pletter)]) (inl := []) ⟨c_pletter_ok, trivial⟩ trivial)
  refine so_fn hE 2 Tryz.func91 rfl rfl btext_V btext_N hr ?_ rfl rfl
  refine so_loop hE 2 (fun (s33 : List UInt8 × Int) => ([(1, V.ptr 1 0 0), (2, V.str (#[] : Array UInt8).toList), (3, V.str s33.fst), (4, V.int IntKind.i64 s33.snd)], [O.ints Bool.false IntKind.i8 b.zs, O.cells Bool.true [V.int IntKind.i64 b.f, V.int IntKind.i64 b.r, V.sl 0 0 b.zs.length Option.none]])) (fun (s70 : List UInt8) => ([(2, V.str (#[] : Array UInt8).toList), (3, V.str s70)], [O.ints Bool.false IntKind.i8 b.zs])) (.exit 0) ((Ent.rn [0, 1] [1, 2, 3, 4] rfl rfl rfl rfl rfl)) (fun s33 => ?_) (fun s70 => ?_)
  · refine so_split hE 2 rfl ?_ ?_
    · refine so_join hE 2 (fun (s35 : List UInt8) => ([(1, V.ptr 1 0 0), (2, V.str (#[] : Array UInt8).toList), (3, V.str s35), (4, V.int IntKind.i64 s33.snd), (11, V.int IntKind.i64 s33.snd), (12, V.bool (Decidable.decide (0 ≤ s33.snd))), (15, V.str s33.fst), (16, V.bool !s33.fst == (#[] : Array UInt8).toList)], [O.ints Bool.false IntKind.i8 b.zs, O.cells Bool.true [V.int IntKind.i64 b.f, V.int IntKind.i64 b.r, V.sl 0 0 b.zs.length Option.none]])) rfl ?_ ?_ (fun s35 => ?_)
      · refine so_need ?_
        exact so_nrm ((Ent.rn [0, 1] [1, 2, 3, 4, 11, 12, 15, 16] rfl rfl rfl rfl rfl))
      · exact so_nrm ((Ent.rn [0, 1] [1, 2, 3, 4, 11, 12, 15, 16] rfl rfl rfl rfl rfl))
      refine so_loop hE 2 (fun (s43 : List UInt8 × Int × Int) => ([(1, V.ptr 1 0 0), (2, V.str (#[] : Array UInt8).toList), (3, V.str s43.fst), (4, V.int IntKind.i64 s33.snd), (5, V.int IntKind.i64 s43.snd.fst), (6, V.int IntKind.i64 s43.snd.snd), (11, V.int IntKind.i64 s33.snd), (12, V.bool (Decidable.decide (0 ≤ s33.snd))), (15, V.str s33.fst), (16, V.bool !s33.fst == (#[] : Array UInt8).toList)], [O.ints Bool.false IntKind.i8 b.zs, O.cells Bool.true [V.int IntKind.i64 b.f, V.int IntKind.i64 b.r, V.sl 0 0 b.zs.length Option.none]])) (fun (s62 : List UInt8 × Int × Int × Bool) => let x103 := s62.snd.snd.fst; ([(1, V.ptr 1 0 0), (2, V.str (#[] : Array UInt8).toList), (3, V.str s62.fst), (4, V.int IntKind.i64 s33.snd), (5, V.int IntKind.i64 s62.snd.fst), (6, V.int IntKind.i64 x103), (11, V.int IntKind.i64 s33.snd), (12, V.bool (Decidable.decide (0 ≤ s33.snd))), (15, V.str s33.fst), (16, V.bool !s33.fst == (#[] : Array UInt8).toList), (19, V.int IntKind.i64 x103), (20, V.ptr 1 0 0), (21, V.ptr 1 0 0), (22, V.int IntKind.i64 b.f), (23, V.bool s62.snd.snd.snd)], [O.ints Bool.false IntKind.i8 b.zs, O.cells Bool.true [V.int IntKind.i64 b.f, V.int IntKind.i64 b.r, V.sl 0 0 b.zs.length Option.none]])) (.exit 2) ((Ent.rn [0, 1] [1, 2, 3, 4, 5, 6, 11, 12, 15, 16] rfl rfl rfl rfl rfl)) (fun s43 => ?_) (fun s62 => ?_)
      · refine so_split hE 2 rfl ?_ ?_
        · refine so_triv (Bool.not_or_self _) ?_
          refine so_triv (Bool.not_or_self _) ?_
          refine so_triv (Bool.not_or_self _) ?_
          refine so_triv (Bool.not_or_self _) ?_
          refine so_triv (Bool.not_or_self _) ?_
          refine so_triv (Bool.not_or_self _) ?_
          refine so_triv (Bool.not_or_self _) ?_
          refine so_triv (Bool.not_or_self _) ?_
          refine so_triv (Bool.not_or_self _) ?_
          refine so_need ?_
          refine so_triv (Bool.not_or_self _) ?_
          refine so_triv (Bool.not_or_self _) ?_
          refine so_triv (Bool.not_or_self _) ?_
          refine so_split hE 2 rfl ?_ ?_
          · exact so_next ((Ent.rn [0, 1] [1, 2, 3, 4, 5, 6, 11, 12, 15, 16] rfl rfl rfl rfl rfl))
          refine so_join hE 2 (let x104 := b.zs.getD (IntKind.i64.wrap (IntKind.i64.wrap (s33.snd * b.f) + s43.snd.snd)).toNat 0; let x105 := Decidable.decide (s43.snd.snd < b.f); fun (s46 : List UInt8 × Int) => ([(1, V.ptr 1 0 0), (2, V.str (#[] : Array UInt8).toList), (3, V.str s46.fst), (4, V.int IntKind.i64 s33.snd), (5, V.int IntKind.i64 s46.snd), (6, V.int IntKind.i64 s43.snd.snd), (11, V.int IntKind.i64 s33.snd), (12, V.bool (Decidable.decide (0 ≤ s33.snd))), (15, V.str s33.fst), (16, V.bool !s33.fst == (#[] : Array UInt8).toList), (19, V.int IntKind.i64 s43.snd.snd), (20, V.ptr 1 0 0), (21, V.ptr 1 0 0), (22, V.int IntKind.i64 b.f), (23, V.bool (Decidable.decide (s43.snd.snd ≤ b.f))), (26, V.int IntKind.i64 s43.snd.snd), (27, V.ptr 1 0 0), (28, V.ptr 1 0 0), (29, V.int IntKind.i64 b.f), (30, V.bool x105), (31, V.bool x105), (44, V.bool (x105 && Decidable.decide (x104 = 0))), (47, V.int IntKind.i64 s43.snd.fst), (48, V.bool (Decidable.decide (0 < s43.snd.fst)))], [O.ints Bool.false IntKind.i8 b.zs, O.cells Bool.true [V.int IntKind.i64 b.f, V.int IntKind.i64 b.r, V.sl 0 0 b.zs.length Option.none]])) rfl ?_ ?_ (fun s46 => ?_)
          · refine so_need ?_
            refine so_need ?_
            exact so_nrm ((Ent.rn [0, 1] [1, 2, 3, 4, 5, 6, 11, 12, 15, 16, 19, 20, 21, 22, 23, 26, 27, 28, 29, 30, 31, 44, 47, 48] rfl rfl rfl rfl rfl))
          · exact so_nrm ((Ent.rn [0, 1] [1, 2, 3, 4, 5, 6, 11, 12, 15, 16, 19, 20, 21, 22, 23, 26, 27, 28, 29, 30, 31, 44, 47, 48] rfl rfl rfl rfl rfl))
          refine so_join hE 2 (let x107 := b.zs.getD (IntKind.i64.wrap (IntKind.i64.wrap (s33.snd * b.f) + s43.snd.snd)).toNat 0; let x108 := Decidable.decide (s43.snd.snd < b.f); fun (s49 : List UInt8) => ([(1, V.ptr 1 0 0), (2, V.str (#[] : Array UInt8).toList), (3, V.str s49), (4, V.int IntKind.i64 s33.snd), (5, V.int IntKind.i64 s46.snd), (6, V.int IntKind.i64 s43.snd.snd), (11, V.int IntKind.i64 s33.snd), (12, V.bool (Decidable.decide (0 ≤ s33.snd))), (15, V.str s33.fst), (16, V.bool !s33.fst == (#[] : Array UInt8).toList), (19, V.int IntKind.i64 s43.snd.snd), (20, V.ptr 1 0 0), (21, V.ptr 1 0 0), (22, V.int IntKind.i64 b.f), (23, V.bool (Decidable.decide (s43.snd.snd ≤ b.f))), (26, V.int IntKind.i64 s43.snd.snd), (27, V.ptr 1 0 0), (28, V.ptr 1 0 0), (29, V.int IntKind.i64 b.f), (30, V.bool x108), (31, V.bool x108), (44, V.bool (x108 && Decidable.decide (x107 = 0))), (47, V.int IntKind.i64 s43.snd.fst), (48, V.bool (Decidable.decide (0 < s43.snd.fst))), (55, V.int IntKind.i64 s43.snd.snd), (56, V.ptr 1 0 0), (57, V.ptr 1 0 0), (58, V.int IntKind.i64 b.f), (59, V.bool x108)], [O.ints Bool.false IntKind.i8 b.zs, O.cells Bool.true [V.int IntKind.i64 b.f, V.int IntKind.i64 b.r, V.sl 0 0 b.zs.length Option.none]])) rfl ?_ ?_ (fun s49 => ?_)
          · refine so_need ?_
            refine so_as (pl rfl id) ?_
            refine so_need ?_
            exact so_nrm ((Ent.rn [0, 1] [1, 2, 3, 4, 5, 6, 11, 12, 15, 16, 19, 20, 21, 22, 23, 26, 27, 28, 29, 30, 31, 44, 47, 48, 55, 56, 57, 58, 59] rfl rfl rfl rfl rfl))
          · exact so_nrm ((Ent.rn [0, 1] [1, 2, 3, 4, 5, 6, 11, 12, 15, 16, 19, 20, 21, 22, 23, 26, 27, 28, 29, 30, 31, 44, 47, 48, 55, 56, 57, 58, 59] rfl rfl rfl rfl rfl))
          exact so_next ((Ent.rn [0, 1] [1, 2, 3, 4, 5, 6, 11, 12, 15, 16] rfl rfl rfl rfl rfl))
        exact so_exit ((Ent.rn [0, 1] [1, 2, 3, 4, 5, 6, 11, 12, 15, 16, 19, 20, 21, 22, 23] rfl rfl rfl rfl rfl))
      exact so_next ((Ent.rn [0, 1] [1, 2, 3, 4] rfl rfl rfl rfl rfl))
    exact so_exit ((Ent.rn [0] [2, 3] rfl rfl rfl rfl rfl))
  exact so_ret (fin_bs [] (.inr rfl) rfl rfl rfl rfl rfl)
theorem c_btext_ok : CtOk (GGx kCa kDb) PP (91, c_btext) := by
  refine ct_mk Tryz.func91 (by kernel_rfl) rfl fun a0 h0 c0 v0 N0 e hc => ?_
  unfold c_btext at e
  split at e
  · rename_i b_0 b_1 b_2n b_2
    obtain ⟨hl, r, hr, rfl, rfl⟩ := ret_ok e hc
    simp only [decide_eq_true_eq] at hl
    obtain rfl := hl
    exact btext_snd ⟨b_0, b_1, b_2⟩ hr
  · cases e
end Go.Ab

set_option maxRecDepth 100000
set_option maxHeartbeats 4000000
namespace Go.Ab
open Go.Proofs
variable {kCa kDb : Bool}
def cast6_s1 : Int → List UInt8 × Int → Option (List UInt8 × Int ⊕ List UInt8 × Int × Bool ⊕ Int ⊕ Unit ⊕ Int) := fun (s27 : Int) => let x54 := (#[75, 81, 107, 113] : Array UInt8).toList; let x53 := Int.ofNat x54.length; fun (s33 : List UInt8 × Int) => let x58 := (s27.fdiv (2 ^ Min.min s33.snd.toNat IntKind.i64.bits)).tmod 2; let x59 := Decidable.decide (s33.snd < 4); let x60 := Decidable.decide (0 ≤ s33.snd); let x61 := IntKind.i64.wrap (s33.snd + 1); let x57 := List.take (x61.toNat - s33.snd.toNat) (List.drop s33.snd.toNat x54); let x56 := s33.fst.length + x57.length; bif x59 then needO x60 (joinO (bif Decidable.decide (x58 = 1) then needO (x60 && Decidable.decide (s33.snd ≤ x61) && Decidable.decide (x61 ≤ x53)) (needO (Decidable.decide (x56 ≤ 4611686018427387904)) (Option.some (Sum.inl (s33.fst ++ x57)))) else Option.some (Sum.inl s33.fst)) fun (s35 : List UInt8) => Option.some (Sum.inl (s35, x61))) else Option.some (Sum.inr (Sum.inl (s33.fst, s33.snd, x59)))
def cast6_s2 : List UInt8 → (Int → List UInt8 × Int → Option (List UInt8 × Int ⊕ List UInt8 × Int × Bool ⊕ Int ⊕ Unit ⊕ Int)) → Int → Option (Int ⊕ Unit ⊕ Int) := fun (s : List UInt8) (cast6_s1 : Int → List UInt8 × Int → Option (List UInt8 × Int ⊕ List UInt8 × Int × Bool ⊕ Int ⊕ Unit ⊕ Int)) (s27 : Int) => bif Decidable.decide (s27 < 16) then loopO (cast6_s1 s27) (fun (s45 : List UInt8 × Int × Bool) => joinO (bif s45.fst == (#[] : Array UInt8).toList then Option.some (Sum.inl (#[45] : Array UInt8).toList) else Option.some (Sum.inl s45.fst)) fun (s47 : List UInt8) => bif s47 == s then escO (escO (Option.some s27)) else Option.some (Sum.inl (IntKind.i64.wrap (s27 + 1)))) 1000000 ((#[] : Array UInt8).toList, 0) else Option.some (Sum.inr (Sum.inl ()))
def cast6 (s : List UInt8) : Option (Int) := loopO (cast6_s2 s cast6_s1) (fun (_s52 : Unit) => Option.some (-1)) 1000000 0
def cast6_V (R : Int) : V := .int .i64 R
def cast6_N (_R : Int) : List O := []
def c_cast6 : CF
  | [.str s_0], [] => retC true (cast6 s_0) 0 cast6_V cast6_N
  | _, _ => none
theorem cast6_snd (s : List UInt8) {r} (hr : cast6 s = some r) : FnSound (GGx kCa kDb) PP 143 [.str s] [] (cast6_V r) (cast6_N r) := by
  have hE := cutE (EE_ok (kCa := kCa) (kDb := kDb) (cts := []) (inl := []) trivial trivial)
  refine so_fn hE 2 Tryz.func143 rfl rfl cast6_V cast6_N hr ?_ rfl rfl
  refine so_loop hE 2 (fun (s27 : Int) => ([(0, V.str s), (2, V.int IntKind.i64 0), (3, V.int IntKind.i64 s27)], [])) (fun (s52 : Unit) => ([(2, V.int IntKind.i64 0)], [])) (.exit 0) ((Ent.rn [] [0, 2, 3] rfl rfl rfl rfl rfl)) (fun s27 => ?_) (fun s52 => ?_)
  · refine so_split hE 2 rfl ?_ ?_
    · refine so_loop hE 2 (fun (s33 : List UInt8 × Int) => ([(0, V.str s), (2, V.int IntKind.i64 0), (3, V.int IntKind.i64 s27), (4, V.str s33.fst), (5, V.int IntKind.i64 s33.snd), (6, V.int IntKind.i64 s27), (7, V.bool (Decidable.decide (s27 < 16)))], [])) (fun (s45 : List UInt8 × Int × Bool) => ([(0, V.str s), (2, V.int IntKind.i64 0), (3, V.int IntKind.i64 s27), (4, V.str s45.fst), (5, V.int IntKind.i64 s45.snd.fst), (6, V.int IntKind.i64 s27), (7, V.bool (Decidable.decide (s27 < 16))), (10, V.int IntKind.i64 s45.snd.fst), (11, V.bool s45.snd.snd)], [])) (.exit 2) ((Ent.rn [] [0, 2, 3, 4, 5, 6, 7] rfl rfl rfl rfl rfl)) (fun s33 => ?_) (fun s45 => ?_)
      · refine so_split hE 2 rfl ?_ ?_
        · refine so_need ?_
          refine so_triv rfl ?_
          refine so_join hE 2 (let x74 := s27.fdiv (2 ^ Min.min s33.snd.toNat IntKind.i64.bits); let x73 := x74.tmod 2; fun (s35 : List UInt8) => ([(0, V.str s), (2, V.int IntKind.i64 0), (3, V.int IntKind.i64 s27), (4, V.str s35), (5, V.int IntKind.i64 s33.snd), (6, V.int IntKind.i64 s27), (7, V.bool (Decidable.decide (s27 < 16))), (10, V.int IntKind.i64 s33.snd), (11, V.bool (Decidable.decide (s33.snd < 4))), (14, V.int IntKind.i64 s27), (15, V.int IntKind.i64 s33.snd), (16, V.int IntKind.i64 x74), (17, V.int IntKind.i64 x73), (18, V.bool (Decidable.decide (x73 = 1)))], [])) rfl ?_ ?_ (fun s35 => ?_)
          · refine so_need ?_
            refine so_need ?_
            exact so_nrm ((Ent.rn [] [0, 2, 3, 4, 5, 6, 7, 10, 11, 14, 15, 16, 17, 18] rfl rfl rfl rfl rfl))
          · exact so_nrm ((Ent.rn [] [0, 2, 3, 4, 5, 6, 7, 10, 11, 14, 15, 16, 17, 18] rfl rfl rfl rfl rfl))
          exact so_next ((Ent.rn [] [0, 2, 3, 4, 5, 6, 7] rfl rfl rfl rfl rfl))
        exact so_exit ((Ent.rn [] [0, 2, 3, 4, 5, 6, 7, 10, 11] rfl rfl rfl rfl rfl))
      refine so_join hE 2 (fun (s47 : List UInt8) => ([(0, V.str s), (2, V.int IntKind.i64 0), (3, V.int IntKind.i64 s27), (4, V.str s47), (5, V.int IntKind.i64 s45.snd.fst), (6, V.int IntKind.i64 s27), (7, V.bool (Decidable.decide (s27 < 16))), (10, V.int IntKind.i64 s45.snd.fst), (11, V.bool s45.snd.snd), (25, V.str s45.fst), (26, V.bool (s45.fst == (#[] : Array UInt8).toList))], [])) rfl ?_ ?_ (fun s47 => ?_)
      · exact so_nrm ((Ent.rn [] [0, 2, 3, 4, 5, 6, 7, 10, 11, 25, 26] rfl rfl rfl rfl rfl))
      · exact so_nrm ((Ent.rn [] [0, 2, 3, 4, 5, 6, 7, 10, 11, 25, 26] rfl rfl rfl rfl rfl))
      refine so_split hE 2 rfl ?_ ?_
      · refine so_out (by simp) (so_out1 ?_)
        exact so_ret (fin_bs [] (.inr rfl) rfl rfl rfl rfl rfl)
      exact so_next ((Ent.rn [] [0, 2, 3] rfl rfl rfl rfl rfl))
    exact so_exit ((Ent.rn [] [2] rfl rfl rfl rfl rfl))
  exact so_ret (fin_bs [] (.inr rfl) rfl rfl rfl rfl rfl)
theorem c_cast6_ok : CtOk (GGx kCa kDb) PP (143, c_cast6) := by
  refine ct_mk Tryz.func143 (by kernel_rfl) rfl fun a0 h0 c0 v0 N0 e hc => ?_
  unfold c_cast6 at e
  split at e
  · rename_i s_0
    obtain ⟨hl, r, hr, rfl, rfl⟩ := ret_ok e hc
    exact cast6_snd s_0 hr
  · cases e
end Go.Ab
