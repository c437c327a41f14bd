/- Contracts of the functions that the laws reach, and plain laws of what they compute (text X31); no condition. -/
import Derived.Test.YtjckbgodcefogaaDoorL13
import Derived.Test.YtjckbgodcefogaaDoorX30
namespace Go.Ab
open Go.Proofs
def c_many5 : CF
  | [.int .u64 s], [] => some (true, .int .i64 (listB s 64).length, [])
  | _, _ => none
theorem c_many5_ok : CtOk GG PP (45, c_many5) := by
  refine ct_mk Tryd.func45 (by kernel_rfl) rfl fun a0 h0 c0 v0 N0 e hc => ?_
  unfold c_many5 at e
  split at e
  · rename_i s
    cases e
    have hE := EE_ok (cts := [(46, c_List)]) (inl := []) ⟨c_List_ok, trivial⟩ trivial
    refine fn_sound hE 2 Tryd.func45 rfl rfl ?_
    repeat (first | refine sat_self ?_ | refine sat_need (by first | rfl | exact tt1 _ _ | exact tt5 _ _ | exact tt2 _ _ _ | exact tt4 _ _ _ | exact tt6 _ _ _ | exact tt7 _ _ | exact tt8 _ _ _ | exact tt9 _ _ _ | exact tt10 _ _ | exact tt11 _ _ _ | exact Bool.or_not_self _ | (simp; done) | (simp; omega)) ?_)
    exact sat_ret (fin_val (.inr rfl) rfl rfl rfl rfl)
  · cases e

theorem need_sm (zs : List Int) : (!!!decide ((zs.length : Int) ≤ 64) || (decide (zs.length = (tk zs).length) && decide ((tk zs).length ≤ 64))) = true := by
  cases hq : decide ((zs.length : Int) ≤ 64) with
  | true => rw [need_bd (by simp at hq; omega) rfl]; rfl
  | false => rfl
theorem need_or3 (g : Bool) {a : Int} (h : 0 ≤ a) : (!g || decide (0 ≤ a)) = true := by rw [decide_eq_true h]; exact Bool.or_true _
theorem need_or (g : Bool) {a : Int} (h : 0 ≤ a) : (!g || decide (0 ≤ a)) = true := by rw [decide_eq_true h]; exact Bool.or_true _
theorem tkset (zs : List Int) (i : Nat) (x : Int) : (((tk zs).set i x).drop 0).take zs.length = zs.set i x := by
  rw [tk_eq]; exact wset zs i x
def c_lawHolds5 : CF
  | [.agg [.int .i64 _f, .int .i64 _r, .sl 0 0 len none], .bool _b0, .int .i64 _at_], [.ints false .i8 zs] => some (decide (len = zs.length), .bool true, [])
  | _, _ => none
theorem c_lawHolds5_ok : CtOk GG PP (12, c_lawHolds5) := by
  refine ct_mk Tryd.func12 (by kernel_rfl) rfl fun a0 h0 c0 v0 N0 e hc => ?_
  unfold c_lawHolds5 at e
  split at e
  · rename_i f r len b0 at_ zs
    cases e
    have hE := EE_ok (cts := [(29, c_small5), (30, c_known5), (31, c_Attackers), (34, c_Attacked), (36, c_King), (37, c_Checkers), (39, c_Pinned), (40, c_PinLine), (32, c_rorth), (18, c_Valid), (44, c_Put), (46, c_List), (45, c_many5)]) (inl := []) ⟨c_small5_ok, c_known5_ok, c_Attackers_ok, c_Attacked_ok, c_King_ok, c_Checkers_ok, c_Pinned_ok, c_PinLine_ok, c_rorth_ok, c_Valid_ok, c_Put_ok, c_List_ok, c_many5_ok, trivial⟩ trivial
    refine fn_sound hE 2 Tryd.func12 rfl rfl ?_
    obtain rfl := of_decide_eq_true hc
    repeat (first | (first | refine sat_self ?_ | refine sat_need (by first | rfl | exact tt1 _ _ | exact tt5 _ _ | exact tt2 _ _ _ | exact tt4 _ _ _ | exact tt6 _ _ _ | exact tt7 _ _ | exact tt8 _ _ _ | exact tt9 _ _ _ | exact tt10 _ _ | exact tt11 _ _ _ | exact Bool.or_not_self _ | (simp; done) | (simp; omega)) ?_) | refine sat_need (need_sm _) ?_)
    refine sat_br (fun h0 => ?_) (fun h0 => ?_)
    · repeat (first | refine sat_self ?_ | refine sat_need (by first | rfl | exact tt1 _ _ | exact tt5 _ _ | exact tt2 _ _ _ | exact tt4 _ _ _ | exact tt6 _ _ _ | exact tt7 _ _ | exact tt8 _ _ _ | exact tt9 _ _ _ | exact tt10 _ _ | exact tt11 _ _ _ | exact Bool.or_not_self _ | (simp; done) | (simp; omega)) ?_)
      exact sat_ret (fin_val (.inr rfl) rfl rfl rfl rfl)
    have h0 : (!decide ((zs.length : Int) ≤ 64) || !orthBd f r (tk zs) || !validB f r at_) = false := h0
    rw [tk_eq] at h0
    simp only [Bool.or_eq_false_iff, Bool.not_eq_false', decide_eq_true_eq] at h0
    obtain ⟨⟨hl0, h1⟩, hva⟩ := h0
    have hl : zs.length ≤ 64 := by omega
    have hat := (sq_iff h1).1 hva
    have hA : attackersR f r (tk zs) at_ b0 = (attR f r zs at_ b0, 0) := by rw [tk_eq]; unfold attackersR; rw [h1, hva]; rfl
    have hB : attackedR f r (tk zs) b0 = (atdR f r zs b0, 0) := by rw [tk_eq]; unfold attackedR; rw [h1]; rfl
    repeat (first | (first | refine sat_self ?_ | refine sat_need (by first | rfl | exact tt1 _ _ | exact tt5 _ _ | exact tt2 _ _ _ | exact tt4 _ _ _ | exact tt6 _ _ _ | exact tt7 _ _ | exact tt8 _ _ _ | exact tt9 _ _ _ | exact tt10 _ _ | exact tt11 _ _ _ | exact Bool.or_not_self _ | (simp; done) | (simp; omega)) ?_) | refine sat_need (need_bd hl rfl) ?_ | refine sat_need (need_at hl rfl hat.1 hat.2) ?_)
    refine sat_bf (by
      show (!decide ((attackersR f r (tk zs) at_ b0).2 = 0) || !decide ((attackedR f r (tk zs) b0).2 = 0) || !((!decide ((attackersR f r (tk zs) at_ b0).1 = 0)) == decide (uand (ushr (attackedR f r (tk zs) b0).1 at_) 1 = 1))) = false
      rw [hA, hB]
      show (!decide ((0 : Int) = 0) || !decide ((0 : Int) = 0) || !((!decide (attR f r zs at_ b0 = 0)) == decide (uand (ushr (atdR f r zs b0) at_) 1 = 1))) = false
      rw [att_iff h1 hl hva]; simp) ?_
    repeat (first | (first | refine sat_self ?_ | refine sat_need (by first | rfl | exact tt1 _ _ | exact tt5 _ _ | exact tt2 _ _ _ | exact tt4 _ _ _ | exact tt6 _ _ _ | exact tt7 _ _ | exact tt8 _ _ _ | exact tt9 _ _ _ | exact tt10 _ _ | exact tt11 _ _ _ | exact Bool.or_not_self _ | (simp; done) | (simp; omega)) ?_) | refine sat_need (need_bd hl rfl) ?_ | refine sat_need (need_at hl rfl hat.1 hat.2) ?_)
    refine sat_br (fun hK => ?_) (fun hK => ?_)
    · repeat (first | refine sat_self ?_ | refine sat_need (by first | rfl | exact tt1 _ _ | exact tt5 _ _ | exact tt2 _ _ _ | exact tt4 _ _ _ | exact tt6 _ _ _ | exact tt7 _ _ | exact tt8 _ _ _ | exact tt9 _ _ _ | exact tt10 _ _ | exact tt11 _ _ _ | exact Bool.or_not_self _ | (simp; done) | (simp; omega)) ?_)
      exact sat_ret (fin_val (.inr rfl) rfl rfl rfl rfl)
    have hK : (decide (zs.getD at_.toNat 0 = 0) || !decide ((kingR f r (tk zs) (decide (zs.getD at_.toNat 0 < 0))).2 = 0) || decide ((kingR f r (tk zs) (decide (zs.getD at_.toNat 0 < 0))).1 = at_)) = false := hK
    rw [tk_eq] at hK
    obtain ⟨K, p⟩ := pos_mk h1 hl hva hK
    have hset := p.set
    have hw1 : ((((tk zs).set at_.toNat 0).drop 0).take (tk zs).length) = zs.set at_.toNat 0 := by rw [wset, tk_eq]
    have hC : (checkersR f r (tk zs) (decide (zs.getD at_.toNat 0 < 0))) = (attR f r zs K (!(decide (zs.getD at_.toNat 0 < 0))), 0) := by rw [tk_eq]; unfold checkersR; rw [p.kr]; rfl
    have hC1 : (checkersR f r ((((tk zs).set at_.toNat 0).drop 0).take (tk zs).length) (decide (zs.getD at_.toNat 0 < 0))) = (attR f r (zs.set at_.toNat 0) K (!(decide (zs.getD at_.toNat 0 < 0))), 0) := by rw [hw1]; unfold checkersR; rw [hset.2.2]; rfl
    have hP : (pinnedR f r (tk zs) (decide (zs.getD at_.toNat 0 < 0))) = pinnedR f r zs (decide (zs.getD at_.toNat 0 < 0)) := by rw [tk_eq]
    have hP2 : (pinnedR f r zs (decide (zs.getD at_.toNat 0 < 0))).2 = 0 := (pinned_of p.o p.z (by rw [p.k]; exact p.kr) (by rw [p.k]; exact p.kv)).2
    have hL : (pinLineR f r (tk zs) at_) = pinLineR f r zs at_ := by rw [tk_eq]
    repeat (first | (first | refine sat_self ?_ | refine sat_need (by first | rfl | exact tt1 _ _ | exact tt5 _ _ | exact tt2 _ _ _ | exact tt4 _ _ _ | exact tt6 _ _ _ | exact tt7 _ _ | exact tt8 _ _ _ | exact tt9 _ _ _ | exact tt10 _ _ | exact tt11 _ _ _ | exact Bool.or_not_self _ | (simp; done) | (simp; omega)) ?_) | refine sat_need (need_bd hl rfl) ?_ | refine sat_need (need_at hl rfl hat.1 hat.2) ?_)
    refine sat_bf (by
      show (!decide ((pinnedR f r (tk zs) (decide (zs.getD at_.toNat 0 < 0))).2 = 0) || !decide ((checkersR f r (tk zs) (decide (zs.getD at_.toNat 0 < 0))).2 = 0) || !decide ((checkersR f r ((((tk zs).set at_.toNat 0).drop 0).take (tk zs).length) (decide (zs.getD at_.toNat 0 < 0))).2 = 0) || !decide (uandn (checkersR f r (tk zs) (decide (zs.getD at_.toNat 0 < 0))).1 (checkersR f r ((((tk zs).set at_.toNat 0).drop 0).take (tk zs).length) (decide (zs.getD at_.toNat 0 < 0))).1 = 0)) = false
      rw [hC, hC1, hP, hP2]
      show (!decide ((0 : Int) = 0) || !decide ((0 : Int) = 0) || !decide ((0 : Int) = 0) || !decide (uandn (attR f r zs K (!(decide (zs.getD at_.toNat 0 < 0)))) (attR f r (zs.set at_.toNat 0) K (!(decide (zs.getD at_.toNat 0 < 0)))) = 0)) = false
      rw [p.less]; simp) ?_
    repeat (first | (first | refine sat_self ?_ | refine sat_need (by first | rfl | exact tt1 _ _ | exact tt5 _ _ | exact tt2 _ _ _ | exact tt4 _ _ _ | exact tt6 _ _ _ | exact tt7 _ _ | exact tt8 _ _ _ | exact tt9 _ _ _ | exact tt10 _ _ | exact tt11 _ _ _ | exact Bool.or_not_self _ | (simp; done) | (simp; omega)) ?_) | refine sat_need (need_bd hl rfl) ?_ | refine sat_need (need_at hl rfl hat.1 hat.2) ?_)
    refine sat_br (fun hN => ?_) (fun hN => ?_)
    · have hN : decide (uand (ushr (pinnedR f r (tk zs) (decide (zs.getD at_.toNat 0 < 0))).1 at_) 1 = 0) = true := hN
      rw [hP, p.bit, decide_eq_true_eq] at hN
      repeat (first | refine sat_self ?_ | refine sat_need (by first | rfl | exact tt1 _ _ | exact tt5 _ _ | exact tt2 _ _ _ | exact tt4 _ _ _ | exact tt6 _ _ _ | exact tt7 _ _ | exact tt8 _ _ _ | exact tt9 _ _ _ | exact tt10 _ _ | exact tt11 _ _ _ | exact Bool.or_not_self _ | (simp; done) | (simp; omega)) ?_)
      refine sat_ret (fin_val (.inr rfl) rfl rfl rfl (congrArg V.bool ?_))
      show (decide ((checkersR f r ((((tk zs).set at_.toNat 0).drop 0).take (tk zs).length) (decide (zs.getD at_.toNat 0 < 0))).1 = (checkersR f r (tk zs) (decide (zs.getD at_.toNat 0 < 0))).1) && true) = true
      rw [hC, hC1]
      show (decide (attR f r (zs.set at_.toNat 0) K (!(decide (zs.getD at_.toNat 0 < 0))) = attR f r zs K (!(decide (zs.getD at_.toNat 0 < 0)))) && true) = true
      rw [p.same hN]; simp
    have hN : decide (uand (ushr (pinnedR f r (tk zs) (decide (zs.getD at_.toNat 0 < 0))).1 at_) 1 = 0) = false := hN
    rw [hP, p.bit, decide_eq_false_iff_not] at hN
    repeat (first | (first | refine sat_self ?_ | refine sat_need (by first | rfl | exact tt1 _ _ | exact tt5 _ _ | exact tt2 _ _ _ | exact tt4 _ _ _ | exact tt6 _ _ _ | exact tt7 _ _ | exact tt8 _ _ _ | exact tt9 _ _ _ | exact tt10 _ _ | exact tt11 _ _ _ | exact Bool.or_not_self _ | (simp; done) | (simp; omega)) ?_) | refine sat_need (need_bd hl rfl) ?_ | refine sat_need (need_at hl rfl hat.1 hat.2) ?_)
    refine sat_bf (by
      show (!decide ((pinLineR f r (tk zs) at_).2 = 0) || !decide (((listB (checkersR f r ((((tk zs).set at_.toNat 0).drop 0).take (tk zs).length) (decide (zs.getD at_.toNat 0 < 0))).1 64).length : Int) = IntKind.i64.wrap ((listB (checkersR f r (tk zs) (decide (zs.getD at_.toNat 0 < 0))).1 64).length + 1)) || !decide (uandn (uandn (checkersR f r ((((tk zs).set at_.toNat 0).drop 0).take (tk zs).length) (decide (zs.getD at_.toNat 0 < 0))).1 (checkersR f r (tk zs) (decide (zs.getD at_.toNat 0 < 0))).1) (pinLineR f r (tk zs) at_).1 = 0)) = false
      obtain ⟨_, _, _, _, _, x5, _⟩ := p.more hN
      rw [hC, hC1, hL]
      show (!decide ((pinLineR f r zs at_).2 = 0) || !decide (((listB (attR f r (zs.set at_.toNat 0) K (!(decide (zs.getD at_.toNat 0 < 0)))) 64).length : Int) = IntKind.i64.wrap ((listB (attR f r zs K (!(decide (zs.getD at_.toNat 0 < 0)))) 64).length + 1)) || !decide (uandn (uandn (attR f r (zs.set at_.toNat 0) K (!(decide (zs.getD at_.toNat 0 < 0)))) (attR f r zs K (!(decide (zs.getD at_.toNat 0 < 0))))) (pinLineR f r zs at_).1 = 0)) = false
      rw [p.onLine hN, p.many hN, x5]; simp) ?_
    repeat (first | (first | refine sat_self ?_ | refine sat_need (by first | rfl | exact tt1 _ _ | exact tt5 _ _ | exact tt2 _ _ _ | exact tt4 _ _ _ | exact tt6 _ _ _ | exact tt7 _ _ | exact tt8 _ _ _ | exact tt9 _ _ _ | exact tt10 _ _ | exact tt11 _ _ _ | exact Bool.or_not_self _ | (simp; done) | (simp; omega)) ?_) | refine sat_need (need_bd hl rfl) ?_ | refine sat_need (need_at hl rfl hat.1 hat.2) ?_)
    have hll := listB_len (pinLineR f r (tk zs) at_).1 64
    refine sat_idx hE 2 (fun i (_ : Unit) => ([(2, I at_), (3, .ptr 1 0 0), (11, .int .i8 (zs.getD at_.toNat 0)), (12, Bb (decide (zs.getD at_.toNat 0 < 0))), (15, U (checkersR f r (tk zs) (decide (zs.getD at_.toNat 0 < 0))).1), (16, U (checkersR f r ((((tk zs).set at_.toNat 0).drop 0).take (tk zs).length) (decide (zs.getD at_.toNat 0 < 0))).1), (165, .sl 2 0 (listB (pinLineR f r (tk zs) at_).1 64).length none), (166, I (listB (pinLineR f r (tk zs) at_).1 64).length), (167, I i)], [.ints false .i8 zs, .cells true [I f, I r, .sl 0 0 zs.length none], .ints true .i64 (listB (pinLineR f r (tk zs) at_).1 64)])) (listB (pinLineR f r (tk zs) at_).1 64).length (fun _ _ => True) () (by omega) (Ent.ren [0, 1, 3] [2, 3, 11, 12, 15, 16, 165, 166, 167] rfl rfl rfl) trivial ?_
    intro j i _ hij hj _
    refine sat_br (fun hlt => ?_) (fun hlt => ?_)
    · have hlt' : j < (listB (pinLineR f r (tk zs) at_).1 64).length := by simp only [decide_eq_true_eq] at hlt; omega
      have hmem : ((listB (pinLineR f r (tk zs) at_).1 64).getD i.toNat 0) ∈ listB (pinLineR f r zs at_).1 64 := by rw [hL]; rw [hL] at hlt'; exact getD_mem (by omega)
      have htv := (sq_iff p.o).1 (p.line hN hmem).1
      have hlw : ((((tk zs).set at_.toNat 0).drop 0).take (tk zs).length).length = zs.length := by rw [hw1, List.length_set]
      refine sat_need (by simp only [Bool.and_eq_true, decide_eq_true_eq]; omega) ?_
      repeat (first | (first | refine sat_self ?_ | refine sat_need (by first | rfl | exact tt1 _ _ | exact tt5 _ _ | exact tt2 _ _ _ | exact tt4 _ _ _ | exact tt6 _ _ _ | exact tt7 _ _ | exact tt8 _ _ _ | exact tt9 _ _ _ | exact tt10 _ _ | exact tt11 _ _ _ | exact Bool.or_not_self _ | (simp; done) | (simp; omega)) ?_) | refine sat_need (need_bd hl rfl) ?_ | refine sat_need (need_at hl rfl hat.1 hat.2) ?_)
      have hput : (decide ((tk zs).length = ((((tk zs).set at_.toNat 0).drop 0).take (tk zs).length).length) && decide (((((tk zs).set at_.toNat 0).drop 0).take (tk zs).length).length ≤ 64) && decide (0 ≤ ((listB (pinLineR f r (tk zs) at_).1 64).getD i.toNat 0)) && decide (((listB (pinLineR f r (tk zs) at_).1 64).getD i.toNat 0) < (((((tk zs).set at_.toNat 0).drop 0).take (tk zs).length).length : Int))) = true := by
        simp only [Bool.and_eq_true, decide_eq_true_eq]
        exact ⟨⟨⟨(tk_len zs).trans hlw.symm, Nat.le_trans (Nat.le_of_eq hlw) hl⟩, htv.1⟩, by rw [hlw]; exact htv.2⟩
      have hw2 : (((((((tk zs).set at_.toNat 0).drop 0).take (tk zs).length).set ((listB (pinLineR f r (tk zs) at_).1 64).getD i.toNat 0).toNat (zs.getD at_.toNat 0)).drop 0).take ((((tk zs).set at_.toNat 0).drop 0).take (tk zs).length).length) = (zs.set at_.toNat 0).set ((listB (pinLineR f r (tk zs) at_).1 64).getD i.toNat 0).toNat (zs.getD at_.toNat 0) := by rw [wset, hw1]
      have hlw2 : (((((((tk zs).set at_.toNat 0).drop 0).take (tk zs).length).set ((listB (pinLineR f r (tk zs) at_).1 64).getD i.toNat 0).toNat (zs.getD at_.toNat 0)).drop 0).take ((((tk zs).set at_.toNat 0).drop 0).take (tk zs).length).length).length = zs.length := by rw [hw2, List.length_set, List.length_set]
      have hT : (checkersR f r (((((((tk zs).set at_.toNat 0).drop 0).take (tk zs).length).set ((listB (pinLineR f r (tk zs) at_).1 64).getD i.toNat 0).toNat (zs.getD at_.toNat 0)).drop 0).take ((((tk zs).set at_.toNat 0).drop 0).take (tk zs).length).length) (decide (zs.getD at_.toNat 0 < 0))) = (attR f r ((zs.set at_.toNat 0).set ((listB (pinLineR f r (tk zs) at_).1 64).getD i.toNat 0).toNat (zs.getD at_.toNat 0)) K (!(decide (zs.getD at_.toNat 0 < 0))), 0) := by rw [hw2]; unfold checkersR; rw [(p.put hN hmem).2]; rfl
      have hchk : (decide (((((tk zs).set at_.toNat 0).drop 0).take (tk zs).length).length = (((((((tk zs).set at_.toNat 0).drop 0).take (tk zs).length).set ((listB (pinLineR f r (tk zs) at_).1 64).getD i.toNat 0).toNat (zs.getD at_.toNat 0)).drop 0).take ((((tk zs).set at_.toNat 0).drop 0).take (tk zs).length).length).length) && decide ((((((((tk zs).set at_.toNat 0).drop 0).take (tk zs).length).set ((listB (pinLineR f r (tk zs) at_).1 64).getD i.toNat 0).toNat (zs.getD at_.toNat 0)).drop 0).take ((((tk zs).set at_.toNat 0).drop 0).take (tk zs).length).length).length ≤ 64)) = true := by
        simp only [Bool.and_eq_true, decide_eq_true_eq]
        exact ⟨hlw.trans hlw2.symm, Nat.le_trans (Nat.le_of_eq hlw2) hl⟩
      have hto := htv
      repeat (first | (first | refine sat_self ?_ | refine sat_need (by first | rfl | exact tt1 _ _ | exact tt5 _ _ | exact tt2 _ _ _ | exact tt4 _ _ _ | exact tt6 _ _ _ | exact tt7 _ _ | exact tt8 _ _ _ | exact tt9 _ _ _ | exact tt10 _ _ | exact tt11 _ _ _ | exact Bool.or_not_self _ | (simp; done) | (simp; omega)) ?_) | refine sat_need hput ?_ | refine sat_need hchk ?_ | refine sat_need (need_bd hl rfl) ?_ | refine sat_need (need_at hl rfl hat.1 hat.2) ?_ | refine sat_need (need_or3 _ hto.1) ?_)
      refine sat_bf (by
        show (!decide ((checkersR f r (((((((tk zs).set at_.toNat 0).drop 0).take (tk zs).length).set ((listB (pinLineR f r (tk zs) at_).1 64).getD i.toNat 0).toNat (zs.getD at_.toNat 0)).drop 0).take ((((tk zs).set at_.toNat 0).drop 0).take (tk zs).length).length) (decide (zs.getD at_.toNat 0 < 0))).2 = 0) || (!decide (uand (checkersR f r (((((((tk zs).set at_.toNat 0).drop 0).take (tk zs).length).set ((listB (pinLineR f r (tk zs) at_).1 64).getD i.toNat 0).toNat (zs.getD at_.toNat 0)).drop 0).take ((((tk zs).set at_.toNat 0).drop 0).take (tk zs).length).length) (decide (zs.getD at_.toNat 0 < 0))).1 (uandn (checkersR f r ((((tk zs).set at_.toNat 0).drop 0).take (tk zs).length) (decide (zs.getD at_.toNat 0 < 0))).1 (checkersR f r (tk zs) (decide (zs.getD at_.toNat 0 < 0))).1) = 0) && decide (uand (ushr (checkersR f r ((((tk zs).set at_.toNat 0).drop 0).take (tk zs).length) (decide (zs.getD at_.toNat 0 < 0))).1 ((listB (pinLineR f r (tk zs) at_).1 64).getD i.toNat 0)) 1 = 0))) = false
        rw [hT, hC, hC1]
        show (!decide ((0 : Int) = 0) || (!decide (uand (attR f r ((zs.set at_.toNat 0).set ((listB (pinLineR f r (tk zs) at_).1 64).getD i.toNat 0).toNat (zs.getD at_.toNat 0)) K (!(decide (zs.getD at_.toNat 0 < 0)))) (uandn (attR f r (zs.set at_.toNat 0) K (!(decide (zs.getD at_.toNat 0 < 0)))) (attR f r zs K (!(decide (zs.getD at_.toNat 0 < 0))))) = 0) && decide (uand (ushr (attR f r (zs.set at_.toNat 0) K (!(decide (zs.getD at_.toNat 0 < 0)))) ((listB (pinLineR f r (tk zs) at_).1 64).getD i.toNat 0)) 1 = 0))) = false
        rw [bit_of0 p.ab.2.1 hto.1 (by omega)]
        cases hb : bt (attR f r (zs.set at_.toNat 0) K (!(decide (zs.getD at_.toNat 0 < 0)))) ((listB (pinLineR f r (tk zs) at_).1 64).getD i.toNat 0).toNat with
        | true => simp
        | false => rw [p.shut hN hmem hb]; simp) ?_
      exact sat_ret ⟨hlt', (), trivial, Ent.ren [0, 1, 2] [2, 3, 11, 12, 15, 16, 165, 166, 167] rfl rfl rfl⟩
    · refine sat_ret ?_
      repeat (first | refine sat_self ?_ | refine sat_need (by first | rfl | exact tt1 _ _ | exact tt5 _ _ | exact tt2 _ _ _ | exact tt4 _ _ _ | exact tt6 _ _ _ | exact tt7 _ _ | exact tt8 _ _ _ | exact tt9 _ _ _ | exact tt10 _ _ | exact tt11 _ _ _ | exact Bool.or_not_self _ | (simp; done) | (simp; omega)) ?_)
      exact sat_ret (fin_val (.inr rfl) rfl rfl rfl rfl)
  · cases e

end Go.Ab
