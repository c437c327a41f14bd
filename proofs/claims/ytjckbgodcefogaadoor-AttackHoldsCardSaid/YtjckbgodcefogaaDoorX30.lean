/- Contracts of the functions that the laws reach, and plain laws of what they compute (text X30); no condition. -/
import Derived.Test.YtjckbgodcefogaaDoorL11
import Derived.Test.YtjckbgodcefogaaDoorF4
namespace Go.Ab
open Go.Proofs
theorem king_bad {f r : Int} {zs : List Int} {bl : Bool} (h : orthBd f r zs = false) : kingR f r zs bl = (0, 2) ∧ checkersR f r zs bl = (0, 2) ∧ pinnedR f r zs bl = (0, 2) := by
  have hk : kingR f r zs bl = (0, 2) := by unfold kingR; rw [h]; rfl
  refine ⟨hk, ?_, ?_⟩
  · unfold checkersR; rw [hk]; rfl
  · unfold pinnedR; rw [hk]; rfl
theorem four {a b c d : Int} {x y z u : Int} (h1 : a = x) (h2 : b = y) (h3 : c = z) (h4 : d = u) : (decide (a = x) && decide (b = y) && decide (c = z) && decide (d = u) && true) = true := by subst h1 h2 h3 h4; simp
theorem two {a b : Int} {x y : Int} (h1 : a = x) (h2 : b = y) : (decide (a = x) && decide (b = y) && true) = true := by subst h1 h2; simp
def c_lawChecks : CF
  | [.agg [.int .i64 _f, .int .i64 _r, .sl 0 0 len none], .bool _bl], [.ints false .i8 zs] => some (decide (len = zs.length), .bool true, [])
  | _, _ => none
theorem c_lawChecks_ok : CtOk GG PP (10, c_lawChecks) := by
  refine ct_mk Tryd.func10 (by kernel_rfl) rfl fun a0 h0 c0 v0 N0 e hc => ?_
  unfold c_lawChecks at e
  split at e
  · rename_i f r len bl zs
    cases e
    have hE := EE_ok (cts := [(29, c_small5), (30, c_known5), (36, c_King), (37, c_Checkers), (32, c_rorth), (38, c_refKing), (33, c_refAttackers), (20, c_Of)]) (inl := []) ⟨c_small5_ok, c_known5_ok, c_King_ok, c_Checkers_ok, c_rorth_ok, c_refKing_ok, c_refAttackers_ok, c_Of_ok, trivial⟩ trivial
    refine fn_sound hE 2 Tryd.func10 rfl rfl ?_
    obtain rfl := of_decide_eq_true hc
    repeat (first | refine sat_self ?_ | refine sat_need (by first | rfl | exact tt1 _ _ | exact tt5 _ _ | exact tt2 _ _ _ | exact tt4 _ _ _ | exact tt6 _ _ _ | exact tt7 _ _ | exact tt8 _ _ _ | exact tt9 _ _ _ | exact tt10 _ _ | exact tt11 _ _ _ | exact Bool.or_not_self _ | (simp; done) | (simp; omega)) ?_)
    refine sat_br (fun hs => ?_) (fun hs => ?_)
    · repeat (first | refine sat_self ?_ | refine sat_need (by first | rfl | exact tt1 _ _ | exact tt5 _ _ | exact tt2 _ _ _ | exact tt4 _ _ _ | exact tt6 _ _ _ | exact tt7 _ _ | exact tt8 _ _ _ | exact tt9 _ _ _ | exact tt10 _ _ | exact tt11 _ _ _ | exact Bool.or_not_self _ | (simp; done) | (simp; omega)) ?_)
      exact sat_ret (fin_val (.inr rfl) rfl rfl rfl rfl)
    have hl : zs.length ≤ 64 := by simp at hs; omega
    repeat (first | (first | refine sat_self ?_ | refine sat_need (by first | rfl | exact tt1 _ _ | exact tt5 _ _ | exact tt2 _ _ _ | exact tt4 _ _ _ | exact tt6 _ _ _ | exact tt7 _ _ | exact tt8 _ _ _ | exact tt9 _ _ _ | exact tt10 _ _ | exact tt11 _ _ _ | exact Bool.or_not_self _ | (simp; done) | (simp; omega)) ?_) | refine sat_need (need_bd hl rfl) ?_)
    refine sat_br (fun h => ?_) (fun h => ?_)
    · have h1 : orthBd f r zs = false := by simpa using h
      obtain ⟨k1, k2, _⟩ := king_bad (bl := bl) h1
      rw [← tk_eq zs] at k1 k2
      repeat (first | refine sat_self ?_ | refine sat_need (by first | rfl | exact tt1 _ _ | exact tt5 _ _ | exact tt2 _ _ _ | exact tt4 _ _ _ | exact tt6 _ _ _ | exact tt7 _ _ | exact tt8 _ _ _ | exact tt9 _ _ _ | exact tt10 _ _ | exact tt11 _ _ _ | exact Bool.or_not_self _ | (simp; done) | (simp; omega)) ?_)
      refine sat_ret (fin_val (.inr rfl) rfl rfl rfl (congrArg V.bool ?_))
      exact four (congrArg Prod.fst k1) (congrArg Prod.snd k1) (congrArg Prod.fst k2) (congrArg Prod.snd k2)
    have h1 : orthBd f r zs = true := by simpa using h
    have hv := (orth_valid h1).1
    repeat (first | (first | refine sat_self ?_ | refine sat_need (by first | rfl | exact tt1 _ _ | exact tt5 _ _ | exact tt2 _ _ _ | exact tt4 _ _ _ | exact tt6 _ _ _ | exact tt7 _ _ | exact tt8 _ _ _ | exact tt9 _ _ _ | exact tt10 _ _ | exact tt11 _ _ _ | exact Bool.or_not_self _ | (simp; done) | (simp; omega)) ?_) | refine sat_need (need_bd hl rfl) ?_)
    refine sat_br (fun hk => ?_) (fun hk => ?_)
    · have hk : decide (refKing (tk zs) bl < 0) = true := hk
      rw [tk_eq, decide_eq_true_eq] at hk
      rcases king_iff (bl := bl) h1 hl with ⟨_, e⟩ | ⟨_, e, _⟩
      · have e2 : checkersR f r zs bl = (0, 9) := by unfold checkersR; rw [e]; rfl
        rw [← tk_eq zs] at e e2
        repeat (first | refine sat_self ?_ | refine sat_need (by first | rfl | exact tt1 _ _ | exact tt5 _ _ | exact tt2 _ _ _ | exact tt4 _ _ _ | exact tt6 _ _ _ | exact tt7 _ _ | exact tt8 _ _ _ | exact tt9 _ _ _ | exact tt10 _ _ | exact tt11 _ _ _ | exact Bool.or_not_self _ | (simp; done) | (simp; omega)) ?_)
        refine sat_ret (fin_val (.inr rfl) rfl rfl rfl (congrArg V.bool ?_))
        exact four (congrArg Prod.fst e) (congrArg Prod.snd e) (congrArg Prod.fst e2) (congrArg Prod.snd e2)
      · have := (valid_lt e).1; omega
    have hk : decide (refKing (tk zs) bl < 0) = false := hk
    rw [tk_eq, decide_eq_false_iff_not] at hk
    rcases king_iff (bl := bl) h1 hl with ⟨e, _⟩ | ⟨e, ev, _⟩
    · exact absurd e hk
    have e2 : checkersR f r zs bl = (attR f r zs (refKing zs bl) (!bl), 0) := by unfold checkersR; rw [e]; rfl
    have hof := attR_of (bl := !bl) h1 hl ev
    have hal : (attL f r (tk zs) (refKing (tk zs) bl) (!bl)).length ≤ 64 := by have := attL_len f r (tk zs) (refKing (tk zs) bl) (!bl); rw [tk_len] at this; omega
    repeat (first | (first | refine sat_self ?_ | refine sat_need (by first | rfl | exact tt1 _ _ | exact tt5 _ _ | exact tt2 _ _ _ | exact tt4 _ _ _ | exact tt6 _ _ _ | exact tt7 _ _ | exact tt8 _ _ _ | exact tt9 _ _ _ | exact tt10 _ _ | exact tt11 _ _ _ | exact Bool.or_not_self _ | (simp; done) | (simp; omega)) ?_) | refine sat_need (need_bd hl rfl) ?_)
    have hg : (decide ((kingR f r (tk zs) bl).1 = refKing (tk zs) bl) && decide ((kingR f r (tk zs) bl).2 = 0)) = true := by
      simp only [tk_eq]
      rw [e]; simp
    refine sat_bt hg ?_
    repeat (first | (first | refine sat_self ?_ | refine sat_need (by first | rfl | exact tt1 _ _ | exact tt5 _ _ | exact tt2 _ _ _ | exact tt4 _ _ _ | exact tt6 _ _ _ | exact tt7 _ _ | exact tt8 _ _ _ | exact tt9 _ _ _ | exact tt10 _ _ | exact tt11 _ _ _ | exact Bool.or_not_self _ | (simp; done) | (simp; omega)) ?_) | refine sat_need hg ?_ | refine sat_need (need_bdv hl rfl hv) ?_)
    refine sat_need (need_ofl (tk_eq (attL f r (tk zs) (refKing (tk zs) bl) (!bl))) (by omega) (fun x hx => (mem_attL.1 hx).1) rfl) ?_
    repeat (first | (first | refine sat_self ?_ | refine sat_need (by first | rfl | exact tt1 _ _ | exact tt5 _ _ | exact tt2 _ _ _ | exact tt4 _ _ _ | exact tt6 _ _ _ | exact tt7 _ _ | exact tt8 _ _ _ | exact tt9 _ _ _ | exact tt10 _ _ | exact tt11 _ _ _ | exact Bool.or_not_self _ | (simp; done) | (simp; omega)) ?_) | refine sat_need hg ?_)
    refine sat_ret (fin_val (.inr rfl) rfl rfl rfl (congrArg V.bool ?_))
    show (decide ((checkersR f r (tk zs) bl).1 = ofL (tk (attL f r (tk zs) (refKing (tk zs) bl) (!bl))) 0) && decide ((checkersR f r (tk zs) bl).2 = 0) && true) = true
    simp only [tk_eq]
    exact two ((congrArg Prod.fst e2).trans hof.symm) (congrArg Prod.snd e2)
  · cases e

theorem line_cases {f r : Int} {zs : List Int} {a : Int} {c : Bool} (h : orthBd f r zs = true) (hz : zs.length ≤ 64) (hv : validB f r a = true) (hc : (decide (zs.getD a.toNat 0 = 0) || decide (refKing zs (decide (zs.getD a.toNat 0 < 0)) < 0) || decide (pinnerR f r zs a < 0)) = c) :
    pinLineR f r zs a = bif c then (0, 9) else (ofL (lineL f r zs a) 0, 0) := by
  obtain ⟨h0, h1⟩ := (sq_iff h).1 hv
  by_cases hp : zs.getD a.toNat 0 = 0
  · rw [decide_eq_true hp] at hc
    simp only [Bool.true_or] at hc
    subst hc
    unfold pinLineR
    rw [h, hv, decide_eq_true hp]; rfl
  · rw [decide_eq_false hp, Bool.false_or] at hc
    have his : isP (zs.getD a.toNat 0) (decide (zs.getD a.toNat 0 < 0)) = true := by
      unfold isP
      by_cases hn : zs.getD a.toNat 0 < 0
      · rw [decide_eq_true hn]; rfl
      · rw [decide_eq_false hn, decide_eq_true (show 0 < zs.getD a.toNat 0 by omega)]; rfl
    rcases king_iff (bl := decide (zs.getD a.toNat 0 < 0)) h hz with ⟨k1, k2⟩ | ⟨k1, k2, _⟩
    · rw [decide_eq_true k1, Bool.true_or] at hc
      subst hc
      unfold pinLineR
      rw [h, hv, decide_eq_false hp, k2]; rfl
    · have := (valid_lt k2).1
      rw [decide_eq_false (show ¬ refKing zs (decide (zs.getD a.toNat 0 < 0)) < 0 by omega), Bool.false_or] at hc
      rcases line_of h hz k1 k2 h0 h1 his with ⟨a1, a2⟩ | ⟨a1, a2⟩
      · rw [decide_eq_true a1] at hc; subst hc; exact a2
      · rw [decide_eq_false (by omega)] at hc; subst hc; exact a2
theorem pin_bad {f r : Int} {zs : List Int} {a : Int} (h : (orthBd f r zs && validB f r a) = false) : pinLineR f r zs a = (0, 2) := by unfold pinLineR; rw [h]; rfl
def c_lawPins : CF
  | [.agg [.int .i64 _f, .int .i64 _r, .sl 0 0 len none], .bool _bl, .int .i64 _at_], [.ints false .i8 zs] => some (decide (len = zs.length), .bool true, [])
  | _, _ => none
theorem c_lawPins_ok : CtOk GG PP (11, c_lawPins) := by
  refine ct_mk Tryd.func11 (by kernel_rfl) rfl fun a0 h0 c0 v0 N0 e hc => ?_
  unfold c_lawPins at e
  split at e
  · rename_i f r len bl at_ zs
    cases e
    have hE := EE_ok (cts := [(29, c_small5), (30, c_known5), (39, c_Pinned), (40, c_PinLine), (32, c_rorth), (38, c_refKing), (41, c_refPinned), (42, c_Pinner), (43, c_refLine), (20, c_Of), (18, c_Valid)]) (inl := []) ⟨c_small5_ok, c_known5_ok, c_Pinned_ok, c_PinLine_ok, c_rorth_ok, c_refKing_ok, c_refPinned_ok, c_Pinner_ok, c_refLine_ok, c_Of_ok, c_Valid_ok, trivial⟩ trivial
    refine fn_sound hE 2 Tryd.func11 rfl rfl ?_
    obtain rfl := of_decide_eq_true hc
    repeat (first | refine sat_self ?_ | refine sat_need (by first | rfl | exact tt1 _ _ | exact tt5 _ _ | exact tt2 _ _ _ | exact tt4 _ _ _ | exact tt6 _ _ _ | exact tt7 _ _ | exact tt8 _ _ _ | exact tt9 _ _ _ | exact tt10 _ _ | exact tt11 _ _ _ | exact Bool.or_not_self _ | (simp; done) | (simp; omega)) ?_)
    refine sat_br (fun hs => ?_) (fun hs => ?_)
    · repeat (first | refine sat_self ?_ | refine sat_need (by first | rfl | exact tt1 _ _ | exact tt5 _ _ | exact tt2 _ _ _ | exact tt4 _ _ _ | exact tt6 _ _ _ | exact tt7 _ _ | exact tt8 _ _ _ | exact tt9 _ _ _ | exact tt10 _ _ | exact tt11 _ _ _ | exact Bool.or_not_self _ | (simp; done) | (simp; omega)) ?_)
      exact sat_ret (fin_val (.inr rfl) rfl rfl rfl rfl)
    have hl : zs.length ≤ 64 := by simp at hs; omega
    repeat (first | (first | refine sat_self ?_ | refine sat_need (by first | rfl | exact tt1 _ _ | exact tt5 _ _ | exact tt2 _ _ _ | exact tt4 _ _ _ | exact tt6 _ _ _ | exact tt7 _ _ | exact tt8 _ _ _ | exact tt9 _ _ _ | exact tt10 _ _ | exact tt11 _ _ _ | exact Bool.or_not_self _ | (simp; done) | (simp; omega)) ?_) | refine sat_need (need_bd hl rfl) ?_)
    refine sat_br (fun h => ?_) (fun h => ?_)
    · have h1 : orthBd f r zs = false := by simpa using h
      obtain ⟨_, _, k2⟩ := king_bad (bl := bl) h1
      have k3 := pin_bad (a := at_) (show (orthBd f r zs && validB f r at_) = false by rw [h1]; rfl)
      rw [← tk_eq zs] at k2 k3
      repeat (first | refine sat_self ?_ | refine sat_need (by first | rfl | exact tt1 _ _ | exact tt5 _ _ | exact tt2 _ _ _ | exact tt4 _ _ _ | exact tt6 _ _ _ | exact tt7 _ _ | exact tt8 _ _ _ | exact tt9 _ _ _ | exact tt10 _ _ | exact tt11 _ _ _ | exact Bool.or_not_self _ | (simp; done) | (simp; omega)) ?_)
      refine sat_ret (fin_val (.inr rfl) rfl rfl rfl (congrArg V.bool ?_))
      exact four (congrArg Prod.fst k2) (congrArg Prod.snd k2) (congrArg Prod.fst k3) (congrArg Prod.snd k3)
    have h1 : orthBd f r zs = true := by simpa using h
    have hv := (orth_valid h1).1
    repeat (first | (first | refine sat_self ?_ | refine sat_need (by first | rfl | exact tt1 _ _ | exact tt5 _ _ | exact tt2 _ _ _ | exact tt4 _ _ _ | exact tt6 _ _ _ | exact tt7 _ _ | exact tt8 _ _ _ | exact tt9 _ _ _ | exact tt10 _ _ | exact tt11 _ _ _ | exact Bool.or_not_self _ | (simp; done) | (simp; omega)) ?_) | refine sat_need (need_bd hl rfl) ?_)
    refine sat_br (fun hk => ?_) (fun hk => ?_)
    · have hk : decide (refKing (tk zs) bl < 0) = true := hk
      rw [tk_eq, decide_eq_true_eq] at hk
      have e2 : pinnedR f r zs bl = (0, 9) := by
        rcases king_iff (bl := bl) h1 hl with ⟨_, e⟩ | ⟨_, e, _⟩
        · unfold pinnedR; rw [e]; rfl
        · have := (valid_lt e).1; omega
      rw [← tk_eq zs] at e2
      repeat (first | (first | refine sat_self ?_ | refine sat_need (by first | rfl | exact tt1 _ _ | exact tt5 _ _ | exact tt2 _ _ _ | exact tt4 _ _ _ | exact tt6 _ _ _ | exact tt7 _ _ | exact tt8 _ _ _ | exact tt9 _ _ _ | exact tt10 _ _ | exact tt11 _ _ _ | exact Bool.or_not_self _ | (simp; done) | (simp; omega)) ?_) | refine sat_need (need_bd hl rfl) ?_)
      refine sat_bf (by
        show (!decide ((pinnedR f r (tk zs) bl).1 = 0) || !decide ((pinnedR f r (tk zs) bl).2 = 9)) = false
        rw [e2]; rfl) ?_
      repeat (first | refine sat_self ?_ | refine sat_need (by first | rfl | exact tt1 _ _ | exact tt5 _ _ | exact tt2 _ _ _ | exact tt4 _ _ _ | exact tt6 _ _ _ | exact tt7 _ _ | exact tt8 _ _ _ | exact tt9 _ _ _ | exact tt10 _ _ | exact tt11 _ _ _ | exact Bool.or_not_self _ | (simp; done) | (simp; omega)) ?_)
      refine sat_br (fun hv1 => ?_) (fun hv1 => ?_)
      · have hv2 : validB f r at_ = false := by simpa using hv1
        have k3 := pin_bad (a := at_) (show (orthBd f r zs && validB f r at_) = false by rw [hv2]; exact Bool.and_false _)
        rw [← tk_eq zs] at k3
        repeat (first | refine sat_self ?_ | refine sat_need (by first | rfl | exact tt1 _ _ | exact tt5 _ _ | exact tt2 _ _ _ | exact tt4 _ _ _ | exact tt6 _ _ _ | exact tt7 _ _ | exact tt8 _ _ _ | exact tt9 _ _ _ | exact tt10 _ _ | exact tt11 _ _ _ | exact Bool.or_not_self _ | (simp; done) | (simp; omega)) ?_)
        refine sat_ret (fin_val (.inr rfl) rfl rfl rfl (congrArg V.bool ?_))
        exact two (congrArg Prod.fst k3) (congrArg Prod.snd k3)
      have hv2 : validB f r at_ = true := by simpa using hv1
      have hat := (sq_iff h1).1 hv2
      refine sat_need (by simp; omega) ?_
      repeat (first | (first | refine sat_self ?_ | refine sat_need (by first | rfl | exact tt1 _ _ | exact tt5 _ _ | exact tt2 _ _ _ | exact tt4 _ _ _ | exact tt6 _ _ _ | exact tt7 _ _ | exact tt8 _ _ _ | exact tt9 _ _ _ | exact tt10 _ _ | exact tt11 _ _ _ | exact Bool.or_not_self _ | (simp; done) | (simp; omega)) ?_) | refine sat_need (need_bd hl rfl) ?_ | refine sat_need (by rw [need_bd hl rfl]; exact Bool.or_true _) ?_ | refine sat_need (by rw [need_atv hl rfl hat.1 hat.2 hv]; exact Bool.or_true _) ?_)
      refine sat_br (fun hC => ?_) (fun hC => ?_)
      · have hC : (decide (zs.getD at_.toNat 0 = 0) || decide (refKing (tk zs) (decide (zs.getD at_.toNat 0 < 0)) < 0) || decide (pinnerR f r (tk zs) at_ < 0)) = true := hC
        rw [tk_eq] at hC
        have k3 := line_cases h1 hl hv2 hC
        rw [← tk_eq zs] at k3
        repeat (first | refine sat_self ?_ | refine sat_need (by first | rfl | exact tt1 _ _ | exact tt5 _ _ | exact tt2 _ _ _ | exact tt4 _ _ _ | exact tt6 _ _ _ | exact tt7 _ _ | exact tt8 _ _ _ | exact tt9 _ _ _ | exact tt10 _ _ | exact tt11 _ _ _ | exact Bool.or_not_self _ | (simp; done) | (simp; omega)) ?_)
        refine sat_ret (fin_val (.inr rfl) rfl rfl rfl (congrArg V.bool ?_))
        exact two (congrArg Prod.fst k3) (congrArg Prod.snd k3)
      have hC : (decide (zs.getD at_.toNat 0 = 0) || decide (refKing (tk zs) (decide (zs.getD at_.toNat 0 < 0)) < 0) || decide (pinnerR f r (tk zs) at_ < 0)) = false := hC
      rw [tk_eq] at hC
      have k3 := line_cases h1 hl hv2 hC
      have hll : (lineL f r (tk zs) at_).length ≤ 64 := by have := filtB_len (lineC f r (tk zs) at_) id (tk zs).length; rw [tk_len] at this; unfold lineL; rw [tk_len]; omega
      repeat (first | (first | refine sat_self ?_ | refine sat_need (by first | rfl | exact tt1 _ _ | exact tt5 _ _ | exact tt2 _ _ _ | exact tt4 _ _ _ | exact tt6 _ _ _ | exact tt7 _ _ | exact tt8 _ _ _ | exact tt9 _ _ _ | exact tt10 _ _ | exact tt11 _ _ _ | exact Bool.or_not_self _ | (simp; done) | (simp; omega)) ?_) | refine sat_need (need_atv hl rfl hat.1 hat.2 hv) ?_)
      refine sat_need (need_ofl (tk_eq (lineL f r (tk zs) at_)) (by omega) (fun x hx => (mem_filtB.1 hx).1) rfl) ?_
      repeat (first | refine sat_self ?_ | refine sat_need (by first | rfl | exact tt1 _ _ | exact tt5 _ _ | exact tt2 _ _ _ | exact tt4 _ _ _ | exact tt6 _ _ _ | exact tt7 _ _ | exact tt8 _ _ _ | exact tt9 _ _ _ | exact tt10 _ _ | exact tt11 _ _ _ | exact Bool.or_not_self _ | (simp; done) | (simp; omega)) ?_)
      refine sat_ret (fin_val (.inr rfl) rfl rfl rfl (congrArg V.bool ?_))
      show (decide ((pinLineR f r (tk zs) at_).1 = ofL (tk (lineL f r (tk zs) at_)) 0) && decide ((pinLineR f r (tk zs) at_).2 = 0) && true) = true
      simp only [tk_eq]
      exact two (congrArg Prod.fst k3) (congrArg Prod.snd k3)
    have hk : decide (refKing (tk zs) bl < 0) = false := hk
    rw [tk_eq, decide_eq_false_iff_not] at hk
    have e2 : ofL (pinnedL f r zs bl) 0 = (pinnedR f r zs bl).1 ∧ (pinnedR f r zs bl).2 = 0 := by
      rcases king_iff (bl := bl) h1 hl with ⟨e, _⟩ | ⟨e, ev, _⟩
      · exact absurd e hk
      · exact pinned_of h1 hl e ev
    have hal : (pinnedL f r (tk zs) bl).length ≤ 64 := by have := Nat.le_trans (List.length_filter_le (pinC4 f r (tk zs)) (sideL (tk zs) (sdI bl))) (sideL_len _ _); rw [tk_len] at this; unfold pinnedL; omega
    repeat (first | (first | refine sat_self ?_ | refine sat_need (by first | rfl | exact tt1 _ _ | exact tt5 _ _ | exact tt2 _ _ _ | exact tt4 _ _ _ | exact tt6 _ _ _ | exact tt7 _ _ | exact tt8 _ _ _ | exact tt9 _ _ _ | exact tt10 _ _ | exact tt11 _ _ _ | exact Bool.or_not_self _ | (simp; done) | (simp; omega)) ?_) | refine sat_need (need_bdv hl rfl hv) ?_)
    refine sat_need (need_ofl (tk_eq (pinnedL f r (tk zs) bl)) (by omega) (fun x hx => (mem_sideL.1 (List.mem_filter.1 hx).1).1) rfl) ?_
    repeat (first | (first | refine sat_self ?_ | refine sat_need (by first | rfl | exact tt1 _ _ | exact tt5 _ _ | exact tt2 _ _ _ | exact tt4 _ _ _ | exact tt6 _ _ _ | exact tt7 _ _ | exact tt8 _ _ _ | exact tt9 _ _ _ | exact tt10 _ _ | exact tt11 _ _ _ | exact Bool.or_not_self _ | (simp; done) | (simp; omega)) ?_) | refine sat_need (need_bd hl rfl) ?_)
    refine sat_bf (by
      show (!decide ((pinnedR f r (tk zs) bl).1 = ofL (tk (pinnedL f r (tk zs) bl)) 0) || !decide ((pinnedR f r (tk zs) bl).2 = 0)) = false
      simp only [tk_eq]
      rw [e2.1, e2.2]; simp) ?_
    repeat (first | refine sat_self ?_ | refine sat_need (by first | rfl | exact tt1 _ _ | exact tt5 _ _ | exact tt2 _ _ _ | exact tt4 _ _ _ | exact tt6 _ _ _ | exact tt7 _ _ | exact tt8 _ _ _ | exact tt9 _ _ _ | exact tt10 _ _ | exact tt11 _ _ _ | exact Bool.or_not_self _ | (simp; done) | (simp; omega)) ?_)
    refine sat_br (fun hv1 => ?_) (fun hv1 => ?_)
    · have hv2 : validB f r at_ = false := by simpa using hv1
      have k3 := pin_bad (a := at_) (show (orthBd f r zs && validB f r at_) = false by rw [hv2]; exact Bool.and_false _)
      rw [← tk_eq zs] at k3
      repeat (first | refine sat_self ?_ | refine sat_need (by first | rfl | exact tt1 _ _ | exact tt5 _ _ | exact tt2 _ _ _ | exact tt4 _ _ _ | exact tt6 _ _ _ | exact tt7 _ _ | exact tt8 _ _ _ | exact tt9 _ _ _ | exact tt10 _ _ | exact tt11 _ _ _ | exact Bool.or_not_self _ | (simp; done) | (simp; omega)) ?_)
      refine sat_ret (fin_val (.inr rfl) rfl rfl rfl (congrArg V.bool ?_))
      exact two (congrArg Prod.fst k3) (congrArg Prod.snd k3)
    have hv2 : validB f r at_ = true := by simpa using hv1
    have hat := (sq_iff h1).1 hv2
    refine sat_need (by simp; omega) ?_
    repeat (first | (first | refine sat_self ?_ | refine sat_need (by first | rfl | exact tt1 _ _ | exact tt5 _ _ | exact tt2 _ _ _ | exact tt4 _ _ _ | exact tt6 _ _ _ | exact tt7 _ _ | exact tt8 _ _ _ | exact tt9 _ _ _ | exact tt10 _ _ | exact tt11 _ _ _ | exact Bool.or_not_self _ | (simp; done) | (simp; omega)) ?_) | refine sat_need (need_bd hl rfl) ?_ | refine sat_need (by rw [need_bd hl rfl]; exact Bool.or_true _) ?_ | refine sat_need (by rw [need_atv hl rfl hat.1 hat.2 hv]; exact Bool.or_true _) ?_)
    refine sat_br (fun hC => ?_) (fun hC => ?_)
    · have hC : (decide (zs.getD at_.toNat 0 = 0) || decide (refKing (tk zs) (decide (zs.getD at_.toNat 0 < 0)) < 0) || decide (pinnerR f r (tk zs) at_ < 0)) = true := hC
      rw [tk_eq] at hC
      have k3 := line_cases h1 hl hv2 hC
      rw [← tk_eq zs] at k3
      repeat (first | refine sat_self ?_ | refine sat_need (by first | rfl | exact tt1 _ _ | exact tt5 _ _ | exact tt2 _ _ _ | exact tt4 _ _ _ | exact tt6 _ _ _ | exact tt7 _ _ | exact tt8 _ _ _ | exact tt9 _ _ _ | exact tt10 _ _ | exact tt11 _ _ _ | exact Bool.or_not_self _ | (simp; done) | (simp; omega)) ?_)
      refine sat_ret (fin_val (.inr rfl) rfl rfl rfl (congrArg V.bool ?_))
      exact two (congrArg Prod.fst k3) (congrArg Prod.snd k3)
    have hC : (decide (zs.getD at_.toNat 0 = 0) || decide (refKing (tk zs) (decide (zs.getD at_.toNat 0 < 0)) < 0) || decide (pinnerR f r (tk zs) at_ < 0)) = false := hC
    rw [tk_eq] at hC
    have k3 := line_cases h1 hl hv2 hC
    have hll : (lineL f r (tk zs) at_).length ≤ 64 := by have := filtB_len (lineC f r (tk zs) at_) id (tk zs).length; rw [tk_len] at this; unfold lineL; rw [tk_len]; omega
    repeat (first | (first | refine sat_self ?_ | refine sat_need (by first | rfl | exact tt1 _ _ | exact tt5 _ _ | exact tt2 _ _ _ | exact tt4 _ _ _ | exact tt6 _ _ _ | exact tt7 _ _ | exact tt8 _ _ _ | exact tt9 _ _ _ | exact tt10 _ _ | exact tt11 _ _ _ | exact Bool.or_not_self _ | (simp; done) | (simp; omega)) ?_) | refine sat_need (need_atv hl rfl hat.1 hat.2 hv) ?_)
    refine sat_need (need_ofl (tk_eq (lineL f r (tk zs) at_)) (by omega) (fun x hx => (mem_filtB.1 hx).1) rfl) ?_
    repeat (first | refine sat_self ?_ | refine sat_need (by first | rfl | exact tt1 _ _ | exact tt5 _ _ | exact tt2 _ _ _ | exact tt4 _ _ _ | exact tt6 _ _ _ | exact tt7 _ _ | exact tt8 _ _ _ | exact tt9 _ _ _ | exact tt10 _ _ | exact tt11 _ _ _ | exact Bool.or_not_self _ | (simp; done) | (simp; omega)) ?_)
    refine sat_ret (fin_val (.inr rfl) rfl rfl rfl (congrArg V.bool ?_))
    show (decide ((pinLineR f r (tk zs) at_).1 = ofL (tk (lineL f r (tk zs) at_)) 0) && decide ((pinLineR f r (tk zs) at_).2 = 0) && true) = true
    simp only [tk_eq]
    exact two (congrArg Prod.fst k3) (congrArg Prod.snd k3)
  · cases e

end Go.Ab
