/- Contracts of the functions that the laws reach, or plain laws of what they compute (part X6); no condition. -/
import Derived.Test.YtjckbgodcefogaaDoorX5
namespace Go.Ab
open Go.Proofs
def reachR (f r kd n occ : Int) : Int × Int :=
  bif rayOn f r n occ then
    (bif decide (kd = 2) then (leapR f r n leapsT, 0) else bif decide (kd = 3) then (slideR f r n occ diagT, 0) else bif decide (kd = 4) then (slideR f r n occ straT, 0)
     else bif decide (kd = 5) then (uor (slideR f r n occ diagT) (slideR f r n occ straT), 0) else bif decide (kd = 6) then (uor (leapR f r n diagT) (leapR f r n straT), 0) else (0, 2))
  else (0, 2)
def pawnR (f r : Int) (bl : Bool) (n : Int) : Int × Int := bif validB f r n then (leapR f r n [[-1, fwd bl], [1, fwd bl]], 0) else (0, 2)
def one1 (f r : Int) (bl : Bool) (n occ : Int) : Int := uandn (leapR f r n [[0, fwd bl]]) occ
def stepsC (f r : Int) (bl : Bool) (n occ : Int) : Bool := decide (one1 f r bl n occ = 0) || decide (r < 6) || !decide (IntKind.i64.wrap (n.tdiv f) = bif bl then IntKind.i64.wrap (r - 2) else 1)
def stepsR (f r : Int) (bl : Bool) (n occ : Int) : Int × Int :=
  bif rayOn f r n occ then
    (bif stepsC f r bl n occ then (one1 f r bl n occ, 0)
     else (uor (one1 f r bl n occ) (uandn (leapR f r n [[0, IntKind.i64.wrap (2 * fwd bl)]]) occ), 0))
  else (0, 2)
def c_reach : CF
  | [.agg [.int .i64 f, .int .i64 r], .int .i8 kd, .int .i64 n, .int .u64 occ], [] => some (true, .tup [U (reachR f r kd n occ).1, I (reachR f r kd n occ).2], [])
  | _, _ => none
theorem c_reach_ok : CtOk GG PP (22, c_reach) := by
  refine ct_mk Tryd.func22 (by kernel_rfl) rfl fun a0 h0 c0 v0 N0 e hc => ?_
  unfold c_reach at e
  split at e
  · rename_i f r kd n occ
    cases e
    have hE := EE_ok (cts := [(59, c_rayon), (60, c_leap), (61, c_slide)]) (inl := []) ⟨c_rayon_ok, c_leap_ok, c_slide_ok, trivial⟩ trivial
    refine fn_sound hE 2 Tryd.func22 rfl rfl ?_
    repeat (first | refine sat_self ?_ | refine sat_need (by first | rfl | exact tt1 _ _ | exact tt5 _ _ | exact tt2 _ _ _ | exact tt4 _ _ _ | exact tt6 _ _ _ | exact tt7 _ _ | exact tt8 _ _ _ | exact tt9 _ _ _ | (simp; done) | (simp; omega)) ?_)
    refine sat_br (fun h1 => ?_) (fun h1 => ?_)
    · have h1 : rayOn f r n occ = false := by simpa using h1
      exact sat_ret (fin_val (.inr rfl) rfl rfl rfl (by rw [reachR, h1]; rfl))
    have h1 : rayOn f r n occ = true := by simpa using h1
    refine sat_br (fun h2 => ?_) (fun h2 => ?_)
    · repeat (first | refine sat_self ?_ | refine sat_need (by first | rfl | exact tt1 _ _ | exact tt5 _ _ | exact tt2 _ _ _ | exact tt4 _ _ _ | exact tt6 _ _ _ | exact tt7 _ _ | exact tt8 _ _ _ | exact tt9 _ _ _ | (simp; done) | (simp; omega)) ?_)
      exact sat_ret (fin_val (.inr rfl) rfl rfl rfl (by rw [reachR, h1, cond_true, h2]; rfl))
    refine sat_br (fun h3 => ?_) (fun h3 => ?_)
    · repeat (first | refine sat_self ?_ | refine sat_need (by first | rfl | exact tt1 _ _ | exact tt5 _ _ | exact tt2 _ _ _ | exact tt4 _ _ _ | exact tt6 _ _ _ | exact tt7 _ _ | exact tt8 _ _ _ | exact tt9 _ _ _ | (simp; done) | (simp; omega)) ?_)
      exact sat_ret (fin_val (.inr rfl) rfl rfl rfl (by rw [reachR, h1, cond_true, h2, h3]; rfl))
    refine sat_br (fun h4 => ?_) (fun h4 => ?_)
    · repeat (first | refine sat_self ?_ | refine sat_need (by first | rfl | exact tt1 _ _ | exact tt5 _ _ | exact tt2 _ _ _ | exact tt4 _ _ _ | exact tt6 _ _ _ | exact tt7 _ _ | exact tt8 _ _ _ | exact tt9 _ _ _ | (simp; done) | (simp; omega)) ?_)
      exact sat_ret (fin_val (.inr rfl) rfl rfl rfl (by rw [reachR, h1, cond_true, h2, h3, h4]; rfl))
    refine sat_br (fun h5 => ?_) (fun h5 => ?_)
    · repeat (first | refine sat_self ?_ | refine sat_need (by first | rfl | exact tt1 _ _ | exact tt5 _ _ | exact tt2 _ _ _ | exact tt4 _ _ _ | exact tt6 _ _ _ | exact tt7 _ _ | exact tt8 _ _ _ | exact tt9 _ _ _ | (simp; done) | (simp; omega)) ?_)
      exact sat_ret (fin_val (.inr rfl) rfl rfl rfl (by rw [reachR, h1, cond_true, h2, h3, h4, h5]; rfl))
    refine sat_br (fun h6 => ?_) (fun h6 => ?_)
    · repeat (first | refine sat_self ?_ | refine sat_need (by first | rfl | exact tt1 _ _ | exact tt5 _ _ | exact tt2 _ _ _ | exact tt4 _ _ _ | exact tt6 _ _ _ | exact tt7 _ _ | exact tt8 _ _ _ | exact tt9 _ _ _ | (simp; done) | (simp; omega)) ?_)
      exact sat_ret (fin_val (.inr rfl) rfl rfl rfl (by rw [reachR, h1, cond_true, h2, h3, h4, h5, h6]; rfl))
    exact sat_ret (fin_val (.inr rfl) rfl rfl rfl (by rw [reachR, h1, cond_true, h2, h3, h4, h5, h6]; rfl))
  · cases e

def c_pawn : CF
  | [.agg [.int .i64 f, .int .i64 r], .bool bl, .int .i64 n], [] => some (true, .tup [U (pawnR f r bl n).1, I (pawnR f r bl n).2], [])
  | _, _ => none
theorem c_pawn_ok : CtOk GG PP (25, c_pawn) := by
  refine ct_mk Tryd.func25 (by kernel_rfl) rfl fun a0 h0 c0 v0 N0 e hc => ?_
  unfold c_pawn at e
  split at e
  · rename_i f r bl n
    cases e
    have hE := EE_ok (cts := [(63, c_valid), (64, c_forward), (60, c_leap)]) (inl := []) ⟨c_valid_ok, c_forward_ok, c_leap_ok, trivial⟩ trivial
    refine fn_sound hE 2 Tryd.func25 rfl rfl ?_
    repeat (first | refine sat_self ?_ | refine sat_need (by first | rfl | exact tt1 _ _ | exact tt5 _ _ | exact tt2 _ _ _ | exact tt4 _ _ _ | exact tt6 _ _ _ | exact tt7 _ _ | exact tt8 _ _ _ | exact tt9 _ _ _ | (simp; done) | (simp; omega)) ?_)
    refine sat_br (fun h1 => ?_) (fun h1 => ?_)
    · have h1 : validB f r n = false := by simpa using h1
      exact sat_ret (fin_val (.inr rfl) rfl rfl rfl (by rw [pawnR, h1]; rfl))
    have h1 : validB f r n = true := by simpa using h1
    repeat (first | refine sat_self ?_ | refine sat_need (by first | rfl | exact tt1 _ _ | exact tt5 _ _ | exact tt2 _ _ _ | exact tt4 _ _ _ | exact tt6 _ _ _ | exact tt7 _ _ | exact tt8 _ _ _ | exact tt9 _ _ _ | (simp; done) | (simp; omega)) ?_)
    exact sat_ret (fin_val (.inr rfl) rfl rfl rfl (by rw [pawnR, h1]; rfl))
  · cases e

def c_steps : CF
  | [.agg [.int .i64 f, .int .i64 r], .bool bl, .int .i64 n, .int .u64 occ], [] => some (true, .tup [U (stepsR f r bl n occ).1, I (stepsR f r bl n occ).2], [])
  | _, _ => none
theorem c_steps_ok : CtOk GG PP (26, c_steps) := by
  refine ct_mk Tryd.func26 (by kernel_rfl) rfl fun a0 h0 c0 v0 N0 e hc => ?_
  unfold c_steps at e
  split at e
  · rename_i f r bl n occ
    cases e
    have hE := EE_ok (cts := [(59, c_rayon), (60, c_leap), (64, c_forward)]) (inl := []) ⟨c_rayon_ok, c_leap_ok, c_forward_ok, trivial⟩ trivial
    refine fn_sound hE 2 Tryd.func26 rfl rfl ?_
    repeat (first | refine sat_self ?_ | refine sat_need (by first | rfl | exact tt1 _ _ | exact tt5 _ _ | exact tt2 _ _ _ | exact tt4 _ _ _ | exact tt6 _ _ _ | exact tt7 _ _ | exact tt8 _ _ _ | exact tt9 _ _ _ | (simp; done) | (simp; omega)) ?_)
    refine sat_br (fun h1 => ?_) (fun h1 => ?_)
    · have h1 : rayOn f r n occ = false := by simpa using h1
      exact sat_ret (fin_val (.inr rfl) rfl rfl rfl (by rw [stepsR, h1]; rfl))
    have h1 : rayOn f r n occ = true := by simpa using h1
    have hv : validB f r n = true := by simp only [rayOn, Bool.and_eq_true] at h1; exact h1.1
    have hf := vs_bd (valid_vs hv)
    repeat (first | refine sat_self ?_ | refine sat_need (by first | rfl | exact tt1 _ _ | exact tt5 _ _ | exact tt2 _ _ _ | exact tt4 _ _ _ | exact tt6 _ _ _ | exact tt7 _ _ | exact tt8 _ _ _ | exact tt9 _ _ _ | (simp; done) | (simp; omega)) ?_)
    refine sat_br (fun h2 => ?_) (fun h2 => ?_)
    · subst h2
      repeat (first | refine sat_self ?_ | refine sat_need (by first | rfl | exact tt1 _ _ | exact tt5 _ _ | exact tt2 _ _ _ | exact tt4 _ _ _ | exact tt6 _ _ _ | exact tt7 _ _ | exact tt8 _ _ _ | exact tt9 _ _ _ | (simp; done) | (simp; omega)) ?_)
      refine sat_br (fun h3 => ?_) (fun h3 => ?_)
      · have h3 : stepsC f r true n occ = true := h3
        exact sat_ret (fin_val (.inr rfl) rfl rfl rfl (by rw [stepsR, h1, cond_true, h3]; rfl))
      · have h3 : stepsC f r true n occ = false := h3
        repeat (first | refine sat_self ?_ | refine sat_need (by first | rfl | exact tt1 _ _ | exact tt5 _ _ | exact tt2 _ _ _ | exact tt4 _ _ _ | exact tt6 _ _ _ | exact tt7 _ _ | exact tt8 _ _ _ | exact tt9 _ _ _ | (simp; done) | (simp; omega)) ?_)
        exact sat_ret (fin_val (.inr rfl) rfl rfl rfl (by rw [stepsR, h1, cond_true, h3]; rfl))
    · subst h2
      repeat (first | refine sat_self ?_ | refine sat_need (by first | rfl | exact tt1 _ _ | exact tt5 _ _ | exact tt2 _ _ _ | exact tt4 _ _ _ | exact tt6 _ _ _ | exact tt7 _ _ | exact tt8 _ _ _ | exact tt9 _ _ _ | (simp; done) | (simp; omega)) ?_)
      refine sat_br (fun h3 => ?_) (fun h3 => ?_)
      · have h3 : stepsC f r false n occ = true := h3
        exact sat_ret (fin_val (.inr rfl) rfl rfl rfl (by rw [stepsR, h1, cond_true, h3]; rfl))
      · have h3 : stepsC f r false n occ = false := h3
        repeat (first | refine sat_self ?_ | refine sat_need (by first | rfl | exact tt1 _ _ | exact tt5 _ _ | exact tt2 _ _ _ | exact tt4 _ _ _ | exact tt6 _ _ _ | exact tt7 _ _ | exact tt8 _ _ _ | exact tt9 _ _ _ | (simp; done) | (simp; omega)) ?_)
        exact sat_ret (fin_val (.inr rfl) rfl rfl rfl (by rw [stepsR, h1, cond_true, h3]; rfl))
  · cases e

end Go.Ab
