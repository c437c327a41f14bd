/- Contracts of the functions that the laws reach, or plain laws of what they compute (part X3); no condition. -/
import Derived.Test.YtjckbgodcefogaaDoorX2
namespace Go.Ab
open Go.Proofs
def leapSq (f r x y : Int) (row : List Int) : Int × Int := atR f r (IntKind.i64.wrap (x + row.getD 0 0)) (IntKind.i64.wrap (y + row.getD 1 0))
def leapStep (f r x y set : Int) (row : List Int) : Int := bif decide ((leapSq f r x y row).2 = 0) then uor set (ushl 1 (leapSq f r x y row).1) else set
def leapR (f r n : Int) (rs : List (List Int)) : Int := rs.foldl (leapStep f r (placeR f r n).1 (placeR f r n).2.1) 0
theorem at_pos {f r x y : Int} (h : (atR f r x y).2 = 0) : 0 ≤ (atR f r x y).1 ∧ (atR f r x y).1 < 64 ∧ vsB f r = true ∧ onB f r x y = true ∧ (atR f r x y).1 = x + y * f := by
  unfold atR at h ⊢
  cases h1 : vsB f r
  · simp [h1] at h
  · cases h2 : onB f r x y
    · simp [h1, h2] at h
    · simp only [cond_true]
      obtain ⟨a1, a2, a3, a4⟩ := vs_bd h1
      simp only [onB, Bool.and_eq_true, decide_eq_true_eq] at h2
      obtain ⟨⟨⟨b1, b2⟩, b3⟩, b4⟩ := h2
      have hm := mul_bd h1
      have e1 : 0 ≤ y * f := Int.mul_nonneg b3 (by omega)
      have e2 : (y + 1) * f ≤ r * f := Int.mul_le_mul_of_nonneg_right (by omega) (by omega)
      rw [Int.add_mul, Int.mul_comm r f] at e2
      have e3 : IntKind.i64.wrap (y * f) = y * f := w64_id (by omega) (by omega)
      have e4 : IntKind.i64.wrap (x + y * f) = x + y * f := w64_id (by omega) (by omega)
      rw [e3, e4]
      refine ⟨by omega, by omega, ?_, ?_, ?_⟩ <;> first | rfl | trivial
theorem take_step {α β : Type} (l : List α) (d : α) (f : β → α → β) (b : β) {k : Nat} (h : k < l.length) : (l.take (k + 1)).foldl f b = f ((l.take k).foldl f b) (l.getD k d) := by
  rw [List.take_succ_eq_append_getElem h, List.foldl_append]
  simp [List.getD, h]
def c_leap : CF
  | [.agg [.int .i64 f, .int .i64 r], .int .i64 n, .sl 0 0 len none], [.rows false [.i64, .i64] rs] => some (decide (len = rs.length) && decide (rs.length ≤ 1000000), .int .u64 (leapR f r n rs), [])
  | _, _ => none
theorem c_leap_ok : CtOk GG PP (60, c_leap) := by
  refine ct_mk Tryd.func60 (by kernel_rfl) rfl fun a0 h0 c0 v0 N0 e hc => ?_
  unfold c_leap at e
  split at e
  · rename_i f r n len rs
    cases e
    have hE := EE_ok (cts := [(51, c_at), (50, c_place)]) (inl := []) ⟨c_at_ok, c_place_ok, trivial⟩ trivial
    refine fn_sound hE 2 Tryd.func60 rfl rfl ?_
    simp only [Bool.and_eq_true, decide_eq_true_eq] at hc
    obtain ⟨hc1, hc2⟩ := hc
    subst hc1
    repeat (first | refine sat_self ?_ | refine sat_need (by first | rfl | exact tt1 _ _ | exact tt5 _ _ | exact tt2 _ _ _ | exact tt4 _ _ _ | exact tt6 _ _ _ | exact tt7 _ _ | exact tt8 _ _ _ | exact tt9 _ _ _ | (simp; done) | (simp; omega)) ?_)
    refine sat_for hE 2 (fun a : Int × Int => ([(3, .ptr 1 0 0), (7, I (placeR f r n).1), (8, I (placeR f r n).2.1), (10, U a.2), (22, .sl 0 0 rs.length none), (23, I rs.length), (24, I a.1)], [.rows false [.i64, .i64] rs, .cells true [I f, I r]]))
      (fun a => ∃ k : Nat, k ≤ rs.length ∧ a.1 = k ∧ a.2 = (rs.take k).foldl (leapStep f r (placeR f r n).1 (placeR f r n).2.1) 0) (fun a => rs.length - a.1.toNat) (0, 0)
      (Ent.ren [0, 1] [3, 7, 8, 10, 22, 23, 24] rfl rfl rfl) ⟨0, Nat.zero_le _, rfl, rfl⟩ ?_
    rintro ⟨i, set⟩ ⟨k, hk, h1, h2⟩
    dsimp only at h1 h2 ⊢
    refine sat_br (fun hlt => ?_) (fun hlt => ?_)
    · simp only [decide_eq_true_eq] at hlt
      have hki : i.toNat = k := by omega
      refine sat_need (by simp; omega) ?_
      repeat (first | refine sat_self ?_ | refine sat_need (by first | rfl | exact tt1 _ _ | exact tt5 _ _ | exact tt2 _ _ _ | exact tt4 _ _ _ | exact tt6 _ _ _ | exact tt7 _ _ | exact tt8 _ _ _ | exact tt9 _ _ _ | (simp; done) | (simp; omega)) ?_)
      have hstep := take_step rs [] (leapStep f r (placeR f r n).1 (placeR f r n).2.1) 0 (show k < rs.length by omega)
      rw [← h2, ← hki] at hstep
      have hnext : IntKind.i64.wrap (i + 1) = ((k + 1 : Nat) : Int) := by rw [w64_id (by omega) (by omega)]; omega
      refine sat_br (fun hon => ?_) (fun hon => ?_)
      · have hon' : decide ((leapSq f r (placeR f r n).1 (placeR f r n).2.1 (rs.getD i.toNat [])).2 = 0) = true := hon
        refine sat_need (by have := (at_pos (of_decide_eq_true hon)).1; exact decide_eq_true this) ?_
        refine sat_ret ⟨(_, _), ⟨k + 1, by omega, hnext, ?_⟩, ?_, Ent.ren [0, 1] [3, 7, 8, 10, 22, 23, 24] rfl rfl rfl⟩
        · rw [← hki, hstep, leapStep, hon']; rfl
        · show _ - (IntKind.i64.wrap (i + 1)).toNat < _
          rw [hnext]; omega
      · have hon' : decide ((leapSq f r (placeR f r n).1 (placeR f r n).2.1 (rs.getD i.toNat [])).2 = 0) = false := hon
        refine sat_ret ⟨(_, _), ⟨k + 1, by omega, hnext, ?_⟩, ?_, Ent.ren [0, 1] [3, 7, 8, 10, 22, 23, 24] rfl rfl rfl⟩
        · rw [← hki, hstep, leapStep, hon']; rfl
        · show _ - (IntKind.i64.wrap (i + 1)).toNat < _
          rw [hnext]; omega
    · simp only [decide_eq_false_iff_not] at hlt
      obtain rfl : k = rs.length := by omega
      rw [List.take_length] at h2
      refine sat_ret (sat_ret (fin_val (.inr rfl) rfl rfl rfl (by rw [h2]; rfl)))
  · cases e

end Go.Ab
