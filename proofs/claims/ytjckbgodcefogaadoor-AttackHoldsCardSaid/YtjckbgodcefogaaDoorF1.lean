/- Contracts of the functions that the laws reach, and plain laws of what they compute (text F1); no condition. -/
import Derived.Test.YtjckbgodcefogaaDoorS1
import Derived.Test.YtjckbgodcefogaaDoorE3
namespace Go.Ab
open Go.Proofs
/-! ### square -/
def sideB (n : Int) : Bool := decide (3 ≤ n) && decide (n ≤ 8)
def vsB (f r : Int) : Bool := sideB f && sideB r
def onB (f r x y : Int) : Bool := decide (0 ≤ x) && decide (x < f) && decide (0 ≤ y) && decide (y < r)
def validB (f r n : Int) : Bool := vsB f r && decide (0 ≤ n) && decide (n < IntKind.i64.wrap (f * r))
def atR (f r x y : Int) : Int × Int := bif vsB f r then (bif onB f r x y then (IntKind.i64.wrap (x + IntKind.i64.wrap (y * f)), 0) else (0, 3)) else (0, 2)
def placeR (f r n : Int) : Int × Int × Int := bif validB f r n then (n.tmod f, IntKind.i64.wrap (n.tdiv f), 0) else (0, 0, 2)
def c_side : CF
  | [.int .i64 n], [] => some (true, .bool (sideB n), [])
  | _, _ => none
theorem c_side_ok : CtOk GG PP (104, c_side) := by
  refine ct_mk Tryd.func104 (by kernel_rfl) rfl fun a0 h0 c0 v0 N0 e hc => ?_
  unfold c_side at e
  split at e
  · rename_i n
    cases e
    have hE := EE_ok (cts := []) (inl := []) trivial trivial
    refine fn_sound hE 2 Tryd.func104 rfl rfl ?_
    repeat (first | refine sat_self ?_ | refine sat_need (by first | rfl | exact tt1 _ _ | exact tt5 _ _ | exact tt2 _ _ _ | exact tt4 _ _ _ | exact tt6 _ _ _ | exact tt7 _ _ | exact tt8 _ _ _ | exact tt9 _ _ _ | (simp; done) | (simp; omega)) ?_)
    exact sat_ret (fin_val (.inr rfl) rfl rfl rfl rfl)
  · cases e

def c_vs : CF
  | [.agg [.int .i64 f, .int .i64 r]], [] => some (true, .bool (vsB f r), [])
  | _, _ => none
theorem c_vs_ok : CtOk GG PP (89, c_vs) := by
  refine ct_mk Tryd.func89 (by kernel_rfl) rfl fun a0 h0 c0 v0 N0 e hc => ?_
  unfold c_vs at e
  split at e
  · rename_i f r
    cases e
    have hE := EE_ok (cts := [(104, c_side)]) (inl := []) ⟨c_side_ok, trivial⟩ trivial
    refine fn_sound hE 2 Tryd.func89 rfl rfl ?_
    repeat (first | refine sat_self ?_ | refine sat_need (by first | rfl | exact tt1 _ _ | exact tt5 _ _ | exact tt2 _ _ _ | exact tt4 _ _ _ | exact tt6 _ _ _ | exact tt7 _ _ | exact tt8 _ _ _ | exact tt9 _ _ _ | (simp; done) | (simp; omega)) ?_)
    exact sat_ret (fin_val (.inr rfl) rfl rfl rfl rfl)
  · cases e

def c_on : CF
  | [.agg [.int .i64 f, .int .i64 r], .int .i64 x, .int .i64 y], [] => some (true, .bool (onB f r x y), [])
  | _, _ => none
theorem c_on_ok : CtOk GG PP (90, c_on) := by
  refine ct_mk Tryd.func90 (by kernel_rfl) rfl fun a0 h0 c0 v0 N0 e hc => ?_
  unfold c_on at e
  split at e
  · rename_i f r x y
    cases e
    have hE := EE_ok (cts := []) (inl := []) trivial trivial
    refine fn_sound hE 2 Tryd.func90 rfl rfl ?_
    repeat (first | refine sat_self ?_ | refine sat_need (by first | rfl | exact tt1 _ _ | exact tt5 _ _ | exact tt2 _ _ _ | exact tt4 _ _ _ | exact tt6 _ _ _ | exact tt7 _ _ | exact tt8 _ _ _ | exact tt9 _ _ _ | (simp; done) | (simp; omega)) ?_)
    exact sat_ret (fin_val (.inr rfl) rfl rfl rfl rfl)
  · cases e

def c_valid : CF
  | [.agg [.int .i64 f, .int .i64 r], .int .i64 n], [] => some (true, .bool (validB f r n), [])
  | _, _ => none
theorem c_valid_ok : CtOk GG PP (63, c_valid) := by
  refine ct_mk Tryd.func63 (by kernel_rfl) rfl fun a0 h0 c0 v0 N0 e hc => ?_
  unfold c_valid at e
  split at e
  · rename_i f r n
    cases e
    have hE := EE_ok (cts := [(89, c_vs)]) (inl := []) ⟨c_vs_ok, trivial⟩ trivial
    refine fn_sound hE 2 Tryd.func63 rfl rfl ?_
    repeat (first | refine sat_self ?_ | refine sat_need (by first | rfl | exact tt1 _ _ | exact tt5 _ _ | exact tt2 _ _ _ | exact tt4 _ _ _ | exact tt6 _ _ _ | exact tt7 _ _ | exact tt8 _ _ _ | exact tt9 _ _ _ | (simp; done) | (simp; omega)) ?_)
    exact sat_ret (fin_val (.inr rfl) rfl rfl rfl rfl)
  · cases e

def c_at : CF
  | [.agg [.int .i64 f, .int .i64 r], .int .i64 x, .int .i64 y], [] => some (true, .tup [I (atR f r x y).1, I (atR f r x y).2], [])
  | _, _ => none
theorem c_at_ok : CtOk GG PP (51, c_at) := by
  refine ct_mk Tryd.func51 (by kernel_rfl) rfl fun a0 h0 c0 v0 N0 e hc => ?_
  unfold c_at at e
  split at e
  · rename_i f r x y
    cases e
    have hE := EE_ok (cts := [(89, c_vs), (90, c_on)]) (inl := []) ⟨c_vs_ok, c_on_ok, trivial⟩ trivial
    refine fn_sound hE 2 Tryd.func51 rfl rfl ?_
    repeat (first | refine sat_self ?_ | refine sat_need (by first | rfl | exact tt1 _ _ | exact tt5 _ _ | exact tt2 _ _ _ | exact tt4 _ _ _ | exact tt6 _ _ _ | exact tt7 _ _ | exact tt8 _ _ _ | exact tt9 _ _ _ | (simp; done) | (simp; omega)) ?_)
    refine sat_br (fun h1 => ?_) (fun h1 => ?_)
    · exact sat_ret (fin_val (.inr rfl) rfl rfl rfl (by simp_all [atR]))
    · repeat (first | refine sat_self ?_ | refine sat_need (by first | rfl | exact tt1 _ _ | exact tt5 _ _ | exact tt2 _ _ _ | exact tt4 _ _ _ | exact tt6 _ _ _ | exact tt7 _ _ | exact tt8 _ _ _ | exact tt9 _ _ _ | (simp; done) | (simp; omega)) ?_)
      refine sat_br (fun h2 => ?_) (fun h2 => ?_)
      · exact sat_ret (fin_val (.inr rfl) rfl rfl rfl (by simp_all [atR]))
      · exact sat_ret (fin_val (.inr rfl) rfl rfl rfl (by simp_all [atR]))
  · cases e

theorem vs_bd {f r : Int} (h : vsB f r = true) : 3 ≤ f ∧ f ≤ 8 ∧ 3 ≤ r ∧ r ≤ 8 := by
  simp [vsB, sideB] at h; omega
theorem valid_vs {f r n : Int} (h : validB f r n = true) : vsB f r = true := by
  simp only [validB, Bool.and_eq_true] at h; exact h.1.1
def c_place : CF
  | [.agg [.int .i64 f, .int .i64 r], .int .i64 n], [] => some (true, .tup [I (placeR f r n).1, I (placeR f r n).2.1, I (placeR f r n).2.2], [])
  | _, _ => none
theorem c_place_ok : CtOk GG PP (50, c_place) := by
  refine ct_mk Tryd.func50 (by kernel_rfl) rfl fun a0 h0 c0 v0 N0 e hc => ?_
  unfold c_place at e
  split at e
  · rename_i f r n
    cases e
    have hE := EE_ok (cts := [(63, c_valid)]) (inl := []) ⟨c_valid_ok, trivial⟩ trivial
    refine fn_sound hE 2 Tryd.func50 rfl rfl ?_
    repeat (first | refine sat_self ?_ | refine sat_need (by first | rfl | exact tt1 _ _ | exact tt5 _ _ | exact tt2 _ _ _ | exact tt4 _ _ _ | exact tt6 _ _ _ | exact tt7 _ _ | exact tt8 _ _ _ | exact tt9 _ _ _ | (simp; done) | (simp; omega)) ?_)
    refine sat_br (fun h1 => ?_) (fun h1 => ?_)
    · exact sat_ret (fin_val (.inr rfl) rfl rfl rfl (by simp_all [placeR]))
    · simp only [Bool.not_eq_false'] at h1
      have hf := vs_bd (valid_vs h1)
      repeat (first | refine sat_self ?_ | refine sat_need (by first | rfl | (simp; omega)) ?_)
      exact sat_ret (fin_val (.inr rfl) rfl rfl rfl (by simp_all [placeR]))
  · cases e

end Go.Ab

namespace Go.Ab
open Go.Proofs
def allU (f r : Int) : Int := ushr 18446744073709551615 (IntKind.i64.wrap (64 - IntKind.i64.wrap (f * r)))
theorem w64_id {n : Int} (h1 : -9223372036854775808 ≤ n) (h2 : n ≤ 9223372036854775807) : IntKind.i64.wrap n = n := IntWalk.i64_in _ (by omega)
theorem mul_bd {f r : Int} (h : vsB f r = true) : 9 ≤ f * r ∧ f * r ≤ 64 := by
  obtain ⟨h1, h2, h3, h4⟩ := vs_bd h
  have e1 : 3 * 3 ≤ f * r := Int.mul_le_mul h1 h3 (by omega) (by omega)
  have e2 : f * r ≤ 8 * 8 := Int.mul_le_mul h2 h4 (by omega) (by omega)
  omega
theorem w64_mul {f r : Int} (h : vsB f r = true) : IntKind.i64.wrap (f * r) = f * r := w64_id (by have := mul_bd h; omega) (by have := mul_bd h; omega)
def c_all : CF
  | [.agg [.int .i64 f, .int .i64 r]], [] => some (vsB f r, .int .u64 (allU f r), [])
  | _, _ => none
theorem c_all_ok : CtOk GG PP (105, c_all) := by
  refine ct_mk Tryd.func105 (by kernel_rfl) rfl fun a0 h0 c0 v0 N0 e hc => ?_
  unfold c_all at e
  split at e
  · rename_i f r
    cases e
    have hE := EE_ok (cts := []) (inl := []) trivial trivial
    refine fn_sound hE 2 Tryd.func105 rfl rfl ?_
    have hm := mul_bd hc
    refine sat_need (by rw [w64_mul hc, w64_id (by omega) (by omega)]; simp; omega) ?_
    exact sat_ret (fin_val (.inr rfl) rfl rfl rfl rfl)
  · cases e

def c_All : CF
  | [.agg [.int .i64 f, .int .i64 r]], [] => some (true, .tup [U (bif vsB f r then allU f r else 0), I (bif vsB f r then 0 else 2)], [])
  | _, _ => none
theorem c_All_ok : CtOk GG PP (91, c_All) := by
  refine ct_mk Tryd.func91 (by kernel_rfl) rfl fun a0 h0 c0 v0 N0 e hc => ?_
  unfold c_All at e
  split at e
  · rename_i f r
    cases e
    have hE := EE_ok (cts := [(89, c_vs), (105, c_all)]) (inl := []) ⟨c_vs_ok, c_all_ok, trivial⟩ trivial
    refine fn_sound hE 2 Tryd.func91 rfl rfl ?_
    repeat (first | refine sat_self ?_ | refine sat_need (by first | rfl | exact tt1 _ _ | exact tt5 _ _ | exact tt2 _ _ _ | exact tt4 _ _ _ | exact tt6 _ _ _ | exact tt7 _ _ | exact tt8 _ _ _ | exact tt9 _ _ _ | exact tt10 _ _ | exact tt11 _ _ _ | (simp; done) | (simp; omega)) ?_)
    refine sat_br (fun h1 => ?_) (fun h1 => ?_)
    · exact sat_ret (fin_val (.inr rfl) rfl rfl rfl (by simp_all))
    · refine sat_need (by simpa using h1) ?_
      exact sat_ret (fin_val (.inr rfl) rfl rfl rfl (by simp_all))
  · cases e

def fwd (b : Bool) : Int := bif b then -1 else 1
def sgn (n : Int) : Int := bif decide (n < 0) then -1 else bif decide (0 < n) then 1 else 0
def rayOn (f r n set : Int) : Bool := validB f r n && decide (uandn set (allU f r) = 0)
def c_forward : CF
  | [.bool b], [] => some (true, .int .i64 (fwd b), [])
  | _, _ => none
theorem c_forward_ok : CtOk GG PP (64, c_forward) := by
  refine ct_mk Tryd.func64 (by kernel_rfl) rfl fun a0 h0 c0 v0 N0 e hc => ?_
  unfold c_forward at e
  split at e
  · rename_i b
    cases e
    have hE := EE_ok (cts := []) (inl := []) trivial trivial
    refine fn_sound hE 2 Tryd.func64 rfl rfl ?_
    refine sat_br (fun h1 => ?_) (fun h1 => ?_)
    · exact sat_ret (fin_val (.inr rfl) rfl rfl rfl (by simp_all [fwd]))
    · exact sat_ret (fin_val (.inr rfl) rfl rfl rfl (by simp_all [fwd]))
  · cases e

def c_sign : CF
  | [.int .i64 n], [] => some (true, .int .i64 (sgn n), [])
  | _, _ => none
theorem c_sign_ok : CtOk GG PP (55, c_sign) := by
  refine ct_mk Tryd.func55 (by kernel_rfl) rfl fun a0 h0 c0 v0 N0 e hc => ?_
  unfold c_sign at e
  split at e
  · rename_i n
    cases e
    have hE := EE_ok (cts := []) (inl := []) trivial trivial
    refine fn_sound hE 2 Tryd.func55 rfl rfl ?_
    refine sat_br (fun h1 => ?_) (fun h1 => ?_)
    · exact sat_ret (fin_val (.inr rfl) rfl rfl rfl (by rw [sgn, h1]; rfl))
    · refine sat_br (fun h2 => ?_) (fun h2 => ?_)
      · exact sat_ret (fin_val (.inr rfl) rfl rfl rfl (by rw [sgn, h1, h2]; rfl))
      · exact sat_ret (fin_val (.inr rfl) rfl rfl rfl (by rw [sgn, h1, h2]; rfl))
  · cases e

def c_rayon : CF
  | [.agg [.int .i64 f, .int .i64 r], .int .i64 n, .int .u64 set], [] => some (true, .bool (rayOn f r n set), [])
  | _, _ => none
theorem c_rayon_ok : CtOk GG PP (59, c_rayon) := by
  refine ct_mk Tryd.func59 (by kernel_rfl) rfl fun a0 h0 c0 v0 N0 e hc => ?_
  unfold c_rayon at e
  split at e
  · rename_i f r n set
    cases e
    have hE := EE_ok (cts := [(91, c_All), (63, c_valid)]) (inl := []) ⟨c_All_ok, c_valid_ok, trivial⟩ trivial
    refine fn_sound hE 2 Tryd.func59 rfl rfl ?_
    repeat (first | refine sat_self ?_ | refine sat_need (by first | rfl | exact tt1 _ _ | exact tt5 _ _ | exact tt2 _ _ _ | exact tt4 _ _ _ | exact tt6 _ _ _ | exact tt7 _ _ | exact tt8 _ _ _ | exact tt9 _ _ _ | exact tt10 _ _ | exact tt11 _ _ _ | (simp; done) | (simp; omega)) ?_)
    exact sat_ret (fin_val (.inr rfl) rfl rfl rfl (by cases h : vsB f r <;> simp [rayOn, validB, h]))
  · cases e

def dirR (f r a b : Int) : Int × Int × Int :=
  bif validB f r a && validB f r b then
    (let x := IntKind.i64.wrap (b.tmod f - a.tmod f); let y := IntKind.i64.wrap (IntKind.i64.wrap (b.tdiv f) - IntKind.i64.wrap (a.tdiv f))
     bif decide (a = b) || (!decide (x = 0) && !decide (y = 0) && !decide (x = y) && !decide (x = IntKind.i64.wrap (0 - y))) then (0, 0, 9) else (sgn x, sgn y, 0))
  else (0, 0, 2)
def c_dir : CF
  | [.agg [.int .i64 f, .int .i64 r], .int .i64 a, .int .i64 b], [] => some (true, .tup [I (dirR f r a b).1, I (dirR f r a b).2.1, I (dirR f r a b).2.2], [])
  | _, _ => none
theorem c_dir_ok : CtOk GG PP (17, c_dir) := by
  refine ct_mk Tryd.func17 (by kernel_rfl) rfl fun a0 h0 c0 v0 N0 e hc => ?_
  unfold c_dir at e
  split at e
  · rename_i f r a b
    cases e
    have hE := EE_ok (cts := [(50, c_place), (55, c_sign)]) (inl := []) ⟨c_place_ok, c_sign_ok, trivial⟩ trivial
    refine fn_sound hE 2 Tryd.func17 rfl rfl ?_
    repeat (first | refine sat_self ?_ | refine sat_need (by first | rfl | exact tt1 _ _ | exact tt5 _ _ | exact tt2 _ _ _ | exact tt4 _ _ _ | exact tt6 _ _ _ | exact tt7 _ _ | exact tt8 _ _ _ | exact tt9 _ _ _ | exact tt10 _ _ | exact tt11 _ _ _ | (simp; done) | (simp; omega)) ?_)
    refine sat_br (fun h1 => ?_) (fun h1 => ?_)
    · exact sat_ret (fin_val (.inr rfl) rfl rfl rfl (by cases ha : validB f r a <;> cases hb : validB f r b <;> simp_all [dirR, placeR]))
    · repeat (first | refine sat_self ?_ | refine sat_need (by first | rfl | exact tt1 _ _ | exact tt5 _ _ | exact tt2 _ _ _ | exact tt4 _ _ _ | exact tt6 _ _ _ | exact tt7 _ _ | exact tt8 _ _ _ | exact tt9 _ _ _ | exact tt10 _ _ | exact tt11 _ _ _ | (simp; done) | (simp; omega)) ?_)
      have ha : validB f r a = true := by cases ha : validB f r a <;> simp_all [placeR]
      have hb : validB f r b = true := by cases hb : validB f r b <;> simp_all [placeR]
      refine sat_br (fun h2 => ?_) (fun h2 => ?_)
      · refine sat_ret (fin_val (.inr rfl) rfl rfl rfl ?_)
        simp only [placeR, ha, hb, cond_true] at h2
        simp only [dirR, ha, hb, Bool.and_true, cond_true, h2]
      · repeat (first | refine sat_self ?_ | refine sat_need (by first | rfl | exact tt1 _ _ | exact tt5 _ _ | exact tt2 _ _ _ | exact tt4 _ _ _ | exact tt6 _ _ _ | exact tt7 _ _ | exact tt8 _ _ _ | exact tt9 _ _ _ | exact tt10 _ _ | exact tt11 _ _ _ | (simp; done) | (simp; omega)) ?_)
        refine sat_ret (fin_val (.inr rfl) rfl rfl rfl ?_)
        simp only [placeR, ha, hb, cond_true] at h2 ⊢
        simp only [dirR, ha, hb, Bool.and_true, cond_true, h2, cond_false]
  · cases e

end Go.Ab

namespace Go.Ab
open Go.Proofs
def leapSq (f r x y : Int) (row : List Int) : Int × Int := atR f r (IntKind.i64.wrap (x + row.getD 0 0)) (IntKind.i64.wrap (y + row.getD 1 0))
def leapStep (f r x y set : Int) (row : List Int) : Int := bif decide ((leapSq f r x y row).2 = 0) then uor set (ushl 1 (leapSq f r x y row).1) else set
def leapR (f r n : Int) (rs : List (List Int)) : Int := rs.foldl (leapStep f r (placeR f r n).1 (placeR f r n).2.1) 0
theorem at_pos {f r x y : Int} (h : (atR f r x y).2 = 0) : 0 ≤ (atR f r x y).1 ∧ (atR f r x y).1 < 64 ∧ vsB f r = true ∧ onB f r x y = true ∧ (atR f r x y).1 = x + y * f := by
  unfold atR at h ⊢
  cases h1 : vsB f r
  · simp [h1] at h
  · cases h2 : onB f r x y
    · simp [h1, h2] at h
    · simp only [cond_true]
      obtain ⟨a1, a2, a3, a4⟩ := vs_bd h1
      simp only [onB, Bool.and_eq_true, decide_eq_true_eq] at h2
      obtain ⟨⟨⟨b1, b2⟩, b3⟩, b4⟩ := h2
      have hm := mul_bd h1
      have e1 : 0 ≤ y * f := Int.mul_nonneg b3 (by omega)
      have e2 : (y + 1) * f ≤ r * f := Int.mul_le_mul_of_nonneg_right (by omega) (by omega)
      rw [Int.add_mul, Int.mul_comm r f] at e2
      have e3 : IntKind.i64.wrap (y * f) = y * f := w64_id (by omega) (by omega)
      have e4 : IntKind.i64.wrap (x + y * f) = x + y * f := w64_id (by omega) (by omega)
      rw [e3, e4]
      refine ⟨by omega, by omega, ?_, ?_, ?_⟩ <;> first | rfl | trivial
theorem take_step {α β : Type} (l : List α) (d : α) (f : β → α → β) (b : β) {k : Nat} (h : k < l.length) : (l.take (k + 1)).foldl f b = f ((l.take k).foldl f b) (l.getD k d) := by
  rw [List.take_succ_eq_append_getElem h, List.foldl_append]
  simp [List.getD, h]
def c_leap : CF
  | [.agg [.int .i64 f, .int .i64 r], .int .i64 n, .sl 0 0 len none], [.rows false [.i64, .i64] rs] => some (decide (len = rs.length) && decide (rs.length ≤ 1000000), .int .u64 (leapR f r n rs), [])
  | _, _ => none
theorem c_leap_ok : CtOk GG PP (60, c_leap) := by
  refine ct_mk Tryd.func60 (by kernel_rfl) rfl fun a0 h0 c0 v0 N0 e hc => ?_
  unfold c_leap at e
  split at e
  · rename_i f r n len rs
    cases e
    have hE := EE_ok (cts := [(51, c_at), (50, c_place)]) (inl := []) ⟨c_at_ok, c_place_ok, trivial⟩ trivial
    refine fn_sound hE 2 Tryd.func60 rfl rfl ?_
    simp only [Bool.and_eq_true, decide_eq_true_eq] at hc
    obtain ⟨hc1, hc2⟩ := hc
    subst hc1
    repeat (first | refine sat_self ?_ | refine sat_need (by first | rfl | exact tt1 _ _ | exact tt5 _ _ | exact tt2 _ _ _ | exact tt4 _ _ _ | exact tt6 _ _ _ | exact tt7 _ _ | exact tt8 _ _ _ | exact tt9 _ _ _ | (simp; done) | (simp; omega)) ?_)
    refine sat_for hE 2 (fun a : Int × Int => ([(3, .ptr 1 0 0), (7, I (placeR f r n).1), (8, I (placeR f r n).2.1), (10, U a.2), (22, .sl 0 0 rs.length none), (23, I rs.length), (24, I a.1)], [.rows false [.i64, .i64] rs, .cells true [I f, I r]]))
      (fun a => ∃ k : Nat, k ≤ rs.length ∧ a.1 = k ∧ a.2 = (rs.take k).foldl (leapStep f r (placeR f r n).1 (placeR f r n).2.1) 0) (fun a => rs.length - a.1.toNat) (0, 0)
      (Ent.ren [0, 1] [3, 7, 8, 10, 22, 23, 24] rfl rfl rfl) ⟨0, Nat.zero_le _, rfl, rfl⟩ ?_
    rintro ⟨i, set⟩ ⟨k, hk, h1, h2⟩
    dsimp only at h1 h2 ⊢
    refine sat_br (fun hlt => ?_) (fun hlt => ?_)
    · simp only [decide_eq_true_eq] at hlt
      have hki : i.toNat = k := by omega
      refine sat_need (by simp; omega) ?_
      repeat (first | refine sat_self ?_ | refine sat_need (by first | rfl | exact tt1 _ _ | exact tt5 _ _ | exact tt2 _ _ _ | exact tt4 _ _ _ | exact tt6 _ _ _ | exact tt7 _ _ | exact tt8 _ _ _ | exact tt9 _ _ _ | (simp; done) | (simp; omega)) ?_)
      have hstep := take_step rs [] (leapStep f r (placeR f r n).1 (placeR f r n).2.1) 0 (show k < rs.length by omega)
      rw [← h2, ← hki] at hstep
      have hnext : IntKind.i64.wrap (i + 1) = ((k + 1 : Nat) : Int) := by rw [w64_id (by omega) (by omega)]; omega
      refine sat_br (fun hon => ?_) (fun hon => ?_)
      · have hon' : decide ((leapSq f r (placeR f r n).1 (placeR f r n).2.1 (rs.getD i.toNat [])).2 = 0) = true := hon
        refine sat_need (by have := (at_pos (of_decide_eq_true hon)).1; exact decide_eq_true this) ?_
        refine sat_ret ⟨(_, _), ⟨k + 1, by omega, hnext, ?_⟩, ?_, Ent.ren [0, 1] [3, 7, 8, 10, 22, 23, 24] rfl rfl rfl⟩
        · rw [← hki, hstep, leapStep, hon']; rfl
        · show _ - (IntKind.i64.wrap (i + 1)).toNat < _
          rw [hnext]; omega
      · have hon' : decide ((leapSq f r (placeR f r n).1 (placeR f r n).2.1 (rs.getD i.toNat [])).2 = 0) = false := hon
        refine sat_ret ⟨(_, _), ⟨k + 1, by omega, hnext, ?_⟩, ?_, Ent.ren [0, 1] [3, 7, 8, 10, 22, 23, 24] rfl rfl rfl⟩
        · rw [← hki, hstep, leapStep, hon']; rfl
        · show _ - (IntKind.i64.wrap (i + 1)).toNat < _
          rw [hnext]; omega
    · simp only [decide_eq_false_iff_not] at hlt
      obtain rfl : k = rs.length := by omega
      rw [List.take_length] at h2
      refine sat_ret (sat_ret (fin_val (.inr rfl) rfl rfl rfl (by rw [h2]; rfl)))
  · cases e

end Go.Ab

namespace Go.Ab
open Go.Proofs
def rayGo (f r df dr : Int) : Nat → Int → Int → List Int
  | 0, _, _ => []
  | k + 1, x, y => bif decide ((atR f r (IntKind.i64.wrap (x + df)) (IntKind.i64.wrap (y + dr))).2 = 0) then (atR f r (IntKind.i64.wrap (x + df)) (IntKind.i64.wrap (y + dr))).1 :: rayGo f r df dr k (IntKind.i64.wrap (x + df)) (IntKind.i64.wrap (y + dr)) else []
def rayBig (df dr : Int) : Bool := decide (8 ≤ imax true (imax true (imax true df (IntKind.i64.wrap (0 - df))) dr) (IntKind.i64.wrap (0 - dr))) || decide (df < -8) || decide (dr < -8)
def rayL (f r n df dr : Int) : List Int := bif validB f r n && !(decide (df = 0) && decide (dr = 0)) && !rayBig df dr then rayGo f r df dr 9 (placeR f r n).1 (placeR f r n).2.1 else []
def rayV (f r n df dr : Int) : List (List V) := (rayL f r n df dr).map fun x => [I x]

theorem big_bd {df dr : Int} (h : rayBig df dr = false) : -7 ≤ df ∧ df ≤ 7 ∧ -7 ≤ dr ∧ dr ≤ 7 := by
  simp only [rayBig, Bool.or_eq_false_iff, decide_eq_false_iff_not] at h
  obtain ⟨⟨h1, h2⟩, h3⟩ := h
  have m : ∀ x y : Int, x ≤ imax true x y ∧ y ≤ imax true x y := fun x y => by
    unfold imax
    by_cases h : x < y <;> simp [h] <;> omega
  have e1 := m df (IntKind.i64.wrap (0 - df))
  have e2 := m (imax true df (IntKind.i64.wrap (0 - df))) dr
  have e3 := m (imax true (imax true df (IntKind.i64.wrap (0 - df))) dr) (IntKind.i64.wrap (0 - dr))
  have f1 : df ≤ 7 := by omega
  have f2 : dr ≤ 7 := by omega
  rw [w64_id (n := 0 - df) (by omega) (by omega)] at e1 e2 e3
  rw [w64_id (n := 0 - dr) (by omega) (by omega)] at e3
  rw [w64_id (n := 0 - df) (by omega) (by omega), w64_id (n := 0 - dr) (by omega) (by omega)] at h1
  omega
theorem place_bd {f r n : Int} (h : validB f r n = true) : 0 ≤ (placeR f r n).1 ∧ (placeR f r n).1 < f ∧ 0 ≤ (placeR f r n).2.1 ∧ (placeR f r n).2.1 < r ∧ (placeR f r n).1 = n % f ∧ (placeR f r n).2.1 = n / f := by
  have hv := valid_vs h
  obtain ⟨a1, a2, a3, a4⟩ := vs_bd hv
  have hm := mul_bd hv
  simp only [placeR, h, cond_true]
  simp only [validB, Bool.and_eq_true, decide_eq_true_eq] at h
  obtain ⟨⟨h1, h2⟩, h3⟩ := h
  rw [w64_mul hv] at h3
  have e1 : n.tmod f = n % f := Int.tmod_eq_emod_of_nonneg h2
  have e2 : n.tdiv f = n / f := Int.tdiv_eq_ediv_of_nonneg h2
  have b1 := Int.emod_nonneg n (show f ≠ 0 by omega)
  have b2 := Int.emod_lt_of_pos n (show 0 < f by omega)
  have b3 : 0 ≤ n / f := Int.ediv_nonneg h2 (by omega)
  have b4 : n / f < r := Int.ediv_lt_of_lt_mul (by omega) (by rw [Int.mul_comm]; exact h3)
  rw [e1, e2, w64_id (by omega) (by omega)]
  exact ⟨b1, b2, b3, b4, rfl, rfl⟩
theorem on_bd {f r x y : Int} (h : onB f r x y = true) : 0 ≤ x ∧ x < f ∧ 0 ≤ y ∧ y < r := by
  simp only [onB, Bool.and_eq_true, decide_eq_true_eq] at h
  obtain ⟨⟨⟨b1, b2⟩, b3⟩, b4⟩ := h
  exact ⟨b1, b2, b3, b4⟩

theorem ray_sq (f r n df dr : Int) : SqSound GG PP 49 [[I f, I r], [I n], [I df], [I dr]] (rayV f r n df dr) := by
  have hE := EE_ok (cts := [(50, c_place), (51, c_at)]) (inl := []) ⟨c_place_ok, c_at_ok, trivial⟩ trivial
  refine sq_sound hE Tryd.func49 rfl rfl rfl rfl fun nn l S0 ρc J ok => ?_
  refine YG.seq (YG.seg hE 2 ?_)
  repeat (first | refine sat_self ?_ | refine sat_need (by first | rfl | exact tt1 _ _ | exact tt5 _ _ | exact tt2 _ _ _ | exact tt4 _ _ _ | exact tt6 _ _ _ | exact tt7 _ _ | exact tt8 _ _ _ | exact tt9 _ _ _ | (simp; done) | (simp; omega)) ?_)
  refine sat_ret ?_
  refine YG.seq (YG.seg hE 2 ?_)
  repeat (first | refine sat_self ?_ | refine sat_need (by first | rfl | exact tt1 _ _ | exact tt5 _ _ | exact tt2 _ _ _ | exact tt4 _ _ _ | exact tt6 _ _ _ | exact tt7 _ _ | exact tt8 _ _ _ | exact tt9 _ _ _ | (simp; done) | (simp; omega)) ?_)
  refine sat_br (fun h1 => sat_ret ⟨.inr rfl, .inl ?_⟩) (fun h1 => sat_ret ?_)
  · have : rayV f r n df dr = [] := by
      cases hv : validB f r n <;> simp_all [rayV, rayL, placeR]
    rw [this]; rfl
  have hv : validB f r n = true := by cases hv : validB f r n <;> simp_all [placeR]
  have hnz : (decide (df = 0) && decide (dr = 0)) = false := by
    cases h : (decide (df = 0) && decide (dr = 0)) <;> simp_all
  refine YG.seq (YG.seg hE 2 ?_)
  repeat (first | refine sat_self ?_ | refine sat_need (by first | rfl | exact tt1 _ _ | exact tt5 _ _ | exact tt2 _ _ _ | exact tt4 _ _ _ | exact tt6 _ _ _ | exact tt7 _ _ | exact tt8 _ _ _ | exact tt9 _ _ _ | (simp; done) | (simp; omega)) ?_)
  refine sat_br (fun h2 => sat_ret ⟨.inr rfl, .inl ?_⟩) (fun h2 => sat_ret ?_)
  · have h2 : rayBig df dr = true := h2
    have : rayV f r n df dr = [] := by simp [rayV, rayL, h2]
    rw [this]; rfl
  have h2 : rayBig df dr = false := h2
  have hL : rayL f r n df dr = rayGo f r df dr 9 (placeR f r n).1 (placeR f r n).2.1 := by simp only [rayL, hv, hnz, h2]; rfl
  have hb := big_bd h2
  have hp := place_bd hv
  have hsz := vs_bd (valid_vs hv)
  have hdd : df ≠ 0 ∨ dr ≠ 0 := by
    by_cases e : df = 0
    · right; rintro rfl; simp [e] at hnz
    · exact .inl e
  refine YG.block (YG.loop (fun a : Nat × Int × Int => (some a.1, [(0, .yl 4), (1, .ptr 0 0 0), (2, .ptr 1 0 0), (3, .ptr 2 0 0), (4, .ptr 3 0 0), (6, I a.2.1), (7, I a.2.2)], hp0 [[I f, I r], [I n], [I df], [I dr]]))
    (fun a => 0 ≤ a.2.1 ∧ a.2.1 < f ∧ 0 ≤ a.2.2 ∧ a.2.2 < r ∧ (1 ≤ df → a.1 ≤ a.2.1) ∧ (df ≤ -1 → a.2.1 + a.1 ≤ 7) ∧ (1 ≤ dr → a.1 ≤ a.2.2) ∧ (dr ≤ -1 → a.2.2 + a.1 ≤ 7) ∧ a.1 ≤ (rayL f r n df dr).length ∧ (rayL f r n df dr).drop a.1 = rayGo f r df dr (9 - a.1) a.2.1 a.2.2)
    (fun a => 8 - a.1) (0, (placeR f r n).1, (placeR f r n).2.1) rfl (Ent.ren [0, 1, 2, 3, 4] [0, 1, 2, 3, 4, 6, 7] rfl rfl rfl) ?_ ?_)
  · exact ⟨hp.1, hp.2.1, hp.2.2.1, hp.2.2.2.1, by intro; simp; omega, by intro; simp; omega, by intro; simp; omega, by intro; simp; omega, Nat.zero_le _, by simpa using hL⟩
  rintro ⟨i, x, y⟩ ⟨i1, i2, i3, i4, i5, i6, i7, i8, i9, i10⟩
  dsimp only at i1 i2 i3 i4 i5 i6 i7 i8 i9 i10 ⊢
  have hi8 : i ≤ 7 := by omega
  refine YG.block (YG.seq (YG.seg hE 2 ?_))
  repeat (first | refine sat_self ?_ | refine sat_need (by first | rfl | exact tt1 _ _ | exact tt5 _ _ | exact tt2 _ _ _ | exact tt4 _ _ _ | exact tt6 _ _ _ | exact tt7 _ _ | exact tt8 _ _ _ | exact tt9 _ _ _ | (simp; done) | (simp; omega)) ?_)
  refine sat_ret ?_
  refine YG.seq (YG.seg hE 2 ?_)
  repeat (first | refine sat_self ?_ | refine sat_need (by first | rfl | exact tt1 _ _ | exact tt5 _ _ | exact tt2 _ _ _ | exact tt4 _ _ _ | exact tt6 _ _ _ | exact tt7 _ _ | exact tt8 _ _ _ | exact tt9 _ _ _ | (simp; done) | (simp; omega)) ?_)
  refine sat_ret ?_
  refine YG.seq (YG.yregAt ok 2 5 rfl rfl rfl ?_)
  refine sat_ret ?_
  have hgo : ∀ b, decide ((atR f r (IntKind.i64.wrap (x + df)) (IntKind.i64.wrap (y + dr))).2 = 0) = b → rayGo f r df dr (9 - i) x y = bif b then (atR f r (IntKind.i64.wrap (x + df)) (IntKind.i64.wrap (y + dr))).1 :: rayGo f r df dr (8 - i) (IntKind.i64.wrap (x + df)) (IntKind.i64.wrap (y + dr)) else [] := by
    intro b hb
    rw [show 9 - i = (8 - i) + 1 by omega]
    simp only [rayGo, hb]
  refine ⟨fun hg => ?_, fun hg => ?_⟩
  · have hg : decide ((atR f r (IntKind.i64.wrap (x + df)) (IntKind.i64.wrap (y + dr))).2 = 0) = true := by simpa using hg
    have he := of_decide_eq_true hg
    obtain ⟨p1, p2, p3, p4, p5⟩ := at_pos he
    have hon := on_bd p4
    have hwx : IntKind.i64.wrap (x + df) = x + df := w64_id (by omega) (by omega)
    have hwy : IntKind.i64.wrap (y + dr) = y + dr := w64_id (by omega) (by omega)
    have hr := hgo true hg
    rw [cond_true] at hr
    rw [hr] at i10
    have hlt : i < (rayL f r n df dr).length := by
      have := congrArg List.length i10
      simp only [List.length_drop, List.length_cons] at this
      omega
    have hat : (rayL f r n df dr)[i]? = some (atR f r (IntKind.i64.wrap (x + df)) (IntKind.i64.wrap (y + dr))).1 := by
      have := congrArg (fun l : List Int => l[0]?) i10
      simpa using this
    have hdr : (rayL f r n df dr).drop (i + 1) = rayGo f r df dr (8 - i) (IntKind.i64.wrap (x + df)) (IntKind.i64.wrap (y + dr)) := by
      have := congrArg (List.drop 1) i10
      simpa [List.drop_drop, Nat.add_comm] using this
    repeat (first | refine sat_self ?_ | refine sat_need (by first | rfl | exact tt1 _ _ | exact tt5 _ _ | exact tt2 _ _ _ | exact tt4 _ _ _ | exact tt6 _ _ _ | exact tt7 _ _ | exact tt8 _ _ _ | exact tt9 _ _ _ | (simp; done) | (simp; omega)) ?_)
    refine sat_ret ?_
    refine ⟨i, [I (atR f r (IntKind.i64.wrap (x + df)) (IntKind.i64.wrap (y + dr))).1], [0, 1, 2, 3, 4, 6, 7, 59], rfl, by simp [rayV, hat], rfl, rfl, rfl, rfl, fun b => ?_⟩
    cases b with
    | true =>
      refine sat_ret ?_
      refine YG.seg hE 2 ?_
      refine sat_ret ⟨(i + 1, IntKind.i64.wrap (x + df), IntKind.i64.wrap (y + dr)), ?_, ?_, rfl, Ent.ren [0, 1, 2, 3, 4] [0, 1, 2, 3, 4, 6, 7] rfl rfl rfl⟩
      · dsimp only
        rw [hwx, hwy] at hon
        rw [hdr, hwx, hwy, show 9 - (i + 1) = 8 - i by omega]
        refine ⟨hon.1, hon.2.1, hon.2.2.1, hon.2.2.2, ?_, ?_, ?_, ?_, by omega, rfl⟩ <;> intro h <;> push_cast <;> omega
      · dsimp only; omega
    | false =>
      refine sat_ret ?_
      refine YG.seg hE 2 ?_
      exact sat_ret ⟨.inr rfl, .inr rfl⟩
  · have hg : decide ((atR f r (IntKind.i64.wrap (x + df)) (IntKind.i64.wrap (y + dr))).2 = 0) = false := by simpa using hg
    have hr := hgo false hg
    rw [cond_false] at hr
    rw [hr] at i10
    have hlen : i = (rayL f r n df dr).length := by
      have := congrArg List.length i10
      simp only [List.length_drop, List.length_nil] at this
      omega
    refine sat_ret ?_
    refine YG.seg hE 2 ?_
    exact sat_ret ⟨.inr rfl, .inl (by simp [rayV, ← hlen])⟩
end Go.Ab

namespace Go.Ab
open Go.Proofs
theorem rayL_get {f r n df dr : Int} {i : Nat} {vs : List V} (h : (rayV f r n df dr)[i]? = some vs) : ∃ x, (rayL f r n df dr)[i]? = some x ∧ vs = [I x] ∧ 0 ≤ x ∧ x < 64 := by
  simp only [rayV, List.getElem?_map, Option.map_eq_some_iff] at h
  obtain ⟨x, h1, rfl⟩ := h
  refine ⟨x, h1, rfl, ?_⟩
  have hm := List.mem_of_getElem? h1
  have key : ∀ (k : Nat) (a b : Int), x ∈ rayGo f r df dr k a b → 0 ≤ x ∧ x < 64 := by
    intro k
    induction k with
    | zero => intro a b h; simp [rayGo] at h
    | succ k ih =>
      intro a b h
      rw [rayGo] at h
      cases hb : decide ((atR f r (IntKind.i64.wrap (a + df)) (IntKind.i64.wrap (b + dr))).2 = 0) with
      | false => rw [hb] at h; simp at h
      | true =>
        rw [hb, cond_true] at h
        rcases List.mem_cons.1 h with rfl | h
        · have := at_pos (of_decide_eq_true hb); exact ⟨this.1, this.2.1⟩
        · exact ih _ _ h
  unfold rayL at hm
  cases hc : (validB f r n && !(decide (df = 0) && decide (dr = 0)) && !rayBig df dr) with
  | false => rw [hc] at hm; simp at hm
  | true => rw [hc, cond_true] at hm; exact key _ _ _ hm
theorem rayV_len {f r n df dr : Int} : ∀ vs ∈ rayV f r n df dr, vs.length = 1 := by
  intro vs h
  simp only [rayV, List.mem_map] at h
  obtain ⟨x, _, rfl⟩ := h
  rfl
theorem rayV_length {f r n df dr : Int} : (rayV f r n df dr).length = (rayL f r n df dr).length := by simp [rayV]
theorem ray_ent : Entered PP 49 := ent Tryd.func49 rfl rfl
def untilS (b : Int) : List Int → Int → Int
  | [], s => s
  | x :: l, s => bif decide (x = b) then s else untilS b l (uor s (ushl 1 x))
def betwR (f r a b : Int) : Int × Int := bif decide ((dirR f r a b).2.2 = 0) then (untilS b (rayL f r a (dirR f r a b).1 (dirR f r a b).2.1) 0, 0) else (0, (dirR f r a b).2.2)
theorem untilS_at {b : Int} {l : List Int} {i : Nat} {x s : Int} (h : l[i]? = some x) : untilS b (l.drop i) s = bif decide (x = b) then s else untilS b (l.drop (i + 1)) (uor s (ushl 1 x)) := by
  obtain ⟨h1, h2⟩ := List.getElem?_eq_some_iff.1 h
  rw [List.drop_eq_getElem_cons h1, h2, untilS]
def slideGo (occ : Int) : List Int → Int → Int
  | [], s => s
  | x :: l, s => bif decide (uand (ushr occ x) 1 = 1) then uor s (ushl 1 x) else slideGo occ l (uor s (ushl 1 x))
theorem slideGo_at {b : Int} {l : List Int} {i : Nat} {x s : Int} (h : l[i]? = some x) : slideGo b (l.drop i) s = bif decide (uand (ushr b x) 1 = 1) then uor s (ushl 1 x) else slideGo b (l.drop (i + 1)) (uor s (ushl 1 x)) := by
  obtain ⟨h1, h2⟩ := List.getElem?_eq_some_iff.1 h
  rw [List.drop_eq_getElem_cons h1, h2, slideGo]
def slideStep (f r n occ s : Int) (row : List Int) : Int := slideGo occ (rayL f r n (row.getD 0 0) (row.getD 1 0)) s
def slideR (f r n occ : Int) (rs : List (List Int)) : Int := rs.foldl (slideStep f r n occ) 0
def c_betw : CF
  | [.agg [.int .i64 f, .int .i64 r], .int .i64 a, .int .i64 b], [] => some (true, .tup [U (betwR f r a b).1, I (betwR f r a b).2], [])
  | _, _ => none
theorem c_betw_ok : CtOk GG PP (16, c_betw) := by
  refine ct_mk Tryd.func16 (by kernel_rfl) rfl fun a0 h0 c0 v0 N0 e hc => ?_
  unfold c_betw at e
  split at e
  · rename_i f r a b
    cases e
    have hE := EE_ok (cts := [(17, c_dir)]) (inl := [(14, Tryd.f14)]) ⟨c_dir_ok, trivial⟩ ⟨⟨Tryd.func14, by kernel_rfl⟩, trivial⟩
    refine fn_sound hE 2 Tryd.func16 rfl rfl ?_
    repeat (first | refine sat_self ?_ | refine sat_need (by first | rfl | exact tt1 _ _ | exact tt5 _ _ | exact tt2 _ _ _ | exact tt4 _ _ _ | exact tt6 _ _ _ | exact tt7 _ _ | exact tt8 _ _ _ | exact tt9 _ _ _ | (simp; done) | (simp; omega)) ?_)
    refine sat_br (fun h1 => ?_) (fun h1 => ?_)
    · have h1 : decide ((dirR f r a b).2.2 = 0) = false := by simpa using h1
      exact sat_ret (fin_val (.inr rfl) rfl rfl rfl (by rw [betwR, h1]; rfl))
    have h1 : decide ((dirR f r a b).2.2 = 0) = true := by simpa using h1
    repeat (first | refine sat_self ?_ | refine sat_need (by first | rfl | exact tt1 _ _ | exact tt5 _ _ | exact tt2 _ _ _ | exact tt4 _ _ _ | exact tt6 _ _ _ | exact tt7 _ _ | exact tt8 _ _ _ | exact tt9 _ _ _ | (simp; done) | (simp; omega)) ?_)
    generalize hL : rayL f r a (dirR f r a b).1 (dirR f r a b).2.1 = L
    refine sat_range hE 2 7 [3, 4, 5, 6] [3, 5, 11] (Ent.ren [0, 1, 2, 3, 4, 5, 6] [3, 5, 11, 28] rfl rfl rfl) (ray_sq f r a (dirR f r a b).1 (dirR f r a b).2.1) rayV_len ray_ent rfl rfl rfl rfl rfl rfl
      (fun i hp' => ∃ s, untilS b (L.drop i) s = untilS b L 0 ∧ hp' = [.cells true [I f, I r], .cells true [I b], .cells true [U s], .cells true [I f, I r], .cells true [I a], .cells true [I (dirR f r a b).1], .cells true [I (dirR f r a b).2.1]])
      (fun e hp' => e = .exit 0 ∧ ∃ s, s = untilS b L 0 ∧ hp' = [.cells true [I f, I r], .cells true [I b], .cells true [U s], .cells true [I f, I r], .cells true [I a], .cells true [I (dirR f r a b).1], .cells true [I (dirR f r a b).2.1]])
      ⟨0, rfl, rfl⟩ ?_ ?_ ?_ ?_ ?_
    · rintro i hp' ⟨s, _, rfl⟩; rfl
    · rintro e hp' ⟨_, s, _, rfl⟩; rfl
    · rintro i vs hp' hi ⟨s, hs, rfl⟩
      obtain ⟨x, hx, rfl, x0, x1⟩ := rayL_get hi
      rw [hL] at hx
      rw [untilS_at hx] at hs
      refine sat_ret ⟨rfl, ?_⟩
      refine sat_br (fun h2 => ?_) (fun h2 => ?_)
      · rw [h2, cond_true] at hs
        exact sat_ret ⟨_, Ent.ren [0, 1, 2, 3, 4, 5, 6] [] rfl rfl rfl, rfl, s, hs, rfl⟩
      · rw [h2, cond_false] at hs
        repeat (first | refine sat_self ?_ | refine sat_need (by first | rfl | exact tt1 _ _ | exact tt5 _ _ | exact tt2 _ _ _ | exact tt4 _ _ _ | exact tt6 _ _ _ | exact tt7 _ _ | exact tt8 _ _ _ | exact tt9 _ _ _ | (simp; done) | (simp; omega)) ?_)
        refine sat_ret ⟨_, Ent.ren [0, 1, 2, 3, 4, 5, 6] [] rfl rfl rfl, _, hs, rfl⟩
    · rintro hp' ⟨s, hs, rfl⟩
      rw [rayV_length, hL, List.drop_length] at hs
      have hs : s = untilS b L 0 := hs
      exact sat_ret (fin_val (.inr rfl) rfl rfl rfl (by rw [betwR, h1, hL, hs]; rfl))
    · rintro e hp' ⟨rfl, s, hs, rfl⟩
      exact sat_ret (fin_val (.inr rfl) rfl rfl rfl (by rw [betwR, h1, hL, hs]; rfl))
  · cases e

def c_slide : CF
  | [.agg [.int .i64 f, .int .i64 r], .int .i64 n, .int .u64 occ, .sl 0 0 len none], [.rows false [.i64, .i64] rs] => some (decide (len = rs.length) && decide (rs.length ≤ 1000000), .int .u64 (slideR f r n occ rs), [])
  | _, _ => none
theorem c_slide_ok : CtOk GG PP (61, c_slide) := by
  refine ct_mk Tryd.func61 (by kernel_rfl) rfl fun a0 h0 c0 v0 N0 e hc => ?_
  unfold c_slide at e
  split at e
  · rename_i f r n occ len rs
    cases e
    have hE := EE_ok (cts := []) (inl := [(14, Tryd.f14)]) trivial ⟨⟨Tryd.func14, by kernel_rfl⟩, trivial⟩
    refine fn_sound hE 2 Tryd.func61 rfl rfl ?_
    simp only [Bool.and_eq_true, decide_eq_true_eq] at hc
    obtain ⟨hc1, hc2⟩ := hc
    subst hc1
    repeat (first | refine sat_self ?_ | refine sat_need (by first | rfl | exact tt1 _ _ | exact tt5 _ _ | exact tt2 _ _ _ | exact tt4 _ _ _ | exact tt6 _ _ _ | exact tt7 _ _ | exact tt8 _ _ _ | exact tt9 _ _ _ | (simp; done) | (simp; omega)) ?_)
    refine sat_for hE 2 (fun a : Int × Int => ([(1, I n), (4, .ptr 1 0 0), (6, .ptr 2 0 0), (9, .ptr 3 0 0), (13, .sl 0 0 rs.length none), (14, I rs.length), (15, I a.1)], [.rows false [.i64, .i64] rs, .cells true [I f, I r], .cells true [U occ], .cells true [U a.2]]))
      (fun a => ∃ k : Nat, k ≤ rs.length ∧ a.1 = k ∧ a.2 = (rs.take k).foldl (slideStep f r n occ) 0) (fun a => rs.length - a.1.toNat) (0, 0)
      (Ent.ren [0, 1, 2, 3] [1, 4, 6, 9, 13, 14, 15] rfl rfl rfl) ⟨0, Nat.zero_le _, rfl, rfl⟩ ?_
    rintro ⟨i, set⟩ ⟨k, hk, h1, h2⟩
    dsimp only at h1 h2 ⊢
    refine sat_br (fun hlt => ?_) (fun hlt => ?_)
    · simp only [decide_eq_true_eq] at hlt
      have hki : i.toNat = k := by omega
      refine sat_need (by simp; omega) ?_
      repeat (first | refine sat_self ?_ | refine sat_need (by first | rfl | exact tt1 _ _ | exact tt5 _ _ | exact tt2 _ _ _ | exact tt4 _ _ _ | exact tt6 _ _ _ | exact tt7 _ _ | exact tt8 _ _ _ | exact tt9 _ _ _ | (simp; done) | (simp; omega)) ?_)
      have hstep := take_step rs [] (slideStep f r n occ) 0 (show k < rs.length by omega)
      rw [← h2, ← hki] at hstep
      have hnext : IntKind.i64.wrap (i + 1) = ((k + 1 : Nat) : Int) := by rw [w64_id (by omega) (by omega)]; omega
      generalize hL : rayL f r n ((rs.getD i.toNat []).getD 0 0) ((rs.getD i.toNat []).getD 1 0) = L
      refine sat_range hE 2 9 [5, 6, 7, 8] [1, 4, 6, 9, 13, 14, 15] (Ent.ren [0, 1, 2, 3, 4, 5, 6, 7, 8] [1, 4, 6, 9, 13, 14, 15, 25] rfl rfl rfl) (ray_sq f r n ((rs.getD i.toNat []).getD 0 0) ((rs.getD i.toNat []).getD 1 0)) rayV_len ray_ent rfl rfl rfl rfl rfl rfl
        (fun j hp' => ∃ s, slideGo occ (L.drop j) s = slideGo occ L set ∧ hp' = [.rows false [.i64, .i64] rs, .cells true [I f, I r], .cells true [U occ], .cells true [U s], .cells true [I ((rs.getD i.toNat []).getD 0 0), I ((rs.getD i.toNat []).getD 1 0)], .cells true [I f, I r], .cells true [I n], .cells true [I ((rs.getD i.toNat []).getD 0 0)], .cells true [I ((rs.getD i.toNat []).getD 1 0)]])
        (fun e hp' => e = .exit 2 ∧ ∃ s, s = slideGo occ L set ∧ hp' = [.rows false [.i64, .i64] rs, .cells true [I f, I r], .cells true [U occ], .cells true [U s], .cells true [I ((rs.getD i.toNat []).getD 0 0), I ((rs.getD i.toNat []).getD 1 0)], .cells true [I f, I r], .cells true [I n], .cells true [I ((rs.getD i.toNat []).getD 0 0)], .cells true [I ((rs.getD i.toNat []).getD 1 0)]])
        ⟨set, rfl, rfl⟩ ?_ ?_ ?_ ?_ ?_
      · rintro j hp' ⟨s, _, rfl⟩; rfl
      · rintro e hp' ⟨_, s, _, rfl⟩; rfl
      · rintro j vs hp' hi ⟨s, hs, rfl⟩
        obtain ⟨x, hx, rfl, x0, x1⟩ := rayL_get hi
        rw [hL] at hx
        rw [slideGo_at hx] at hs
        refine sat_ret ⟨rfl, ?_⟩
        repeat (first | refine sat_self ?_ | refine sat_need (by first | rfl | exact tt1 _ _ | exact tt5 _ _ | exact tt2 _ _ _ | exact tt4 _ _ _ | exact tt6 _ _ _ | exact tt7 _ _ | exact tt8 _ _ _ | exact tt9 _ _ _ | (simp; done) | (simp; omega)) ?_)
        refine sat_br (fun h2 => ?_) (fun h2 => ?_)
        · have h2 : decide (uand (ushr occ x) 1 = 1) = true := h2
          rw [h2, cond_true] at hs
          exact sat_ret ⟨_, Ent.ren [0, 1, 2, 3, 4, 5, 6, 7, 8] [] rfl rfl rfl, rfl, _, hs, rfl⟩
        · have h2 : decide (uand (ushr occ x) 1 = 1) = false := h2
          rw [h2, cond_false] at hs
          exact sat_ret ⟨_, Ent.ren [0, 1, 2, 3, 4, 5, 6, 7, 8] [] rfl rfl rfl, _, hs, rfl⟩
      · rintro hp' ⟨s, hs, rfl⟩
        rw [rayV_length, hL, List.drop_length] at hs
        have hs : s = slideGo occ L set := hs
        refine sat_ret ⟨(_, _), ⟨k + 1, by omega, hnext, ?_⟩, ?_, Ent.ren [0, 1, 2, 3] [1, 4, 6, 9, 13, 14, 15] rfl rfl rfl⟩
        · rw [← hki, hstep, slideStep, hL]; exact hs
        · show _ - (IntKind.i64.wrap (i + 1)).toNat < _
          rw [hnext]; omega
      · rintro e hp' ⟨rfl, s, hs, rfl⟩
        refine sat_ret ⟨(_, _), ⟨k + 1, by omega, hnext, ?_⟩, ?_, Ent.ren [0, 1, 2, 3] [1, 4, 6, 9, 13, 14, 15] rfl rfl rfl⟩
        · rw [← hki, hstep, slideStep, hL]; exact hs
        · show _ - (IntKind.i64.wrap (i + 1)).toNat < _
          rw [hnext]; omega
    · simp only [decide_eq_false_iff_not] at hlt
      obtain rfl : k = rs.length := by omega
      rw [List.take_length] at h2
      exact sat_ret (sat_ret (fin_val (.inr rfl) rfl rfl rfl (by rw [h2]; rfl)))
  · cases e

end Go.Ab

namespace Go.Ab
open Go.Proofs
def reachR (f r kd n occ : Int) : Int × Int :=
  bif rayOn f r n occ then
    (bif decide (kd = 2) then (leapR f r n leapsT, 0) else bif decide (kd = 3) then (slideR f r n occ diagT, 0) else bif decide (kd = 4) then (slideR f r n occ straT, 0)
     else bif decide (kd = 5) then (uor (slideR f r n occ diagT) (slideR f r n occ straT), 0) else bif decide (kd = 6) then (uor (leapR f r n diagT) (leapR f r n straT), 0) else (0, 2))
  else (0, 2)
def pawnR (f r : Int) (bl : Bool) (n : Int) : Int × Int := bif validB f r n then (leapR f r n [[-1, fwd bl], [1, fwd bl]], 0) else (0, 2)
def one1 (f r : Int) (bl : Bool) (n occ : Int) : Int := uandn (leapR f r n [[0, fwd bl]]) occ
def stepsC (f r : Int) (bl : Bool) (n occ : Int) : Bool := decide (one1 f r bl n occ = 0) || decide (r < 6) || !decide (IntKind.i64.wrap (n.tdiv f) = bif bl then IntKind.i64.wrap (r - 2) else 1)
def stepsR (f r : Int) (bl : Bool) (n occ : Int) : Int × Int :=
  bif rayOn f r n occ then
    (bif stepsC f r bl n occ then (one1 f r bl n occ, 0)
     else (uor (one1 f r bl n occ) (uandn (leapR f r n [[0, IntKind.i64.wrap (2 * fwd bl)]]) occ), 0))
  else (0, 2)
def c_reach : CF
  | [.agg [.int .i64 f, .int .i64 r], .int .i8 kd, .int .i64 n, .int .u64 occ], [] => some (true, .tup [U (reachR f r kd n occ).1, I (reachR f r kd n occ).2], [])
  | _, _ => none
theorem c_reach_ok : CtOk GG PP (22, c_reach) := by
  refine ct_mk Tryd.func22 (by kernel_rfl) rfl fun a0 h0 c0 v0 N0 e hc => ?_
  unfold c_reach at e
  split at e
  · rename_i f r kd n occ
    cases e
    have hE := EE_ok (cts := [(59, c_rayon), (60, c_leap), (61, c_slide)]) (inl := []) ⟨c_rayon_ok, c_leap_ok, c_slide_ok, trivial⟩ trivial
    refine fn_sound hE 2 Tryd.func22 rfl rfl ?_
    repeat (first | refine sat_self ?_ | refine sat_need (by first | rfl | exact tt1 _ _ | exact tt5 _ _ | exact tt2 _ _ _ | exact tt4 _ _ _ | exact tt6 _ _ _ | exact tt7 _ _ | exact tt8 _ _ _ | exact tt9 _ _ _ | (simp; done) | (simp; omega)) ?_)
    refine sat_br (fun h1 => ?_) (fun h1 => ?_)
    · have h1 : rayOn f r n occ = false := by simpa using h1
      exact sat_ret (fin_val (.inr rfl) rfl rfl rfl (by rw [reachR, h1]; rfl))
    have h1 : rayOn f r n occ = true := by simpa using h1
    refine sat_br (fun h2 => ?_) (fun h2 => ?_)
    · repeat (first | refine sat_self ?_ | refine sat_need (by first | rfl | exact tt1 _ _ | exact tt5 _ _ | exact tt2 _ _ _ | exact tt4 _ _ _ | exact tt6 _ _ _ | exact tt7 _ _ | exact tt8 _ _ _ | exact tt9 _ _ _ | (simp; done) | (simp; omega)) ?_)
      exact sat_ret (fin_val (.inr rfl) rfl rfl rfl (by rw [reachR, h1, cond_true, h2]; rfl))
    refine sat_br (fun h3 => ?_) (fun h3 => ?_)
    · repeat (first | refine sat_self ?_ | refine sat_need (by first | rfl | exact tt1 _ _ | exact tt5 _ _ | exact tt2 _ _ _ | exact tt4 _ _ _ | exact tt6 _ _ _ | exact tt7 _ _ | exact tt8 _ _ _ | exact tt9 _ _ _ | (simp; done) | (simp; omega)) ?_)
      exact sat_ret (fin_val (.inr rfl) rfl rfl rfl (by rw [reachR, h1, cond_true, h2, h3]; rfl))
    refine sat_br (fun h4 => ?_) (fun h4 => ?_)
    · repeat (first | refine sat_self ?_ | refine sat_need (by first | rfl | exact tt1 _ _ | exact tt5 _ _ | exact tt2 _ _ _ | exact tt4 _ _ _ | exact tt6 _ _ _ | exact tt7 _ _ | exact tt8 _ _ _ | exact tt9 _ _ _ | (simp; done) | (simp; omega)) ?_)
      exact sat_ret (fin_val (.inr rfl) rfl rfl rfl (by rw [reachR, h1, cond_true, h2, h3, h4]; rfl))
    refine sat_br (fun h5 => ?_) (fun h5 => ?_)
    · repeat (first | refine sat_self ?_ | refine sat_need (by first | rfl | exact tt1 _ _ | exact tt5 _ _ | exact tt2 _ _ _ | exact tt4 _ _ _ | exact tt6 _ _ _ | exact tt7 _ _ | exact tt8 _ _ _ | exact tt9 _ _ _ | (simp; done) | (simp; omega)) ?_)
      exact sat_ret (fin_val (.inr rfl) rfl rfl rfl (by rw [reachR, h1, cond_true, h2, h3, h4, h5]; rfl))
    refine sat_br (fun h6 => ?_) (fun h6 => ?_)
    · repeat (first | refine sat_self ?_ | refine sat_need (by first | rfl | exact tt1 _ _ | exact tt5 _ _ | exact tt2 _ _ _ | exact tt4 _ _ _ | exact tt6 _ _ _ | exact tt7 _ _ | exact tt8 _ _ _ | exact tt9 _ _ _ | (simp; done) | (simp; omega)) ?_)
      exact sat_ret (fin_val (.inr rfl) rfl rfl rfl (by rw [reachR, h1, cond_true, h2, h3, h4, h5, h6]; rfl))
    exact sat_ret (fin_val (.inr rfl) rfl rfl rfl (by rw [reachR, h1, cond_true, h2, h3, h4, h5, h6]; rfl))
  · cases e

def c_pawn : CF
  | [.agg [.int .i64 f, .int .i64 r], .bool bl, .int .i64 n], [] => some (true, .tup [U (pawnR f r bl n).1, I (pawnR f r bl n).2], [])
  | _, _ => none
theorem c_pawn_ok : CtOk GG PP (25, c_pawn) := by
  refine ct_mk Tryd.func25 (by kernel_rfl) rfl fun a0 h0 c0 v0 N0 e hc => ?_
  unfold c_pawn at e
  split at e
  · rename_i f r bl n
    cases e
    have hE := EE_ok (cts := [(63, c_valid), (64, c_forward), (60, c_leap)]) (inl := []) ⟨c_valid_ok, c_forward_ok, c_leap_ok, trivial⟩ trivial
    refine fn_sound hE 2 Tryd.func25 rfl rfl ?_
    repeat (first | refine sat_self ?_ | refine sat_need (by first | rfl | exact tt1 _ _ | exact tt5 _ _ | exact tt2 _ _ _ | exact tt4 _ _ _ | exact tt6 _ _ _ | exact tt7 _ _ | exact tt8 _ _ _ | exact tt9 _ _ _ | (simp; done) | (simp; omega)) ?_)
    refine sat_br (fun h1 => ?_) (fun h1 => ?_)
    · have h1 : validB f r n = false := by simpa using h1
      exact sat_ret (fin_val (.inr rfl) rfl rfl rfl (by rw [pawnR, h1]; rfl))
    have h1 : validB f r n = true := by simpa using h1
    repeat (first | refine sat_self ?_ | refine sat_need (by first | rfl | exact tt1 _ _ | exact tt5 _ _ | exact tt2 _ _ _ | exact tt4 _ _ _ | exact tt6 _ _ _ | exact tt7 _ _ | exact tt8 _ _ _ | exact tt9 _ _ _ | (simp; done) | (simp; omega)) ?_)
    exact sat_ret (fin_val (.inr rfl) rfl rfl rfl (by rw [pawnR, h1]; rfl))
  · cases e

def c_steps : CF
  | [.agg [.int .i64 f, .int .i64 r], .bool bl, .int .i64 n, .int .u64 occ], [] => some (true, .tup [U (stepsR f r bl n occ).1, I (stepsR f r bl n occ).2], [])
  | _, _ => none
theorem c_steps_ok : CtOk GG PP (26, c_steps) := by
  refine ct_mk Tryd.func26 (by kernel_rfl) rfl fun a0 h0 c0 v0 N0 e hc => ?_
  unfold c_steps at e
  split at e
  · rename_i f r bl n occ
    cases e
    have hE := EE_ok (cts := [(59, c_rayon), (60, c_leap), (64, c_forward)]) (inl := []) ⟨c_rayon_ok, c_leap_ok, c_forward_ok, trivial⟩ trivial
    refine fn_sound hE 2 Tryd.func26 rfl rfl ?_
    repeat (first | refine sat_self ?_ | refine sat_need (by first | rfl | exact tt1 _ _ | exact tt5 _ _ | exact tt2 _ _ _ | exact tt4 _ _ _ | exact tt6 _ _ _ | exact tt7 _ _ | exact tt8 _ _ _ | exact tt9 _ _ _ | (simp; done) | (simp; omega)) ?_)
    refine sat_br (fun h1 => ?_) (fun h1 => ?_)
    · have h1 : rayOn f r n occ = false := by simpa using h1
      exact sat_ret (fin_val (.inr rfl) rfl rfl rfl (by rw [stepsR, h1]; rfl))
    have h1 : rayOn f r n occ = true := by simpa using h1
    have hv : validB f r n = true := by simp only [rayOn, Bool.and_eq_true] at h1; exact h1.1
    have hf := vs_bd (valid_vs hv)
    repeat (first | refine sat_self ?_ | refine sat_need (by first | rfl | exact tt1 _ _ | exact tt5 _ _ | exact tt2 _ _ _ | exact tt4 _ _ _ | exact tt6 _ _ _ | exact tt7 _ _ | exact tt8 _ _ _ | exact tt9 _ _ _ | (simp; done) | (simp; omega)) ?_)
    refine sat_br (fun h2 => ?_) (fun h2 => ?_)
    · subst h2
      repeat (first | refine sat_self ?_ | refine sat_need (by first | rfl | exact tt1 _ _ | exact tt5 _ _ | exact tt2 _ _ _ | exact tt4 _ _ _ | exact tt6 _ _ _ | exact tt7 _ _ | exact tt8 _ _ _ | exact tt9 _ _ _ | (simp; done) | (simp; omega)) ?_)
      refine sat_br (fun h3 => ?_) (fun h3 => ?_)
      · have h3 : stepsC f r true n occ = true := h3
        exact sat_ret (fin_val (.inr rfl) rfl rfl rfl (by rw [stepsR, h1, cond_true, h3]; rfl))
      · have h3 : stepsC f r true n occ = false := h3
        repeat (first | refine sat_self ?_ | refine sat_need (by first | rfl | exact tt1 _ _ | exact tt5 _ _ | exact tt2 _ _ _ | exact tt4 _ _ _ | exact tt6 _ _ _ | exact tt7 _ _ | exact tt8 _ _ _ | exact tt9 _ _ _ | (simp; done) | (simp; omega)) ?_)
        exact sat_ret (fin_val (.inr rfl) rfl rfl rfl (by rw [stepsR, h1, cond_true, h3]; rfl))
    · subst h2
      repeat (first | refine sat_self ?_ | refine sat_need (by first | rfl | exact tt1 _ _ | exact tt5 _ _ | exact tt2 _ _ _ | exact tt4 _ _ _ | exact tt6 _ _ _ | exact tt7 _ _ | exact tt8 _ _ _ | exact tt9 _ _ _ | (simp; done) | (simp; omega)) ?_)
      refine sat_br (fun h3 => ?_) (fun h3 => ?_)
      · have h3 : stepsC f r false n occ = true := h3
        exact sat_ret (fin_val (.inr rfl) rfl rfl rfl (by rw [stepsR, h1, cond_true, h3]; rfl))
      · have h3 : stepsC f r false n occ = false := h3
        repeat (first | refine sat_self ?_ | refine sat_need (by first | rfl | exact tt1 _ _ | exact tt5 _ _ | exact tt2 _ _ _ | exact tt4 _ _ _ | exact tt6 _ _ _ | exact tt7 _ _ | exact tt8 _ _ _ | exact tt9 _ _ _ | (simp; done) | (simp; omega)) ?_)
        exact sat_ret (fin_val (.inr rfl) rfl rfl rfl (by rw [stepsR, h1, cond_true, h3]; rfl))
  · cases e

end Go.Ab

namespace Go.Ab
open Go.Proofs
def numB (f r x y : Int) : Bool := decide (x < 0) || decide (f ≤ x) || decide (y < 0) || decide (r ≤ y)
def numR (f r x y : Int) : Int := bif numB f r x y then -1 else IntKind.i64.wrap (IntKind.i64.wrap (y * f) + x)
def hasB (s n : Int) : Bool := decide (0 ≤ n) && decide (n < 64) && decide ((ushr s n).tmod 2 = 1)
def c_Size : CF
  | [.agg [.int .i64 f, .int .i64 r]], [] => some (true, .bool (vsB f r), [])
  | _, _ => none
theorem c_Size_ok : CtOk GG PP (56, c_Size) := by
  refine ct_mk Tryd.func56 (by kernel_rfl) rfl fun a0 h0 c0 v0 N0 e hc => ?_
  unfold c_Size at e
  split at e
  · rename_i f r
    cases e
    have hE := EE_ok (cts := []) (inl := []) trivial trivial
    refine fn_sound hE 2 Tryd.func56 rfl rfl ?_
    repeat (first | refine sat_self ?_ | refine sat_need (by first | rfl | exact tt1 _ _ | exact tt5 _ _ | exact tt2 _ _ _ | exact tt4 _ _ _ | exact tt6 _ _ _ | exact tt7 _ _ | exact tt8 _ _ _ | exact tt9 _ _ _ | (simp; done) | (simp; omega)) ?_)
    exact sat_ret (fin_val (.inr rfl) rfl rfl rfl (by simp [vsB, sideB, Bool.and_assoc]))
  · cases e

def c_Valid : CF
  | [.agg [.int .i64 f, .int .i64 r], .int .i64 n], [] => some (true, .bool (validB f r n), [])
  | _, _ => none
theorem c_Valid_ok : CtOk GG PP (18, c_Valid) := by
  refine ct_mk Tryd.func18 (by kernel_rfl) rfl fun a0 h0 c0 v0 N0 e hc => ?_
  unfold c_Valid at e
  split at e
  · rename_i f r n
    cases e
    have hE := EE_ok (cts := [(56, c_Size)]) (inl := []) ⟨c_Size_ok, trivial⟩ trivial
    refine fn_sound hE 2 Tryd.func18 rfl rfl ?_
    repeat (first | refine sat_self ?_ | refine sat_need (by first | rfl | exact tt1 _ _ | exact tt5 _ _ | exact tt2 _ _ _ | exact tt4 _ _ _ | exact tt6 _ _ _ | exact tt7 _ _ | exact tt8 _ _ _ | exact tt9 _ _ _ | (simp; done) | (simp; omega)) ?_)
    exact sat_ret (fin_val (.inr rfl) rfl rfl rfl rfl)
  · cases e

def c_Number : CF
  | [.agg [.int .i64 f, .int .i64 r], .int .i64 x, .int .i64 y], [] => some (true, .int .i64 (numR f r x y), [])
  | _, _ => none
theorem c_Number_ok : CtOk GG PP (48, c_Number) := by
  refine ct_mk Tryd.func48 (by kernel_rfl) rfl fun a0 h0 c0 v0 N0 e hc => ?_
  unfold c_Number at e
  split at e
  · rename_i f r x y
    cases e
    have hE := EE_ok (cts := []) (inl := []) trivial trivial
    refine fn_sound hE 2 Tryd.func48 rfl rfl ?_
    repeat (first | refine sat_self ?_ | refine sat_need (by first | rfl | exact tt1 _ _ | exact tt5 _ _ | exact tt2 _ _ _ | exact tt4 _ _ _ | exact tt6 _ _ _ | exact tt7 _ _ | exact tt8 _ _ _ | exact tt9 _ _ _ | (simp; done) | (simp; omega)) ?_)
    refine sat_br (fun h1 => ?_) (fun h1 => ?_)
    · have h1 : numB f r x y = true := h1
      exact sat_ret (fin_val (.inr rfl) rfl rfl rfl (by rw [numR, h1]; rfl))
    · have h1 : numB f r x y = false := h1
      exact sat_ret (fin_val (.inr rfl) rfl rfl rfl (by rw [numR, h1]; rfl))
  · cases e

def c_Place : CF
  | [.agg [.int .i64 f, .int .i64 _r], .int .i64 n], [] => some (!decide (f = 0), .agg [I (n.tmod f), I (IntKind.i64.wrap (n.tdiv f))], [])
  | _, _ => none
theorem c_Place_ok : CtOk GG PP (47, c_Place) := by
  refine ct_mk Tryd.func47 (by kernel_rfl) rfl fun a0 h0 c0 v0 N0 e hc => ?_
  unfold c_Place at e
  split at e
  · rename_i f r n
    cases e
    have hE := EE_ok (cts := []) (inl := []) trivial trivial
    refine fn_sound hE 2 Tryd.func47 rfl rfl ?_
    have hc : ¬ f = 0 := by simpa using hc
    repeat (first | refine sat_self ?_ | refine sat_need (by first | rfl | exact tt1 _ _ | exact tt5 _ _ | exact tt2 _ _ _ | exact tt4 _ _ _ | exact tt6 _ _ _ | exact tt7 _ _ | exact tt8 _ _ _ | exact tt9 _ _ _ | (simp; done) | (simp; omega)) ?_)
    exact sat_ret (fin_val (.inr rfl) rfl rfl rfl rfl)
  · cases e

def c_Has : CF
  | [.int .u64 s, .int .i64 n], [] => some (true, .bool (hasB s n), [])
  | _, _ => none
theorem c_Has_ok : CtOk GG PP (58, c_Has) := by
  refine ct_mk Tryd.func58 (by kernel_rfl) rfl fun a0 h0 c0 v0 N0 e hc => ?_
  unfold c_Has at e
  split at e
  · rename_i s n
    cases e
    have hE := EE_ok (cts := []) (inl := []) trivial trivial
    refine fn_sound hE 2 Tryd.func58 rfl rfl ?_
    repeat (first | refine sat_self ?_ | refine sat_need (by first | rfl | exact tt1 _ _ | exact tt5 _ _ | exact tt2 _ _ _ | exact tt4 _ _ _ | exact tt6 _ _ _ | exact tt7 _ _ | exact tt8 _ _ _ | exact tt9 _ _ _ | (simp; done) | (simp; omega)) ?_)
    exact sat_ret (fin_val (.inr rfl) rfl rfl rfl rfl)
  · cases e

def listB (s : Int) (k : Nat) : List Int := ((List.range k).map Int.ofNat).filter fun x => hasB s x
theorem listB_succ (s : Int) (k : Nat) : listB s (k + 1) = bif hasB s k then listB s k ++ [(k : Int)] else listB s k := by
  unfold listB
  rw [List.range_succ, List.map_append, List.filter_append]
  cases h : hasB s (k : Int) <;> simp [h]
theorem listB_len (s : Int) (k : Nat) : (listB s k).length ≤ k := by
  unfold listB
  exact Nat.le_trans (List.length_filter_le _ _) (by simp)
def ofL : List Int → Int → Int
  | [], s => s
  | x :: l, s => ofL l (bif hasB s x then s else IntKind.u64.wrap (s + ushl 1 x))
theorem ofL_at {l : List Int} {i : Nat} {x s : Int} (h : l[i]? = some x) : ofL (l.drop i) s = ofL (l.drop (i + 1)) (bif hasB s x then s else IntKind.u64.wrap (s + ushl 1 x)) := by
  obtain ⟨h1, h2⟩ := List.getElem?_eq_some_iff.1 h
  rw [List.drop_eq_getElem_cons h1, h2, ofL]
def c_List : CF
  | [.int .u64 s], [] => some (true, .sl 0 0 (listB s 64).length none, [.ints true .i64 (listB s 64)])
  | _, _ => none
theorem c_List_ok : CtOk GG PP (46, c_List) := by
  refine ct_mk Tryd.func46 (by kernel_rfl) rfl fun a0 h0 c0 v0 N0 e hc => ?_
  unfold c_List at e
  split at e
  · rename_i s
    cases e
    have hE := EE_ok (cts := [(58, c_Has)]) (inl := []) ⟨c_Has_ok, trivial⟩ trivial
    refine fn_sound hE 2 Tryd.func46 rfl rfl ?_
    refine sat_for hE 2 (fun a : Int × List Int => ([(0, U s), (3, .sl 0 0 a.2.length none), (4, I a.1)], [.ints true .i64 a.2]))
      (fun a => ∃ k : Nat, k ≤ 64 ∧ a.1 = k ∧ a.2 = listB s k) (fun a => 64 - a.1.toNat) (0, [])
      ((Ent.phanT (t := 3) (o := .ints true .i64 []) rfl ⟨by simp, by simp, trivial, rfl⟩ (by decide)).trans (Ent.ren [0] [0, 3, 4] rfl rfl rfl)) ⟨0, by omega, rfl, rfl⟩ ?_
    rintro ⟨i, zs⟩ ⟨k, hk, h1, h3⟩
    dsimp only at h1 h3 ⊢
    have hb := listB_len s k
    rw [← h3] at hb
    refine sat_br (fun hlt => ?_) (fun hlt => ?_)
    · simp only [decide_eq_true_eq] at hlt
      have hnext : IntKind.i64.wrap (i + 1) = ((k + 1 : Nat) : Int) := by rw [w64_id (by omega) (by omega)]; omega
      have hs := listB_succ s k
      rw [← h3, ← h1] at hs
      repeat (first | refine sat_self ?_ | refine sat_need (by first | rfl | exact tt1 _ _ | exact tt5 _ _ | exact tt2 _ _ _ | exact tt4 _ _ _ | exact tt6 _ _ _ | exact tt7 _ _ | exact tt8 _ _ _ | exact tt9 _ _ _ | (simp; done) | (simp; omega)) ?_)
      refine sat_br (fun hon => ?_) (fun hon => ?_)
      · rw [hon, cond_true] at hs
        refine sat_need (b := decide (zs.length = zs.length) && decide ((zs.length + 1) * 8 ≤ 140737488355328) && true) (by simp; omega) ?_
        refine sat_ret ⟨(IntKind.i64.wrap (i + 1), zs ++ [i]), ⟨k + 1, by omega, hnext, hs.symm⟩, ?_, Ent.ren [2] [0, 3, 4] rfl rfl rfl⟩
        show _ - (IntKind.i64.wrap (i + 1)).toNat < _
        rw [hnext]; omega
      · rw [hon, cond_false] at hs
        repeat (first | refine sat_self ?_ | refine sat_need (by first | rfl | exact tt1 _ _ | exact tt5 _ _ | exact tt2 _ _ _ | exact tt4 _ _ _ | exact tt6 _ _ _ | exact tt7 _ _ | exact tt8 _ _ _ | exact tt9 _ _ _ | (simp; done) | (simp; omega)) ?_)
        refine sat_ret ⟨(IntKind.i64.wrap (i + 1), zs), ⟨k + 1, by omega, hnext, hs.symm⟩, ?_, Ent.ren [0] [0, 3, 4] rfl rfl rfl⟩
        show _ - (IntKind.i64.wrap (i + 1)).toNat < _
        rw [hnext]; omega
    · simp only [decide_eq_false_iff_not] at hlt
      obtain rfl : k = 64 := by omega
      refine sat_ret (sat_ret (fin_new 0 (.inr rfl) rfl rfl rfl rfl (by rw [← h3]; rfl) (by rw [← h3]; rfl)))
  · cases e

def c_Of : CF
  | [.sl 0 0 len none], [.ints false .i64 zs] => some (decide (len = zs.length) && decide (zs.length ≤ 1000000) && zs.all fun x => decide (0 ≤ x), .int .u64 (ofL zs 0), [])
  | _, _ => none
theorem c_Of_ok : CtOk GG PP (20, c_Of) := by
  refine ct_mk Tryd.func20 (by kernel_rfl) rfl fun a0 h0 c0 v0 N0 e hc => ?_
  unfold c_Of at e
  split at e
  · rename_i len zs
    cases e
    have hE := EE_ok (cts := [(58, c_Has)]) (inl := []) ⟨c_Has_ok, trivial⟩ trivial
    refine fn_sound hE 2 Tryd.func20 rfl rfl ?_
    simp only [Bool.and_eq_true, decide_eq_true_eq, List.all_eq_true] at hc
    obtain ⟨⟨hc1, hc2⟩, hc3⟩ := hc
    subst hc1
    refine sat_for hE 2 (fun a : Int × Int => ([(0, .sl 0 0 zs.length none), (3, U a.2), (4, I a.1)], [.ints false .i64 zs]))
      (fun a => ∃ k : Nat, k ≤ zs.length ∧ a.1 = k ∧ ofL (zs.drop k) a.2 = ofL zs 0) (fun a => zs.length - a.1.toNat) (0, 0)
      (Ent.ren [0] [0, 3, 4] rfl rfl rfl) ⟨0, by omega, rfl, rfl⟩ ?_
    rintro ⟨i, set⟩ ⟨k, hk, h1, h2⟩
    dsimp only at h1 h2 ⊢
    refine sat_br (fun hlt => ?_) (fun hlt => ?_)
    · simp only [decide_eq_true_eq] at hlt
      have hnext : IntKind.i64.wrap (i + 1) = ((k + 1 : Nat) : Int) := by rw [w64_id (by omega) (by omega)]; omega
      have hki : i.toNat = k := by omega
      have hlt' : k < zs.length := by omega
      have hget : zs[k]? = some (zs.getD i.toNat 0) := by simp [hki, List.getD, hlt']
      have hmem := hc3 _ (List.mem_of_getElem? hget)
      rw [ofL_at hget] at h2
      refine sat_need (by simp; omega) ?_
      repeat (first | refine sat_self ?_ | refine sat_need (by first | rfl | exact tt1 _ _ | exact tt5 _ _ | exact tt2 _ _ _ | exact tt4 _ _ _ | exact tt6 _ _ _ | exact tt7 _ _ | exact tt8 _ _ _ | exact tt9 _ _ _ | (simp; done) | (simp; omega)) ?_)
      refine sat_br (fun hon => ?_) (fun hon => ?_)
      · have hon : (!hasB set (zs.getD i.toNat 0)) = true := hon
        rw [Bool.not_eq_true'] at hon
        rw [hon, cond_false] at h2
        repeat (first | (first | refine sat_self ?_ | refine sat_need (by first | rfl | exact tt1 _ _ | exact tt5 _ _ | exact tt2 _ _ _ | exact tt4 _ _ _ | exact tt6 _ _ _ | exact tt7 _ _ | exact tt8 _ _ _ | exact tt9 _ _ _ | (simp; done) | (simp; omega)) ?_) | refine sat_need (decide_eq_true hmem) ?_)
        refine sat_ret ⟨(IntKind.i64.wrap (i + 1), _), ⟨k + 1, by omega, hnext, h2⟩, ?_, Ent.ren [0] [0, 3, 4] rfl rfl rfl⟩
        show _ - (IntKind.i64.wrap (i + 1)).toNat < _
        rw [hnext]; omega
      · have hon : (!hasB set (zs.getD i.toNat 0)) = false := hon
        rw [Bool.not_eq_false'] at hon
        repeat (first | refine sat_self ?_ | refine sat_need (by first | rfl | exact tt1 _ _ | exact tt5 _ _ | exact tt2 _ _ _ | exact tt4 _ _ _ | exact tt6 _ _ _ | exact tt7 _ _ | exact tt8 _ _ _ | exact tt9 _ _ _ | (simp; done) | (simp; omega)) ?_)
        rw [hon, cond_true] at h2
        refine sat_ret ⟨(IntKind.i64.wrap (i + 1), _), ⟨k + 1, by omega, hnext, h2⟩, ?_, Ent.ren [0] [0, 3, 4] rfl rfl rfl⟩
        show _ - (IntKind.i64.wrap (i + 1)).toNat < _
        rw [hnext]; omega
    · simp only [decide_eq_false_iff_not] at hlt
      obtain rfl : k = zs.length := by omega
      rw [List.drop_length] at h2
      exact sat_ret (sat_ret (fin_val (.inr rfl) rfl rfl rfl (by rw [← h2]; rfl)))
  · cases e

end Go.Ab

namespace Go.Ab
open Go.Proofs
def refGo (f r df dr px py : Int) : Nat → Int → List Int
  | 0, _ => []
  | m + 1, k => bif decide (numR f r (IntKind.i64.wrap (px + IntKind.i64.wrap (k * df))) (IntKind.i64.wrap (py + IntKind.i64.wrap (k * dr))) < 0) then [] else numR f r (IntKind.i64.wrap (px + IntKind.i64.wrap (k * df))) (IntKind.i64.wrap (py + IntKind.i64.wrap (k * dr))) :: refGo f r df dr px py m (IntKind.i64.wrap (k + 1))
def refRay (f r n df dr : Int) : List Int := bif !validB f r n || (decide (df = 0) && decide (dr = 0)) then [] else refGo f r df dr (n.tmod f) (IntKind.i64.wrap (n.tdiv f)) 8 1
theorem refGo_len (f r df dr px py : Int) (m : Nat) : ∀ k, (refGo f r df dr px py m k).length ≤ m := by
  induction m with
  | zero => intro k; simp [refGo]
  | succ m ih =>
    intro k
    rw [refGo]
    cases decide (numR f r (IntKind.i64.wrap (px + IntKind.i64.wrap (k * df))) (IntKind.i64.wrap (py + IntKind.i64.wrap (k * dr))) < 0) with
    | true => simp
    | false => have := ih (IntKind.i64.wrap (k + 1)); simp; omega
theorem refRay_len (f r n df dr : Int) : (refRay f r n df dr).length ≤ 8 := by
  unfold refRay
  cases (!validB f r n || (decide (df = 0) && decide (dr = 0))) with
  | true => simp
  | false => exact refGo_len ..
def c_refRay : CF
  | [.agg [.int .i64 f, .int .i64 r], .int .i64 n, .int .i64 df, .int .i64 dr], [] => some (true, .sl 0 0 (refRay f r n df dr).length none, [.ints true .i64 (refRay f r n df dr)])
  | _, _ => none
theorem c_refRay_ok : CtOk GG PP (13, c_refRay) := by
  refine ct_mk Tryd.func13 (by kernel_rfl) rfl fun a0 h0 c0 v0 N0 e hc => ?_
  unfold c_refRay at e
  split at e
  · rename_i f r n df dr
    cases e
    have hE := EE_ok (cts := [(18, c_Valid), (47, c_Place), (48, c_Number)]) (inl := []) ⟨c_Valid_ok, c_Place_ok, c_Number_ok, trivial⟩ trivial
    refine fn_soundE hE 2 Tryd.func13 rfl rfl ?_
    repeat (first | refine sat_self ?_ | refine sat_need (by first | rfl | exact tt1 _ _ | exact tt5 _ _ | exact tt2 _ _ _ | exact tt4 _ _ _ | exact tt6 _ _ _ | exact tt7 _ _ | exact tt8 _ _ _ | exact tt9 _ _ _ | (simp; done) | (simp; omega)) ?_)
    refine sat_br (fun h0 => ?_) (fun h0 => ?_)
    · have hz : refRay f r n df dr = [] := by rw [refRay, show (!validB f r n || (decide (df = 0) && decide (dr = 0))) = true from h0]; rfl
      rw [hz]
      exact sat_ret (fin_e ((Ent.phanT (t := 8) (o := .ints true .i64 []) rfl ⟨by simp, by simp, trivial, rfl⟩ (blt_lt rfl))) (fin_new 1 (.inr rfl) rfl rfl rfl rfl rfl rfl))
    have hz : refRay f r n df dr = refGo f r df dr (n.tmod f) (IntKind.i64.wrap (n.tdiv f)) 8 1 := by rw [refRay, show (!validB f r n || (decide (df = 0) && decide (dr = 0))) = false from h0]; rfl
    have hv : validB f r n = true := by cases h : validB f r n <;> simp_all
    have hf := vs_bd (valid_vs hv)
    refine sat_need (by simp; omega) ?_
    refine sat_for hE 2 (fun a : Int × List Int => ([(2, I df), (3, I dr), (4, .ptr 0 0 0), (9, .ptr 1 0 0), (10, .sl 2 0 a.2.length none), (11, I a.1)], [.cells true [I f, I r], .cells true [I (n.tmod f), I (IntKind.i64.wrap (n.tdiv f))], .ints true .i64 a.2]))
      (fun a => ∃ k : Nat, 1 ≤ k ∧ k ≤ 9 ∧ a.1 = k ∧ a.2 ++ refGo f r df dr (n.tmod f) (IntKind.i64.wrap (n.tdiv f)) (9 - k) k = refRay f r n df dr) (fun a => 9 - a.1.toNat) (1, [])
      ((Ent.phanT (t := 10) (o := .ints true .i64 []) rfl ⟨by simp, by simp, trivial, rfl⟩ (blt_lt rfl)).trans (Ent.ren [0, 1, 2] [2, 3, 4, 9, 10, 11] rfl rfl rfl)) ⟨1, by omega, by omega, rfl, hz.symm⟩ ?_
    rintro ⟨i, zs⟩ ⟨k, hk1, hk, h1, h3⟩
    dsimp only at h1 h3 ⊢
    have hb : zs.length ≤ 8 := by have := congrArg List.length h3; have := refRay_len f r n df dr; simp at *; omega
    refine sat_br (fun hlt => ?_) (fun hlt => ?_)
    · simp only [decide_eq_true_eq] at hlt
      have hnext : IntKind.i64.wrap (i + 1) = ((k + 1 : Nat) : Int) := by rw [w64_id (by omega) (by omega)]; omega
      rw [show 9 - k = (9 - (k + 1)) + 1 by omega, refGo, ← h1, hnext] at h3
      repeat (first | refine sat_self ?_ | refine sat_need (by first | rfl | exact tt1 _ _ | exact tt5 _ _ | exact tt2 _ _ _ | exact tt4 _ _ _ | exact tt6 _ _ _ | exact tt7 _ _ | exact tt8 _ _ _ | exact tt9 _ _ _ | (simp; done) | (simp; omega)) ?_)
      refine sat_br (fun hon => ?_) (fun hon => ?_)
      · have hon : decide (numR f r (IntKind.i64.wrap (n.tmod f + IntKind.i64.wrap (i * df))) (IntKind.i64.wrap (IntKind.i64.wrap (n.tdiv f) + IntKind.i64.wrap (i * dr))) < 0) = true := hon
        rw [hon, cond_true, List.append_nil] at h3
        subst h3
        refine sat_ret (sat_ret (fin_0 (fin_new 2 (.inr rfl) rfl rfl rfl rfl rfl rfl)))
      · have hon : decide (numR f r (IntKind.i64.wrap (n.tmod f + IntKind.i64.wrap (i * df))) (IntKind.i64.wrap (IntKind.i64.wrap (n.tdiv f) + IntKind.i64.wrap (i * dr))) < 0) = false := hon
        rw [hon, cond_false] at h3
        refine sat_need (b := decide (zs.length = zs.length) && decide ((zs.length + 1) * 8 ≤ 140737488355328) && true) (by simp; omega) ?_
        refine sat_ret ⟨(IntKind.i64.wrap (i + 1), zs ++ [numR f r (IntKind.i64.wrap (n.tmod f + IntKind.i64.wrap (i * df))) (IntKind.i64.wrap (IntKind.i64.wrap (n.tdiv f) + IntKind.i64.wrap (i * dr)))]), ⟨k + 1, by omega, by omega, hnext, by rw [← h3]; simp⟩, ?_, Ent.ren [0, 1, 4] [2, 3, 4, 9, 10, 11] rfl rfl rfl⟩
        show _ - (IntKind.i64.wrap (i + 1)).toNat < _
        rw [hnext]; omega
    · simp only [decide_eq_false_iff_not] at hlt
      obtain rfl : k = 9 := by omega
      rw [refGo, List.append_nil] at h3
      subst h3
      refine sat_ret (sat_ret (fin_0 (fin_new 2 (.inr rfl) rfl rfl rfl rfl rfl rfl)))
  · cases e

end Go.Ab

namespace Go.Ab
open Go.Proofs
def subS (s : List UInt8) (a b : Int) : List UInt8 := (s.drop a.toNat).take (b.toNat - a.toNat)
def nameS (f _r n : Int) : List UInt8 := subS [97, 98, 99, 100, 101, 102, 103, 104] (n.tmod f) (IntKind.i64.wrap (n.tmod f + 1)) ++ subS [49, 50, 51, 52, 53, 54, 55, 56] (IntKind.i64.wrap (n.tdiv f)) (IntKind.i64.wrap (IntKind.i64.wrap (n.tdiv f) + 1))
theorem quo_bd {f r n : Int} (h : validB f r n = true) : 0 ≤ n.tmod f ∧ n.tmod f < f ∧ 0 ≤ n.tdiv f ∧ n.tdiv f < r ∧ IntKind.i64.wrap (n.tdiv f) = n.tdiv f ∧ IntKind.i64.wrap (n.tmod f + 1) = n.tmod f + 1 ∧ IntKind.i64.wrap (n.tdiv f + 1) = n.tdiv f + 1 := by
  have hp := place_bd h
  simp only [placeR, h, cond_true] at hp
  obtain ⟨a1, a2, a3, a4⟩ := vs_bd (valid_vs h)
  have hv : 0 ≤ n := by simp only [validB, Bool.and_eq_true, decide_eq_true_eq] at h; exact h.1.2
  have e2 : n.tdiv f = n / f := Int.tdiv_eq_ediv_of_nonneg hv
  have e3 : IntKind.i64.wrap (n.tdiv f) = n.tdiv f := by rw [hp.2.2.2.2.2, e2]
  rw [e3] at hp
  refine ⟨hp.1, hp.2.1, hp.2.2.1, hp.2.2.2.1, e3, w64_id (by omega) (by omega), w64_id (by omega) (by omega)⟩
def c_full : CF
  | [], [] => some (true, .agg [I 8, I 8], [])
  | _, _ => none
theorem c_full_ok : CtOk GG PP (52, c_full) := by
  refine ct_mk Tryd.func52 (by kernel_rfl) rfl fun a0 h0 c0 v0 N0 e hc => ?_
  unfold c_full at e
  split at e
  · skip
    cases e
    have hE := EE_ok (cts := []) (inl := []) trivial trivial
    refine fn_sound hE 2 Tryd.func52 rfl rfl ?_
    exact sat_ret (fin_val (.inr rfl) rfl rfl rfl rfl)
  · cases e

def c_Name : CF
  | [.agg [.int .i64 f, .int .i64 r], .int .i64 n], [] => some (validB f r n, .str (nameS f r n), [])
  | _, _ => none
theorem c_Name_ok : CtOk GG PP (95, c_Name) := by
  refine ct_mk Tryd.func95 (by kernel_rfl) rfl fun a0 h0 c0 v0 N0 e hc => ?_
  unfold c_Name at e
  split at e
  · rename_i f r n
    cases e
    have hE := EE_ok (cts := [(47, c_Place)]) (inl := []) ⟨c_Place_ok, trivial⟩ trivial
    refine fn_sound hE 2 Tryd.func95 rfl rfl ?_
    obtain ⟨a1, a2, a3, a4⟩ := vs_bd (valid_vs hc)
    obtain ⟨b1, b2, b3, b4, b5, b6, b7⟩ := quo_bd hc
    refine sat_need (by simp; omega) ?_
    repeat (first | refine sat_self ?_ | refine sat_need (by first | rfl | (simp [b5, b6, b7]; omega)) ?_)
    exact sat_ret (fin_val (.inr rfl) rfl rfl rfl rfl)
  · cases e

def parseGo (f r : Int) (s : List UInt8) : Nat → Nat → Int
  | 0, _ => -1
  | m + 1, k => bif nameS f r k == s then k else parseGo f r s m (k + 1)
def parseR (f r : Int) (s : List UInt8) : Int := parseGo f r s (f * r).toNat 0
def c_Parse : CF
  | [.agg [.int .i64 f, .int .i64 r], .str s], [] => some (vsB f r, .int .i64 (parseR f r s), [])
  | _, _ => none
theorem c_Parse_ok : CtOk GG PP (68, c_Parse) := by
  refine ct_mk Tryd.func68 (by kernel_rfl) rfl fun a0 h0 c0 v0 N0 e hc => ?_
  unfold c_Parse at e
  split at e
  · rename_i f r s
    cases e
    have hE := EE_ok (cts := [(95, c_Name)]) (inl := []) ⟨c_Name_ok, trivial⟩ trivial
    refine fn_sound hE 2 Tryd.func68 rfl rfl ?_
    have hm := mul_bd hc
    have hw := w64_mul hc
    refine sat_for hE 2 (fun a : Int => ([(1, .str s), (2, .ptr 0 0 0), (5, I a)], [.cells true [I f, I r]]))
      (fun a => ∃ k : Nat, k ≤ (f * r).toNat ∧ a = k ∧ parseGo f r s ((f * r).toNat - k) k = parseR f r s) (fun a => (f * r).toNat - a.toNat) 0
      (Ent.ren [0] [1, 2, 5] rfl rfl rfl) ⟨0, by omega, rfl, rfl⟩ ?_
    rintro i ⟨k, hk, h1, h3⟩
    dsimp only at h1 h3 ⊢
    refine sat_br (fun hlt => ?_) (fun hlt => ?_)
    · simp only [decide_eq_true_eq] at hlt
      rw [hw] at hlt
      have hnext : IntKind.i64.wrap (i + 1) = ((k + 1 : Nat) : Int) := by rw [w64_id (by omega) (by omega)]; omega
      rw [show (f * r).toNat - k = ((f * r).toNat - (k + 1)) + 1 by omega, parseGo, ← h1] at h3
      refine sat_need (by simp only [validB, Bool.and_eq_true, decide_eq_true_eq]; rw [hw]; exact ⟨⟨hc, by omega⟩, hlt⟩) ?_
      refine sat_br (fun hon => ?_) (fun hon => ?_)
      · have hon : (nameS f r i == s) = true := hon
        rw [hon, cond_true] at h3
        refine sat_ret (sat_ret (fin_val (.inr rfl) rfl rfl rfl (by rw [← h3])))
      · have hon : (nameS f r i == s) = false := hon
        rw [hon, cond_false] at h3
        refine sat_ret ⟨IntKind.i64.wrap (i + 1), ⟨k + 1, by omega, hnext, h3⟩, ?_, Ent.ren [0] [1, 2, 5] rfl rfl rfl⟩
        show _ - (IntKind.i64.wrap (i + 1)).toNat < _
        rw [hnext]; omega
    · simp only [decide_eq_false_iff_not] at hlt
      rw [hw] at hlt
      obtain rfl : k = (f * r).toNat := by omega
      rw [Nat.sub_self, parseGo] at h3
      refine sat_ret (sat_ret (fin_val (.inr rfl) rfl rfl rfl (by rw [← h3])))
  · cases e

def c_at4 : CF
  | [.str s], [] => some (true, .int .i64 (parseR 8 8 s), [])
  | _, _ => none
theorem c_at4_ok : CtOk GG PP (53, c_at4) := by
  refine ct_mk Tryd.func53 (by kernel_rfl) rfl fun a0 h0 c0 v0 N0 e hc => ?_
  unfold c_at4 at e
  split at e
  · rename_i s
    cases e
    have hE := EE_ok (cts := [(52, c_full), (68, c_Parse)]) (inl := []) ⟨c_full_ok, c_Parse_ok, trivial⟩ trivial
    refine fn_sound hE 2 Tryd.func53 rfl rfl ?_
    repeat (first | refine sat_self ?_ | refine sat_need (by first | rfl | exact tt1 _ _ | exact tt5 _ _ | exact tt2 _ _ _ | exact tt4 _ _ _ | exact tt6 _ _ _ | exact tt7 _ _ | exact tt8 _ _ _ | exact tt9 _ _ _ | (simp; done) | (simp; omega)) ?_)
    exact sat_ret (fin_val (.inr rfl) rfl rfl rfl rfl)
  · cases e

def setL (s : List UInt8) : Nat → Int → List Int
  | 0, _ => []
  | m + 1, k => parseR 8 8 (subS s k (IntKind.i64.wrap (k + 2))) :: setL s m (IntKind.i64.wrap (k + 2))
def setR (s : List UInt8) : Int := ofL (setL s (s.length / 2) 0) 0
theorem setL_len (s : List UInt8) : ∀ m k, (setL s m k).length = m
  | 0, _ => rfl
  | m + 1, k => by rw [setL, List.length_cons, setL_len s m]
def c_set4 : CF
  | [.str s], [] => some (decide (s.length ≤ 1000) && ((setL s (s.length / 2) 0).all fun x => decide (0 ≤ x)), .int .u64 (setR s), [])
  | _, _ => none
theorem c_set4_ok : CtOk GG PP (54, c_set4) := by
  refine ct_mk Tryd.func54 (by kernel_rfl) rfl fun a0 h0 c0 v0 N0 e hc => ?_
  unfold c_set4 at e
  split at e
  · rename_i s
    cases e
    have hE := EE_ok (cts := [(52, c_full), (68, c_Parse), (20, c_Of)]) (inl := []) ⟨c_full_ok, c_Parse_ok, c_Of_ok, trivial⟩ trivial
    refine fn_sound hE 2 Tryd.func54 rfl rfl ?_
    simp only [Bool.and_eq_true, decide_eq_true_eq] at hc
    obtain ⟨hc1, hc2⟩ := hc
    refine sat_for hE 2 (fun a : Int × List Int => ([(0, .str s), (3, .sl 0 0 a.2.length none), (4, I a.1)], [.ints true .i64 a.2]))
      (fun a => ∃ k : Nat, k ≤ s.length / 2 ∧ a.1 = 2 * k ∧ a.2 ++ setL s (s.length / 2 - k) a.1 = setL s (s.length / 2) 0) (fun a => s.length + 1 - a.1.toNat) (0, [])
      ((Ent.phanT (t := 3) (o := .ints true .i64 []) rfl ⟨by simp, by simp, trivial, rfl⟩ (blt_lt rfl)).trans (Ent.ren [0] [0, 3, 4] rfl rfl rfl)) ⟨0, by omega, rfl, rfl⟩ ?_
    rintro ⟨i, zs⟩ ⟨k, hk, h1, h3⟩
    dsimp only at h1 h3 ⊢
    have hb : zs.length ≤ 1000 := by have := congrArg List.length h3; simp [setL_len] at this; omega
    have hi1 : IntKind.i64.wrap (i + 1) = i + 1 := w64_id (by omega) (by omega)
    have hi2 : IntKind.i64.wrap (i + 2) = i + 2 := w64_id (by omega) (by omega)
    refine sat_br (fun hlt => ?_) (fun hlt => ?_)
    · simp only [decide_eq_true_eq] at hlt
      rw [hi1] at hlt
      rw [show s.length / 2 - k = (s.length / 2 - (k + 1)) + 1 by omega, setL] at h3
      repeat (refine sat_need (by rfl) ?_)
      refine sat_need (by rw [hi2]; simp; omega) ?_
      repeat (first | refine sat_self ?_ | refine sat_need (by first | rfl | exact tt1 _ _ | exact tt5 _ _ | exact tt2 _ _ _ | exact tt4 _ _ _ | exact tt6 _ _ _ | exact tt7 _ _ | exact tt8 _ _ _ | exact tt9 _ _ _ | (simp; done) | (simp; omega)) ?_)
      refine sat_need (b := decide (zs.length = zs.length) && decide ((zs.length + 1) * 8 ≤ 140737488355328) && true) (by simp; omega) ?_
      refine sat_ret ⟨(IntKind.i64.wrap (i + 2), zs ++ [parseR 8 8 (subS s i (IntKind.i64.wrap (i + 2)))]), ⟨k + 1, by omega, by rw [hi2]; omega, by rw [← h3]; simp⟩, ?_, Ent.ren [2] [0, 3, 4] rfl rfl rfl⟩
      show _ - (IntKind.i64.wrap (i + 2)).toNat < _
      rw [hi2]; omega
    · simp only [decide_eq_false_iff_not] at hlt
      rw [hi1] at hlt
      have hk2 : s.length / 2 - k = 0 := by omega
      rw [hk2, setL, List.append_nil] at h3
      subst h3
      refine sat_ret ?_
      show sat _ _ _ _
      generalize hZ : setL s (s.length / 2) 0 = Z at *
      have hz : (Z.drop 0).take Z.length = Z := by simp
      refine sat_need (b := decide (Z.length = ((Z.drop 0).take Z.length).length) && decide (((Z.drop 0).take Z.length).length ≤ 1000000) && ((Z.drop 0).take Z.length).all fun x => decide (0 ≤ x)) (by rw [hz]; simp only [hc2, decide_true, Bool.and_true, Bool.true_and, decide_eq_true_eq]; omega) ?_
      exact sat_ret (fin_val (.inr rfl) rfl rfl rfl (by rw [setR, hZ]; show V.int _ (ofL ((Z.drop 0).take Z.length) 0) = _; rw [hz]))
  · cases e

end Go.Ab

namespace Go.Ab
open Go.Proofs
def kst (l : List O) : List O := [.cells true [.lit false], .cells true [I 8, I 8], .cells true [I 0], .cells true [I 1], .cells true [I 1], .cells true [I 8, I 8], .cells true [I (parseR 8 8 [103, 55])], .cells true [I 1], .cells true [I 1],
  .cells true [I 8, I 8], .cells true [I 0], .cells true [I 0], .cells true [I 0]] ++ l
theorem kn1 : rayL 8 8 0 1 1 = [9, 18, 27, 36, 45, 54, 63] := by decide +kernel
theorem kn2 : rayL 8 8 (parseR 8 8 [103, 55]) 1 1 = [63] := by decide +kernel
theorem kn3 : rayL 8 8 0 0 0 = [] := by decide +kernel
def c_known4 : CF
  | [], [] => some (true, .bool true, [])
  | _, _ => none
theorem c_known4_ok : CtOk GG PP (15, c_known4) := by
  refine ct_mk Tryd.func15 (by kernel_rfl) rfl fun a0 h0 c0 v0 N0 e hc => ?_
  unfold c_known4 at e
  split at e
  · skip
    cases e
    have hE := EE_ok (cts := [(52, c_full), (53, c_at4), (54, c_set4), (16, c_betw), (17, c_dir), (22, c_reach), (25, c_pawn), (26, c_steps)]) (inl := [(14, Tryd.f14)]) ⟨c_full_ok, c_at4_ok, c_set4_ok, c_betw_ok, c_dir_ok, c_reach_ok, c_pawn_ok, c_steps_ok, trivial⟩ ⟨⟨Tryd.func14, by kernel_rfl⟩, trivial⟩
    refine fn_sound hE 2 Tryd.func15 rfl rfl ?_
    repeat (first | refine sat_need (by rfl) ?_ | refine sat_need (by decide +kernel) ?_)
    refine sat_range hE 2 14 [1, 2, 3, 4] [0, 1, 2, 3, 4] (Ent.ren [0, 1, 2, 3, 4, 5, 6, 7, 8, 9, 10, 11, 12, 13] [0, 1, 2, 3, 4, 41] rfl rfl rfl) (ray_sq 8 8 0 1 1) rayV_len ray_ent rfl rfl rfl rfl rfl rfl
      (fun i hp' => ∃ n : Int, n = i ∧ hp' = kst [.cells true [I n]]) (fun _ _ => False) ⟨0, rfl, rfl⟩ ?_ (fun _ _ h => h.elim) ?_ ?_ (fun _ _ h => h.elim)
    · rintro i hp' ⟨n, _, rfl⟩; rfl
    · rintro i vs hp' hi ⟨n, hn, rfl⟩
      obtain ⟨x, hx, rfl, x0, x1⟩ := rayL_get hi
      rw [kn1] at hx
      have hlt := (List.getElem?_eq_some_iff.1 hx).1
      have hx2 : x = 9 * (i + 1) ∧ i < 7 := by
        rcases i with _ | _ | _ | _ | _ | _ | _ | i <;> simp at hx hlt <;> (try omega)
      refine sat_ret ⟨rfl, ?_⟩
      have e1 : IntKind.i64.wrap (n + 1) = n + 1 := w64_id (by omega) (by omega)
      have e2 : IntKind.i64.wrap (9 * IntKind.i64.wrap (n + 1)) = x := by rw [e1, w64_id (by omega) (by omega)]; omega
      repeat (first | refine sat_self ?_ | refine sat_need (by first | rfl | exact tt1 _ _ | exact tt5 _ _ | exact tt2 _ _ _ | exact tt4 _ _ _ | exact tt6 _ _ _ | exact tt7 _ _ | exact tt8 _ _ _ | exact tt9 _ _ _ | (simp; done) | (simp; omega)) ?_)
      refine sat_bf (b := !decide (x = IntKind.i64.wrap (9 * IntKind.i64.wrap (n + 1))) || decide (7 < IntKind.i64.wrap (n + 1))) (by rw [e2, e1]; simp; omega) ?_
      exact sat_ret ⟨_, Ent.ren [0, 1, 2, 3, 4, 5, 6, 7, 8, 9, 10, 11, 12, 13] [] rfl rfl rfl, IntKind.i64.wrap (n + 1), by rw [e1]; omega, rfl⟩
    rintro hp' ⟨n, hn, rfl⟩
    rw [rayV_length, kn1] at hn
    obtain rfl : n = 7 := hn
    refine sat_range hE 2 15 [5, 6, 7, 8] [0, 1, 2, 3, 4, 6] (Ent.ren [0, 1, 2, 3, 4, 5, 6, 7, 8, 9, 10, 11, 12, 13, 14] [0, 1, 2, 3, 4, 6, 53] rfl rfl rfl) (ray_sq 8 8 (parseR 8 8 [103, 55]) 1 1) rayV_len ray_ent rfl rfl rfl rfl rfl rfl
      (fun i hp' => ∃ n : Int, n = i ∧ hp' = kst [.cells true [I 7], .cells true [I n]]) (fun _ _ => False) ⟨0, rfl, rfl⟩ ?_ (fun _ _ h => h.elim) ?_ ?_ (fun _ _ h => h.elim)
    · rintro i hp' ⟨n, _, rfl⟩; rfl
    · rintro i vs hp' hi ⟨n, hn, rfl⟩
      obtain ⟨x, hx, rfl, x0, x1⟩ := rayL_get hi
      rw [kn2] at hx
      have hlt := (List.getElem?_eq_some_iff.1 hx).1
      have hx2 : x = 63 ∧ i = 0 := by
        rcases i with _ | i <;> simp at hx hlt <;> omega
      refine sat_ret ⟨rfl, ?_⟩
      have e1 : IntKind.i64.wrap (n + 1) = n + 1 := w64_id (by omega) (by omega)
      repeat (first | refine sat_self ?_ | refine sat_need (by first | rfl | exact tt1 _ _ | exact tt5 _ _ | exact tt2 _ _ _ | exact tt4 _ _ _ | exact tt6 _ _ _ | exact tt7 _ _ | exact tt8 _ _ _ | exact tt9 _ _ _ | (simp; done) | (simp; omega)) ?_)
      refine sat_bf (b := !decide (x = 63) || decide (1 < IntKind.i64.wrap (n + 1))) (by rw [e1]; simp; omega) ?_
      exact sat_ret ⟨_, Ent.ren [0, 1, 2, 3, 4, 5, 6, 7, 8, 9, 10, 11, 12, 13, 14] [] rfl rfl rfl, IntKind.i64.wrap (n + 1), by rw [e1]; omega, rfl⟩
    rintro hp' ⟨n, hn, rfl⟩
    rw [rayV_length, kn2] at hn
    obtain rfl : n = 1 := hn
    refine sat_range hE 2 15 [9, 10, 11, 12] [0, 4, 6] (Ent.ren [0, 1, 2, 3, 4, 5, 6, 7, 8, 9, 10, 11, 12, 13, 14] [0, 4, 6, 63] rfl rfl rfl) (ray_sq 8 8 0 0 0) rayV_len ray_ent rfl rfl rfl rfl rfl rfl
      (fun i hp' => hp' = kst [.cells true [I 7], .cells true [I 1]]) (fun _ _ => False) rfl ?_ (fun _ _ h => h.elim) ?_ ?_ (fun _ _ h => h.elim)
    · rintro i hp' rfl; rfl
    · rintro i vs hp' hi rfl
      obtain ⟨x, hx, rfl, x0, x1⟩ := rayL_get hi
      rw [kn3] at hx
      simp at hx
    rintro hp' rfl
    repeat (first | refine sat_need (by rfl) ?_ | refine sat_need (by decide +kernel) ?_)
    refine sat_bf (by decide +kernel) ?_
    repeat (first | refine sat_need (by rfl) ?_ | refine sat_need (by decide +kernel) ?_)
    refine sat_bf (by decide +kernel) ?_
    repeat (first | refine sat_need (by rfl) ?_ | refine sat_need (by decide +kernel) ?_)
    exact sat_ret (fin_val (.inr rfl) rfl rfl rfl (congrArg V.bool (by decide +kernel)))
  · cases e

end Go.Ab

namespace Go.Ab
open Go.Proofs
/-! ### plain laws of rays -/
theorem at_on {f r X Y : Int} (h : vsB f r = true) : decide ((atR f r X Y).2 = 0) = onB f r X Y := by
  unfold atR
  cases h2 : onB f r X Y <;> simp [h]
theorem numB_on {f r X Y : Int} : numB f r X Y = !onB f r X Y := by
  rw [Bool.eq_iff_iff]
  simp only [numB, onB, Bool.or_eq_true, decide_eq_true_eq, Bool.not_eq_true', Bool.and_eq_false_iff, decide_eq_false_iff_not]
  omega
theorem num_on {f r X Y : Int} (h : vsB f r = true) (h2 : onB f r X Y = true) : numR f r X Y = (atR f r X Y).1 := by
  simp only [numR, numB_on, h2, atR, h, Bool.not_true, cond_true, cond_false, Int.add_comm]
theorem num_neg {f r X Y : Int} (h : vsB f r = true) : decide (numR f r X Y < 0) = !onB f r X Y := by
  cases h2 : onB f r X Y with
  | false => simp [numR, numB_on, h2]
  | true =>
    rw [num_on h h2]
    have h3 := at_on (X := X) (Y := Y) h
    rw [h2] at h3
    have := at_pos (of_decide_eq_true h3)
    simp; omega
theorem on_mk {f r x y : Int} (h1 : 0 ≤ x) (h2 : x < f) (h3 : 0 ≤ y) (h4 : y < r) : onB f r x y = true := by simp [onB, *]
theorem go_eq {f r df dr px py : Int} (h : vsB f r = true) (hb : -7 ≤ df ∧ df ≤ 7 ∧ -7 ≤ dr ∧ dr ≤ 7) (hnz : df ≠ 0 ∨ dr ≠ 0) (hp : onB f r px py = true) :
    ∀ (m k : Nat), m + k = 9 → 1 ≤ k → onB f r (px + ((k : Int) - 1) * df) (py + ((k : Int) - 1) * dr) = true → rayGo f r df dr (m + 1) (px + ((k : Int) - 1) * df) (py + ((k : Int) - 1) * dr) = refGo f r df dr px py m k := by
  have hv := vs_bd h
  have hp := on_bd hp
  intro m
  induction m with
  | zero =>
    intro k hk h1 hon
    obtain rfl : k = 9 := by omega
    have := on_bd hon
    exfalso
    rcases hnz with e | e <;> omega
  | succ m ih =>
    intro k hk h1 hon
    have hon := on_bd hon
    have hX : IntKind.i64.wrap (px + ((k : Int) - 1) * df + df) = px + ((k : Int) + 1 - 1) * df ∧ IntKind.i64.wrap (py + ((k : Int) - 1) * dr + dr) = py + ((k : Int) + 1 - 1) * dr ∧ IntKind.i64.wrap (px + IntKind.i64.wrap (k * df)) = px + ((k : Int) + 1 - 1) * df ∧ IntKind.i64.wrap (py + IntKind.i64.wrap (k * dr)) = py + ((k : Int) + 1 - 1) * dr ∧ IntKind.i64.wrap ((k : Int) + 1) = ((k + 1 : Nat) : Int) := by
      have hk8 : k = 1 ∨ k = 2 ∨ k = 3 ∨ k = 4 ∨ k = 5 ∨ k = 6 ∨ k = 7 ∨ k = 8 := by omega
      rcases hk8 with rfl | rfl | rfl | rfl | rfl | rfl | rfl | rfl <;>
      · refine ⟨?_, ?_, ?_, ?_, ?_⟩
        · rw [w64_id (by omega) (by omega)]; omega
        · rw [w64_id (by omega) (by omega)]; omega
        · rw [w64_id (n := _ * df) (by omega) (by omega), w64_id (by omega) (by omega)]; omega
        · rw [w64_id (n := _ * dr) (by omega) (by omega), w64_id (by omega) (by omega)]; omega
        · rw [w64_id (by omega) (by omega)]; omega
    obtain ⟨e1, e2, e3, e4, e5⟩ := hX
    rw [rayGo, refGo, e1, e2, e3, e4, e5, at_on h, num_neg h]
    cases h2 : onB f r (px + ((k : Int) + 1 - 1) * df) (py + ((k : Int) + 1 - 1) * dr) with
    | false => rfl
    | true =>
      rw [num_on h h2]
      have := ih (k + 1) (by omega) (by omega) (by push_cast; exact h2)
      push_cast at this ⊢
      simp only [cond_true, Bool.not_true, cond_false, this]
def inR (df dr : Int) : Bool := decide (-8 ≤ df) && decide (df ≤ 8) && decide (-8 ≤ dr) && decide (dr ≤ 8)
theorem big_8 {df dr : Int} (h : inR df dr = true) (h2 : rayBig df dr = true) : df = 8 ∨ df = -8 ∨ dr = 8 ∨ dr = -8 := by
  simp only [inR, Bool.and_eq_true, decide_eq_true_eq] at h
  obtain ⟨⟨⟨a1, a2⟩, a3⟩, a4⟩ := h
  simp only [rayBig, Bool.or_eq_true, decide_eq_true_eq] at h2
  rw [w64_id (n := 0 - df) (by omega) (by omega), w64_id (n := 0 - dr) (by omega) (by omega)] at h2
  have m : ∀ x y : Int, imax true x y = x ∨ imax true x y = y := fun x y => by
    unfold imax
    by_cases h : x < y <;> simp [h]
  have m1 := m df (0 - df)
  have m2 := m (imax true df (0 - df)) dr
  have m3 := m (imax true (imax true df (0 - df)) dr) (0 - dr)
  omega
theorem big_out {df dr : Int} (h : inR df dr = false) : rayBig df dr = true := by
  cases hb : rayBig df dr with
  | true => rfl
  | false =>
    have := big_bd hb
    simp [inR] at h
    omega
theorem ray_eq (f r n df dr : Int) : rayL f r n df dr = bif inR df dr then refRay f r n df dr else [] := by
  cases hv : validB f r n with
  | false => simp [rayL, refRay, hv]
  | true =>
    cases hz : (decide (df = 0) && decide (dr = 0)) with
    | true => simp [rayL, refRay, hv, hz]
    | false =>
      have hnz : df ≠ 0 ∨ dr ≠ 0 := by
        by_cases e : df = 0
        · right; rintro rfl; simp [e] at hz
        · exact .inl e
      have hvs := valid_vs hv
      have hb := vs_bd hvs
      have hp := place_bd hv
      have hr : refRay f r n df dr = refGo f r df dr (placeR f r n).1 (placeR f r n).2.1 8 1 := by simp [refRay, hv, hz, placeR]
      cases hbig : rayBig df dr with
      | true =>
        have hl : rayL f r n df dr = [] := by simp [rayL, hbig]
        rw [hl]
        cases hi : inR df dr with
        | false => rfl
        | true =>
          have h8 := big_8 hi hbig
          simp only [inR, Bool.and_eq_true, decide_eq_true_eq] at hi
          obtain ⟨⟨⟨a1, a2⟩, a3⟩, a4⟩ := hi
          rw [cond_true, hr, refGo, num_neg hvs]
          have hoff : onB f r (IntKind.i64.wrap ((placeR f r n).1 + IntKind.i64.wrap (1 * df))) (IntKind.i64.wrap ((placeR f r n).2.1 + IntKind.i64.wrap (1 * dr))) = false := by
            rw [w64_id (n := 1 * df) (by omega) (by omega), w64_id (n := 1 * dr) (by omega) (by omega), w64_id (by omega) (by omega), w64_id (by omega) (by omega)]
            cases ho : onB f r ((placeR f r n).1 + 1 * df) ((placeR f r n).2.1 + 1 * dr) with
            | false => rfl
            | true => have := on_bd ho; omega
          rw [hoff]; rfl
      | false =>
        have hi : inR df dr = true := by
          cases hi : inR df dr with
          | true => rfl
          | false => rw [big_out hi] at hbig; cases hbig
        have hg := go_eq (f := f) (r := r) (df := df) (dr := dr) (px := (placeR f r n).1) (py := (placeR f r n).2.1) hvs (big_bd hbig) hnz (on_mk hp.1 hp.2.1 hp.2.2.1 hp.2.2.2.1) 8 1 rfl (Nat.le_refl _) (by simpa using on_mk hp.1 hp.2.1 hp.2.2.1 hp.2.2.2.1)
        rw [hi, cond_true, hr]
        simp only [rayL, hv, hz, hbig, Bool.not_false, Bool.and_self, cond_true]
        simpa using hg
end Go.Ab

namespace Go.Ab
open Go.Proofs
def rrH (f r n df dr many : Int) (zs : List Int) (t : Int) (l : List O) : List O := [.cells true [I f, I r], .cells true [I many], .cells true [.lit false], .cells true [.sl 9 0 zs.length none], .cells true [I f, I r], .cells true [I n], .cells true [I df], .cells true [I dr], .cells true [I t], .ints true .i64 zs] ++ l
def rrT : Tm := [(9, .ptr 1 0 0), (10, .ptr 2 0 0), (11, .ptr 3 0 0), (12, .fn 49 [.ptr 4 0 0, .ptr 5 0 0, .ptr 6 0 0, .ptr 7 0 0]), (13, .ptr 8 0 0)]
theorem imax_eq (x y : Int) : imax true x y = max x y := by
  unfold imax
  by_cases h : x < y <;> simp [h] <;> omega
theorem imin_eq (x y : Int) : imax false x y = min x y := by
  unfold imax
  by_cases h : y < x <;> simp [h] <;> omega
theorem rr_end {t k len many : Int} (h0 : t = 0 → k = min len (max 1 many)) (h1 : t = 1 → k = len) : (decide (t = 0) && !decide (k = imax false len (imax true 1 many)) || decide (t = 1) && !decide (k = len)) = false := by
  rw [imax_eq, imin_eq]
  simp only [Bool.or_eq_false_iff, Bool.and_eq_false_iff, decide_eq_false_iff_not, Bool.not_eq_false', decide_eq_true_eq]
  omega
theorem at_getD {l : List Int} {i : Nat} {x : Int} (h : l[i]? = some x) : l.getD i 0 = x := by simp [List.getD, h]
def c_rr : CF
  | [.agg [.int .i64 _f, .int .i64 _r], .int .i64 _n, .int .i64 _df, .int .i64 _dr, .int .i64 _many], [] => some (true, .bool true, [])
  | _, _ => none
theorem c_rr_ok : CtOk GG PP (3, c_rr) := by
  refine ct_mk Tryd.func3 (by kernel_rfl) rfl fun a0 h0 c0 v0 N0 e hc => ?_
  unfold c_rr at e
  split at e
  · rename_i f r n df dr many
    cases e
    have hE := EE_ok (cts := [(13, c_refRay), (15, c_known4)]) (inl := [(14, Tryd.f14)]) ⟨c_refRay_ok, c_known4_ok, trivial⟩ ⟨⟨Tryd.func14, by kernel_rfl⟩, trivial⟩
    refine fn_sound hE 2 Tryd.func3 rfl rfl ?_
    repeat (first | refine sat_self ?_ | refine sat_need (by first | rfl | exact tt1 _ _ | exact tt5 _ _ | exact tt2 _ _ _ | exact tt4 _ _ _ | exact tt6 _ _ _ | exact tt7 _ _ | exact tt8 _ _ _ | exact tt9 _ _ _ | (simp; done) | (simp; omega)) ?_)
    refine sat_br (fun h0 => ?_) (fun h0 => ?_)
    · have h0 : inR df dr = true := h0
      repeat (first | refine sat_self ?_ | refine sat_need (by first | rfl | exact tt1 _ _ | exact tt5 _ _ | exact tt2 _ _ _ | exact tt4 _ _ _ | exact tt6 _ _ _ | exact tt7 _ _ | exact tt8 _ _ _ | exact tt9 _ _ _ | (simp; done) | (simp; omega)) ?_)
      have hL : rayL f r n df dr = refRay f r n df dr := by rw [ray_eq, h0]; rfl
      have hb := refRay_len f r n df dr
      generalize refRay f r n df dr = zs at *
      refine sat_for hE 2 (fun t : Int => (rrT, rrH f r n df dr many zs t [])) (fun t => 0 ≤ t ∧ t ≤ 2) (fun t => 2 - t.toNat) 0 (Ent.ren [0, 1, 2, 3, 5, 6, 7, 8, 9, 4] [9, 10, 11, 12, 13] rfl rfl rfl) ⟨by omega, by omega⟩ ?_
      rintro t ⟨ht1, ht2⟩
      refine sat_br (fun hlt => ?_) (fun hlt => ?_)
      · simp only [decide_eq_true_eq] at hlt
        have hnext : IntKind.i64.wrap (t + 1) = t + 1 := w64_id (by omega) (by omega)
        refine sat_range hE 2 11 [4, 5, 6, 7] [9, 10, 11, 12, 13, 14] (Ent.ren [0, 1, 2, 3, 4, 5, 6, 7, 8, 9, 10] [9, 10, 11, 12, 13, 14, 46] rfl rfl rfl) (ray_sq f r n df dr) rayV_len ray_ent rfl rfl rfl rfl rfl rfl
          (fun i hp' => hp' = rrH f r n df dr many zs t [.cells true [I i]] ∧ i ≤ zs.length ∧ (t = 0 → i = 0 ∨ i < many))
          (fun e hp' => e = .exit 2 ∧ ∃ i : Int, hp' = rrH f r n df dr many zs t [.cells true [I i]] ∧ t = 0 ∧ 1 ≤ i ∧ i ≤ zs.length ∧ many ≤ i ∧ (i = 1 ∨ i ≤ many)) ⟨rfl, by omega, by omega⟩ ?_ ?_ ?_ ?_ ?_
        · rintro i hp' ⟨rfl, _⟩; rfl
        · rintro i hp' ⟨_, j, rfl, _⟩; rfl
        · rintro i vs hp' hi ⟨rfl, hi2, hi3⟩
          obtain ⟨x, hx, rfl, x0, x1⟩ := rayL_get hi
          rw [hL] at hx
          have hil := (List.getElem?_eq_some_iff.1 hx).1
          have hxd := at_getD hx
          have hi1 : IntKind.i64.wrap ((i : Int) + 1) = ((i + 1 : Nat) : Int) := by rw [w64_id (by omega) (by omega)]; omega
          refine sat_ret ⟨rfl, ?_⟩
          repeat (first | refine sat_self ?_ | refine sat_need (by first | rfl | exact tt1 _ _ | exact tt5 _ _ | exact tt2 _ _ _ | exact tt4 _ _ _ | exact tt6 _ _ _ | exact tt7 _ _ | exact tt8 _ _ _ | exact tt9 _ _ _ | (simp; done) | (simp; omega)) ?_)
          refine sat_bf (b := decide ((zs.length : Int) ≤ i) || !decide (x = zs.getD (i : Int).toNat 0)) (by rw [Int.toNat_natCast, hxd]; simp; omega) ?_
          repeat (first | refine sat_self ?_ | refine sat_need (by first | rfl | exact tt1 _ _ | exact tt5 _ _ | exact tt2 _ _ _ | exact tt4 _ _ _ | exact tt6 _ _ _ | exact tt7 _ _ | exact tt8 _ _ _ | exact tt9 _ _ _ | (simp; done) | (simp; omega)) ?_)
          refine sat_br (fun h1 => ?_) (fun h1 => ?_)
          · have h1 : (decide (t = 0) && decide (many ≤ IntKind.i64.wrap ((i : Int) + 1))) = true := h1
            rw [hi1] at h1
            simp only [Bool.and_eq_true, decide_eq_true_eq] at h1
            exact sat_ret ⟨_, Ent.ren [0, 1, 2, 3, 4, 5, 6, 7, 8, 9, 10] [] rfl rfl rfl, rfl, IntKind.i64.wrap ((i : Int) + 1), rfl, h1.1, by omega, by omega, by omega, by have := hi3 h1.1; omega⟩
          · have h1 : (decide (t = 0) && decide (many ≤ IntKind.i64.wrap ((i : Int) + 1))) = false := h1
            rw [hi1] at h1
            simp only [Bool.and_eq_false_iff, decide_eq_false_iff_not] at h1
            exact sat_ret ⟨_, Ent.ren [0, 1, 2, 3, 4, 5, 6, 7, 8, 9, 10] [] rfl rfl rfl, by rw [← hi1]; rfl, by omega, by omega⟩
        · rintro hp' ⟨rfl, hi2, hi3⟩
          rw [rayV_length, hL] at *
          repeat (first | refine sat_self ?_ | refine sat_need (by first | rfl | exact tt1 _ _ | exact tt5 _ _ | exact tt2 _ _ _ | exact tt4 _ _ _ | exact tt6 _ _ _ | exact tt7 _ _ | exact tt8 _ _ _ | exact tt9 _ _ _ | (simp; done) | (simp; omega)) ?_)
          refine sat_bf (b := decide (t = 0) && !decide ((zs.length : Int) = imax false (zs.length) (imax true 1 many)) || decide (t = 1) && !decide ((zs.length : Int) = zs.length)) (rr_end (by omega) (by omega)) ?_
          repeat (first | refine sat_self ?_ | refine sat_need (by first | rfl | exact tt1 _ _ | exact tt5 _ _ | exact tt2 _ _ _ | exact tt4 _ _ _ | exact tt6 _ _ _ | exact tt7 _ _ | exact tt8 _ _ _ | exact tt9 _ _ _ | (simp; done) | (simp; omega)) ?_)
          exact sat_ret ⟨IntKind.i64.wrap (t + 1), by omega, by omega, Ent.ren [0, 1, 2, 3, 4, 5, 6, 7, 11, 9] [9, 10, 11, 12, 13] rfl rfl rfl⟩
        · rintro e hp' ⟨rfl, i, rfl, j1, j2, j3, j4, j5⟩
          repeat (first | refine sat_self ?_ | refine sat_need (by first | rfl | exact tt1 _ _ | exact tt5 _ _ | exact tt2 _ _ _ | exact tt4 _ _ _ | exact tt6 _ _ _ | exact tt7 _ _ | exact tt8 _ _ _ | exact tt9 _ _ _ | (simp; done) | (simp; omega)) ?_)
          refine sat_bf (b := decide (t = 0) && !decide (i = imax false (zs.length) (imax true 1 many)) || decide (t = 1) && !decide (i = zs.length)) (rr_end (by omega) (by omega)) ?_
          repeat (first | refine sat_self ?_ | refine sat_need (by first | rfl | exact tt1 _ _ | exact tt5 _ _ | exact tt2 _ _ _ | exact tt4 _ _ _ | exact tt6 _ _ _ | exact tt7 _ _ | exact tt8 _ _ _ | exact tt9 _ _ _ | (simp; done) | (simp; omega)) ?_)
          exact sat_ret ⟨IntKind.i64.wrap (t + 1), by omega, by omega, Ent.ren [0, 1, 2, 3, 4, 5, 6, 7, 11, 9] [9, 10, 11, 12, 13] rfl rfl rfl⟩
      · simp only [decide_eq_false_iff_not] at hlt
        obtain rfl : t = 2 := by omega
        refine sat_ret ?_
        repeat (first | refine sat_self ?_ | refine sat_need (by first | rfl | exact tt1 _ _ | exact tt5 _ _ | exact tt2 _ _ _ | exact tt4 _ _ _ | exact tt6 _ _ _ | exact tt7 _ _ | exact tt8 _ _ _ | exact tt9 _ _ _ | (simp; done) | (simp; omega)) ?_)
        exact sat_ret (fin_val (.inr rfl) rfl rfl rfl rfl)
    · have h0 : inR df dr = false := h0
      have hL : rayL f r n df dr = [] := by rw [ray_eq, h0]; rfl
      obtain ⟨zs, hzs⟩ : ∃ zs : List Int, zs = [] := ⟨_, rfl⟩
      rw [← hzs] at hL
      have hb : zs.length ≤ 8 := by rw [hzs]; simp
      refine sat_for hE 2 (fun t : Int => (rrT, rrH f r n df dr many zs t [])) (fun t => 0 ≤ t ∧ t ≤ 2) (fun t => 2 - t.toNat) 0 ((Ent.phan (b := 3) (j := 0) (o := .ints true .i64 []) rfl rfl ⟨by simp, by simp, trivial, rfl⟩ (blt_lt rfl)).trans (by rw [hzs]; exact Ent.ren [0, 1, 2, 3, 4, 5, 6, 7, 8, 9] [9, 10, 11, 12, 13] rfl rfl rfl)) ⟨by omega, by omega⟩ ?_
      rintro t ⟨ht1, ht2⟩
      refine sat_br (fun hlt => ?_) (fun hlt => ?_)
      · simp only [decide_eq_true_eq] at hlt
        have hnext : IntKind.i64.wrap (t + 1) = t + 1 := w64_id (by omega) (by omega)
        refine sat_range hE 2 11 [4, 5, 6, 7] [9, 10, 11, 12, 13, 14] (Ent.ren [0, 1, 2, 3, 4, 5, 6, 7, 8, 9, 10] [9, 10, 11, 12, 13, 14, 46] rfl rfl rfl) (ray_sq f r n df dr) rayV_len ray_ent rfl rfl rfl rfl rfl rfl
          (fun i hp' => hp' = rrH f r n df dr many zs t [.cells true [I i]] ∧ i ≤ zs.length ∧ (t = 0 → i = 0 ∨ i < many))
          (fun e hp' => e = .exit 2 ∧ ∃ i : Int, hp' = rrH f r n df dr many zs t [.cells true [I i]] ∧ t = 0 ∧ 1 ≤ i ∧ i ≤ zs.length ∧ many ≤ i ∧ (i = 1 ∨ i ≤ many)) ⟨rfl, by omega, by omega⟩ ?_ ?_ ?_ ?_ ?_
        · rintro i hp' ⟨rfl, _⟩; rfl
        · rintro i hp' ⟨_, j, rfl, _⟩; rfl
        · rintro i vs hp' hi ⟨rfl, hi2, hi3⟩
          obtain ⟨x, hx, rfl, x0, x1⟩ := rayL_get hi
          rw [hL] at hx
          have hil := (List.getElem?_eq_some_iff.1 hx).1
          have hxd := at_getD hx
          have hi1 : IntKind.i64.wrap ((i : Int) + 1) = ((i + 1 : Nat) : Int) := by rw [w64_id (by omega) (by omega)]; omega
          refine sat_ret ⟨rfl, ?_⟩
          repeat (first | refine sat_self ?_ | refine sat_need (by first | rfl | exact tt1 _ _ | exact tt5 _ _ | exact tt2 _ _ _ | exact tt4 _ _ _ | exact tt6 _ _ _ | exact tt7 _ _ | exact tt8 _ _ _ | exact tt9 _ _ _ | (simp; done) | (simp; omega)) ?_)
          refine sat_bf (b := decide ((zs.length : Int) ≤ i) || !decide (x = zs.getD (i : Int).toNat 0)) (by rw [Int.toNat_natCast, hxd]; simp; omega) ?_
          repeat (first | refine sat_self ?_ | refine sat_need (by first | rfl | exact tt1 _ _ | exact tt5 _ _ | exact tt2 _ _ _ | exact tt4 _ _ _ | exact tt6 _ _ _ | exact tt7 _ _ | exact tt8 _ _ _ | exact tt9 _ _ _ | (simp; done) | (simp; omega)) ?_)
          refine sat_br (fun h1 => ?_) (fun h1 => ?_)
          · have h1 : (decide (t = 0) && decide (many ≤ IntKind.i64.wrap ((i : Int) + 1))) = true := h1
            rw [hi1] at h1
            simp only [Bool.and_eq_true, decide_eq_true_eq] at h1
            exact sat_ret ⟨_, Ent.ren [0, 1, 2, 3, 4, 5, 6, 7, 8, 9, 10] [] rfl rfl rfl, rfl, IntKind.i64.wrap ((i : Int) + 1), rfl, h1.1, by omega, by omega, by omega, by have := hi3 h1.1; omega⟩
          · have h1 : (decide (t = 0) && decide (many ≤ IntKind.i64.wrap ((i : Int) + 1))) = false := h1
            rw [hi1] at h1
            simp only [Bool.and_eq_false_iff, decide_eq_false_iff_not] at h1
            exact sat_ret ⟨_, Ent.ren [0, 1, 2, 3, 4, 5, 6, 7, 8, 9, 10] [] rfl rfl rfl, by rw [← hi1]; rfl, by omega, by omega⟩
        · rintro hp' ⟨rfl, hi2, hi3⟩
          rw [rayV_length, hL] at *
          repeat (first | refine sat_self ?_ | refine sat_need (by first | rfl | exact tt1 _ _ | exact tt5 _ _ | exact tt2 _ _ _ | exact tt4 _ _ _ | exact tt6 _ _ _ | exact tt7 _ _ | exact tt8 _ _ _ | exact tt9 _ _ _ | (simp; done) | (simp; omega)) ?_)
          refine sat_bf (b := decide (t = 0) && !decide ((zs.length : Int) = imax false (zs.length) (imax true 1 many)) || decide (t = 1) && !decide ((zs.length : Int) = zs.length)) (rr_end (by omega) (by omega)) ?_
          repeat (first | refine sat_self ?_ | refine sat_need (by first | rfl | exact tt1 _ _ | exact tt5 _ _ | exact tt2 _ _ _ | exact tt4 _ _ _ | exact tt6 _ _ _ | exact tt7 _ _ | exact tt8 _ _ _ | exact tt9 _ _ _ | (simp; done) | (simp; omega)) ?_)
          exact sat_ret ⟨IntKind.i64.wrap (t + 1), by omega, by omega, Ent.ren [0, 1, 2, 3, 4, 5, 6, 7, 11, 9] [9, 10, 11, 12, 13] rfl rfl rfl⟩
        · rintro e hp' ⟨rfl, i, rfl, j1, j2, j3, j4, j5⟩
          repeat (first | refine sat_self ?_ | refine sat_need (by first | rfl | exact tt1 _ _ | exact tt5 _ _ | exact tt2 _ _ _ | exact tt4 _ _ _ | exact tt6 _ _ _ | exact tt7 _ _ | exact tt8 _ _ _ | exact tt9 _ _ _ | (simp; done) | (simp; omega)) ?_)
          refine sat_bf (b := decide (t = 0) && !decide (i = imax false (zs.length) (imax true 1 many)) || decide (t = 1) && !decide (i = zs.length)) (rr_end (by omega) (by omega)) ?_
          repeat (first | refine sat_self ?_ | refine sat_need (by first | rfl | exact tt1 _ _ | exact tt5 _ _ | exact tt2 _ _ _ | exact tt4 _ _ _ | exact tt6 _ _ _ | exact tt7 _ _ | exact tt8 _ _ _ | exact tt9 _ _ _ | (simp; done) | (simp; omega)) ?_)
          exact sat_ret ⟨IntKind.i64.wrap (t + 1), by omega, by omega, Ent.ren [0, 1, 2, 3, 4, 5, 6, 7, 11, 9] [9, 10, 11, 12, 13] rfl rfl rfl⟩
      · simp only [decide_eq_false_iff_not] at hlt
        obtain rfl : t = 2 := by omega
        refine sat_ret ?_
        repeat (first | refine sat_self ?_ | refine sat_need (by first | rfl | exact tt1 _ _ | exact tt5 _ _ | exact tt2 _ _ _ | exact tt4 _ _ _ | exact tt6 _ _ _ | exact tt7 _ _ | exact tt8 _ _ _ | exact tt9 _ _ _ | (simp; done) | (simp; omega)) ?_)
        exact sat_ret (fin_val (.inr rfl) rfl rfl rfl rfl)
  · cases e

end Go.Ab
