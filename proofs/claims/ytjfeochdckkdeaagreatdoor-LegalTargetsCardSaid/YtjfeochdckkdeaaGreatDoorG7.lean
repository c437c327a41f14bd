/- Contracts of the functions that the laws reach, and plain laws of what they compute (text G7); no condition. -/
import Derived.Test.YtjfeochdckkdeaaGreatDoorG5
import Derived.Test.YtjfeochdckkdeaaGreatDoorG3
set_option maxRecDepth 100000
namespace Go.Ab
open Go.Proofs
variable {kCa kDb : Bool}
def sideB (n : Int) : Bool := decide (3 ≤ n) && decide (n ≤ 8)
def vsB (f r : Int) : Bool := sideB f && sideB r
def onB (f r x y : Int) : Bool := decide (0 ≤ x) && decide (x < f) && decide (0 ≤ y) && decide (y < r)
def validB (f r n : Int) : Bool := vsB f r && decide (0 ≤ n) && decide (n < IntKind.i64.wrap (f * r))
def atR (f r x y : Int) : Int × Int := bif vsB f r then (bif onB f r x y then (IntKind.i64.wrap (x + IntKind.i64.wrap (y * f)), 0) else (0, 3)) else (0, 2)
def placeR (f r n : Int) : Int × Int × Int := bif validB f r n then (n.tmod f, IntKind.i64.wrap (n.tdiv f), 0) else (0, 0, 2)
def c_side : CF
 | [.int .i64 n], [] => some (true, .bool (sideB n), [])
 | _, _ => none
theorem c_side_ok : CtOk (GGx kCa kDb) PP (151, c_side) := by
 refine ct_mk Tryz.func151 (by kernel_rfl) rfl fun a0 h0 c0 v0 N0 e hc => ?_
 unfold c_side at e
 split at e
 ·rename_i n
  cases e
  have hE := EE_ok (kCa := kCa) (kDb := kDb) (cts := []) (inl := []) trivial trivial
  refine fn_sound hE 2 Tryz.func151 rfl rfl ?_
  repeat (first | refine sat_self ?_ | refine sat_nd ?_)
  exact sat_ret (fin_val (.inr rfl) rfl rfl rfl rfl)
 ·cases e
def c_vs : CF
 | [.agg [.int .i64 f, .int .i64 r]], [] => some (true, .bool (vsB f r), [])
 | _, _ => none
theorem c_vs_ok : CtOk (GGx kCa kDb) PP (99, c_vs) := by
 refine ct_mk Tryz.func99 (by kernel_rfl) rfl fun a0 h0 c0 v0 N0 e hc => ?_
 unfold c_vs at e
 split at e
 ·rename_i f r
  cases e
  have hE := EE_ok (kCa := kCa) (kDb := kDb) (cts := [(151, c_side)]) (inl := []) ⟨c_side_ok, trivial⟩ trivial
  refine fn_sound hE 2 Tryz.func99 rfl rfl ?_
  repeat (first | refine sat_self ?_ | refine sat_nd ?_)
  exact sat_ret (fin_val (.inr rfl) rfl rfl rfl rfl)
 ·cases e
def c_on : CF
 | [.agg [.int .i64 f, .int .i64 r], .int .i64 x, .int .i64 y], [] => some (true, .bool (onB f r x y), [])
 | _, _ => none
theorem c_on_ok : CtOk (GGx kCa kDb) PP (186, c_on) := by
 refine ct_mk Tryz.func186 (by kernel_rfl) rfl fun a0 h0 c0 v0 N0 e hc => ?_
 unfold c_on at e
 split at e
 ·rename_i f r x y
  cases e
  have hE := EE_ok (kCa := kCa) (kDb := kDb) (cts := []) (inl := []) trivial trivial
  refine fn_sound hE 2 Tryz.func186 rfl rfl ?_
  repeat (first | refine sat_self ?_ | refine sat_nd ?_)
  exact sat_ret (fin_val (.inr rfl) rfl rfl rfl rfl)
 ·cases e
def c_valid : CF
 | [.agg [.int .i64 f, .int .i64 r], .int .i64 n], [] => some (true, .bool (validB f r n), [])
 | _, _ => none
theorem c_valid_ok : CtOk (GGx kCa kDb) PP (71, c_valid) := by
 refine ct_mk Tryz.func71 (by kernel_rfl) rfl fun a0 h0 c0 v0 N0 e hc => ?_
 unfold c_valid at e
 split at e
 ·rename_i f r n
  cases e
  have hE := EE_ok (kCa := kCa) (kDb := kDb) (cts := [(99, c_vs)]) (inl := []) ⟨c_vs_ok, trivial⟩ trivial
  refine fn_sound hE 2 Tryz.func71 rfl rfl ?_
  repeat (first | refine sat_self ?_ | refine sat_nd ?_)
  exact sat_ret (fin_val (.inr rfl) rfl rfl rfl rfl)
 ·cases e
def c_at : CF
 | [.agg [.int .i64 f, .int .i64 r], .int .i64 x, .int .i64 y], [] => some (true, .tup [I (atR f r x y).1, I (atR f r x y).2], [])
 | _, _ => none
theorem c_at_ok : CtOk (GGx kCa kDb) PP (180, c_at) := by
 refine ct_mk Tryz.func180 (by kernel_rfl) rfl fun a0 h0 c0 v0 N0 e hc => ?_
 unfold c_at at e
 split at e
 ·rename_i f r x y
  cases e
  have hE := EE_ok (kCa := kCa) (kDb := kDb) (cts := [(99, c_vs), (186, c_on)]) (inl := []) ⟨c_vs_ok, c_on_ok, trivial⟩ trivial
  refine fn_sound hE 2 Tryz.func180 rfl rfl ?_
  repeat (first | refine sat_self ?_ | refine sat_nd ?_)
  refine sat_br (fun h1 => ?_) (fun h1 => ?_)
  ·exact sat_ret (fin_val (.inr rfl) rfl rfl rfl (by simp_all [atR]))
  ·repeat (first | refine sat_self ?_ | refine sat_nd ?_)
   refine sat_br (fun h2 => ?_) (fun h2 => ?_)
   ·exact sat_ret (fin_val (.inr rfl) rfl rfl rfl (by simp_all [atR]))
   ·exact sat_ret (fin_val (.inr rfl) rfl rfl rfl (by simp_all [atR]))
 ·cases e
theorem vs_bd {f r : Int} (h : vsB f r = true) : 3 ≤ f ∧ f ≤ 8 ∧ 3 ≤ r ∧ r ≤ 8 := by
 simp [vsB, sideB] at h; omega
theorem valid_vs {f r n : Int} (h : validB f r n = true) : vsB f r = true := by
 simp only [validB, Bool.and_eq_true] at h; exact h.1.1
def c_place : CF
 | [.agg [.int .i64 f, .int .i64 r], .int .i64 n], [] => some (true, .tup [I (placeR f r n).1, I (placeR f r n).2.1, I (placeR f r n).2.2], [])
 | _, _ => none
theorem c_place_ok : CtOk (GGx kCa kDb) PP (177, c_place) := by
 refine ct_mk Tryz.func177 (by kernel_rfl) rfl fun a0 h0 c0 v0 N0 e hc => ?_
 unfold c_place at e
 split at e
 ·rename_i f r n
  cases e
  have hE := EE_ok (kCa := kCa) (kDb := kDb) (cts := [(71, c_valid)]) (inl := []) ⟨c_valid_ok, trivial⟩ trivial
  refine fn_sound hE 2 Tryz.func177 rfl rfl ?_
  repeat (first | refine sat_self ?_ | refine sat_nd ?_)
  refine sat_br (fun h1 => ?_) (fun h1 => ?_)
  ·exact sat_ret (fin_val (.inr rfl) rfl rfl rfl (by simp_all [placeR]))
  ·simp only [Bool.not_eq_false'] at h1
   have hf := vs_bd (valid_vs h1)
   repeat (first | refine sat_self ?_ | refine sat_need (by first | rfl | (simp; omega)) ?_)
   exact sat_ret (fin_val (.inr rfl) rfl rfl rfl (by simp_all [placeR]))
 ·cases e
end Go.Ab

set_option maxRecDepth 100000
namespace Go.Ab
open Go.Proofs
variable {kCa kDb : Bool}
def allU (f r : Int) : Int := ushr 18446744073709551615 (IntKind.i64.wrap (64 - IntKind.i64.wrap (f * r)))
theorem w64_id {n : Int} (h1 : -9223372036854775808 ≤ n) (h2 : n ≤ 9223372036854775807) : IntKind.i64.wrap n = n := IntWalk.i64_in _ (by omega)
theorem mul_bd {f r : Int} (h : vsB f r = true) : 9 ≤ f * r ∧ f * r ≤ 64 := by
 obtain ⟨h1, h2, h3, h4⟩ := vs_bd h
 have e1 : 3 * 3 ≤ f * r := Int.mul_le_mul h1 h3 (by omega) (by omega)
 have e2 : f * r ≤ 8 * 8 := Int.mul_le_mul h2 h4 (by omega) (by omega)
 omega
theorem w64_mul {f r : Int} (h : vsB f r = true) : IntKind.i64.wrap (f * r) = f * r := w64_id (by have := mul_bd h; omega) (by have := mul_bd h; omega)
def c_all : CF
 | [.agg [.int .i64 f, .int .i64 r]], [] => some (vsB f r, .int .u64 (allU f r), [])
 | _, _ => none
theorem c_all_ok : CtOk (GGx kCa kDb) PP (187, c_all) := by
 refine ct_mk Tryz.func187 (by kernel_rfl) rfl fun a0 h0 c0 v0 N0 e hc => ?_
 unfold c_all at e
 split at e
 ·rename_i f r
  cases e
  have hE := EE_ok (kCa := kCa) (kDb := kDb) (cts := []) (inl := []) trivial trivial
  refine fn_sound hE 2 Tryz.func187 rfl rfl ?_
  have hm := mul_bd hc
  refine sat_need (by rw [w64_mul hc, w64_id (by omega) (by omega)]; simp; omega) ?_
  exact sat_ret (fin_val (.inr rfl) rfl rfl rfl rfl)
 ·cases e
def c_All : CF
 | [.agg [.int .i64 f, .int .i64 r]], [] => some (true, .tup [U (bif vsB f r then allU f r else 0), I (bif vsB f r then 0 else 2)], [])
 | _, _ => none
theorem c_All_ok : CtOk (GGx kCa kDb) PP (181, c_All) := by
 refine ct_mk Tryz.func181 (by kernel_rfl) rfl fun a0 h0 c0 v0 N0 e hc => ?_
 unfold c_All at e
 split at e
 ·rename_i f r
  cases e
  have hE := EE_ok (kCa := kCa) (kDb := kDb) (cts := [(99, c_vs), (187, c_all)]) (inl := []) ⟨c_vs_ok, c_all_ok, trivial⟩ trivial
  refine fn_sound hE 2 Tryz.func181 rfl rfl ?_
  repeat (first | refine sat_self ?_ | refine sat_nd ?_)
  refine sat_br (fun h1 => ?_) (fun h1 => ?_)
  ·exact sat_ret (fin_val (.inr rfl) rfl rfl rfl (by simp_all))
  ·refine sat_need (by simpa using h1) ?_
   exact sat_ret (fin_val (.inr rfl) rfl rfl rfl (by simp_all))
 ·cases e
def fwd (b : Bool) : Int := bif b then -1 else 1
def sgn (n : Int) : Int := bif decide (n < 0) then -1 else bif decide (0 < n) then 1 else 0
def rayOn (f r n set : Int) : Bool := validB f r n && decide (uandn set (allU f r) = 0)
def c_forward : CF
 | [.bool b], [] => some (true, .int .i64 (fwd b), [])
 | _, _ => none
theorem c_forward_ok : CtOk (GGx kCa kDb) PP (176, c_forward) := by
 refine ct_mk Tryz.func176 (by kernel_rfl) rfl fun a0 h0 c0 v0 N0 e hc => ?_
 unfold c_forward at e
 split at e
 ·rename_i b
  cases e
  have hE := EE_ok (kCa := kCa) (kDb := kDb) (cts := []) (inl := []) trivial trivial
  refine fn_sound hE 2 Tryz.func176 rfl rfl ?_
  refine sat_br (fun h1 => ?_) (fun h1 => ?_)
  ·exact sat_ret (fin_val (.inr rfl) rfl rfl rfl (by simp_all [fwd]))
  ·exact sat_ret (fin_val (.inr rfl) rfl rfl rfl (by simp_all [fwd]))
 ·cases e
def c_sign : CF
 | [.int .i64 n], [] => some (true, .int .i64 (sgn n), [])
 | _, _ => none
theorem c_sign_ok : CtOk (GGx kCa kDb) PP (178, c_sign) := by
 refine ct_mk Tryz.func178 (by kernel_rfl) rfl fun a0 h0 c0 v0 N0 e hc => ?_
 unfold c_sign at e
 split at e
 ·rename_i n
  cases e
  have hE := EE_ok (kCa := kCa) (kDb := kDb) (cts := []) (inl := []) trivial trivial
  refine fn_sound hE 2 Tryz.func178 rfl rfl ?_
  refine sat_br (fun h1 => ?_) (fun h1 => ?_)
  ·exact sat_ret (fin_val (.inr rfl) rfl rfl rfl (by rw [sgn, h1]; rfl))
  ·refine sat_br (fun h2 => ?_) (fun h2 => ?_)
   ·exact sat_ret (fin_val (.inr rfl) rfl rfl rfl (by rw [sgn, h1, h2]; rfl))
   ·exact sat_ret (fin_val (.inr rfl) rfl rfl rfl (by rw [sgn, h1, h2]; rfl))
 ·cases e
def c_rayon : CF
 | [.agg [.int .i64 f, .int .i64 r], .int .i64 n, .int .u64 set], [] => some (true, .bool (rayOn f r n set), [])
 | _, _ => none
theorem c_rayon_ok : CtOk (GGx kCa kDb) PP (162, c_rayon) := by
 refine ct_mk Tryz.func162 (by kernel_rfl) rfl fun a0 h0 c0 v0 N0 e hc => ?_
 unfold c_rayon at e
 split at e
 ·rename_i f r n set
  cases e
  have hE := EE_ok (kCa := kCa) (kDb := kDb) (cts := [(181, c_All), (71, c_valid)]) (inl := []) ⟨c_All_ok, c_valid_ok, trivial⟩ trivial
  refine fn_sound hE 2 Tryz.func162 rfl rfl ?_
  repeat (first | refine sat_self ?_ | refine sat_nd ?_)
  exact sat_ret (fin_val (.inr rfl) rfl rfl rfl (by cases h : vsB f r <;> simp [rayOn, validB, h]))
 ·cases e
def dirR (f r a b : Int) : Int × Int × Int :=
 bif validB f r a && validB f r b then
  (let x := IntKind.i64.wrap (b.tmod f - a.tmod f); let y := IntKind.i64.wrap (IntKind.i64.wrap (b.tdiv f) - IntKind.i64.wrap (a.tdiv f))
   bif decide (a = b) || (!decide (x = 0) && !decide (y = 0) && !decide (x = y) && !decide (x = IntKind.i64.wrap (0 - y))) then (0, 0, 9) else (sgn x, sgn y, 0))
 else (0, 0, 2)
def c_dir : CF
 | [.agg [.int .i64 f, .int .i64 r], .int .i64 a, .int .i64 b], [] => some (true, .tup [I (dirR f r a b).1, I (dirR f r a b).2.1, I (dirR f r a b).2.2], [])
 | _, _ => none
theorem c_dir_ok : CtOk (GGx kCa kDb) PP (160, c_dir) := by
 refine ct_mk Tryz.func160 (by kernel_rfl) rfl fun a0 h0 c0 v0 N0 e hc => ?_
 unfold c_dir at e
 split at e
 ·rename_i f r a b
  cases e
  have hE := EE_ok (kCa := kCa) (kDb := kDb) (cts := [(177, c_place), (178, c_sign)]) (inl := []) ⟨c_place_ok, c_sign_ok, trivial⟩ trivial
  refine fn_sound hE 2 Tryz.func160 rfl rfl ?_
  repeat (first | refine sat_self ?_ | refine sat_nd ?_)
  refine sat_br (fun h1 => ?_) (fun h1 => ?_)
  ·exact sat_ret (fin_val (.inr rfl) rfl rfl rfl (by cases ha : validB f r a <;> cases hb : validB f r b <;> simp_all [dirR, placeR]))
  ·repeat (first | refine sat_self ?_ | refine sat_nd ?_)
   have ha : validB f r a = true := by cases ha : validB f r a <;> simp_all [placeR]
   have hb : validB f r b = true := by cases hb : validB f r b <;> simp_all [placeR]
   refine sat_br (fun h2 => ?_) (fun h2 => ?_)
   ·refine sat_ret (fin_val (.inr rfl) rfl rfl rfl ?_)
    simp only [placeR, ha, hb, cond_true] at h2
    simp only [dirR, ha, hb, Bool.and_true, cond_true, h2]
   ·repeat (first | refine sat_self ?_ | refine sat_nd ?_)
    refine sat_ret (fin_val (.inr rfl) rfl rfl rfl ?_)
    simp only [placeR, ha, hb, cond_true] at h2 ⊢
    simp only [dirR, ha, hb, Bool.and_true, cond_true, h2, cond_false]
 ·cases e
end Go.Ab

set_option maxRecDepth 100000
namespace Go.Ab
open Go.Proofs
variable {kCa kDb : Bool}
def leapSq (f r x y : Int) (row : List Int) : Int × Int := atR f r (IntKind.i64.wrap (x + row.getD 0 0)) (IntKind.i64.wrap (y + row.getD 1 0))
def leapStep (f r x y set : Int) (row : List Int) : Int := bif decide ((leapSq f r x y row).2 = 0) then uor set (ushl 1 (leapSq f r x y row).1) else set
def leapR (f r n : Int) (rs : List (List Int)) : Int := rs.foldl (leapStep f r (placeR f r n).1 (placeR f r n).2.1) 0
theorem at_pos {f r x y : Int} (h : (atR f r x y).2 = 0) : 0 ≤ (atR f r x y).1 ∧ (atR f r x y).1 < 64 ∧ vsB f r = true ∧ onB f r x y = true ∧ (atR f r x y).1 = x + y * f := by
 unfold atR at h ⊢
 cases h1 : vsB f r
 ·simp [h1] at h
 ·cases h2 : onB f r x y
  ·simp [h1, h2] at h
  ·simp only [cond_true]
   obtain ⟨a1, a2, a3, a4⟩ := vs_bd h1
   simp only [onB, Bool.and_eq_true, decide_eq_true_eq] at h2
   obtain ⟨⟨⟨b1, b2⟩, b3⟩, b4⟩ := h2
   have hm := mul_bd h1
   have e1 : 0 ≤ y * f := Int.mul_nonneg b3 (by omega)
   have e2 : (y + 1) * f ≤ r * f := Int.mul_le_mul_of_nonneg_right (by omega) (by omega)
   rw [Int.add_mul, Int.mul_comm r f] at e2
   have e3 : IntKind.i64.wrap (y * f) = y * f := w64_id (by omega) (by omega)
   have e4 : IntKind.i64.wrap (x + y * f) = x + y * f := w64_id (by omega) (by omega)
   rw [e3, e4]
   refine ⟨by omega, by omega, ?_, ?_, ?_⟩ <;> first | rfl | trivial
theorem take_step {α β : Type} (l : List α) (d : α) (f : β → α → β) (b : β) {k : Nat} (h : k < l.length) : (l.take (k + 1)).foldl f b = f ((l.take k).foldl f b) (l.getD k d) := by
 rw [List.take_succ_eq_append_getElem h, List.foldl_append]
 simp [List.getD, h]
def c_leap : CF
 | [.agg [.int .i64 f, .int .i64 r], .int .i64 n, .sl 0 0 len none], [.rows false [.i64, .i64] rs] => some (decide (len = rs.length) && decide (rs.length ≤ 1000000), .int .u64 (leapR f r n rs), [])
 | _, _ => none
theorem c_leap_ok : CtOk (GGx kCa kDb) PP (163, c_leap) := by
 refine ct_mk Tryz.func163 (by kernel_rfl) rfl fun a0 h0 c0 v0 N0 e hc => ?_
 unfold c_leap at e
 split at e
 ·rename_i f r n len rs
  cases e
  have hE := EE_ok (kCa := kCa) (kDb := kDb) (cts := [(180, c_at), (177, c_place)]) (inl := []) ⟨c_at_ok, c_place_ok, trivial⟩ trivial
  refine fn_sound hE 2 Tryz.func163 rfl rfl ?_
  simp only [Bool.and_eq_true, decide_eq_true_eq] at hc
  obtain ⟨hc1, hc2⟩ := hc
  subst hc1
  repeat (first | refine sat_self ?_ | refine sat_nd ?_)
  refine sat_for hE 2 (fun a : Int × Int => ([(3, .ptr 1 0 0), (7, I (placeR f r n).1), (8, I (placeR f r n).2.1), (10, U a.2), (22, .sl 0 0 rs.length none), (23, I rs.length), (24, I a.1)], [.rows false [.i64, .i64] rs, .cells true [I f, I r]]))
   (fun a => ∃ k : Nat, k ≤ rs.length ∧ a.1 = k ∧ a.2 = (rs.take k).foldl (leapStep f r (placeR f r n).1 (placeR f r n).2.1) 0) (fun a => rs.length - a.1.toNat) (0, 0)
   (Ent.ren [0, 1] [3, 7, 8, 10, 22, 23, 24] rfl rfl rfl) ⟨0, Nat.zero_le _, rfl, rfl⟩ ?_
  rintro ⟨i, set⟩ ⟨k, hk, h1, h2⟩
  dsimp only at h1 h2 ⊢
  refine sat_br (fun hlt => ?_) (fun hlt => ?_)
  ·simp only [decide_eq_true_eq] at hlt
   have hki : i.toNat = k := by omega
   refine sat_need (by simp; omega) ?_
   repeat (first | refine sat_self ?_ | refine sat_nd ?_)
   have hstep := take_step rs [] (leapStep f r (placeR f r n).1 (placeR f r n).2.1) 0 (show k < rs.length by omega)
   rw [← h2, ← hki] at hstep
   have hnext : IntKind.i64.wrap (i + 1) = ((k + 1 : Nat) : Int) := by rw [w64_id (by omega) (by omega)]; omega
   refine sat_br (fun hon => ?_) (fun hon => ?_)
   ·have hon' : decide ((leapSq f r (placeR f r n).1 (placeR f r n).2.1 (rs.getD i.toNat [])).2 = 0) = true := hon
    refine sat_need (by have := (at_pos (of_decide_eq_true hon)).1; exact decide_eq_true this) ?_
    refine sat_ret ⟨(_, _), ⟨k + 1, by omega, hnext, ?_⟩, ?_, Ent.ren [0, 1] [3, 7, 8, 10, 22, 23, 24] rfl rfl rfl⟩
    ·rw [← hki, hstep, leapStep, hon']; rfl
    ·show _ - (IntKind.i64.wrap (i + 1)).toNat < _
     rw [hnext]; omega
   ·have hon' : decide ((leapSq f r (placeR f r n).1 (placeR f r n).2.1 (rs.getD i.toNat [])).2 = 0) = false := hon
    refine sat_ret ⟨(_, _), ⟨k + 1, by omega, hnext, ?_⟩, ?_, Ent.ren [0, 1] [3, 7, 8, 10, 22, 23, 24] rfl rfl rfl⟩
    ·rw [← hki, hstep, leapStep, hon']; rfl
    ·show _ - (IntKind.i64.wrap (i + 1)).toNat < _
     rw [hnext]; omega
  ·simp only [decide_eq_false_iff_not] at hlt
   obtain rfl : k = rs.length := by omega
   rw [List.take_length] at h2
   refine sat_ret (sat_ret (fin_val (.inr rfl) rfl rfl rfl (by rw [h2]; rfl)))
 ·cases e
end Go.Ab

set_option maxRecDepth 100000
namespace Go.Ab
open Go.Proofs
variable {kCa kDb : Bool}
def rayGo (f r df dr : Int) : Nat → Int → Int → List Int
 | 0, _, _ => []
 | k + 1, x, y => bif decide ((atR f r (IntKind.i64.wrap (x + df)) (IntKind.i64.wrap (y + dr))).2 = 0) then (atR f r (IntKind.i64.wrap (x + df)) (IntKind.i64.wrap (y + dr))).1 :: rayGo f r df dr k (IntKind.i64.wrap (x + df)) (IntKind.i64.wrap (y + dr)) else []
def rayBig (df dr : Int) : Bool := decide (8 ≤ imax true (imax true (imax true df (IntKind.i64.wrap (0 - df))) dr) (IntKind.i64.wrap (0 - dr))) || decide (df < -8) || decide (dr < -8)
def rayL (f r n df dr : Int) : List Int := bif validB f r n && !(decide (df = 0) && decide (dr = 0)) && !rayBig df dr then rayGo f r df dr 9 (placeR f r n).1 (placeR f r n).2.1 else []
def rayV (f r n df dr : Int) : List (List V) := (rayL f r n df dr).map fun x => [I x]
theorem big_bd {df dr : Int} (h : rayBig df dr = false) : -7 ≤ df ∧ df ≤ 7 ∧ -7 ≤ dr ∧ dr ≤ 7 := by
 simp only [rayBig, Bool.or_eq_false_iff, decide_eq_false_iff_not] at h
 obtain ⟨⟨h1, h2⟩, h3⟩ := h
 have m : ∀ x y : Int, x ≤ imax true x y ∧ y ≤ imax true x y := fun x y => by
  unfold imax
  by_cases h : x < y <;> simp [h] <;> omega
 have e1 := m df (IntKind.i64.wrap (0 - df))
 have e2 := m (imax true df (IntKind.i64.wrap (0 - df))) dr
 have e3 := m (imax true (imax true df (IntKind.i64.wrap (0 - df))) dr) (IntKind.i64.wrap (0 - dr))
 have f1 : df ≤ 7 := by omega
 have f2 : dr ≤ 7 := by omega
 rw [w64_id (n := 0 - df) (by omega) (by omega)] at e1 e2 e3
 rw [w64_id (n := 0 - dr) (by omega) (by omega)] at e3
 rw [w64_id (n := 0 - df) (by omega) (by omega), w64_id (n := 0 - dr) (by omega) (by omega)] at h1
 omega
theorem place_bd {f r n : Int} (h : validB f r n = true) : 0 ≤ (placeR f r n).1 ∧ (placeR f r n).1 < f ∧ 0 ≤ (placeR f r n).2.1 ∧ (placeR f r n).2.1 < r ∧ (placeR f r n).1 = n % f ∧ (placeR f r n).2.1 = n / f := by
 have hv := valid_vs h
 obtain ⟨a1, a2, a3, a4⟩ := vs_bd hv
 have hm := mul_bd hv
 simp only [placeR, h, cond_true]
 simp only [validB, Bool.and_eq_true, decide_eq_true_eq] at h
 obtain ⟨⟨h1, h2⟩, h3⟩ := h
 rw [w64_mul hv] at h3
 have e1 : n.tmod f = n % f := Int.tmod_eq_emod_of_nonneg h2
 have e2 : n.tdiv f = n / f := Int.tdiv_eq_ediv_of_nonneg h2
 have b1 := Int.emod_nonneg n (show f ≠ 0 by omega)
 have b2 := Int.emod_lt_of_pos n (show 0 < f by omega)
 have b3 : 0 ≤ n / f := Int.ediv_nonneg h2 (by omega)
 have b4 : n / f < r := Int.ediv_lt_of_lt_mul (by omega) (by rw [Int.mul_comm]; exact h3)
 rw [e1, e2, w64_id (by omega) (by omega)]
 exact ⟨b1, b2, b3, b4, rfl, rfl⟩
theorem on_bd {f r x y : Int} (h : onB f r x y = true) : 0 ≤ x ∧ x < f ∧ 0 ≤ y ∧ y < r := by
 simp only [onB, Bool.and_eq_true, decide_eq_true_eq] at h
 obtain ⟨⟨⟨b1, b2⟩, b3⟩, b4⟩ := h
 exact ⟨b1, b2, b3, b4⟩
theorem ray_sq (f r n df dr : Int) : SqSound (GGx kCa kDb) PP 179 [[I f, I r], [I n], [I df], [I dr]] (rayV f r n df dr) := by
 have hE := EE_ok (kCa := kCa) (kDb := kDb) (cts := [(177, c_place), (180, c_at)]) (inl := []) ⟨c_place_ok, c_at_ok, trivial⟩ trivial
 refine sq_sound hE Tryz.func179 rfl rfl rfl rfl fun nn l S0 ρc J ok => ?_
 refine YG.seq (YG.seg hE 2 ?_)
 repeat (first | refine sat_self ?_ | refine sat_nd ?_)
 refine sat_ret ?_
 refine YG.seq (YG.seg hE 2 ?_)
 repeat (first | refine sat_self ?_ | refine sat_nd ?_)
 refine sat_br (fun h1 => sat_ret ⟨.inr rfl, .inl ?_⟩) (fun h1 => sat_ret ?_)
 ·have : rayV f r n df dr = [] := by
   cases hv : validB f r n <;> simp_all [rayV, rayL, placeR]
  rw [this]; rfl
 have hv : validB f r n = true := by cases hv : validB f r n <;> simp_all [placeR]
 have hnz : (decide (df = 0) && decide (dr = 0)) = false := by
  cases h : (decide (df = 0) && decide (dr = 0)) <;> simp_all
 refine YG.seq (YG.seg hE 2 ?_)
 repeat (first | refine sat_self ?_ | refine sat_nd ?_)
 refine sat_br (fun h2 => sat_ret ⟨.inr rfl, .inl ?_⟩) (fun h2 => sat_ret ?_)
 ·have h2 : rayBig df dr = true := h2
  have : rayV f r n df dr = [] := by simp [rayV, rayL, h2]
  rw [this]; rfl
 have h2 : rayBig df dr = false := h2
 have hL : rayL f r n df dr = rayGo f r df dr 9 (placeR f r n).1 (placeR f r n).2.1 := by simp only [rayL, hv, hnz, h2]; rfl
 have hb := big_bd h2
 have hp := place_bd hv
 have hsz := vs_bd (valid_vs hv)
 have hdd : df ≠ 0 ∨ dr ≠ 0 := by
  by_cases e : df = 0
  ·right; rintro rfl; simp [e] at hnz
  ·exact .inl e
 refine YG.block (YG.loop (fun a : Nat × Int × Int => (some a.1, [(0, .yl 4), (1, .ptr 0 0 0), (2, .ptr 1 0 0), (3, .ptr 2 0 0), (4, .ptr 3 0 0), (6, I a.2.1), (7, I a.2.2)], hp0 [[I f, I r], [I n], [I df], [I dr]]))
  (fun a => 0 ≤ a.2.1 ∧ a.2.1 < f ∧ 0 ≤ a.2.2 ∧ a.2.2 < r ∧ (1 ≤ df → a.1 ≤ a.2.1) ∧ (df ≤ -1 → a.2.1 + a.1 ≤ 7) ∧ (1 ≤ dr → a.1 ≤ a.2.2) ∧ (dr ≤ -1 → a.2.2 + a.1 ≤ 7) ∧ a.1 ≤ (rayL f r n df dr).length ∧ (rayL f r n df dr).drop a.1 = rayGo f r df dr (9 - a.1) a.2.1 a.2.2)
  (fun a => 8 - a.1) (0, (placeR f r n).1, (placeR f r n).2.1) rfl (Ent.ren [0, 1, 2, 3, 4] [0, 1, 2, 3, 4, 6, 7] rfl rfl rfl) ?_ ?_)
 ·exact ⟨hp.1, hp.2.1, hp.2.2.1, hp.2.2.2.1, by intro; simp; omega, by intro; simp; omega, by intro; simp; omega, by intro; simp; omega, Nat.zero_le _, by simpa using hL⟩
 rintro ⟨i, x, y⟩ ⟨i1, i2, i3, i4, i5, i6, i7, i8, i9, i10⟩
 dsimp only at i1 i2 i3 i4 i5 i6 i7 i8 i9 i10 ⊢
 have hi8 : i ≤ 7 := by omega
 refine YG.block (YG.seq (YG.seg hE 2 ?_))
 repeat (first | refine sat_self ?_ | refine sat_nd ?_)
 refine sat_ret ?_
 refine YG.seq (YG.seg hE 2 ?_)
 repeat (first | refine sat_self ?_ | refine sat_nd ?_)
 refine sat_ret ?_
 refine YG.seq (YG.yregAt ok 2 5 rfl rfl rfl ?_)
 refine sat_ret ?_
 have hgo : ∀ b, decide ((atR f r (IntKind.i64.wrap (x + df)) (IntKind.i64.wrap (y + dr))).2 = 0) = b → rayGo f r df dr (9 - i) x y = bif b then (atR f r (IntKind.i64.wrap (x + df)) (IntKind.i64.wrap (y + dr))).1 :: rayGo f r df dr (8 - i) (IntKind.i64.wrap (x + df)) (IntKind.i64.wrap (y + dr)) else [] := by
  intro b hb
  rw [show 9 - i = (8 - i) + 1 by omega]
  simp only [rayGo, hb]
 refine ⟨fun hg => ?_, fun hg => ?_⟩
 ·have hg : decide ((atR f r (IntKind.i64.wrap (x + df)) (IntKind.i64.wrap (y + dr))).2 = 0) = true := by simpa using hg
  have he := of_decide_eq_true hg
  obtain ⟨p1, p2, p3, p4, p5⟩ := at_pos he
  have hon := on_bd p4
  have hwx : IntKind.i64.wrap (x + df) = x + df := w64_id (by omega) (by omega)
  have hwy : IntKind.i64.wrap (y + dr) = y + dr := w64_id (by omega) (by omega)
  have hr := hgo true hg
  rw [cond_true] at hr
  rw [hr] at i10
  have hlt : i < (rayL f r n df dr).length := by
   have := congrArg List.length i10
   simp only [List.length_drop, List.length_cons] at this
   omega
  have hat : (rayL f r n df dr)[i]? = some (atR f r (IntKind.i64.wrap (x + df)) (IntKind.i64.wrap (y + dr))).1 := by
   have := congrArg (fun l : List Int => l[0]?) i10
   simpa using this
  have hdr : (rayL f r n df dr).drop (i + 1) = rayGo f r df dr (8 - i) (IntKind.i64.wrap (x + df)) (IntKind.i64.wrap (y + dr)) := by
   have := congrArg (List.drop 1) i10
   simpa [List.drop_drop, Nat.add_comm] using this
  repeat (first | refine sat_self ?_ | refine sat_nd ?_)
  refine sat_ret ?_
  refine ⟨i, [I (atR f r (IntKind.i64.wrap (x + df)) (IntKind.i64.wrap (y + dr))).1], [0, 1, 2, 3, 4, 6, 7, 59], rfl, by simp [rayV, hat], rfl, rfl, rfl, rfl, fun b => ?_⟩
  cases b with
  | true =>
   refine sat_ret ?_
   refine YG.seg hE 2 ?_
   refine sat_ret ⟨(i + 1, IntKind.i64.wrap (x + df), IntKind.i64.wrap (y + dr)), ?_, ?_, rfl, Ent.ren [0, 1, 2, 3, 4] [0, 1, 2, 3, 4, 6, 7] rfl rfl rfl⟩
   ·dsimp only
    rw [hwx, hwy] at hon
    rw [hdr, hwx, hwy, show 9 - (i + 1) = 8 - i by omega]
    refine ⟨hon.1, hon.2.1, hon.2.2.1, hon.2.2.2, ?_, ?_, ?_, ?_, by omega, rfl⟩ <;> intro h <;> push_cast <;> omega
   ·dsimp only; omega
  | false =>
   refine sat_ret ?_
   refine YG.seg hE 2 ?_
   exact sat_ret ⟨.inr rfl, .inr rfl⟩
 ·have hg : decide ((atR f r (IntKind.i64.wrap (x + df)) (IntKind.i64.wrap (y + dr))).2 = 0) = false := by simpa using hg
  have hr := hgo false hg
  rw [cond_false] at hr
  rw [hr] at i10
  have hlen : i = (rayL f r n df dr).length := by
   have := congrArg List.length i10
   simp only [List.length_drop, List.length_nil] at this
   omega
  refine sat_ret ?_
  refine YG.seg hE 2 ?_
  exact sat_ret ⟨.inr rfl, .inl (by simp [rayV, ← hlen])⟩
end Go.Ab

set_option maxRecDepth 100000
namespace Go.Ab
open Go.Proofs
variable {kCa kDb : Bool}
theorem rayL_get {f r n df dr : Int} {i : Nat} {vs : List V} (h : (rayV f r n df dr)[i]? = some vs) : ∃ x, (rayL f r n df dr)[i]? = some x ∧ vs = [I x] ∧ 0 ≤ x ∧ x < 64 := by
 simp only [rayV, List.getElem?_map, Option.map_eq_some_iff] at h
 obtain ⟨x, h1, rfl⟩ := h
 refine ⟨x, h1, rfl, ?_⟩
 have hm := List.mem_of_getElem? h1
 have key : ∀ (k : Nat) (a b : Int), x ∈ rayGo f r df dr k a b → 0 ≤ x ∧ x < 64 := by
  intro k
  induction k with
  | zero => intro a b h; simp [rayGo] at h
  | succ k ih =>
   intro a b h
   rw [rayGo] at h
   cases hb : decide ((atR f r (IntKind.i64.wrap (a + df)) (IntKind.i64.wrap (b + dr))).2 = 0) with
   | false => rw [hb] at h; simp at h
   | true =>
    rw [hb, cond_true] at h
    rcases List.mem_cons.1 h with rfl | h
    ·have := at_pos (of_decide_eq_true hb); exact ⟨this.1, this.2.1⟩
    ·exact ih _ _ h
 unfold rayL at hm
 cases hc : (validB f r n && !(decide (df = 0) && decide (dr = 0)) && !rayBig df dr) with
 | false => rw [hc] at hm; simp at hm
 | true => rw [hc, cond_true] at hm; exact key _ _ _ hm
theorem rayV_len {f r n df dr : Int} : ∀ vs ∈ rayV f r n df dr, vs.length = 1 := by
 intro vs h
 simp only [rayV, List.mem_map] at h
 obtain ⟨x, _, rfl⟩ := h
 rfl
theorem rayV_length {f r n df dr : Int} : (rayV f r n df dr).length = (rayL f r n df dr).length := by simp [rayV]
theorem ray_ent : Entered PP 179 := ent Tryz.func179 rfl rfl
def untilS (b : Int) : List Int → Int → Int
 | [], s => s
 | x :: l, s => bif decide (x = b) then s else untilS b l (uor s (ushl 1 x))
def betwR (f r a b : Int) : Int × Int := bif decide ((dirR f r a b).2.2 = 0) then (untilS b (rayL f r a (dirR f r a b).1 (dirR f r a b).2.1) 0, 0) else (0, (dirR f r a b).2.2)
theorem untilS_at {b : Int} {l : List Int} {i : Nat} {x s : Int} (h : l[i]? = some x) : untilS b (l.drop i) s = bif decide (x = b) then s else untilS b (l.drop (i + 1)) (uor s (ushl 1 x)) := by
 obtain ⟨h1, h2⟩ := List.getElem?_eq_some_iff.1 h
 rw [List.drop_eq_getElem_cons h1, h2, untilS]
def slideGo (occ : Int) : List Int → Int → Int
 | [], s => s
 | x :: l, s => bif decide (uand (ushr occ x) 1 = 1) then uor s (ushl 1 x) else slideGo occ l (uor s (ushl 1 x))
theorem slideGo_at {b : Int} {l : List Int} {i : Nat} {x s : Int} (h : l[i]? = some x) : slideGo b (l.drop i) s = bif decide (uand (ushr b x) 1 = 1) then uor s (ushl 1 x) else slideGo b (l.drop (i + 1)) (uor s (ushl 1 x)) := by
 obtain ⟨h1, h2⟩ := List.getElem?_eq_some_iff.1 h
 rw [List.drop_eq_getElem_cons h1, h2, slideGo]
def slideStep (f r n occ s : Int) (row : List Int) : Int := slideGo occ (rayL f r n (row.getD 0 0) (row.getD 1 0)) s
def slideR (f r n occ : Int) (rs : List (List Int)) : Int := rs.foldl (slideStep f r n occ) 0
def c_betw : CF
 | [.agg [.int .i64 f, .int .i64 r], .int .i64 a, .int .i64 b], [] => some (true, .tup [U (betwR f r a b).1, I (betwR f r a b).2], [])
 | _, _ => none
theorem c_betw_ok : CtOk (GGx kCa kDb) PP (124, c_betw) := by
 refine ct_mk Tryz.func124 (by kernel_rfl) rfl fun a0 h0 c0 v0 N0 e hc => ?_
 unfold c_betw at e
 split at e
 ·rename_i f r a b
  cases e
  have hE := EE_ok (kCa := kCa) (kDb := kDb) (cts := [(160, c_dir)]) (inl := [(161, Tryz.f161)]) ⟨c_dir_ok, trivial⟩ ⟨⟨Tryz.func161, by kernel_rfl⟩, trivial⟩
  refine fn_sound hE 2 Tryz.func124 rfl rfl ?_
  repeat (first | refine sat_self ?_ | refine sat_nd ?_)
  refine sat_br (fun h1 => ?_) (fun h1 => ?_)
  ·have h1 : decide ((dirR f r a b).2.2 = 0) = false := by simpa using h1
   exact sat_ret (fin_val (.inr rfl) rfl rfl rfl (by rw [betwR, h1]; rfl))
  have h1 : decide ((dirR f r a b).2.2 = 0) = true := by simpa using h1
  repeat (first | refine sat_self ?_ | refine sat_nd ?_)
  generalize hL : rayL f r a (dirR f r a b).1 (dirR f r a b).2.1 = L
  refine sat_range hE 2 7 [3, 4, 5, 6] [3, 5, 11] (Ent.ren [0, 1, 2, 3, 4, 5, 6] [3, 5, 11, 28] rfl rfl rfl) (ray_sq f r a (dirR f r a b).1 (dirR f r a b).2.1) rayV_len ray_ent rfl rfl rfl rfl rfl rfl
   (fun i hp' => ∃ s, untilS b (L.drop i) s = untilS b L 0 ∧ hp' = [.cells true [I f, I r], .cells true [I b], .cells true [U s], .cells true [I f, I r], .cells true [I a], .cells true [I (dirR f r a b).1], .cells true [I (dirR f r a b).2.1]])
   (fun e hp' => e = .exit 0 ∧ ∃ s, s = untilS b L 0 ∧ hp' = [.cells true [I f, I r], .cells true [I b], .cells true [U s], .cells true [I f, I r], .cells true [I a], .cells true [I (dirR f r a b).1], .cells true [I (dirR f r a b).2.1]])
   ⟨0, rfl, rfl⟩ ?_ ?_ ?_ ?_ ?_
  ·rintro i hp' ⟨s, _, rfl⟩; rfl
  ·rintro e hp' ⟨_, s, _, rfl⟩; rfl
  ·rintro i vs hp' hi ⟨s, hs, rfl⟩
   obtain ⟨x, hx, rfl, x0, x1⟩ := rayL_get hi
   rw [hL] at hx
   rw [untilS_at hx] at hs
   refine sat_ret ⟨rfl, ?_⟩
   refine sat_br (fun h2 => ?_) (fun h2 => ?_)
   ·rw [h2, cond_true] at hs
    exact sat_ret ⟨_, Ent.ren [0, 1, 2, 3, 4, 5, 6] [] rfl rfl rfl, rfl, s, hs, rfl⟩
   ·rw [h2, cond_false] at hs
    repeat (first | refine sat_self ?_ | refine sat_nd ?_)
    refine sat_ret ⟨_, Ent.ren [0, 1, 2, 3, 4, 5, 6] [] rfl rfl rfl, _, hs, rfl⟩
  ·rintro hp' ⟨s, hs, rfl⟩
   rw [rayV_length, hL, List.drop_length] at hs
   have hs : s = untilS b L 0 := hs
   exact sat_ret (fin_val (.inr rfl) rfl rfl rfl (by rw [betwR, h1, hL, hs]; rfl))
  ·rintro e hp' ⟨rfl, s, hs, rfl⟩
   exact sat_ret (fin_val (.inr rfl) rfl rfl rfl (by rw [betwR, h1, hL, hs]; rfl))
 ·cases e
def c_slide : CF
 | [.agg [.int .i64 f, .int .i64 r], .int .i64 n, .int .u64 occ, .sl 0 0 len none], [.rows false [.i64, .i64] rs] => some (decide (len = rs.length) && decide (rs.length ≤ 1000000), .int .u64 (slideR f r n occ rs), [])
 | _, _ => none
theorem c_slide_ok : CtOk (GGx kCa kDb) PP (164, c_slide) := by
 refine ct_mk Tryz.func164 (by kernel_rfl) rfl fun a0 h0 c0 v0 N0 e hc => ?_
 unfold c_slide at e
 split at e
 ·rename_i f r n occ len rs
  cases e
  have hE := EE_ok (kCa := kCa) (kDb := kDb) (cts := []) (inl := [(161, Tryz.f161)]) trivial ⟨⟨Tryz.func161, by kernel_rfl⟩, trivial⟩
  refine fn_sound hE 2 Tryz.func164 rfl rfl ?_
  simp only [Bool.and_eq_true, decide_eq_true_eq] at hc
  obtain ⟨hc1, hc2⟩ := hc
  subst hc1
  repeat (first | refine sat_self ?_ | refine sat_nd ?_)
  refine sat_for hE 2 (fun a : Int × Int => ([(1, I n), (4, .ptr 1 0 0), (6, .ptr 2 0 0), (9, .ptr 3 0 0), (13, .sl 0 0 rs.length none), (14, I rs.length), (15, I a.1)], [.rows false [.i64, .i64] rs, .cells true [I f, I r], .cells true [U occ], .cells true [U a.2]]))
   (fun a => ∃ k : Nat, k ≤ rs.length ∧ a.1 = k ∧ a.2 = (rs.take k).foldl (slideStep f r n occ) 0) (fun a => rs.length - a.1.toNat) (0, 0)
   (Ent.ren [0, 1, 2, 3] [1, 4, 6, 9, 13, 14, 15] rfl rfl rfl) ⟨0, Nat.zero_le _, rfl, rfl⟩ ?_
  rintro ⟨i, set⟩ ⟨k, hk, h1, h2⟩
  dsimp only at h1 h2 ⊢
  refine sat_br (fun hlt => ?_) (fun hlt => ?_)
  ·simp only [decide_eq_true_eq] at hlt
   have hki : i.toNat = k := by omega
   refine sat_need (by simp; omega) ?_
   repeat (first | refine sat_self ?_ | refine sat_nd ?_)
   have hstep := take_step rs [] (slideStep f r n occ) 0 (show k < rs.length by omega)
   rw [← h2, ← hki] at hstep
   have hnext : IntKind.i64.wrap (i + 1) = ((k + 1 : Nat) : Int) := by rw [w64_id (by omega) (by omega)]; omega
   generalize hL : rayL f r n ((rs.getD i.toNat []).getD 0 0) ((rs.getD i.toNat []).getD 1 0) = L
   refine sat_range hE 2 9 [5, 6, 7, 8] [1, 4, 6, 9, 13, 14, 15] (Ent.ren [0, 1, 2, 3, 4, 5, 6, 7, 8] [1, 4, 6, 9, 13, 14, 15, 25] rfl rfl rfl) (ray_sq f r n ((rs.getD i.toNat []).getD 0 0) ((rs.getD i.toNat []).getD 1 0)) rayV_len ray_ent rfl rfl rfl rfl rfl rfl
    (fun j hp' => ∃ s, slideGo occ (L.drop j) s = slideGo occ L set ∧ hp' = [.rows false [.i64, .i64] rs, .cells true [I f, I r], .cells true [U occ], .cells true [U s], .cells true [I ((rs.getD i.toNat []).getD 0 0), I ((rs.getD i.toNat []).getD 1 0)], .cells true [I f, I r], .cells true [I n], .cells true [I ((rs.getD i.toNat []).getD 0 0)], .cells true [I ((rs.getD i.toNat []).getD 1 0)]])
    (fun e hp' => e = .exit 2 ∧ ∃ s, s = slideGo occ L set ∧ hp' = [.rows false [.i64, .i64] rs, .cells true [I f, I r], .cells true [U occ], .cells true [U s], .cells true [I ((rs.getD i.toNat []).getD 0 0), I ((rs.getD i.toNat []).getD 1 0)], .cells true [I f, I r], .cells true [I n], .cells true [I ((rs.getD i.toNat []).getD 0 0)], .cells true [I ((rs.getD i.toNat []).getD 1 0)]])
    ⟨set, rfl, rfl⟩ ?_ ?_ ?_ ?_ ?_
   ·rintro j hp' ⟨s, _, rfl⟩; rfl
   ·rintro e hp' ⟨_, s, _, rfl⟩; rfl
   ·rintro j vs hp' hi ⟨s, hs, rfl⟩
    obtain ⟨x, hx, rfl, x0, x1⟩ := rayL_get hi
    rw [hL] at hx
    rw [slideGo_at hx] at hs
    refine sat_ret ⟨rfl, ?_⟩
    repeat (first | refine sat_self ?_ | refine sat_nd ?_)
    refine sat_br (fun h2 => ?_) (fun h2 => ?_)
    ·have h2 : decide (uand (ushr occ x) 1 = 1) = true := h2
     rw [h2, cond_true] at hs
     exact sat_ret ⟨_, Ent.ren [0, 1, 2, 3, 4, 5, 6, 7, 8] [] rfl rfl rfl, rfl, _, hs, rfl⟩
    ·have h2 : decide (uand (ushr occ x) 1 = 1) = false := h2
     rw [h2, cond_false] at hs
     exact sat_ret ⟨_, Ent.ren [0, 1, 2, 3, 4, 5, 6, 7, 8] [] rfl rfl rfl, _, hs, rfl⟩
   ·rintro hp' ⟨s, hs, rfl⟩
    rw [rayV_length, hL, List.drop_length] at hs
    have hs : s = slideGo occ L set := hs
    refine sat_ret ⟨(_, _), ⟨k + 1, by omega, hnext, ?_⟩, ?_, Ent.ren [0, 1, 2, 3] [1, 4, 6, 9, 13, 14, 15] rfl rfl rfl⟩
    ·rw [← hki, hstep, slideStep, hL]; exact hs
    ·show _ - (IntKind.i64.wrap (i + 1)).toNat < _
     rw [hnext]; omega
   ·rintro e hp' ⟨rfl, s, hs, rfl⟩
    refine sat_ret ⟨(_, _), ⟨k + 1, by omega, hnext, ?_⟩, ?_, Ent.ren [0, 1, 2, 3] [1, 4, 6, 9, 13, 14, 15] rfl rfl rfl⟩
    ·rw [← hki, hstep, slideStep, hL]; exact hs
    ·show _ - (IntKind.i64.wrap (i + 1)).toNat < _
     rw [hnext]; omega
  ·simp only [decide_eq_false_iff_not] at hlt
   obtain rfl : k = rs.length := by omega
   rw [List.take_length] at h2
   exact sat_ret (sat_ret (fin_val (.inr rfl) rfl rfl rfl (by rw [h2]; rfl)))
 ·cases e
end Go.Ab

set_option maxRecDepth 100000
namespace Go.Ab
open Go.Proofs
variable {kCa kDb : Bool}
def reachR (f r kd n occ : Int) : Int × Int :=
 bif rayOn f r n occ then
  (bif decide (kd = 2) then (leapR f r n leapsT, 0) else bif decide (kd = 3) then (slideR f r n occ diagT, 0) else bif decide (kd = 4) then (slideR f r n occ straT, 0)
   else bif decide (kd = 5) then (uor (slideR f r n occ diagT) (slideR f r n occ straT), 0) else bif decide (kd = 6) then (uor (leapR f r n diagT) (leapR f r n straT), 0) else (0, 2))
 else (0, 2)
def pawnR (f r : Int) (bl : Bool) (n : Int) : Int × Int := bif validB f r n then (leapR f r n [[-1, fwd bl], [1, fwd bl]], 0) else (0, 2)
def one1 (f r : Int) (bl : Bool) (n occ : Int) : Int := uandn (leapR f r n [[0, fwd bl]]) occ
def stepsC (f r : Int) (bl : Bool) (n occ : Int) : Bool := decide (one1 f r bl n occ = 0) || decide (r < 6) || !decide (IntKind.i64.wrap (n.tdiv f) = bif bl then IntKind.i64.wrap (r - 2) else 1)
def stepsR (f r : Int) (bl : Bool) (n occ : Int) : Int × Int :=
 bif rayOn f r n occ then
  (bif stepsC f r bl n occ then (one1 f r bl n occ, 0)
   else (uor (one1 f r bl n occ) (uandn (leapR f r n [[0, IntKind.i64.wrap (2 * fwd bl)]]) occ), 0))
 else (0, 2)
def c_reach : CF
 | [.agg [.int .i64 f, .int .i64 r], .int .i8 kd, .int .i64 n, .int .u64 occ], [] => some (true, .tup [U (reachR f r kd n occ).1, I (reachR f r kd n occ).2], [])
 | _, _ => none
theorem c_reach_ok : CtOk (GGx kCa kDb) PP (125, c_reach) := by
 refine ct_mk Tryz.func125 (by kernel_rfl) rfl fun a0 h0 c0 v0 N0 e hc => ?_
 unfold c_reach at e
 split at e
 ·rename_i f r kd n occ
  cases e
  have hE := EE_ok (kCa := kCa) (kDb := kDb) (cts := [(162, c_rayon), (163, c_leap), (164, c_slide)]) (inl := []) ⟨c_rayon_ok, c_leap_ok, c_slide_ok, trivial⟩ trivial
  refine fn_sound hE 2 Tryz.func125 rfl rfl ?_
  repeat (first | refine sat_self ?_ | refine sat_nd ?_)
  refine sat_br (fun h1 => ?_) (fun h1 => ?_)
  ·have h1 : rayOn f r n occ = false := by simpa using h1
   exact sat_ret (fin_val (.inr rfl) rfl rfl rfl (by rw [reachR, h1]; rfl))
  have h1 : rayOn f r n occ = true := by simpa using h1
  refine sat_br (fun h2 => ?_) (fun h2 => ?_)
  ·repeat (first | refine sat_self ?_ | refine sat_nd ?_)
   exact sat_ret (fin_val (.inr rfl) rfl rfl rfl (by rw [reachR, h1, cond_true, h2]; rfl))
  refine sat_br (fun h3 => ?_) (fun h3 => ?_)
  ·repeat (first | refine sat_self ?_ | refine sat_nd ?_)
   exact sat_ret (fin_val (.inr rfl) rfl rfl rfl (by rw [reachR, h1, cond_true, h2, h3]; rfl))
  refine sat_br (fun h4 => ?_) (fun h4 => ?_)
  ·repeat (first | refine sat_self ?_ | refine sat_nd ?_)
   exact sat_ret (fin_val (.inr rfl) rfl rfl rfl (by rw [reachR, h1, cond_true, h2, h3, h4]; rfl))
  refine sat_br (fun h5 => ?_) (fun h5 => ?_)
  ·repeat (first | refine sat_self ?_ | refine sat_nd ?_)
   exact sat_ret (fin_val (.inr rfl) rfl rfl rfl (by rw [reachR, h1, cond_true, h2, h3, h4, h5]; rfl))
  refine sat_br (fun h6 => ?_) (fun h6 => ?_)
  ·repeat (first | refine sat_self ?_ | refine sat_nd ?_)
   exact sat_ret (fin_val (.inr rfl) rfl rfl rfl (by rw [reachR, h1, cond_true, h2, h3, h4, h5, h6]; rfl))
  exact sat_ret (fin_val (.inr rfl) rfl rfl rfl (by rw [reachR, h1, cond_true, h2, h3, h4, h5, h6]; rfl))
 ·cases e
def c_pawn : CF
 | [.agg [.int .i64 f, .int .i64 r], .bool bl, .int .i64 n], [] => some (true, .tup [U (pawnR f r bl n).1, I (pawnR f r bl n).2], [])
 | _, _ => none
theorem c_pawn_ok : CtOk (GGx kCa kDb) PP (158, c_pawn) := by
 refine ct_mk Tryz.func158 (by kernel_rfl) rfl fun a0 h0 c0 v0 N0 e hc => ?_
 unfold c_pawn at e
 split at e
 ·rename_i f r bl n
  cases e
  have hE := EE_ok (kCa := kCa) (kDb := kDb) (cts := [(71, c_valid), (176, c_forward), (163, c_leap)]) (inl := []) ⟨c_valid_ok, c_forward_ok, c_leap_ok, trivial⟩ trivial
  refine fn_sound hE 2 Tryz.func158 rfl rfl ?_
  repeat (first | refine sat_self ?_ | refine sat_nd ?_)
  refine sat_br (fun h1 => ?_) (fun h1 => ?_)
  ·have h1 : validB f r n = false := by simpa using h1
   exact sat_ret (fin_val (.inr rfl) rfl rfl rfl (by rw [pawnR, h1]; rfl))
  have h1 : validB f r n = true := by simpa using h1
  repeat (first | refine sat_self ?_ | refine sat_nd ?_)
  exact sat_ret (fin_val (.inr rfl) rfl rfl rfl (by rw [pawnR, h1]; rfl))
 ·cases e
def c_steps : CF
 | [.agg [.int .i64 f, .int .i64 r], .bool bl, .int .i64 n, .int .u64 occ], [] => some (true, .tup [U (stepsR f r bl n occ).1, I (stepsR f r bl n occ).2], [])
 | _, _ => none
theorem c_steps_ok : CtOk (GGx kCa kDb) PP (157, c_steps) := by
 refine ct_mk Tryz.func157 (by kernel_rfl) rfl fun a0 h0 c0 v0 N0 e hc => ?_
 unfold c_steps at e
 split at e
 ·rename_i f r bl n occ
  cases e
  have hE := EE_ok (kCa := kCa) (kDb := kDb) (cts := [(162, c_rayon), (163, c_leap), (176, c_forward)]) (inl := []) ⟨c_rayon_ok, c_leap_ok, c_forward_ok, trivial⟩ trivial
  refine fn_sound hE 2 Tryz.func157 rfl rfl ?_
  repeat (first | refine sat_self ?_ | refine sat_nd ?_)
  refine sat_br (fun h1 => ?_) (fun h1 => ?_)
  ·have h1 : rayOn f r n occ = false := by simpa using h1
   exact sat_ret (fin_val (.inr rfl) rfl rfl rfl (by rw [stepsR, h1]; rfl))
  have h1 : rayOn f r n occ = true := by simpa using h1
  have hv : validB f r n = true := by simp only [rayOn, Bool.and_eq_true] at h1; exact h1.1
  have hf := vs_bd (valid_vs hv)
  repeat (first | refine sat_self ?_ | refine sat_nd ?_)
  refine sat_br (fun h2 => ?_) (fun h2 => ?_)
  ·subst h2
   repeat (first | refine sat_self ?_ | refine sat_nd ?_)
   refine sat_br (fun h3 => ?_) (fun h3 => ?_)
   ·have h3 : stepsC f r true n occ = true := h3
    exact sat_ret (fin_val (.inr rfl) rfl rfl rfl (by rw [stepsR, h1, cond_true, h3]; rfl))
   ·have h3 : stepsC f r true n occ = false := h3
    repeat (first | refine sat_self ?_ | refine sat_nd ?_)
    exact sat_ret (fin_val (.inr rfl) rfl rfl rfl (by rw [stepsR, h1, cond_true, h3]; rfl))
  ·subst h2
   repeat (first | refine sat_self ?_ | refine sat_nd ?_)
   refine sat_br (fun h3 => ?_) (fun h3 => ?_)
   ·have h3 : stepsC f r false n occ = true := h3
    exact sat_ret (fin_val (.inr rfl) rfl rfl rfl (by rw [stepsR, h1, cond_true, h3]; rfl))
   ·have h3 : stepsC f r false n occ = false := h3
    repeat (first | refine sat_self ?_ | refine sat_nd ?_)
    exact sat_ret (fin_val (.inr rfl) rfl rfl rfl (by rw [stepsR, h1, cond_true, h3]; rfl))
 ·cases e
end Go.Ab

set_option maxRecDepth 100000
namespace Go.Ab
open Go.Proofs
variable {kCa kDb : Bool}
def numB (f r x y : Int) : Bool := decide (x < 0) || decide (f ≤ x) || decide (y < 0) || decide (r ≤ y)
def numR (f r x y : Int) : Int := bif numB f r x y then -1 else IntKind.i64.wrap (IntKind.i64.wrap (y * f) + x)
def hasB (s n : Int) : Bool := decide (0 ≤ n) && decide (n < 64) && decide ((ushr s n).tmod 2 = 1)
def c_Size : CF
 | [.agg [.int .i64 f, .int .i64 r]], [] => some (true, .bool (vsB f r), [])
 | _, _ => none
theorem c_Size_ok : CtOk (GGx kCa kDb) PP (53, c_Size) := by
 refine ct_mk Tryz.func53 (by kernel_rfl) rfl fun a0 h0 c0 v0 N0 e hc => ?_
 unfold c_Size at e
 split at e
 ·rename_i f r
  cases e
  have hE := EE_ok (kCa := kCa) (kDb := kDb) (cts := []) (inl := []) trivial trivial
  refine fn_sound hE 2 Tryz.func53 rfl rfl ?_
  repeat (first | refine sat_self ?_ | refine sat_nd ?_)
  exact sat_ret (fin_val (.inr rfl) rfl rfl rfl (by simp [vsB, sideB, Bool.and_assoc]))
 ·cases e
def c_Valid : CF
 | [.agg [.int .i64 f, .int .i64 r], .int .i64 n], [] => some (true, .bool (validB f r n), [])
 | _, _ => none
theorem c_Valid_ok : CtOk (GGx kCa kDb) PP (18, c_Valid) := by
 refine ct_mk Tryz.func18 (by kernel_rfl) rfl fun a0 h0 c0 v0 N0 e hc => ?_
 unfold c_Valid at e
 split at e
 ·rename_i f r n
  cases e
  have hE := EE_ok (kCa := kCa) (kDb := kDb) (cts := [(53, c_Size)]) (inl := []) ⟨c_Size_ok, trivial⟩ trivial
  refine fn_sound hE 2 Tryz.func18 rfl rfl ?_
  repeat (first | refine sat_self ?_ | refine sat_nd ?_)
  exact sat_ret (fin_val (.inr rfl) rfl rfl rfl rfl)
 ·cases e
def c_Number : CF
 | [.agg [.int .i64 f, .int .i64 r], .int .i64 x, .int .i64 y], [] => some (true, .int .i64 (numR f r x y), [])
 | _, _ => none
theorem c_Number_ok : CtOk (GGx kCa kDb) PP (97, c_Number) := by
 refine ct_mk Tryz.func97 (by kernel_rfl) rfl fun a0 h0 c0 v0 N0 e hc => ?_
 unfold c_Number at e
 split at e
 ·rename_i f r x y
  cases e
  have hE := EE_ok (kCa := kCa) (kDb := kDb) (cts := []) (inl := []) trivial trivial
  refine fn_sound hE 2 Tryz.func97 rfl rfl ?_
  repeat (first | refine sat_self ?_ | refine sat_nd ?_)
  refine sat_br (fun h1 => ?_) (fun h1 => ?_)
  ·have h1 : numB f r x y = true := h1
   exact sat_ret (fin_val (.inr rfl) rfl rfl rfl (by rw [numR, h1]; rfl))
  ·have h1 : numB f r x y = false := h1
   exact sat_ret (fin_val (.inr rfl) rfl rfl rfl (by rw [numR, h1]; rfl))
 ·cases e
def c_Place : CF
 | [.agg [.int .i64 f, .int .i64 _r], .int .i64 n], [] => some (!decide (f = 0), .agg [I (n.tmod f), I (IntKind.i64.wrap (n.tdiv f))], [])
 | _, _ => none
theorem c_Place_ok : CtOk (GGx kCa kDb) PP (48, c_Place) := by
 refine ct_mk Tryz.func48 (by kernel_rfl) rfl fun a0 h0 c0 v0 N0 e hc => ?_
 unfold c_Place at e
 split at e
 ·rename_i f r n
  cases e
  have hE := EE_ok (kCa := kCa) (kDb := kDb) (cts := []) (inl := []) trivial trivial
  refine fn_sound hE 2 Tryz.func48 rfl rfl ?_
  have hc : ¬ f = 0 := by simpa using hc
  repeat (first | refine sat_self ?_ | refine sat_nd ?_)
  exact sat_ret (fin_val (.inr rfl) rfl rfl rfl rfl)
 ·cases e
def c_Has : CF
 | [.int .u64 s, .int .i64 n], [] => some (true, .bool (hasB s n), [])
 | _, _ => none
theorem c_Has_ok : CtOk (GGx kCa kDb) PP (34, c_Has) := by
 refine ct_mk Tryz.func34 (by kernel_rfl) rfl fun a0 h0 c0 v0 N0 e hc => ?_
 unfold c_Has at e
 split at e
 ·rename_i s n
  cases e
  have hE := EE_ok (kCa := kCa) (kDb := kDb) (cts := []) (inl := []) trivial trivial
  refine fn_sound hE 2 Tryz.func34 rfl rfl ?_
  repeat (first | refine sat_self ?_ | refine sat_nd ?_)
  exact sat_ret (fin_val (.inr rfl) rfl rfl rfl rfl)
 ·cases e
def ofL : List Int → Int → Int
 | [], s => s
 | x :: l, s => ofL l (bif hasB s x then s else IntKind.u64.wrap (s + ushl 1 x))
theorem ofL_at {l : List Int} {i : Nat} {x s : Int} (h : l[i]? = some x) : ofL (l.drop i) s = ofL (l.drop (i + 1)) (bif hasB s x then s else IntKind.u64.wrap (s + ushl 1 x)) := by
 obtain ⟨h1, h2⟩ := List.getElem?_eq_some_iff.1 h
 rw [List.drop_eq_getElem_cons h1, h2, ofL]
def c_Of : CF
 | [.sl 0 0 len none], [.ints false .i64 zs] => some (decide (len = zs.length) && decide (zs.length ≤ 1000000) && zs.all fun x => decide (0 ≤ x), .int .u64 (ofL zs 0), [])
 | _, _ => none
theorem c_Of_ok : CtOk (GGx kCa kDb) PP (20, c_Of) := by
 refine ct_mk Tryz.func20 (by kernel_rfl) rfl fun a0 h0 c0 v0 N0 e hc => ?_
 unfold c_Of at e
 split at e
 ·rename_i len zs
  cases e
  have hE := EE_ok (kCa := kCa) (kDb := kDb) (cts := [(34, c_Has)]) (inl := []) ⟨c_Has_ok, trivial⟩ trivial
  refine fn_sound hE 2 Tryz.func20 rfl rfl ?_
  simp only [Bool.and_eq_true, decide_eq_true_eq, List.all_eq_true] at hc
  obtain ⟨⟨hc1, hc2⟩, hc3⟩ := hc
  subst hc1
  refine sat_for hE 2 (fun a : Int × Int => ([(0, .sl 0 0 zs.length none), (3, U a.2), (4, I a.1)], [.ints false .i64 zs]))
   (fun a => ∃ k : Nat, k ≤ zs.length ∧ a.1 = k ∧ ofL (zs.drop k) a.2 = ofL zs 0) (fun a => zs.length - a.1.toNat) (0, 0)
   (Ent.ren [0] [0, 3, 4] rfl rfl rfl) ⟨0, by omega, rfl, rfl⟩ ?_
  rintro ⟨i, set⟩ ⟨k, hk, h1, h2⟩
  dsimp only at h1 h2 ⊢
  refine sat_br (fun hlt => ?_) (fun hlt => ?_)
  ·simp only [decide_eq_true_eq] at hlt
   have hnext : IntKind.i64.wrap (i + 1) = ((k + 1 : Nat) : Int) := by rw [w64_id (by omega) (by omega)]; omega
   have hki : i.toNat = k := by omega
   have hlt' : k < zs.length := by omega
   have hget : zs[k]? = some (zs.getD i.toNat 0) := by simp [hki, List.getD, hlt']
   have hmem := hc3 _ (List.mem_of_getElem? hget)
   rw [ofL_at hget] at h2
   refine sat_need (by simp; omega) ?_
   repeat (first | refine sat_self ?_ | refine sat_nd ?_)
   refine sat_br (fun hon => ?_) (fun hon => ?_)
   ·have hon : (!hasB set (zs.getD i.toNat 0)) = true := hon
    rw [Bool.not_eq_true'] at hon
    rw [hon, cond_false] at h2
    repeat (first | (first | refine sat_self ?_ | refine sat_nd ?_) | refine sat_need (decide_eq_true hmem) ?_)
    refine sat_ret ⟨(IntKind.i64.wrap (i + 1), _), ⟨k + 1, by omega, hnext, h2⟩, ?_, Ent.ren [0] [0, 3, 4] rfl rfl rfl⟩
    show _ - (IntKind.i64.wrap (i + 1)).toNat < _
    rw [hnext]; omega
   ·have hon : (!hasB set (zs.getD i.toNat 0)) = false := hon
    rw [Bool.not_eq_false'] at hon
    repeat (first | refine sat_self ?_ | refine sat_nd ?_)
    rw [hon, cond_true] at h2
    refine sat_ret ⟨(IntKind.i64.wrap (i + 1), _), ⟨k + 1, by omega, hnext, h2⟩, ?_, Ent.ren [0] [0, 3, 4] rfl rfl rfl⟩
    show _ - (IntKind.i64.wrap (i + 1)).toNat < _
    rw [hnext]; omega
  ·simp only [decide_eq_false_iff_not] at hlt
   obtain rfl : k = zs.length := by omega
   rw [List.drop_length] at h2
   exact sat_ret (sat_ret (fin_val (.inr rfl) rfl rfl rfl (by rw [← h2]; rfl)))
 ·cases e
end Go.Ab

set_option maxRecDepth 100000
namespace Go.Ab
open Go.Proofs
variable {kCa kDb : Bool}
def refGo (f r df dr px py : Int) : Nat → Int → List Int
 | 0, _ => []
 | m + 1, k => bif decide (numR f r (IntKind.i64.wrap (px + IntKind.i64.wrap (k * df))) (IntKind.i64.wrap (py + IntKind.i64.wrap (k * dr))) < 0) then [] else numR f r (IntKind.i64.wrap (px + IntKind.i64.wrap (k * df))) (IntKind.i64.wrap (py + IntKind.i64.wrap (k * dr))) :: refGo f r df dr px py m (IntKind.i64.wrap (k + 1))
def refRay (f r n df dr : Int) : List Int := bif !validB f r n || (decide (df = 0) && decide (dr = 0)) then [] else refGo f r df dr (n.tmod f) (IntKind.i64.wrap (n.tdiv f)) 8 1
theorem refGo_len (f r df dr px py : Int) (m : Nat) : ∀ k, (refGo f r df dr px py m k).length ≤ m := by
 induction m with
 | zero => intro k; simp [refGo]
 | succ m ih =>
  intro k
  rw [refGo]
  cases decide (numR f r (IntKind.i64.wrap (px + IntKind.i64.wrap (k * df))) (IntKind.i64.wrap (py + IntKind.i64.wrap (k * dr))) < 0) with
  | true => simp
  | false => have := ih (IntKind.i64.wrap (k + 1)); simp; omega
theorem refRay_len (f r n df dr : Int) : (refRay f r n df dr).length ≤ 8 := by
 unfold refRay
 cases (!validB f r n || (decide (df = 0) && decide (dr = 0))) with
 | true => simp
 | false => exact refGo_len ..
def c_refRay : CF
 | [.agg [.int .i64 f, .int .i64 r], .int .i64 n, .int .i64 df, .int .i64 dr], [] => some (true, .sl 0 0 (refRay f r n df dr).length none, [.ints true .i64 (refRay f r n df dr)])
 | _, _ => none
theorem c_refRay_ok : CtOk (GGx kCa kDb) PP (70, c_refRay) := by
 refine ct_mk Tryz.func70 (by kernel_rfl) rfl fun a0 h0 c0 v0 N0 e hc => ?_
 unfold c_refRay at e
 split at e
 ·rename_i f r n df dr
  cases e
  have hE := EE_ok (kCa := kCa) (kDb := kDb) (cts := [(18, c_Valid), (48, c_Place), (97, c_Number)]) (inl := []) ⟨c_Valid_ok, c_Place_ok, c_Number_ok, trivial⟩ trivial
  refine fn_soundE hE 2 Tryz.func70 rfl rfl ?_
  repeat (first | refine sat_self ?_ | refine sat_nd ?_)
  refine sat_br (fun h0 => ?_) (fun h0 => ?_)
  ·have hz : refRay f r n df dr = [] := by rw [refRay, show (!validB f r n || (decide (df = 0) && decide (dr = 0))) = true from h0]; rfl
   rw [hz]
   exact sat_ret (fin_e ((Ent.phanT (t := 8) (o := .ints true .i64 []) rfl ⟨by simp, by simp, trivial, rfl⟩ (blt_lt rfl))) (fin_new 1 (.inr rfl) rfl rfl rfl rfl rfl rfl))
  have hz : refRay f r n df dr = refGo f r df dr (n.tmod f) (IntKind.i64.wrap (n.tdiv f)) 8 1 := by rw [refRay, show (!validB f r n || (decide (df = 0) && decide (dr = 0))) = false from h0]; rfl
  have hv : validB f r n = true := by cases h : validB f r n <;> simp_all
  have hf := vs_bd (valid_vs hv)
  refine sat_need (by simp; omega) ?_
  refine sat_for hE 2 (fun a : Int × List Int => ([(2, I df), (3, I dr), (4, .ptr 0 0 0), (9, .ptr 1 0 0), (10, .sl 2 0 a.2.length none), (11, I a.1)], [.cells true [I f, I r], .cells true [I (n.tmod f), I (IntKind.i64.wrap (n.tdiv f))], .ints true .i64 a.2]))
   (fun a => ∃ k : Nat, 1 ≤ k ∧ k ≤ 9 ∧ a.1 = k ∧ a.2 ++ refGo f r df dr (n.tmod f) (IntKind.i64.wrap (n.tdiv f)) (9 - k) k = refRay f r n df dr) (fun a => 9 - a.1.toNat) (1, [])
   ((Ent.phanT (t := 10) (o := .ints true .i64 []) rfl ⟨by simp, by simp, trivial, rfl⟩ (blt_lt rfl)).trans (Ent.ren [0, 1, 2] [2, 3, 4, 9, 10, 11] rfl rfl rfl)) ⟨1, by omega, by omega, rfl, hz.symm⟩ ?_
  rintro ⟨i, zs⟩ ⟨k, hk1, hk, h1, h3⟩
  dsimp only at h1 h3 ⊢
  have hb : zs.length ≤ 8 := by have := congrArg List.length h3; have := refRay_len f r n df dr; simp at *; omega
  refine sat_br (fun hlt => ?_) (fun hlt => ?_)
  ·simp only [decide_eq_true_eq] at hlt
   have hnext : IntKind.i64.wrap (i + 1) = ((k + 1 : Nat) : Int) := by rw [w64_id (by omega) (by omega)]; omega
   rw [show 9 - k = (9 - (k + 1)) + 1 by omega, refGo, ← h1, hnext] at h3
   repeat (first | refine sat_self ?_ | refine sat_nd ?_)
   refine sat_br (fun hon => ?_) (fun hon => ?_)
   ·have hon : decide (numR f r (IntKind.i64.wrap (n.tmod f + IntKind.i64.wrap (i * df))) (IntKind.i64.wrap (IntKind.i64.wrap (n.tdiv f) + IntKind.i64.wrap (i * dr))) < 0) = true := hon
    rw [hon, cond_true, List.append_nil] at h3
    subst h3
    refine sat_ret (sat_ret (fin_0 (fin_new 2 (.inr rfl) rfl rfl rfl rfl rfl rfl)))
   ·have hon : decide (numR f r (IntKind.i64.wrap (n.tmod f + IntKind.i64.wrap (i * df))) (IntKind.i64.wrap (IntKind.i64.wrap (n.tdiv f) + IntKind.i64.wrap (i * dr))) < 0) = false := hon
    rw [hon, cond_false] at h3
    refine sat_need (b := decide (zs.length = zs.length) && decide ((zs.length + 1) * 8 ≤ 140737488355328) && true) (by simp; omega) ?_
    refine sat_ret ⟨(IntKind.i64.wrap (i + 1), zs ++ [numR f r (IntKind.i64.wrap (n.tmod f + IntKind.i64.wrap (i * df))) (IntKind.i64.wrap (IntKind.i64.wrap (n.tdiv f) + IntKind.i64.wrap (i * dr)))]), ⟨k + 1, by omega, by omega, hnext, by rw [← h3]; simp⟩, ?_, Ent.ren [0, 1, 4] [2, 3, 4, 9, 10, 11] rfl rfl rfl⟩
    show _ - (IntKind.i64.wrap (i + 1)).toNat < _
    rw [hnext]; omega
  ·simp only [decide_eq_false_iff_not] at hlt
   obtain rfl : k = 9 := by omega
   rw [refGo, List.append_nil] at h3
   subst h3
   refine sat_ret (sat_ret (fin_0 (fin_new 2 (.inr rfl) rfl rfl rfl rfl rfl rfl)))
 ·cases e
end Go.Ab

set_option maxRecDepth 100000
namespace Go.Ab
open Go.Proofs
variable {kCa kDb : Bool}
def subS (s : List UInt8) (a b : Int) : List UInt8 := (s.drop a.toNat).take (b.toNat - a.toNat)
def nameS (f _r n : Int) : List UInt8 := subS [97, 98, 99, 100, 101, 102, 103, 104] (n.tmod f) (IntKind.i64.wrap (n.tmod f + 1)) ++ subS [49, 50, 51, 52, 53, 54, 55, 56] (IntKind.i64.wrap (n.tdiv f)) (IntKind.i64.wrap (IntKind.i64.wrap (n.tdiv f) + 1))
theorem quo_bd {f r n : Int} (h : validB f r n = true) : 0 ≤ n.tmod f ∧ n.tmod f < f ∧ 0 ≤ n.tdiv f ∧ n.tdiv f < r ∧ IntKind.i64.wrap (n.tdiv f) = n.tdiv f ∧ IntKind.i64.wrap (n.tmod f + 1) = n.tmod f + 1 ∧ IntKind.i64.wrap (n.tdiv f + 1) = n.tdiv f + 1 := by
 have hp := place_bd h
 simp only [placeR, h, cond_true] at hp
 obtain ⟨a1, a2, a3, a4⟩ := vs_bd (valid_vs h)
 have hv : 0 ≤ n := by simp only [validB, Bool.and_eq_true, decide_eq_true_eq] at h; exact h.1.2
 have e2 : n.tdiv f = n / f := Int.tdiv_eq_ediv_of_nonneg hv
 have e3 : IntKind.i64.wrap (n.tdiv f) = n.tdiv f := by rw [hp.2.2.2.2.2, e2]
 rw [e3] at hp
 refine ⟨hp.1, hp.2.1, hp.2.2.1, hp.2.2.2.1, e3, w64_id (by omega) (by omega), w64_id (by omega) (by omega)⟩
def c_Name : CF
 | [.agg [.int .i64 f, .int .i64 r], .int .i64 n], [] => some (validB f r n, .str (nameS f r n), [])
 | _, _ => none
theorem c_Name_ok : CtOk (GGx kCa kDb) PP (134, c_Name) := by
 refine ct_mk Tryz.func134 (by kernel_rfl) rfl fun a0 h0 c0 v0 N0 e hc => ?_
 unfold c_Name at e
 split at e
 ·rename_i f r n
  cases e
  have hE := EE_ok (kCa := kCa) (kDb := kDb) (cts := [(48, c_Place)]) (inl := []) ⟨c_Place_ok, trivial⟩ trivial
  refine fn_sound hE 2 Tryz.func134 rfl rfl ?_
  obtain ⟨a1, a2, a3, a4⟩ := vs_bd (valid_vs hc)
  obtain ⟨b1, b2, b3, b4, b5, b6, b7⟩ := quo_bd hc
  refine sat_need (by simp; omega) ?_
  repeat (first | refine sat_self ?_ | refine sat_need (by first | rfl | (simp [b5, b6, b7]; omega)) ?_)
  exact sat_ret (fin_val (.inr rfl) rfl rfl rfl rfl)
 ·cases e
def parseGo (f r : Int) (s : List UInt8) : Nat → Nat → Int
 | 0, _ => -1
 | m + 1, k => bif nameS f r k == s then k else parseGo f r s m (k + 1)
def parseR (f r : Int) (s : List UInt8) : Int := parseGo f r s (f * r).toNat 0
def c_Parse : CF
 | [.agg [.int .i64 f, .int .i64 r], .str s], [] => some (vsB f r, .int .i64 (parseR f r s), [])
 | _, _ => none
theorem c_Parse_ok : CtOk (GGx kCa kDb) PP (133, c_Parse) := by
 refine ct_mk Tryz.func133 (by kernel_rfl) rfl fun a0 h0 c0 v0 N0 e hc => ?_
 unfold c_Parse at e
 split at e
 ·rename_i f r s
  cases e
  have hE := EE_ok (kCa := kCa) (kDb := kDb) (cts := [(134, c_Name)]) (inl := []) ⟨c_Name_ok, trivial⟩ trivial
  refine fn_sound hE 2 Tryz.func133 rfl rfl ?_
  have hm := mul_bd hc
  have hw := w64_mul hc
  refine sat_for hE 2 (fun a : Int => ([(1, .str s), (2, .ptr 0 0 0), (5, I a)], [.cells true [I f, I r]]))
   (fun a => ∃ k : Nat, k ≤ (f * r).toNat ∧ a = k ∧ parseGo f r s ((f * r).toNat - k) k = parseR f r s) (fun a => (f * r).toNat - a.toNat) 0
   (Ent.ren [0] [1, 2, 5] rfl rfl rfl) ⟨0, by omega, rfl, rfl⟩ ?_
  rintro i ⟨k, hk, h1, h3⟩
  dsimp only at h1 h3 ⊢
  refine sat_br (fun hlt => ?_) (fun hlt => ?_)
  ·simp only [decide_eq_true_eq] at hlt
   rw [hw] at hlt
   have hnext : IntKind.i64.wrap (i + 1) = ((k + 1 : Nat) : Int) := by rw [w64_id (by omega) (by omega)]; omega
   rw [show (f * r).toNat - k = ((f * r).toNat - (k + 1)) + 1 by omega, parseGo, ← h1] at h3
   refine sat_need (by simp only [validB, Bool.and_eq_true, decide_eq_true_eq]; rw [hw]; exact ⟨⟨hc, by omega⟩, hlt⟩) ?_
   refine sat_br (fun hon => ?_) (fun hon => ?_)
   ·have hon : (nameS f r i == s) = true := hon
    rw [hon, cond_true] at h3
    refine sat_ret (sat_ret (fin_val (.inr rfl) rfl rfl rfl (by rw [← h3])))
   ·have hon : (nameS f r i == s) = false := hon
    rw [hon, cond_false] at h3
    refine sat_ret ⟨IntKind.i64.wrap (i + 1), ⟨k + 1, by omega, hnext, h3⟩, ?_, Ent.ren [0] [1, 2, 5] rfl rfl rfl⟩
    show _ - (IntKind.i64.wrap (i + 1)).toNat < _
    rw [hnext]; omega
  ·simp only [decide_eq_false_iff_not] at hlt
   rw [hw] at hlt
   obtain rfl : k = (f * r).toNat := by omega
   rw [Nat.sub_self, parseGo] at h3
   refine sat_ret (sat_ret (fin_val (.inr rfl) rfl rfl rfl (by rw [← h3])))
 ·cases e
end Go.Ab

set_option maxRecDepth 100000
namespace Go.Ab
open Go.Proofs
end Go.Ab

set_option maxRecDepth 100000
namespace Go.Ab
open Go.Proofs
theorem at_on {f r X Y : Int} (h : vsB f r = true) : decide ((atR f r X Y).2 = 0) = onB f r X Y := by
 unfold atR
 cases h2 : onB f r X Y <;> simp [h]
theorem numB_on {f r X Y : Int} : numB f r X Y = !onB f r X Y := by
 rw [Bool.eq_iff_iff]
 simp only [numB, onB, Bool.or_eq_true, decide_eq_true_eq, Bool.not_eq_true', Bool.and_eq_false_iff, decide_eq_false_iff_not]
 omega
theorem num_on {f r X Y : Int} (h : vsB f r = true) (h2 : onB f r X Y = true) : numR f r X Y = (atR f r X Y).1 := by
 simp only [numR, numB_on, h2, atR, h, Bool.not_true, cond_true, cond_false, Int.add_comm]
theorem num_neg {f r X Y : Int} (h : vsB f r = true) : decide (numR f r X Y < 0) = !onB f r X Y := by
 cases h2 : onB f r X Y with
 | false => simp [numR, numB_on, h2]
 | true =>
  rw [num_on h h2]
  have h3 := at_on (X := X) (Y := Y) h
  rw [h2] at h3
  have := at_pos (of_decide_eq_true h3)
  simp; omega
theorem on_mk {f r x y : Int} (h1 : 0 ≤ x) (h2 : x < f) (h3 : 0 ≤ y) (h4 : y < r) : onB f r x y = true := by simp [onB, *]
theorem go_eq {f r df dr px py : Int} (h : vsB f r = true) (hb : -7 ≤ df ∧ df ≤ 7 ∧ -7 ≤ dr ∧ dr ≤ 7) (hnz : df ≠ 0 ∨ dr ≠ 0) (hp : onB f r px py = true) :
  ∀ (m k : Nat), m + k = 9 → 1 ≤ k → onB f r (px + ((k : Int) - 1) * df) (py + ((k : Int) - 1) * dr) = true → rayGo f r df dr (m + 1) (px + ((k : Int) - 1) * df) (py + ((k : Int) - 1) * dr) = refGo f r df dr px py m k := by
 have hv := vs_bd h
 have hp := on_bd hp
 intro m
 induction m with
 | zero =>
  intro k hk h1 hon
  obtain rfl : k = 9 := by omega
  have := on_bd hon
  exfalso
  rcases hnz with e | e <;> omega
 | succ m ih =>
  intro k hk h1 hon
  have hon := on_bd hon
  have hX : IntKind.i64.wrap (px + ((k : Int) - 1) * df + df) = px + ((k : Int) + 1 - 1) * df ∧ IntKind.i64.wrap (py + ((k : Int) - 1) * dr + dr) = py + ((k : Int) + 1 - 1) * dr ∧ IntKind.i64.wrap (px + IntKind.i64.wrap (k * df)) = px + ((k : Int) + 1 - 1) * df ∧ IntKind.i64.wrap (py + IntKind.i64.wrap (k * dr)) = py + ((k : Int) + 1 - 1) * dr ∧ IntKind.i64.wrap ((k : Int) + 1) = ((k + 1 : Nat) : Int) := by
   have hk8 : k = 1 ∨ k = 2 ∨ k = 3 ∨ k = 4 ∨ k = 5 ∨ k = 6 ∨ k = 7 ∨ k = 8 := by omega
   rcases hk8 with rfl | rfl | rfl | rfl | rfl | rfl | rfl | rfl <;>
   ·refine ⟨?_, ?_, ?_, ?_, ?_⟩
    ·rw [w64_id (by omega) (by omega)]; omega
    ·rw [w64_id (by omega) (by omega)]; omega
    ·rw [w64_id (n := _ * df) (by omega) (by omega), w64_id (by omega) (by omega)]; omega
    ·rw [w64_id (n := _ * dr) (by omega) (by omega), w64_id (by omega) (by omega)]; omega
    ·rw [w64_id (by omega) (by omega)]; omega
  obtain ⟨e1, e2, e3, e4, e5⟩ := hX
  rw [rayGo, refGo, e1, e2, e3, e4, e5, at_on h, num_neg h]
  cases h2 : onB f r (px + ((k : Int) + 1 - 1) * df) (py + ((k : Int) + 1 - 1) * dr) with
  | false => rfl
  | true =>
   rw [num_on h h2]
   have := ih (k + 1) (by omega) (by omega) (by push_cast; exact h2)
   push_cast at this ⊢
   simp only [cond_true, Bool.not_true, cond_false, this]
def inR (df dr : Int) : Bool := decide (-8 ≤ df) && decide (df ≤ 8) && decide (-8 ≤ dr) && decide (dr ≤ 8)
theorem big_8 {df dr : Int} (h : inR df dr = true) (h2 : rayBig df dr = true) : df = 8 ∨ df = -8 ∨ dr = 8 ∨ dr = -8 := by
 simp only [inR, Bool.and_eq_true, decide_eq_true_eq] at h
 obtain ⟨⟨⟨a1, a2⟩, a3⟩, a4⟩ := h
 simp only [rayBig, Bool.or_eq_true, decide_eq_true_eq] at h2
 rw [w64_id (n := 0 - df) (by omega) (by omega), w64_id (n := 0 - dr) (by omega) (by omega)] at h2
 have m : ∀ x y : Int, imax true x y = x ∨ imax true x y = y := fun x y => by
  unfold imax
  by_cases h : x < y <;> simp [h]
 have m1 := m df (0 - df)
 have m2 := m (imax true df (0 - df)) dr
 have m3 := m (imax true (imax true df (0 - df)) dr) (0 - dr)
 omega
theorem big_out {df dr : Int} (h : inR df dr = false) : rayBig df dr = true := by
 cases hb : rayBig df dr with
 | true => rfl
 | false =>
  have := big_bd hb
  simp [inR] at h
  omega
theorem ray_eq (f r n df dr : Int) : rayL f r n df dr = bif inR df dr then refRay f r n df dr else [] := by
 cases hv : validB f r n with
 | false => simp [rayL, refRay, hv]
 | true =>
  cases hz : (decide (df = 0) && decide (dr = 0)) with
  | true => simp [rayL, refRay, hv, hz]
  | false =>
   have hnz : df ≠ 0 ∨ dr ≠ 0 := by
    by_cases e : df = 0
    ·right; rintro rfl; simp [e] at hz
    ·exact .inl e
   have hvs := valid_vs hv
   have hb := vs_bd hvs
   have hp := place_bd hv
   have hr : refRay f r n df dr = refGo f r df dr (placeR f r n).1 (placeR f r n).2.1 8 1 := by simp [refRay, hv, hz, placeR]
   cases hbig : rayBig df dr with
   | true =>
    have hl : rayL f r n df dr = [] := by simp [rayL, hbig]
    rw [hl]
    cases hi : inR df dr with
    | false => rfl
    | true =>
     have h8 := big_8 hi hbig
     simp only [inR, Bool.and_eq_true, decide_eq_true_eq] at hi
     obtain ⟨⟨⟨a1, a2⟩, a3⟩, a4⟩ := hi
     rw [cond_true, hr, refGo, num_neg hvs]
     have hoff : onB f r (IntKind.i64.wrap ((placeR f r n).1 + IntKind.i64.wrap (1 * df))) (IntKind.i64.wrap ((placeR f r n).2.1 + IntKind.i64.wrap (1 * dr))) = false := by
      rw [w64_id (n := 1 * df) (by omega) (by omega), w64_id (n := 1 * dr) (by omega) (by omega), w64_id (by omega) (by omega), w64_id (by omega) (by omega)]
      cases ho : onB f r ((placeR f r n).1 + 1 * df) ((placeR f r n).2.1 + 1 * dr) with
      | false => rfl
      | true => have := on_bd ho; omega
     rw [hoff]; rfl
   | false =>
    have hi : inR df dr = true := by
     cases hi : inR df dr with
     | true => rfl
     | false => rw [big_out hi] at hbig; cases hbig
    have hg := go_eq (f := f) (r := r) (df := df) (dr := dr) (px := (placeR f r n).1) (py := (placeR f r n).2.1) hvs (big_bd hbig) hnz (on_mk hp.1 hp.2.1 hp.2.2.1 hp.2.2.2.1) 8 1 rfl (Nat.le_refl _) (by simpa using on_mk hp.1 hp.2.1 hp.2.2.1 hp.2.2.2.1)
    rw [hi, cond_true, hr]
    simp only [rayL, hv, hz, hbig, Bool.not_false, Bool.and_self, cond_true]
    simpa using hg
end Go.Ab

set_option maxRecDepth 100000
namespace Go.Ab
open Go.Proofs
variable {kCa kDb : Bool}
theorem hf_of {f : Int} (h : (!decide (f = 0)) = true) : ¬ f = 0 := by simpa using h
def absI (n : Int) : Int := bif decide (n < 0) then IntKind.i64.wrap (0 - n) else n
def lineB (f a b : Int) : Bool := decide (a = b) || (!decide (IntKind.i64.wrap (b.tmod f - a.tmod f) = 0) && !decide (IntKind.i64.wrap (IntKind.i64.wrap (b.tdiv f) - IntKind.i64.wrap (a.tdiv f)) = 0) && !decide (IntKind.i64.wrap (b.tmod f - a.tmod f) = IntKind.i64.wrap (IntKind.i64.wrap (b.tdiv f) - IntKind.i64.wrap (a.tdiv f))) && !decide (IntKind.i64.wrap (IntKind.i64.wrap (b.tmod f - a.tmod f) + IntKind.i64.wrap (IntKind.i64.wrap (b.tdiv f) - IntKind.i64.wrap (a.tdiv f))) = 0))
def lineR (f a b : Int) : Int × Int × Bool := bif lineB f a b then (0, 0, false) else (sgn (IntKind.i64.wrap (b.tmod f - a.tmod f)), sgn (IntKind.i64.wrap (IntKind.i64.wrap (b.tdiv f) - IntKind.i64.wrap (a.tdiv f))), true)
def c_rsign : CF
 | [.int .i64 n], [] => some (true, .int .i64 (sgn n), [])
 | _, _ => none
theorem c_rsign_ok : CtOk (GGx kCa kDb) PP (127, c_rsign) := by
 refine ct_mk Tryz.func127 (by kernel_rfl) rfl fun a0 h0 c0 v0 N0 e hc => ?_
 unfold c_rsign at e
 split at e
 ·rename_i n
  cases e
  have hE := EE_ok (kCa := kCa) (kDb := kDb) (cts := []) (inl := []) trivial trivial
  refine fn_sound hE 2 Tryz.func127 rfl rfl ?_
  repeat' first | (first | refine sat_self ?_ | refine sat_nd ?_) | refine sat_br (fun h => ?_) (fun h => ?_)
  all_goals exact sat_ret (fin_val (.inr rfl) rfl rfl rfl (by first | rfl | (simp only [sgn, *, cond_true, cond_false]; done) | (simp only [sgn, *, cond_true, cond_false, Bool.not_true, Bool.not_false, Bool.and_true, Bool.true_and, Bool.and_false, Bool.false_and, Bool.or_true, Bool.true_or, Bool.or_false, Bool.false_or]; done) | simp_all [sgn]))
 ·cases e
def c_rabs : CF
 | [.int .i64 n], [] => some (true, .int .i64 (absI n), [])
 | _, _ => none
theorem c_rabs_ok : CtOk (GGx kCa kDb) PP (185, c_rabs) := by
 refine ct_mk Tryz.func185 (by kernel_rfl) rfl fun a0 h0 c0 v0 N0 e hc => ?_
 unfold c_rabs at e
 split at e
 ·rename_i n
  cases e
  have hE := EE_ok (kCa := kCa) (kDb := kDb) (cts := []) (inl := []) trivial trivial
  refine fn_sound hE 2 Tryz.func185 rfl rfl ?_
  repeat' first | (first | refine sat_self ?_ | refine sat_nd ?_) | refine sat_br (fun h => ?_) (fun h => ?_)
  all_goals exact sat_ret (fin_val (.inr rfl) rfl rfl rfl (by first | rfl | (simp only [absI, *, cond_true, cond_false]; done) | (simp only [absI, *, cond_true, cond_false, Bool.not_true, Bool.not_false, Bool.and_true, Bool.true_and, Bool.and_false, Bool.false_and, Bool.or_true, Bool.true_or, Bool.or_false, Bool.false_or]; done) | simp_all [absI]))
 ·cases e
def c_Line : CF
 | [.agg [.int .i64 f, .int .i64 _r], .int .i64 a, .int .i64 b], [] => some (!decide (f = 0), .tup [I (lineR f a b).1, I (lineR f a b).2.1, Bb (lineR f a b).2.2], [])
 | _, _ => none
theorem c_Line_ok : CtOk (GGx kCa kDb) PP (69, c_Line) := by
 refine ct_mk Tryz.func69 (by kernel_rfl) rfl fun a0 h0 c0 v0 N0 e hc => ?_
 unfold c_Line at e
 split at e
 ·rename_i f r a b
  cases e
  have hE := EE_ok (kCa := kCa) (kDb := kDb) (cts := [(48, c_Place), (127, c_rsign)]) (inl := []) ⟨c_Place_ok, c_rsign_ok, trivial⟩ trivial
  refine fn_sound hE 2 Tryz.func69 rfl rfl ?_
  have hf := hf_of hc
  repeat (first | refine sat_self ?_ | refine sat_nd ?_)
  refine sat_br (fun h => ?_) (fun h => ?_)
  ·have h : lineB f a b = true := h
   exact sat_ret (fin_val (.inr rfl) rfl rfl rfl (by rw [lineR, h]; rfl))
  ·have h : lineB f a b = false := h
   repeat (first | refine sat_self ?_ | refine sat_nd ?_)
   exact sat_ret (fin_val (.inr rfl) rfl rfl rfl (by rw [lineR, h]; rfl))
 ·cases e
def c_Fwd : CF
 | [.bool b], [] => some (true, .int .i64 (fwd b), [])
 | _, _ => none
theorem c_Fwd_ok : CtOk (GGx kCa kDb) PP (183, c_Fwd) := by
 refine ct_mk Tryz.func183 (by kernel_rfl) rfl fun a0 h0 c0 v0 N0 e hc => ?_
 unfold c_Fwd at e
 split at e
 ·rename_i b
  cases e
  have hE := EE_ok (kCa := kCa) (kDb := kDb) (cts := []) (inl := []) trivial trivial
  refine fn_sound hE 2 Tryz.func183 rfl rfl ?_
  repeat' first | (first | refine sat_self ?_ | refine sat_nd ?_) | refine sat_br (fun h => ?_) (fun h => ?_)
  all_goals exact sat_ret (fin_val (.inr rfl) rfl rfl rfl (by first | rfl | (simp only [fwd, *, cond_true, cond_false]; done) | (simp only [fwd, *, cond_true, cond_false, Bool.not_true, Bool.not_false, Bool.and_true, Bool.true_and, Bool.and_false, Bool.false_and, Bool.or_true, Bool.true_or, Bool.or_false, Bool.false_or]; done) | simp_all [fwd]))
 ·cases e
def secR (r : Int) (bl : Bool) : Int := bif bl then IntKind.i64.wrap (r - 2) else 1
def distR (f a b : Int) : Int := bif decide (absI (IntKind.i64.wrap (IntKind.i64.wrap (a.tdiv f) - IntKind.i64.wrap (b.tdiv f))) < absI (IntKind.i64.wrap (a.tmod f - b.tmod f))) then absI (IntKind.i64.wrap (a.tmod f - b.tmod f)) else absI (IntKind.i64.wrap (IntKind.i64.wrap (a.tdiv f) - IntKind.i64.wrap (b.tdiv f)))
def idxL (b : Int) : List Int → Nat
 | [] => 0
 | x :: l => bif decide (x = b) then 0 else idxL b l + 1
def hasL (b : Int) : List Int → Bool
 | [] => false
 | x :: l => decide (x = b) || hasL b l
def betwZ (f r a b : Int) : List Int := refRay f r a (lineR f a b).1 (lineR f a b).2.1
def betwL (f r a b : Int) : List Int := bif hasL b (betwZ f r a b) then (betwZ f r a b).take (idxL b (betwZ f r a b)) else []
def freeB (s : Int) : List Int → Bool
 | [] => true
 | x :: l => bif hasB s x then false else freeB s l
theorem freeB_at {s : Int} {l : List Int} {i : Nat} (h : i < l.length) : freeB s (l.drop i) = bif hasB s (l.getD i 0) then false else freeB s (l.drop (i + 1)) := by
 rw [List.drop_eq_getElem_cons h, freeB]; simp [List.getD, h]
theorem hasL_at {b : Int} {l : List Int} {i : Nat} (h : i < l.length) : hasL b (l.drop i) = (decide (l.getD i 0 = b) || hasL b (l.drop (i + 1))) := by
 rw [List.drop_eq_getElem_cons h, hasL]; simp [List.getD, h]
theorem idxL_at {b : Int} {l : List Int} {i : Nat} (h : i < l.length) : idxL b (l.drop i) = bif decide (l.getD i 0 = b) then 0 else idxL b (l.drop (i + 1)) + 1 := by
 rw [List.drop_eq_getElem_cons h, idxL]; simp [List.getD, h]
def c_Second : CF
 | [.agg [.int .i64 _f, .int .i64 r], .bool bl], [] => some (true, .int .i64 (secR r bl), [])
 | _, _ => none
theorem c_Second_ok : CtOk (GGx kCa kDb) PP (184, c_Second) := by
 refine ct_mk Tryz.func184 (by kernel_rfl) rfl fun a0 h0 c0 v0 N0 e hc => ?_
 unfold c_Second at e
 split at e
 ·rename_i f r bl
  cases e
  have hE := EE_ok (kCa := kCa) (kDb := kDb) (cts := []) (inl := []) trivial trivial
  refine fn_sound hE 2 Tryz.func184 rfl rfl ?_
  repeat' first | (first | refine sat_self ?_ | refine sat_nd ?_) | refine sat_br (fun h => ?_) (fun h => ?_)
  all_goals exact sat_ret (fin_val (.inr rfl) rfl rfl rfl (by first | rfl | (simp only [secR, *, cond_true, cond_false]; done) | (simp only [secR, *, cond_true, cond_false, Bool.not_true, Bool.not_false, Bool.and_true, Bool.true_and, Bool.and_false, Bool.false_and, Bool.or_true, Bool.true_or, Bool.or_false, Bool.false_or]; done) | simp_all [secR]))
 ·cases e
def c_Dist : CF
 | [.agg [.int .i64 f, .int .i64 _r], .int .i64 a, .int .i64 b], [] => some (!decide (f = 0), .int .i64 (distR f a b), [])
 | _, _ => none
theorem c_Dist_ok : CtOk (GGx kCa kDb) PP (174, c_Dist) := by
 refine ct_mk Tryz.func174 (by kernel_rfl) rfl fun a0 h0 c0 v0 N0 e hc => ?_
 unfold c_Dist at e
 split at e
 ·rename_i f r a b
  cases e
  have hE := EE_ok (kCa := kCa) (kDb := kDb) (cts := [(48, c_Place), (185, c_rabs)]) (inl := []) ⟨c_Place_ok, c_rabs_ok, trivial⟩ trivial
  refine fn_sound hE 2 Tryz.func174 rfl rfl ?_
  have hf := hf_of hc
  repeat (first | refine sat_self ?_ | refine sat_nd ?_)
  refine sat_br (fun h => ?_) (fun h => ?_)
  all_goals
   repeat (first | refine sat_self ?_ | refine sat_nd ?_)
   exact sat_ret (fin_val (.inr rfl) rfl rfl rfl (by simp only [distR, *, cond_true, cond_false]))
 ·cases e
def c_free : CF
 | [.sl 0 0 len none, .int .u64 s], [.ints false .i64 zs] => some (decide (len = zs.length) && decide (zs.length ≤ 1000000), .bool (freeB s zs), [])
 | _, _ => none
theorem c_free_ok : CtOk (GGx kCa kDb) PP (175, c_free) := by
 refine ct_mk Tryz.func175 (by kernel_rfl) rfl fun a0 h0 c0 v0 N0 e hc => ?_
 unfold c_free at e
 split at e
 ·rename_i len s zs
  cases e
  have hE := EE_ok (kCa := kCa) (kDb := kDb) (cts := [(34, c_Has)]) (inl := []) ⟨c_Has_ok, trivial⟩ trivial
  refine fn_sound hE 2 Tryz.func175 rfl rfl ?_
  simp only [Bool.and_eq_true, decide_eq_true_eq] at hc
  obtain ⟨rfl, hc2⟩ := hc
  refine sat_idx hE 2 (fun i (_ : Unit) => ([(0, .sl 0 0 zs.length none), (1, U s), (5, I i)], [.ints false .i64 zs])) zs.length (fun j _ => freeB s (zs.drop j) = freeB s zs) () (by omega) (Ent.ren [0] [0, 1, 5] rfl rfl rfl) rfl ?_
  intro j i _ hij hj hz
  refine sat_br (fun hlt => ?_) (fun hlt => ?_)
  ·have hlt' : j < zs.length := by simp at hlt; omega
   rw [freeB_at hlt', show j = i.toNat by omega] at hz
   refine sat_need (by simp; omega) ?_
   repeat (first | refine sat_self ?_ | refine sat_nd ?_)
   refine sat_br (fun hon => ?_) (fun hon => ?_)
   ·have hon : hasB s (zs.getD i.toNat 0) = true := hon
    rw [hon] at hz
    exact sat_ret (sat_ret (fin_val (.inr rfl) rfl rfl rfl (by rw [← hz]; rfl)))
   ·have hon : hasB s (zs.getD i.toNat 0) = false := hon
    rw [hon] at hz
    exact sat_ret ⟨hlt', (), by rw [← hz, show i.toNat = j by omega]; rfl, Ent.ren [0] [0, 1, 5] rfl rfl rfl⟩
  ·obtain rfl : j = zs.length := by simp at hlt; omega
   rw [List.drop_length] at hz
   exact sat_ret (sat_ret (fin_val (.inr rfl) rfl rfl rfl (by rw [← hz]; rfl)))
 ·cases e
end Go.Ab

set_option maxRecDepth 100000
namespace Go.Ab
open Go.Proofs
variable {kCa kDb : Bool}
theorem idxL_le (b : Int) (l : List Int) : idxL b l ≤ l.length := by
 induction l with
 | nil => simp [idxL]
 | cons x l ih => rw [idxL]; cases decide (x = b) <;> simp <;> omega
theorem betwL_len (f r a b : Int) : (betwL f r a b).length = bif hasL b (betwZ f r a b) then idxL b (betwZ f r a b) else 0 := by
 unfold betwL
 have := idxL_le b (betwZ f r a b)
 cases hasL b (betwZ f r a b) <;> simp; omega
def betwO (f r a b : Int) : List Int := bif hasL b (betwZ f r a b) then betwZ f r a b else []
theorem betwO_take (f r a b : Int) : ((betwO f r a b).drop 0).take (betwL f r a b).length = betwL f r a b := by
 rw [betwL_len]
 unfold betwO betwL
 cases hasL b (betwZ f r a b) <;> simp
theorem betwO_len (f r a b : Int) : (betwO f r a b).length ≤ 8 := by
 unfold betwO betwZ
 cases hasL b _ <;> simp [refRay_len]
theorem betwL_len8 (f r a b : Int) : (betwL f r a b).length ≤ 8 := by
 rw [← betwO_take, List.length_take]
 have := betwO_len f r a b
 simp; omega
def c_Between : CF
 | [.agg [.int .i64 f, .int .i64 r], .int .i64 a, .int .i64 b], [] => some (!decide (f = 0), .sl 0 0 (betwL f r a b).length none, [.ints true .i64 (betwO f r a b)])
 | _, _ => none
theorem c_Between_ok : CtOk (GGx kCa kDb) PP (33, c_Between) := by
 refine ct_mk Tryz.func33 (by kernel_rfl) rfl fun a0 h0 c0 v0 N0 e hc => ?_
 unfold c_Between at e
 split at e
 ·rename_i f r a b
  cases e
  have hE := EE_ok (kCa := kCa) (kDb := kDb) (cts := [(69, c_Line), (70, c_refRay)]) (inl := []) ⟨c_Line_ok, c_refRay_ok, trivial⟩ trivial
  refine fn_soundE hE 2 Tryz.func33 rfl rfl ?_
  have hf := hf_of hc
  repeat (first | refine sat_self ?_ | refine sat_nd ?_)
  obtain ⟨zs, hzs⟩ : ∃ zs, refRay f r a (lineR f a b).1 (lineR f a b).2.1 = zs := ⟨_, rfl⟩
  have hlen := refRay_len f r a (lineR f a b).1 (lineR f a b).2.1
  rw [hzs] at hlen ⊢
  have hZ : betwZ f r a b = zs := hzs
  refine sat_idx hE 2 (fun i (_ : Unit) => ([(2, I b), (6, .nils), (10, .sl 1 0 zs.length none), (11, I i)], [.cells true [I f, I r], .ints true .i64 zs])) zs.length (fun j _ => hasL b (zs.drop j) = hasL b zs ∧ (hasL b zs = true → idxL b (zs.drop j) + j = idxL b zs)) () (by omega) (Ent.ren [0, 1] [2, 6, 10, 11] rfl rfl rfl) ⟨rfl, fun _ => rfl⟩ ?_
  intro j i _ hij hj hz
  obtain ⟨hz1, hz2⟩ := hz
  refine sat_br (fun hlt => ?_) (fun hlt => ?_)
  ·have hlt' : j < zs.length := by simp at hlt; omega
   rw [hasL_at hlt', show j = i.toNat by omega] at hz1
   rw [idxL_at hlt', show j = i.toNat by omega] at hz2
   refine sat_need (by simp; omega) ?_
   repeat (first | refine sat_self ?_ | refine sat_nd ?_)
   refine sat_br (fun hon => ?_) (fun hon => ?_)
   ·have hon : decide (zs.getD i.toNat 0 = b) = true := hon
    rw [hon] at hz1 hz2
    have hx : hasL b zs = true := hz1.symm
    have hy : i.toNat = idxL b zs := by have := hz2 hx; simpa using this
    refine sat_need (by simp; omega) ?_
    refine sat_ret (sat_ret (fin_0 (fin_new 1 (.inr rfl) rfl rfl rfl rfl (by simp only [betwO, hZ, hx, cond_true]; rfl) (by rw [betwL_len, hZ, hx, cond_true, ← hy]; rfl))))
   ·have hon : decide (zs.getD i.toNat 0 = b) = false := hon
    rw [hon, Bool.false_or] at hz1
    rw [hon, cond_false] at hz2
    exact sat_ret ⟨hlt', (), ⟨by rw [← hz1, show i.toNat = j by omega], fun h => by have := hz2 h; rw [show i.toNat = j by omega] at this; omega⟩, Ent.ren [0, 1] [2, 6, 10, 11] rfl rfl rfl⟩
  ·obtain rfl : j = zs.length := by simp at hlt; omega
   rw [List.drop_length] at hz1
   have hx : hasL b zs = false := hz1.symm
   refine sat_ret (sat_ret ?_)
   refine fin_e ((Ent.phanT (t := 6) (o := .ints true .i64 []) rfl ⟨by simp, by simp, trivial, rfl⟩ (blt_lt rfl))) (fin_new 2 (.inr rfl) rfl rfl rfl rfl (by simp only [betwO, hZ, hx, cond_false]; rfl) (by rw [betwL_len, hZ, hx]; rfl))
 ·cases e
def reachesB (f r kd a b occ : Int) : Bool :=
 bif decide (kd = 2) then decide (IntKind.i64.wrap (IntKind.i64.wrap (IntKind.i64.wrap (b.tmod f - a.tmod f) * IntKind.i64.wrap (b.tmod f - a.tmod f)) + IntKind.i64.wrap (IntKind.i64.wrap (IntKind.i64.wrap (b.tdiv f) - IntKind.i64.wrap (a.tdiv f)) * IntKind.i64.wrap (IntKind.i64.wrap (b.tdiv f) - IntKind.i64.wrap (a.tdiv f)))) = 5)
 else bif decide (kd = 6) then decide (distR f a b = 1)
 else (lineR f a b).2.2 && (decide (kd = 5) || ((decide (IntKind.i64.wrap (b.tmod f - a.tmod f) = 0) || decide (IntKind.i64.wrap (IntKind.i64.wrap (b.tdiv f) - IntKind.i64.wrap (a.tdiv f)) = 0)) == decide (kd = 4))) && freeB occ (betwL f r a b)
def c_Reaches : CF
 | [.agg [.int .i64 f, .int .i64 r], .int .i8 kd, .int .i64 a, .int .i64 b, .int .u64 occ], [] => some (!decide (f = 0), .bool (reachesB f r kd a b occ), [])
 | _, _ => none
theorem c_Reaches_ok : CtOk (GGx kCa kDb) PP (155, c_Reaches) := by
 refine ct_mk Tryz.func155 (by kernel_rfl) rfl fun a0 h0 c0 v0 N0 e hc => ?_
 unfold c_Reaches at e
 split at e
 ·rename_i f r kd a b occ
  cases e
  have hE := EE_ok (kCa := kCa) (kDb := kDb) (cts := [(48, c_Place), (174, c_Dist), (69, c_Line), (33, c_Between), (175, c_free)]) (inl := []) ⟨c_Place_ok, c_Dist_ok, c_Line_ok, c_Between_ok, c_free_ok, trivial⟩ trivial
  refine fn_sound hE 2 Tryz.func155 rfl rfl ?_
  have hf := hf_of hc
  repeat (first | refine sat_self ?_ | refine sat_nd ?_)
  refine sat_br (fun h1 => ?_) (fun h1 => ?_)
  ·repeat (first | refine sat_self ?_ | refine sat_nd ?_)
   exact sat_ret (fin_val (.inr rfl) rfl rfl rfl (by rw [reachesB, h1]; rfl))
  refine sat_br (fun h2 => ?_) (fun h2 => ?_)
  ·repeat (first | refine sat_self ?_ | refine sat_nd ?_)
   exact sat_ret (fin_val (.inr rfl) rfl rfl rfl (by rw [reachesB, h1, h2]; rfl))
  have ht := betwO_take f r a b
  have hl := betwL_len8 f r a b
  repeat (first | refine sat_self ?_ | refine sat_nd ?_)
  refine sat_br (fun h3 => ?_) (fun h3 => ?_)
  ·repeat (first | refine sat_self ?_ | refine sat_nd ?_)
   refine sat_need (by rw [ht]; simp; omega) ?_
   repeat (first | refine sat_self ?_ | refine sat_nd ?_)
   exact sat_ret (fin_val (.inr rfl) rfl rfl rfl (by
    show V.bool (freeB occ (((betwO f r a b).drop 0).take (betwL f r a b).length)) = _
    rw [ht, reachesB, h1, h2, cond_false, cond_false, h3]; rfl))
  ·repeat (first | refine sat_self ?_ | refine sat_nd ?_)
   exact sat_ret (fin_val (.inr rfl) rfl rfl rfl (by rw [reachesB, h1, h2, cond_false, cond_false, h3]; rfl))
 ·cases e
end Go.Ab

set_option maxRecDepth 100000
namespace Go.Ab
open Go.Proofs
abbrev px (f n : Int) : Int := n.tmod f
abbrev py (f n : Int) : Int := n.tdiv f
theorem pl_bd {f r n : Int} (h : validB f r n = true) : 0 ≤ px f n ∧ px f n < f ∧ 0 ≤ py f n ∧ py f n < r ∧ IntKind.i64.wrap (py f n) = py f n ∧ 3 ≤ f ∧ f ≤ 8 ∧ 3 ≤ r ∧ r ≤ 8 := by
 obtain ⟨b1, b2, b3, b4, b5, _, _⟩ := quo_bd h
 have := vs_bd (valid_vs h)
 exact ⟨b1, b2, b3, b4, b5, this.1, this.2.1, this.2.2.1, this.2.2.2⟩
theorem pl_eq {f r n : Int} (_h : validB f r n = true) : px f n + py f n * f = n := by
 have := Int.tmod_add_mul_tdiv n f
 rw [Int.mul_comm] at this
 exact this
theorem pl_uniq {f X Y x y : Int} (hf : 0 < f) (h1 : 0 ≤ X) (h2 : X < f) (h3 : 0 ≤ x) (h4 : x < f) (h : X + Y * f = x + y * f) : X = x ∧ Y = y := by
 have e : (Y - y) * f = x - X := by rw [Int.sub_mul]; omega
 have hz : Y - y = 0 := by
  rcases Int.lt_trichotomy (Y - y) 0 with h | h | h
  ·have : (Y - y) * f ≤ -1 * f := Int.mul_le_mul_of_nonneg_right (by omega) (by omega)
   omega
  ·exact h
  ·have : 1 * f ≤ (Y - y) * f := Int.mul_le_mul_of_nonneg_right (by omega) (by omega)
   omega
 rw [hz, Int.zero_mul] at e
 omega
theorem num_iff {f r X Y b : Int} (hv : vsB f r = true) (ho : onB f r X Y = true) (hb : validB f r b = true) : numR f r X Y = b ↔ px f b = X ∧ py f b = Y := by
 have h := at_on (X := X) (Y := Y) hv
 rw [ho] at h
 have hp := at_pos (of_decide_eq_true h)
 have hx := on_bd ho
 have hq := pl_bd hb
 rw [num_on hv ho, hp.2.2.2.2]
 constructor
 ·intro e
  rw [← pl_eq hb] at e
  have := pl_uniq (by omega) hx.1 hx.2.1 hq.1 hq.2.1 e
  exact ⟨this.1.symm, this.2.symm⟩
 ·rintro ⟨rfl, rfl⟩; exact pl_eq hb
theorem valid_inj {f r a b : Int} (ha : validB f r a = true) (hb : validB f r b = true) : a = b ↔ px f a = px f b ∧ py f a = py f b := by
 constructor
 ·rintro rfl; exact ⟨rfl, rfl⟩
 ·rintro ⟨h1, h2⟩; rw [← pl_eq ha, ← pl_eq hb, h1, h2]
def unit (df dr : Int) : Prop := -1 ≤ df ∧ df ≤ 1 ∧ -1 ≤ dr ∧ dr ≤ 1 ∧ (df ≠ 0 ∨ dr ≠ 0)
theorem unit_cases {df dr : Int} (h : unit df dr) : (df = 1 ∧ dr = 0) ∨ (df = 0 ∧ dr = 1) ∨ (df = -1 ∧ dr = 0) ∨ (df = 0 ∧ dr = -1) ∨ (df = 1 ∧ dr = 1) ∨ (df = -1 ∧ dr = 1) ∨ (df = -1 ∧ dr = -1) ∨ (df = 1 ∧ dr = -1) := by
 obtain ⟨h1, h2, h3, h4, h5⟩ := h
 omega
theorem step_w {df dr x y : Int} (hu : unit df dr) (hx : 0 ≤ x ∧ x ≤ 7) (hy : 0 ≤ y ∧ y ≤ 7) {k : Nat} (hk : k ≤ 9) : IntKind.i64.wrap (x + IntKind.i64.wrap (k * df)) = x + k * df ∧ IntKind.i64.wrap (y + IntKind.i64.wrap (k * dr)) = y + k * dr ∧ IntKind.i64.wrap ((k : Int) + 1) = ((k + 1 : Nat) : Int) := by
 rcases unit_cases hu with ⟨rfl, rfl⟩ | ⟨rfl, rfl⟩ | ⟨rfl, rfl⟩ | ⟨rfl, rfl⟩ | ⟨rfl, rfl⟩ | ⟨rfl, rfl⟩ | ⟨rfl, rfl⟩ | ⟨rfl, rfl⟩ <;>
 ·refine ⟨?_, ?_, ?_⟩
  ·rw [w64_id (n := (k : Int) * _) (by omega) (by omega), w64_id (by omega) (by omega)]
  ·rw [w64_id (n := (k : Int) * _) (by omega) (by omega), w64_id (by omega) (by omega)]
  ·rw [w64_id (by omega) (by omega)]; omega
theorem has_go {f r df dr x y b : Int} (hv : vsB f r = true) (hu : unit df dr) (ho : onB f r x y = true) (hb : validB f r b = true) : ∀ (m k : Nat), m + k = 9 → 1 ≤ k →
  (hasL b (refGo f r df dr x y m k) = true ↔ ∃ i : Nat, k ≤ i ∧ i ≤ 8 ∧ px f b = x + i * df ∧ py f b = y + i * dr) := by
 have hx := on_bd ho
 have hq := pl_bd hb
 intro m
 induction m with
 | zero => intro k hk h1; simp only [refGo, hasL]; exact ⟨fun h => (by cases h), fun ⟨i, h2, h3, _⟩ => by omega⟩
 | succ m ih =>
  intro k hk h1
  obtain ⟨e1, e2, e3⟩ := step_w (x := x) (y := y) hu ⟨by omega, by omega⟩ ⟨by omega, by omega⟩ (k := k) (by omega)
  rw [refGo, e1, e2, e3, num_neg hv]
  cases h2 : onB f r (x + (k : Int) * df) (y + (k : Int) * dr) with
  | false =>
   simp only [Bool.not_false, cond_true, hasL]
   refine ⟨fun h => (by cases h), fun ⟨i, h3, h4, h5, h6⟩ => ?_⟩
   have : onB f r (x + (k : Int) * df) (y + (k : Int) * dr) = true := by
    rcases unit_cases hu with ⟨rfl, rfl⟩ | ⟨rfl, rfl⟩ | ⟨rfl, rfl⟩ | ⟨rfl, rfl⟩ | ⟨rfl, rfl⟩ | ⟨rfl, rfl⟩ | ⟨rfl, rfl⟩ | ⟨rfl, rfl⟩ <;> exact on_mk (by omega) (by omega) (by omega) (by omega)
   rw [h2] at this; cases this
  | true =>
   simp only [Bool.not_true, cond_false, hasL, Bool.or_eq_true, decide_eq_true_eq]
   rw [num_iff hv h2 hb, ih (k + 1) (by omega) (by omega)]
   constructor
   ·rintro (⟨h3, h4⟩ | ⟨i, h3, h4, h5⟩)
    ·exact ⟨k, Nat.le_refl _, by omega, h3, h4⟩
    ·exact ⟨i, by omega, h4, h5⟩
   ·rintro ⟨i, h3, h4, h5, h6⟩
    rcases Nat.lt_or_ge k i with h | h
    ·exact .inr ⟨i, h, h4, h5, h6⟩
    ·obtain rfl : i = k := by omega
     exact .inl ⟨h5, h6⟩
theorem unit_nz {df dr : Int} (hu : unit df dr) : (decide (df = 0) && decide (dr = 0)) = false := by
 obtain ⟨_, _, _, _, h⟩ := hu
 simp only [Bool.and_eq_false_iff, decide_eq_false_iff_not]; exact h
theorem ray_go {f r a df dr : Int} (ha : validB f r a = true) (hu : unit df dr) : refRay f r a df dr = refGo f r df dr (px f a) (py f a) 8 ((1 : Nat) : Int) := by
 have hp := pl_bd ha
 simp [refRay, ha, unit_nz hu, hp.2.2.2.2.1]
theorem has_ray {f r a b df dr : Int} (ha : validB f r a = true) (hb : validB f r b = true) (hu : unit df dr) :
  hasL b (refRay f r a df dr) = true ↔ ∃ i : Nat, 1 ≤ i ∧ i ≤ 8 ∧ px f b = px f a + i * df ∧ py f b = py f a + i * dr := by
 have hp := pl_bd ha
 rw [ray_go ha hu]
 exact has_go (valid_vs ha) hu (on_mk hp.1 hp.2.1 hp.2.2.1 hp.2.2.2.1) hb 8 1 rfl (Nat.le_refl _)
theorem sgn_eq (n : Int) : (n < 0 ∧ sgn n = -1) ∨ (n = 0 ∧ sgn n = 0) ∨ (0 < n ∧ sgn n = 1) := by
 unfold sgn
 rcases Int.lt_trichotomy n 0 with h | h | h
 ·left; simp [h]
 ·right; left; simp [h]
 ·right; right
  have : ¬ n < 0 := by omega
  simp [h, this]
theorem diff_w {f r a b : Int} (ha : validB f r a = true) (hb : validB f r b = true) : IntKind.i64.wrap (b.tmod f - a.tmod f) = px f b - px f a ∧ IntKind.i64.wrap (IntKind.i64.wrap (b.tdiv f) - IntKind.i64.wrap (a.tdiv f)) = py f b - py f a := by
 have hp := pl_bd ha
 have hq := pl_bd hb
 show IntKind.i64.wrap (px f b - px f a) = _ ∧ IntKind.i64.wrap (IntKind.i64.wrap (py f b) - IntKind.i64.wrap (py f a)) = _
 rw [hp.2.2.2.2.1, hq.2.2.2.2.1]
 exact ⟨w64_id (by omega) (by omega), w64_id (by omega) (by omega)⟩
def onLine (x y : Int) : Prop := (x ≠ 0 ∨ y ≠ 0) ∧ (x = 0 ∨ y = 0 ∨ x = y ∨ x = -y)
theorem line_iff {f r a b : Int} (ha : validB f r a = true) (hb : validB f r b = true) : lineB f a b = false ↔ onLine (px f b - px f a) (py f b - py f a) := by
 have hp := pl_bd ha
 have hq := pl_bd hb
 obtain ⟨e1, e2⟩ := diff_w ha hb
 unfold lineB
 rw [e1, e2, w64_id (by omega) (by omega)]
 simp only [Bool.or_eq_false_iff, Bool.and_eq_false_iff, decide_eq_false_iff_not, Bool.not_eq_false', decide_eq_true_eq]
 rw [valid_inj ha hb]
 unfold onLine
 omega
theorem line_R {f r a b : Int} (ha : validB f r a = true) (hb : validB f r b = true) : (lineR f a b = (0, 0, false) ∧ ¬ onLine (px f b - px f a) (py f b - py f a)) ∨ (lineR f a b = (sgn (px f b - px f a), sgn (py f b - py f a), true) ∧ onLine (px f b - px f a) (py f b - py f a)) := by
 obtain ⟨e1, e2⟩ := diff_w ha hb
 have h := line_iff ha hb
 unfold lineR
 rw [e1, e2]
 cases hl : lineB f a b with
 | true => left; rw [hl] at h; exact ⟨rfl, fun h2 => by have := h.2 h2; cases this⟩
 | false => right; exact ⟨rfl, h.1 hl⟩
theorem sgn_unit {x y : Int} (h : onLine x y) : unit (sgn x) (sgn y) := by
 obtain ⟨h1, _⟩ := h
 unfold unit
 have := sgn_eq x
 have := sgn_eq y
 omega
theorem line_has {f r a b : Int} (ha : validB f r a = true) (hb : validB f r b = true) (h : (lineR f a b).2.2 = true) : unit (lineR f a b).1 (lineR f a b).2.1 ∧ hasL b (betwZ f r a b) = true := by
 have hp := pl_bd ha
 have hq := pl_bd hb
 rcases line_R ha hb with ⟨e, _⟩ | ⟨e, h2⟩
 ·rw [e] at h; cases h
 ·rw [e]
  refine ⟨sgn_unit h2, ?_⟩
  unfold betwZ
  rw [e]
  rw [has_ray ha hb (sgn_unit h2)]
  obtain ⟨h3, h4⟩ := h2
  have s1 := sgn_eq (px f b - px f a)
  have s2 := sgn_eq (py f b - py f a)
  rcases s1 with ⟨g1, s1⟩ | ⟨g1, s1⟩ | ⟨g1, s1⟩ <;> rcases s2 with ⟨g2, s2⟩ | ⟨g2, s2⟩ | ⟨g2, s2⟩ <;> simp only [s1, s2] <;>
  first
   | (exfalso; omega)
   | exact ⟨(px f b - px f a).natAbs, by omega, by omega, by omega, by omega⟩
   | exact ⟨(py f b - py f a).natAbs, by omega, by omega, by omega, by omega⟩
theorem has_line {f r a b df dr : Int} (ha : validB f r a = true) (hb : validB f r b = true) (hu : unit df dr) (h : hasL b (refRay f r a df dr) = true) : lineR f a b = (df, dr, true) := by
 have hp := pl_bd ha
 have hq := pl_bd hb
 obtain ⟨i, h1, h2, h3, h4⟩ := (has_ray ha hb hu).1 h
 have s1 := sgn_eq (px f b - px f a)
 have s2 := sgn_eq (py f b - py f a)
 rcases line_R ha hb with ⟨e, h5⟩ | ⟨e, _⟩
 ·exfalso
  apply h5
  unfold onLine
  rcases unit_cases hu with ⟨rfl, rfl⟩ | ⟨rfl, rfl⟩ | ⟨rfl, rfl⟩ | ⟨rfl, rfl⟩ | ⟨rfl, rfl⟩ | ⟨rfl, rfl⟩ | ⟨rfl, rfl⟩ | ⟨rfl, rfl⟩ <;> omega
 ·rw [e]
  have e1 : sgn (px f b - px f a) = df := by rcases unit_cases hu with ⟨rfl, rfl⟩ | ⟨rfl, rfl⟩ | ⟨rfl, rfl⟩ | ⟨rfl, rfl⟩ | ⟨rfl, rfl⟩ | ⟨rfl, rfl⟩ | ⟨rfl, rfl⟩ | ⟨rfl, rfl⟩ <;> omega
  have e2 : sgn (py f b - py f a) = dr := by rcases unit_cases hu with ⟨rfl, rfl⟩ | ⟨rfl, rfl⟩ | ⟨rfl, rfl⟩ | ⟨rfl, rfl⟩ | ⟨rfl, rfl⟩ | ⟨rfl, rfl⟩ | ⟨rfl, rfl⟩ | ⟨rfl, rfl⟩ <;> omega
  rw [e1, e2]
end Go.Ab

set_option maxRecDepth 100000
namespace Go.Ab
open Go.Proofs
theorem on_valid {f r X Y : Int} (hv : vsB f r = true) (ho : onB f r X Y = true) : validB f r (X + Y * f) = true ∧ px f (X + Y * f) = X ∧ py f (X + Y * f) = Y := by
 have hb := vs_bd hv
 have hx := on_bd ho
 have hm := mul_bd hv
 have e1 : 0 ≤ Y * f := Int.mul_nonneg hx.2.2.1 (by omega)
 have e2 : (Y + 1) * f ≤ r * f := Int.mul_le_mul_of_nonneg_right (by omega) (by omega)
 rw [Int.add_mul, Int.mul_comm r f] at e2
 have hval : validB f r (X + Y * f) = true := by
  simp only [validB, Bool.and_eq_true, decide_eq_true_eq]
  rw [w64_mul hv]
  exact ⟨⟨hv, by omega⟩, by omega⟩
 have hq := pl_bd hval
 have := pl_uniq (f := f) (by omega) hx.1 hx.2.1 hq.1 hq.2.1 (pl_eq hval).symm
 exact ⟨hval, this.1.symm, this.2.symm⟩
theorem valid_lt {f r n : Int} (h : validB f r n = true) : 0 ≤ n ∧ n < f * r ∧ n < 64 := by
 have hm := mul_bd (valid_vs h)
 simp only [validB, Bool.and_eq_true, decide_eq_true_eq] at h
 rw [w64_mul h.1.1] at h
 exact ⟨h.1.2, h.2, by omega⟩
theorem valid_mk {f r n : Int} (hv : vsB f r = true) (h1 : 0 ≤ n) (h2 : n < f * r) : validB f r n = true := by
 simp only [validB, Bool.and_eq_true, decide_eq_true_eq]
 rw [w64_mul hv]
 exact ⟨⟨hv, h1⟩, h2⟩
theorem has_bt {s n : Int} (hs : Uk s) : hasB s n = (decide (0 ≤ n) && decide (n < 64) && bt s n.toNat) := by
 unfold hasB
 by_cases h1 : 0 ≤ n
 ·by_cases h2 : n < 64
  ·simp only [h1, h2, decide_true, Bool.true_and]
   rw [shr_eq hs h1 h2]
   unfold bt
   have : (((s.toNat >>> n.toNat : Nat) : Int).tmod 2) = ((s.toNat >>> n.toNat % 2 : Nat) : Int) := by
    rw [Int.tmod_eq_emod_of_nonneg (Int.natCast_nonneg _)]; norm_cast
   rw [this]
   have h3 : s.toNat.testBit n.toNat = (s.toNat >>> n.toNat).testBit 0 := by rw [Nat.testBit_shiftRight, Nat.add_zero]
   rw [h3, Nat.testBit_zero]
   congr 1
   exact propext ⟨fun h => by omega, fun h => by omega⟩
  ·simp [h2]
 ·simp [h1]
theorem has_bt' {f r s n : Int} (hs : Uk s) (hn : validB f r n = true) : hasB s n = bt s n.toNat := by
 have := valid_lt hn
 rw [has_bt hs]; simp [this.1, this.2.2]
theorem ray_valid {f r a df dr x : Int} (ha : validB f r a = true) (h : x ∈ refRay f r a df dr) : validB f r x = true := by
 have hv := valid_vs ha
 have key : ∀ (m : Nat) (k : Int), x ∈ refGo f r df dr (a.tmod f) (IntKind.i64.wrap (a.tdiv f)) m k → validB f r x = true := by
  intro m
  induction m with
  | zero => intro k h; simp [refGo] at h
  | succ m ih =>
   intro k h
   rw [refGo, num_neg hv] at h
   cases h2 : onB f r (IntKind.i64.wrap (a.tmod f + IntKind.i64.wrap (k * df))) (IntKind.i64.wrap (IntKind.i64.wrap (a.tdiv f) + IntKind.i64.wrap (k * dr))) with
   | false => rw [h2] at h; simp at h
   | true =>
    rw [h2] at h
    simp only [Bool.not_true, cond_false, List.mem_cons] at h
    rcases h with rfl | h
    ·have h3 := at_on (X := IntKind.i64.wrap (a.tmod f + IntKind.i64.wrap (k * df))) (Y := IntKind.i64.wrap (IntKind.i64.wrap (a.tdiv f) + IntKind.i64.wrap (k * dr))) hv
     rw [h2] at h3
     have hp := at_pos (of_decide_eq_true h3)
     rw [num_on hv h2, hp.2.2.2.2]
     exact (on_valid hv h2).1
    ·exact ih _ h
 unfold refRay at h
 cases hc : (!validB f r a || (decide (df = 0) && decide (dr = 0))) with
 | true => rw [hc] at h; simp at h
 | false => rw [hc, cond_false] at h; exact key _ _ h
def OnS (f r s : Int) : Prop := ∀ m, m < 64 → bt s m = true → validB f r m = true
theorem fold_bt {α : Type} (step : Int → α → Int) (p : α → Nat → Bool) : ∀ (rs : List α) (s : Int), (∀ s row, row ∈ rs → Uk s → Uk (step s row) ∧ ∀ m, bt (step s row) m = (bt s m || p row m)) → Uk s → Uk (rs.foldl step s) ∧ ∀ m, bt (rs.foldl step s) m = (bt s m || rs.any (p · m))
 | [], s, _, hs => ⟨hs, fun m => by simp⟩
 | row :: rs, s, h, hs => by
  obtain ⟨h1, h2⟩ := h s row (by simp) hs
  obtain ⟨h3, h4⟩ := fold_bt step p rs (step s row) (fun s r hr => h s r (by simp [hr])) h1
  refine ⟨h3, fun m => ?_⟩
  rw [List.foldl_cons, h4, h2, List.any_cons, Bool.or_assoc]
def leapB (f r a : Int) (row : List Int) (m : Nat) : Bool := validB f r m && decide (px f m - px f a = row.getD 0 0) && decide (py f m - py f a = row.getD 1 0)
theorem leap_bt {f r a : Int} (ha : validB f r a = true) (rs : List (List Int)) (hrs : ∀ row ∈ rs, -8 ≤ row.getD 0 0 ∧ row.getD 0 0 ≤ 8 ∧ -8 ≤ row.getD 1 0 ∧ row.getD 1 0 ≤ 8) : Uk (leapR f r a rs) ∧ ∀ m, bt (leapR f r a rs) m = rs.any (leapB f r a · m) := by
 have hv := valid_vs ha
 have hp := pl_bd ha
 have hpl : (placeR f r a).1 = px f a ∧ (placeR f r a).2.1 = py f a := by simp only [placeR, ha, cond_true]; exact ⟨by first | rfl | trivial, hp.2.2.2.2.1⟩
 have h := fold_bt (leapStep f r (placeR f r a).1 (placeR f r a).2.1) (leapB f r a) rs 0 ?_ uk_0
 ·refine ⟨h.1, fun m => ?_⟩
  unfold leapR
  rw [h.2, bt_0, Bool.false_or]
 ·intro s row hrow hs
  have hb := hrs row hrow
  unfold leapStep leapSq
  rw [hpl.1, hpl.2, w64_id (n := px f a + _) (by omega) (by omega), w64_id (n := py f a + _) (by omega) (by omega), at_on hv]
  cases ho : onB f r (px f a + row.getD 0 0) (py f a + row.getD 1 0) with
  | false =>
   refine ⟨hs, fun m => ?_⟩
   rw [cond_false]
   have : leapB f r a row m = false := by
    cases hl : leapB f r a row m with
    | false => rfl
    | true =>
     simp only [leapB, Bool.and_eq_true, decide_eq_true_eq] at hl
     have hq := pl_bd hl.1.1
     have : onB f r (px f a + row.getD 0 0) (py f a + row.getD 1 0) = true := on_mk (by omega) (by omega) (by omega) (by omega)
     rw [ho] at this; cases this
   rw [this, Bool.or_false]
  | true =>
   rw [cond_true]
   have h3 := at_on (X := px f a + row.getD 0 0) (Y := py f a + row.getD 1 0) hv
   rw [ho] at h3
   have hq := at_pos (of_decide_eq_true h3)
   obtain ⟨v1, v2, v3⟩ := on_valid hv ho
   rw [← hq.2.2.2.2] at v1 v2 v3
   generalize (atR f r (px f a + row.getD 0 0) (py f a + row.getD 1 0)).1 = x at *
   refine ⟨uk_or _ _, fun m => ?_⟩
   rw [bt_or hs (uk_shl _ _), bt_shl hq.1 hq.2.1]
   congr 1
   unfold leapB
   by_cases e : x = (m : Int)
   ·subst e
    simp only [v1, decide_true, Bool.true_and]
    rw [v2, v3]; simp; omega
   ·simp only [e, decide_false]
    symm
    cases hl : (validB f r m && decide (px f m - px f a = row.getD 0 0) && decide (py f m - py f a = row.getD 1 0)) with
    | false => rfl
    | true =>
     simp only [Bool.and_eq_true, decide_eq_true_eq] at hl
     exact absurd ((valid_inj v1 hl.1.1).2 ⟨by omega, by omega⟩) e
def hitB (occ : Int) (m : Int) : List Int → Bool
 | [] => false
 | x :: l => decide (x = m) || (!bt occ x.toNat && hitB occ m l)
theorem slideGo_bt {occ : Int} (ho : Uk occ) : ∀ (L : List Int) (s : Int), (∀ x ∈ L, 0 ≤ x ∧ x < 64) → Uk s → Uk (slideGo occ L s) ∧ ∀ m : Nat, bt (slideGo occ L s) m = (bt s m || hitB occ m L)
 | [], s, _, hs => ⟨hs, fun m => by simp [slideGo, hitB]⟩
 | x :: L, s, hL, hs => by
  have hx := hL x (by simp)
  unfold slideGo
  rw [bit_of ho hx.1 hx.2]
  cases hb : bt occ x.toNat with
  | true =>
   refine ⟨uk_or _ _, fun m => ?_⟩
   rw [cond_true, bt_or hs (uk_shl _ _), bt_shl hx.1 hx.2]
   simp [hitB, hb]
  | false =>
   obtain ⟨h1, h2⟩ := slideGo_bt ho L (uor s (ushl 1 x)) (fun y hy => hL y (by simp [hy])) (uk_or _ _)
   refine ⟨h1, fun m => ?_⟩
   rw [cond_false, h2, bt_or hs (uk_shl _ _), bt_shl hx.1 hx.2]
   simp [hitB, hb, Bool.or_assoc]
theorem hit_has {occ m : Int} : ∀ {L : List Int}, hitB occ m L = true → hasL m L = true
 | x :: L, h => by
  simp only [hitB, Bool.or_eq_true, Bool.and_eq_true, decide_eq_true_eq] at h
  simp only [hasL, Bool.or_eq_true, decide_eq_true_eq]
  exact h.imp id fun h => hit_has h.2
theorem hit_free {f r occ m : Int} (ho : Uk occ) : ∀ (L : List Int), (∀ x ∈ L, validB f r x = true) → hitB occ m L = (hasL m L && freeB occ (L.take (idxL m L)))
 | [], _ => rfl
 | x :: L, hL => by
  have ih := hit_free (m := m) ho L fun y hy => hL y (by simp [hy])
  have hx := has_bt' ho (hL x (by simp))
  by_cases e : x = m
  ·simp [hitB, hasL, idxL, e, freeB]
  ·simp only [hitB, hasL, idxL, e, decide_false, Bool.false_or, cond_false, List.take_succ_cons, freeB, hx, ih]
   cases bt occ x.toNat <;> simp
def slideB (f r a occ : Int) (row : List Int) (m : Nat) : Bool := hitB occ m (refRay f r a (row.getD 0 0) (row.getD 1 0))
theorem unit_in {df dr : Int} (h : unit df dr) : inR df dr = true := by
 obtain ⟨h1, h2, h3, h4, _⟩ := h
 simp only [inR, Bool.and_eq_true, decide_eq_true_eq]; omega
theorem slide_bt {f r a occ : Int} (ha : validB f r a = true) (ho : Uk occ) (rs : List (List Int)) (hrs : ∀ row ∈ rs, unit (row.getD 0 0) (row.getD 1 0)) : Uk (slideR f r a occ rs) ∧ ∀ m, bt (slideR f r a occ rs) m = rs.any (slideB f r a occ · m) := by
 have h := fold_bt (slideStep f r a occ) (slideB f r a occ) rs 0 ?_ uk_0
 ·refine ⟨h.1, fun m => ?_⟩
  unfold slideR
  rw [h.2, bt_0, Bool.false_or]
 ·intro s row hrow hs
  unfold slideStep slideB
  rw [ray_eq, unit_in (hrs row hrow), cond_true]
  exact slideGo_bt ho _ s (fun x hx => ⟨(valid_lt (ray_valid ha hx)).1, (valid_lt (ray_valid ha hx)).2.2⟩) hs
end Go.Ab

set_option maxRecDepth 100000
namespace Go.Ab
open Go.Proofs
theorem has_mem {m : Int} {L : List Int} : hasL m L = true ↔ m ∈ L := by
 induction L with
 | nil => simp [hasL]
 | cons x L ih => simp only [hasL, Bool.or_eq_true, decide_eq_true_eq, ih, List.mem_cons]; exact ⟨fun h => h.imp Eq.symm id, fun h => h.imp Eq.symm id⟩
theorem diff_fin (P : Int → Int → Bool) (h : ∀ i j : _root_.Fin 15, P ((i.val : Int) - 7) ((j.val : Int) - 7) = true) {x y : Int} (hx : -7 ≤ x ∧ x ≤ 7) (hy : -7 ≤ y ∧ y ≤ 7) : P x y = true := by
 have := h ⟨(x + 7).toNat, by omega⟩ ⟨(y + 7).toNat, by omega⟩
 simp only at this
 rw [show (((x + 7).toNat : Int) - 7) = x by omega, show (((y + 7).toNat : Int) - 7) = y by omega] at this
 exact this
def rowAny (rs : List (List Int)) (x y : Int) : Bool := rs.any fun row => decide (x = row.getD 0 0) && decide (y = row.getD 1 0)
theorem leap_any {f r a b : Int} (hb : validB f r b = true) (rs : List (List Int)) : rs.any (leapB f r a · b.toNat) = rowAny rs (px f b - px f a) (py f b - py f a) := by
 have := valid_lt hb
 unfold rowAny leapB
 rw [show ((b.toNat : Nat) : Int) = b by omega, hb]
 rfl
theorem diff_bd {f r a b : Int} (ha : validB f r a = true) (hb : validB f r b = true) : (-7 ≤ px f b - px f a ∧ px f b - px f a ≤ 7) ∧ (-7 ≤ py f b - py f a ∧ py f b - py f a ≤ 7) := by
 have := pl_bd ha
 have := pl_bd hb
 omega
def knightP (x y : Int) : Bool := rowAny leapsT x y == decide (IntKind.i64.wrap (IntKind.i64.wrap (x * x) + IntKind.i64.wrap (y * y)) = 5)
theorem knight_all : ∀ i j : _root_.Fin 15, knightP ((i.val : Int) - 7) ((j.val : Int) - 7) = true := by decide +kernel
def dist2 (x y : Int) : Int := bif decide (absI (IntKind.i64.wrap (0 - y)) < absI (IntKind.i64.wrap (0 - x))) then absI (IntKind.i64.wrap (0 - x)) else absI (IntKind.i64.wrap (0 - y))
def kingP (x y : Int) : Bool := (rowAny diagT x y || rowAny straT x y) == decide (dist2 x y = 1)
theorem king_all : ∀ i j : _root_.Fin 15, kingP ((i.val : Int) - 7) ((j.val : Int) - 7) = true := by decide +kernel
theorem dist_2 {f r a b : Int} (ha : validB f r a = true) (hb : validB f r b = true) : distR f a b = dist2 (px f b - px f a) (py f b - py f a) := by
 obtain ⟨e1, e2⟩ := diff_w hb ha
 have h := diff_bd ha hb
 unfold distR dist2
 rw [e1, e2, w64_id (n := 0 - (px f b - px f a)) (by omega) (by omega), w64_id (n := 0 - (py f b - py f a)) (by omega) (by omega)]
 rw [show 0 - (px f b - px f a) = px f a - px f b by omega, show 0 - (py f b - py f a) = py f a - py f b by omega]
theorem slide_any {f r a b occ : Int} (ha : validB f r a = true) (hb : validB f r b = true) (ho : Uk occ) (rs : List (List Int)) (hrs : ∀ row ∈ rs, unit (row.getD 0 0) (row.getD 1 0)) :
  rs.any (slideB f r a occ · b.toNat) = ((lineR f a b).2.2 && rowAny rs (lineR f a b).1 (lineR f a b).2.1 && freeB occ (betwL f r a b)) := by
 have hl := valid_lt hb
 have pt : ∀ row ∈ rs, slideB f r a occ row b.toNat = ((lineR f a b).2.2 && (decide ((lineR f a b).1 = row.getD 0 0) && decide ((lineR f a b).2.1 = row.getD 1 0)) && freeB occ (betwL f r a b)) := by
  intro row hrow
  have hu := hrs row hrow
  unfold slideB
  rw [show ((b.toNat : Nat) : Int) = b by omega, hit_free (f := f) (r := r) ho _ (fun x hx => ray_valid ha hx)]
  cases hh : hasL b (refRay f r a (row.getD 0 0) (row.getD 1 0)) with
  | true =>
   have e := has_line ha hb hu hh
   have hz : betwZ f r a b = refRay f r a (row.getD 0 0) (row.getD 1 0) := by rw [betwZ, e]
   unfold betwL
   rw [hz, hh, e]; simp
  | false =>
   rw [Bool.false_and]
   symm
   cases h2 : (lineR f a b).2.2 with
   | false => rfl
   | true =>
    obtain ⟨_, h3⟩ := line_has ha hb h2
    by_cases e : (lineR f a b).1 = row.getD 0 0 ∧ (lineR f a b).2.1 = row.getD 1 0
    ·rw [betwZ, e.1, e.2, hh] at h3; cases h3
    ·simp only [Bool.true_and]
     rw [show (decide ((lineR f a b).1 = row.getD 0 0) && decide ((lineR f a b).2.1 = row.getD 1 0)) = false by simp only [Bool.and_eq_false_iff, decide_eq_false_iff_not]; omega]
     rfl
 have gen : ∀ l : List (List Int), (∀ row ∈ l, row ∈ rs) → l.any (slideB f r a occ · b.toNat) = ((lineR f a b).2.2 && rowAny l (lineR f a b).1 (lineR f a b).2.1 && freeB occ (betwL f r a b)) := by
  intro l
  induction l with
  | nil => intro _; simp [rowAny]
  | cons row l ih =>
   intro h
   rw [List.any_cons, ih (fun x hx => h x (by simp [hx])), pt row (h row (by simp))]
   unfold rowAny
   rw [List.any_cons]
   cases (lineR f a b).2.2 <;> cases (decide ((lineR f a b).1 = row.getD 0 0) && decide ((lineR f a b).2.1 = row.getD 1 0)) <;> cases freeB occ (betwL f r a b) <;> simp
 exact gen rs fun _ h => h
theorem leaps_bd : ∀ row ∈ leapsT, -8 ≤ row.getD 0 0 ∧ row.getD 0 0 ≤ 8 ∧ -8 ≤ row.getD 1 0 ∧ row.getD 1 0 ≤ 8 := by decide
theorem diag_unit : ∀ row ∈ diagT, unit (row.getD 0 0) (row.getD 1 0) := by unfold unit; decide
theorem stra_unit : ∀ row ∈ straT, unit (row.getD 0 0) (row.getD 1 0) := by unfold unit; decide
theorem unit_bd {rs : List (List Int)} (h : ∀ row ∈ rs, unit (row.getD 0 0) (row.getD 1 0)) : ∀ row ∈ rs, -8 ≤ row.getD 0 0 ∧ row.getD 0 0 ≤ 8 ∧ -8 ≤ row.getD 1 0 ∧ row.getD 1 0 ≤ 8 := fun row hr => by
 obtain ⟨h1, h2, h3, h4, _⟩ := h row hr
 omega
theorem unit_diag {x y : Int} (h : unit x y) : rowAny diagT x y = !(decide (x = 0) || decide (y = 0)) ∧ rowAny straT x y = (decide (x = 0) || decide (y = 0)) := by
 rcases unit_cases h with ⟨rfl, rfl⟩ | ⟨rfl, rfl⟩ | ⟨rfl, rfl⟩ | ⟨rfl, rfl⟩ | ⟨rfl, rfl⟩ | ⟨rfl, rfl⟩ | ⟨rfl, rfl⟩ | ⟨rfl, rfl⟩ <;> decide
theorem sgn_0 (n : Int) : decide (sgn n = 0) = decide (n = 0) := by
 have := sgn_eq n
 congr 1
 exact propext ⟨fun h => by omega, fun h => by omega⟩
def reachS (f r kd a occ : Int) : Int := (reachR f r kd a occ).1
def kinds5 (kd : Int) : Prop := kd = 2 ∨ kd = 3 ∨ kd = 4 ∨ kd = 5 ∨ kd = 6
theorem reach_on {f r kd a occ : Int} (h : rayOn f r a occ = true) (hk : kinds5 kd) : (reachR f r kd a occ).2 = 0 ∧ reachS f r kd a occ = bif decide (kd = 2) then leapR f r a leapsT else bif decide (kd = 3) then slideR f r a occ diagT else bif decide (kd = 4) then slideR f r a occ straT
     else bif decide (kd = 5) then uor (slideR f r a occ diagT) (slideR f r a occ straT) else uor (leapR f r a diagT) (leapR f r a straT) := by
 unfold reachS reachR
 rw [h, cond_true]
 rcases hk with rfl | rfl | rfl | rfl | rfl <;> exact ⟨rfl, rfl⟩
theorem reach_bt {f r kd a occ : Int} (h : rayOn f r a occ = true) (ho : Uk occ) (hk : kinds5 kd) : Uk (reachS f r kd a occ) ∧ OnS f r (reachS f r kd a occ) ∧ ∀ b, validB f r b = true → bt (reachS f r kd a occ) b.toNat = reachesB f r kd a b occ := by
 have ha : validB f r a = true := by simp only [rayOn, Bool.and_eq_true] at h; exact h.1
 have L1 := leap_bt ha leapsT leaps_bd
 have L2 := leap_bt ha diagT (unit_bd diag_unit)
 have L3 := leap_bt ha straT (unit_bd stra_unit)
 have S1 := slide_bt ha ho diagT diag_unit
 have S2 := slide_bt ha ho straT stra_unit
 have onl : ∀ (rs : List (List Int)) (m : Nat), rs.any (leapB f r a · m) = true → validB f r m = true := by
  intro rs m h
  obtain ⟨row, _, h2⟩ := List.any_eq_true.1 h
  simp only [leapB, Bool.and_eq_true] at h2
  exact h2.1.1
 have ons : ∀ (rs : List (List Int)) (m : Nat), rs.any (slideB f r a occ · m) = true → validB f r m = true := by
  intro rs m h
  obtain ⟨row, _, h2⟩ := List.any_eq_true.1 h
  exact ray_valid ha (has_mem.1 (hit_has h2))
 obtain ⟨_, hS⟩ := reach_on h hk
 rw [hS]
 have key : ∀ b, validB f r b = true → (lineR f a b).2.2 = true → unit (lineR f a b).1 (lineR f a b).2.1 ∧ (decide (IntKind.i64.wrap (b.tmod f - a.tmod f) = 0) || decide (IntKind.i64.wrap (IntKind.i64.wrap (b.tdiv f) - IntKind.i64.wrap (a.tdiv f)) = 0)) = (decide ((lineR f a b).1 = 0) || decide ((lineR f a b).2.1 = 0)) := by
  intro b hb hl
  obtain ⟨e1, e2⟩ := diff_w ha hb
  refine ⟨(line_has ha hb hl).1, ?_⟩
  rcases line_R ha hb with ⟨e, _⟩ | ⟨e, _⟩
  ·rw [e] at hl; cases hl
  ·rw [e1, e2, e]
   simp only [sgn_0]
 rcases hk with rfl | rfl | rfl | rfl | rfl
 ·refine ⟨L1.1, fun m _ hm => onl _ _ ((L1.2 m).symm.trans hm), fun b hb => ?_⟩
  obtain ⟨e1, e2⟩ := diff_w ha hb
  have hd := diff_bd ha hb
  have hp := diff_fin knightP knight_all hd.1 hd.2
  show bt (leapR f r a leapsT) b.toNat = decide (_ = 5)
  rw [L1.2, leap_any hb, e1, e2]
  exact eq_of_beq hp
 ·refine ⟨S1.1, fun m _ hm => ons _ _ ((S1.2 m).symm.trans hm), fun b hb => ?_⟩
  show bt (slideR f r a occ diagT) b.toNat = ((lineR f a b).2.2 && (false || ((decide (IntKind.i64.wrap (b.tmod f - a.tmod f) = 0) || decide (IntKind.i64.wrap (IntKind.i64.wrap (b.tdiv f) - IntKind.i64.wrap (a.tdiv f)) = 0)) == false)) && freeB occ (betwL f r a b))
  rw [S1.2, slide_any ha hb ho _ diag_unit]
  cases hl : (lineR f a b).2.2 with
  | false => simp
  | true => obtain ⟨k1, k2⟩ := key b hb hl; rw [k2, (unit_diag k1).1]; simp
 ·refine ⟨S2.1, fun m _ hm => ons _ _ ((S2.2 m).symm.trans hm), fun b hb => ?_⟩
  show bt (slideR f r a occ straT) b.toNat = ((lineR f a b).2.2 && (false || ((decide (IntKind.i64.wrap (b.tmod f - a.tmod f) = 0) || decide (IntKind.i64.wrap (IntKind.i64.wrap (b.tdiv f) - IntKind.i64.wrap (a.tdiv f)) = 0)) == true)) && freeB occ (betwL f r a b))
  rw [S2.2, slide_any ha hb ho _ stra_unit]
  cases hl : (lineR f a b).2.2 with
  | false => simp
  | true => obtain ⟨k1, k2⟩ := key b hb hl; rw [k2, (unit_diag k1).2]; simp
 ·refine ⟨uk_or _ _, fun m _ hm => ?_, fun b hb => ?_⟩
  ·have hm : bt (uor (slideR f r a occ diagT) (slideR f r a occ straT)) m = true := hm
   rw [bt_or S1.1 S2.1, Bool.or_eq_true] at hm
   exact hm.elim (fun hm => ons _ _ ((S1.2 m).symm.trans hm)) (fun hm => ons _ _ ((S2.2 m).symm.trans hm))
  ·show bt (uor (slideR f r a occ diagT) (slideR f r a occ straT)) b.toNat = ((lineR f a b).2.2 && (true || _) && freeB occ (betwL f r a b))
   rw [bt_or S1.1 S2.1, S1.2, S2.2, slide_any ha hb ho _ diag_unit, slide_any ha hb ho _ stra_unit]
   cases hl : (lineR f a b).2.2 with
   | false => simp
   | true =>
    obtain ⟨k1, k2⟩ := key b hb hl
    rw [(unit_diag k1).1, (unit_diag k1).2]
    cases (decide ((lineR f a b).1 = 0) || decide ((lineR f a b).2.1 = 0)) <;> simp
 ·refine ⟨uk_or _ _, fun m _ hm => ?_, fun b hb => ?_⟩
  ·have hm : bt (uor (leapR f r a diagT) (leapR f r a straT)) m = true := hm
   rw [bt_or L2.1 L3.1, Bool.or_eq_true] at hm
   exact hm.elim (fun hm => onl _ _ ((L2.2 m).symm.trans hm)) (fun hm => onl _ _ ((L3.2 m).symm.trans hm))
  ·have hd := diff_bd ha hb
   have hp := diff_fin kingP king_all hd.1 hd.2
   show bt (uor (leapR f r a diagT) (leapR f r a straT)) b.toNat = decide (distR f a b = 1)
   rw [bt_or L2.1 L3.1, L2.2, L3.2, leap_any hb, leap_any hb, dist_2 ha hb]
   exact eq_of_beq hp
end Go.Ab

set_option maxRecDepth 100000
namespace Go.Ab
open Go.Proofs
theorem add_or {s x : Int} (hs : Uk s) (h1 : 0 ≤ x) (h2 : x < 64) (hb : bt s x.toNat = false) : IntKind.u64.wrap (s + ushl 1 x) = uor s (ushl 1 x) := by
 have hk := uk_shl 1 x
 rw [u64_wrap, uor_eq]
 have hz : BitVec.ofInt 64 s &&& BitVec.ofInt 64 (ushl 1 x) = 0#64 := by
  apply BitVec.eq_of_toNat_eq
  rw [BitVec.toNat_and, bv_of hs, bv_of hk]
  apply Nat.eq_of_testBit_eq
  intro i
  rw [Nat.testBit_and]
  have h3 := bt_shl h1 h2 i
  unfold bt at h3 hb
  rw [h3]
  by_cases e : x = (i : Int)
  ·subst e; rw [Int.toNat_natCast] at hb; simp [hb]
  ·simp [e]
 rw [← BitVec.add_eq_or_of_and_eq_zero _ _ hz, BitVec.toNat_add, bv_of hs, bv_of hk]
 have h4 := hs.1
 have h5 := hk.1
 generalize ushl 1 x = y at *
 show (s + y) % 18446744073709551616 = (((s.toNat + y.toNat) % 18446744073709551616 : Nat) : Int)
 omega
theorem ofL_bt : ∀ (l : List Int) (s : Int), (∀ x ∈ l, 0 ≤ x ∧ x < 64) → Uk s → Uk (ofL l s) ∧ ∀ m : Nat, bt (ofL l s) m = (bt s m || decide ((m : Int) ∈ l))
 | [], s, _, hs => ⟨hs, fun m => by simp [ofL]⟩
 | x :: l, s, hl, hs => by
  have hx := hl x (by simp)
  rw [ofL]
  have hh := has_bt (n := x) hs
  simp only [hx.1, hx.2, decide_true, Bool.true_and] at hh
  cases hb : bt s x.toNat with
  | true =>
   obtain ⟨h1, h2⟩ := ofL_bt l s (fun y hy => hl y (by simp [hy])) hs
   rw [hh, hb, cond_true]
   refine ⟨h1, fun m => ?_⟩
   rw [h2]
   by_cases e : (m : Int) = x
   ·subst e; rw [Int.toNat_natCast] at hb; simp [hb]
   ·simp [e]
  | false =>
   rw [hh, hb, cond_false, add_or hs hx.1 hx.2 hb]
   obtain ⟨h1, h2⟩ := ofL_bt l (uor s (ushl 1 x)) (fun y hy => hl y (by simp [hy])) (uk_or _ _)
   refine ⟨h1, fun m => ?_⟩
   rw [h2, bt_or hs (uk_shl _ _), bt_shl hx.1 hx.2, Bool.or_assoc]
   congr 1
   by_cases e : (m : Int) = x
   ·simp [e]
   ·have e' : ¬ x = (m : Int) := fun h => e h.symm
    simp [e, e']
theorem all_bt {f r : Int} (hv : vsB f r = true) : Uk (allU f r) ∧ ∀ m : Nat, bt (allU f r) m = decide ((m : Int) < f * r) := by
 have hm := mul_bd hv
 unfold allU
 rw [w64_mul hv, w64_id (by omega) (by omega)]
 have hk : Uk 18446744073709551615 := ⟨by decide, by decide⟩
 refine ⟨uk_shr hk (by omega) (by omega), fun m => ?_⟩
 rw [bt_shr hk (by omega) (by omega)]
 unfold bt
 rw [show (18446744073709551615 : Int).toNat = 2 ^ 64 - 1 by decide, Nat.testBit_two_pow_sub_one]
 congr 1
 exact propext ⟨fun h => by omega, fun h => by omega⟩
theorem allU_on {f r s : Int} (hv : vsB f r = true) (hs : Uk s) : uandn s (allU f r) = 0 ↔ OnS f r s := by
 obtain ⟨h1, h2⟩ := all_bt hv
 rw [uk_eq_0 (uk_andn _ _)]
 constructor
 ·intro h m hm hb
  have := h m hm
  rw [bt_andn hs h1, hb, h2] at this
  simp at this
  exact valid_mk hv (by omega) this
 ·intro h m hm
  rw [bt_andn hs h1, h2]
  cases hb : bt s m with
  | false => rfl
  | true => have := valid_lt (h m hm hb); simp; omega
theorem rayOn_iff {f r a s : Int} (hs : Uk s) : rayOn f r a s = true ↔ validB f r a = true ∧ OnS f r s := by
 unfold rayOn
 rw [Bool.and_eq_true, decide_eq_true_eq]
 exact ⟨fun h => ⟨h.1, (allU_on (valid_vs h.1) hs).1 h.2⟩, fun h => ⟨h.1, (allU_on (valid_vs h.1) hs).2 h.2⟩⟩
end Go.Ab

set_option maxRecDepth 100000
namespace Go.Ab
open Go.Proofs
variable {kCa kDb : Bool}
def pawnC (f : Int) (bl : Bool) (a b : Int) : Bool := decide (IntKind.i64.wrap (IntKind.i64.wrap (b.tdiv f) - IntKind.i64.wrap (a.tdiv f)) = fwd bl) && (decide (IntKind.i64.wrap (b.tmod f - a.tmod f) = 1) || decide (IntKind.i64.wrap (a.tmod f - b.tmod f) = 1))
def one4 (f r : Int) (bl : Bool) (a : Int) : Int := numR f r (a.tmod f) (IntKind.i64.wrap (IntKind.i64.wrap (a.tdiv f) + fwd bl))
def two4 (f r : Int) (bl : Bool) (a : Int) : Int := numR f r (a.tmod f) (IntKind.i64.wrap (IntKind.i64.wrap (a.tdiv f) + IntKind.i64.wrap (2 * fwd bl)))
def stepsB (f r : Int) (bl : Bool) (a occ b : Int) : Bool := (decide (b = one4 f r bl a) && !hasB occ (one4 f r bl a)) || (decide (b = two4 f r bl a) && decide (6 ≤ r) && decide (IntKind.i64.wrap (a.tdiv f) = secR r bl) && !hasB occ (one4 f r bl a) && !hasB occ (two4 f r bl a))
def c_refPawn : CF
 | [.agg [.int .i64 f, .int .i64 r], .bool bl, .int .i64 a], [] => some (vsB f r, .sl 0 0 (filtB (pawnC f bl a) id ((f * r).toNat)).length none, [.ints true .i64 (filtB (pawnC f bl a) id ((f * r).toNat))])
 | _, _ => none
theorem c_refPawn_ok : CtOk (GGx kCa kDb) PP (172, c_refPawn) := by
 refine ct_mk Tryz.func172 (by kernel_rfl) rfl fun a0 h0 c0 v0 N0 e hc => ?_
 unfold c_refPawn at e
 split at e
 ·rename_i f r bl a
  cases e
  have hE := EE_ok (kCa := kCa) (kDb := kDb) (cts := [(48, c_Place), (183, c_Fwd)]) (inl := []) ⟨c_Place_ok, c_Fwd_ok, trivial⟩ trivial
  refine fn_sound hE 2 Tryz.func172 rfl rfl ?_
  have hm := mul_bd hc
  have hw := w64_mul hc
  have hf := vs_bd hc
  have hf0 : ¬ f = 0 := by omega
  refine sat_idx hE 2 (fun (i : Int) (ys : List Int) => ([(1, Bb bl), (2, I a), (3, .ptr 0 0 0), (7, .sl 1 0 ys.length none), (8, I i)], [.cells true [I f, I r], .ints true .i64 ys])) ((f * r).toNat) (fun j ys => ys = filtB (pawnC f bl a) id j) [] (by omega) ((Ent.phanT (t := 7) (o := .ints true .i64 []) rfl ⟨by simp, by simp, trivial, rfl⟩ (blt_lt rfl)).trans (Ent.ren [0, 1] [1, 2, 3, 7, 8] rfl rfl rfl)) rfl ?_
  intro j i ys hij hj hz
  have hb := filtB_len (pawnC f bl a) id j
  rw [← hz] at hb
  refine sat_br (fun hlt => ?_) (fun hlt => ?_)
  ·have hlt' : j < (f * r).toNat := by simp only [decide_eq_true_eq] at hlt; rw [hw] at hlt; omega
   have hs := filtB_succ (pawnC f bl a) id j
   rw [← hz, ← hij] at hs
   repeat (first | refine sat_self ?_ | refine sat_nd ?_)
   refine sat_br (fun hon => ?_) (fun hon => ?_)
   ·skip
    have hon : pawnC f bl a i = true := hon
    rw [hon, cond_true] at hs
    refine sat_need (b := decide (ys.length = ys.length) && decide ((ys.length + 1) * 8 ≤ 140737488355328) && true) (by simp; omega) ?_
    exact sat_ret ⟨hlt', ys ++ [id i], hs.symm, Ent.ren [0, 5] [1, 2, 3, 7, 8] rfl rfl rfl⟩
   ·skip
    have hon : pawnC f bl a i = false := hon
    rw [hon, cond_false] at hs
    exact sat_ret ⟨hlt', ys, hs.symm, Ent.ren [0, 1] [1, 2, 3, 7, 8] rfl rfl rfl⟩
  ·obtain rfl : j = (f * r).toNat := by simp only [decide_eq_false_iff_not] at hlt; rw [hw] at hlt; omega
   subst hz
   refine sat_ret (sat_ret ((fin_new 1 (.inr rfl) rfl rfl rfl rfl rfl rfl)))
 ·cases e
def c_refSteps : CF
 | [.agg [.int .i64 f, .int .i64 r], .bool bl, .int .i64 a, .int .u64 occ], [] => some (vsB f r, .sl 0 0 (filtB (stepsB f r bl a occ) id ((f * r).toNat)).length none, [.ints true .i64 (filtB (stepsB f r bl a occ) id ((f * r).toNat))])
 | _, _ => none
theorem c_refSteps_ok : CtOk (GGx kCa kDb) PP (173, c_refSteps) := by
 refine ct_mk Tryz.func173 (by kernel_rfl) rfl fun a0 h0 c0 v0 N0 e hc => ?_
 unfold c_refSteps at e
 split at e
 ·rename_i f r bl a occ
  cases e
  have hE := EE_ok (kCa := kCa) (kDb := kDb) (cts := [(48, c_Place), (183, c_Fwd), (97, c_Number), (34, c_Has), (184, c_Second)]) (inl := []) ⟨c_Place_ok, c_Fwd_ok, c_Number_ok, c_Has_ok, c_Second_ok, trivial⟩ trivial
  refine fn_sound hE 2 Tryz.func173 rfl rfl ?_
  have hm := mul_bd hc
  have hw := w64_mul hc
  have hf := vs_bd hc
  have hf0 : ¬ f = 0 := by omega
  repeat (first | refine sat_self ?_ | refine sat_nd ?_)
  refine sat_idx hE 2 (fun (i : Int) (ys : List Int) => ([(1, Bb bl), (3, U occ), (4, .ptr 0 0 0), (9, .ptr 1 0 0), (11, I (one4 f r bl a)), (12, I (two4 f r bl a)), (13, .sl 2 0 ys.length none), (14, I i)], [.cells true [I f, I r], .cells true [I (a.tmod f), I (IntKind.i64.wrap (a.tdiv f))], .ints true .i64 ys])) ((f * r).toNat) (fun j ys => ys = filtB (stepsB f r bl a occ) id j) [] (by omega) ((Ent.phanT (t := 13) (o := .ints true .i64 []) rfl ⟨by simp, by simp, trivial, rfl⟩ (blt_lt rfl)).trans (Ent.ren [0, 1, 2] [1, 3, 4, 9, 11, 12, 13, 14] rfl rfl rfl)) rfl ?_
  intro j i ys hij hj hz
  have hb := filtB_len (stepsB f r bl a occ) id j
  rw [← hz] at hb
  refine sat_br (fun hlt => ?_) (fun hlt => ?_)
  ·have hlt' : j < (f * r).toNat := by simp only [decide_eq_true_eq] at hlt; rw [hw] at hlt; omega
   have hs := filtB_succ (stepsB f r bl a occ) id j
   rw [← hz, ← hij] at hs
   repeat (first | refine sat_self ?_ | refine sat_nd ?_)
   refine sat_br (fun hon => ?_) (fun hon => ?_)
   ·skip
    have hon : stepsB f r bl a occ i = true := hon
    rw [hon, cond_true] at hs
    refine sat_need (b := decide (ys.length = ys.length) && decide ((ys.length + 1) * 8 ≤ 140737488355328) && true) (by simp; omega) ?_
    exact sat_ret ⟨hlt', ys ++ [id i], hs.symm, Ent.ren [0, 1, 4] [1, 3, 4, 9, 11, 12, 13, 14] rfl rfl rfl⟩
   ·skip
    have hon : stepsB f r bl a occ i = false := hon
    rw [hon, cond_false] at hs
    exact sat_ret ⟨hlt', ys, hs.symm, Ent.ren [0, 1, 2] [1, 3, 4, 9, 11, 12, 13, 14] rfl rfl rfl⟩
  ·obtain rfl : j = (f * r).toNat := by simp only [decide_eq_false_iff_not] at hlt; rw [hw] at hlt; omega
   subst hz
   refine sat_ret (sat_ret ((fin_new 2 (.inr rfl) rfl rfl rfl rfl rfl rfl)))
 ·cases e
end Go.Ab

set_option maxRecDepth 100000
namespace Go.Ab
open Go.Proofs
theorem fwd_cases (bl : Bool) : (bl = true ∧ fwd bl = -1) ∨ (bl = false ∧ fwd bl = 1) := by cases bl <;> simp [fwd]
theorem num_off {f r X Y : Int} (h : onB f r X Y = false) : numR f r X Y = -1 := by unfold numR; rw [numB_on, h]; rfl
theorem num_at {f r b X Y : Int} (hv : vsB f r = true) (hb : validB f r b = true) : decide (b = numR f r X Y) = (decide (px f b = X) && decide (py f b = Y)) := by
 have hq := pl_bd hb
 have hl := valid_lt hb
 cases ho : onB f r X Y with
 | true =>
  have := num_iff hv ho hb
  rw [Bool.eq_iff_iff, Bool.and_eq_true, decide_eq_true_eq, decide_eq_true_eq, decide_eq_true_eq, ← this]
  exact ⟨Eq.symm, Eq.symm⟩
 | false =>
  rw [num_off ho, show decide (b = -1) = false by simp; omega]
  symm
  simp only [Bool.and_eq_false_iff, decide_eq_false_iff_not]
  by_cases h1 : px f b = X
  ·right
   intro h2
   have : onB f r X Y = true := on_mk (by omega) (by omega) (by omega) (by omega)
   rw [ho] at this; cases this
  ·exact .inl h1
theorem pawn_bd (bl : Bool) : ∀ row ∈ [[-1, fwd bl], [1, fwd bl]], -8 ≤ row.getD 0 0 ∧ row.getD 0 0 ≤ 8 ∧ -8 ≤ row.getD 1 0 ∧ row.getD 1 0 ≤ 8 := by cases bl <;> simp [fwd]
theorem onl_leap {f r a : Int} (rs : List (List Int)) (m : Nat) (h : rs.any (leapB f r a · m) = true) : validB f r m = true := by
 obtain ⟨row, _, h2⟩ := List.any_eq_true.1 h
 simp only [leapB, Bool.and_eq_true] at h2
 exact h2.1.1
theorem pawn_bt {f r a : Int} {bl : Bool} (ha : validB f r a = true) : (pawnR f r bl a).2 = 0 ∧ Uk (pawnR f r bl a).1 ∧ OnS f r (pawnR f r bl a).1 ∧ ∀ b, validB f r b = true → bt (pawnR f r bl a).1 b.toNat = pawnC f bl a b := by
 have L := leap_bt ha [[-1, fwd bl], [1, fwd bl]] (pawn_bd bl)
 unfold pawnR
 rw [ha, cond_true]
 refine ⟨rfl, L.1, fun m _ hm => onl_leap _ _ ((L.2 m).symm.trans hm), fun b hb => ?_⟩
 obtain ⟨e1, e2⟩ := diff_w ha hb
 obtain ⟨e3, _⟩ := diff_w hb ha
 have hd := diff_bd ha hb
 rw [L.2, leap_any hb]
 unfold pawnC rowAny
 rw [e1, e2, e3]
 simp only [List.any_cons, List.any_nil, Bool.or_false, List.getD_cons_zero, List.getD_cons_succ]
 rw [Bool.eq_iff_iff]
 simp only [Bool.or_eq_true, Bool.and_eq_true, decide_eq_true_eq]
 omega
theorem step_bt {f r a k : Int} (ha : validB f r a = true) (hk : -2 ≤ k ∧ k ≤ 2) : Uk (leapR f r a [[0, k]]) ∧ (∀ m, bt (leapR f r a [[0, k]]) m = true → validB f r m = true) ∧ ∀ b, validB f r b = true → bt (leapR f r a [[0, k]]) b.toNat = decide (b = numR f r (px f a) (py f a + k)) := by
 have L := leap_bt ha [[0, k]] (by intro row h; simp only [List.mem_singleton] at h; subst h; simp; omega)
 refine ⟨L.1, fun m hm => onl_leap _ _ ((L.2 m).symm.trans hm), fun b hb => ?_⟩
 rw [L.2, leap_any hb, num_at (valid_vs ha) hb]
 unfold rowAny
 simp only [List.any_cons, List.any_nil, Bool.or_false, List.getD_cons_zero, List.getD_cons_succ]
 rw [Bool.eq_iff_iff]
 simp only [Bool.and_eq_true, decide_eq_true_eq]
 omega
theorem num_cases (f r X Y : Int) (hv : vsB f r = true) : (onB f r X Y = true ∧ validB f r (numR f r X Y) = true) ∨ (onB f r X Y = false ∧ numR f r X Y = -1) := by
 cases ho : onB f r X Y with
 | true =>
  left
  have h := at_on (X := X) (Y := Y) hv
  rw [ho] at h
  have hp := at_pos (of_decide_eq_true h)
  rw [num_on hv ho, hp.2.2.2.2]
  exact ⟨rfl, (on_valid hv ho).1⟩
 | false => exact .inr ⟨rfl, num_off ho⟩
theorem steps_bt {f r a occ : Int} {bl : Bool} (h : rayOn f r a occ = true) (ho : Uk occ) : (stepsR f r bl a occ).2 = 0 ∧ Uk (stepsR f r bl a occ).1 ∧ OnS f r (stepsR f r bl a occ).1 ∧ ∀ b, validB f r b = true → bt (stepsR f r bl a occ).1 b.toNat = stepsB f r bl a occ b := by
 obtain ⟨ha, _⟩ := (rayOn_iff ho).1 h
 have hv := valid_vs ha
 have hp := pl_bd ha
 have hw2 : IntKind.i64.wrap (2 * fwd bl) = 2 * fwd bl := by rcases fwd_cases bl with ⟨_, e⟩ | ⟨_, e⟩ <;> rw [e] <;> rfl
 have hfw := fwd_cases bl
 have S1 := step_bt (k := fwd bl) ha (by omega)
 have S2 := step_bt (k := 2 * fwd bl) ha (by omega)
 have e1 : one4 f r bl a = numR f r (px f a) (py f a + fwd bl) := by
  show numR f r (px f a) (IntKind.i64.wrap (IntKind.i64.wrap (py f a) + fwd bl)) = _
  rw [hp.2.2.2.2.1, w64_id (by omega) (by omega)]
 have e2 : two4 f r bl a = numR f r (px f a) (py f a + 2 * fwd bl) := by
  show numR f r (px f a) (IntKind.i64.wrap (IntKind.i64.wrap (py f a) + IntKind.i64.wrap (2 * fwd bl))) = _
  rw [hp.2.2.2.2.1, hw2, w64_id (by omega) (by omega)]
 have hsec : (decide (r < 6) || !decide (IntKind.i64.wrap (a.tdiv f) = bif bl then IntKind.i64.wrap (r - 2) else 1)) = !(decide (6 ≤ r) && decide (IntKind.i64.wrap (a.tdiv f) = secR r bl)) := by
  unfold secR
  rw [Bool.not_and, show (!decide (6 ≤ r)) = decide (r < 6) by rw [← decide_not]; congr 1; exact propext ⟨fun h => by omega, fun h => by omega⟩]
 unfold stepsR stepsC one1
 rw [h, cond_true, Bool.or_assoc, hsec, hw2]
 have hA : Uk (uandn (leapR f r a [[0, fwd bl]]) occ) := uk_andn _ _
 have hB : Uk (uandn (leapR f r a [[0, 2 * fwd bl]]) occ) := uk_andn _ _
 have bA : ∀ m, bt (uandn (leapR f r a [[0, fwd bl]]) occ) m = (bt (leapR f r a [[0, fwd bl]]) m && !bt occ m) := bt_andn S1.1 ho
 have bB : ∀ m, bt (uandn (leapR f r a [[0, 2 * fwd bl]]) occ) m = (bt (leapR f r a [[0, 2 * fwd bl]]) m && !bt occ m) := bt_andn S2.1 ho
 have onA : OnS f r (uandn (leapR f r a [[0, fwd bl]]) occ) := fun m _ hm => by rw [bA, Bool.and_eq_true] at hm; exact S1.2.1 m hm.1
 have onB' : OnS f r (uandn (leapR f r a [[0, 2 * fwd bl]]) occ) := fun m _ hm => by rw [bB, Bool.and_eq_true] at hm; exact S2.2.1 m hm.1
 have vA : ∀ b, validB f r b = true → bt (uandn (leapR f r a [[0, fwd bl]]) occ) b.toNat = (decide (b = one4 f r bl a) && !hasB occ (one4 f r bl a)) := fun b hb => by
  rw [bA, S1.2.2 b hb, ← e1]
  by_cases e : b = one4 f r bl a
  ·rw [← e, has_bt' ho hb]
  ·simp [e]
 have vB : ∀ b, validB f r b = true → bt (uandn (leapR f r a [[0, 2 * fwd bl]]) occ) b.toNat = (decide (b = two4 f r bl a) && !hasB occ (two4 f r bl a)) := fun b hb => by
  rw [bB, S2.2.2 b hb, ← e2]
  by_cases e : b = two4 f r bl a
  ·rw [← e, has_bt' ho hb]
  ·simp [e]
 -- the first step is free just if its set is not empty
 have hz : uandn (leapR f r a [[0, fwd bl]]) occ = 0 ↔ (one4 f r bl a = -1 ∨ hasB occ (one4 f r bl a) = true) := by
  rw [uk_eq_0 hA]
  rcases num_cases f r (px f a) (py f a + fwd bl) hv with ⟨_, hval⟩ | ⟨_, hneg⟩
  ·rw [← e1] at hval
   have hl := valid_lt hval
   constructor
   ·intro hall
    have := hall (one4 f r bl a).toNat (by omega)
    rw [vA _ hval] at this
    right; simpa using this
   ·rintro (hx | hx)
    ·omega
    ·intro n hn
     cases hb : bt (uandn (leapR f r a [[0, fwd bl]]) occ) n with
     | false => rfl
     | true =>
      have hvn := onA n hn hb
      have := vA n hvn
      rw [Int.toNat_natCast, hb, hx] at this
      simp at this
  ·rw [← e1] at hneg
   refine ⟨fun _ => .inl hneg, fun _ n hn => ?_⟩
   cases hb : bt (uandn (leapR f r a [[0, fwd bl]]) occ) n with
   | false => rfl
   | true =>
    have hvn := onA n hn hb
    have := vA n hvn
    rw [Int.toNat_natCast, hb, hneg] at this
    simp at this
 cases hc : (decide (uandn (leapR f r a [[0, fwd bl]]) occ = 0) || !(decide (6 ≤ r) && decide (IntKind.i64.wrap (a.tdiv f) = secR r bl))) with
 | true =>
  rw [cond_true]
  refine ⟨rfl, hA, onA, fun b hb => ?_⟩
  show bt (uandn (leapR f r a [[0, fwd bl]]) occ) b.toNat = _
  rw [vA b hb]
  unfold stepsB
  symm
  rw [Bool.or_eq_true, decide_eq_true_eq, hz] at hc
  have : (decide (b = two4 f r bl a) && decide (6 ≤ r) && decide (IntKind.i64.wrap (a.tdiv f) = secR r bl) && !hasB occ (one4 f r bl a) && !hasB occ (two4 f r bl a)) = false := by
   have hl := valid_lt hb
   rcases hc with (hc | hc) | hc
   ·have h2 : two4 f r bl a = -1 := by
     rw [e2]
     refine num_off ?_
     cases hon : onB f r (px f a) (py f a + 2 * fwd bl) with
     | false => rfl
     | true =>
      have := on_bd hon
      have h3 : onB f r (px f a) (py f a + fwd bl) = true := on_mk (by omega) (by omega) (by omega) (by omega)
      rcases num_cases f r (px f a) (py f a + fwd bl) hv with ⟨_, hval⟩ | ⟨h4, _⟩
      ·rw [← e1, hc] at hval
       have := valid_lt hval
       omega
      ·rw [h3] at h4; cases h4
    rw [h2, show decide (b = -1) = false by simp; omega]
    rfl
   ·rw [hc]; simp
   ·cases h6 : decide (6 ≤ r) <;> rw [h6] at hc <;> simp at hc <;> simp [hc]
  rw [this, Bool.or_false]
 | false =>
  rw [cond_false]
  refine ⟨rfl, uk_or _ _, fun m hm hb => ?_, fun b hb => ?_⟩
  ·have hb : bt (uor (uandn (leapR f r a [[0, fwd bl]]) occ) (uandn (leapR f r a [[0, 2 * fwd bl]]) occ)) m = true := hb
   rw [bt_or hA hB, Bool.or_eq_true] at hb
   exact hb.elim (onA m hm) (onB' m hm)
  ·show bt (uor (uandn (leapR f r a [[0, fwd bl]]) occ) (uandn (leapR f r a [[0, 2 * fwd bl]]) occ)) b.toNat = _
   rw [bt_or hA hB, vA b hb, vB b hb]
   simp only [Bool.or_eq_false_iff, decide_eq_false_iff_not, Bool.not_eq_false', Bool.and_eq_true, decide_eq_true_eq] at hc
   obtain ⟨h1, h2, h3⟩ := hc
   rw [hz, not_or] at h1
   have h4 : hasB occ (one4 f r bl a) = false := by simpa using h1.2
   unfold stepsB
   rw [h4, h3]
   simp [h2]
end Go.Ab

set_option maxRecDepth 100000
namespace Go.Ab
open Go.Proofs
theorem uk_until (b : Int) : ∀ (L : List Int) (s : Int), Uk s → Uk (untilS b L s)
 | [], _, h => h
 | x :: L, s, h => by
  rw [untilS]
  cases decide (x = b) with
  | true => exact h
  | false => exact uk_until b L _ (uk_or _ _)
theorem until_bt {b : Int} : ∀ (L : List Int) (s : Int), (∀ x ∈ L, 0 ≤ x ∧ x < 64) → Uk s → ∀ m : Nat, bt (untilS b L s) m = (bt s m || decide ((m : Int) ∈ L.take (idxL b L)))
 | [], s, _, _, m => by simp [untilS, idxL]
 | x :: L, s, hL, hs, m => by
  have hx := hL x (by simp)
  rw [untilS, idxL]
  cases hb : decide (x = b) with
  | true => simp
  | false =>
   rw [cond_false, cond_false, until_bt L _ (fun y hy => hL y (by simp [hy])) (uk_or _ _), bt_or hs (uk_shl _ _), bt_shl hx.1 hx.2, Bool.or_assoc, List.take_succ_cons]
   congr 1
   by_cases e : (m : Int) = x
   ·simp [e]
   ·have e' : ¬ x = (m : Int) := fun h => e h.symm
    simp [e, e']
theorem betw_set {f r a b : Int} (ha : validB f r a = true) (hb : validB f r b = true) (h : (lineR f a b).2.2 = true) : dirR f r a b = ((lineR f a b).1, (lineR f a b).2.1, 0) ∧ betwR f r a b = (ofL (betwL f r a b) 0, 0) := by
 have hp := pl_bd ha
 have hq := pl_bd hb
 obtain ⟨e1, e2⟩ := diff_w ha hb
 have hlh := line_has ha hb h
 rcases line_R ha hb with ⟨e, _⟩ | ⟨e, hl⟩
 ·rw [e] at h; cases h
 ·have hd : dirR f r a b = ((lineR f a b).1, (lineR f a b).2.1, 0) := by
   unfold dirR
   rw [ha, hb, e, e1, e2]
   have : (decide (a = b) || !decide (px f b - px f a = 0) && !decide (py f b - py f a = 0) && !decide (px f b - px f a = py f b - py f a) && !decide (px f b - px f a = IntKind.i64.wrap (0 - (py f b - py f a)))) = false := by
    rw [w64_id (by omega) (by omega)]
    simp only [Bool.or_eq_false_iff, Bool.and_eq_false_iff, decide_eq_false_iff_not, Bool.not_eq_false', decide_eq_true_eq]
    rw [valid_inj ha hb]
    unfold onLine at hl
    omega
   simp only [this, Bool.and_true, cond_true, cond_false]
  refine ⟨hd, ?_⟩
  unfold betwR
  rw [hd]
  simp only [decide_true, cond_true]
  have hz : rayL f r a (lineR f a b).1 (lineR f a b).2.1 = betwZ f r a b := by rw [ray_eq, unit_in hlh.1]; rfl
  have hbd : ∀ x ∈ betwZ f r a b, 0 ≤ x ∧ x < 64 := fun x hx => ⟨(valid_lt (ray_valid ha hx)).1, (valid_lt (ray_valid ha hx)).2.2⟩
  have hL : betwL f r a b = (betwZ f r a b).take (idxL b (betwZ f r a b)) := by unfold betwL; rw [hlh.2]; rfl
  rw [hz, hL]
  congr 1
  have hbd2 : ∀ x ∈ (betwZ f r a b).take (idxL b (betwZ f r a b)), 0 ≤ x ∧ x < 64 := fun x hx => hbd x (List.mem_of_mem_take hx)
  obtain ⟨k1, k2⟩ := ofL_bt _ 0 hbd2 uk_0
  refine uk_ext (uk_until _ _ _ uk_0) k1 fun n _ => ?_
  rw [until_bt _ _ hbd uk_0, k2]
theorem betwL_bd {f r a b : Int} (ha : validB f r a = true) : (betwL f r a b).length ≤ 8 ∧ ∀ x ∈ betwL f r a b, validB f r x = true := by
 refine ⟨betwL_len8 f r a b, fun x hx => ?_⟩
 unfold betwL at hx
 cases h : hasL b (betwZ f r a b) with
 | false => rw [h] at hx; simp at hx
 | true => rw [h, cond_true] at hx; exact ray_valid ha (List.mem_of_mem_take hx)
end Go.Ab

set_option maxRecDepth 100000
namespace Go.Ab
open Go.Proofs
end Go.Ab

set_option maxRecDepth 100000
namespace Go.Ab
open Go.Proofs
def Btw (f a b c : Int) : Prop := ∃ i k : Nat, ∃ df dr : Int, unit df dr ∧ 1 ≤ i ∧ i < k ∧ k ≤ 8 ∧ px f b = px f a + k * df ∧ py f b = py f a + k * dr ∧ px f c = px f a + i * df ∧ py f c = py f a + i * dr
theorem Btw.symm {f a b c : Int} (h : Btw f a b c) : Btw f b a c := by
 obtain ⟨i, k, df, dr, hu, h1, h2, h3, h4, h5, h6, h7⟩ := h
 refine ⟨k - i, k, -df, -dr, ?_, by omega, by omega, h3, ?_⟩
 ·unfold unit at hu ⊢; omega
 ·rcases unit_cases hu with ⟨rfl, rfl⟩ | ⟨rfl, rfl⟩ | ⟨rfl, rfl⟩ | ⟨rfl, rfl⟩ | ⟨rfl, rfl⟩ | ⟨rfl, rfl⟩ | ⟨rfl, rfl⟩ | ⟨rfl, rfl⟩ <;> omega
end Go.Ab

set_option maxRecDepth 100000
namespace Go.Ab
open Go.Proofs
variable {kCa kDb : Bool}
def okP (p : Int) : Bool := decide (-15 ≤ p) && decide (p ≤ 15)
def orP (p : Int) : Bool := !decide (p = 0) && decide (-6 ≤ p) && decide (p ≤ 6)
def badP (p : Int) : Bool := !okP p
def norP (p : Int) : Bool := !decide (p = 0) && !orP p
def posP (p : Int) : Bool := decide (0 < p)
def negP (p : Int) : Bool := decide (p < 0)
def cntR (f r : Int) : Int × Int := bif vsB f r then (IntKind.i64.wrap (f * r), 0) else (0, 2)
def findI (p : Int → Bool) : List Int → Int → Int
 | [], _ => -1
 | x :: l, k => bif p x then k else findI p l (k + 1)
theorem find_ge (p : Int → Bool) : ∀ (l : List Int) (k : Int), 0 ≤ k → decide (0 ≤ findI p l k) = l.any p
 | [], k, _ => rfl
 | x :: l, k, hk => by
  rw [findI, List.any_cons]
  cases p x with
  | true => simp [hk]
  | false => rw [cond_false, Bool.false_or]; exact find_ge p l (k + 1) (by omega)
theorem findI_at {p : Int → Bool} {l : List Int} {i : Nat} {k : Int} (h : i < l.length) : findI p (l.drop i) k = bif p (l.getD i 0) then k else findI p (l.drop (i + 1)) (k + 1) := by
 rw [List.drop_eq_getElem_cons h, findI]; simp [List.getD, h]
def whereS (p : Int → Bool) (zs : List Int) (s i : Int) : Int := bif p (zs.getD i.toNat 0) then uor s (ushl 1 i) else s
def whereR (p : Int → Bool) (zs : List Int) : Int := foldN (whereS p zs) 0 zs.length
def validBd (f r : Int) (zs : List Int) : Bool := decide ((cntR f r).2 = 0) && decide ((zs.length : Int) = (cntR f r).1) && !(zs.any badP)
def orthBd (f r : Int) (zs : List Int) : Bool := validBd f r zs && !(zs.any norP)
def sidesR (f r : Int) (zs : List Int) : Int × Int × Int := bif validBd f r zs then (whereR posP zs, whereR negP zs, 0) else (0, 0, 2)
def occR (f r : Int) (zs : List Int) : Int := uor (sidesR f r zs).1 (sidesR f r zs).2.1
def c_count : CF
 | [.agg [.int .i64 f, .int .i64 r]], [] => some (true, .tup [I (cntR f r).1, I (cntR f r).2], [])
 | _, _ => none
theorem c_count_ok : CtOk (GGx kCa kDb) PP (141, c_count) := by
 refine ct_mk Tryz.func141 (by kernel_rfl) rfl fun a0 h0 c0 v0 N0 e hc => ?_
 unfold c_count at e
 split at e
 ·rename_i f r
  cases e
  have hE := EE_ok (kCa := kCa) (kDb := kDb) (cts := [(99, c_vs)]) (inl := []) ⟨c_vs_ok, trivial⟩ trivial
  refine fn_sound hE 2 Tryz.func141 rfl rfl ?_
  repeat' first | (first | refine sat_self ?_ | refine sat_nd ?_) | refine sat_br (fun h => ?_) (fun h => ?_)
  all_goals exact sat_ret (fin_val (.inr rfl) rfl rfl rfl (by first | rfl | (simp only [cntR, *]; done) | (simp only [cntR, *]; done) | simp_all [cntR]))
 ·cases e
def c_pval : CF
 | [.int .i8 p], [] => some (true, .bool (okP p), [])
 | _, _ => none
theorem c_pval_ok : CtOk (GGx kCa kDb) PP (143, c_pval) := by
 refine ct_mk Tryz.func143 (by kernel_rfl) rfl fun a0 h0 c0 v0 N0 e hc => ?_
 unfold c_pval at e
 split at e
 ·rename_i p
  cases e
  have hE := EE_ok (kCa := kCa) (kDb := kDb) (cts := []) (inl := []) trivial trivial
  refine fn_sound hE 2 Tryz.func143 rfl rfl ?_
  repeat' first | (first | refine sat_self ?_ | refine sat_nd ?_) | refine sat_br (fun h => ?_) (fun h => ?_)
  all_goals exact sat_ret (fin_val (.inr rfl) rfl rfl rfl (by first | rfl | (simp only [*, cond_true, cond_false]; done) | (simp only [*, cond_true, cond_false, Bool.not_true, Bool.not_false, Bool.and_true, Bool.true_and, Bool.and_false, Bool.false_and, Bool.or_true, Bool.true_or, Bool.or_false, Bool.false_or]; done) | simp_all []))
 ·cases e
def c_porth : CF
 | [.int .i8 p], [] => some (true, .bool (orP p), [])
 | _, _ => none
theorem c_porth_ok : CtOk (GGx kCa kDb) PP (120, c_porth) := by
 refine ct_mk Tryz.func120 (by kernel_rfl) rfl fun a0 h0 c0 v0 N0 e hc => ?_
 unfold c_porth at e
 split at e
 ·rename_i p
  cases e
  have hE := EE_ok (kCa := kCa) (kDb := kDb) (cts := []) (inl := []) trivial trivial
  refine fn_sound hE 2 Tryz.func120 rfl rfl ?_
  repeat' first | (first | refine sat_self ?_ | refine sat_nd ?_) | refine sat_br (fun h => ?_) (fun h => ?_)
  all_goals exact sat_ret (fin_val (.inr rfl) rfl rfl rfl (by first | rfl | (simp only [*, cond_true, cond_false]; done) | (simp only [*, cond_true, cond_false, Bool.not_true, Bool.not_false, Bool.and_true, Bool.true_and, Bool.and_false, Bool.false_and, Bool.or_true, Bool.true_or, Bool.or_false, Bool.false_or]; done) | simp_all []))
 ·cases e
def c_bv1 : CF
 | [.int .i8 p], [] => some (true, .bool (badP p), [])
 | _, _ => none
theorem c_bv1_ok : CtOk (GGx kCa kDb) PP (142, c_bv1) := by
 refine ct_mk Tryz.func142 (by kernel_rfl) rfl fun a0 h0 c0 v0 N0 e hc => ?_
 unfold c_bv1 at e
 split at e
 ·rename_i p
  cases e
  have hE := EE_ok (kCa := kCa) (kDb := kDb) (cts := [(143, c_pval)]) (inl := []) ⟨c_pval_ok, trivial⟩ trivial
  refine fn_sound hE 2 Tryz.func142 rfl rfl ?_
  repeat' first | (first | refine sat_self ?_ | refine sat_nd ?_) | refine sat_br (fun h => ?_) (fun h => ?_)
  all_goals exact sat_ret (fin_val (.inr rfl) rfl rfl rfl (by first | rfl | (simp only [*, cond_true, cond_false]; done) | (simp only [*, cond_true, cond_false, Bool.not_true, Bool.not_false, Bool.and_true, Bool.true_and, Bool.and_false, Bool.false_and, Bool.or_true, Bool.true_or, Bool.or_false, Bool.false_or]; done) | simp_all []))
 ·cases e
def c_ao1 : CF
 | [.int .i8 p], [] => some (true, .bool (norP p), [])
 | _, _ => none
theorem c_ao1_ok : CtOk (GGx kCa kDb) PP (119, c_ao1) := by
 refine ct_mk Tryz.func119 (by kernel_rfl) rfl fun a0 h0 c0 v0 N0 e hc => ?_
 unfold c_ao1 at e
 split at e
 ·rename_i p
  cases e
  have hE := EE_ok (kCa := kCa) (kDb := kDb) (cts := [(120, c_porth)]) (inl := []) ⟨c_porth_ok, trivial⟩ trivial
  refine fn_sound hE 2 Tryz.func119 rfl rfl ?_
  repeat' first | (first | refine sat_self ?_ | refine sat_nd ?_) | refine sat_br (fun h => ?_) (fun h => ?_)
  all_goals exact sat_ret (fin_val (.inr rfl) rfl rfl rfl (by first | rfl | (simp only [*, cond_true, cond_false]; done) | (simp only [*, cond_true, cond_false, Bool.not_true, Bool.not_false, Bool.and_true, Bool.true_and, Bool.and_false, Bool.false_and, Bool.or_true, Bool.true_or, Bool.or_false, Bool.false_or]; done) | simp_all []))
 ·cases e
def c_sd1 : CF
 | [.int .i8 p], [] => some (true, .bool (posP p), [])
 | _, _ => none
theorem c_sd1_ok : CtOk (GGx kCa kDb) PP (167, c_sd1) := by
 refine ct_mk Tryz.func167 (by kernel_rfl) rfl fun a0 h0 c0 v0 N0 e hc => ?_
 unfold c_sd1 at e
 split at e
 ·rename_i p
  cases e
  have hE := EE_ok (kCa := kCa) (kDb := kDb) (cts := []) (inl := []) trivial trivial
  refine fn_sound hE 2 Tryz.func167 rfl rfl ?_
  repeat' first | (first | refine sat_self ?_ | refine sat_nd ?_) | refine sat_br (fun h => ?_) (fun h => ?_)
  all_goals exact sat_ret (fin_val (.inr rfl) rfl rfl rfl (by first | rfl | (simp only [*, cond_true, cond_false]; done) | (simp only [*, cond_true, cond_false, Bool.not_true, Bool.not_false, Bool.and_true, Bool.true_and, Bool.and_false, Bool.false_and, Bool.or_true, Bool.true_or, Bool.or_false, Bool.false_or]; done) | simp_all []))
 ·cases e
def c_sd2 : CF
 | [.int .i8 p], [] => some (true, .bool (negP p), [])
 | _, _ => none
theorem c_sd2_ok : CtOk (GGx kCa kDb) PP (168, c_sd2) := by
 refine ct_mk Tryz.func168 (by kernel_rfl) rfl fun a0 h0 c0 v0 N0 e hc => ?_
 unfold c_sd2 at e
 split at e
 ·rename_i p
  cases e
  have hE := EE_ok (kCa := kCa) (kDb := kDb) (cts := []) (inl := []) trivial trivial
  refine fn_sound hE 2 Tryz.func168 rfl rfl ?_
  repeat' first | (first | refine sat_self ?_ | refine sat_nd ?_) | refine sat_br (fun h => ?_) (fun h => ?_)
  all_goals exact sat_ret (fin_val (.inr rfl) rfl rfl rfl (by first | rfl | (simp only [*, cond_true, cond_false]; done) | (simp only [*, cond_true, cond_false, Bool.not_true, Bool.not_false, Bool.and_true, Bool.true_and, Bool.and_false, Bool.false_and, Bool.or_true, Bool.true_or, Bool.or_false, Bool.false_or]; done) | simp_all []))
 ·cases e
def c_idxf : CF
 | [.sl 0 0 len none, .fn 142 []], [.ints false .i8 zs] => some (decide (len = zs.length) && decide (zs.length ≤ 1000000), .int .i64 (findI badP zs 0), [])
 | [.sl 0 0 len none, .fn 119 []], [.ints false .i8 zs] => some (decide (len = zs.length) && decide (zs.length ≤ 1000000), .int .i64 (findI norP zs 0), [])
 | _, _ => none
theorem c_idxf_ok : CtOk (GGx kCa kDb) PP (159, c_idxf) := by
 refine ct_mk Tryz.func159 (by kernel_rfl) rfl fun a0 h0 c0 v0 N0 e hc => ?_
 unfold c_idxf at e
 split at e
 ·rename_i len zs
  cases e
  have hE := EE_ok (kCa := kCa) (kDb := kDb) (cts := [(142, c_bv1), (119, c_ao1)]) (inl := []) ⟨c_bv1_ok, c_ao1_ok, trivial⟩ trivial
  refine fn_sound hE 2 Tryz.func159 rfl rfl ?_
  simp only [Bool.and_eq_true, decide_eq_true_eq] at hc
  obtain ⟨rfl, hc2⟩ := hc
  refine sat_idx hE 2 (fun i (_ : Unit) => ([(0, .sl 0 0 zs.length none), (1, .fn 142 []), (7, I zs.length), (8, I i)], [.ints false .i8 zs])) zs.length (fun j _ => findI badP (zs.drop j) j = findI badP zs 0) () (by omega) (Ent.ren [0] [0, 1, 7, 8] rfl rfl rfl) rfl ?_
  intro j i _ hij hj hz
  refine sat_br (fun hlt => ?_) (fun hlt => ?_)
  ·have hlt' : j < zs.length := by simp at hlt; omega
   rw [findI_at hlt', show j = i.toNat by omega] at hz
   refine sat_need (by simp; omega) ?_
   repeat (first | refine sat_self ?_ | refine sat_nd ?_)
   refine sat_br (fun hon => ?_) (fun hon => ?_)
   ·have hon : badP (zs.getD i.toNat 0) = true := hon
    rw [hon, cond_true] at hz
    refine sat_ret (sat_ret (fin_val (.inr rfl) rfl rfl rfl (by rw [← hz]; exact congrArg (V.int IntKind.i64) (by omega))))
   ·have hon : badP (zs.getD i.toNat 0) = false := hon
    rw [hon, cond_false] at hz
    exact sat_ret ⟨hlt', (), by rw [← hz, show i.toNat = j by omega]; push_cast; rfl, Ent.ren [0] [0, 1, 7, 8] rfl rfl rfl⟩
  ·obtain rfl : j = zs.length := by simp at hlt; omega
   rw [List.drop_length] at hz
   exact sat_ret (sat_ret (fin_val (.inr rfl) rfl rfl rfl (by rw [← hz]; rfl)))
 ·rename_i len zs
  cases e
  have hE := EE_ok (kCa := kCa) (kDb := kDb) (cts := [(142, c_bv1), (119, c_ao1)]) (inl := []) ⟨c_bv1_ok, c_ao1_ok, trivial⟩ trivial
  refine fn_sound hE 2 Tryz.func159 rfl rfl ?_
  simp only [Bool.and_eq_true, decide_eq_true_eq] at hc
  obtain ⟨rfl, hc2⟩ := hc
  refine sat_idx hE 2 (fun i (_ : Unit) => ([(0, .sl 0 0 zs.length none), (1, .fn 119 []), (7, I zs.length), (8, I i)], [.ints false .i8 zs])) zs.length (fun j _ => findI norP (zs.drop j) j = findI norP zs 0) () (by omega) (Ent.ren [0] [0, 1, 7, 8] rfl rfl rfl) rfl ?_
  intro j i _ hij hj hz
  refine sat_br (fun hlt => ?_) (fun hlt => ?_)
  ·have hlt' : j < zs.length := by simp at hlt; omega
   rw [findI_at hlt', show j = i.toNat by omega] at hz
   refine sat_need (by simp; omega) ?_
   repeat (first | refine sat_self ?_ | refine sat_nd ?_)
   refine sat_br (fun hon => ?_) (fun hon => ?_)
   ·have hon : norP (zs.getD i.toNat 0) = true := hon
    rw [hon, cond_true] at hz
    refine sat_ret (sat_ret (fin_val (.inr rfl) rfl rfl rfl (by rw [← hz]; exact congrArg (V.int IntKind.i64) (by omega))))
   ·have hon : norP (zs.getD i.toNat 0) = false := hon
    rw [hon, cond_false] at hz
    exact sat_ret ⟨hlt', (), by rw [← hz, show i.toNat = j by omega]; push_cast; rfl, Ent.ren [0] [0, 1, 7, 8] rfl rfl rfl⟩
  ·obtain rfl : j = zs.length := by simp at hlt; omega
   rw [List.drop_length] at hz
   exact sat_ret (sat_ret (fin_val (.inr rfl) rfl rfl rfl (by rw [← hz]; rfl)))
 ·cases e
def c_consf : CF
 | [.sl 0 0 len none, .fn 142 []], [.ints false .i8 zs] => some (decide (len = zs.length) && decide (zs.length ≤ 1000000), .bool (zs.any badP), [])
 | [.sl 0 0 len none, .fn 119 []], [.ints false .i8 zs] => some (decide (len = zs.length) && decide (zs.length ≤ 1000000), .bool (zs.any norP), [])
 | _, _ => none
theorem c_consf_ok : CtOk (GGx kCa kDb) PP (118, c_consf) := by
 refine ct_mk Tryz.func118 (by kernel_rfl) rfl fun a0 h0 c0 v0 N0 e hc => ?_
 unfold c_consf at e
 split at e
 ·rename_i len zs
  cases e
  have hE := EE_ok (kCa := kCa) (kDb := kDb) (cts := [(159, c_idxf)]) (inl := []) ⟨c_idxf_ok, trivial⟩ trivial
  refine fn_sound hE 2 Tryz.func118 rfl rfl ?_
  simp only [Bool.and_eq_true, decide_eq_true_eq] at hc
  obtain ⟨rfl, hc2⟩ := hc
  refine sat_need (by simp; omega) ?_
  exact sat_ret (fin_val (.inr rfl) rfl rfl rfl (congrArg V.bool (by
   show decide (0 ≤ findI badP (tk zs) 0) = _
   rw [tk_eq]; exact find_ge badP zs 0 (by omega))))
 ·rename_i len zs
  cases e
  have hE := EE_ok (kCa := kCa) (kDb := kDb) (cts := [(159, c_idxf)]) (inl := []) ⟨c_idxf_ok, trivial⟩ trivial
  refine fn_sound hE 2 Tryz.func118 rfl rfl ?_
  simp only [Bool.and_eq_true, decide_eq_true_eq] at hc
  obtain ⟨rfl, hc2⟩ := hc
  refine sat_need (by simp; omega) ?_
  exact sat_ret (fin_val (.inr rfl) rfl rfl rfl (congrArg V.bool (by
   show decide (0 ≤ findI norP (tk zs) 0) = _
   rw [tk_eq]; exact find_ge norP zs 0 (by omega))))
 ·cases e
def c_bvalid : CF
 | [.agg [.int .i64 f, .int .i64 r, .sl 0 0 len none]], [.ints false .i8 zs] => some (decide (len = zs.length) && decide (zs.length ≤ 1000000), .bool (validBd f r zs), [])
 | _, _ => none
theorem c_bvalid_ok : CtOk (GGx kCa kDb) PP (79, c_bvalid) := by
 refine ct_mk Tryz.func79 (by kernel_rfl) rfl fun a0 h0 c0 v0 N0 e hc => ?_
 unfold c_bvalid at e
 split at e
 ·rename_i f r len zs
  cases e
  have hE := EE_ok (kCa := kCa) (kDb := kDb) (cts := [(141, c_count), (118, c_consf)]) (inl := []) ⟨c_count_ok, c_consf_ok, trivial⟩ trivial
  refine fn_sound hE 2 Tryz.func79 rfl rfl ?_
  simp only [Bool.and_eq_true, decide_eq_true_eq] at hc
  obtain ⟨rfl, hc2⟩ := hc
  repeat (first | refine sat_self ?_ | refine sat_nd ?_)
  exact sat_ret (fin_val (.inr rfl) rfl rfl rfl (congrArg V.bool (by
   show (decide ((cntR f r).2 = 0) && decide ((zs.length : Int) = (cntR f r).1) && !((tk zs).any badP)) = _
   rw [tk_eq]; rfl)))
 ·cases e
def c_orth : CF
 | [.agg [.int .i64 f, .int .i64 r, .sl 0 0 len none]], [.ints false .i8 zs] => some (decide (len = zs.length) && decide (zs.length ≤ 1000000), .bool (orthBd f r zs), [])
 | _, _ => none
theorem c_orth_ok : CtOk (GGx kCa kDb) PP (62, c_orth) := by
 refine ct_mk Tryz.func62 (by kernel_rfl) rfl fun a0 h0 c0 v0 N0 e hc => ?_
 unfold c_orth at e
 split at e
 ·rename_i f r len zs
  cases e
  have hE := EE_ok (kCa := kCa) (kDb := kDb) (cts := [(79, c_bvalid), (118, c_consf)]) (inl := []) ⟨c_bvalid_ok, c_consf_ok, trivial⟩ trivial
  refine fn_sound hE 2 Tryz.func62 rfl rfl ?_
  simp only [Bool.and_eq_true, decide_eq_true_eq] at hc
  obtain ⟨rfl, hc2⟩ := hc
  repeat (first | refine sat_self ?_ | refine sat_nd ?_)
  exact sat_ret (fin_val (.inr rfl) rfl rfl rfl (congrArg V.bool (by
   show (validBd f r (tk zs) && !((tk zs).any norP)) = _
   rw [tk_eq]; rfl)))
 ·cases e
def c_where : CF
 | [.agg [.int .i64 _f, .int .i64 _r, .sl 0 0 len none], .fn 167 []], [.ints false .i8 zs] => some (decide (len = zs.length) && decide (zs.length ≤ 1000000), .int .u64 (whereR posP zs), [])
 | [.agg [.int .i64 _f, .int .i64 _r, .sl 0 0 len none], .fn 168 []], [.ints false .i8 zs] => some (decide (len = zs.length) && decide (zs.length ≤ 1000000), .int .u64 (whereR negP zs), [])
 | _, _ => none
theorem c_where_ok : CtOk (GGx kCa kDb) PP (166, c_where) := by
 refine ct_mk Tryz.func166 (by kernel_rfl) rfl fun a0 h0 c0 v0 N0 e hc => ?_
 unfold c_where at e
 split at e
 ·rename_i f r len zs
  cases e
  have hE := EE_ok (kCa := kCa) (kDb := kDb) (cts := [(167, c_sd1), (168, c_sd2)]) (inl := []) ⟨c_sd1_ok, c_sd2_ok, trivial⟩ trivial
  refine fn_sound hE 2 Tryz.func166 rfl rfl ?_
  simp only [Bool.and_eq_true, decide_eq_true_eq] at hc
  obtain ⟨rfl, hc2⟩ := hc
  repeat (first | refine sat_self ?_ | refine sat_nd ?_)
  refine sat_idx hE 2 (fun i (s : Int) => ([(1, .fn 167 []), (2, .ptr 1 0 0), (5, U s), (9, .sl 0 0 zs.length none), (10, I zs.length), (11, I i)], [.ints false .i8 zs, .cells true [I f, I r, .sl 0 0 zs.length none]])) zs.length (fun j s => s = foldN (whereS posP zs) 0 j) 0 (by omega) (Ent.ren [0, 1] [1, 2, 5, 9, 10, 11] rfl rfl rfl) rfl ?_
  intro j i s hij hj hz
  refine sat_br (fun hlt => ?_) (fun hlt => ?_)
  ·have hlt' : j < zs.length := by simp at hlt; omega
   have hs : whereS posP zs s i = foldN (whereS posP zs) 0 (j + 1) := by rw [hz, hij]; rfl
   refine sat_need (by simp; omega) ?_
   repeat (first | refine sat_self ?_ | refine sat_nd ?_)
   refine sat_br (fun hon => ?_) (fun hon => ?_)
   ·have hon : posP (zs.getD i.toNat 0) = true := hon
    rw [whereS, hon, cond_true] at hs
    refine sat_need (by simp; omega) ?_
    exact sat_ret ⟨hlt', _, hs, Ent.ren [0, 1] [1, 2, 5, 9, 10, 11] rfl rfl rfl⟩
   ·have hon : posP (zs.getD i.toNat 0) = false := hon
    rw [whereS, hon, cond_false] at hs
    exact sat_ret ⟨hlt', _, hs, Ent.ren [0, 1] [1, 2, 5, 9, 10, 11] rfl rfl rfl⟩
  ·obtain rfl : j = zs.length := by simp at hlt; omega
   subst hz
   exact sat_ret (sat_ret (fin_val (.inr rfl) rfl rfl rfl rfl))
 ·rename_i f r len zs
  cases e
  have hE := EE_ok (kCa := kCa) (kDb := kDb) (cts := [(167, c_sd1), (168, c_sd2)]) (inl := []) ⟨c_sd1_ok, c_sd2_ok, trivial⟩ trivial
  refine fn_sound hE 2 Tryz.func166 rfl rfl ?_
  simp only [Bool.and_eq_true, decide_eq_true_eq] at hc
  obtain ⟨rfl, hc2⟩ := hc
  repeat (first | refine sat_self ?_ | refine sat_nd ?_)
  refine sat_idx hE 2 (fun i (s : Int) => ([(1, .fn 168 []), (2, .ptr 1 0 0), (5, U s), (9, .sl 0 0 zs.length none), (10, I zs.length), (11, I i)], [.ints false .i8 zs, .cells true [I f, I r, .sl 0 0 zs.length none]])) zs.length (fun j s => s = foldN (whereS negP zs) 0 j) 0 (by omega) (Ent.ren [0, 1] [1, 2, 5, 9, 10, 11] rfl rfl rfl) rfl ?_
  intro j i s hij hj hz
  refine sat_br (fun hlt => ?_) (fun hlt => ?_)
  ·have hlt' : j < zs.length := by simp at hlt; omega
   have hs : whereS negP zs s i = foldN (whereS negP zs) 0 (j + 1) := by rw [hz, hij]; rfl
   refine sat_need (by simp; omega) ?_
   repeat (first | refine sat_self ?_ | refine sat_nd ?_)
   refine sat_br (fun hon => ?_) (fun hon => ?_)
   ·have hon : negP (zs.getD i.toNat 0) = true := hon
    rw [whereS, hon, cond_true] at hs
    refine sat_need (by simp; omega) ?_
    exact sat_ret ⟨hlt', _, hs, Ent.ren [0, 1] [1, 2, 5, 9, 10, 11] rfl rfl rfl⟩
   ·have hon : negP (zs.getD i.toNat 0) = false := hon
    rw [whereS, hon, cond_false] at hs
    exact sat_ret ⟨hlt', _, hs, Ent.ren [0, 1] [1, 2, 5, 9, 10, 11] rfl rfl rfl⟩
  ·obtain rfl : j = zs.length := by simp at hlt; omega
   subst hz
   exact sat_ret (sat_ret (fin_val (.inr rfl) rfl rfl rfl rfl))
 ·cases e
def c_sides : CF
 | [.agg [.int .i64 f, .int .i64 r, .sl 0 0 len none]], [.ints false .i8 zs] => some (decide (len = zs.length) && decide (zs.length ≤ 1000000), .tup [U (sidesR f r zs).1, U (sidesR f r zs).2.1, I (sidesR f r zs).2.2], [])
 | _, _ => none
theorem c_sides_ok : CtOk (GGx kCa kDb) PP (135, c_sides) := by
 refine ct_mk Tryz.func135 (by kernel_rfl) rfl fun a0 h0 c0 v0 N0 e hc => ?_
 unfold c_sides at e
 split at e
 ·rename_i f r len zs
  cases e
  have hE := EE_ok (kCa := kCa) (kDb := kDb) (cts := [(79, c_bvalid), (166, c_where)]) (inl := []) ⟨c_bvalid_ok, c_where_ok, trivial⟩ trivial
  refine fn_sound hE 2 Tryz.func135 rfl rfl ?_
  simp only [Bool.and_eq_true, decide_eq_true_eq] at hc
  obtain ⟨rfl, hc2⟩ := hc
  repeat (first | refine sat_self ?_ | refine sat_nd ?_)
  refine sat_br (fun h => ?_) (fun h => ?_)
  ·have h : validBd f r zs = false := by simpa using h
   exact sat_ret (fin_val (.inr rfl) rfl rfl rfl (by rw [sidesR, h]; rfl))
  ·have h : validBd f r zs = true := by simpa using h
   repeat (first | refine sat_self ?_ | refine sat_nd ?_)
   refine sat_ret (fin_val (.inr rfl) rfl rfl rfl ?_)
   show V.tup [U (whereR posP (tk zs)), U (whereR negP (tk zs)), I 0] = _
   rw [tk_eq, sidesR, h]; rfl
 ·cases e
def c_occ : CF
 | [.agg [.int .i64 f, .int .i64 r, .sl 0 0 len none]], [.ints false .i8 zs] => some (decide (len = zs.length) && decide (zs.length ≤ 1000000), .int .u64 (occR f r zs), [])
 | _, _ => none
theorem c_occ_ok : CtOk (GGx kCa kDb) PP (121, c_occ) := by
 refine ct_mk Tryz.func121 (by kernel_rfl) rfl fun a0 h0 c0 v0 N0 e hc => ?_
 unfold c_occ at e
 split at e
 ·rename_i f r len zs
  cases e
  have hE := EE_ok (kCa := kCa) (kDb := kDb) (cts := [(135, c_sides)]) (inl := []) ⟨c_sides_ok, trivial⟩ trivial
  refine fn_sound hE 2 Tryz.func121 rfl rfl ?_
  simp only [Bool.and_eq_true, decide_eq_true_eq] at hc
  obtain ⟨rfl, hc2⟩ := hc
  repeat (first | refine sat_self ?_ | refine sat_nd ?_)
  refine sat_ret (fin_val (.inr rfl) rfl rfl rfl ?_)
  show V.int IntKind.u64 (occR f r (tk zs)) = _
  rw [tk_eq]
 ·cases e
end Go.Ab

set_option maxRecDepth 100000
namespace Go.Ab
open Go.Proofs
variable {kCa kDb : Bool}
abbrev w8 (n : Int) : Int := IntKind.i8.wrap n
def isP (p : Int) (bl : Bool) : Bool := (decide (p < 0) && bl) || (decide (0 < p) && !bl)
def absP (p : Int) : Int := imax true p (w8 (0 - p))
def ofR (f r : Int) (zs : List Int) (at_ all_ : Int) : Int := bif decide (zs.getD at_.toNat 0 = 1) || decide (zs.getD at_.toNat 0 = -1) then (pawnR f r (decide (zs.getD at_.toNat 0 < 0)) at_).1 else (reachR f r (absP (zs.getD at_.toNat 0)) at_ all_).1
def c_ais : CF
 | [.int .i8 p, .bool bl], [] => some (true, .bool (isP p bl), [])
 | _, _ => none
theorem c_ais_ok : CtOk (GGx kCa kDb) PP (122, c_ais) := by
 refine ct_mk Tryz.func122 (by kernel_rfl) rfl fun a0 h0 c0 v0 N0 e hc => ?_
 unfold c_ais at e
 split at e
 ·rename_i p bl
  cases e
  have hE := EE_ok (kCa := kCa) (kDb := kDb) (cts := []) (inl := []) trivial trivial
  refine fn_sound hE 2 Tryz.func122 rfl rfl ?_
  repeat' first | (first | refine sat_self ?_ | refine sat_nd ?_) | refine sat_br (fun h => ?_) (fun h => ?_)
  all_goals exact sat_ret (fin_val (.inr rfl) rfl rfl rfl (by first | rfl | (simp only [*, cond_true, cond_false]; done) | (simp only [*, cond_true, cond_false, Bool.not_true, Bool.not_false, Bool.and_true, Bool.true_and, Bool.and_false, Bool.false_and, Bool.or_true, Bool.true_or, Bool.or_false, Bool.false_or]; done) | simp_all []))
 ·cases e
def c_of : CF
 | [.agg [.int .i64 f, .int .i64 r, .sl 0 0 len none], .int .i64 at_, .int .u64 all_], [.ints false .i8 zs] => some (decide (len = zs.length) && decide (zs.length ≤ 64) && decide (0 ≤ at_) && decide (at_ < zs.length), .int .u64 (ofR f r zs at_ all_), [])
 | _, _ => none
theorem c_of_ok : CtOk (GGx kCa kDb) PP (123, c_of) := by
 refine ct_mk Tryz.func123 (by kernel_rfl) rfl fun a0 h0 c0 v0 N0 e hc => ?_
 unfold c_of at e
 split at e
 ·rename_i f r len at_ all_ zs
  cases e
  have hE := EE_ok (kCa := kCa) (kDb := kDb) (cts := [(158, c_pawn), (125, c_reach)]) (inl := []) ⟨c_pawn_ok, c_reach_ok, trivial⟩ trivial
  refine fn_sound hE 2 Tryz.func123 rfl rfl ?_
  simp only [Bool.and_eq_true, decide_eq_true_eq] at hc
  obtain ⟨⟨⟨rfl, hc2⟩, ha1⟩, ha2⟩ := hc
  repeat (first | refine sat_self ?_ | refine sat_nd ?_)
  refine sat_br (fun h => ?_) (fun h => ?_)
  ·have h : decide (zs.getD at_.toNat 0 = 1) = true := h
   refine sat_bt h ?_
   repeat (first | refine sat_self ?_ | refine sat_nd ?_)
   exact sat_ret (fin_val (.inr rfl) rfl rfl rfl (by rw [ofR, h]; rfl))
  have h : decide (zs.getD at_.toNat 0 = 1) = false := h
  refine sat_br (fun h2 => ?_) (fun h2 => ?_)
  ·have h2 : decide (zs.getD at_.toNat 0 = -1) = true := h2
   repeat (first | refine sat_self ?_ | refine sat_nd ?_)
   exact sat_ret (fin_val (.inr rfl) rfl rfl rfl (by rw [ofR, h, h2]; rfl))
  have h2 : decide (zs.getD at_.toNat 0 = -1) = false := h2
  repeat (first | refine sat_self ?_ | refine sat_nd ?_)
  exact sat_ret (fin_val (.inr rfl) rfl rfl rfl (by rw [ofR, h, h2]; rfl))
 ·cases e
def attB (f r : Int) (zs : List Int) (at_ : Int) (bl : Bool) (all_ i : Int) : Bool := isP (zs.getD i.toNat 0) bl && decide (uand (ushr (ofR f r zs i all_) at_) 1 = 1)
def attS (f r : Int) (zs : List Int) (at_ : Int) (bl : Bool) (all_ s i : Int) : Int := bif attB f r zs at_ bl all_ i then uor s (ushl 1 i) else s
def attR (f r : Int) (zs : List Int) (at_ : Int) (bl : Bool) : Int := foldN (attS f r zs at_ bl (occR f r zs)) 0 zs.length
def c_attackers : CF
 | [.agg [.int .i64 f, .int .i64 r, .sl 0 0 len none], .int .i64 at_, .bool bl], [.ints false .i8 zs] => some (decide (len = zs.length) && decide (zs.length ≤ 64) && decide (0 ≤ at_), .int .u64 (attR f r zs at_ bl), [])
 | _, _ => none
theorem c_attackers_ok : CtOk (GGx kCa kDb) PP (65, c_attackers) := by
 refine ct_mk Tryz.func65 (by kernel_rfl) rfl fun a0 h0 c0 v0 N0 e hc => ?_
 unfold c_attackers at e
 split at e
 ·rename_i f r len at_ bl zs
  cases e
  have hE := EE_ok (kCa := kCa) (kDb := kDb) (cts := [(121, c_occ), (122, c_ais), (123, c_of)]) (inl := []) ⟨c_occ_ok, c_ais_ok, c_of_ok, trivial⟩ trivial
  refine fn_sound hE 2 Tryz.func65 rfl rfl ?_
  simp only [Bool.and_eq_true, decide_eq_true_eq] at hc
  obtain ⟨⟨rfl, hc2⟩, ha1⟩ := hc
  repeat (first | refine sat_self ?_ | refine sat_nd ?_)
  refine sat_idx hE 2 (fun i (s : Int) => ([(1, I at_), (2, Bb bl), (3, .ptr 1 0 0), (7, U s), (8, U (occR f r (tk zs))), (14, .sl 0 0 zs.length none), (15, I zs.length), (16, I i)], [.ints false .i8 zs, .cells true [I f, I r, .sl 0 0 zs.length none]])) zs.length (fun j s => s = foldN (attS f r zs at_ bl (occR f r zs)) 0 j) 0 (by omega) (Ent.ren [0, 1] [1, 2, 3, 7, 8, 14, 15, 16] rfl rfl rfl) rfl ?_
  intro j i s hij hj hz
  refine sat_br (fun hlt => ?_) (fun hlt => ?_)
  ·have hlt' : j < zs.length := by simp at hlt; omega
   have hs : attS f r zs at_ bl (occR f r zs) s i = foldN (attS f r zs at_ bl (occR f r zs)) 0 (j + 1) := by rw [hz, hij]; rfl
   refine sat_need (by simp; omega) ?_
   repeat (first | (first | refine sat_self ?_ | refine sat_nd ?_) | refine sat_need (by rw [decide_eq_true ha1]; exact Bool.or_true _) ?_ | refine sat_need (by simp; right; omega) ?_)
   refine sat_br (fun hon => ?_) (fun hon => ?_)
   ·have hon : (isP (zs.getD i.toNat 0) bl && decide (uand (ushr (ofR f r (tk zs) i (occR f r (tk zs))) at_) 1 = 1)) = true := hon
    rw [tk_eq] at hon
    have hon : attB f r zs at_ bl (occR f r zs) i = true := hon
    rw [attS, hon, cond_true] at hs
    refine sat_need (by simp; omega) ?_
    exact sat_ret ⟨hlt', _, hs, Ent.ren [0, 1] [1, 2, 3, 7, 8, 14, 15, 16] rfl rfl rfl⟩
   ·have hon : (isP (zs.getD i.toNat 0) bl && decide (uand (ushr (ofR f r (tk zs) i (occR f r (tk zs))) at_) 1 = 1)) = false := hon
    rw [tk_eq] at hon
    have hon : attB f r zs at_ bl (occR f r zs) i = false := hon
    rw [attS, hon, cond_false] at hs
    exact sat_ret ⟨hlt', _, hs, Ent.ren [0, 1] [1, 2, 3, 7, 8, 14, 15, 16] rfl rfl rfl⟩
  ·obtain rfl : j = zs.length := by simp at hlt; omega
   subst hz
   exact sat_ret (sat_ret (fin_val (.inr rfl) rfl rfl rfl rfl))
 ·cases e
end Go.Ab

set_option maxRecDepth 100000
namespace Go.Ab
open Go.Proofs
variable {kCa kDb : Bool}
theorem orth_valid {f r : Int} {zs : List Int} (h : orthBd f r zs = true) : vsB f r = true ∧ (zs.length : Int) = f * r ∧ validBd f r zs = true ∧ (∀ p ∈ zs, -6 ≤ p ∧ p ≤ 6) := by
 simp only [orthBd, Bool.and_eq_true, Bool.not_eq_true', List.any_eq_false] at h
 obtain ⟨h1, h2⟩ := h
 have h1' := h1
 simp only [validBd, Bool.and_eq_true, decide_eq_true_eq] at h1
 obtain ⟨⟨h3, h4⟩, _⟩ := h1
 have hv : vsB f r = true := by
  cases hv : vsB f r with
  | true => rfl
  | false => rw [cntR, hv] at h3; simp at h3
 rw [cntR, hv, cond_true] at h4
 refine ⟨hv, by rw [h4]; exact w64_mul hv, h1', fun p hp => ?_⟩
 have := h2 p hp
 simp only [norP, orP, Bool.and_eq_true, Bool.not_eq_true', decide_eq_false_iff_not, Bool.and_eq_false_iff, not_and] at this
 by_cases e : p = 0
 ·omega
 ·have := this e
  simp [e] at this
  omega
theorem sq_iff {f r n : Int} {zs : List Int} (h : orthBd f r zs = true) : validB f r n = true ↔ 0 ≤ n ∧ n < zs.length := by
 obtain ⟨h1, h2, _⟩ := orth_valid h
 rw [h2]
 exact ⟨fun h => ⟨(valid_lt h).1, (valid_lt h).2.1⟩, fun h => valid_mk h1 h.1 h.2⟩
def isV (v p : Int) : Bool := decide (v = p)
theorem need_king {K : Int} {n : Nat} (h1 : -1 ≤ K) (h2 : K < n) (hn : n ≤ 64) : (!!decide (K < 0) || (decide (0 ≤ IntKind.i64.wrap (K + 1)) && decide (IntKind.i64.wrap (K + 1) ≤ n) && decide ((n : Int) ≤ n))) = true := by
 rw [w64_id (by omega) (by omega)]
 simp
 omega
theorem need_tail {g : Bool} {zs : List Int} {a m : Nat} (h : m = zs.length) (hn : zs.length ≤ 64) : (!g || (decide (m - a = ((zs.drop a).take (m - a)).length) && decide (((zs.drop a).take (m - a)).length ≤ 1000000))) = true := by
 subst h
 rw [List.take_of_length_le (by simp), List.length_drop]
 have : zs.length - a ≤ 1000000 := by omega
 simp [this]
theorem king_cond {zs : List Int} {v : Int} {b : Bool} (h : (decide (findI (isV v) (tk zs) 0 < 0) || ((zs.drop (IntKind.i64.wrap (findI (isV v) (tk zs) 0 + 1)).toNat).take ((zs.length : Int).toNat - (IntKind.i64.wrap (findI (isV v) (tk zs) 0 + 1)).toNat)).any (isV v)) = b) : (decide (findI (isV v) zs 0 < 0) || (zs.drop (IntKind.i64.wrap (findI (isV v) zs 0 + 1)).toNat).any (isV v)) = b := by
 rw [tk_eq] at h
 rwa [List.take_of_length_le (by simp)] at h
def attackersR (f r : Int) (zs : List Int) (at_ : Int) (bl : Bool) : Int × Int := bif orthBd f r zs && validB f r at_ then (attR f r zs at_ bl, 0) else (0, 2)
def kgP (bl : Bool) : Int := bif bl then -6 else 6
def kingI (zs : List Int) (bl : Bool) : Int := findI (isV (kgP bl)) zs 0
def kingN (zs : List Int) (bl : Bool) : Bool := decide (kingI zs bl < 0) || (zs.drop (IntKind.i64.wrap (kingI zs bl + 1)).toNat).any (isV (kgP bl))
def kingR (f r : Int) (zs : List Int) (bl : Bool) : Int × Int := bif orthBd f r zs then (bif kingN zs bl then (0, 9) else (kingI zs bl, 0)) else (0, 2)
def checkersR (f r : Int) (zs : List Int) (bl : Bool) : Int × Int := bif decide ((kingR f r zs bl).2 = 0) then (attR f r zs (kingR f r zs bl).1 (!bl), 0) else (0, (kingR f r zs bl).2)
theorem findI_bd (p : Int → Bool) : ∀ (l : List Int) (k : Int), 0 ≤ k → -1 ≤ findI p l k ∧ findI p l k < k + l.length
 | [], k, _ => by simp [findI]; omega
 | x :: l, k, h => by
  have := findI_bd p l (k + 1) (by omega)
  rw [findI]
  cases p x <;> simp <;> omega
theorem king_bd {f r : Int} {zs : List Int} {bl : Bool} (h : (kingR f r zs bl).2 = 0) : orthBd f r zs = true ∧ kingN zs bl = false ∧ (kingR f r zs bl).1 = kingI zs bl ∧ 0 ≤ kingI zs bl ∧ kingI zs bl < zs.length := by
 unfold kingR at h ⊢
 cases ho : orthBd f r zs with
 | false => rw [ho] at h; simp at h
 | true =>
  cases hn : kingN zs bl with
  | true => rw [ho, hn] at h; simp at h
  | false =>
   have hb := findI_bd (isV (kgP bl)) zs 0 (by omega)
   simp only [kingN, Bool.or_eq_false_iff, decide_eq_false_iff_not] at hn
   refine ⟨rfl, rfl, rfl, by omega, ?_⟩
   unfold kingI; omega
def c_Attackers : CF
 | [.agg [.int .i64 f, .int .i64 r, .sl 0 0 len none], .int .i64 at_, .bool bl], [.ints false .i8 zs] => some (decide (len = zs.length) && decide (zs.length ≤ 64), .tup [U (attackersR f r zs at_ bl).1, I (attackersR f r zs at_ bl).2], [])
 | _, _ => none
theorem c_Attackers_ok : CtOk (GGx kCa kDb) PP (113, c_Attackers) := by
 refine ct_mk Tryz.func113 (by kernel_rfl) rfl fun a0 h0 c0 v0 N0 e hc => ?_
 unfold c_Attackers at e
 split at e
 ·rename_i f r len at_ bl zs
  cases e
  have hE := EE_ok (kCa := kCa) (kDb := kDb) (cts := [(62, c_orth), (71, c_valid), (65, c_attackers)]) (inl := []) ⟨c_orth_ok, c_valid_ok, c_attackers_ok, trivial⟩ trivial
  refine fn_sound hE 2 Tryz.func113 rfl rfl ?_
  simp only [Bool.and_eq_true, decide_eq_true_eq] at hc
  obtain ⟨rfl, hc2⟩ := hc
  repeat (first | refine sat_self ?_ | refine sat_nd ?_)
  refine sat_br (fun h => ?_) (fun h => ?_)
  ·have h : (orthBd f r zs && validB f r at_) = false := by
    have h : (!orthBd f r (tk zs) || !validB f r at_) = true := h
    rw [tk_eq] at h
    cases h1 : orthBd f r zs <;> cases h2 : validB f r at_ <;> simp_all
   exact sat_ret (fin_val (.inr rfl) rfl rfl rfl (by rw [attackersR, h]; rfl))
  ·have h : (orthBd f r zs && validB f r at_) = true := by
    have h : (!orthBd f r (tk zs) || !validB f r at_) = false := h
    rw [tk_eq] at h
    cases h1 : orthBd f r zs <;> cases h2 : validB f r at_ <;> simp_all
   have h0 := (valid_lt (Bool.and_eq_true_iff.1 h).2).1
   refine sat_need (by simp; omega) ?_
   exact sat_ret (fin_val (.inr rfl) rfl rfl rfl (by
    show V.tup [U (attR f r (tk zs) at_ bl), I 0] = _
    rw [tk_eq, attackersR, h]; rfl))
 ·cases e
def c_index : CF
 | [.sl 0 0 len none, .int .i8 v], [.ints false .i8 zs] => some (decide (len = zs.length) && decide (zs.length ≤ 1000000), .int .i64 (findI (isV v) zs 0), [])
 | _, _ => none
theorem c_index_ok : CtOk (GGx kCa kDb) PP (63, c_index) := by
 refine ct_mk Tryz.func63 (by kernel_rfl) rfl fun a0 h0 c0 v0 N0 e hc => ?_
 unfold c_index at e
 split at e
 ·rename_i len v zs
  cases e
  have hE := EE_ok (kCa := kCa) (kDb := kDb) (cts := []) (inl := []) trivial trivial
  refine fn_sound hE 2 Tryz.func63 rfl rfl ?_
  simp only [Bool.and_eq_true, decide_eq_true_eq] at hc
  obtain ⟨rfl, hc2⟩ := hc
  refine sat_idx hE 2 (fun i (_ : Unit) => ([(0, .sl 0 0 zs.length none), (1, .int .i8 v), (7, I zs.length), (8, I i)], [.ints false .i8 zs])) zs.length (fun j _ => findI (isV v) (zs.drop j) j = findI (isV v) zs 0) () (by omega) (Ent.ren [0] [0, 1, 7, 8] rfl rfl rfl) rfl ?_
  intro j i _ hij hj hz
  refine sat_br (fun hlt => ?_) (fun hlt => ?_)
  ·have hlt' : j < zs.length := by simp at hlt; omega
   rw [findI_at hlt', show j = i.toNat by omega] at hz
   refine sat_need (by simp; omega) ?_
   repeat (first | refine sat_self ?_ | refine sat_nd ?_)
   refine sat_br (fun hon => ?_) (fun hon => ?_)
   ·have hon : isV v (zs.getD i.toNat 0) = true := hon
    rw [hon, cond_true] at hz
    refine sat_ret (sat_ret (fin_val (.inr rfl) rfl rfl rfl (by rw [← hz]; exact congrArg (V.int IntKind.i64) (by omega))))
   ·have hon : isV v (zs.getD i.toNat 0) = false := hon
    rw [hon, cond_false] at hz
    exact sat_ret ⟨hlt', (), by rw [← hz, show i.toNat = j by omega]; push_cast; rfl, Ent.ren [0] [0, 1, 7, 8] rfl rfl rfl⟩
  ·obtain rfl : j = zs.length := by simp at hlt; omega
   rw [List.drop_length] at hz
   exact sat_ret (sat_ret (fin_val (.inr rfl) rfl rfl rfl (by rw [← hz]; rfl)))
 ·cases e
def c_contains : CF
 | [.sl 0 0 len none, .int .i8 v], [.ints false .i8 zs] => some (decide (len = zs.length) && decide (zs.length ≤ 1000000), .bool (zs.any (isV v)), [])
 | _, _ => none
theorem c_contains_ok : CtOk (GGx kCa kDb) PP (64, c_contains) := by
 refine ct_mk Tryz.func64 (by kernel_rfl) rfl fun a0 h0 c0 v0 N0 e hc => ?_
 unfold c_contains at e
 split at e
 ·rename_i len v zs
  cases e
  have hE := EE_ok (kCa := kCa) (kDb := kDb) (cts := [(63, c_index)]) (inl := []) ⟨c_index_ok, trivial⟩ trivial
  refine fn_sound hE 2 Tryz.func64 rfl rfl ?_
  simp only [Bool.and_eq_true, decide_eq_true_eq] at hc
  obtain ⟨rfl, hc2⟩ := hc
  refine sat_need (by simp; omega) ?_
  exact sat_ret (fin_val (.inr rfl) rfl rfl rfl (congrArg V.bool (by
   show decide (0 ≤ findI (isV v) (tk zs) 0) = _
   rw [tk_eq]; exact find_ge (isV v) zs 0 (by omega))))
 ·cases e
def c_King : CF
 | [.agg [.int .i64 f, .int .i64 r, .sl 0 0 len none], .bool bl], [.ints false .i8 zs] => some (decide (len = zs.length) && decide (zs.length ≤ 64), .tup [I (kingR f r zs bl).1, I (kingR f r zs bl).2], [])
 | _, _ => none
theorem c_King_ok : CtOk (GGx kCa kDb) PP (28, c_King) := by
 refine ct_mk Tryz.func28 (by kernel_rfl) rfl fun a0 h0 c0 v0 N0 e hc => ?_
 unfold c_King at e
 split at e
 ·rename_i f r len bl zs
  cases e
  have hE := EE_ok (kCa := kCa) (kDb := kDb) (cts := [(62, c_orth), (63, c_index), (64, c_contains)]) (inl := []) ⟨c_orth_ok, c_index_ok, c_contains_ok, trivial⟩ trivial
  refine fn_sound hE 2 Tryz.func28 rfl rfl ?_
  simp only [Bool.and_eq_true, decide_eq_true_eq] at hc
  obtain ⟨rfl, hc2⟩ := hc
  repeat (first | refine sat_self ?_ | refine sat_nd ?_)
  refine sat_br (fun h => ?_) (fun h => ?_)
  ·have h : orthBd f r zs = false := by simpa using h
   exact sat_ret (fin_val (.inr rfl) rfl rfl rfl (by rw [kingR, h]; rfl))
  have h : orthBd f r zs = true := by simpa using h
  refine sat_br (fun hb => ?_) (fun hb => ?_)
  ·subst hb
   have hbd := findI_bd (isV (kgP true)) zs 0 (by omega)
   repeat (first | refine sat_self ?_ | refine sat_nd ?_)
   refine sat_need (by
    refine need_king (K := findI (isV (kgP true)) (tk zs) 0) ?_ ?_ hc2
    ·rw [tk_eq]; exact hbd.1
    ·rw [tk_eq]; have := hbd.2; omega) ?_
   repeat (first | (first | refine sat_self ?_ | refine sat_nd ?_) | refine sat_need (need_tail rfl hc2) ?_)
   refine sat_br (fun hk => ?_) (fun hk => ?_)
   ·have hk := king_cond (zs := zs) (v := kgP true) hk
    exact sat_ret (fin_val (.inr rfl) rfl rfl rfl (by rw [kingR, h, show kingN zs true = true from hk]; rfl))
   ·have hk := king_cond (zs := zs) (v := kgP true) hk
    exact sat_ret (fin_val (.inr rfl) rfl rfl rfl (by
     show V.tup [I (findI (isV (kgP true)) (tk zs) 0), I 0] = _
     rw [tk_eq, kingR, h, show kingN zs true = false from hk]; rfl))
  ·subst hb
   have hbd := findI_bd (isV (kgP false)) zs 0 (by omega)
   repeat (first | refine sat_self ?_ | refine sat_nd ?_)
   refine sat_need (by
    refine need_king (K := findI (isV (kgP false)) (tk zs) 0) ?_ ?_ hc2
    ·rw [tk_eq]; exact hbd.1
    ·rw [tk_eq]; have := hbd.2; omega) ?_
   repeat (first | (first | refine sat_self ?_ | refine sat_nd ?_) | refine sat_need (need_tail rfl hc2) ?_)
   refine sat_br (fun hk => ?_) (fun hk => ?_)
   ·have hk := king_cond (zs := zs) (v := kgP false) hk
    exact sat_ret (fin_val (.inr rfl) rfl rfl rfl (by rw [kingR, h, show kingN zs false = true from hk]; rfl))
   ·have hk := king_cond (zs := zs) (v := kgP false) hk
    exact sat_ret (fin_val (.inr rfl) rfl rfl rfl (by
     show V.tup [I (findI (isV (kgP false)) (tk zs) 0), I 0] = _
     rw [tk_eq, kingR, h, show kingN zs false = false from hk]; rfl))
 ·cases e
def c_Checkers : CF
 | [.agg [.int .i64 f, .int .i64 r, .sl 0 0 len none], .bool bl], [.ints false .i8 zs] => some (decide (len = zs.length) && decide (zs.length ≤ 64), .tup [U (checkersR f r zs bl).1, I (checkersR f r zs bl).2], [])
 | _, _ => none
theorem c_Checkers_ok : CtOk (GGx kCa kDb) PP (29, c_Checkers) := by
 refine ct_mk Tryz.func29 (by kernel_rfl) rfl fun a0 h0 c0 v0 N0 e hc => ?_
 unfold c_Checkers at e
 split at e
 ·rename_i f r len bl zs
  cases e
  have hE := EE_ok (kCa := kCa) (kDb := kDb) (cts := [(28, c_King), (65, c_attackers)]) (inl := []) ⟨c_King_ok, c_attackers_ok, trivial⟩ trivial
  refine fn_sound hE 2 Tryz.func29 rfl rfl ?_
  simp only [Bool.and_eq_true, decide_eq_true_eq] at hc
  obtain ⟨rfl, hc2⟩ := hc
  repeat (first | refine sat_self ?_ | refine sat_nd ?_)
  refine sat_br (fun h => ?_) (fun h => ?_)
  ·have h : decide ((kingR f r zs bl).2 = 0) = false := by simpa using h
   exact sat_ret (fin_val (.inr rfl) rfl rfl rfl (by
    show V.tup [U 0, I (kingR f r (tk zs) bl).2] = _
    rw [tk_eq, checkersR, h]; rfl))
  have h : decide ((kingR f r zs bl).2 = 0) = true := by simpa using h
  obtain ⟨_, _, k3, k4, k5⟩ := king_bd (of_decide_eq_true h)
  refine sat_need (by
   have e : (kingR f r (tk zs) bl).1 = kingI zs bl := by rw [tk_eq, k3]
   rw [e]; simp; omega) ?_
  exact sat_ret (fin_val (.inr rfl) rfl rfl rfl (by
   show V.tup [U (attR f r (tk zs) (kingR f r (tk zs) bl).1 (!bl)), I 0] = _
   rw [tk_eq, checkersR, h]; rfl))
 ·cases e
end Go.Ab

set_option maxRecDepth 100000
set_option maxHeartbeats 4000000
namespace Go.Ab
open Go.Proofs
variable {kCa kDb : Bool}
structure Psn where
 f : Int
 r : Int
 zs : List Int
 bl : Bool
 ca : Int
 pa : Int
 ha : Int
 fu : Int
structure Mov where
 a : Int
 b : Int
 p : Int
structure Und where
 m : Mov
 c : Int
 at_ : Int
 ca : Int
 pa : Int
 ha : Int
 fu : Int
abbrev u8and (a b : Int) : Int := band .and .u8 a b
def ofP (k : Int) (b : Bool) : Int := bif b then w8 (0 - k) else k
def mvB (f r a b p : Int) : Bool := validB f r a && validB f r b && !decide (a = b) && (decide (p = 0) || (decide (2 ≤ p) && decide (p ≤ 5)))
def is88 (f r : Int) : Bool := decide (f = 8) && decide (r = 8)
def rtX (f r : Int) (zs : List Int) (ca bit : Int) (k q : Nat) (b : Bool) : Bool := !decide (u8and ca bit = 0) && ((!is88 f r || !decide (zs.getD k 0 = ofP 6 b)) || !decide (zs.getD q 0 = ofP 4 b))
def castB (f r : Int) (zs : List Int) (ca : Int) : Bool := !rtX f r zs ca 1 4 7 false && !rtX f r zs ca 2 4 0 false && !rtX f r zs ca 4 60 63 true && !rtX f r zs ca 8 60 56 true && decide (ca < 16)
def upP (f : Int) (bl : Bool) : Int := bif bl then f else IntKind.i64.wrap (0 - f)
def rkP (r : Int) (bl : Bool) : Int := bif bl then 2 else IntKind.i64.wrap (r - 3)
def passB (f r : Int) (zs : List Int) (bl : Bool) (pa ha : Int) : Bool := decide (pa = -1) ||
 (decide (6 ≤ r) && decide (ha = 0) && validB f r pa && decide (IntKind.i64.wrap (pa.tdiv f) = rkP r bl) && decide (zs.getD pa.toNat 0 = 0) && decide (zs.getD (IntKind.i64.wrap (pa - upP f bl)).toNat 0 = 0) && decide (zs.getD (IntKind.i64.wrap (pa + upP f bl)).toNat 0 = ofP 1 (!bl)))
def pawnsB (f : Int) (zs : List Int) : Bool := !(zs.drop (zs.length - f.toNat)).any (isV 1) && !(zs.take f.toNat).any (isV (-1))
def kingsB (f r : Int) (zs : List Int) (bl : Bool) : Bool := decide ((kingR f r zs bl).2 = 0) && decide ((checkersR f r zs (!bl)).2 = 0) && decide ((checkersR f r zs (!bl)).1 = 0)
def cntB (ha fu : Int) : Bool := decide (0 ≤ ha) && decide (ha ≤ 10000) && decide (1 ≤ fu) && decide (fu ≤ 10000)
def Psn.ok (p : Psn) : Bool := validBd p.f p.r p.zs && kingsB p.f p.r p.zs p.bl && pawnsB p.f p.zs && castB p.f p.r p.zs p.ca && passB p.f p.r p.zs p.bl p.pa p.ha && cntB p.ha p.fu
theorem bd_valid {f r : Int} {zs : List Int} (h : validBd f r zs = true) : vsB f r = true ∧ (zs.length : Int) = f * r := by
 simp only [validBd, Bool.and_eq_true, decide_eq_true_eq] at h
 obtain ⟨⟨h1, h2⟩, _⟩ := h
 unfold cntR at h1 h2
 cases hv : vsB f r with
 | false => rw [hv] at h1; simp at h1
 | true => rw [hv] at h2; exact ⟨rfl, by rw [cond_true] at h2; rw [h2]; exact w64_mul hv⟩
theorem bd_sq {f r n : Int} {zs : List Int} (h : validBd f r zs = true) : validB f r n = true ↔ 0 ≤ n ∧ n < zs.length := by
 obtain ⟨h1, h2⟩ := bd_valid h
 rw [h2]
 exact ⟨fun h => ⟨(valid_lt h).1, (valid_lt h).2.1⟩, fun h => valid_mk h1 h.1 h.2⟩
theorem bd_88 {f r : Int} {zs : List Int} (h : validBd f r zs = true) (h8 : is88 f r = true) : zs.length = 64 := by
 have := (bd_valid h).2
 simp only [is88, Bool.and_eq_true, decide_eq_true_eq] at h8
 obtain ⟨rfl, rfl⟩ := h8
 omega
def c_pof : CF
 | [.int .i8 k, .bool b], [] => some (true, .int .i8 (ofP k b), [])
 | _, _ => none
theorem c_pof_ok : CtOk (GGx kCa kDb) PP (145, c_pof) := by
 refine ct_mk Tryz.func145 (by kernel_rfl) rfl fun a0 h0 c0 v0 N0 e hc => ?_
 unfold c_pof at e
 split at e
 ·rename_i k b
  cases e
  have hE := EE_ok (kCa := kCa) (kDb := kDb) (cts := []) (inl := []) trivial trivial
  refine fn_sound hE 2 Tryz.func145 rfl rfl ?_
  repeat' first | (first | refine sat_self ?_ | refine sat_nd ?_) | refine sat_br (fun h => ?_) (fun h => ?_)
  all_goals exact sat_ret (fin_val (.inr rfl) rfl rfl rfl (by first | rfl | (simp only [ofP, *, cond_true, cond_false]; done) | (simp only [ofP, *, cond_true, cond_false, Bool.not_true, Bool.not_false, Bool.and_true, Bool.true_and, Bool.and_false, Bool.false_and, Bool.or_true, Bool.true_or, Bool.or_false, Bool.false_or]; done) | simp_all [ofP]))
 ·cases e
theorem run_rights : runFn { (EE kCa kDb [] []) with pf := pfRun (EE kCa kDb [] []) [] 1000 4, cc := true } 3 1000 Tryz.f144 [] [] = some (.agg [.int .u8 1, .str [75], .lit false, I 4, I 7, .int .u8 2, .str [81], .lit false, I 4, I 0, .int .u8 4, .str [107], .lit true, I 60, I 63, .int .u8 8, .str [113], .lit true, I 60, I 56], []) := by kernel_rfl
def c_rights : CF
 | [], [] => some (true, .agg [.int .u8 1, .str [75], .lit false, I 4, I 7, .int .u8 2, .str [81], .lit false, I 4, I 0, .int .u8 4, .str [107], .lit true, I 60, I 63, .int .u8 8, .str [113], .lit true, I 60, I 56], [])
 | _, _ => none
theorem c_rights_ok : CtOk (GGx kCa kDb) PP (144, c_rights) := by
 refine ct_mk Tryz.func144 (by kernel_rfl) rfl fun a0 h0 c0 v0 N0 e hc => ?_
 unfold c_rights at e
 split at e
 ·cases e
  exact FnSound.like (run_ct (EE_ok (kCa := kCa) (kDb := kDb) (cts := []) (inl := []) trivial trivial) (xs := []) trivial 1000 4 Tryz.func144 run_rights) (fun _ _ h => h)
 ·cases e
def c_mvalid : CF
 | [.agg [.int .i64 f, .int .i64 r], .agg [.int .i64 a, .int .i64 b, .int .i8 pr]], [] => some (true, .bool (mvB f r a b pr), [])
 | _, _ => none
theorem c_mvalid_ok : CtOk (GGx kCa kDb) PP (56, c_mvalid) := by
 refine ct_mk Tryz.func56 (by kernel_rfl) rfl fun a0 h0 c0 v0 N0 e hc => ?_
 unfold c_mvalid at e
 split at e
 ·rename_i f r a b pr
  cases e
  have hE := EE_ok (kCa := kCa) (kDb := kDb) (cts := [(71, c_valid)]) (inl := []) ⟨c_valid_ok, trivial⟩ trivial
  refine fn_sound hE 2 Tryz.func56 rfl rfl ?_
  repeat (first | refine sat_self ?_ | refine sat_nd ?_)
  exact sat_ret (fin_val (.inr rfl) rfl rfl rfl rfl)
 ·cases e
def c_kind : CF
 | [.int .i8 p], [] => some (true, .int .i8 (absP p), [])
 | _, _ => none
theorem c_kind_ok : CtOk (GGx kCa kDb) PP (111, c_kind) := by
 refine ct_mk Tryz.func111 (by kernel_rfl) rfl fun a0 h0 c0 v0 N0 e hc => ?_
 unfold c_kind at e
 split at e
 ·rename_i p
  cases e
  have hE := EE_ok (kCa := kCa) (kDb := kDb) (cts := []) (inl := []) trivial trivial
  refine fn_sound hE 2 Tryz.func111 rfl rfl ?_
  exact sat_ret (fin_val (.inr rfl) rfl rfl rfl rfl)
 ·cases e
def c_is : CF
 | [.int .i8 p, .bool b], [] => some (true, .bool (isP p b), [])
 | _, _ => none
theorem c_is_ok : CtOk (GGx kCa kDb) PP (108, c_is) := by
 refine ct_mk Tryz.func108 (by kernel_rfl) rfl fun a0 h0 c0 v0 N0 e hc => ?_
 unfold c_is at e
 split at e
 ·rename_i p b
  cases e
  have hE := EE_ok (kCa := kCa) (kDb := kDb) (cts := []) (inl := []) trivial trivial
  refine fn_sound hE 2 Tryz.func108 rfl rfl ?_
  repeat (first | refine sat_self ?_ | refine sat_nd ?_)
  exact sat_ret (fin_val (.inr rfl) rfl rfl rfl rfl)
 ·cases e
theorem need88 {f r : Int} {zs : List Int} {g : Bool} {k : Int} (h : validBd f r zs = true) (h0 : 0 ≤ k) (h1 : k < 64) : (!(g && !!is88 f r) || (decide (0 ≤ k) && decide (k < zs.length))) = true := by
 cases h8 : is88 f r with
 | false => simp
 | true => have := bd_88 h h8; simp; omega
theorem need88b {f r : Int} {zs : List Int} {g x : Bool} {k : Int} (h : validBd f r zs = true) (h0 : 0 ≤ k) (h1 : k < 64) : (!(g && !(!is88 f r || x)) || (decide (0 ≤ k) && decide (k < zs.length))) = true := by
 cases h8 : is88 f r with
 | false => simp
 | true => have := bd_88 h h8; simp; omega
def c_pcastles : CF
 | [.agg [.int .i64 f, .int .i64 r, .sl 0 0 len none, .bool _bl, .int .u8 ca, .int .i64 _pa, .int .i64 _ha, .int .i64 _fu]], [.ints false .i8 zs] => some (decide (len = zs.length) && decide (zs.length ≤ 64) && validBd f r zs, .bool (castB f r zs ca), [])
 | _, _ => none
theorem c_pcastles_ok : CtOk (GGx kCa kDb) PP (85, c_pcastles) := by
 refine ct_mk Tryz.func85 (by kernel_rfl) rfl fun a0 h0 c0 v0 N0 e hc => ?_
 unfold c_pcastles at e
 split at e
 ·rename_i f r len bl ca pa ha fu zs
  cases e
  have hE := EE_ok (kCa := kCa) (kDb := kDb) (cts := [(144, c_rights), (145, c_pof)]) (inl := []) ⟨c_rights_ok, c_pof_ok, trivial⟩ trivial
  refine fn_sound hE 2 Tryz.func85 rfl rfl ?_
  simp only [Bool.and_eq_true, decide_eq_true_eq] at hc
  obtain ⟨⟨rfl, hc2⟩, hbd⟩ := hc
  repeat (first | refine sat_self ?_ | refine sat_nd ?_)
  refine sat_rounds hE 2 5 ?_
  refine rnd ?_
  refine sat_bt (by rfl) ?_
  repeat (first | (first | refine sat_self ?_ | refine sat_nd ?_) | refine sat_need (need88 hbd (by omega) (by omega)) ?_ | refine sat_need (need88b hbd (by omega) (by omega)) ?_)
  refine sat_br (fun h0 => ?_) (fun h0 => ?_)
  ·have h0 : rtX f r zs ca 1 4 7 false = true := h0
   exact sat_ret (sat_ret (fin_val (.inr rfl) rfl rfl rfl (by simp [castB, h0])))
  have h0 : rtX f r zs ca 1 4 7 false = false := h0
  refine sat_ret ⟨[(1, .ptr 1 0 0), (5, .agg [.int .u8 1, .str [75], .lit false, I 4, I 7, .int .u8 2, .str [81], .lit false, I 4, I 0, .int .u8 4, .str [107], .lit true, I 60, I 63, .int .u8 8, .str [113], .lit true, I 60, I 56]), (6, I 1)], [.ints false .i8 zs, .cells true [I f, I r, .sl 0 0 zs.length none, Bb bl, .int .u8 ca, I pa, I ha, I fu]], Ent.ren [0, 1] [1, 5, 6] rfl rfl rfl, ?_⟩
  refine rnd ?_
  refine sat_bt (by rfl) ?_
  repeat (first | (first | refine sat_self ?_ | refine sat_nd ?_) | refine sat_need (need88 hbd (by omega) (by omega)) ?_ | refine sat_need (need88b hbd (by omega) (by omega)) ?_)
  refine sat_br (fun h1 => ?_) (fun h1 => ?_)
  ·have h1 : rtX f r zs ca 2 4 0 false = true := h1
   exact sat_ret (sat_ret (fin_val (.inr rfl) rfl rfl rfl (by simp [castB, h1])))
  have h1 : rtX f r zs ca 2 4 0 false = false := h1
  refine sat_ret ⟨[(1, .ptr 1 0 0), (5, .agg [.int .u8 1, .str [75], .lit false, I 4, I 7, .int .u8 2, .str [81], .lit false, I 4, I 0, .int .u8 4, .str [107], .lit true, I 60, I 63, .int .u8 8, .str [113], .lit true, I 60, I 56]), (6, I 2)], [.ints false .i8 zs, .cells true [I f, I r, .sl 0 0 zs.length none, Bb bl, .int .u8 ca, I pa, I ha, I fu]], Ent.ren [0, 1] [1, 5, 6] rfl rfl rfl, ?_⟩
  refine rnd ?_
  refine sat_bt (by rfl) ?_
  repeat (first | (first | refine sat_self ?_ | refine sat_nd ?_) | refine sat_need (need88 hbd (by omega) (by omega)) ?_ | refine sat_need (need88b hbd (by omega) (by omega)) ?_)
  refine sat_br (fun h2 => ?_) (fun h2 => ?_)
  ·have h2 : rtX f r zs ca 4 60 63 true = true := h2
   exact sat_ret (sat_ret (fin_val (.inr rfl) rfl rfl rfl (by simp [castB, h2])))
  have h2 : rtX f r zs ca 4 60 63 true = false := h2
  refine sat_ret ⟨[(1, .ptr 1 0 0), (5, .agg [.int .u8 1, .str [75], .lit false, I 4, I 7, .int .u8 2, .str [81], .lit false, I 4, I 0, .int .u8 4, .str [107], .lit true, I 60, I 63, .int .u8 8, .str [113], .lit true, I 60, I 56]), (6, I 3)], [.ints false .i8 zs, .cells true [I f, I r, .sl 0 0 zs.length none, Bb bl, .int .u8 ca, I pa, I ha, I fu]], Ent.ren [0, 1] [1, 5, 6] rfl rfl rfl, ?_⟩
  refine rnd ?_
  refine sat_bt (by rfl) ?_
  repeat (first | (first | refine sat_self ?_ | refine sat_nd ?_) | refine sat_need (need88 hbd (by omega) (by omega)) ?_ | refine sat_need (need88b hbd (by omega) (by omega)) ?_)
  refine sat_br (fun h3 => ?_) (fun h3 => ?_)
  ·have h3 : rtX f r zs ca 8 60 56 true = true := h3
   exact sat_ret (sat_ret (fin_val (.inr rfl) rfl rfl rfl (by simp [castB, h3])))
  have h3 : rtX f r zs ca 8 60 56 true = false := h3
  refine sat_ret ⟨[(1, .ptr 1 0 0), (5, .agg [.int .u8 1, .str [75], .lit false, I 4, I 7, .int .u8 2, .str [81], .lit false, I 4, I 0, .int .u8 4, .str [107], .lit true, I 60, I 63, .int .u8 8, .str [113], .lit true, I 60, I 56]), (6, I 4)], [.ints false .i8 zs, .cells true [I f, I r, .sl 0 0 zs.length none, Bb bl, .int .u8 ca, I pa, I ha, I fu]], Ent.ren [0, 1] [1, 5, 6] rfl rfl rfl, ?_⟩
  refine rnd ?_
  refine sat_bf (by rfl) ?_
  refine sat_ret (sat_ret (fin_val (.inr rfl) rfl rfl rfl (by simp [castB, h0, h1, h2, h3])))
 ·cases e
end Go.Ab
