/- Contracts of the functions that the laws reach, or plain laws of what they compute (part X2); no condition. -/
import Derived.Test.YtjckbgodcefogaaDoorX1
namespace Go.Ab
open Go.Proofs
abbrev uor (x y : Int) : Int := band .or .u64 x y
abbrev uand (x y : Int) : Int := band .and .u64 x y
abbrev uandn (x y : Int) : Int := band .andNot .u64 x y
abbrev ushl (x y : Int) : Int := IntKind.u64.wrap (x * 2 ^ (min y.toNat IntKind.u64.bits))
abbrev ushr (x y : Int) : Int := x.fdiv (2 ^ (min y.toNat IntKind.u64.bits))
def allU (f r : Int) : Int := ushr 18446744073709551615 (IntKind.i64.wrap (64 - IntKind.i64.wrap (f * r)))
theorem w64_id {n : Int} (h1 : -9223372036854775808 ≤ n) (h2 : n ≤ 9223372036854775807) : IntKind.i64.wrap n = n := IntWalk.i64_in _ (by omega)
theorem mul_bd {f r : Int} (h : vsB f r = true) : 9 ≤ f * r ∧ f * r ≤ 64 := by
  obtain ⟨h1, h2, h3, h4⟩ := vs_bd h
  have e1 : 3 * 3 ≤ f * r := Int.mul_le_mul h1 h3 (by omega) (by omega)
  have e2 : f * r ≤ 8 * 8 := Int.mul_le_mul h2 h4 (by omega) (by omega)
  omega
theorem w64_mul {f r : Int} (h : vsB f r = true) : IntKind.i64.wrap (f * r) = f * r := w64_id (by have := mul_bd h; omega) (by have := mul_bd h; omega)
def c_all : CF
  | [.agg [.int .i64 f, .int .i64 r]], [] => some (vsB f r, .int .u64 (allU f r), [])
  | _, _ => none
theorem c_all_ok : CtOk GG PP (105, c_all) := by
  refine ct_mk Tryd.func105 (by kernel_rfl) rfl fun a0 h0 c0 v0 N0 e hc => ?_
  unfold c_all at e
  split at e
  · rename_i f r
    cases e
    have hE := EE_ok (cts := []) (inl := []) trivial trivial
    refine fn_sound hE 2 Tryd.func105 rfl rfl ?_
    have hm := mul_bd hc
    refine sat_need (by rw [w64_mul hc, w64_id (by omega) (by omega)]; simp; omega) ?_
    exact sat_ret (fin_val (.inr rfl) rfl rfl rfl rfl)
  · cases e

def c_All : CF
  | [.agg [.int .i64 f, .int .i64 r]], [] => some (true, .tup [U (bif vsB f r then allU f r else 0), I (bif vsB f r then 0 else 2)], [])
  | _, _ => none
theorem c_All_ok : CtOk GG PP (91, c_All) := by
  refine ct_mk Tryd.func91 (by kernel_rfl) rfl fun a0 h0 c0 v0 N0 e hc => ?_
  unfold c_All at e
  split at e
  · rename_i f r
    cases e
    have hE := EE_ok (cts := [(89, c_vs), (105, c_all)]) (inl := []) ⟨c_vs_ok, c_all_ok, trivial⟩ trivial
    refine fn_sound hE 2 Tryd.func91 rfl rfl ?_
    repeat (first | refine sat_self ?_ | refine sat_need (by first | rfl | exact tt1 _ _ | exact tt5 _ _ | exact tt2 _ _ _ | exact tt4 _ _ _ | exact tt6 _ _ _ | exact tt7 _ _ | exact tt8 _ _ _ | exact tt9 _ _ _ | (simp; done) | (simp; omega)) ?_)
    refine sat_br (fun h1 => ?_) (fun h1 => ?_)
    · exact sat_ret (fin_val (.inr rfl) rfl rfl rfl (by simp_all))
    · refine sat_need (by simpa using h1) ?_
      exact sat_ret (fin_val (.inr rfl) rfl rfl rfl (by simp_all))
  · cases e

def fwd (b : Bool) : Int := bif b then -1 else 1
def sgn (n : Int) : Int := bif decide (n < 0) then -1 else bif decide (0 < n) then 1 else 0
def rayOn (f r n set : Int) : Bool := validB f r n && decide (uandn set (allU f r) = 0)
def c_forward : CF
  | [.bool b], [] => some (true, .int .i64 (fwd b), [])
  | _, _ => none
theorem c_forward_ok : CtOk GG PP (64, c_forward) := by
  refine ct_mk Tryd.func64 (by kernel_rfl) rfl fun a0 h0 c0 v0 N0 e hc => ?_
  unfold c_forward at e
  split at e
  · rename_i b
    cases e
    have hE := EE_ok (cts := []) (inl := []) trivial trivial
    refine fn_sound hE 2 Tryd.func64 rfl rfl ?_
    refine sat_br (fun h1 => ?_) (fun h1 => ?_)
    · exact sat_ret (fin_val (.inr rfl) rfl rfl rfl (by simp_all [fwd]))
    · exact sat_ret (fin_val (.inr rfl) rfl rfl rfl (by simp_all [fwd]))
  · cases e

def c_sign : CF
  | [.int .i64 n], [] => some (true, .int .i64 (sgn n), [])
  | _, _ => none
theorem c_sign_ok : CtOk GG PP (55, c_sign) := by
  refine ct_mk Tryd.func55 (by kernel_rfl) rfl fun a0 h0 c0 v0 N0 e hc => ?_
  unfold c_sign at e
  split at e
  · rename_i n
    cases e
    have hE := EE_ok (cts := []) (inl := []) trivial trivial
    refine fn_sound hE 2 Tryd.func55 rfl rfl ?_
    refine sat_br (fun h1 => ?_) (fun h1 => ?_)
    · exact sat_ret (fin_val (.inr rfl) rfl rfl rfl (by rw [sgn, h1]; rfl))
    · refine sat_br (fun h2 => ?_) (fun h2 => ?_)
      · exact sat_ret (fin_val (.inr rfl) rfl rfl rfl (by rw [sgn, h1, h2]; rfl))
      · exact sat_ret (fin_val (.inr rfl) rfl rfl rfl (by rw [sgn, h1, h2]; rfl))
  · cases e

def c_rayon : CF
  | [.agg [.int .i64 f, .int .i64 r], .int .i64 n, .int .u64 set], [] => some (true, .bool (rayOn f r n set), [])
  | _, _ => none
theorem c_rayon_ok : CtOk GG PP (59, c_rayon) := by
  refine ct_mk Tryd.func59 (by kernel_rfl) rfl fun a0 h0 c0 v0 N0 e hc => ?_
  unfold c_rayon at e
  split at e
  · rename_i f r n set
    cases e
    have hE := EE_ok (cts := [(91, c_All), (63, c_valid)]) (inl := []) ⟨c_All_ok, c_valid_ok, trivial⟩ trivial
    refine fn_sound hE 2 Tryd.func59 rfl rfl ?_
    repeat (first | refine sat_self ?_ | refine sat_need (by first | rfl | exact tt1 _ _ | exact tt5 _ _ | exact tt2 _ _ _ | exact tt4 _ _ _ | exact tt6 _ _ _ | exact tt7 _ _ | exact tt8 _ _ _ | exact tt9 _ _ _ | (simp; done) | (simp; omega)) ?_)
    exact sat_ret (fin_val (.inr rfl) rfl rfl rfl (by cases h : vsB f r <;> simp [rayOn, validB, h]))
  · cases e

def dirR (f r a b : Int) : Int × Int × Int :=
  bif validB f r a && validB f r b then
    (let x := IntKind.i64.wrap (b.tmod f - a.tmod f); let y := IntKind.i64.wrap (IntKind.i64.wrap (b.tdiv f) - IntKind.i64.wrap (a.tdiv f))
     bif decide (a = b) || (!decide (x = 0) && !decide (y = 0) && !decide (x = y) && !decide (x = IntKind.i64.wrap (0 - y))) then (0, 0, 9) else (sgn x, sgn y, 0))
  else (0, 0, 2)
def c_dir : CF
  | [.agg [.int .i64 f, .int .i64 r], .int .i64 a, .int .i64 b], [] => some (true, .tup [I (dirR f r a b).1, I (dirR f r a b).2.1, I (dirR f r a b).2.2], [])
  | _, _ => none
theorem c_dir_ok : CtOk GG PP (17, c_dir) := by
  refine ct_mk Tryd.func17 (by kernel_rfl) rfl fun a0 h0 c0 v0 N0 e hc => ?_
  unfold c_dir at e
  split at e
  · rename_i f r a b
    cases e
    have hE := EE_ok (cts := [(50, c_place), (55, c_sign)]) (inl := []) ⟨c_place_ok, c_sign_ok, trivial⟩ trivial
    refine fn_sound hE 2 Tryd.func17 rfl rfl ?_
    repeat (first | refine sat_self ?_ | refine sat_need (by first | rfl | exact tt1 _ _ | exact tt5 _ _ | exact tt2 _ _ _ | exact tt4 _ _ _ | exact tt6 _ _ _ | exact tt7 _ _ | exact tt8 _ _ _ | exact tt9 _ _ _ | (simp; done) | (simp; omega)) ?_)
    refine sat_br (fun h1 => ?_) (fun h1 => ?_)
    · exact sat_ret (fin_val (.inr rfl) rfl rfl rfl (by cases ha : validB f r a <;> cases hb : validB f r b <;> simp_all [dirR, placeR]))
    · repeat (first | refine sat_self ?_ | refine sat_need (by first | rfl | exact tt1 _ _ | exact tt5 _ _ | exact tt2 _ _ _ | exact tt4 _ _ _ | exact tt6 _ _ _ | exact tt7 _ _ | exact tt8 _ _ _ | exact tt9 _ _ _ | (simp; done) | (simp; omega)) ?_)
      have ha : validB f r a = true := by cases ha : validB f r a <;> simp_all [placeR]
      have hb : validB f r b = true := by cases hb : validB f r b <;> simp_all [placeR]
      refine sat_br (fun h2 => ?_) (fun h2 => ?_)
      · refine sat_ret (fin_val (.inr rfl) rfl rfl rfl ?_)
        simp only [placeR, ha, hb, cond_true] at h2
        simp only [dirR, ha, hb, Bool.and_true, cond_true, h2]
      · repeat (first | refine sat_self ?_ | refine sat_need (by first | rfl | exact tt1 _ _ | exact tt5 _ _ | exact tt2 _ _ _ | exact tt4 _ _ _ | exact tt6 _ _ _ | exact tt7 _ _ | exact tt8 _ _ _ | exact tt9 _ _ _ | (simp; done) | (simp; omega)) ?_)
        refine sat_ret (fin_val (.inr rfl) rfl rfl rfl ?_)
        simp only [placeR, ha, hb, cond_true] at h2 ⊢
        simp only [dirR, ha, hb, Bool.and_true, cond_true, h2, cond_false]
  · cases e

end Go.Ab
