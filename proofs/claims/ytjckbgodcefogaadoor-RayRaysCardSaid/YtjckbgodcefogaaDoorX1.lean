/- Contracts of the functions that the laws reach, or plain laws of what they compute (part X1); no condition. -/
import Derived.Test.YtjckbgodcefogaaDoorXSeat
namespace Go.Ab
open Go.Proofs
/-! ### square -/
def sideB (n : Int) : Bool := decide (3 ≤ n) && decide (n ≤ 8)
def vsB (f r : Int) : Bool := sideB f && sideB r
def onB (f r x y : Int) : Bool := decide (0 ≤ x) && decide (x < f) && decide (0 ≤ y) && decide (y < r)
def validB (f r n : Int) : Bool := vsB f r && decide (0 ≤ n) && decide (n < IntKind.i64.wrap (f * r))
def atR (f r x y : Int) : Int × Int := bif vsB f r then (bif onB f r x y then (IntKind.i64.wrap (x + IntKind.i64.wrap (y * f)), 0) else (0, 3)) else (0, 2)
def placeR (f r n : Int) : Int × Int × Int := bif validB f r n then (n.tmod f, IntKind.i64.wrap (n.tdiv f), 0) else (0, 0, 2)
def c_side : CF
  | [.int .i64 n], [] => some (true, .bool (sideB n), [])
  | _, _ => none
theorem c_side_ok : CtOk GG PP (104, c_side) := by
  refine ct_mk Tryd.func104 (by kernel_rfl) rfl fun a0 h0 c0 v0 N0 e hc => ?_
  unfold c_side at e
  split at e
  · rename_i n
    cases e
    have hE := EE_ok (cts := []) (inl := []) trivial trivial
    refine fn_sound hE 2 Tryd.func104 rfl rfl ?_
    repeat (first | refine sat_self ?_ | refine sat_need (by first | rfl | exact tt1 _ _ | exact tt5 _ _ | exact tt2 _ _ _ | exact tt4 _ _ _ | exact tt6 _ _ _ | exact tt7 _ _ | exact tt8 _ _ _ | exact tt9 _ _ _ | (simp; done) | (simp; omega)) ?_)
    exact sat_ret (fin_val (.inr rfl) rfl rfl rfl rfl)
  · cases e

def c_vs : CF
  | [.agg [.int .i64 f, .int .i64 r]], [] => some (true, .bool (vsB f r), [])
  | _, _ => none
theorem c_vs_ok : CtOk GG PP (89, c_vs) := by
  refine ct_mk Tryd.func89 (by kernel_rfl) rfl fun a0 h0 c0 v0 N0 e hc => ?_
  unfold c_vs at e
  split at e
  · rename_i f r
    cases e
    have hE := EE_ok (cts := [(104, c_side)]) (inl := []) ⟨c_side_ok, trivial⟩ trivial
    refine fn_sound hE 2 Tryd.func89 rfl rfl ?_
    repeat (first | refine sat_self ?_ | refine sat_need (by first | rfl | exact tt1 _ _ | exact tt5 _ _ | exact tt2 _ _ _ | exact tt4 _ _ _ | exact tt6 _ _ _ | exact tt7 _ _ | exact tt8 _ _ _ | exact tt9 _ _ _ | (simp; done) | (simp; omega)) ?_)
    exact sat_ret (fin_val (.inr rfl) rfl rfl rfl rfl)
  · cases e

def c_on : CF
  | [.agg [.int .i64 f, .int .i64 r], .int .i64 x, .int .i64 y], [] => some (true, .bool (onB f r x y), [])
  | _, _ => none
theorem c_on_ok : CtOk GG PP (90, c_on) := by
  refine ct_mk Tryd.func90 (by kernel_rfl) rfl fun a0 h0 c0 v0 N0 e hc => ?_
  unfold c_on at e
  split at e
  · rename_i f r x y
    cases e
    have hE := EE_ok (cts := []) (inl := []) trivial trivial
    refine fn_sound hE 2 Tryd.func90 rfl rfl ?_
    repeat (first | refine sat_self ?_ | refine sat_need (by first | rfl | exact tt1 _ _ | exact tt5 _ _ | exact tt2 _ _ _ | exact tt4 _ _ _ | exact tt6 _ _ _ | exact tt7 _ _ | exact tt8 _ _ _ | exact tt9 _ _ _ | (simp; done) | (simp; omega)) ?_)
    exact sat_ret (fin_val (.inr rfl) rfl rfl rfl rfl)
  · cases e

def c_valid : CF
  | [.agg [.int .i64 f, .int .i64 r], .int .i64 n], [] => some (true, .bool (validB f r n), [])
  | _, _ => none
theorem c_valid_ok : CtOk GG PP (63, c_valid) := by
  refine ct_mk Tryd.func63 (by kernel_rfl) rfl fun a0 h0 c0 v0 N0 e hc => ?_
  unfold c_valid at e
  split at e
  · rename_i f r n
    cases e
    have hE := EE_ok (cts := [(89, c_vs)]) (inl := []) ⟨c_vs_ok, trivial⟩ trivial
    refine fn_sound hE 2 Tryd.func63 rfl rfl ?_
    repeat (first | refine sat_self ?_ | refine sat_need (by first | rfl | exact tt1 _ _ | exact tt5 _ _ | exact tt2 _ _ _ | exact tt4 _ _ _ | exact tt6 _ _ _ | exact tt7 _ _ | exact tt8 _ _ _ | exact tt9 _ _ _ | (simp; done) | (simp; omega)) ?_)
    exact sat_ret (fin_val (.inr rfl) rfl rfl rfl rfl)
  · cases e

def c_at : CF
  | [.agg [.int .i64 f, .int .i64 r], .int .i64 x, .int .i64 y], [] => some (true, .tup [I (atR f r x y).1, I (atR f r x y).2], [])
  | _, _ => none
theorem c_at_ok : CtOk GG PP (51, c_at) := by
  refine ct_mk Tryd.func51 (by kernel_rfl) rfl fun a0 h0 c0 v0 N0 e hc => ?_
  unfold c_at at e
  split at e
  · rename_i f r x y
    cases e
    have hE := EE_ok (cts := [(89, c_vs), (90, c_on)]) (inl := []) ⟨c_vs_ok, c_on_ok, trivial⟩ trivial
    refine fn_sound hE 2 Tryd.func51 rfl rfl ?_
    repeat (first | refine sat_self ?_ | refine sat_need (by first | rfl | exact tt1 _ _ | exact tt5 _ _ | exact tt2 _ _ _ | exact tt4 _ _ _ | exact tt6 _ _ _ | exact tt7 _ _ | exact tt8 _ _ _ | exact tt9 _ _ _ | (simp; done) | (simp; omega)) ?_)
    refine sat_br (fun h1 => ?_) (fun h1 => ?_)
    · exact sat_ret (fin_val (.inr rfl) rfl rfl rfl (by simp_all [atR]))
    · repeat (first | refine sat_self ?_ | refine sat_need (by first | rfl | exact tt1 _ _ | exact tt5 _ _ | exact tt2 _ _ _ | exact tt4 _ _ _ | exact tt6 _ _ _ | exact tt7 _ _ | exact tt8 _ _ _ | exact tt9 _ _ _ | (simp; done) | (simp; omega)) ?_)
      refine sat_br (fun h2 => ?_) (fun h2 => ?_)
      · exact sat_ret (fin_val (.inr rfl) rfl rfl rfl (by simp_all [atR]))
      · exact sat_ret (fin_val (.inr rfl) rfl rfl rfl (by simp_all [atR]))
  · cases e

theorem vs_bd {f r : Int} (h : vsB f r = true) : 3 ≤ f ∧ f ≤ 8 ∧ 3 ≤ r ∧ r ≤ 8 := by
  simp [vsB, sideB] at h; omega
theorem valid_vs {f r n : Int} (h : validB f r n = true) : vsB f r = true := by
  simp only [validB, Bool.and_eq_true] at h; exact h.1.1
def c_place : CF
  | [.agg [.int .i64 f, .int .i64 r], .int .i64 n], [] => some (true, .tup [I (placeR f r n).1, I (placeR f r n).2.1, I (placeR f r n).2.2], [])
  | _, _ => none
theorem c_place_ok : CtOk GG PP (50, c_place) := by
  refine ct_mk Tryd.func50 (by kernel_rfl) rfl fun a0 h0 c0 v0 N0 e hc => ?_
  unfold c_place at e
  split at e
  · rename_i f r n
    cases e
    have hE := EE_ok (cts := [(63, c_valid)]) (inl := []) ⟨c_valid_ok, trivial⟩ trivial
    refine fn_sound hE 2 Tryd.func50 rfl rfl ?_
    repeat (first | refine sat_self ?_ | refine sat_need (by first | rfl | exact tt1 _ _ | exact tt5 _ _ | exact tt2 _ _ _ | exact tt4 _ _ _ | exact tt6 _ _ _ | exact tt7 _ _ | exact tt8 _ _ _ | exact tt9 _ _ _ | (simp; done) | (simp; omega)) ?_)
    refine sat_br (fun h1 => ?_) (fun h1 => ?_)
    · exact sat_ret (fin_val (.inr rfl) rfl rfl rfl (by simp_all [placeR]))
    · simp only [Bool.not_eq_false'] at h1
      have hf := vs_bd (valid_vs h1)
      repeat (first | refine sat_self ?_ | refine sat_need (by first | rfl | (simp; omega)) ?_)
      exact sat_ret (fin_val (.inr rfl) rfl rfl rfl (by simp_all [placeR]))
  · cases e

end Go.Ab
