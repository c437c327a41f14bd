/- Contracts of the functions that the laws reach, or plain laws of what they compute (part L1); no condition. -/
import Derived.Test.YtjckbgodcefogaaDoorX10
namespace Go.Ab
open Go.Proofs
/-! ### plain laws of rays -/
theorem at_on {f r X Y : Int} (h : vsB f r = true) : decide ((atR f r X Y).2 = 0) = onB f r X Y := by
  unfold atR
  cases h2 : onB f r X Y <;> simp [h]
theorem numB_on {f r X Y : Int} : numB f r X Y = !onB f r X Y := by
  rw [Bool.eq_iff_iff]
  simp only [numB, onB, Bool.or_eq_true, decide_eq_true_eq, Bool.not_eq_true', Bool.and_eq_false_iff, decide_eq_false_iff_not]
  omega
theorem num_on {f r X Y : Int} (h : vsB f r = true) (h2 : onB f r X Y = true) : numR f r X Y = (atR f r X Y).1 := by
  simp only [numR, numB_on, h2, atR, h, Bool.not_true, cond_true, cond_false, Int.add_comm]
theorem num_neg {f r X Y : Int} (h : vsB f r = true) : decide (numR f r X Y < 0) = !onB f r X Y := by
  cases h2 : onB f r X Y with
  | false => simp [numR, numB_on, h2]
  | true =>
    rw [num_on h h2]
    have h3 := at_on (X := X) (Y := Y) h
    rw [h2] at h3
    have := at_pos (of_decide_eq_true h3)
    simp; omega
theorem on_mk {f r x y : Int} (h1 : 0 ≤ x) (h2 : x < f) (h3 : 0 ≤ y) (h4 : y < r) : onB f r x y = true := by simp [onB, *]
theorem go_eq {f r df dr px py : Int} (h : vsB f r = true) (hb : -7 ≤ df ∧ df ≤ 7 ∧ -7 ≤ dr ∧ dr ≤ 7) (hnz : df ≠ 0 ∨ dr ≠ 0) (hp : onB f r px py = true) :
    ∀ (m k : Nat), m + k = 9 → 1 ≤ k → onB f r (px + ((k : Int) - 1) * df) (py + ((k : Int) - 1) * dr) = true → rayGo f r df dr (m + 1) (px + ((k : Int) - 1) * df) (py + ((k : Int) - 1) * dr) = refGo f r df dr px py m k := by
  have hv := vs_bd h
  have hp := on_bd hp
  intro m
  induction m with
  | zero =>
    intro k hk h1 hon
    obtain rfl : k = 9 := by omega
    have := on_bd hon
    exfalso
    rcases hnz with e | e <;> omega
  | succ m ih =>
    intro k hk h1 hon
    have hon := on_bd hon
    have hX : IntKind.i64.wrap (px + ((k : Int) - 1) * df + df) = px + ((k : Int) + 1 - 1) * df ∧ IntKind.i64.wrap (py + ((k : Int) - 1) * dr + dr) = py + ((k : Int) + 1 - 1) * dr ∧ IntKind.i64.wrap (px + IntKind.i64.wrap (k * df)) = px + ((k : Int) + 1 - 1) * df ∧ IntKind.i64.wrap (py + IntKind.i64.wrap (k * dr)) = py + ((k : Int) + 1 - 1) * dr ∧ IntKind.i64.wrap ((k : Int) + 1) = ((k + 1 : Nat) : Int) := by
      have hk8 : k = 1 ∨ k = 2 ∨ k = 3 ∨ k = 4 ∨ k = 5 ∨ k = 6 ∨ k = 7 ∨ k = 8 := by omega
      rcases hk8 with rfl | rfl | rfl | rfl | rfl | rfl | rfl | rfl <;>
      · refine ⟨?_, ?_, ?_, ?_, ?_⟩
        · rw [w64_id (by omega) (by omega)]; omega
        · rw [w64_id (by omega) (by omega)]; omega
        · rw [w64_id (n := _ * df) (by omega) (by omega), w64_id (by omega) (by omega)]; omega
        · rw [w64_id (n := _ * dr) (by omega) (by omega), w64_id (by omega) (by omega)]; omega
        · rw [w64_id (by omega) (by omega)]; omega
    obtain ⟨e1, e2, e3, e4, e5⟩ := hX
    rw [rayGo, refGo, e1, e2, e3, e4, e5, at_on h, num_neg h]
    cases h2 : onB f r (px + ((k : Int) + 1 - 1) * df) (py + ((k : Int) + 1 - 1) * dr) with
    | false => rfl
    | true =>
      rw [num_on h h2]
      have := ih (k + 1) (by omega) (by omega) (by push_cast; exact h2)
      push_cast at this ⊢
      simp only [cond_true, Bool.not_true, cond_false, this]
def inR (df dr : Int) : Bool := decide (-8 ≤ df) && decide (df ≤ 8) && decide (-8 ≤ dr) && decide (dr ≤ 8)
theorem big_8 {df dr : Int} (h : inR df dr = true) (h2 : rayBig df dr = true) : df = 8 ∨ df = -8 ∨ dr = 8 ∨ dr = -8 := by
  simp only [inR, Bool.and_eq_true, decide_eq_true_eq] at h
  obtain ⟨⟨⟨a1, a2⟩, a3⟩, a4⟩ := h
  simp only [rayBig, Bool.or_eq_true, decide_eq_true_eq] at h2
  rw [w64_id (n := 0 - df) (by omega) (by omega), w64_id (n := 0 - dr) (by omega) (by omega)] at h2
  have m : ∀ x y : Int, imax true x y = x ∨ imax true x y = y := fun x y => by
    unfold imax
    by_cases h : x < y <;> simp [h]
  have m1 := m df (0 - df)
  have m2 := m (imax true df (0 - df)) dr
  have m3 := m (imax true (imax true df (0 - df)) dr) (0 - dr)
  omega
theorem big_out {df dr : Int} (h : inR df dr = false) : rayBig df dr = true := by
  cases hb : rayBig df dr with
  | true => rfl
  | false =>
    have := big_bd hb
    simp [inR] at h
    omega
theorem ray_eq (f r n df dr : Int) : rayL f r n df dr = bif inR df dr then refRay f r n df dr else [] := by
  cases hv : validB f r n with
  | false => simp [rayL, refRay, hv]
  | true =>
    cases hz : (decide (df = 0) && decide (dr = 0)) with
    | true => simp [rayL, refRay, hv, hz]
    | false =>
      have hnz : df ≠ 0 ∨ dr ≠ 0 := by
        by_cases e : df = 0
        · right; rintro rfl; simp [e] at hz
        · exact .inl e
      have hvs := valid_vs hv
      have hb := vs_bd hvs
      have hp := place_bd hv
      have hr : refRay f r n df dr = refGo f r df dr (placeR f r n).1 (placeR f r n).2.1 8 1 := by simp [refRay, hv, hz, placeR]
      cases hbig : rayBig df dr with
      | true =>
        have hl : rayL f r n df dr = [] := by simp [rayL, hbig]
        rw [hl]
        cases hi : inR df dr with
        | false => rfl
        | true =>
          have h8 := big_8 hi hbig
          simp only [inR, Bool.and_eq_true, decide_eq_true_eq] at hi
          obtain ⟨⟨⟨a1, a2⟩, a3⟩, a4⟩ := hi
          rw [cond_true, hr, refGo, num_neg hvs]
          have hoff : onB f r (IntKind.i64.wrap ((placeR f r n).1 + IntKind.i64.wrap (1 * df))) (IntKind.i64.wrap ((placeR f r n).2.1 + IntKind.i64.wrap (1 * dr))) = false := by
            rw [w64_id (n := 1 * df) (by omega) (by omega), w64_id (n := 1 * dr) (by omega) (by omega), w64_id (by omega) (by omega), w64_id (by omega) (by omega)]
            cases ho : onB f r ((placeR f r n).1 + 1 * df) ((placeR f r n).2.1 + 1 * dr) with
            | false => rfl
            | true => have := on_bd ho; omega
          rw [hoff]; rfl
      | false =>
        have hi : inR df dr = true := by
          cases hi : inR df dr with
          | true => rfl
          | false => rw [big_out hi] at hbig; cases hbig
        have hg := go_eq (f := f) (r := r) (df := df) (dr := dr) (px := (placeR f r n).1) (py := (placeR f r n).2.1) hvs (big_bd hbig) hnz (on_mk hp.1 hp.2.1 hp.2.2.1 hp.2.2.2.1) 8 1 rfl (Nat.le_refl _) (by simpa using on_mk hp.1 hp.2.1 hp.2.2.1 hp.2.2.2.1)
        rw [hi, cond_true, hr]
        simp only [rayL, hv, hz, hbig, Bool.not_false, Bool.and_self, cond_true]
        simpa using hg
end Go.Ab
