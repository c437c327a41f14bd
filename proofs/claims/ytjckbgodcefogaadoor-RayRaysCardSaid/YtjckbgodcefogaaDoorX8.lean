/- Contracts of the functions that the laws reach, or plain laws of what they compute (part X8); no condition. -/
import Derived.Test.YtjckbgodcefogaaDoorX7
namespace Go.Ab
open Go.Proofs
def refGo (f r df dr px py : Int) : Nat → Int → List Int
  | 0, _ => []
  | m + 1, k => bif decide (numR f r (IntKind.i64.wrap (px + IntKind.i64.wrap (k * df))) (IntKind.i64.wrap (py + IntKind.i64.wrap (k * dr))) < 0) then [] else numR f r (IntKind.i64.wrap (px + IntKind.i64.wrap (k * df))) (IntKind.i64.wrap (py + IntKind.i64.wrap (k * dr))) :: refGo f r df dr px py m (IntKind.i64.wrap (k + 1))
def refRay (f r n df dr : Int) : List Int := bif !validB f r n || (decide (df = 0) && decide (dr = 0)) then [] else refGo f r df dr (n.tmod f) (IntKind.i64.wrap (n.tdiv f)) 8 1
theorem refGo_len (f r df dr px py : Int) (m : Nat) : ∀ k, (refGo f r df dr px py m k).length ≤ m := by
  induction m with
  | zero => intro k; simp [refGo]
  | succ m ih =>
    intro k
    rw [refGo]
    cases decide (numR f r (IntKind.i64.wrap (px + IntKind.i64.wrap (k * df))) (IntKind.i64.wrap (py + IntKind.i64.wrap (k * dr))) < 0) with
    | true => simp
    | false => have := ih (IntKind.i64.wrap (k + 1)); simp; omega
theorem refRay_len (f r n df dr : Int) : (refRay f r n df dr).length ≤ 8 := by
  unfold refRay
  cases (!validB f r n || (decide (df = 0) && decide (dr = 0))) with
  | true => simp
  | false => exact refGo_len ..
def c_refRay : CF
  | [.agg [.int .i64 f, .int .i64 r], .int .i64 n, .int .i64 df, .int .i64 dr], [] => some (true, .sl 0 0 (refRay f r n df dr).length none, [.ints true .i64 (refRay f r n df dr)])
  | _, _ => none
theorem c_refRay_ok : CtOk GG PP (13, c_refRay) := by
  refine ct_mk Tryd.func13 (by kernel_rfl) rfl fun a0 h0 c0 v0 N0 e hc => ?_
  unfold c_refRay at e
  split at e
  · rename_i f r n df dr
    cases e
    have hE := EE_ok (cts := [(18, c_Valid), (47, c_Place), (48, c_Number)]) (inl := []) ⟨c_Valid_ok, c_Place_ok, c_Number_ok, trivial⟩ trivial
    refine fn_soundE hE 2 Tryd.func13 rfl rfl ?_
    repeat (first | refine sat_self ?_ | refine sat_need (by first | rfl | exact tt1 _ _ | exact tt5 _ _ | exact tt2 _ _ _ | exact tt4 _ _ _ | exact tt6 _ _ _ | exact tt7 _ _ | exact tt8 _ _ _ | exact tt9 _ _ _ | (simp; done) | (simp; omega)) ?_)
    refine sat_br (fun h0 => ?_) (fun h0 => ?_)
    · have hz : refRay f r n df dr = [] := by rw [refRay, show (!validB f r n || (decide (df = 0) && decide (dr = 0))) = true from h0]; rfl
      rw [hz]
      exact sat_ret (fin_e ((Ent.phanT (t := 8) (o := .ints true .i64 []) rfl ⟨by simp, by simp, trivial, rfl⟩ (blt_lt rfl))) (fin_new 1 (.inr rfl) rfl rfl rfl rfl rfl rfl))
    have hz : refRay f r n df dr = refGo f r df dr (n.tmod f) (IntKind.i64.wrap (n.tdiv f)) 8 1 := by rw [refRay, show (!validB f r n || (decide (df = 0) && decide (dr = 0))) = false from h0]; rfl
    have hv : validB f r n = true := by cases h : validB f r n <;> simp_all
    have hf := vs_bd (valid_vs hv)
    refine sat_need (by simp; omega) ?_
    refine sat_for hE 2 (fun a : Int × List Int => ([(2, I df), (3, I dr), (4, .ptr 0 0 0), (9, .ptr 1 0 0), (10, .sl 2 0 a.2.length none), (11, I a.1)], [.cells true [I f, I r], .cells true [I (n.tmod f), I (IntKind.i64.wrap (n.tdiv f))], .ints true .i64 a.2]))
      (fun a => ∃ k : Nat, 1 ≤ k ∧ k ≤ 9 ∧ a.1 = k ∧ a.2 ++ refGo f r df dr (n.tmod f) (IntKind.i64.wrap (n.tdiv f)) (9 - k) k = refRay f r n df dr) (fun a => 9 - a.1.toNat) (1, [])
      ((Ent.phanT (t := 10) (o := .ints true .i64 []) rfl ⟨by simp, by simp, trivial, rfl⟩ (blt_lt rfl)).trans (Ent.ren [0, 1, 2] [2, 3, 4, 9, 10, 11] rfl rfl rfl)) ⟨1, by omega, by omega, rfl, hz.symm⟩ ?_
    rintro ⟨i, zs⟩ ⟨k, hk1, hk, h1, h3⟩
    dsimp only at h1 h3 ⊢
    have hb : zs.length ≤ 8 := by have := congrArg List.length h3; have := refRay_len f r n df dr; simp at *; omega
    refine sat_br (fun hlt => ?_) (fun hlt => ?_)
    · simp only [decide_eq_true_eq] at hlt
      have hnext : IntKind.i64.wrap (i + 1) = ((k + 1 : Nat) : Int) := by rw [w64_id (by omega) (by omega)]; omega
      rw [show 9 - k = (9 - (k + 1)) + 1 by omega, refGo, ← h1, hnext] at h3
      repeat (first | refine sat_self ?_ | refine sat_need (by first | rfl | exact tt1 _ _ | exact tt5 _ _ | exact tt2 _ _ _ | exact tt4 _ _ _ | exact tt6 _ _ _ | exact tt7 _ _ | exact tt8 _ _ _ | exact tt9 _ _ _ | (simp; done) | (simp; omega)) ?_)
      refine sat_br (fun hon => ?_) (fun hon => ?_)
      · have hon : decide (numR f r (IntKind.i64.wrap (n.tmod f + IntKind.i64.wrap (i * df))) (IntKind.i64.wrap (IntKind.i64.wrap (n.tdiv f) + IntKind.i64.wrap (i * dr))) < 0) = true := hon
        rw [hon, cond_true, List.append_nil] at h3
        subst h3
        refine sat_ret (sat_ret (fin_0 (fin_new 2 (.inr rfl) rfl rfl rfl rfl rfl rfl)))
      · have hon : decide (numR f r (IntKind.i64.wrap (n.tmod f + IntKind.i64.wrap (i * df))) (IntKind.i64.wrap (IntKind.i64.wrap (n.tdiv f) + IntKind.i64.wrap (i * dr))) < 0) = false := hon
        rw [hon, cond_false] at h3
        refine sat_need (b := decide (zs.length = zs.length) && decide ((zs.length + 1) * 8 ≤ 140737488355328) && true) (by simp; omega) ?_
        refine sat_ret ⟨(IntKind.i64.wrap (i + 1), zs ++ [numR f r (IntKind.i64.wrap (n.tmod f + IntKind.i64.wrap (i * df))) (IntKind.i64.wrap (IntKind.i64.wrap (n.tdiv f) + IntKind.i64.wrap (i * dr)))]), ⟨k + 1, by omega, by omega, hnext, by rw [← h3]; simp⟩, ?_, Ent.ren [0, 1, 4] [2, 3, 4, 9, 10, 11] rfl rfl rfl⟩
        show _ - (IntKind.i64.wrap (i + 1)).toNat < _
        rw [hnext]; omega
    · simp only [decide_eq_false_iff_not] at hlt
      obtain rfl : k = 9 := by omega
      rw [refGo, List.append_nil] at h3
      subst h3
      refine sat_ret (sat_ret (fin_0 (fin_new 2 (.inr rfl) rfl rfl rfl rfl rfl rfl)))
  · cases e

end Go.Ab
