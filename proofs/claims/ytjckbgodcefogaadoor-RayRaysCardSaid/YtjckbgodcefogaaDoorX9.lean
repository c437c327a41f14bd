/- Contracts of the functions that the laws reach, or plain laws of what they compute (part X9); no condition. -/
import Derived.Test.YtjckbgodcefogaaDoorX8
namespace Go.Ab
open Go.Proofs
def subS (s : List UInt8) (a b : Int) : List UInt8 := (s.drop a.toNat).take (b.toNat - a.toNat)
def nameS (f _r n : Int) : List UInt8 := subS [97, 98, 99, 100, 101, 102, 103, 104] (n.tmod f) (IntKind.i64.wrap (n.tmod f + 1)) ++ subS [49, 50, 51, 52, 53, 54, 55, 56] (IntKind.i64.wrap (n.tdiv f)) (IntKind.i64.wrap (IntKind.i64.wrap (n.tdiv f) + 1))
theorem quo_bd {f r n : Int} (h : validB f r n = true) : 0 ≤ n.tmod f ∧ n.tmod f < f ∧ 0 ≤ n.tdiv f ∧ n.tdiv f < r ∧ IntKind.i64.wrap (n.tdiv f) = n.tdiv f ∧ IntKind.i64.wrap (n.tmod f + 1) = n.tmod f + 1 ∧ IntKind.i64.wrap (n.tdiv f + 1) = n.tdiv f + 1 := by
  have hp := place_bd h
  simp only [placeR, h, cond_true] at hp
  obtain ⟨a1, a2, a3, a4⟩ := vs_bd (valid_vs h)
  have hv : 0 ≤ n := by simp only [validB, Bool.and_eq_true, decide_eq_true_eq] at h; exact h.1.2
  have e2 : n.tdiv f = n / f := Int.tdiv_eq_ediv_of_nonneg hv
  have e3 : IntKind.i64.wrap (n.tdiv f) = n.tdiv f := by rw [hp.2.2.2.2.2, e2]
  rw [e3] at hp
  refine ⟨hp.1, hp.2.1, hp.2.2.1, hp.2.2.2.1, e3, w64_id (by omega) (by omega), w64_id (by omega) (by omega)⟩
def c_full : CF
  | [], [] => some (true, .agg [I 8, I 8], [])
  | _, _ => none
theorem c_full_ok : CtOk GG PP (52, c_full) := by
  refine ct_mk Tryd.func52 (by kernel_rfl) rfl fun a0 h0 c0 v0 N0 e hc => ?_
  unfold c_full at e
  split at e
  · skip
    cases e
    have hE := EE_ok (cts := []) (inl := []) trivial trivial
    refine fn_sound hE 2 Tryd.func52 rfl rfl ?_
    exact sat_ret (fin_val (.inr rfl) rfl rfl rfl rfl)
  · cases e

def c_Name : CF
  | [.agg [.int .i64 f, .int .i64 r], .int .i64 n], [] => some (validB f r n, .str (nameS f r n), [])
  | _, _ => none
theorem c_Name_ok : CtOk GG PP (95, c_Name) := by
  refine ct_mk Tryd.func95 (by kernel_rfl) rfl fun a0 h0 c0 v0 N0 e hc => ?_
  unfold c_Name at e
  split at e
  · rename_i f r n
    cases e
    have hE := EE_ok (cts := [(47, c_Place)]) (inl := []) ⟨c_Place_ok, trivial⟩ trivial
    refine fn_sound hE 2 Tryd.func95 rfl rfl ?_
    obtain ⟨a1, a2, a3, a4⟩ := vs_bd (valid_vs hc)
    obtain ⟨b1, b2, b3, b4, b5, b6, b7⟩ := quo_bd hc
    refine sat_need (by simp; omega) ?_
    repeat (first | refine sat_self ?_ | refine sat_need (by first | rfl | (simp [b5, b6, b7]; omega)) ?_)
    exact sat_ret (fin_val (.inr rfl) rfl rfl rfl rfl)
  · cases e

def parseGo (f r : Int) (s : List UInt8) : Nat → Nat → Int
  | 0, _ => -1
  | m + 1, k => bif nameS f r k == s then k else parseGo f r s m (k + 1)
def parseR (f r : Int) (s : List UInt8) : Int := parseGo f r s (f * r).toNat 0
def c_Parse : CF
  | [.agg [.int .i64 f, .int .i64 r], .str s], [] => some (vsB f r, .int .i64 (parseR f r s), [])
  | _, _ => none
theorem c_Parse_ok : CtOk GG PP (68, c_Parse) := by
  refine ct_mk Tryd.func68 (by kernel_rfl) rfl fun a0 h0 c0 v0 N0 e hc => ?_
  unfold c_Parse at e
  split at e
  · rename_i f r s
    cases e
    have hE := EE_ok (cts := [(95, c_Name)]) (inl := []) ⟨c_Name_ok, trivial⟩ trivial
    refine fn_sound hE 2 Tryd.func68 rfl rfl ?_
    have hm := mul_bd hc
    have hw := w64_mul hc
    refine sat_for hE 2 (fun a : Int => ([(1, .str s), (2, .ptr 0 0 0), (5, I a)], [.cells true [I f, I r]]))
      (fun a => ∃ k : Nat, k ≤ (f * r).toNat ∧ a = k ∧ parseGo f r s ((f * r).toNat - k) k = parseR f r s) (fun a => (f * r).toNat - a.toNat) 0
      (Ent.ren [0] [1, 2, 5] rfl rfl rfl) ⟨0, by omega, rfl, rfl⟩ ?_
    rintro i ⟨k, hk, h1, h3⟩
    dsimp only at h1 h3 ⊢
    refine sat_br (fun hlt => ?_) (fun hlt => ?_)
    · simp only [decide_eq_true_eq] at hlt
      rw [hw] at hlt
      have hnext : IntKind.i64.wrap (i + 1) = ((k + 1 : Nat) : Int) := by rw [w64_id (by omega) (by omega)]; omega
      rw [show (f * r).toNat - k = ((f * r).toNat - (k + 1)) + 1 by omega, parseGo, ← h1] at h3
      refine sat_need (by simp only [validB, Bool.and_eq_true, decide_eq_true_eq]; rw [hw]; exact ⟨⟨hc, by omega⟩, hlt⟩) ?_
      refine sat_br (fun hon => ?_) (fun hon => ?_)
      · have hon : (nameS f r i == s) = true := hon
        rw [hon, cond_true] at h3
        refine sat_ret (sat_ret (fin_val (.inr rfl) rfl rfl rfl (by rw [← h3])))
      · have hon : (nameS f r i == s) = false := hon
        rw [hon, cond_false] at h3
        refine sat_ret ⟨IntKind.i64.wrap (i + 1), ⟨k + 1, by omega, hnext, h3⟩, ?_, Ent.ren [0] [1, 2, 5] rfl rfl rfl⟩
        show _ - (IntKind.i64.wrap (i + 1)).toNat < _
        rw [hnext]; omega
    · simp only [decide_eq_false_iff_not] at hlt
      rw [hw] at hlt
      obtain rfl : k = (f * r).toNat := by omega
      rw [Nat.sub_self, parseGo] at h3
      refine sat_ret (sat_ret (fin_val (.inr rfl) rfl rfl rfl (by rw [← h3])))
  · cases e

def c_at4 : CF
  | [.str s], [] => some (true, .int .i64 (parseR 8 8 s), [])
  | _, _ => none
theorem c_at4_ok : CtOk GG PP (53, c_at4) := by
  refine ct_mk Tryd.func53 (by kernel_rfl) rfl fun a0 h0 c0 v0 N0 e hc => ?_
  unfold c_at4 at e
  split at e
  · rename_i s
    cases e
    have hE := EE_ok (cts := [(52, c_full), (68, c_Parse)]) (inl := []) ⟨c_full_ok, c_Parse_ok, trivial⟩ trivial
    refine fn_sound hE 2 Tryd.func53 rfl rfl ?_
    repeat (first | refine sat_self ?_ | refine sat_need (by first | rfl | exact tt1 _ _ | exact tt5 _ _ | exact tt2 _ _ _ | exact tt4 _ _ _ | exact tt6 _ _ _ | exact tt7 _ _ | exact tt8 _ _ _ | exact tt9 _ _ _ | (simp; done) | (simp; omega)) ?_)
    exact sat_ret (fin_val (.inr rfl) rfl rfl rfl rfl)
  · cases e

def setL (s : List UInt8) : Nat → Int → List Int
  | 0, _ => []
  | m + 1, k => parseR 8 8 (subS s k (IntKind.i64.wrap (k + 2))) :: setL s m (IntKind.i64.wrap (k + 2))
def setR (s : List UInt8) : Int := ofL (setL s (s.length / 2) 0) 0
theorem setL_len (s : List UInt8) : ∀ m k, (setL s m k).length = m
  | 0, _ => rfl
  | m + 1, k => by rw [setL, List.length_cons, setL_len s m]
def c_set4 : CF
  | [.str s], [] => some (decide (s.length ≤ 1000) && ((setL s (s.length / 2) 0).all fun x => decide (0 ≤ x)), .int .u64 (setR s), [])
  | _, _ => none
theorem c_set4_ok : CtOk GG PP (54, c_set4) := by
  refine ct_mk Tryd.func54 (by kernel_rfl) rfl fun a0 h0 c0 v0 N0 e hc => ?_
  unfold c_set4 at e
  split at e
  · rename_i s
    cases e
    have hE := EE_ok (cts := [(52, c_full), (68, c_Parse), (20, c_Of)]) (inl := []) ⟨c_full_ok, c_Parse_ok, c_Of_ok, trivial⟩ trivial
    refine fn_sound hE 2 Tryd.func54 rfl rfl ?_
    simp only [Bool.and_eq_true, decide_eq_true_eq] at hc
    obtain ⟨hc1, hc2⟩ := hc
    refine sat_for hE 2 (fun a : Int × List Int => ([(0, .str s), (3, .sl 0 0 a.2.length none), (4, I a.1)], [.ints true .i64 a.2]))
      (fun a => ∃ k : Nat, k ≤ s.length / 2 ∧ a.1 = 2 * k ∧ a.2 ++ setL s (s.length / 2 - k) a.1 = setL s (s.length / 2) 0) (fun a => s.length + 1 - a.1.toNat) (0, [])
      ((Ent.phanT (t := 3) (o := .ints true .i64 []) rfl ⟨by simp, by simp, trivial, rfl⟩ (blt_lt rfl)).trans (Ent.ren [0] [0, 3, 4] rfl rfl rfl)) ⟨0, by omega, rfl, rfl⟩ ?_
    rintro ⟨i, zs⟩ ⟨k, hk, h1, h3⟩
    dsimp only at h1 h3 ⊢
    have hb : zs.length ≤ 1000 := by have := congrArg List.length h3; simp [setL_len] at this; omega
    have hi1 : IntKind.i64.wrap (i + 1) = i + 1 := w64_id (by omega) (by omega)
    have hi2 : IntKind.i64.wrap (i + 2) = i + 2 := w64_id (by omega) (by omega)
    refine sat_br (fun hlt => ?_) (fun hlt => ?_)
    · simp only [decide_eq_true_eq] at hlt
      rw [hi1] at hlt
      rw [show s.length / 2 - k = (s.length / 2 - (k + 1)) + 1 by omega, setL] at h3
      repeat (refine sat_need (by rfl) ?_)
      refine sat_need (by rw [hi2]; simp; omega) ?_
      repeat (first | refine sat_self ?_ | refine sat_need (by first | rfl | exact tt1 _ _ | exact tt5 _ _ | exact tt2 _ _ _ | exact tt4 _ _ _ | exact tt6 _ _ _ | exact tt7 _ _ | exact tt8 _ _ _ | exact tt9 _ _ _ | (simp; done) | (simp; omega)) ?_)
      refine sat_need (b := decide (zs.length = zs.length) && decide ((zs.length + 1) * 8 ≤ 140737488355328) && true) (by simp; omega) ?_
      refine sat_ret ⟨(IntKind.i64.wrap (i + 2), zs ++ [parseR 8 8 (subS s i (IntKind.i64.wrap (i + 2)))]), ⟨k + 1, by omega, by rw [hi2]; omega, by rw [← h3]; simp⟩, ?_, Ent.ren [2] [0, 3, 4] rfl rfl rfl⟩
      show _ - (IntKind.i64.wrap (i + 2)).toNat < _
      rw [hi2]; omega
    · simp only [decide_eq_false_iff_not] at hlt
      rw [hi1] at hlt
      have hk2 : s.length / 2 - k = 0 := by omega
      rw [hk2, setL, List.append_nil] at h3
      subst h3
      refine sat_ret ?_
      show sat _ _ _ _
      generalize hZ : setL s (s.length / 2) 0 = Z at *
      have hz : (Z.drop 0).take Z.length = Z := by simp
      refine sat_need (b := decide (Z.length = ((Z.drop 0).take Z.length).length) && decide (((Z.drop 0).take Z.length).length ≤ 1000000) && ((Z.drop 0).take Z.length).all fun x => decide (0 ≤ x)) (by rw [hz]; simp only [hc2, decide_true, Bool.and_true, Bool.true_and, decide_eq_true_eq]; omega) ?_
      exact sat_ret (fin_val (.inr rfl) rfl rfl rfl (by rw [setR, hZ]; show V.int _ (ofL ((Z.drop 0).take Z.length) 0) = _; rw [hz]))
  · cases e

end Go.Ab
