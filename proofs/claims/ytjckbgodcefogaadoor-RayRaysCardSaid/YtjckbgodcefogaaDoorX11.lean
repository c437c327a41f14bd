/- Contracts of the functions that the laws reach, or plain laws of what they compute (part X11); no condition. -/
import Derived.Test.YtjckbgodcefogaaDoorL1
namespace Go.Ab
open Go.Proofs
def rrH (f r n df dr many : Int) (zs : List Int) (t : Int) (l : List O) : List O := [.cells true [I f, I r], .cells true [I many], .cells true [.lit false], .cells true [.sl 9 0 zs.length none], .cells true [I f, I r], .cells true [I n], .cells true [I df], .cells true [I dr], .cells true [I t], .ints true .i64 zs] ++ l
def rrT : Tm := [(9, .ptr 1 0 0), (10, .ptr 2 0 0), (11, .ptr 3 0 0), (12, .fn 49 [.ptr 4 0 0, .ptr 5 0 0, .ptr 6 0 0, .ptr 7 0 0]), (13, .ptr 8 0 0)]
theorem imax_eq (x y : Int) : imax true x y = max x y := by
  unfold imax
  by_cases h : x < y <;> simp [h] <;> omega
theorem imin_eq (x y : Int) : imax false x y = min x y := by
  unfold imax
  by_cases h : y < x <;> simp [h] <;> omega
theorem rr_end {t k len many : Int} (h0 : t = 0 → k = min len (max 1 many)) (h1 : t = 1 → k = len) : (decide (t = 0) && !decide (k = imax false len (imax true 1 many)) || decide (t = 1) && !decide (k = len)) = false := by
  rw [imax_eq, imin_eq]
  simp only [Bool.or_eq_false_iff, Bool.and_eq_false_iff, decide_eq_false_iff_not, Bool.not_eq_false', decide_eq_true_eq]
  omega
theorem at_getD {l : List Int} {i : Nat} {x : Int} (h : l[i]? = some x) : l.getD i 0 = x := by simp [List.getD, h]
def c_rr : CF
  | [.agg [.int .i64 _f, .int .i64 _r], .int .i64 _n, .int .i64 _df, .int .i64 _dr, .int .i64 _many], [] => some (true, .bool true, [])
  | _, _ => none
theorem c_rr_ok : CtOk GG PP (3, c_rr) := by
  refine ct_mk Tryd.func3 (by kernel_rfl) rfl fun a0 h0 c0 v0 N0 e hc => ?_
  unfold c_rr at e
  split at e
  · rename_i f r n df dr many
    cases e
    have hE := EE_ok (cts := [(13, c_refRay), (15, c_known4)]) (inl := [(14, Tryd.f14)]) ⟨c_refRay_ok, c_known4_ok, trivial⟩ ⟨⟨Tryd.func14, by kernel_rfl⟩, trivial⟩
    refine fn_sound hE 2 Tryd.func3 rfl rfl ?_
    repeat (first | refine sat_self ?_ | refine sat_need (by first | rfl | exact tt1 _ _ | exact tt5 _ _ | exact tt2 _ _ _ | exact tt4 _ _ _ | exact tt6 _ _ _ | exact tt7 _ _ | exact tt8 _ _ _ | exact tt9 _ _ _ | (simp; done) | (simp; omega)) ?_)
    refine sat_br (fun h0 => ?_) (fun h0 => ?_)
    · have h0 : inR df dr = true := h0
      repeat (first | refine sat_self ?_ | refine sat_need (by first | rfl | exact tt1 _ _ | exact tt5 _ _ | exact tt2 _ _ _ | exact tt4 _ _ _ | exact tt6 _ _ _ | exact tt7 _ _ | exact tt8 _ _ _ | exact tt9 _ _ _ | (simp; done) | (simp; omega)) ?_)
      have hL : rayL f r n df dr = refRay f r n df dr := by rw [ray_eq, h0]; rfl
      have hb := refRay_len f r n df dr
      generalize refRay f r n df dr = zs at *
      refine sat_for hE 2 (fun t : Int => (rrT, rrH f r n df dr many zs t [])) (fun t => 0 ≤ t ∧ t ≤ 2) (fun t => 2 - t.toNat) 0 (Ent.ren [0, 1, 2, 3, 5, 6, 7, 8, 9, 4] [9, 10, 11, 12, 13] rfl rfl rfl) ⟨by omega, by omega⟩ ?_
      rintro t ⟨ht1, ht2⟩
      refine sat_br (fun hlt => ?_) (fun hlt => ?_)
      · simp only [decide_eq_true_eq] at hlt
        have hnext : IntKind.i64.wrap (t + 1) = t + 1 := w64_id (by omega) (by omega)
        refine sat_range hE 2 11 [4, 5, 6, 7] [9, 10, 11, 12, 13, 14] (Ent.ren [0, 1, 2, 3, 4, 5, 6, 7, 8, 9, 10] [9, 10, 11, 12, 13, 14, 46] rfl rfl rfl) (ray_sq f r n df dr) rayV_len ray_ent rfl rfl rfl rfl rfl rfl
          (fun i hp' => hp' = rrH f r n df dr many zs t [.cells true [I i]] ∧ i ≤ zs.length ∧ (t = 0 → i = 0 ∨ i < many))
          (fun e hp' => e = .exit 2 ∧ ∃ i : Int, hp' = rrH f r n df dr many zs t [.cells true [I i]] ∧ t = 0 ∧ 1 ≤ i ∧ i ≤ zs.length ∧ many ≤ i ∧ (i = 1 ∨ i ≤ many)) ⟨rfl, by omega, by omega⟩ ?_ ?_ ?_ ?_ ?_
        · rintro i hp' ⟨rfl, _⟩; rfl
        · rintro i hp' ⟨_, j, rfl, _⟩; rfl
        · rintro i vs hp' hi ⟨rfl, hi2, hi3⟩
          obtain ⟨x, hx, rfl, x0, x1⟩ := rayL_get hi
          rw [hL] at hx
          have hil := (List.getElem?_eq_some_iff.1 hx).1
          have hxd := at_getD hx
          have hi1 : IntKind.i64.wrap ((i : Int) + 1) = ((i + 1 : Nat) : Int) := by rw [w64_id (by omega) (by omega)]; omega
          refine sat_ret ⟨rfl, ?_⟩
          repeat (first | refine sat_self ?_ | refine sat_need (by first | rfl | exact tt1 _ _ | exact tt5 _ _ | exact tt2 _ _ _ | exact tt4 _ _ _ | exact tt6 _ _ _ | exact tt7 _ _ | exact tt8 _ _ _ | exact tt9 _ _ _ | (simp; done) | (simp; omega)) ?_)
          refine sat_bf (b := decide ((zs.length : Int) ≤ i) || !decide (x = zs.getD (i : Int).toNat 0)) (by rw [Int.toNat_natCast, hxd]; simp; omega) ?_
          repeat (first | refine sat_self ?_ | refine sat_need (by first | rfl | exact tt1 _ _ | exact tt5 _ _ | exact tt2 _ _ _ | exact tt4 _ _ _ | exact tt6 _ _ _ | exact tt7 _ _ | exact tt8 _ _ _ | exact tt9 _ _ _ | (simp; done) | (simp; omega)) ?_)
          refine sat_br (fun h1 => ?_) (fun h1 => ?_)
          · have h1 : (decide (t = 0) && decide (many ≤ IntKind.i64.wrap ((i : Int) + 1))) = true := h1
            rw [hi1] at h1
            simp only [Bool.and_eq_true, decide_eq_true_eq] at h1
            exact sat_ret ⟨_, Ent.ren [0, 1, 2, 3, 4, 5, 6, 7, 8, 9, 10] [] rfl rfl rfl, rfl, IntKind.i64.wrap ((i : Int) + 1), rfl, h1.1, by omega, by omega, by omega, by have := hi3 h1.1; omega⟩
          · have h1 : (decide (t = 0) && decide (many ≤ IntKind.i64.wrap ((i : Int) + 1))) = false := h1
            rw [hi1] at h1
            simp only [Bool.and_eq_false_iff, decide_eq_false_iff_not] at h1
            exact sat_ret ⟨_, Ent.ren [0, 1, 2, 3, 4, 5, 6, 7, 8, 9, 10] [] rfl rfl rfl, by rw [← hi1]; rfl, by omega, by omega⟩
        · rintro hp' ⟨rfl, hi2, hi3⟩
          rw [rayV_length, hL] at *
          repeat (first | refine sat_self ?_ | refine sat_need (by first | rfl | exact tt1 _ _ | exact tt5 _ _ | exact tt2 _ _ _ | exact tt4 _ _ _ | exact tt6 _ _ _ | exact tt7 _ _ | exact tt8 _ _ _ | exact tt9 _ _ _ | (simp; done) | (simp; omega)) ?_)
          refine sat_bf (b := decide (t = 0) && !decide ((zs.length : Int) = imax false (zs.length) (imax true 1 many)) || decide (t = 1) && !decide ((zs.length : Int) = zs.length)) (rr_end (by omega) (by omega)) ?_
          repeat (first | refine sat_self ?_ | refine sat_need (by first | rfl | exact tt1 _ _ | exact tt5 _ _ | exact tt2 _ _ _ | exact tt4 _ _ _ | exact tt6 _ _ _ | exact tt7 _ _ | exact tt8 _ _ _ | exact tt9 _ _ _ | (simp; done) | (simp; omega)) ?_)
          exact sat_ret ⟨IntKind.i64.wrap (t + 1), by omega, by omega, Ent.ren [0, 1, 2, 3, 4, 5, 6, 7, 11, 9] [9, 10, 11, 12, 13] rfl rfl rfl⟩
        · rintro e hp' ⟨rfl, i, rfl, j1, j2, j3, j4, j5⟩
          repeat (first | refine sat_self ?_ | refine sat_need (by first | rfl | exact tt1 _ _ | exact tt5 _ _ | exact tt2 _ _ _ | exact tt4 _ _ _ | exact tt6 _ _ _ | exact tt7 _ _ | exact tt8 _ _ _ | exact tt9 _ _ _ | (simp; done) | (simp; omega)) ?_)
          refine sat_bf (b := decide (t = 0) && !decide (i = imax false (zs.length) (imax true 1 many)) || decide (t = 1) && !decide (i = zs.length)) (rr_end (by omega) (by omega)) ?_
          repeat (first | refine sat_self ?_ | refine sat_need (by first | rfl | exact tt1 _ _ | exact tt5 _ _ | exact tt2 _ _ _ | exact tt4 _ _ _ | exact tt6 _ _ _ | exact tt7 _ _ | exact tt8 _ _ _ | exact tt9 _ _ _ | (simp; done) | (simp; omega)) ?_)
          exact sat_ret ⟨IntKind.i64.wrap (t + 1), by omega, by omega, Ent.ren [0, 1, 2, 3, 4, 5, 6, 7, 11, 9] [9, 10, 11, 12, 13] rfl rfl rfl⟩
      · simp only [decide_eq_false_iff_not] at hlt
        obtain rfl : t = 2 := by omega
        refine sat_ret ?_
        repeat (first | refine sat_self ?_ | refine sat_need (by first | rfl | exact tt1 _ _ | exact tt5 _ _ | exact tt2 _ _ _ | exact tt4 _ _ _ | exact tt6 _ _ _ | exact tt7 _ _ | exact tt8 _ _ _ | exact tt9 _ _ _ | (simp; done) | (simp; omega)) ?_)
        exact sat_ret (fin_val (.inr rfl) rfl rfl rfl rfl)
    · have h0 : inR df dr = false := h0
      have hL : rayL f r n df dr = [] := by rw [ray_eq, h0]; rfl
      obtain ⟨zs, hzs⟩ : ∃ zs : List Int, zs = [] := ⟨_, rfl⟩
      rw [← hzs] at hL
      have hb : zs.length ≤ 8 := by rw [hzs]; simp
      refine sat_for hE 2 (fun t : Int => (rrT, rrH f r n df dr many zs t [])) (fun t => 0 ≤ t ∧ t ≤ 2) (fun t => 2 - t.toNat) 0 ((Ent.phan (b := 3) (j := 0) (o := .ints true .i64 []) rfl rfl ⟨by simp, by simp, trivial, rfl⟩ (blt_lt rfl)).trans (by rw [hzs]; exact Ent.ren [0, 1, 2, 3, 4, 5, 6, 7, 8, 9] [9, 10, 11, 12, 13] rfl rfl rfl)) ⟨by omega, by omega⟩ ?_
      rintro t ⟨ht1, ht2⟩
      refine sat_br (fun hlt => ?_) (fun hlt => ?_)
      · simp only [decide_eq_true_eq] at hlt
        have hnext : IntKind.i64.wrap (t + 1) = t + 1 := w64_id (by omega) (by omega)
        refine sat_range hE 2 11 [4, 5, 6, 7] [9, 10, 11, 12, 13, 14] (Ent.ren [0, 1, 2, 3, 4, 5, 6, 7, 8, 9, 10] [9, 10, 11, 12, 13, 14, 46] rfl rfl rfl) (ray_sq f r n df dr) rayV_len ray_ent rfl rfl rfl rfl rfl rfl
          (fun i hp' => hp' = rrH f r n df dr many zs t [.cells true [I i]] ∧ i ≤ zs.length ∧ (t = 0 → i = 0 ∨ i < many))
          (fun e hp' => e = .exit 2 ∧ ∃ i : Int, hp' = rrH f r n df dr many zs t [.cells true [I i]] ∧ t = 0 ∧ 1 ≤ i ∧ i ≤ zs.length ∧ many ≤ i ∧ (i = 1 ∨ i ≤ many)) ⟨rfl, by omega, by omega⟩ ?_ ?_ ?_ ?_ ?_
        · rintro i hp' ⟨rfl, _⟩; rfl
        · rintro i hp' ⟨_, j, rfl, _⟩; rfl
        · rintro i vs hp' hi ⟨rfl, hi2, hi3⟩
          obtain ⟨x, hx, rfl, x0, x1⟩ := rayL_get hi
          rw [hL] at hx
          have hil := (List.getElem?_eq_some_iff.1 hx).1
          have hxd := at_getD hx
          have hi1 : IntKind.i64.wrap ((i : Int) + 1) = ((i + 1 : Nat) : Int) := by rw [w64_id (by omega) (by omega)]; omega
          refine sat_ret ⟨rfl, ?_⟩
          repeat (first | refine sat_self ?_ | refine sat_need (by first | rfl | exact tt1 _ _ | exact tt5 _ _ | exact tt2 _ _ _ | exact tt4 _ _ _ | exact tt6 _ _ _ | exact tt7 _ _ | exact tt8 _ _ _ | exact tt9 _ _ _ | (simp; done) | (simp; omega)) ?_)
          refine sat_bf (b := decide ((zs.length : Int) ≤ i) || !decide (x = zs.getD (i : Int).toNat 0)) (by rw [Int.toNat_natCast, hxd]; simp; omega) ?_
          repeat (first | refine sat_self ?_ | refine sat_need (by first | rfl | exact tt1 _ _ | exact tt5 _ _ | exact tt2 _ _ _ | exact tt4 _ _ _ | exact tt6 _ _ _ | exact tt7 _ _ | exact tt8 _ _ _ | exact tt9 _ _ _ | (simp; done) | (simp; omega)) ?_)
          refine sat_br (fun h1 => ?_) (fun h1 => ?_)
          · have h1 : (decide (t = 0) && decide (many ≤ IntKind.i64.wrap ((i : Int) + 1))) = true := h1
            rw [hi1] at h1
            simp only [Bool.and_eq_true, decide_eq_true_eq] at h1
            exact sat_ret ⟨_, Ent.ren [0, 1, 2, 3, 4, 5, 6, 7, 8, 9, 10] [] rfl rfl rfl, rfl, IntKind.i64.wrap ((i : Int) + 1), rfl, h1.1, by omega, by omega, by omega, by have := hi3 h1.1; omega⟩
          · have h1 : (decide (t = 0) && decide (many ≤ IntKind.i64.wrap ((i : Int) + 1))) = false := h1
            rw [hi1] at h1
            simp only [Bool.and_eq_false_iff, decide_eq_false_iff_not] at h1
            exact sat_ret ⟨_, Ent.ren [0, 1, 2, 3, 4, 5, 6, 7, 8, 9, 10] [] rfl rfl rfl, by rw [← hi1]; rfl, by omega, by omega⟩
        · rintro hp' ⟨rfl, hi2, hi3⟩
          rw [rayV_length, hL] at *
          repeat (first | refine sat_self ?_ | refine sat_need (by first | rfl | exact tt1 _ _ | exact tt5 _ _ | exact tt2 _ _ _ | exact tt4 _ _ _ | exact tt6 _ _ _ | exact tt7 _ _ | exact tt8 _ _ _ | exact tt9 _ _ _ | (simp; done) | (simp; omega)) ?_)
          refine sat_bf (b := decide (t = 0) && !decide ((zs.length : Int) = imax false (zs.length) (imax true 1 many)) || decide (t = 1) && !decide ((zs.length : Int) = zs.length)) (rr_end (by omega) (by omega)) ?_
          repeat (first | refine sat_self ?_ | refine sat_need (by first | rfl | exact tt1 _ _ | exact tt5 _ _ | exact tt2 _ _ _ | exact tt4 _ _ _ | exact tt6 _ _ _ | exact tt7 _ _ | exact tt8 _ _ _ | exact tt9 _ _ _ | (simp; done) | (simp; omega)) ?_)
          exact sat_ret ⟨IntKind.i64.wrap (t + 1), by omega, by omega, Ent.ren [0, 1, 2, 3, 4, 5, 6, 7, 11, 9] [9, 10, 11, 12, 13] rfl rfl rfl⟩
        · rintro e hp' ⟨rfl, i, rfl, j1, j2, j3, j4, j5⟩
          repeat (first | refine sat_self ?_ | refine sat_need (by first | rfl | exact tt1 _ _ | exact tt5 _ _ | exact tt2 _ _ _ | exact tt4 _ _ _ | exact tt6 _ _ _ | exact tt7 _ _ | exact tt8 _ _ _ | exact tt9 _ _ _ | (simp; done) | (simp; omega)) ?_)
          refine sat_bf (b := decide (t = 0) && !decide (i = imax false (zs.length) (imax true 1 many)) || decide (t = 1) && !decide (i = zs.length)) (rr_end (by omega) (by omega)) ?_
          repeat (first | refine sat_self ?_ | refine sat_need (by first | rfl | exact tt1 _ _ | exact tt5 _ _ | exact tt2 _ _ _ | exact tt4 _ _ _ | exact tt6 _ _ _ | exact tt7 _ _ | exact tt8 _ _ _ | exact tt9 _ _ _ | (simp; done) | (simp; omega)) ?_)
          exact sat_ret ⟨IntKind.i64.wrap (t + 1), by omega, by omega, Ent.ren [0, 1, 2, 3, 4, 5, 6, 7, 11, 9] [9, 10, 11, 12, 13] rfl rfl rfl⟩
      · simp only [decide_eq_false_iff_not] at hlt
        obtain rfl : t = 2 := by omega
        refine sat_ret ?_
        repeat (first | refine sat_self ?_ | refine sat_need (by first | rfl | exact tt1 _ _ | exact tt5 _ _ | exact tt2 _ _ _ | exact tt4 _ _ _ | exact tt6 _ _ _ | exact tt7 _ _ | exact tt8 _ _ _ | exact tt9 _ _ _ | (simp; done) | (simp; omega)) ?_)
        exact sat_ret (fin_val (.inr rfl) rfl rfl rfl rfl)
  · cases e

end Go.Ab
