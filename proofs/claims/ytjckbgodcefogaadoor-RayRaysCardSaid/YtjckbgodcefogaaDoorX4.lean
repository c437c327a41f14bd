/- Contracts of the functions that the laws reach, or plain laws of what they compute (part X4); no condition. -/
import Derived.Test.YtjckbgodcefogaaDoorX3
import Derived.Test.YtjckbgodcefogaaDoorAbIter
namespace Go.Ab
open Go.Proofs
def rayGo (f r df dr : Int) : Nat → Int → Int → List Int
  | 0, _, _ => []
  | k + 1, x, y => bif decide ((atR f r (IntKind.i64.wrap (x + df)) (IntKind.i64.wrap (y + dr))).2 = 0) then (atR f r (IntKind.i64.wrap (x + df)) (IntKind.i64.wrap (y + dr))).1 :: rayGo f r df dr k (IntKind.i64.wrap (x + df)) (IntKind.i64.wrap (y + dr)) else []
def rayBig (df dr : Int) : Bool := decide (8 ≤ imax true (imax true (imax true df (IntKind.i64.wrap (0 - df))) dr) (IntKind.i64.wrap (0 - dr))) || decide (df < -8) || decide (dr < -8)
def rayL (f r n df dr : Int) : List Int := bif validB f r n && !(decide (df = 0) && decide (dr = 0)) && !rayBig df dr then rayGo f r df dr 9 (placeR f r n).1 (placeR f r n).2.1 else []
def rayV (f r n df dr : Int) : List (List V) := (rayL f r n df dr).map fun x => [I x]

theorem big_bd {df dr : Int} (h : rayBig df dr = false) : -7 ≤ df ∧ df ≤ 7 ∧ -7 ≤ dr ∧ dr ≤ 7 := by
  simp only [rayBig, Bool.or_eq_false_iff, decide_eq_false_iff_not] at h
  obtain ⟨⟨h1, h2⟩, h3⟩ := h
  have m : ∀ x y : Int, x ≤ imax true x y ∧ y ≤ imax true x y := fun x y => by
    unfold imax
    by_cases h : x < y <;> simp [h] <;> omega
  have e1 := m df (IntKind.i64.wrap (0 - df))
  have e2 := m (imax true df (IntKind.i64.wrap (0 - df))) dr
  have e3 := m (imax true (imax true df (IntKind.i64.wrap (0 - df))) dr) (IntKind.i64.wrap (0 - dr))
  have f1 : df ≤ 7 := by omega
  have f2 : dr ≤ 7 := by omega
  rw [w64_id (n := 0 - df) (by omega) (by omega)] at e1 e2 e3
  rw [w64_id (n := 0 - dr) (by omega) (by omega)] at e3
  rw [w64_id (n := 0 - df) (by omega) (by omega), w64_id (n := 0 - dr) (by omega) (by omega)] at h1
  omega
theorem place_bd {f r n : Int} (h : validB f r n = true) : 0 ≤ (placeR f r n).1 ∧ (placeR f r n).1 < f ∧ 0 ≤ (placeR f r n).2.1 ∧ (placeR f r n).2.1 < r ∧ (placeR f r n).1 = n % f ∧ (placeR f r n).2.1 = n / f := by
  have hv := valid_vs h
  obtain ⟨a1, a2, a3, a4⟩ := vs_bd hv
  have hm := mul_bd hv
  simp only [placeR, h, cond_true]
  simp only [validB, Bool.and_eq_true, decide_eq_true_eq] at h
  obtain ⟨⟨h1, h2⟩, h3⟩ := h
  rw [w64_mul hv] at h3
  have e1 : n.tmod f = n % f := Int.tmod_eq_emod_of_nonneg h2
  have e2 : n.tdiv f = n / f := Int.tdiv_eq_ediv_of_nonneg h2
  have b1 := Int.emod_nonneg n (show f ≠ 0 by omega)
  have b2 := Int.emod_lt_of_pos n (show 0 < f by omega)
  have b3 : 0 ≤ n / f := Int.ediv_nonneg h2 (by omega)
  have b4 : n / f < r := Int.ediv_lt_of_lt_mul (by omega) (by rw [Int.mul_comm]; exact h3)
  rw [e1, e2, w64_id (by omega) (by omega)]
  exact ⟨b1, b2, b3, b4, rfl, rfl⟩
theorem on_bd {f r x y : Int} (h : onB f r x y = true) : 0 ≤ x ∧ x < f ∧ 0 ≤ y ∧ y < r := by
  simp only [onB, Bool.and_eq_true, decide_eq_true_eq] at h
  obtain ⟨⟨⟨b1, b2⟩, b3⟩, b4⟩ := h
  exact ⟨b1, b2, b3, b4⟩

theorem ray_sq (f r n df dr : Int) : SqSound GG PP 49 [[I f, I r], [I n], [I df], [I dr]] (rayV f r n df dr) := by
  have hE := EE_ok (cts := [(50, c_place), (51, c_at)]) (inl := []) ⟨c_place_ok, c_at_ok, trivial⟩ trivial
  refine sq_sound hE Tryd.func49 rfl rfl rfl rfl fun nn l S0 ρc J ok => ?_
  refine YG.seq (YG.seg hE 2 ?_)
  repeat (first | refine sat_self ?_ | refine sat_need (by first | rfl | exact tt1 _ _ | exact tt5 _ _ | exact tt2 _ _ _ | exact tt4 _ _ _ | exact tt6 _ _ _ | exact tt7 _ _ | exact tt8 _ _ _ | exact tt9 _ _ _ | (simp; done) | (simp; omega)) ?_)
  refine sat_ret ?_
  refine YG.seq (YG.seg hE 2 ?_)
  repeat (first | refine sat_self ?_ | refine sat_need (by first | rfl | exact tt1 _ _ | exact tt5 _ _ | exact tt2 _ _ _ | exact tt4 _ _ _ | exact tt6 _ _ _ | exact tt7 _ _ | exact tt8 _ _ _ | exact tt9 _ _ _ | (simp; done) | (simp; omega)) ?_)
  refine sat_br (fun h1 => sat_ret ⟨.inr rfl, .inl ?_⟩) (fun h1 => sat_ret ?_)
  · have : rayV f r n df dr = [] := by
      cases hv : validB f r n <;> simp_all [rayV, rayL, placeR]
    rw [this]; rfl
  have hv : validB f r n = true := by cases hv : validB f r n <;> simp_all [placeR]
  have hnz : (decide (df = 0) && decide (dr = 0)) = false := by
    cases h : (decide (df = 0) && decide (dr = 0)) <;> simp_all
  refine YG.seq (YG.seg hE 2 ?_)
  repeat (first | refine sat_self ?_ | refine sat_need (by first | rfl | exact tt1 _ _ | exact tt5 _ _ | exact tt2 _ _ _ | exact tt4 _ _ _ | exact tt6 _ _ _ | exact tt7 _ _ | exact tt8 _ _ _ | exact tt9 _ _ _ | (simp; done) | (simp; omega)) ?_)
  refine sat_br (fun h2 => sat_ret ⟨.inr rfl, .inl ?_⟩) (fun h2 => sat_ret ?_)
  · have h2 : rayBig df dr = true := h2
    have : rayV f r n df dr = [] := by simp [rayV, rayL, h2]
    rw [this]; rfl
  have h2 : rayBig df dr = false := h2
  have hL : rayL f r n df dr = rayGo f r df dr 9 (placeR f r n).1 (placeR f r n).2.1 := by simp only [rayL, hv, hnz, h2]; rfl
  have hb := big_bd h2
  have hp := place_bd hv
  have hsz := vs_bd (valid_vs hv)
  have hdd : df ≠ 0 ∨ dr ≠ 0 := by
    by_cases e : df = 0
    · right; rintro rfl; simp [e] at hnz
    · exact .inl e
  refine YG.block (YG.loop (fun a : Nat × Int × Int => (some a.1, [(0, .yl 4), (1, .ptr 0 0 0), (2, .ptr 1 0 0), (3, .ptr 2 0 0), (4, .ptr 3 0 0), (6, I a.2.1), (7, I a.2.2)], hp0 [[I f, I r], [I n], [I df], [I dr]]))
    (fun a => 0 ≤ a.2.1 ∧ a.2.1 < f ∧ 0 ≤ a.2.2 ∧ a.2.2 < r ∧ (1 ≤ df → a.1 ≤ a.2.1) ∧ (df ≤ -1 → a.2.1 + a.1 ≤ 7) ∧ (1 ≤ dr → a.1 ≤ a.2.2) ∧ (dr ≤ -1 → a.2.2 + a.1 ≤ 7) ∧ a.1 ≤ (rayL f r n df dr).length ∧ (rayL f r n df dr).drop a.1 = rayGo f r df dr (9 - a.1) a.2.1 a.2.2)
    (fun a => 8 - a.1) (0, (placeR f r n).1, (placeR f r n).2.1) rfl (Ent.ren [0, 1, 2, 3, 4] [0, 1, 2, 3, 4, 6, 7] rfl rfl rfl) ?_ ?_)
  · exact ⟨hp.1, hp.2.1, hp.2.2.1, hp.2.2.2.1, by intro; simp; omega, by intro; simp; omega, by intro; simp; omega, by intro; simp; omega, Nat.zero_le _, by simpa using hL⟩
  rintro ⟨i, x, y⟩ ⟨i1, i2, i3, i4, i5, i6, i7, i8, i9, i10⟩
  dsimp only at i1 i2 i3 i4 i5 i6 i7 i8 i9 i10 ⊢
  have hi8 : i ≤ 7 := by omega
  refine YG.block (YG.seq (YG.seg hE 2 ?_))
  repeat (first | refine sat_self ?_ | refine sat_need (by first | rfl | exact tt1 _ _ | exact tt5 _ _ | exact tt2 _ _ _ | exact tt4 _ _ _ | exact tt6 _ _ _ | exact tt7 _ _ | exact tt8 _ _ _ | exact tt9 _ _ _ | (simp; done) | (simp; omega)) ?_)
  refine sat_ret ?_
  refine YG.seq (YG.seg hE 2 ?_)
  repeat (first | refine sat_self ?_ | refine sat_need (by first | rfl | exact tt1 _ _ | exact tt5 _ _ | exact tt2 _ _ _ | exact tt4 _ _ _ | exact tt6 _ _ _ | exact tt7 _ _ | exact tt8 _ _ _ | exact tt9 _ _ _ | (simp; done) | (simp; omega)) ?_)
  refine sat_ret ?_
  refine YG.seq (YG.yregAt ok 2 5 rfl rfl rfl ?_)
  refine sat_ret ?_
  have hgo : ∀ b, decide ((atR f r (IntKind.i64.wrap (x + df)) (IntKind.i64.wrap (y + dr))).2 = 0) = b → rayGo f r df dr (9 - i) x y = bif b then (atR f r (IntKind.i64.wrap (x + df)) (IntKind.i64.wrap (y + dr))).1 :: rayGo f r df dr (8 - i) (IntKind.i64.wrap (x + df)) (IntKind.i64.wrap (y + dr)) else [] := by
    intro b hb
    rw [show 9 - i = (8 - i) + 1 by omega]
    simp only [rayGo, hb]
  refine ⟨fun hg => ?_, fun hg => ?_⟩
  · have hg : decide ((atR f r (IntKind.i64.wrap (x + df)) (IntKind.i64.wrap (y + dr))).2 = 0) = true := by simpa using hg
    have he := of_decide_eq_true hg
    obtain ⟨p1, p2, p3, p4, p5⟩ := at_pos he
    have hon := on_bd p4
    have hwx : IntKind.i64.wrap (x + df) = x + df := w64_id (by omega) (by omega)
    have hwy : IntKind.i64.wrap (y + dr) = y + dr := w64_id (by omega) (by omega)
    have hr := hgo true hg
    rw [cond_true] at hr
    rw [hr] at i10
    have hlt : i < (rayL f r n df dr).length := by
      have := congrArg List.length i10
      simp only [List.length_drop, List.length_cons] at this
      omega
    have hat : (rayL f r n df dr)[i]? = some (atR f r (IntKind.i64.wrap (x + df)) (IntKind.i64.wrap (y + dr))).1 := by
      have := congrArg (fun l : List Int => l[0]?) i10
      simpa using this
    have hdr : (rayL f r n df dr).drop (i + 1) = rayGo f r df dr (8 - i) (IntKind.i64.wrap (x + df)) (IntKind.i64.wrap (y + dr)) := by
      have := congrArg (List.drop 1) i10
      simpa [List.drop_drop, Nat.add_comm] using this
    repeat (first | refine sat_self ?_ | refine sat_need (by first | rfl | exact tt1 _ _ | exact tt5 _ _ | exact tt2 _ _ _ | exact tt4 _ _ _ | exact tt6 _ _ _ | exact tt7 _ _ | exact tt8 _ _ _ | exact tt9 _ _ _ | (simp; done) | (simp; omega)) ?_)
    refine sat_ret ?_
    refine ⟨i, [I (atR f r (IntKind.i64.wrap (x + df)) (IntKind.i64.wrap (y + dr))).1], [0, 1, 2, 3, 4, 6, 7, 59], rfl, by simp [rayV, hat], rfl, rfl, rfl, rfl, fun b => ?_⟩
    cases b with
    | true =>
      refine sat_ret ?_
      refine YG.seg hE 2 ?_
      refine sat_ret ⟨(i + 1, IntKind.i64.wrap (x + df), IntKind.i64.wrap (y + dr)), ?_, ?_, rfl, Ent.ren [0, 1, 2, 3, 4] [0, 1, 2, 3, 4, 6, 7] rfl rfl rfl⟩
      · dsimp only
        rw [hwx, hwy] at hon
        rw [hdr, hwx, hwy, show 9 - (i + 1) = 8 - i by omega]
        refine ⟨hon.1, hon.2.1, hon.2.2.1, hon.2.2.2, ?_, ?_, ?_, ?_, by omega, rfl⟩ <;> intro h <;> push_cast <;> omega
      · dsimp only; omega
    | false =>
      refine sat_ret ?_
      refine YG.seg hE 2 ?_
      exact sat_ret ⟨.inr rfl, .inr rfl⟩
  · have hg : decide ((atR f r (IntKind.i64.wrap (x + df)) (IntKind.i64.wrap (y + dr))).2 = 0) = false := by simpa using hg
    have hr := hgo false hg
    rw [cond_false] at hr
    rw [hr] at i10
    have hlen : i = (rayL f r n df dr).length := by
      have := congrArg List.length i10
      simp only [List.length_drop, List.length_nil] at this
      omega
    refine sat_ret ?_
    refine YG.seg hE 2 ?_
    exact sat_ret ⟨.inr rfl, .inl (by simp [rayV, ← hlen])⟩
end Go.Ab
