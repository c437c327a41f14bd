/- Contracts of the functions that the laws reach, and plain laws of what they compute (text F2); no condition. -/
import Derived.Test.YtjckbgodcefogaaDoorF1
namespace Go.Ab
open Go.Proofs
/-! ### caissaref04: lines and reaches -/
theorem hf_of {f : Int} (h : (!decide (f = 0)) = true) : ¬ f = 0 := by simpa using h
def absI (n : Int) : Int := bif decide (n < 0) then IntKind.i64.wrap (0 - n) else n
def lineB (f a b : Int) : Bool := decide (a = b) || (!decide (IntKind.i64.wrap (b.tmod f - a.tmod f) = 0) && !decide (IntKind.i64.wrap (IntKind.i64.wrap (b.tdiv f) - IntKind.i64.wrap (a.tdiv f)) = 0) && !decide (IntKind.i64.wrap (b.tmod f - a.tmod f) = IntKind.i64.wrap (IntKind.i64.wrap (b.tdiv f) - IntKind.i64.wrap (a.tdiv f))) && !decide (IntKind.i64.wrap (IntKind.i64.wrap (b.tmod f - a.tmod f) + IntKind.i64.wrap (IntKind.i64.wrap (b.tdiv f) - IntKind.i64.wrap (a.tdiv f))) = 0))
def lineR (f a b : Int) : Int × Int × Bool := bif lineB f a b then (0, 0, false) else (sgn (IntKind.i64.wrap (b.tmod f - a.tmod f)), sgn (IntKind.i64.wrap (IntKind.i64.wrap (b.tdiv f) - IntKind.i64.wrap (a.tdiv f))), true)
def c_rsign : CF
  | [.int .i64 n], [] => some (true, .int .i64 (sgn n), [])
  | _, _ => none
theorem c_rsign_ok : CtOk GG PP (57, c_rsign) := by
  refine ct_mk Tryd.func57 (by kernel_rfl) rfl fun a0 h0 c0 v0 N0 e hc => ?_
  unfold c_rsign at e
  split at e
  · rename_i n
    cases e
    have hE := EE_ok (cts := []) (inl := []) trivial trivial
    refine fn_sound hE 2 Tryd.func57 rfl rfl ?_
    repeat' first | (first | refine sat_self ?_ | refine sat_need (by first | rfl | exact tt1 _ _ | exact tt5 _ _ | exact tt2 _ _ _ | exact tt4 _ _ _ | exact tt6 _ _ _ | exact tt7 _ _ | exact tt8 _ _ _ | exact tt9 _ _ _ | (simp; done) | (simp; omega)) ?_) | refine sat_br (fun h => ?_) (fun h => ?_)
    all_goals exact sat_ret (fin_val (.inr rfl) rfl rfl rfl (by first | rfl | (simp only [sgn, *, cond_true, cond_false]; done) | (simp only [sgn, *, cond_true, cond_false, Bool.not_true, Bool.not_false, Bool.and_true, Bool.true_and, Bool.and_false, Bool.false_and, Bool.or_true, Bool.true_or, Bool.or_false, Bool.false_or]; done) | simp_all [sgn]))
  · cases e

def c_rabs : CF
  | [.int .i64 n], [] => some (true, .int .i64 (absI n), [])
  | _, _ => none
theorem c_rabs_ok : CtOk GG PP (106, c_rabs) := by
  refine ct_mk Tryd.func106 (by kernel_rfl) rfl fun a0 h0 c0 v0 N0 e hc => ?_
  unfold c_rabs at e
  split at e
  · rename_i n
    cases e
    have hE := EE_ok (cts := []) (inl := []) trivial trivial
    refine fn_sound hE 2 Tryd.func106 rfl rfl ?_
    repeat' first | (first | refine sat_self ?_ | refine sat_need (by first | rfl | exact tt1 _ _ | exact tt5 _ _ | exact tt2 _ _ _ | exact tt4 _ _ _ | exact tt6 _ _ _ | exact tt7 _ _ | exact tt8 _ _ _ | exact tt9 _ _ _ | (simp; done) | (simp; omega)) ?_) | refine sat_br (fun h => ?_) (fun h => ?_)
    all_goals exact sat_ret (fin_val (.inr rfl) rfl rfl rfl (by first | rfl | (simp only [absI, *, cond_true, cond_false]; done) | (simp only [absI, *, cond_true, cond_false, Bool.not_true, Bool.not_false, Bool.and_true, Bool.true_and, Bool.and_false, Bool.false_and, Bool.or_true, Bool.true_or, Bool.or_false, Bool.false_or]; done) | simp_all [absI]))
  · cases e

def c_Line : CF
  | [.agg [.int .i64 f, .int .i64 _r], .int .i64 a, .int .i64 b], [] => some (!decide (f = 0), .tup [I (lineR f a b).1, I (lineR f a b).2.1, Bb (lineR f a b).2.2], [])
  | _, _ => none
theorem c_Line_ok : CtOk GG PP (19, c_Line) := by
  refine ct_mk Tryd.func19 (by kernel_rfl) rfl fun a0 h0 c0 v0 N0 e hc => ?_
  unfold c_Line at e
  split at e
  · rename_i f r a b
    cases e
    have hE := EE_ok (cts := [(47, c_Place), (57, c_rsign)]) (inl := []) ⟨c_Place_ok, c_rsign_ok, trivial⟩ trivial
    refine fn_sound hE 2 Tryd.func19 rfl rfl ?_
    have hf := hf_of hc
    repeat (first | refine sat_self ?_ | refine sat_need (by first | rfl | exact tt1 _ _ | exact tt5 _ _ | exact tt2 _ _ _ | exact tt4 _ _ _ | exact tt6 _ _ _ | exact tt7 _ _ | exact tt8 _ _ _ | exact tt9 _ _ _ | (simp; done) | (simp; omega)) ?_)
    refine sat_br (fun h => ?_) (fun h => ?_)
    · have h : lineB f a b = true := h
      exact sat_ret (fin_val (.inr rfl) rfl rfl rfl (by rw [lineR, h]; rfl))
    · have h : lineB f a b = false := h
      repeat (first | refine sat_self ?_ | refine sat_need (by first | rfl | exact tt1 _ _ | exact tt5 _ _ | exact tt2 _ _ _ | exact tt4 _ _ _ | exact tt6 _ _ _ | exact tt7 _ _ | exact tt8 _ _ _ | exact tt9 _ _ _ | (simp; done) | (simp; omega)) ?_)
      exact sat_ret (fin_val (.inr rfl) rfl rfl rfl (by rw [lineR, h]; rfl))
  · cases e

def c_Fwd : CF
  | [.bool b], [] => some (true, .int .i64 (fwd b), [])
  | _, _ => none
theorem c_Fwd_ok : CtOk GG PP (65, c_Fwd) := by
  refine ct_mk Tryd.func65 (by kernel_rfl) rfl fun a0 h0 c0 v0 N0 e hc => ?_
  unfold c_Fwd at e
  split at e
  · rename_i b
    cases e
    have hE := EE_ok (cts := []) (inl := []) trivial trivial
    refine fn_sound hE 2 Tryd.func65 rfl rfl ?_
    repeat' first | (first | refine sat_self ?_ | refine sat_need (by first | rfl | exact tt1 _ _ | exact tt5 _ _ | exact tt2 _ _ _ | exact tt4 _ _ _ | exact tt6 _ _ _ | exact tt7 _ _ | exact tt8 _ _ _ | exact tt9 _ _ _ | (simp; done) | (simp; omega)) ?_) | refine sat_br (fun h => ?_) (fun h => ?_)
    all_goals exact sat_ret (fin_val (.inr rfl) rfl rfl rfl (by first | rfl | (simp only [fwd, *, cond_true, cond_false]; done) | (simp only [fwd, *, cond_true, cond_false, Bool.not_true, Bool.not_false, Bool.and_true, Bool.true_and, Bool.and_false, Bool.false_and, Bool.or_true, Bool.true_or, Bool.or_false, Bool.false_or]; done) | simp_all [fwd]))
  · cases e

def secR (r : Int) (bl : Bool) : Int := bif bl then IntKind.i64.wrap (r - 2) else 1
def distR (f a b : Int) : Int := bif decide (absI (IntKind.i64.wrap (IntKind.i64.wrap (a.tdiv f) - IntKind.i64.wrap (b.tdiv f))) < absI (IntKind.i64.wrap (a.tmod f - b.tmod f))) then absI (IntKind.i64.wrap (a.tmod f - b.tmod f)) else absI (IntKind.i64.wrap (IntKind.i64.wrap (a.tdiv f) - IntKind.i64.wrap (b.tdiv f)))
def idxL (b : Int) : List Int → Nat
  | [] => 0
  | x :: l => bif decide (x = b) then 0 else idxL b l + 1
def hasL (b : Int) : List Int → Bool
  | [] => false
  | x :: l => decide (x = b) || hasL b l
/-- the ray and how much of it lies between -/
def betwZ (f r a b : Int) : List Int := refRay f r a (lineR f a b).1 (lineR f a b).2.1
def betwL (f r a b : Int) : List Int := bif hasL b (betwZ f r a b) then (betwZ f r a b).take (idxL b (betwZ f r a b)) else []
def freeB (s : Int) : List Int → Bool
  | [] => true
  | x :: l => bif hasB s x then false else freeB s l
theorem freeB_at {s : Int} {l : List Int} {i : Nat} (h : i < l.length) : freeB s (l.drop i) = bif hasB s (l.getD i 0) then false else freeB s (l.drop (i + 1)) := by
  rw [List.drop_eq_getElem_cons h, freeB]; simp [List.getD, h]
theorem hasL_at {b : Int} {l : List Int} {i : Nat} (h : i < l.length) : hasL b (l.drop i) = (decide (l.getD i 0 = b) || hasL b (l.drop (i + 1))) := by
  rw [List.drop_eq_getElem_cons h, hasL]; simp [List.getD, h]
theorem idxL_at {b : Int} {l : List Int} {i : Nat} (h : i < l.length) : idxL b (l.drop i) = bif decide (l.getD i 0 = b) then 0 else idxL b (l.drop (i + 1)) + 1 := by
  rw [List.drop_eq_getElem_cons h, idxL]; simp [List.getD, h]
def c_Second : CF
  | [.agg [.int .i64 _f, .int .i64 r], .bool bl], [] => some (true, .int .i64 (secR r bl), [])
  | _, _ => none
theorem c_Second_ok : CtOk GG PP (66, c_Second) := by
  refine ct_mk Tryd.func66 (by kernel_rfl) rfl fun a0 h0 c0 v0 N0 e hc => ?_
  unfold c_Second at e
  split at e
  · rename_i f r bl
    cases e
    have hE := EE_ok (cts := []) (inl := []) trivial trivial
    refine fn_sound hE 2 Tryd.func66 rfl rfl ?_
    repeat' first | (first | refine sat_self ?_ | refine sat_need (by first | rfl | exact tt1 _ _ | exact tt5 _ _ | exact tt2 _ _ _ | exact tt4 _ _ _ | exact tt6 _ _ _ | exact tt7 _ _ | exact tt8 _ _ _ | exact tt9 _ _ _ | (simp; done) | (simp; omega)) ?_) | refine sat_br (fun h => ?_) (fun h => ?_)
    all_goals exact sat_ret (fin_val (.inr rfl) rfl rfl rfl (by first | rfl | (simp only [secR, *, cond_true, cond_false]; done) | (simp only [secR, *, cond_true, cond_false, Bool.not_true, Bool.not_false, Bool.and_true, Bool.true_and, Bool.and_false, Bool.false_and, Bool.or_true, Bool.true_or, Bool.or_false, Bool.false_or]; done) | simp_all [secR]))
  · cases e

def c_Dist : CF
  | [.agg [.int .i64 f, .int .i64 _r], .int .i64 a, .int .i64 b], [] => some (!decide (f = 0), .int .i64 (distR f a b), [])
  | _, _ => none
theorem c_Dist_ok : CtOk GG PP (92, c_Dist) := by
  refine ct_mk Tryd.func92 (by kernel_rfl) rfl fun a0 h0 c0 v0 N0 e hc => ?_
  unfold c_Dist at e
  split at e
  · rename_i f r a b
    cases e
    have hE := EE_ok (cts := [(47, c_Place), (106, c_rabs)]) (inl := []) ⟨c_Place_ok, c_rabs_ok, trivial⟩ trivial
    refine fn_sound hE 2 Tryd.func92 rfl rfl ?_
    have hf := hf_of hc
    repeat (first | refine sat_self ?_ | refine sat_need (by first | rfl | exact tt1 _ _ | exact tt5 _ _ | exact tt2 _ _ _ | exact tt4 _ _ _ | exact tt6 _ _ _ | exact tt7 _ _ | exact tt8 _ _ _ | exact tt9 _ _ _ | (simp; done) | (simp; omega)) ?_)
    refine sat_br (fun h => ?_) (fun h => ?_)
    all_goals
      repeat (first | refine sat_self ?_ | refine sat_need (by first | rfl | exact tt1 _ _ | exact tt5 _ _ | exact tt2 _ _ _ | exact tt4 _ _ _ | exact tt6 _ _ _ | exact tt7 _ _ | exact tt8 _ _ _ | exact tt9 _ _ _ | (simp; done) | (simp; omega)) ?_)
      exact sat_ret (fin_val (.inr rfl) rfl rfl rfl (by simp only [distR, *, cond_true, cond_false]))
  · cases e

def c_free : CF
  | [.sl 0 0 len none, .int .u64 s], [.ints false .i64 zs] => some (decide (len = zs.length) && decide (zs.length ≤ 1000000), .bool (freeB s zs), [])
  | _, _ => none
theorem c_free_ok : CtOk GG PP (93, c_free) := by
  refine ct_mk Tryd.func93 (by kernel_rfl) rfl fun a0 h0 c0 v0 N0 e hc => ?_
  unfold c_free at e
  split at e
  · rename_i len s zs
    cases e
    have hE := EE_ok (cts := [(58, c_Has)]) (inl := []) ⟨c_Has_ok, trivial⟩ trivial
    refine fn_sound hE 2 Tryd.func93 rfl rfl ?_
    simp only [Bool.and_eq_true, decide_eq_true_eq] at hc
    obtain ⟨rfl, hc2⟩ := hc
    refine sat_idx hE 2 (fun i (_ : Unit) => ([(0, .sl 0 0 zs.length none), (1, U s), (5, I i)], [.ints false .i64 zs])) zs.length (fun j _ => freeB s (zs.drop j) = freeB s zs) () (by omega) (Ent.ren [0] [0, 1, 5] rfl rfl rfl) rfl ?_
    intro j i _ hij hj hz
    refine sat_br (fun hlt => ?_) (fun hlt => ?_)
    · have hlt' : j < zs.length := by simp at hlt; omega
      rw [freeB_at hlt', show j = i.toNat by omega] at hz
      refine sat_need (by simp; omega) ?_
      repeat (first | refine sat_self ?_ | refine sat_need (by first | rfl | exact tt1 _ _ | exact tt5 _ _ | exact tt2 _ _ _ | exact tt4 _ _ _ | exact tt6 _ _ _ | exact tt7 _ _ | exact tt8 _ _ _ | exact tt9 _ _ _ | (simp; done) | (simp; omega)) ?_)
      refine sat_br (fun hon => ?_) (fun hon => ?_)
      · have hon : hasB s (zs.getD i.toNat 0) = true := hon
        rw [hon] at hz
        exact sat_ret (sat_ret (fin_val (.inr rfl) rfl rfl rfl (by rw [← hz]; rfl)))
      · have hon : hasB s (zs.getD i.toNat 0) = false := hon
        rw [hon] at hz
        exact sat_ret ⟨hlt', (), by rw [← hz, show i.toNat = j by omega]; rfl, Ent.ren [0] [0, 1, 5] rfl rfl rfl⟩
    · obtain rfl : j = zs.length := by simp at hlt; omega
      rw [List.drop_length] at hz
      exact sat_ret (sat_ret (fin_val (.inr rfl) rfl rfl rfl (by rw [← hz]; rfl)))
  · cases e

end Go.Ab

namespace Go.Ab
open Go.Proofs
theorem idxL_le (b : Int) (l : List Int) : idxL b l ≤ l.length := by
  induction l with
  | nil => simp [idxL]
  | cons x l ih => rw [idxL]; cases decide (x = b) <;> simp <;> omega
theorem betwL_len (f r a b : Int) : (betwL f r a b).length = bif hasL b (betwZ f r a b) then idxL b (betwZ f r a b) else 0 := by
  unfold betwL
  have := idxL_le b (betwZ f r a b)
  cases hasL b (betwZ f r a b) <;> simp; omega
/-- the block in which what lies between is laid -/
def betwO (f r a b : Int) : List Int := bif hasL b (betwZ f r a b) then betwZ f r a b else []
theorem betwO_take (f r a b : Int) : ((betwO f r a b).drop 0).take (betwL f r a b).length = betwL f r a b := by
  rw [betwL_len]
  unfold betwO betwL
  cases hasL b (betwZ f r a b) <;> simp
theorem betwO_len (f r a b : Int) : (betwO f r a b).length ≤ 8 := by
  unfold betwO betwZ
  cases hasL b _ <;> simp [refRay_len]
theorem betwL_len8 (f r a b : Int) : (betwL f r a b).length ≤ 8 := by
  rw [← betwO_take, List.length_take]
  have := betwO_len f r a b
  simp; omega
def c_Between : CF
  | [.agg [.int .i64 f, .int .i64 r], .int .i64 a, .int .i64 b], [] => some (!decide (f = 0), .sl 0 0 (betwL f r a b).length none, [.ints true .i64 (betwO f r a b)])
  | _, _ => none
theorem c_Between_ok : CtOk GG PP (21, c_Between) := by
  refine ct_mk Tryd.func21 (by kernel_rfl) rfl fun a0 h0 c0 v0 N0 e hc => ?_
  unfold c_Between at e
  split at e
  · rename_i f r a b
    cases e
    have hE := EE_ok (cts := [(19, c_Line), (13, c_refRay)]) (inl := []) ⟨c_Line_ok, c_refRay_ok, trivial⟩ trivial
    refine fn_soundE hE 2 Tryd.func21 rfl rfl ?_
    have hf := hf_of hc
    repeat (first | refine sat_self ?_ | refine sat_need (by first | rfl | exact tt1 _ _ | exact tt5 _ _ | exact tt2 _ _ _ | exact tt4 _ _ _ | exact tt6 _ _ _ | exact tt7 _ _ | exact tt8 _ _ _ | exact tt9 _ _ _ | exact tt10 _ _ | exact tt11 _ _ _ | (simp; done) | (simp; omega)) ?_)
    obtain ⟨zs, hzs⟩ : ∃ zs, refRay f r a (lineR f a b).1 (lineR f a b).2.1 = zs := ⟨_, rfl⟩
    have hlen := refRay_len f r a (lineR f a b).1 (lineR f a b).2.1
    rw [hzs] at hlen ⊢
    have hZ : betwZ f r a b = zs := hzs
    refine sat_idx hE 2 (fun i (_ : Unit) => ([(2, I b), (6, .nils), (10, .sl 1 0 zs.length none), (11, I i)], [.cells true [I f, I r], .ints true .i64 zs])) zs.length (fun j _ => hasL b (zs.drop j) = hasL b zs ∧ (hasL b zs = true → idxL b (zs.drop j) + j = idxL b zs)) () (by omega) (Ent.ren [0, 1] [2, 6, 10, 11] rfl rfl rfl) ⟨rfl, fun _ => rfl⟩ ?_
    intro j i _ hij hj hz
    obtain ⟨hz1, hz2⟩ := hz
    refine sat_br (fun hlt => ?_) (fun hlt => ?_)
    · have hlt' : j < zs.length := by simp at hlt; omega
      rw [hasL_at hlt', show j = i.toNat by omega] at hz1
      rw [idxL_at hlt', show j = i.toNat by omega] at hz2
      refine sat_need (by simp; omega) ?_
      repeat (first | refine sat_self ?_ | refine sat_need (by first | rfl | exact tt1 _ _ | exact tt5 _ _ | exact tt2 _ _ _ | exact tt4 _ _ _ | exact tt6 _ _ _ | exact tt7 _ _ | exact tt8 _ _ _ | exact tt9 _ _ _ | exact tt10 _ _ | exact tt11 _ _ _ | (simp; done) | (simp; omega)) ?_)
      refine sat_br (fun hon => ?_) (fun hon => ?_)
      · have hon : decide (zs.getD i.toNat 0 = b) = true := hon
        rw [hon] at hz1 hz2
        have hx : hasL b zs = true := hz1.symm
        have hy : i.toNat = idxL b zs := by have := hz2 hx; simpa using this
        refine sat_need (by simp; omega) ?_
        refine sat_ret (sat_ret (fin_0 (fin_new 1 (.inr rfl) rfl rfl rfl rfl (by simp only [betwO, hZ, hx, cond_true]; rfl) (by rw [betwL_len, hZ, hx, cond_true, ← hy]; rfl))))
      · have hon : decide (zs.getD i.toNat 0 = b) = false := hon
        rw [hon, Bool.false_or] at hz1
        rw [hon, cond_false] at hz2
        exact sat_ret ⟨hlt', (), ⟨by rw [← hz1, show i.toNat = j by omega], fun h => by have := hz2 h; rw [show i.toNat = j by omega] at this; omega⟩, Ent.ren [0, 1] [2, 6, 10, 11] rfl rfl rfl⟩
    · obtain rfl : j = zs.length := by simp at hlt; omega
      rw [List.drop_length] at hz1
      have hx : hasL b zs = false := hz1.symm
      refine sat_ret (sat_ret ?_)
      refine fin_e ((Ent.phanT (t := 6) (o := .ints true .i64 []) rfl ⟨by simp, by simp, trivial, rfl⟩ (blt_lt rfl))) (fin_new 2 (.inr rfl) rfl rfl rfl rfl (by simp only [betwO, hZ, hx, cond_false]; rfl) (by rw [betwL_len, hZ, hx]; rfl))
  · cases e

def reachesB (f r kd a b occ : Int) : Bool :=
  bif decide (kd = 2) then decide (IntKind.i64.wrap (IntKind.i64.wrap (IntKind.i64.wrap (b.tmod f - a.tmod f) * IntKind.i64.wrap (b.tmod f - a.tmod f)) + IntKind.i64.wrap (IntKind.i64.wrap (IntKind.i64.wrap (b.tdiv f) - IntKind.i64.wrap (a.tdiv f)) * IntKind.i64.wrap (IntKind.i64.wrap (b.tdiv f) - IntKind.i64.wrap (a.tdiv f)))) = 5)
  else bif decide (kd = 6) then decide (distR f a b = 1)
  else (lineR f a b).2.2 && (decide (kd = 5) || ((decide (IntKind.i64.wrap (b.tmod f - a.tmod f) = 0) || decide (IntKind.i64.wrap (IntKind.i64.wrap (b.tdiv f) - IntKind.i64.wrap (a.tdiv f)) = 0)) == decide (kd = 4))) && freeB occ (betwL f r a b)
def c_Reaches : CF
  | [.agg [.int .i64 f, .int .i64 r], .int .i8 kd, .int .i64 a, .int .i64 b, .int .u64 occ], [] => some (!decide (f = 0), .bool (reachesB f r kd a b occ), [])
  | _, _ => none
theorem c_Reaches_ok : CtOk GG PP (62, c_Reaches) := by
  refine ct_mk Tryd.func62 (by kernel_rfl) rfl fun a0 h0 c0 v0 N0 e hc => ?_
  unfold c_Reaches at e
  split at e
  · rename_i f r kd a b occ
    cases e
    have hE := EE_ok (cts := [(47, c_Place), (92, c_Dist), (19, c_Line), (21, c_Between), (93, c_free)]) (inl := []) ⟨c_Place_ok, c_Dist_ok, c_Line_ok, c_Between_ok, c_free_ok, trivial⟩ trivial
    refine fn_sound hE 2 Tryd.func62 rfl rfl ?_
    have hf := hf_of hc
    repeat (first | refine sat_self ?_ | refine sat_need (by first | rfl | exact tt1 _ _ | exact tt5 _ _ | exact tt2 _ _ _ | exact tt4 _ _ _ | exact tt6 _ _ _ | exact tt7 _ _ | exact tt8 _ _ _ | exact tt9 _ _ _ | exact tt10 _ _ | exact tt11 _ _ _ | (simp; done) | (simp; omega)) ?_)
    refine sat_br (fun h1 => ?_) (fun h1 => ?_)
    · repeat (first | refine sat_self ?_ | refine sat_need (by first | rfl | exact tt1 _ _ | exact tt5 _ _ | exact tt2 _ _ _ | exact tt4 _ _ _ | exact tt6 _ _ _ | exact tt7 _ _ | exact tt8 _ _ _ | exact tt9 _ _ _ | exact tt10 _ _ | exact tt11 _ _ _ | (simp; done) | (simp; omega)) ?_)
      exact sat_ret (fin_val (.inr rfl) rfl rfl rfl (by rw [reachesB, h1]; rfl))
    refine sat_br (fun h2 => ?_) (fun h2 => ?_)
    · repeat (first | refine sat_self ?_ | refine sat_need (by first | rfl | exact tt1 _ _ | exact tt5 _ _ | exact tt2 _ _ _ | exact tt4 _ _ _ | exact tt6 _ _ _ | exact tt7 _ _ | exact tt8 _ _ _ | exact tt9 _ _ _ | exact tt10 _ _ | exact tt11 _ _ _ | (simp; done) | (simp; omega)) ?_)
      exact sat_ret (fin_val (.inr rfl) rfl rfl rfl (by rw [reachesB, h1, h2]; rfl))
    have ht := betwO_take f r a b
    have hl := betwL_len8 f r a b
    repeat (first | refine sat_self ?_ | refine sat_need (by first | rfl | exact tt1 _ _ | exact tt5 _ _ | exact tt2 _ _ _ | exact tt4 _ _ _ | exact tt6 _ _ _ | exact tt7 _ _ | exact tt8 _ _ _ | exact tt9 _ _ _ | exact tt10 _ _ | exact tt11 _ _ _ | (simp; done) | (simp; omega)) ?_)
    refine sat_br (fun h3 => ?_) (fun h3 => ?_)
    · repeat (first | refine sat_self ?_ | refine sat_need (by first | rfl | exact tt1 _ _ | exact tt5 _ _ | exact tt2 _ _ _ | exact tt4 _ _ _ | exact tt6 _ _ _ | exact tt7 _ _ | exact tt8 _ _ _ | exact tt9 _ _ _ | exact tt10 _ _ | exact tt11 _ _ _ | (simp; done) | (simp; omega)) ?_)
      refine sat_need (by rw [ht]; simp; omega) ?_
      repeat (first | refine sat_self ?_ | refine sat_need (by first | rfl | exact tt1 _ _ | exact tt5 _ _ | exact tt2 _ _ _ | exact tt4 _ _ _ | exact tt6 _ _ _ | exact tt7 _ _ | exact tt8 _ _ _ | exact tt9 _ _ _ | exact tt10 _ _ | exact tt11 _ _ _ | (simp; done) | (simp; omega)) ?_)
      exact sat_ret (fin_val (.inr rfl) rfl rfl rfl (by
        show V.bool (freeB occ (((betwO f r a b).drop 0).take (betwL f r a b).length)) = _
        rw [ht, reachesB, h1, h2, cond_false, cond_false, h3]; rfl))
    · repeat (first | refine sat_self ?_ | refine sat_need (by first | rfl | exact tt1 _ _ | exact tt5 _ _ | exact tt2 _ _ _ | exact tt4 _ _ _ | exact tt6 _ _ _ | exact tt7 _ _ | exact tt8 _ _ _ | exact tt9 _ _ _ | exact tt10 _ _ | exact tt11 _ _ _ | (simp; done) | (simp; omega)) ?_)
      exact sat_ret (fin_val (.inr rfl) rfl rfl rfl (by rw [reachesB, h1, h2, cond_false, cond_false, h3]; rfl))
  · cases e

def reachesC (f r kd a occ b : Int) : Bool := reachesB f r kd a b occ
def c_Reach : CF
  | [.agg [.int .i64 f, .int .i64 r], .int .i8 kd, .int .i64 a, .int .u64 occ], [] => some (vsB f r, .sl 0 0 (filtB (reachesC f r kd a occ) id ((f * r).toNat)).length none, [.ints true .i64 (filtB (reachesC f r kd a occ) id ((f * r).toNat))])
  | _, _ => none
theorem c_Reach_ok : CtOk GG PP (24, c_Reach) := by
  refine ct_mk Tryd.func24 (by kernel_rfl) rfl fun a0 h0 c0 v0 N0 e hc => ?_
  unfold c_Reach at e
  split at e
  · rename_i f r kd a occ
    cases e
    have hE := EE_ok (cts := [(62, c_Reaches)]) (inl := []) ⟨c_Reaches_ok, trivial⟩ trivial
    refine fn_sound hE 2 Tryd.func24 rfl rfl ?_
    have hm := mul_bd hc
    have hw := w64_mul hc
    have hf := vs_bd hc
    have hf0 : ¬ f = 0 := by omega
    refine sat_idx hE 2 (fun (i : Int) (zs : List Int) => ([(1, .int .i8 kd), (2, I a), (3, U occ), (4, .ptr 0 0 0), (9, .sl 1 0 zs.length none), (10, I i)], [.cells true [I f, I r], .ints true .i64 zs])) ((f * r).toNat) (fun j zs => zs = filtB (reachesC f r kd a occ) id j) [] (by omega) ((Ent.phanT (t := 9) (o := .ints true .i64 []) rfl ⟨by simp, by simp, trivial, rfl⟩ (blt_lt rfl)).trans (Ent.ren [0, 1] [1, 2, 3, 4, 9, 10] rfl rfl rfl)) rfl ?_
    intro j i zs hij hj hz
    have hb := filtB_len (reachesC f r kd a occ) id j
    rw [← hz] at hb
    refine sat_br (fun hlt => ?_) (fun hlt => ?_)
    · have hlt' : j < (f * r).toNat := by simp only [decide_eq_true_eq] at hlt; rw [hw] at hlt; omega
      have hs := filtB_succ (reachesC f r kd a occ) id j
      rw [← hz, ← hij] at hs
      repeat (first | refine sat_self ?_ | refine sat_need (by first | rfl | exact tt1 _ _ | exact tt5 _ _ | exact tt2 _ _ _ | exact tt4 _ _ _ | exact tt6 _ _ _ | exact tt7 _ _ | exact tt8 _ _ _ | exact tt9 _ _ _ | exact tt10 _ _ | exact tt11 _ _ _ | (simp; done) | (simp; omega)) ?_)
      refine sat_br (fun hon => ?_) (fun hon => ?_)
      · have hon : reachesC f r kd a occ i = true := hon
        rw [hon, cond_true] at hs
        refine sat_need (b := decide (zs.length = zs.length) && decide ((zs.length + 1) * 8 ≤ 140737488355328) && true) (by simp; omega) ?_
        exact sat_ret ⟨hlt', zs ++ [id i], hs.symm, Ent.ren [0, 3] [1, 2, 3, 4, 9, 10] rfl rfl rfl⟩
      · have hon : reachesC f r kd a occ i = false := hon
        rw [hon, cond_false] at hs
        exact sat_ret ⟨hlt', zs, hs.symm, Ent.ren [0, 1] [1, 2, 3, 4, 9, 10] rfl rfl rfl⟩
    · obtain rfl : j = (f * r).toNat := by simp only [decide_eq_false_iff_not] at hlt; rw [hw] at hlt; omega
      subst hz
      refine sat_ret (sat_ret ((fin_new 1 (.inr rfl) rfl rfl rfl rfl rfl rfl)))
  · cases e

end Go.Ab

namespace Go.Ab
open Go.Proofs
/-! ### plain laws of rays, in files and ranks -/
abbrev px (f n : Int) : Int := n.tmod f
abbrev py (f n : Int) : Int := n.tdiv f
theorem pl_bd {f r n : Int} (h : validB f r n = true) : 0 ≤ px f n ∧ px f n < f ∧ 0 ≤ py f n ∧ py f n < r ∧ IntKind.i64.wrap (py f n) = py f n ∧ 3 ≤ f ∧ f ≤ 8 ∧ 3 ≤ r ∧ r ≤ 8 := by
  obtain ⟨b1, b2, b3, b4, b5, _, _⟩ := quo_bd h
  have := vs_bd (valid_vs h)
  exact ⟨b1, b2, b3, b4, b5, this.1, this.2.1, this.2.2.1, this.2.2.2⟩
theorem pl_eq {f r n : Int} (_h : validB f r n = true) : px f n + py f n * f = n := by
  have := Int.tmod_add_mul_tdiv n f
  rw [Int.mul_comm] at this
  exact this
theorem pl_uniq {f X Y x y : Int} (hf : 0 < f) (h1 : 0 ≤ X) (h2 : X < f) (h3 : 0 ≤ x) (h4 : x < f) (h : X + Y * f = x + y * f) : X = x ∧ Y = y := by
  have e : (Y - y) * f = x - X := by rw [Int.sub_mul]; omega
  have hz : Y - y = 0 := by
    rcases Int.lt_trichotomy (Y - y) 0 with h | h | h
    · have : (Y - y) * f ≤ -1 * f := Int.mul_le_mul_of_nonneg_right (by omega) (by omega)
      omega
    · exact h
    · have : 1 * f ≤ (Y - y) * f := Int.mul_le_mul_of_nonneg_right (by omega) (by omega)
      omega
  rw [hz, Int.zero_mul] at e
  omega
theorem num_iff {f r X Y b : Int} (hv : vsB f r = true) (ho : onB f r X Y = true) (hb : validB f r b = true) : numR f r X Y = b ↔ px f b = X ∧ py f b = Y := by
  have h := at_on (X := X) (Y := Y) hv
  rw [ho] at h
  have hp := at_pos (of_decide_eq_true h)
  have hx := on_bd ho
  have hq := pl_bd hb
  rw [num_on hv ho, hp.2.2.2.2]
  constructor
  · intro e
    rw [← pl_eq hb] at e
    have := pl_uniq (by omega) hx.1 hx.2.1 hq.1 hq.2.1 e
    exact ⟨this.1.symm, this.2.symm⟩
  · rintro ⟨rfl, rfl⟩; exact pl_eq hb
theorem valid_inj {f r a b : Int} (ha : validB f r a = true) (hb : validB f r b = true) : a = b ↔ px f a = px f b ∧ py f a = py f b := by
  constructor
  · rintro rfl; exact ⟨rfl, rfl⟩
  · rintro ⟨h1, h2⟩; rw [← pl_eq ha, ← pl_eq hb, h1, h2]
def unit (df dr : Int) : Prop := -1 ≤ df ∧ df ≤ 1 ∧ -1 ≤ dr ∧ dr ≤ 1 ∧ (df ≠ 0 ∨ dr ≠ 0)
theorem unit_cases {df dr : Int} (h : unit df dr) : (df = 1 ∧ dr = 0) ∨ (df = 0 ∧ dr = 1) ∨ (df = -1 ∧ dr = 0) ∨ (df = 0 ∧ dr = -1) ∨ (df = 1 ∧ dr = 1) ∨ (df = -1 ∧ dr = 1) ∨ (df = -1 ∧ dr = -1) ∨ (df = 1 ∧ dr = -1) := by
  obtain ⟨h1, h2, h3, h4, h5⟩ := h
  omega
theorem step_w {df dr x y : Int} (hu : unit df dr) (hx : 0 ≤ x ∧ x ≤ 7) (hy : 0 ≤ y ∧ y ≤ 7) {k : Nat} (hk : k ≤ 9) : IntKind.i64.wrap (x + IntKind.i64.wrap (k * df)) = x + k * df ∧ IntKind.i64.wrap (y + IntKind.i64.wrap (k * dr)) = y + k * dr ∧ IntKind.i64.wrap ((k : Int) + 1) = ((k + 1 : Nat) : Int) := by
  rcases unit_cases hu with ⟨rfl, rfl⟩ | ⟨rfl, rfl⟩ | ⟨rfl, rfl⟩ | ⟨rfl, rfl⟩ | ⟨rfl, rfl⟩ | ⟨rfl, rfl⟩ | ⟨rfl, rfl⟩ | ⟨rfl, rfl⟩ <;>
  · refine ⟨?_, ?_, ?_⟩
    · rw [w64_id (n := (k : Int) * _) (by omega) (by omega), w64_id (by omega) (by omega)]
    · rw [w64_id (n := (k : Int) * _) (by omega) (by omega), w64_id (by omega) (by omega)]
    · rw [w64_id (by omega) (by omega)]; omega
theorem has_go {f r df dr x y b : Int} (hv : vsB f r = true) (hu : unit df dr) (ho : onB f r x y = true) (hb : validB f r b = true) : ∀ (m k : Nat), m + k = 9 → 1 ≤ k →
    (hasL b (refGo f r df dr x y m k) = true ↔ ∃ i : Nat, k ≤ i ∧ i ≤ 8 ∧ px f b = x + i * df ∧ py f b = y + i * dr) := by
  have hx := on_bd ho
  have hq := pl_bd hb
  intro m
  induction m with
  | zero => intro k hk h1; simp only [refGo, hasL]; exact ⟨fun h => (by cases h), fun ⟨i, h2, h3, _⟩ => by omega⟩
  | succ m ih =>
    intro k hk h1
    obtain ⟨e1, e2, e3⟩ := step_w (x := x) (y := y) hu ⟨by omega, by omega⟩ ⟨by omega, by omega⟩ (k := k) (by omega)
    rw [refGo, e1, e2, e3, num_neg hv]
    cases h2 : onB f r (x + (k : Int) * df) (y + (k : Int) * dr) with
    | false =>
      simp only [Bool.not_false, cond_true, hasL]
      refine ⟨fun h => (by cases h), fun ⟨i, h3, h4, h5, h6⟩ => ?_⟩
      have : onB f r (x + (k : Int) * df) (y + (k : Int) * dr) = true := by
        rcases unit_cases hu with ⟨rfl, rfl⟩ | ⟨rfl, rfl⟩ | ⟨rfl, rfl⟩ | ⟨rfl, rfl⟩ | ⟨rfl, rfl⟩ | ⟨rfl, rfl⟩ | ⟨rfl, rfl⟩ | ⟨rfl, rfl⟩ <;> exact on_mk (by omega) (by omega) (by omega) (by omega)
      rw [h2] at this; cases this
    | true =>
      simp only [Bool.not_true, cond_false, hasL, Bool.or_eq_true, decide_eq_true_eq]
      rw [num_iff hv h2 hb, ih (k + 1) (by omega) (by omega)]
      constructor
      · rintro (⟨h3, h4⟩ | ⟨i, h3, h4, h5⟩)
        · exact ⟨k, Nat.le_refl _, by omega, h3, h4⟩
        · exact ⟨i, by omega, h4, h5⟩
      · rintro ⟨i, h3, h4, h5, h6⟩
        rcases Nat.lt_or_ge k i with h | h
        · exact .inr ⟨i, h, h4, h5, h6⟩
        · obtain rfl : i = k := by omega
          exact .inl ⟨h5, h6⟩
theorem unit_nz {df dr : Int} (hu : unit df dr) : (decide (df = 0) && decide (dr = 0)) = false := by
  obtain ⟨_, _, _, _, h⟩ := hu
  simp only [Bool.and_eq_false_iff, decide_eq_false_iff_not]; exact h
theorem ray_go {f r a df dr : Int} (ha : validB f r a = true) (hu : unit df dr) : refRay f r a df dr = refGo f r df dr (px f a) (py f a) 8 ((1 : Nat) : Int) := by
  have hp := pl_bd ha
  simp [refRay, ha, unit_nz hu, hp.2.2.2.2.1]
/-- what lies on a ray -/
theorem has_ray {f r a b df dr : Int} (ha : validB f r a = true) (hb : validB f r b = true) (hu : unit df dr) :
    hasL b (refRay f r a df dr) = true ↔ ∃ i : Nat, 1 ≤ i ∧ i ≤ 8 ∧ px f b = px f a + i * df ∧ py f b = py f a + i * dr := by
  have hp := pl_bd ha
  rw [ray_go ha hu]
  exact has_go (valid_vs ha) hu (on_mk hp.1 hp.2.1 hp.2.2.1 hp.2.2.2.1) hb 8 1 rfl (Nat.le_refl _)
theorem sgn_eq (n : Int) : (n < 0 ∧ sgn n = -1) ∨ (n = 0 ∧ sgn n = 0) ∨ (0 < n ∧ sgn n = 1) := by
  unfold sgn
  rcases Int.lt_trichotomy n 0 with h | h | h
  · left; simp [h]
  · right; left; simp [h]
  · right; right
    have : ¬ n < 0 := by omega
    simp [h, this]
/-- the difference of two squares, as the programs work it out -/
theorem diff_w {f r a b : Int} (ha : validB f r a = true) (hb : validB f r b = true) : IntKind.i64.wrap (b.tmod f - a.tmod f) = px f b - px f a ∧ IntKind.i64.wrap (IntKind.i64.wrap (b.tdiv f) - IntKind.i64.wrap (a.tdiv f)) = py f b - py f a := by
  have hp := pl_bd ha
  have hq := pl_bd hb
  show IntKind.i64.wrap (px f b - px f a) = _ ∧ IntKind.i64.wrap (IntKind.i64.wrap (py f b) - IntKind.i64.wrap (py f a)) = _
  rw [hp.2.2.2.2.1, hq.2.2.2.2.1]
  exact ⟨w64_id (by omega) (by omega), w64_id (by omega) (by omega)⟩
def onLine (x y : Int) : Prop := (x ≠ 0 ∨ y ≠ 0) ∧ (x = 0 ∨ y = 0 ∨ x = y ∨ x = -y)
theorem line_iff {f r a b : Int} (ha : validB f r a = true) (hb : validB f r b = true) : lineB f a b = false ↔ onLine (px f b - px f a) (py f b - py f a) := by
  have hp := pl_bd ha
  have hq := pl_bd hb
  obtain ⟨e1, e2⟩ := diff_w ha hb
  unfold lineB
  rw [e1, e2, w64_id (by omega) (by omega)]
  simp only [Bool.or_eq_false_iff, Bool.and_eq_false_iff, decide_eq_false_iff_not, Bool.not_eq_false', decide_eq_true_eq]
  rw [valid_inj ha hb]
  unfold onLine
  omega
theorem line_R {f r a b : Int} (ha : validB f r a = true) (hb : validB f r b = true) : (lineR f a b = (0, 0, false) ∧ ¬ onLine (px f b - px f a) (py f b - py f a)) ∨ (lineR f a b = (sgn (px f b - px f a), sgn (py f b - py f a), true) ∧ onLine (px f b - px f a) (py f b - py f a)) := by
  obtain ⟨e1, e2⟩ := diff_w ha hb
  have h := line_iff ha hb
  unfold lineR
  rw [e1, e2]
  cases hl : lineB f a b with
  | true => left; rw [hl] at h; exact ⟨rfl, fun h2 => by have := h.2 h2; cases this⟩
  | false => right; exact ⟨rfl, h.1 hl⟩
theorem sgn_unit {x y : Int} (h : onLine x y) : unit (sgn x) (sgn y) := by
  obtain ⟨h1, _⟩ := h
  unfold unit
  have := sgn_eq x
  have := sgn_eq y
  omega
/-- what is on a line lies on its ray -/
theorem line_has {f r a b : Int} (ha : validB f r a = true) (hb : validB f r b = true) (h : (lineR f a b).2.2 = true) : unit (lineR f a b).1 (lineR f a b).2.1 ∧ hasL b (betwZ f r a b) = true := by
  have hp := pl_bd ha
  have hq := pl_bd hb
  rcases line_R ha hb with ⟨e, _⟩ | ⟨e, h2⟩
  · rw [e] at h; cases h
  · rw [e]
    refine ⟨sgn_unit h2, ?_⟩
    unfold betwZ
    rw [e]
    rw [has_ray ha hb (sgn_unit h2)]
    obtain ⟨h3, h4⟩ := h2
    have s1 := sgn_eq (px f b - px f a)
    have s2 := sgn_eq (py f b - py f a)
    rcases s1 with ⟨g1, s1⟩ | ⟨g1, s1⟩ | ⟨g1, s1⟩ <;> rcases s2 with ⟨g2, s2⟩ | ⟨g2, s2⟩ | ⟨g2, s2⟩ <;> simp only [s1, s2] <;>
    first
      | (exfalso; omega)
      | exact ⟨(px f b - px f a).natAbs, by omega, by omega, by omega, by omega⟩
      | exact ⟨(py f b - py f a).natAbs, by omega, by omega, by omega, by omega⟩
/-- what lies on a ray is on its line -/
theorem has_line {f r a b df dr : Int} (ha : validB f r a = true) (hb : validB f r b = true) (hu : unit df dr) (h : hasL b (refRay f r a df dr) = true) : lineR f a b = (df, dr, true) := by
  have hp := pl_bd ha
  have hq := pl_bd hb
  obtain ⟨i, h1, h2, h3, h4⟩ := (has_ray ha hb hu).1 h
  have s1 := sgn_eq (px f b - px f a)
  have s2 := sgn_eq (py f b - py f a)
  rcases line_R ha hb with ⟨e, h5⟩ | ⟨e, _⟩
  · exfalso
    apply h5
    unfold onLine
    rcases unit_cases hu with ⟨rfl, rfl⟩ | ⟨rfl, rfl⟩ | ⟨rfl, rfl⟩ | ⟨rfl, rfl⟩ | ⟨rfl, rfl⟩ | ⟨rfl, rfl⟩ | ⟨rfl, rfl⟩ | ⟨rfl, rfl⟩ <;> omega
  · rw [e]
    have e1 : sgn (px f b - px f a) = df := by rcases unit_cases hu with ⟨rfl, rfl⟩ | ⟨rfl, rfl⟩ | ⟨rfl, rfl⟩ | ⟨rfl, rfl⟩ | ⟨rfl, rfl⟩ | ⟨rfl, rfl⟩ | ⟨rfl, rfl⟩ | ⟨rfl, rfl⟩ <;> omega
    have e2 : sgn (py f b - py f a) = dr := by rcases unit_cases hu with ⟨rfl, rfl⟩ | ⟨rfl, rfl⟩ | ⟨rfl, rfl⟩ | ⟨rfl, rfl⟩ | ⟨rfl, rfl⟩ | ⟨rfl, rfl⟩ | ⟨rfl, rfl⟩ | ⟨rfl, rfl⟩ <;> omega
    rw [e1, e2]
end Go.Ab

namespace Go.Ab
open Go.Proofs
/-! ### reaches as sets -/
theorem on_valid {f r X Y : Int} (hv : vsB f r = true) (ho : onB f r X Y = true) : validB f r (X + Y * f) = true ∧ px f (X + Y * f) = X ∧ py f (X + Y * f) = Y := by
  have hb := vs_bd hv
  have hx := on_bd ho
  have hm := mul_bd hv
  have e1 : 0 ≤ Y * f := Int.mul_nonneg hx.2.2.1 (by omega)
  have e2 : (Y + 1) * f ≤ r * f := Int.mul_le_mul_of_nonneg_right (by omega) (by omega)
  rw [Int.add_mul, Int.mul_comm r f] at e2
  have hval : validB f r (X + Y * f) = true := by
    simp only [validB, Bool.and_eq_true, decide_eq_true_eq]
    rw [w64_mul hv]
    exact ⟨⟨hv, by omega⟩, by omega⟩
  have hq := pl_bd hval
  have := pl_uniq (f := f) (by omega) hx.1 hx.2.1 hq.1 hq.2.1 (pl_eq hval).symm
  exact ⟨hval, this.1.symm, this.2.symm⟩
theorem valid_lt {f r n : Int} (h : validB f r n = true) : 0 ≤ n ∧ n < f * r ∧ n < 64 := by
  have hm := mul_bd (valid_vs h)
  simp only [validB, Bool.and_eq_true, decide_eq_true_eq] at h
  rw [w64_mul h.1.1] at h
  exact ⟨h.1.2, h.2, by omega⟩
theorem valid_mk {f r n : Int} (hv : vsB f r = true) (h1 : 0 ≤ n) (h2 : n < f * r) : validB f r n = true := by
  simp only [validB, Bool.and_eq_true, decide_eq_true_eq]
  rw [w64_mul hv]
  exact ⟨⟨hv, h1⟩, h2⟩
theorem has_bt {s n : Int} (hs : Uk s) : hasB s n = (decide (0 ≤ n) && decide (n < 64) && bt s n.toNat) := by
  unfold hasB
  by_cases h1 : 0 ≤ n
  · by_cases h2 : n < 64
    · simp only [h1, h2, decide_true, Bool.true_and]
      rw [shr_eq hs h1 h2]
      unfold bt
      have : (((s.toNat >>> n.toNat : Nat) : Int).tmod 2) = ((s.toNat >>> n.toNat % 2 : Nat) : Int) := by
        rw [Int.tmod_eq_emod_of_nonneg (Int.natCast_nonneg _)]; norm_cast
      rw [this]
      have h3 : s.toNat.testBit n.toNat = (s.toNat >>> n.toNat).testBit 0 := by rw [Nat.testBit_shiftRight, Nat.add_zero]
      rw [h3, Nat.testBit_zero]
      congr 1
      exact propext ⟨fun h => by omega, fun h => by omega⟩
    · simp [h2]
  · simp [h1]
theorem has_bt' {f r s n : Int} (hs : Uk s) (hn : validB f r n = true) : hasB s n = bt s n.toNat := by
  have := valid_lt hn
  rw [has_bt hs]; simp [this.1, this.2.2]
theorem ray_valid {f r a df dr x : Int} (ha : validB f r a = true) (h : x ∈ refRay f r a df dr) : validB f r x = true := by
  have hv := valid_vs ha
  have key : ∀ (m : Nat) (k : Int), x ∈ refGo f r df dr (a.tmod f) (IntKind.i64.wrap (a.tdiv f)) m k → validB f r x = true := by
    intro m
    induction m with
    | zero => intro k h; simp [refGo] at h
    | succ m ih =>
      intro k h
      rw [refGo, num_neg hv] at h
      cases h2 : onB f r (IntKind.i64.wrap (a.tmod f + IntKind.i64.wrap (k * df))) (IntKind.i64.wrap (IntKind.i64.wrap (a.tdiv f) + IntKind.i64.wrap (k * dr))) with
      | false => rw [h2] at h; simp at h
      | true =>
        rw [h2] at h
        simp only [Bool.not_true, cond_false, List.mem_cons] at h
        rcases h with rfl | h
        · have h3 := at_on (X := IntKind.i64.wrap (a.tmod f + IntKind.i64.wrap (k * df))) (Y := IntKind.i64.wrap (IntKind.i64.wrap (a.tdiv f) + IntKind.i64.wrap (k * dr))) hv
          rw [h2] at h3
          have hp := at_pos (of_decide_eq_true h3)
          rw [num_on hv h2, hp.2.2.2.2]
          exact (on_valid hv h2).1
        · exact ih _ h
  unfold refRay at h
  cases hc : (!validB f r a || (decide (df = 0) && decide (dr = 0))) with
  | true => rw [hc] at h; simp at h
  | false => rw [hc, cond_false] at h; exact key _ _ h
/-- all bits are squares of the board -/
def OnS (f r s : Int) : Prop := ∀ m, m < 64 → bt s m = true → validB f r m = true
theorem fold_bt {α : Type} (step : Int → α → Int) (p : α → Nat → Bool) : ∀ (rs : List α) (s : Int), (∀ s row, row ∈ rs → Uk s → Uk (step s row) ∧ ∀ m, bt (step s row) m = (bt s m || p row m)) → Uk s → Uk (rs.foldl step s) ∧ ∀ m, bt (rs.foldl step s) m = (bt s m || rs.any (p · m))
  | [], s, _, hs => ⟨hs, fun m => by simp⟩
  | row :: rs, s, h, hs => by
    obtain ⟨h1, h2⟩ := h s row (by simp) hs
    obtain ⟨h3, h4⟩ := fold_bt step p rs (step s row) (fun s r hr => h s r (by simp [hr])) h1
    refine ⟨h3, fun m => ?_⟩
    rw [List.foldl_cons, h4, h2, List.any_cons, Bool.or_assoc]
def leapB (f r a : Int) (row : List Int) (m : Nat) : Bool := validB f r m && decide (px f m - px f a = row.getD 0 0) && decide (py f m - py f a = row.getD 1 0)
theorem leap_bt {f r a : Int} (ha : validB f r a = true) (rs : List (List Int)) (hrs : ∀ row ∈ rs, -8 ≤ row.getD 0 0 ∧ row.getD 0 0 ≤ 8 ∧ -8 ≤ row.getD 1 0 ∧ row.getD 1 0 ≤ 8) : Uk (leapR f r a rs) ∧ ∀ m, bt (leapR f r a rs) m = rs.any (leapB f r a · m) := by
  have hv := valid_vs ha
  have hp := pl_bd ha
  have hpl : (placeR f r a).1 = px f a ∧ (placeR f r a).2.1 = py f a := by simp only [placeR, ha, cond_true]; exact ⟨by first | rfl | trivial, hp.2.2.2.2.1⟩
  have h := fold_bt (leapStep f r (placeR f r a).1 (placeR f r a).2.1) (leapB f r a) rs 0 ?_ uk_0
  · refine ⟨h.1, fun m => ?_⟩
    unfold leapR
    rw [h.2, bt_0, Bool.false_or]
  · intro s row hrow hs
    have hb := hrs row hrow
    unfold leapStep leapSq
    rw [hpl.1, hpl.2, w64_id (n := px f a + _) (by omega) (by omega), w64_id (n := py f a + _) (by omega) (by omega), at_on hv]
    cases ho : onB f r (px f a + row.getD 0 0) (py f a + row.getD 1 0) with
    | false =>
      refine ⟨hs, fun m => ?_⟩
      rw [cond_false]
      have : leapB f r a row m = false := by
        cases hl : leapB f r a row m with
        | false => rfl
        | true =>
          simp only [leapB, Bool.and_eq_true, decide_eq_true_eq] at hl
          have hq := pl_bd hl.1.1
          have : onB f r (px f a + row.getD 0 0) (py f a + row.getD 1 0) = true := on_mk (by omega) (by omega) (by omega) (by omega)
          rw [ho] at this; cases this
      rw [this, Bool.or_false]
    | true =>
      rw [cond_true]
      have h3 := at_on (X := px f a + row.getD 0 0) (Y := py f a + row.getD 1 0) hv
      rw [ho] at h3
      have hq := at_pos (of_decide_eq_true h3)
      obtain ⟨v1, v2, v3⟩ := on_valid hv ho
      rw [← hq.2.2.2.2] at v1 v2 v3
      generalize (atR f r (px f a + row.getD 0 0) (py f a + row.getD 1 0)).1 = x at *
      refine ⟨uk_or _ _, fun m => ?_⟩
      rw [bt_or hs (uk_shl _ _), bt_shl hq.1 hq.2.1]
      congr 1
      unfold leapB
      by_cases e : x = (m : Int)
      · subst e
        simp only [v1, decide_true, Bool.true_and]
        rw [v2, v3]; simp; omega
      · simp only [e, decide_false]
        symm
        cases hl : (validB f r m && decide (px f m - px f a = row.getD 0 0) && decide (py f m - py f a = row.getD 1 0)) with
        | false => rfl
        | true =>
          simp only [Bool.and_eq_true, decide_eq_true_eq] at hl
          exact absurd ((valid_inj v1 hl.1.1).2 ⟨by omega, by omega⟩) e
/-- a square is reached along a list -/
def hitB (occ : Int) (m : Int) : List Int → Bool
  | [] => false
  | x :: l => decide (x = m) || (!bt occ x.toNat && hitB occ m l)
theorem slideGo_bt {occ : Int} (ho : Uk occ) : ∀ (L : List Int) (s : Int), (∀ x ∈ L, 0 ≤ x ∧ x < 64) → Uk s → Uk (slideGo occ L s) ∧ ∀ m : Nat, bt (slideGo occ L s) m = (bt s m || hitB occ m L)
  | [], s, _, hs => ⟨hs, fun m => by simp [slideGo, hitB]⟩
  | x :: L, s, hL, hs => by
    have hx := hL x (by simp)
    unfold slideGo
    rw [bit_of ho hx.1 hx.2]
    cases hb : bt occ x.toNat with
    | true =>
      refine ⟨uk_or _ _, fun m => ?_⟩
      rw [cond_true, bt_or hs (uk_shl _ _), bt_shl hx.1 hx.2]
      simp [hitB, hb]
    | false =>
      obtain ⟨h1, h2⟩ := slideGo_bt ho L (uor s (ushl 1 x)) (fun y hy => hL y (by simp [hy])) (uk_or _ _)
      refine ⟨h1, fun m => ?_⟩
      rw [cond_false, h2, bt_or hs (uk_shl _ _), bt_shl hx.1 hx.2]
      simp [hitB, hb, Bool.or_assoc]
theorem hit_has {occ m : Int} : ∀ {L : List Int}, hitB occ m L = true → hasL m L = true
  | x :: L, h => by
    simp only [hitB, Bool.or_eq_true, Bool.and_eq_true, decide_eq_true_eq] at h
    simp only [hasL, Bool.or_eq_true, decide_eq_true_eq]
    exact h.imp id fun h => hit_has h.2
theorem hit_free {f r occ m : Int} (ho : Uk occ) : ∀ (L : List Int), (∀ x ∈ L, validB f r x = true) → hitB occ m L = (hasL m L && freeB occ (L.take (idxL m L)))
  | [], _ => rfl
  | x :: L, hL => by
    have ih := hit_free (m := m) ho L fun y hy => hL y (by simp [hy])
    have hx := has_bt' ho (hL x (by simp))
    by_cases e : x = m
    · simp [hitB, hasL, idxL, e, freeB]
    · simp only [hitB, hasL, idxL, e, decide_false, Bool.false_or, cond_false, List.take_succ_cons, freeB, hx, ih]
      cases bt occ x.toNat <;> simp
def slideB (f r a occ : Int) (row : List Int) (m : Nat) : Bool := hitB occ m (refRay f r a (row.getD 0 0) (row.getD 1 0))
theorem unit_in {df dr : Int} (h : unit df dr) : inR df dr = true := by
  obtain ⟨h1, h2, h3, h4, _⟩ := h
  simp only [inR, Bool.and_eq_true, decide_eq_true_eq]; omega
theorem slide_bt {f r a occ : Int} (ha : validB f r a = true) (ho : Uk occ) (rs : List (List Int)) (hrs : ∀ row ∈ rs, unit (row.getD 0 0) (row.getD 1 0)) : Uk (slideR f r a occ rs) ∧ ∀ m, bt (slideR f r a occ rs) m = rs.any (slideB f r a occ · m) := by
  have h := fold_bt (slideStep f r a occ) (slideB f r a occ) rs 0 ?_ uk_0
  · refine ⟨h.1, fun m => ?_⟩
    unfold slideR
    rw [h.2, bt_0, Bool.false_or]
  · intro s row hrow hs
    unfold slideStep slideB
    rw [ray_eq, unit_in (hrs row hrow), cond_true]
    exact slideGo_bt ho _ s (fun x hx => ⟨(valid_lt (ray_valid ha hx)).1, (valid_lt (ray_valid ha hx)).2.2⟩) hs
end Go.Ab

namespace Go.Ab
open Go.Proofs
theorem has_mem {m : Int} {L : List Int} : hasL m L = true ↔ m ∈ L := by
  induction L with
  | nil => simp [hasL]
  | cons x L ih => simp only [hasL, Bool.or_eq_true, decide_eq_true_eq, ih, List.mem_cons]; exact ⟨fun h => h.imp Eq.symm id, fun h => h.imp Eq.symm id⟩
theorem diff_fin (P : Int → Int → Bool) (h : ∀ i j : _root_.Fin 15, P ((i.val : Int) - 7) ((j.val : Int) - 7) = true) {x y : Int} (hx : -7 ≤ x ∧ x ≤ 7) (hy : -7 ≤ y ∧ y ≤ 7) : P x y = true := by
  have := h ⟨(x + 7).toNat, by omega⟩ ⟨(y + 7).toNat, by omega⟩
  simp only at this
  rw [show (((x + 7).toNat : Int) - 7) = x by omega, show (((y + 7).toNat : Int) - 7) = y by omega] at this
  exact this
def rowAny (rs : List (List Int)) (x y : Int) : Bool := rs.any fun row => decide (x = row.getD 0 0) && decide (y = row.getD 1 0)
theorem leap_any {f r a b : Int} (hb : validB f r b = true) (rs : List (List Int)) : rs.any (leapB f r a · b.toNat) = rowAny rs (px f b - px f a) (py f b - py f a) := by
  have := valid_lt hb
  unfold rowAny leapB
  rw [show ((b.toNat : Nat) : Int) = b by omega, hb]
  rfl
theorem diff_bd {f r a b : Int} (ha : validB f r a = true) (hb : validB f r b = true) : (-7 ≤ px f b - px f a ∧ px f b - px f a ≤ 7) ∧ (-7 ≤ py f b - py f a ∧ py f b - py f a ≤ 7) := by
  have := pl_bd ha
  have := pl_bd hb
  omega
def knightP (x y : Int) : Bool := rowAny leapsT x y == decide (IntKind.i64.wrap (IntKind.i64.wrap (x * x) + IntKind.i64.wrap (y * y)) = 5)
theorem knight_all : ∀ i j : _root_.Fin 15, knightP ((i.val : Int) - 7) ((j.val : Int) - 7) = true := by decide +kernel
def dist2 (x y : Int) : Int := bif decide (absI (IntKind.i64.wrap (0 - y)) < absI (IntKind.i64.wrap (0 - x))) then absI (IntKind.i64.wrap (0 - x)) else absI (IntKind.i64.wrap (0 - y))
def kingP (x y : Int) : Bool := (rowAny diagT x y || rowAny straT x y) == decide (dist2 x y = 1)
theorem king_all : ∀ i j : _root_.Fin 15, kingP ((i.val : Int) - 7) ((j.val : Int) - 7) = true := by decide +kernel
theorem dist_2 {f r a b : Int} (ha : validB f r a = true) (hb : validB f r b = true) : distR f a b = dist2 (px f b - px f a) (py f b - py f a) := by
  obtain ⟨e1, e2⟩ := diff_w hb ha
  have h := diff_bd ha hb
  unfold distR dist2
  rw [e1, e2, w64_id (n := 0 - (px f b - px f a)) (by omega) (by omega), w64_id (n := 0 - (py f b - py f a)) (by omega) (by omega)]
  rw [show 0 - (px f b - px f a) = px f a - px f b by omega, show 0 - (py f b - py f a) = py f a - py f b by omega]
/-- rays by the direction of the line -/
theorem slide_any {f r a b occ : Int} (ha : validB f r a = true) (hb : validB f r b = true) (ho : Uk occ) (rs : List (List Int)) (hrs : ∀ row ∈ rs, unit (row.getD 0 0) (row.getD 1 0)) :
    rs.any (slideB f r a occ · b.toNat) = ((lineR f a b).2.2 && rowAny rs (lineR f a b).1 (lineR f a b).2.1 && freeB occ (betwL f r a b)) := by
  have hl := valid_lt hb
  have pt : ∀ row ∈ rs, slideB f r a occ row b.toNat = ((lineR f a b).2.2 && (decide ((lineR f a b).1 = row.getD 0 0) && decide ((lineR f a b).2.1 = row.getD 1 0)) && freeB occ (betwL f r a b)) := by
    intro row hrow
    have hu := hrs row hrow
    unfold slideB
    rw [show ((b.toNat : Nat) : Int) = b by omega, hit_free (f := f) (r := r) ho _ (fun x hx => ray_valid ha hx)]
    cases hh : hasL b (refRay f r a (row.getD 0 0) (row.getD 1 0)) with
    | true =>
      have e := has_line ha hb hu hh
      have hz : betwZ f r a b = refRay f r a (row.getD 0 0) (row.getD 1 0) := by rw [betwZ, e]
      unfold betwL
      rw [hz, hh, e]; simp
    | false =>
      rw [Bool.false_and]
      symm
      cases h2 : (lineR f a b).2.2 with
      | false => rfl
      | true =>
        obtain ⟨_, h3⟩ := line_has ha hb h2
        by_cases e : (lineR f a b).1 = row.getD 0 0 ∧ (lineR f a b).2.1 = row.getD 1 0
        · rw [betwZ, e.1, e.2, hh] at h3; cases h3
        · simp only [Bool.true_and]
          rw [show (decide ((lineR f a b).1 = row.getD 0 0) && decide ((lineR f a b).2.1 = row.getD 1 0)) = false by simp only [Bool.and_eq_false_iff, decide_eq_false_iff_not]; omega]
          rfl
  have gen : ∀ l : List (List Int), (∀ row ∈ l, row ∈ rs) → l.any (slideB f r a occ · b.toNat) = ((lineR f a b).2.2 && rowAny l (lineR f a b).1 (lineR f a b).2.1 && freeB occ (betwL f r a b)) := by
    intro l
    induction l with
    | nil => intro _; simp [rowAny]
    | cons row l ih =>
      intro h
      rw [List.any_cons, ih (fun x hx => h x (by simp [hx])), pt row (h row (by simp))]
      unfold rowAny
      rw [List.any_cons]
      cases (lineR f a b).2.2 <;> cases (decide ((lineR f a b).1 = row.getD 0 0) && decide ((lineR f a b).2.1 = row.getD 1 0)) <;> cases freeB occ (betwL f r a b) <;> simp
  exact gen rs fun _ h => h
theorem leaps_bd : ∀ row ∈ leapsT, -8 ≤ row.getD 0 0 ∧ row.getD 0 0 ≤ 8 ∧ -8 ≤ row.getD 1 0 ∧ row.getD 1 0 ≤ 8 := by decide
theorem diag_unit : ∀ row ∈ diagT, unit (row.getD 0 0) (row.getD 1 0) := by unfold unit; decide
theorem stra_unit : ∀ row ∈ straT, unit (row.getD 0 0) (row.getD 1 0) := by unfold unit; decide
theorem unit_bd {rs : List (List Int)} (h : ∀ row ∈ rs, unit (row.getD 0 0) (row.getD 1 0)) : ∀ row ∈ rs, -8 ≤ row.getD 0 0 ∧ row.getD 0 0 ≤ 8 ∧ -8 ≤ row.getD 1 0 ∧ row.getD 1 0 ≤ 8 := fun row hr => by
  obtain ⟨h1, h2, h3, h4, _⟩ := h row hr
  omega
theorem unit_diag {x y : Int} (h : unit x y) : rowAny diagT x y = !(decide (x = 0) || decide (y = 0)) ∧ rowAny straT x y = (decide (x = 0) || decide (y = 0)) := by
  rcases unit_cases h with ⟨rfl, rfl⟩ | ⟨rfl, rfl⟩ | ⟨rfl, rfl⟩ | ⟨rfl, rfl⟩ | ⟨rfl, rfl⟩ | ⟨rfl, rfl⟩ | ⟨rfl, rfl⟩ | ⟨rfl, rfl⟩ <;> decide
theorem sgn_0 (n : Int) : decide (sgn n = 0) = decide (n = 0) := by
  have := sgn_eq n
  congr 1
  exact propext ⟨fun h => by omega, fun h => by omega⟩
/-- what a piece reaches -/
def reachS (f r kd a occ : Int) : Int := (reachR f r kd a occ).1
def kinds5 (kd : Int) : Prop := kd = 2 ∨ kd = 3 ∨ kd = 4 ∨ kd = 5 ∨ kd = 6
theorem reach_on {f r kd a occ : Int} (h : rayOn f r a occ = true) (hk : kinds5 kd) : (reachR f r kd a occ).2 = 0 ∧ reachS f r kd a occ = bif decide (kd = 2) then leapR f r a leapsT else bif decide (kd = 3) then slideR f r a occ diagT else bif decide (kd = 4) then slideR f r a occ straT
     else bif decide (kd = 5) then uor (slideR f r a occ diagT) (slideR f r a occ straT) else uor (leapR f r a diagT) (leapR f r a straT) := by
  unfold reachS reachR
  rw [h, cond_true]
  rcases hk with rfl | rfl | rfl | rfl | rfl <;> exact ⟨rfl, rfl⟩
theorem reach_bt {f r kd a occ : Int} (h : rayOn f r a occ = true) (ho : Uk occ) (hk : kinds5 kd) : Uk (reachS f r kd a occ) ∧ OnS f r (reachS f r kd a occ) ∧ ∀ b, validB f r b = true → bt (reachS f r kd a occ) b.toNat = reachesB f r kd a b occ := by
  have ha : validB f r a = true := by simp only [rayOn, Bool.and_eq_true] at h; exact h.1
  have L1 := leap_bt ha leapsT leaps_bd
  have L2 := leap_bt ha diagT (unit_bd diag_unit)
  have L3 := leap_bt ha straT (unit_bd stra_unit)
  have S1 := slide_bt ha ho diagT diag_unit
  have S2 := slide_bt ha ho straT stra_unit
  have onl : ∀ (rs : List (List Int)) (m : Nat), rs.any (leapB f r a · m) = true → validB f r m = true := by
    intro rs m h
    obtain ⟨row, _, h2⟩ := List.any_eq_true.1 h
    simp only [leapB, Bool.and_eq_true] at h2
    exact h2.1.1
  have ons : ∀ (rs : List (List Int)) (m : Nat), rs.any (slideB f r a occ · m) = true → validB f r m = true := by
    intro rs m h
    obtain ⟨row, _, h2⟩ := List.any_eq_true.1 h
    exact ray_valid ha (has_mem.1 (hit_has h2))
  obtain ⟨_, hS⟩ := reach_on h hk
  rw [hS]
  have key : ∀ b, validB f r b = true → (lineR f a b).2.2 = true → unit (lineR f a b).1 (lineR f a b).2.1 ∧ (decide (IntKind.i64.wrap (b.tmod f - a.tmod f) = 0) || decide (IntKind.i64.wrap (IntKind.i64.wrap (b.tdiv f) - IntKind.i64.wrap (a.tdiv f)) = 0)) = (decide ((lineR f a b).1 = 0) || decide ((lineR f a b).2.1 = 0)) := by
    intro b hb hl
    obtain ⟨e1, e2⟩ := diff_w ha hb
    refine ⟨(line_has ha hb hl).1, ?_⟩
    rcases line_R ha hb with ⟨e, _⟩ | ⟨e, _⟩
    · rw [e] at hl; cases hl
    · rw [e1, e2, e]
      simp only [sgn_0]
  rcases hk with rfl | rfl | rfl | rfl | rfl
  · refine ⟨L1.1, fun m _ hm => onl _ _ ((L1.2 m).symm.trans hm), fun b hb => ?_⟩
    obtain ⟨e1, e2⟩ := diff_w ha hb
    have hd := diff_bd ha hb
    have hp := diff_fin knightP knight_all hd.1 hd.2
    show bt (leapR f r a leapsT) b.toNat = decide (_ = 5)
    rw [L1.2, leap_any hb, e1, e2]
    exact eq_of_beq hp
  · refine ⟨S1.1, fun m _ hm => ons _ _ ((S1.2 m).symm.trans hm), fun b hb => ?_⟩
    show bt (slideR f r a occ diagT) b.toNat = ((lineR f a b).2.2 && (false || ((decide (IntKind.i64.wrap (b.tmod f - a.tmod f) = 0) || decide (IntKind.i64.wrap (IntKind.i64.wrap (b.tdiv f) - IntKind.i64.wrap (a.tdiv f)) = 0)) == false)) && freeB occ (betwL f r a b))
    rw [S1.2, slide_any ha hb ho _ diag_unit]
    cases hl : (lineR f a b).2.2 with
    | false => simp
    | true => obtain ⟨k1, k2⟩ := key b hb hl; rw [k2, (unit_diag k1).1]; simp
  · refine ⟨S2.1, fun m _ hm => ons _ _ ((S2.2 m).symm.trans hm), fun b hb => ?_⟩
    show bt (slideR f r a occ straT) b.toNat = ((lineR f a b).2.2 && (false || ((decide (IntKind.i64.wrap (b.tmod f - a.tmod f) = 0) || decide (IntKind.i64.wrap (IntKind.i64.wrap (b.tdiv f) - IntKind.i64.wrap (a.tdiv f)) = 0)) == true)) && freeB occ (betwL f r a b))
    rw [S2.2, slide_any ha hb ho _ stra_unit]
    cases hl : (lineR f a b).2.2 with
    | false => simp
    | true => obtain ⟨k1, k2⟩ := key b hb hl; rw [k2, (unit_diag k1).2]; simp
  · refine ⟨uk_or _ _, fun m _ hm => ?_, fun b hb => ?_⟩
    · have hm : bt (uor (slideR f r a occ diagT) (slideR f r a occ straT)) m = true := hm
      rw [bt_or S1.1 S2.1, Bool.or_eq_true] at hm
      exact hm.elim (fun hm => ons _ _ ((S1.2 m).symm.trans hm)) (fun hm => ons _ _ ((S2.2 m).symm.trans hm))
    · show bt (uor (slideR f r a occ diagT) (slideR f r a occ straT)) b.toNat = ((lineR f a b).2.2 && (true || _) && freeB occ (betwL f r a b))
      rw [bt_or S1.1 S2.1, S1.2, S2.2, slide_any ha hb ho _ diag_unit, slide_any ha hb ho _ stra_unit]
      cases hl : (lineR f a b).2.2 with
      | false => simp
      | true =>
        obtain ⟨k1, k2⟩ := key b hb hl
        rw [(unit_diag k1).1, (unit_diag k1).2]
        cases (decide ((lineR f a b).1 = 0) || decide ((lineR f a b).2.1 = 0)) <;> simp
  · refine ⟨uk_or _ _, fun m _ hm => ?_, fun b hb => ?_⟩
    · have hm : bt (uor (leapR f r a diagT) (leapR f r a straT)) m = true := hm
      rw [bt_or L2.1 L3.1, Bool.or_eq_true] at hm
      exact hm.elim (fun hm => onl _ _ ((L2.2 m).symm.trans hm)) (fun hm => onl _ _ ((L3.2 m).symm.trans hm))
    · have hd := diff_bd ha hb
      have hp := diff_fin kingP king_all hd.1 hd.2
      show bt (uor (leapR f r a diagT) (leapR f r a straT)) b.toNat = decide (distR f a b = 1)
      rw [bt_or L2.1 L3.1, L2.2, L3.2, leap_any hb, leap_any hb, dist_2 ha hb]
      exact eq_of_beq hp
end Go.Ab

namespace Go.Ab
open Go.Proofs
/-! ### lists as sets -/
theorem add_or {s x : Int} (hs : Uk s) (h1 : 0 ≤ x) (h2 : x < 64) (hb : bt s x.toNat = false) : IntKind.u64.wrap (s + ushl 1 x) = uor s (ushl 1 x) := by
  have hk := uk_shl 1 x
  rw [u64_wrap, uor_eq]
  have hz : BitVec.ofInt 64 s &&& BitVec.ofInt 64 (ushl 1 x) = 0#64 := by
    apply BitVec.eq_of_toNat_eq
    rw [BitVec.toNat_and, bv_of hs, bv_of hk]
    apply Nat.eq_of_testBit_eq
    intro i
    rw [Nat.testBit_and]
    have h3 := bt_shl h1 h2 i
    unfold bt at h3 hb
    rw [h3]
    by_cases e : x = (i : Int)
    · subst e; rw [Int.toNat_natCast] at hb; simp [hb]
    · simp [e]
  rw [← BitVec.add_eq_or_of_and_eq_zero _ _ hz, BitVec.toNat_add, bv_of hs, bv_of hk]
  have h4 := hs.1
  have h5 := hk.1
  generalize ushl 1 x = y at *
  show (s + y) % 18446744073709551616 = (((s.toNat + y.toNat) % 18446744073709551616 : Nat) : Int)
  omega
theorem ofL_bt : ∀ (l : List Int) (s : Int), (∀ x ∈ l, 0 ≤ x ∧ x < 64) → Uk s → Uk (ofL l s) ∧ ∀ m : Nat, bt (ofL l s) m = (bt s m || decide ((m : Int) ∈ l))
  | [], s, _, hs => ⟨hs, fun m => by simp [ofL]⟩
  | x :: l, s, hl, hs => by
    have hx := hl x (by simp)
    rw [ofL]
    have hh := has_bt (n := x) hs
    simp only [hx.1, hx.2, decide_true, Bool.true_and] at hh
    cases hb : bt s x.toNat with
    | true =>
      obtain ⟨h1, h2⟩ := ofL_bt l s (fun y hy => hl y (by simp [hy])) hs
      rw [hh, hb, cond_true]
      refine ⟨h1, fun m => ?_⟩
      rw [h2]
      by_cases e : (m : Int) = x
      · subst e; rw [Int.toNat_natCast] at hb; simp [hb]
      · simp [e]
    | false =>
      rw [hh, hb, cond_false, add_or hs hx.1 hx.2 hb]
      obtain ⟨h1, h2⟩ := ofL_bt l (uor s (ushl 1 x)) (fun y hy => hl y (by simp [hy])) (uk_or _ _)
      refine ⟨h1, fun m => ?_⟩
      rw [h2, bt_or hs (uk_shl _ _), bt_shl hx.1 hx.2, Bool.or_assoc]
      congr 1
      by_cases e : (m : Int) = x
      · simp [e]
      · have e' : ¬ x = (m : Int) := fun h => e h.symm
        simp [e, e']
/-- a set is the list of those for which something holds -/
theorem of_filt {f r s : Int} (hv : vsB f r = true) (hs : Uk s) (ho : OnS f r s) (c : Int → Bool) (h : ∀ b, validB f r b = true → bt s b.toNat = c b) : ofL (filtB c id (f * r).toNat) 0 = s := by
  have hm := mul_bd hv
  have hl : ∀ x ∈ filtB c id (f * r).toNat, 0 ≤ x ∧ x < 64 := fun x hx => by
    have := mem_filtB.1 hx
    omega
  obtain ⟨h1, h2⟩ := ofL_bt _ 0 hl uk_0
  refine uk_ext h1 hs fun n hn => ?_
  rw [h2, bt_0, Bool.false_or]
  by_cases hb : validB f r n = true
  · have := valid_lt hb
    have h3 := h n hb
    rw [Int.toNat_natCast] at h3
    rw [h3, Bool.eq_iff_iff, decide_eq_true_eq, mem_filtB]
    exact ⟨fun h => h.2.2, fun h => ⟨by omega, by omega, h⟩⟩
  · have h3 : bt s n = false := by
      cases hx : bt s n with
      | false => rfl
      | true => exact absurd (ho n hn hx) hb
    rw [h3, decide_eq_false_iff_not, mem_filtB]
    rintro ⟨h4, h5, _⟩
    exact hb (valid_mk hv h4 (by omega))
/-! ### sets of a board -/
theorem all_bt {f r : Int} (hv : vsB f r = true) : Uk (allU f r) ∧ ∀ m : Nat, bt (allU f r) m = decide ((m : Int) < f * r) := by
  have hm := mul_bd hv
  unfold allU
  rw [w64_mul hv, w64_id (by omega) (by omega)]
  have hk : Uk 18446744073709551615 := ⟨by decide, by decide⟩
  refine ⟨uk_shr hk (by omega) (by omega), fun m => ?_⟩
  rw [bt_shr hk (by omega) (by omega)]
  unfold bt
  rw [show (18446744073709551615 : Int).toNat = 2 ^ 64 - 1 by decide, Nat.testBit_two_pow_sub_one]
  congr 1
  exact propext ⟨fun h => by omega, fun h => by omega⟩
theorem allU_on {f r s : Int} (hv : vsB f r = true) (hs : Uk s) : uandn s (allU f r) = 0 ↔ OnS f r s := by
  obtain ⟨h1, h2⟩ := all_bt hv
  rw [uk_eq_0 (uk_andn _ _)]
  constructor
  · intro h m hm hb
    have := h m hm
    rw [bt_andn hs h1, hb, h2] at this
    simp at this
    exact valid_mk hv (by omega) this
  · intro h m hm
    rw [bt_andn hs h1, h2]
    cases hb : bt s m with
    | false => rfl
    | true => have := valid_lt (h m hm hb); simp; omega
theorem rayOn_iff {f r a s : Int} (hs : Uk s) : rayOn f r a s = true ↔ validB f r a = true ∧ OnS f r s := by
  unfold rayOn
  rw [Bool.and_eq_true, decide_eq_true_eq]
  exact ⟨fun h => ⟨h.1, (allU_on (valid_vs h.1) hs).1 h.2⟩, fun h => ⟨h.1, (allU_on (valid_vs h.1) hs).2 h.2⟩⟩
theorem mem_listB {s x : Int} {k : Nat} : x ∈ listB s k ↔ 0 ≤ x ∧ x < k ∧ hasB s x = true := by
  have : listB s k = filtB (hasB s) id k := by unfold listB filtB; rw [List.map_id]
  rw [this]; exact mem_filtB
def onR (f r s : Int) : Bool := vsB f r && (decide (((listB s 64).length : Int) = 0) || decide ((listB s 64).getD (IntKind.i64.wrap ((listB s 64).length - 1)).toNat 0 < IntKind.i64.wrap (f * r)))
theorem listB_last (s : Int) : ∀ k, ∀ x ∈ listB s k, x ≤ (listB s k).getD ((listB s k).length - 1) 0
  | 0, x, h => by simp [listB] at h
  | k + 1, x, h => by
    rw [listB_succ] at h ⊢
    cases hb : hasB s k with
    | false => rw [hb] at h; exact listB_last s k x h
    | true =>
      rw [hb, cond_true] at h
      rw [cond_true]
      have : ((listB s k ++ [(k : Int)]).getD ((listB s k ++ [(k : Int)]).length - 1) 0) = k := by simp [List.getD]
      rw [this]
      rcases List.mem_append.1 h with h | h
      · have := mem_listB.1 h; omega
      · simp at h; omega
theorem onR_iff {f r s : Int} (hs : Uk s) : onR f r s = true ↔ vsB f r = true ∧ OnS f r s := by
  unfold onR
  rw [Bool.and_eq_true, Bool.or_eq_true, decide_eq_true_eq, decide_eq_true_eq]
  refine ⟨fun ⟨hv, h⟩ => ⟨hv, fun m hm hb => ?_⟩, fun ⟨hv, h⟩ => ⟨hv, ?_⟩⟩
  · have hmem : (m : Int) ∈ listB s 64 := mem_listB.2 ⟨by omega, by omega, by rw [has_bt hs]; simp [hb]; omega⟩
    have hlen := listB_len s 64
    have h0 : 0 < (listB s 64).length := List.length_pos_of_mem hmem
    have hlast := listB_last s 64 m hmem
    rcases h with h | h
    · omega
    · rw [w64_id (by omega) (by omega), show (((listB s 64).length : Int) - 1).toNat = (listB s 64).length - 1 by omega, w64_mul hv] at h
      exact valid_mk hv (by omega) (by omega)
  · have hlen := listB_len s 64
    rcases Nat.eq_zero_or_pos (listB s 64).length with h0 | h0
    · left; omega
    · right
      rw [w64_id (by omega) (by omega), show (((listB s 64).length : Int) - 1).toNat = (listB s 64).length - 1 by omega, w64_mul hv]
      have hmem : (listB s 64).getD ((listB s 64).length - 1) 0 ∈ listB s 64 := by
        have : (listB s 64).length - 1 < (listB s 64).length := by omega
        simp [List.getD, this]
      have hx := mem_listB.1 hmem
      generalize (listB s 64).getD ((listB s 64).length - 1) 0 = x at *
      rw [has_bt hs] at hx
      simp only [Bool.and_eq_true, decide_eq_true_eq] at hx
      have := valid_lt (h x.toNat (by omega) hx.2.2.2)
      omega
end Go.Ab

namespace Go.Ab
open Go.Proofs
theorem need_last (g : Bool) {n : Nat} (h : n ≤ 1000000000) : (!(g && !decide ((n : Int) = 0)) || (decide (0 ≤ IntKind.i64.wrap ((n : Int) - 1)) && decide (IntKind.i64.wrap ((n : Int) - 1) < n))) = true := by
  rw [w64_id (by omega) (by omega)]
  cases g <;> simp
  omega
def c_On : CF
  | [.agg [.int .i64 f, .int .i64 r], .int .u64 s], [] => some (true, .bool (onR f r s), [])
  | _, _ => none
theorem c_On_ok : CtOk GG PP (23, c_On) := by
  refine ct_mk Tryd.func23 (by kernel_rfl) rfl fun a0 h0 c0 v0 N0 e hc => ?_
  unfold c_On at e
  split at e
  · rename_i f r s
    cases e
    have hE := EE_ok (cts := [(46, c_List), (56, c_Size)]) (inl := []) ⟨c_List_ok, c_Size_ok, trivial⟩ trivial
    refine fn_sound hE 2 Tryd.func23 rfl rfl ?_
    have hl := listB_len s 64
    repeat (first | (first | refine sat_self ?_ | refine sat_need (by first | rfl | exact tt1 _ _ | exact tt5 _ _ | exact tt2 _ _ _ | exact tt4 _ _ _ | exact tt6 _ _ _ | exact tt7 _ _ | exact tt8 _ _ _ | exact tt9 _ _ _ | exact tt10 _ _ | exact tt11 _ _ _ | exact Bool.or_not_self _ | (simp; done) | (simp; omega)) ?_) | refine sat_need (need_last _ (by omega)) ?_)
    exact sat_ret (fin_val (.inr rfl) rfl rfl rfl rfl)
  · cases e

def pawnC (f : Int) (bl : Bool) (a b : Int) : Bool := decide (IntKind.i64.wrap (IntKind.i64.wrap (b.tdiv f) - IntKind.i64.wrap (a.tdiv f)) = fwd bl) && (decide (IntKind.i64.wrap (b.tmod f - a.tmod f) = 1) || decide (IntKind.i64.wrap (a.tmod f - b.tmod f) = 1))
def one4 (f r : Int) (bl : Bool) (a : Int) : Int := numR f r (a.tmod f) (IntKind.i64.wrap (IntKind.i64.wrap (a.tdiv f) + fwd bl))
def two4 (f r : Int) (bl : Bool) (a : Int) : Int := numR f r (a.tmod f) (IntKind.i64.wrap (IntKind.i64.wrap (a.tdiv f) + IntKind.i64.wrap (2 * fwd bl)))
def stepsB (f r : Int) (bl : Bool) (a occ b : Int) : Bool := (decide (b = one4 f r bl a) && !hasB occ (one4 f r bl a)) || (decide (b = two4 f r bl a) && decide (6 ≤ r) && decide (IntKind.i64.wrap (a.tdiv f) = secR r bl) && !hasB occ (one4 f r bl a) && !hasB occ (two4 f r bl a))
def c_refPawn : CF
  | [.agg [.int .i64 f, .int .i64 r], .bool bl, .int .i64 a], [] => some (vsB f r, .sl 0 0 (filtB (pawnC f bl a) id ((f * r).toNat)).length none, [.ints true .i64 (filtB (pawnC f bl a) id ((f * r).toNat))])
  | _, _ => none
theorem c_refPawn_ok : CtOk GG PP (27, c_refPawn) := by
  refine ct_mk Tryd.func27 (by kernel_rfl) rfl fun a0 h0 c0 v0 N0 e hc => ?_
  unfold c_refPawn at e
  split at e
  · rename_i f r bl a
    cases e
    have hE := EE_ok (cts := [(47, c_Place), (65, c_Fwd)]) (inl := []) ⟨c_Place_ok, c_Fwd_ok, trivial⟩ trivial
    refine fn_sound hE 2 Tryd.func27 rfl rfl ?_
    have hm := mul_bd hc
    have hw := w64_mul hc
    have hf := vs_bd hc
    have hf0 : ¬ f = 0 := by omega
    refine sat_idx hE 2 (fun (i : Int) (zs : List Int) => ([(1, Bb bl), (2, I a), (3, .ptr 0 0 0), (7, .sl 1 0 zs.length none), (8, I i)], [.cells true [I f, I r], .ints true .i64 zs])) ((f * r).toNat) (fun j zs => zs = filtB (pawnC f bl a) id j) [] (by omega) ((Ent.phanT (t := 7) (o := .ints true .i64 []) rfl ⟨by simp, by simp, trivial, rfl⟩ (blt_lt rfl)).trans (Ent.ren [0, 1] [1, 2, 3, 7, 8] rfl rfl rfl)) rfl ?_
    intro j i zs hij hj hz
    have hb := filtB_len (pawnC f bl a) id j
    rw [← hz] at hb
    refine sat_br (fun hlt => ?_) (fun hlt => ?_)
    · have hlt' : j < (f * r).toNat := by simp only [decide_eq_true_eq] at hlt; rw [hw] at hlt; omega
      have hs := filtB_succ (pawnC f bl a) id j
      rw [← hz, ← hij] at hs
      repeat (first | refine sat_self ?_ | refine sat_need (by first | rfl | exact tt1 _ _ | exact tt5 _ _ | exact tt2 _ _ _ | exact tt4 _ _ _ | exact tt6 _ _ _ | exact tt7 _ _ | exact tt8 _ _ _ | exact tt9 _ _ _ | exact tt10 _ _ | exact tt11 _ _ _ | exact Bool.or_not_self _ | (simp; done) | (simp; omega)) ?_)
      refine sat_br (fun hon => ?_) (fun hon => ?_)
      · have hon : pawnC f bl a i = true := hon
        rw [hon, cond_true] at hs
        refine sat_need (b := decide (zs.length = zs.length) && decide ((zs.length + 1) * 8 ≤ 140737488355328) && true) (by simp; omega) ?_
        exact sat_ret ⟨hlt', zs ++ [id i], hs.symm, Ent.ren [0, 5] [1, 2, 3, 7, 8] rfl rfl rfl⟩
      · have hon : pawnC f bl a i = false := hon
        rw [hon, cond_false] at hs
        exact sat_ret ⟨hlt', zs, hs.symm, Ent.ren [0, 1] [1, 2, 3, 7, 8] rfl rfl rfl⟩
    · obtain rfl : j = (f * r).toNat := by simp only [decide_eq_false_iff_not] at hlt; rw [hw] at hlt; omega
      subst hz
      refine sat_ret (sat_ret ((fin_new 1 (.inr rfl) rfl rfl rfl rfl rfl rfl)))
  · cases e

def c_refSteps : CF
  | [.agg [.int .i64 f, .int .i64 r], .bool bl, .int .i64 a, .int .u64 occ], [] => some (vsB f r, .sl 0 0 (filtB (stepsB f r bl a occ) id ((f * r).toNat)).length none, [.ints true .i64 (filtB (stepsB f r bl a occ) id ((f * r).toNat))])
  | _, _ => none
theorem c_refSteps_ok : CtOk GG PP (28, c_refSteps) := by
  refine ct_mk Tryd.func28 (by kernel_rfl) rfl fun a0 h0 c0 v0 N0 e hc => ?_
  unfold c_refSteps at e
  split at e
  · rename_i f r bl a occ
    cases e
    have hE := EE_ok (cts := [(47, c_Place), (65, c_Fwd), (48, c_Number), (58, c_Has), (66, c_Second)]) (inl := []) ⟨c_Place_ok, c_Fwd_ok, c_Number_ok, c_Has_ok, c_Second_ok, trivial⟩ trivial
    refine fn_sound hE 2 Tryd.func28 rfl rfl ?_
    have hm := mul_bd hc
    have hw := w64_mul hc
    have hf := vs_bd hc
    have hf0 : ¬ f = 0 := by omega
    repeat (first | refine sat_self ?_ | refine sat_need (by first | rfl | exact tt1 _ _ | exact tt5 _ _ | exact tt2 _ _ _ | exact tt4 _ _ _ | exact tt6 _ _ _ | exact tt7 _ _ | exact tt8 _ _ _ | exact tt9 _ _ _ | exact tt10 _ _ | exact tt11 _ _ _ | exact Bool.or_not_self _ | (simp; done) | (simp; omega)) ?_)
    refine sat_idx hE 2 (fun (i : Int) (zs : List Int) => ([(1, Bb bl), (3, U occ), (4, .ptr 0 0 0), (9, .ptr 1 0 0), (11, I (one4 f r bl a)), (12, I (two4 f r bl a)), (13, .sl 2 0 zs.length none), (14, I i)], [.cells true [I f, I r], .cells true [I (a.tmod f), I (IntKind.i64.wrap (a.tdiv f))], .ints true .i64 zs])) ((f * r).toNat) (fun j zs => zs = filtB (stepsB f r bl a occ) id j) [] (by omega) ((Ent.phanT (t := 13) (o := .ints true .i64 []) rfl ⟨by simp, by simp, trivial, rfl⟩ (blt_lt rfl)).trans (Ent.ren [0, 1, 2] [1, 3, 4, 9, 11, 12, 13, 14] rfl rfl rfl)) rfl ?_
    intro j i zs hij hj hz
    have hb := filtB_len (stepsB f r bl a occ) id j
    rw [← hz] at hb
    refine sat_br (fun hlt => ?_) (fun hlt => ?_)
    · have hlt' : j < (f * r).toNat := by simp only [decide_eq_true_eq] at hlt; rw [hw] at hlt; omega
      have hs := filtB_succ (stepsB f r bl a occ) id j
      rw [← hz, ← hij] at hs
      repeat (first | refine sat_self ?_ | refine sat_need (by first | rfl | exact tt1 _ _ | exact tt5 _ _ | exact tt2 _ _ _ | exact tt4 _ _ _ | exact tt6 _ _ _ | exact tt7 _ _ | exact tt8 _ _ _ | exact tt9 _ _ _ | exact tt10 _ _ | exact tt11 _ _ _ | exact Bool.or_not_self _ | (simp; done) | (simp; omega)) ?_)
      refine sat_br (fun hon => ?_) (fun hon => ?_)
      · have hon : stepsB f r bl a occ i = true := hon
        rw [hon, cond_true] at hs
        refine sat_need (b := decide (zs.length = zs.length) && decide ((zs.length + 1) * 8 ≤ 140737488355328) && true) (by simp; omega) ?_
        exact sat_ret ⟨hlt', zs ++ [id i], hs.symm, Ent.ren [0, 1, 4] [1, 3, 4, 9, 11, 12, 13, 14] rfl rfl rfl⟩
      · have hon : stepsB f r bl a occ i = false := hon
        rw [hon, cond_false] at hs
        exact sat_ret ⟨hlt', zs, hs.symm, Ent.ren [0, 1, 2] [1, 3, 4, 9, 11, 12, 13, 14] rfl rfl rfl⟩
    · obtain rfl : j = (f * r).toNat := by simp only [decide_eq_false_iff_not] at hlt; rw [hw] at hlt; omega
      subst hz
      refine sat_ret (sat_ret ((fin_new 2 (.inr rfl) rfl rfl rfl rfl rfl rfl)))
  · cases e

end Go.Ab

namespace Go.Ab
open Go.Proofs
/-! ### pawns as sets -/
theorem fwd_cases (bl : Bool) : (bl = true ∧ fwd bl = -1) ∨ (bl = false ∧ fwd bl = 1) := by cases bl <;> simp [fwd]
theorem num_off {f r X Y : Int} (h : onB f r X Y = false) : numR f r X Y = -1 := by unfold numR; rw [numB_on, h]; rfl
theorem num_at {f r b X Y : Int} (hv : vsB f r = true) (hb : validB f r b = true) : decide (b = numR f r X Y) = (decide (px f b = X) && decide (py f b = Y)) := by
  have hq := pl_bd hb
  have hl := valid_lt hb
  cases ho : onB f r X Y with
  | true =>
    have := num_iff hv ho hb
    rw [Bool.eq_iff_iff, Bool.and_eq_true, decide_eq_true_eq, decide_eq_true_eq, decide_eq_true_eq, ← this]
    exact ⟨Eq.symm, Eq.symm⟩
  | false =>
    rw [num_off ho, show decide (b = -1) = false by simp; omega]
    symm
    simp only [Bool.and_eq_false_iff, decide_eq_false_iff_not]
    by_cases h1 : px f b = X
    · right
      intro h2
      have : onB f r X Y = true := on_mk (by omega) (by omega) (by omega) (by omega)
      rw [ho] at this; cases this
    · exact .inl h1
theorem pawn_bd (bl : Bool) : ∀ row ∈ [[-1, fwd bl], [1, fwd bl]], -8 ≤ row.getD 0 0 ∧ row.getD 0 0 ≤ 8 ∧ -8 ≤ row.getD 1 0 ∧ row.getD 1 0 ≤ 8 := by cases bl <;> simp [fwd]
theorem onl_leap {f r a : Int} (rs : List (List Int)) (m : Nat) (h : rs.any (leapB f r a · m) = true) : validB f r m = true := by
  obtain ⟨row, _, h2⟩ := List.any_eq_true.1 h
  simp only [leapB, Bool.and_eq_true] at h2
  exact h2.1.1
theorem pawn_bt {f r a : Int} {bl : Bool} (ha : validB f r a = true) : (pawnR f r bl a).2 = 0 ∧ Uk (pawnR f r bl a).1 ∧ OnS f r (pawnR f r bl a).1 ∧ ∀ b, validB f r b = true → bt (pawnR f r bl a).1 b.toNat = pawnC f bl a b := by
  have L := leap_bt ha [[-1, fwd bl], [1, fwd bl]] (pawn_bd bl)
  unfold pawnR
  rw [ha, cond_true]
  refine ⟨rfl, L.1, fun m _ hm => onl_leap _ _ ((L.2 m).symm.trans hm), fun b hb => ?_⟩
  obtain ⟨e1, e2⟩ := diff_w ha hb
  obtain ⟨e3, _⟩ := diff_w hb ha
  have hd := diff_bd ha hb
  rw [L.2, leap_any hb]
  unfold pawnC rowAny
  rw [e1, e2, e3]
  simp only [List.any_cons, List.any_nil, Bool.or_false, List.getD_cons_zero, List.getD_cons_succ]
  rw [Bool.eq_iff_iff]
  simp only [Bool.or_eq_true, Bool.and_eq_true, decide_eq_true_eq]
  omega
theorem step_bt {f r a k : Int} (ha : validB f r a = true) (hk : -2 ≤ k ∧ k ≤ 2) : Uk (leapR f r a [[0, k]]) ∧ (∀ m, bt (leapR f r a [[0, k]]) m = true → validB f r m = true) ∧ ∀ b, validB f r b = true → bt (leapR f r a [[0, k]]) b.toNat = decide (b = numR f r (px f a) (py f a + k)) := by
  have L := leap_bt ha [[0, k]] (by intro row h; simp only [List.mem_singleton] at h; subst h; simp; omega)
  refine ⟨L.1, fun m hm => onl_leap _ _ ((L.2 m).symm.trans hm), fun b hb => ?_⟩
  rw [L.2, leap_any hb, num_at (valid_vs ha) hb]
  unfold rowAny
  simp only [List.any_cons, List.any_nil, Bool.or_false, List.getD_cons_zero, List.getD_cons_succ]
  rw [Bool.eq_iff_iff]
  simp only [Bool.and_eq_true, decide_eq_true_eq]
  omega
theorem num_cases (f r X Y : Int) (hv : vsB f r = true) : (onB f r X Y = true ∧ validB f r (numR f r X Y) = true) ∨ (onB f r X Y = false ∧ numR f r X Y = -1) := by
  cases ho : onB f r X Y with
  | true =>
    left
    have h := at_on (X := X) (Y := Y) hv
    rw [ho] at h
    have hp := at_pos (of_decide_eq_true h)
    rw [num_on hv ho, hp.2.2.2.2]
    exact ⟨rfl, (on_valid hv ho).1⟩
  | false => exact .inr ⟨rfl, num_off ho⟩
theorem steps_bt {f r a occ : Int} {bl : Bool} (h : rayOn f r a occ = true) (ho : Uk occ) : (stepsR f r bl a occ).2 = 0 ∧ Uk (stepsR f r bl a occ).1 ∧ OnS f r (stepsR f r bl a occ).1 ∧ ∀ b, validB f r b = true → bt (stepsR f r bl a occ).1 b.toNat = stepsB f r bl a occ b := by
  obtain ⟨ha, _⟩ := (rayOn_iff ho).1 h
  have hv := valid_vs ha
  have hp := pl_bd ha
  have hw2 : IntKind.i64.wrap (2 * fwd bl) = 2 * fwd bl := by rcases fwd_cases bl with ⟨_, e⟩ | ⟨_, e⟩ <;> rw [e] <;> rfl
  have hfw := fwd_cases bl
  have S1 := step_bt (k := fwd bl) ha (by omega)
  have S2 := step_bt (k := 2 * fwd bl) ha (by omega)
  have e1 : one4 f r bl a = numR f r (px f a) (py f a + fwd bl) := by
    show numR f r (px f a) (IntKind.i64.wrap (IntKind.i64.wrap (py f a) + fwd bl)) = _
    rw [hp.2.2.2.2.1, w64_id (by omega) (by omega)]
  have e2 : two4 f r bl a = numR f r (px f a) (py f a + 2 * fwd bl) := by
    show numR f r (px f a) (IntKind.i64.wrap (IntKind.i64.wrap (py f a) + IntKind.i64.wrap (2 * fwd bl))) = _
    rw [hp.2.2.2.2.1, hw2, w64_id (by omega) (by omega)]
  have hsec : (decide (r < 6) || !decide (IntKind.i64.wrap (a.tdiv f) = bif bl then IntKind.i64.wrap (r - 2) else 1)) = !(decide (6 ≤ r) && decide (IntKind.i64.wrap (a.tdiv f) = secR r bl)) := by
    unfold secR
    rw [Bool.not_and, show (!decide (6 ≤ r)) = decide (r < 6) by rw [← decide_not]; congr 1; exact propext ⟨fun h => by omega, fun h => by omega⟩]
  unfold stepsR stepsC one1
  rw [h, cond_true, Bool.or_assoc, hsec, hw2]
  have hA : Uk (uandn (leapR f r a [[0, fwd bl]]) occ) := uk_andn _ _
  have hB : Uk (uandn (leapR f r a [[0, 2 * fwd bl]]) occ) := uk_andn _ _
  have bA : ∀ m, bt (uandn (leapR f r a [[0, fwd bl]]) occ) m = (bt (leapR f r a [[0, fwd bl]]) m && !bt occ m) := bt_andn S1.1 ho
  have bB : ∀ m, bt (uandn (leapR f r a [[0, 2 * fwd bl]]) occ) m = (bt (leapR f r a [[0, 2 * fwd bl]]) m && !bt occ m) := bt_andn S2.1 ho
  have onA : OnS f r (uandn (leapR f r a [[0, fwd bl]]) occ) := fun m _ hm => by rw [bA, Bool.and_eq_true] at hm; exact S1.2.1 m hm.1
  have onB' : OnS f r (uandn (leapR f r a [[0, 2 * fwd bl]]) occ) := fun m _ hm => by rw [bB, Bool.and_eq_true] at hm; exact S2.2.1 m hm.1
  have vA : ∀ b, validB f r b = true → bt (uandn (leapR f r a [[0, fwd bl]]) occ) b.toNat = (decide (b = one4 f r bl a) && !hasB occ (one4 f r bl a)) := fun b hb => by
    rw [bA, S1.2.2 b hb, ← e1]
    by_cases e : b = one4 f r bl a
    · rw [← e, has_bt' ho hb]
    · simp [e]
  have vB : ∀ b, validB f r b = true → bt (uandn (leapR f r a [[0, 2 * fwd bl]]) occ) b.toNat = (decide (b = two4 f r bl a) && !hasB occ (two4 f r bl a)) := fun b hb => by
    rw [bB, S2.2.2 b hb, ← e2]
    by_cases e : b = two4 f r bl a
    · rw [← e, has_bt' ho hb]
    · simp [e]
  -- the first step is free just if its set is not empty
  have hz : uandn (leapR f r a [[0, fwd bl]]) occ = 0 ↔ (one4 f r bl a = -1 ∨ hasB occ (one4 f r bl a) = true) := by
    rw [uk_eq_0 hA]
    rcases num_cases f r (px f a) (py f a + fwd bl) hv with ⟨_, hval⟩ | ⟨_, hneg⟩
    · rw [← e1] at hval
      have hl := valid_lt hval
      constructor
      · intro hall
        have := hall (one4 f r bl a).toNat (by omega)
        rw [vA _ hval] at this
        right; simpa using this
      · rintro (hx | hx)
        · omega
        · intro n hn
          cases hb : bt (uandn (leapR f r a [[0, fwd bl]]) occ) n with
          | false => rfl
          | true =>
            have hvn := onA n hn hb
            have := vA n hvn
            rw [Int.toNat_natCast, hb, hx] at this
            simp at this
    · rw [← e1] at hneg
      refine ⟨fun _ => .inl hneg, fun _ n hn => ?_⟩
      cases hb : bt (uandn (leapR f r a [[0, fwd bl]]) occ) n with
      | false => rfl
      | true =>
        have hvn := onA n hn hb
        have := vA n hvn
        rw [Int.toNat_natCast, hb, hneg] at this
        simp at this
  cases hc : (decide (uandn (leapR f r a [[0, fwd bl]]) occ = 0) || !(decide (6 ≤ r) && decide (IntKind.i64.wrap (a.tdiv f) = secR r bl))) with
  | true =>
    rw [cond_true]
    refine ⟨rfl, hA, onA, fun b hb => ?_⟩
    show bt (uandn (leapR f r a [[0, fwd bl]]) occ) b.toNat = _
    rw [vA b hb]
    unfold stepsB
    symm
    rw [Bool.or_eq_true, decide_eq_true_eq, hz] at hc
    have : (decide (b = two4 f r bl a) && decide (6 ≤ r) && decide (IntKind.i64.wrap (a.tdiv f) = secR r bl) && !hasB occ (one4 f r bl a) && !hasB occ (two4 f r bl a)) = false := by
      have hl := valid_lt hb
      rcases hc with (hc | hc) | hc
      · have h2 : two4 f r bl a = -1 := by
          rw [e2]
          refine num_off ?_
          cases hon : onB f r (px f a) (py f a + 2 * fwd bl) with
          | false => rfl
          | true =>
            have := on_bd hon
            have h3 : onB f r (px f a) (py f a + fwd bl) = true := on_mk (by omega) (by omega) (by omega) (by omega)
            rcases num_cases f r (px f a) (py f a + fwd bl) hv with ⟨_, hval⟩ | ⟨h4, _⟩
            · rw [← e1, hc] at hval
              have := valid_lt hval
              omega
            · rw [h3] at h4; cases h4
        rw [h2, show decide (b = -1) = false by simp; omega]
        rfl
      · rw [hc]; simp
      · cases h6 : decide (6 ≤ r) <;> rw [h6] at hc <;> simp at hc <;> simp [hc]
    rw [this, Bool.or_false]
  | false =>
    rw [cond_false]
    refine ⟨rfl, uk_or _ _, fun m hm hb => ?_, fun b hb => ?_⟩
    · have hb : bt (uor (uandn (leapR f r a [[0, fwd bl]]) occ) (uandn (leapR f r a [[0, 2 * fwd bl]]) occ)) m = true := hb
      rw [bt_or hA hB, Bool.or_eq_true] at hb
      exact hb.elim (onA m hm) (onB' m hm)
    · show bt (uor (uandn (leapR f r a [[0, fwd bl]]) occ) (uandn (leapR f r a [[0, 2 * fwd bl]]) occ)) b.toNat = _
      rw [bt_or hA hB, vA b hb, vB b hb]
      simp only [Bool.or_eq_false_iff, decide_eq_false_iff_not, Bool.not_eq_false', Bool.and_eq_true, decide_eq_true_eq] at hc
      obtain ⟨h1, h2, h3⟩ := hc
      rw [hz, not_or] at h1
      have h4 : hasB occ (one4 f r bl a) = false := by simpa using h1.2
      unfold stepsB
      rw [h4, h3]
      simp [h2]
end Go.Ab

namespace Go.Ab
open Go.Proofs
theorem uk_until (b : Int) : ∀ (L : List Int) (s : Int), Uk s → Uk (untilS b L s)
  | [], _, h => h
  | x :: L, s, h => by
    rw [untilS]
    cases decide (x = b) with
    | true => exact h
    | false => exact uk_until b L _ (uk_or _ _)
theorem until_bt {b : Int} : ∀ (L : List Int) (s : Int), (∀ x ∈ L, 0 ≤ x ∧ x < 64) → Uk s → ∀ m : Nat, bt (untilS b L s) m = (bt s m || decide ((m : Int) ∈ L.take (idxL b L)))
  | [], s, _, _, m => by simp [untilS, idxL]
  | x :: L, s, hL, hs, m => by
    have hx := hL x (by simp)
    rw [untilS, idxL]
    cases hb : decide (x = b) with
    | true => simp
    | false =>
      rw [cond_false, cond_false, until_bt L _ (fun y hy => hL y (by simp [hy])) (uk_or _ _), bt_or hs (uk_shl _ _), bt_shl hx.1 hx.2, Bool.or_assoc, List.take_succ_cons]
      congr 1
      by_cases e : (m : Int) = x
      · simp [e]
      · have e' : ¬ x = (m : Int) := fun h => e h.symm
        simp [e, e']
/-- between two squares: the set and the list -/
theorem betw_set {f r a b : Int} (ha : validB f r a = true) (hb : validB f r b = true) (h : (lineR f a b).2.2 = true) : dirR f r a b = ((lineR f a b).1, (lineR f a b).2.1, 0) ∧ betwR f r a b = (ofL (betwL f r a b) 0, 0) := by
  have hp := pl_bd ha
  have hq := pl_bd hb
  obtain ⟨e1, e2⟩ := diff_w ha hb
  have hlh := line_has ha hb h
  rcases line_R ha hb with ⟨e, _⟩ | ⟨e, hl⟩
  · rw [e] at h; cases h
  · have hd : dirR f r a b = ((lineR f a b).1, (lineR f a b).2.1, 0) := by
      unfold dirR
      rw [ha, hb, e, e1, e2]
      have : (decide (a = b) || !decide (px f b - px f a = 0) && !decide (py f b - py f a = 0) && !decide (px f b - px f a = py f b - py f a) && !decide (px f b - px f a = IntKind.i64.wrap (0 - (py f b - py f a)))) = false := by
        rw [w64_id (by omega) (by omega)]
        simp only [Bool.or_eq_false_iff, Bool.and_eq_false_iff, decide_eq_false_iff_not, Bool.not_eq_false', decide_eq_true_eq]
        rw [valid_inj ha hb]
        unfold onLine at hl
        omega
      simp only [this, Bool.and_true, cond_true, cond_false]
    refine ⟨hd, ?_⟩
    unfold betwR
    rw [hd]
    simp only [decide_true, cond_true]
    have hz : rayL f r a (lineR f a b).1 (lineR f a b).2.1 = betwZ f r a b := by rw [ray_eq, unit_in hlh.1]; rfl
    have hbd : ∀ x ∈ betwZ f r a b, 0 ≤ x ∧ x < 64 := fun x hx => ⟨(valid_lt (ray_valid ha hx)).1, (valid_lt (ray_valid ha hx)).2.2⟩
    have hL : betwL f r a b = (betwZ f r a b).take (idxL b (betwZ f r a b)) := by unfold betwL; rw [hlh.2]; rfl
    rw [hz, hL]
    congr 1
    have hbd2 : ∀ x ∈ (betwZ f r a b).take (idxL b (betwZ f r a b)), 0 ≤ x ∧ x < 64 := fun x hx => hbd x (List.mem_of_mem_take hx)
    obtain ⟨k1, k2⟩ := ofL_bt _ 0 hbd2 uk_0
    refine uk_ext (uk_until _ _ _ uk_0) k1 fun n _ => ?_
    rw [until_bt _ _ hbd uk_0, k2]
theorem dir_none {f r a b : Int} (ha : validB f r a = true) (hb : validB f r b = true) (h : (lineR f a b).2.2 = false) : dirR f r a b = (0, 0, 9) ∧ betwR f r a b = (0, 9) := by
  have hp := pl_bd ha
  have hq := pl_bd hb
  obtain ⟨e1, e2⟩ := diff_w ha hb
  rcases line_R ha hb with ⟨e, hl⟩ | ⟨e, _⟩
  · have hd : dirR f r a b = (0, 0, 9) := by
      unfold dirR
      rw [ha, hb, e1, e2]
      have : (decide (a = b) || !decide (px f b - px f a = 0) && !decide (py f b - py f a = 0) && !decide (px f b - px f a = py f b - py f a) && !decide (px f b - px f a = IntKind.i64.wrap (0 - (py f b - py f a)))) = true := by
        rw [w64_id (by omega) (by omega)]
        simp only [Bool.or_eq_true, Bool.and_eq_true, decide_eq_true_eq, Bool.not_eq_true', decide_eq_false_iff_not]
        rw [valid_inj ha hb]
        unfold onLine at hl
        omega
      simp only [this, Bool.and_true, cond_true]
    refine ⟨hd, ?_⟩
    unfold betwR
    rw [hd]; rfl
  · rw [e] at h; cases h
theorem dir_bad {f r a b : Int} (h : (validB f r a && validB f r b) = false) : dirR f r a b = (0, 0, 2) ∧ betwR f r a b = (0, 2) := by
  have hd : dirR f r a b = (0, 0, 2) := by unfold dirR; rw [h]; rfl
  refine ⟨hd, ?_⟩
  unfold betwR
  rw [hd]; rfl
theorem betwL_bd {f r a b : Int} (ha : validB f r a = true) : (betwL f r a b).length ≤ 8 ∧ ∀ x ∈ betwL f r a b, validB f r x = true := by
  refine ⟨betwL_len8 f r a b, fun x hx => ?_⟩
  unfold betwL at hx
  cases h : hasL b (betwZ f r a b) with
  | false => rw [h] at hx; simp at hx
  | true => rw [h, cond_true] at hx; exact ray_valid ha (List.mem_of_mem_take hx)
theorem need_of {f r : Int} {l : List Int} (h : l.length ≤ 8 ∧ ∀ x ∈ l, validB f r x = true) : (decide (l.length = l.length) && decide (l.length ≤ 1000000) && l.all fun x => decide (0 ≤ x)) = true := by
  simp only [decide_true, Bool.true_and, Bool.and_eq_true, decide_eq_true_eq, List.all_eq_true]
  exact ⟨by omega, fun x hx => (valid_lt (h.2 x hx)).1⟩
def c_lawLines : CF
  | [.agg [.int .i64 _f, .int .i64 _r], .int .i64 _a, .int .i64 _b], [] => some (true, .bool true, [])
  | _, _ => none
theorem c_lawLines_ok : CtOk GG PP (4, c_lawLines) := by
  refine ct_mk Tryd.func4 (by kernel_rfl) rfl fun a0 h0 c0 v0 N0 e hc => ?_
  unfold c_lawLines at e
  split at e
  · rename_i f r a b
    cases e
    have hE := EE_ok (cts := [(16, c_betw), (17, c_dir), (18, c_Valid), (19, c_Line), (21, c_Between), (20, c_Of), (15, c_known4)]) (inl := []) ⟨c_betw_ok, c_dir_ok, c_Valid_ok, c_Line_ok, c_Between_ok, c_Of_ok, c_known4_ok, trivial⟩ trivial
    refine fn_sound hE 2 Tryd.func4 rfl rfl ?_
    repeat (first | refine sat_self ?_ | refine sat_need (by first | rfl | exact tt1 _ _ | exact tt5 _ _ | exact tt2 _ _ _ | exact tt4 _ _ _ | exact tt6 _ _ _ | exact tt7 _ _ | exact tt8 _ _ _ | exact tt9 _ _ _ | exact tt10 _ _ | exact tt11 _ _ _ | exact Bool.or_not_self _ | (simp; done) | (simp; omega)) ?_)
    refine sat_br (fun h0 => ?_) (fun h0 => ?_)
    · have h1 : (validB f r a && validB f r b) = false := by cases h : validB f r a <;> cases h' : validB f r b <;> simp_all
      obtain ⟨e1, e2⟩ := dir_bad h1
      repeat (first | refine sat_self ?_ | refine sat_need (by first | rfl | exact tt1 _ _ | exact tt5 _ _ | exact tt2 _ _ _ | exact tt4 _ _ _ | exact tt6 _ _ _ | exact tt7 _ _ | exact tt8 _ _ _ | exact tt9 _ _ _ | exact tt10 _ _ | exact tt11 _ _ _ | exact Bool.or_not_self _ | (simp; done) | (simp; omega)) ?_)
      refine sat_ret (fin_val (.inr rfl) rfl rfl rfl (congrArg V.bool ?_))
      rw [e1, e2]; rfl
    · have h1 : validB f r a = true ∧ validB f r b = true := by cases h : validB f r a <;> cases h' : validB f r b <;> simp_all
      have hv := vs_bd (valid_vs h1.1)
      refine sat_need (by simp; omega) ?_
      repeat (first | refine sat_self ?_ | refine sat_need (by first | rfl | exact tt1 _ _ | exact tt5 _ _ | exact tt2 _ _ _ | exact tt4 _ _ _ | exact tt6 _ _ _ | exact tt7 _ _ | exact tt8 _ _ _ | exact tt9 _ _ _ | exact tt10 _ _ | exact tt11 _ _ _ | exact Bool.or_not_self _ | (simp; done) | (simp; omega)) ?_)
      refine sat_br (fun h2 => ?_) (fun h2 => ?_)
      · have h2 : (lineR f a b).2.2 = false := by simpa using h2
        obtain ⟨e1, e2⟩ := dir_none h1.1 h1.2 h2
        repeat (first | refine sat_self ?_ | refine sat_need (by first | rfl | exact tt1 _ _ | exact tt5 _ _ | exact tt2 _ _ _ | exact tt4 _ _ _ | exact tt6 _ _ _ | exact tt7 _ _ | exact tt8 _ _ _ | exact tt9 _ _ _ | exact tt10 _ _ | exact tt11 _ _ _ | exact Bool.or_not_self _ | (simp; done) | (simp; omega)) ?_)
        refine sat_ret (fin_val (.inr rfl) rfl rfl rfl (congrArg V.bool ?_))
        rw [e1, e2]; rfl
      · have h2 : (lineR f a b).2.2 = true := by simpa using h2
        obtain ⟨e1, e2⟩ := betw_set h1.1 h1.2 h2
        have ht := betwO_take f r a b
        repeat (first | refine sat_self ?_ | refine sat_need (by first | rfl | exact tt1 _ _ | exact tt5 _ _ | exact tt2 _ _ _ | exact tt4 _ _ _ | exact tt6 _ _ _ | exact tt7 _ _ | exact tt8 _ _ _ | exact tt9 _ _ _ | exact tt10 _ _ | exact tt11 _ _ _ | exact Bool.or_not_self _ | (simp; done) | (simp; omega)) ?_)
        refine sat_need (by rw [ht]; exact need_of (betwL_bd h1.1)) ?_
        repeat (first | refine sat_self ?_ | refine sat_need (by first | rfl | exact tt1 _ _ | exact tt5 _ _ | exact tt2 _ _ _ | exact tt4 _ _ _ | exact tt6 _ _ _ | exact tt7 _ _ | exact tt8 _ _ _ | exact tt9 _ _ _ | exact tt10 _ _ | exact tt11 _ _ _ | exact Bool.or_not_self _ | (simp; done) | (simp; omega)) ?_)
        refine sat_ret (fin_val (.inr rfl) rfl rfl rfl (congrArg V.bool ?_))
        rw [show ((betwO f r a b).drop 0).take (betwL f r a b).length = betwL f r a b from ht, e1, e2]
        simp
  · cases e

end Go.Ab

namespace Go.Ab
open Go.Proofs
theorem need_filt (c : Int → Bool) {n : Nat} (h : n ≤ 1000000) : (decide ((filtB c id n).length = (((filtB c id n).drop 0).take (filtB c id n).length).length) && decide ((((filtB c id n).drop 0).take (filtB c id n).length).length ≤ 1000000) && (((filtB c id n).drop 0).take (filtB c id n).length).all fun x => decide (0 ≤ x)) = true := by
  have e : ((filtB c id n).drop 0).take (filtB c id n).length = filtB c id n := by simp
  have := filtB_len c id n
  rw [e]
  simp only [decide_true, Bool.true_and, Bool.and_eq_true, decide_eq_true_eq, List.all_eq_true]
  exact ⟨by omega, fun x hx => (mem_filtB.1 hx).1⟩
theorem take_all (l : List Int) : (l.drop 0).take l.length = l := by simp
theorem uk_of {occ : Int} (h : (decide (0 ≤ occ) && decide (occ < 18446744073709551616)) = true) : Uk occ := by simpa [Uk] using h
theorem reach_bad {f r kd a occ : Int} (ho : Uk occ) (h : (!validB f r a || !onR f r occ || decide (kd < 2) || decide (6 < kd)) = true) : reachR f r kd a occ = (0, 2) := by
  unfold reachR
  cases h1 : rayOn f r a occ with
  | false => rfl
  | true =>
    obtain ⟨h2, h3⟩ := (rayOn_iff ho).1 h1
    have h4 := (onR_iff ho).2 ⟨valid_vs h2, h3⟩
    rw [h2, h4] at h
    have h5 : kd < 2 ∨ 6 < kd := by simpa using h
    have n2 : decide (kd = 2) = false := by simp; omega
    have n3 : decide (kd = 3) = false := by simp; omega
    have n4 : decide (kd = 4) = false := by simp; omega
    have n5 : decide (kd = 5) = false := by simp; omega
    have n6 : decide (kd = 6) = false := by simp; omega
    rw [n2, n3, n4, n5, n6]; rfl
theorem ok_on {f r kd a occ : Int} (ho : Uk occ) (h : (!validB f r a || !onR f r occ || decide (kd < 2) || decide (6 < kd)) = false) : rayOn f r a occ = true ∧ kinds5 kd ∧ vsB f r = true := by
  simp only [Bool.or_eq_false_iff, Bool.not_eq_false', decide_eq_false_iff_not] at h
  obtain ⟨⟨⟨h1, h2⟩, h3⟩, h4⟩ := h
  refine ⟨(rayOn_iff ho).2 ⟨h1, ((onR_iff ho).1 h2).2⟩, ?_, valid_vs h1⟩
  unfold kinds5; omega
theorem reach_of {f r kd a occ : Int} (ho : Uk occ) (h : rayOn f r a occ = true) (hk : kinds5 kd) : ofL (filtB (reachesC f r kd a occ) id (f * r).toNat) 0 = (reachR f r kd a occ).1 ∧ (reachR f r kd a occ).2 = 0 := by
  obtain ⟨h1, h2, h3⟩ := reach_bt h ho hk
  exact ⟨of_filt (valid_vs ((rayOn_iff ho).1 h).1) h1 h2 _ h3, (reach_on h hk).1⟩
theorem pawn_of {f r a : Int} {bl : Bool} (h : validB f r a = true) : ofL (filtB (pawnC f bl a) id (f * r).toNat) 0 = (pawnR f r bl a).1 ∧ (pawnR f r bl a).2 = 0 := by
  obtain ⟨h0, h1, h2, h3⟩ := pawn_bt (bl := bl) h
  exact ⟨of_filt (valid_vs h) h1 h2 _ h3, h0⟩
theorem steps_of {f r a occ : Int} {bl : Bool} (ho : Uk occ) (h : rayOn f r a occ = true) : ofL (filtB (stepsB f r bl a occ) id (f * r).toNat) 0 = (stepsR f r bl a occ).1 ∧ (stepsR f r bl a occ).2 = 0 := by
  obtain ⟨h0, h1, h2, h3⟩ := steps_bt (bl := bl) h ho
  exact ⟨of_filt (valid_vs ((rayOn_iff ho).1 h).1) h1 h2 _ h3, h0⟩
def c_lawReaches : CF
  | [.agg [.int .i64 _f, .int .i64 _r], .int .i8 _kd, .int .i64 _a, .int .u64 occ], [] => some (decide (0 ≤ occ) && decide (occ < 18446744073709551616), .bool true, [])
  | _, _ => none
theorem c_lawReaches_ok : CtOk GG PP (5, c_lawReaches) := by
  refine ct_mk Tryd.func5 (by kernel_rfl) rfl fun a0 h0 c0 v0 N0 e hc => ?_
  unfold c_lawReaches at e
  split at e
  · rename_i f r kd a occ
    cases e
    have hE := EE_ok (cts := [(22, c_reach), (18, c_Valid), (23, c_On), (24, c_Reach), (20, c_Of), (15, c_known4)]) (inl := []) ⟨c_reach_ok, c_Valid_ok, c_On_ok, c_Reach_ok, c_Of_ok, c_known4_ok, trivial⟩ trivial
    refine fn_sound hE 2 Tryd.func5 rfl rfl ?_
    have ho := uk_of hc
    repeat (first | refine sat_self ?_ | refine sat_need (by first | rfl | exact tt1 _ _ | exact tt5 _ _ | exact tt2 _ _ _ | exact tt4 _ _ _ | exact tt6 _ _ _ | exact tt7 _ _ | exact tt8 _ _ _ | exact tt9 _ _ _ | exact tt10 _ _ | exact tt11 _ _ _ | exact Bool.or_not_self _ | (simp; done) | (simp; omega)) ?_)
    refine sat_br (fun h0 => ?_) (fun h0 => ?_)
    · have e1 := reach_bad ho h0
      repeat (first | refine sat_self ?_ | refine sat_need (by first | rfl | exact tt1 _ _ | exact tt5 _ _ | exact tt2 _ _ _ | exact tt4 _ _ _ | exact tt6 _ _ _ | exact tt7 _ _ | exact tt8 _ _ _ | exact tt9 _ _ _ | exact tt10 _ _ | exact tt11 _ _ _ | exact Bool.or_not_self _ | (simp; done) | (simp; omega)) ?_)
      refine sat_ret (fin_val (.inr rfl) rfl rfl rfl (congrArg V.bool ?_))
      rw [e1]; rfl
    · obtain ⟨h1, h2, h3⟩ := ok_on ho h0
      have hm := mul_bd h3
      obtain ⟨e1, e2⟩ := reach_of ho h1 h2
      refine sat_need h3 ?_
      repeat (first | refine sat_self ?_ | refine sat_need (by first | rfl | exact tt1 _ _ | exact tt5 _ _ | exact tt2 _ _ _ | exact tt4 _ _ _ | exact tt6 _ _ _ | exact tt7 _ _ | exact tt8 _ _ _ | exact tt9 _ _ _ | exact tt10 _ _ | exact tt11 _ _ _ | exact Bool.or_not_self _ | (simp; done) | (simp; omega)) ?_)
      refine sat_need (need_filt _ (by omega)) ?_
      repeat (first | refine sat_self ?_ | refine sat_need (by first | rfl | exact tt1 _ _ | exact tt5 _ _ | exact tt2 _ _ _ | exact tt4 _ _ _ | exact tt6 _ _ _ | exact tt7 _ _ | exact tt8 _ _ _ | exact tt9 _ _ _ | exact tt10 _ _ | exact tt11 _ _ _ | exact Bool.or_not_self _ | (simp; done) | (simp; omega)) ?_)
      refine sat_ret (fin_val (.inr rfl) rfl rfl rfl (congrArg V.bool ?_))
      rw [take_all, e1, e2]
      simp
  · cases e

def c_lawPawns : CF
  | [.agg [.int .i64 _f, .int .i64 _r], .bool _bl, .int .i64 _a, .int .u64 occ], [] => some (decide (0 ≤ occ) && decide (occ < 18446744073709551616), .bool true, [])
  | _, _ => none
theorem c_lawPawns_ok : CtOk GG PP (6, c_lawPawns) := by
  refine ct_mk Tryd.func6 (by kernel_rfl) rfl fun a0 h0 c0 v0 N0 e hc => ?_
  unfold c_lawPawns at e
  split at e
  · rename_i f r bl a occ
    cases e
    have hE := EE_ok (cts := [(25, c_pawn), (26, c_steps), (18, c_Valid), (23, c_On), (27, c_refPawn), (28, c_refSteps), (20, c_Of), (15, c_known4)]) (inl := []) ⟨c_pawn_ok, c_steps_ok, c_Valid_ok, c_On_ok, c_refPawn_ok, c_refSteps_ok, c_Of_ok, c_known4_ok, trivial⟩ trivial
    refine fn_sound hE 2 Tryd.func6 rfl rfl ?_
    have ho := uk_of hc
    repeat (first | refine sat_self ?_ | refine sat_need (by first | rfl | exact tt1 _ _ | exact tt5 _ _ | exact tt2 _ _ _ | exact tt4 _ _ _ | exact tt6 _ _ _ | exact tt7 _ _ | exact tt8 _ _ _ | exact tt9 _ _ _ | exact tt10 _ _ | exact tt11 _ _ _ | exact Bool.or_not_self _ | (simp; done) | (simp; omega)) ?_)
    refine sat_br (fun h0 => ?_) (fun h0 => ?_)
    · have h1 : validB f r a = false := by simpa using h0
      have e1 : pawnR f r bl a = (0, 2) := by unfold pawnR; rw [h1]; rfl
      have e2 : stepsR f r bl a occ = (0, 2) := by unfold stepsR; rw [show rayOn f r a occ = false by unfold rayOn; rw [h1]; rfl]; rfl
      repeat (first | refine sat_self ?_ | refine sat_need (by first | rfl | exact tt1 _ _ | exact tt5 _ _ | exact tt2 _ _ _ | exact tt4 _ _ _ | exact tt6 _ _ _ | exact tt7 _ _ | exact tt8 _ _ _ | exact tt9 _ _ _ | exact tt10 _ _ | exact tt11 _ _ _ | exact Bool.or_not_self _ | (simp; done) | (simp; omega)) ?_)
      refine sat_ret (fin_val (.inr rfl) rfl rfl rfl (congrArg V.bool ?_))
      rw [e1, e2]; rfl
    · have h1 : validB f r a = true := by simpa using h0
      have hv := valid_vs h1
      have hm := mul_bd hv
      obtain ⟨p1, p2⟩ := pawn_of (bl := bl) h1
      refine sat_need hv ?_
      repeat (first | refine sat_self ?_ | refine sat_need (by first | rfl | exact tt1 _ _ | exact tt5 _ _ | exact tt2 _ _ _ | exact tt4 _ _ _ | exact tt6 _ _ _ | exact tt7 _ _ | exact tt8 _ _ _ | exact tt9 _ _ _ | exact tt10 _ _ | exact tt11 _ _ _ | exact Bool.or_not_self _ | (simp; done) | (simp; omega)) ?_)
      refine sat_need (need_filt _ (by omega)) ?_
      repeat (first | refine sat_self ?_ | refine sat_need (by first | rfl | exact tt1 _ _ | exact tt5 _ _ | exact tt2 _ _ _ | exact tt4 _ _ _ | exact tt6 _ _ _ | exact tt7 _ _ | exact tt8 _ _ _ | exact tt9 _ _ _ | exact tt10 _ _ | exact tt11 _ _ _ | exact Bool.or_not_self _ | (simp; done) | (simp; omega)) ?_)
      refine sat_bf (by rw [take_all, p1, p2]; simp) ?_
      repeat (first | refine sat_self ?_ | refine sat_need (by first | rfl | exact tt1 _ _ | exact tt5 _ _ | exact tt2 _ _ _ | exact tt4 _ _ _ | exact tt6 _ _ _ | exact tt7 _ _ | exact tt8 _ _ _ | exact tt9 _ _ _ | exact tt10 _ _ | exact tt11 _ _ _ | exact Bool.or_not_self _ | (simp; done) | (simp; omega)) ?_)
      refine sat_br (fun h2 => ?_) (fun h2 => ?_)
      · have h3 : rayOn f r a occ = false := by
          cases h : rayOn f r a occ with
          | false => rfl
          | true => have := (onR_iff ho).2 ⟨hv, ((rayOn_iff ho).1 h).2⟩; rw [this] at h2; cases h2
        have e2 : stepsR f r bl a occ = (0, 2) := by unfold stepsR; rw [h3]; rfl
        repeat (first | refine sat_self ?_ | refine sat_need (by first | rfl | exact tt1 _ _ | exact tt5 _ _ | exact tt2 _ _ _ | exact tt4 _ _ _ | exact tt6 _ _ _ | exact tt7 _ _ | exact tt8 _ _ _ | exact tt9 _ _ _ | exact tt10 _ _ | exact tt11 _ _ _ | exact Bool.or_not_self _ | (simp; done) | (simp; omega)) ?_)
        refine sat_ret (fin_val (.inr rfl) rfl rfl rfl (congrArg V.bool ?_))
        rw [e2]; rfl
      · have h3 : onR f r occ = true := by simpa using h2
        have h4 := (rayOn_iff ho).2 ⟨h1, ((onR_iff ho).1 h3).2⟩
        obtain ⟨e1, e2⟩ := steps_of (bl := bl) ho h4
        refine sat_need hv ?_
        repeat (first | refine sat_self ?_ | refine sat_need (by first | rfl | exact tt1 _ _ | exact tt5 _ _ | exact tt2 _ _ _ | exact tt4 _ _ _ | exact tt6 _ _ _ | exact tt7 _ _ | exact tt8 _ _ _ | exact tt9 _ _ _ | exact tt10 _ _ | exact tt11 _ _ _ | exact Bool.or_not_self _ | (simp; done) | (simp; omega)) ?_)
        refine sat_need (need_filt _ (by omega)) ?_
        repeat (first | refine sat_self ?_ | refine sat_need (by first | rfl | exact tt1 _ _ | exact tt5 _ _ | exact tt2 _ _ _ | exact tt4 _ _ _ | exact tt6 _ _ _ | exact tt7 _ _ | exact tt8 _ _ _ | exact tt9 _ _ _ | exact tt10 _ _ | exact tt11 _ _ _ | exact Bool.or_not_self _ | (simp; done) | (simp; omega)) ?_)
        refine sat_ret (fin_val (.inr rfl) rfl rfl rfl (congrArg V.bool ?_))
        rw [take_all, e1, e2]
        simp
  · cases e

end Go.Ab

namespace Go.Ab
open Go.Proofs
/-! ### what lies between two squares, both ways -/
theorem take_go {f r df dr x y b c : Int} (hv : vsB f r = true) (hu : unit df dr) (ho : onB f r x y = true) (hb : validB f r b = true) (hc : validB f r c = true) {kb : Nat} (hkb : kb ≤ 8) (ebx : px f b = x + kb * df) (eby : py f b = y + kb * dr) : ∀ (m k : Nat), m + k = 9 → 1 ≤ k → k ≤ kb →
    (c ∈ (refGo f r df dr x y m k).take (idxL b (refGo f r df dr x y m k)) ↔ ∃ i : Nat, k ≤ i ∧ i < kb ∧ px f c = x + i * df ∧ py f c = y + i * dr) := by
  have hx := on_bd ho
  have hq := pl_bd hb
  intro m
  induction m with
  | zero => intro k hk h1 h2; omega
  | succ m ih =>
    intro k hk h1 hkk
    obtain ⟨e1, e2, e3⟩ := step_w (x := x) (y := y) hu ⟨by omega, by omega⟩ ⟨by omega, by omega⟩ (k := k) (by omega)
    have hon : onB f r (x + (k : Int) * df) (y + (k : Int) * dr) = true := by
      rcases unit_cases hu with ⟨rfl, rfl⟩ | ⟨rfl, rfl⟩ | ⟨rfl, rfl⟩ | ⟨rfl, rfl⟩ | ⟨rfl, rfl⟩ | ⟨rfl, rfl⟩ | ⟨rfl, rfl⟩ | ⟨rfl, rfl⟩ <;> exact on_mk (by omega) (by omega) (by omega) (by omega)
    rw [refGo, e1, e2, e3, num_neg hv, hon]
    simp only [Bool.not_true, cond_false, idxL]
    have hnb := num_iff hv hon hb
    have hnc := num_iff hv hon hc
    have hkeq : numR f r (x + (k : Int) * df) (y + (k : Int) * dr) = b ↔ k = kb := by
      rw [hnb]
      constructor
      · rintro ⟨h3, h4⟩
        rcases unit_cases hu with ⟨rfl, rfl⟩ | ⟨rfl, rfl⟩ | ⟨rfl, rfl⟩ | ⟨rfl, rfl⟩ | ⟨rfl, rfl⟩ | ⟨rfl, rfl⟩ | ⟨rfl, rfl⟩ | ⟨rfl, rfl⟩ <;> omega
      · rintro rfl; exact ⟨ebx, eby⟩
    by_cases e : k = kb
    · rw [show decide (numR f r (x + (k : Int) * df) (y + (k : Int) * dr) = b) = true from decide_eq_true (hkeq.2 e)]
      simp only [cond_true, List.take_zero, List.not_mem_nil, false_iff]
      rintro ⟨i, h3, h4, _⟩; omega
    · rw [show decide (numR f r (x + (k : Int) * df) (y + (k : Int) * dr) = b) = false from decide_eq_false (fun h => e (hkeq.1 h))]
      simp only [cond_false, List.take_succ_cons, List.mem_cons]
      rw [ih (k + 1) (by omega) (by omega) (by omega)]
      constructor
      · rintro (h3 | ⟨i, h3, h4⟩)
        · obtain ⟨h4, h5⟩ := hnc.1 h3.symm
          exact ⟨k, Nat.le_refl _, by omega, h4, h5⟩
        · exact ⟨i, by omega, h4⟩
      · rintro ⟨i, h3, h4, h5, h6⟩
        rcases Nat.lt_or_ge k i with h | h
        · exact .inr ⟨i, h, h4, h5, h6⟩
        · obtain rfl : i = k := by omega
          exact .inl (hnc.2 ⟨h5, h6⟩).symm
/-- between two squares that are on a line -/
def Btw (f a b c : Int) : Prop := ∃ i k : Nat, ∃ df dr : Int, unit df dr ∧ 1 ≤ i ∧ i < k ∧ k ≤ 8 ∧ px f b = px f a + k * df ∧ py f b = py f a + k * dr ∧ px f c = px f a + i * df ∧ py f c = py f a + i * dr
theorem Btw.symm {f a b c : Int} (h : Btw f a b c) : Btw f b a c := by
  obtain ⟨i, k, df, dr, hu, h1, h2, h3, h4, h5, h6, h7⟩ := h
  refine ⟨k - i, k, -df, -dr, ?_, by omega, by omega, h3, ?_⟩
  · unfold unit at hu ⊢; omega
  · rcases unit_cases hu with ⟨rfl, rfl⟩ | ⟨rfl, rfl⟩ | ⟨rfl, rfl⟩ | ⟨rfl, rfl⟩ | ⟨rfl, rfl⟩ | ⟨rfl, rfl⟩ | ⟨rfl, rfl⟩ | ⟨rfl, rfl⟩ <;> omega
theorem mem_betw {f r a b c : Int} (ha : validB f r a = true) (hb : validB f r b = true) (hc : validB f r c = true) : c ∈ betwL f r a b ↔ (lineR f a b).2.2 = true ∧ Btw f a b c := by
  have hp := pl_bd ha
  have hv := valid_vs ha
  cases hl : (lineR f a b).2.2 with
  | false =>
    have : betwL f r a b = [] := by
      have e : lineR f a b = (0, 0, false) := by
        rcases line_R ha hb with ⟨e, _⟩ | ⟨e, _⟩
        · exact e
        · rw [e] at hl; cases hl
      unfold betwL betwZ refRay
      rw [e, ha]; rfl
    rw [this]; simp
  | true =>
    obtain ⟨hu, hh⟩ := line_has ha hb hl
    have hL : betwL f r a b = (betwZ f r a b).take (idxL b (betwZ f r a b)) := by unfold betwL; rw [hh]; rfl
    rw [hL]
    have hh' := hh
    unfold betwZ at hh' ⊢
    obtain ⟨k, h1, h2, h3, h4⟩ := (has_ray ha hb hu).1 hh'
    rw [ray_go ha hu, take_go hv hu (on_mk hp.1 hp.2.1 hp.2.2.1 hp.2.2.2.1) hb hc h2 h3 h4 8 1 rfl (Nat.le_refl _) h1]
    refine ⟨fun ⟨i, g1, g2, g3, g4⟩ => ⟨rfl, i, k, _, _, hu, g1, g2, h2, h3, h4, g3, g4⟩, ?_⟩
    rintro ⟨_, i, k', df, dr, hu', g1, g2, g3, g4, g5, g6, g7⟩
    have e := has_line ha hb hu' ((has_ray ha hb hu').2 ⟨k', by omega, g3, g4, g5⟩)
    rw [e] at h3 h4 ⊢
    refine ⟨i, g1, ?_, g6, g7⟩
    dsimp only at h3 h4
    rcases unit_cases hu' with ⟨rfl, rfl⟩ | ⟨rfl, rfl⟩ | ⟨rfl, rfl⟩ | ⟨rfl, rfl⟩ | ⟨rfl, rfl⟩ | ⟨rfl, rfl⟩ | ⟨rfl, rfl⟩ | ⟨rfl, rfl⟩ <;> omega
theorem line_symm {f r a b : Int} (ha : validB f r a = true) (hb : validB f r b = true) : (lineR f a b).2.2 = (lineR f b a).2.2 := by
  have key : onLine (px f b - px f a) (py f b - py f a) ↔ onLine (px f a - px f b) (py f a - py f b) := by unfold onLine; omega
  rcases line_R ha hb with ⟨e, h⟩ | ⟨e, h⟩ <;> rcases line_R hb ha with ⟨e', h'⟩ | ⟨e', h'⟩
  · rw [e, e']
  · exact absurd (key.2 h') h
  · exact absurd (key.1 h) h'
  · rw [e, e']
theorem betw_symm {f r a b : Int} (ha : validB f r a = true) (hb : validB f r b = true) (c : Int) : c ∈ betwL f r a b ↔ c ∈ betwL f r b a := by
  by_cases hc : validB f r c = true
  · rw [mem_betw ha hb hc, mem_betw hb ha hc, line_symm ha hb]
    exact ⟨fun h => ⟨h.1, h.2.symm⟩, fun h => ⟨h.1, h.2.symm⟩⟩
  · exact ⟨fun h => absurd ((betwL_bd ha).2 c h) hc, fun h => absurd ((betwL_bd hb).2 c h) hc⟩
theorem free_iff {s : Int} {l : List Int} : freeB s l = true ↔ ∀ x ∈ l, hasB s x = false := by
  induction l with
  | nil => simp [freeB]
  | cons x l ih =>
    rw [freeB]
    cases h : hasB s x with
    | true => simp [h]
    | false => simp [h, ih]
theorem free_symm {f r a b s : Int} (ha : validB f r a = true) (hb : validB f r b = true) : freeB s (betwL f r a b) = freeB s (betwL f r b a) := by
  rw [Bool.eq_iff_iff, free_iff, free_iff]
  exact ⟨fun h x hx => h x ((betw_symm ha hb x).2 hx), fun h x hx => h x ((betw_symm ha hb x).1 hx)⟩
theorem reaches_symm {f r kd a b occ : Int} (ha : validB f r a = true) (hb : validB f r b = true) : reachesB f r kd a b occ = reachesB f r kd b a occ := by
  obtain ⟨e1, e2⟩ := diff_w ha hb
  obtain ⟨e3, e4⟩ := diff_w hb ha
  unfold reachesB
  have h2 : decide (IntKind.i64.wrap (IntKind.i64.wrap (IntKind.i64.wrap (b.tmod f - a.tmod f) * IntKind.i64.wrap (b.tmod f - a.tmod f)) + IntKind.i64.wrap (IntKind.i64.wrap (IntKind.i64.wrap (b.tdiv f) - IntKind.i64.wrap (a.tdiv f)) * IntKind.i64.wrap (IntKind.i64.wrap (b.tdiv f) - IntKind.i64.wrap (a.tdiv f)))) = 5) = decide (IntKind.i64.wrap (IntKind.i64.wrap (IntKind.i64.wrap (a.tmod f - b.tmod f) * IntKind.i64.wrap (a.tmod f - b.tmod f)) + IntKind.i64.wrap (IntKind.i64.wrap (IntKind.i64.wrap (a.tdiv f) - IntKind.i64.wrap (b.tdiv f)) * IntKind.i64.wrap (IntKind.i64.wrap (a.tdiv f) - IntKind.i64.wrap (b.tdiv f)))) = 5) := by
    rw [e1, e2, e3, e4]
    have n : ∀ x y : Int, (x - y) * (x - y) = (y - x) * (y - x) := fun x y => by rw [← Int.neg_sub y x, Int.neg_mul_neg]
    rw [n (px f b), n (py f b)]
  have h3 : distR f a b = distR f b a := by
    rw [dist_2 ha hb, dist_2 hb ha]
    have hd := diff_bd ha hb
    unfold dist2
    have n : ∀ x : Int, -7 ≤ x ∧ x ≤ 7 → absI (IntKind.i64.wrap (0 - x)) = absI (IntKind.i64.wrap (0 - (-x))) := by
      intro x hx
      rw [w64_id (by omega) (by omega), w64_id (by omega) (by omega)]
      unfold absI
      rcases Int.lt_trichotomy x 0 with h | h | h
      · have h4 : ¬ (0 - x < 0) := by omega
        have h5 : 0 - (-x) < 0 := by omega
        simp only [h4, h5, decide_false, decide_true, cond_false, cond_true]
        rw [w64_id (by omega) (by omega)]; omega
      · subst h; rfl
      · have h4 : 0 - x < 0 := by omega
        have h5 : ¬ (0 - (-x) < 0) := by omega
        simp only [h4, h5, decide_false, decide_true, cond_false, cond_true]
        rw [w64_id (by omega) (by omega)]; omega
    rw [n _ hd.1, n _ hd.2, show -(px f b - px f a) = px f a - px f b by omega, show -(py f b - py f a) = py f a - py f b by omega]
  have z : ∀ x y : Int, decide (x - y = 0) = decide (y - x = 0) := fun x y => by congr 1; exact propext ⟨fun h => by omega, fun h => by omega⟩
  rw [h2, h3, line_symm ha hb, free_symm ha hb, e1, e2, e3, e4, z (px f b), z (py f b)]
theorem bitv {s n : Int} (hs : Uk s) (h1 : 0 ≤ n) (h2 : n < 64) : uand (ushr s n) 1 = bif bt s n.toNat then 1 else 0 := by
  have ha := bit_of hs h1 h2
  have hb := bit_of0 hs h1 h2
  cases h : bt s n.toNat with
  | true => rw [h] at ha; exact of_decide_eq_true ha
  | false => rw [h] at hb; exact of_decide_eq_true hb
theorem pawn_turn {f r a b : Int} (ha : validB f r a = true) (hb : validB f r b = true) : pawnC f false a b = pawnC f true b a := by
  obtain ⟨e1, e2⟩ := diff_w ha hb
  obtain ⟨e3, e4⟩ := diff_w hb ha
  unfold pawnC
  rw [e1, e2, e3, e4, Bool.eq_iff_iff]
  simp only [Bool.and_eq_true, Bool.or_eq_true, decide_eq_true_eq]
  have f1 : fwd false = 1 := rfl
  have f2 : fwd true = -1 := rfl
  rw [f1, f2]
  constructor <;> intro h <;> omega
theorem reaches_mono {f r kd a b occ occ' : Int} (ho : Uk occ) (ho' : Uk occ') (hs : ∀ m, bt occ m = true → bt occ' m = true) (h : reachesB f r kd a b occ' = true) : reachesB f r kd a b occ = true := by
  unfold reachesB at h ⊢
  cases h2 : decide (kd = 2) with
  | true => rw [h2] at h; exact h
  | false =>
    cases h6 : decide (kd = 6) with
    | true => rw [h2, h6] at h; exact h
    | false =>
      rw [h2, h6] at h
      simp only [cond_false, Bool.and_eq_true] at h ⊢
      refine ⟨h.1, free_iff.2 fun x hx => ?_⟩
      have := free_iff.1 h.2 x hx
      rw [has_bt ho'] at this
      rw [has_bt ho]
      cases hb : bt occ x.toNat with
      | false => simp
      | true => rw [hs _ hb] at this; simpa using this
end Go.Ab

namespace Go.Ab
open Go.Proofs
theorem need_sh {f r n : Int} (h : validB f r n = true) : decide (0 ≤ n) = true := decide_eq_true (valid_lt h).1
theorem on_or {f r s t : Int} (hs : Uk s) (ht : Uk t) (h1 : OnS f r s) (h2 : OnS f r t) : OnS f r (uor s t) := fun m hm hb => by
  rw [bt_or hs ht, Bool.or_eq_true] at hb
  exact hb.elim (h1 m hm) (h2 m hm)
theorem hold1 {a b c x y z : Int} (h1 : a = 0) (h2 : b = 0) (h3 : c = 0) (h4 : x = y) (h5 : z = 0) : (!decide (a = 0) || !decide (b = 0) || !decide (c = 0) || !decide (x = y) || !decide (z = 0)) = false := by subst h1 h2 h3 h4 h5; simp
theorem hold2 {a b x y : Int} (h1 : a = 0) (h2 : b = 0) (h4 : x = y) : (decide (a = 0) && decide (b = 0) && decide (x = y) && true) = true := by subst h1 h2 h4; simp
theorem line_dir {f r kd a b occ : Int} : reachesB f r 5 a b occ = (reachesB f r 4 a b occ || reachesB f r 3 a b occ) ∧ (reachesB f r 4 a b occ && reachesB f r 3 a b occ) = false ∧ kd = kd := by
  unfold reachesB
  simp only [show decide ((5 : Int) = 2) = false from rfl, show decide ((5 : Int) = 6) = false from rfl, show decide ((4 : Int) = 2) = false from rfl, show decide ((4 : Int) = 6) = false from rfl, show decide ((4 : Int) = 5) = false from rfl,
    show decide ((3 : Int) = 2) = false from rfl, show decide ((3 : Int) = 6) = false from rfl, show decide ((3 : Int) = 5) = false from rfl, show decide ((3 : Int) = 4) = false from rfl, cond_false]
  cases (lineR f a b).2.2 <;> cases (decide (IntKind.i64.wrap (b.tmod f - a.tmod f) = 0) || decide (IntKind.i64.wrap (IntKind.i64.wrap (b.tdiv f) - IntKind.i64.wrap (a.tdiv f)) = 0)) <;> cases freeB occ (betwL f r a b) <;> simp
def c_lawHolds4 : CF
  | [.agg [.int .i64 _f, .int .i64 _r], .int .i64 _a, .int .i64 _b, .int .i8 _kd, .int .u64 occ, .int .u64 more], [] => some (decide (0 ≤ occ) && decide (occ < 18446744073709551616) && (decide (0 ≤ more) && decide (more < 18446744073709551616)), .bool true, [])
  | _, _ => none
theorem c_lawHolds4_ok : CtOk GG PP (7, c_lawHolds4) := by
  refine ct_mk Tryd.func7 (by kernel_rfl) rfl fun a0 h0 c0 v0 N0 e hc => ?_
  unfold c_lawHolds4 at e
  split at e
  · rename_i f r a b kd occ more
    cases e
    have hE := EE_ok (cts := [(22, c_reach), (25, c_pawn), (18, c_Valid), (23, c_On), (15, c_known4)]) (inl := []) ⟨c_reach_ok, c_pawn_ok, c_Valid_ok, c_On_ok, c_known4_ok, trivial⟩ trivial
    refine fn_sound hE 2 Tryd.func7 rfl rfl ?_
    rw [Bool.and_eq_true] at hc
    have ho := uk_of hc.1
    have ht := uk_of hc.2
    repeat (first | refine sat_self ?_ | refine sat_need (by first | rfl | exact tt1 _ _ | exact tt5 _ _ | exact tt2 _ _ _ | exact tt4 _ _ _ | exact tt6 _ _ _ | exact tt7 _ _ | exact tt8 _ _ _ | exact tt9 _ _ _ | exact tt10 _ _ | exact tt11 _ _ _ | exact Bool.or_not_self _ | (simp; done) | (simp; omega)) ?_)
    refine sat_br (fun h0 => ?_) (fun h0 => ?_)
    · repeat (first | refine sat_self ?_ | refine sat_need (by first | rfl | exact tt1 _ _ | exact tt5 _ _ | exact tt2 _ _ _ | exact tt4 _ _ _ | exact tt6 _ _ _ | exact tt7 _ _ | exact tt8 _ _ _ | exact tt9 _ _ _ | exact tt10 _ _ | exact tt11 _ _ _ | exact Bool.or_not_self _ | (simp; done) | (simp; omega)) ?_)
      exact sat_ret (fin_val (.inr rfl) rfl rfl rfl rfl)
    have h0' : (!validB f r a || !onR f r occ || decide (kd < 2) || decide (6 < kd)) = false ∧ validB f r b = true ∧ onR f r more = true := by
      simp only [Bool.or_eq_false_iff, Bool.not_eq_false'] at h0 ⊢
      simp_all
    obtain ⟨h0a, hb, hmo⟩ := h0'
    obtain ⟨h1, hk, hv⟩ := ok_on ho h0a
    obtain ⟨ha, hon⟩ := (rayOn_iff ho).1 h1
    have hmo := ((onR_iff ht).1 hmo).2
    have g2 : rayOn f r b occ = true := (rayOn_iff ho).2 ⟨hb, hon⟩
    have g3 : rayOn f r a (uor occ more) = true := (rayOn_iff (uk_or _ _)).2 ⟨ha, on_or ho ht hon hmo⟩
    have A := reach_bt h1 ho hk
    have B := reach_bt g2 ho hk
    have C := reach_bt g3 (uk_or _ _) hk
    have eA := (reach_on h1 hk).1
    have eB := (reach_on g2 hk).1
    have eC := (reach_on g3 hk).1
    have la := valid_lt ha
    have lb := valid_lt hb
    have hz : uandn (reachR f r kd a (uor occ more)).1 (reachR f r kd a occ).1 = 0 := by
      show uandn (reachS f r kd a (uor occ more)) (reachS f r kd a occ) = 0
      rw [uk_eq_0 (uk_andn _ _)]
      intro n hn
      rw [bt_andn C.1 A.1]
      cases hx : bt (reachS f r kd a (uor occ more)) n with
      | false => rfl
      | true =>
        have hvn := C.2.1 n hn hx
        have h3 := C.2.2 n hvn
        rw [Int.toNat_natCast, hx] at h3
        have h4 := A.2.2 n hvn
        rw [Int.toNat_natCast, reaches_mono ho (uk_or _ _) (fun m hm => by rw [bt_or ho ht, hm]; rfl) h3.symm] at h4
        rw [h4]; rfl
    have hxy : uand (ushr (reachR f r kd a occ).1 b) 1 = uand (ushr (reachR f r kd b occ).1 a) 1 := by
      show uand (ushr (reachS f r kd a occ) b) 1 = uand (ushr (reachS f r kd b occ) a) 1
      rw [bitv A.1 lb.1 lb.2.2, bitv B.1 la.1 la.2.2, A.2.2 b hb, B.2.2 a ha, reaches_symm ha hb]
    repeat (first | (first | refine sat_self ?_ | refine sat_need (by first | rfl | exact tt1 _ _ | exact tt5 _ _ | exact tt2 _ _ _ | exact tt4 _ _ _ | exact tt6 _ _ _ | exact tt7 _ _ | exact tt8 _ _ _ | exact tt9 _ _ _ | exact tt10 _ _ | exact tt11 _ _ _ | exact Bool.or_not_self _ | (simp; done) | (simp; omega)) ?_) | refine sat_need (by first | (rw [need_sh hb]; simp; done) | (rw [need_sh ha]; simp; done) | (rw [need_sh hb]; exact Bool.or_true _) | (rw [need_sh ha]; exact Bool.or_true _)) ?_)
    refine sat_bf (hold1 eA eB eC hxy hz) ?_
    have Q := reach_bt h1 ho (.inr (.inr (.inr (.inl rfl))) : kinds5 5)
    have R := reach_bt h1 ho (.inr (.inr (.inl rfl)) : kinds5 4)
    have D := reach_bt h1 ho (.inr (.inl rfl) : kinds5 3)
    have eQ := (reach_on h1 (.inr (.inr (.inr (.inl rfl))) : kinds5 5)).1
    have eR := (reach_on h1 (.inr (.inr (.inl rfl)) : kinds5 4)).1
    have eD := (reach_on h1 (.inr (.inl rfl) : kinds5 3)).1
    have hq : (reachR f r 5 a occ).1 = uor (reachR f r 4 a occ).1 (reachR f r 3 a occ).1 := by
      show reachS f r 5 a occ = uor (reachS f r 4 a occ) (reachS f r 3 a occ)
      refine uk_ext Q.1 (uk_or _ _) fun n hn => ?_
      rw [bt_or R.1 D.1]
      by_cases hvn : validB f r n = true
      · have q := Q.2.2 n hvn
        have p := R.2.2 n hvn
        have d := D.2.2 n hvn
        rw [Int.toNat_natCast] at q p d
        rw [q, p, d, (line_dir (kd := 0)).1]
      · have z : ∀ s, OnS f r s → bt s n = false := fun s hs => by
          cases hx : bt s n with
          | false => rfl
          | true => exact absurd (hs n hn hx) hvn
        rw [z _ Q.2.1, z _ R.2.1, z _ D.2.1]; rfl
    have hrd : uand (reachR f r 4 a occ).1 (reachR f r 3 a occ).1 = 0 := by
      show uand (reachS f r 4 a occ) (reachS f r 3 a occ) = 0
      rw [uk_eq_0 (uk_and _ _)]
      intro n hn
      rw [bt_and R.1 D.1]
      cases hx : bt (reachS f r 4 a occ) n with
      | false => rfl
      | true =>
        have hvn := R.2.1 n hn hx
        have p := R.2.2 n hvn
        have d := D.2.2 n hvn
        have l := (line_dir (f := f) (r := r) (a := a) (b := n) (occ := occ) (kd := 0)).2.1
        rw [Int.toNat_natCast] at p d
        rw [hx] at p
        rw [d]
        rw [← p] at l
        exact l
    repeat (first | refine sat_self ?_ | refine sat_need (by first | rfl | exact tt1 _ _ | exact tt5 _ _ | exact tt2 _ _ _ | exact tt4 _ _ _ | exact tt6 _ _ _ | exact tt7 _ _ | exact tt8 _ _ _ | exact tt9 _ _ _ | exact tt10 _ _ | exact tt11 _ _ _ | exact Bool.or_not_self _ | (simp; done) | (simp; omega)) ?_)
    refine sat_bf (hold1 eQ eR eD hq hrd) ?_
    have W := pawn_bt (bl := false) ha
    have L := pawn_bt (bl := true) hb
    have hwl : uand (ushr (pawnR f r false a).1 b) 1 = uand (ushr (pawnR f r true b).1 a) 1 := by
      rw [bitv W.2.1 lb.1 lb.2.2, bitv L.2.1 la.1 la.2.2, W.2.2.2 b hb, L.2.2.2 a ha, pawn_turn ha hb]
    repeat (first | (first | refine sat_self ?_ | refine sat_need (by first | rfl | exact tt1 _ _ | exact tt5 _ _ | exact tt2 _ _ _ | exact tt4 _ _ _ | exact tt6 _ _ _ | exact tt7 _ _ | exact tt8 _ _ _ | exact tt9 _ _ _ | exact tt10 _ _ | exact tt11 _ _ _ | exact Bool.or_not_self _ | (simp; done) | (simp; omega)) ?_) | refine sat_need (by first | (rw [need_sh hb]; simp; done) | (rw [need_sh ha]; simp; done) | (rw [need_sh hb]; exact Bool.or_true _) | (rw [need_sh ha]; exact Bool.or_true _)) ?_)
    refine sat_ret (fin_val (.inr rfl) rfl rfl rfl (congrArg V.bool ?_))
    exact hold2 W.1 L.1 hwl
  · cases e

end Go.Ab
