/- Contracts of the functions that the laws reach, or plain laws of what they compute (part X7); no condition. -/
import Derived.Test.YtjckbgodcefogaaDoorX6
namespace Go.Ab
open Go.Proofs
def numB (f r x y : Int) : Bool := decide (x < 0) || decide (f ≤ x) || decide (y < 0) || decide (r ≤ y)
def numR (f r x y : Int) : Int := bif numB f r x y then -1 else IntKind.i64.wrap (IntKind.i64.wrap (y * f) + x)
def hasB (s n : Int) : Bool := decide (0 ≤ n) && decide (n < 64) && decide ((ushr s n).tmod 2 = 1)
def c_Size : CF
  | [.agg [.int .i64 f, .int .i64 r]], [] => some (true, .bool (vsB f r), [])
  | _, _ => none
theorem c_Size_ok : CtOk GG PP (56, c_Size) := by
  refine ct_mk Tryd.func56 (by kernel_rfl) rfl fun a0 h0 c0 v0 N0 e hc => ?_
  unfold c_Size at e
  split at e
  · rename_i f r
    cases e
    have hE := EE_ok (cts := []) (inl := []) trivial trivial
    refine fn_sound hE 2 Tryd.func56 rfl rfl ?_
    repeat (first | refine sat_self ?_ | refine sat_need (by first | rfl | exact tt1 _ _ | exact tt5 _ _ | exact tt2 _ _ _ | exact tt4 _ _ _ | exact tt6 _ _ _ | exact tt7 _ _ | exact tt8 _ _ _ | exact tt9 _ _ _ | (simp; done) | (simp; omega)) ?_)
    exact sat_ret (fin_val (.inr rfl) rfl rfl rfl (by simp [vsB, sideB, Bool.and_assoc]))
  · cases e

def c_Valid : CF
  | [.agg [.int .i64 f, .int .i64 r], .int .i64 n], [] => some (true, .bool (validB f r n), [])
  | _, _ => none
theorem c_Valid_ok : CtOk GG PP (18, c_Valid) := by
  refine ct_mk Tryd.func18 (by kernel_rfl) rfl fun a0 h0 c0 v0 N0 e hc => ?_
  unfold c_Valid at e
  split at e
  · rename_i f r n
    cases e
    have hE := EE_ok (cts := [(56, c_Size)]) (inl := []) ⟨c_Size_ok, trivial⟩ trivial
    refine fn_sound hE 2 Tryd.func18 rfl rfl ?_
    repeat (first | refine sat_self ?_ | refine sat_need (by first | rfl | exact tt1 _ _ | exact tt5 _ _ | exact tt2 _ _ _ | exact tt4 _ _ _ | exact tt6 _ _ _ | exact tt7 _ _ | exact tt8 _ _ _ | exact tt9 _ _ _ | (simp; done) | (simp; omega)) ?_)
    exact sat_ret (fin_val (.inr rfl) rfl rfl rfl rfl)
  · cases e

def c_Number : CF
  | [.agg [.int .i64 f, .int .i64 r], .int .i64 x, .int .i64 y], [] => some (true, .int .i64 (numR f r x y), [])
  | _, _ => none
theorem c_Number_ok : CtOk GG PP (48, c_Number) := by
  refine ct_mk Tryd.func48 (by kernel_rfl) rfl fun a0 h0 c0 v0 N0 e hc => ?_
  unfold c_Number at e
  split at e
  · rename_i f r x y
    cases e
    have hE := EE_ok (cts := []) (inl := []) trivial trivial
    refine fn_sound hE 2 Tryd.func48 rfl rfl ?_
    repeat (first | refine sat_self ?_ | refine sat_need (by first | rfl | exact tt1 _ _ | exact tt5 _ _ | exact tt2 _ _ _ | exact tt4 _ _ _ | exact tt6 _ _ _ | exact tt7 _ _ | exact tt8 _ _ _ | exact tt9 _ _ _ | (simp; done) | (simp; omega)) ?_)
    refine sat_br (fun h1 => ?_) (fun h1 => ?_)
    · have h1 : numB f r x y = true := h1
      exact sat_ret (fin_val (.inr rfl) rfl rfl rfl (by rw [numR, h1]; rfl))
    · have h1 : numB f r x y = false := h1
      exact sat_ret (fin_val (.inr rfl) rfl rfl rfl (by rw [numR, h1]; rfl))
  · cases e

def c_Place : CF
  | [.agg [.int .i64 f, .int .i64 _r], .int .i64 n], [] => some (!decide (f = 0), .agg [I (n.tmod f), I (IntKind.i64.wrap (n.tdiv f))], [])
  | _, _ => none
theorem c_Place_ok : CtOk GG PP (47, c_Place) := by
  refine ct_mk Tryd.func47 (by kernel_rfl) rfl fun a0 h0 c0 v0 N0 e hc => ?_
  unfold c_Place at e
  split at e
  · rename_i f r n
    cases e
    have hE := EE_ok (cts := []) (inl := []) trivial trivial
    refine fn_sound hE 2 Tryd.func47 rfl rfl ?_
    have hc : ¬ f = 0 := by simpa using hc
    repeat (first | refine sat_self ?_ | refine sat_need (by first | rfl | exact tt1 _ _ | exact tt5 _ _ | exact tt2 _ _ _ | exact tt4 _ _ _ | exact tt6 _ _ _ | exact tt7 _ _ | exact tt8 _ _ _ | exact tt9 _ _ _ | (simp; done) | (simp; omega)) ?_)
    exact sat_ret (fin_val (.inr rfl) rfl rfl rfl rfl)
  · cases e

def c_Has : CF
  | [.int .u64 s, .int .i64 n], [] => some (true, .bool (hasB s n), [])
  | _, _ => none
theorem c_Has_ok : CtOk GG PP (58, c_Has) := by
  refine ct_mk Tryd.func58 (by kernel_rfl) rfl fun a0 h0 c0 v0 N0 e hc => ?_
  unfold c_Has at e
  split at e
  · rename_i s n
    cases e
    have hE := EE_ok (cts := []) (inl := []) trivial trivial
    refine fn_sound hE 2 Tryd.func58 rfl rfl ?_
    repeat (first | refine sat_self ?_ | refine sat_need (by first | rfl | exact tt1 _ _ | exact tt5 _ _ | exact tt2 _ _ _ | exact tt4 _ _ _ | exact tt6 _ _ _ | exact tt7 _ _ | exact tt8 _ _ _ | exact tt9 _ _ _ | (simp; done) | (simp; omega)) ?_)
    exact sat_ret (fin_val (.inr rfl) rfl rfl rfl rfl)
  · cases e

def listB (s : Int) (k : Nat) : List Int := ((List.range k).map Int.ofNat).filter fun x => hasB s x
theorem listB_succ (s : Int) (k : Nat) : listB s (k + 1) = bif hasB s k then listB s k ++ [(k : Int)] else listB s k := by
  unfold listB
  rw [List.range_succ, List.map_append, List.filter_append]
  cases h : hasB s (k : Int) <;> simp [h]
theorem listB_len (s : Int) (k : Nat) : (listB s k).length ≤ k := by
  unfold listB
  exact Nat.le_trans (List.length_filter_le _ _) (by simp)
def ofL : List Int → Int → Int
  | [], s => s
  | x :: l, s => ofL l (bif hasB s x then s else IntKind.u64.wrap (s + ushl 1 x))
theorem ofL_at {l : List Int} {i : Nat} {x s : Int} (h : l[i]? = some x) : ofL (l.drop i) s = ofL (l.drop (i + 1)) (bif hasB s x then s else IntKind.u64.wrap (s + ushl 1 x)) := by
  obtain ⟨h1, h2⟩ := List.getElem?_eq_some_iff.1 h
  rw [List.drop_eq_getElem_cons h1, h2, ofL]
def c_List : CF
  | [.int .u64 s], [] => some (true, .sl 0 0 (listB s 64).length none, [.ints true .i64 (listB s 64)])
  | _, _ => none
theorem c_List_ok : CtOk GG PP (46, c_List) := by
  refine ct_mk Tryd.func46 (by kernel_rfl) rfl fun a0 h0 c0 v0 N0 e hc => ?_
  unfold c_List at e
  split at e
  · rename_i s
    cases e
    have hE := EE_ok (cts := [(58, c_Has)]) (inl := []) ⟨c_Has_ok, trivial⟩ trivial
    refine fn_sound hE 2 Tryd.func46 rfl rfl ?_
    refine sat_for hE 2 (fun a : Int × List Int => ([(0, U s), (3, .sl 0 0 a.2.length none), (4, I a.1)], [.ints true .i64 a.2]))
      (fun a => ∃ k : Nat, k ≤ 64 ∧ a.1 = k ∧ a.2 = listB s k) (fun a => 64 - a.1.toNat) (0, [])
      ((Ent.phanT (t := 3) (o := .ints true .i64 []) rfl ⟨by simp, by simp, trivial, rfl⟩ (by decide)).trans (Ent.ren [0] [0, 3, 4] rfl rfl rfl)) ⟨0, by omega, rfl, rfl⟩ ?_
    rintro ⟨i, zs⟩ ⟨k, hk, h1, h3⟩
    dsimp only at h1 h3 ⊢
    have hb := listB_len s k
    rw [← h3] at hb
    refine sat_br (fun hlt => ?_) (fun hlt => ?_)
    · simp only [decide_eq_true_eq] at hlt
      have hnext : IntKind.i64.wrap (i + 1) = ((k + 1 : Nat) : Int) := by rw [w64_id (by omega) (by omega)]; omega
      have hs := listB_succ s k
      rw [← h3, ← h1] at hs
      repeat (first | refine sat_self ?_ | refine sat_need (by first | rfl | exact tt1 _ _ | exact tt5 _ _ | exact tt2 _ _ _ | exact tt4 _ _ _ | exact tt6 _ _ _ | exact tt7 _ _ | exact tt8 _ _ _ | exact tt9 _ _ _ | (simp; done) | (simp; omega)) ?_)
      refine sat_br (fun hon => ?_) (fun hon => ?_)
      · rw [hon, cond_true] at hs
        refine sat_need (b := decide (zs.length = zs.length) && decide ((zs.length + 1) * 8 ≤ 140737488355328) && true) (by simp; omega) ?_
        refine sat_ret ⟨(IntKind.i64.wrap (i + 1), zs ++ [i]), ⟨k + 1, by omega, hnext, hs.symm⟩, ?_, Ent.ren [2] [0, 3, 4] rfl rfl rfl⟩
        show _ - (IntKind.i64.wrap (i + 1)).toNat < _
        rw [hnext]; omega
      · rw [hon, cond_false] at hs
        repeat (first | refine sat_self ?_ | refine sat_need (by first | rfl | exact tt1 _ _ | exact tt5 _ _ | exact tt2 _ _ _ | exact tt4 _ _ _ | exact tt6 _ _ _ | exact tt7 _ _ | exact tt8 _ _ _ | exact tt9 _ _ _ | (simp; done) | (simp; omega)) ?_)
        refine sat_ret ⟨(IntKind.i64.wrap (i + 1), zs), ⟨k + 1, by omega, hnext, hs.symm⟩, ?_, Ent.ren [0] [0, 3, 4] rfl rfl rfl⟩
        show _ - (IntKind.i64.wrap (i + 1)).toNat < _
        rw [hnext]; omega
    · simp only [decide_eq_false_iff_not] at hlt
      obtain rfl : k = 64 := by omega
      refine sat_ret (sat_ret (fin_new 0 (.inr rfl) rfl rfl rfl rfl (by rw [← h3]; rfl) (by rw [← h3]; rfl)))
  · cases e

def c_Of : CF
  | [.sl 0 0 len none], [.ints false .i64 zs] => some (decide (len = zs.length) && decide (zs.length ≤ 1000000) && zs.all fun x => decide (0 ≤ x), .int .u64 (ofL zs 0), [])
  | _, _ => none
theorem c_Of_ok : CtOk GG PP (20, c_Of) := by
  refine ct_mk Tryd.func20 (by kernel_rfl) rfl fun a0 h0 c0 v0 N0 e hc => ?_
  unfold c_Of at e
  split at e
  · rename_i len zs
    cases e
    have hE := EE_ok (cts := [(58, c_Has)]) (inl := []) ⟨c_Has_ok, trivial⟩ trivial
    refine fn_sound hE 2 Tryd.func20 rfl rfl ?_
    simp only [Bool.and_eq_true, decide_eq_true_eq, List.all_eq_true] at hc
    obtain ⟨⟨hc1, hc2⟩, hc3⟩ := hc
    subst hc1
    refine sat_for hE 2 (fun a : Int × Int => ([(0, .sl 0 0 zs.length none), (3, U a.2), (4, I a.1)], [.ints false .i64 zs]))
      (fun a => ∃ k : Nat, k ≤ zs.length ∧ a.1 = k ∧ ofL (zs.drop k) a.2 = ofL zs 0) (fun a => zs.length - a.1.toNat) (0, 0)
      (Ent.ren [0] [0, 3, 4] rfl rfl rfl) ⟨0, by omega, rfl, rfl⟩ ?_
    rintro ⟨i, set⟩ ⟨k, hk, h1, h2⟩
    dsimp only at h1 h2 ⊢
    refine sat_br (fun hlt => ?_) (fun hlt => ?_)
    · simp only [decide_eq_true_eq] at hlt
      have hnext : IntKind.i64.wrap (i + 1) = ((k + 1 : Nat) : Int) := by rw [w64_id (by omega) (by omega)]; omega
      have hki : i.toNat = k := by omega
      have hlt' : k < zs.length := by omega
      have hget : zs[k]? = some (zs.getD i.toNat 0) := by simp [hki, List.getD, hlt']
      have hmem := hc3 _ (List.mem_of_getElem? hget)
      rw [ofL_at hget] at h2
      refine sat_need (by simp; omega) ?_
      repeat (first | refine sat_self ?_ | refine sat_need (by first | rfl | exact tt1 _ _ | exact tt5 _ _ | exact tt2 _ _ _ | exact tt4 _ _ _ | exact tt6 _ _ _ | exact tt7 _ _ | exact tt8 _ _ _ | exact tt9 _ _ _ | (simp; done) | (simp; omega)) ?_)
      refine sat_br (fun hon => ?_) (fun hon => ?_)
      · have hon : (!hasB set (zs.getD i.toNat 0)) = true := hon
        rw [Bool.not_eq_true'] at hon
        rw [hon, cond_false] at h2
        repeat (first | (first | refine sat_self ?_ | refine sat_need (by first | rfl | exact tt1 _ _ | exact tt5 _ _ | exact tt2 _ _ _ | exact tt4 _ _ _ | exact tt6 _ _ _ | exact tt7 _ _ | exact tt8 _ _ _ | exact tt9 _ _ _ | (simp; done) | (simp; omega)) ?_) | refine sat_need (decide_eq_true hmem) ?_)
        refine sat_ret ⟨(IntKind.i64.wrap (i + 1), _), ⟨k + 1, by omega, hnext, h2⟩, ?_, Ent.ren [0] [0, 3, 4] rfl rfl rfl⟩
        show _ - (IntKind.i64.wrap (i + 1)).toNat < _
        rw [hnext]; omega
      · have hon : (!hasB set (zs.getD i.toNat 0)) = false := hon
        rw [Bool.not_eq_false'] at hon
        repeat (first | refine sat_self ?_ | refine sat_need (by first | rfl | exact tt1 _ _ | exact tt5 _ _ | exact tt2 _ _ _ | exact tt4 _ _ _ | exact tt6 _ _ _ | exact tt7 _ _ | exact tt8 _ _ _ | exact tt9 _ _ _ | (simp; done) | (simp; omega)) ?_)
        rw [hon, cond_true] at h2
        refine sat_ret ⟨(IntKind.i64.wrap (i + 1), _), ⟨k + 1, by omega, hnext, h2⟩, ?_, Ent.ren [0] [0, 3, 4] rfl rfl rfl⟩
        show _ - (IntKind.i64.wrap (i + 1)).toNat < _
        rw [hnext]; omega
    · simp only [decide_eq_false_iff_not] at hlt
      obtain rfl : k = zs.length := by omega
      rw [List.drop_length] at h2
      exact sat_ret (sat_ret (fin_val (.inr rfl) rfl rfl rfl (by rw [← h2]; rfl)))
  · cases e

end Go.Ab
