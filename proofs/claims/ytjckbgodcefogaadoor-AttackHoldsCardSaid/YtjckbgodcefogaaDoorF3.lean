/- Contracts of the functions that the laws reach, and plain laws of what they compute (text F3); no condition. -/
import Derived.Test.YtjckbgodcefogaaDoorF2
namespace Go.Ab
open Go.Proofs
/-! ### pieces and boards -/
def okP (p : Int) : Bool := decide (-15 ≤ p) && decide (p ≤ 15)
def orP (p : Int) : Bool := !decide (p = 0) && decide (-6 ≤ p) && decide (p ≤ 6)
def badP (p : Int) : Bool := !okP p
def norP (p : Int) : Bool := !decide (p = 0) && !orP p
def posP (p : Int) : Bool := decide (0 < p)
def negP (p : Int) : Bool := decide (p < 0)
def cntR (f r : Int) : Int × Int := bif vsB f r then (IntKind.i64.wrap (f * r), 0) else (0, 2)
def findI (p : Int → Bool) : List Int → Int → Int
  | [], _ => -1
  | x :: l, k => bif p x then k else findI p l (k + 1)
theorem find_ge (p : Int → Bool) : ∀ (l : List Int) (k : Int), 0 ≤ k → decide (0 ≤ findI p l k) = l.any p
  | [], k, _ => rfl
  | x :: l, k, hk => by
    rw [findI, List.any_cons]
    cases p x with
    | true => simp [hk]
    | false => rw [cond_false, Bool.false_or]; exact find_ge p l (k + 1) (by omega)
theorem findI_at {p : Int → Bool} {l : List Int} {i : Nat} {k : Int} (h : i < l.length) : findI p (l.drop i) k = bif p (l.getD i 0) then k else findI p (l.drop (i + 1)) (k + 1) := by
  rw [List.drop_eq_getElem_cons h, findI]; simp [List.getD, h]
def whereS (p : Int → Bool) (zs : List Int) (s i : Int) : Int := bif p (zs.getD i.toNat 0) then uor s (ushl 1 i) else s
def whereR (p : Int → Bool) (zs : List Int) : Int := foldN (whereS p zs) 0 zs.length
def validBd (f r : Int) (zs : List Int) : Bool := decide ((cntR f r).2 = 0) && decide ((zs.length : Int) = (cntR f r).1) && !(zs.any badP)
def orthBd (f r : Int) (zs : List Int) : Bool := validBd f r zs && !(zs.any norP)
def sidesR (f r : Int) (zs : List Int) : Int × Int × Int := bif validBd f r zs then (whereR posP zs, whereR negP zs, 0) else (0, 0, 2)
def occR (f r : Int) (zs : List Int) : Int := uor (sidesR f r zs).1 (sidesR f r zs).2.1
def c_count : CF
  | [.agg [.int .i64 f, .int .i64 r]], [] => some (true, .tup [I (cntR f r).1, I (cntR f r).2], [])
  | _, _ => none
theorem c_count_ok : CtOk GG PP (108, c_count) := by
  refine ct_mk Tryd.func108 (by kernel_rfl) rfl fun a0 h0 c0 v0 N0 e hc => ?_
  unfold c_count at e
  split at e
  · rename_i f r
    cases e
    have hE := EE_ok (cts := [(89, c_vs)]) (inl := []) ⟨c_vs_ok, trivial⟩ trivial
    refine fn_sound hE 2 Tryd.func108 rfl rfl ?_
    repeat' first | (first | refine sat_self ?_ | refine sat_need (by first | rfl | exact tt1 _ _ | exact tt5 _ _ | exact tt2 _ _ _ | exact tt4 _ _ _ | exact tt6 _ _ _ | exact tt7 _ _ | exact tt8 _ _ _ | exact tt9 _ _ _ | exact tt10 _ _ | exact tt11 _ _ _ | exact Bool.or_not_self _ | (simp; done) | (simp; omega)) ?_) | refine sat_br (fun h => ?_) (fun h => ?_)
    all_goals exact sat_ret (fin_val (.inr rfl) rfl rfl rfl (by first | rfl | (simp only [cntR, *]; done) | (simp only [cntR, *]; done) | simp_all [cntR]))
  · cases e

def c_pval : CF
  | [.int .i8 p], [] => some (true, .bool (okP p), [])
  | _, _ => none
theorem c_pval_ok : CtOk GG PP (110, c_pval) := by
  refine ct_mk Tryd.func110 (by kernel_rfl) rfl fun a0 h0 c0 v0 N0 e hc => ?_
  unfold c_pval at e
  split at e
  · rename_i p
    cases e
    have hE := EE_ok (cts := []) (inl := []) trivial trivial
    refine fn_sound hE 2 Tryd.func110 rfl rfl ?_
    repeat' first | (first | refine sat_self ?_ | refine sat_need (by first | rfl | exact tt1 _ _ | exact tt5 _ _ | exact tt2 _ _ _ | exact tt4 _ _ _ | exact tt6 _ _ _ | exact tt7 _ _ | exact tt8 _ _ _ | exact tt9 _ _ _ | exact tt10 _ _ | exact tt11 _ _ _ | exact Bool.or_not_self _ | (simp; done) | (simp; omega)) ?_) | refine sat_br (fun h => ?_) (fun h => ?_)
    all_goals exact sat_ret (fin_val (.inr rfl) rfl rfl rfl (by first | rfl | (simp only [*, cond_true, cond_false]; done) | (simp only [*, cond_true, cond_false, Bool.not_true, Bool.not_false, Bool.and_true, Bool.true_and, Bool.and_false, Bool.false_and, Bool.or_true, Bool.true_or, Bool.or_false, Bool.false_or]; done) | simp_all []))
  · cases e

def c_porth : CF
  | [.int .i8 p], [] => some (true, .bool (orP p), [])
  | _, _ => none
theorem c_porth_ok : CtOk GG PP (99, c_porth) := by
  refine ct_mk Tryd.func99 (by kernel_rfl) rfl fun a0 h0 c0 v0 N0 e hc => ?_
  unfold c_porth at e
  split at e
  · rename_i p
    cases e
    have hE := EE_ok (cts := []) (inl := []) trivial trivial
    refine fn_sound hE 2 Tryd.func99 rfl rfl ?_
    repeat' first | (first | refine sat_self ?_ | refine sat_need (by first | rfl | exact tt1 _ _ | exact tt5 _ _ | exact tt2 _ _ _ | exact tt4 _ _ _ | exact tt6 _ _ _ | exact tt7 _ _ | exact tt8 _ _ _ | exact tt9 _ _ _ | exact tt10 _ _ | exact tt11 _ _ _ | exact Bool.or_not_self _ | (simp; done) | (simp; omega)) ?_) | refine sat_br (fun h => ?_) (fun h => ?_)
    all_goals exact sat_ret (fin_val (.inr rfl) rfl rfl rfl (by first | rfl | (simp only [*, cond_true, cond_false]; done) | (simp only [*, cond_true, cond_false, Bool.not_true, Bool.not_false, Bool.and_true, Bool.true_and, Bool.and_false, Bool.false_and, Bool.or_true, Bool.true_or, Bool.or_false, Bool.false_or]; done) | simp_all []))
  · cases e

def c_bv1 : CF
  | [.int .i8 p], [] => some (true, .bool (badP p), [])
  | _, _ => none
theorem c_bv1_ok : CtOk GG PP (109, c_bv1) := by
  refine ct_mk Tryd.func109 (by kernel_rfl) rfl fun a0 h0 c0 v0 N0 e hc => ?_
  unfold c_bv1 at e
  split at e
  · rename_i p
    cases e
    have hE := EE_ok (cts := [(110, c_pval)]) (inl := []) ⟨c_pval_ok, trivial⟩ trivial
    refine fn_sound hE 2 Tryd.func109 rfl rfl ?_
    repeat' first | (first | refine sat_self ?_ | refine sat_need (by first | rfl | exact tt1 _ _ | exact tt5 _ _ | exact tt2 _ _ _ | exact tt4 _ _ _ | exact tt6 _ _ _ | exact tt7 _ _ | exact tt8 _ _ _ | exact tt9 _ _ _ | exact tt10 _ _ | exact tt11 _ _ _ | exact Bool.or_not_self _ | (simp; done) | (simp; omega)) ?_) | refine sat_br (fun h => ?_) (fun h => ?_)
    all_goals exact sat_ret (fin_val (.inr rfl) rfl rfl rfl (by first | rfl | (simp only [*, cond_true, cond_false]; done) | (simp only [*, cond_true, cond_false, Bool.not_true, Bool.not_false, Bool.and_true, Bool.true_and, Bool.and_false, Bool.false_and, Bool.or_true, Bool.true_or, Bool.or_false, Bool.false_or]; done) | simp_all []))
  · cases e

def c_ao1 : CF
  | [.int .i8 p], [] => some (true, .bool (norP p), [])
  | _, _ => none
theorem c_ao1_ok : CtOk GG PP (98, c_ao1) := by
  refine ct_mk Tryd.func98 (by kernel_rfl) rfl fun a0 h0 c0 v0 N0 e hc => ?_
  unfold c_ao1 at e
  split at e
  · rename_i p
    cases e
    have hE := EE_ok (cts := [(99, c_porth)]) (inl := []) ⟨c_porth_ok, trivial⟩ trivial
    refine fn_sound hE 2 Tryd.func98 rfl rfl ?_
    repeat' first | (first | refine sat_self ?_ | refine sat_need (by first | rfl | exact tt1 _ _ | exact tt5 _ _ | exact tt2 _ _ _ | exact tt4 _ _ _ | exact tt6 _ _ _ | exact tt7 _ _ | exact tt8 _ _ _ | exact tt9 _ _ _ | exact tt10 _ _ | exact tt11 _ _ _ | exact Bool.or_not_self _ | (simp; done) | (simp; omega)) ?_) | refine sat_br (fun h => ?_) (fun h => ?_)
    all_goals exact sat_ret (fin_val (.inr rfl) rfl rfl rfl (by first | rfl | (simp only [*, cond_true, cond_false]; done) | (simp only [*, cond_true, cond_false, Bool.not_true, Bool.not_false, Bool.and_true, Bool.true_and, Bool.and_false, Bool.false_and, Bool.or_true, Bool.true_or, Bool.or_false, Bool.false_or]; done) | simp_all []))
  · cases e

def c_sd1 : CF
  | [.int .i8 p], [] => some (true, .bool (posP p), [])
  | _, _ => none
theorem c_sd1_ok : CtOk GG PP (113, c_sd1) := by
  refine ct_mk Tryd.func113 (by kernel_rfl) rfl fun a0 h0 c0 v0 N0 e hc => ?_
  unfold c_sd1 at e
  split at e
  · rename_i p
    cases e
    have hE := EE_ok (cts := []) (inl := []) trivial trivial
    refine fn_sound hE 2 Tryd.func113 rfl rfl ?_
    repeat' first | (first | refine sat_self ?_ | refine sat_need (by first | rfl | exact tt1 _ _ | exact tt5 _ _ | exact tt2 _ _ _ | exact tt4 _ _ _ | exact tt6 _ _ _ | exact tt7 _ _ | exact tt8 _ _ _ | exact tt9 _ _ _ | exact tt10 _ _ | exact tt11 _ _ _ | exact Bool.or_not_self _ | (simp; done) | (simp; omega)) ?_) | refine sat_br (fun h => ?_) (fun h => ?_)
    all_goals exact sat_ret (fin_val (.inr rfl) rfl rfl rfl (by first | rfl | (simp only [*, cond_true, cond_false]; done) | (simp only [*, cond_true, cond_false, Bool.not_true, Bool.not_false, Bool.and_true, Bool.true_and, Bool.and_false, Bool.false_and, Bool.or_true, Bool.true_or, Bool.or_false, Bool.false_or]; done) | simp_all []))
  · cases e

def c_sd2 : CF
  | [.int .i8 p], [] => some (true, .bool (negP p), [])
  | _, _ => none
theorem c_sd2_ok : CtOk GG PP (114, c_sd2) := by
  refine ct_mk Tryd.func114 (by kernel_rfl) rfl fun a0 h0 c0 v0 N0 e hc => ?_
  unfold c_sd2 at e
  split at e
  · rename_i p
    cases e
    have hE := EE_ok (cts := []) (inl := []) trivial trivial
    refine fn_sound hE 2 Tryd.func114 rfl rfl ?_
    repeat' first | (first | refine sat_self ?_ | refine sat_need (by first | rfl | exact tt1 _ _ | exact tt5 _ _ | exact tt2 _ _ _ | exact tt4 _ _ _ | exact tt6 _ _ _ | exact tt7 _ _ | exact tt8 _ _ _ | exact tt9 _ _ _ | exact tt10 _ _ | exact tt11 _ _ _ | exact Bool.or_not_self _ | (simp; done) | (simp; omega)) ?_) | refine sat_br (fun h => ?_) (fun h => ?_)
    all_goals exact sat_ret (fin_val (.inr rfl) rfl rfl rfl (by first | rfl | (simp only [*, cond_true, cond_false]; done) | (simp only [*, cond_true, cond_false, Bool.not_true, Bool.not_false, Bool.and_true, Bool.true_and, Bool.and_false, Bool.false_and, Bool.or_true, Bool.true_or, Bool.or_false, Bool.false_or]; done) | simp_all []))
  · cases e

def c_idxf : CF
  | [.sl 0 0 len none, .fn 109 []], [.ints false .i8 zs] => some (decide (len = zs.length) && decide (zs.length ≤ 1000000), .int .i64 (findI badP zs 0), [])
  | [.sl 0 0 len none, .fn 98 []], [.ints false .i8 zs] => some (decide (len = zs.length) && decide (zs.length ≤ 1000000), .int .i64 (findI norP zs 0), [])
  | _, _ => none
theorem c_idxf_ok : CtOk GG PP (111, c_idxf) := by
  refine ct_mk Tryd.func111 (by kernel_rfl) rfl fun a0 h0 c0 v0 N0 e hc => ?_
  unfold c_idxf at e
  split at e
  · rename_i len zs
    cases e
    have hE := EE_ok (cts := [(109, c_bv1), (98, c_ao1)]) (inl := []) ⟨c_bv1_ok, c_ao1_ok, trivial⟩ trivial
    refine fn_sound hE 2 Tryd.func111 rfl rfl ?_
    simp only [Bool.and_eq_true, decide_eq_true_eq] at hc
    obtain ⟨rfl, hc2⟩ := hc
    refine sat_idx hE 2 (fun i (_ : Unit) => ([(0, .sl 0 0 zs.length none), (1, .fn 109 []), (7, I zs.length), (8, I i)], [.ints false .i8 zs])) zs.length (fun j _ => findI badP (zs.drop j) j = findI badP zs 0) () (by omega) (Ent.ren [0] [0, 1, 7, 8] rfl rfl rfl) rfl ?_
    intro j i _ hij hj hz
    refine sat_br (fun hlt => ?_) (fun hlt => ?_)
    · have hlt' : j < zs.length := by simp at hlt; omega
      rw [findI_at hlt', show j = i.toNat by omega] at hz
      refine sat_need (by simp; omega) ?_
      repeat (first | refine sat_self ?_ | refine sat_need (by first | rfl | exact tt1 _ _ | exact tt5 _ _ | exact tt2 _ _ _ | exact tt4 _ _ _ | exact tt6 _ _ _ | exact tt7 _ _ | exact tt8 _ _ _ | exact tt9 _ _ _ | exact tt10 _ _ | exact tt11 _ _ _ | exact Bool.or_not_self _ | (simp; done) | (simp; omega)) ?_)
      refine sat_br (fun hon => ?_) (fun hon => ?_)
      · have hon : badP (zs.getD i.toNat 0) = true := hon
        rw [hon, cond_true] at hz
        refine sat_ret (sat_ret (fin_val (.inr rfl) rfl rfl rfl (by rw [← hz]; exact congrArg (V.int IntKind.i64) (by omega))))
      · have hon : badP (zs.getD i.toNat 0) = false := hon
        rw [hon, cond_false] at hz
        exact sat_ret ⟨hlt', (), by rw [← hz, show i.toNat = j by omega]; push_cast; rfl, Ent.ren [0] [0, 1, 7, 8] rfl rfl rfl⟩
    · obtain rfl : j = zs.length := by simp at hlt; omega
      rw [List.drop_length] at hz
      exact sat_ret (sat_ret (fin_val (.inr rfl) rfl rfl rfl (by rw [← hz]; rfl)))
  · rename_i len zs
    cases e
    have hE := EE_ok (cts := [(109, c_bv1), (98, c_ao1)]) (inl := []) ⟨c_bv1_ok, c_ao1_ok, trivial⟩ trivial
    refine fn_sound hE 2 Tryd.func111 rfl rfl ?_
    simp only [Bool.and_eq_true, decide_eq_true_eq] at hc
    obtain ⟨rfl, hc2⟩ := hc
    refine sat_idx hE 2 (fun i (_ : Unit) => ([(0, .sl 0 0 zs.length none), (1, .fn 98 []), (7, I zs.length), (8, I i)], [.ints false .i8 zs])) zs.length (fun j _ => findI norP (zs.drop j) j = findI norP zs 0) () (by omega) (Ent.ren [0] [0, 1, 7, 8] rfl rfl rfl) rfl ?_
    intro j i _ hij hj hz
    refine sat_br (fun hlt => ?_) (fun hlt => ?_)
    · have hlt' : j < zs.length := by simp at hlt; omega
      rw [findI_at hlt', show j = i.toNat by omega] at hz
      refine sat_need (by simp; omega) ?_
      repeat (first | refine sat_self ?_ | refine sat_need (by first | rfl | exact tt1 _ _ | exact tt5 _ _ | exact tt2 _ _ _ | exact tt4 _ _ _ | exact tt6 _ _ _ | exact tt7 _ _ | exact tt8 _ _ _ | exact tt9 _ _ _ | exact tt10 _ _ | exact tt11 _ _ _ | exact Bool.or_not_self _ | (simp; done) | (simp; omega)) ?_)
      refine sat_br (fun hon => ?_) (fun hon => ?_)
      · have hon : norP (zs.getD i.toNat 0) = true := hon
        rw [hon, cond_true] at hz
        refine sat_ret (sat_ret (fin_val (.inr rfl) rfl rfl rfl (by rw [← hz]; exact congrArg (V.int IntKind.i64) (by omega))))
      · have hon : norP (zs.getD i.toNat 0) = false := hon
        rw [hon, cond_false] at hz
        exact sat_ret ⟨hlt', (), by rw [← hz, show i.toNat = j by omega]; push_cast; rfl, Ent.ren [0] [0, 1, 7, 8] rfl rfl rfl⟩
    · obtain rfl : j = zs.length := by simp at hlt; omega
      rw [List.drop_length] at hz
      exact sat_ret (sat_ret (fin_val (.inr rfl) rfl rfl rfl (by rw [← hz]; rfl)))
  · cases e

def c_consf : CF
  | [.sl 0 0 len none, .fn 109 []], [.ints false .i8 zs] => some (decide (len = zs.length) && decide (zs.length ≤ 1000000), .bool (zs.any badP), [])
  | [.sl 0 0 len none, .fn 98 []], [.ints false .i8 zs] => some (decide (len = zs.length) && decide (zs.length ≤ 1000000), .bool (zs.any norP), [])
  | _, _ => none
theorem c_consf_ok : CtOk GG PP (97, c_consf) := by
  refine ct_mk Tryd.func97 (by kernel_rfl) rfl fun a0 h0 c0 v0 N0 e hc => ?_
  unfold c_consf at e
  split at e
  · rename_i len zs
    cases e
    have hE := EE_ok (cts := [(111, c_idxf)]) (inl := []) ⟨c_idxf_ok, trivial⟩ trivial
    refine fn_sound hE 2 Tryd.func97 rfl rfl ?_
    simp only [Bool.and_eq_true, decide_eq_true_eq] at hc
    obtain ⟨rfl, hc2⟩ := hc
    refine sat_need (by simp; omega) ?_
    exact sat_ret (fin_val (.inr rfl) rfl rfl rfl (congrArg V.bool (by
      show decide (0 ≤ findI badP (tk zs) 0) = _
      rw [tk_eq]; exact find_ge badP zs 0 (by omega))))
  · rename_i len zs
    cases e
    have hE := EE_ok (cts := [(111, c_idxf)]) (inl := []) ⟨c_idxf_ok, trivial⟩ trivial
    refine fn_sound hE 2 Tryd.func97 rfl rfl ?_
    simp only [Bool.and_eq_true, decide_eq_true_eq] at hc
    obtain ⟨rfl, hc2⟩ := hc
    refine sat_need (by simp; omega) ?_
    exact sat_ret (fin_val (.inr rfl) rfl rfl rfl (congrArg V.bool (by
      show decide (0 ≤ findI norP (tk zs) 0) = _
      rw [tk_eq]; exact find_ge norP zs 0 (by omega))))
  · cases e

def c_bvalid : CF
  | [.agg [.int .i64 f, .int .i64 r, .sl 0 0 len none]], [.ints false .i8 zs] => some (decide (len = zs.length) && decide (zs.length ≤ 1000000), .bool (validBd f r zs), [])
  | _, _ => none
theorem c_bvalid_ok : CtOk GG PP (96, c_bvalid) := by
  refine ct_mk Tryd.func96 (by kernel_rfl) rfl fun a0 h0 c0 v0 N0 e hc => ?_
  unfold c_bvalid at e
  split at e
  · rename_i f r len zs
    cases e
    have hE := EE_ok (cts := [(108, c_count), (97, c_consf)]) (inl := []) ⟨c_count_ok, c_consf_ok, trivial⟩ trivial
    refine fn_sound hE 2 Tryd.func96 rfl rfl ?_
    simp only [Bool.and_eq_true, decide_eq_true_eq] at hc
    obtain ⟨rfl, hc2⟩ := hc
    repeat (first | refine sat_self ?_ | refine sat_need (by first | rfl | exact tt1 _ _ | exact tt5 _ _ | exact tt2 _ _ _ | exact tt4 _ _ _ | exact tt6 _ _ _ | exact tt7 _ _ | exact tt8 _ _ _ | exact tt9 _ _ _ | exact tt10 _ _ | exact tt11 _ _ _ | exact Bool.or_not_self _ | (simp; done) | (simp; omega)) ?_)
    exact sat_ret (fin_val (.inr rfl) rfl rfl rfl (congrArg V.bool (by
      show (decide ((cntR f r).2 = 0) && decide ((zs.length : Int) = (cntR f r).1) && !((tk zs).any badP)) = _
      rw [tk_eq]; rfl)))
  · cases e

def c_orth : CF
  | [.agg [.int .i64 f, .int .i64 r, .sl 0 0 len none]], [.ints false .i8 zs] => some (decide (len = zs.length) && decide (zs.length ≤ 1000000), .bool (orthBd f r zs), [])
  | _, _ => none
theorem c_orth_ok : CtOk GG PP (70, c_orth) := by
  refine ct_mk Tryd.func70 (by kernel_rfl) rfl fun a0 h0 c0 v0 N0 e hc => ?_
  unfold c_orth at e
  split at e
  · rename_i f r len zs
    cases e
    have hE := EE_ok (cts := [(96, c_bvalid), (97, c_consf)]) (inl := []) ⟨c_bvalid_ok, c_consf_ok, trivial⟩ trivial
    refine fn_sound hE 2 Tryd.func70 rfl rfl ?_
    simp only [Bool.and_eq_true, decide_eq_true_eq] at hc
    obtain ⟨rfl, hc2⟩ := hc
    repeat (first | refine sat_self ?_ | refine sat_need (by first | rfl | exact tt1 _ _ | exact tt5 _ _ | exact tt2 _ _ _ | exact tt4 _ _ _ | exact tt6 _ _ _ | exact tt7 _ _ | exact tt8 _ _ _ | exact tt9 _ _ _ | exact tt10 _ _ | exact tt11 _ _ _ | exact Bool.or_not_self _ | (simp; done) | (simp; omega)) ?_)
    exact sat_ret (fin_val (.inr rfl) rfl rfl rfl (congrArg V.bool (by
      show (validBd f r (tk zs) && !((tk zs).any norP)) = _
      rw [tk_eq]; rfl)))
  · cases e

def c_where : CF
  | [.agg [.int .i64 _f, .int .i64 _r, .sl 0 0 len none], .fn 113 []], [.ints false .i8 zs] => some (decide (len = zs.length) && decide (zs.length ≤ 1000000), .int .u64 (whereR posP zs), [])
  | [.agg [.int .i64 _f, .int .i64 _r, .sl 0 0 len none], .fn 114 []], [.ints false .i8 zs] => some (decide (len = zs.length) && decide (zs.length ≤ 1000000), .int .u64 (whereR negP zs), [])
  | _, _ => none
theorem c_where_ok : CtOk GG PP (112, c_where) := by
  refine ct_mk Tryd.func112 (by kernel_rfl) rfl fun a0 h0 c0 v0 N0 e hc => ?_
  unfold c_where at e
  split at e
  · rename_i f r len zs
    cases e
    have hE := EE_ok (cts := [(113, c_sd1), (114, c_sd2)]) (inl := []) ⟨c_sd1_ok, c_sd2_ok, trivial⟩ trivial
    refine fn_sound hE 2 Tryd.func112 rfl rfl ?_
    simp only [Bool.and_eq_true, decide_eq_true_eq] at hc
    obtain ⟨rfl, hc2⟩ := hc
    repeat (first | refine sat_self ?_ | refine sat_need (by first | rfl | exact tt1 _ _ | exact tt5 _ _ | exact tt2 _ _ _ | exact tt4 _ _ _ | exact tt6 _ _ _ | exact tt7 _ _ | exact tt8 _ _ _ | exact tt9 _ _ _ | exact tt10 _ _ | exact tt11 _ _ _ | exact Bool.or_not_self _ | (simp; done) | (simp; omega)) ?_)
    refine sat_idx hE 2 (fun i (s : Int) => ([(1, .fn 113 []), (2, .ptr 1 0 0), (5, U s), (9, .sl 0 0 zs.length none), (10, I zs.length), (11, I i)], [.ints false .i8 zs, .cells true [I f, I r, .sl 0 0 zs.length none]])) zs.length (fun j s => s = foldN (whereS posP zs) 0 j) 0 (by omega) (Ent.ren [0, 1] [1, 2, 5, 9, 10, 11] rfl rfl rfl) rfl ?_
    intro j i s hij hj hz
    refine sat_br (fun hlt => ?_) (fun hlt => ?_)
    · have hlt' : j < zs.length := by simp at hlt; omega
      have hs : whereS posP zs s i = foldN (whereS posP zs) 0 (j + 1) := by rw [hz, hij]; rfl
      refine sat_need (by simp; omega) ?_
      repeat (first | refine sat_self ?_ | refine sat_need (by first | rfl | exact tt1 _ _ | exact tt5 _ _ | exact tt2 _ _ _ | exact tt4 _ _ _ | exact tt6 _ _ _ | exact tt7 _ _ | exact tt8 _ _ _ | exact tt9 _ _ _ | exact tt10 _ _ | exact tt11 _ _ _ | exact Bool.or_not_self _ | (simp; done) | (simp; omega)) ?_)
      refine sat_br (fun hon => ?_) (fun hon => ?_)
      · have hon : posP (zs.getD i.toNat 0) = true := hon
        rw [whereS, hon, cond_true] at hs
        refine sat_need (by simp; omega) ?_
        exact sat_ret ⟨hlt', _, hs, Ent.ren [0, 1] [1, 2, 5, 9, 10, 11] rfl rfl rfl⟩
      · have hon : posP (zs.getD i.toNat 0) = false := hon
        rw [whereS, hon, cond_false] at hs
        exact sat_ret ⟨hlt', _, hs, Ent.ren [0, 1] [1, 2, 5, 9, 10, 11] rfl rfl rfl⟩
    · obtain rfl : j = zs.length := by simp at hlt; omega
      subst hz
      exact sat_ret (sat_ret (fin_val (.inr rfl) rfl rfl rfl rfl))
  · rename_i f r len zs
    cases e
    have hE := EE_ok (cts := [(113, c_sd1), (114, c_sd2)]) (inl := []) ⟨c_sd1_ok, c_sd2_ok, trivial⟩ trivial
    refine fn_sound hE 2 Tryd.func112 rfl rfl ?_
    simp only [Bool.and_eq_true, decide_eq_true_eq] at hc
    obtain ⟨rfl, hc2⟩ := hc
    repeat (first | refine sat_self ?_ | refine sat_need (by first | rfl | exact tt1 _ _ | exact tt5 _ _ | exact tt2 _ _ _ | exact tt4 _ _ _ | exact tt6 _ _ _ | exact tt7 _ _ | exact tt8 _ _ _ | exact tt9 _ _ _ | exact tt10 _ _ | exact tt11 _ _ _ | exact Bool.or_not_self _ | (simp; done) | (simp; omega)) ?_)
    refine sat_idx hE 2 (fun i (s : Int) => ([(1, .fn 114 []), (2, .ptr 1 0 0), (5, U s), (9, .sl 0 0 zs.length none), (10, I zs.length), (11, I i)], [.ints false .i8 zs, .cells true [I f, I r, .sl 0 0 zs.length none]])) zs.length (fun j s => s = foldN (whereS negP zs) 0 j) 0 (by omega) (Ent.ren [0, 1] [1, 2, 5, 9, 10, 11] rfl rfl rfl) rfl ?_
    intro j i s hij hj hz
    refine sat_br (fun hlt => ?_) (fun hlt => ?_)
    · have hlt' : j < zs.length := by simp at hlt; omega
      have hs : whereS negP zs s i = foldN (whereS negP zs) 0 (j + 1) := by rw [hz, hij]; rfl
      refine sat_need (by simp; omega) ?_
      repeat (first | refine sat_self ?_ | refine sat_need (by first | rfl | exact tt1 _ _ | exact tt5 _ _ | exact tt2 _ _ _ | exact tt4 _ _ _ | exact tt6 _ _ _ | exact tt7 _ _ | exact tt8 _ _ _ | exact tt9 _ _ _ | exact tt10 _ _ | exact tt11 _ _ _ | exact Bool.or_not_self _ | (simp; done) | (simp; omega)) ?_)
      refine sat_br (fun hon => ?_) (fun hon => ?_)
      · have hon : negP (zs.getD i.toNat 0) = true := hon
        rw [whereS, hon, cond_true] at hs
        refine sat_need (by simp; omega) ?_
        exact sat_ret ⟨hlt', _, hs, Ent.ren [0, 1] [1, 2, 5, 9, 10, 11] rfl rfl rfl⟩
      · have hon : negP (zs.getD i.toNat 0) = false := hon
        rw [whereS, hon, cond_false] at hs
        exact sat_ret ⟨hlt', _, hs, Ent.ren [0, 1] [1, 2, 5, 9, 10, 11] rfl rfl rfl⟩
    · obtain rfl : j = zs.length := by simp at hlt; omega
      subst hz
      exact sat_ret (sat_ret (fin_val (.inr rfl) rfl rfl rfl rfl))
  · cases e

def c_sides : CF
  | [.agg [.int .i64 f, .int .i64 r, .sl 0 0 len none]], [.ints false .i8 zs] => some (decide (len = zs.length) && decide (zs.length ≤ 1000000), .tup [U (sidesR f r zs).1, U (sidesR f r zs).2.1, I (sidesR f r zs).2.2], [])
  | _, _ => none
theorem c_sides_ok : CtOk GG PP (103, c_sides) := by
  refine ct_mk Tryd.func103 (by kernel_rfl) rfl fun a0 h0 c0 v0 N0 e hc => ?_
  unfold c_sides at e
  split at e
  · rename_i f r len zs
    cases e
    have hE := EE_ok (cts := [(96, c_bvalid), (112, c_where)]) (inl := []) ⟨c_bvalid_ok, c_where_ok, trivial⟩ trivial
    refine fn_sound hE 2 Tryd.func103 rfl rfl ?_
    simp only [Bool.and_eq_true, decide_eq_true_eq] at hc
    obtain ⟨rfl, hc2⟩ := hc
    repeat (first | refine sat_self ?_ | refine sat_need (by first | rfl | exact tt1 _ _ | exact tt5 _ _ | exact tt2 _ _ _ | exact tt4 _ _ _ | exact tt6 _ _ _ | exact tt7 _ _ | exact tt8 _ _ _ | exact tt9 _ _ _ | exact tt10 _ _ | exact tt11 _ _ _ | exact Bool.or_not_self _ | (simp; done) | (simp; omega)) ?_)
    refine sat_br (fun h => ?_) (fun h => ?_)
    · have h : validBd f r zs = false := by simpa using h
      exact sat_ret (fin_val (.inr rfl) rfl rfl rfl (by rw [sidesR, h]; rfl))
    · have h : validBd f r zs = true := by simpa using h
      repeat (first | refine sat_self ?_ | refine sat_need (by first | rfl | exact tt1 _ _ | exact tt5 _ _ | exact tt2 _ _ _ | exact tt4 _ _ _ | exact tt6 _ _ _ | exact tt7 _ _ | exact tt8 _ _ _ | exact tt9 _ _ _ | exact tt10 _ _ | exact tt11 _ _ _ | exact Bool.or_not_self _ | (simp; done) | (simp; omega)) ?_)
      refine sat_ret (fin_val (.inr rfl) rfl rfl rfl ?_)
      show V.tup [U (whereR posP (tk zs)), U (whereR negP (tk zs)), I 0] = _
      rw [tk_eq, sidesR, h]; rfl
  · cases e

def c_occ : CF
  | [.agg [.int .i64 f, .int .i64 r, .sl 0 0 len none]], [.ints false .i8 zs] => some (decide (len = zs.length) && decide (zs.length ≤ 1000000), .int .u64 (occR f r zs), [])
  | _, _ => none
theorem c_occ_ok : CtOk GG PP (78, c_occ) := by
  refine ct_mk Tryd.func78 (by kernel_rfl) rfl fun a0 h0 c0 v0 N0 e hc => ?_
  unfold c_occ at e
  split at e
  · rename_i f r len zs
    cases e
    have hE := EE_ok (cts := [(103, c_sides)]) (inl := []) ⟨c_sides_ok, trivial⟩ trivial
    refine fn_sound hE 2 Tryd.func78 rfl rfl ?_
    simp only [Bool.and_eq_true, decide_eq_true_eq] at hc
    obtain ⟨rfl, hc2⟩ := hc
    repeat (first | refine sat_self ?_ | refine sat_need (by first | rfl | exact tt1 _ _ | exact tt5 _ _ | exact tt2 _ _ _ | exact tt4 _ _ _ | exact tt6 _ _ _ | exact tt7 _ _ | exact tt8 _ _ _ | exact tt9 _ _ _ | exact tt10 _ _ | exact tt11 _ _ _ | exact Bool.or_not_self _ | (simp; done) | (simp; omega)) ?_)
    refine sat_ret (fin_val (.inr rfl) rfl rfl rfl ?_)
    show V.int IntKind.u64 (occR f r (tk zs)) = _
    rw [tk_eq]
  · cases e

end Go.Ab

namespace Go.Ab
open Go.Proofs
/-! ### attack, the program -/
abbrev w8 (n : Int) : Int := IntKind.i8.wrap n
def isP (p : Int) (bl : Bool) : Bool := (decide (p < 0) && bl) || (decide (0 < p) && !bl)
def absP (p : Int) : Int := imax true p (w8 (0 - p))
def ofR (f r : Int) (zs : List Int) (at_ all_ : Int) : Int := bif decide (zs.getD at_.toNat 0 = 1) || decide (zs.getD at_.toNat 0 = -1) then (pawnR f r (decide (zs.getD at_.toNat 0 < 0)) at_).1 else (reachR f r (absP (zs.getD at_.toNat 0)) at_ all_).1
def c_ais : CF
  | [.int .i8 p, .bool bl], [] => some (true, .bool (isP p bl), [])
  | _, _ => none
theorem c_ais_ok : CtOk GG PP (79, c_ais) := by
  refine ct_mk Tryd.func79 (by kernel_rfl) rfl fun a0 h0 c0 v0 N0 e hc => ?_
  unfold c_ais at e
  split at e
  · rename_i p bl
    cases e
    have hE := EE_ok (cts := []) (inl := []) trivial trivial
    refine fn_sound hE 2 Tryd.func79 rfl rfl ?_
    repeat' first | (first | refine sat_self ?_ | refine sat_need (by first | rfl | exact tt1 _ _ | exact tt5 _ _ | exact tt2 _ _ _ | exact tt4 _ _ _ | exact tt6 _ _ _ | exact tt7 _ _ | exact tt8 _ _ _ | exact tt9 _ _ _ | exact tt10 _ _ | exact tt11 _ _ _ | exact Bool.or_not_self _ | (simp; done) | (simp; omega)) ?_) | refine sat_br (fun h => ?_) (fun h => ?_)
    all_goals exact sat_ret (fin_val (.inr rfl) rfl rfl rfl (by first | rfl | (simp only [*, cond_true, cond_false]; done) | (simp only [*, cond_true, cond_false, Bool.not_true, Bool.not_false, Bool.and_true, Bool.true_and, Bool.and_false, Bool.false_and, Bool.or_true, Bool.true_or, Bool.or_false, Bool.false_or]; done) | simp_all []))
  · cases e

def c_of : CF
  | [.agg [.int .i64 f, .int .i64 r, .sl 0 0 len none], .int .i64 at_, .int .u64 all_], [.ints false .i8 zs] => some (decide (len = zs.length) && decide (zs.length ≤ 64) && decide (0 ≤ at_) && decide (at_ < zs.length), .int .u64 (ofR f r zs at_ all_), [])
  | _, _ => none
theorem c_of_ok : CtOk GG PP (80, c_of) := by
  refine ct_mk Tryd.func80 (by kernel_rfl) rfl fun a0 h0 c0 v0 N0 e hc => ?_
  unfold c_of at e
  split at e
  · rename_i f r len at_ all_ zs
    cases e
    have hE := EE_ok (cts := [(25, c_pawn), (22, c_reach)]) (inl := []) ⟨c_pawn_ok, c_reach_ok, trivial⟩ trivial
    refine fn_sound hE 2 Tryd.func80 rfl rfl ?_
    simp only [Bool.and_eq_true, decide_eq_true_eq] at hc
    obtain ⟨⟨⟨rfl, hc2⟩, ha1⟩, ha2⟩ := hc
    repeat (first | refine sat_self ?_ | refine sat_need (by first | rfl | exact tt1 _ _ | exact tt5 _ _ | exact tt2 _ _ _ | exact tt4 _ _ _ | exact tt6 _ _ _ | exact tt7 _ _ | exact tt8 _ _ _ | exact tt9 _ _ _ | exact tt10 _ _ | exact tt11 _ _ _ | exact Bool.or_not_self _ | (simp; done) | (simp; omega)) ?_)
    refine sat_br (fun h => ?_) (fun h => ?_)
    · have h : decide (zs.getD at_.toNat 0 = 1) = true := h
      refine sat_bt h ?_
      repeat (first | refine sat_self ?_ | refine sat_need (by first | rfl | exact tt1 _ _ | exact tt5 _ _ | exact tt2 _ _ _ | exact tt4 _ _ _ | exact tt6 _ _ _ | exact tt7 _ _ | exact tt8 _ _ _ | exact tt9 _ _ _ | exact tt10 _ _ | exact tt11 _ _ _ | exact Bool.or_not_self _ | (simp; done) | (simp; omega)) ?_)
      exact sat_ret (fin_val (.inr rfl) rfl rfl rfl (by rw [ofR, h]; rfl))
    have h : decide (zs.getD at_.toNat 0 = 1) = false := h
    refine sat_br (fun h2 => ?_) (fun h2 => ?_)
    · have h2 : decide (zs.getD at_.toNat 0 = -1) = true := h2
      repeat (first | refine sat_self ?_ | refine sat_need (by first | rfl | exact tt1 _ _ | exact tt5 _ _ | exact tt2 _ _ _ | exact tt4 _ _ _ | exact tt6 _ _ _ | exact tt7 _ _ | exact tt8 _ _ _ | exact tt9 _ _ _ | exact tt10 _ _ | exact tt11 _ _ _ | exact Bool.or_not_self _ | (simp; done) | (simp; omega)) ?_)
      exact sat_ret (fin_val (.inr rfl) rfl rfl rfl (by rw [ofR, h, h2]; rfl))
    have h2 : decide (zs.getD at_.toNat 0 = -1) = false := h2
    repeat (first | refine sat_self ?_ | refine sat_need (by first | rfl | exact tt1 _ _ | exact tt5 _ _ | exact tt2 _ _ _ | exact tt4 _ _ _ | exact tt6 _ _ _ | exact tt7 _ _ | exact tt8 _ _ _ | exact tt9 _ _ _ | exact tt10 _ _ | exact tt11 _ _ _ | exact Bool.or_not_self _ | (simp; done) | (simp; omega)) ?_)
    exact sat_ret (fin_val (.inr rfl) rfl rfl rfl (by rw [ofR, h, h2]; rfl))
  · cases e

def attB (f r : Int) (zs : List Int) (at_ : Int) (bl : Bool) (all_ i : Int) : Bool := isP (zs.getD i.toNat 0) bl && decide (uand (ushr (ofR f r zs i all_) at_) 1 = 1)
def attS (f r : Int) (zs : List Int) (at_ : Int) (bl : Bool) (all_ s i : Int) : Int := bif attB f r zs at_ bl all_ i then uor s (ushl 1 i) else s
def attR (f r : Int) (zs : List Int) (at_ : Int) (bl : Bool) : Int := foldN (attS f r zs at_ bl (occR f r zs)) 0 zs.length
def atdS (f r : Int) (zs : List Int) (bl : Bool) (all_ s i : Int) : Int := bif isP (zs.getD i.toNat 0) bl then uor s (ofR f r zs i all_) else s
def atdR (f r : Int) (zs : List Int) (bl : Bool) : Int := foldN (atdS f r zs bl (occR f r zs)) 0 zs.length
def c_attackers : CF
  | [.agg [.int .i64 f, .int .i64 r, .sl 0 0 len none], .int .i64 at_, .bool bl], [.ints false .i8 zs] => some (decide (len = zs.length) && decide (zs.length ≤ 64) && decide (0 ≤ at_), .int .u64 (attR f r zs at_ bl), [])
  | _, _ => none
theorem c_attackers_ok : CtOk GG PP (71, c_attackers) := by
  refine ct_mk Tryd.func71 (by kernel_rfl) rfl fun a0 h0 c0 v0 N0 e hc => ?_
  unfold c_attackers at e
  split at e
  · rename_i f r len at_ bl zs
    cases e
    have hE := EE_ok (cts := [(78, c_occ), (79, c_ais), (80, c_of)]) (inl := []) ⟨c_occ_ok, c_ais_ok, c_of_ok, trivial⟩ trivial
    refine fn_sound hE 2 Tryd.func71 rfl rfl ?_
    simp only [Bool.and_eq_true, decide_eq_true_eq] at hc
    obtain ⟨⟨rfl, hc2⟩, ha1⟩ := hc
    repeat (first | refine sat_self ?_ | refine sat_need (by first | rfl | exact tt1 _ _ | exact tt5 _ _ | exact tt2 _ _ _ | exact tt4 _ _ _ | exact tt6 _ _ _ | exact tt7 _ _ | exact tt8 _ _ _ | exact tt9 _ _ _ | exact tt10 _ _ | exact tt11 _ _ _ | exact Bool.or_not_self _ | (simp; done) | (simp; omega)) ?_)
    refine sat_idx hE 2 (fun i (s : Int) => ([(1, I at_), (2, Bb bl), (3, .ptr 1 0 0), (7, U s), (8, U (occR f r (tk zs))), (14, .sl 0 0 zs.length none), (15, I zs.length), (16, I i)], [.ints false .i8 zs, .cells true [I f, I r, .sl 0 0 zs.length none]])) zs.length (fun j s => s = foldN (attS f r zs at_ bl (occR f r zs)) 0 j) 0 (by omega) (Ent.ren [0, 1] [1, 2, 3, 7, 8, 14, 15, 16] rfl rfl rfl) rfl ?_
    intro j i s hij hj hz
    refine sat_br (fun hlt => ?_) (fun hlt => ?_)
    · have hlt' : j < zs.length := by simp at hlt; omega
      have hs : attS f r zs at_ bl (occR f r zs) s i = foldN (attS f r zs at_ bl (occR f r zs)) 0 (j + 1) := by rw [hz, hij]; rfl
      refine sat_need (by simp; omega) ?_
      repeat (first | (first | refine sat_self ?_ | refine sat_need (by first | rfl | exact tt1 _ _ | exact tt5 _ _ | exact tt2 _ _ _ | exact tt4 _ _ _ | exact tt6 _ _ _ | exact tt7 _ _ | exact tt8 _ _ _ | exact tt9 _ _ _ | exact tt10 _ _ | exact tt11 _ _ _ | exact Bool.or_not_self _ | (simp; done) | (simp; omega)) ?_) | refine sat_need (by rw [decide_eq_true ha1]; exact Bool.or_true _) ?_ | refine sat_need (by simp; right; omega) ?_)
      refine sat_br (fun hon => ?_) (fun hon => ?_)
      · have hon : (isP (zs.getD i.toNat 0) bl && decide (uand (ushr (ofR f r (tk zs) i (occR f r (tk zs))) at_) 1 = 1)) = true := hon
        rw [tk_eq] at hon
        have hon : attB f r zs at_ bl (occR f r zs) i = true := hon
        rw [attS, hon, cond_true] at hs
        refine sat_need (by simp; omega) ?_
        exact sat_ret ⟨hlt', _, hs, Ent.ren [0, 1] [1, 2, 3, 7, 8, 14, 15, 16] rfl rfl rfl⟩
      · have hon : (isP (zs.getD i.toNat 0) bl && decide (uand (ushr (ofR f r (tk zs) i (occR f r (tk zs))) at_) 1 = 1)) = false := hon
        rw [tk_eq] at hon
        have hon : attB f r zs at_ bl (occR f r zs) i = false := hon
        rw [attS, hon, cond_false] at hs
        exact sat_ret ⟨hlt', _, hs, Ent.ren [0, 1] [1, 2, 3, 7, 8, 14, 15, 16] rfl rfl rfl⟩
    · obtain rfl : j = zs.length := by simp at hlt; omega
      subst hz
      exact sat_ret (sat_ret (fin_val (.inr rfl) rfl rfl rfl rfl))
  · cases e

end Go.Ab

namespace Go.Ab
open Go.Proofs
theorem orth_valid {f r : Int} {zs : List Int} (h : orthBd f r zs = true) : vsB f r = true ∧ (zs.length : Int) = f * r ∧ validBd f r zs = true ∧ (∀ p ∈ zs, -6 ≤ p ∧ p ≤ 6) := by
  simp only [orthBd, Bool.and_eq_true, Bool.not_eq_true', List.any_eq_false] at h
  obtain ⟨h1, h2⟩ := h
  have h1' := h1
  simp only [validBd, Bool.and_eq_true, decide_eq_true_eq] at h1
  obtain ⟨⟨h3, h4⟩, _⟩ := h1
  have hv : vsB f r = true := by
    cases hv : vsB f r with
    | true => rfl
    | false => rw [cntR, hv] at h3; simp at h3
  rw [cntR, hv, cond_true] at h4
  refine ⟨hv, by rw [h4]; exact w64_mul hv, h1', fun p hp => ?_⟩
  have := h2 p hp
  simp only [norP, orP, Bool.and_eq_true, Bool.not_eq_true', decide_eq_false_iff_not, Bool.and_eq_false_iff, not_and] at this
  by_cases e : p = 0
  · omega
  · have := this e
    simp [e] at this
    omega
theorem sq_iff {f r n : Int} {zs : List Int} (h : orthBd f r zs = true) : validB f r n = true ↔ 0 ≤ n ∧ n < zs.length := by
  obtain ⟨h1, h2, _⟩ := orth_valid h
  rw [h2]
  exact ⟨fun h => ⟨(valid_lt h).1, (valid_lt h).2.1⟩, fun h => valid_mk h1 h.1 h.2⟩
def isV (v p : Int) : Bool := decide (v = p)
theorem need_king {K : Int} {n : Nat} (h1 : -1 ≤ K) (h2 : K < n) (hn : n ≤ 64) : (!!decide (K < 0) || (decide (0 ≤ IntKind.i64.wrap (K + 1)) && decide (IntKind.i64.wrap (K + 1) ≤ n) && decide ((n : Int) ≤ n))) = true := by
  rw [w64_id (by omega) (by omega)]
  simp
  omega
theorem need_tail {g : Bool} {zs : List Int} {a m : Nat} (h : m = zs.length) (hn : zs.length ≤ 64) : (!g || (decide (m - a = ((zs.drop a).take (m - a)).length) && decide (((zs.drop a).take (m - a)).length ≤ 1000000))) = true := by
  subst h
  rw [List.take_of_length_le (by simp), List.length_drop]
  have : zs.length - a ≤ 1000000 := by omega
  simp [this]
theorem king_cond {zs : List Int} {v : Int} {b : Bool} (h : (decide (findI (isV v) (tk zs) 0 < 0) || ((zs.drop (IntKind.i64.wrap (findI (isV v) (tk zs) 0 + 1)).toNat).take ((zs.length : Int).toNat - (IntKind.i64.wrap (findI (isV v) (tk zs) 0 + 1)).toNat)).any (isV v)) = b) : (decide (findI (isV v) zs 0 < 0) || (zs.drop (IntKind.i64.wrap (findI (isV v) zs 0 + 1)).toNat).any (isV v)) = b := by
  rw [tk_eq] at h
  rwa [List.take_of_length_le (by simp)] at h
def attackersR (f r : Int) (zs : List Int) (at_ : Int) (bl : Bool) : Int × Int := bif orthBd f r zs && validB f r at_ then (attR f r zs at_ bl, 0) else (0, 2)
def attackedR (f r : Int) (zs : List Int) (bl : Bool) : Int × Int := bif orthBd f r zs then (atdR f r zs bl, 0) else (0, 2)
def kgP (bl : Bool) : Int := bif bl then -6 else 6
def kingI (zs : List Int) (bl : Bool) : Int := findI (isV (kgP bl)) zs 0
def kingN (zs : List Int) (bl : Bool) : Bool := decide (kingI zs bl < 0) || (zs.drop (IntKind.i64.wrap (kingI zs bl + 1)).toNat).any (isV (kgP bl))
def kingR (f r : Int) (zs : List Int) (bl : Bool) : Int × Int := bif orthBd f r zs then (bif kingN zs bl then (0, 9) else (kingI zs bl, 0)) else (0, 2)
def checkersR (f r : Int) (zs : List Int) (bl : Bool) : Int × Int := bif decide ((kingR f r zs bl).2 = 0) then (attR f r zs (kingR f r zs bl).1 (!bl), 0) else (0, (kingR f r zs bl).2)
theorem findI_bd (p : Int → Bool) : ∀ (l : List Int) (k : Int), 0 ≤ k → -1 ≤ findI p l k ∧ findI p l k < k + l.length
  | [], k, _ => by simp [findI]; omega
  | x :: l, k, h => by
    have := findI_bd p l (k + 1) (by omega)
    rw [findI]
    cases p x <;> simp <;> omega
theorem king_bd {f r : Int} {zs : List Int} {bl : Bool} (h : (kingR f r zs bl).2 = 0) : orthBd f r zs = true ∧ kingN zs bl = false ∧ (kingR f r zs bl).1 = kingI zs bl ∧ 0 ≤ kingI zs bl ∧ kingI zs bl < zs.length := by
  unfold kingR at h ⊢
  cases ho : orthBd f r zs with
  | false => rw [ho] at h; simp at h
  | true =>
    cases hn : kingN zs bl with
    | true => rw [ho, hn] at h; simp at h
    | false =>
      have hb := findI_bd (isV (kgP bl)) zs 0 (by omega)
      simp only [kingN, Bool.or_eq_false_iff, decide_eq_false_iff_not] at hn
      refine ⟨rfl, rfl, rfl, by omega, ?_⟩
      unfold kingI; omega
def c_Attackers : CF
  | [.agg [.int .i64 f, .int .i64 r, .sl 0 0 len none], .int .i64 at_, .bool bl], [.ints false .i8 zs] => some (decide (len = zs.length) && decide (zs.length ≤ 64), .tup [U (attackersR f r zs at_ bl).1, I (attackersR f r zs at_ bl).2], [])
  | _, _ => none
theorem c_Attackers_ok : CtOk GG PP (31, c_Attackers) := by
  refine ct_mk Tryd.func31 (by kernel_rfl) rfl fun a0 h0 c0 v0 N0 e hc => ?_
  unfold c_Attackers at e
  split at e
  · rename_i f r len at_ bl zs
    cases e
    have hE := EE_ok (cts := [(70, c_orth), (63, c_valid), (71, c_attackers)]) (inl := []) ⟨c_orth_ok, c_valid_ok, c_attackers_ok, trivial⟩ trivial
    refine fn_sound hE 2 Tryd.func31 rfl rfl ?_
    simp only [Bool.and_eq_true, decide_eq_true_eq] at hc
    obtain ⟨rfl, hc2⟩ := hc
    repeat (first | refine sat_self ?_ | refine sat_need (by first | rfl | exact tt1 _ _ | exact tt5 _ _ | exact tt2 _ _ _ | exact tt4 _ _ _ | exact tt6 _ _ _ | exact tt7 _ _ | exact tt8 _ _ _ | exact tt9 _ _ _ | exact tt10 _ _ | exact tt11 _ _ _ | exact Bool.or_not_self _ | (simp; done) | (simp; omega)) ?_)
    refine sat_br (fun h => ?_) (fun h => ?_)
    · have h : (orthBd f r zs && validB f r at_) = false := by
        have h : (!orthBd f r (tk zs) || !validB f r at_) = true := h
        rw [tk_eq] at h
        cases h1 : orthBd f r zs <;> cases h2 : validB f r at_ <;> simp_all
      exact sat_ret (fin_val (.inr rfl) rfl rfl rfl (by rw [attackersR, h]; rfl))
    · have h : (orthBd f r zs && validB f r at_) = true := by
        have h : (!orthBd f r (tk zs) || !validB f r at_) = false := h
        rw [tk_eq] at h
        cases h1 : orthBd f r zs <;> cases h2 : validB f r at_ <;> simp_all
      have h0 := (valid_lt (Bool.and_eq_true_iff.1 h).2).1
      refine sat_need (by simp; omega) ?_
      exact sat_ret (fin_val (.inr rfl) rfl rfl rfl (by
        show V.tup [U (attR f r (tk zs) at_ bl), I 0] = _
        rw [tk_eq, attackersR, h]; rfl))
  · cases e

def c_Attacked : CF
  | [.agg [.int .i64 f, .int .i64 r, .sl 0 0 len none], .bool bl], [.ints false .i8 zs] => some (decide (len = zs.length) && decide (zs.length ≤ 64), .tup [U (attackedR f r zs bl).1, I (attackedR f r zs bl).2], [])
  | _, _ => none
theorem c_Attacked_ok : CtOk GG PP (34, c_Attacked) := by
  refine ct_mk Tryd.func34 (by kernel_rfl) rfl fun a0 h0 c0 v0 N0 e hc => ?_
  unfold c_Attacked at e
  split at e
  · rename_i f r len bl zs
    cases e
    have hE := EE_ok (cts := [(70, c_orth), (78, c_occ), (79, c_ais), (80, c_of)]) (inl := []) ⟨c_orth_ok, c_occ_ok, c_ais_ok, c_of_ok, trivial⟩ trivial
    refine fn_sound hE 2 Tryd.func34 rfl rfl ?_
    simp only [Bool.and_eq_true, decide_eq_true_eq] at hc
    obtain ⟨rfl, hc2⟩ := hc
    repeat (first | refine sat_self ?_ | refine sat_need (by first | rfl | exact tt1 _ _ | exact tt5 _ _ | exact tt2 _ _ _ | exact tt4 _ _ _ | exact tt6 _ _ _ | exact tt7 _ _ | exact tt8 _ _ _ | exact tt9 _ _ _ | exact tt10 _ _ | exact tt11 _ _ _ | exact Bool.or_not_self _ | (simp; done) | (simp; omega)) ?_)
    refine sat_br (fun h => ?_) (fun h => ?_)
    · have h : orthBd f r zs = false := by simpa using h
      exact sat_ret (fin_val (.inr rfl) rfl rfl rfl (by rw [attackedR, h]; rfl))
    have h : orthBd f r zs = true := by simpa using h
    repeat (first | refine sat_self ?_ | refine sat_need (by first | rfl | exact tt1 _ _ | exact tt5 _ _ | exact tt2 _ _ _ | exact tt4 _ _ _ | exact tt6 _ _ _ | exact tt7 _ _ | exact tt8 _ _ _ | exact tt9 _ _ _ | exact tt10 _ _ | exact tt11 _ _ _ | exact Bool.or_not_self _ | (simp; done) | (simp; omega)) ?_)
    refine sat_idx hE 2 (fun i (s : Int) => ([(1, Bb bl), (2, .ptr 1 0 0), (6, U s), (7, U (occR f r (tk zs))), (16, .sl 0 0 zs.length none), (17, I zs.length), (18, I i)], [.ints false .i8 zs, .cells true [I f, I r, .sl 0 0 zs.length none]])) zs.length (fun j s => s = foldN (atdS f r zs bl (occR f r zs)) 0 j) 0 (by omega) (Ent.ren [0, 1] [1, 2, 6, 7, 16, 17, 18] rfl rfl rfl) rfl ?_
    intro j i s hij hj hz
    refine sat_br (fun hlt => ?_) (fun hlt => ?_)
    · have hlt' : j < zs.length := by simp at hlt; omega
      have hs : atdS f r zs bl (occR f r zs) s i = foldN (atdS f r zs bl (occR f r zs)) 0 (j + 1) := by rw [hz, hij]; rfl
      refine sat_need (by simp; omega) ?_
      repeat (first | refine sat_self ?_ | refine sat_need (by first | rfl | exact tt1 _ _ | exact tt5 _ _ | exact tt2 _ _ _ | exact tt4 _ _ _ | exact tt6 _ _ _ | exact tt7 _ _ | exact tt8 _ _ _ | exact tt9 _ _ _ | exact tt10 _ _ | exact tt11 _ _ _ | exact Bool.or_not_self _ | (simp; done) | (simp; omega)) ?_)
      refine sat_br (fun hon => ?_) (fun hon => ?_)
      · have hon : isP (zs.getD i.toNat 0) bl = true := hon
        rw [atdS, hon, cond_true] at hs
        refine sat_need (by simp; omega) ?_
        exact sat_ret ⟨hlt', uor s (ofR f r (tk zs) i (occR f r (tk zs))), by rw [tk_eq]; exact hs, Ent.ren [0, 1] [1, 2, 6, 7, 16, 17, 18] rfl rfl rfl⟩
      · have hon : isP (zs.getD i.toNat 0) bl = false := hon
        rw [atdS, hon, cond_false] at hs
        exact sat_ret ⟨hlt', _, hs, Ent.ren [0, 1] [1, 2, 6, 7, 16, 17, 18] rfl rfl rfl⟩
    · obtain rfl : j = zs.length := by simp at hlt; omega
      subst hz
      exact sat_ret (sat_ret (fin_val (.inr rfl) rfl rfl rfl (by rw [attackedR, h]; rfl)))
  · cases e

def c_index : CF
  | [.sl 0 0 len none, .int .i8 v], [.ints false .i8 zs] => some (decide (len = zs.length) && decide (zs.length ≤ 1000000), .int .i64 (findI (isV v) zs 0), [])
  | _, _ => none
theorem c_index_ok : CtOk GG PP (81, c_index) := by
  refine ct_mk Tryd.func81 (by kernel_rfl) rfl fun a0 h0 c0 v0 N0 e hc => ?_
  unfold c_index at e
  split at e
  · rename_i len v zs
    cases e
    have hE := EE_ok (cts := []) (inl := []) trivial trivial
    refine fn_sound hE 2 Tryd.func81 rfl rfl ?_
    simp only [Bool.and_eq_true, decide_eq_true_eq] at hc
    obtain ⟨rfl, hc2⟩ := hc
    refine sat_idx hE 2 (fun i (_ : Unit) => ([(0, .sl 0 0 zs.length none), (1, .int .i8 v), (7, I zs.length), (8, I i)], [.ints false .i8 zs])) zs.length (fun j _ => findI (isV v) (zs.drop j) j = findI (isV v) zs 0) () (by omega) (Ent.ren [0] [0, 1, 7, 8] rfl rfl rfl) rfl ?_
    intro j i _ hij hj hz
    refine sat_br (fun hlt => ?_) (fun hlt => ?_)
    · have hlt' : j < zs.length := by simp at hlt; omega
      rw [findI_at hlt', show j = i.toNat by omega] at hz
      refine sat_need (by simp; omega) ?_
      repeat (first | refine sat_self ?_ | refine sat_need (by first | rfl | exact tt1 _ _ | exact tt5 _ _ | exact tt2 _ _ _ | exact tt4 _ _ _ | exact tt6 _ _ _ | exact tt7 _ _ | exact tt8 _ _ _ | exact tt9 _ _ _ | exact tt10 _ _ | exact tt11 _ _ _ | exact Bool.or_not_self _ | (simp; done) | (simp; omega)) ?_)
      refine sat_br (fun hon => ?_) (fun hon => ?_)
      · have hon : isV v (zs.getD i.toNat 0) = true := hon
        rw [hon, cond_true] at hz
        refine sat_ret (sat_ret (fin_val (.inr rfl) rfl rfl rfl (by rw [← hz]; exact congrArg (V.int IntKind.i64) (by omega))))
      · have hon : isV v (zs.getD i.toNat 0) = false := hon
        rw [hon, cond_false] at hz
        exact sat_ret ⟨hlt', (), by rw [← hz, show i.toNat = j by omega]; push_cast; rfl, Ent.ren [0] [0, 1, 7, 8] rfl rfl rfl⟩
    · obtain rfl : j = zs.length := by simp at hlt; omega
      rw [List.drop_length] at hz
      exact sat_ret (sat_ret (fin_val (.inr rfl) rfl rfl rfl (by rw [← hz]; rfl)))
  · cases e

def c_contains : CF
  | [.sl 0 0 len none, .int .i8 v], [.ints false .i8 zs] => some (decide (len = zs.length) && decide (zs.length ≤ 1000000), .bool (zs.any (isV v)), [])
  | _, _ => none
theorem c_contains_ok : CtOk GG PP (82, c_contains) := by
  refine ct_mk Tryd.func82 (by kernel_rfl) rfl fun a0 h0 c0 v0 N0 e hc => ?_
  unfold c_contains at e
  split at e
  · rename_i len v zs
    cases e
    have hE := EE_ok (cts := [(81, c_index)]) (inl := []) ⟨c_index_ok, trivial⟩ trivial
    refine fn_sound hE 2 Tryd.func82 rfl rfl ?_
    simp only [Bool.and_eq_true, decide_eq_true_eq] at hc
    obtain ⟨rfl, hc2⟩ := hc
    refine sat_need (by simp; omega) ?_
    exact sat_ret (fin_val (.inr rfl) rfl rfl rfl (congrArg V.bool (by
      show decide (0 ≤ findI (isV v) (tk zs) 0) = _
      rw [tk_eq]; exact find_ge (isV v) zs 0 (by omega))))
  · cases e

def c_King : CF
  | [.agg [.int .i64 f, .int .i64 r, .sl 0 0 len none], .bool bl], [.ints false .i8 zs] => some (decide (len = zs.length) && decide (zs.length ≤ 64), .tup [I (kingR f r zs bl).1, I (kingR f r zs bl).2], [])
  | _, _ => none
theorem c_King_ok : CtOk GG PP (36, c_King) := by
  refine ct_mk Tryd.func36 (by kernel_rfl) rfl fun a0 h0 c0 v0 N0 e hc => ?_
  unfold c_King at e
  split at e
  · rename_i f r len bl zs
    cases e
    have hE := EE_ok (cts := [(70, c_orth), (81, c_index), (82, c_contains)]) (inl := []) ⟨c_orth_ok, c_index_ok, c_contains_ok, trivial⟩ trivial
    refine fn_sound hE 2 Tryd.func36 rfl rfl ?_
    simp only [Bool.and_eq_true, decide_eq_true_eq] at hc
    obtain ⟨rfl, hc2⟩ := hc
    repeat (first | refine sat_self ?_ | refine sat_need (by first | rfl | exact tt1 _ _ | exact tt5 _ _ | exact tt2 _ _ _ | exact tt4 _ _ _ | exact tt6 _ _ _ | exact tt7 _ _ | exact tt8 _ _ _ | exact tt9 _ _ _ | exact tt10 _ _ | exact tt11 _ _ _ | exact Bool.or_not_self _ | (simp; done) | (simp; omega)) ?_)
    refine sat_br (fun h => ?_) (fun h => ?_)
    · have h : orthBd f r zs = false := by simpa using h
      exact sat_ret (fin_val (.inr rfl) rfl rfl rfl (by rw [kingR, h]; rfl))
    have h : orthBd f r zs = true := by simpa using h
    refine sat_br (fun hb => ?_) (fun hb => ?_)
    · subst hb
      have hbd := findI_bd (isV (kgP true)) zs 0 (by omega)
      repeat (first | refine sat_self ?_ | refine sat_need (by first | rfl | exact tt1 _ _ | exact tt5 _ _ | exact tt2 _ _ _ | exact tt4 _ _ _ | exact tt6 _ _ _ | exact tt7 _ _ | exact tt8 _ _ _ | exact tt9 _ _ _ | exact tt10 _ _ | exact tt11 _ _ _ | exact Bool.or_not_self _ | (simp; done) | (simp; omega)) ?_)
      refine sat_need (by
        refine need_king (K := findI (isV (kgP true)) (tk zs) 0) ?_ ?_ hc2
        · rw [tk_eq]; exact hbd.1
        · rw [tk_eq]; have := hbd.2; omega) ?_
      repeat (first | (first | refine sat_self ?_ | refine sat_need (by first | rfl | exact tt1 _ _ | exact tt5 _ _ | exact tt2 _ _ _ | exact tt4 _ _ _ | exact tt6 _ _ _ | exact tt7 _ _ | exact tt8 _ _ _ | exact tt9 _ _ _ | exact tt10 _ _ | exact tt11 _ _ _ | exact Bool.or_not_self _ | (simp; done) | (simp; omega)) ?_) | refine sat_need (need_tail rfl hc2) ?_)
      refine sat_br (fun hk => ?_) (fun hk => ?_)
      · have hk := king_cond (zs := zs) (v := kgP true) hk
        exact sat_ret (fin_val (.inr rfl) rfl rfl rfl (by rw [kingR, h, show kingN zs true = true from hk]; rfl))
      · have hk := king_cond (zs := zs) (v := kgP true) hk
        exact sat_ret (fin_val (.inr rfl) rfl rfl rfl (by
          show V.tup [I (findI (isV (kgP true)) (tk zs) 0), I 0] = _
          rw [tk_eq, kingR, h, show kingN zs true = false from hk]; rfl))
    · subst hb
      have hbd := findI_bd (isV (kgP false)) zs 0 (by omega)
      repeat (first | refine sat_self ?_ | refine sat_need (by first | rfl | exact tt1 _ _ | exact tt5 _ _ | exact tt2 _ _ _ | exact tt4 _ _ _ | exact tt6 _ _ _ | exact tt7 _ _ | exact tt8 _ _ _ | exact tt9 _ _ _ | exact tt10 _ _ | exact tt11 _ _ _ | exact Bool.or_not_self _ | (simp; done) | (simp; omega)) ?_)
      refine sat_need (by
        refine need_king (K := findI (isV (kgP false)) (tk zs) 0) ?_ ?_ hc2
        · rw [tk_eq]; exact hbd.1
        · rw [tk_eq]; have := hbd.2; omega) ?_
      repeat (first | (first | refine sat_self ?_ | refine sat_need (by first | rfl | exact tt1 _ _ | exact tt5 _ _ | exact tt2 _ _ _ | exact tt4 _ _ _ | exact tt6 _ _ _ | exact tt7 _ _ | exact tt8 _ _ _ | exact tt9 _ _ _ | exact tt10 _ _ | exact tt11 _ _ _ | exact Bool.or_not_self _ | (simp; done) | (simp; omega)) ?_) | refine sat_need (need_tail rfl hc2) ?_)
      refine sat_br (fun hk => ?_) (fun hk => ?_)
      · have hk := king_cond (zs := zs) (v := kgP false) hk
        exact sat_ret (fin_val (.inr rfl) rfl rfl rfl (by rw [kingR, h, show kingN zs false = true from hk]; rfl))
      · have hk := king_cond (zs := zs) (v := kgP false) hk
        exact sat_ret (fin_val (.inr rfl) rfl rfl rfl (by
          show V.tup [I (findI (isV (kgP false)) (tk zs) 0), I 0] = _
          rw [tk_eq, kingR, h, show kingN zs false = false from hk]; rfl))
  · cases e

def c_Checkers : CF
  | [.agg [.int .i64 f, .int .i64 r, .sl 0 0 len none], .bool bl], [.ints false .i8 zs] => some (decide (len = zs.length) && decide (zs.length ≤ 64), .tup [U (checkersR f r zs bl).1, I (checkersR f r zs bl).2], [])
  | _, _ => none
theorem c_Checkers_ok : CtOk GG PP (37, c_Checkers) := by
  refine ct_mk Tryd.func37 (by kernel_rfl) rfl fun a0 h0 c0 v0 N0 e hc => ?_
  unfold c_Checkers at e
  split at e
  · rename_i f r len bl zs
    cases e
    have hE := EE_ok (cts := [(36, c_King), (71, c_attackers)]) (inl := []) ⟨c_King_ok, c_attackers_ok, trivial⟩ trivial
    refine fn_sound hE 2 Tryd.func37 rfl rfl ?_
    simp only [Bool.and_eq_true, decide_eq_true_eq] at hc
    obtain ⟨rfl, hc2⟩ := hc
    repeat (first | refine sat_self ?_ | refine sat_need (by first | rfl | exact tt1 _ _ | exact tt5 _ _ | exact tt2 _ _ _ | exact tt4 _ _ _ | exact tt6 _ _ _ | exact tt7 _ _ | exact tt8 _ _ _ | exact tt9 _ _ _ | exact tt10 _ _ | exact tt11 _ _ _ | exact Bool.or_not_self _ | (simp; done) | (simp; omega)) ?_)
    refine sat_br (fun h => ?_) (fun h => ?_)
    · have h : decide ((kingR f r zs bl).2 = 0) = false := by simpa using h
      exact sat_ret (fin_val (.inr rfl) rfl rfl rfl (by
        show V.tup [U 0, I (kingR f r (tk zs) bl).2] = _
        rw [tk_eq, checkersR, h]; rfl))
    have h : decide ((kingR f r zs bl).2 = 0) = true := by simpa using h
    obtain ⟨_, _, k3, k4, k5⟩ := king_bd (of_decide_eq_true h)
    refine sat_need (by
      have e : (kingR f r (tk zs) bl).1 = kingI zs bl := by rw [tk_eq, k3]
      rw [e]; simp; omega) ?_
    exact sat_ret (fin_val (.inr rfl) rfl rfl rfl (by
      show V.tup [U (attR f r (tk zs) (kingR f r (tk zs) bl).1 (!bl)), I 0] = _
      rw [tk_eq, checkersR, h]; rfl))
  · cases e

end Go.Ab

namespace Go.Ab
open Go.Proofs
/-! ### pins -/
def skipA (zs : List Int) (bl : Bool) (i : Int) : Bool := !isP (zs.getD i.toNat 0) (!bl) || decide (absP (zs.getD i.toNat 0) < 3) || decide (5 < absP (zs.getD i.toNat 0))
def skipB (f r : Int) (zs : List Int) (k i : Int) : Bool := !decide ((betwR f r i k).2 = 0) || decide (uand (ushr (reachR f r (absP (zs.getD i.toNat 0)) i 0).1 k) 1 = 0)
def pinC (f r : Int) (zs : List Int) (bl : Bool) (k all_ i j : Int) : Bool := decide (uand (betwR f r i k).1 all_ = ushl 1 j) && isP (zs.getD j.toNat 0) bl
def pinLn (f r k i j : Int) : Int := uor (uandn (betwR f r i k).1 (ushl 1 j)) (ushl 1 i)
def pinIn (cb : Int → Int → Int → Int) (f r : Int) (zs : List Int) (bl : Bool) (k all_ i s j : Int) : Int := bif pinC f r zs bl k all_ i j then cb s j (pinLn f r k i j) else s
def pinOut (cb : Int → Int → Int → Int) (f r : Int) (zs : List Int) (bl : Bool) (k all_ s i : Int) : Int := bif skipA zs bl i || skipB f r zs k i then s else foldN (pinIn cb f r zs bl k all_ i) s zs.length
def pinsF (cb : Int → Int → Int → Int) (f r : Int) (zs : List Int) (bl : Bool) : Int := foldN (pinOut cb f r zs bl (kingR f r zs bl).1 (occR f r zs)) 0 zs.length
def cbP (s j _ln : Int) : Int := uor s (ushl 1 j)
def cbL (at_ s j ln : Int) : Int := bif decide (j = at_) then ln else s
def pinnedR (f r : Int) (zs : List Int) (bl : Bool) : Int × Int := bif decide ((kingR f r zs bl).2 = 0) then (pinsF cbP f r zs bl, 0) else (0, (kingR f r zs bl).2)
theorem imax_abs {p : Int} (h : -6 ≤ p ∧ p ≤ 6) : absP p = p.natAbs := by
  have hw : w8 (0 - p) = -p := by
    have hb : IntKind.i8.bits = 8 := rfl
    have : ∀ q : _root_.Fin 13, w8 (0 - ((q.val : Int) - 6)) = -((q.val : Int) - 6) := by decide +kernel
    have h2 := this ⟨(p + 6).toNat, by omega⟩
    simp only at h2
    rwa [show (((p + 6).toNat : Int) - 6) = p by omega] at h2
  unfold absP
  rw [hw]
  unfold imax
  by_cases h1 : p < -p <;> simp [h1] <;> omega
def c_Pinned : CF
  | [.agg [.int .i64 f, .int .i64 r, .sl 0 0 len none], .bool bl], [.ints false .i8 zs] => some (decide (len = zs.length) && decide (zs.length ≤ 64), .tup [U (pinnedR f r zs bl).1, I (pinnedR f r zs bl).2], [])
  | _, _ => none
theorem c_Pinned_ok : CtOk GG PP (39, c_Pinned) := by
  refine ct_mk Tryd.func39 (by kernel_rfl) rfl fun a0 h0 c0 v0 N0 e hc => ?_
  unfold c_Pinned at e
  split at e
  · rename_i f r len bl zs
    cases e
    have hE := EE_ok (cts := [(36, c_King), (78, c_occ), (79, c_ais), (16, c_betw), (22, c_reach)]) (inl := [(84, Tryd.f84), (85, Tryd.f85)]) ⟨c_King_ok, c_occ_ok, c_ais_ok, c_betw_ok, c_reach_ok, trivial⟩ ⟨⟨Tryd.func84, by kernel_rfl⟩, ⟨Tryd.func85, by kernel_rfl⟩, trivial⟩
    refine fn_sound hE 4 Tryd.func39 rfl rfl ?_
    simp only [Bool.and_eq_true, decide_eq_true_eq] at hc
    obtain ⟨rfl, hc2⟩ := hc
    repeat (first | refine sat_self ?_ | refine sat_need (by first | rfl | exact tt1 _ _ | exact tt5 _ _ | exact tt2 _ _ _ | exact tt4 _ _ _ | exact tt6 _ _ _ | exact tt7 _ _ | exact tt8 _ _ _ | exact tt9 _ _ _ | exact tt10 _ _ | exact tt11 _ _ _ | exact Bool.or_not_self _ | (simp; done) | (simp; omega)) ?_)
    refine sat_br (fun h => ?_) (fun h => ?_)
    · have h : decide ((kingR f r zs bl).2 = 0) = false := by simpa using h
      exact sat_ret (fin_val (.inr rfl) rfl rfl rfl (by
        show V.tup [U 0, I (kingR f r (tk zs) bl).2] = _
        rw [tk_eq, pinnedR, h]; rfl))
    have h : decide ((kingR f r zs bl).2 = 0) = true := by simpa using h
    obtain ⟨ko, kn, k3, k4, k5⟩ := king_bd (of_decide_eq_true h)
    have hk : (kingR f r (tk zs) bl).1 = (kingR f r zs bl).1 := by rw [tk_eq]
    have hoc : occR f r (tk zs) = occR f r zs := by rw [tk_eq]
    repeat (first | refine sat_self ?_ | refine sat_need (by first | rfl | exact tt1 _ _ | exact tt5 _ _ | exact tt2 _ _ _ | exact tt4 _ _ _ | exact tt6 _ _ _ | exact tt7 _ _ | exact tt8 _ _ _ | exact tt9 _ _ _ | exact tt10 _ _ | exact tt11 _ _ _ | exact Bool.or_not_self _ | (simp; done) | (simp; omega)) ?_)
    refine sat_idx hE 4 (fun i (s : Int) => ([(1, Bb bl), (2, .fn 85 [.ptr 2 0 0]), (3, .ptr 3 0 0), (7, I (kingR f r (tk zs) bl).1), (9, U (occR f r (tk zs))), (30, .sl 0 0 zs.length none), (31, I zs.length), (32, I i)], [.ints false .i8 zs, .cells true [I f, I r, .sl 0 0 zs.length none], .cells true [U s], .cells true [I f, I r, .sl 0 0 zs.length none]])) zs.length (fun j s => s = foldN (pinOut cbP f r zs bl (kingR f r zs bl).1 (occR f r zs)) 0 j) 0 (by omega) (Ent.ren [0, 1, 2, 3] [1, 2, 3, 7, 9, 30, 31, 32] rfl rfl rfl) rfl ?_
    intro j i s hij hj hz
    refine sat_br (fun hlt => ?_) (fun hlt => ?_)
    · have hlt' : j < zs.length := by simp at hlt; omega
      have hs : pinOut cbP f r zs bl (kingR f r zs bl).1 (occR f r zs) s i = foldN (pinOut cbP f r zs bl (kingR f r zs bl).1 (occR f r zs)) 0 (j + 1) := by rw [hz, hij]; rfl
      refine sat_need (by simp; omega) ?_
      repeat (first | refine sat_self ?_ | refine sat_need (by first | rfl | exact tt1 _ _ | exact tt5 _ _ | exact tt2 _ _ _ | exact tt4 _ _ _ | exact tt6 _ _ _ | exact tt7 _ _ | exact tt8 _ _ _ | exact tt9 _ _ _ | exact tt10 _ _ | exact tt11 _ _ _ | exact Bool.or_not_self _ | (simp; done) | (simp; omega)) ?_)
      refine sat_br (fun hA => ?_) (fun hA => ?_)
      · have hA : skipA zs bl i = true := hA
        rw [pinOut, hA, Bool.true_or, cond_true] at hs
        exact sat_ret ⟨hlt', _, hs, Ent.ren [0, 1, 2, 3] [1, 2, 3, 7, 9, 30, 31, 32] rfl rfl rfl⟩
      have hA : skipA zs bl i = false := hA
      have hkn : 0 ≤ (kingR f r (tk zs) bl).1 := by rw [hk, k3]; exact k4
      repeat (first | (first | refine sat_self ?_ | refine sat_need (by first | rfl | exact tt1 _ _ | exact tt5 _ _ | exact tt2 _ _ _ | exact tt4 _ _ _ | exact tt6 _ _ _ | exact tt7 _ _ | exact tt8 _ _ _ | exact tt9 _ _ _ | exact tt10 _ _ | exact tt11 _ _ _ | exact Bool.or_not_self _ | (simp; done) | (simp; omega)) ?_) | refine sat_need (by simp only [decide_eq_true hkn, Bool.or_true]) ?_)
      refine sat_br (fun hB => ?_) (fun hB => ?_)
      · have hB : skipB f r zs (kingR f r (tk zs) bl).1 i = true := hB
        rw [hk] at hB
        rw [pinOut, hB, Bool.or_true, cond_true] at hs
        exact sat_ret ⟨hlt', _, hs, Ent.ren [0, 1, 2, 3] [1, 2, 3, 7, 9, 30, 31, 32] rfl rfl rfl⟩
      have hB : skipB f r zs (kingR f r (tk zs) bl).1 i = false := hB
      rw [hk] at hB
      rw [pinOut, hA, hB, Bool.false_or, cond_false] at hs
      refine sat_idx hE 4 (fun j (s : Int) => ([(1, Bb bl), (2, .fn 85 [.ptr 2 0 0]), (3, .ptr 3 0 0), (7, I (kingR f r (tk zs) bl).1), (9, U (occR f r (tk zs))), (30, .sl 0 0 zs.length none), (31, I zs.length), (32, I i), (10, I i), (12, U (betwR f r i (kingR f r (tk zs) bl).1).1), (85, .sl 0 0 zs.length none), (86, I zs.length), (87, I j)], [.ints false .i8 zs, .cells true [I f, I r, .sl 0 0 zs.length none], .cells true [U s], .cells true [I f, I r, .sl 0 0 zs.length none]])) zs.length (fun j' s' => s' = foldN (pinIn cbP f r zs bl (kingR f r zs bl).1 (occR f r zs) i) s j') s (by omega) (Ent.ren [0, 1, 2, 3] [1, 2, 3, 7, 9, 30, 31, 32, 10, 12, 85, 86, 87] rfl rfl rfl) rfl ?_
      intro j2 i2 s2 hij2 hj2 hz2
      refine sat_br (fun hlt2 => ?_) (fun hlt2 => ?_)
      · have hlt2' : j2 < zs.length := by simp at hlt2; omega
        have hs2 : pinIn cbP f r zs bl (kingR f r zs bl).1 (occR f r zs) i s2 i2 = foldN (pinIn cbP f r zs bl (kingR f r zs bl).1 (occR f r zs) i) s (j2 + 1) := by rw [hz2, hij2]; rfl
        refine sat_need (by simp; omega) ?_
        repeat (first | (first | refine sat_self ?_ | refine sat_need (by first | rfl | exact tt1 _ _ | exact tt5 _ _ | exact tt2 _ _ _ | exact tt4 _ _ _ | exact tt6 _ _ _ | exact tt7 _ _ | exact tt8 _ _ _ | exact tt9 _ _ _ | exact tt10 _ _ | exact tt11 _ _ _ | exact Bool.or_not_self _ | (simp; done) | (simp; omega)) ?_) | refine sat_need (by simp; omega) ?_)
        refine sat_br (fun hC => ?_) (fun hC => ?_)
        · have hC : pinC f r zs bl (kingR f r (tk zs) bl).1 (occR f r (tk zs)) i i2 = true := hC
          rw [hk, hoc] at hC
          rw [pinIn, hC, cond_true] at hs2
          repeat (first | (first | refine sat_self ?_ | refine sat_need (by first | rfl | exact tt1 _ _ | exact tt5 _ _ | exact tt2 _ _ _ | exact tt4 _ _ _ | exact tt6 _ _ _ | exact tt7 _ _ | exact tt8 _ _ _ | exact tt9 _ _ _ | exact tt10 _ _ | exact tt11 _ _ _ | exact Bool.or_not_self _ | (simp; done) | (simp; omega)) ?_) | refine sat_need (by simp; omega) ?_)
          refine sat_ret ⟨hlt2', _, hs2, Ent.ren [0, 1, 2, 3] [1, 2, 3, 7, 9, 30, 31, 32, 10, 12, 85, 86, 87] rfl rfl rfl⟩
        · have hC : pinC f r zs bl (kingR f r (tk zs) bl).1 (occR f r (tk zs)) i i2 = false := hC
          rw [hk, hoc] at hC
          rw [pinIn, hC, cond_false] at hs2
          exact sat_ret ⟨hlt2', _, hs2, Ent.ren [0, 1, 2, 3] [1, 2, 3, 7, 9, 30, 31, 32, 10, 12, 85, 86, 87] rfl rfl rfl⟩
      · obtain rfl : j2 = zs.length := by simp at hlt2; omega
        rw [← hz2] at hs
        exact sat_ret (sat_ret ⟨hlt', _, hs, Ent.ren [0, 1, 2, 3] [1, 2, 3, 7, 9, 30, 31, 32] rfl rfl rfl⟩)
    · obtain rfl : j = zs.length := by simp at hlt; omega
      refine sat_ret (sat_ret (fin_val (.inr rfl) rfl rfl rfl (by
        rw [pinnedR, h, hz]; rfl)))
  · cases e

def pinLineR (f r : Int) (zs : List Int) (at_ : Int) : Int × Int :=
  bif orthBd f r zs && validB f r at_ then
    bif decide (zs.getD at_.toNat 0 = 0) then (0, 9)
    else bif decide ((kingR f r zs (decide (zs.getD at_.toNat 0 < 0))).2 = 0) then
      bif decide (pinsF (cbL at_) f r zs (decide (zs.getD at_.toNat 0 < 0)) = 0) then (0, 9) else (pinsF (cbL at_) f r zs (decide (zs.getD at_.toNat 0 < 0)), 0)
    else (0, (kingR f r zs (decide (zs.getD at_.toNat 0 < 0))).2)
  else (0, 2)
def c_PinLine : CF
  | [.agg [.int .i64 f, .int .i64 r, .sl 0 0 len none], .int .i64 at_], [.ints false .i8 zs] => some (decide (len = zs.length) && decide (zs.length ≤ 64), .tup [U (pinLineR f r zs at_).1, I (pinLineR f r zs at_).2], [])
  | _, _ => none
theorem c_PinLine_ok : CtOk GG PP (40, c_PinLine) := by
  refine ct_mk Tryd.func40 (by kernel_rfl) rfl fun a0 h0 c0 v0 N0 e hc => ?_
  unfold c_PinLine at e
  split at e
  · rename_i f r len at_ zs
    cases e
    have hE := EE_ok (cts := [(70, c_orth), (63, c_valid), (36, c_King), (78, c_occ), (79, c_ais), (16, c_betw), (22, c_reach)]) (inl := [(84, Tryd.f84), (86, Tryd.f86)]) ⟨c_orth_ok, c_valid_ok, c_King_ok, c_occ_ok, c_ais_ok, c_betw_ok, c_reach_ok, trivial⟩ ⟨⟨Tryd.func84, by kernel_rfl⟩, ⟨Tryd.func86, by kernel_rfl⟩, trivial⟩
    refine fn_sound hE 4 Tryd.func40 rfl rfl ?_
    simp only [Bool.and_eq_true, decide_eq_true_eq] at hc
    obtain ⟨rfl, hc2⟩ := hc
    repeat (first | refine sat_self ?_ | refine sat_need (by first | rfl | exact tt1 _ _ | exact tt5 _ _ | exact tt2 _ _ _ | exact tt4 _ _ _ | exact tt6 _ _ _ | exact tt7 _ _ | exact tt8 _ _ _ | exact tt9 _ _ _ | exact tt10 _ _ | exact tt11 _ _ _ | exact Bool.or_not_self _ | (simp; done) | (simp; omega)) ?_)
    refine sat_br (fun h => ?_) (fun h => ?_)
    · have h : (orthBd f r zs && validB f r at_) = false := by
        have h : (!orthBd f r (tk zs) || !validB f r at_) = true := h
        rw [tk_eq] at h
        cases h1 : orthBd f r zs <;> cases h2 : validB f r at_ <;> simp_all
      exact sat_ret (fin_val (.inr rfl) rfl rfl rfl (by rw [pinLineR, h]; rfl))
    have hov : (orthBd f r zs && validB f r at_) = true := by
      have h : (!orthBd f r (tk zs) || !validB f r at_) = false := h
      rw [tk_eq] at h
      cases h1 : orthBd f r zs <;> cases h2 : validB f r at_ <;> simp_all
    have hat := (sq_iff (Bool.and_eq_true_iff.1 hov).1).1 (Bool.and_eq_true_iff.1 hov).2
    refine sat_need (by simp; omega) ?_
    refine sat_br (fun h0 => ?_) (fun h0 => ?_)
    · have h0 : decide (zs.getD at_.toNat 0 = 0) = true := h0
      exact sat_ret (fin_val (.inr rfl) rfl rfl rfl (by rw [pinLineR, hov, h0]; rfl))
    have h0 : decide (zs.getD at_.toNat 0 = 0) = false := h0
    repeat (first | (first | refine sat_self ?_ | refine sat_need (by first | rfl | exact tt1 _ _ | exact tt5 _ _ | exact tt2 _ _ _ | exact tt4 _ _ _ | exact tt6 _ _ _ | exact tt7 _ _ | exact tt8 _ _ _ | exact tt9 _ _ _ | exact tt10 _ _ | exact tt11 _ _ _ | exact Bool.or_not_self _ | (simp; done) | (simp; omega)) ?_) | refine sat_need (by simp; omega) ?_)
    generalize hbl : decide (zs.getD (addN 0 at_.toNat) 0 < 0) = bl
    have hbl : decide (zs.getD at_.toNat 0 < 0) = bl := hbl
    refine sat_br (fun h => ?_) (fun h => ?_)
    · have h : decide ((kingR f r zs bl).2 = 0) = false := by simpa using h
      have h9 : decide ((kingR f r (tk zs) bl).2 = 0) = false := by rw [tk_eq]; exact h
      repeat (first | refine sat_self ?_ | refine sat_need (by first | rfl | exact tt1 _ _ | exact tt5 _ _ | exact tt2 _ _ _ | exact tt4 _ _ _ | exact tt6 _ _ _ | exact tt7 _ _ | exact tt8 _ _ _ | exact tt9 _ _ _ | exact tt10 _ _ | exact tt11 _ _ _ | exact Bool.or_not_self _ | (simp; done) | (simp; omega)) ?_)
      refine sat_bf (by exact (congrArg (· && _) h9).trans (Bool.false_and _)) ?_
      exact sat_ret (fin_val (.inr rfl) rfl rfl rfl (by
        show V.tup [U 0, I (kingR f r (tk zs) bl).2] = _
        rw [tk_eq, pinLineR, hov, h0, hbl, h]; rfl))
    have h : decide ((kingR f r zs bl).2 = 0) = true := by simpa using h
    obtain ⟨ko, kn, k3, k4, k5⟩ := king_bd (of_decide_eq_true h)
    have hk : (kingR f r (tk zs) bl).1 = (kingR f r zs bl).1 := by rw [tk_eq]
    have hoc : occR f r (tk zs) = occR f r zs := by rw [tk_eq]
    repeat (first | refine sat_self ?_ | refine sat_need (by first | rfl | exact tt1 _ _ | exact tt5 _ _ | exact tt2 _ _ _ | exact tt4 _ _ _ | exact tt6 _ _ _ | exact tt7 _ _ | exact tt8 _ _ _ | exact tt9 _ _ _ | exact tt10 _ _ | exact tt11 _ _ _ | exact Bool.or_not_self _ | (simp; done) | (simp; omega)) ?_)
    refine sat_idx hE 4 (fun i (s : Int) => ([(1, Bb bl), (2, .fn 86 [.ptr 2 0 0, .ptr 3 0 0]), (3, .ptr 4 0 0), (7, I (kingR f r (tk zs) bl).1), (9, U (occR f r (tk zs))), (30, .sl 0 0 zs.length none), (31, I zs.length), (32, I i)], [.ints false .i8 zs, .cells true [I f, I r, .sl 0 0 zs.length none], .cells true [I at_], .cells true [U s], .cells true [I f, I r, .sl 0 0 zs.length none]])) zs.length (fun j s => s = foldN (pinOut (cbL at_) f r zs bl (kingR f r zs bl).1 (occR f r zs)) 0 j) 0 (by omega) (Ent.ren [0, 1, 2, 3, 4] [1, 2, 3, 7, 9, 30, 31, 32] rfl rfl rfl) rfl ?_
    intro j i s hij hj hz
    refine sat_br (fun hlt => ?_) (fun hlt => ?_)
    · have hlt' : j < zs.length := by simp at hlt; omega
      have hs : pinOut (cbL at_) f r zs bl (kingR f r zs bl).1 (occR f r zs) s i = foldN (pinOut (cbL at_) f r zs bl (kingR f r zs bl).1 (occR f r zs)) 0 (j + 1) := by rw [hz, hij]; rfl
      refine sat_need (by simp; omega) ?_
      repeat (first | refine sat_self ?_ | refine sat_need (by first | rfl | exact tt1 _ _ | exact tt5 _ _ | exact tt2 _ _ _ | exact tt4 _ _ _ | exact tt6 _ _ _ | exact tt7 _ _ | exact tt8 _ _ _ | exact tt9 _ _ _ | exact tt10 _ _ | exact tt11 _ _ _ | exact Bool.or_not_self _ | (simp; done) | (simp; omega)) ?_)
      refine sat_br (fun hA => ?_) (fun hA => ?_)
      · have hA : skipA zs bl i = true := hA
        rw [pinOut, hA, Bool.true_or, cond_true] at hs
        exact sat_ret ⟨hlt', _, hs, Ent.ren [0, 1, 2, 3, 4] [1, 2, 3, 7, 9, 30, 31, 32] rfl rfl rfl⟩
      have hA : skipA zs bl i = false := hA
      have hkn : 0 ≤ (kingR f r (tk zs) bl).1 := by rw [hk, k3]; exact k4
      repeat (first | (first | refine sat_self ?_ | refine sat_need (by first | rfl | exact tt1 _ _ | exact tt5 _ _ | exact tt2 _ _ _ | exact tt4 _ _ _ | exact tt6 _ _ _ | exact tt7 _ _ | exact tt8 _ _ _ | exact tt9 _ _ _ | exact tt10 _ _ | exact tt11 _ _ _ | exact Bool.or_not_self _ | (simp; done) | (simp; omega)) ?_) | refine sat_need (by simp only [decide_eq_true hkn, Bool.or_true]) ?_)
      refine sat_br (fun hB => ?_) (fun hB => ?_)
      · have hB : skipB f r zs (kingR f r (tk zs) bl).1 i = true := hB
        rw [hk] at hB
        rw [pinOut, hB, Bool.or_true, cond_true] at hs
        exact sat_ret ⟨hlt', _, hs, Ent.ren [0, 1, 2, 3, 4] [1, 2, 3, 7, 9, 30, 31, 32] rfl rfl rfl⟩
      have hB : skipB f r zs (kingR f r (tk zs) bl).1 i = false := hB
      rw [hk] at hB
      rw [pinOut, hA, hB, Bool.false_or, cond_false] at hs
      refine sat_idx hE 4 (fun j (s : Int) => ([(1, Bb bl), (2, .fn 86 [.ptr 2 0 0, .ptr 3 0 0]), (3, .ptr 4 0 0), (7, I (kingR f r (tk zs) bl).1), (9, U (occR f r (tk zs))), (30, .sl 0 0 zs.length none), (31, I zs.length), (32, I i), (10, I i), (12, U (betwR f r i (kingR f r (tk zs) bl).1).1), (85, .sl 0 0 zs.length none), (86, I zs.length), (87, I j)], [.ints false .i8 zs, .cells true [I f, I r, .sl 0 0 zs.length none], .cells true [I at_], .cells true [U s], .cells true [I f, I r, .sl 0 0 zs.length none]])) zs.length (fun j' s' => s' = foldN (pinIn (cbL at_) f r zs bl (kingR f r zs bl).1 (occR f r zs) i) s j') s (by omega) (Ent.ren [0, 1, 2, 3, 4] [1, 2, 3, 7, 9, 30, 31, 32, 10, 12, 85, 86, 87] rfl rfl rfl) rfl ?_
      intro j2 i2 s2 hij2 hj2 hz2
      refine sat_br (fun hlt2 => ?_) (fun hlt2 => ?_)
      · have hlt2' : j2 < zs.length := by simp at hlt2; omega
        have hs2 : pinIn (cbL at_) f r zs bl (kingR f r zs bl).1 (occR f r zs) i s2 i2 = foldN (pinIn (cbL at_) f r zs bl (kingR f r zs bl).1 (occR f r zs) i) s (j2 + 1) := by rw [hz2, hij2]; rfl
        refine sat_need (by simp; omega) ?_
        repeat (first | (first | refine sat_self ?_ | refine sat_need (by first | rfl | exact tt1 _ _ | exact tt5 _ _ | exact tt2 _ _ _ | exact tt4 _ _ _ | exact tt6 _ _ _ | exact tt7 _ _ | exact tt8 _ _ _ | exact tt9 _ _ _ | exact tt10 _ _ | exact tt11 _ _ _ | exact Bool.or_not_self _ | (simp; done) | (simp; omega)) ?_) | refine sat_need (by simp; omega) ?_)
        refine sat_br (fun hC => ?_) (fun hC => ?_)
        · have hC : pinC f r zs bl (kingR f r (tk zs) bl).1 (occR f r (tk zs)) i i2 = true := hC
          rw [hk, hoc] at hC
          rw [pinIn, hC, cond_true] at hs2
          repeat (first | (first | refine sat_self ?_ | refine sat_need (by first | rfl | exact tt1 _ _ | exact tt5 _ _ | exact tt2 _ _ _ | exact tt4 _ _ _ | exact tt6 _ _ _ | exact tt7 _ _ | exact tt8 _ _ _ | exact tt9 _ _ _ | exact tt10 _ _ | exact tt11 _ _ _ | exact Bool.or_not_self _ | (simp; done) | (simp; omega)) ?_) | refine sat_need (by simp; omega) ?_)
          refine sat_br (fun hD => ?_) (fun hD => ?_)
          · have hD : decide (i2 = at_) = true := hD
            rw [cbL, hD, cond_true] at hs2
            exact sat_ret ⟨hlt2', pinLn f r (kingR f r (tk zs) bl).1 i i2, by rw [hk]; exact hs2, Ent.ren [0, 1, 2, 3, 4] [1, 2, 3, 7, 9, 30, 31, 32, 10, 12, 85, 86, 87] rfl rfl rfl⟩
          · have hD : decide (i2 = at_) = false := hD
            rw [cbL, hD, cond_false] at hs2
            exact sat_ret ⟨hlt2', _, hs2, Ent.ren [0, 1, 2, 3, 4] [1, 2, 3, 7, 9, 30, 31, 32, 10, 12, 85, 86, 87] rfl rfl rfl⟩
        · have hC : pinC f r zs bl (kingR f r (tk zs) bl).1 (occR f r (tk zs)) i i2 = false := hC
          rw [hk, hoc] at hC
          rw [pinIn, hC, cond_false] at hs2
          exact sat_ret ⟨hlt2', _, hs2, Ent.ren [0, 1, 2, 3, 4] [1, 2, 3, 7, 9, 30, 31, 32, 10, 12, 85, 86, 87] rfl rfl rfl⟩
      · obtain rfl : j2 = zs.length := by simp at hlt2; omega
        rw [← hz2] at hs
        exact sat_ret (sat_ret ⟨hlt', _, hs, Ent.ren [0, 1, 2, 3, 4] [1, 2, 3, 7, 9, 30, 31, 32] rfl rfl rfl⟩)
    · obtain rfl : j = zs.length := by simp at hlt; omega
      have hz : s = pinsF (cbL at_) f r zs bl := hz
      refine sat_ret ?_
      repeat (first | refine sat_self ?_ | refine sat_need (by first | rfl | exact tt1 _ _ | exact tt5 _ _ | exact tt2 _ _ _ | exact tt4 _ _ _ | exact tt6 _ _ _ | exact tt7 _ _ | exact tt8 _ _ _ | exact tt9 _ _ _ | exact tt10 _ _ | exact tt11 _ _ _ | exact Bool.or_not_self _ | (simp; done) | (simp; omega)) ?_)
      refine sat_br (fun hN => ?_) (fun hN => ?_)
      · have hN : decide (s = 0) = true := hN
        exact sat_ret (fin_val (.inr rfl) rfl rfl rfl (by rw [pinLineR, hov, h0, hbl, h, ← hz, hN]; rfl))
      · have hN : decide (s = 0) = false := hN
        exact sat_ret (fin_val (.inr rfl) rfl rfl rfl (by rw [pinLineR, hov, h0, hbl, h, ← hz, hN]; rfl))
  · cases e

end Go.Ab

namespace Go.Ab
open Go.Proofs
/-! ### attack, the reference -/
theorem filt_take {C : Int → Bool} {l : List Int} {j : Nat} (h : j < l.length) : (bif C (l.getD j 0) then (l.take j).filter C ++ [l.getD j 0] else (l.take j).filter C) = (l.take (j + 1)).filter C := by
  have e : l.getD j 0 = l[j] := by simp [List.getD, h]
  rw [e, List.take_succ_eq_append_getElem h, List.filter_append]
  cases hc : C l[j] <;> simp [hc]
def kind8 (p : Int) : Int := bif decide (p < 0) then w8 (0 - p) else p
def sdI (bl : Bool) : Int := bif bl then -1 else 1
def sideC (zs : List Int) (s i : Int) : Bool := decide (sgn (zs.getD i.toNat 0) = s)
def sideL (zs : List Int) (s : Int) : List Int := filtB (sideC zs s) id zs.length
def occL (zs : List Int) : Int := ofL (sideL zs 1 ++ sideL zs (-1)) 0
def listC (zs : List Int) (p i : Int) : Bool := decide (zs.getD i.toNat 0 = p)
def listL (zs : List Int) (p : Int) : List Int := filtB (listC zs p) id zs.length
def attB4 (f r : Int) (zs : List Int) (i to occ : Int) : Bool := bif decide (kind8 (zs.getD i.toNat 0) = 1) then hasL to (filtB (pawnC f (decide (zs.getD i.toNat 0 < 0)) i) id (f * r).toNat) else !decide (i = to) && reachesB f r (kind8 (zs.getD i.toNat 0)) i to occ
def attC4 (f r : Int) (zs : List Int) (to occ i : Int) : Bool := attB4 f r zs i to occ
def attL (f r : Int) (zs : List Int) (to : Int) (bl : Bool) : List Int := (sideL zs (sdI bl)).filter (attC4 f r zs to (occL zs))
def atdC (f r : Int) (zs : List Int) (bl : Bool) (to : Int) : Bool := decide (0 < ((attL f r zs to bl).length : Int))
def refKing (zs : List Int) (bl : Bool) : Int := bif decide (((listL zs (w8 (IntKind.i64.wrap (6 * sdI bl)))).length : Int) = 1) then (listL zs (w8 (IntKind.i64.wrap (6 * sdI bl)))).getD 0 0 else -1
theorem sideL_len (zs : List Int) (s : Int) : (sideL zs s).length ≤ zs.length := filtB_len _ _ _
theorem mem_sideL {zs : List Int} {s x : Int} : x ∈ sideL zs s ↔ 0 ≤ x ∧ x < zs.length ∧ sgn (zs.getD x.toNat 0) = s := by
  unfold sideL
  rw [mem_filtB]
  simp [sideC]
theorem valid_eq {f r : Int} {zs : List Int} : (vsB f r && decide ((zs.length : Int) = IntKind.i64.wrap (f * r)) && zs.all okP) = validBd f r zs := by
  unfold validBd cntR
  cases vsB f r
  · simp
  · simp [badP, List.any_eq_not_all_not]
theorem orth_eq {f r : Int} {zs : List Int} : (validBd f r zs && zs.all (fun p => !norP p)) = orthBd f r zs := by
  unfold orthBd
  simp [List.any_eq_not_all_not]
def c_rpval : CF
  | [.int .i8 p], [] => some (true, .bool (okP p), [])
  | _, _ => none
theorem c_rpval_ok : CtOk GG PP (100, c_rpval) := by
  refine ct_mk Tryd.func100 (by kernel_rfl) rfl fun a0 h0 c0 v0 N0 e hc => ?_
  unfold c_rpval at e
  split at e
  · rename_i p
    cases e
    have hE := EE_ok (cts := []) (inl := []) trivial trivial
    refine fn_sound hE 2 Tryd.func100 rfl rfl ?_
    repeat' first | (first | refine sat_self ?_ | refine sat_need (by first | rfl | exact tt1 _ _ | exact tt5 _ _ | exact tt2 _ _ _ | exact tt4 _ _ _ | exact tt6 _ _ _ | exact tt7 _ _ | exact tt8 _ _ _ | exact tt9 _ _ _ | exact tt10 _ _ | exact tt11 _ _ _ | exact Bool.or_not_self _ | (simp; done) | (simp; omega)) ?_) | refine sat_br (fun h => ?_) (fun h => ?_)
    all_goals exact sat_ret (fin_val (.inr rfl) rfl rfl rfl (by first | rfl | (simp only [*, cond_true, cond_false]; done) | (simp only [*, cond_true, cond_false, Bool.not_true, Bool.not_false, Bool.and_true, Bool.true_and, Bool.and_false, Bool.false_and, Bool.or_true, Bool.true_or, Bool.or_false, Bool.false_or]; done) | simp_all []))
  · cases e

def c_rporth : CF
  | [.int .i8 p], [] => some (true, .bool (orP p), [])
  | _, _ => none
theorem c_rporth_ok : CtOk GG PP (73, c_rporth) := by
  refine ct_mk Tryd.func73 (by kernel_rfl) rfl fun a0 h0 c0 v0 N0 e hc => ?_
  unfold c_rporth at e
  split at e
  · rename_i p
    cases e
    have hE := EE_ok (cts := []) (inl := []) trivial trivial
    refine fn_sound hE 2 Tryd.func73 rfl rfl ?_
    repeat' first | (first | refine sat_self ?_ | refine sat_need (by first | rfl | exact tt1 _ _ | exact tt5 _ _ | exact tt2 _ _ _ | exact tt4 _ _ _ | exact tt6 _ _ _ | exact tt7 _ _ | exact tt8 _ _ _ | exact tt9 _ _ _ | exact tt10 _ _ | exact tt11 _ _ _ | exact Bool.or_not_self _ | (simp; done) | (simp; omega)) ?_) | refine sat_br (fun h => ?_) (fun h => ?_)
    all_goals exact sat_ret (fin_val (.inr rfl) rfl rfl rfl (by first | rfl | (simp only [*, cond_true, cond_false]; done) | (simp only [*, cond_true, cond_false, Bool.not_true, Bool.not_false, Bool.and_true, Bool.true_and, Bool.and_false, Bool.false_and, Bool.or_true, Bool.true_or, Bool.or_false, Bool.false_or]; done) | simp_all []))
  · cases e

def c_rpside : CF
  | [.int .i8 p], [] => some (true, .int .i64 (sgn p), [])
  | _, _ => none
theorem c_rpside_ok : CtOk GG PP (101, c_rpside) := by
  refine ct_mk Tryd.func101 (by kernel_rfl) rfl fun a0 h0 c0 v0 N0 e hc => ?_
  unfold c_rpside at e
  split at e
  · rename_i p
    cases e
    have hE := EE_ok (cts := []) (inl := []) trivial trivial
    refine fn_sound hE 2 Tryd.func101 rfl rfl ?_
    repeat' first | (first | refine sat_self ?_ | refine sat_need (by first | rfl | exact tt1 _ _ | exact tt5 _ _ | exact tt2 _ _ _ | exact tt4 _ _ _ | exact tt6 _ _ _ | exact tt7 _ _ | exact tt8 _ _ _ | exact tt9 _ _ _ | exact tt10 _ _ | exact tt11 _ _ _ | exact Bool.or_not_self _ | (simp; done) | (simp; omega)) ?_) | refine sat_br (fun h => ?_) (fun h => ?_)
    all_goals exact sat_ret (fin_val (.inr rfl) rfl rfl rfl (by first | rfl | (simp only [sgn, *, cond_true, cond_false]; done) | (simp only [sgn, *, cond_true, cond_false, Bool.not_true, Bool.not_false, Bool.and_true, Bool.true_and, Bool.and_false, Bool.false_and, Bool.or_true, Bool.true_or, Bool.or_false, Bool.false_or]; done) | simp_all [sgn]))
  · cases e

def c_rpkind : CF
  | [.int .i8 p], [] => some (true, .int .i8 (kind8 p), [])
  | _, _ => none
theorem c_rpkind_ok : CtOk GG PP (102, c_rpkind) := by
  refine ct_mk Tryd.func102 (by kernel_rfl) rfl fun a0 h0 c0 v0 N0 e hc => ?_
  unfold c_rpkind at e
  split at e
  · rename_i p
    cases e
    have hE := EE_ok (cts := []) (inl := []) trivial trivial
    refine fn_sound hE 2 Tryd.func102 rfl rfl ?_
    repeat' first | (first | refine sat_self ?_ | refine sat_need (by first | rfl | exact tt1 _ _ | exact tt5 _ _ | exact tt2 _ _ _ | exact tt4 _ _ _ | exact tt6 _ _ _ | exact tt7 _ _ | exact tt8 _ _ _ | exact tt9 _ _ _ | exact tt10 _ _ | exact tt11 _ _ _ | exact Bool.or_not_self _ | (simp; done) | (simp; omega)) ?_) | refine sat_br (fun h => ?_) (fun h => ?_)
    all_goals exact sat_ret (fin_val (.inr rfl) rfl rfl rfl (by first | rfl | (simp only [kind8, *, cond_true, cond_false]; done) | (simp only [kind8, *, cond_true, cond_false, Bool.not_true, Bool.not_false, Bool.and_true, Bool.true_and, Bool.and_false, Bool.false_and, Bool.or_true, Bool.true_or, Bool.or_false, Bool.false_or]; done) | simp_all [kind8]))
  · cases e

def c_rside : CF
  | [.bool bl], [] => some (true, .int .i64 (sdI bl), [])
  | _, _ => none
theorem c_rside_ok : CtOk GG PP (75, c_rside) := by
  refine ct_mk Tryd.func75 (by kernel_rfl) rfl fun a0 h0 c0 v0 N0 e hc => ?_
  unfold c_rside at e
  split at e
  · rename_i bl
    cases e
    have hE := EE_ok (cts := []) (inl := []) trivial trivial
    refine fn_sound hE 2 Tryd.func75 rfl rfl ?_
    repeat' first | (first | refine sat_self ?_ | refine sat_need (by first | rfl | exact tt1 _ _ | exact tt5 _ _ | exact tt2 _ _ _ | exact tt4 _ _ _ | exact tt6 _ _ _ | exact tt7 _ _ | exact tt8 _ _ _ | exact tt9 _ _ _ | exact tt10 _ _ | exact tt11 _ _ _ | exact Bool.or_not_self _ | (simp; done) | (simp; omega)) ?_) | refine sat_br (fun h => ?_) (fun h => ?_)
    all_goals exact sat_ret (fin_val (.inr rfl) rfl rfl rfl (by first | rfl | (simp only [sdI, *, cond_true, cond_false]; done) | (simp only [sdI, *, cond_true, cond_false, Bool.not_true, Bool.not_false, Bool.and_true, Bool.true_and, Bool.and_false, Bool.false_and, Bool.or_true, Bool.true_or, Bool.or_false, Bool.false_or]; done) | simp_all [sdI]))
  · cases e

def c_has5 : CF
  | [.sl 0 0 len none, .int .i64 n], [.ints false .i64 zs] => some (decide (len = zs.length) && decide (zs.length ≤ 1000000), .bool (hasL n zs), [])
  | _, _ => none
theorem c_has5_ok : CtOk GG PP (87, c_has5) := by
  refine ct_mk Tryd.func87 (by kernel_rfl) rfl fun a0 h0 c0 v0 N0 e hc => ?_
  unfold c_has5 at e
  split at e
  · rename_i len n zs
    cases e
    have hE := EE_ok (cts := []) (inl := []) trivial trivial
    refine fn_sound hE 2 Tryd.func87 rfl rfl ?_
    simp only [Bool.and_eq_true, decide_eq_true_eq] at hc
    obtain ⟨rfl, hc2⟩ := hc
    refine sat_idx hE 2 (fun i (_ : Unit) => ([(0, .sl 0 0 zs.length none), (1, I n), (5, I i)], [.ints false .i64 zs])) zs.length (fun j _ => hasL n (zs.drop j) = hasL n zs) () (by omega) (Ent.ren [0] [0, 1, 5] rfl rfl rfl) rfl ?_
    intro j i _ hij hj hz
    refine sat_br (fun hlt => ?_) (fun hlt => ?_)
    · have hlt' : j < zs.length := by simp at hlt; omega
      rw [hasL_at hlt', show j = i.toNat by omega] at hz
      refine sat_need (by simp; omega) ?_
      repeat (first | refine sat_self ?_ | refine sat_need (by first | rfl | exact tt1 _ _ | exact tt5 _ _ | exact tt2 _ _ _ | exact tt4 _ _ _ | exact tt6 _ _ _ | exact tt7 _ _ | exact tt8 _ _ _ | exact tt9 _ _ _ | exact tt10 _ _ | exact tt11 _ _ _ | exact Bool.or_not_self _ | (simp; done) | (simp; omega)) ?_)
      refine sat_br (fun hon => ?_) (fun hon => ?_)
      · have hon : decide (zs.getD i.toNat 0 = n) = true := hon
        rw [hon] at hz
        exact sat_ret (sat_ret (fin_val (.inr rfl) rfl rfl rfl (by rw [← hz]; rfl)))
      · have hon : decide (zs.getD i.toNat 0 = n) = false := hon
        rw [hon] at hz
        exact sat_ret ⟨hlt', (), by rw [← hz, show i.toNat = j by omega]; rfl, Ent.ren [0] [0, 1, 5] rfl rfl rfl⟩
    · obtain rfl : j = zs.length := by simp at hlt; omega
      rw [List.drop_length] at hz
      exact sat_ret (sat_ret (fin_val (.inr rfl) rfl rfl rfl (by rw [← hz]; rfl)))
  · cases e

def nnP (p : Int) : Bool := !norP p
def c_rbvalid : CF
  | [.agg [.int .i64 f, .int .i64 r, .sl 0 0 len none]], [.ints false .i8 zs] => some (decide (len = zs.length) && decide (zs.length ≤ 64), .bool (validBd f r zs), [])
  | _, _ => none
theorem c_rbvalid_ok : CtOk GG PP (72, c_rbvalid) := by
  refine ct_mk Tryd.func72 (by kernel_rfl) rfl fun a0 h0 c0 v0 N0 e hc => ?_
  unfold c_rbvalid at e
  split at e
  · rename_i f r len zs
    cases e
    have hE := EE_ok (cts := [(56, c_Size), (100, c_rpval)]) (inl := []) ⟨c_Size_ok, c_rpval_ok, trivial⟩ trivial
    refine fn_sound hE 2 Tryd.func72 rfl rfl ?_
    simp only [Bool.and_eq_true, decide_eq_true_eq] at hc
    obtain ⟨rfl, hc2⟩ := hc
    repeat (first | refine sat_self ?_ | refine sat_need (by first | rfl | exact tt1 _ _ | exact tt5 _ _ | exact tt2 _ _ _ | exact tt4 _ _ _ | exact tt6 _ _ _ | exact tt7 _ _ | exact tt8 _ _ _ | exact tt9 _ _ _ | exact tt10 _ _ | exact tt11 _ _ _ | exact Bool.or_not_self _ | (simp; done) | (simp; omega)) ?_)
    refine sat_br (fun h => ?_) (fun h => ?_)
    · have h : (vsB f r && decide ((zs.length : Int) = IntKind.i64.wrap (f * r))) = false := by
        have h : (!vsB f r || !decide ((zs.length : Int) = IntKind.i64.wrap (f * r))) = true := h
        cases h1 : vsB f r <;> cases h2 : decide ((zs.length : Int) = IntKind.i64.wrap (f * r)) <;> simp_all
      exact sat_ret (fin_val (.inr rfl) rfl rfl rfl (by rw [← valid_eq, h]; rfl))
    have h : (vsB f r && decide ((zs.length : Int) = IntKind.i64.wrap (f * r))) = true := by
      have h : (!vsB f r || !decide ((zs.length : Int) = IntKind.i64.wrap (f * r))) = false := h
      cases h1 : vsB f r <;> cases h2 : decide ((zs.length : Int) = IntKind.i64.wrap (f * r)) <;> simp_all
    refine sat_idx hE 2 (fun i (_ : Unit) => ([(1, .ptr 1 0 0), (3, I i)], [.ints false .i8 zs, .cells true [I f, I r, .sl 0 0 zs.length none]])) zs.length (fun j _ => (zs.drop j).all okP = zs.all okP) () (by omega) (Ent.ren [0, 1] [1, 3] rfl rfl rfl) rfl ?_
    intro j i _ hij hj hz
    refine sat_br (fun hlt => ?_) (fun hlt => ?_)
    · have hlt' : j < zs.length := by simp at hlt; omega
      rw [drop_all hlt', show j = i.toNat by omega] at hz
      refine sat_need (by simp; omega) ?_
      repeat (first | (first | refine sat_self ?_ | refine sat_need (by first | rfl | exact tt1 _ _ | exact tt5 _ _ | exact tt2 _ _ _ | exact tt4 _ _ _ | exact tt6 _ _ _ | exact tt7 _ _ | exact tt8 _ _ _ | exact tt9 _ _ _ | exact tt10 _ _ | exact tt11 _ _ _ | exact Bool.or_not_self _ | (simp; done) | (simp; omega)) ?_) | refine sat_need (by simp; omega) ?_)
      refine sat_br (fun hon => ?_) (fun hon => ?_)
      · have hon : (!okP (zs.getD i.toNat 0)) = true := hon
        have hon : okP (zs.getD i.toNat 0) = false := by simpa using hon
        rw [hon] at hz
        exact sat_ret (sat_ret (fin_val (.inr rfl) rfl rfl rfl (by rw [← valid_eq, h, ← hz]; rfl)))
      · have hon : (!okP (zs.getD i.toNat 0)) = false := hon
        have hon : okP (zs.getD i.toNat 0) = true := by simpa using hon
        rw [hon] at hz
        exact sat_ret ⟨hlt', (), by rw [← hz, show i.toNat = j by omega]; rfl, Ent.ren [0, 1] [1, 3] rfl rfl rfl⟩
    · obtain rfl : j = zs.length := by simp at hlt; omega
      rw [List.drop_length] at hz
      have hz : zs.all okP = true := hz.symm
      exact sat_ret (sat_ret (fin_val (.inr rfl) rfl rfl rfl (by rw [← valid_eq, h, hz]; rfl)))
  · cases e

def c_rorth : CF
  | [.agg [.int .i64 f, .int .i64 r, .sl 0 0 len none]], [.ints false .i8 zs] => some (decide (len = zs.length) && decide (zs.length ≤ 64), .bool (orthBd f r zs), [])
  | _, _ => none
theorem c_rorth_ok : CtOk GG PP (32, c_rorth) := by
  refine ct_mk Tryd.func32 (by kernel_rfl) rfl fun a0 h0 c0 v0 N0 e hc => ?_
  unfold c_rorth at e
  split at e
  · rename_i f r len zs
    cases e
    have hE := EE_ok (cts := [(72, c_rbvalid), (73, c_rporth)]) (inl := []) ⟨c_rbvalid_ok, c_rporth_ok, trivial⟩ trivial
    refine fn_sound hE 2 Tryd.func32 rfl rfl ?_
    simp only [Bool.and_eq_true, decide_eq_true_eq] at hc
    obtain ⟨rfl, hc2⟩ := hc
    repeat (first | refine sat_self ?_ | refine sat_need (by first | rfl | exact tt1 _ _ | exact tt5 _ _ | exact tt2 _ _ _ | exact tt4 _ _ _ | exact tt6 _ _ _ | exact tt7 _ _ | exact tt8 _ _ _ | exact tt9 _ _ _ | exact tt10 _ _ | exact tt11 _ _ _ | exact Bool.or_not_self _ | (simp; done) | (simp; omega)) ?_)
    refine sat_br (fun h => ?_) (fun h => ?_)
    · have h : validBd f r zs = false := by simpa using h
      exact sat_ret (fin_val (.inr rfl) rfl rfl rfl (by rw [← orth_eq, h]; rfl))
    have h : validBd f r zs = true := by simpa using h
    refine sat_idx hE 2 (fun i (_ : Unit) => ([(1, .ptr 1 0 0), (3, I i)], [.ints false .i8 zs, .cells true [I f, I r, .sl 0 0 zs.length none]])) zs.length (fun j _ => (zs.drop j).all nnP = zs.all nnP) () (by omega) (Ent.ren [0, 1] [1, 3] rfl rfl rfl) rfl ?_
    intro j i _ hij hj hz
    refine sat_br (fun hlt => ?_) (fun hlt => ?_)
    · have hlt' : j < zs.length := by simp at hlt; omega
      rw [drop_all hlt', show j = i.toNat by omega] at hz
      refine sat_need (by simp; omega) ?_
      repeat (first | (first | refine sat_self ?_ | refine sat_need (by first | rfl | exact tt1 _ _ | exact tt5 _ _ | exact tt2 _ _ _ | exact tt4 _ _ _ | exact tt6 _ _ _ | exact tt7 _ _ | exact tt8 _ _ _ | exact tt9 _ _ _ | exact tt10 _ _ | exact tt11 _ _ _ | exact Bool.or_not_self _ | (simp; done) | (simp; omega)) ?_) | refine sat_need (by simp; omega) ?_)
      refine sat_br (fun hon => ?_) (fun hon => ?_)
      · have hon : (!nnP (zs.getD i.toNat 0)) = true := (Bool.not_not _).trans hon
        have hon : nnP (zs.getD i.toNat 0) = false := by simpa using hon
        rw [hon] at hz
        exact sat_ret (sat_ret (fin_val (.inr rfl) rfl rfl rfl (by rw [← orth_eq, h, show zs.all (fun p => !norP p) = zs.all nnP from rfl, ← hz]; rfl)))
      · have hon : (!nnP (zs.getD i.toNat 0)) = false := (Bool.not_not _).trans hon
        have hon : nnP (zs.getD i.toNat 0) = true := by simpa using hon
        rw [hon] at hz
        exact sat_ret ⟨hlt', (), by rw [← hz, show i.toNat = j by omega]; rfl, Ent.ren [0, 1] [1, 3] rfl rfl rfl⟩
    · obtain rfl : j = zs.length := by simp at hlt; omega
      rw [List.drop_length] at hz
      have hz : zs.all nnP = true := hz.symm
      exact sat_ret (sat_ret (fin_val (.inr rfl) rfl rfl rfl (by rw [← orth_eq, h, show zs.all (fun p => !norP p) = zs.all nnP from rfl, hz]; rfl)))
  · cases e

def c_Side : CF
  | [.agg [.int .i64 _f, .int .i64 _r, .sl 0 0 len none], .int .i64 s], [.ints false .i8 zs] => some (decide (len = zs.length) && decide (zs.length ≤ 64), .sl 1 0 (sideL zs s).length none, [.ints true .i64 (sideL zs s)])
  | _, _ => none
theorem c_Side_ok : CtOk GG PP (74, c_Side) := by
  refine ct_mk Tryd.func74 (by kernel_rfl) rfl fun a0 h0 c0 v0 N0 e hc => ?_
  unfold c_Side at e
  split at e
  · rename_i f r len s zs
    cases e
    have hE := EE_ok (cts := [(101, c_rpside)]) (inl := []) ⟨c_rpside_ok, trivial⟩ trivial
    refine fn_sound hE 2 Tryd.func74 rfl rfl ?_
    simp only [Bool.and_eq_true, decide_eq_true_eq] at hc
    obtain ⟨rfl, hc2⟩ := hc
    refine sat_idx hE 2 (fun (i : Int) (ys : List Int) => ([(1, I s), (2, .ptr 1 0 0), (5, .sl 2 0 ys.length none), (6, I i)], [.ints false .i8 zs, .cells true [I f, I r, .sl 0 0 zs.length none], .ints true .i64 ys])) (zs.length) (fun j ys => ys = filtB (sideC zs s) id j) [] (by omega) ((Ent.phanT (t := 5) (o := .ints true .i64 []) rfl ⟨by simp, by simp, trivial, rfl⟩ (blt_lt rfl)).trans (Ent.ren [0, 1, 2] [1, 2, 5, 6] rfl rfl rfl)) rfl ?_
    intro j i ys hij hj hz
    have hb := filtB_len (sideC zs s) id j
    rw [← hz] at hb
    refine sat_br (fun hlt => ?_) (fun hlt => ?_)
    · have hlt' : j < zs.length := by simp only [decide_eq_true_eq] at hlt; omega
      have hs := filtB_succ (sideC zs s) id j
      rw [← hz, ← hij] at hs
      repeat (first | (first | refine sat_self ?_ | refine sat_need (by first | rfl | exact tt1 _ _ | exact tt5 _ _ | exact tt2 _ _ _ | exact tt4 _ _ _ | exact tt6 _ _ _ | exact tt7 _ _ | exact tt8 _ _ _ | exact tt9 _ _ _ | exact tt10 _ _ | exact tt11 _ _ _ | exact Bool.or_not_self _ | (simp; done) | (simp; omega)) ?_) | refine sat_need (by simp; omega) ?_)
      refine sat_br (fun hon => ?_) (fun hon => ?_)
      · skip
        have hon : sideC zs s i = true := hon
        rw [hon, cond_true] at hs
        refine sat_need (b := decide (ys.length = ys.length) && decide ((ys.length + 1) * 8 ≤ 140737488355328) && true) (by simp; omega) ?_
        exact sat_ret ⟨hlt', ys ++ [id i], hs.symm, Ent.ren [0, 1, 4] [1, 2, 5, 6] rfl rfl rfl⟩
      · skip
        have hon : sideC zs s i = false := hon
        rw [hon, cond_false] at hs
        exact sat_ret ⟨hlt', ys, hs.symm, Ent.ren [0, 1, 2] [1, 2, 5, 6] rfl rfl rfl⟩
    · obtain rfl : j = zs.length := by simp only [decide_eq_false_iff_not] at hlt; omega
      subst hz
      refine sat_ret (sat_ret ((fin_new 2 (.inr rfl) rfl rfl rfl rfl rfl rfl)))
  · cases e

def c_BList : CF
  | [.agg [.int .i64 _f, .int .i64 _r, .sl 0 0 len none], .int .i8 p], [.ints false .i8 zs] => some (decide (len = zs.length) && decide (zs.length ≤ 64), .sl 1 0 (listL zs p).length none, [.ints true .i64 (listL zs p)])
  | _, _ => none
theorem c_BList_ok : CtOk GG PP (83, c_BList) := by
  refine ct_mk Tryd.func83 (by kernel_rfl) rfl fun a0 h0 c0 v0 N0 e hc => ?_
  unfold c_BList at e
  split at e
  · rename_i f r len p zs
    cases e
    have hE := EE_ok (cts := []) (inl := []) trivial trivial
    refine fn_sound hE 2 Tryd.func83 rfl rfl ?_
    simp only [Bool.and_eq_true, decide_eq_true_eq] at hc
    obtain ⟨rfl, hc2⟩ := hc
    refine sat_idx hE 2 (fun (i : Int) (ys : List Int) => ([(1, .int .i8 p), (2, .ptr 1 0 0), (5, .sl 2 0 ys.length none), (6, I i)], [.ints false .i8 zs, .cells true [I f, I r, .sl 0 0 zs.length none], .ints true .i64 ys])) (zs.length) (fun j ys => ys = filtB (listC zs p) id j) [] (by omega) ((Ent.phanT (t := 5) (o := .ints true .i64 []) rfl ⟨by simp, by simp, trivial, rfl⟩ (blt_lt rfl)).trans (Ent.ren [0, 1, 2] [1, 2, 5, 6] rfl rfl rfl)) rfl ?_
    intro j i ys hij hj hz
    have hb := filtB_len (listC zs p) id j
    rw [← hz] at hb
    refine sat_br (fun hlt => ?_) (fun hlt => ?_)
    · have hlt' : j < zs.length := by simp only [decide_eq_true_eq] at hlt; omega
      have hs := filtB_succ (listC zs p) id j
      rw [← hz, ← hij] at hs
      repeat (first | (first | refine sat_self ?_ | refine sat_need (by first | rfl | exact tt1 _ _ | exact tt5 _ _ | exact tt2 _ _ _ | exact tt4 _ _ _ | exact tt6 _ _ _ | exact tt7 _ _ | exact tt8 _ _ _ | exact tt9 _ _ _ | exact tt10 _ _ | exact tt11 _ _ _ | exact Bool.or_not_self _ | (simp; done) | (simp; omega)) ?_) | refine sat_need (by simp; omega) ?_)
      refine sat_br (fun hon => ?_) (fun hon => ?_)
      · skip
        have hon : listC zs p i = true := hon
        rw [hon, cond_true] at hs
        refine sat_need (b := decide (ys.length = ys.length) && decide ((ys.length + 1) * 8 ≤ 140737488355328) && true) (by simp; omega) ?_
        exact sat_ret ⟨hlt', ys ++ [id i], hs.symm, Ent.ren [0, 1, 4] [1, 2, 5, 6] rfl rfl rfl⟩
      · skip
        have hon : listC zs p i = false := hon
        rw [hon, cond_false] at hs
        exact sat_ret ⟨hlt', ys, hs.symm, Ent.ren [0, 1, 2] [1, 2, 5, 6] rfl rfl rfl⟩
    · obtain rfl : j = zs.length := by simp only [decide_eq_false_iff_not] at hlt; omega
      subst hz
      refine sat_ret (sat_ret ((fin_new 2 (.inr rfl) rfl rfl rfl rfl rfl rfl)))
  · cases e

end Go.Ab

namespace Go.Ab
open Go.Proofs
theorem tk_len (l : List Int) : (tk l).length = l.length := by rw [tk_eq]
theorem need_app (l : List Int) (h : l.length ≤ 1000000) : decide (l.length * 8 ≤ 140737488355328) = true := by simp; omega
theorem need_app2 (l m : List Int) (h : l.length ≤ 1000000) (h2 : m.length ≤ 1000000) (b : Bool) (hb : b = true) : (decide ((tk l).length = (tk l).length) && decide (((tk l).length + m.length) * 8 ≤ 140737488355328) && b) = true := by rw [tk_len, hb]; simp; omega
theorem need_occ (zs : List Int) (h : zs.length ≤ 64) {L : List Int} {n : Nat} (hL : L = sideL zs 1 ++ sideL zs (-1)) (hn : n = L.length) : (decide (n = ((L.drop 0).take n).length) && decide (((L.drop 0).take n).length ≤ 1000000) && ((L.drop 0).take n).all fun x => decide (0 ≤ x)) = true := by
  subst hn
  have e : (L.drop 0).take L.length = L := by simp
  rw [e]
  have h1 := sideL_len zs 1
  have h2 := sideL_len zs (-1)
  have h3 : L.length ≤ 1000000 := by rw [hL, List.length_append]; omega
  simp only [decide_true, Bool.true_and, Bool.and_eq_true, decide_eq_true_eq, List.all_eq_true]
  refine ⟨h3, fun x hx => ?_⟩
  rw [hL] at hx
  rcases List.mem_append.1 hx with hx | hx <;> exact (mem_sideL.1 hx).1
def c_Occ : CF
  | [.agg [.int .i64 _f, .int .i64 _r, .sl 0 0 len none]], [.ints false .i8 zs] => some (decide (len = zs.length) && decide (zs.length ≤ 64), .int .u64 (occL zs), [])
  | _, _ => none
theorem c_Occ_ok : CtOk GG PP (76, c_Occ) := by
  refine ct_mk Tryd.func76 (by kernel_rfl) rfl fun a0 h0 c0 v0 N0 e hc => ?_
  unfold c_Occ at e
  split at e
  · rename_i f r len zs
    cases e
    have hE := EE_ok (cts := [(74, c_Side), (20, c_Of)]) (inl := []) ⟨c_Side_ok, c_Of_ok, trivial⟩ trivial
    refine fn_sound hE 2 Tryd.func76 rfl rfl ?_
    simp only [Bool.and_eq_true, decide_eq_true_eq] at hc
    obtain ⟨rfl, hc2⟩ := hc
    have l1 := sideL_len zs 1
    have l2 := sideL_len zs (-1)
    repeat (first | refine sat_self ?_ | refine sat_need (by first | rfl | exact tt1 _ _ | exact tt5 _ _ | exact tt2 _ _ _ | exact tt4 _ _ _ | exact tt6 _ _ _ | exact tt7 _ _ | exact tt8 _ _ _ | exact tt9 _ _ _ | exact tt10 _ _ | exact tt11 _ _ _ | exact Bool.or_not_self _ | (simp; done) | (simp; omega)) ?_)
    refine sat_need (by
      refine need_app2 (sideL (tk zs) 1) (sideL (tk zs) (-1)) ?_ ?_ _ rfl <;> simp only [tk_eq] <;> omega) ?_
    refine sat_need (by
      refine need_occ zs hc2 (L := tk (sideL (tk zs) 1) ++ tk (sideL (tk zs) (-1))) ?_ rfl
      simp only [tk_eq]) ?_
    refine sat_ret (fin_val (.inr rfl) rfl rfl rfl ?_)
    show V.int IntKind.u64 (ofL (tk (tk (sideL (tk zs) 1) ++ tk (sideL (tk zs) (-1)))) 0) = _
    simp only [tk_eq]
    rfl
  · cases e

end Go.Ab

namespace Go.Ab
open Go.Proofs
theorem need_has {c : Int → Bool} {n m : Nat} (h : n ≤ 1000000) (hm : m = (filtB c id n).length) : (decide (m = (((filtB c id n).drop 0).take m).length) && decide ((((filtB c id n).drop 0).take m).length ≤ 1000000)) = true := by
  subst hm
  have := filtB_len c id n
  have e : ((filtB c id n).drop 0).take (filtB c id n).length = filtB c id n := by simp
  rw [e]; simp; omega
theorem side_get {zs : List Int} {s : Int} {i : Nat} (h : i < (sideL (tk zs) s).length) : 0 ≤ (sideL (tk zs) s).getD i 0 ∧ (sideL (tk zs) s).getD i 0 < zs.length := by
  rw [tk_eq] at h ⊢
  have hm : (sideL zs s).getD i 0 ∈ sideL zs s := by simp [List.getD, h]
  have := mem_sideL.1 hm
  exact ⟨this.1, this.2.1⟩
def c_attacks : CF
  | [.agg [.int .i64 f, .int .i64 r, .sl 0 0 len none], .int .i64 i, .int .i64 to, .int .u64 occ], [.ints false .i8 zs] => some (decide (len = zs.length) && decide (zs.length ≤ 64) && decide (0 ≤ i) && decide (i < zs.length) && vsB f r, .bool (attB4 f r zs i to occ), [])
  | _, _ => none
theorem c_attacks_ok : CtOk GG PP (77, c_attacks) := by
  refine ct_mk Tryd.func77 (by kernel_rfl) rfl fun a0 h0 c0 v0 N0 e hc => ?_
  unfold c_attacks at e
  split at e
  · rename_i f r len i to occ zs
    cases e
    have hE := EE_ok (cts := [(102, c_rpkind), (27, c_refPawn), (87, c_has5), (62, c_Reaches)]) (inl := []) ⟨c_rpkind_ok, c_refPawn_ok, c_has5_ok, c_Reaches_ok, trivial⟩ trivial
    refine fn_sound hE 2 Tryd.func77 rfl rfl ?_
    simp only [Bool.and_eq_true, decide_eq_true_eq] at hc
    obtain ⟨⟨⟨⟨rfl, hc2⟩, hi1⟩, hi2⟩, hv⟩ := hc
    have hf := vs_bd hv
    have hm := mul_bd hv
    have hf0 : (!decide (f = 0)) = true := by simp; omega
    repeat (first | (first | refine sat_self ?_ | refine sat_need (by first | rfl | exact tt1 _ _ | exact tt5 _ _ | exact tt2 _ _ _ | exact tt4 _ _ _ | exact tt6 _ _ _ | exact tt7 _ _ | exact tt8 _ _ _ | exact tt9 _ _ _ | exact tt10 _ _ | exact tt11 _ _ _ | exact Bool.or_not_self _ | (simp; done) | (simp; omega)) ?_) | refine sat_need (by simp; omega) ?_)
    refine sat_br (fun h => ?_) (fun h => ?_)
    · have h : decide (kind8 (zs.getD i.toNat 0) = 1) = true := h
      refine sat_need hv ?_
      repeat (first | refine sat_self ?_ | refine sat_need (by first | rfl | exact tt1 _ _ | exact tt5 _ _ | exact tt2 _ _ _ | exact tt4 _ _ _ | exact tt6 _ _ _ | exact tt7 _ _ | exact tt8 _ _ _ | exact tt9 _ _ _ | exact tt10 _ _ | exact tt11 _ _ _ | exact Bool.or_not_self _ | (simp; done) | (simp; omega)) ?_)
      refine sat_need (need_has (by omega) rfl) ?_
      refine sat_ret (fin_val (.inr rfl) rfl rfl rfl ?_)
      show V.bool (hasL to (tk (filtB (pawnC f (decide (zs.getD i.toNat 0 < 0)) i) id (f * r).toNat))) = _
      rw [tk_eq, attB4, h]; rfl
    · have h : decide (kind8 (zs.getD i.toNat 0) = 1) = false := h
      repeat (first | (first | refine sat_self ?_ | refine sat_need (by first | rfl | exact tt1 _ _ | exact tt5 _ _ | exact tt2 _ _ _ | exact tt4 _ _ _ | exact tt6 _ _ _ | exact tt7 _ _ | exact tt8 _ _ _ | exact tt9 _ _ _ | exact tt10 _ _ | exact tt11 _ _ _ | exact Bool.or_not_self _ | (simp; done) | (simp; omega)) ?_) | refine sat_need (by rw [hf0]; exact Bool.or_true _) ?_)
      exact sat_ret (fin_val (.inr rfl) rfl rfl rfl (by rw [attB4, h]; rfl))
  · cases e

def c_refAttackers : CF
  | [.agg [.int .i64 f, .int .i64 r, .sl 0 0 len none], .int .i64 to, .bool bl], [.ints false .i8 zs] => some (decide (len = zs.length) && decide (zs.length ≤ 64) && vsB f r, .sl 1 0 (attL f r zs to bl).length none, [.ints true .i64 (attL f r zs to bl)])
  | _, _ => none
theorem c_refAttackers_ok : CtOk GG PP (33, c_refAttackers) := by
  refine ct_mk Tryd.func33 (by kernel_rfl) rfl fun a0 h0 c0 v0 N0 e hc => ?_
  unfold c_refAttackers at e
  split at e
  · rename_i f r len to bl zs
    cases e
    have hE := EE_ok (cts := [(75, c_rside), (74, c_Side), (76, c_Occ), (77, c_attacks)]) (inl := []) ⟨c_rside_ok, c_Side_ok, c_Occ_ok, c_attacks_ok, trivial⟩ trivial
    refine fn_sound hE 2 Tryd.func33 rfl rfl ?_
    simp only [Bool.and_eq_true, decide_eq_true_eq] at hc
    obtain ⟨⟨rfl, hc2⟩, hv⟩ := hc
    have hsl : (sideL (tk zs) (sdI bl)).length ≤ zs.length := by rw [tk_eq]; exact sideL_len zs (sdI bl)
    repeat (first | refine sat_self ?_ | refine sat_need (by first | rfl | exact tt1 _ _ | exact tt5 _ _ | exact tt2 _ _ _ | exact tt4 _ _ _ | exact tt6 _ _ _ | exact tt7 _ _ | exact tt8 _ _ _ | exact tt9 _ _ _ | exact tt10 _ _ | exact tt11 _ _ _ | exact Bool.or_not_self _ | (simp; done) | (simp; omega)) ?_)
    refine sat_idx hE 2 (fun (i : Int) (ys : List Int) => ([(1, I to), (3, .ptr 1 0 0), (7, .sl 3 0 ys.length none), (8, .sl 2 0 (sideL (tk zs) (sdI bl)).length none), (9, U (occL (tk zs))), (10, I i)], [.ints false .i8 zs, .cells true [I f, I r, .sl 0 0 zs.length none], .ints true .i64 (sideL (tk zs) (sdI bl)), .ints true .i64 ys])) (sideL (tk zs) (sdI bl)).length (fun j ys => ys = ((sideL (tk zs) (sdI bl)).take j).filter (attC4 f r (tk zs) to (occL (tk zs)))) [] (by omega) ((Ent.phanT (t := 7) (o := .ints true .i64 []) rfl ⟨by simp, by simp, trivial, rfl⟩ (blt_lt rfl)).trans (Ent.ren [0, 1, 2, 3] [1, 3, 7, 8, 9, 10] rfl rfl rfl)) rfl ?_
    intro j i ys hij hj hz
    have hb : ys.length ≤ j := by rw [hz]; exact Nat.le_trans (List.length_filter_le _ _) (by rw [List.length_take]; omega)
    refine sat_br (fun hlt => ?_) (fun hlt => ?_)
    · have hlt' : j < (sideL (tk zs) (sdI bl)).length := by simp only [decide_eq_true_eq] at hlt; omega
      have hs := filt_take (C := attC4 f r (tk zs) to (occL (tk zs))) hlt'
      have hgl := side_get (zs := zs) (s := sdI bl) (i := i.toNat) (by omega)
      have hil : (decide (0 ≤ i) && decide (i < ((sideL (tk zs) (sdI bl)).length : Int))) = true := by simp only [Bool.and_eq_true, decide_eq_true_eq]; omega
      rw [← hz, show j = i.toNat by omega] at hs
      repeat (first | (first | refine sat_self ?_ | refine sat_need (by first | rfl | exact tt1 _ _ | exact tt5 _ _ | exact tt2 _ _ _ | exact tt4 _ _ _ | exact tt6 _ _ _ | exact tt7 _ _ | exact tt8 _ _ _ | exact tt9 _ _ _ | exact tt10 _ _ | exact tt11 _ _ _ | exact Bool.or_not_self _ | (simp; done) | (simp; omega)) ?_) | refine sat_need hil ?_)
      refine sat_need (by
        simp only [Bool.and_eq_true, decide_eq_true_eq]
        rw [tk_len]
        exact ⟨⟨⟨⟨by first | rfl | trivial, hc2⟩, hgl.1⟩, hgl.2⟩, hv⟩) ?_
      refine sat_br (fun hon => ?_) (fun hon => ?_)
      · skip
        have hon : attC4 f r (tk zs) to (occL (tk zs)) ((sideL (tk zs) (sdI bl)).getD i.toNat 0) = true := hon
        rw [hon, cond_true] at hs
        refine sat_need (by simp; omega) ?_
        refine sat_need (b := decide (ys.length = ys.length) && decide ((ys.length + 1) * 8 ≤ 140737488355328) && true) (by simp; omega) ?_
        exact sat_ret ⟨hlt', ys ++ [(sideL (tk zs) (sdI bl)).getD i.toNat 0], by rw [show j + 1 = i.toNat + 1 by omega]; exact hs, Ent.ren [0, 1, 2, 5] [1, 3, 7, 8, 9, 10] rfl rfl rfl⟩
      · skip
        have hon : attC4 f r (tk zs) to (occL (tk zs)) ((sideL (tk zs) (sdI bl)).getD i.toNat 0) = false := hon
        rw [hon, cond_false] at hs
        exact sat_ret ⟨hlt', ys, by rw [show j + 1 = i.toNat + 1 by omega]; exact hs, Ent.ren [0, 1, 2, 3] [1, 3, 7, 8, 9, 10] rfl rfl rfl⟩
    · obtain rfl : j = (sideL (tk zs) (sdI bl)).length := by simp only [decide_eq_false_iff_not] at hlt; omega
      rw [List.take_length] at hz
      subst hz
      refine sat_ret (sat_ret (fin_new 3 (.inr rfl) rfl rfl rfl rfl (by simp only [tk_eq]; rfl) (by simp only [tk_eq]; rfl)))
  · cases e

end Go.Ab

namespace Go.Ab
open Go.Proofs
def atdL (f r : Int) (zs : List Int) (bl : Bool) : List Int := filtB (atdC f r zs bl) id zs.length
theorem need_bd {zs : List Int} (h : zs.length ≤ 64) {n : Nat} (hn : n = zs.length) : (decide (n = (tk zs).length) && decide ((tk zs).length ≤ 64)) = true := by rw [tk_len, hn]; simp; omega
theorem need_bdv {zs : List Int} (h : zs.length ≤ 64) {n : Nat} (hn : n = zs.length) {b : Bool} (hb : b = true) : (decide (n = (tk zs).length) && decide ((tk zs).length ≤ 64) && b) = true := by rw [tk_len, hn, hb]; simp; omega
def c_refAttacked : CF
  | [.agg [.int .i64 f, .int .i64 r, .sl 0 0 len none], .bool bl], [.ints false .i8 zs] => some (decide (len = zs.length) && decide (zs.length ≤ 64) && vsB f r, .sl 1 0 (atdL f r zs bl).length none, [.ints true .i64 (atdL f r zs bl)])
  | _, _ => none
theorem c_refAttacked_ok : CtOk GG PP (35, c_refAttacked) := by
  refine ct_mk Tryd.func35 (by kernel_rfl) rfl fun a0 h0 c0 v0 N0 e hc => ?_
  unfold c_refAttacked at e
  split at e
  · rename_i f r len bl zs
    cases e
    have hE := EE_ok (cts := [(33, c_refAttackers)]) (inl := []) ⟨c_refAttackers_ok, trivial⟩ trivial
    refine fn_sound hE 2 Tryd.func35 rfl rfl ?_
    simp only [Bool.and_eq_true, decide_eq_true_eq] at hc
    obtain ⟨⟨rfl, hc2⟩, hv⟩ := hc
    refine sat_idx hE 2 (fun (i : Int) (ys : List Int) => ([(1, Bb bl), (2, .ptr 1 0 0), (5, .sl 2 0 ys.length none), (6, I i)], [.ints false .i8 zs, .cells true [I f, I r, .sl 0 0 zs.length none], .ints true .i64 ys])) (zs.length) (fun j ys => ys = filtB (atdC f r (tk zs) bl) id j) [] (by omega) ((Ent.phanT (t := 5) (o := .ints true .i64 []) rfl ⟨by simp, by simp, trivial, rfl⟩ (blt_lt rfl)).trans (Ent.ren [0, 1, 2] [1, 2, 5, 6] rfl rfl rfl)) rfl ?_
    intro j i ys hij hj hz
    have hb := filtB_len (atdC f r (tk zs) bl) id j
    rw [← hz] at hb
    refine sat_br (fun hlt => ?_) (fun hlt => ?_)
    · have hlt' : j < zs.length := by simp only [decide_eq_true_eq] at hlt; omega
      have hs := filtB_succ (atdC f r (tk zs) bl) id j
      rw [← hz, ← hij] at hs
      repeat (first | (first | refine sat_self ?_ | refine sat_need (by first | rfl | exact tt1 _ _ | exact tt5 _ _ | exact tt2 _ _ _ | exact tt4 _ _ _ | exact tt6 _ _ _ | exact tt7 _ _ | exact tt8 _ _ _ | exact tt9 _ _ _ | exact tt10 _ _ | exact tt11 _ _ _ | exact Bool.or_not_self _ | (simp; done) | (simp; omega)) ?_) | refine sat_need (need_bdv hc2 rfl hv) ?_)
      refine sat_br (fun hon => ?_) (fun hon => ?_)
      · skip
        have hon : atdC f r (tk zs) bl i = true := hon
        rw [hon, cond_true] at hs
        refine sat_need (b := decide (ys.length = ys.length) && decide ((ys.length + 1) * 8 ≤ 140737488355328) && true) (by simp; omega) ?_
        exact sat_ret ⟨hlt', ys ++ [id i], hs.symm, Ent.ren [0, 1, 5] [1, 2, 5, 6] rfl rfl rfl⟩
      · skip
        have hon : atdC f r (tk zs) bl i = false := hon
        rw [hon, cond_false] at hs
        exact sat_ret ⟨hlt', ys, hs.symm, Ent.ren [0, 1, 2] [1, 2, 5, 6] rfl rfl rfl⟩
    · obtain rfl : j = zs.length := by simp only [decide_eq_false_iff_not] at hlt; omega
      subst hz
      refine sat_ret (sat_ret ((fin_new 2 (.inr rfl) rfl rfl rfl rfl (by simp only [tk_eq]; rfl) (by simp only [tk_eq]; rfl))))
  · cases e

theorem get_0 {l : List Int} : l.getD (0 : Int).toNat 0 = l.getD 0 0 := rfl
def c_refKing : CF
  | [.agg [.int .i64 _f, .int .i64 _r, .sl 0 0 len none], .bool bl], [.ints false .i8 zs] => some (decide (len = zs.length) && decide (zs.length ≤ 64), .int .i64 (refKing zs bl), [])
  | _, _ => none
theorem c_refKing_ok : CtOk GG PP (38, c_refKing) := by
  refine ct_mk Tryd.func38 (by kernel_rfl) rfl fun a0 h0 c0 v0 N0 e hc => ?_
  unfold c_refKing at e
  split at e
  · rename_i f r len bl zs
    cases e
    have hE := EE_ok (cts := [(75, c_rside), (83, c_BList)]) (inl := []) ⟨c_rside_ok, c_BList_ok, trivial⟩ trivial
    refine fn_sound hE 2 Tryd.func38 rfl rfl ?_
    simp only [Bool.and_eq_true, decide_eq_true_eq] at hc
    obtain ⟨rfl, hc2⟩ := hc
    repeat (first | refine sat_self ?_ | refine sat_need (by first | rfl | exact tt1 _ _ | exact tt5 _ _ | exact tt2 _ _ _ | exact tt4 _ _ _ | exact tt6 _ _ _ | exact tt7 _ _ | exact tt8 _ _ _ | exact tt9 _ _ _ | exact tt10 _ _ | exact tt11 _ _ _ | exact Bool.or_not_self _ | (simp; done) | (simp; omega)) ?_)
    refine sat_br (fun h => ?_) (fun h => ?_)
    · have h : (!decide (((listL (tk zs) (w8 (IntKind.i64.wrap (6 * sdI bl)))).length : Int) = 1)) = true := h
      rw [tk_eq, Bool.not_eq_true'] at h
      exact sat_ret (fin_val (.inr rfl) rfl rfl rfl (by rw [refKing, h]; rfl))
    · have h : (!decide (((listL (tk zs) (w8 (IntKind.i64.wrap (6 * sdI bl)))).length : Int) = 1)) = false := h
      rw [tk_eq, Bool.not_eq_false'] at h
      have hl : ((listL (tk zs) (w8 (IntKind.i64.wrap (6 * sdI bl)))).length : Int) = 1 := by rw [tk_eq]; exact of_decide_eq_true h
      refine sat_need (by
        show (decide ((0 : Int) ≤ 0) && decide ((0 : Int) < ((listL (tk zs) (w8 (IntKind.i64.wrap (6 * sdI bl)))).length : Int))) = true
        rw [hl]; rfl) ?_
      exact sat_ret (fin_val (.inr rfl) rfl rfl rfl (by
        show V.int IntKind.i64 ((listL (tk zs) (w8 (IntKind.i64.wrap (6 * sdI bl)))).getD 0 0) = _
        rw [tk_eq, refKing, h]; rfl))
  · cases e

def c_Copy : CF
  | [.agg [.int .i64 f, .int .i64 r, .sl 0 0 len none]], [.ints false .i8 zs] => some (decide (len = zs.length) && decide (zs.length ≤ 64), .agg [I f, I r, .sl 1 0 zs.length none], [.ints true .i8 zs])
  | _, _ => none
theorem c_Copy_ok : CtOk GG PP (88, c_Copy) := by
  refine ct_mk Tryd.func88 (by kernel_rfl) rfl fun a0 h0 c0 v0 N0 e hc => ?_
  unfold c_Copy at e
  split at e
  · rename_i f r len zs
    cases e
    have hE := EE_ok (cts := []) (inl := []) trivial trivial
    refine fn_sound hE 2 Tryd.func88 rfl rfl ?_
    simp only [Bool.and_eq_true, decide_eq_true_eq] at hc
    obtain ⟨rfl, hc2⟩ := hc
    repeat (first | (first | refine sat_self ?_ | refine sat_need (by first | rfl | exact tt1 _ _ | exact tt5 _ _ | exact tt2 _ _ _ | exact tt4 _ _ _ | exact tt6 _ _ _ | exact tt7 _ _ | exact tt8 _ _ _ | exact tt9 _ _ _ | exact tt10 _ _ | exact tt11 _ _ _ | exact Bool.or_not_self _ | (simp; done) | (simp; omega)) ?_) | refine sat_need (by simp; omega) ?_)
    exact sat_ret (fin_new 3 (.inr rfl) rfl rfl rfl rfl (by show [O.ints true IntKind.i8 (tk zs)] = _; rw [tk_eq]) (by show V.agg [_, _, V.sl 1 0 (tk zs).length none] = _; rw [tk_eq]))
  · cases e

def c_Put : CF
  | [.agg [.int .i64 f, .int .i64 r, .sl 0 0 len none], .int .i64 at_, .int .i8 p], [.ints false .i8 zs] => some (decide (len = zs.length) && decide (zs.length ≤ 64) && decide (0 ≤ at_) && decide (at_ < zs.length), .agg [I f, I r, .sl 1 0 zs.length none], [.ints true .i8 (zs.set at_.toNat p)])
  | _, _ => none
theorem c_Put_ok : CtOk GG PP (44, c_Put) := by
  refine ct_mk Tryd.func44 (by kernel_rfl) rfl fun a0 h0 c0 v0 N0 e hc => ?_
  unfold c_Put at e
  split at e
  · rename_i f r len at_ p zs
    cases e
    have hE := EE_ok (cts := [(88, c_Copy)]) (inl := []) ⟨c_Copy_ok, trivial⟩ trivial
    refine fn_sound hE 2 Tryd.func44 rfl rfl ?_
    simp only [Bool.and_eq_true, decide_eq_true_eq] at hc
    obtain ⟨⟨⟨rfl, hc2⟩, h1⟩, h2⟩ := hc
    repeat (first | (first | refine sat_self ?_ | refine sat_need (by first | rfl | exact tt1 _ _ | exact tt5 _ _ | exact tt2 _ _ _ | exact tt4 _ _ _ | exact tt6 _ _ _ | exact tt7 _ _ | exact tt8 _ _ _ | exact tt9 _ _ _ | exact tt10 _ _ | exact tt11 _ _ _ | exact Bool.or_not_self _ | (simp; done) | (simp; omega)) ?_) | refine sat_need (by simp; omega) ?_)
    exact sat_ret (fin_new 3 (.inr rfl) rfl rfl rfl rfl (by show [O.ints true IntKind.i8 ((tk zs).set at_.toNat p)] = _; rw [tk_eq]) (by show V.agg [_, _, V.sl 1 0 (tk zs).length none] = _; rw [tk_eq]))
  · cases e

end Go.Ab

namespace Go.Ab
open Go.Proofs
def firstNot (before : List Int) : List Int → Int
  | [] => -1
  | x :: l => bif !hasL x before then x else firstNot before l
theorem firstNot_at {before l : List Int} {i : Nat} (h : i < l.length) : firstNot before (l.drop i) = bif !hasL (l.getD i 0) before then l.getD i 0 else firstNot before (l.drop (i + 1)) := by
  rw [List.drop_eq_getElem_cons h, firstNot]; simp [List.getD, h]
def pinnerK (zs : List Int) (at_ : Int) : Int := refKing zs (decide (zs.getD at_.toNat 0 < 0))
def pinnerR (f r : Int) (zs : List Int) (at_ : Int) : Int := bif decide (zs.getD at_.toNat 0 = 0) || decide (at_ = pinnerK zs at_) then -1
  else firstNot (attL f r zs (pinnerK zs at_) (decide (0 < zs.getD at_.toNat 0))) (attL f r (zs.set at_.toNat 0) (pinnerK zs at_) (decide (0 < zs.getD at_.toNat 0)))
theorem attL_len (f r : Int) (zs : List Int) (to : Int) (bl : Bool) : (attL f r zs to bl).length ≤ zs.length := Nat.le_trans (List.length_filter_le _ _) (sideL_len zs _)
theorem need_at {zs : List Int} {a : Int} (h : zs.length ≤ 64) {n : Nat} (hn : n = zs.length) (h1 : 0 ≤ a) (h2 : a < zs.length) : (decide (n = (tk zs).length) && decide ((tk zs).length ≤ 64) && decide (0 ≤ a) && decide (a < ((tk zs).length : Int))) = true := by rw [tk_len, hn]; simp; omega
theorem wset (l : List Int) (i : Nat) (x : Int) : ((l.set i x).drop 0).take l.length = l.set i x := by
  rw [List.drop_zero, List.take_of_length_le (by simp)]
theorem need_hasl {l : List Int} (h : l.length ≤ 64) {n : Nat} (hn : n = l.length) : (decide (n = (tk l).length) && decide ((tk l).length ≤ 1000000)) = true := by rw [tk_len, hn]; simp; omega
def c_Pinner : CF
  | [.agg [.int .i64 f, .int .i64 r, .sl 0 0 len none], .int .i64 at_], [.ints false .i8 zs] => some (decide (len = zs.length) && decide (zs.length ≤ 64) && decide (0 ≤ at_) && decide (at_ < zs.length) && vsB f r, .int .i64 (pinnerR f r zs at_), [])
  | _, _ => none
theorem c_Pinner_ok : CtOk GG PP (42, c_Pinner) := by
  refine ct_mk Tryd.func42 (by kernel_rfl) rfl fun a0 h0 c0 v0 N0 e hc => ?_
  unfold c_Pinner at e
  split at e
  · rename_i f r len at_ zs
    cases e
    have hE := EE_ok (cts := [(38, c_refKing), (33, c_refAttackers), (44, c_Put), (87, c_has5)]) (inl := []) ⟨c_refKing_ok, c_refAttackers_ok, c_Put_ok, c_has5_ok, trivial⟩ trivial
    refine fn_sound hE 2 Tryd.func42 rfl rfl ?_
    simp only [Bool.and_eq_true, decide_eq_true_eq] at hc
    obtain ⟨⟨⟨⟨rfl, hc2⟩, h1⟩, h2⟩, hv⟩ := hc
    repeat (first | (first | refine sat_self ?_ | refine sat_need (by first | rfl | exact tt1 _ _ | exact tt5 _ _ | exact tt2 _ _ _ | exact tt4 _ _ _ | exact tt6 _ _ _ | exact tt7 _ _ | exact tt8 _ _ _ | exact tt9 _ _ _ | exact tt10 _ _ | exact tt11 _ _ _ | exact Bool.or_not_self _ | (simp; done) | (simp; omega)) ?_) | refine sat_need (by simp; omega) ?_)
    have hK : refKing (tk zs) (decide (zs.getD at_.toNat 0 < 0)) = pinnerK zs at_ := by rw [tk_eq]; rfl
    refine sat_br (fun h => ?_) (fun h => ?_)
    · have h : (decide (zs.getD at_.toNat 0 = 0) || decide (at_ = refKing (tk zs) (decide (zs.getD at_.toNat 0 < 0)))) = true := h
      rw [hK] at h
      exact sat_ret (fin_val (.inr rfl) rfl rfl rfl (by rw [pinnerR, h]; rfl))
    have h : (decide (zs.getD at_.toNat 0 = 0) || decide (at_ = refKing (tk zs) (decide (zs.getD at_.toNat 0 < 0)))) = false := h
    rw [hK] at h
    repeat (first | (first | refine sat_self ?_ | refine sat_need (by first | rfl | exact tt1 _ _ | exact tt5 _ _ | exact tt2 _ _ _ | exact tt4 _ _ _ | exact tt6 _ _ _ | exact tt7 _ _ | exact tt8 _ _ _ | exact tt9 _ _ _ | exact tt10 _ _ | exact tt11 _ _ _ | exact Bool.or_not_self _ | (simp; done) | (simp; omega)) ?_) | refine sat_need (need_bdv hc2 rfl hv) ?_ | refine sat_need (by rw [wset, List.length_set, tk_len, hv]; simp; omega) ?_)
    have hlA : (attL f r ((((tk zs).set at_.toNat 0).drop 0).take (tk zs).length) (refKing (tk zs) (decide (zs.getD at_.toNat 0 < 0))) (decide (0 < zs.getD at_.toNat 0))).length ≤ 64 := by rw [wset]; have := attL_len f r ((tk zs).set at_.toNat 0) (refKing (tk zs) (decide (zs.getD at_.toNat 0 < 0))) (decide (0 < zs.getD at_.toNat 0)); rw [List.length_set, tk_len] at this; omega
    have hlB : (attL f r (tk zs) (refKing (tk zs) (decide (zs.getD at_.toNat 0 < 0))) (decide (0 < zs.getD at_.toNat 0))).length ≤ 64 := by have := attL_len f r (tk zs) (refKing (tk zs) (decide (zs.getD at_.toNat 0 < 0))) (decide (0 < zs.getD at_.toNat 0)); rw [tk_len] at this; omega
    have hfin : firstNot (attL f r (tk zs) (refKing (tk zs) (decide (zs.getD at_.toNat 0 < 0))) (decide (0 < zs.getD at_.toNat 0))) (attL f r ((((tk zs).set at_.toNat 0).drop 0).take (tk zs).length) (refKing (tk zs) (decide (zs.getD at_.toNat 0 < 0))) (decide (0 < zs.getD at_.toNat 0))) = pinnerR f r zs at_ := by rw [wset, hK, tk_eq, pinnerR, h]; rfl
    refine sat_idx hE 2 (fun i (_ : Unit) => ([(4, I 0), (7, .sl 2 0 (attL f r (tk zs) (refKing (tk zs) (decide (zs.getD at_.toNat 0 < 0))) (decide (0 < zs.getD at_.toNat 0))).length none), (8, .sl 4 0 (attL f r ((((tk zs).set at_.toNat 0).drop 0).take (tk zs).length) (refKing (tk zs) (decide (zs.getD at_.toNat 0 < 0))) (decide (0 < zs.getD at_.toNat 0))).length none), (9, I i)], [.ints false .i8 zs, .cells true [I f, I r, .sl 0 0 zs.length none], .ints true .i64 (attL f r (tk zs) (refKing (tk zs) (decide (zs.getD at_.toNat 0 < 0))) (decide (0 < zs.getD at_.toNat 0))), .ints true .i8 ((tk zs).set at_.toNat 0), .ints true .i64 (attL f r ((((tk zs).set at_.toNat 0).drop 0).take (tk zs).length) (refKing (tk zs) (decide (zs.getD at_.toNat 0 < 0))) (decide (0 < zs.getD at_.toNat 0)))])) (attL f r ((((tk zs).set at_.toNat 0).drop 0).take (tk zs).length) (refKing (tk zs) (decide (zs.getD at_.toNat 0 < 0))) (decide (0 < zs.getD at_.toNat 0))).length (fun j _ => firstNot (attL f r (tk zs) (refKing (tk zs) (decide (zs.getD at_.toNat 0 < 0))) (decide (0 < zs.getD at_.toNat 0))) ((attL f r ((((tk zs).set at_.toNat 0).drop 0).take (tk zs).length) (refKing (tk zs) (decide (zs.getD at_.toNat 0 < 0))) (decide (0 < zs.getD at_.toNat 0))).drop j) = firstNot (attL f r (tk zs) (refKing (tk zs) (decide (zs.getD at_.toNat 0 < 0))) (decide (0 < zs.getD at_.toNat 0))) (attL f r ((((tk zs).set at_.toNat 0).drop 0).take (tk zs).length) (refKing (tk zs) (decide (zs.getD at_.toNat 0 < 0))) (decide (0 < zs.getD at_.toNat 0)))) () (by omega) (Ent.ren [0, 1, 2, 3, 4] [4, 7, 8, 9] rfl rfl rfl) rfl ?_
    intro j i _ hij hj hz
    refine sat_br (fun hlt => ?_) (fun hlt => ?_)
    · have hlt' : j < (attL f r ((((tk zs).set at_.toNat 0).drop 0).take (tk zs).length) (refKing (tk zs) (decide (zs.getD at_.toNat 0 < 0))) (decide (0 < zs.getD at_.toNat 0))).length := by simp only [decide_eq_true_eq] at hlt; omega
      rw [firstNot_at hlt', show j = i.toNat by omega] at hz
      refine sat_need (by simp only [Bool.and_eq_true, decide_eq_true_eq]; omega) ?_
      repeat (first | refine sat_self ?_ | refine sat_need (by first | rfl | exact tt1 _ _ | exact tt5 _ _ | exact tt2 _ _ _ | exact tt4 _ _ _ | exact tt6 _ _ _ | exact tt7 _ _ | exact tt8 _ _ _ | exact tt9 _ _ _ | exact tt10 _ _ | exact tt11 _ _ _ | exact Bool.or_not_self _ | (simp; done) | (simp; omega)) ?_)
      refine sat_need (need_hasl hlB rfl) ?_
      refine sat_br (fun hon => ?_) (fun hon => ?_)
      · have hon : (!hasL ((attL f r ((((tk zs).set at_.toNat 0).drop 0).take (tk zs).length) (refKing (tk zs) (decide (zs.getD at_.toNat 0 < 0))) (decide (0 < zs.getD at_.toNat 0))).getD i.toNat 0) (tk (attL f r (tk zs) (refKing (tk zs) (decide (zs.getD at_.toNat 0 < 0))) (decide (0 < zs.getD at_.toNat 0))))) = true := hon
        rw [tk_eq (attL f r (tk zs) (refKing (tk zs) (decide (zs.getD at_.toNat 0 < 0))) (decide (0 < zs.getD at_.toNat 0)))] at hon
        rw [hon, cond_true] at hz
        refine sat_need (by simp only [Bool.and_eq_true, decide_eq_true_eq]; omega) ?_
        exact sat_ret (sat_ret (fin_val (.inr rfl) rfl rfl rfl (by rw [← hfin, ← hz]; rfl)))
      · have hon : (!hasL ((attL f r ((((tk zs).set at_.toNat 0).drop 0).take (tk zs).length) (refKing (tk zs) (decide (zs.getD at_.toNat 0 < 0))) (decide (0 < zs.getD at_.toNat 0))).getD i.toNat 0) (tk (attL f r (tk zs) (refKing (tk zs) (decide (zs.getD at_.toNat 0 < 0))) (decide (0 < zs.getD at_.toNat 0))))) = false := hon
        rw [tk_eq (attL f r (tk zs) (refKing (tk zs) (decide (zs.getD at_.toNat 0 < 0))) (decide (0 < zs.getD at_.toNat 0)))] at hon
        rw [hon, cond_false] at hz
        exact sat_ret ⟨hlt', (), by rw [← hz, show i.toNat = j by omega], Ent.ren [0, 1, 2, 3, 4] [4, 7, 8, 9] rfl rfl rfl⟩
    · obtain rfl : j = (attL f r ((((tk zs).set at_.toNat 0).drop 0).take (tk zs).length) (refKing (tk zs) (decide (zs.getD at_.toNat 0 < 0))) (decide (0 < zs.getD at_.toNat 0))).length := by simp only [decide_eq_false_iff_not] at hlt; omega
      rw [List.drop_length] at hz
      exact sat_ret (sat_ret (fin_val (.inr rfl) rfl rfl rfl (by rw [← hfin, ← hz]; rfl)))
  · cases e

end Go.Ab

namespace Go.Ab
open Go.Proofs
def pinC4 (f r : Int) (zs : List Int) (i : Int) : Bool := decide (0 ≤ pinnerR f r zs i)
def pinnedL (f r : Int) (zs : List Int) (bl : Bool) : List Int := (sideL zs (sdI bl)).filter (pinC4 f r zs)
def lineC (f r : Int) (zs : List Int) (at_ i : Int) : Bool := decide (i = pinnerR f r zs at_) || (hasL i (betwL f r (pinnerK zs at_) (pinnerR f r zs at_)) && !decide (i = at_))
def lineL (f r : Int) (zs : List Int) (at_ : Int) : List Int := filtB (lineC f r zs at_) id zs.length
theorem need_g {g : Bool} {l : List Int} {n : Nat} (hn : n = l.length) (h : l.length ≤ 1000000) : (!g || (decide (n = l.length) && decide (l.length ≤ 1000000))) = true := by rw [hn]; simp [h]
theorem need_atv {zs : List Int} {a : Int} (h : zs.length ≤ 64) {n : Nat} (hn : n = zs.length) (h1 : 0 ≤ a) (h2 : a < zs.length) {b : Bool} (hb : b = true) : (decide (n = (tk zs).length) && decide ((tk zs).length ≤ 64) && decide (0 ≤ a) && decide (a < ((tk zs).length : Int)) && b) = true := by rw [tk_len, hn, hb]; simp; omega
def c_refPinned : CF
  | [.agg [.int .i64 f, .int .i64 r, .sl 0 0 len none], .bool bl], [.ints false .i8 zs] => some (decide (len = zs.length) && decide (zs.length ≤ 64) && vsB f r, .sl 1 0 (pinnedL f r zs bl).length none, [.ints true .i64 (pinnedL f r zs bl)])
  | _, _ => none
theorem c_refPinned_ok : CtOk GG PP (41, c_refPinned) := by
  refine ct_mk Tryd.func41 (by kernel_rfl) rfl fun a0 h0 c0 v0 N0 e hc => ?_
  unfold c_refPinned at e
  split at e
  · rename_i f r len bl zs
    cases e
    have hE := EE_ok (cts := [(75, c_rside), (74, c_Side), (42, c_Pinner)]) (inl := []) ⟨c_rside_ok, c_Side_ok, c_Pinner_ok, trivial⟩ trivial
    refine fn_sound hE 2 Tryd.func41 rfl rfl ?_
    simp only [Bool.and_eq_true, decide_eq_true_eq] at hc
    obtain ⟨⟨rfl, hc2⟩, hv⟩ := hc
    have hsl : (sideL (tk zs) (sdI bl)).length ≤ zs.length := by rw [tk_eq]; exact sideL_len zs (sdI bl)
    repeat (first | refine sat_self ?_ | refine sat_need (by first | rfl | exact tt1 _ _ | exact tt5 _ _ | exact tt2 _ _ _ | exact tt4 _ _ _ | exact tt6 _ _ _ | exact tt7 _ _ | exact tt8 _ _ _ | exact tt9 _ _ _ | exact tt10 _ _ | exact tt11 _ _ _ | exact Bool.or_not_self _ | (simp; done) | (simp; omega)) ?_)
    refine sat_idx hE 2 (fun (i : Int) (ys : List Int) => ([(2, .ptr 1 0 0), (5, .sl 3 0 ys.length none), (6, .sl 2 0 (sideL (tk zs) (sdI bl)).length none), (7, I i)], [.ints false .i8 zs, .cells true [I f, I r, .sl 0 0 zs.length none], .ints true .i64 (sideL (tk zs) (sdI bl)), .ints true .i64 ys])) (sideL (tk zs) (sdI bl)).length (fun j ys => ys = ((sideL (tk zs) (sdI bl)).take j).filter (pinC4 f r (tk zs))) [] (by omega) ((Ent.phanT (t := 5) (o := .ints true .i64 []) rfl ⟨by simp, by simp, trivial, rfl⟩ (blt_lt rfl)).trans (Ent.ren [0, 1, 2, 3] [2, 5, 6, 7] rfl rfl rfl)) rfl ?_
    intro j i ys hij hj hz
    have hb : ys.length ≤ j := by rw [hz]; exact Nat.le_trans (List.length_filter_le _ _) (by rw [List.length_take]; omega)
    refine sat_br (fun hlt => ?_) (fun hlt => ?_)
    · have hlt' : j < (sideL (tk zs) (sdI bl)).length := by simp only [decide_eq_true_eq] at hlt; omega
      have hs := filt_take (C := pinC4 f r (tk zs)) hlt'
      have hgl := side_get (zs := zs) (s := sdI bl) (i := i.toNat) (by omega)
      have hil : (decide (0 ≤ i) && decide (i < ((sideL (tk zs) (sdI bl)).length : Int))) = true := by simp only [Bool.and_eq_true, decide_eq_true_eq]; omega
      rw [← hz, show j = i.toNat by omega] at hs
      repeat (first | (first | refine sat_self ?_ | refine sat_need (by first | rfl | exact tt1 _ _ | exact tt5 _ _ | exact tt2 _ _ _ | exact tt4 _ _ _ | exact tt6 _ _ _ | exact tt7 _ _ | exact tt8 _ _ _ | exact tt9 _ _ _ | exact tt10 _ _ | exact tt11 _ _ _ | exact Bool.or_not_self _ | (simp; done) | (simp; omega)) ?_) | refine sat_need hil ?_ | refine sat_need (need_atv hc2 rfl hgl.1 hgl.2 hv) ?_)
      refine sat_br (fun hon => ?_) (fun hon => ?_)
      · skip
        have hon : pinC4 f r (tk zs) ((sideL (tk zs) (sdI bl)).getD i.toNat 0) = true := hon
        rw [hon, cond_true] at hs
        refine sat_need (by simp; omega) ?_
        refine sat_need (b := decide (ys.length = ys.length) && decide ((ys.length + 1) * 8 ≤ 140737488355328) && true) (by simp; omega) ?_
        exact sat_ret ⟨hlt', ys ++ [(sideL (tk zs) (sdI bl)).getD i.toNat 0], by rw [show j + 1 = i.toNat + 1 by omega]; exact hs, Ent.ren [0, 1, 2, 5] [2, 5, 6, 7] rfl rfl rfl⟩
      · skip
        have hon : pinC4 f r (tk zs) ((sideL (tk zs) (sdI bl)).getD i.toNat 0) = false := hon
        rw [hon, cond_false] at hs
        exact sat_ret ⟨hlt', ys, by rw [show j + 1 = i.toNat + 1 by omega]; exact hs, Ent.ren [0, 1, 2, 3] [2, 5, 6, 7] rfl rfl rfl⟩
    · obtain rfl : j = (sideL (tk zs) (sdI bl)).length := by simp only [decide_eq_false_iff_not] at hlt; omega
      rw [List.take_length] at hz
      subst hz
      refine sat_ret (sat_ret (fin_new 3 (.inr rfl) rfl rfl rfl rfl (by simp only [tk_eq]; rfl) (by simp only [tk_eq]; rfl)))
  · cases e

def c_refLine : CF
  | [.agg [.int .i64 f, .int .i64 r, .sl 0 0 len none], .int .i64 at_], [.ints false .i8 zs] => some (decide (len = zs.length) && decide (zs.length ≤ 64) && decide (0 ≤ at_) && decide (at_ < zs.length) && vsB f r, .sl 1 0 (lineL f r zs at_).length none, [.ints true .i64 (lineL f r zs at_)])
  | _, _ => none
theorem c_refLine_ok : CtOk GG PP (43, c_refLine) := by
  refine ct_mk Tryd.func43 (by kernel_rfl) rfl fun a0 h0 c0 v0 N0 e hc => ?_
  unfold c_refLine at e
  split at e
  · rename_i f r len at_ zs
    cases e
    have hE := EE_ok (cts := [(42, c_Pinner), (38, c_refKing), (21, c_Between), (87, c_has5)]) (inl := []) ⟨c_Pinner_ok, c_refKing_ok, c_Between_ok, c_has5_ok, trivial⟩ trivial
    refine fn_sound hE 2 Tryd.func43 rfl rfl ?_
    simp only [Bool.and_eq_true, decide_eq_true_eq] at hc
    obtain ⟨⟨⟨⟨rfl, hc2⟩, h1⟩, h2⟩, hv⟩ := hc
    have hf := vs_bd hv
    have hK : refKing (tk zs) (decide (zs.getD at_.toNat 0 < 0)) = pinnerK (tk zs) at_ := by simp only [tk_eq]; rfl
    have hf0 : (!decide (f = 0)) = true := by simp; omega
    have hbt := betwO_take f r (refKing (tk zs) (decide (zs.getD at_.toNat 0 < 0))) (pinnerR f r (tk zs) at_)
    have hbl := betwL_len8 f r (refKing (tk zs) (decide (zs.getD at_.toNat 0 < 0))) (pinnerR f r (tk zs) at_)
    repeat (first | (first | refine sat_self ?_ | refine sat_need (by first | rfl | exact tt1 _ _ | exact tt5 _ _ | exact tt2 _ _ _ | exact tt4 _ _ _ | exact tt6 _ _ _ | exact tt7 _ _ | exact tt8 _ _ _ | exact tt9 _ _ _ | exact tt10 _ _ | exact tt11 _ _ _ | exact Bool.or_not_self _ | (simp; done) | (simp; omega)) ?_) | refine sat_need (need_atv hc2 rfl h1 h2 hv) ?_ | refine sat_need (by simp; omega) ?_ | refine sat_need hf0 ?_)
    refine sat_idx hE 2 (fun (i : Int) (ys : List Int) => ([(1, I at_), (2, .ptr 1 0 0), (5, I (pinnerR f r (tk zs) at_)), (7, .sl 2 0 (betwL f r (refKing (tk zs) (decide (zs.getD at_.toNat 0 < 0))) (pinnerR f r (tk zs) at_)).length none), (8, .sl 3 0 ys.length none), (9, I i)], [.ints false .i8 zs, .cells true [I f, I r, .sl 0 0 zs.length none], .ints true .i64 (betwO f r (refKing (tk zs) (decide (zs.getD at_.toNat 0 < 0))) (pinnerR f r (tk zs) at_)), .ints true .i64 ys])) (zs.length) (fun j ys => ys = filtB (lineC f r (tk zs) at_) id j) [] (by omega) ((Ent.phanT (t := 8) (o := .ints true .i64 []) rfl ⟨by simp, by simp, trivial, rfl⟩ (blt_lt rfl)).trans (Ent.ren [0, 1, 2, 3] [1, 2, 5, 7, 8, 9] rfl rfl rfl)) rfl ?_
    intro j i ys hij hj hz
    have hb := filtB_len (lineC f r (tk zs) at_) id j
    rw [← hz] at hb
    refine sat_br (fun hlt => ?_) (fun hlt => ?_)
    · have hlt' : j < zs.length := by simp only [decide_eq_true_eq] at hlt; omega
      have hs := filtB_succ (lineC f r (tk zs) at_) id j
      rw [← hz, ← hij] at hs
      repeat (first | (first | refine sat_self ?_ | refine sat_need (by first | rfl | exact tt1 _ _ | exact tt5 _ _ | exact tt2 _ _ _ | exact tt4 _ _ _ | exact tt6 _ _ _ | exact tt7 _ _ | exact tt8 _ _ _ | exact tt9 _ _ _ | exact tt10 _ _ | exact tt11 _ _ _ | exact Bool.or_not_self _ | (simp; done) | (simp; omega)) ?_) | refine sat_need (need_g (l := ((betwO f r (refKing (tk zs) (decide (zs.getD at_.toNat 0 < 0))) (pinnerR f r (tk zs) at_)).drop 0).take (betwL f r (refKing (tk zs) (decide (zs.getD at_.toNat 0 < 0))) (pinnerR f r (tk zs) at_)).length) (by rw [hbt]) (by rw [hbt]; omega)) ?_)
      refine sat_br (fun hon => ?_) (fun hon => ?_)
      · have hon : (decide (i = pinnerR f r (tk zs) at_) || (hasL i ((((betwO f r (refKing (tk zs) (decide (zs.getD at_.toNat 0 < 0))) (pinnerR f r (tk zs) at_)).drop 0).take (betwL f r (refKing (tk zs) (decide (zs.getD at_.toNat 0 < 0))) (pinnerR f r (tk zs) at_)).length)) && !decide (i = at_))) = true := hon
        rw [hbt, hK] at hon
        have hon : lineC f r (tk zs) at_ i = true := hon
        rw [hon, cond_true] at hs
        refine sat_need (b := decide (ys.length = ys.length) && decide ((ys.length + 1) * 8 ≤ 140737488355328) && true) (by simp; omega) ?_
        exact sat_ret ⟨hlt', ys ++ [id i], hs.symm, Ent.ren [0, 1, 2, 5] [1, 2, 5, 7, 8, 9] rfl rfl rfl⟩
      · have hon : (decide (i = pinnerR f r (tk zs) at_) || (hasL i ((((betwO f r (refKing (tk zs) (decide (zs.getD at_.toNat 0 < 0))) (pinnerR f r (tk zs) at_)).drop 0).take (betwL f r (refKing (tk zs) (decide (zs.getD at_.toNat 0 < 0))) (pinnerR f r (tk zs) at_)).length)) && !decide (i = at_))) = false := hon
        rw [hbt, hK] at hon
        have hon : lineC f r (tk zs) at_ i = false := hon
        rw [hon, cond_false] at hs
        exact sat_ret ⟨hlt', ys, hs.symm, Ent.ren [0, 1, 2, 3] [1, 2, 5, 7, 8, 9] rfl rfl rfl⟩
    · obtain rfl : j = zs.length := by simp only [decide_eq_false_iff_not] at hlt; omega
      subst hz
      refine sat_ret (sat_ret ((fin_new 3 (.inr rfl) rfl rfl rfl rfl (by simp only [tk_eq]; rfl) (by simp only [tk_eq]; rfl))))
  · cases e

end Go.Ab
