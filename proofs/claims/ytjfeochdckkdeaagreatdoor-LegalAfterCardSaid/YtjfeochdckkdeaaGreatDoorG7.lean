/- Contracts of the functions that the laws reach, and plain laws of what they compute (text G7); no condition. -/
import Derived.Test.YtjfeochdckkdeaaGreatDoorG5
import Derived.Test.YtjfeochdckkdeaaGreatDoorG3
set_option maxRecDepth 100000
namespace Go.Ab
open Go.Proofs
section
variable {kCa kDb : Bool}
def CA (n : Int) : Bool := decide (3 <= n) && decide (n <= 8)
def vsB (f r : Int) : Bool := CA f && CA r
def onB (f r x y : Int) : Bool := decide (0 <= x) && decide (x < f) && decide (0 <= y) && decide (y < r)
def aj (f r n : Int) : Bool := vsB f r && decide (0 <= n) && decide (n < IntKind.i64.wrap (f * r))
def atR (f r x y : Int) : Int × Int := bif vsB f r then (bif onB f r x y then (IntKind.i64.wrap (x + IntKind.i64.wrap (y * f)), 0) else (0, 3)) else (0, 2)
def aK (f r n : Int) : Int × Int × Int := bif aj f r n then (n.tmod f, IntKind.i64.wrap (n.tdiv f), 0) else (0, 0, 2)
def CO : CF
 | [.int .i64 n], [] => some (true, .bool (CA n), [])
 | _, _ => none
theorem AF : CtOk (GGx kCa kDb) PP (151, CO) := by
 refine aG Tryz.func151 (by kernel_rfl) rfl fun a0 h0 c0 v0 N0 e hc => ?_
 unfold CO at e
 split at e
 ·rename_i n
  cases e
  have hE := aD (kCa := kCa) (kDb := kDb) (cts := []) (inl := []) trivial trivial
  refine ak hE 2 Tryz.func151 rfl rfl ?_
  repeat (first | refine ah ?_ | refine sat_nd ?_)
  exact ag (ai (.inr rfl) rfl rfl rfl rfl)
 ·cases e
def c_vs : CF
 | [.agg [.int .i64 f, .int .i64 r]], [] => some (true, .bool (vsB f r), [])
 | _, _ => none
theorem nt : CtOk (GGx kCa kDb) PP (99, c_vs) := by
 refine aG Tryz.func99 (by kernel_rfl) rfl fun a0 h0 c0 v0 N0 e hc => ?_
 unfold c_vs at e
 split at e
 ·rename_i f r
  cases e
  have hE := aD (kCa := kCa) (kDb := kDb) (cts := [(151, CO)]) (inl := []) ⟨AF, trivial⟩ trivial
  refine ak hE 2 Tryz.func99 rfl rfl ?_
  repeat (first | refine ah ?_ | refine sat_nd ?_)
  exact ag (ai (.inr rfl) rfl rfl rfl rfl)
 ·cases e
def c_on : CF
 | [.agg [.int .i64 f, .int .i64 r], .int .i64 x, .int .i64 y], [] => some (true, .bool (onB f r x y), [])
 | _, _ => none
theorem Ik : CtOk (GGx kCa kDb) PP (186, c_on) := by
 refine aG Tryz.func186 (by kernel_rfl) rfl fun a0 h0 c0 v0 N0 e hc => ?_
 unfold c_on at e
 split at e
 ·rename_i f r x y
  cases e
  have hE := aD (kCa := kCa) (kDb := kDb) (cts := []) (inl := []) trivial trivial
  refine ak hE 2 Tryz.func186 rfl rfl ?_
  repeat (first | refine ah ?_ | refine sat_nd ?_)
  exact ag (ai (.inr rfl) rfl rfl rfl rfl)
 ·cases e
def eU : CF
 | [.agg [.int .i64 f, .int .i64 r], .int .i64 n], [] => some (true, .bool (aj f r n), [])
 | _, _ => none
theorem cW : CtOk (GGx kCa kDb) PP (71, eU) := by
 refine aG Tryz.func71 (by kernel_rfl) rfl fun a0 h0 c0 v0 N0 e hc => ?_
 unfold eU at e
 split at e
 ·rename_i f r n
  cases e
  have hE := aD (kCa := kCa) (kDb := kDb) (cts := [(99, c_vs)]) (inl := []) ⟨nt, trivial⟩ trivial
  refine ak hE 2 Tryz.func71 rfl rfl ?_
  repeat (first | refine ah ?_ | refine sat_nd ?_)
  exact ag (ai (.inr rfl) rfl rfl rfl rfl)
 ·cases e
def c_at : CF
 | [.agg [.int .i64 f, .int .i64 r], .int .i64 x, .int .i64 y], [] => some (true, .tup [I (atR f r x y).1, I (atR f r x y).2], [])
 | _, _ => none
theorem BH : CtOk (GGx kCa kDb) PP (180, c_at) := by
 refine aG Tryz.func180 (by kernel_rfl) rfl fun a0 h0 c0 v0 N0 e hc => ?_
 unfold c_at at e
 split at e
 ·rename_i f r x y
  cases e
  have hE := aD (kCa := kCa) (kDb := kDb) (cts := [(99, c_vs), (186, c_on)]) (inl := []) ⟨nt, Ik, trivial⟩ trivial
  refine ak hE 2 Tryz.func180 rfl rfl ?_
  repeat (first | refine ah ?_ | refine sat_nd ?_)
  refine au (fun h1 => ?_) (fun h1 => ?_)
  ·exact ag (ai (.inr rfl) rfl rfl rfl (by simp_all [atR]))
  ·repeat (first | refine ah ?_ | refine sat_nd ?_)
   refine au (fun h2 => ?_) (fun h2 => ?_)
   ·exact ag (ai (.inr rfl) rfl rfl rfl (by simp_all [atR]))
   ·exact ag (ai (.inr rfl) rfl rfl rfl (by simp_all [atR]))
 ·cases e
theorem cI {f r : Int} (h : vsB f r = true) : 3 <= f /\ f <= 8 /\ 3 <= r /\ r <= 8 := by
 simp [vsB, CA] at h; omega
theorem bE {f r n : Int} (h : aj f r n = true) : vsB f r = true := by
 simp only [aj, Bool.and_eq_true] at h; exact h.1.1
def mR : CF
 | [.agg [.int .i64 f, .int .i64 r], .int .i64 n], [] => some (true, .tup [I (aK f r n).1, I (aK f r n).2.1, I (aK f r n).2.2], [])
 | _, _ => none
theorem jM : CtOk (GGx kCa kDb) PP (177, mR) := by
 refine aG Tryz.func177 (by kernel_rfl) rfl fun a0 h0 c0 v0 N0 e hc => ?_
 unfold mR at e
 split at e
 ·rename_i f r n
  cases e
  have hE := aD (kCa := kCa) (kDb := kDb) (cts := [(71, eU)]) (inl := []) ⟨cW, trivial⟩ trivial
  refine ak hE 2 Tryz.func177 rfl rfl ?_
  repeat (first | refine ah ?_ | refine sat_nd ?_)
  refine au (fun h1 => ?_) (fun h1 => ?_)
  ·exact ag (ai (.inr rfl) rfl rfl rfl (by simp_all [aK]))
  ·simp only [Bool.not_eq_false'] at h1
   have hf := cI (bE h1)
   repeat (first | refine ah ?_ | refine ae (by first | rfl | (simp; omega)) ?_)
   exact ag (ai (.inr rfl) rfl rfl rfl (by simp_all [aK]))
 ·cases e
end
end Go.Ab
namespace Go.Ab
open IntKind
open Go.Proofs
section
variable {kCa kDb : Bool}
def allU (f r : Int) : Int := ushr 18446744073709551615 (i64.wrap (64 - i64.wrap (f * r)))
theorem aB {n : Int} (h1 : -9223372036854775808 <= n) (h2 : n <= 9223372036854775807) : i64.wrap n = n := IntWalk.i64_in _ (by omega)
theorem fX {f r : Int} (h : vsB f r = true) : 9 <= f * r /\ f * r <= 64 := by
 obtain ⟨h1, h2, h3, h4⟩ := cI h
 have e1 : 3 * 3 <= f * r := Int.mul_le_mul h1 h3 (by omega) (by omega)
 have e2 : f * r <= 8 * 8 := Int.mul_le_mul h2 h4 (by omega) (by omega)
 omega
theorem eB {f r : Int} (h : vsB f r = true) : i64.wrap (f * r) = f * r := aB (by have := fX h; omega) (by have := fX h; omega)
def Jd : CF
 | [.agg [.int .i64 f, .int .i64 r]], [] => some (vsB f r, .int .u64 (allU f r), [])
 | _, _ => none
theorem Fa : CtOk (GGx kCa kDb) PP (187, Jd) := by
 refine aG Tryz.func187 (by kernel_rfl) rfl fun a0 h0 c0 v0 N0 e hc => ?_
 unfold Jd at e
 split at e
 ·rename_i f r
  cases e
  have hE := aD (kCa := kCa) (kDb := kDb) (cts := []) (inl := []) trivial trivial
  refine ak hE 2 Tryz.func187 rfl rfl ?_
  have hm := fX hc
  refine ae (by rw [eB hc, aB (by omega) (by omega)]; simp; omega) ?_
  exact ag (ai (.inr rfl) rfl rfl rfl rfl)
 ·cases e
def Ie : CF
 | [.agg [.int .i64 f, .int .i64 r]], [] => some (true, .tup [U (bif vsB f r then allU f r else 0), I (bif vsB f r then 0 else 2)], [])
 | _, _ => none
theorem Ek : CtOk (GGx kCa kDb) PP (181, Ie) := by
 refine aG Tryz.func181 (by kernel_rfl) rfl fun a0 h0 c0 v0 N0 e hc => ?_
 unfold Ie at e
 split at e
 ·rename_i f r
  cases e
  have hE := aD (kCa := kCa) (kDb := kDb) (cts := [(99, c_vs), (187, Jd)]) (inl := []) ⟨nt, Fa, trivial⟩ trivial
  refine ak hE 2 Tryz.func181 rfl rfl ?_
  repeat (first | refine ah ?_ | refine sat_nd ?_)
  refine au (fun h1 => ?_) (fun h1 => ?_)
  ·exact ag (ai (.inr rfl) rfl rfl rfl (by simp_all))
  ·refine ae (by simpa using h1) ?_
   exact ag (ai (.inr rfl) rfl rfl rfl (by simp_all))
 ·cases e
def fwd (b : Bool) : Int := bif b then -1 else 1
def sgn (n : Int) : Int := bif decide (n < 0) then -1 else bif decide (0 < n) then 1 else 0
def gg (f r n set : Int) : Bool := aj f r n && decide (cF set (allU f r) = 0)
def iV : CF
 | [.bool b], [] => some (true, .int .i64 (fwd b), [])
 | _, _ => none
theorem kD : CtOk (GGx kCa kDb) PP (176, iV) := by
 refine aG Tryz.func176 (by kernel_rfl) rfl fun a0 h0 c0 v0 N0 e hc => ?_
 unfold iV at e
 split at e
 ·rename_i b
  cases e
  have hE := aD (kCa := kCa) (kDb := kDb) (cts := []) (inl := []) trivial trivial
  refine ak hE 2 Tryz.func176 rfl rfl ?_
  refine au (fun h1 => ?_) (fun h1 => ?_)
  ·exact ag (ai (.inr rfl) rfl rfl rfl (by simp_all [fwd]))
  ·exact ag (ai (.inr rfl) rfl rfl rfl (by simp_all [fwd]))
 ·cases e
def CL : CF
 | [.int .i64 n], [] => some (true, .int .i64 (sgn n), [])
 | _, _ => none
theorem Cz : CtOk (GGx kCa kDb) PP (178, CL) := by
 refine aG Tryz.func178 (by kernel_rfl) rfl fun a0 h0 c0 v0 N0 e hc => ?_
 unfold CL at e
 split at e
 ·rename_i n
  cases e
  have hE := aD (kCa := kCa) (kDb := kDb) (cts := []) (inl := []) trivial trivial
  refine ak hE 2 Tryz.func178 rfl rfl ?_
  refine au (fun h1 => ?_) (fun h1 => ?_)
  ·exact ag (ai (.inr rfl) rfl rfl rfl (by rw [sgn, h1]; rfl))
  ·refine au (fun h2 => ?_) (fun h2 => ?_)
   ·exact ag (ai (.inr rfl) rfl rfl rfl (by rw [sgn, h1, h2]; rfl))
   ·exact ag (ai (.inr rfl) rfl rfl rfl (by rw [sgn, h1, h2]; rfl))
 ·cases e
def pW : CF
 | [.agg [.int .i64 f, .int .i64 r], .int .i64 n, .int .u64 set], [] => some (true, .bool (gg f r n set), [])
 | _, _ => none
theorem ov : CtOk (GGx kCa kDb) PP (162, pW) := by
 refine aG Tryz.func162 (by kernel_rfl) rfl fun a0 h0 c0 v0 N0 e hc => ?_
 unfold pW at e
 split at e
 ·rename_i f r n set
  cases e
  have hE := aD (kCa := kCa) (kDb := kDb) (cts := [(181, Ie), (71, eU)]) (inl := []) ⟨Ek, cW, trivial⟩ trivial
  refine ak hE 2 Tryz.func162 rfl rfl ?_
  repeat (first | refine ah ?_ | refine sat_nd ?_)
  exact ag (ai (.inr rfl) rfl rfl rfl (by cases h : vsB f r <;> simp [gg, aj, h]))
 ·cases e
def dirR (f r a b : Int) : Int × Int × Int :=
 bif aj f r a && aj f r b then
  (let x := i64.wrap (b.tmod f - a.tmod f); let y := i64.wrap (i64.wrap (b.tdiv f) - i64.wrap (a.tdiv f))
   bif decide (a = b) || (!decide (x = 0) && !decide (y = 0) && !decide (x = y) && !decide (x = i64.wrap (0 - y))) then (0, 0, 9) else (sgn x, sgn y, 0))
 else (0, 0, 2)
def GZ : CF
 | [.agg [.int .i64 f, .int .i64 r], .int .i64 a, .int .i64 b], [] => some (true, .tup [I (dirR f r a b).1, I (dirR f r a b).2.1, I (dirR f r a b).2.2], [])
 | _, _ => none
theorem EY : CtOk (GGx kCa kDb) PP (160, GZ) := by
 refine aG Tryz.func160 (by kernel_rfl) rfl fun a0 h0 c0 v0 N0 e hc => ?_
 unfold GZ at e
 split at e
 ·rename_i f r a b
  cases e
  have hE := aD (kCa := kCa) (kDb := kDb) (cts := [(177, mR), (178, CL)]) (inl := []) ⟨jM, Cz, trivial⟩ trivial
  refine ak hE 2 Tryz.func160 rfl rfl ?_
  repeat (first | refine ah ?_ | refine sat_nd ?_)
  refine au (fun h1 => ?_) (fun h1 => ?_)
  ·exact ag (ai (.inr rfl) rfl rfl rfl (by cases ha : aj f r a <;> cases hb : aj f r b <;> simp_all [dirR, aK]))
  ·repeat (first | refine ah ?_ | refine sat_nd ?_)
   have ha : aj f r a = true := by cases ha : aj f r a <;> simp_all [aK]
   have hb : aj f r b = true := by cases hb : aj f r b <;> simp_all [aK]
   refine au (fun h2 => ?_) (fun h2 => ?_)
   ·refine ag (ai (.inr rfl) rfl rfl rfl ?_)
    simp only [aK, ha, hb, cond_true] at h2
    simp only [dirR, ha, hb, Bool.and_true, cond_true, h2]
   ·repeat (first | refine ah ?_ | refine sat_nd ?_)
    refine ag (ai (.inr rfl) rfl rfl rfl ?_)
    simp only [aK, ha, hb, cond_true] at h2 ⊢
    simp only [dirR, ha, hb, Bool.and_true, cond_true, h2, cond_false]
 ·cases e
end
section
variable {kCa kDb : Bool}
def sZ (f r x y : Int) (row : List Int) : Int × Int := atR f r (i64.wrap (x + row.getD 0 0)) (i64.wrap (y + row.getD 1 0))
def fP (f r x y set : Int) (row : List Int) : Int := bif decide ((sZ f r x y row).2 = 0) then uor set (ushl 1 (sZ f r x y row).1) else set
def cn (f r n : Int) (rs : List (List Int)) : Int := rs.foldl (fP f r (aK f r n).1 (aK f r n).2.1) 0
theorem kH {f r x y : Int} (h : (atR f r x y).2 = 0) : 0 <= (atR f r x y).1 /\ (atR f r x y).1 < 64 /\ vsB f r = true /\ onB f r x y = true /\ (atR f r x y).1 = x + y * f := by
 unfold atR at h ⊢
 cases h1 : vsB f r
 ·simp [h1] at h
 ·cases h2 : onB f r x y
  ·simp [h1, h2] at h
  ·simp only [cond_true]
   obtain ⟨a1, a2, a3, a4⟩ := cI h1
   simp only [onB, Bool.and_eq_true, decide_eq_true_eq] at h2
   obtain ⟨⟨⟨b1, b2⟩, b3⟩, b4⟩ := h2
   have hm := fX h1
   have e1 : 0 <= y * f := Int.mul_nonneg b3 (by omega)
   have e2 : (y + 1) * f <= r * f := Int.mul_le_mul_of_nonneg_right (by omega) (by omega)
   rw [Int.add_mul, Int.mul_comm r f] at e2
   have e3 : i64.wrap (y * f) = y * f := aB (by omega) (by omega)
   have e4 : i64.wrap (x + y * f) = x + y * f := aB (by omega) (by omega)
   rw [e3, e4]
   refine ⟨by omega, by omega, ?_, ?_, ?_⟩ <;> first | rfl | trivial
theorem tj {α β : Type} (l : List α) (d : α) (f : β -> α -> β) (b : β) {k : Nat} (h : k < l.length) : (l.take (k + 1)).foldl f b = f ((l.take k).foldl f b) (l.getD k d) := by
 rw [List.take_succ_eq_append_getElem h, List.foldl_append]
 simp [List.getD, h]
def sO : CF
 | [.agg [.int .i64 f, .int .i64 r], .int .i64 n, .sl 0 0 len none], [.rows false [.i64, .i64] rs] => some (decide (len = rs.length) && decide (rs.length <= 1000000), .int .u64 (cn f r n rs), [])
 | _, _ => none
theorem mU : CtOk (GGx kCa kDb) PP (163, sO) := by
 refine aG Tryz.func163 (by kernel_rfl) rfl fun a0 h0 c0 v0 N0 e hc => ?_
 unfold sO at e
 split at e
 ·rename_i f r n len rs
  cases e
  have hE := aD (kCa := kCa) (kDb := kDb) (cts := [(180, c_at), (177, mR)]) (inl := []) ⟨BH, jM, trivial⟩ trivial
  refine ak hE 2 Tryz.func163 rfl rfl ?_
  simp only [Bool.and_eq_true, decide_eq_true_eq] at hc
  obtain ⟨hc1, hc2⟩ := hc
  subst hc1
  repeat (first | refine ah ?_ | refine sat_nd ?_)
  refine jL hE 2 (fun a : Int × Int => ([(3, .ptr 1 0 0), (7, I (aK f r n).1), (8, I (aK f r n).2.1), (10, U a.2), (22, .sl 0 0 rs.length none), (23, I rs.length), (24, I a.1)], [.rows false [.i64, .i64] rs, .cells true [I f, I r]]))
   (fun a => ∃ k : Nat, k <= rs.length /\ a.1 = k /\ a.2 = (rs.take k).foldl (fP f r (aK f r n).1 (aK f r n).2.1) 0) (fun a => rs.length - a.1.toNat) (0, 0)
   (Ent.ren [0, 1] [3, 7, 8, 10, 22, 23, 24] rfl rfl rfl) ⟨0, Nat.zero_le _, rfl, rfl⟩ ?_
  rintro ⟨i, set⟩ ⟨k, hk, h1, h2⟩
  dsimp only at h1 h2 ⊢
  refine au (fun hlt => ?_) (fun hlt => ?_)
  ·simp only [decide_eq_true_eq] at hlt
   have hki : i.toNat = k := by omega
   refine ae (by simp; omega) ?_
   repeat (first | refine ah ?_ | refine sat_nd ?_)
   have hstep := tj rs [] (fP f r (aK f r n).1 (aK f r n).2.1) 0 (show k < rs.length by omega)
   rw [<- h2, <- hki] at hstep
   have hnext : i64.wrap (i + 1) = ((k + 1 : Nat) : Int) := by rw [aB (by omega) (by omega)]; omega
   refine au (fun hon => ?_) (fun hon => ?_)
   ·have hon' : decide ((sZ f r (aK f r n).1 (aK f r n).2.1 (rs.getD i.toNat [])).2 = 0) = true := hon
    refine ae (by have := (kH (of_decide_eq_true hon)).1; exact decide_eq_true this) ?_
    refine ag ⟨(_, _), ⟨k + 1, by omega, hnext, ?_⟩, ?_, Ent.ren [0, 1] [3, 7, 8, 10, 22, 23, 24] rfl rfl rfl⟩
    ·rw [<- hki, hstep, fP, hon']; rfl
    ·show _ - (i64.wrap (i + 1)).toNat < _
     rw [hnext]; omega
   ·have hon' : decide ((sZ f r (aK f r n).1 (aK f r n).2.1 (rs.getD i.toNat [])).2 = 0) = false := hon
    refine ag ⟨(_, _), ⟨k + 1, by omega, hnext, ?_⟩, ?_, Ent.ren [0, 1] [3, 7, 8, 10, 22, 23, 24] rfl rfl rfl⟩
    ·rw [<- hki, hstep, fP, hon']; rfl
    ·show _ - (i64.wrap (i + 1)).toNat < _
     rw [hnext]; omega
  ·simp only [decide_eq_false_iff_not] at hlt
   obtain rfl : k = rs.length := by omega
   rw [List.take_length] at h2
   refine ag (ag (ai (.inr rfl) rfl rfl rfl (by rw [h2]; rfl)))
 ·cases e
end
end Go.Ab
namespace Go.Ab
open Go.Proofs
section
variable {kCa kDb : Bool}
def ki (f r df dr : Int) : Nat -> Int -> Int -> List Int
 | 0, _, _ => []
 | k + 1, x, y => bif decide ((atR f r (IntKind.i64.wrap (x + df)) (IntKind.i64.wrap (y + dr))).2 = 0) then (atR f r (IntKind.i64.wrap (x + df)) (IntKind.i64.wrap (y + dr))).1 :: ki f r df dr k (IntKind.i64.wrap (x + df)) (IntKind.i64.wrap (y + dr)) else []
def gi (df dr : Int) : Bool := decide (8 <= imax true (imax true (imax true df (IntKind.i64.wrap (0 - df))) dr) (IntKind.i64.wrap (0 - dr))) || decide (df < -8) || decide (dr < -8)
def rayL (f r n df dr : Int) : List Int := bif aj f r n && !(decide (df = 0) && decide (dr = 0)) && !gi df dr then ki f r df dr 9 (aK f r n).1 (aK f r n).2.1 else []
def rayV (f r n df dr : Int) : List (List V) := (rayL f r n df dr).map fun x => [I x]
theorem Ds {df dr : Int} (h : gi df dr = false) : -7 <= df /\ df <= 7 /\ -7 <= dr /\ dr <= 7 := by
 simp only [gi, Bool.or_eq_false_iff, decide_eq_false_iff_not] at h
 obtain ⟨⟨h1, h2⟩, h3⟩ := h
 have m : ∀ x y : Int, x <= imax true x y /\ y <= imax true x y := fun x y => by
  unfold imax
  by_cases h : x < y <;> simp [h] <;> omega
 have e1 := m df (IntKind.i64.wrap (0 - df))
 have e2 := m (imax true df (IntKind.i64.wrap (0 - df))) dr
 have e3 := m (imax true (imax true df (IntKind.i64.wrap (0 - df))) dr) (IntKind.i64.wrap (0 - dr))
 have f1 : df <= 7 := by omega
 have f2 : dr <= 7 := by omega
 rw [aB (n := 0 - df) (by omega) (by omega)] at e1 e2 e3
 rw [aB (n := 0 - dr) (by omega) (by omega)] at e3
 rw [aB (n := 0 - df) (by omega) (by omega), aB (n := 0 - dr) (by omega) (by omega)] at h1
 omega
theorem qF {f r n : Int} (h : aj f r n = true) : 0 <= (aK f r n).1 /\ (aK f r n).1 < f /\ 0 <= (aK f r n).2.1 /\ (aK f r n).2.1 < r /\ (aK f r n).1 = n % f /\ (aK f r n).2.1 = n / f := by
 have hv := bE h
 obtain ⟨a1, a2, a3, a4⟩ := cI hv
 have hm := fX hv
 simp only [aK, h, cond_true]
 simp only [aj, Bool.and_eq_true, decide_eq_true_eq] at h
 obtain ⟨⟨h1, h2⟩, h3⟩ := h
 rw [eB hv] at h3
 have e1 : n.tmod f = n % f := Int.tmod_eq_emod_of_nonneg h2
 have e2 : n.tdiv f = n / f := Int.tdiv_eq_ediv_of_nonneg h2
 have b1 := Int.emod_nonneg n (show f ≠ 0 by omega)
 have b2 := Int.emod_lt_of_pos n (show 0 < f by omega)
 have b3 : 0 <= n / f := Int.ediv_nonneg h2 (by omega)
 have b4 : n / f < r := Int.ediv_lt_of_lt_mul (by omega) (by rw [Int.mul_comm]; exact h3)
 rw [e1, e2, aB (by omega) (by omega)]
 exact ⟨b1, b2, b3, b4, rfl, rfl⟩
theorem qJ {f r x y : Int} (h : onB f r x y = true) : 0 <= x /\ x < f /\ 0 <= y /\ y < r := by
 simp only [onB, Bool.and_eq_true, decide_eq_true_eq] at h
 obtain ⟨⟨⟨b1, b2⟩, b3⟩, b4⟩ := h
 exact ⟨b1, b2, b3, b4⟩
theorem Gt (f r n df dr : Int) : jZ (GGx kCa kDb) PP 179 [[I f, I r], [I n], [I df], [I dr]] (rayV f r n df dr) := by
 have hE := aD (kCa := kCa) (kDb := kDb) (cts := [(177, mR), (180, c_at)]) (inl := []) ⟨jM, BH, trivial⟩ trivial
 refine xB hE Tryz.func179 rfl rfl rfl rfl fun nn l S0 ρc J ok => ?_
 refine YG.seq (YG.seg hE 2 ?_)
 repeat (first | refine ah ?_ | refine sat_nd ?_)
 refine ag ?_
 refine YG.seq (YG.seg hE 2 ?_)
 repeat (first | refine ah ?_ | refine sat_nd ?_)
 refine au (fun h1 => ag ⟨.inr rfl, .inl ?_⟩) (fun h1 => ag ?_)
 ·have : rayV f r n df dr = [] := by
   cases hv : aj f r n <;> simp_all [rayV, rayL, aK]
  rw [this]; rfl
 have hv : aj f r n = true := by cases hv : aj f r n <;> simp_all [aK]
 have hnz : (decide (df = 0) && decide (dr = 0)) = false := by
  cases h : (decide (df = 0) && decide (dr = 0)) <;> simp_all
 refine YG.seq (YG.seg hE 2 ?_)
 repeat (first | refine ah ?_ | refine sat_nd ?_)
 refine au (fun h2 => ag ⟨.inr rfl, .inl ?_⟩) (fun h2 => ag ?_)
 ·have h2 : gi df dr = true := h2
  have : rayV f r n df dr = [] := by simp [rayV, rayL, h2]
  rw [this]; rfl
 have h2 : gi df dr = false := h2
 have hL : rayL f r n df dr = ki f r df dr 9 (aK f r n).1 (aK f r n).2.1 := by simp only [rayL, hv, hnz, h2]; rfl
 have hb := Ds h2
 have hp := qF hv
 have hsz := cI (bE hv)
 have hdd : df ≠ 0 \/ dr ≠ 0 := by
  by_cases e : df = 0
  ·right; rintro rfl; simp [e] at hnz
  ·exact .inl e
 refine YG.block (YG.loop (fun a : Nat × Int × Int => (some a.1, [(0, .yl 4), (1, .ptr 0 0 0), (2, .ptr 1 0 0), (3, .ptr 2 0 0), (4, .ptr 3 0 0), (6, I a.2.1), (7, I a.2.2)], hp0 [[I f, I r], [I n], [I df], [I dr]]))
  (fun a => 0 <= a.2.1 /\ a.2.1 < f /\ 0 <= a.2.2 /\ a.2.2 < r /\ (1 <= df -> a.1 <= a.2.1) /\ (df <= -1 -> a.2.1 + a.1 <= 7) /\ (1 <= dr -> a.1 <= a.2.2) /\ (dr <= -1 -> a.2.2 + a.1 <= 7) /\ a.1 <= (rayL f r n df dr).length /\ (rayL f r n df dr).drop a.1 = ki f r df dr (9 - a.1) a.2.1 a.2.2)
  (fun a => 8 - a.1) (0, (aK f r n).1, (aK f r n).2.1) rfl (Ent.ren [0, 1, 2, 3, 4] [0, 1, 2, 3, 4, 6, 7] rfl rfl rfl) ?_ ?_)
 ·exact ⟨hp.1, hp.2.1, hp.2.2.1, hp.2.2.2.1, by intro; simp; omega, by intro; simp; omega, by intro; simp; omega, by intro; simp; omega, Nat.zero_le _, by simpa using hL⟩
 rintro ⟨i, x, y⟩ ⟨i1, i2, i3, i4, i5, i6, i7, i8, i9, i10⟩
 dsimp only at i1 i2 i3 i4 i5 i6 i7 i8 i9 i10 ⊢
 have hi8 : i <= 7 := by omega
 refine YG.block (YG.seq (YG.seg hE 2 ?_))
 repeat (first | refine ah ?_ | refine sat_nd ?_)
 refine ag ?_
 refine YG.seq (YG.seg hE 2 ?_)
 repeat (first | refine ah ?_ | refine sat_nd ?_)
 refine ag ?_
 refine YG.seq (YG.yregAt ok 2 5 rfl rfl rfl ?_)
 refine ag ?_
 have hgo : ∀ b, decide ((atR f r (IntKind.i64.wrap (x + df)) (IntKind.i64.wrap (y + dr))).2 = 0) = b -> ki f r df dr (9 - i) x y = bif b then (atR f r (IntKind.i64.wrap (x + df)) (IntKind.i64.wrap (y + dr))).1 :: ki f r df dr (8 - i) (IntKind.i64.wrap (x + df)) (IntKind.i64.wrap (y + dr)) else [] := by
  intro b hb
  rw [show 9 - i = (8 - i) + 1 by omega]
  simp only [ki, hb]
 refine ⟨fun hg => ?_, fun hg => ?_⟩
 ·have hg : decide ((atR f r (IntKind.i64.wrap (x + df)) (IntKind.i64.wrap (y + dr))).2 = 0) = true := by simpa using hg
  have he := of_decide_eq_true hg
  obtain ⟨p1, p2, p3, p4, p5⟩ := kH he
  have hon := qJ p4
  have hwx : IntKind.i64.wrap (x + df) = x + df := aB (by omega) (by omega)
  have hwy : IntKind.i64.wrap (y + dr) = y + dr := aB (by omega) (by omega)
  have hr := hgo true hg
  rw [cond_true] at hr
  rw [hr] at i10
  have hlt : i < (rayL f r n df dr).length := by
   have := congrArg List.length i10
   simp only [List.length_drop, List.length_cons] at this
   omega
  have hat : (rayL f r n df dr)[i]? = some (atR f r (IntKind.i64.wrap (x + df)) (IntKind.i64.wrap (y + dr))).1 := by
   have := congrArg (fun l : List Int => l[0]?) i10
   simpa using this
  have hdr : (rayL f r n df dr).drop (i + 1) = ki f r df dr (8 - i) (IntKind.i64.wrap (x + df)) (IntKind.i64.wrap (y + dr)) := by
   have := congrArg (List.drop 1) i10
   simpa [List.drop_drop, Nat.add_comm] using this
  repeat (first | refine ah ?_ | refine sat_nd ?_)
  refine ag ?_
  refine ⟨i, [I (atR f r (IntKind.i64.wrap (x + df)) (IntKind.i64.wrap (y + dr))).1], [0, 1, 2, 3, 4, 6, 7, 59], rfl, by simp [rayV, hat], rfl, rfl, rfl, rfl, fun b => ?_⟩
  cases b with
  | true =>
   refine ag ?_
   refine YG.seg hE 2 ?_
   refine ag ⟨(i + 1, IntKind.i64.wrap (x + df), IntKind.i64.wrap (y + dr)), ?_, ?_, rfl, Ent.ren [0, 1, 2, 3, 4] [0, 1, 2, 3, 4, 6, 7] rfl rfl rfl⟩
   ·dsimp only
    rw [hwx, hwy] at hon
    rw [hdr, hwx, hwy, show 9 - (i + 1) = 8 - i by omega]
    refine ⟨hon.1, hon.2.1, hon.2.2.1, hon.2.2.2, ?_, ?_, ?_, ?_, by omega, rfl⟩ <;> intro h <;> push_cast <;> omega
   ·dsimp only; omega
  | false =>
   refine ag ?_
   refine YG.seg hE 2 ?_
   exact ag ⟨.inr rfl, .inr rfl⟩
 ·have hg : decide ((atR f r (IntKind.i64.wrap (x + df)) (IntKind.i64.wrap (y + dr))).2 = 0) = false := by simpa using hg
  have hr := hgo false hg
  rw [cond_false] at hr
  rw [hr] at i10
  have hlen : i = (rayL f r n df dr).length := by
   have := congrArg List.length i10
   simp only [List.length_drop, List.length_nil] at this
   omega
  refine ag ?_
  refine YG.seg hE 2 ?_
  exact ag ⟨.inr rfl, .inl (by simp [rayV, <- hlen])⟩
end
end Go.Ab
namespace Go.Ab
open IntKind
open Go.Proofs
section
variable {kCa kDb : Bool}
theorem xy {f r n df dr : Int} {i : Nat} {vs : List V} (h : (rayV f r n df dr)[i]? = some vs) : ∃ x, (rayL f r n df dr)[i]? = some x /\ vs = [I x] /\ 0 <= x /\ x < 64 := by
 simp only [rayV, List.getElem?_map, Option.map_eq_some_iff] at h
 obtain ⟨x, h1, rfl⟩ := h
 refine ⟨x, h1, rfl, ?_⟩
 have hm := List.mem_of_getElem? h1
 have key : ∀ (k : Nat) (a b : Int), x ∈ ki f r df dr k a b -> 0 <= x /\ x < 64 := by
  intro k
  induction k with
  | zero => intro a b h; simp [ki] at h
  | succ k ih =>
   intro a b h
   rw [ki] at h
   cases hb : decide ((atR f r (i64.wrap (a + df)) (i64.wrap (b + dr))).2 = 0) with
   | false => rw [hb] at h; simp at h
   | true =>
    rw [hb, cond_true] at h
    rcases List.mem_cons.1 h with rfl | h
    ·have := kH (of_decide_eq_true hb); exact ⟨this.1, this.2.1⟩
    ·exact ih _ _ h
 unfold rayL at hm
 cases hc : (aj f r n && !(decide (df = 0) && decide (dr = 0)) && !gi df dr) with
 | false => rw [hc] at hm; simp at hm
 | true => rw [hc, cond_true] at hm; exact key _ _ _ hm
theorem ye {f r n df dr : Int} : ∀ vs ∈ rayV f r n df dr, vs.length = 1 := by
 intro vs h
 simp only [rayV, List.mem_map] at h
 obtain ⟨x, _, rfl⟩ := h
 rfl
theorem nN {f r n df dr : Int} : (rayV f r n df dr).length = (rayL f r n df dr).length := by simp [rayV]
theorem AA : eu PP 179 := ent Tryz.func179 rfl rfl
def eR (b : Int) : List Int -> Int -> Int
 | [], s => s
 | x :: l, s => bif decide (x = b) then s else eR b l (uor s (ushl 1 x))
def bJ (f r a b : Int) : Int × Int := bif decide ((dirR f r a b).2.2 = 0) then (eR b (rayL f r a (dirR f r a b).1 (dirR f r a b).2.1) 0, 0) else (0, (dirR f r a b).2.2)
theorem BK {b : Int} {l : List Int} {i : Nat} {x s : Int} (h : l[i]? = some x) : eR b (l.drop i) s = bif decide (x = b) then s else eR b (l.drop (i + 1)) (uor s (ushl 1 x)) := by
 obtain ⟨h1, h2⟩ := List.getElem?_eq_some_iff.1 h
 rw [List.drop_eq_getElem_cons h1, h2, eR]
def dB (occ : Int) : List Int -> Int -> Int
 | [], s => s
 | x :: l, s => bif decide (uand (ushr occ x) 1 = 1) then uor s (ushl 1 x) else dB occ l (uor s (ushl 1 x))
theorem yQ {b : Int} {l : List Int} {i : Nat} {x s : Int} (h : l[i]? = some x) : dB b (l.drop i) s = bif decide (uand (ushr b x) 1 = 1) then uor s (ushl 1 x) else dB b (l.drop (i + 1)) (uor s (ushl 1 x)) := by
 obtain ⟨h1, h2⟩ := List.getElem?_eq_some_iff.1 h
 rw [List.drop_eq_getElem_cons h1, h2, dB]
def eD (f r n occ s : Int) (row : List Int) : Int := dB occ (rayL f r n (row.getD 0 0) (row.getD 1 0)) s
def dw (f r n occ : Int) (rs : List (List Int)) : Int := rs.foldl (eD f r n occ) 0
def fU : CF
 | [.agg [.int .i64 f, .int .i64 r], .int .i64 a, .int .i64 b], [] => some (true, .tup [U (bJ f r a b).1, I (bJ f r a b).2], [])
 | _, _ => none
theorem sY : CtOk (GGx kCa kDb) PP (124, fU) := by
 refine aG Tryz.func124 (by kernel_rfl) rfl fun a0 h0 c0 v0 N0 e hc => ?_
 unfold fU at e
 split at e
 ·rename_i f r a b
  cases e
  have hE := aD (kCa := kCa) (kDb := kDb) (cts := [(160, GZ)]) (inl := [(161, Tryz.f161)]) ⟨EY, trivial⟩ ⟨⟨Tryz.func161, by kernel_rfl⟩, trivial⟩
  refine ak hE 2 Tryz.func124 rfl rfl ?_
  repeat (first | refine ah ?_ | refine sat_nd ?_)
  refine au (fun h1 => ?_) (fun h1 => ?_)
  ·have h1 : decide ((dirR f r a b).2.2 = 0) = false := by simpa using h1
   exact ag (ai (.inr rfl) rfl rfl rfl (by rw [bJ, h1]; rfl))
  have h1 : decide ((dirR f r a b).2.2 = 0) = true := by simpa using h1
  repeat (first | refine ah ?_ | refine sat_nd ?_)
  generalize hL : rayL f r a (dirR f r a b).1 (dirR f r a b).2.1 = L
  refine nL hE 2 7 [3, 4, 5, 6] [3, 5, 11] (Ent.ren [0, 1, 2, 3, 4, 5, 6] [3, 5, 11, 28] rfl rfl rfl) (Gt f r a (dirR f r a b).1 (dirR f r a b).2.1) ye AA rfl rfl rfl rfl rfl rfl
   (fun i hp' => ∃ s, eR b (L.drop i) s = eR b L 0 /\ hp' = [.cells true [I f, I r], .cells true [I b], .cells true [U s], .cells true [I f, I r], .cells true [I a], .cells true [I (dirR f r a b).1], .cells true [I (dirR f r a b).2.1]])
   (fun e hp' => e = .exit 0 /\ ∃ s, s = eR b L 0 /\ hp' = [.cells true [I f, I r], .cells true [I b], .cells true [U s], .cells true [I f, I r], .cells true [I a], .cells true [I (dirR f r a b).1], .cells true [I (dirR f r a b).2.1]])
   ⟨0, rfl, rfl⟩ ?_ ?_ ?_ ?_ ?_
  ·rintro i hp' ⟨s, _, rfl⟩; rfl
  ·rintro e hp' ⟨_, s, _, rfl⟩; rfl
  ·rintro i vs hp' hi ⟨s, hs, rfl⟩
   obtain ⟨x, hx, rfl, x0, x1⟩ := xy hi
   rw [hL] at hx
   rw [BK hx] at hs
   refine ag ⟨rfl, ?_⟩
   refine au (fun h2 => ?_) (fun h2 => ?_)
   ·rw [h2, cond_true] at hs
    exact ag ⟨_, Ent.ren [0, 1, 2, 3, 4, 5, 6] [] rfl rfl rfl, rfl, s, hs, rfl⟩
   ·rw [h2, cond_false] at hs
    repeat (first | refine ah ?_ | refine sat_nd ?_)
    refine ag ⟨_, Ent.ren [0, 1, 2, 3, 4, 5, 6] [] rfl rfl rfl, _, hs, rfl⟩
  ·rintro hp' ⟨s, hs, rfl⟩
   rw [nN, hL, List.drop_length] at hs
   have hs : s = eR b L 0 := hs
   exact ag (ai (.inr rfl) rfl rfl rfl (by rw [bJ, h1, hL, hs]; rfl))
  ·rintro e hp' ⟨rfl, s, hs, rfl⟩
   exact ag (ai (.inr rfl) rfl rfl rfl (by rw [bJ, h1, hL, hs]; rfl))
 ·cases e
def wC : CF
 | [.agg [.int .i64 f, .int .i64 r], .int .i64 n, .int .u64 occ, .sl 0 0 len none], [.rows false [.i64, .i64] rs] => some (decide (len = rs.length) && decide (rs.length <= 1000000), .int .u64 (dw f r n occ rs), [])
 | _, _ => none
theorem zb : CtOk (GGx kCa kDb) PP (164, wC) := by
 refine aG Tryz.func164 (by kernel_rfl) rfl fun a0 h0 c0 v0 N0 e hc => ?_
 unfold wC at e
 split at e
 ·rename_i f r n occ len rs
  cases e
  have hE := aD (kCa := kCa) (kDb := kDb) (cts := []) (inl := [(161, Tryz.f161)]) trivial ⟨⟨Tryz.func161, by kernel_rfl⟩, trivial⟩
  refine ak hE 2 Tryz.func164 rfl rfl ?_
  simp only [Bool.and_eq_true, decide_eq_true_eq] at hc
  obtain ⟨hc1, hc2⟩ := hc
  subst hc1
  repeat (first | refine ah ?_ | refine sat_nd ?_)
  refine jL hE 2 (fun a : Int × Int => ([(1, I n), (4, .ptr 1 0 0), (6, .ptr 2 0 0), (9, .ptr 3 0 0), (13, .sl 0 0 rs.length none), (14, I rs.length), (15, I a.1)], [.rows false [.i64, .i64] rs, .cells true [I f, I r], .cells true [U occ], .cells true [U a.2]]))
   (fun a => ∃ k : Nat, k <= rs.length /\ a.1 = k /\ a.2 = (rs.take k).foldl (eD f r n occ) 0) (fun a => rs.length - a.1.toNat) (0, 0)
   (Ent.ren [0, 1, 2, 3] [1, 4, 6, 9, 13, 14, 15] rfl rfl rfl) ⟨0, Nat.zero_le _, rfl, rfl⟩ ?_
  rintro ⟨i, set⟩ ⟨k, hk, h1, h2⟩
  dsimp only at h1 h2 ⊢
  refine au (fun hlt => ?_) (fun hlt => ?_)
  ·simp only [decide_eq_true_eq] at hlt
   have hki : i.toNat = k := by omega
   refine ae (by simp; omega) ?_
   repeat (first | refine ah ?_ | refine sat_nd ?_)
   have hstep := tj rs [] (eD f r n occ) 0 (show k < rs.length by omega)
   rw [<- h2, <- hki] at hstep
   have hnext : i64.wrap (i + 1) = ((k + 1 : Nat) : Int) := by rw [aB (by omega) (by omega)]; omega
   generalize hL : rayL f r n ((rs.getD i.toNat []).getD 0 0) ((rs.getD i.toNat []).getD 1 0) = L
   refine nL hE 2 9 [5, 6, 7, 8] [1, 4, 6, 9, 13, 14, 15] (Ent.ren [0, 1, 2, 3, 4, 5, 6, 7, 8] [1, 4, 6, 9, 13, 14, 15, 25] rfl rfl rfl) (Gt f r n ((rs.getD i.toNat []).getD 0 0) ((rs.getD i.toNat []).getD 1 0)) ye AA rfl rfl rfl rfl rfl rfl
    (fun j hp' => ∃ s, dB occ (L.drop j) s = dB occ L set /\ hp' = [.rows false [.i64, .i64] rs, .cells true [I f, I r], .cells true [U occ], .cells true [U s], .cells true [I ((rs.getD i.toNat []).getD 0 0), I ((rs.getD i.toNat []).getD 1 0)], .cells true [I f, I r], .cells true [I n], .cells true [I ((rs.getD i.toNat []).getD 0 0)], .cells true [I ((rs.getD i.toNat []).getD 1 0)]])
    (fun e hp' => e = .exit 2 /\ ∃ s, s = dB occ L set /\ hp' = [.rows false [.i64, .i64] rs, .cells true [I f, I r], .cells true [U occ], .cells true [U s], .cells true [I ((rs.getD i.toNat []).getD 0 0), I ((rs.getD i.toNat []).getD 1 0)], .cells true [I f, I r], .cells true [I n], .cells true [I ((rs.getD i.toNat []).getD 0 0)], .cells true [I ((rs.getD i.toNat []).getD 1 0)]])
    ⟨set, rfl, rfl⟩ ?_ ?_ ?_ ?_ ?_
   ·rintro j hp' ⟨s, _, rfl⟩; rfl
   ·rintro e hp' ⟨_, s, _, rfl⟩; rfl
   ·rintro j vs hp' hi ⟨s, hs, rfl⟩
    obtain ⟨x, hx, rfl, x0, x1⟩ := xy hi
    rw [hL] at hx
    rw [yQ hx] at hs
    refine ag ⟨rfl, ?_⟩
    repeat (first | refine ah ?_ | refine sat_nd ?_)
    refine au (fun h2 => ?_) (fun h2 => ?_)
    ·have h2 : decide (uand (ushr occ x) 1 = 1) = true := h2
     rw [h2, cond_true] at hs
     exact ag ⟨_, Ent.ren [0, 1, 2, 3, 4, 5, 6, 7, 8] [] rfl rfl rfl, rfl, _, hs, rfl⟩
    ·have h2 : decide (uand (ushr occ x) 1 = 1) = false := h2
     rw [h2, cond_false] at hs
     exact ag ⟨_, Ent.ren [0, 1, 2, 3, 4, 5, 6, 7, 8] [] rfl rfl rfl, _, hs, rfl⟩
   ·rintro hp' ⟨s, hs, rfl⟩
    rw [nN, hL, List.drop_length] at hs
    have hs : s = dB occ L set := hs
    refine ag ⟨(_, _), ⟨k + 1, by omega, hnext, ?_⟩, ?_, Ent.ren [0, 1, 2, 3] [1, 4, 6, 9, 13, 14, 15] rfl rfl rfl⟩
    ·rw [<- hki, hstep, eD, hL]; exact hs
    ·show _ - (i64.wrap (i + 1)).toNat < _
     rw [hnext]; omega
   ·rintro e hp' ⟨rfl, s, hs, rfl⟩
    refine ag ⟨(_, _), ⟨k + 1, by omega, hnext, ?_⟩, ?_, Ent.ren [0, 1, 2, 3] [1, 4, 6, 9, 13, 14, 15] rfl rfl rfl⟩
    ·rw [<- hki, hstep, eD, hL]; exact hs
    ·show _ - (i64.wrap (i + 1)).toNat < _
     rw [hnext]; omega
  ·simp only [decide_eq_false_iff_not] at hlt
   obtain rfl : k = rs.length := by omega
   rw [List.take_length] at h2
   exact ag (ag (ai (.inr rfl) rfl rfl rfl (by rw [h2]; rfl)))
 ·cases e
end
end Go.Ab
namespace Go.Ab
open Go.Proofs
section
variable {kCa kDb : Bool}
def bU (f r kd n occ : Int) : Int × Int :=
 bif gg f r n occ then
  (bif decide (kd = 2) then (cn f r n gW, 0) else bif decide (kd = 3) then (dw f r n occ fy, 0) else bif decide (kd = 4) then (dw f r n occ fB, 0)
   else bif decide (kd = 5) then (uor (dw f r n occ fy) (dw f r n occ fB), 0) else bif decide (kd = 6) then (uor (cn f r n fy) (cn f r n fB), 0) else (0, 2))
 else (0, 2)
def fN (f r : Int) (bl : Bool) (n : Int) : Int × Int := bif aj f r n then (cn f r n [[-1, fwd bl], [1, fwd bl]], 0) else (0, 2)
def one1 (f r : Int) (bl : Bool) (n occ : Int) : Int := cF (cn f r n [[0, fwd bl]]) occ
def oJ (f r : Int) (bl : Bool) (n occ : Int) : Bool := decide (one1 f r bl n occ = 0) || decide (r < 6) || !decide (IntKind.i64.wrap (n.tdiv f) = bif bl then IntKind.i64.wrap (r - 2) else 1)
def cO (f r : Int) (bl : Bool) (n occ : Int) : Int × Int :=
 bif gg f r n occ then
  (bif oJ f r bl n occ then (one1 f r bl n occ, 0)
   else (uor (one1 f r bl n occ) (cF (cn f r n [[0, IntKind.i64.wrap (2 * fwd bl)]]) occ), 0))
 else (0, 2)
def nP : CF
 | [.agg [.int .i64 f, .int .i64 r], .int .i8 kd, .int .i64 n, .int .u64 occ], [] => some (true, .tup [U (bU f r kd n occ).1, I (bU f r kd n occ).2], [])
 | _, _ => none
theorem jV : CtOk (GGx kCa kDb) PP (125, nP) := by
 refine aG Tryz.func125 (by kernel_rfl) rfl fun a0 h0 c0 v0 N0 e hc => ?_
 unfold nP at e
 split at e
 ·rename_i f r kd n occ
  cases e
  have hE := aD (kCa := kCa) (kDb := kDb) (cts := [(162, pW), (163, sO), (164, wC)]) (inl := []) ⟨ov, mU, zb, trivial⟩ trivial
  refine ak hE 2 Tryz.func125 rfl rfl ?_
  repeat (first | refine ah ?_ | refine sat_nd ?_)
  refine au (fun h1 => ?_) (fun h1 => ?_)
  ·have h1 : gg f r n occ = false := by simpa using h1
   exact ag (ai (.inr rfl) rfl rfl rfl (by rw [bU, h1]; rfl))
  have h1 : gg f r n occ = true := by simpa using h1
  refine au (fun h2 => ?_) (fun h2 => ?_)
  ·repeat (first | refine ah ?_ | refine sat_nd ?_)
   exact ag (ai (.inr rfl) rfl rfl rfl (by rw [bU, h1, cond_true, h2]; rfl))
  refine au (fun h3 => ?_) (fun h3 => ?_)
  ·repeat (first | refine ah ?_ | refine sat_nd ?_)
   exact ag (ai (.inr rfl) rfl rfl rfl (by rw [bU, h1, cond_true, h2, h3]; rfl))
  refine au (fun h4 => ?_) (fun h4 => ?_)
  ·repeat (first | refine ah ?_ | refine sat_nd ?_)
   exact ag (ai (.inr rfl) rfl rfl rfl (by rw [bU, h1, cond_true, h2, h3, h4]; rfl))
  refine au (fun h5 => ?_) (fun h5 => ?_)
  ·repeat (first | refine ah ?_ | refine sat_nd ?_)
   exact ag (ai (.inr rfl) rfl rfl rfl (by rw [bU, h1, cond_true, h2, h3, h4, h5]; rfl))
  refine au (fun h6 => ?_) (fun h6 => ?_)
  ·repeat (first | refine ah ?_ | refine sat_nd ?_)
   exact ag (ai (.inr rfl) rfl rfl rfl (by rw [bU, h1, cond_true, h2, h3, h4, h5, h6]; rfl))
  exact ag (ai (.inr rfl) rfl rfl rfl (by rw [bU, h1, cond_true, h2, h3, h4, h5, h6]; rfl))
 ·cases e
def tF : CF
 | [.agg [.int .i64 f, .int .i64 r], .bool bl, .int .i64 n], [] => some (true, .tup [U (fN f r bl n).1, I (fN f r bl n).2], [])
 | _, _ => none
theorem mC : CtOk (GGx kCa kDb) PP (158, tF) := by
 refine aG Tryz.func158 (by kernel_rfl) rfl fun a0 h0 c0 v0 N0 e hc => ?_
 unfold tF at e
 split at e
 ·rename_i f r bl n
  cases e
  have hE := aD (kCa := kCa) (kDb := kDb) (cts := [(71, eU), (176, iV), (163, sO)]) (inl := []) ⟨cW, kD, mU, trivial⟩ trivial
  refine ak hE 2 Tryz.func158 rfl rfl ?_
  repeat (first | refine ah ?_ | refine sat_nd ?_)
  refine au (fun h1 => ?_) (fun h1 => ?_)
  ·have h1 : aj f r n = false := by simpa using h1
   exact ag (ai (.inr rfl) rfl rfl rfl (by rw [fN, h1]; rfl))
  have h1 : aj f r n = true := by simpa using h1
  repeat (first | refine ah ?_ | refine sat_nd ?_)
  exact ag (ai (.inr rfl) rfl rfl rfl (by rw [fN, h1]; rfl))
 ·cases e
def qs : CF
 | [.agg [.int .i64 f, .int .i64 r], .bool bl, .int .i64 n, .int .u64 occ], [] => some (true, .tup [U (cO f r bl n occ).1, I (cO f r bl n occ).2], [])
 | _, _ => none
theorem ot : CtOk (GGx kCa kDb) PP (157, qs) := by
 refine aG Tryz.func157 (by kernel_rfl) rfl fun a0 h0 c0 v0 N0 e hc => ?_
 unfold qs at e
 split at e
 ·rename_i f r bl n occ
  cases e
  have hE := aD (kCa := kCa) (kDb := kDb) (cts := [(162, pW), (163, sO), (176, iV)]) (inl := []) ⟨ov, mU, kD, trivial⟩ trivial
  refine ak hE 2 Tryz.func157 rfl rfl ?_
  repeat (first | refine ah ?_ | refine sat_nd ?_)
  refine au (fun h1 => ?_) (fun h1 => ?_)
  ·have h1 : gg f r n occ = false := by simpa using h1
   exact ag (ai (.inr rfl) rfl rfl rfl (by rw [cO, h1]; rfl))
  have h1 : gg f r n occ = true := by simpa using h1
  have hv : aj f r n = true := by simp only [gg, Bool.and_eq_true] at h1; exact h1.1
  have hf := cI (bE hv)
  repeat (first | refine ah ?_ | refine sat_nd ?_)
  refine au (fun h2 => ?_) (fun h2 => ?_)
  ·subst h2
   repeat (first | refine ah ?_ | refine sat_nd ?_)
   refine au (fun h3 => ?_) (fun h3 => ?_)
   ·have h3 : oJ f r true n occ = true := h3
    exact ag (ai (.inr rfl) rfl rfl rfl (by rw [cO, h1, cond_true, h3]; rfl))
   ·have h3 : oJ f r true n occ = false := h3
    repeat (first | refine ah ?_ | refine sat_nd ?_)
    exact ag (ai (.inr rfl) rfl rfl rfl (by rw [cO, h1, cond_true, h3]; rfl))
  ·subst h2
   repeat (first | refine ah ?_ | refine sat_nd ?_)
   refine au (fun h3 => ?_) (fun h3 => ?_)
   ·have h3 : oJ f r false n occ = true := h3
    exact ag (ai (.inr rfl) rfl rfl rfl (by rw [cO, h1, cond_true, h3]; rfl))
   ·have h3 : oJ f r false n occ = false := h3
    repeat (first | refine ah ?_ | refine sat_nd ?_)
    exact ag (ai (.inr rfl) rfl rfl rfl (by rw [cO, h1, cond_true, h3]; rfl))
 ·cases e
end
end Go.Ab
namespace Go.Ab
open IntKind
open Go.Proofs
section
variable {kCa kDb : Bool}
def numB (f r x y : Int) : Bool := decide (x < 0) || decide (f <= x) || decide (y < 0) || decide (r <= y)
def numR (f r x y : Int) : Int := bif numB f r x y then -1 else i64.wrap (i64.wrap (y * f) + x)
def hasB (s n : Int) : Bool := decide (0 <= n) && decide (n < 64) && decide ((ushr s n).tmod 2 = 1)
def xA : CF
 | [.agg [.int .i64 f, .int .i64 r]], [] => some (true, .bool (vsB f r), [])
 | _, _ => none
theorem tu : CtOk (GGx kCa kDb) PP (53, xA) := by
 refine aG Tryz.func53 (by kernel_rfl) rfl fun a0 h0 c0 v0 N0 e hc => ?_
 unfold xA at e
 split at e
 ·rename_i f r
  cases e
  have hE := aD (kCa := kCa) (kDb := kDb) (cts := []) (inl := []) trivial trivial
  refine ak hE 2 Tryz.func53 rfl rfl ?_
  repeat (first | refine ah ?_ | refine sat_nd ?_)
  exact ag (ai (.inr rfl) rfl rfl rfl (by simp [vsB, CA, Bool.and_assoc]))
 ·cases e
def my : CF
 | [.agg [.int .i64 f, .int .i64 r], .int .i64 n], [] => some (true, .bool (aj f r n), [])
 | _, _ => none
theorem kf : CtOk (GGx kCa kDb) PP (18, my) := by
 refine aG Tryz.func18 (by kernel_rfl) rfl fun a0 h0 c0 v0 N0 e hc => ?_
 unfold my at e
 split at e
 ·rename_i f r n
  cases e
  have hE := aD (kCa := kCa) (kDb := kDb) (cts := [(53, xA)]) (inl := []) ⟨tu, trivial⟩ trivial
  refine ak hE 2 Tryz.func18 rfl rfl ?_
  repeat (first | refine ah ?_ | refine sat_nd ?_)
  exact ag (ai (.inr rfl) rfl rfl rfl rfl)
 ·cases e
def fO : CF
 | [.agg [.int .i64 f, .int .i64 r], .int .i64 x, .int .i64 y], [] => some (true, .int .i64 (numR f r x y), [])
 | _, _ => none
theorem eE : CtOk (GGx kCa kDb) PP (97, fO) := by
 refine aG Tryz.func97 (by kernel_rfl) rfl fun a0 h0 c0 v0 N0 e hc => ?_
 unfold fO at e
 split at e
 ·rename_i f r x y
  cases e
  have hE := aD (kCa := kCa) (kDb := kDb) (cts := []) (inl := []) trivial trivial
  refine ak hE 2 Tryz.func97 rfl rfl ?_
  repeat (first | refine ah ?_ | refine sat_nd ?_)
  refine au (fun h1 => ?_) (fun h1 => ?_)
  ·have h1 : numB f r x y = true := h1
   exact ag (ai (.inr rfl) rfl rfl rfl (by rw [numR, h1]; rfl))
  ·have h1 : numB f r x y = false := h1
   exact ag (ai (.inr rfl) rfl rfl rfl (by rw [numR, h1]; rfl))
 ·cases e
def da : CF
 | [.agg [.int .i64 f, .int .i64 _r], .int .i64 n], [] => some (!decide (f = 0), .agg [I (n.tmod f), I (i64.wrap (n.tdiv f))], [])
 | _, _ => none
theorem bP : CtOk (GGx kCa kDb) PP (48, da) := by
 refine aG Tryz.func48 (by kernel_rfl) rfl fun a0 h0 c0 v0 N0 e hc => ?_
 unfold da at e
 split at e
 ·rename_i f r n
  cases e
  have hE := aD (kCa := kCa) (kDb := kDb) (cts := []) (inl := []) trivial trivial
  refine ak hE 2 Tryz.func48 rfl rfl ?_
  have hc : ¬ f = 0 := by simpa using hc
  repeat (first | refine ah ?_ | refine sat_nd ?_)
  exact ag (ai (.inr rfl) rfl rfl rfl rfl)
 ·cases e
def CW : CF
 | [.int .u64 s, .int .i64 n], [] => some (true, .bool (hasB s n), [])
 | _, _ => none
theorem qm : CtOk (GGx kCa kDb) PP (34, CW) := by
 refine aG Tryz.func34 (by kernel_rfl) rfl fun a0 h0 c0 v0 N0 e hc => ?_
 unfold CW at e
 split at e
 ·rename_i s n
  cases e
  have hE := aD (kCa := kCa) (kDb := kDb) (cts := []) (inl := []) trivial trivial
  refine ak hE 2 Tryz.func34 rfl rfl ?_
  repeat (first | refine ah ?_ | refine sat_nd ?_)
  exact ag (ai (.inr rfl) rfl rfl rfl rfl)
 ·cases e
def ofL : List Int -> Int -> Int
 | [], s => s
 | x :: l, s => ofL l (bif hasB s x then s else u64.wrap (s + ushl 1 x))
theorem JI {l : List Int} {i : Nat} {x s : Int} (h : l[i]? = some x) : ofL (l.drop i) s = ofL (l.drop (i + 1)) (bif hasB s x then s else u64.wrap (s + ushl 1 x)) := by
 obtain ⟨h1, h2⟩ := List.getElem?_eq_some_iff.1 h
 rw [List.drop_eq_getElem_cons h1, h2, ofL]
def c_Of : CF
 | [.sl 0 0 len none], [.ints false .i64 zs] => some (decide (len = zs.length) && decide (zs.length <= 1000000) && zs.all fun x => decide (0 <= x), .int .u64 (ofL zs 0), [])
 | _, _ => none
theorem IW : CtOk (GGx kCa kDb) PP (20, c_Of) := by
 refine aG Tryz.func20 (by kernel_rfl) rfl fun a0 h0 c0 v0 N0 e hc => ?_
 unfold c_Of at e
 split at e
 ·rename_i len zs
  cases e
  have hE := aD (kCa := kCa) (kDb := kDb) (cts := [(34, CW)]) (inl := []) ⟨qm, trivial⟩ trivial
  refine ak hE 2 Tryz.func20 rfl rfl ?_
  simp only [Bool.and_eq_true, decide_eq_true_eq, List.all_eq_true] at hc
  obtain ⟨⟨hc1, hc2⟩, hc3⟩ := hc
  subst hc1
  refine jL hE 2 (fun a : Int × Int => ([(0, .sl 0 0 zs.length none), (3, U a.2), (4, I a.1)], [.ints false .i64 zs]))
   (fun a => ∃ k : Nat, k <= zs.length /\ a.1 = k /\ ofL (zs.drop k) a.2 = ofL zs 0) (fun a => zs.length - a.1.toNat) (0, 0)
   (Ent.ren [0] [0, 3, 4] rfl rfl rfl) ⟨0, by omega, rfl, rfl⟩ ?_
  rintro ⟨i, set⟩ ⟨k, hk, h1, h2⟩
  dsimp only at h1 h2 ⊢
  refine au (fun hlt => ?_) (fun hlt => ?_)
  ·simp only [decide_eq_true_eq] at hlt
   have hnext : i64.wrap (i + 1) = ((k + 1 : Nat) : Int) := by rw [aB (by omega) (by omega)]; omega
   have hki : i.toNat = k := by omega
   have hlt' : k < zs.length := by omega
   have hget : zs[k]? = some (zs.getD i.toNat 0) := by simp [hki, List.getD, hlt']
   have hmem := hc3 _ (List.mem_of_getElem? hget)
   rw [JI hget] at h2
   refine ae (by simp; omega) ?_
   repeat (first | refine ah ?_ | refine sat_nd ?_)
   refine au (fun hon => ?_) (fun hon => ?_)
   ·have hon : (!hasB set (zs.getD i.toNat 0)) = true := hon
    rw [Bool.not_eq_true'] at hon
    rw [hon, cond_false] at h2
    repeat (first | (first | refine ah ?_ | refine sat_nd ?_) | refine ae (decide_eq_true hmem) ?_)
    refine ag ⟨(i64.wrap (i + 1), _), ⟨k + 1, by omega, hnext, h2⟩, ?_, Ent.ren [0] [0, 3, 4] rfl rfl rfl⟩
    show _ - (i64.wrap (i + 1)).toNat < _
    rw [hnext]; omega
   ·have hon : (!hasB set (zs.getD i.toNat 0)) = false := hon
    rw [Bool.not_eq_false'] at hon
    repeat (first | refine ah ?_ | refine sat_nd ?_)
    rw [hon, cond_true] at h2
    refine ag ⟨(i64.wrap (i + 1), _), ⟨k + 1, by omega, hnext, h2⟩, ?_, Ent.ren [0] [0, 3, 4] rfl rfl rfl⟩
    show _ - (i64.wrap (i + 1)).toNat < _
    rw [hnext]; omega
  ·simp only [decide_eq_false_iff_not] at hlt
   obtain rfl : k = zs.length := by omega
   rw [List.drop_length] at h2
   exact ag (ag (ai (.inr rfl) rfl rfl rfl (by rw [<- h2]; rfl)))
 ·cases e
end
section
variable {kCa kDb : Bool}
def fc (f r df dr px py : Int) : Nat -> Int -> List Int
 | 0, _ => []
 | m + 1, k => bif decide (numR f r (i64.wrap (px + i64.wrap (k * df))) (i64.wrap (py + i64.wrap (k * dr))) < 0) then [] else numR f r (i64.wrap (px + i64.wrap (k * df))) (i64.wrap (py + i64.wrap (k * dr))) :: fc f r df dr px py m (i64.wrap (k + 1))
def cx (f r n df dr : Int) : List Int := bif !aj f r n || (decide (df = 0) && decide (dr = 0)) then [] else fc f r df dr (n.tmod f) (i64.wrap (n.tdiv f)) 8 1
theorem De (f r df dr px py : Int) (m : Nat) : ∀ k, (fc f r df dr px py m k).length <= m := by
 induction m with
 | zero => intro k; simp [fc]
 | succ m ih =>
  intro k
  rw [fc]
  cases decide (numR f r (i64.wrap (px + i64.wrap (k * df))) (i64.wrap (py + i64.wrap (k * dr))) < 0) with
  | true => simp
  | false => have := ih (i64.wrap (k + 1)); simp; omega
theorem jH (f r n df dr : Int) : (cx f r n df dr).length <= 8 := by
 unfold cx
 cases (!aj f r n || (decide (df = 0) && decide (dr = 0))) with
 | true => simp
 | false => exact De ..
def qP : CF
 | [.agg [.int .i64 f, .int .i64 r], .int .i64 n, .int .i64 df, .int .i64 dr], [] => some (true, .sl 0 0 (cx f r n df dr).length none, [.ints true .i64 (cx f r n df dr)])
 | _, _ => none
theorem uR : CtOk (GGx kCa kDb) PP (70, qP) := by
 refine aG Tryz.func70 (by kernel_rfl) rfl fun a0 h0 c0 v0 N0 e hc => ?_
 unfold qP at e
 split at e
 ·rename_i f r n df dr
  cases e
  have hE := aD (kCa := kCa) (kDb := kDb) (cts := [(18, my), (48, da), (97, fO)]) (inl := []) ⟨kf, bP, eE, trivial⟩ trivial
  refine mb hE 2 Tryz.func70 rfl rfl ?_
  repeat (first | refine ah ?_ | refine sat_nd ?_)
  refine au (fun h0 => ?_) (fun h0 => ?_)
  ·have hz : cx f r n df dr = [] := by rw [cx, show (!aj f r n || (decide (df = 0) && decide (dr = 0))) = true from h0]; rfl
   rw [hz]
   exact ag (Fw ((Ent.phanT (t := 8) (o := .ints true .i64 []) rfl ⟨by simp, by simp, trivial, rfl⟩ (aI rfl))) (bN 1 (.inr rfl) rfl rfl rfl rfl rfl rfl))
  have hz : cx f r n df dr = fc f r df dr (n.tmod f) (i64.wrap (n.tdiv f)) 8 1 := by rw [cx, show (!aj f r n || (decide (df = 0) && decide (dr = 0))) = false from h0]; rfl
  have hv : aj f r n = true := by cases h : aj f r n <;> simp_all
  have hf := cI (bE hv)
  refine ae (by simp; omega) ?_
  refine jL hE 2 (fun a : Int × List Int => ([(2, I df), (3, I dr), (4, .ptr 0 0 0), (9, .ptr 1 0 0), (10, .sl 2 0 a.2.length none), (11, I a.1)], [.cells true [I f, I r], .cells true [I (n.tmod f), I (i64.wrap (n.tdiv f))], .ints true .i64 a.2]))
   (fun a => ∃ k : Nat, 1 <= k /\ k <= 9 /\ a.1 = k /\ a.2 ++ fc f r df dr (n.tmod f) (i64.wrap (n.tdiv f)) (9 - k) k = cx f r n df dr) (fun a => 9 - a.1.toNat) (1, [])
   ((Ent.phanT (t := 10) (o := .ints true .i64 []) rfl ⟨by simp, by simp, trivial, rfl⟩ (aI rfl)).trans (Ent.ren [0, 1, 2] [2, 3, 4, 9, 10, 11] rfl rfl rfl)) ⟨1, by omega, by omega, rfl, hz.symm⟩ ?_
  rintro ⟨i, zs⟩ ⟨k, hk1, hk, h1, h3⟩
  dsimp only at h1 h3 ⊢
  have hb : zs.length <= 8 := by have := congrArg List.length h3; have := jH f r n df dr; simp at *; omega
  refine au (fun hlt => ?_) (fun hlt => ?_)
  ·simp only [decide_eq_true_eq] at hlt
   have hnext : i64.wrap (i + 1) = ((k + 1 : Nat) : Int) := by rw [aB (by omega) (by omega)]; omega
   rw [show 9 - k = (9 - (k + 1)) + 1 by omega, fc, <- h1, hnext] at h3
   repeat (first | refine ah ?_ | refine sat_nd ?_)
   refine au (fun hon => ?_) (fun hon => ?_)
   ·have hon : decide (numR f r (i64.wrap (n.tmod f + i64.wrap (i * df))) (i64.wrap (i64.wrap (n.tdiv f) + i64.wrap (i * dr))) < 0) = true := hon
    rw [hon, cond_true, List.append_nil] at h3
    subst h3
    refine ag (ag (Jc (bN 2 (.inr rfl) rfl rfl rfl rfl rfl rfl)))
   ·have hon : decide (numR f r (i64.wrap (n.tmod f + i64.wrap (i * df))) (i64.wrap (i64.wrap (n.tdiv f) + i64.wrap (i * dr))) < 0) = false := hon
    rw [hon, cond_false] at h3
    refine ae (b := decide (zs.length = zs.length) && decide ((zs.length + 1) * 8 <= 140737488355328) && true) (by simp; omega) ?_
    refine ag ⟨(i64.wrap (i + 1), zs ++ [numR f r (i64.wrap (n.tmod f + i64.wrap (i * df))) (i64.wrap (i64.wrap (n.tdiv f) + i64.wrap (i * dr)))]), ⟨k + 1, by omega, by omega, hnext, by rw [<- h3]; simp⟩, ?_, Ent.ren [0, 1, 4] [2, 3, 4, 9, 10, 11] rfl rfl rfl⟩
    show _ - (i64.wrap (i + 1)).toNat < _
    rw [hnext]; omega
  ·simp only [decide_eq_false_iff_not] at hlt
   obtain rfl : k = 9 := by omega
   rw [fc, List.append_nil] at h3
   subst h3
   refine ag (ag (Jc (bN 2 (.inr rfl) rfl rfl rfl rfl rfl rfl)))
 ·cases e
end
section
variable {kCa kDb : Bool}
def subS (s : List UInt8) (a b : Int) : List UInt8 := (s.drop a.toNat).take (b.toNat - a.toNat)
def FU (f _r n : Int) : List UInt8 := subS [97, 98, 99, 100, 101, 102, 103, 104] (n.tmod f) (i64.wrap (n.tmod f + 1)) ++ subS [49, 50, 51, 52, 53, 54, 55, 56] (i64.wrap (n.tdiv f)) (i64.wrap (i64.wrap (n.tdiv f) + 1))
theorem GB {f r n : Int} (h : aj f r n = true) : 0 <= n.tmod f /\ n.tmod f < f /\ 0 <= n.tdiv f /\ n.tdiv f < r /\ i64.wrap (n.tdiv f) = n.tdiv f /\ i64.wrap (n.tmod f + 1) = n.tmod f + 1 /\ i64.wrap (n.tdiv f + 1) = n.tdiv f + 1 := by
 have hp := qF h
 simp only [aK, h, cond_true] at hp
 obtain ⟨a1, a2, a3, a4⟩ := cI (bE h)
 have hv : 0 <= n := by simp only [aj, Bool.and_eq_true, decide_eq_true_eq] at h; exact h.1.2
 have e2 : n.tdiv f = n / f := Int.tdiv_eq_ediv_of_nonneg hv
 have e3 : i64.wrap (n.tdiv f) = n.tdiv f := by rw [hp.2.2.2.2.2, e2]
 rw [e3] at hp
 refine ⟨hp.1, hp.2.1, hp.2.2.1, hp.2.2.2.1, e3, aB (by omega) (by omega), aB (by omega) (by omega)⟩
def tC : CF
 | [.agg [.int .i64 f, .int .i64 r], .int .i64 n], [] => some (aj f r n, .str (FU f r n), [])
 | _, _ => none
theorem nB : CtOk (GGx kCa kDb) PP (134, tC) := by
 refine aG Tryz.func134 (by kernel_rfl) rfl fun a0 h0 c0 v0 N0 e hc => ?_
 unfold tC at e
 split at e
 ·rename_i f r n
  cases e
  have hE := aD (kCa := kCa) (kDb := kDb) (cts := [(48, da)]) (inl := []) ⟨bP, trivial⟩ trivial
  refine ak hE 2 Tryz.func134 rfl rfl ?_
  obtain ⟨a1, a2, a3, a4⟩ := cI (bE hc)
  obtain ⟨b1, b2, b3, b4, b5, b6, b7⟩ := GB hc
  refine ae (by simp; omega) ?_
  repeat (first | refine ah ?_ | refine ae (by first | rfl | (simp [b5, b6, b7]; omega)) ?_)
  exact ag (ai (.inr rfl) rfl rfl rfl rfl)
 ·cases e
def mT (f r : Int) (s : List UInt8) : Nat -> Nat -> Int
 | 0, _ => -1
 | m + 1, k => bif FU f r k == s then k else mT f r s m (k + 1)
def cj (f r : Int) (s : List UInt8) : Int := mT f r s (f * r).toNat 0
def nE : CF
 | [.agg [.int .i64 f, .int .i64 r], .str s], [] => some (vsB f r, .int .i64 (cj f r s), [])
 | _, _ => none
theorem jY : CtOk (GGx kCa kDb) PP (133, nE) := by
 refine aG Tryz.func133 (by kernel_rfl) rfl fun a0 h0 c0 v0 N0 e hc => ?_
 unfold nE at e
 split at e
 ·rename_i f r s
  cases e
  have hE := aD (kCa := kCa) (kDb := kDb) (cts := [(134, tC)]) (inl := []) ⟨nB, trivial⟩ trivial
  refine ak hE 2 Tryz.func133 rfl rfl ?_
  have hm := fX hc
  have hw := eB hc
  refine jL hE 2 (fun a : Int => ([(1, .str s), (2, .ptr 0 0 0), (5, I a)], [.cells true [I f, I r]]))
   (fun a => ∃ k : Nat, k <= (f * r).toNat /\ a = k /\ mT f r s ((f * r).toNat - k) k = cj f r s) (fun a => (f * r).toNat - a.toNat) 0
   (Ent.ren [0] [1, 2, 5] rfl rfl rfl) ⟨0, by omega, rfl, rfl⟩ ?_
  rintro i ⟨k, hk, h1, h3⟩
  dsimp only at h1 h3 ⊢
  refine au (fun hlt => ?_) (fun hlt => ?_)
  ·simp only [decide_eq_true_eq] at hlt
   rw [hw] at hlt
   have hnext : i64.wrap (i + 1) = ((k + 1 : Nat) : Int) := by rw [aB (by omega) (by omega)]; omega
   rw [show (f * r).toNat - k = ((f * r).toNat - (k + 1)) + 1 by omega, mT, <- h1] at h3
   refine ae (by simp only [aj, Bool.and_eq_true, decide_eq_true_eq]; rw [hw]; exact ⟨⟨hc, by omega⟩, hlt⟩) ?_
   refine au (fun hon => ?_) (fun hon => ?_)
   ·have hon : (FU f r i == s) = true := hon
    rw [hon, cond_true] at h3
    refine ag (ag (ai (.inr rfl) rfl rfl rfl (by rw [<- h3])))
   ·have hon : (FU f r i == s) = false := hon
    rw [hon, cond_false] at h3
    refine ag ⟨i64.wrap (i + 1), ⟨k + 1, by omega, hnext, h3⟩, ?_, Ent.ren [0] [1, 2, 5] rfl rfl rfl⟩
    show _ - (i64.wrap (i + 1)).toNat < _
    rw [hnext]; omega
  ·simp only [decide_eq_false_iff_not] at hlt
   rw [hw] at hlt
   obtain rfl : k = (f * r).toNat := by omega
   rw [Nat.sub_self, mT] at h3
   refine ag (ag (ai (.inr rfl) rfl rfl rfl (by rw [<- h3])))
 ·cases e
end
end Go.Ab
namespace Go.Ab
open Go.Proofs
end Go.Ab
namespace Go.Ab
open IntKind
open Go.Proofs
theorem vj {f r X Y : Int} (h : vsB f r = true) : decide ((atR f r X Y).2 = 0) = onB f r X Y := by
 unfold atR
 cases h2 : onB f r X Y <;> simp [h]
theorem vE {f r X Y : Int} : numB f r X Y = !onB f r X Y := by
 rw [Bool.eq_iff_iff]
 simp only [numB, onB, Bool.or_eq_true, decide_eq_true_eq, Bool.not_eq_true', Bool.and_eq_false_iff, decide_eq_false_iff_not]
 omega
theorem su {f r X Y : Int} (h : vsB f r = true) (h2 : onB f r X Y = true) : numR f r X Y = (atR f r X Y).1 := by
 simp only [numR, vE, h2, atR, h, Bool.not_true, cond_true, cond_false, Int.add_comm]
theorem qB {f r X Y : Int} (h : vsB f r = true) : decide (numR f r X Y < 0) = !onB f r X Y := by
 cases h2 : onB f r X Y with
 | false => simp [numR, vE, h2]
 | true =>
  rw [su h h2]
  have h3 := vj (X := X) (Y := Y) h
  rw [h2] at h3
  have := kH (of_decide_eq_true h3)
  simp; omega
theorem jo {f r x y : Int} (h1 : 0 <= x) (h2 : x < f) (h3 : 0 <= y) (h4 : y < r) : onB f r x y = true := by simp [onB, *]
theorem KZ {f r df dr px py : Int} (h : vsB f r = true) (hb : -7 <= df /\ df <= 7 /\ -7 <= dr /\ dr <= 7) (hnz : df ≠ 0 \/ dr ≠ 0) (hp : onB f r px py = true) :
  ∀ (m k : Nat), m + k = 9 -> 1 <= k -> onB f r (px + ((k : Int) - 1) * df) (py + ((k : Int) - 1) * dr) = true -> ki f r df dr (m + 1) (px + ((k : Int) - 1) * df) (py + ((k : Int) - 1) * dr) = fc f r df dr px py m k := by
 have hv := cI h
 have hp := qJ hp
 intro m
 induction m with
 | zero =>
  intro k hk h1 hon
  obtain rfl : k = 9 := by omega
  have := qJ hon
  exfalso
  rcases hnz with e | e <;> omega
 | succ m ih =>
  intro k hk h1 hon
  have hon := qJ hon
  have hX : i64.wrap (px + ((k : Int) - 1) * df + df) = px + ((k : Int) + 1 - 1) * df /\ i64.wrap (py + ((k : Int) - 1) * dr + dr) = py + ((k : Int) + 1 - 1) * dr /\ i64.wrap (px + i64.wrap (k * df)) = px + ((k : Int) + 1 - 1) * df /\ i64.wrap (py + i64.wrap (k * dr)) = py + ((k : Int) + 1 - 1) * dr /\ i64.wrap ((k : Int) + 1) = ((k + 1 : Nat) : Int) := by
   have hk8 : k = 1 \/ k = 2 \/ k = 3 \/ k = 4 \/ k = 5 \/ k = 6 \/ k = 7 \/ k = 8 := by omega
   rcases hk8 with rfl | rfl | rfl | rfl | rfl | rfl | rfl | rfl <;>
   ·refine ⟨?_, ?_, ?_, ?_, ?_⟩
    ·rw [aB (by omega) (by omega)]; omega
    ·rw [aB (by omega) (by omega)]; omega
    ·rw [aB (n := _ * df) (by omega) (by omega), aB (by omega) (by omega)]; omega
    ·rw [aB (n := _ * dr) (by omega) (by omega), aB (by omega) (by omega)]; omega
    ·rw [aB (by omega) (by omega)]; omega
  obtain ⟨e1, e2, e3, e4, e5⟩ := hX
  rw [ki, fc, e1, e2, e3, e4, e5, vj h, qB h]
  cases h2 : onB f r (px + ((k : Int) + 1 - 1) * df) (py + ((k : Int) + 1 - 1) * dr) with
  | false => rfl
  | true =>
   rw [su h h2]
   have := ih (k + 1) (by omega) (by omega) (by push_cast; exact h2)
   push_cast at this ⊢
   simp only [cond_true, Bool.not_true, cond_false, this]
def inR (df dr : Int) : Bool := decide (-8 <= df) && decide (df <= 8) && decide (-8 <= dr) && decide (dr <= 8)
theorem KL {df dr : Int} (h : inR df dr = true) (h2 : gi df dr = true) : df = 8 \/ df = -8 \/ dr = 8 \/ dr = -8 := by
 simp only [inR, Bool.and_eq_true, decide_eq_true_eq] at h
 obtain ⟨⟨⟨a1, a2⟩, a3⟩, a4⟩ := h
 simp only [gi, Bool.or_eq_true, decide_eq_true_eq] at h2
 rw [aB (n := 0 - df) (by omega) (by omega), aB (n := 0 - dr) (by omega) (by omega)] at h2
 have m : ∀ x y : Int, imax true x y = x \/ imax true x y = y := fun x y => by
  unfold imax
  by_cases h : x < y <;> simp [h]
 have m1 := m df (0 - df)
 have m2 := m (imax true df (0 - df)) dr
 have m3 := m (imax true (imax true df (0 - df)) dr) (0 - dr)
 omega
theorem Is {df dr : Int} (h : inR df dr = false) : gi df dr = true := by
 cases hb : gi df dr with
 | true => rfl
 | false =>
  have := Ds hb
  simp [inR] at h
  omega
theorem GS (f r n df dr : Int) : rayL f r n df dr = bif inR df dr then cx f r n df dr else [] := by
 cases hv : aj f r n with
 | false => simp [rayL, cx, hv]
 | true =>
  cases hz : (decide (df = 0) && decide (dr = 0)) with
  | true => simp [rayL, cx, hv, hz]
  | false =>
   have hnz : df ≠ 0 \/ dr ≠ 0 := by
    by_cases e : df = 0
    ·right; rintro rfl; simp [e] at hz
    ·exact .inl e
   have hvs := bE hv
   have hb := cI hvs
   have hp := qF hv
   have hr : cx f r n df dr = fc f r df dr (aK f r n).1 (aK f r n).2.1 8 1 := by simp [cx, hv, hz, aK]
   cases hbig : gi df dr with
   | true =>
    have hl : rayL f r n df dr = [] := by simp [rayL, hbig]
    rw [hl]
    cases hi : inR df dr with
    | false => rfl
    | true =>
     have h8 := KL hi hbig
     simp only [inR, Bool.and_eq_true, decide_eq_true_eq] at hi
     obtain ⟨⟨⟨a1, a2⟩, a3⟩, a4⟩ := hi
     rw [cond_true, hr, fc, qB hvs]
     have hoff : onB f r (i64.wrap ((aK f r n).1 + i64.wrap (1 * df))) (i64.wrap ((aK f r n).2.1 + i64.wrap (1 * dr))) = false := by
      rw [aB (n := 1 * df) (by omega) (by omega), aB (n := 1 * dr) (by omega) (by omega), aB (by omega) (by omega), aB (by omega) (by omega)]
      cases ho : onB f r ((aK f r n).1 + 1 * df) ((aK f r n).2.1 + 1 * dr) with
      | false => rfl
      | true => have := qJ ho; omega
     rw [hoff]; rfl
   | false =>
    have hi : inR df dr = true := by
     cases hi : inR df dr with
     | true => rfl
     | false => rw [Is hi] at hbig; cases hbig
    have hg := KZ (f := f) (r := r) (df := df) (dr := dr) (px := (aK f r n).1) (py := (aK f r n).2.1) hvs (Ds hbig) hnz (jo hp.1 hp.2.1 hp.2.2.1 hp.2.2.2.1) 8 1 rfl (Nat.le_refl _) (by simpa using jo hp.1 hp.2.1 hp.2.2.1 hp.2.2.2.1)
    rw [hi, cond_true, hr]
    simp only [rayL, hv, hz, hbig, Bool.not_false, Bool.and_self, cond_true]
    simpa using hg
section
variable {kCa kDb : Bool}
theorem Ee {f : Int} (h : (!decide (f = 0)) = true) : ¬ f = 0 := by simpa using h
def absI (n : Int) : Int := bif decide (n < 0) then i64.wrap (0 - n) else n
def zu (f a b : Int) : Bool := decide (a = b) || (!decide (i64.wrap (b.tmod f - a.tmod f) = 0) && !decide (i64.wrap (i64.wrap (b.tdiv f) - i64.wrap (a.tdiv f)) = 0) && !decide (i64.wrap (b.tmod f - a.tmod f) = i64.wrap (i64.wrap (b.tdiv f) - i64.wrap (a.tdiv f))) && !decide (i64.wrap (i64.wrap (b.tmod f - a.tmod f) + i64.wrap (i64.wrap (b.tdiv f) - i64.wrap (a.tdiv f))) = 0))
def bg (f a b : Int) : Int × Int × Bool := bif zu f a b then (0, 0, false) else (sgn (i64.wrap (b.tmod f - a.tmod f)), sgn (i64.wrap (i64.wrap (b.tdiv f) - i64.wrap (a.tdiv f))), true)
def vX : CF
 | [.int .i64 n], [] => some (true, .int .i64 (sgn n), [])
 | _, _ => none
theorem yX : CtOk (GGx kCa kDb) PP (127, vX) := by
 refine aG Tryz.func127 (by kernel_rfl) rfl fun a0 h0 c0 v0 N0 e hc => ?_
 unfold vX at e
 split at e
 ·rename_i n
  cases e
  have hE := aD (kCa := kCa) (kDb := kDb) (cts := []) (inl := []) trivial trivial
  refine ak hE 2 Tryz.func127 rfl rfl ?_
  repeat' first | (first | refine ah ?_ | refine sat_nd ?_) | refine au (fun h => ?_) (fun h => ?_)
  all_goals exact ag (ai (.inr rfl) rfl rfl rfl (by first | rfl | (simp only [sgn, *, cond_true, cond_false]; done) | (simp only [sgn, *, cond_true, cond_false, Bool.not_true, Bool.not_false, Bool.and_true, Bool.true_and, Bool.and_false, Bool.false_and, Bool.or_true, Bool.true_or, Bool.or_false, Bool.false_or]; done) | simp_all [sgn]))
 ·cases e
def BC : CF
 | [.int .i64 n], [] => some (true, .int .i64 (absI n), [])
 | _, _ => none
theorem Bs : CtOk (GGx kCa kDb) PP (185, BC) := by
 refine aG Tryz.func185 (by kernel_rfl) rfl fun a0 h0 c0 v0 N0 e hc => ?_
 unfold BC at e
 split at e
 ·rename_i n
  cases e
  have hE := aD (kCa := kCa) (kDb := kDb) (cts := []) (inl := []) trivial trivial
  refine ak hE 2 Tryz.func185 rfl rfl ?_
  repeat' first | (first | refine ah ?_ | refine sat_nd ?_) | refine au (fun h => ?_) (fun h => ?_)
  all_goals exact ag (ai (.inr rfl) rfl rfl rfl (by first | rfl | (simp only [absI, *, cond_true, cond_false]; done) | (simp only [absI, *, cond_true, cond_false, Bool.not_true, Bool.not_false, Bool.and_true, Bool.true_and, Bool.and_false, Bool.false_and, Bool.or_true, Bool.true_or, Bool.or_false, Bool.false_or]; done) | simp_all [absI]))
 ·cases e
def yz : CF
 | [.agg [.int .i64 f, .int .i64 _r], .int .i64 a, .int .i64 b], [] => some (!decide (f = 0), .tup [I (bg f a b).1, I (bg f a b).2.1, Bb (bg f a b).2.2], [])
 | _, _ => none
theorem sX : CtOk (GGx kCa kDb) PP (69, yz) := by
 refine aG Tryz.func69 (by kernel_rfl) rfl fun a0 h0 c0 v0 N0 e hc => ?_
 unfold yz at e
 split at e
 ·rename_i f r a b
  cases e
  have hE := aD (kCa := kCa) (kDb := kDb) (cts := [(48, da), (127, vX)]) (inl := []) ⟨bP, yX, trivial⟩ trivial
  refine ak hE 2 Tryz.func69 rfl rfl ?_
  have hf := Ee hc
  repeat (first | refine ah ?_ | refine sat_nd ?_)
  refine au (fun h => ?_) (fun h => ?_)
  ·have h : zu f a b = true := h
   exact ag (ai (.inr rfl) rfl rfl rfl (by rw [bg, h]; rfl))
  ·have h : zu f a b = false := h
   repeat (first | refine ah ?_ | refine sat_nd ?_)
   exact ag (ai (.inr rfl) rfl rfl rfl (by rw [bg, h]; rfl))
 ·cases e
def EL : CF
 | [.bool b], [] => some (true, .int .i64 (fwd b), [])
 | _, _ => none
theorem xO : CtOk (GGx kCa kDb) PP (183, EL) := by
 refine aG Tryz.func183 (by kernel_rfl) rfl fun a0 h0 c0 v0 N0 e hc => ?_
 unfold EL at e
 split at e
 ·rename_i b
  cases e
  have hE := aD (kCa := kCa) (kDb := kDb) (cts := []) (inl := []) trivial trivial
  refine ak hE 2 Tryz.func183 rfl rfl ?_
  repeat' first | (first | refine ah ?_ | refine sat_nd ?_) | refine au (fun h => ?_) (fun h => ?_)
  all_goals exact ag (ai (.inr rfl) rfl rfl rfl (by first | rfl | (simp only [fwd, *, cond_true, cond_false]; done) | (simp only [fwd, *, cond_true, cond_false, Bool.not_true, Bool.not_false, Bool.and_true, Bool.true_and, Bool.and_false, Bool.false_and, Bool.or_true, Bool.true_or, Bool.or_false, Bool.false_or]; done) | simp_all [fwd]))
 ·cases e
def secR (r : Int) (bl : Bool) : Int := bif bl then i64.wrap (r - 2) else 1
def nX (f a b : Int) : Int := bif decide (absI (i64.wrap (i64.wrap (a.tdiv f) - i64.wrap (b.tdiv f))) < absI (i64.wrap (a.tmod f - b.tmod f))) then absI (i64.wrap (a.tmod f - b.tmod f)) else absI (i64.wrap (i64.wrap (a.tdiv f) - i64.wrap (b.tdiv f)))
def idxL (b : Int) : List Int -> Nat
 | [] => 0
 | x :: l => bif decide (x = b) then 0 else idxL b l + 1
def hasL (b : Int) : List Int -> Bool
 | [] => false
 | x :: l => decide (x = b) || hasL b l
def dV (f r a b : Int) : List Int := cx f r a (bg f a b).1 (bg f a b).2.1
def bM (f r a b : Int) : List Int := bif hasL b (dV f r a b) then (dV f r a b).take (idxL b (dV f r a b)) else []
def fF (s : Int) : List Int -> Bool
 | [] => true
 | x :: l => bif hasB s x then false else fF s l
theorem EU {s : Int} {l : List Int} {i : Nat} (h : i < l.length) : fF s (l.drop i) = bif hasB s (l.getD i 0) then false else fF s (l.drop (i + 1)) := by
 rw [List.drop_eq_getElem_cons h, fF]; simp [List.getD, h]
theorem vS {b : Int} {l : List Int} {i : Nat} (h : i < l.length) : hasL b (l.drop i) = (decide (l.getD i 0 = b) || hasL b (l.drop (i + 1))) := by
 rw [List.drop_eq_getElem_cons h, hasL]; simp [List.getD, h]
theorem Ij {b : Int} {l : List Int} {i : Nat} (h : i < l.length) : idxL b (l.drop i) = bif decide (l.getD i 0 = b) then 0 else idxL b (l.drop (i + 1)) + 1 := by
 rw [List.drop_eq_getElem_cons h, idxL]; simp [List.getD, h]
def pX : CF
 | [.agg [.int .i64 _f, .int .i64 r], .bool bl], [] => some (true, .int .i64 (secR r bl), [])
 | _, _ => none
theorem wv : CtOk (GGx kCa kDb) PP (184, pX) := by
 refine aG Tryz.func184 (by kernel_rfl) rfl fun a0 h0 c0 v0 N0 e hc => ?_
 unfold pX at e
 split at e
 ·rename_i f r bl
  cases e
  have hE := aD (kCa := kCa) (kDb := kDb) (cts := []) (inl := []) trivial trivial
  refine ak hE 2 Tryz.func184 rfl rfl ?_
  repeat' first | (first | refine ah ?_ | refine sat_nd ?_) | refine au (fun h => ?_) (fun h => ?_)
  all_goals exact ag (ai (.inr rfl) rfl rfl rfl (by first | rfl | (simp only [secR, *, cond_true, cond_false]; done) | (simp only [secR, *, cond_true, cond_false, Bool.not_true, Bool.not_false, Bool.and_true, Bool.true_and, Bool.and_false, Bool.false_and, Bool.or_true, Bool.true_or, Bool.or_false, Bool.false_or]; done) | simp_all [secR]))
 ·cases e
def Cp : CF
 | [.agg [.int .i64 f, .int .i64 _r], .int .i64 a, .int .i64 b], [] => some (!decide (f = 0), .int .i64 (nX f a b), [])
 | _, _ => none
theorem Bg : CtOk (GGx kCa kDb) PP (174, Cp) := by
 refine aG Tryz.func174 (by kernel_rfl) rfl fun a0 h0 c0 v0 N0 e hc => ?_
 unfold Cp at e
 split at e
 ·rename_i f r a b
  cases e
  have hE := aD (kCa := kCa) (kDb := kDb) (cts := [(48, da), (185, BC)]) (inl := []) ⟨bP, Bs, trivial⟩ trivial
  refine ak hE 2 Tryz.func174 rfl rfl ?_
  have hf := Ee hc
  repeat (first | refine ah ?_ | refine sat_nd ?_)
  refine au (fun h => ?_) (fun h => ?_)
  all_goals
   repeat (first | refine ah ?_ | refine sat_nd ?_)
   exact ag (ai (.inr rfl) rfl rfl rfl (by simp only [nX, *, cond_true, cond_false]))
 ·cases e
def BD : CF
 | [.sl 0 0 len none, .int .u64 s], [.ints false .i64 zs] => some (decide (len = zs.length) && decide (zs.length <= 1000000), .bool (fF s zs), [])
 | _, _ => none
theorem AX : CtOk (GGx kCa kDb) PP (175, BD) := by
 refine aG Tryz.func175 (by kernel_rfl) rfl fun a0 h0 c0 v0 N0 e hc => ?_
 unfold BD at e
 split at e
 ·rename_i len s zs
  cases e
  have hE := aD (kCa := kCa) (kDb := kDb) (cts := [(34, CW)]) (inl := []) ⟨qm, trivial⟩ trivial
  refine ak hE 2 Tryz.func175 rfl rfl ?_
  simp only [Bool.and_eq_true, decide_eq_true_eq] at hc
  obtain ⟨rfl, hc2⟩ := hc
  refine bZ hE 2 (fun i (_ : Unit) => ([(0, .sl 0 0 zs.length none), (1, U s), (5, I i)], [.ints false .i64 zs])) zs.length (fun j _ => fF s (zs.drop j) = fF s zs) () (by omega) (Ent.ren [0] [0, 1, 5] rfl rfl rfl) rfl ?_
  intro j i _ hij hj hz
  refine au (fun hlt => ?_) (fun hlt => ?_)
  ·have hlt' : j < zs.length := by simp at hlt; omega
   rw [EU hlt', show j = i.toNat by omega] at hz
   refine ae (by simp; omega) ?_
   repeat (first | refine ah ?_ | refine sat_nd ?_)
   refine au (fun hon => ?_) (fun hon => ?_)
   ·have hon : hasB s (zs.getD i.toNat 0) = true := hon
    rw [hon] at hz
    exact ag (ag (ai (.inr rfl) rfl rfl rfl (by rw [<- hz]; rfl)))
   ·have hon : hasB s (zs.getD i.toNat 0) = false := hon
    rw [hon] at hz
    exact ag ⟨hlt', (), by rw [<- hz, show i.toNat = j by omega]; rfl, Ent.ren [0] [0, 1, 5] rfl rfl rfl⟩
  ·obtain rfl : j = zs.length := by simp at hlt; omega
   rw [List.drop_length] at hz
   exact ag (ag (ai (.inr rfl) rfl rfl rfl (by rw [<- hz]; rfl)))
 ·cases e
end
section
variable {kCa kDb : Bool}
theorem HT (b : Int) (l : List Int) : idxL b l <= l.length := by
 induction l with
 | nil => simp [idxL]
 | cons x l ih => rw [idxL]; cases decide (x = b) <;> simp <;> omega
theorem nD (f r a b : Int) : (bM f r a b).length = bif hasL b (dV f r a b) then idxL b (dV f r a b) else 0 := by
 unfold bM
 have := HT b (dV f r a b)
 cases hasL b (dV f r a b) <;> simp; omega
def fJ (f r a b : Int) : List Int := bif hasL b (dV f r a b) then dV f r a b else []
theorem cg (f r a b : Int) : ((fJ f r a b).drop 0).take (bM f r a b).length = bM f r a b := by
 rw [nD]
 unfold fJ bM
 cases hasL b (dV f r a b) <;> simp
theorem Bh (f r a b : Int) : (fJ f r a b).length <= 8 := by
 unfold fJ dV
 cases hasL b _ <;> simp [jH]
theorem oE (f r a b : Int) : (bM f r a b).length <= 8 := by
 rw [<- cg, List.length_take]
 have := Bh f r a b
 simp; omega
def iA : CF
 | [.agg [.int .i64 f, .int .i64 r], .int .i64 a, .int .i64 b], [] => some (!decide (f = 0), .sl 0 0 (bM f r a b).length none, [.ints true .i64 (fJ f r a b)])
 | _, _ => none
theorem kp : CtOk (GGx kCa kDb) PP (33, iA) := by
 refine aG Tryz.func33 (by kernel_rfl) rfl fun a0 h0 c0 v0 N0 e hc => ?_
 unfold iA at e
 split at e
 ·rename_i f r a b
  cases e
  have hE := aD (kCa := kCa) (kDb := kDb) (cts := [(69, yz), (70, qP)]) (inl := []) ⟨sX, uR, trivial⟩ trivial
  refine mb hE 2 Tryz.func33 rfl rfl ?_
  have hf := Ee hc
  repeat (first | refine ah ?_ | refine sat_nd ?_)
  obtain ⟨zs, hzs⟩ : ∃ zs, cx f r a (bg f a b).1 (bg f a b).2.1 = zs := ⟨_, rfl⟩
  have hlen := jH f r a (bg f a b).1 (bg f a b).2.1
  rw [hzs] at hlen ⊢
  have hZ : dV f r a b = zs := hzs
  refine bZ hE 2 (fun i (_ : Unit) => ([(2, I b), (6, .nils), (10, .sl 1 0 zs.length none), (11, I i)], [.cells true [I f, I r], .ints true .i64 zs])) zs.length (fun j _ => hasL b (zs.drop j) = hasL b zs /\ (hasL b zs = true -> idxL b (zs.drop j) + j = idxL b zs)) () (by omega) (Ent.ren [0, 1] [2, 6, 10, 11] rfl rfl rfl) ⟨rfl, fun _ => rfl⟩ ?_
  intro j i _ hij hj hz
  obtain ⟨hz1, hz2⟩ := hz
  refine au (fun hlt => ?_) (fun hlt => ?_)
  ·have hlt' : j < zs.length := by simp at hlt; omega
   rw [vS hlt', show j = i.toNat by omega] at hz1
   rw [Ij hlt', show j = i.toNat by omega] at hz2
   refine ae (by simp; omega) ?_
   repeat (first | refine ah ?_ | refine sat_nd ?_)
   refine au (fun hon => ?_) (fun hon => ?_)
   ·have hon : decide (zs.getD i.toNat 0 = b) = true := hon
    rw [hon] at hz1 hz2
    have hx : hasL b zs = true := hz1.symm
    have hy : i.toNat = idxL b zs := by have := hz2 hx; simpa using this
    refine ae (by simp; omega) ?_
    refine ag (ag (Jc (bN 1 (.inr rfl) rfl rfl rfl rfl (by simp only [fJ, hZ, hx, cond_true]; rfl) (by rw [nD, hZ, hx, cond_true, <- hy]; rfl))))
   ·have hon : decide (zs.getD i.toNat 0 = b) = false := hon
    rw [hon, Bool.false_or] at hz1
    rw [hon, cond_false] at hz2
    exact ag ⟨hlt', (), ⟨by rw [<- hz1, show i.toNat = j by omega], fun h => by have := hz2 h; rw [show i.toNat = j by omega] at this; omega⟩, Ent.ren [0, 1] [2, 6, 10, 11] rfl rfl rfl⟩
  ·obtain rfl : j = zs.length := by simp at hlt; omega
   rw [List.drop_length] at hz1
   have hx : hasL b zs = false := hz1.symm
   refine ag (ag ?_)
   refine Fw ((Ent.phanT (t := 6) (o := .ints true .i64 []) rfl ⟨by simp, by simp, trivial, rfl⟩ (aI rfl))) (bN 2 (.inr rfl) rfl rfl rfl rfl (by simp only [fJ, hZ, hx, cond_false]; rfl) (by rw [nD, hZ, hx]; rfl))
 ·cases e
def bF (f r kd a b occ : Int) : Bool :=
 bif decide (kd = 2) then decide (i64.wrap (i64.wrap (i64.wrap (b.tmod f - a.tmod f) * i64.wrap (b.tmod f - a.tmod f)) + i64.wrap (i64.wrap (i64.wrap (b.tdiv f) - i64.wrap (a.tdiv f)) * i64.wrap (i64.wrap (b.tdiv f) - i64.wrap (a.tdiv f)))) = 5)
 else bif decide (kd = 6) then decide (nX f a b = 1)
 else (bg f a b).2.2 && (decide (kd = 5) || ((decide (i64.wrap (b.tmod f - a.tmod f) = 0) || decide (i64.wrap (i64.wrap (b.tdiv f) - i64.wrap (a.tdiv f)) = 0)) == decide (kd = 4))) && fF occ (bM f r a b)
def jg : CF
 | [.agg [.int .i64 f, .int .i64 r], .int .i8 kd, .int .i64 a, .int .i64 b, .int .u64 occ], [] => some (!decide (f = 0), .bool (bF f r kd a b occ), [])
 | _, _ => none
theorem kq : CtOk (GGx kCa kDb) PP (155, jg) := by
 refine aG Tryz.func155 (by kernel_rfl) rfl fun a0 h0 c0 v0 N0 e hc => ?_
 unfold jg at e
 split at e
 ·rename_i f r kd a b occ
  cases e
  have hE := aD (kCa := kCa) (kDb := kDb) (cts := [(48, da), (174, Cp), (69, yz), (33, iA), (175, BD)]) (inl := []) ⟨bP, Bg, sX, kp, AX, trivial⟩ trivial
  refine ak hE 2 Tryz.func155 rfl rfl ?_
  have hf := Ee hc
  repeat (first | refine ah ?_ | refine sat_nd ?_)
  refine au (fun h1 => ?_) (fun h1 => ?_)
  ·repeat (first | refine ah ?_ | refine sat_nd ?_)
   exact ag (ai (.inr rfl) rfl rfl rfl (by rw [bF, h1]; rfl))
  refine au (fun h2 => ?_) (fun h2 => ?_)
  ·repeat (first | refine ah ?_ | refine sat_nd ?_)
   exact ag (ai (.inr rfl) rfl rfl rfl (by rw [bF, h1, h2]; rfl))
  have ht := cg f r a b
  have hl := oE f r a b
  repeat (first | refine ah ?_ | refine sat_nd ?_)
  refine au (fun h3 => ?_) (fun h3 => ?_)
  ·repeat (first | refine ah ?_ | refine sat_nd ?_)
   refine ae (by rw [ht]; simp; omega) ?_
   repeat (first | refine ah ?_ | refine sat_nd ?_)
   exact ag (ai (.inr rfl) rfl rfl rfl (by
    show V.bool (fF occ (((fJ f r a b).drop 0).take (bM f r a b).length)) = _
    rw [ht, bF, h1, h2, cond_false, cond_false, h3]; rfl))
  ·repeat (first | refine ah ?_ | refine sat_nd ?_)
   exact ag (ai (.inr rfl) rfl rfl rfl (by rw [bF, h1, h2, cond_false, cond_false, h3]; rfl))
 ·cases e
end
abbrev px (f n : Int) : Int := n.tmod f
abbrev py (f n : Int) : Int := n.tdiv f
theorem eG {f r n : Int} (h : aj f r n = true) : 0 <= px f n /\ px f n < f /\ 0 <= py f n /\ py f n < r /\ i64.wrap (py f n) = py f n /\ 3 <= f /\ f <= 8 /\ 3 <= r /\ r <= 8 := by
 obtain ⟨b1, b2, b3, b4, b5, _, _⟩ := GB h
 have := cI (bE h)
 exact ⟨b1, b2, b3, b4, b5, this.1, this.2.1, this.2.2.1, this.2.2.2⟩
theorem zI {f r n : Int} (_h : aj f r n = true) : px f n + py f n * f = n := by
 have := Int.tmod_add_mul_tdiv n f
 rw [Int.mul_comm] at this
 exact this
theorem qH {f X Y x y : Int} (hf : 0 < f) (h1 : 0 <= X) (h2 : X < f) (h3 : 0 <= x) (h4 : x < f) (h : X + Y * f = x + y * f) : X = x /\ Y = y := by
 have e : (Y - y) * f = x - X := by rw [Int.sub_mul]; omega
 have hz : Y - y = 0 := by
  rcases Int.lt_trichotomy (Y - y) 0 with h | h | h
  ·have : (Y - y) * f <= -1 * f := Int.mul_le_mul_of_nonneg_right (by omega) (by omega)
   omega
  ·exact h
  ·have : 1 * f <= (Y - y) * f := Int.mul_le_mul_of_nonneg_right (by omega) (by omega)
   omega
 rw [hz, Int.zero_mul] at e
 omega
theorem iu {f r X Y b : Int} (hv : vsB f r = true) (ho : onB f r X Y = true) (hb : aj f r b = true) : numR f r X Y = b ↔ px f b = X /\ py f b = Y := by
 have h := vj (X := X) (Y := Y) hv
 rw [ho] at h
 have hp := kH (of_decide_eq_true h)
 have hx := qJ ho
 have hq := eG hb
 rw [su hv ho, hp.2.2.2.2]
 constructor
 ·intro e
  rw [<- zI hb] at e
  have := qH (by omega) hx.1 hx.2.1 hq.1 hq.2.1 e
  exact ⟨this.1.symm, this.2.symm⟩
 ·rintro ⟨rfl, rfl⟩; exact zI hb
theorem ng {f r a b : Int} (ha : aj f r a = true) (hb : aj f r b = true) : a = b ↔ px f a = px f b /\ py f a = py f b := by
 constructor
 ·rintro rfl; exact ⟨rfl, rfl⟩
 ·rintro ⟨h1, h2⟩; rw [<- zI ha, <- zI hb, h1, h2]
def unit (df dr : Int) : Prop := -1 <= df /\ df <= 1 /\ -1 <= dr /\ dr <= 1 /\ (df ≠ 0 \/ dr ≠ 0)
theorem dx {df dr : Int} (h : unit df dr) : (df = 1 /\ dr = 0) \/ (df = 0 /\ dr = 1) \/ (df = -1 /\ dr = 0) \/ (df = 0 /\ dr = -1) \/ (df = 1 /\ dr = 1) \/ (df = -1 /\ dr = 1) \/ (df = -1 /\ dr = -1) \/ (df = 1 /\ dr = -1) := by
 obtain ⟨h1, h2, h3, h4, h5⟩ := h
 omega
theorem KH {df dr x y : Int} (hu : unit df dr) (hx : 0 <= x /\ x <= 7) (hy : 0 <= y /\ y <= 7) {k : Nat} (hk : k <= 9) : i64.wrap (x + i64.wrap (k * df)) = x + k * df /\ i64.wrap (y + i64.wrap (k * dr)) = y + k * dr /\ i64.wrap ((k : Int) + 1) = ((k + 1 : Nat) : Int) := by
 rcases dx hu with ⟨rfl, rfl⟩ | ⟨rfl, rfl⟩ | ⟨rfl, rfl⟩ | ⟨rfl, rfl⟩ | ⟨rfl, rfl⟩ | ⟨rfl, rfl⟩ | ⟨rfl, rfl⟩ | ⟨rfl, rfl⟩ <;>
 ·refine ⟨?_, ?_, ?_⟩
  ·rw [aB (n := (k : Int) * _) (by omega) (by omega), aB (by omega) (by omega)]
  ·rw [aB (n := (k : Int) * _) (by omega) (by omega), aB (by omega) (by omega)]
  ·rw [aB (by omega) (by omega)]; omega
theorem Jj {f r df dr x y b : Int} (hv : vsB f r = true) (hu : unit df dr) (ho : onB f r x y = true) (hb : aj f r b = true) : ∀ (m k : Nat), m + k = 9 -> 1 <= k ->
  (hasL b (fc f r df dr x y m k) = true ↔ ∃ i : Nat, k <= i /\ i <= 8 /\ px f b = x + i * df /\ py f b = y + i * dr) := by
 have hx := qJ ho
 have hq := eG hb
 intro m
 induction m with
 | zero => intro k hk h1; simp only [fc, hasL]; exact ⟨fun h => (by cases h), fun ⟨i, h2, h3, _⟩ => by omega⟩
 | succ m ih =>
  intro k hk h1
  obtain ⟨e1, e2, e3⟩ := KH (x := x) (y := y) hu ⟨by omega, by omega⟩ ⟨by omega, by omega⟩ (k := k) (by omega)
  rw [fc, e1, e2, e3, qB hv]
  cases h2 : onB f r (x + (k : Int) * df) (y + (k : Int) * dr) with
  | false =>
   simp only [Bool.not_false, cond_true, hasL]
   refine ⟨fun h => (by cases h), fun ⟨i, h3, h4, h5, h6⟩ => ?_⟩
   have : onB f r (x + (k : Int) * df) (y + (k : Int) * dr) = true := by
    rcases dx hu with ⟨rfl, rfl⟩ | ⟨rfl, rfl⟩ | ⟨rfl, rfl⟩ | ⟨rfl, rfl⟩ | ⟨rfl, rfl⟩ | ⟨rfl, rfl⟩ | ⟨rfl, rfl⟩ | ⟨rfl, rfl⟩ <;> exact jo (by omega) (by omega) (by omega) (by omega)
   rw [h2] at this; cases this
  | true =>
   simp only [Bool.not_true, cond_false, hasL, Bool.or_eq_true, decide_eq_true_eq]
   rw [iu hv h2 hb, ih (k + 1) (by omega) (by omega)]
   constructor
   ·rintro (⟨h3, h4⟩ | ⟨i, h3, h4, h5⟩)
    ·exact ⟨k, Nat.le_refl _, by omega, h3, h4⟩
    ·exact ⟨i, by omega, h4, h5⟩
   ·rintro ⟨i, h3, h4, h5, h6⟩
    rcases Nat.lt_or_ge k i with h | h
    ·exact .inr ⟨i, h, h4, h5, h6⟩
    ·obtain rfl : i = k := by omega
     exact .inl ⟨h5, h6⟩
theorem HH {df dr : Int} (hu : unit df dr) : (decide (df = 0) && decide (dr = 0)) = false := by
 obtain ⟨_, _, _, _, h⟩ := hu
 simp only [Bool.and_eq_false_iff, decide_eq_false_iff_not]; exact h
theorem Kc {f r a df dr : Int} (ha : aj f r a = true) (hu : unit df dr) : cx f r a df dr = fc f r df dr (px f a) (py f a) 8 ((1 : Nat) : Int) := by
 have hp := eG ha
 simp [cx, ha, HH hu, hp.2.2.2.2.1]
theorem Bf {f r a b df dr : Int} (ha : aj f r a = true) (hb : aj f r b = true) (hu : unit df dr) :
  hasL b (cx f r a df dr) = true ↔ ∃ i : Nat, 1 <= i /\ i <= 8 /\ px f b = px f a + i * df /\ py f b = py f a + i * dr := by
 have hp := eG ha
 rw [Kc ha hu]
 exact Jj (bE ha) hu (jo hp.1 hp.2.1 hp.2.2.1 hp.2.2.2.1) hb 8 1 rfl (Nat.le_refl _)
theorem jx (n : Int) : (n < 0 /\ sgn n = -1) \/ (n = 0 /\ sgn n = 0) \/ (0 < n /\ sgn n = 1) := by
 unfold sgn
 rcases Int.lt_trichotomy n 0 with h | h | h
 ·left; simp [h]
 ·right; left; simp [h]
 ·right; right
  have : ¬ n < 0 := by omega
  simp [h, this]
theorem gY {f r a b : Int} (ha : aj f r a = true) (hb : aj f r b = true) : i64.wrap (b.tmod f - a.tmod f) = px f b - px f a /\ i64.wrap (i64.wrap (b.tdiv f) - i64.wrap (a.tdiv f)) = py f b - py f a := by
 have hp := eG ha
 have hq := eG hb
 show i64.wrap (px f b - px f a) = _ /\ i64.wrap (i64.wrap (py f b) - i64.wrap (py f a)) = _
 rw [hp.2.2.2.2.1, hq.2.2.2.2.1]
 exact ⟨aB (by omega) (by omega), aB (by omega) (by omega)⟩
def kj (x y : Int) : Prop := (x ≠ 0 \/ y ≠ 0) /\ (x = 0 \/ y = 0 \/ x = y \/ x = -y)
theorem Fb {f r a b : Int} (ha : aj f r a = true) (hb : aj f r b = true) : zu f a b = false ↔ kj (px f b - px f a) (py f b - py f a) := by
 have hp := eG ha
 have hq := eG hb
 obtain ⟨e1, e2⟩ := gY ha hb
 unfold zu
 rw [e1, e2, aB (by omega) (by omega)]
 simp only [Bool.or_eq_false_iff, Bool.and_eq_false_iff, decide_eq_false_iff_not, Bool.not_eq_false', decide_eq_true_eq]
 rw [ng ha hb]
 unfold kj
 omega
theorem sH {f r a b : Int} (ha : aj f r a = true) (hb : aj f r b = true) : (bg f a b = (0, 0, false) /\ ¬ kj (px f b - px f a) (py f b - py f a)) \/ (bg f a b = (sgn (px f b - px f a), sgn (py f b - py f a), true) /\ kj (px f b - px f a) (py f b - py f a)) := by
 obtain ⟨e1, e2⟩ := gY ha hb
 have h := Fb ha hb
 unfold bg
 rw [e1, e2]
 cases hl : zu f a b with
 | true => left; rw [hl] at h; exact ⟨rfl, fun h2 => by have := h.2 h2; cases this⟩
 | false => right; exact ⟨rfl, h.1 hl⟩
theorem ym {x y : Int} (h : kj x y) : unit (sgn x) (sgn y) := by
 obtain ⟨h1, _⟩ := h
 unfold unit
 have := jx x
 have := jx y
 omega
theorem pK {f r a b : Int} (ha : aj f r a = true) (hb : aj f r b = true) (h : (bg f a b).2.2 = true) : unit (bg f a b).1 (bg f a b).2.1 /\ hasL b (dV f r a b) = true := by
 have hp := eG ha
 have hq := eG hb
 rcases sH ha hb with ⟨e, _⟩ | ⟨e, h2⟩
 ·rw [e] at h; cases h
 ·rw [e]
  refine ⟨ym h2, ?_⟩
  unfold dV
  rw [e]
  rw [Bf ha hb (ym h2)]
  obtain ⟨h3, h4⟩ := h2
  have s1 := jx (px f b - px f a)
  have s2 := jx (py f b - py f a)
  rcases s1 with ⟨g1, s1⟩ | ⟨g1, s1⟩ | ⟨g1, s1⟩ <;> rcases s2 with ⟨g2, s2⟩ | ⟨g2, s2⟩ | ⟨g2, s2⟩ <;> simp only [s1, s2] <;>
  first
   | (exfalso; omega)
   | exact ⟨(px f b - px f a).natAbs, by omega, by omega, by omega, by omega⟩
   | exact ⟨(py f b - py f a).natAbs, by omega, by omega, by omega, by omega⟩
theorem Fq {f r a b df dr : Int} (ha : aj f r a = true) (hb : aj f r b = true) (hu : unit df dr) (h : hasL b (cx f r a df dr) = true) : bg f a b = (df, dr, true) := by
 have hp := eG ha
 have hq := eG hb
 obtain ⟨i, h1, h2, h3, h4⟩ := (Bf ha hb hu).1 h
 have s1 := jx (px f b - px f a)
 have s2 := jx (py f b - py f a)
 rcases sH ha hb with ⟨e, h5⟩ | ⟨e, _⟩
 ·exfalso
  apply h5
  unfold kj
  rcases dx hu with ⟨rfl, rfl⟩ | ⟨rfl, rfl⟩ | ⟨rfl, rfl⟩ | ⟨rfl, rfl⟩ | ⟨rfl, rfl⟩ | ⟨rfl, rfl⟩ | ⟨rfl, rfl⟩ | ⟨rfl, rfl⟩ <;> omega
 ·rw [e]
  have e1 : sgn (px f b - px f a) = df := by rcases dx hu with ⟨rfl, rfl⟩ | ⟨rfl, rfl⟩ | ⟨rfl, rfl⟩ | ⟨rfl, rfl⟩ | ⟨rfl, rfl⟩ | ⟨rfl, rfl⟩ | ⟨rfl, rfl⟩ | ⟨rfl, rfl⟩ <;> omega
  have e2 : sgn (py f b - py f a) = dr := by rcases dx hu with ⟨rfl, rfl⟩ | ⟨rfl, rfl⟩ | ⟨rfl, rfl⟩ | ⟨rfl, rfl⟩ | ⟨rfl, rfl⟩ | ⟨rfl, rfl⟩ | ⟨rfl, rfl⟩ | ⟨rfl, rfl⟩ <;> omega
  rw [e1, e2]
theorem gJ {f r X Y : Int} (hv : vsB f r = true) (ho : onB f r X Y = true) : aj f r (X + Y * f) = true /\ px f (X + Y * f) = X /\ py f (X + Y * f) = Y := by
 have hb := cI hv
 have hx := qJ ho
 have hm := fX hv
 have e1 : 0 <= Y * f := Int.mul_nonneg hx.2.2.1 (by omega)
 have e2 : (Y + 1) * f <= r * f := Int.mul_le_mul_of_nonneg_right (by omega) (by omega)
 rw [Int.add_mul, Int.mul_comm r f] at e2
 have hval : aj f r (X + Y * f) = true := by
  simp only [aj, Bool.and_eq_true, decide_eq_true_eq]
  rw [eB hv]
  exact ⟨⟨hv, by omega⟩, by omega⟩
 have hq := eG hval
 have := qH (f := f) (by omega) hx.1 hx.2.1 hq.1 hq.2.1 (zI hval).symm
 exact ⟨hval, this.1.symm, this.2.symm⟩
theorem aJ {f r n : Int} (h : aj f r n = true) : 0 <= n /\ n < f * r /\ n < 64 := by
 have hm := fX (bE h)
 simp only [aj, Bool.and_eq_true, decide_eq_true_eq] at h
 rw [eB h.1.1] at h
 exact ⟨h.1.2, h.2, by omega⟩
theorem qM {f r n : Int} (hv : vsB f r = true) (h1 : 0 <= n) (h2 : n < f * r) : aj f r n = true := by
 simp only [aj, Bool.and_eq_true, decide_eq_true_eq]
 rw [eB hv]
 exact ⟨⟨hv, h1⟩, h2⟩
theorem Gx {s n : Int} (hs : Uk s) : hasB s n = (decide (0 <= n) && decide (n < 64) && bt s n.toNat) := by
 unfold hasB
 by_cases h1 : 0 <= n
 ·by_cases h2 : n < 64
  ·simp only [h1, h2, decide_true, Bool.true_and]
   rw [AW hs h1 h2]
   unfold bt
   have : (((s.toNat >>> n.toNat : Nat) : Int).tmod 2) = ((s.toNat >>> n.toNat % 2 : Nat) : Int) := by
    rw [Int.tmod_eq_emod_of_nonneg (Int.natCast_nonneg _)]; norm_cast
   rw [this]
   have h3 : s.toNat.testBit n.toNat = (s.toNat >>> n.toNat).testBit 0 := by rw [Nat.testBit_shiftRight, Nat.add_zero]
   rw [h3, Nat.testBit_zero]
   congr 1
   exact propext ⟨fun h => by omega, fun h => by omega⟩
  ·simp [h2]
 ·simp [h1]
theorem lO {f r s n : Int} (hs : Uk s) (hn : aj f r n = true) : hasB s n = bt s n.toNat := by
 have := aJ hn
 rw [Gx hs]; simp [this.1, this.2.2]
theorem dM {f r a df dr x : Int} (ha : aj f r a = true) (h : x ∈ cx f r a df dr) : aj f r x = true := by
 have hv := bE ha
 have key : ∀ (m : Nat) (k : Int), x ∈ fc f r df dr (a.tmod f) (i64.wrap (a.tdiv f)) m k -> aj f r x = true := by
  intro m
  induction m with
  | zero => intro k h; simp [fc] at h
  | succ m ih =>
   intro k h
   rw [fc, qB hv] at h
   cases h2 : onB f r (i64.wrap (a.tmod f + i64.wrap (k * df))) (i64.wrap (i64.wrap (a.tdiv f) + i64.wrap (k * dr))) with
   | false => rw [h2] at h; simp at h
   | true =>
    rw [h2] at h
    simp only [Bool.not_true, cond_false, List.mem_cons] at h
    rcases h with rfl | h
    ·have h3 := vj (X := i64.wrap (a.tmod f + i64.wrap (k * df))) (Y := i64.wrap (i64.wrap (a.tdiv f) + i64.wrap (k * dr))) hv
     rw [h2] at h3
     have hp := kH (of_decide_eq_true h3)
     rw [su hv h2, hp.2.2.2.2]
     exact (gJ hv h2).1
    ·exact ih _ h
 unfold cx at h
 cases hc : (!aj f r a || (decide (df = 0) && decide (dr = 0))) with
 | true => rw [hc] at h; simp at h
 | false => rw [hc, cond_false] at h; exact key _ _ h
def OnS (f r s : Int) : Prop := ∀ m, m < 64 -> bt s m = true -> aj f r m = true
theorem wF {α : Type} (step : Int -> α -> Int) (p : α -> Nat -> Bool) : ∀ (rs : List α) (s : Int), (∀ s row, row ∈ rs -> Uk s -> Uk (step s row) /\ ∀ m, bt (step s row) m = (bt s m || p row m)) -> Uk s -> Uk (rs.foldl step s) /\ ∀ m, bt (rs.foldl step s) m = (bt s m || rs.any (p · m))
 | [], s, _, hs => ⟨hs, fun m => by simp⟩
 | row :: rs, s, h, hs => by
  obtain ⟨h1, h2⟩ := h s row (by simp) hs
  obtain ⟨h3, h4⟩ := wF step p rs (step s row) (fun s r hr => h s r (by simp [hr])) h1
  refine ⟨h3, fun m => ?_⟩
  rw [List.foldl_cons, h4, h2, List.any_cons, Bool.or_assoc]
def kK (f r a : Int) (row : List Int) (m : Nat) : Bool := aj f r m && decide (px f m - px f a = row.getD 0 0) && decide (py f m - py f a = row.getD 1 0)
theorem nx {f r a : Int} (ha : aj f r a = true) (rs : List (List Int)) (hrs : ∀ row ∈ rs, -8 <= row.getD 0 0 /\ row.getD 0 0 <= 8 /\ -8 <= row.getD 1 0 /\ row.getD 1 0 <= 8) : Uk (cn f r a rs) /\ ∀ m, bt (cn f r a rs) m = rs.any (kK f r a · m) := by
 have hv := bE ha
 have hp := eG ha
 have hpl : (aK f r a).1 = px f a /\ (aK f r a).2.1 = py f a := by simp only [aK, ha, cond_true]; exact ⟨by first | rfl | trivial, hp.2.2.2.2.1⟩
 have h := wF (fP f r (aK f r a).1 (aK f r a).2.1) (kK f r a) rs 0 ?_ uk_0
 ·refine ⟨h.1, fun m => ?_⟩
  unfold cn
  rw [h.2, bt_0, Bool.false_or]
 ·intro s row hrow hs
  have hb := hrs row hrow
  unfold fP sZ
  rw [hpl.1, hpl.2, aB (n := px f a + _) (by omega) (by omega), aB (n := py f a + _) (by omega) (by omega), vj hv]
  cases ho : onB f r (px f a + row.getD 0 0) (py f a + row.getD 1 0) with
  | false =>
   refine ⟨hs, fun m => ?_⟩
   rw [cond_false]
   have : kK f r a row m = false := by
    cases hl : kK f r a row m with
    | false => rfl
    | true =>
     simp only [kK, Bool.and_eq_true, decide_eq_true_eq] at hl
     have hq := eG hl.1.1
     have : onB f r (px f a + row.getD 0 0) (py f a + row.getD 1 0) = true := jo (by omega) (by omega) (by omega) (by omega)
     rw [ho] at this; cases this
   rw [this, Bool.or_false]
  | true =>
   rw [cond_true]
   have h3 := vj (X := px f a + row.getD 0 0) (Y := py f a + row.getD 1 0) hv
   rw [ho] at h3
   have hq := kH (of_decide_eq_true h3)
   obtain ⟨v1, v2, v3⟩ := gJ hv ho
   rw [<- hq.2.2.2.2] at v1 v2 v3
   generalize (atR f r (px f a + row.getD 0 0) (py f a + row.getD 1 0)).1 = x at *
   refine ⟨gQ _ _, fun m => ?_⟩
   rw [fz hs (iU _ _), jm hq.1 hq.2.1]
   congr 1
   unfold kK
   by_cases e : x = (m : Int)
   ·subst e
    simp only [v1, decide_true, Bool.true_and]
    rw [v2, v3]; simp; omega
   ·simp only [e, decide_false]
    symm
    cases hl : (aj f r m && decide (px f m - px f a = row.getD 0 0) && decide (py f m - py f a = row.getD 1 0)) with
    | false => rfl
    | true =>
     simp only [Bool.and_eq_true, decide_eq_true_eq] at hl
     exact absurd ((ng v1 hl.1.1).2 ⟨by omega, by omega⟩) e
def hitB (occ : Int) (m : Int) : List Int -> Bool
 | [] => false
 | x :: l => decide (x = m) || (!bt occ x.toNat && hitB occ m l)
theorem oQ {occ : Int} (ho : Uk occ) : ∀ (L : List Int) (s : Int), (∀ x ∈ L, 0 <= x /\ x < 64) -> Uk s -> Uk (dB occ L s) /\ ∀ m : Nat, bt (dB occ L s) m = (bt s m || hitB occ m L)
 | [], s, _, hs => ⟨hs, fun m => by simp [dB, hitB]⟩
 | x :: L, s, hL, hs => by
  have hx := hL x (by simp)
  unfold dB
  rw [oS ho hx.1 hx.2]
  cases hb : bt occ x.toNat with
  | true =>
   refine ⟨gQ _ _, fun m => ?_⟩
   rw [cond_true, fz hs (iU _ _), jm hx.1 hx.2]
   simp [hitB, hb]
  | false =>
   obtain ⟨h1, h2⟩ := oQ ho L (uor s (ushl 1 x)) (fun y hy => hL y (by simp [hy])) (gQ _ _)
   refine ⟨h1, fun m => ?_⟩
   rw [cond_false, h2, fz hs (iU _ _), jm hx.1 hx.2]
   simp [hitB, hb, Bool.or_assoc]
theorem BU {occ m : Int} : ∀ {L : List Int}, hitB occ m L = true -> hasL m L = true
 | x :: L, h => by
  simp only [hitB, Bool.or_eq_true, Bool.and_eq_true, decide_eq_true_eq] at h
  simp only [hasL, Bool.or_eq_true, decide_eq_true_eq]
  exact h.imp id fun h => BU h.2
theorem xh {f r occ m : Int} (ho : Uk occ) : ∀ (L : List Int), (∀ x ∈ L, aj f r x = true) -> hitB occ m L = (hasL m L && fF occ (L.take (idxL m L)))
 | [], _ => rfl
 | x :: L, hL => by
  have ih := xh (m := m) ho L fun y hy => hL y (by simp [hy])
  have hx := lO ho (hL x (by simp))
  by_cases e : x = m
  ·simp [hitB, hasL, idxL, e, fF]
  ·simp only [hitB, hasL, idxL, e, decide_false, Bool.false_or, cond_false, List.take_succ_cons, fF, hx, ih]
   cases bt occ x.toNat <;> simp
def kr (f r a occ : Int) (row : List Int) (m : Nat) : Bool := hitB occ m (cx f r a (row.getD 0 0) (row.getD 1 0))
theorem Dq {df dr : Int} (h : unit df dr) : inR df dr = true := by
 obtain ⟨h1, h2, h3, h4, _⟩ := h
 simp only [inR, Bool.and_eq_true, decide_eq_true_eq]; omega
theorem xD {f r a occ : Int} (ha : aj f r a = true) (ho : Uk occ) (rs : List (List Int)) (hrs : ∀ row ∈ rs, unit (row.getD 0 0) (row.getD 1 0)) : Uk (dw f r a occ rs) /\ ∀ m, bt (dw f r a occ rs) m = rs.any (kr f r a occ · m) := by
 have h := wF (eD f r a occ) (kr f r a occ) rs 0 ?_ uk_0
 ·refine ⟨h.1, fun m => ?_⟩
  unfold dw
  rw [h.2, bt_0, Bool.false_or]
 ·intro s row hrow hs
  unfold eD kr
  rw [GS, Dq (hrs row hrow), cond_true]
  exact oQ ho _ s (fun x hx => ⟨(aJ (dM ha hx)).1, (aJ (dM ha hx)).2.2⟩) hs
theorem nG {m : Int} {L : List Int} : hasL m L = true ↔ m ∈ L := by
 induction L with
 | nil => simp [hasL]
 | cons x L ih => simp only [hasL, Bool.or_eq_true, decide_eq_true_eq, ih, List.mem_cons]; exact ⟨fun h => h.imp Eq.symm id, fun h => h.imp Eq.symm id⟩
theorem xU (P : Int -> Int -> Bool) (h : ∀ i j : _root_.Fin 15, P ((i.val : Int) - 7) ((j.val : Int) - 7) = true) {x y : Int} (hx : -7 <= x /\ x <= 7) (hy : -7 <= y /\ y <= 7) : P x y = true := by
 have := h ⟨(x + 7).toNat, by omega⟩ ⟨(y + 7).toNat, by omega⟩
 simp only at this
 rw [show (((x + 7).toNat : Int) - 7) = x by omega, show (((y + 7).toNat : Int) - 7) = y by omega] at this
 exact this
def fA (rs : List (List Int)) (x y : Int) : Bool := rs.any fun row => decide (x = row.getD 0 0) && decide (y = row.getD 1 0)
theorem iX {f r a b : Int} (hb : aj f r b = true) (rs : List (List Int)) : rs.any (kK f r a · b.toNat) = fA rs (px f b - px f a) (py f b - py f a) := by
 have := aJ hb
 unfold fA kK
 rw [show ((b.toNat : Nat) : Int) = b by omega, hb]
 rfl
theorem qx {f r a b : Int} (ha : aj f r a = true) (hb : aj f r b = true) : (-7 <= px f b - px f a /\ px f b - px f a <= 7) /\ (-7 <= py f b - py f a /\ py f b - py f a <= 7) := by
 have := eG ha
 have := eG hb
 omega
def Cg (x y : Int) : Bool := fA gW x y == decide (i64.wrap (i64.wrap (x * x) + i64.wrap (y * y)) = 5)
theorem zo : ∀ i j : _root_.Fin 15, Cg ((i.val : Int) - 7) ((j.val : Int) - 7) = true := by decide +kernel
def HC (x y : Int) : Int := bif decide (absI (i64.wrap (0 - y)) < absI (i64.wrap (0 - x))) then absI (i64.wrap (0 - x)) else absI (i64.wrap (0 - y))
def JH (x y : Int) : Bool := (fA fy x y || fA fB x y) == decide (HC x y = 1)
theorem FD : ∀ i j : _root_.Fin 15, JH ((i.val : Int) - 7) ((j.val : Int) - 7) = true := by decide +kernel
theorem Gg {f r a b : Int} (ha : aj f r a = true) (hb : aj f r b = true) : nX f a b = HC (px f b - px f a) (py f b - py f a) := by
 obtain ⟨e1, e2⟩ := gY hb ha
 have h := qx ha hb
 unfold nX HC
 rw [e1, e2, aB (n := 0 - (px f b - px f a)) (by omega) (by omega), aB (n := 0 - (py f b - py f a)) (by omega) (by omega)]
 rw [show 0 - (px f b - px f a) = px f a - px f b by omega, show 0 - (py f b - py f a) = py f a - py f b by omega]
theorem jl {f r a b occ : Int} (ha : aj f r a = true) (hb : aj f r b = true) (ho : Uk occ) (rs : List (List Int)) (hrs : ∀ row ∈ rs, unit (row.getD 0 0) (row.getD 1 0)) :
  rs.any (kr f r a occ · b.toNat) = ((bg f a b).2.2 && fA rs (bg f a b).1 (bg f a b).2.1 && fF occ (bM f r a b)) := by
 have hl := aJ hb
 have pt : ∀ row ∈ rs, kr f r a occ row b.toNat = ((bg f a b).2.2 && (decide ((bg f a b).1 = row.getD 0 0) && decide ((bg f a b).2.1 = row.getD 1 0)) && fF occ (bM f r a b)) := by
  intro row hrow
  have hu := hrs row hrow
  unfold kr
  rw [show ((b.toNat : Nat) : Int) = b by omega, xh (f := f) (r := r) ho _ (fun x hx => dM ha hx)]
  cases hh : hasL b (cx f r a (row.getD 0 0) (row.getD 1 0)) with
  | true =>
   have e := Fq ha hb hu hh
   have hz : dV f r a b = cx f r a (row.getD 0 0) (row.getD 1 0) := by rw [dV, e]
   unfold bM
   rw [hz, hh, e]; simp
  | false =>
   rw [Bool.false_and]
   symm
   cases h2 : (bg f a b).2.2 with
   | false => rfl
   | true =>
    obtain ⟨_, h3⟩ := pK ha hb h2
    by_cases e : (bg f a b).1 = row.getD 0 0 /\ (bg f a b).2.1 = row.getD 1 0
    ·rw [dV, e.1, e.2, hh] at h3; cases h3
    ·simp only [Bool.true_and]
     rw [show (decide ((bg f a b).1 = row.getD 0 0) && decide ((bg f a b).2.1 = row.getD 1 0)) = false by simp only [Bool.and_eq_false_iff, decide_eq_false_iff_not]; omega]
     rfl
 have gen : ∀ l : List (List Int), (∀ row ∈ l, row ∈ rs) -> l.any (kr f r a occ · b.toNat) = ((bg f a b).2.2 && fA l (bg f a b).1 (bg f a b).2.1 && fF occ (bM f r a b)) := by
  intro l
  induction l with
  | nil => intro _; simp [fA]
  | cons row l ih =>
   intro h
   rw [List.any_cons, ih (fun x hx => h x (by simp [hx])), pt row (h row (by simp))]
   unfold fA
   rw [List.any_cons]
   cases (bg f a b).2.2 <;> cases (decide ((bg f a b).1 = row.getD 0 0) && decide ((bg f a b).2.1 = row.getD 1 0)) <;> cases fF occ (bM f r a b) <;> simp
 exact gen rs fun _ h => h
theorem Fu : ∀ row ∈ gW, -8 <= row.getD 0 0 /\ row.getD 0 0 <= 8 /\ -8 <= row.getD 1 0 /\ row.getD 1 0 <= 8 := by decide
theorem iy : ∀ row ∈ fy, unit (row.getD 0 0) (row.getD 1 0) := by unfold unit; decide
theorem jy : ∀ row ∈ fB, unit (row.getD 0 0) (row.getD 1 0) := by unfold unit; decide
theorem Cj {rs : List (List Int)} (h : ∀ row ∈ rs, unit (row.getD 0 0) (row.getD 1 0)) : ∀ row ∈ rs, -8 <= row.getD 0 0 /\ row.getD 0 0 <= 8 /\ -8 <= row.getD 1 0 /\ row.getD 1 0 <= 8 := fun row hr => by
 obtain ⟨h1, h2, h3, h4, _⟩ := h row hr
 omega
theorem iJ {x y : Int} (h : unit x y) : fA fy x y = !(decide (x = 0) || decide (y = 0)) /\ fA fB x y = (decide (x = 0) || decide (y = 0)) := by
 rcases dx h with ⟨rfl, rfl⟩ | ⟨rfl, rfl⟩ | ⟨rfl, rfl⟩ | ⟨rfl, rfl⟩ | ⟨rfl, rfl⟩ | ⟨rfl, rfl⟩ | ⟨rfl, rfl⟩ | ⟨rfl, rfl⟩ <;> decide
theorem Lg (n : Int) : decide (sgn n = 0) = decide (n = 0) := by
 have := jx n
 congr 1
 exact propext ⟨fun h => by omega, fun h => by omega⟩
def oM (f r kd a occ : Int) : Int := (bU f r kd a occ).1
def nr (kd : Int) : Prop := kd = 2 \/ kd = 3 \/ kd = 4 \/ kd = 5 \/ kd = 6
theorem Ey {f r kd a occ : Int} (h : gg f r a occ = true) (hk : nr kd) : (bU f r kd a occ).2 = 0 /\ oM f r kd a occ = bif decide (kd = 2) then cn f r a gW else bif decide (kd = 3) then dw f r a occ fy else bif decide (kd = 4) then dw f r a occ fB
     else bif decide (kd = 5) then uor (dw f r a occ fy) (dw f r a occ fB) else uor (cn f r a fy) (cn f r a fB) := by
 unfold oM bU
 rw [h, cond_true]
 rcases hk with rfl | rfl | rfl | rfl | rfl <;> exact ⟨rfl, rfl⟩
theorem qC {f r kd a occ : Int} (h : gg f r a occ = true) (ho : Uk occ) (hk : nr kd) : Uk (oM f r kd a occ) /\ OnS f r (oM f r kd a occ) /\ ∀ b, aj f r b = true -> bt (oM f r kd a occ) b.toNat = bF f r kd a b occ := by
 have ha : aj f r a = true := by simp only [gg, Bool.and_eq_true] at h; exact h.1
 have L1 := nx ha gW Fu
 have L2 := nx ha fy (Cj iy)
 have L3 := nx ha fB (Cj jy)
 have S1 := xD ha ho fy iy
 have S2 := xD ha ho fB jy
 have onl : ∀ (rs : List (List Int)) (m : Nat), rs.any (kK f r a · m) = true -> aj f r m = true := by
  intro rs m h
  obtain ⟨row, _, h2⟩ := List.any_eq_true.1 h
  simp only [kK, Bool.and_eq_true] at h2
  exact h2.1.1
 have ons : ∀ (rs : List (List Int)) (m : Nat), rs.any (kr f r a occ · m) = true -> aj f r m = true := by
  intro rs m h
  obtain ⟨row, _, h2⟩ := List.any_eq_true.1 h
  exact dM ha (nG.1 (BU h2))
 obtain ⟨_, hS⟩ := Ey h hk
 rw [hS]
 have key : ∀ b, aj f r b = true -> (bg f a b).2.2 = true -> unit (bg f a b).1 (bg f a b).2.1 /\ (decide (i64.wrap (b.tmod f - a.tmod f) = 0) || decide (i64.wrap (i64.wrap (b.tdiv f) - i64.wrap (a.tdiv f)) = 0)) = (decide ((bg f a b).1 = 0) || decide ((bg f a b).2.1 = 0)) := by
  intro b hb hl
  obtain ⟨e1, e2⟩ := gY ha hb
  refine ⟨(pK ha hb hl).1, ?_⟩
  rcases sH ha hb with ⟨e, _⟩ | ⟨e, _⟩
  ·rw [e] at hl; cases hl
  ·rw [e1, e2, e]
   simp only [Lg]
 rcases hk with rfl | rfl | rfl | rfl | rfl
 ·refine ⟨L1.1, fun m _ hm => onl _ _ ((L1.2 m).symm.trans hm), fun b hb => ?_⟩
  obtain ⟨e1, e2⟩ := gY ha hb
  have hd := qx ha hb
  have hp := xU Cg zo hd.1 hd.2
  show bt (cn f r a gW) b.toNat = decide (_ = 5)
  rw [L1.2, iX hb, e1, e2]
  exact eq_of_beq hp
 ·refine ⟨S1.1, fun m _ hm => ons _ _ ((S1.2 m).symm.trans hm), fun b hb => ?_⟩
  show bt (dw f r a occ fy) b.toNat = ((bg f a b).2.2 && (false || ((decide (i64.wrap (b.tmod f - a.tmod f) = 0) || decide (i64.wrap (i64.wrap (b.tdiv f) - i64.wrap (a.tdiv f)) = 0)) == false)) && fF occ (bM f r a b))
  rw [S1.2, jl ha hb ho _ iy]
  cases hl : (bg f a b).2.2 with
  | false => simp
  | true => obtain ⟨k1, k2⟩ := key b hb hl; rw [k2, (iJ k1).1]; simp
 ·refine ⟨S2.1, fun m _ hm => ons _ _ ((S2.2 m).symm.trans hm), fun b hb => ?_⟩
  show bt (dw f r a occ fB) b.toNat = ((bg f a b).2.2 && (false || ((decide (i64.wrap (b.tmod f - a.tmod f) = 0) || decide (i64.wrap (i64.wrap (b.tdiv f) - i64.wrap (a.tdiv f)) = 0)) == true)) && fF occ (bM f r a b))
  rw [S2.2, jl ha hb ho _ jy]
  cases hl : (bg f a b).2.2 with
  | false => simp
  | true => obtain ⟨k1, k2⟩ := key b hb hl; rw [k2, (iJ k1).2]; simp
 ·refine ⟨gQ _ _, fun m _ hm => ?_, fun b hb => ?_⟩
  ·have hm : bt (uor (dw f r a occ fy) (dw f r a occ fB)) m = true := hm
   rw [fz S1.1 S2.1, Bool.or_eq_true] at hm
   exact hm.elim (fun hm => ons _ _ ((S1.2 m).symm.trans hm)) (fun hm => ons _ _ ((S2.2 m).symm.trans hm))
  ·show bt (uor (dw f r a occ fy) (dw f r a occ fB)) b.toNat = ((bg f a b).2.2 && (true || _) && fF occ (bM f r a b))
   rw [fz S1.1 S2.1, S1.2, S2.2, jl ha hb ho _ iy, jl ha hb ho _ jy]
   cases hl : (bg f a b).2.2 with
   | false => simp
   | true =>
    obtain ⟨k1, k2⟩ := key b hb hl
    rw [(iJ k1).1, (iJ k1).2]
    cases (decide ((bg f a b).1 = 0) || decide ((bg f a b).2.1 = 0)) <;> simp
 ·refine ⟨gQ _ _, fun m _ hm => ?_, fun b hb => ?_⟩
  ·have hm : bt (uor (cn f r a fy) (cn f r a fB)) m = true := hm
   rw [fz L2.1 L3.1, Bool.or_eq_true] at hm
   exact hm.elim (fun hm => onl _ _ ((L2.2 m).symm.trans hm)) (fun hm => onl _ _ ((L3.2 m).symm.trans hm))
  ·have hd := qx ha hb
   have hp := xU JH FD hd.1 hd.2
   show bt (uor (cn f r a fy) (cn f r a fB)) b.toNat = decide (nX f a b = 1)
   rw [fz L2.1 L3.1, L2.2, L3.2, iX hb, iX hb, Gg ha hb]
   exact eq_of_beq hp
end Go.Ab
namespace Go.Ab
open Go.Proofs
theorem KG {s x : Int} (hs : Uk s) (h1 : 0 <= x) (h2 : x < 64) (hb : bt s x.toNat = false) : IntKind.u64.wrap (s + ushl 1 x) = uor s (ushl 1 x) := by
 have hk := iU 1 x
 rw [jk, DD]
 have hz : BitVec.ofInt 64 s &&& BitVec.ofInt 64 (ushl 1 x) = 0#64 := by
  apply BitVec.eq_of_toNat_eq
  rw [BitVec.toNat_and, ju hs, ju hk]
  apply Nat.eq_of_testBit_eq
  intro i
  rw [Nat.testBit_and]
  have h3 := jm h1 h2 i
  unfold bt at h3 hb
  rw [h3]
  by_cases e : x = (i : Int)
  ·subst e; rw [Int.toNat_natCast] at hb; simp [hb]
  ·simp [e]
 rw [<- BitVec.add_eq_or_of_and_eq_zero _ _ hz, BitVec.toNat_add, ju hs, ju hk]
 have h4 := hs.1
 have h5 := hk.1
 generalize ushl 1 x = y at *
 show (s + y) % 18446744073709551616 = (((s.toNat + y.toNat) % 18446744073709551616 : Nat) : Int)
 omega
theorem tw : ∀ (l : List Int) (s : Int), (∀ x ∈ l, 0 <= x /\ x < 64) -> Uk s -> Uk (ofL l s) /\ ∀ m : Nat, bt (ofL l s) m = (bt s m || decide ((m : Int) ∈ l))
 | [], s, _, hs => ⟨hs, fun m => by simp [ofL]⟩
 | x :: l, s, hl, hs => by
  have hx := hl x (by simp)
  rw [ofL]
  have hh := Gx (n := x) hs
  simp only [hx.1, hx.2, decide_true, Bool.true_and] at hh
  cases hb : bt s x.toNat with
  | true =>
   obtain ⟨h1, h2⟩ := tw l s (fun y hy => hl y (by simp [hy])) hs
   rw [hh, hb, cond_true]
   refine ⟨h1, fun m => ?_⟩
   rw [h2]
   by_cases e : (m : Int) = x
   ·subst e; rw [Int.toNat_natCast] at hb; simp [hb]
   ·simp [e]
  | false =>
   rw [hh, hb, cond_false, KG hs hx.1 hx.2 hb]
   obtain ⟨h1, h2⟩ := tw l (uor s (ushl 1 x)) (fun y hy => hl y (by simp [hy])) (gQ _ _)
   refine ⟨h1, fun m => ?_⟩
   rw [h2, fz hs (iU _ _), jm hx.1 hx.2, Bool.or_assoc]
   congr 1
   by_cases e : (m : Int) = x
   ·simp [e]
   ·have e' : ¬ x = (m : Int) := fun h => e h.symm
    simp [e, e']
theorem JX {f r : Int} (hv : vsB f r = true) : Uk (allU f r) /\ ∀ m : Nat, bt (allU f r) m = decide ((m : Int) < f * r) := by
 have hm := fX hv
 unfold allU
 rw [eB hv, aB (by omega) (by omega)]
 have hk : Uk 18446744073709551615 := ⟨by decide, by decide⟩
 refine ⟨CJ hk (by omega) (by omega), fun m => ?_⟩
 rw [Gr hk (by omega) (by omega)]
 unfold bt
 rw [show (18446744073709551615 : Int).toNat = 2 ^ 64 - 1 by decide, Nat.testBit_two_pow_sub_one]
 congr 1
 exact propext ⟨fun h => by omega, fun h => by omega⟩
theorem Ca {f r s : Int} (hv : vsB f r = true) (hs : Uk s) : cF s (allU f r) = 0 ↔ OnS f r s := by
 obtain ⟨h1, h2⟩ := JX hv
 rw [qy (ke _ _)]
 constructor
 ·intro h m hm hb
  have := h m hm
  rw [hH hs h1, hb, h2] at this
  simp at this
  exact qM hv (by omega) this
 ·intro h m hm
  rw [hH hs h1, h2]
  cases hb : bt s m with
  | false => rfl
  | true => have := aJ (h m hm hb); simp; omega
theorem iG {f r a s : Int} (hs : Uk s) : gg f r a s = true ↔ aj f r a = true /\ OnS f r s := by
 unfold gg
 rw [Bool.and_eq_true, decide_eq_true_eq]
 exact ⟨fun h => ⟨h.1, (Ca (bE h.1) hs).1 h.2⟩, fun h => ⟨h.1, (Ca (bE h.1) hs).2 h.2⟩⟩
end Go.Ab
namespace Go.Ab
open IntKind
open Go.Proofs
section
variable {kCa kDb : Bool}
def dA (f : Int) (bl : Bool) (a b : Int) : Bool := decide (i64.wrap (i64.wrap (b.tdiv f) - i64.wrap (a.tdiv f)) = fwd bl) && (decide (i64.wrap (b.tmod f - a.tmod f) = 1) || decide (i64.wrap (a.tmod f - b.tmod f) = 1))
def one4 (f r : Int) (bl : Bool) (a : Int) : Int := numR f r (a.tmod f) (i64.wrap (i64.wrap (a.tdiv f) + fwd bl))
def two4 (f r : Int) (bl : Bool) (a : Int) : Int := numR f r (a.tmod f) (i64.wrap (i64.wrap (a.tdiv f) + i64.wrap (2 * fwd bl)))
def bT (f r : Int) (bl : Bool) (a occ b : Int) : Bool := (decide (b = one4 f r bl a) && !hasB occ (one4 f r bl a)) || (decide (b = two4 f r bl a) && decide (6 <= r) && decide (i64.wrap (a.tdiv f) = secR r bl) && !hasB occ (one4 f r bl a) && !hasB occ (two4 f r bl a))
def iR : CF
 | [.agg [.int .i64 f, .int .i64 r], .bool bl, .int .i64 a], [] => some (vsB f r, .sl 0 0 (cm (dA f bl a) id ((f * r).toNat)).length none, [.ints true .i64 (cm (dA f bl a) id ((f * r).toNat))])
 | _, _ => none
theorem ku : CtOk (GGx kCa kDb) PP (172, iR) := by
 refine aG Tryz.func172 (by kernel_rfl) rfl fun a0 h0 c0 v0 N0 e hc => ?_
 unfold iR at e
 split at e
 ·rename_i f r bl a
  cases e
  have hE := aD (kCa := kCa) (kDb := kDb) (cts := [(48, da), (183, EL)]) (inl := []) ⟨bP, xO, trivial⟩ trivial
  refine ak hE 2 Tryz.func172 rfl rfl ?_
  have hm := fX hc
  have hw := eB hc
  have hf := cI hc
  have hf0 : ¬ f = 0 := by omega
  refine bZ hE 2 (fun (i : Int) (ys : List Int) => ([(1, Bb bl), (2, I a), (3, .ptr 0 0 0), (7, .sl 1 0 ys.length none), (8, I i)], [.cells true [I f, I r], .ints true .i64 ys])) ((f * r).toNat) (fun j ys => ys = cm (dA f bl a) id j) [] (by omega) ((Ent.phanT (t := 7) (o := .ints true .i64 []) rfl ⟨by simp, by simp, trivial, rfl⟩ (aI rfl)).trans (Ent.ren [0, 1] [1, 2, 3, 7, 8] rfl rfl rfl)) rfl ?_
  intro j i ys hij hj hz
  have hb := cP (dA f bl a) id j
  rw [<- hz] at hb
  refine au (fun hlt => ?_) (fun hlt => ?_)
  ·have hlt' : j < (f * r).toNat := by simp only [decide_eq_true_eq] at hlt; rw [hw] at hlt; omega
   have hs := ee (dA f bl a) id j
   rw [<- hz, <- hij] at hs
   repeat (first | refine ah ?_ | refine sat_nd ?_)
   refine au (fun hon => ?_) (fun hon => ?_)
   ·skip
    have hon : dA f bl a i = true := hon
    rw [hon, cond_true] at hs
    refine ae (b := decide (ys.length = ys.length) && decide ((ys.length + 1) * 8 <= 140737488355328) && true) (by simp; omega) ?_
    exact ag ⟨hlt', ys ++ [id i], hs.symm, Ent.ren [0, 5] [1, 2, 3, 7, 8] rfl rfl rfl⟩
   ·skip
    have hon : dA f bl a i = false := hon
    rw [hon, cond_false] at hs
    exact ag ⟨hlt', ys, hs.symm, Ent.ren [0, 1] [1, 2, 3, 7, 8] rfl rfl rfl⟩
  ·obtain rfl : j = (f * r).toNat := by simp only [decide_eq_false_iff_not] at hlt; rw [hw] at hlt; omega
   subst hz
   refine ag (ag ((bN 1 (.inr rfl) rfl rfl rfl rfl rfl rfl)))
 ·cases e
def jX : CF
 | [.agg [.int .i64 f, .int .i64 r], .bool bl, .int .i64 a, .int .u64 occ], [] => some (vsB f r, .sl 0 0 (cm (bT f r bl a occ) id ((f * r).toNat)).length none, [.ints true .i64 (cm (bT f r bl a occ) id ((f * r).toNat))])
 | _, _ => none
theorem pT : CtOk (GGx kCa kDb) PP (173, jX) := by
 refine aG Tryz.func173 (by kernel_rfl) rfl fun a0 h0 c0 v0 N0 e hc => ?_
 unfold jX at e
 split at e
 ·rename_i f r bl a occ
  cases e
  have hE := aD (kCa := kCa) (kDb := kDb) (cts := [(48, da), (183, EL), (97, fO), (34, CW), (184, pX)]) (inl := []) ⟨bP, xO, eE, qm, wv, trivial⟩ trivial
  refine ak hE 2 Tryz.func173 rfl rfl ?_
  have hm := fX hc
  have hw := eB hc
  have hf := cI hc
  have hf0 : ¬ f = 0 := by omega
  repeat (first | refine ah ?_ | refine sat_nd ?_)
  refine bZ hE 2 (fun (i : Int) (ys : List Int) => ([(1, Bb bl), (3, U occ), (4, .ptr 0 0 0), (9, .ptr 1 0 0), (11, I (one4 f r bl a)), (12, I (two4 f r bl a)), (13, .sl 2 0 ys.length none), (14, I i)], [.cells true [I f, I r], .cells true [I (a.tmod f), I (i64.wrap (a.tdiv f))], .ints true .i64 ys])) ((f * r).toNat) (fun j ys => ys = cm (bT f r bl a occ) id j) [] (by omega) ((Ent.phanT (t := 13) (o := .ints true .i64 []) rfl ⟨by simp, by simp, trivial, rfl⟩ (aI rfl)).trans (Ent.ren [0, 1, 2] [1, 3, 4, 9, 11, 12, 13, 14] rfl rfl rfl)) rfl ?_
  intro j i ys hij hj hz
  have hb := cP (bT f r bl a occ) id j
  rw [<- hz] at hb
  refine au (fun hlt => ?_) (fun hlt => ?_)
  ·have hlt' : j < (f * r).toNat := by simp only [decide_eq_true_eq] at hlt; rw [hw] at hlt; omega
   have hs := ee (bT f r bl a occ) id j
   rw [<- hz, <- hij] at hs
   repeat (first | refine ah ?_ | refine sat_nd ?_)
   refine au (fun hon => ?_) (fun hon => ?_)
   ·skip
    have hon : bT f r bl a occ i = true := hon
    rw [hon, cond_true] at hs
    refine ae (b := decide (ys.length = ys.length) && decide ((ys.length + 1) * 8 <= 140737488355328) && true) (by simp; omega) ?_
    exact ag ⟨hlt', ys ++ [id i], hs.symm, Ent.ren [0, 1, 4] [1, 3, 4, 9, 11, 12, 13, 14] rfl rfl rfl⟩
   ·skip
    have hon : bT f r bl a occ i = false := hon
    rw [hon, cond_false] at hs
    exact ag ⟨hlt', ys, hs.symm, Ent.ren [0, 1, 2] [1, 3, 4, 9, 11, 12, 13, 14] rfl rfl rfl⟩
  ·obtain rfl : j = (f * r).toNat := by simp only [decide_eq_false_iff_not] at hlt; rw [hw] at hlt; omega
   subst hz
   refine ag (ag ((bN 2 (.inr rfl) rfl rfl rfl rfl rfl rfl)))
 ·cases e
end
theorem rV (bl : Bool) : (bl = true /\ fwd bl = -1) \/ (bl = false /\ fwd bl = 1) := by cases bl <;> simp [fwd]
theorem uC {f r X Y : Int} (h : onB f r X Y = false) : numR f r X Y = -1 := by unfold numR; rw [vE, h]; rfl
theorem Ko {f r b X Y : Int} (hv : vsB f r = true) (hb : aj f r b = true) : decide (b = numR f r X Y) = (decide (px f b = X) && decide (py f b = Y)) := by
 have hq := eG hb
 have hl := aJ hb
 cases ho : onB f r X Y with
 | true =>
  have := iu hv ho hb
  rw [Bool.eq_iff_iff, Bool.and_eq_true, decide_eq_true_eq, decide_eq_true_eq, decide_eq_true_eq, <- this]
  exact ⟨Eq.symm, Eq.symm⟩
 | false =>
  rw [uC ho, show decide (b = -1) = false by simp; omega]
  symm
  simp only [Bool.and_eq_false_iff, decide_eq_false_iff_not]
  by_cases h1 : px f b = X
  ·right
   intro h2
   have : onB f r X Y = true := jo (by omega) (by omega) (by omega) (by omega)
   rw [ho] at this; cases this
  ·exact .inl h1
theorem GW (bl : Bool) : ∀ row ∈ [[-1, fwd bl], [1, fwd bl]], -8 <= row.getD 0 0 /\ row.getD 0 0 <= 8 /\ -8 <= row.getD 1 0 /\ row.getD 1 0 <= 8 := by cases bl <;> simp [fwd]
theorem xV {f r a : Int} (rs : List (List Int)) (m : Nat) (h : rs.any (kK f r a · m) = true) : aj f r m = true := by
 obtain ⟨row, _, h2⟩ := List.any_eq_true.1 h
 simp only [kK, Bool.and_eq_true] at h2
 exact h2.1.1
theorem vo {f r a : Int} {bl : Bool} (ha : aj f r a = true) : (fN f r bl a).2 = 0 /\ Uk (fN f r bl a).1 /\ OnS f r (fN f r bl a).1 /\ ∀ b, aj f r b = true -> bt (fN f r bl a).1 b.toNat = dA f bl a b := by
 have L := nx ha [[-1, fwd bl], [1, fwd bl]] (GW bl)
 unfold fN
 rw [ha, cond_true]
 refine ⟨rfl, L.1, fun m _ hm => xV _ _ ((L.2 m).symm.trans hm), fun b hb => ?_⟩
 obtain ⟨e1, e2⟩ := gY ha hb
 obtain ⟨e3, _⟩ := gY hb ha
 have hd := qx ha hb
 rw [L.2, iX hb]
 unfold dA fA
 rw [e1, e2, e3]
 simp only [List.any_cons, List.any_nil, Bool.or_false, List.getD_cons_zero, List.getD_cons_succ]
 rw [Bool.eq_iff_iff]
 simp only [Bool.or_eq_true, Bool.and_eq_true, decide_eq_true_eq]
 omega
theorem DF {f r a k : Int} (ha : aj f r a = true) (hk : -2 <= k /\ k <= 2) : Uk (cn f r a [[0, k]]) /\ (∀ m, bt (cn f r a [[0, k]]) m = true -> aj f r m = true) /\ ∀ b, aj f r b = true -> bt (cn f r a [[0, k]]) b.toNat = decide (b = numR f r (px f a) (py f a + k)) := by
 have L := nx ha [[0, k]] (by intro row h; simp only [List.mem_singleton] at h; subst h; simp; omega)
 refine ⟨L.1, fun m hm => xV _ _ ((L.2 m).symm.trans hm), fun b hb => ?_⟩
 rw [L.2, iX hb, Ko (bE ha) hb]
 unfold fA
 simp only [List.any_cons, List.any_nil, Bool.or_false, List.getD_cons_zero, List.getD_cons_succ]
 rw [Bool.eq_iff_iff]
 simp only [Bool.and_eq_true, decide_eq_true_eq]
 omega
theorem gw (f r X Y : Int) (hv : vsB f r = true) : (onB f r X Y = true /\ aj f r (numR f r X Y) = true) \/ (onB f r X Y = false /\ numR f r X Y = -1) := by
 cases ho : onB f r X Y with
 | true =>
  left
  have h := vj (X := X) (Y := Y) hv
  rw [ho] at h
  have hp := kH (of_decide_eq_true h)
  rw [su hv ho, hp.2.2.2.2]
  exact ⟨rfl, (gJ hv ho).1⟩
 | false => exact .inr ⟨rfl, uC ho⟩
theorem yd {f r a occ : Int} {bl : Bool} (h : gg f r a occ = true) (ho : Uk occ) : (cO f r bl a occ).2 = 0 /\ Uk (cO f r bl a occ).1 /\ OnS f r (cO f r bl a occ).1 /\ ∀ b, aj f r b = true -> bt (cO f r bl a occ).1 b.toNat = bT f r bl a occ b := by
 obtain ⟨ha, _⟩ := (iG ho).1 h
 have hv := bE ha
 have hp := eG ha
 have hw2 : i64.wrap (2 * fwd bl) = 2 * fwd bl := by rcases rV bl with ⟨_, e⟩ | ⟨_, e⟩ <;> rw [e] <;> rfl
 have hfw := rV bl
 have S1 := DF (k := fwd bl) ha (by omega)
 have S2 := DF (k := 2 * fwd bl) ha (by omega)
 have e1 : one4 f r bl a = numR f r (px f a) (py f a + fwd bl) := by
  show numR f r (px f a) (i64.wrap (i64.wrap (py f a) + fwd bl)) = _
  rw [hp.2.2.2.2.1, aB (by omega) (by omega)]
 have e2 : two4 f r bl a = numR f r (px f a) (py f a + 2 * fwd bl) := by
  show numR f r (px f a) (i64.wrap (i64.wrap (py f a) + i64.wrap (2 * fwd bl))) = _
  rw [hp.2.2.2.2.1, hw2, aB (by omega) (by omega)]
 have hsec : (decide (r < 6) || !decide (i64.wrap (a.tdiv f) = bif bl then i64.wrap (r - 2) else 1)) = !(decide (6 <= r) && decide (i64.wrap (a.tdiv f) = secR r bl)) := by
  unfold secR
  rw [Bool.not_and, show (!decide (6 <= r)) = decide (r < 6) by rw [<- decide_not]; congr 1; exact propext ⟨fun h => by omega, fun h => by omega⟩]
 unfold cO oJ one1
 rw [h, cond_true, Bool.or_assoc, hsec, hw2]
 have hA : Uk (cF (cn f r a [[0, fwd bl]]) occ) := ke _ _
 have hB : Uk (cF (cn f r a [[0, 2 * fwd bl]]) occ) := ke _ _
 have bA : ∀ m, bt (cF (cn f r a [[0, fwd bl]]) occ) m = (bt (cn f r a [[0, fwd bl]]) m && !bt occ m) := hH S1.1 ho
 have bB : ∀ m, bt (cF (cn f r a [[0, 2 * fwd bl]]) occ) m = (bt (cn f r a [[0, 2 * fwd bl]]) m && !bt occ m) := hH S2.1 ho
 have onA : OnS f r (cF (cn f r a [[0, fwd bl]]) occ) := fun m _ hm => by rw [bA, Bool.and_eq_true] at hm; exact S1.2.1 m hm.1
 have onB' : OnS f r (cF (cn f r a [[0, 2 * fwd bl]]) occ) := fun m _ hm => by rw [bB, Bool.and_eq_true] at hm; exact S2.2.1 m hm.1
 have vA : ∀ b, aj f r b = true -> bt (cF (cn f r a [[0, fwd bl]]) occ) b.toNat = (decide (b = one4 f r bl a) && !hasB occ (one4 f r bl a)) := fun b hb => by
  rw [bA, S1.2.2 b hb, <- e1]
  by_cases e : b = one4 f r bl a
  ·rw [<- e, lO ho hb]
  ·simp [e]
 have vB : ∀ b, aj f r b = true -> bt (cF (cn f r a [[0, 2 * fwd bl]]) occ) b.toNat = (decide (b = two4 f r bl a) && !hasB occ (two4 f r bl a)) := fun b hb => by
  rw [bB, S2.2.2 b hb, <- e2]
  by_cases e : b = two4 f r bl a
  ·rw [<- e, lO ho hb]
  ·simp [e]
 -- the first step is free just if its set is not empty
 have hz : cF (cn f r a [[0, fwd bl]]) occ = 0 ↔ (one4 f r bl a = -1 \/ hasB occ (one4 f r bl a) = true) := by
  rw [qy hA]
  rcases gw f r (px f a) (py f a + fwd bl) hv with ⟨_, hval⟩ | ⟨_, hneg⟩
  ·rw [<- e1] at hval
   have hl := aJ hval
   constructor
   ·intro hall
    have := hall (one4 f r bl a).toNat (by omega)
    rw [vA _ hval] at this
    right; simpa using this
   ·rintro (hx | hx)
    ·omega
    ·intro n hn
     cases hb : bt (cF (cn f r a [[0, fwd bl]]) occ) n with
     | false => rfl
     | true =>
      have hvn := onA n hn hb
      have := vA n hvn
      rw [Int.toNat_natCast, hb, hx] at this
      simp at this
  ·rw [<- e1] at hneg
   refine ⟨fun _ => .inl hneg, fun _ n hn => ?_⟩
   cases hb : bt (cF (cn f r a [[0, fwd bl]]) occ) n with
   | false => rfl
   | true =>
    have hvn := onA n hn hb
    have := vA n hvn
    rw [Int.toNat_natCast, hb, hneg] at this
    simp at this
 cases hc : (decide (cF (cn f r a [[0, fwd bl]]) occ = 0) || !(decide (6 <= r) && decide (i64.wrap (a.tdiv f) = secR r bl))) with
 | true =>
  rw [cond_true]
  refine ⟨rfl, hA, onA, fun b hb => ?_⟩
  show bt (cF (cn f r a [[0, fwd bl]]) occ) b.toNat = _
  rw [vA b hb]
  unfold bT
  symm
  rw [Bool.or_eq_true, decide_eq_true_eq, hz] at hc
  have : (decide (b = two4 f r bl a) && decide (6 <= r) && decide (i64.wrap (a.tdiv f) = secR r bl) && !hasB occ (one4 f r bl a) && !hasB occ (two4 f r bl a)) = false := by
   have hl := aJ hb
   rcases hc with (hc | hc) | hc
   ·have h2 : two4 f r bl a = -1 := by
     rw [e2]
     refine uC ?_
     cases hon : onB f r (px f a) (py f a + 2 * fwd bl) with
     | false => rfl
     | true =>
      have := qJ hon
      have h3 : onB f r (px f a) (py f a + fwd bl) = true := jo (by omega) (by omega) (by omega) (by omega)
      rcases gw f r (px f a) (py f a + fwd bl) hv with ⟨_, hval⟩ | ⟨h4, _⟩
      ·rw [<- e1, hc] at hval
       have := aJ hval
       omega
      ·rw [h3] at h4; cases h4
    rw [h2, show decide (b = -1) = false by simp; omega]
    rfl
   ·rw [hc]; simp
   ·cases h6 : decide (6 <= r) <;> rw [h6] at hc <;> simp at hc <;> simp [hc]
  rw [this, Bool.or_false]
 | false =>
  rw [cond_false]
  refine ⟨rfl, gQ _ _, fun m hm hb => ?_, fun b hb => ?_⟩
  ·have hb : bt (uor (cF (cn f r a [[0, fwd bl]]) occ) (cF (cn f r a [[0, 2 * fwd bl]]) occ)) m = true := hb
   rw [fz hA hB, Bool.or_eq_true] at hb
   exact hb.elim (onA m hm) (onB' m hm)
  ·show bt (uor (cF (cn f r a [[0, fwd bl]]) occ) (cF (cn f r a [[0, 2 * fwd bl]]) occ)) b.toNat = _
   rw [fz hA hB, vA b hb, vB b hb]
   simp only [Bool.or_eq_false_iff, decide_eq_false_iff_not, Bool.not_eq_false', Bool.and_eq_true, decide_eq_true_eq] at hc
   obtain ⟨h1, h2, h3⟩ := hc
   rw [hz, not_or] at h1
   have h4 : hasB occ (one4 f r bl a) = false := by simpa using h1.2
   unfold bT
   rw [h4, h3]
   simp [h2]
end Go.Ab
namespace Go.Ab
open Go.Proofs
theorem xT (b : Int) : ∀ (L : List Int) (s : Int), Uk s -> Uk (eR b L s)
 | [], _, h => h
 | x :: L, s, h => by
  rw [eR]
  cases decide (x = b) with
  | true => exact h
  | false => exact xT b L _ (gQ _ _)
theorem wT {b : Int} : ∀ (L : List Int) (s : Int), (∀ x ∈ L, 0 <= x /\ x < 64) -> Uk s -> ∀ m : Nat, bt (eR b L s) m = (bt s m || decide ((m : Int) ∈ L.take (idxL b L)))
 | [], s, _, _, m => by simp [eR, idxL]
 | x :: L, s, hL, hs, m => by
  have hx := hL x (by simp)
  rw [eR, idxL]
  cases hb : decide (x = b) with
  | true => simp
  | false =>
   rw [cond_false, cond_false, wT L _ (fun y hy => hL y (by simp [hy])) (gQ _ _), fz hs (iU _ _), jm hx.1 hx.2, Bool.or_assoc, List.take_succ_cons]
   congr 1
   by_cases e : (m : Int) = x
   ·simp [e]
   ·have e' : ¬ x = (m : Int) := fun h => e h.symm
    simp [e, e']
theorem ER {f r a b : Int} (ha : aj f r a = true) (hb : aj f r b = true) (h : (bg f a b).2.2 = true) : dirR f r a b = ((bg f a b).1, (bg f a b).2.1, 0) /\ bJ f r a b = (ofL (bM f r a b) 0, 0) := by
 have hp := eG ha
 have hq := eG hb
 obtain ⟨e1, e2⟩ := gY ha hb
 have hlh := pK ha hb h
 rcases sH ha hb with ⟨e, _⟩ | ⟨e, hl⟩
 ·rw [e] at h; cases h
 ·have hd : dirR f r a b = ((bg f a b).1, (bg f a b).2.1, 0) := by
   unfold dirR
   rw [ha, hb, e, e1, e2]
   have : (decide (a = b) || !decide (px f b - px f a = 0) && !decide (py f b - py f a = 0) && !decide (px f b - px f a = py f b - py f a) && !decide (px f b - px f a = IntKind.i64.wrap (0 - (py f b - py f a)))) = false := by
    rw [aB (by omega) (by omega)]
    simp only [Bool.or_eq_false_iff, Bool.and_eq_false_iff, decide_eq_false_iff_not, Bool.not_eq_false', decide_eq_true_eq]
    rw [ng ha hb]
    unfold kj at hl
    omega
   simp only [this, Bool.and_true, cond_true, cond_false]
  refine ⟨hd, ?_⟩
  unfold bJ
  rw [hd]
  simp only [decide_true, cond_true]
  have hz : rayL f r a (bg f a b).1 (bg f a b).2.1 = dV f r a b := by rw [GS, Dq hlh.1]; rfl
  have hbd : ∀ x ∈ dV f r a b, 0 <= x /\ x < 64 := fun x hx => ⟨(aJ (dM ha hx)).1, (aJ (dM ha hx)).2.2⟩
  have hL : bM f r a b = (dV f r a b).take (idxL b (dV f r a b)) := by unfold bM; rw [hlh.2]; rfl
  rw [hz, hL]
  congr 1
  have hbd2 : ∀ x ∈ (dV f r a b).take (idxL b (dV f r a b)), 0 <= x /\ x < 64 := fun x hx => hbd x (List.mem_of_mem_take hx)
  obtain ⟨k1, k2⟩ := tw _ 0 hbd2 uk_0
  refine yy (xT _ _ _ uk_0) k1 fun n _ => ?_
  rw [wT _ _ hbd uk_0, k2]
theorem xl {f r a b : Int} (ha : aj f r a = true) : (bM f r a b).length <= 8 /\ ∀ x ∈ bM f r a b, aj f r x = true := by
 refine ⟨oE f r a b, fun x hx => ?_⟩
 unfold bM at hx
 cases h : hasL b (dV f r a b) with
 | false => rw [h] at hx; simp at hx
 | true => rw [h, cond_true] at hx; exact dM ha (List.mem_of_mem_take hx)
end Go.Ab
namespace Go.Ab
open Go.Proofs
end Go.Ab
namespace Go.Ab
open Go.Proofs
def Btw (f a b c : Int) : Prop := ∃ i k : Nat, ∃ df dr : Int, unit df dr /\ 1 <= i /\ i < k /\ k <= 8 /\ px f b = px f a + k * df /\ py f b = py f a + k * dr /\ px f c = px f a + i * df /\ py f c = py f a + i * dr
theorem Btw.symm {f a b c : Int} (h : Btw f a b c) : Btw f b a c := by
 obtain ⟨i, k, df, dr, hu, h1, h2, h3, h4, h5, h6, h7⟩ := h
 refine ⟨k - i, k, -df, -dr, ?_, by omega, by omega, h3, ?_⟩
 ·unfold unit at hu ⊢; omega
 ·rcases dx hu with ⟨rfl, rfl⟩ | ⟨rfl, rfl⟩ | ⟨rfl, rfl⟩ | ⟨rfl, rfl⟩ | ⟨rfl, rfl⟩ | ⟨rfl, rfl⟩ | ⟨rfl, rfl⟩ | ⟨rfl, rfl⟩ <;> omega
section
variable {kCa kDb : Bool}
def okP (p : Int) : Bool := decide (-15 <= p) && decide (p <= 15)
def orP (p : Int) : Bool := !decide (p = 0) && decide (-6 <= p) && decide (p <= 6)
def badP (p : Int) : Bool := !okP p
def norP (p : Int) : Bool := !decide (p = 0) && !orP p
def posP (p : Int) : Bool := decide (0 < p)
def negP (p : Int) : Bool := decide (p < 0)
def cntR (f r : Int) : Int × Int := bif vsB f r then (IntKind.i64.wrap (f * r), 0) else (0, 2)
def cE (p : Int -> Bool) : List Int -> Int -> Int
 | [], _ => -1
 | x :: l, k => bif p x then k else cE p l (k + 1)
theorem pP (p : Int -> Bool) : ∀ (l : List Int) (k : Int), 0 <= k -> decide (0 <= cE p l k) = l.any p
 | [], k, _ => rfl
 | x :: l, k, hk => by
  rw [cE, List.any_cons]
  cases p x with
  | true => simp [hk]
  | false => rw [cond_false, Bool.false_or]; exact pP p l (k + 1) (by omega)
theorem qY {p : Int -> Bool} {l : List Int} {i : Nat} {k : Int} (h : i < l.length) : cE p (l.drop i) k = bif p (l.getD i 0) then k else cE p (l.drop (i + 1)) (k + 1) := by
 rw [List.drop_eq_getElem_cons h, cE]; simp [List.getD, h]
def ga (p : Int -> Bool) (zs : List Int) (s i : Int) : Int := bif p (zs.getD i.toNat 0) then uor s (ushl 1 i) else s
def eS (p : Int -> Bool) (zs : List Int) : Int := iz (ga p zs) 0 zs.length
def az (f r : Int) (zs : List Int) : Bool := decide ((cntR f r).2 = 0) && decide ((zs.length : Int) = (cntR f r).1) && !(zs.any badP)
def aL (f r : Int) (zs : List Int) : Bool := az f r zs && !(zs.any norP)
def ew (f r : Int) (zs : List Int) : Int × Int × Int := bif az f r zs then (eS posP zs, eS negP zs, 0) else (0, 0, 2)
def occR (f r : Int) (zs : List Int) : Int := uor (ew f r zs).1 (ew f r zs).2.1
def vL : CF
 | [.agg [.int .i64 f, .int .i64 r]], [] => some (true, .tup [I (cntR f r).1, I (cntR f r).2], [])
 | _, _ => none
theorem zV : CtOk (GGx kCa kDb) PP (141, vL) := by
 refine aG Tryz.func141 (by kernel_rfl) rfl fun a0 h0 c0 v0 N0 e hc => ?_
 unfold vL at e
 split at e
 ·rename_i f r
  cases e
  have hE := aD (kCa := kCa) (kDb := kDb) (cts := [(99, c_vs)]) (inl := []) ⟨nt, trivial⟩ trivial
  refine ak hE 2 Tryz.func141 rfl rfl ?_
  repeat' first | (first | refine ah ?_ | refine sat_nd ?_) | refine au (fun h => ?_) (fun h => ?_)
  all_goals exact ag (ai (.inr rfl) rfl rfl rfl (by first | rfl | (simp only [cntR, *]; done) | (simp only [cntR, *]; done) | simp_all [cntR]))
 ·cases e
def Co : CF
 | [.int .i8 p], [] => some (true, .bool (okP p), [])
 | _, _ => none
theorem Di : CtOk (GGx kCa kDb) PP (143, Co) := by
 refine aG Tryz.func143 (by kernel_rfl) rfl fun a0 h0 c0 v0 N0 e hc => ?_
 unfold Co at e
 split at e
 ·rename_i p
  cases e
  have hE := aD (kCa := kCa) (kDb := kDb) (cts := []) (inl := []) trivial trivial
  refine ak hE 2 Tryz.func143 rfl rfl ?_
  repeat' first | (first | refine ah ?_ | refine sat_nd ?_) | refine au (fun h => ?_) (fun h => ?_)
  all_goals exact ag (ai (.inr rfl) rfl rfl rfl (by first | rfl | (simp only [*, cond_true, cond_false]; done) | (simp only [*, cond_true, cond_false, Bool.not_true, Bool.not_false, Bool.and_true, Bool.true_and, Bool.and_false, Bool.false_and, Bool.or_true, Bool.true_or, Bool.or_false, Bool.false_or]; done) | simp_all []))
 ·cases e
def uz : CF
 | [.int .i8 p], [] => some (true, .bool (orP p), [])
 | _, _ => none
theorem zT : CtOk (GGx kCa kDb) PP (120, uz) := by
 refine aG Tryz.func120 (by kernel_rfl) rfl fun a0 h0 c0 v0 N0 e hc => ?_
 unfold uz at e
 split at e
 ·rename_i p
  cases e
  have hE := aD (kCa := kCa) (kDb := kDb) (cts := []) (inl := []) trivial trivial
  refine ak hE 2 Tryz.func120 rfl rfl ?_
  repeat' first | (first | refine ah ?_ | refine sat_nd ?_) | refine au (fun h => ?_) (fun h => ?_)
  all_goals exact ag (ai (.inr rfl) rfl rfl rfl (by first | rfl | (simp only [*, cond_true, cond_false]; done) | (simp only [*, cond_true, cond_false, Bool.not_true, Bool.not_false, Bool.and_true, Bool.true_and, Bool.and_false, Bool.false_and, Bool.or_true, Bool.true_or, Bool.or_false, Bool.false_or]; done) | simp_all []))
 ·cases e
def FF : CF
 | [.int .i8 p], [] => some (true, .bool (badP p), [])
 | _, _ => none
theorem xN : CtOk (GGx kCa kDb) PP (142, FF) := by
 refine aG Tryz.func142 (by kernel_rfl) rfl fun a0 h0 c0 v0 N0 e hc => ?_
 unfold FF at e
 split at e
 ·rename_i p
  cases e
  have hE := aD (kCa := kCa) (kDb := kDb) (cts := [(143, Co)]) (inl := []) ⟨Di, trivial⟩ trivial
  refine ak hE 2 Tryz.func142 rfl rfl ?_
  repeat' first | (first | refine ah ?_ | refine sat_nd ?_) | refine au (fun h => ?_) (fun h => ?_)
  all_goals exact ag (ai (.inr rfl) rfl rfl rfl (by first | rfl | (simp only [*, cond_true, cond_false]; done) | (simp only [*, cond_true, cond_false, Bool.not_true, Bool.not_false, Bool.and_true, Bool.true_and, Bool.and_false, Bool.false_and, Bool.or_true, Bool.true_or, Bool.or_false, Bool.false_or]; done) | simp_all []))
 ·cases e
def EX : CF
 | [.int .i8 p], [] => some (true, .bool (norP p), [])
 | _, _ => none
theorem xE : CtOk (GGx kCa kDb) PP (119, EX) := by
 refine aG Tryz.func119 (by kernel_rfl) rfl fun a0 h0 c0 v0 N0 e hc => ?_
 unfold EX at e
 split at e
 ·rename_i p
  cases e
  have hE := aD (kCa := kCa) (kDb := kDb) (cts := [(120, uz)]) (inl := []) ⟨zT, trivial⟩ trivial
  refine ak hE 2 Tryz.func119 rfl rfl ?_
  repeat' first | (first | refine ah ?_ | refine sat_nd ?_) | refine au (fun h => ?_) (fun h => ?_)
  all_goals exact ag (ai (.inr rfl) rfl rfl rfl (by first | rfl | (simp only [*, cond_true, cond_false]; done) | (simp only [*, cond_true, cond_false, Bool.not_true, Bool.not_false, Bool.and_true, Bool.true_and, Bool.and_false, Bool.false_and, Bool.or_true, Bool.true_or, Bool.or_false, Bool.false_or]; done) | simp_all []))
 ·cases e
def DZ : CF
 | [.int .i8 p], [] => some (true, .bool (posP p), [])
 | _, _ => none
theorem xj : CtOk (GGx kCa kDb) PP (167, DZ) := by
 refine aG Tryz.func167 (by kernel_rfl) rfl fun a0 h0 c0 v0 N0 e hc => ?_
 unfold DZ at e
 split at e
 ·rename_i p
  cases e
  have hE := aD (kCa := kCa) (kDb := kDb) (cts := []) (inl := []) trivial trivial
  refine ak hE 2 Tryz.func167 rfl rfl ?_
  repeat' first | (first | refine ah ?_ | refine sat_nd ?_) | refine au (fun h => ?_) (fun h => ?_)
  all_goals exact ag (ai (.inr rfl) rfl rfl rfl (by first | rfl | (simp only [*, cond_true, cond_false]; done) | (simp only [*, cond_true, cond_false, Bool.not_true, Bool.not_false, Bool.and_true, Bool.true_and, Bool.and_false, Bool.false_and, Bool.or_true, Bool.true_or, Bool.or_false, Bool.false_or]; done) | simp_all []))
 ·cases e
def DY : CF
 | [.int .i8 p], [] => some (true, .bool (negP p), [])
 | _, _ => none
theorem yx : CtOk (GGx kCa kDb) PP (168, DY) := by
 refine aG Tryz.func168 (by kernel_rfl) rfl fun a0 h0 c0 v0 N0 e hc => ?_
 unfold DY at e
 split at e
 ·rename_i p
  cases e
  have hE := aD (kCa := kCa) (kDb := kDb) (cts := []) (inl := []) trivial trivial
  refine ak hE 2 Tryz.func168 rfl rfl ?_
  repeat' first | (first | refine ah ?_ | refine sat_nd ?_) | refine au (fun h => ?_) (fun h => ?_)
  all_goals exact ag (ai (.inr rfl) rfl rfl rfl (by first | rfl | (simp only [*, cond_true, cond_false]; done) | (simp only [*, cond_true, cond_false, Bool.not_true, Bool.not_false, Bool.and_true, Bool.true_and, Bool.and_false, Bool.false_and, Bool.or_true, Bool.true_or, Bool.or_false, Bool.false_or]; done) | simp_all []))
 ·cases e
def xH : CF
 | [.sl 0 0 len none, .fn 142 []], [.ints false .i8 zs] => some (decide (len = zs.length) && decide (zs.length <= 1000000), .int .i64 (cE badP zs 0), [])
 | [.sl 0 0 len none, .fn 119 []], [.ints false .i8 zs] => some (decide (len = zs.length) && decide (zs.length <= 1000000), .int .i64 (cE norP zs 0), [])
 | _, _ => none
theorem tN : CtOk (GGx kCa kDb) PP (159, xH) := by
 refine aG Tryz.func159 (by kernel_rfl) rfl fun a0 h0 c0 v0 N0 e hc => ?_
 unfold xH at e
 split at e
 ·rename_i len zs
  cases e
  have hE := aD (kCa := kCa) (kDb := kDb) (cts := [(142, FF), (119, EX)]) (inl := []) ⟨xN, xE, trivial⟩ trivial
  refine ak hE 2 Tryz.func159 rfl rfl ?_
  simp only [Bool.and_eq_true, decide_eq_true_eq] at hc
  obtain ⟨rfl, hc2⟩ := hc
  refine bZ hE 2 (fun i (_ : Unit) => ([(0, .sl 0 0 zs.length none), (1, .fn 142 []), (7, I zs.length), (8, I i)], [.ints false .i8 zs])) zs.length (fun j _ => cE badP (zs.drop j) j = cE badP zs 0) () (by omega) (Ent.ren [0] [0, 1, 7, 8] rfl rfl rfl) rfl ?_
  intro j i _ hij hj hz
  refine au (fun hlt => ?_) (fun hlt => ?_)
  ·have hlt' : j < zs.length := by simp at hlt; omega
   rw [qY hlt', show j = i.toNat by omega] at hz
   refine ae (by simp; omega) ?_
   repeat (first | refine ah ?_ | refine sat_nd ?_)
   refine au (fun hon => ?_) (fun hon => ?_)
   ·have hon : badP (zs.getD i.toNat 0) = true := hon
    rw [hon, cond_true] at hz
    refine ag (ag (ai (.inr rfl) rfl rfl rfl (by rw [<- hz]; exact congrArg (V.int IntKind.i64) (by omega))))
   ·have hon : badP (zs.getD i.toNat 0) = false := hon
    rw [hon, cond_false] at hz
    exact ag ⟨hlt', (), by rw [<- hz, show i.toNat = j by omega]; push_cast; rfl, Ent.ren [0] [0, 1, 7, 8] rfl rfl rfl⟩
  ·obtain rfl : j = zs.length := by simp at hlt; omega
   rw [List.drop_length] at hz
   exact ag (ag (ai (.inr rfl) rfl rfl rfl (by rw [<- hz]; rfl)))
 ·rename_i len zs
  cases e
  have hE := aD (kCa := kCa) (kDb := kDb) (cts := [(142, FF), (119, EX)]) (inl := []) ⟨xN, xE, trivial⟩ trivial
  refine ak hE 2 Tryz.func159 rfl rfl ?_
  simp only [Bool.and_eq_true, decide_eq_true_eq] at hc
  obtain ⟨rfl, hc2⟩ := hc
  refine bZ hE 2 (fun i (_ : Unit) => ([(0, .sl 0 0 zs.length none), (1, .fn 119 []), (7, I zs.length), (8, I i)], [.ints false .i8 zs])) zs.length (fun j _ => cE norP (zs.drop j) j = cE norP zs 0) () (by omega) (Ent.ren [0] [0, 1, 7, 8] rfl rfl rfl) rfl ?_
  intro j i _ hij hj hz
  refine au (fun hlt => ?_) (fun hlt => ?_)
  ·have hlt' : j < zs.length := by simp at hlt; omega
   rw [qY hlt', show j = i.toNat by omega] at hz
   refine ae (by simp; omega) ?_
   repeat (first | refine ah ?_ | refine sat_nd ?_)
   refine au (fun hon => ?_) (fun hon => ?_)
   ·have hon : norP (zs.getD i.toNat 0) = true := hon
    rw [hon, cond_true] at hz
    refine ag (ag (ai (.inr rfl) rfl rfl rfl (by rw [<- hz]; exact congrArg (V.int IntKind.i64) (by omega))))
   ·have hon : norP (zs.getD i.toNat 0) = false := hon
    rw [hon, cond_false] at hz
    exact ag ⟨hlt', (), by rw [<- hz, show i.toNat = j by omega]; push_cast; rfl, Ent.ren [0] [0, 1, 7, 8] rfl rfl rfl⟩
  ·obtain rfl : j = zs.length := by simp at hlt; omega
   rw [List.drop_length] at hz
   exact ag (ag (ai (.inr rfl) rfl rfl rfl (by rw [<- hz]; rfl)))
 ·cases e
def qX : CF
 | [.sl 0 0 len none, .fn 142 []], [.ints false .i8 zs] => some (decide (len = zs.length) && decide (zs.length <= 1000000), .bool (zs.any badP), [])
 | [.sl 0 0 len none, .fn 119 []], [.ints false .i8 zs] => some (decide (len = zs.length) && decide (zs.length <= 1000000), .bool (zs.any norP), [])
 | _, _ => none
theorem oC : CtOk (GGx kCa kDb) PP (118, qX) := by
 refine aG Tryz.func118 (by kernel_rfl) rfl fun a0 h0 c0 v0 N0 e hc => ?_
 unfold qX at e
 split at e
 ·rename_i len zs
  cases e
  have hE := aD (kCa := kCa) (kDb := kDb) (cts := [(159, xH)]) (inl := []) ⟨tN, trivial⟩ trivial
  refine ak hE 2 Tryz.func118 rfl rfl ?_
  simp only [Bool.and_eq_true, decide_eq_true_eq] at hc
  obtain ⟨rfl, hc2⟩ := hc
  refine ae (by simp; omega) ?_
  exact ag (ai (.inr rfl) rfl rfl rfl (congrArg Bb (by
   show decide (0 <= cE badP (tk zs) 0) = _
   rw [aC]; exact pP badP zs 0 (by omega))))
 ·rename_i len zs
  cases e
  have hE := aD (kCa := kCa) (kDb := kDb) (cts := [(159, xH)]) (inl := []) ⟨tN, trivial⟩ trivial
  refine ak hE 2 Tryz.func118 rfl rfl ?_
  simp only [Bool.and_eq_true, decide_eq_true_eq] at hc
  obtain ⟨rfl, hc2⟩ := hc
  refine ae (by simp; omega) ?_
  exact ag (ai (.inr rfl) rfl rfl rfl (congrArg Bb (by
   show decide (0 <= cE norP (tk zs) 0) = _
   rw [aC]; exact pP norP zs 0 (by omega))))
 ·cases e
def iK : CF
 | [.agg [.int .i64 f, .int .i64 r, .sl 0 0 len none]], [.ints false .i8 zs] => some (decide (len = zs.length) && decide (zs.length <= 1000000), .bool (az f r zs), [])
 | _, _ => none
theorem ir : CtOk (GGx kCa kDb) PP (79, iK) := by
 refine aG Tryz.func79 (by kernel_rfl) rfl fun a0 h0 c0 v0 N0 e hc => ?_
 unfold iK at e
 split at e
 ·rename_i f r len zs
  cases e
  have hE := aD (kCa := kCa) (kDb := kDb) (cts := [(141, vL), (118, qX)]) (inl := []) ⟨zV, oC, trivial⟩ trivial
  refine ak hE 2 Tryz.func79 rfl rfl ?_
  simp only [Bool.and_eq_true, decide_eq_true_eq] at hc
  obtain ⟨rfl, hc2⟩ := hc
  repeat (first | refine ah ?_ | refine sat_nd ?_)
  exact ag (ai (.inr rfl) rfl rfl rfl (congrArg Bb (by
   show (decide ((cntR f r).2 = 0) && decide ((zs.length : Int) = (cntR f r).1) && !((tk zs).any badP)) = _
   rw [aC]; rfl)))
 ·cases e
def xd : CF
 | [.agg [.int .i64 f, .int .i64 r, .sl 0 0 len none]], [.ints false .i8 zs] => some (decide (len = zs.length) && decide (zs.length <= 1000000), .bool (aL f r zs), [])
 | _, _ => none
theorem sE : CtOk (GGx kCa kDb) PP (62, xd) := by
 refine aG Tryz.func62 (by kernel_rfl) rfl fun a0 h0 c0 v0 N0 e hc => ?_
 unfold xd at e
 split at e
 ·rename_i f r len zs
  cases e
  have hE := aD (kCa := kCa) (kDb := kDb) (cts := [(79, iK), (118, qX)]) (inl := []) ⟨ir, oC, trivial⟩ trivial
  refine ak hE 2 Tryz.func62 rfl rfl ?_
  simp only [Bool.and_eq_true, decide_eq_true_eq] at hc
  obtain ⟨rfl, hc2⟩ := hc
  repeat (first | refine ah ?_ | refine sat_nd ?_)
  exact ag (ai (.inr rfl) rfl rfl rfl (congrArg Bb (by
   show (az f r (tk zs) && !((tk zs).any norP)) = _
   rw [aC]; rfl)))
 ·cases e
def um : CF
 | [.agg [.int .i64 _f, .int .i64 _r, .sl 0 0 len none], .fn 167 []], [.ints false .i8 zs] => some (decide (len = zs.length) && decide (zs.length <= 1000000), .int .u64 (eS posP zs), [])
 | [.agg [.int .i64 _f, .int .i64 _r, .sl 0 0 len none], .fn 168 []], [.ints false .i8 zs] => some (decide (len = zs.length) && decide (zs.length <= 1000000), .int .u64 (eS negP zs), [])
 | _, _ => none
theorem zz : CtOk (GGx kCa kDb) PP (166, um) := by
 refine aG Tryz.func166 (by kernel_rfl) rfl fun a0 h0 c0 v0 N0 e hc => ?_
 unfold um at e
 split at e
 ·rename_i f r len zs
  cases e
  have hE := aD (kCa := kCa) (kDb := kDb) (cts := [(167, DZ), (168, DY)]) (inl := []) ⟨xj, yx, trivial⟩ trivial
  refine ak hE 2 Tryz.func166 rfl rfl ?_
  simp only [Bool.and_eq_true, decide_eq_true_eq] at hc
  obtain ⟨rfl, hc2⟩ := hc
  repeat (first | refine ah ?_ | refine sat_nd ?_)
  refine bZ hE 2 (fun i (s : Int) => ([(1, .fn 167 []), (2, .ptr 1 0 0), (5, U s), (9, .sl 0 0 zs.length none), (10, I zs.length), (11, I i)], [.ints false .i8 zs, .cells true [I f, I r, .sl 0 0 zs.length none]])) zs.length (fun j s => s = iz (ga posP zs) 0 j) 0 (by omega) (Ent.ren [0, 1] [1, 2, 5, 9, 10, 11] rfl rfl rfl) rfl ?_
  intro j i s hij hj hz
  refine au (fun hlt => ?_) (fun hlt => ?_)
  ·have hlt' : j < zs.length := by simp at hlt; omega
   have hs : ga posP zs s i = iz (ga posP zs) 0 (j + 1) := by rw [hz, hij]; rfl
   refine ae (by simp; omega) ?_
   repeat (first | refine ah ?_ | refine sat_nd ?_)
   refine au (fun hon => ?_) (fun hon => ?_)
   ·have hon : posP (zs.getD i.toNat 0) = true := hon
    rw [ga, hon, cond_true] at hs
    refine ae (by simp; omega) ?_
    exact ag ⟨hlt', _, hs, Ent.ren [0, 1] [1, 2, 5, 9, 10, 11] rfl rfl rfl⟩
   ·have hon : posP (zs.getD i.toNat 0) = false := hon
    rw [ga, hon, cond_false] at hs
    exact ag ⟨hlt', _, hs, Ent.ren [0, 1] [1, 2, 5, 9, 10, 11] rfl rfl rfl⟩
  ·obtain rfl : j = zs.length := by simp at hlt; omega
   subst hz
   exact ag (ag (ai (.inr rfl) rfl rfl rfl rfl))
 ·rename_i f r len zs
  cases e
  have hE := aD (kCa := kCa) (kDb := kDb) (cts := [(167, DZ), (168, DY)]) (inl := []) ⟨xj, yx, trivial⟩ trivial
  refine ak hE 2 Tryz.func166 rfl rfl ?_
  simp only [Bool.and_eq_true, decide_eq_true_eq] at hc
  obtain ⟨rfl, hc2⟩ := hc
  repeat (first | refine ah ?_ | refine sat_nd ?_)
  refine bZ hE 2 (fun i (s : Int) => ([(1, .fn 168 []), (2, .ptr 1 0 0), (5, U s), (9, .sl 0 0 zs.length none), (10, I zs.length), (11, I i)], [.ints false .i8 zs, .cells true [I f, I r, .sl 0 0 zs.length none]])) zs.length (fun j s => s = iz (ga negP zs) 0 j) 0 (by omega) (Ent.ren [0, 1] [1, 2, 5, 9, 10, 11] rfl rfl rfl) rfl ?_
  intro j i s hij hj hz
  refine au (fun hlt => ?_) (fun hlt => ?_)
  ·have hlt' : j < zs.length := by simp at hlt; omega
   have hs : ga negP zs s i = iz (ga negP zs) 0 (j + 1) := by rw [hz, hij]; rfl
   refine ae (by simp; omega) ?_
   repeat (first | refine ah ?_ | refine sat_nd ?_)
   refine au (fun hon => ?_) (fun hon => ?_)
   ·have hon : negP (zs.getD i.toNat 0) = true := hon
    rw [ga, hon, cond_true] at hs
    refine ae (by simp; omega) ?_
    exact ag ⟨hlt', _, hs, Ent.ren [0, 1] [1, 2, 5, 9, 10, 11] rfl rfl rfl⟩
   ·have hon : negP (zs.getD i.toNat 0) = false := hon
    rw [ga, hon, cond_false] at hs
    exact ag ⟨hlt', _, hs, Ent.ren [0, 1] [1, 2, 5, 9, 10, 11] rfl rfl rfl⟩
  ·obtain rfl : j = zs.length := by simp at hlt; omega
   subst hz
   exact ag (ag (ai (.inr rfl) rfl rfl rfl rfl))
 ·cases e
def mI : CF
 | [.agg [.int .i64 f, .int .i64 r, .sl 0 0 len none]], [.ints false .i8 zs] => some (decide (len = zs.length) && decide (zs.length <= 1000000), .tup [U (ew f r zs).1, U (ew f r zs).2.1, I (ew f r zs).2.2], [])
 | _, _ => none
theorem jP : CtOk (GGx kCa kDb) PP (135, mI) := by
 refine aG Tryz.func135 (by kernel_rfl) rfl fun a0 h0 c0 v0 N0 e hc => ?_
 unfold mI at e
 split at e
 ·rename_i f r len zs
  cases e
  have hE := aD (kCa := kCa) (kDb := kDb) (cts := [(79, iK), (166, um)]) (inl := []) ⟨ir, zz, trivial⟩ trivial
  refine ak hE 2 Tryz.func135 rfl rfl ?_
  simp only [Bool.and_eq_true, decide_eq_true_eq] at hc
  obtain ⟨rfl, hc2⟩ := hc
  repeat (first | refine ah ?_ | refine sat_nd ?_)
  refine au (fun h => ?_) (fun h => ?_)
  ·have h : az f r zs = false := by simpa using h
   exact ag (ai (.inr rfl) rfl rfl rfl (by rw [ew, h]; rfl))
  ·have h : az f r zs = true := by simpa using h
   repeat (first | refine ah ?_ | refine sat_nd ?_)
   refine ag (ai (.inr rfl) rfl rfl rfl ?_)
   show V.tup [U (eS posP (tk zs)), U (eS negP (tk zs)), I 0] = _
   rw [aC, ew, h]; rfl
 ·cases e
def Ig : CF
 | [.agg [.int .i64 f, .int .i64 r, .sl 0 0 len none]], [.ints false .i8 zs] => some (decide (len = zs.length) && decide (zs.length <= 1000000), .int .u64 (occR f r zs), [])
 | _, _ => none
theorem Fi : CtOk (GGx kCa kDb) PP (121, Ig) := by
 refine aG Tryz.func121 (by kernel_rfl) rfl fun a0 h0 c0 v0 N0 e hc => ?_
 unfold Ig at e
 split at e
 ·rename_i f r len zs
  cases e
  have hE := aD (kCa := kCa) (kDb := kDb) (cts := [(135, mI)]) (inl := []) ⟨jP, trivial⟩ trivial
  refine ak hE 2 Tryz.func121 rfl rfl ?_
  simp only [Bool.and_eq_true, decide_eq_true_eq] at hc
  obtain ⟨rfl, hc2⟩ := hc
  repeat (first | refine ah ?_ | refine sat_nd ?_)
  refine ag (ai (.inr rfl) rfl rfl rfl ?_)
  show U (occR f r (tk zs)) = _
  rw [aC]
 ·cases e
end
section
variable {kCa kDb : Bool}
abbrev w8 (n : Int) : Int := IntKind.i8.wrap n
def isP (p : Int) (bl : Bool) : Bool := (decide (p < 0) && bl) || (decide (0 < p) && !bl)
def absP (p : Int) : Int := imax true p (w8 (0 - p))
def ofR (f r : Int) (zs : List Int) (at_ all_ : Int) : Int := bif decide (zs.getD at_.toNat 0 = 1) || decide (zs.getD at_.toNat 0 = -1) then (fN f r (decide (zs.getD at_.toNat 0 < 0)) at_).1 else (bU f r (absP (zs.getD at_.toNat 0)) at_ all_).1
def Je : CF
 | [.int .i8 p, .bool bl], [] => some (true, .bool (isP p bl), [])
 | _, _ => none
theorem Ff : CtOk (GGx kCa kDb) PP (122, Je) := by
 refine aG Tryz.func122 (by kernel_rfl) rfl fun a0 h0 c0 v0 N0 e hc => ?_
 unfold Je at e
 split at e
 ·rename_i p bl
  cases e
  have hE := aD (kCa := kCa) (kDb := kDb) (cts := []) (inl := []) trivial trivial
  refine ak hE 2 Tryz.func122 rfl rfl ?_
  repeat' first | (first | refine ah ?_ | refine sat_nd ?_) | refine au (fun h => ?_) (fun h => ?_)
  all_goals exact ag (ai (.inr rfl) rfl rfl rfl (by first | rfl | (simp only [*, cond_true, cond_false]; done) | (simp only [*, cond_true, cond_false, Bool.not_true, Bool.not_false, Bool.and_true, Bool.true_and, Bool.and_false, Bool.false_and, Bool.or_true, Bool.true_or, Bool.or_false, Bool.false_or]; done) | simp_all []))
 ·cases e
def c_of : CF
 | [.agg [.int .i64 f, .int .i64 r, .sl 0 0 len none], .int .i64 at_, .int .u64 all_], [.ints false .i8 zs] => some (decide (len = zs.length) && decide (zs.length <= 64) && decide (0 <= at_) && decide (at_ < zs.length), .int .u64 (ofR f r zs at_ all_), [])
 | _, _ => none
theorem HJ : CtOk (GGx kCa kDb) PP (123, c_of) := by
 refine aG Tryz.func123 (by kernel_rfl) rfl fun a0 h0 c0 v0 N0 e hc => ?_
 unfold c_of at e
 split at e
 ·rename_i f r len at_ all_ zs
  cases e
  have hE := aD (kCa := kCa) (kDb := kDb) (cts := [(158, tF), (125, nP)]) (inl := []) ⟨mC, jV, trivial⟩ trivial
  refine ak hE 2 Tryz.func123 rfl rfl ?_
  simp only [Bool.and_eq_true, decide_eq_true_eq] at hc
  obtain ⟨⟨⟨rfl, hc2⟩, ha1⟩, ha2⟩ := hc
  repeat (first | refine ah ?_ | refine sat_nd ?_)
  refine au (fun h => ?_) (fun h => ?_)
  ·have h : decide (zs.getD at_.toNat 0 = 1) = true := h
   refine cC h ?_
   repeat (first | refine ah ?_ | refine sat_nd ?_)
   exact ag (ai (.inr rfl) rfl rfl rfl (by rw [ofR, h]; rfl))
  have h : decide (zs.getD at_.toNat 0 = 1) = false := h
  refine au (fun h2 => ?_) (fun h2 => ?_)
  ·have h2 : decide (zs.getD at_.toNat 0 = -1) = true := h2
   repeat (first | refine ah ?_ | refine sat_nd ?_)
   exact ag (ai (.inr rfl) rfl rfl rfl (by rw [ofR, h, h2]; rfl))
  have h2 : decide (zs.getD at_.toNat 0 = -1) = false := h2
  repeat (first | refine ah ?_ | refine sat_nd ?_)
  exact ag (ai (.inr rfl) rfl rfl rfl (by rw [ofR, h, h2]; rfl))
 ·cases e
def attB (f r : Int) (zs : List Int) (at_ : Int) (bl : Bool) (all_ i : Int) : Bool := isP (zs.getD i.toNat 0) bl && decide (uand (ushr (ofR f r zs i all_) at_) 1 = 1)
def attS (f r : Int) (zs : List Int) (at_ : Int) (bl : Bool) (all_ s i : Int) : Int := bif attB f r zs at_ bl all_ i then uor s (ushl 1 i) else s
def attR (f r : Int) (zs : List Int) (at_ : Int) (bl : Bool) : Int := iz (attS f r zs at_ bl (occR f r zs)) 0 zs.length
def fQ : CF
 | [.agg [.int .i64 f, .int .i64 r, .sl 0 0 len none], .int .i64 at_, .bool bl], [.ints false .i8 zs] => some (decide (len = zs.length) && decide (zs.length <= 64) && decide (0 <= at_), .int .u64 (attR f r zs at_ bl), [])
 | _, _ => none
theorem gX : CtOk (GGx kCa kDb) PP (65, fQ) := by
 refine aG Tryz.func65 (by kernel_rfl) rfl fun a0 h0 c0 v0 N0 e hc => ?_
 unfold fQ at e
 split at e
 ·rename_i f r len at_ bl zs
  cases e
  have hE := aD (kCa := kCa) (kDb := kDb) (cts := [(121, Ig), (122, Je), (123, c_of)]) (inl := []) ⟨Fi, Ff, HJ, trivial⟩ trivial
  refine ak hE 2 Tryz.func65 rfl rfl ?_
  simp only [Bool.and_eq_true, decide_eq_true_eq] at hc
  obtain ⟨⟨rfl, hc2⟩, ha1⟩ := hc
  repeat (first | refine ah ?_ | refine sat_nd ?_)
  refine bZ hE 2 (fun i (s : Int) => ([(1, I at_), (2, Bb bl), (3, .ptr 1 0 0), (7, U s), (8, U (occR f r (tk zs))), (14, .sl 0 0 zs.length none), (15, I zs.length), (16, I i)], [.ints false .i8 zs, .cells true [I f, I r, .sl 0 0 zs.length none]])) zs.length (fun j s => s = iz (attS f r zs at_ bl (occR f r zs)) 0 j) 0 (by omega) (Ent.ren [0, 1] [1, 2, 3, 7, 8, 14, 15, 16] rfl rfl rfl) rfl ?_
  intro j i s hij hj hz
  refine au (fun hlt => ?_) (fun hlt => ?_)
  ·have hlt' : j < zs.length := by simp at hlt; omega
   have hs : attS f r zs at_ bl (occR f r zs) s i = iz (attS f r zs at_ bl (occR f r zs)) 0 (j + 1) := by rw [hz, hij]; rfl
   refine ae (by simp; omega) ?_
   repeat (first | (first | refine ah ?_ | refine sat_nd ?_) | refine ae (by rw [decide_eq_true ha1]; exact Bool.or_true _) ?_ | refine ae (by simp; right; omega) ?_)
   refine au (fun hon => ?_) (fun hon => ?_)
   ·have hon : (isP (zs.getD i.toNat 0) bl && decide (uand (ushr (ofR f r (tk zs) i (occR f r (tk zs))) at_) 1 = 1)) = true := hon
    rw [aC] at hon
    have hon : attB f r zs at_ bl (occR f r zs) i = true := hon
    rw [attS, hon, cond_true] at hs
    refine ae (by simp; omega) ?_
    exact ag ⟨hlt', _, hs, Ent.ren [0, 1] [1, 2, 3, 7, 8, 14, 15, 16] rfl rfl rfl⟩
   ·have hon : (isP (zs.getD i.toNat 0) bl && decide (uand (ushr (ofR f r (tk zs) i (occR f r (tk zs))) at_) 1 = 1)) = false := hon
    rw [aC] at hon
    have hon : attB f r zs at_ bl (occR f r zs) i = false := hon
    rw [attS, hon, cond_false] at hs
    exact ag ⟨hlt', _, hs, Ent.ren [0, 1] [1, 2, 3, 7, 8, 14, 15, 16] rfl rfl rfl⟩
  ·obtain rfl : j = zs.length := by simp at hlt; omega
   subst hz
   exact ag (ag (ai (.inr rfl) rfl rfl rfl rfl))
 ·cases e
end
end Go.Ab
namespace Go.Ab
open IntKind
open Go.Proofs
section
variable {kCa kDb : Bool}
theorem aW {f r : Int} {zs : List Int} (h : aL f r zs = true) : vsB f r = true /\ (zs.length : Int) = f * r /\ az f r zs = true /\ (∀ p ∈ zs, -6 <= p /\ p <= 6) := by
 simp only [aL, Bool.and_eq_true, Bool.not_eq_true', List.any_eq_false] at h
 obtain ⟨h1, h2⟩ := h
 have h1' := h1
 simp only [az, Bool.and_eq_true, decide_eq_true_eq] at h1
 obtain ⟨⟨h3, h4⟩, _⟩ := h1
 have hv : vsB f r = true := by
  cases hv : vsB f r with
  | true => rfl
  | false => rw [cntR, hv] at h3; simp at h3
 rw [cntR, hv, cond_true] at h4
 refine ⟨hv, by rw [h4]; exact eB hv, h1', fun p hp => ?_⟩
 have := h2 p hp
 simp only [norP, orP, Bool.and_eq_true, Bool.not_eq_true', decide_eq_false_iff_not, Bool.and_eq_false_iff, not_and] at this
 by_cases e : p = 0
 ·omega
 ·have := this e
  simp [e] at this
  omega
theorem DB {f r n : Int} {zs : List Int} (h : aL f r zs = true) : aj f r n = true ↔ 0 <= n /\ n < zs.length := by
 obtain ⟨h1, h2, _⟩ := aW h
 rw [h2]
 exact ⟨fun h => ⟨(aJ h).1, (aJ h).2.1⟩, fun h => qM h1 h.1 h.2⟩
def isV (v p : Int) : Bool := decide (v = p)
theorem rL {K : Int} {n : Nat} (h1 : -1 <= K) (h2 : K < n) (hn : n <= 64) : (!!decide (K < 0) || (decide (0 <= i64.wrap (K + 1)) && decide (i64.wrap (K + 1) <= n) && decide ((n : Int) <= n))) = true := by
 rw [aB (by omega) (by omega)]
 simp
 omega
theorem tg {g : Bool} {zs : List Int} {a m : Nat} (h : m = zs.length) (hn : zs.length <= 64) : (!g || (decide (m - a = ((zs.drop a).take (m - a)).length) && decide (((zs.drop a).take (m - a)).length <= 1000000))) = true := by
 subst h
 rw [List.take_of_length_le (by simp), List.length_drop]
 have : zs.length - a <= 1000000 := by omega
 simp [this]
theorem iH {zs : List Int} {v : Int} {b : Bool} (h : (decide (cE (isV v) (tk zs) 0 < 0) || ((zs.drop (i64.wrap (cE (isV v) (tk zs) 0 + 1)).toNat).take ((zs.length : Int).toNat - (i64.wrap (cE (isV v) (tk zs) 0 + 1)).toNat)).any (isV v)) = b) : (decide (cE (isV v) zs 0 < 0) || (zs.drop (i64.wrap (cE (isV v) zs 0 + 1)).toNat).any (isV v)) = b := by
 rw [aC] at h
 rwa [List.take_of_length_le (by simp)] at h
def cV (f r : Int) (zs : List Int) (at_ : Int) (bl : Bool) : Int × Int := bif aL f r zs && aj f r at_ then (attR f r zs at_ bl, 0) else (0, 2)
def kgP (bl : Bool) : Int := bif bl then -6 else 6
def fZ (zs : List Int) (bl : Bool) : Int := cE (isV (kgP bl)) zs 0
def nC (zs : List Int) (bl : Bool) : Bool := decide (fZ zs bl < 0) || (zs.drop (i64.wrap (fZ zs bl + 1)).toNat).any (isV (kgP bl))
def cy (f r : Int) (zs : List Int) (bl : Bool) : Int × Int := bif aL f r zs then (bif nC zs bl then (0, 9) else (fZ zs bl, 0)) else (0, 2)
def bS (f r : Int) (zs : List Int) (bl : Bool) : Int × Int := bif decide ((cy f r zs bl).2 = 0) then (attR f r zs (cy f r zs bl).1 (!bl), 0) else (0, (cy f r zs bl).2)
theorem lz (p : Int -> Bool) : ∀ (l : List Int) (k : Int), 0 <= k -> -1 <= cE p l k /\ cE p l k < k + l.length
 | [], k, _ => by simp [cE]; omega
 | x :: l, k, h => by
  have := lz p l (k + 1) (by omega)
  rw [cE]
  cases p x <;> simp <;> omega
theorem GU {f r : Int} {zs : List Int} {bl : Bool} (h : (cy f r zs bl).2 = 0) : aL f r zs = true /\ nC zs bl = false /\ (cy f r zs bl).1 = fZ zs bl /\ 0 <= fZ zs bl /\ fZ zs bl < zs.length := by
 unfold cy at h ⊢
 cases ho : aL f r zs with
 | false => rw [ho] at h; simp at h
 | true =>
  cases hn : nC zs bl with
  | true => rw [ho, hn] at h; simp at h
  | false =>
   have hb := lz (isV (kgP bl)) zs 0 (by omega)
   simp only [nC, Bool.or_eq_false_iff, decide_eq_false_iff_not] at hn
   refine ⟨rfl, rfl, rfl, by omega, ?_⟩
   unfold fZ; omega
def hY : CF
 | [.agg [.int .i64 f, .int .i64 r, .sl 0 0 len none], .int .i64 at_, .bool bl], [.ints false .i8 zs] => some (decide (len = zs.length) && decide (zs.length <= 64), .tup [U (cV f r zs at_ bl).1, I (cV f r zs at_ bl).2], [])
 | _, _ => none
theorem nQ : CtOk (GGx kCa kDb) PP (113, hY) := by
 refine aG Tryz.func113 (by kernel_rfl) rfl fun a0 h0 c0 v0 N0 e hc => ?_
 unfold hY at e
 split at e
 ·rename_i f r len at_ bl zs
  cases e
  have hE := aD (kCa := kCa) (kDb := kDb) (cts := [(62, xd), (71, eU), (65, fQ)]) (inl := []) ⟨sE, cW, gX, trivial⟩ trivial
  refine ak hE 2 Tryz.func113 rfl rfl ?_
  simp only [Bool.and_eq_true, decide_eq_true_eq] at hc
  obtain ⟨rfl, hc2⟩ := hc
  repeat (first | refine ah ?_ | refine sat_nd ?_)
  refine au (fun h => ?_) (fun h => ?_)
  ·have h : (aL f r zs && aj f r at_) = false := by
    have h : (!aL f r (tk zs) || !aj f r at_) = true := h
    rw [aC] at h
    cases h1 : aL f r zs <;> cases h2 : aj f r at_ <;> simp_all
   exact ag (ai (.inr rfl) rfl rfl rfl (by rw [cV, h]; rfl))
  ·have h : (aL f r zs && aj f r at_) = true := by
    have h : (!aL f r (tk zs) || !aj f r at_) = false := h
    rw [aC] at h
    cases h1 : aL f r zs <;> cases h2 : aj f r at_ <;> simp_all
   have h0 := (aJ (Bool.and_eq_true_iff.1 h).2).1
   refine ae (by simp; omega) ?_
   exact ag (ai (.inr rfl) rfl rfl rfl (by
    show V.tup [U (attR f r (tk zs) at_ bl), I 0] = _
    rw [aC, cV, h]; rfl))
 ·cases e
def rj : CF
 | [.sl 0 0 len none, .int .i8 v], [.ints false .i8 zs] => some (decide (len = zs.length) && decide (zs.length <= 1000000), .int .i64 (cE (isV v) zs 0), [])
 | _, _ => none
theorem ox : CtOk (GGx kCa kDb) PP (63, rj) := by
 refine aG Tryz.func63 (by kernel_rfl) rfl fun a0 h0 c0 v0 N0 e hc => ?_
 unfold rj at e
 split at e
 ·rename_i len v zs
  cases e
  have hE := aD (kCa := kCa) (kDb := kDb) (cts := []) (inl := []) trivial trivial
  refine ak hE 2 Tryz.func63 rfl rfl ?_
  simp only [Bool.and_eq_true, decide_eq_true_eq] at hc
  obtain ⟨rfl, hc2⟩ := hc
  refine bZ hE 2 (fun i (_ : Unit) => ([(0, .sl 0 0 zs.length none), (1, .int .i8 v), (7, I zs.length), (8, I i)], [.ints false .i8 zs])) zs.length (fun j _ => cE (isV v) (zs.drop j) j = cE (isV v) zs 0) () (by omega) (Ent.ren [0] [0, 1, 7, 8] rfl rfl rfl) rfl ?_
  intro j i _ hij hj hz
  refine au (fun hlt => ?_) (fun hlt => ?_)
  ·have hlt' : j < zs.length := by simp at hlt; omega
   rw [qY hlt', show j = i.toNat by omega] at hz
   refine ae (by simp; omega) ?_
   repeat (first | refine ah ?_ | refine sat_nd ?_)
   refine au (fun hon => ?_) (fun hon => ?_)
   ·have hon : isV v (zs.getD i.toNat 0) = true := hon
    rw [hon, cond_true] at hz
    refine ag (ag (ai (.inr rfl) rfl rfl rfl (by rw [<- hz]; exact congrArg (V.int i64) (by omega))))
   ·have hon : isV v (zs.getD i.toNat 0) = false := hon
    rw [hon, cond_false] at hz
    exact ag ⟨hlt', (), by rw [<- hz, show i.toNat = j by omega]; push_cast; rfl, Ent.ren [0] [0, 1, 7, 8] rfl rfl rfl⟩
  ·obtain rfl : j = zs.length := by simp at hlt; omega
   rw [List.drop_length] at hz
   exact ag (ag (ai (.inr rfl) rfl rfl rfl (by rw [<- hz]; rfl)))
 ·cases e
def gC : CF
 | [.sl 0 0 len none, .int .i8 v], [.ints false .i8 zs] => some (decide (len = zs.length) && decide (zs.length <= 1000000), .bool (zs.any (isV v)), [])
 | _, _ => none
theorem jr : CtOk (GGx kCa kDb) PP (64, gC) := by
 refine aG Tryz.func64 (by kernel_rfl) rfl fun a0 h0 c0 v0 N0 e hc => ?_
 unfold gC at e
 split at e
 ·rename_i len v zs
  cases e
  have hE := aD (kCa := kCa) (kDb := kDb) (cts := [(63, rj)]) (inl := []) ⟨ox, trivial⟩ trivial
  refine ak hE 2 Tryz.func64 rfl rfl ?_
  simp only [Bool.and_eq_true, decide_eq_true_eq] at hc
  obtain ⟨rfl, hc2⟩ := hc
  refine ae (by simp; omega) ?_
  exact ag (ai (.inr rfl) rfl rfl rfl (congrArg Bb (by
   show decide (0 <= cE (isV v) (tk zs) 0) = _
   rw [aC]; exact pP (isV v) zs 0 (by omega))))
 ·cases e
def yn : CF
 | [.agg [.int .i64 f, .int .i64 r, .sl 0 0 len none], .bool bl], [.ints false .i8 zs] => some (decide (len = zs.length) && decide (zs.length <= 64), .tup [I (cy f r zs bl).1, I (cy f r zs bl).2], [])
 | _, _ => none
theorem tU : CtOk (GGx kCa kDb) PP (28, yn) := by
 refine aG Tryz.func28 (by kernel_rfl) rfl fun a0 h0 c0 v0 N0 e hc => ?_
 unfold yn at e
 split at e
 ·rename_i f r len bl zs
  cases e
  have hE := aD (kCa := kCa) (kDb := kDb) (cts := [(62, xd), (63, rj), (64, gC)]) (inl := []) ⟨sE, ox, jr, trivial⟩ trivial
  refine ak hE 2 Tryz.func28 rfl rfl ?_
  simp only [Bool.and_eq_true, decide_eq_true_eq] at hc
  obtain ⟨rfl, hc2⟩ := hc
  repeat (first | refine ah ?_ | refine sat_nd ?_)
  refine au (fun h => ?_) (fun h => ?_)
  ·have h : aL f r zs = false := by simpa using h
   exact ag (ai (.inr rfl) rfl rfl rfl (by rw [cy, h]; rfl))
  have h : aL f r zs = true := by simpa using h
  refine au (fun hb => ?_) (fun hb => ?_)
  ·subst hb
   have hbd := lz (isV (kgP true)) zs 0 (by omega)
   repeat (first | refine ah ?_ | refine sat_nd ?_)
   refine ae (by
    refine rL (K := cE (isV (kgP true)) (tk zs) 0) ?_ ?_ hc2
    ·rw [aC]; exact hbd.1
    ·rw [aC]; have := hbd.2; omega) ?_
   repeat (first | (first | refine ah ?_ | refine sat_nd ?_) | refine ae (tg rfl hc2) ?_)
   refine au (fun hk => ?_) (fun hk => ?_)
   ·have hk := iH (zs := zs) (v := kgP true) hk
    exact ag (ai (.inr rfl) rfl rfl rfl (by rw [cy, h, show nC zs true = true from hk]; rfl))
   ·have hk := iH (zs := zs) (v := kgP true) hk
    exact ag (ai (.inr rfl) rfl rfl rfl (by
     show V.tup [I (cE (isV (kgP true)) (tk zs) 0), I 0] = _
     rw [aC, cy, h, show nC zs true = false from hk]; rfl))
  ·subst hb
   have hbd := lz (isV (kgP false)) zs 0 (by omega)
   repeat (first | refine ah ?_ | refine sat_nd ?_)
   refine ae (by
    refine rL (K := cE (isV (kgP false)) (tk zs) 0) ?_ ?_ hc2
    ·rw [aC]; exact hbd.1
    ·rw [aC]; have := hbd.2; omega) ?_
   repeat (first | (first | refine ah ?_ | refine sat_nd ?_) | refine ae (tg rfl hc2) ?_)
   refine au (fun hk => ?_) (fun hk => ?_)
   ·have hk := iH (zs := zs) (v := kgP false) hk
    exact ag (ai (.inr rfl) rfl rfl rfl (by rw [cy, h, show nC zs false = true from hk]; rfl))
   ·have hk := iH (zs := zs) (v := kgP false) hk
    exact ag (ai (.inr rfl) rfl rfl rfl (by
     show V.tup [I (cE (isV (kgP false)) (tk zs) 0), I 0] = _
     rw [aC, cy, h, show nC zs false = false from hk]; rfl))
 ·cases e
def gD : CF
 | [.agg [.int .i64 f, .int .i64 r, .sl 0 0 len none], .bool bl], [.ints false .i8 zs] => some (decide (len = zs.length) && decide (zs.length <= 64), .tup [U (bS f r zs bl).1, I (bS f r zs bl).2], [])
 | _, _ => none
theorem js : CtOk (GGx kCa kDb) PP (29, gD) := by
 refine aG Tryz.func29 (by kernel_rfl) rfl fun a0 h0 c0 v0 N0 e hc => ?_
 unfold gD at e
 split at e
 ·rename_i f r len bl zs
  cases e
  have hE := aD (kCa := kCa) (kDb := kDb) (cts := [(28, yn), (65, fQ)]) (inl := []) ⟨tU, gX, trivial⟩ trivial
  refine ak hE 2 Tryz.func29 rfl rfl ?_
  simp only [Bool.and_eq_true, decide_eq_true_eq] at hc
  obtain ⟨rfl, hc2⟩ := hc
  repeat (first | refine ah ?_ | refine sat_nd ?_)
  refine au (fun h => ?_) (fun h => ?_)
  ·have h : decide ((cy f r zs bl).2 = 0) = false := by simpa using h
   exact ag (ai (.inr rfl) rfl rfl rfl (by
    show V.tup [U 0, I (cy f r (tk zs) bl).2] = _
    rw [aC, bS, h]; rfl))
  have h : decide ((cy f r zs bl).2 = 0) = true := by simpa using h
  obtain ⟨_, _, k3, k4, k5⟩ := GU (of_decide_eq_true h)
  refine ae (by
   have e : (cy f r (tk zs) bl).1 = fZ zs bl := by rw [aC, k3]
   rw [e]; simp; omega) ?_
  exact ag (ai (.inr rfl) rfl rfl rfl (by
   show V.tup [U (attR f r (tk zs) (cy f r (tk zs) bl).1 (!bl)), I 0] = _
   rw [aC, bS, h]; rfl))
 ·cases e
end
end Go.Ab
set_option maxHeartbeats 4000000
namespace Go.Ab
open IntKind
open Go.Proofs
section
variable {kCa kDb : Bool}
structure Psn where
 f : Int
 r : Int
 zs : List Int
 bl : Bool
 ca : Int
 pa : Int
 ha : Int
 fu : Int
structure Mov where
 a : Int
 b : Int
 p : Int
structure Und where
 m : Mov
 c : Int
 at_ : Int
 ca : Int
 pa : Int
 ha : Int
 fu : Int
abbrev eV (a b : Int) : Int := band .and .u8 a b
def ofP (k : Int) (b : Bool) : Int := bif b then w8 (0 - k) else k
def mvB (f r a b p : Int) : Bool := aj f r a && aj f r b && !decide (a = b) && (decide (p = 0) || (decide (2 <= p) && decide (p <= 5)))
def is88 (f r : Int) : Bool := decide (f = 8) && decide (r = 8)
def rtX (f r : Int) (zs : List Int) (ca bit : Int) (k q : Nat) (b : Bool) : Bool := !decide (eV ca bit = 0) && ((!is88 f r || !decide (zs.getD k 0 = ofP 6 b)) || !decide (zs.getD q 0 = ofP 4 b))
def eI (f r : Int) (zs : List Int) (ca : Int) : Bool := !rtX f r zs ca 1 4 7 false && !rtX f r zs ca 2 4 0 false && !rtX f r zs ca 4 60 63 true && !rtX f r zs ca 8 60 56 true && decide (ca < 16)
def upP (f : Int) (bl : Bool) : Int := bif bl then f else i64.wrap (0 - f)
def rkP (r : Int) (bl : Bool) : Int := bif bl then 2 else i64.wrap (r - 3)
def jJ (f r : Int) (zs : List Int) (bl : Bool) (pa ha : Int) : Bool := decide (pa = -1) ||
 (decide (6 <= r) && decide (ha = 0) && aj f r pa && decide (i64.wrap (pa.tdiv f) = rkP r bl) && decide (zs.getD pa.toNat 0 = 0) && decide (zs.getD (i64.wrap (pa - upP f bl)).toNat 0 = 0) && decide (zs.getD (i64.wrap (pa + upP f bl)).toNat 0 = ofP 1 (!bl)))
def nI (f : Int) (zs : List Int) : Bool := !(zs.drop (zs.length - f.toNat)).any (isV 1) && !(zs.take f.toNat).any (isV (-1))
def fW (f r : Int) (zs : List Int) (bl : Bool) : Bool := decide ((cy f r zs bl).2 = 0) && decide ((bS f r zs (!bl)).2 = 0) && decide ((bS f r zs (!bl)).1 = 0)
def cntB (ha fu : Int) : Bool := decide (0 <= ha) && decide (ha <= 10000) && decide (1 <= fu) && decide (fu <= 10000)
def Psn.ok (p : Psn) : Bool := az p.f p.r p.zs && fW p.f p.r p.zs p.bl && nI p.f p.zs && eI p.f p.r p.zs p.ca && jJ p.f p.r p.zs p.bl p.pa p.ha && cntB p.ha p.fu
theorem aV {f r : Int} {zs : List Int} (h : az f r zs = true) : vsB f r = true /\ (zs.length : Int) = f * r := by
 simp only [az, Bool.and_eq_true, decide_eq_true_eq] at h
 obtain ⟨⟨h1, h2⟩, _⟩ := h
 unfold cntR at h1 h2
 cases hv : vsB f r with
 | false => rw [hv] at h1; simp at h1
 | true => rw [hv] at h2; exact ⟨rfl, by rw [cond_true] at h2; rw [h2]; exact eB hv⟩
theorem bL {f r n : Int} {zs : List Int} (h : az f r zs = true) : aj f r n = true ↔ 0 <= n /\ n < zs.length := by
 obtain ⟨h1, h2⟩ := aV h
 rw [h2]
 exact ⟨fun h => ⟨(aJ h).1, (aJ h).2.1⟩, fun h => qM h1 h.1 h.2⟩
theorem tR {f r : Int} {zs : List Int} (h : az f r zs = true) (h8 : is88 f r = true) : zs.length = 64 := by
 have := (aV h).2
 simp only [is88, Bool.and_eq_true, decide_eq_true_eq] at h8
 obtain ⟨rfl, rfl⟩ := h8
 omega
def FK : CF
 | [.int .i8 k, .bool b], [] => some (true, .int .i8 (ofP k b), [])
 | _, _ => none
theorem yh : CtOk (GGx kCa kDb) PP (145, FK) := by
 refine aG Tryz.func145 (by kernel_rfl) rfl fun a0 h0 c0 v0 N0 e hc => ?_
 unfold FK at e
 split at e
 ·rename_i k b
  cases e
  have hE := aD (kCa := kCa) (kDb := kDb) (cts := []) (inl := []) trivial trivial
  refine ak hE 2 Tryz.func145 rfl rfl ?_
  repeat' first | (first | refine ah ?_ | refine sat_nd ?_) | refine au (fun h => ?_) (fun h => ?_)
  all_goals exact ag (ai (.inr rfl) rfl rfl rfl (by first | rfl | (simp only [ofP, *, cond_true, cond_false]; done) | (simp only [ofP, *, cond_true, cond_false, Bool.not_true, Bool.not_false, Bool.and_true, Bool.true_and, Bool.and_false, Bool.false_and, Bool.or_true, Bool.true_or, Bool.or_false, Bool.false_or]; done) | simp_all [ofP]))
 ·cases e
theorem Af : mH { (EE kCa kDb [] []) with pf := kN (EE kCa kDb [] []) [] 1000 4, cc := true } 3 1000 Tryz.f144 [] [] = some (.agg [.int .u8 1, .str [75], .lit false, I 4, I 7, .int .u8 2, .str [81], .lit false, I 4, I 0, .int .u8 4, .str [107], .lit true, I 60, I 63, .int .u8 8, .str [113], .lit true, I 60, I 56], []) := by kernel_rfl
def qS : CF
 | [], [] => some (true, .agg [.int .u8 1, .str [75], .lit false, I 4, I 7, .int .u8 2, .str [81], .lit false, I 4, I 0, .int .u8 4, .str [107], .lit true, I 60, I 63, .int .u8 8, .str [113], .lit true, I 60, I 56], [])
 | _, _ => none
theorem uO : CtOk (GGx kCa kDb) PP (144, qS) := by
 refine aG Tryz.func144 (by kernel_rfl) rfl fun a0 h0 c0 v0 N0 e hc => ?_
 unfold qS at e
 split at e
 ·cases e
  exact aM.like (lV (aD (kCa := kCa) (kDb := kDb) (cts := []) (inl := []) trivial trivial) (xs := []) trivial 1000 4 Tryz.func144 Af) (fun _ _ h => h)
 ·cases e
def qi : CF
 | [.agg [.int .i64 f, .int .i64 r], .agg [.int .i64 a, .int .i64 b, .int .i8 pr]], [] => some (true, .bool (mvB f r a b pr), [])
 | _, _ => none
theorem wh : CtOk (GGx kCa kDb) PP (56, qi) := by
 refine aG Tryz.func56 (by kernel_rfl) rfl fun a0 h0 c0 v0 N0 e hc => ?_
 unfold qi at e
 split at e
 ·rename_i f r a b pr
  cases e
  have hE := aD (kCa := kCa) (kDb := kDb) (cts := [(71, eU)]) (inl := []) ⟨cW, trivial⟩ trivial
  refine ak hE 2 Tryz.func56 rfl rfl ?_
  repeat (first | refine ah ?_ | refine sat_nd ?_)
  exact ag (ai (.inr rfl) rfl rfl rfl rfl)
 ·cases e
def tQ : CF
 | [.int .i8 p], [] => some (true, .int .i8 (absP p), [])
 | _, _ => none
theorem mm : CtOk (GGx kCa kDb) PP (111, tQ) := by
 refine aG Tryz.func111 (by kernel_rfl) rfl fun a0 h0 c0 v0 N0 e hc => ?_
 unfold tQ at e
 split at e
 ·rename_i p
  cases e
  have hE := aD (kCa := kCa) (kDb := kDb) (cts := []) (inl := []) trivial trivial
  refine ak hE 2 Tryz.func111 rfl rfl ?_
  exact ag (ai (.inr rfl) rfl rfl rfl rfl)
 ·cases e
def c_is : CF
 | [.int .i8 p, .bool b], [] => some (true, .bool (isP p b), [])
 | _, _ => none
theorem Ho : CtOk (GGx kCa kDb) PP (108, c_is) := by
 refine aG Tryz.func108 (by kernel_rfl) rfl fun a0 h0 c0 v0 N0 e hc => ?_
 unfold c_is at e
 split at e
 ·rename_i p b
  cases e
  have hE := aD (kCa := kCa) (kDb := kDb) (cts := []) (inl := []) trivial trivial
  refine ak hE 2 Tryz.func108 rfl rfl ?_
  repeat (first | refine ah ?_ | refine sat_nd ?_)
  exact ag (ai (.inr rfl) rfl rfl rfl rfl)
 ·cases e
theorem wP {f r : Int} {zs : List Int} {g : Bool} {k : Int} (h : az f r zs = true) (h0 : 0 <= k) (h1 : k < 64) : (!(g && !!is88 f r) || (decide (0 <= k) && decide (k < zs.length))) = true := by
 cases h8 : is88 f r with
 | false => simp
 | true => have := tR h h8; simp; omega
theorem qo {f r : Int} {zs : List Int} {g x : Bool} {k : Int} (h : az f r zs = true) (h0 : 0 <= k) (h1 : k < 64) : (!(g && !(!is88 f r || x)) || (decide (0 <= k) && decide (k < zs.length))) = true := by
 cases h8 : is88 f r with
 | false => simp
 | true => have := tR h h8; simp; omega
def jA : CF
 | [.agg [.int .i64 f, .int .i64 r, .sl 0 0 len none, .bool _bl, .int .u8 ca, .int .i64 _pa, .int .i64 _ha, .int .i64 _fu]], [.ints false .i8 zs] => some (decide (len = zs.length) && decide (zs.length <= 64) && az f r zs, .bool (eI f r zs ca), [])
 | _, _ => none
theorem oW : CtOk (GGx kCa kDb) PP (85, jA) := by
 refine aG Tryz.func85 (by kernel_rfl) rfl fun a0 h0 c0 v0 N0 e hc => ?_
 unfold jA at e
 split at e
 ·rename_i f r len bl ca pa ha fu zs
  cases e
  have hE := aD (kCa := kCa) (kDb := kDb) (cts := [(144, qS), (145, FK)]) (inl := []) ⟨uO, yh, trivial⟩ trivial
  refine ak hE 2 Tryz.func85 rfl rfl ?_
  simp only [Bool.and_eq_true, decide_eq_true_eq] at hc
  obtain ⟨⟨rfl, hc2⟩, hbd⟩ := hc
  repeat (first | refine ah ?_ | refine sat_nd ?_)
  refine cU hE 2 5 ?_
  refine rnd ?_
  refine cC (by rfl) ?_
  repeat (first | (first | refine ah ?_ | refine sat_nd ?_) | refine ae (wP hbd (by omega) (by omega)) ?_ | refine ae (qo hbd (by omega) (by omega)) ?_)
  refine au (fun h0 => ?_) (fun h0 => ?_)
  ·have h0 : rtX f r zs ca 1 4 7 false = true := h0
   exact ag (ag (ai (.inr rfl) rfl rfl rfl (by simp [eI, h0])))
  have h0 : rtX f r zs ca 1 4 7 false = false := h0
  refine ag ⟨[(1, .ptr 1 0 0), (5, .agg [.int .u8 1, .str [75], .lit false, I 4, I 7, .int .u8 2, .str [81], .lit false, I 4, I 0, .int .u8 4, .str [107], .lit true, I 60, I 63, .int .u8 8, .str [113], .lit true, I 60, I 56]), (6, I 1)], [.ints false .i8 zs, .cells true [I f, I r, .sl 0 0 zs.length none, Bb bl, .int .u8 ca, I pa, I ha, I fu]], Ent.ren [0, 1] [1, 5, 6] rfl rfl rfl, ?_⟩
  refine rnd ?_
  refine cC (by rfl) ?_
  repeat (first | (first | refine ah ?_ | refine sat_nd ?_) | refine ae (wP hbd (by omega) (by omega)) ?_ | refine ae (qo hbd (by omega) (by omega)) ?_)
  refine au (fun h1 => ?_) (fun h1 => ?_)
  ·have h1 : rtX f r zs ca 2 4 0 false = true := h1
   exact ag (ag (ai (.inr rfl) rfl rfl rfl (by simp [eI, h1])))
  have h1 : rtX f r zs ca 2 4 0 false = false := h1
  refine ag ⟨[(1, .ptr 1 0 0), (5, .agg [.int .u8 1, .str [75], .lit false, I 4, I 7, .int .u8 2, .str [81], .lit false, I 4, I 0, .int .u8 4, .str [107], .lit true, I 60, I 63, .int .u8 8, .str [113], .lit true, I 60, I 56]), (6, I 2)], [.ints false .i8 zs, .cells true [I f, I r, .sl 0 0 zs.length none, Bb bl, .int .u8 ca, I pa, I ha, I fu]], Ent.ren [0, 1] [1, 5, 6] rfl rfl rfl, ?_⟩
  refine rnd ?_
  refine cC (by rfl) ?_
  repeat (first | (first | refine ah ?_ | refine sat_nd ?_) | refine ae (wP hbd (by omega) (by omega)) ?_ | refine ae (qo hbd (by omega) (by omega)) ?_)
  refine au (fun h2 => ?_) (fun h2 => ?_)
  ·have h2 : rtX f r zs ca 4 60 63 true = true := h2
   exact ag (ag (ai (.inr rfl) rfl rfl rfl (by simp [eI, h2])))
  have h2 : rtX f r zs ca 4 60 63 true = false := h2
  refine ag ⟨[(1, .ptr 1 0 0), (5, .agg [.int .u8 1, .str [75], .lit false, I 4, I 7, .int .u8 2, .str [81], .lit false, I 4, I 0, .int .u8 4, .str [107], .lit true, I 60, I 63, .int .u8 8, .str [113], .lit true, I 60, I 56]), (6, I 3)], [.ints false .i8 zs, .cells true [I f, I r, .sl 0 0 zs.length none, Bb bl, .int .u8 ca, I pa, I ha, I fu]], Ent.ren [0, 1] [1, 5, 6] rfl rfl rfl, ?_⟩
  refine rnd ?_
  refine cC (by rfl) ?_
  repeat (first | (first | refine ah ?_ | refine sat_nd ?_) | refine ae (wP hbd (by omega) (by omega)) ?_ | refine ae (qo hbd (by omega) (by omega)) ?_)
  refine au (fun h3 => ?_) (fun h3 => ?_)
  ·have h3 : rtX f r zs ca 8 60 56 true = true := h3
   exact ag (ag (ai (.inr rfl) rfl rfl rfl (by simp [eI, h3])))
  have h3 : rtX f r zs ca 8 60 56 true = false := h3
  refine ag ⟨[(1, .ptr 1 0 0), (5, .agg [.int .u8 1, .str [75], .lit false, I 4, I 7, .int .u8 2, .str [81], .lit false, I 4, I 0, .int .u8 4, .str [107], .lit true, I 60, I 63, .int .u8 8, .str [113], .lit true, I 60, I 56]), (6, I 4)], [.ints false .i8 zs, .cells true [I f, I r, .sl 0 0 zs.length none, Bb bl, .int .u8 ca, I pa, I ha, I fu]], Ent.ren [0, 1] [1, 5, 6] rfl rfl rfl, ?_⟩
  refine rnd ?_
  refine sI (by rfl) ?_
  refine ag (ag (ai (.inr rfl) rfl rfl rfl (by simp [eI, h0, h1, h2, h3])))
 ·cases e
end
end Go.Ab
