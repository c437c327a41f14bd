/- Contracts of the functions that the laws reach, and plain laws of what they compute (text G8); no condition. -/
import Derived.Test.YtjfeochdckkdeaaGreatDoorG7
import Derived.Test.YtjfeochdckkdeaaGreatDoorG4
import Derived.Test.YtjfeochdckkdeaaGreatDoorG5
set_option maxRecDepth 100000
namespace Go.Ab
open Go.Proofs
theorem imax_abs {p : Int} (h : -6 ≤ p ∧ p ≤ 6) : absP p = p.natAbs := by
 have hw : w8 (0 - p) = -p := by
  have hb : IntKind.i8.bits = 8 := rfl
  have : ∀ q : _root_.Fin 13, w8 (0 - ((q.val : Int) - 6)) = -((q.val : Int) - 6) := by decide +kernel
  have h2 := this ⟨(p + 6).toNat, by omega⟩
  simp only at h2
  rwa [show (((p + 6).toNat : Int) - 6) = p by omega] at h2
 unfold absP
 rw [hw]
 unfold imax
 by_cases h1 : p < -p <;> simp [h1] <;> omega
end Go.Ab

set_option maxRecDepth 100000
namespace Go.Ab
open Go.Proofs
variable {kCa kDb : Bool}
theorem filt_take {C : Int → Bool} {l : List Int} {j : Nat} (h : j < l.length) : (bif C (l.getD j 0) then (l.take j).filter C ++ [l.getD j 0] else (l.take j).filter C) = (l.take (j + 1)).filter C := by
 have e : l.getD j 0 = l[j] := by simp [List.getD, h]
 rw [e, List.take_succ_eq_append_getElem h, List.filter_append]
 cases hc : C l[j] <;> simp [hc]
def kind8 (p : Int) : Int := bif decide (p < 0) then w8 (0 - p) else p
def sdI (bl : Bool) : Int := bif bl then -1 else 1
def sideC (zs : List Int) (s i : Int) : Bool := decide (sgn (zs.getD i.toNat 0) = s)
def sideL (zs : List Int) (s : Int) : List Int := filtB (sideC zs s) id zs.length
def occL (zs : List Int) : Int := ofL (sideL zs 1 ++ sideL zs (-1)) 0
def listC (zs : List Int) (p i : Int) : Bool := decide (zs.getD i.toNat 0 = p)
def listL (zs : List Int) (p : Int) : List Int := filtB (listC zs p) id zs.length
def attB4 (f r : Int) (zs : List Int) (i to occ : Int) : Bool := bif decide (kind8 (zs.getD i.toNat 0) = 1) then hasL to (filtB (pawnC f (decide (zs.getD i.toNat 0 < 0)) i) id (f * r).toNat) else !decide (i = to) && reachesB f r (kind8 (zs.getD i.toNat 0)) i to occ
def attC4 (f r : Int) (zs : List Int) (to occ i : Int) : Bool := attB4 f r zs i to occ
def attL (f r : Int) (zs : List Int) (to : Int) (bl : Bool) : List Int := (sideL zs (sdI bl)).filter (attC4 f r zs to (occL zs))
def refKing (zs : List Int) (bl : Bool) : Int := bif decide (((listL zs (w8 (IntKind.i64.wrap (6 * sdI bl)))).length : Int) = 1) then (listL zs (w8 (IntKind.i64.wrap (6 * sdI bl)))).getD 0 0 else -1
theorem sideL_len (zs : List Int) (s : Int) : (sideL zs s).length ≤ zs.length := filtB_len _ _ _
theorem mem_sideL {zs : List Int} {s x : Int} : x ∈ sideL zs s ↔ 0 ≤ x ∧ x < zs.length ∧ sgn (zs.getD x.toNat 0) = s := by
 unfold sideL
 rw [mem_filtB]
 simp [sideC]
theorem valid_eq {f r : Int} {zs : List Int} : (vsB f r && decide ((zs.length : Int) = IntKind.i64.wrap (f * r)) && zs.all okP) = validBd f r zs := by
 unfold validBd cntR
 cases vsB f r
 ·simp
 ·simp [badP, List.any_eq_not_all_not]
theorem orth_eq {f r : Int} {zs : List Int} : (validBd f r zs && zs.all (fun p => !norP p)) = orthBd f r zs := by
 unfold orthBd
 simp [List.any_eq_not_all_not]
def c_rpval : CF
 | [.int .i8 p], [] => some (true, .bool (okP p), [])
 | _, _ => none
theorem c_rpval_ok : CtOk (GGx kCa kDb) PP (146, c_rpval) := by
 refine ct_mk Tryz.func146 (by kernel_rfl) rfl fun a0 h0 c0 v0 N0 e hc => ?_
 unfold c_rpval at e
 split at e
 ·rename_i p
  cases e
  have hE := EE_ok (kCa := kCa) (kDb := kDb) (cts := []) (inl := []) trivial trivial
  refine fn_sound hE 2 Tryz.func146 rfl rfl ?_
  repeat' first | (first | refine sat_self ?_ | refine sat_nd ?_) | refine sat_br (fun h => ?_) (fun h => ?_)
  all_goals exact sat_ret (fin_val (.inr rfl) rfl rfl rfl (by first | rfl | (simp only [*, cond_true, cond_false]; done) | (simp only [*, cond_true, cond_false, Bool.not_true, Bool.not_false, Bool.and_true, Bool.true_and, Bool.and_false, Bool.false_and, Bool.or_true, Bool.true_or, Bool.or_false, Bool.false_or]; done) | simp_all []))
 ·cases e
def c_rporth : CF
 | [.int .i8 p], [] => some (true, .bool (orP p), [])
 | _, _ => none
theorem c_rporth_ok : CtOk (GGx kCa kDb) PP (91, c_rporth) := by
 refine ct_mk Tryz.func91 (by kernel_rfl) rfl fun a0 h0 c0 v0 N0 e hc => ?_
 unfold c_rporth at e
 split at e
 ·rename_i p
  cases e
  have hE := EE_ok (kCa := kCa) (kDb := kDb) (cts := []) (inl := []) trivial trivial
  refine fn_sound hE 2 Tryz.func91 rfl rfl ?_
  repeat' first | (first | refine sat_self ?_ | refine sat_nd ?_) | refine sat_br (fun h => ?_) (fun h => ?_)
  all_goals exact sat_ret (fin_val (.inr rfl) rfl rfl rfl (by first | rfl | (simp only [*, cond_true, cond_false]; done) | (simp only [*, cond_true, cond_false, Bool.not_true, Bool.not_false, Bool.and_true, Bool.true_and, Bool.and_false, Bool.false_and, Bool.or_true, Bool.true_or, Bool.or_false, Bool.false_or]; done) | simp_all []))
 ·cases e
def c_rpside : CF
 | [.int .i8 p], [] => some (true, .int .i64 (sgn p), [])
 | _, _ => none
theorem c_rpside_ok : CtOk (GGx kCa kDb) PP (116, c_rpside) := by
 refine ct_mk Tryz.func116 (by kernel_rfl) rfl fun a0 h0 c0 v0 N0 e hc => ?_
 unfold c_rpside at e
 split at e
 ·rename_i p
  cases e
  have hE := EE_ok (kCa := kCa) (kDb := kDb) (cts := []) (inl := []) trivial trivial
  refine fn_sound hE 2 Tryz.func116 rfl rfl ?_
  repeat' first | (first | refine sat_self ?_ | refine sat_nd ?_) | refine sat_br (fun h => ?_) (fun h => ?_)
  all_goals exact sat_ret (fin_val (.inr rfl) rfl rfl rfl (by first | rfl | (simp only [sgn, *, cond_true, cond_false]; done) | (simp only [sgn, *, cond_true, cond_false, Bool.not_true, Bool.not_false, Bool.and_true, Bool.true_and, Bool.and_false, Bool.false_and, Bool.or_true, Bool.true_or, Bool.or_false, Bool.false_or]; done) | simp_all [sgn]))
 ·cases e
def c_rpkind : CF
 | [.int .i8 p], [] => some (true, .int .i8 (kind8 p), [])
 | _, _ => none
theorem c_rpkind_ok : CtOk (GGx kCa kDb) PP (47, c_rpkind) := by
 refine ct_mk Tryz.func47 (by kernel_rfl) rfl fun a0 h0 c0 v0 N0 e hc => ?_
 unfold c_rpkind at e
 split at e
 ·rename_i p
  cases e
  have hE := EE_ok (kCa := kCa) (kDb := kDb) (cts := []) (inl := []) trivial trivial
  refine fn_sound hE 2 Tryz.func47 rfl rfl ?_
  repeat' first | (first | refine sat_self ?_ | refine sat_nd ?_) | refine sat_br (fun h => ?_) (fun h => ?_)
  all_goals exact sat_ret (fin_val (.inr rfl) rfl rfl rfl (by first | rfl | (simp only [kind8, *, cond_true, cond_false]; done) | (simp only [kind8, *, cond_true, cond_false, Bool.not_true, Bool.not_false, Bool.and_true, Bool.true_and, Bool.and_false, Bool.false_and, Bool.or_true, Bool.true_or, Bool.or_false, Bool.false_or]; done) | simp_all [kind8]))
 ·cases e
def c_rside : CF
 | [.bool bl], [] => some (true, .int .i64 (sdI bl), [])
 | _, _ => none
theorem c_rside_ok : CtOk (GGx kCa kDb) PP (93, c_rside) := by
 refine ct_mk Tryz.func93 (by kernel_rfl) rfl fun a0 h0 c0 v0 N0 e hc => ?_
 unfold c_rside at e
 split at e
 ·rename_i bl
  cases e
  have hE := EE_ok (kCa := kCa) (kDb := kDb) (cts := []) (inl := []) trivial trivial
  refine fn_sound hE 2 Tryz.func93 rfl rfl ?_
  repeat' first | (first | refine sat_self ?_ | refine sat_nd ?_) | refine sat_br (fun h => ?_) (fun h => ?_)
  all_goals exact sat_ret (fin_val (.inr rfl) rfl rfl rfl (by first | rfl | (simp only [sdI, *, cond_true, cond_false]; done) | (simp only [sdI, *, cond_true, cond_false, Bool.not_true, Bool.not_false, Bool.and_true, Bool.true_and, Bool.and_false, Bool.false_and, Bool.or_true, Bool.true_or, Bool.or_false, Bool.false_or]; done) | simp_all [sdI]))
 ·cases e
def c_has5 : CF
 | [.sl 0 0 len none, .int .i64 n], [.ints false .i64 zs] => some (decide (len = zs.length) && decide (zs.length ≤ 1000000), .bool (hasL n zs), [])
 | _, _ => none
theorem c_has5_ok : CtOk (GGx kCa kDb) PP (171, c_has5) := by
 refine ct_mk Tryz.func171 (by kernel_rfl) rfl fun a0 h0 c0 v0 N0 e hc => ?_
 unfold c_has5 at e
 split at e
 ·rename_i len n zs
  cases e
  have hE := EE_ok (kCa := kCa) (kDb := kDb) (cts := []) (inl := []) trivial trivial
  refine fn_sound hE 2 Tryz.func171 rfl rfl ?_
  simp only [Bool.and_eq_true, decide_eq_true_eq] at hc
  obtain ⟨rfl, hc2⟩ := hc
  refine sat_idx hE 2 (fun i (_ : Unit) => ([(0, .sl 0 0 zs.length none), (1, I n), (5, I i)], [.ints false .i64 zs])) zs.length (fun j _ => hasL n (zs.drop j) = hasL n zs) () (by omega) (Ent.ren [0] [0, 1, 5] rfl rfl rfl) rfl ?_
  intro j i _ hij hj hz
  refine sat_br (fun hlt => ?_) (fun hlt => ?_)
  ·have hlt' : j < zs.length := by simp at hlt; omega
   rw [hasL_at hlt', show j = i.toNat by omega] at hz
   refine sat_need (by simp; omega) ?_
   repeat (first | refine sat_self ?_ | refine sat_nd ?_)
   refine sat_br (fun hon => ?_) (fun hon => ?_)
   ·have hon : decide (zs.getD i.toNat 0 = n) = true := hon
    rw [hon] at hz
    exact sat_ret (sat_ret (fin_val (.inr rfl) rfl rfl rfl (by rw [← hz]; rfl)))
   ·have hon : decide (zs.getD i.toNat 0 = n) = false := hon
    rw [hon] at hz
    exact sat_ret ⟨hlt', (), by rw [← hz, show i.toNat = j by omega]; rfl, Ent.ren [0] [0, 1, 5] rfl rfl rfl⟩
  ·obtain rfl : j = zs.length := by simp at hlt; omega
   rw [List.drop_length] at hz
   exact sat_ret (sat_ret (fin_val (.inr rfl) rfl rfl rfl (by rw [← hz]; rfl)))
 ·cases e
def nnP (p : Int) : Bool := !norP p
def c_rbvalid : CF
 | [.agg [.int .i64 f, .int .i64 r, .sl 0 0 len none]], [.ints false .i8 zs] => some (decide (len = zs.length) && decide (zs.length ≤ 64), .bool (validBd f r zs), [])
 | _, _ => none
theorem c_rbvalid_ok : CtOk (GGx kCa kDb) PP (90, c_rbvalid) := by
 refine ct_mk Tryz.func90 (by kernel_rfl) rfl fun a0 h0 c0 v0 N0 e hc => ?_
 unfold c_rbvalid at e
 split at e
 ·rename_i f r len zs
  cases e
  have hE := EE_ok (kCa := kCa) (kDb := kDb) (cts := [(53, c_Size), (146, c_rpval)]) (inl := []) ⟨c_Size_ok, c_rpval_ok, trivial⟩ trivial
  refine fn_sound hE 2 Tryz.func90 rfl rfl ?_
  simp only [Bool.and_eq_true, decide_eq_true_eq] at hc
  obtain ⟨rfl, hc2⟩ := hc
  repeat (first | refine sat_self ?_ | refine sat_nd ?_)
  refine sat_br (fun h => ?_) (fun h => ?_)
  ·have h : (vsB f r && decide ((zs.length : Int) = IntKind.i64.wrap (f * r))) = false := by
    have h : (!vsB f r || !decide ((zs.length : Int) = IntKind.i64.wrap (f * r))) = true := h
    cases h1 : vsB f r <;> cases h2 : decide ((zs.length : Int) = IntKind.i64.wrap (f * r)) <;> simp_all
   exact sat_ret (fin_val (.inr rfl) rfl rfl rfl (by rw [← valid_eq, h]; rfl))
  have h : (vsB f r && decide ((zs.length : Int) = IntKind.i64.wrap (f * r))) = true := by
   have h : (!vsB f r || !decide ((zs.length : Int) = IntKind.i64.wrap (f * r))) = false := h
   cases h1 : vsB f r <;> cases h2 : decide ((zs.length : Int) = IntKind.i64.wrap (f * r)) <;> simp_all
  refine sat_idx hE 2 (fun i (_ : Unit) => ([(1, .ptr 1 0 0), (3, I i)], [.ints false .i8 zs, .cells true [I f, I r, .sl 0 0 zs.length none]])) zs.length (fun j _ => (zs.drop j).all okP = zs.all okP) () (by omega) (Ent.ren [0, 1] [1, 3] rfl rfl rfl) rfl ?_
  intro j i _ hij hj hz
  refine sat_br (fun hlt => ?_) (fun hlt => ?_)
  ·have hlt' : j < zs.length := by simp at hlt; omega
   rw [drop_all hlt', show j = i.toNat by omega] at hz
   refine sat_need (by simp; omega) ?_
   repeat (first | (first | refine sat_self ?_ | refine sat_nd ?_) | refine sat_need (by simp; omega) ?_)
   refine sat_br (fun hon => ?_) (fun hon => ?_)
   ·have hon : (!okP (zs.getD i.toNat 0)) = true := hon
    have hon : okP (zs.getD i.toNat 0) = false := by simpa using hon
    rw [hon] at hz
    exact sat_ret (sat_ret (fin_val (.inr rfl) rfl rfl rfl (by rw [← valid_eq, h, ← hz]; rfl)))
   ·have hon : (!okP (zs.getD i.toNat 0)) = false := hon
    have hon : okP (zs.getD i.toNat 0) = true := by simpa using hon
    rw [hon] at hz
    exact sat_ret ⟨hlt', (), by rw [← hz, show i.toNat = j by omega]; rfl, Ent.ren [0, 1] [1, 3] rfl rfl rfl⟩
  ·obtain rfl : j = zs.length := by simp at hlt; omega
   rw [List.drop_length] at hz
   have hz : zs.all okP = true := hz.symm
   exact sat_ret (sat_ret (fin_val (.inr rfl) rfl rfl rfl (by rw [← valid_eq, h, hz]; rfl)))
 ·cases e
def c_rorth : CF
 | [.agg [.int .i64 f, .int .i64 r, .sl 0 0 len none]], [.ints false .i8 zs] => some (decide (len = zs.length) && decide (zs.length ≤ 64), .bool (orthBd f r zs), [])
 | _, _ => none
theorem c_rorth_ok : CtOk (GGx kCa kDb) PP (44, c_rorth) := by
 refine ct_mk Tryz.func44 (by kernel_rfl) rfl fun a0 h0 c0 v0 N0 e hc => ?_
 unfold c_rorth at e
 split at e
 ·rename_i f r len zs
  cases e
  have hE := EE_ok (kCa := kCa) (kDb := kDb) (cts := [(90, c_rbvalid), (91, c_rporth)]) (inl := []) ⟨c_rbvalid_ok, c_rporth_ok, trivial⟩ trivial
  refine fn_sound hE 2 Tryz.func44 rfl rfl ?_
  simp only [Bool.and_eq_true, decide_eq_true_eq] at hc
  obtain ⟨rfl, hc2⟩ := hc
  repeat (first | refine sat_self ?_ | refine sat_nd ?_)
  refine sat_br (fun h => ?_) (fun h => ?_)
  ·have h : validBd f r zs = false := by simpa using h
   exact sat_ret (fin_val (.inr rfl) rfl rfl rfl (by rw [← orth_eq, h]; rfl))
  have h : validBd f r zs = true := by simpa using h
  refine sat_idx hE 2 (fun i (_ : Unit) => ([(1, .ptr 1 0 0), (3, I i)], [.ints false .i8 zs, .cells true [I f, I r, .sl 0 0 zs.length none]])) zs.length (fun j _ => (zs.drop j).all nnP = zs.all nnP) () (by omega) (Ent.ren [0, 1] [1, 3] rfl rfl rfl) rfl ?_
  intro j i _ hij hj hz
  refine sat_br (fun hlt => ?_) (fun hlt => ?_)
  ·have hlt' : j < zs.length := by simp at hlt; omega
   rw [drop_all hlt', show j = i.toNat by omega] at hz
   refine sat_need (by simp; omega) ?_
   repeat (first | (first | refine sat_self ?_ | refine sat_nd ?_) | refine sat_need (by simp; omega) ?_)
   refine sat_br (fun hon => ?_) (fun hon => ?_)
   ·have hon : (!nnP (zs.getD i.toNat 0)) = true := (Bool.not_not _).trans hon
    have hon : nnP (zs.getD i.toNat 0) = false := by simpa using hon
    rw [hon] at hz
    exact sat_ret (sat_ret (fin_val (.inr rfl) rfl rfl rfl (by rw [← orth_eq, h, show zs.all (fun p => !norP p) = zs.all nnP from rfl, ← hz]; rfl)))
   ·have hon : (!nnP (zs.getD i.toNat 0)) = false := (Bool.not_not _).trans hon
    have hon : nnP (zs.getD i.toNat 0) = true := by simpa using hon
    rw [hon] at hz
    exact sat_ret ⟨hlt', (), by rw [← hz, show i.toNat = j by omega]; rfl, Ent.ren [0, 1] [1, 3] rfl rfl rfl⟩
  ·obtain rfl : j = zs.length := by simp at hlt; omega
   rw [List.drop_length] at hz
   have hz : zs.all nnP = true := hz.symm
   exact sat_ret (sat_ret (fin_val (.inr rfl) rfl rfl rfl (by rw [← orth_eq, h, show zs.all (fun p => !norP p) = zs.all nnP from rfl, hz]; rfl)))
 ·cases e
def c_Side : CF
 | [.agg [.int .i64 _f, .int .i64 _r, .sl 0 0 len none], .int .i64 s], [.ints false .i8 zs] => some (decide (len = zs.length) && decide (zs.length ≤ 64), .sl 1 0 (sideL zs s).length none, [.ints true .i64 (sideL zs s)])
 | _, _ => none
theorem c_Side_ok : CtOk (GGx kCa kDb) PP (147, c_Side) := by
 refine ct_mk Tryz.func147 (by kernel_rfl) rfl fun a0 h0 c0 v0 N0 e hc => ?_
 unfold c_Side at e
 split at e
 ·rename_i f r len s zs
  cases e
  have hE := EE_ok (kCa := kCa) (kDb := kDb) (cts := [(116, c_rpside)]) (inl := []) ⟨c_rpside_ok, trivial⟩ trivial
  refine fn_sound hE 2 Tryz.func147 rfl rfl ?_
  simp only [Bool.and_eq_true, decide_eq_true_eq] at hc
  obtain ⟨rfl, hc2⟩ := hc
  refine sat_idx hE 2 (fun (i : Int) (ys : List Int) => ([(1, I s), (2, .ptr 1 0 0), (5, .sl 2 0 ys.length none), (6, I i)], [.ints false .i8 zs, .cells true [I f, I r, .sl 0 0 zs.length none], .ints true .i64 ys])) (zs.length) (fun j ys => ys = filtB (sideC zs s) id j) [] (by omega) ((Ent.phanT (t := 5) (o := .ints true .i64 []) rfl ⟨by simp, by simp, trivial, rfl⟩ (blt_lt rfl)).trans (Ent.ren [0, 1, 2] [1, 2, 5, 6] rfl rfl rfl)) rfl ?_
  intro j i ys hij hj hz
  have hb := filtB_len (sideC zs s) id j
  rw [← hz] at hb
  refine sat_br (fun hlt => ?_) (fun hlt => ?_)
  ·have hlt' : j < zs.length := by simp only [decide_eq_true_eq] at hlt; omega
   have hs := filtB_succ (sideC zs s) id j
   rw [← hz, ← hij] at hs
   repeat (first | (first | refine sat_self ?_ | refine sat_nd ?_) | refine sat_need (by simp; omega) ?_)
   refine sat_br (fun hon => ?_) (fun hon => ?_)
   ·skip
    have hon : sideC zs s i = true := hon
    rw [hon, cond_true] at hs
    refine sat_need (b := decide (ys.length = ys.length) && decide ((ys.length + 1) * 8 ≤ 140737488355328) && true) (by simp; omega) ?_
    exact sat_ret ⟨hlt', ys ++ [id i], hs.symm, Ent.ren [0, 1, 4] [1, 2, 5, 6] rfl rfl rfl⟩
   ·skip
    have hon : sideC zs s i = false := hon
    rw [hon, cond_false] at hs
    exact sat_ret ⟨hlt', ys, hs.symm, Ent.ren [0, 1, 2] [1, 2, 5, 6] rfl rfl rfl⟩
  ·obtain rfl : j = zs.length := by simp only [decide_eq_false_iff_not] at hlt; omega
   subst hz
   refine sat_ret (sat_ret ((fin_new 2 (.inr rfl) rfl rfl rfl rfl rfl rfl)))
 ·cases e
def c_BList : CF
 | [.agg [.int .i64 _f, .int .i64 _r, .sl 0 0 len none], .int .i8 p], [.ints false .i8 zs] => some (decide (len = zs.length) && decide (zs.length ≤ 64), .sl 1 0 (listL zs p).length none, [.ints true .i64 (listL zs p)])
 | _, _ => none
theorem c_BList_ok : CtOk (GGx kCa kDb) PP (92, c_BList) := by
 refine ct_mk Tryz.func92 (by kernel_rfl) rfl fun a0 h0 c0 v0 N0 e hc => ?_
 unfold c_BList at e
 split at e
 ·rename_i f r len p zs
  cases e
  have hE := EE_ok (kCa := kCa) (kDb := kDb) (cts := []) (inl := []) trivial trivial
  refine fn_sound hE 2 Tryz.func92 rfl rfl ?_
  simp only [Bool.and_eq_true, decide_eq_true_eq] at hc
  obtain ⟨rfl, hc2⟩ := hc
  refine sat_idx hE 2 (fun (i : Int) (ys : List Int) => ([(1, .int .i8 p), (2, .ptr 1 0 0), (5, .sl 2 0 ys.length none), (6, I i)], [.ints false .i8 zs, .cells true [I f, I r, .sl 0 0 zs.length none], .ints true .i64 ys])) (zs.length) (fun j ys => ys = filtB (listC zs p) id j) [] (by omega) ((Ent.phanT (t := 5) (o := .ints true .i64 []) rfl ⟨by simp, by simp, trivial, rfl⟩ (blt_lt rfl)).trans (Ent.ren [0, 1, 2] [1, 2, 5, 6] rfl rfl rfl)) rfl ?_
  intro j i ys hij hj hz
  have hb := filtB_len (listC zs p) id j
  rw [← hz] at hb
  refine sat_br (fun hlt => ?_) (fun hlt => ?_)
  ·have hlt' : j < zs.length := by simp only [decide_eq_true_eq] at hlt; omega
   have hs := filtB_succ (listC zs p) id j
   rw [← hz, ← hij] at hs
   repeat (first | (first | refine sat_self ?_ | refine sat_nd ?_) | refine sat_need (by simp; omega) ?_)
   refine sat_br (fun hon => ?_) (fun hon => ?_)
   ·skip
    have hon : listC zs p i = true := hon
    rw [hon, cond_true] at hs
    refine sat_need (b := decide (ys.length = ys.length) && decide ((ys.length + 1) * 8 ≤ 140737488355328) && true) (by simp; omega) ?_
    exact sat_ret ⟨hlt', ys ++ [id i], hs.symm, Ent.ren [0, 1, 4] [1, 2, 5, 6] rfl rfl rfl⟩
   ·skip
    have hon : listC zs p i = false := hon
    rw [hon, cond_false] at hs
    exact sat_ret ⟨hlt', ys, hs.symm, Ent.ren [0, 1, 2] [1, 2, 5, 6] rfl rfl rfl⟩
  ·obtain rfl : j = zs.length := by simp only [decide_eq_false_iff_not] at hlt; omega
   subst hz
   refine sat_ret (sat_ret ((fin_new 2 (.inr rfl) rfl rfl rfl rfl rfl rfl)))
 ·cases e
end Go.Ab

set_option maxRecDepth 100000
namespace Go.Ab
open Go.Proofs
variable {kCa kDb : Bool}
theorem tk_len (l : List Int) : (tk l).length = l.length := by rw [tk_eq]
theorem need_app2 (l m : List Int) (h : l.length ≤ 1000000) (h2 : m.length ≤ 1000000) (b : Bool) (hb : b = true) : (decide ((tk l).length = (tk l).length) && decide (((tk l).length + m.length) * 8 ≤ 140737488355328) && b) = true := by rw [tk_len, hb]; simp; omega
theorem need_occ (zs : List Int) (h : zs.length ≤ 64) {L : List Int} {n : Nat} (hL : L = sideL zs 1 ++ sideL zs (-1)) (hn : n = L.length) : (decide (n = ((L.drop 0).take n).length) && decide (((L.drop 0).take n).length ≤ 1000000) && ((L.drop 0).take n).all fun x => decide (0 ≤ x)) = true := by
 subst hn
 have e : (L.drop 0).take L.length = L := by simp
 rw [e]
 have h1 := sideL_len zs 1
 have h2 := sideL_len zs (-1)
 have h3 : L.length ≤ 1000000 := by rw [hL, List.length_append]; omega
 simp only [decide_true, Bool.true_and, Bool.and_eq_true, decide_eq_true_eq, List.all_eq_true]
 refine ⟨h3, fun x hx => ?_⟩
 rw [hL] at hx
 rcases List.mem_append.1 hx with hx | hx <;> exact (mem_sideL.1 hx).1
def c_Occ : CF
 | [.agg [.int .i64 _f, .int .i64 _r, .sl 0 0 len none]], [.ints false .i8 zs] => some (decide (len = zs.length) && decide (zs.length ≤ 64), .int .u64 (occL zs), [])
 | _, _ => none
theorem c_Occ_ok : CtOk (GGx kCa kDb) PP (148, c_Occ) := by
 refine ct_mk Tryz.func148 (by kernel_rfl) rfl fun a0 h0 c0 v0 N0 e hc => ?_
 unfold c_Occ at e
 split at e
 ·rename_i f r len zs
  cases e
  have hE := EE_ok (kCa := kCa) (kDb := kDb) (cts := [(147, c_Side), (20, c_Of)]) (inl := []) ⟨c_Side_ok, c_Of_ok, trivial⟩ trivial
  refine fn_sound hE 2 Tryz.func148 rfl rfl ?_
  simp only [Bool.and_eq_true, decide_eq_true_eq] at hc
  obtain ⟨rfl, hc2⟩ := hc
  have l1 := sideL_len zs 1
  have l2 := sideL_len zs (-1)
  repeat (first | refine sat_self ?_ | refine sat_nd ?_)
  refine sat_need (by
   refine need_app2 (sideL (tk zs) 1) (sideL (tk zs) (-1)) ?_ ?_ _ rfl <;> simp only [tk_eq] <;> omega) ?_
  refine sat_need (by
   refine need_occ zs hc2 (L := tk (sideL (tk zs) 1) ++ tk (sideL (tk zs) (-1))) ?_ rfl
   simp only [tk_eq]) ?_
  refine sat_ret (fin_val (.inr rfl) rfl rfl rfl ?_)
  show V.int IntKind.u64 (ofL (tk (tk (sideL (tk zs) 1) ++ tk (sideL (tk zs) (-1)))) 0) = _
  simp only [tk_eq]
  rfl
 ·cases e
end Go.Ab

set_option maxRecDepth 100000
namespace Go.Ab
open Go.Proofs
variable {kCa kDb : Bool}
theorem need_has {c : Int → Bool} {n m : Nat} (h : n ≤ 1000000) (hm : m = (filtB c id n).length) : (decide (m = (((filtB c id n).drop 0).take m).length) && decide ((((filtB c id n).drop 0).take m).length ≤ 1000000)) = true := by
 subst hm
 have := filtB_len c id n
 have e : ((filtB c id n).drop 0).take (filtB c id n).length = filtB c id n := by simp
 rw [e]; simp; omega
theorem side_get {zs : List Int} {s : Int} {i : Nat} (h : i < (sideL (tk zs) s).length) : 0 ≤ (sideL (tk zs) s).getD i 0 ∧ (sideL (tk zs) s).getD i 0 < zs.length := by
 rw [tk_eq] at h ⊢
 have hm : (sideL zs s).getD i 0 ∈ sideL zs s := by simp [List.getD, h]
 have := mem_sideL.1 hm
 exact ⟨this.1, this.2.1⟩
def c_attacks : CF
 | [.agg [.int .i64 f, .int .i64 r, .sl 0 0 len none], .int .i64 i, .int .i64 to, .int .u64 occ], [.ints false .i8 zs] => some (decide (len = zs.length) && decide (zs.length ≤ 64) && decide (0 ≤ i) && decide (i < zs.length) && vsB f r, .bool (attB4 f r zs i to occ), [])
 | _, _ => none
theorem c_attacks_ok : CtOk (GGx kCa kDb) PP (149, c_attacks) := by
 refine ct_mk Tryz.func149 (by kernel_rfl) rfl fun a0 h0 c0 v0 N0 e hc => ?_
 unfold c_attacks at e
 split at e
 ·rename_i f r len i to occ zs
  cases e
  have hE := EE_ok (kCa := kCa) (kDb := kDb) (cts := [(47, c_rpkind), (172, c_refPawn), (171, c_has5), (155, c_Reaches)]) (inl := []) ⟨c_rpkind_ok, c_refPawn_ok, c_has5_ok, c_Reaches_ok, trivial⟩ trivial
  refine fn_sound hE 2 Tryz.func149 rfl rfl ?_
  simp only [Bool.and_eq_true, decide_eq_true_eq] at hc
  obtain ⟨⟨⟨⟨rfl, hc2⟩, hi1⟩, hi2⟩, hv⟩ := hc
  have hf := vs_bd hv
  have hm := mul_bd hv
  have hf0 : (!decide (f = 0)) = true := by simp; omega
  repeat (first | (first | refine sat_self ?_ | refine sat_nd ?_) | refine sat_need (by simp; omega) ?_)
  refine sat_br (fun h => ?_) (fun h => ?_)
  ·have h : decide (kind8 (zs.getD i.toNat 0) = 1) = true := h
   refine sat_need hv ?_
   repeat (first | refine sat_self ?_ | refine sat_nd ?_)
   refine sat_need (need_has (by omega) rfl) ?_
   refine sat_ret (fin_val (.inr rfl) rfl rfl rfl ?_)
   show V.bool (hasL to (tk (filtB (pawnC f (decide (zs.getD i.toNat 0 < 0)) i) id (f * r).toNat))) = _
   rw [tk_eq, attB4, h]; rfl
  ·have h : decide (kind8 (zs.getD i.toNat 0) = 1) = false := h
   repeat (first | (first | refine sat_self ?_ | refine sat_nd ?_) | refine sat_need (by rw [hf0]; exact Bool.or_true _) ?_)
   exact sat_ret (fin_val (.inr rfl) rfl rfl rfl (by rw [attB4, h]; rfl))
 ·cases e
def c_refAttackers : CF
 | [.agg [.int .i64 f, .int .i64 r, .sl 0 0 len none], .int .i64 to, .bool bl], [.ints false .i8 zs] => some (decide (len = zs.length) && decide (zs.length ≤ 64) && vsB f r, .sl 1 0 (attL f r zs to bl).length none, [.ints true .i64 (attL f r zs to bl)])
 | _, _ => none
theorem c_refAttackers_ok : CtOk (GGx kCa kDb) PP (94, c_refAttackers) := by
 refine ct_mk Tryz.func94 (by kernel_rfl) rfl fun a0 h0 c0 v0 N0 e hc => ?_
 unfold c_refAttackers at e
 split at e
 ·rename_i f r len to bl zs
  cases e
  have hE := EE_ok (kCa := kCa) (kDb := kDb) (cts := [(93, c_rside), (147, c_Side), (148, c_Occ), (149, c_attacks)]) (inl := []) ⟨c_rside_ok, c_Side_ok, c_Occ_ok, c_attacks_ok, trivial⟩ trivial
  refine fn_sound hE 2 Tryz.func94 rfl rfl ?_
  simp only [Bool.and_eq_true, decide_eq_true_eq] at hc
  obtain ⟨⟨rfl, hc2⟩, hv⟩ := hc
  have hsl : (sideL (tk zs) (sdI bl)).length ≤ zs.length := by rw [tk_eq]; exact sideL_len zs (sdI bl)
  repeat (first | refine sat_self ?_ | refine sat_nd ?_)
  refine sat_idx hE 2 (fun (i : Int) (ys : List Int) => ([(1, I to), (3, .ptr 1 0 0), (7, .sl 3 0 ys.length none), (8, .sl 2 0 (sideL (tk zs) (sdI bl)).length none), (9, U (occL (tk zs))), (10, I i)], [.ints false .i8 zs, .cells true [I f, I r, .sl 0 0 zs.length none], .ints true .i64 (sideL (tk zs) (sdI bl)), .ints true .i64 ys])) (sideL (tk zs) (sdI bl)).length (fun j ys => ys = ((sideL (tk zs) (sdI bl)).take j).filter (attC4 f r (tk zs) to (occL (tk zs)))) [] (by omega) ((Ent.phanT (t := 7) (o := .ints true .i64 []) rfl ⟨by simp, by simp, trivial, rfl⟩ (blt_lt rfl)).trans (Ent.ren [0, 1, 2, 3] [1, 3, 7, 8, 9, 10] rfl rfl rfl)) rfl ?_
  intro j i ys hij hj hz
  have hb : ys.length ≤ j := by rw [hz]; exact Nat.le_trans (List.length_filter_le _ _) (by rw [List.length_take]; omega)
  refine sat_br (fun hlt => ?_) (fun hlt => ?_)
  ·have hlt' : j < (sideL (tk zs) (sdI bl)).length := by simp only [decide_eq_true_eq] at hlt; omega
   have hs := filt_take (C := attC4 f r (tk zs) to (occL (tk zs))) hlt'
   have hgl := side_get (zs := zs) (s := sdI bl) (i := i.toNat) (by omega)
   have hil : (decide (0 ≤ i) && decide (i < ((sideL (tk zs) (sdI bl)).length : Int))) = true := by simp only [Bool.and_eq_true, decide_eq_true_eq]; omega
   rw [← hz, show j = i.toNat by omega] at hs
   repeat (first | (first | refine sat_self ?_ | refine sat_nd ?_) | refine sat_need hil ?_)
   refine sat_need (by
    simp only [Bool.and_eq_true, decide_eq_true_eq]
    rw [tk_len]
    exact ⟨⟨⟨⟨by first | rfl | trivial, hc2⟩, hgl.1⟩, hgl.2⟩, hv⟩) ?_
   refine sat_br (fun hon => ?_) (fun hon => ?_)
   ·skip
    have hon : attC4 f r (tk zs) to (occL (tk zs)) ((sideL (tk zs) (sdI bl)).getD i.toNat 0) = true := hon
    rw [hon, cond_true] at hs
    refine sat_need (by simp; omega) ?_
    refine sat_need (b := decide (ys.length = ys.length) && decide ((ys.length + 1) * 8 ≤ 140737488355328) && true) (by simp; omega) ?_
    exact sat_ret ⟨hlt', ys ++ [(sideL (tk zs) (sdI bl)).getD i.toNat 0], by rw [show j + 1 = i.toNat + 1 by omega]; exact hs, Ent.ren [0, 1, 2, 5] [1, 3, 7, 8, 9, 10] rfl rfl rfl⟩
   ·skip
    have hon : attC4 f r (tk zs) to (occL (tk zs)) ((sideL (tk zs) (sdI bl)).getD i.toNat 0) = false := hon
    rw [hon, cond_false] at hs
    exact sat_ret ⟨hlt', ys, by rw [show j + 1 = i.toNat + 1 by omega]; exact hs, Ent.ren [0, 1, 2, 3] [1, 3, 7, 8, 9, 10] rfl rfl rfl⟩
  ·obtain rfl : j = (sideL (tk zs) (sdI bl)).length := by simp only [decide_eq_false_iff_not] at hlt; omega
   rw [List.take_length] at hz
   subst hz
   refine sat_ret (sat_ret (fin_new 3 (.inr rfl) rfl rfl rfl rfl (by simp only [tk_eq]; rfl) (by simp only [tk_eq]; rfl)))
 ·cases e
end Go.Ab

set_option maxRecDepth 100000
namespace Go.Ab
open Go.Proofs
variable {kCa kDb : Bool}
theorem need_bd {zs : List Int} (h : zs.length ≤ 64) {n : Nat} (hn : n = zs.length) : (decide (n = (tk zs).length) && decide ((tk zs).length ≤ 64)) = true := by rw [tk_len, hn]; simp; omega
theorem need_bdv {zs : List Int} (h : zs.length ≤ 64) {n : Nat} (hn : n = zs.length) {b : Bool} (hb : b = true) : (decide (n = (tk zs).length) && decide ((tk zs).length ≤ 64) && b) = true := by rw [tk_len, hn, hb]; simp; omega
def c_refKing : CF
 | [.agg [.int .i64 _f, .int .i64 _r, .sl 0 0 len none], .bool bl], [.ints false .i8 zs] => some (decide (len = zs.length) && decide (zs.length ≤ 64), .int .i64 (refKing zs bl), [])
 | _, _ => none
theorem c_refKing_ok : CtOk (GGx kCa kDb) PP (45, c_refKing) := by
 refine ct_mk Tryz.func45 (by kernel_rfl) rfl fun a0 h0 c0 v0 N0 e hc => ?_
 unfold c_refKing at e
 split at e
 ·rename_i f r len bl zs
  cases e
  have hE := EE_ok (kCa := kCa) (kDb := kDb) (cts := [(93, c_rside), (92, c_BList)]) (inl := []) ⟨c_rside_ok, c_BList_ok, trivial⟩ trivial
  refine fn_sound hE 2 Tryz.func45 rfl rfl ?_
  simp only [Bool.and_eq_true, decide_eq_true_eq] at hc
  obtain ⟨rfl, hc2⟩ := hc
  repeat (first | refine sat_self ?_ | refine sat_nd ?_)
  refine sat_br (fun h => ?_) (fun h => ?_)
  ·have h : (!decide (((listL (tk zs) (w8 (IntKind.i64.wrap (6 * sdI bl)))).length : Int) = 1)) = true := h
   rw [tk_eq, Bool.not_eq_true'] at h
   exact sat_ret (fin_val (.inr rfl) rfl rfl rfl (by rw [refKing, h]; rfl))
  ·have h : (!decide (((listL (tk zs) (w8 (IntKind.i64.wrap (6 * sdI bl)))).length : Int) = 1)) = false := h
   rw [tk_eq, Bool.not_eq_false'] at h
   have hl : ((listL (tk zs) (w8 (IntKind.i64.wrap (6 * sdI bl)))).length : Int) = 1 := by rw [tk_eq]; exact of_decide_eq_true h
   refine sat_need (by
    show (decide ((0 : Int) ≤ 0) && decide ((0 : Int) < ((listL (tk zs) (w8 (IntKind.i64.wrap (6 * sdI bl)))).length : Int))) = true
    rw [hl]; rfl) ?_
   exact sat_ret (fin_val (.inr rfl) rfl rfl rfl (by
    show V.int IntKind.i64 ((listL (tk zs) (w8 (IntKind.i64.wrap (6 * sdI bl)))).getD 0 0) = _
    rw [tk_eq, refKing, h]; rfl))
 ·cases e
end Go.Ab

set_option maxRecDepth 100000
set_option maxHeartbeats 4000000
namespace Go.Ab
open Go.Proofs
variable {kCa kDb : Bool}
theorem px_bd {f r n : Int} (h : validB f r n = true) : IntKind.i64.wrap (n.tdiv f) = py f n ∧ 0 ≤ px f n ∧ px f n < f ∧ 0 ≤ py f n ∧ py f n < r ∧ px f n + py f n * f = n ∧ 3 ≤ f ∧ f ≤ 8 ∧ 3 ≤ r ∧ r ≤ 8 := by
 have := pl_bd h
 have h2 := pl_eq h
 exact ⟨this.2.2.2.2.1, this.1, this.2.1, this.2.2.1, this.2.2.2.1, h2, this.2.2.2.2.2⟩
theorem need_pass {f r : Int} {zs : List Int} {pa : Int} {bl g1 g2 : Bool} (h : validBd f r zs = true) : (!(g1 && g2 && validB f r pa && decide (IntKind.i64.wrap (pa.tdiv f) = rkP r bl)) || (decide (0 ≤ pa) && decide (pa < zs.length))) = true := by
 cases hv : validB f r pa with
 | false => simp
 | true => have := (bd_sq h).1 hv; simp [this.1, this.2]
theorem pass_near {f r : Int} {zs : List Int} {pa : Int} {bl : Bool} (h : validBd f r zs = true) (hr : 6 ≤ r) (hv : validB f r pa = true) (hk : IntKind.i64.wrap (pa.tdiv f) = rkP r bl) : 0 ≤ pa - f ∧ pa + f < zs.length ∧ IntKind.i64.wrap (pa - f) = pa - f ∧ IntKind.i64.wrap (pa + f) = pa + f ∧ IntKind.i64.wrap (0 - f) = -f ∧ IntKind.i64.wrap (pa - -f) = pa + f ∧ IntKind.i64.wrap (pa + -f) = pa - f := by
 obtain ⟨h1, h2, h3, h4, h5, h6, h7⟩ := px_bd hv
 have hl := (bd_valid h).2
 rw [h1] at hk
 have hw : IntKind.i64.wrap (r - 3) = r - 3 := w64_id (by omega) (by omega)
 have hpy : 1 ≤ py f pa ∧ py f pa + 1 < r := by
  cases bl
  ·simp only [rkP, cond_false, hw] at hk; omega
  ·simp only [rkP, cond_true] at hk; omega
 have a1 : 1 * f ≤ py f pa * f := Int.mul_le_mul_of_nonneg_right hpy.1 (by omega)
 have a2 : (py f pa + 1 + 1) * f ≤ r * f := Int.mul_le_mul_of_nonneg_right (by omega) (by omega)
 rw [Int.add_mul, Int.add_mul, Int.mul_comm r f] at a2
 have hlt := (valid_lt hv)
 exact ⟨by omega, by omega, w64_id (by omega) (by omega), w64_id (by omega) (by omega), by rw [Int.zero_sub]; exact w64_id (by omega) (by omega), by rw [Int.sub_neg]; exact w64_id (by omega) (by omega), by rw [← Int.sub_eq_add_neg]; exact w64_id (by omega) (by omega)⟩
theorem need_f0 {f : Int} {g : Bool} (h : f ≠ 0) : (!g || !decide (f = 0)) = true := by simp [h]
theorem near1 {f r : Int} {zs : List Int} {pa ha : Int} {bl x : Bool} (h : validBd f r zs = true) : (!(decide (6 ≤ r) && decide (ha = 0) && validB f r pa && decide (IntKind.i64.wrap (pa.tdiv f) = rkP r bl) && x) || (decide (0 ≤ IntKind.i64.wrap (pa - upP f bl)) && decide (IntKind.i64.wrap (pa - upP f bl) < zs.length))) = true := by
 cases hg : (decide (6 ≤ r) && decide (ha = 0) && validB f r pa && decide (IntKind.i64.wrap (pa.tdiv f) = rkP r bl)) with
 | false => simp
 | true =>
  simp only [Bool.and_eq_true, decide_eq_true_eq] at hg
  obtain ⟨h1, h2, h3, h4, h5, h6, h7⟩ := pass_near (bl := bl) h hg.1.1.1 hg.1.2 hg.2
  have hfr := vs_bd (bd_valid h).1
  cases bl
  ·rw [Bool.or_eq_true]; right
   simp only [upP, cond_false, h5, h6, Bool.and_eq_true, decide_eq_true_eq]; omega
  ·rw [Bool.or_eq_true]; right
   simp only [upP, cond_true, h3, Bool.and_eq_true, decide_eq_true_eq]; omega
theorem near2 {f r : Int} {zs : List Int} {pa ha : Int} {bl x y : Bool} (h : validBd f r zs = true) : (!(decide (6 ≤ r) && decide (ha = 0) && validB f r pa && decide (IntKind.i64.wrap (pa.tdiv f) = rkP r bl) && x && y) || (decide (0 ≤ IntKind.i64.wrap (pa + upP f bl)) && decide (IntKind.i64.wrap (pa + upP f bl) < zs.length))) = true := by
 cases hg : (decide (6 ≤ r) && decide (ha = 0) && validB f r pa && decide (IntKind.i64.wrap (pa.tdiv f) = rkP r bl)) with
 | false => simp
 | true =>
  simp only [Bool.and_eq_true, decide_eq_true_eq] at hg
  obtain ⟨h1, h2, h3, h4, h5, h6, h7⟩ := pass_near (bl := bl) h hg.1.1.1 hg.1.2 hg.2
  have hfr := vs_bd (bd_valid h).1
  cases bl
  ·rw [Bool.or_eq_true]; right
   simp only [upP, cond_false, h5, h7, Bool.and_eq_true, decide_eq_true_eq]; omega
  ·rw [Bool.or_eq_true]; right
   simp only [upP, cond_true, h4, Bool.and_eq_true, decide_eq_true_eq]; omega
def c_Clone : CF
 | [.sl 0 0 len none], [.ints false .i8 zs] => some (decide (len = zs.length) && decide (zs.length ≤ 64), .sl 1 0 zs.length none, [.ints true .i8 zs])
 | _, _ => none
theorem c_Clone_ok : CtOk (GGx kCa kDb) PP (104, c_Clone) := by
 refine ct_mk Tryz.func104 (by kernel_rfl) rfl fun a0 h0 c0 v0 N0 e hc => ?_
 unfold c_Clone at e
 split at e
 ·rename_i len zs
  cases e
  have hE := EE_ok (kCa := kCa) (kDb := kDb) (cts := []) (inl := []) trivial trivial
  refine fn_soundE hE 2 Tryz.func104 rfl rfl ?_
  simp only [Bool.and_eq_true, decide_eq_true_eq] at hc
  obtain ⟨rfl, hc2⟩ := hc
  refine sat_isnil (fun h0 => ?_) ?_
  ·refine sat_br (fun _ => ?_) (fun h => (by cases h))
   have hz : zs = [] := List.eq_nil_of_length_eq_zero h0
   subst hz
   exact sat_ret (fin_e (Ent.phanT (t := 2) (o := .ints true .i8 []) rfl ⟨by simp, by simp, trivial, rfl⟩ (blt_lt rfl)) (fin_new 1 (.inr rfl) rfl rfl rfl rfl rfl rfl))
  ·refine sat_br (fun h => (by cases h)) (fun _ => ?_)
   refine sat_need (b := ?B) ?_ ?_
   ·show (decide (0 = 0) && decide ((0 + zs.length) * 1 ≤ 140737488355328) && true) = true
    simp; omega
   exact sat_ret (fin_e (Ent.refl _ _ _) (fin_new 2 (.inr rfl) rfl rfl rfl rfl (by show [O.ints true .i8 (tk zs)] = _; rw [tk_eq]) (by show V.sl 1 0 (tk zs).length none = _; rw [tk_eq])))
 ·cases e
def c_pcopy : CF
 | [.agg [.int .i64 f, .int .i64 r, .sl 0 0 len none, .bool bl, .int .u8 ca, .int .i64 pa, .int .i64 ha, .int .i64 fu]], [.ints false .i8 zs] => some (decide (len = zs.length) && decide (zs.length ≤ 64), .agg [I f, I r, .sl 1 0 zs.length none, Bb bl, .int .u8 ca, I pa, I ha, I fu], [.ints true .i8 zs])
 | _, _ => none
theorem c_pcopy_ok : CtOk (GGx kCa kDb) PP (58, c_pcopy) := by
 refine ct_mk Tryz.func58 (by kernel_rfl) rfl fun a0 h0 c0 v0 N0 e hc => ?_
 unfold c_pcopy at e
 split at e
 ·rename_i f r len bl ca pa ha fu zs
  cases e
  have hE := EE_ok (kCa := kCa) (kDb := kDb) (cts := [(104, c_Clone)]) (inl := []) ⟨c_Clone_ok, trivial⟩ trivial
  refine fn_sound hE 2 Tryz.func58 rfl rfl ?_
  simp only [Bool.and_eq_true, decide_eq_true_eq] at hc
  obtain ⟨rfl, hc2⟩ := hc
  repeat (first | (first | refine sat_self ?_ | refine sat_nd ?_) | refine sat_need (need_bd hc2 rfl) ?_)
  exact sat_ret (fin_new 3 (.inr rfl) rfl rfl rfl rfl (by show [O.ints true .i8 (tk zs)] = _; rw [tk_eq]) (by show V.agg [I f, I r, .sl 1 0 (tk zs).length none, Bb bl, .int .u8 ca, I pa, I ha, I fu] = _; rw [tk_eq]))
 ·cases e
def c_ppass : CF
 | [.agg [.int .i64 f, .int .i64 r, .sl 0 0 len none, .bool bl, .int .u8 _ca, .int .i64 pa, .int .i64 ha, .int .i64 _fu]], [.ints false .i8 zs] => some (decide (len = zs.length) && decide (zs.length ≤ 64) && validBd f r zs, .bool (passB f r zs bl pa ha), [])
 | _, _ => none
theorem c_ppass_ok : CtOk (GGx kCa kDb) PP (87, c_ppass) := by
 refine ct_mk Tryz.func87 (by kernel_rfl) rfl fun a0 h0 c0 v0 N0 e hc => ?_
 unfold c_ppass at e
 split at e
 ·rename_i f r len bl ca pa ha fu zs
  cases e
  have hE := EE_ok (kCa := kCa) (kDb := kDb) (cts := [(71, c_valid), (145, c_pof)]) (inl := []) ⟨c_valid_ok, c_pof_ok, trivial⟩ trivial
  refine fn_sound hE 2 Tryz.func87 rfl rfl ?_
  simp only [Bool.and_eq_true, decide_eq_true_eq] at hc
  obtain ⟨⟨rfl, hc2⟩, hbd⟩ := hc
  refine sat_br (fun h => ?_) (fun h => ?_)
  ·have h : decide (pa = -1) = true := h
   exact sat_ret (fin_val (.inr rfl) rfl rfl rfl (by rw [passB, h]; rfl))
  have h : decide (pa = -1) = false := h
  have hf : f ≠ 0 := by have := vs_bd (bd_valid hbd).1; omega
  refine sat_br (fun h1 => ?_) (fun h1 => ?_)
  ·have h1 : bl = false := by simpa using h1
   subst h1
   repeat (first | (first | refine sat_self ?_ | refine sat_nd ?_) | refine sat_need (need_f0 hf) ?_ | refine sat_need (need_pass (bl := false) hbd) ?_ | refine sat_need (near1 (bl := false) hbd) ?_ | refine sat_need (near2 (bl := false) hbd) ?_)
   exact sat_ret (fin_val (.inr rfl) rfl rfl rfl (by rw [passB, h]; rfl))
  ·have h1 : bl = true := by simpa using h1
   subst h1
   repeat (first | (first | refine sat_self ?_ | refine sat_nd ?_) | refine sat_need (need_f0 hf) ?_ | refine sat_need (need_pass (bl := true) hbd) ?_ | refine sat_need (near1 (bl := true) hbd) ?_ | refine sat_need (near2 (bl := true) hbd) ?_)
   exact sat_ret (fin_val (.inr rfl) rfl rfl rfl (by rw [passB, h]; rfl))
 ·cases e
theorem need_win {f r : Int} {zs : List Int} {g : Bool} (h : validBd f r zs = true) (_hz : zs.length ≤ 64) : (!g || (decide (0 ≤ f) && decide (f ≤ zs.length) && decide ((zs.length : Int) ≤ zs.length))) = true := by
 obtain ⟨h1, h2⟩ := bd_valid h
 have := vs_bd h1
 have : 1 * f ≤ r * f := Int.mul_le_mul_of_nonneg_right (by omega) (by omega)
 rw [Int.mul_comm r f] at this
 simp; omega
theorem w_lenf {f r : Int} {zs : List Int} (h : validBd f r zs = true) (hz : zs.length ≤ 64) : IntKind.i64.wrap ((zs.length : Int) - f) = (zs.length : Int) - f ∧ 0 ≤ (zs.length : Int) - f ∧ 3 ≤ f := by
 obtain ⟨h1, h2⟩ := bd_valid h
 have := vs_bd h1
 have : 1 * f ≤ r * f := Int.mul_le_mul_of_nonneg_right (by omega) (by omega)
 rw [Int.mul_comm r f] at this
 exact ⟨w64_id (by omega) (by omega), by omega, by omega⟩
theorem need_win2 {f r : Int} {zs : List Int} (h : validBd f r zs = true) (hz : zs.length ≤ 64) : (decide (0 ≤ IntKind.i64.wrap ((zs.length : Int) - f)) && decide (IntKind.i64.wrap ((zs.length : Int) - f) ≤ zs.length) && decide ((zs.length : Int) ≤ zs.length)) = true := by
 obtain ⟨h1, h2, h3⟩ := w_lenf h hz
 rw [h1]
 simp only [Bool.and_eq_true, decide_eq_true_eq]
 omega
theorem need_ct1 {zs : List Int} {a m : Nat} (h : m = zs.length) (hz : zs.length ≤ 64) : (decide (m - a = ((zs.drop a).take (m - a)).length) && decide (((zs.drop a).take (m - a)).length ≤ 1000000)) = true := by
 simp only [Bool.and_eq_true, decide_eq_true_eq, List.length_take, List.length_drop]
 omega
theorem need_ct2 {zs : List Int} {b m : Nat} {g : Bool} (h : m ≤ zs.length) (hz : zs.length ≤ 64) : (!g || (decide (m - 0 = ((zs.drop 0).take (m - 0)).length) && decide (((zs.drop 0).take (m - 0)).length ≤ 1000000))) = true ∧ b = b := by
 rw [Bool.or_eq_true]
 refine ⟨.inr ?_, rfl⟩
 simp only [Bool.and_eq_true, decide_eq_true_eq, List.length_take, List.length_drop]
 omega
def c_ppawns : CF
 | [.agg [.int .i64 f, .int .i64 r, .sl 0 0 len none, .bool _bl, .int .u8 _ca, .int .i64 _pa, .int .i64 _ha, .int .i64 _fu]], [.ints false .i8 zs] => some (decide (len = zs.length) && decide (zs.length ≤ 64) && validBd f r zs, .bool (pawnsB f zs), [])
 | _, _ => none
theorem c_ppawns_ok : CtOk (GGx kCa kDb) PP (83, c_ppawns) := by
 refine ct_mk Tryz.func83 (by kernel_rfl) rfl fun a0 h0 c0 v0 N0 e hc => ?_
 unfold c_ppawns at e
 split at e
 ·rename_i f r len bl ca pa ha fu zs
  cases e
  have hE := EE_ok (kCa := kCa) (kDb := kDb) (cts := [(64, c_contains)]) (inl := []) ⟨c_contains_ok, trivial⟩ trivial
  refine fn_sound hE 2 Tryz.func83 rfl rfl ?_
  simp only [Bool.and_eq_true, decide_eq_true_eq] at hc
  obtain ⟨⟨rfl, hc2⟩, hbd⟩ := hc
  obtain ⟨hw1, hw2, hw3⟩ := w_lenf hbd hc2
  have hfl : f.toNat ≤ zs.length := by omega
  repeat (first | (first | refine sat_self ?_ | refine sat_nd ?_) | refine sat_need (need_win hbd hc2) ?_ | refine sat_need (need_win2 hbd hc2) ?_ | refine sat_need (need_ct1 rfl hc2) ?_ | refine sat_need (need_ct2 (b := 0) hfl hc2).1 ?_)
  refine sat_ret (fin_val (.inr rfl) rfl rfl rfl (congrArg V.bool ?_))
  show (!((zs.drop (IntKind.i64.wrap ((zs.length : Int) - f)).toNat).take (zs.length - (IntKind.i64.wrap ((zs.length : Int) - f)).toNat)).any (isV 1) && !((zs.drop 0).take (f.toNat - 0)).any (isV (-1))) = _
  rw [hw1, pawnsB, show ((zs.length : Int) - f).toNat = zs.length - f.toNat by omega, List.drop_zero, Nat.sub_zero, List.take_of_length_le (by simp)]
 ·cases e
def c_pkings : CF
 | [.agg [.int .i64 f, .int .i64 r, .sl 0 0 len none, .bool bl, .int .u8 _ca, .int .i64 _pa, .int .i64 _ha, .int .i64 _fu]], [.ints false .i8 zs] => some (decide (len = zs.length) && decide (zs.length ≤ 64), .bool (kingsB f r zs bl), [])
 | _, _ => none
theorem c_pkings_ok : CtOk (GGx kCa kDb) PP (81, c_pkings) := by
 refine ct_mk Tryz.func81 (by kernel_rfl) rfl fun a0 h0 c0 v0 N0 e hc => ?_
 unfold c_pkings at e
 split at e
 ·rename_i f r len bl ca pa ha fu zs
  cases e
  have hE := EE_ok (kCa := kCa) (kDb := kDb) (cts := [(28, c_King), (29, c_Checkers)]) (inl := []) ⟨c_King_ok, c_Checkers_ok, trivial⟩ trivial
  refine fn_sound hE 2 Tryz.func81 rfl rfl ?_
  simp only [Bool.and_eq_true, decide_eq_true_eq] at hc
  obtain ⟨rfl, hc2⟩ := hc
  repeat (first | (first | refine sat_self ?_ | refine sat_nd ?_) | refine sat_need (need_bd hc2 rfl) ?_)
  refine sat_ret (fin_val (.inr rfl) rfl rfl rfl (congrArg V.bool ?_))
  show (decide ((kingR f r (tk zs) bl).2 = 0) && decide ((checkersR f r (tk zs) (!bl)).2 = 0) && decide ((checkersR f r (tk zs) (!bl)).1 = 0)) = _
  rw [tk_eq]; rfl
 ·cases e
end Go.Ab

set_option maxRecDepth 100000
set_option maxHeartbeats 4000000
namespace Go.Ab
open Go.Proofs
variable {kCa kDb : Bool}
def c_pvalid : CF
 | [.agg [.int .i64 f, .int .i64 r, .sl 0 0 len none, .bool bl, .int .u8 ca, .int .i64 pa, .int .i64 ha, .int .i64 fu]], [.ints false .i8 zs] => some (decide (len = zs.length) && decide (zs.length ≤ 64), .bool (Psn.ok ⟨f, r, zs, bl, ca, pa, ha, fu⟩), [])
 | _, _ => none
theorem c_pvalid_ok : CtOk (GGx kCa kDb) PP (40, c_pvalid) := by
 refine ct_mk Tryz.func40 (by kernel_rfl) rfl fun a0 h0 c0 v0 N0 e hc => ?_
 unfold c_pvalid at e
 split at e
 ·rename_i f r len bl ca pa ha fu zs
  cases e
  have hE := EE_ok (kCa := kCa) (kDb := kDb) (cts := [(79, c_bvalid), (81, c_pkings), (83, c_ppawns), (85, c_pcastles), (87, c_ppass)]) (inl := [(78, Tryz.f78), (80, Tryz.f80), (82, Tryz.f82), (84, Tryz.f84), (86, Tryz.f86), (88, Tryz.f88)]) ⟨c_bvalid_ok, c_pkings_ok, c_ppawns_ok, c_pcastles_ok, c_ppass_ok, trivial⟩ ⟨⟨Tryz.func78, by kernel_rfl⟩, ⟨Tryz.func80, by kernel_rfl⟩, ⟨Tryz.func82, by kernel_rfl⟩, ⟨Tryz.func84, by kernel_rfl⟩, ⟨Tryz.func86, by kernel_rfl⟩, ⟨Tryz.func88, by kernel_rfl⟩, trivial⟩
  refine fn_sound hE 3 Tryz.func40 rfl rfl ?_
  simp only [Bool.and_eq_true, decide_eq_true_eq] at hc
  obtain ⟨rfl, hc2⟩ := hc
  repeat (first | refine sat_self ?_ | refine sat_nd ?_)
  refine sat_rounds hE 3 7 ?_
  refine rnd ?_
  refine sat_bt (by rfl) ?_
  repeat (first | (first | refine sat_self ?_ | refine sat_nd ?_) | refine sat_need (need_bd hc2 rfl) ?_)
  refine sat_br (fun h0 => ?_) (fun h0 => ?_)
  ·have h0 : (!validBd f r (tk zs)) = true := h0
   rw [tk_eq, Bool.not_eq_true'] at h0
   exact sat_ret (sat_ret (fin_val (.inr rfl) rfl rfl rfl (by simp [Psn.ok, h0])))
  have h0 : (!validBd f r (tk zs)) = false := h0
  have h0t : validBd f r (tk zs) = true := by simpa using h0
  rw [tk_eq, Bool.not_eq_false'] at h0
  refine sat_ret ⟨[(1, .ptr 1 0 0), (13, .sl 2 0 6 none), (14, I 6), (15, I 1)], [.ints false .i8 zs, .cells true [I f, I r, .sl 0 0 zs.length none, Bb bl, .int .u8 ca, I pa, I ha, I fu], .vals true 1 [[.fn 78 [.ptr 1 0 0]], [.fn 80 [.ptr 1 0 0]], [.fn 82 [.ptr 1 0 0]], [.fn 84 [.ptr 1 0 0]], [.fn 86 [.ptr 1 0 0]], [.fn 88 [.ptr 1 0 0]]]], Ent.ren [0, 1, 2] [1, 13, 14, 15] rfl rfl rfl, ?_⟩
  refine rnd ?_
  refine sat_bt (by rfl) ?_
  repeat (first | (first | refine sat_self ?_ | refine sat_nd ?_) | refine sat_need (need_bd hc2 rfl) ?_ | refine sat_need (need_bdv hc2 rfl h0t) ?_)
  refine sat_br (fun h1 => ?_) (fun h1 => ?_)
  ·have h1 : (!kingsB f r (tk zs) bl) = true := h1
   rw [tk_eq, Bool.not_eq_true'] at h1
   exact sat_ret (sat_ret (fin_val (.inr rfl) rfl rfl rfl (by simp [Psn.ok, h0, h1])))
  have h1 : (!kingsB f r (tk zs) bl) = false := h1
  rw [tk_eq, Bool.not_eq_false'] at h1
  refine sat_ret ⟨[(1, .ptr 1 0 0), (13, .sl 2 0 6 none), (14, I 6), (15, I 2)], [.ints false .i8 zs, .cells true [I f, I r, .sl 0 0 zs.length none, Bb bl, .int .u8 ca, I pa, I ha, I fu], .vals true 1 [[.fn 78 [.ptr 1 0 0]], [.fn 80 [.ptr 1 0 0]], [.fn 82 [.ptr 1 0 0]], [.fn 84 [.ptr 1 0 0]], [.fn 86 [.ptr 1 0 0]], [.fn 88 [.ptr 1 0 0]]]], Ent.ren [0, 1, 2] [1, 13, 14, 15] rfl rfl rfl, ?_⟩
  refine rnd ?_
  refine sat_bt (by rfl) ?_
  repeat (first | (first | refine sat_self ?_ | refine sat_nd ?_) | refine sat_need (need_bd hc2 rfl) ?_ | refine sat_need (need_bdv hc2 rfl h0t) ?_)
  refine sat_br (fun h2 => ?_) (fun h2 => ?_)
  ·have h2 : (!pawnsB f (tk zs)) = true := h2
   rw [tk_eq, Bool.not_eq_true'] at h2
   exact sat_ret (sat_ret (fin_val (.inr rfl) rfl rfl rfl (by simp [Psn.ok, h0, h1, h2])))
  have h2 : (!pawnsB f (tk zs)) = false := h2
  rw [tk_eq, Bool.not_eq_false'] at h2
  refine sat_ret ⟨[(1, .ptr 1 0 0), (13, .sl 2 0 6 none), (14, I 6), (15, I 3)], [.ints false .i8 zs, .cells true [I f, I r, .sl 0 0 zs.length none, Bb bl, .int .u8 ca, I pa, I ha, I fu], .vals true 1 [[.fn 78 [.ptr 1 0 0]], [.fn 80 [.ptr 1 0 0]], [.fn 82 [.ptr 1 0 0]], [.fn 84 [.ptr 1 0 0]], [.fn 86 [.ptr 1 0 0]], [.fn 88 [.ptr 1 0 0]]]], Ent.ren [0, 1, 2] [1, 13, 14, 15] rfl rfl rfl, ?_⟩
  refine rnd ?_
  refine sat_bt (by rfl) ?_
  repeat (first | (first | refine sat_self ?_ | refine sat_nd ?_) | refine sat_need (need_bd hc2 rfl) ?_ | refine sat_need (need_bdv hc2 rfl h0t) ?_)
  refine sat_br (fun h3 => ?_) (fun h3 => ?_)
  ·have h3 : (!castB f r (tk zs) ca) = true := h3
   rw [tk_eq, Bool.not_eq_true'] at h3
   exact sat_ret (sat_ret (fin_val (.inr rfl) rfl rfl rfl (by simp [Psn.ok, h0, h1, h2, h3])))
  have h3 : (!castB f r (tk zs) ca) = false := h3
  rw [tk_eq, Bool.not_eq_false'] at h3
  refine sat_ret ⟨[(1, .ptr 1 0 0), (13, .sl 2 0 6 none), (14, I 6), (15, I 4)], [.ints false .i8 zs, .cells true [I f, I r, .sl 0 0 zs.length none, Bb bl, .int .u8 ca, I pa, I ha, I fu], .vals true 1 [[.fn 78 [.ptr 1 0 0]], [.fn 80 [.ptr 1 0 0]], [.fn 82 [.ptr 1 0 0]], [.fn 84 [.ptr 1 0 0]], [.fn 86 [.ptr 1 0 0]], [.fn 88 [.ptr 1 0 0]]]], Ent.ren [0, 1, 2] [1, 13, 14, 15] rfl rfl rfl, ?_⟩
  refine rnd ?_
  refine sat_bt (by rfl) ?_
  repeat (first | (first | refine sat_self ?_ | refine sat_nd ?_) | refine sat_need (need_bd hc2 rfl) ?_ | refine sat_need (need_bdv hc2 rfl h0t) ?_)
  refine sat_br (fun h4 => ?_) (fun h4 => ?_)
  ·have h4 : (!passB f r (tk zs) bl pa ha) = true := h4
   rw [tk_eq, Bool.not_eq_true'] at h4
   exact sat_ret (sat_ret (fin_val (.inr rfl) rfl rfl rfl (by simp [Psn.ok, h0, h1, h2, h3, h4])))
  have h4 : (!passB f r (tk zs) bl pa ha) = false := h4
  rw [tk_eq, Bool.not_eq_false'] at h4
  refine sat_ret ⟨[(1, .ptr 1 0 0), (13, .sl 2 0 6 none), (14, I 6), (15, I 5)], [.ints false .i8 zs, .cells true [I f, I r, .sl 0 0 zs.length none, Bb bl, .int .u8 ca, I pa, I ha, I fu], .vals true 1 [[.fn 78 [.ptr 1 0 0]], [.fn 80 [.ptr 1 0 0]], [.fn 82 [.ptr 1 0 0]], [.fn 84 [.ptr 1 0 0]], [.fn 86 [.ptr 1 0 0]], [.fn 88 [.ptr 1 0 0]]]], Ent.ren [0, 1, 2] [1, 13, 14, 15] rfl rfl rfl, ?_⟩
  refine rnd ?_
  refine sat_bt (by rfl) ?_
  repeat (first | (first | refine sat_self ?_ | refine sat_nd ?_) | refine sat_need (need_bd hc2 rfl) ?_ | refine sat_need (need_bdv hc2 rfl h0t) ?_)
  refine sat_br (fun h5 => ?_) (fun h5 => ?_)
  ·have h5 : (!cntB ha fu) = true := h5
   rw [Bool.not_eq_true'] at h5
   exact sat_ret (sat_ret (fin_val (.inr rfl) rfl rfl rfl (by simp [Psn.ok, h0, h1, h2, h3, h4, h5])))
  have h5 : (!cntB ha fu) = false := h5
  rw [Bool.not_eq_false'] at h5
  refine sat_ret ⟨[(1, .ptr 1 0 0), (13, .sl 2 0 6 none), (14, I 6), (15, I 6)], [.ints false .i8 zs, .cells true [I f, I r, .sl 0 0 zs.length none, Bb bl, .int .u8 ca, I pa, I ha, I fu], .vals true 1 [[.fn 78 [.ptr 1 0 0]], [.fn 80 [.ptr 1 0 0]], [.fn 82 [.ptr 1 0 0]], [.fn 84 [.ptr 1 0 0]], [.fn 86 [.ptr 1 0 0]], [.fn 88 [.ptr 1 0 0]]]], Ent.ren [0, 1, 2] [1, 13, 14, 15] rfl rfl rfl, ?_⟩
  refine rnd ?_
  refine sat_bf (by rfl) ?_
  refine sat_ret (sat_ret (fin_val (.inr rfl) rfl rfl rfl (by simp [Psn.ok, h0, h1, h2, h3, h4, h5])))
 ·cases e
end Go.Ab

set_option maxRecDepth 100000
set_option maxHeartbeats 4000000
namespace Go.Ab
open Go.Proofs
variable {kCa kDb : Bool}
def pieceR (k : Int) (bl : Bool) : Int := bif bl then w8 (0 - k) else k
def rankR (r : Int) (bl : Bool) (n : Int) : Int := bif bl then IntKind.i64.wrap (r - n) else IntKind.i64.wrap (n - 1)
def lastR (r : Int) (bl : Bool) : Int := bif bl then 0 else IntKind.i64.wrap (r - 1)
def chkL (f r : Int) (zs : List Int) (bl : Bool) : Bool := decide (0 < ((attL f r zs (refKing zs bl) (!bl)).length : Int))
def homeB (f r : Int) (zs : List Int) (bit : Int) : Bool := bif !decide (f = 8) || !decide (r = 8) then false else bif decide (bit = 1) then decide (zs.getD 4 0 = 6) && decide (zs.getD 7 0 = 4) else bif decide (bit = 2) then decide (zs.getD 4 0 = 6) && decide (zs.getD 0 0 = 4) else bif decide (bit = 4) then decide (zs.getD 60 0 = -6) && decide (zs.getD 63 0 = -4) else decide (zs.getD 60 0 = -6) && decide (zs.getD 56 0 = -4)
theorem sq_e1 : parseR 8 8 [101, 49] = 4 := by kernel_rfl
theorem sq_h1 : parseR 8 8 [104, 49] = 7 := by kernel_rfl
theorem sq_a1 : parseR 8 8 [97, 49] = 0 := by kernel_rfl
theorem sq_e8 : parseR 8 8 [101, 56] = 60 := by kernel_rfl
theorem sq_h8 : parseR 8 8 [104, 56] = 63 := by kernel_rfl
theorem sq_a8 : parseR 8 8 [97, 56] = 56 := by kernel_rfl
def c_rpiece : CF
 | [.int .i8 k, .bool bl], [] => some (true, .int .i8 (pieceR k bl), [])
 | _, _ => none
theorem c_rpiece_ok : CtOk (GGx kCa kDb) PP (98, c_rpiece) := by
 refine ct_mk Tryz.func98 (by kernel_rfl) rfl fun a0 h0 c0 v0 N0 e hc => ?_
 unfold c_rpiece at e
 split at e
 ·rename_i k bl
  cases e
  have hE := EE_ok (kCa := kCa) (kDb := kDb) (cts := []) (inl := []) trivial trivial
  refine fn_sound hE 2 Tryz.func98 rfl rfl ?_
  repeat' first | (first | refine sat_self ?_ | refine sat_nd ?_) | refine sat_br (fun h => ?_) (fun h => ?_)
  all_goals exact sat_ret (fin_val (.inr rfl) rfl rfl rfl (by first | rfl | (simp only [pieceR, *, cond_true, cond_false]; done) | (simp only [pieceR, *, cond_true, cond_false, Bool.not_true, Bool.not_false, Bool.and_true, Bool.true_and, Bool.and_false, Bool.false_and, Bool.or_true, Bool.true_or, Bool.or_false, Bool.false_or]; done) | simp_all [pieceR]))
 ·cases e
def c_rRank : CF
 | [.agg [.int .i64 _f, .int .i64 r], .bool bl, .int .i64 n], [] => some (true, .int .i64 (rankR r bl n), [])
 | _, _ => none
theorem c_rRank_ok : CtOk (GGx kCa kDb) PP (96, c_rRank) := by
 refine ct_mk Tryz.func96 (by kernel_rfl) rfl fun a0 h0 c0 v0 N0 e hc => ?_
 unfold c_rRank at e
 split at e
 ·rename_i f r bl n
  cases e
  have hE := EE_ok (kCa := kCa) (kDb := kDb) (cts := []) (inl := []) trivial trivial
  refine fn_sound hE 2 Tryz.func96 rfl rfl ?_
  repeat' first | (first | refine sat_self ?_ | refine sat_nd ?_) | refine sat_br (fun h => ?_) (fun h => ?_)
  all_goals exact sat_ret (fin_val (.inr rfl) rfl rfl rfl (by first | rfl | (simp only [rankR, *, cond_true, cond_false]; done) | (simp only [rankR, *, cond_true, cond_false, Bool.not_true, Bool.not_false, Bool.and_true, Bool.true_and, Bool.and_false, Bool.false_and, Bool.or_true, Bool.true_or, Bool.or_false, Bool.false_or]; done) | simp_all [rankR]))
 ·cases e
def c_rLast : CF
 | [.agg [.int .i64 _f, .int .i64 r], .bool bl], [] => some (true, .int .i64 (lastR r bl), [])
 | _, _ => none
theorem c_rLast_ok : CtOk (GGx kCa kDb) PP (49, c_rLast) := by
 refine ct_mk Tryz.func49 (by kernel_rfl) rfl fun a0 h0 c0 v0 N0 e hc => ?_
 unfold c_rLast at e
 split at e
 ·rename_i f r bl
  cases e
  have hE := EE_ok (kCa := kCa) (kDb := kDb) (cts := []) (inl := []) trivial trivial
  refine fn_sound hE 2 Tryz.func49 rfl rfl ?_
  repeat' first | (first | refine sat_self ?_ | refine sat_nd ?_) | refine sat_br (fun h => ?_) (fun h => ?_)
  all_goals exact sat_ret (fin_val (.inr rfl) rfl rfl rfl (by first | rfl | (simp only [lastR, *, cond_true, cond_false]; done) | (simp only [lastR, *, cond_true, cond_false, Bool.not_true, Bool.not_false, Bool.and_true, Bool.true_and, Bool.and_false, Bool.false_and, Bool.or_true, Bool.true_or, Bool.or_false, Bool.false_or]; done) | simp_all [lastR]))
 ·cases e
def c_rOf : CF
 | [.agg [.int .i64 f, .int .i64 r, .sl 0 0 len none, .bool _bl, .int .u8 _ca, .int .i64 _pa, .int .i64 _ha, .int .i64 _fu]], [.ints false .i8 _zs] => some (true, .agg [I f, I r, .sl 0 0 len none], [])
 | _, _ => none
theorem c_rOf_ok : CtOk (GGx kCa kDb) PP (27, c_rOf) := by
 refine ct_mk Tryz.func27 (by kernel_rfl) rfl fun a0 h0 c0 v0 N0 e hc => ?_
 unfold c_rOf at e
 split at e
 ·rename_i f r len bl ca pa ha fu zs
  cases e
  have hE := EE_ok (kCa := kCa) (kDb := kDb) (cts := []) (inl := []) trivial trivial
  refine fn_soundA hE 2 Tryz.func27 rfl rfl ?_
  repeat (first | refine sat_self ?_ | refine sat_nd ?_)
  exact sat_ret ⟨.inr rfl, _, rfl, rfl, rfl⟩
 ·cases e
def c_rCheck : CF
 | [.agg [.int .i64 f, .int .i64 r, .sl 0 0 len none], .bool bl], [.ints false .i8 zs] => some (decide (len = zs.length) && decide (zs.length ≤ 64) && vsB f r, .bool (chkL f r zs bl), [])
 | _, _ => none
theorem c_rCheck_ok : CtOk (GGx kCa kDb) PP (46, c_rCheck) := by
 refine ct_mk Tryz.func46 (by kernel_rfl) rfl fun a0 h0 c0 v0 N0 e hc => ?_
 unfold c_rCheck at e
 split at e
 ·rename_i f r len bl zs
  cases e
  have hE := EE_ok (kCa := kCa) (kDb := kDb) (cts := [(45, c_refKing), (94, c_refAttackers)]) (inl := []) ⟨c_refKing_ok, c_refAttackers_ok, trivial⟩ trivial
  refine fn_sound hE 2 Tryz.func46 rfl rfl ?_
  simp only [Bool.and_eq_true, decide_eq_true_eq] at hc
  obtain ⟨⟨rfl, hc2⟩, hv⟩ := hc
  repeat (first | (first | refine sat_self ?_ | refine sat_nd ?_) | refine sat_need (need_bd hc2 rfl) ?_ | refine sat_need (need_bdv hc2 rfl hv) ?_)
  refine sat_ret (fin_val (.inr rfl) rfl rfl rfl (by
   show V.bool (chkL f r (tk zs) bl) = _
   rw [tk_eq]))
 ·cases e
def c_rat : CF
 | [.agg [.int .i64 _f, .int .i64 _r, .sl 0 0 len none, .bool _bl, .int .u8 _ca, .int .i64 _pa, .int .i64 _ha, .int .i64 _fu], .str s], [.ints false .i8 zs] => some (decide (len = zs.length) && decide (zs.length ≤ 64) && decide (0 ≤ parseR 8 8 s) && decide (parseR 8 8 s < zs.length), .int .i8 (zs.getD (parseR 8 8 s).toNat 0), [])
 | _, _ => none
theorem c_rat_ok : CtOk (GGx kCa kDb) PP (150, c_rat) := by
 refine ct_mk Tryz.func150 (by kernel_rfl) rfl fun a0 h0 c0 v0 N0 e hc => ?_
 unfold c_rat at e
 split at e
 ·rename_i f r len bl ca pa ha fu s zs
  cases e
  have hE := EE_ok (kCa := kCa) (kDb := kDb) (cts := [(133, c_Parse)]) (inl := []) ⟨c_Parse_ok, trivial⟩ trivial
  refine fn_sound hE 2 Tryz.func150 rfl rfl ?_
  simp only [Bool.and_eq_true, decide_eq_true_eq] at hc
  obtain ⟨⟨⟨rfl, hc2⟩, h0⟩, h1⟩ := hc
  repeat (first | (first | refine sat_self ?_ | refine sat_nd ?_) | refine sat_need (by simp only [Bool.and_eq_true, decide_eq_true_eq]; omega) ?_)
  exact sat_ret (fin_val (.inr rfl) rfl rfl rfl rfl)
 ·cases e
theorem need_sqa {zs : List Int} {s : List UInt8} {n : Nat} (h : parseR 8 8 s = n) (h2 : n < 64) (h64 : zs.length = 64) : (decide (zs.length = (tk zs).length) && decide ((tk zs).length ≤ 64) && decide (0 ≤ parseR 8 8 s) && decide (parseR 8 8 s < (tk zs).length)) = true := by
 rw [tk_len, h, h64]; simp; omega
theorem need_sqag {zs : List Int} {s : List UInt8} {n : Nat} {g : Bool} (h : parseR 8 8 s = n) (h2 : n < 64) (h64 : zs.length = 64) : (!g || (decide (zs.length = (tk zs).length) && decide ((tk zs).length ≤ 64) && decide (0 ≤ parseR 8 8 s) && decide (parseR 8 8 s < (tk zs).length))) = true := by
 rw [need_sqa h h2 h64]; simp
def c_rhome : CF
 | [.agg [.int .i64 f, .int .i64 r, .sl 0 0 len none, .bool _bl, .int .u8 _ca, .int .i64 _pa, .int .i64 _ha, .int .i64 _fu], .int .u8 bit], [.ints false .i8 zs] => some (decide (len = zs.length) && decide (zs.length ≤ 64) && (!decide (f = 8) || !decide (r = 8) || decide (zs.length = 64)), .bool (homeB f r zs bit), [])
 | _, _ => none
theorem c_rhome_ok : CtOk (GGx kCa kDb) PP (95, c_rhome) := by
 refine ct_mk Tryz.func95 (by kernel_rfl) rfl fun a0 h0 c0 v0 N0 e hc => ?_
 unfold c_rhome at e
 split at e
 ·rename_i f r len bl ca pa ha fu bit zs
  cases e
  have hE := EE_ok (kCa := kCa) (kDb := kDb) (cts := [(150, c_rat)]) (inl := []) ⟨c_rat_ok, trivial⟩ trivial
  refine fn_sound hE 2 Tryz.func95 rfl rfl ?_
  simp only [Bool.and_eq_true, decide_eq_true_eq] at hc
  obtain ⟨⟨rfl, hc2⟩, hv⟩ := hc
  repeat (first | refine sat_self ?_ | refine sat_nd ?_)
  refine sat_br (fun h => ?_) (fun h => ?_)
  ·have h : (!decide (f = 8) || !decide (r = 8)) = true := h
   exact sat_ret (fin_val (.inr rfl) rfl rfl rfl (by rw [homeB, h]; rfl))
  have h : (!decide (f = 8) || !decide (r = 8)) = false := h
  have h64 : zs.length = 64 := by
   rw [h] at hv; simpa using hv
  refine sat_br (fun h1 => ?_) (fun h1 => ?_)
  ·have h1 : decide (bit = 1) = true := h1
   repeat (first | (first | refine sat_self ?_ | refine sat_nd ?_) | refine sat_need (need_sqa (n := 4) sq_e1 (by decide) h64) ?_ | refine sat_need (need_sqag (n := 4) sq_e1 (by decide) h64) ?_ | refine sat_need (need_sqa (n := 7) sq_h1 (by decide) h64) ?_ | refine sat_need (need_sqag (n := 7) sq_h1 (by decide) h64) ?_ | refine sat_need (need_sqa (n := 0) sq_a1 (by decide) h64) ?_ | refine sat_need (need_sqag (n := 0) sq_a1 (by decide) h64) ?_ | refine sat_need (need_sqa (n := 60) sq_e8 (by decide) h64) ?_ | refine sat_need (need_sqag (n := 60) sq_e8 (by decide) h64) ?_ | refine sat_need (need_sqa (n := 63) sq_h8 (by decide) h64) ?_ | refine sat_need (need_sqag (n := 63) sq_h8 (by decide) h64) ?_ | refine sat_need (need_sqa (n := 56) sq_a8 (by decide) h64) ?_ | refine sat_need (need_sqag (n := 56) sq_a8 (by decide) h64) ?_)
   exact sat_ret (fin_val (.inr rfl) rfl rfl rfl (congrArg V.bool (by
    show (decide ((tk zs).getD (parseR 8 8 [101, 49]).toNat 0 = 6) && decide ((tk zs).getD (parseR 8 8 [104, 49]).toNat 0 = 4)) = _
    rw [tk_eq, sq_e1, sq_h1, homeB, h, h1]; rfl)))
  have h1 : decide (bit = 1) = false := h1
  refine sat_br (fun h2 => ?_) (fun h2 => ?_)
  ·have h2 : decide (bit = 2) = true := h2
   repeat (first | (first | refine sat_self ?_ | refine sat_nd ?_) | refine sat_need (need_sqa (n := 4) sq_e1 (by decide) h64) ?_ | refine sat_need (need_sqag (n := 4) sq_e1 (by decide) h64) ?_ | refine sat_need (need_sqa (n := 7) sq_h1 (by decide) h64) ?_ | refine sat_need (need_sqag (n := 7) sq_h1 (by decide) h64) ?_ | refine sat_need (need_sqa (n := 0) sq_a1 (by decide) h64) ?_ | refine sat_need (need_sqag (n := 0) sq_a1 (by decide) h64) ?_ | refine sat_need (need_sqa (n := 60) sq_e8 (by decide) h64) ?_ | refine sat_need (need_sqag (n := 60) sq_e8 (by decide) h64) ?_ | refine sat_need (need_sqa (n := 63) sq_h8 (by decide) h64) ?_ | refine sat_need (need_sqag (n := 63) sq_h8 (by decide) h64) ?_ | refine sat_need (need_sqa (n := 56) sq_a8 (by decide) h64) ?_ | refine sat_need (need_sqag (n := 56) sq_a8 (by decide) h64) ?_)
   exact sat_ret (fin_val (.inr rfl) rfl rfl rfl (congrArg V.bool (by
    show (decide ((tk zs).getD (parseR 8 8 [101, 49]).toNat 0 = 6) && decide ((tk zs).getD (parseR 8 8 [97, 49]).toNat 0 = 4)) = _
    rw [tk_eq, sq_e1, sq_a1, homeB, h, h1, h2]; rfl)))
  have h2 : decide (bit = 2) = false := h2
  refine sat_br (fun h3 => ?_) (fun h3 => ?_)
  ·have h3 : decide (bit = 4) = true := h3
   repeat (first | (first | refine sat_self ?_ | refine sat_nd ?_) | refine sat_need (need_sqa (n := 4) sq_e1 (by decide) h64) ?_ | refine sat_need (need_sqag (n := 4) sq_e1 (by decide) h64) ?_ | refine sat_need (need_sqa (n := 7) sq_h1 (by decide) h64) ?_ | refine sat_need (need_sqag (n := 7) sq_h1 (by decide) h64) ?_ | refine sat_need (need_sqa (n := 0) sq_a1 (by decide) h64) ?_ | refine sat_need (need_sqag (n := 0) sq_a1 (by decide) h64) ?_ | refine sat_need (need_sqa (n := 60) sq_e8 (by decide) h64) ?_ | refine sat_need (need_sqag (n := 60) sq_e8 (by decide) h64) ?_ | refine sat_need (need_sqa (n := 63) sq_h8 (by decide) h64) ?_ | refine sat_need (need_sqag (n := 63) sq_h8 (by decide) h64) ?_ | refine sat_need (need_sqa (n := 56) sq_a8 (by decide) h64) ?_ | refine sat_need (need_sqag (n := 56) sq_a8 (by decide) h64) ?_)
   exact sat_ret (fin_val (.inr rfl) rfl rfl rfl (congrArg V.bool (by
    show (decide ((tk zs).getD (parseR 8 8 [101, 56]).toNat 0 = -6) && decide ((tk zs).getD (parseR 8 8 [104, 56]).toNat 0 = -4)) = _
    rw [tk_eq, sq_e8, sq_h8, homeB, h, h1, h2, h3]; rfl)))
  have h3 : decide (bit = 4) = false := h3
  repeat (first | (first | refine sat_self ?_ | refine sat_nd ?_) | refine sat_need (need_sqa (n := 4) sq_e1 (by decide) h64) ?_ | refine sat_need (need_sqag (n := 4) sq_e1 (by decide) h64) ?_ | refine sat_need (need_sqa (n := 7) sq_h1 (by decide) h64) ?_ | refine sat_need (need_sqag (n := 7) sq_h1 (by decide) h64) ?_ | refine sat_need (need_sqa (n := 0) sq_a1 (by decide) h64) ?_ | refine sat_need (need_sqag (n := 0) sq_a1 (by decide) h64) ?_ | refine sat_need (need_sqa (n := 60) sq_e8 (by decide) h64) ?_ | refine sat_need (need_sqag (n := 60) sq_e8 (by decide) h64) ?_ | refine sat_need (need_sqa (n := 63) sq_h8 (by decide) h64) ?_ | refine sat_need (need_sqag (n := 63) sq_h8 (by decide) h64) ?_ | refine sat_need (need_sqa (n := 56) sq_a8 (by decide) h64) ?_ | refine sat_need (need_sqag (n := 56) sq_a8 (by decide) h64) ?_)
  exact sat_ret (fin_val (.inr rfl) rfl rfl rfl (congrArg V.bool (by
   show (decide ((tk zs).getD (parseR 8 8 [101, 56]).toNat 0 = -6) && decide ((tk zs).getD (parseR 8 8 [97, 56]).toNat 0 = -4)) = _
   rw [tk_eq, sq_e8, sq_a8, homeB, h, h1, h2, h3]; rfl)))
 ·cases e
end Go.Ab

set_option maxRecDepth 100000
set_option maxHeartbeats 4000000
namespace Go.Ab
open Go.Proofs
variable {kCa kDb : Bool}
def rXL (f r : Int) (zs : List Int) (ca bit : Int) : Bool := decide ((IntKind.u8.wrap (ca.tdiv bit)).tmod 2 = 1) && !homeB f r zs bit
def castL (f r : Int) (zs : List Int) (ca : Int) : Bool := bif decide (15 < ca) then false else !(rXL f r zs ca 1 || rXL f r zs ca 2 || rXL f r zs ca 4 || rXL f r zs ca 8)
def pasL (f r : Int) (zs : List Int) (bl : Bool) (pa ha : Int) : Bool := bif decide (pa = -1) then true else bif decide (r < 6) || !decide (ha = 0) || !validB f r pa then false else bif !decide (IntKind.i64.wrap (2 * IntKind.i64.wrap (pa.tdiv f)) = IntKind.i64.wrap (rankR r (!bl) 2 + rankR r (!bl) 4)) then false else decide (zs.getD pa.toNat 0 = 0) && decide (zs.getD (numR f r (pa.tmod f) (rankR r (!bl) 2)).toNat 0 = 0) && decide (zs.getD (numR f r (pa.tmod f) (rankR r (!bl) 4)).toNat 0 = pieceR 1 (!bl))
def pwL (f r : Int) (zs : List Int) (i : Int) : Bool := decide (kind8 (zs.getD i.toNat 0) = 1) && decide (IntKind.i64.wrap (i.tdiv f) = lastR r (decide (zs.getD i.toNat 0 < 0)))
def pwAny (f r : Int) (zs : List Int) : Bool := (List.range zs.length).any fun i => pwL f r zs i
def validL (p : Psn) : Bool := bif !orthBd p.f p.r p.zs || decide (refKing p.zs false < 0) || decide (refKing p.zs true < 0) || chkL p.f p.r p.zs (!p.bl) then false else bif pwAny p.f p.r p.zs then false else castL p.f p.r p.zs p.ca && pasL p.f p.r p.zs p.bl p.pa p.ha && decide (0 ≤ p.ha) && decide (p.ha ≤ 10000) && decide (1 ≤ p.fu) && decide (p.fu ≤ 10000)
theorem need_h88 {f r : Int} {zs : List Int} {g : Bool} (hc2 : zs.length ≤ 64) (hv : (!decide (f = 8) || !decide (r = 8) || decide (zs.length = 64)) = true) : (!g || (decide (zs.length = (tk zs).length) && decide ((tk zs).length ≤ 64) && (!decide (f = 8) || !decide (r = 8) || decide ((tk zs).length = 64)))) = true := by
 rw [tk_len, hv]; simp [hc2]
theorem rank_num {f r x : Int} {zs : List Int} {bl : Bool} {n : Int} (hbd : validBd f r zs = true) (hx : 0 ≤ x ∧ x < f) (hr : 6 ≤ r) (hn : n = 2 ∨ n = 4) : 0 ≤ numR f r x (rankR r bl n) ∧ numR f r x (rankR r bl n) < zs.length := by
 have hv := (bd_valid hbd).1
 have hb := vs_bd hv
 have hk : rankR r bl n = (bif bl then r - n else n - 1) := by
  unfold rankR; cases bl
  ·exact w64_id (by omega) (by omega)
  ·exact w64_id (by omega) (by omega)
 have ho : onB f r x (rankR r bl n) = true := by
  rw [hk]; cases bl
  ·exact on_mk hx.1 hx.2 (by simp only [cond_false]; omega) (by simp only [cond_false]; omega)
  ·exact on_mk hx.1 hx.2 (by simp only [cond_true]; omega) (by simp only [cond_true]; omega)
 rcases num_cases f r x (rankR r bl n) hv with ⟨_, h⟩ | ⟨h, _⟩
 ·exact (bd_sq hbd).1 h
 ·rw [ho] at h; cases h
theorem need_bdg {zs : List Int} (h : zs.length ≤ 64) {n : Nat} (hn : n = zs.length) {g : Bool} : (!g || (decide (n = (tk zs).length) && decide ((tk zs).length ≤ 64))) = true := by rw [need_bd h hn]; simp
theorem need_bdw {zs : List Int} (h : zs.length ≤ 64) {g b : Bool} (hb : b = true) : (!g || (decide (zs.length = (tk zs).length) && decide ((tk zs).length ≤ 64) && b)) = true := by rw [need_bdv h rfl hb]; simp
theorem need_gx {g : Bool} {x : Int} {n : Nat} (h : 0 ≤ x ∧ x < n) : (!g || (decide (0 ≤ x) && decide (x < n))) = true := by simp [h]
def c_rCastle : CF
 | [.agg [.int .i64 f, .int .i64 r, .sl 0 0 len none, .bool _bl, .int .u8 ca, .int .i64 _pa, .int .i64 _ha, .int .i64 _fu]], [.ints false .i8 zs] => some (decide (len = zs.length) && decide (zs.length ≤ 64) && (!decide (f = 8) || !decide (r = 8) || decide (zs.length = 64)), .bool (castL f r zs ca), [])
 | _, _ => none
theorem c_rCastle_ok : CtOk (GGx kCa kDb) PP (50, c_rCastle) := by
 refine ct_mk Tryz.func50 (by kernel_rfl) rfl fun a0 h0 c0 v0 N0 e hc => ?_
 unfold c_rCastle at e
 split at e
 ·rename_i f r len bl ca pa ha fu zs
  cases e
  have hE := EE_ok (kCa := kCa) (kDb := kDb) (cts := [(95, c_rhome)]) (inl := []) ⟨c_rhome_ok, trivial⟩ trivial
  refine fn_sound hE 2 Tryz.func50 rfl rfl ?_
  simp only [Bool.and_eq_true, decide_eq_true_eq] at hc
  obtain ⟨⟨rfl, hc2⟩, hv⟩ := hc
  refine sat_br (fun h => ?_) (fun h => ?_)
  ·have h : decide (15 < ca) = true := h
   exact sat_ret (fin_val (.inr rfl) rfl rfl rfl (by rw [castL, h]; rfl))
  have h : decide (15 < ca) = false := h
  repeat (first | refine sat_self ?_ | refine sat_nd ?_)
  refine sat_rounds hE 2 5 ?_
  refine rnd ?_
  refine sat_bt (by rfl) ?_
  repeat (first | (first | refine sat_self ?_ | refine sat_nd ?_) | refine sat_need (need_h88 hc2 hv) ?_)
  refine sat_br (fun h0 => ?_) (fun h0 => ?_)
  ·have h0 : rXL f r (tk zs) ca 1 = true := h0
   rw [tk_eq] at h0
   exact sat_ret (sat_ret (fin_val (.inr rfl) rfl rfl rfl (by simp [castL, h, h0])))
  have h0 : rXL f r (tk zs) ca 1 = false := h0
  rw [tk_eq] at h0
  refine sat_ret ⟨[(1, .ptr 1 0 0), (8, .sl 2 0 4 none), (9, I 4), (10, I 1)], [.ints false .i8 zs, .cells true [I f, I r, .sl 0 0 zs.length none, Bb bl, .int .u8 ca, I pa, I ha, I fu], .ints true .u8 [1, 2, 4, 8]], Ent.ren [0, 1, 2] [1, 8, 9, 10] rfl rfl rfl, ?_⟩
  refine rnd ?_
  refine sat_bt (by rfl) ?_
  repeat (first | (first | refine sat_self ?_ | refine sat_nd ?_) | refine sat_need (need_h88 hc2 hv) ?_)
  refine sat_br (fun h1 => ?_) (fun h1 => ?_)
  ·have h1 : rXL f r (tk zs) ca 2 = true := h1
   rw [tk_eq] at h1
   exact sat_ret (sat_ret (fin_val (.inr rfl) rfl rfl rfl (by simp [castL, h, h0, h1])))
  have h1 : rXL f r (tk zs) ca 2 = false := h1
  rw [tk_eq] at h1
  refine sat_ret ⟨[(1, .ptr 1 0 0), (8, .sl 2 0 4 none), (9, I 4), (10, I 2)], [.ints false .i8 zs, .cells true [I f, I r, .sl 0 0 zs.length none, Bb bl, .int .u8 ca, I pa, I ha, I fu], .ints true .u8 [1, 2, 4, 8]], Ent.ren [0, 1, 2] [1, 8, 9, 10] rfl rfl rfl, ?_⟩
  refine rnd ?_
  refine sat_bt (by rfl) ?_
  repeat (first | (first | refine sat_self ?_ | refine sat_nd ?_) | refine sat_need (need_h88 hc2 hv) ?_)
  refine sat_br (fun h2 => ?_) (fun h2 => ?_)
  ·have h2 : rXL f r (tk zs) ca 4 = true := h2
   rw [tk_eq] at h2
   exact sat_ret (sat_ret (fin_val (.inr rfl) rfl rfl rfl (by simp [castL, h, h0, h1, h2])))
  have h2 : rXL f r (tk zs) ca 4 = false := h2
  rw [tk_eq] at h2
  refine sat_ret ⟨[(1, .ptr 1 0 0), (8, .sl 2 0 4 none), (9, I 4), (10, I 3)], [.ints false .i8 zs, .cells true [I f, I r, .sl 0 0 zs.length none, Bb bl, .int .u8 ca, I pa, I ha, I fu], .ints true .u8 [1, 2, 4, 8]], Ent.ren [0, 1, 2] [1, 8, 9, 10] rfl rfl rfl, ?_⟩
  refine rnd ?_
  refine sat_bt (by rfl) ?_
  repeat (first | (first | refine sat_self ?_ | refine sat_nd ?_) | refine sat_need (need_h88 hc2 hv) ?_)
  refine sat_br (fun h3 => ?_) (fun h3 => ?_)
  ·have h3 : rXL f r (tk zs) ca 8 = true := h3
   rw [tk_eq] at h3
   exact sat_ret (sat_ret (fin_val (.inr rfl) rfl rfl rfl (by simp [castL, h, h0, h1, h2, h3])))
  have h3 : rXL f r (tk zs) ca 8 = false := h3
  rw [tk_eq] at h3
  refine sat_ret ⟨[(1, .ptr 1 0 0), (8, .sl 2 0 4 none), (9, I 4), (10, I 4)], [.ints false .i8 zs, .cells true [I f, I r, .sl 0 0 zs.length none, Bb bl, .int .u8 ca, I pa, I ha, I fu], .ints true .u8 [1, 2, 4, 8]], Ent.ren [0, 1, 2] [1, 8, 9, 10] rfl rfl rfl, ?_⟩
  refine rnd ?_
  refine sat_bf (by rfl) ?_
  exact sat_ret (sat_ret (fin_val (.inr rfl) rfl rfl rfl (by simp [castL, h, h0, h1, h2, h3])))
 ·cases e
def c_rPassant : CF
 | [.agg [.int .i64 f, .int .i64 r, .sl 0 0 len none, .bool bl, .int .u8 _ca, .int .i64 pa, .int .i64 ha, .int .i64 _fu]], [.ints false .i8 zs] => some (decide (len = zs.length) && decide (zs.length ≤ 64) && validBd f r zs, .bool (pasL f r zs bl pa ha), [])
 | _, _ => none
theorem c_rPassant_ok : CtOk (GGx kCa kDb) PP (51, c_rPassant) := by
 refine ct_mk Tryz.func51 (by kernel_rfl) rfl fun a0 h0 c0 v0 N0 e hc => ?_
 unfold c_rPassant at e
 split at e
 ·rename_i f r len bl ca pa ha fu zs
  cases e
  have hE := EE_ok (kCa := kCa) (kDb := kDb) (cts := [(18, c_Valid), (48, c_Place), (96, c_rRank), (97, c_Number), (98, c_rpiece)]) (inl := []) ⟨c_Valid_ok, c_Place_ok, c_rRank_ok, c_Number_ok, c_rpiece_ok, trivial⟩ trivial
  refine fn_sound hE 2 Tryz.func51 rfl rfl ?_
  simp only [Bool.and_eq_true, decide_eq_true_eq] at hc
  obtain ⟨⟨rfl, hc2⟩, hv⟩ := hc
  refine sat_br (fun h => ?_) (fun h => ?_)
  ·have h : decide (pa = -1) = true := h
   exact sat_ret (fin_val (.inr rfl) rfl rfl rfl (by rw [pasL, h]; rfl))
  have h : decide (pa = -1) = false := h
  repeat (first | refine sat_self ?_ | refine sat_nd ?_)
  refine sat_br (fun h1 => ?_) (fun h1 => ?_)
  ·have h1 : (decide (r < 6) || !decide (ha = 0) || !validB f r pa) = true := h1
   exact sat_ret (fin_val (.inr rfl) rfl rfl rfl (by rw [pasL, h, h1]; rfl))
  have h1 : (decide (r < 6) || !decide (ha = 0) || !validB f r pa) = false := h1
  have h1' := h1
  simp only [Bool.or_eq_false_iff, decide_eq_false_iff_not, Bool.not_eq_false'] at h1'
  obtain ⟨⟨hr, _⟩, hpv⟩ := h1'
  have hf0 : (!decide (f = 0)) = true := by have := vs_bd (bd_valid hv).1; simp; omega
  obtain ⟨hp1, hp2⟩ := (bd_sq hv).1 hpv
  obtain ⟨_, hx1, hx2, _⟩ := px_bd hpv
  have n2 := rank_num (bl := !bl) (n := 2) hv ⟨hx1, hx2⟩ (by omega) (.inl rfl)
  have n4 := rank_num (bl := !bl) (n := 4) hv ⟨hx1, hx2⟩ (by omega) (.inr rfl)
  repeat (first | (first | refine sat_self ?_ | refine sat_nd ?_) | refine sat_need hf0 ?_)
  refine sat_br (fun h2 => ?_) (fun h2 => ?_)
  ·have h2 : (!decide (IntKind.i64.wrap (2 * IntKind.i64.wrap (pa.tdiv f)) = IntKind.i64.wrap (rankR r (!bl) 2 + rankR r (!bl) 4))) = true := h2
   exact sat_ret (fin_val (.inr rfl) rfl rfl rfl (by rw [pasL, h, h1, h2]; rfl))
  have h2 : (!decide (IntKind.i64.wrap (2 * IntKind.i64.wrap (pa.tdiv f)) = IntKind.i64.wrap (rankR r (!bl) 2 + rankR r (!bl) 4))) = false := h2
  repeat (first | (first | refine sat_self ?_ | refine sat_nd ?_) | refine sat_need (by simp only [Bool.and_eq_true, decide_eq_true_eq]; exact ⟨hp1, hp2⟩) ?_ | refine sat_need (need_gx n2) ?_ | refine sat_need (need_gx n4) ?_)
  exact sat_ret (fin_val (.inr rfl) rfl rfl rfl (by rw [pasL, h, h1, h2]; rfl))
 ·cases e
theorem need_chk {f r : Int} {zs : List Int} {_bl : Bool} {x y : Bool} (hc2 : zs.length ≤ 64) : (!(!(!orthBd f r (tk zs) || x || y)) || (decide (zs.length = (tk zs).length) && decide ((tk zs).length ≤ 64) && vsB f r)) = true := by
 cases h : orthBd f r (tk zs) with
 | false => simp
 | true => rw [tk_len, (orth_valid h).1]; simp [hc2]
theorem v88 {f r : Int} {zs : List Int} (h : validBd f r zs = true) : (!decide (f = 8) || !decide (r = 8) || decide (zs.length = 64)) = true := by
 cases h8 : is88 f r with
 | false => simp only [is88, Bool.and_eq_false_iff] at h8; rcases h8 with h8 | h8 <;> rw [h8] <;> simp
 | true => rw [bd_88 h h8]; simp
def c_rvalid : CF
 | [.agg [.int .i64 f, .int .i64 r, .sl 0 0 len none, .bool bl, .int .u8 ca, .int .i64 pa, .int .i64 ha, .int .i64 fu]], [.ints false .i8 zs] => some (decide (len = zs.length) && decide (zs.length ≤ 64), .bool (validL ⟨f, r, zs, bl, ca, pa, ha, fu⟩), [])
 | _, _ => none
theorem c_rvalid_ok : CtOk (GGx kCa kDb) PP (14, c_rvalid) := by
 refine ct_mk Tryz.func14 (by kernel_rfl) rfl fun a0 h0 c0 v0 N0 e hc => ?_
 unfold c_rvalid at e
 split at e
 ·rename_i f r len bl ca pa ha fu zs
  cases e
  have hE := EE_ok (kCa := kCa) (kDb := kDb) (cts := [(44, c_rorth), (45, c_refKing), (46, c_rCheck), (47, c_rpkind), (48, c_Place), (49, c_rLast), (50, c_rCastle), (51, c_rPassant)]) (inl := [(27, Tryz.f27)]) ⟨c_rorth_ok, c_refKing_ok, c_rCheck_ok, c_rpkind_ok, c_Place_ok, c_rLast_ok, c_rCastle_ok, c_rPassant_ok, trivial⟩ ⟨⟨Tryz.func27, by kernel_rfl⟩, trivial⟩
  refine fn_sound hE 2 Tryz.func14 rfl rfl ?_
  simp only [Bool.and_eq_true, decide_eq_true_eq] at hc
  obtain ⟨rfl, hc2⟩ := hc
  repeat (first | (first | refine sat_self ?_ | refine sat_nd ?_) | refine sat_need (need_bd hc2 rfl) ?_ | refine sat_need (need_bdg hc2 rfl) ?_ | refine sat_need (need_chk (_bl := bl) hc2) ?_)
  refine sat_br (fun h => ?_) (fun h => ?_)
  ·have h : (!orthBd f r (tk zs) || decide (refKing (tk zs) false < 0) || decide (refKing (tk zs) true < 0) || chkL f r (tk zs) (!bl)) = true := h
   rw [tk_eq] at h
   exact sat_ret (fin_val (.inr rfl) rfl rfl rfl (by simp only [validL, h, cond_true]))
  have h : (!orthBd f r (tk zs) || decide (refKing (tk zs) false < 0) || decide (refKing (tk zs) true < 0) || chkL f r (tk zs) (!bl)) = false := h
  rw [tk_eq] at h
  have h' := h
  simp only [Bool.or_eq_false_iff, Bool.not_eq_false'] at h'
  obtain ⟨hvs, _, hbd, _⟩ := orth_valid h'.1.1.1
  have hf0 : (!decide (f = 0)) = true := by have := vs_bd hvs; simp; omega
  have hf1 : ∀ g : Bool, (!g || !decide (f = 0)) = true := fun g => by rw [hf0]; simp
  have h88 := v88 hbd
  have h88t : (!decide (f = 8) || !decide (r = 8) || decide ((tk zs).length = 64)) = true := by rw [tk_eq]; exact h88
  have hbdt : validBd f r (tk zs) = true := by rw [tk_eq]; exact hbd
  refine sat_idx hE 2 (fun i (_ : Unit) => ([(1, .ptr 1 0 0), (4, I i)], [.ints false .i8 zs, .cells true [I f, I r, .sl 0 0 zs.length none, Bb bl, .int .u8 ca, I pa, I ha, I fu]])) zs.length (fun j _ => ∀ k, k < j → pwL f r zs (k : Nat) = false) () (by omega) (Ent.ren [0, 1] [1, 4] rfl rfl rfl) (fun k hk => absurd hk (by omega)) ?_
  intro j i _ hij hj hz
  refine sat_br (fun hlt => ?_) (fun hlt => ?_)
  ·have hlt' : j < zs.length := by simp at hlt; omega
   repeat (first | (first | refine sat_self ?_ | refine sat_nd ?_) | refine sat_need (by simp only [Bool.and_eq_true, decide_eq_true_eq]; omega) ?_ | refine sat_need (hf1 _) ?_ | refine sat_need (need_gx ⟨by omega, by omega⟩) ?_)
   refine sat_br (fun hon => ?_) (fun hon => ?_)
   ·have hon : pwL f r zs i = true := hon
    have hpw : pwAny f r zs = true := List.any_eq_true.2 ⟨j, List.mem_range.2 hlt', by rw [← hij]; exact hon⟩
    exact sat_ret (sat_ret (fin_val (.inr rfl) rfl rfl rfl (by simp only [validL, h, hpw, cond_true, cond_false])))
   ·have hon : pwL f r zs i = false := hon
    refine sat_ret ⟨hlt', (), fun k hk => ?_, Ent.ren [0, 1] [1, 4] rfl rfl rfl⟩
    rcases Nat.lt_or_ge k j with hk2 | hk2
    ·exact hz k hk2
    ·obtain rfl : k = j := by omega
     rw [← hij]; exact hon
  ·obtain rfl : j = zs.length := by simp at hlt; omega
   have hpw : pwAny f r zs = false := List.any_eq_false.2 fun k hk => by rw [hz k (List.mem_range.1 hk)]; simp
   refine sat_ret ?_
   repeat (first | (first | refine sat_self ?_ | refine sat_nd ?_) | refine sat_need (need_bd hc2 rfl) ?_ | refine sat_need (need_bdv hc2 rfl h88t) ?_ | refine sat_need (need_bdw hc2 hbdt) ?_ | refine sat_need (need_bdw hc2 h88t) ?_)
   exact sat_ret (fin_val (.inr rfl) rfl rfl rfl (by
    show V.bool (castL f r (tk zs) ca && pasL f r (tk zs) bl pa ha && decide (0 ≤ ha) && decide (ha ≤ 10000) && decide (1 ≤ fu) && decide (fu ≤ 10000)) = _
    rw [tk_eq]; simp only [validL, h, hpw, cond_false]))
 ·cases e
end Go.Ab

set_option maxRecDepth 100000
set_option maxHeartbeats 4000000
namespace Go.Ab
open Go.Proofs
variable {kDb : Bool}
abbrev u8or (a b : Int) : Int := band .or .u8 a b
def csSkip (bl : Bool) (ca a b : Int) (c : Bool) (bit k to : Int) : Bool := !(c == bl) || decide (u8and ca bit = 0) || !decide (k = a) || !decide (to = b)
def wayN (zs : List Int) (bl : Bool) (ca a b : Int) : Nat := bif !decide (absP (zs.getD a.toNat 0) = 6) then 4 else bif !csSkip bl ca a b false 1 4 6 then 0 else bif !csSkip bl ca a b false 2 4 2 then 1 else bif !csSkip bl ca a b true 4 60 62 then 2 else bif !csSkip bl ca a b true 8 60 58 then 3 else 4
def wBit (n : Nat) : Int := ([1, 2, 4, 8, 0] : List Int).getD n 0
def wBl (n : Nat) : Bool := [false, false, true, true, false].getD n false
def wFrom (n : Nat) : Int := ([4, 4, 60, 60, 0] : List Int).getD n 0
def wTo (n : Nat) : Int := ([6, 2, 62, 58, 0] : List Int).getD n 0
def wCor (n : Nat) : Int := ([7, 0, 63, 56, 0] : List Int).getD n 0
def wCro (n : Nat) : Int := ([5, 3, 61, 59, 0] : List Int).getD n 0
def wayB (f r : Int) (zs : List Int) (n : Nat) : Bool := !decide (n = 4) && decide (uand (betwR f r (wFrom n) (wCor n)).1 (occR f r zs) = 0)
def lastP (r : Int) (bl : Bool) : Int := bif bl then 0 else IntKind.i64.wrap (r - 1)
def goesB (f r : Int) (zs : List Int) (bl : Bool) (pa a b pr : Int) : Bool :=
 bif !decide (absP (zs.getD a.toNat 0) = 1) then decide (pr = 0) && decide (uand (ushr (reachR f r (absP (zs.getD a.toNat 0)) a (occR f r zs)).1 b) 1 = 1)
 else decide (uand (ushr (uor (stepsR f r bl a (occR f r zs)).1 (bif decide (zs.getD b.toNat 0 = 0) && !decide (b = pa) then 0 else (pawnR f r bl a).1)) b) 1 = 1) && ((!decide (pr = 0)) == decide (IntKind.i64.wrap (b.tdiv f) = lastP r bl))
def chkB (f r : Int) (zs : List Int) (b : Bool) : Bool := !decide ((checkersR f r zs b).1 = 0)
def lostS (at_ s k q bit : Int) : Int := bif decide (k = at_) || decide (q = at_) then u8or s bit else s
def lostR (at_ : Int) : Int := lostS at_ (lostS at_ (lostS at_ (lostS at_ 0 4 7 1) 4 0 2) 60 63 4) 60 56 8
theorem lostS_t {at_ s k q bit : Int} (h : (decide (k = at_) || decide (q = at_)) = true) : lostS at_ s k q bit = u8or s bit := by rw [lostS, h]; rfl
theorem lostS_f {at_ s k q bit : Int} (h : (decide (k = at_) || decide (q = at_)) = false) : lostS at_ s k q bit = s := by rw [lostS, h]; rfl
theorem need_0 {g : Bool} {b : Int} (h : 0 ≤ b) : (!g || decide (0 ≤ b)) = true := by simp [h]
theorem need_ix {zs : List Int} {b : Int} (h : 0 ≤ b) (h1 : b < zs.length) : (decide (0 ≤ b) && decide (b < zs.length)) = true := by simp [h, h1]
def c_mocc : CF
 | [.agg [.int .i64 f, .int .i64 r, .sl 0 0 len none, .bool _bl, .int .u8 _ca, .int .i64 _pa, .int .i64 _ha, .int .i64 _fu]], [.ints false .i8 zs] => some (decide (len = zs.length) && decide (zs.length ≤ 64), .int .u64 (occR f r zs), [])
 | _, _ => none
theorem c_mocc_ok : CtOk (GGx true kDb) PP (156, c_mocc) := by
 refine ct_mk Tryz.func156 (by kernel_rfl) rfl fun a0 h0 c0 v0 N0 e hc => ?_
 unfold c_mocc at e
 split at e
 ·rename_i f r len bl ca pa ha fu zs
  cases e
  have hE := EE_ok (kCa := true) (kDb := kDb) (cts := [(135, c_sides)]) (inl := []) ⟨c_sides_ok, trivial⟩ trivial
  refine fn_sound hE 2 Tryz.func156 rfl rfl ?_
  simp only [Bool.and_eq_true, decide_eq_true_eq] at hc
  obtain ⟨rfl, hc2⟩ := hc
  repeat (first | (first | refine sat_self ?_ | refine sat_nd ?_) | refine sat_need (need_bd hc2 rfl) ?_)
  refine sat_ret (fin_val (.inr rfl) rfl rfl rfl (by
   show V.int .u64 (occR f r (tk zs)) = _
   rw [tk_eq]))
 ·cases e
def c_mchk : CF
 | [.agg [.int .i64 f, .int .i64 r, .sl 0 0 len none, .bool _bl, .int .u8 _ca, .int .i64 _pa, .int .i64 _ha, .int .i64 _fu], .bool b], [.ints false .i8 zs] => some (decide (len = zs.length) && decide (zs.length ≤ 64), .bool (chkB f r zs b), [])
 | _, _ => none
theorem c_mchk_ok : CtOk (GGx true kDb) PP (114, c_mchk) := by
 refine ct_mk Tryz.func114 (by kernel_rfl) rfl fun a0 h0 c0 v0 N0 e hc => ?_
 unfold c_mchk at e
 split at e
 ·rename_i f r len bl ca pa ha fu b zs
  cases e
  have hE := EE_ok (kCa := true) (kDb := kDb) (cts := [(29, c_Checkers)]) (inl := []) ⟨c_Checkers_ok, trivial⟩ trivial
  refine fn_sound hE 2 Tryz.func114 rfl rfl ?_
  simp only [Bool.and_eq_true, decide_eq_true_eq] at hc
  obtain ⟨rfl, hc2⟩ := hc
  repeat (first | (first | refine sat_self ?_ | refine sat_nd ?_) | refine sat_need (need_bd hc2 rfl) ?_)
  refine sat_ret (fin_val (.inr rfl) rfl rfl rfl (by
   show V.bool (chkB f r (tk zs) b) = _
   rw [tk_eq]))
 ·cases e
def c_mcastling : CF
 | [.agg [.int .i64 f, .int .i64 r, .sl 0 0 len none, .bool bl, .int .u8 ca, .int .i64 _pa, .int .i64 _ha, .int .i64 _fu], .agg [.int .i64 a, .int .i64 b, .int .i8 _pr]], [.ints false .i8 zs] => some (decide (len = zs.length) && decide (zs.length ≤ 64) && (validBd f r zs && validB f r a && validB f r b), .tup [.agg [.int .u8 (wBit (wayN zs bl ca a b)), Bb (wBl (wayN zs bl ca a b)), I (wFrom (wayN zs bl ca a b)), I (wTo (wayN zs bl ca a b)), I (wCor (wayN zs bl ca a b)), I (wCro (wayN zs bl ca a b))], Bb (wayB f r zs (wayN zs bl ca a b))], [])
 | _, _ => none
theorem c_mcastling_ok : CtOk (GGx true kDb) PP (109, c_mcastling) := by
 refine ct_mk Tryz.func109 (by kernel_rfl) rfl fun a0 h0 c0 v0 N0 e hc => ?_
 unfold c_mcastling at e
 split at e
 ·rename_i f r len bl ca pa ha fu a b pr zs
  cases e
  have hE := EE_ok (kCa := true) (kDb := kDb) (cts := [(111, c_kind), (124, c_betw), (156, c_mocc)]) (inl := []) ⟨c_kind_ok, c_betw_ok, c_mocc_ok, trivial⟩ trivial
  refine fn_soundL hE 2 Tryz.func109 rfl rfl ?_
  simp only [Bool.and_eq_true, decide_eq_true_eq] at hc
  obtain ⟨⟨rfl, hc2⟩, ⟨hbd, hva⟩, hvb⟩ := hc
  obtain ⟨ha0, ha1⟩ := (bd_sq hbd).1 hva
  obtain ⟨hb0, hb1⟩ := (bd_sq hbd).1 hvb
  repeat (first | (first | refine sat_self ?_ | refine sat_nd ?_) | refine sat_need (need_ix ha0 ha1) ?_)
  refine sat_br (fun hk => ?_) (fun hk => ?_)
  ·have hk : (!decide (absP (zs.getD a.toNat 0) = 6)) = true := hk
   have hn : wayN zs bl ca a b = 4 := by rw [wayN, hk, cond_true]
   refine sat_ret (fin_l (fin_val (.inr rfl) rfl rfl rfl rfl) ?_)
   rw [hn]
   exact fun _ _ h => h
  have hk : (!decide (absP (zs.getD a.toNat 0) = 6)) = false := hk
  refine sat_rounds hE 2 5 ?_
  refine rnd ?_
  refine sat_bt (by rfl) ?_
  repeat (first | refine sat_self ?_ | refine sat_nd ?_)
  refine sat_br (fun h0 => ?_) (fun h0 => ?_)
  rotate_left
  ·have h0 : csSkip bl ca a b false 1 4 6 = false := h0
   have hn : wayN zs bl ca a b = 0 := by simp only [wayN, hk, h0, Bool.not_false, cond_true, cond_false]
   repeat (first | (first | refine sat_self ?_ | refine sat_nd ?_) | refine sat_need (need_bd hc2 rfl) ?_)
   refine sat_ret (sat_ret (fin_l (fin_val (.inr rfl) rfl rfl rfl rfl) ?_))
   rw [hn]
   show Like (V.tup [.agg [.int .u8 1, .lit false, I 4, I 6, I 7, I 5], Bb (decide (uand (betwR f r 4 7).1 (occR f r (tk zs)) = 0))]) _
   rw [tk_eq]
   exact fun _ _ h => h
  have h0 : csSkip bl ca a b false 1 4 6 = true := h0
  refine sat_ret ⟨[(2, .ptr 1 0 0), (3, .ptr 2 0 0), (4, .ptr 3 0 0), (19, .agg [.int .u8 1, .lit false, .int .i64 4, .int .i64 6, .int .i64 7, .int .i64 5, .int .u8 2, .lit false, .int .i64 4, .int .i64 2, .int .i64 0, .int .i64 3, .int .u8 4, .lit true, .int .i64 60, .int .i64 62, .int .i64 63, .int .i64 61, .int .u8 8, .lit true, .int .i64 60, .int .i64 58, .int .i64 56, .int .i64 59]), (20, I 1)], [.ints false .i8 zs, .cells true [I f, I r, .sl 0 0 zs.length none, Bb bl, .int .u8 ca, I pa, I ha, I fu], .cells true [I a, I b, .int .i8 pr], .cells true [.int .u8 0, .lit false, I 0, I 0, I 0, I 0]], Ent.ren [0, 1, 2, 3] [2, 3, 4, 19, 20] rfl rfl rfl, ?_⟩
  refine rnd ?_
  refine sat_bt (by rfl) ?_
  repeat (first | refine sat_self ?_ | refine sat_nd ?_)
  refine sat_br (fun h1 => ?_) (fun h1 => ?_)
  rotate_left
  ·have h1 : csSkip bl ca a b false 2 4 2 = false := h1
   have hn : wayN zs bl ca a b = 1 := by simp only [wayN, hk, h0, h1, Bool.not_true, Bool.not_false, cond_true, cond_false]
   repeat (first | (first | refine sat_self ?_ | refine sat_nd ?_) | refine sat_need (need_bd hc2 rfl) ?_)
   refine sat_ret (sat_ret (fin_l (fin_val (.inr rfl) rfl rfl rfl rfl) ?_))
   rw [hn]
   show Like (V.tup [.agg [.int .u8 2, .lit false, I 4, I 2, I 0, I 3], Bb (decide (uand (betwR f r 4 0).1 (occR f r (tk zs)) = 0))]) _
   rw [tk_eq]
   exact fun _ _ h => h
  have h1 : csSkip bl ca a b false 2 4 2 = true := h1
  refine sat_ret ⟨[(2, .ptr 1 0 0), (3, .ptr 2 0 0), (4, .ptr 3 0 0), (19, .agg [.int .u8 1, .lit false, .int .i64 4, .int .i64 6, .int .i64 7, .int .i64 5, .int .u8 2, .lit false, .int .i64 4, .int .i64 2, .int .i64 0, .int .i64 3, .int .u8 4, .lit true, .int .i64 60, .int .i64 62, .int .i64 63, .int .i64 61, .int .u8 8, .lit true, .int .i64 60, .int .i64 58, .int .i64 56, .int .i64 59]), (20, I 2)], [.ints false .i8 zs, .cells true [I f, I r, .sl 0 0 zs.length none, Bb bl, .int .u8 ca, I pa, I ha, I fu], .cells true [I a, I b, .int .i8 pr], .cells true [.int .u8 0, .lit false, I 0, I 0, I 0, I 0]], Ent.ren [0, 1, 2, 3] [2, 3, 4, 19, 20] rfl rfl rfl, ?_⟩
  refine rnd ?_
  refine sat_bt (by rfl) ?_
  repeat (first | refine sat_self ?_ | refine sat_nd ?_)
  refine sat_br (fun h2 => ?_) (fun h2 => ?_)
  rotate_left
  ·have h2 : csSkip bl ca a b true 4 60 62 = false := h2
   have hn : wayN zs bl ca a b = 2 := by simp only [wayN, hk, h0, h1, h2, Bool.not_true, Bool.not_false, cond_true, cond_false]
   repeat (first | (first | refine sat_self ?_ | refine sat_nd ?_) | refine sat_need (need_bd hc2 rfl) ?_)
   refine sat_ret (sat_ret (fin_l (fin_val (.inr rfl) rfl rfl rfl rfl) ?_))
   rw [hn]
   show Like (V.tup [.agg [.int .u8 4, .lit true, I 60, I 62, I 63, I 61], Bb (decide (uand (betwR f r 60 63).1 (occR f r (tk zs)) = 0))]) _
   rw [tk_eq]
   exact fun _ _ h => h
  have h2 : csSkip bl ca a b true 4 60 62 = true := h2
  refine sat_ret ⟨[(2, .ptr 1 0 0), (3, .ptr 2 0 0), (4, .ptr 3 0 0), (19, .agg [.int .u8 1, .lit false, .int .i64 4, .int .i64 6, .int .i64 7, .int .i64 5, .int .u8 2, .lit false, .int .i64 4, .int .i64 2, .int .i64 0, .int .i64 3, .int .u8 4, .lit true, .int .i64 60, .int .i64 62, .int .i64 63, .int .i64 61, .int .u8 8, .lit true, .int .i64 60, .int .i64 58, .int .i64 56, .int .i64 59]), (20, I 3)], [.ints false .i8 zs, .cells true [I f, I r, .sl 0 0 zs.length none, Bb bl, .int .u8 ca, I pa, I ha, I fu], .cells true [I a, I b, .int .i8 pr], .cells true [.int .u8 0, .lit false, I 0, I 0, I 0, I 0]], Ent.ren [0, 1, 2, 3] [2, 3, 4, 19, 20] rfl rfl rfl, ?_⟩
  refine rnd ?_
  refine sat_bt (by rfl) ?_
  repeat (first | refine sat_self ?_ | refine sat_nd ?_)
  refine sat_br (fun h3 => ?_) (fun h3 => ?_)
  rotate_left
  ·have h3 : csSkip bl ca a b true 8 60 58 = false := h3
   have hn : wayN zs bl ca a b = 3 := by simp only [wayN, hk, h0, h1, h2, h3, Bool.not_true, Bool.not_false, cond_true, cond_false]
   repeat (first | (first | refine sat_self ?_ | refine sat_nd ?_) | refine sat_need (need_bd hc2 rfl) ?_)
   refine sat_ret (sat_ret (fin_l (fin_val (.inr rfl) rfl rfl rfl rfl) ?_))
   rw [hn]
   show Like (V.tup [.agg [.int .u8 8, .lit true, I 60, I 58, I 56, I 59], Bb (decide (uand (betwR f r 60 56).1 (occR f r (tk zs)) = 0))]) _
   rw [tk_eq]
   exact fun _ _ h => h
  have h3 : csSkip bl ca a b true 8 60 58 = true := h3
  refine sat_ret ⟨[(2, .ptr 1 0 0), (3, .ptr 2 0 0), (4, .ptr 3 0 0), (19, .agg [.int .u8 1, .lit false, .int .i64 4, .int .i64 6, .int .i64 7, .int .i64 5, .int .u8 2, .lit false, .int .i64 4, .int .i64 2, .int .i64 0, .int .i64 3, .int .u8 4, .lit true, .int .i64 60, .int .i64 62, .int .i64 63, .int .i64 61, .int .u8 8, .lit true, .int .i64 60, .int .i64 58, .int .i64 56, .int .i64 59]), (20, I 4)], [.ints false .i8 zs, .cells true [I f, I r, .sl 0 0 zs.length none, Bb bl, .int .u8 ca, I pa, I ha, I fu], .cells true [I a, I b, .int .i8 pr], .cells true [.int .u8 0, .lit false, I 0, I 0, I 0, I 0]], Ent.ren [0, 1, 2, 3] [2, 3, 4, 19, 20] rfl rfl rfl, ?_⟩
  refine rnd ?_
  refine sat_bf (by rfl) ?_
  have hn : wayN zs bl ca a b = 4 := by simp only [wayN, hk, h0, h1, h2, h3, Bool.not_true, cond_false]
  refine sat_ret (sat_ret (fin_l (fin_val (.inr rfl) rfl rfl rfl rfl) ?_))
  rw [hn]
  exact fun _ _ h => h
 ·cases e
def c_mgoes : CF
 | [.agg [.int .i64 f, .int .i64 r, .sl 0 0 len none, .bool bl, .int .u8 _ca, .int .i64 pa, .int .i64 _ha, .int .i64 _fu], .agg [.int .i64 a, .int .i64 b, .int .i8 pr]], [.ints false .i8 zs] => some (decide (len = zs.length) && decide (zs.length ≤ 64) && (validBd f r zs && validB f r a && validB f r b), .bool (goesB f r zs bl pa a b pr), [])
 | _, _ => none
theorem c_mgoes_ok : CtOk (GGx true kDb) PP (110, c_mgoes) := by
 refine ct_mk Tryz.func110 (by kernel_rfl) rfl fun a0 h0 c0 v0 N0 e hc => ?_
 unfold c_mgoes at e
 split at e
 ·rename_i f r len bl ca pa ha fu a b pr zs
  cases e
  have hE := EE_ok (kCa := true) (kDb := kDb) (cts := [(111, c_kind), (156, c_mocc), (125, c_reach), (157, c_steps), (158, c_pawn)]) (inl := []) ⟨c_kind_ok, c_mocc_ok, c_reach_ok, c_steps_ok, c_pawn_ok, trivial⟩ trivial
  refine fn_sound hE 2 Tryz.func110 rfl rfl ?_
  simp only [Bool.and_eq_true, decide_eq_true_eq] at hc
  obtain ⟨⟨rfl, hc2⟩, ⟨hbd, hva⟩, hvb⟩ := hc
  obtain ⟨ha0, ha1⟩ := (bd_sq hbd).1 hva
  obtain ⟨hb0, hb1⟩ := (bd_sq hbd).1 hvb
  have hf0 : f ≠ 0 := by have := vs_bd (bd_valid hbd).1; omega
  repeat (first | (first | refine sat_self ?_ | refine sat_nd ?_) | refine sat_need (need_ix ha0 ha1) ?_)
  refine sat_br (fun hk => ?_) (fun hk => ?_)
  ·have hk : (!decide (absP (zs.getD a.toNat 0) = 1)) = true := hk
   repeat (first | (first | refine sat_self ?_ | refine sat_nd ?_) | refine sat_need (need_bd hc2 rfl) ?_ | refine sat_need (need_0 hb0) ?_)
   exact sat_ret (fin_val (.inr rfl) rfl rfl rfl (congrArg V.bool (by
    show (decide (pr = 0) && decide (uand (ushr (reachR f r (absP (zs.getD a.toNat 0)) a (occR f r (tk zs))).1 b) 1 = 1)) = _
    rw [tk_eq, goesB, hk]; rfl)))
  have hk : (!decide (absP (zs.getD a.toNat 0) = 1)) = false := hk
  repeat (first | refine sat_self ?_ | refine sat_nd ?_)
  refine sat_br (fun hb => ?_) (fun hb => ?_)
  ·subst hb
   repeat (first | (first | refine sat_self ?_ | refine sat_nd ?_) | refine sat_need (need_bd hc2 rfl) ?_ | refine sat_need (need_ix ha0 ha1) ?_ | refine sat_need (need_ix hb0 hb1) ?_ | refine sat_need (need_0 hb0) ?_ | refine sat_need (need_f0 hf0) ?_)
   refine sat_br (fun hz => ?_) (fun hz => ?_)
   ·have hz : (decide (zs.getD b.toNat 0 = 0) && !decide (b = pa)) = true := hz
    repeat (first | (first | refine sat_self ?_ | refine sat_nd ?_) | refine sat_need (need_bd hc2 rfl) ?_ | refine sat_need (need_ix ha0 ha1) ?_ | refine sat_need (need_ix hb0 hb1) ?_ | refine sat_need (need_0 hb0) ?_ | refine sat_need (need_f0 hf0) ?_)
    exact sat_ret (fin_val (.inr rfl) rfl rfl rfl (congrArg V.bool (by
     show (decide (uand (ushr (uor (stepsR f r true a (occR f r (tk zs))).1 (0)) b) 1 = 1) && ((!decide (pr = 0)) == decide (IntKind.i64.wrap (b.tdiv f) = 0))) = _
     rw [tk_eq, goesB, hk, cond_false, hz]; rfl)))
   ·have hz : (decide (zs.getD b.toNat 0 = 0) && !decide (b = pa)) = false := hz
    repeat (first | (first | refine sat_self ?_ | refine sat_nd ?_) | refine sat_need (need_bd hc2 rfl) ?_ | refine sat_need (need_ix ha0 ha1) ?_ | refine sat_need (need_ix hb0 hb1) ?_ | refine sat_need (need_0 hb0) ?_ | refine sat_need (need_f0 hf0) ?_)
    exact sat_ret (fin_val (.inr rfl) rfl rfl rfl (congrArg V.bool (by
     show (decide (uand (ushr (uor (stepsR f r true a (occR f r (tk zs))).1 ((pawnR f r true a).1)) b) 1 = 1) && ((!decide (pr = 0)) == decide (IntKind.i64.wrap (b.tdiv f) = 0))) = _
     rw [tk_eq, goesB, hk, cond_false, hz]; rfl)))
  ·subst hb
   repeat (first | (first | refine sat_self ?_ | refine sat_nd ?_) | refine sat_need (need_bd hc2 rfl) ?_ | refine sat_need (need_ix ha0 ha1) ?_ | refine sat_need (need_ix hb0 hb1) ?_ | refine sat_need (need_0 hb0) ?_ | refine sat_need (need_f0 hf0) ?_)
   refine sat_br (fun hz => ?_) (fun hz => ?_)
   ·have hz : (decide (zs.getD b.toNat 0 = 0) && !decide (b = pa)) = true := hz
    repeat (first | (first | refine sat_self ?_ | refine sat_nd ?_) | refine sat_need (need_bd hc2 rfl) ?_ | refine sat_need (need_ix ha0 ha1) ?_ | refine sat_need (need_ix hb0 hb1) ?_ | refine sat_need (need_0 hb0) ?_ | refine sat_need (need_f0 hf0) ?_)
    exact sat_ret (fin_val (.inr rfl) rfl rfl rfl (congrArg V.bool (by
     show (decide (uand (ushr (uor (stepsR f r false a (occR f r (tk zs))).1 (0)) b) 1 = 1) && ((!decide (pr = 0)) == decide (IntKind.i64.wrap (b.tdiv f) = IntKind.i64.wrap (r - 1)))) = _
     rw [tk_eq, goesB, hk, cond_false, hz]; rfl)))
   ·have hz : (decide (zs.getD b.toNat 0 = 0) && !decide (b = pa)) = false := hz
    repeat (first | (first | refine sat_self ?_ | refine sat_nd ?_) | refine sat_need (need_bd hc2 rfl) ?_ | refine sat_need (need_ix ha0 ha1) ?_ | refine sat_need (need_ix hb0 hb1) ?_ | refine sat_need (need_0 hb0) ?_ | refine sat_need (need_f0 hf0) ?_)
    exact sat_ret (fin_val (.inr rfl) rfl rfl rfl (congrArg V.bool (by
     show (decide (uand (ushr (uor (stepsR f r false a (occR f r (tk zs))).1 ((pawnR f r false a).1)) b) 1 = 1) && ((!decide (pr = 0)) == decide (IntKind.i64.wrap (b.tdiv f) = IntKind.i64.wrap (r - 1)))) = _
     rw [tk_eq, goesB, hk, cond_false, hz]; rfl)))
 ·cases e
def c_mlost : CF
 | [.int .i64 at_], [] => some (true, .int .u8 (lostR at_), [])
 | _, _ => none
theorem c_mlost_ok : CtOk (GGx true kDb) PP (112, c_mlost) := by
 refine ct_mk Tryz.func112 (by kernel_rfl) rfl fun a0 h0 c0 v0 N0 e hc => ?_
 unfold c_mlost at e
 split at e
 ·rename_i at_
  cases e
  have hE := cutE (EE_ok (kCa := true) (kDb := kDb) (cts := []) (inl := []) trivial trivial)
  refine fn_sound hE 2 Tryz.func112 rfl rfl ?_
  repeat (first | refine sat_self ?_ | refine sat_nd ?_)
  refine sat_rounds hE 2 5 ?_
  refine rnd ?_
  refine sat_split hE 2 rfl (fun _ => ?_) (fun h => absurd h (by decide))
  repeat (first | refine sat_self ?_ | refine sat_nd ?_)
  refine sat_join hE 2 (fun e tm hp => e = .normal ∧ tm = [(0, I at_), (3, .int .u8 (lostS at_ 0 4 7 1)), (6, .agg [.int .u8 1, .lit false, .int .i64 4, .int .i64 6, .int .i64 7, .int .i64 5, .int .u8 2, .lit false, .int .i64 4, .int .i64 2, .int .i64 0, .int .i64 3, .int .u8 4, .lit true, .int .i64 60, .int .i64 62, .int .i64 63, .int .i64 61, .int .u8 8, .lit true, .int .i64 60, .int .i64 58, .int .i64 56, .int .i64 59]), (7, I 0)] ∧ hp = []) rfl (fun h => ?_) (fun h => ?_) ?_
  ·have h : (decide (4 = at_) || decide (7 = at_)) = true := h
   exact sat_ret ⟨_, _, Ent.ren [] [0, 3, 6, 7] rfl rfl rfl, rfl, by rw [lostS_t h], rfl⟩
  ·have h : (decide (4 = at_) || decide (7 = at_)) = false := h
   exact sat_ret ⟨_, _, Ent.ren [] [0, 3, 6, 7] rfl rfl rfl, rfl, by rw [lostS_f h], rfl⟩
  rintro e tm hp ⟨rfl, rfl, rfl⟩
  refine sat_ret ⟨[(0, I at_), (3, .int .u8 (lostS at_ 0 4 7 1)), (6, .agg [.int .u8 1, .lit false, .int .i64 4, .int .i64 6, .int .i64 7, .int .i64 5, .int .u8 2, .lit false, .int .i64 4, .int .i64 2, .int .i64 0, .int .i64 3, .int .u8 4, .lit true, .int .i64 60, .int .i64 62, .int .i64 63, .int .i64 61, .int .u8 8, .lit true, .int .i64 60, .int .i64 58, .int .i64 56, .int .i64 59]), (7, I 1)], [], Ent.ren [] [0, 3, 6, 7] rfl rfl rfl, ?_⟩
  refine rnd ?_
  refine sat_split hE 2 rfl (fun _ => ?_) (fun h => absurd h (by decide))
  repeat (first | refine sat_self ?_ | refine sat_nd ?_)
  refine sat_join hE 2 (fun e tm hp => e = .normal ∧ tm = [(0, I at_), (3, .int .u8 (lostS at_ (lostS at_ 0 4 7 1) 4 0 2)), (6, .agg [.int .u8 1, .lit false, .int .i64 4, .int .i64 6, .int .i64 7, .int .i64 5, .int .u8 2, .lit false, .int .i64 4, .int .i64 2, .int .i64 0, .int .i64 3, .int .u8 4, .lit true, .int .i64 60, .int .i64 62, .int .i64 63, .int .i64 61, .int .u8 8, .lit true, .int .i64 60, .int .i64 58, .int .i64 56, .int .i64 59]), (7, I 1)] ∧ hp = []) rfl (fun h => ?_) (fun h => ?_) ?_
  ·have h : (decide (4 = at_) || decide (0 = at_)) = true := h
   exact sat_ret ⟨_, _, Ent.ren [] [0, 3, 6, 7] rfl rfl rfl, rfl, by rw [lostS_t h], rfl⟩
  ·have h : (decide (4 = at_) || decide (0 = at_)) = false := h
   exact sat_ret ⟨_, _, Ent.ren [] [0, 3, 6, 7] rfl rfl rfl, rfl, by rw [lostS_f h], rfl⟩
  rintro e tm hp ⟨rfl, rfl, rfl⟩
  refine sat_ret ⟨[(0, I at_), (3, .int .u8 (lostS at_ (lostS at_ 0 4 7 1) 4 0 2)), (6, .agg [.int .u8 1, .lit false, .int .i64 4, .int .i64 6, .int .i64 7, .int .i64 5, .int .u8 2, .lit false, .int .i64 4, .int .i64 2, .int .i64 0, .int .i64 3, .int .u8 4, .lit true, .int .i64 60, .int .i64 62, .int .i64 63, .int .i64 61, .int .u8 8, .lit true, .int .i64 60, .int .i64 58, .int .i64 56, .int .i64 59]), (7, I 2)], [], Ent.ren [] [0, 3, 6, 7] rfl rfl rfl, ?_⟩
  refine rnd ?_
  refine sat_split hE 2 rfl (fun _ => ?_) (fun h => absurd h (by decide))
  repeat (first | refine sat_self ?_ | refine sat_nd ?_)
  refine sat_join hE 2 (fun e tm hp => e = .normal ∧ tm = [(0, I at_), (3, .int .u8 (lostS at_ (lostS at_ (lostS at_ 0 4 7 1) 4 0 2) 60 63 4)), (6, .agg [.int .u8 1, .lit false, .int .i64 4, .int .i64 6, .int .i64 7, .int .i64 5, .int .u8 2, .lit false, .int .i64 4, .int .i64 2, .int .i64 0, .int .i64 3, .int .u8 4, .lit true, .int .i64 60, .int .i64 62, .int .i64 63, .int .i64 61, .int .u8 8, .lit true, .int .i64 60, .int .i64 58, .int .i64 56, .int .i64 59]), (7, I 2)] ∧ hp = []) rfl (fun h => ?_) (fun h => ?_) ?_
  ·have h : (decide (60 = at_) || decide (63 = at_)) = true := h
   exact sat_ret ⟨_, _, Ent.ren [] [0, 3, 6, 7] rfl rfl rfl, rfl, by rw [lostS_t h], rfl⟩
  ·have h : (decide (60 = at_) || decide (63 = at_)) = false := h
   exact sat_ret ⟨_, _, Ent.ren [] [0, 3, 6, 7] rfl rfl rfl, rfl, by rw [lostS_f h], rfl⟩
  rintro e tm hp ⟨rfl, rfl, rfl⟩
  refine sat_ret ⟨[(0, I at_), (3, .int .u8 (lostS at_ (lostS at_ (lostS at_ 0 4 7 1) 4 0 2) 60 63 4)), (6, .agg [.int .u8 1, .lit false, .int .i64 4, .int .i64 6, .int .i64 7, .int .i64 5, .int .u8 2, .lit false, .int .i64 4, .int .i64 2, .int .i64 0, .int .i64 3, .int .u8 4, .lit true, .int .i64 60, .int .i64 62, .int .i64 63, .int .i64 61, .int .u8 8, .lit true, .int .i64 60, .int .i64 58, .int .i64 56, .int .i64 59]), (7, I 3)], [], Ent.ren [] [0, 3, 6, 7] rfl rfl rfl, ?_⟩
  refine rnd ?_
  refine sat_split hE 2 rfl (fun _ => ?_) (fun h => absurd h (by decide))
  repeat (first | refine sat_self ?_ | refine sat_nd ?_)
  refine sat_join hE 2 (fun e tm hp => e = .normal ∧ tm = [(0, I at_), (3, .int .u8 (lostS at_ (lostS at_ (lostS at_ (lostS at_ 0 4 7 1) 4 0 2) 60 63 4) 60 56 8)), (6, .agg [.int .u8 1, .lit false, .int .i64 4, .int .i64 6, .int .i64 7, .int .i64 5, .int .u8 2, .lit false, .int .i64 4, .int .i64 2, .int .i64 0, .int .i64 3, .int .u8 4, .lit true, .int .i64 60, .int .i64 62, .int .i64 63, .int .i64 61, .int .u8 8, .lit true, .int .i64 60, .int .i64 58, .int .i64 56, .int .i64 59]), (7, I 3)] ∧ hp = []) rfl (fun h => ?_) (fun h => ?_) ?_
  ·have h : (decide (60 = at_) || decide (56 = at_)) = true := h
   exact sat_ret ⟨_, _, Ent.ren [] [0, 3, 6, 7] rfl rfl rfl, rfl, by rw [lostS_t h], rfl⟩
  ·have h : (decide (60 = at_) || decide (56 = at_)) = false := h
   exact sat_ret ⟨_, _, Ent.ren [] [0, 3, 6, 7] rfl rfl rfl, rfl, by rw [lostS_f h], rfl⟩
  rintro e tm hp ⟨rfl, rfl, rfl⟩
  refine sat_ret ⟨[(0, I at_), (3, .int .u8 (lostS at_ (lostS at_ (lostS at_ (lostS at_ 0 4 7 1) 4 0 2) 60 63 4) 60 56 8)), (6, .agg [.int .u8 1, .lit false, .int .i64 4, .int .i64 6, .int .i64 7, .int .i64 5, .int .u8 2, .lit false, .int .i64 4, .int .i64 2, .int .i64 0, .int .i64 3, .int .u8 4, .lit true, .int .i64 60, .int .i64 62, .int .i64 63, .int .i64 61, .int .u8 8, .lit true, .int .i64 60, .int .i64 58, .int .i64 56, .int .i64 59]), (7, I 4)], [], Ent.ren [] [0, 3, 6, 7] rfl rfl rfl, ?_⟩
  refine rnd ?_
  refine sat_split hE 2 rfl (fun h => absurd h (by decide)) (fun _ => ?_)
  exact sat_ret (sat_ret (fin_val (.inr rfl) rfl rfl rfl rfl))
 ·cases e
end Go.Ab

set_option maxRecDepth 100000
set_option maxHeartbeats 4000000
namespace Go.Ab
open Go.Proofs
variable {kCa kDb : Bool}
theorem eq_at {z w : List Int} {i : Nat} (h : i < z.length) (h2 : i < w.length) : decide (z.drop i = w.drop i) = (decide (z.getD i 0 = w.getD i 0) && decide (z.drop (i + 1) = w.drop (i + 1))) := by
 rw [List.drop_eq_getElem_cons h, List.drop_eq_getElem_cons h2]; simp only [List.cons.injEq, Bool.decide_and, List.getD_eq_getElem?_getD, List.getElem?_eq_getElem h, List.getElem?_eq_getElem h2, Option.getD_some]
def sameB (p q : Psn) : Bool := decide (p.f = q.f) && decide (p.r = q.r) && decide (p.zs = q.zs) && (p.bl == q.bl) && decide (p.ca = q.ca) && decide (p.pa = q.pa)
def equalB (p q : Psn) : Bool := sameB p q && decide (p.ha = q.ha) && decide (p.fu = q.fu)
theorem need_eq {zs ws : List Int} {g : Bool} (h1 : zs.length ≤ 64) (h2 : ws.length ≤ 64) : (!g || (decide (zs.length = (tk zs).length) && decide ((tk zs).length ≤ 64) && decide (ws.length = (tk ws).length) && decide ((tk ws).length ≤ 64))) = true := by
 rw [tk_len, tk_len]; simp [h1, h2]
theorem need_eq0 {zs ws : List Int} (h1 : zs.length ≤ 64) (h2 : ws.length ≤ 64) : (decide (zs.length = (tk zs).length) && decide ((tk zs).length ≤ 64) && decide (ws.length = (tk ws).length) && decide ((tk ws).length ≤ 64)) = true := by
 rw [tk_len, tk_len]; simp [h1, h2]
end Go.Ab

set_option maxRecDepth 100000
set_option maxHeartbeats 4000000
namespace Go.Ab
open Go.Proofs
variable {kCa kDb : Bool}
def bsame (f r : Int) (zs : List Int) (f2 r2 : Int) (ws : List Int) : Bool := decide (f = f2) && decide (r = r2) && decide (zs = ws)
def ownL (p : Int) (bl : Bool) : Bool := !decide (p = 0) && (decide (p < 0) == bl)
def rowN (bit : Int) (i : Nat) : List UInt8 := bif decide (bit = 1) then ([[101, 49], [103, 49], [104, 49], [102, 49]] : List (List UInt8)).getD i [] else bif decide (bit = 2) then ([[101, 49], [99, 49], [97, 49], [100, 49]] : List (List UInt8)).getD i [] else bif decide (bit = 4) then ([[101, 56], [103, 56], [104, 56], [102, 56]] : List (List UInt8)).getD i [] else ([[101, 56], [99, 56], [97, 56], [100, 56]] : List (List UInt8)).getD i []
def sqW (bit : Int) (i : Nat) : Int := parseR 8 8 (rowN bit i)
theorem rowN_l {bit : Int} {l : List (List UInt8)} (h : ∀ i, rowN bit i = l.getD i []) : [O.vals true 1 [[.str (rowN bit 0)], [.str (rowN bit 1)], [.str (rowN bit 2)], [.str (rowN bit 3)]]] = [O.vals true 1 [[.str (l.getD 0 [])], [.str (l.getD 1 [])], [.str (l.getD 2 [])], [.str (l.getD 3 [])]]] := by rw [h, h, h, h]
def emptyB (zs l : List Int) : Bool := l.all fun i => decide (zs.getD i.toNat 0 = 0)
def c_bSame : CF
 | [.agg [.int .i64 f, .int .i64 r, .sl 0 0 len none], .agg [.int .i64 f2, .int .i64 r2, .sl 1 0 len2 none]], [.ints false .i8 zs, .ints false .i8 ws] => some (decide (len = zs.length) && decide (zs.length ≤ 64) && decide (len2 = ws.length) && decide (ws.length ≤ 64), .bool (bsame f r zs f2 r2 ws), [])
 | _, _ => none
theorem c_bSame_ok : CtOk (GGx kCa kDb) PP (89, c_bSame) := by
 refine ct_mk Tryz.func89 (by kernel_rfl) rfl fun a0 h0 c0 v0 N0 e hc => ?_
 unfold c_bSame at e
 split at e
 ·rename_i f r len f2 r2 len2 zs ws
  cases e
  have hE := EE_ok (kCa := kCa) (kDb := kDb) (cts := []) (inl := []) trivial trivial
  refine fn_sound hE 2 Tryz.func89 rfl rfl ?_
  simp only [Bool.and_eq_true, decide_eq_true_eq] at hc
  obtain ⟨⟨⟨rfl, hz64⟩, rfl⟩, hw64⟩ := hc
  repeat (first | refine sat_self ?_ | refine sat_nd ?_)
  refine sat_br (fun h => ?_) (fun h => ?_)
  ·have h : (!(decide (f = f2) && decide (r = r2)) || !decide ((zs.length : Int) = ws.length)) = true := h
   exact sat_ret (fin_val (.inr rfl) rfl rfl rfl (congrArg V.bool (by
    rw [Bool.or_eq_true] at h
    rcases h with h | h
    ·rw [Bool.not_eq_true'] at h; rw [bsame, h]; rfl
    ·have hne : ¬ zs = ws := by intro h2; subst h2; simp at h
     simp [bsame, hne])))
  have h : (!(decide (f = f2) && decide (r = r2)) || !decide ((zs.length : Int) = ws.length)) = false := h
  simp only [Bool.or_eq_false_iff, Bool.not_eq_false', decide_eq_true_eq] at h
  obtain ⟨hfr, hl⟩ := h
  have hl : zs.length = ws.length := by omega
  refine sat_idx hE 2 (fun i (_ : Unit) => ([(2, .ptr 2 0 0), (3, .ptr 3 0 0), (5, I i)], [.ints false .i8 zs, .ints false .i8 ws, .cells true [I f, I r, .sl 0 0 zs.length none], .cells true [I f2, I r2, .sl 1 0 ws.length none]])) zs.length (fun j _ => decide (zs.drop j = ws.drop j) = decide (zs = ws)) () (by omega) (Ent.ren [0, 1, 2, 3] [2, 3, 5] rfl rfl rfl) rfl ?_
  intro j i _ hij hj hz
  refine sat_br (fun hlt => ?_) (fun hlt => ?_)
  ·have hlt' : j < zs.length := by simp at hlt; omega
   rw [eq_at hlt' (by omega), show j = i.toNat by omega] at hz
   repeat (first | (first | refine sat_self ?_ | refine sat_nd ?_) | refine sat_need (by simp only [Bool.and_eq_true, decide_eq_true_eq]; omega) ?_)
   refine sat_br (fun hon => ?_) (fun hon => ?_)
   ·have hon : (!decide (zs.getD i.toNat 0 = ws.getD i.toNat 0)) = true := hon
    rw [Bool.not_eq_true'] at hon
    rw [hon, Bool.false_and] at hz
    exact sat_ret (sat_ret (fin_val (.inr rfl) rfl rfl rfl (by rw [bsame, ← hz]; simp)))
   ·have hon : (!decide (zs.getD i.toNat 0 = ws.getD i.toNat 0)) = false := hon
    rw [Bool.not_eq_false'] at hon
    rw [hon, Bool.true_and] at hz
    exact sat_ret ⟨hlt', (), by rw [← hz, show i.toNat = j by omega], Ent.ren [0, 1, 2, 3] [2, 3, 5] rfl rfl rfl⟩
  ·obtain rfl : j = zs.length := by simp at hlt; omega
   rw [List.drop_length, hl, List.drop_length] at hz
   exact sat_ret (sat_ret (fin_val (.inr rfl) rfl rfl rfl (by rw [bsame, hfr, ← hz]; simp)))
 ·cases e
def c_rsame : CF
 | [.agg [.int .i64 f, .int .i64 r, .sl 0 0 len none, .bool bl, .int .u8 ca, .int .i64 pa, .int .i64 ha, .int .i64 fu], .agg [.int .i64 f2, .int .i64 r2, .sl 1 0 len2 none, .bool bl2, .int .u8 ca2, .int .i64 pa2, .int .i64 ha2, .int .i64 fu2]], [.ints false .i8 zs, .ints false .i8 ws] => some (decide (len = zs.length) && decide (zs.length ≤ 64) && decide (len2 = ws.length) && decide (ws.length ≤ 64), .bool (sameB ⟨f, r, zs, bl, ca, pa, ha, fu⟩ ⟨f2, r2, ws, bl2, ca2, pa2, ha2, fu2⟩), [])
 | _, _ => none
theorem c_rsame_ok : CtOk (GGx kCa kDb) PP (43, c_rsame) := by
 refine ct_mk Tryz.func43 (by kernel_rfl) rfl fun a0 h0 c0 v0 N0 e hc => ?_
 unfold c_rsame at e
 split at e
 ·rename_i f r len bl ca pa ha fu f2 r2 len2 bl2 ca2 pa2 ha2 fu2 zs ws
  cases e
  have hE := EE_ok (kCa := kCa) (kDb := kDb) (cts := [(27, c_rOf), (89, c_bSame)]) (inl := []) ⟨c_rOf_ok, c_bSame_ok, trivial⟩ trivial
  refine fn_sound hE 2 Tryz.func43 rfl rfl ?_
  simp only [Bool.and_eq_true, decide_eq_true_eq] at hc
  obtain ⟨⟨⟨rfl, hz64⟩, rfl⟩, hw64⟩ := hc
  repeat (first | (first | refine sat_self ?_ | refine sat_nd ?_) | refine sat_need (need_eq hz64 hw64) ?_ | refine sat_need (need_eq0 hz64 hw64) ?_)
  exact sat_ret (fin_val (.inr rfl) rfl rfl rfl (congrArg V.bool (by
   show (bsame f r (tk zs) f2 r2 (tk ws) && (bl == bl2) && decide (ca = ca2) && decide (pa = pa2)) = _
   rw [tk_eq, tk_eq]; rfl)))
 ·cases e
def c_requal : CF
 | [.agg [.int .i64 f, .int .i64 r, .sl 0 0 len none, .bool bl, .int .u8 ca, .int .i64 pa, .int .i64 ha, .int .i64 fu], .agg [.int .i64 f2, .int .i64 r2, .sl 1 0 len2 none, .bool bl2, .int .u8 ca2, .int .i64 pa2, .int .i64 ha2, .int .i64 fu2]], [.ints false .i8 zs, .ints false .i8 ws] => some (decide (len = zs.length) && decide (zs.length ≤ 64) && decide (len2 = ws.length) && decide (ws.length ≤ 64), .bool (equalB ⟨f, r, zs, bl, ca, pa, ha, fu⟩ ⟨f2, r2, ws, bl2, ca2, pa2, ha2, fu2⟩), [])
 | _, _ => none
theorem c_requal_ok : CtOk (GGx kCa kDb) PP (13, c_requal) := by
 refine ct_mk Tryz.func13 (by kernel_rfl) rfl fun a0 h0 c0 v0 N0 e hc => ?_
 unfold c_requal at e
 split at e
 ·rename_i f r len bl ca pa ha fu f2 r2 len2 bl2 ca2 pa2 ha2 fu2 zs ws
  cases e
  have hE := EE_ok (kCa := kCa) (kDb := kDb) (cts := [(43, c_rsame)]) (inl := []) ⟨c_rsame_ok, trivial⟩ trivial
  refine fn_sound hE 2 Tryz.func13 rfl rfl ?_
  simp only [Bool.and_eq_true, decide_eq_true_eq] at hc
  obtain ⟨⟨⟨rfl, hz64⟩, rfl⟩, hw64⟩ := hc
  repeat (first | (first | refine sat_self ?_ | refine sat_nd ?_) | refine sat_need (need_eq hz64 hw64) ?_ | refine sat_need (need_eq0 hz64 hw64) ?_)
  exact sat_ret (fin_val (.inr rfl) rfl rfl rfl (congrArg V.bool (by
   show (sameB ⟨f, r, tk zs, bl, ca, pa, ha, fu⟩ ⟨f2, r2, tk ws, bl2, ca2, pa2, ha2, fu2⟩ && decide (ha = ha2) && decide (fu = fu2)) = _
   rw [tk_eq, tk_eq]; rfl)))
 ·cases e
def c_rcopy : CF
 | [.agg [.int .i64 f, .int .i64 r, .sl 0 0 len none, .bool bl, .int .u8 ca, .int .i64 pa, .int .i64 ha, .int .i64 fu]], [.ints false .i8 zs] => some (decide (len = zs.length) && decide (zs.length ≤ 64), .agg [I f, I r, .sl 1 0 zs.length none, Bb bl, .int .u8 ca, I pa, I ha, I fu], [.ints true .i8 zs])
 | _, _ => none
theorem c_rcopy_ok : CtOk (GGx kCa kDb) PP (10, c_rcopy) := by
 refine ct_mk Tryz.func10 (by kernel_rfl) rfl fun a0 h0 c0 v0 N0 e hc => ?_
 unfold c_rcopy at e
 split at e
 ·rename_i f r len bl ca pa ha fu zs
  cases e
  have hE := EE_ok (kCa := kCa) (kDb := kDb) (cts := []) (inl := []) trivial trivial
  refine fn_sound hE 2 Tryz.func10 rfl rfl ?_
  simp only [Bool.and_eq_true, decide_eq_true_eq] at hc
  obtain ⟨rfl, hc2⟩ := hc
  repeat (first | (first | refine sat_self ?_ | refine sat_nd ?_) | refine sat_need (need_bd hc2 rfl) ?_ | refine sat_need (by simp; omega) ?_)
  exact sat_ret (fin_new 3 (.inr rfl) rfl rfl rfl rfl (by show [O.ints true .i8 (tk zs)] = _; rw [tk_eq]) (by show V.agg [I f, I r, .sl 1 0 (tk zs).length none, Bb bl, .int .u8 ca, I pa, I ha, I fu] = _; rw [tk_eq]))
 ·cases e
def c_rmvalid : CF
 | [.agg [.int .i64 f, .int .i64 r], .agg [.int .i64 a, .int .i64 b, .int .i8 pr]], [] => some (true, .bool (mvB f r a b pr), [])
 | _, _ => none
theorem c_rmvalid_ok : CtOk (GGx kCa kDb) PP (22, c_rmvalid) := by
 refine ct_mk Tryz.func22 (by kernel_rfl) rfl fun a0 h0 c0 v0 N0 e hc => ?_
 unfold c_rmvalid at e
 split at e
 ·rename_i f r a b pr
  cases e
  have hE := EE_ok (kCa := kCa) (kDb := kDb) (cts := [(18, c_Valid)]) (inl := []) ⟨c_Valid_ok, trivial⟩ trivial
  refine fn_sound hE 2 Tryz.func22 rfl rfl ?_
  repeat (first | refine sat_self ?_ | refine sat_nd ?_)
  exact sat_ret (fin_val (.inr rfl) rfl rfl rfl rfl)
 ·cases e
def c_rown : CF
 | [.int .i8 p, .bool bl], [] => some (true, .bool (ownL p bl), [])
 | _, _ => none
theorem c_rown_ok : CtOk (GGx kCa kDb) PP (153, c_rown) := by
 refine ct_mk Tryz.func153 (by kernel_rfl) rfl fun a0 h0 c0 v0 N0 e hc => ?_
 unfold c_rown at e
 split at e
 ·rename_i p bl
  cases e
  have hE := EE_ok (kCa := kCa) (kDb := kDb) (cts := []) (inl := []) trivial trivial
  refine fn_sound hE 2 Tryz.func153 rfl rfl ?_
  repeat (first | refine sat_self ?_ | refine sat_nd ?_)
  exact sat_ret (fin_val (.inr rfl) rfl rfl rfl rfl)
 ·cases e
def c_rsquare : CF
 | [.str s], [] => some (true, .int .i64 (parseR 8 8 s), [])
 | _, _ => none
theorem c_rsquare_ok : CtOk (GGx kCa kDb) PP (101, c_rsquare) := by
 refine ct_mk Tryz.func101 (by kernel_rfl) rfl fun a0 h0 c0 v0 N0 e hc => ?_
 unfold c_rsquare at e
 split at e
 ·rename_i s
  cases e
  have hE := EE_ok (kCa := kCa) (kDb := kDb) (cts := [(133, c_Parse)]) (inl := []) ⟨c_Parse_ok, trivial⟩ trivial
  refine fn_sound hE 2 Tryz.func101 rfl rfl ?_
  repeat (first | refine sat_self ?_ | refine sat_nd ?_)
  exact sat_ret (fin_val (.inr rfl) rfl rfl rfl rfl)
 ·cases e
def c_rrow : CF
 | [.int .u8 bit], [] => some (true, .sl 0 0 4 none, [.vals true 1 [[.str (rowN bit 0)], [.str (rowN bit 1)], [.str (rowN bit 2)], [.str (rowN bit 3)]]])
 | _, _ => none
theorem c_rrow_ok : CtOk (GGx kCa kDb) PP (102, c_rrow) := by
 refine ct_mk Tryz.func102 (by kernel_rfl) rfl fun a0 h0 c0 v0 N0 e hc => ?_
 unfold c_rrow at e
 split at e
 ·rename_i bit
  cases e
  have hE := EE_ok (kCa := kCa) (kDb := kDb) (cts := []) (inl := []) trivial trivial
  refine fn_sound hE 2 Tryz.func102 rfl rfl ?_
  repeat (first | refine sat_self ?_ | refine sat_nd ?_)
  refine sat_br (fun h1 => ?_) (fun h1 => ?_)
  ·have h1 : decide (bit = 1) = true := h1
   repeat (first | refine sat_self ?_ | refine sat_nd ?_)
   exact sat_ret (fin_new 0 (.inr rfl) rfl rfl rfl rfl (by rw [rowN_l (l := [[101, 49], [103, 49], [104, 49], [102, 49]]) (fun i => by simp only [rowN, h1, cond_true])]; rfl) rfl)
  have h1 : decide (bit = 1) = false := h1
  refine sat_br (fun h2 => ?_) (fun h2 => ?_)
  ·have h2 : decide (bit = 2) = true := h2
   exact sat_ret (fin_new 0 (.inr rfl) rfl rfl rfl rfl (by rw [rowN_l (l := [[101, 49], [99, 49], [97, 49], [100, 49]]) (fun i => by simp only [rowN, h1, h2, cond_true, cond_false])]; rfl) rfl)
  have h2 : decide (bit = 2) = false := h2
  refine sat_br (fun h3 => ?_) (fun h3 => ?_)
  ·have h3 : decide (bit = 4) = true := h3
   exact sat_ret (fin_new 0 (.inr rfl) rfl rfl rfl rfl (by rw [rowN_l (l := [[101, 56], [103, 56], [104, 56], [102, 56]]) (fun i => by simp only [rowN, h1, h2, h3, cond_true, cond_false])]; rfl) rfl)
  have h3 : decide (bit = 4) = false := h3
  exact sat_ret (fin_new 0 (.inr rfl) rfl rfl rfl rfl (by rw [rowN_l (l := [[101, 56], [99, 56], [97, 56], [100, 56]]) (fun i => by simp only [rowN, h1, h2, h3, cond_false])]; rfl) rfl)
 ·cases e
end Go.Ab

set_option maxRecDepth 100000
set_option maxHeartbeats 4000000
namespace Go.Ab
open Go.Proofs
variable {kCa kDb : Bool}
def inRng (zs : List Int) (i : Int) : Bool := decide (0 ≤ i) && decide (i < zs.length)
def cgS (f r : Int) (zs : List Int) (bl : Bool) (ca a b bit : Int) : Bool := decide ((IntKind.u8.wrap (ca.tdiv bit)).tmod 2 = 1) && (decide (2 < bit) == bl) && decide (a = sqW bit 0) && decide (b = sqW bit 1) && emptyB zs (betwL f r (sqW bit 0) (sqW bit 2))
def cgL (f r : Int) (zs : List Int) (bl : Bool) (ca a b pr : Int) : Int := bif !decide (kind8 (zs.getD a.toNat 0) = 6) || !decide (pr = 0) then 0 else bif cgS f r zs bl ca a b 1 then 1 else bif cgS f r zs bl ca a b 2 then 2 else bif cgS f r zs bl ca a b 4 then 4 else bif cgS f r zs bl ca a b 8 then 8 else 0
def pnL (f r : Int) (zs : List Int) (bl : Bool) (pa a b pr : Int) : Bool := bif !(decide (IntKind.i64.wrap (b.tdiv f) = lastR r bl) == !decide (pr = 0)) then false else bif hasL b (filtB (stepsB f r bl a (occL zs)) id ((f * r).toNat)) then true else hasL b (filtB (pawnC f bl a) id ((f * r).toNat)) && (!decide (zs.getD b.toNat 0 = 0) || decide (b = pa))
def soL (f r : Int) (zs : List Int) (bl : Bool) (ca pa a b pr : Int) : Bool := bif ownL (zs.getD b.toNat 0) bl then false else bif decide (kind8 (zs.getD a.toNat 0) = 1) then pnL f r zs bl pa a b pr else bif !decide (cgL f r zs bl ca a b pr = 0) then true else decide (pr = 0) && reachesB f r (kind8 (zs.getD a.toNat 0)) a b (occL zs)
def capL (f r : Int) (zs : List Int) (pa a b : Int) : Int := bif decide (kind8 (zs.getD a.toNat 0) = 1) && decide (b = pa) then numR f r (b.tmod f) (IntKind.i64.wrap (a.tdiv f)) else bif !decide (zs.getD b.toNat 0 = 0) then b else -1
theorem need_ig {zs : List Int} {b : Int} {g : Bool} (h : 0 ≤ b) (h1 : b < zs.length) : (!g || (decide (0 ≤ b) && decide (b < zs.length))) = true := by simp [h, h1]
theorem need_i {zs : List Int} {b : Int} (h : 0 ≤ b) (h1 : b < zs.length) : (decide (0 ≤ b) && decide (b < zs.length)) = true := by simp [h, h1]
theorem need_it {zs : List Int} {b : Int} (h : 0 ≤ b) (h1 : b < zs.length) : (decide (0 ≤ b) && decide (b < (tk zs).length)) = true := by rw [tk_len]; simp [h, h1]
theorem cast_home {f r : Int} {zs : List Int} {ca bit : Int} (h : castL f r zs ca = true) (hb : bit = 1 ∨ bit = 2 ∨ bit = 4 ∨ bit = 8) (h1 : decide ((IntKind.u8.wrap (ca.tdiv bit)).tmod 2 = 1) = true) : homeB f r zs bit = true := by
 unfold castL at h
 cases h15 : decide (15 < ca) with
 | true => rw [h15] at h; cases h
 | false =>
  rw [h15, cond_false] at h
  simp only [Bool.not_eq_true', Bool.or_eq_false_iff, rXL, Bool.and_eq_false_iff, Bool.not_eq_false'] at h
  obtain ⟨⟨⟨c1, c2⟩, c3⟩, c4⟩ := h
  rcases hb with rfl | rfl | rfl | rfl
  ·exact c1.resolve_left (by rw [h1]; simp)
  ·exact c2.resolve_left (by rw [h1]; simp)
  ·exact c3.resolve_left (by rw [h1]; simp)
  ·exact c4.resolve_left (by rw [h1]; simp)
theorem home_88 {f r : Int} {zs : List Int} {bit : Int} (h : homeB f r zs bit = true) : f = 8 ∧ r = 8 := by
 unfold homeB at h
 cases h8 : (!decide (f = 8) || !decide (r = 8)) with
 | true => rw [h8] at h; cases h
 | false => simpa using h8
theorem bt_1 : betwL 8 8 (sqW 1 0) (sqW 1 2) = [5, 6] := by kernel_rfl
theorem bt_2 : betwL 8 8 (sqW 2 0) (sqW 2 2) = [3, 2, 1] := by kernel_rfl
theorem bt_4 : betwL 8 8 (sqW 4 0) (sqW 4 2) = [61, 62] := by kernel_rfl
theorem bt_8 : betwL 8 8 (sqW 8 0) (sqW 8 2) = [59, 58, 57] := by kernel_rfl
theorem need_emp {f r : Int} {zs : List Int} {ca bit : Int} {x y z : Bool} (_hc2 : zs.length ≤ 64) (hbd : validBd f r zs = true) (h : castL f r zs ca = true) (hb : bit = 1 ∨ bit = 2 ∨ bit = 4 ∨ bit = 8) : (!(decide ((IntKind.u8.wrap (ca.tdiv bit)).tmod 2 = 1) && x && y && z) || (decide (zs.length = (tk zs).length) && decide ((tk zs).length ≤ 64) && decide ((betwL f r (sqW bit 0) (sqW bit 2)).length = (((betwO f r (sqW bit 0) (sqW bit 2)).drop 0).take (betwL f r (sqW bit 0) (sqW bit 2)).length).length) && decide ((((betwO f r (sqW bit 0) (sqW bit 2)).drop 0).take (betwL f r (sqW bit 0) (sqW bit 2)).length).length ≤ 1000) && (((betwO f r (sqW bit 0) (sqW bit 2)).drop 0).take (betwL f r (sqW bit 0) (sqW bit 2)).length).all (inRng (tk zs)))) = true := by
 rw [betwO_take, tk_eq]
 cases h1 : decide ((IntKind.u8.wrap (ca.tdiv bit)).tmod 2 = 1) with
 | false => simp
 | true =>
  obtain ⟨rfl, rfl⟩ := home_88 (cast_home h hb h1)
  have h64 := bd_88 hbd rfl
  rcases hb with rfl | rfl | rfl | rfl
  ·rw [bt_1]; simp [inRng, h64]
  ·rw [bt_2]; simp [inRng, h64]
  ·rw [bt_4]; simp [inRng, h64]
  ·rw [bt_8]; simp [inRng, h64]
theorem emp_at {zs l : List Int} {j : Nat} (h : j < l.length) : emptyB zs (l.drop j) = (decide (zs.getD (l.getD j 0).toNat 0 = 0) && emptyB zs (l.drop (j + 1))) := by
 rw [List.drop_eq_getElem_cons h, emptyB, List.all_cons]
 simp only [List.getD_eq_getElem?_getD, List.getElem?_eq_getElem h, Option.getD_some]
 rfl
def c_remp : CF
 | [.agg [.int .i64 _f, .int .i64 _r, .sl 0 0 len none, .bool _bl, .int .u8 _ca, .int .i64 _pa, .int .i64 _ha, .int .i64 _fu], .sl 1 0 ll none], [.ints false .i8 zs, .ints false .i64 l] => some (decide (len = zs.length) && decide (zs.length ≤ 64) && decide (ll = l.length) && decide (l.length ≤ 1000) && l.all (inRng zs), .bool (emptyB zs l), [])
 | _, _ => none
theorem c_remp_ok : CtOk (GGx kCa kDb) PP (152, c_remp) := by
 refine ct_mk Tryz.func152 (by kernel_rfl) rfl fun a0 h0 c0 v0 N0 e hc => ?_
 unfold c_remp at e
 split at e
 ·rename_i f r len bl ca pa ha fu ll zs l
  cases e
  have hE := EE_ok (kCa := kCa) (kDb := kDb) (cts := []) (inl := []) trivial trivial
  refine fn_sound hE 2 Tryz.func152 rfl rfl ?_
  simp only [Bool.and_eq_true, decide_eq_true_eq] at hc
  obtain ⟨⟨⟨⟨rfl, hc2⟩, rfl⟩, hl⟩, hal⟩ := hc
  refine sat_idx hE 2 (fun i (_ : Unit) => ([(1, .sl 1 0 l.length none), (2, .ptr 2 0 0), (5, I i)], [.ints false .i8 zs, .ints false .i64 l, .cells true [I f, I r, .sl 0 0 zs.length none, Bb bl, .int .u8 ca, I pa, I ha, I fu]])) l.length (fun j _ => emptyB zs (l.drop j) = emptyB zs l) () (by omega) (Ent.ren [0, 1, 2] [1, 2, 5] rfl rfl rfl) rfl ?_
  intro j i _ hij hj hz
  refine sat_br (fun hlt => ?_) (fun hlt => ?_)
  ·have hlt' : j < l.length := by simp at hlt; omega
   have hx : inRng zs (l.getD i.toNat 0) = true := by
    have := List.all_eq_true.1 hal (l[j]) (List.getElem_mem hlt')
    rw [show i.toNat = j by omega, List.getD_eq_getElem?_getD, List.getElem?_eq_getElem hlt', Option.getD_some]; exact this
   rw [emp_at hlt', show j = i.toNat by omega] at hz
   repeat (first | (first | refine sat_self ?_ | refine sat_nd ?_) | refine sat_need (by simp only [Bool.and_eq_true, decide_eq_true_eq]; omega) ?_ | refine sat_need hx ?_)
   refine sat_br (fun hon => ?_) (fun hon => ?_)
   ·have hon : (!decide (zs.getD (l.getD i.toNat 0).toNat 0 = 0)) = true := hon
    rw [Bool.not_eq_true'] at hon
    rw [hon, Bool.false_and] at hz
    exact sat_ret (sat_ret (fin_val (.inr rfl) rfl rfl rfl (by rw [← hz])))
   ·have hon : (!decide (zs.getD (l.getD i.toNat 0).toNat 0 = 0)) = false := hon
    rw [Bool.not_eq_false'] at hon
    rw [hon, Bool.true_and] at hz
    exact sat_ret ⟨hlt', (), by rw [← hz, show i.toNat = j by omega], Ent.ren [0, 1, 2] [1, 2, 5] rfl rfl rfl⟩
  ·obtain rfl : j = l.length := by simp at hlt; omega
   rw [List.drop_length] at hz
   exact sat_ret (sat_ret (fin_val (.inr rfl) rfl rfl rfl (by rw [← hz]; rfl)))
 ·cases e
def c_rcgl : CF
 | [.agg [.int .i64 f, .int .i64 r, .sl 0 0 len none, .bool bl, .int .u8 ca, .int .i64 _pa, .int .i64 _ha, .int .i64 _fu], .agg [.int .i64 a, .int .i64 b, .int .i8 pr]], [.ints false .i8 zs] => some (decide (len = zs.length) && decide (zs.length ≤ 64) && (validBd f r zs && castL f r zs ca && validB f r a && validB f r b), .int .u8 (cgL f r zs bl ca a b pr), [])
 | _, _ => none
theorem c_rcgl_ok : CtOk (GGx kCa kDb) PP (100, c_rcgl) := by
 refine ct_mk Tryz.func100 (by kernel_rfl) rfl fun a0 h0 c0 v0 N0 e hc => ?_
 unfold c_rcgl at e
 split at e
 ·rename_i f r len bl ca pa ha fu a b pr zs
  cases e
  have hE := EE_ok (kCa := kCa) (kDb := kDb) (cts := [(47, c_rpkind), (102, c_rrow), (101, c_rsquare), (33, c_Between), (152, c_remp)]) (inl := []) ⟨c_rpkind_ok, c_rrow_ok, c_rsquare_ok, c_Between_ok, c_remp_ok, trivial⟩ trivial
  refine fn_sound hE 2 Tryz.func100 rfl rfl ?_
  simp only [Bool.and_eq_true, decide_eq_true_eq] at hc
  obtain ⟨⟨rfl, hc2⟩, ⟨⟨hbd, hcs⟩, hva⟩, hvb⟩ := hc
  have hvs := (bd_valid hbd).1
  obtain ⟨ha0, ha1⟩ := (bd_sq hbd).1 hva
  obtain ⟨hb0, hb1⟩ := (bd_sq hbd).1 hvb
  have hf0 : (!decide (f = 0)) = true := by have := vs_bd hvs; simp; omega
  have hf1 : ∀ g : Bool, (!g || !decide (f = 0)) = true := fun g => by rw [hf0]; simp
  repeat (first | (first | refine sat_self ?_ | refine sat_nd ?_) | refine sat_need (need_i ha0 ha1) ?_ | refine sat_need (need_i hb0 hb1) ?_ | refine sat_need (need_ig ha0 ha1) ?_ | refine sat_need (need_ig hb0 hb1) ?_ | refine sat_need hf0 ?_ | refine sat_need (hf1 _) ?_ | refine sat_need (need_bd hc2 rfl) ?_ | refine sat_need (need_bdg hc2 rfl) ?_)
  refine sat_br (fun h => ?_) (fun h => ?_)
  ·have h : (!decide (kind8 (zs.getD a.toNat 0) = 6) || !decide (pr = 0)) = true := h
   exact sat_ret (fin_val (.inr rfl) rfl rfl rfl (by rw [cgL, h]; rfl))
  have h : (!decide (kind8 (zs.getD a.toNat 0) = 6) || !decide (pr = 0)) = false := h
  repeat (first | refine sat_self ?_ | refine sat_nd ?_)
  refine sat_rounds hE 2 5 ?_
  refine rnd ?_
  refine sat_bt (by rfl) ?_
  repeat (first | (first | refine sat_self ?_ | refine sat_nd ?_) | refine sat_need (hf1 _) ?_ | refine sat_need (need_emp (bit := 1) hc2 hbd hcs (by simp)) ?_)
  refine sat_br (fun h0 => ?_) (fun h0 => ?_)
  ·have h0 : (decide ((IntKind.u8.wrap (ca.tdiv 1)).tmod 2 = 1) && (decide (2 < (1 : Int)) == bl) && decide (a = sqW 1 0) && decide (b = sqW 1 1) && emptyB (tk zs) (((betwO f r (sqW 1 0) (sqW 1 2)).drop 0).take (betwL f r (sqW 1 0) (sqW 1 2)).length)) = true := h0
   rw [tk_eq, betwO_take] at h0
   have h0 : cgS f r zs bl ca a b 1 = true := h0
   exact sat_ret (sat_ret (fin_val (.inr rfl) rfl rfl rfl (by simp only [cgL, h, h0, cond_true, cond_false]; rfl)))
  have h0 : (decide ((IntKind.u8.wrap (ca.tdiv 1)).tmod 2 = 1) && (decide (2 < (1 : Int)) == bl) && decide (a = sqW 1 0) && decide (b = sqW 1 1) && emptyB (tk zs) (((betwO f r (sqW 1 0) (sqW 1 2)).drop 0).take (betwL f r (sqW 1 0) (sqW 1 2)).length)) = false := h0
  rw [tk_eq, betwO_take] at h0
  have h0 : cgS f r zs bl ca a b 1 = false := h0
  refine sat_ret ⟨[(2, .ptr 1 0 0), (3, .ptr 2 0 0), (21, .sl 3 0 4 none), (22, I 4), (23, I 1)], [.ints false .i8 zs, .cells true [I f, I r, .sl 0 0 zs.length none, Bb bl, .int .u8 ca, I pa, I ha, I fu], .cells true [I a, I b, .int .i8 pr], .ints true .u8 [1, 2, 4, 8]], Ent.ren [0, 1, 2, 3] [2, 3, 21, 22, 23] rfl rfl rfl, ?_⟩
  refine rnd ?_
  refine sat_bt (by rfl) ?_
  repeat (first | (first | refine sat_self ?_ | refine sat_nd ?_) | refine sat_need (hf1 _) ?_ | refine sat_need (need_emp (bit := 2) hc2 hbd hcs (by simp)) ?_)
  refine sat_br (fun h1 => ?_) (fun h1 => ?_)
  ·have h1 : (decide ((IntKind.u8.wrap (ca.tdiv 2)).tmod 2 = 1) && (decide (2 < (2 : Int)) == bl) && decide (a = sqW 2 0) && decide (b = sqW 2 1) && emptyB (tk zs) (((betwO f r (sqW 2 0) (sqW 2 2)).drop 0).take (betwL f r (sqW 2 0) (sqW 2 2)).length)) = true := h1
   rw [tk_eq, betwO_take] at h1
   have h1 : cgS f r zs bl ca a b 2 = true := h1
   exact sat_ret (sat_ret (fin_val (.inr rfl) rfl rfl rfl (by simp only [cgL, h, h0, h1, cond_true, cond_false]; rfl)))
  have h1 : (decide ((IntKind.u8.wrap (ca.tdiv 2)).tmod 2 = 1) && (decide (2 < (2 : Int)) == bl) && decide (a = sqW 2 0) && decide (b = sqW 2 1) && emptyB (tk zs) (((betwO f r (sqW 2 0) (sqW 2 2)).drop 0).take (betwL f r (sqW 2 0) (sqW 2 2)).length)) = false := h1
  rw [tk_eq, betwO_take] at h1
  have h1 : cgS f r zs bl ca a b 2 = false := h1
  refine sat_ret ⟨[(2, .ptr 1 0 0), (3, .ptr 2 0 0), (21, .sl 3 0 4 none), (22, I 4), (23, I 2)], [.ints false .i8 zs, .cells true [I f, I r, .sl 0 0 zs.length none, Bb bl, .int .u8 ca, I pa, I ha, I fu], .cells true [I a, I b, .int .i8 pr], .ints true .u8 [1, 2, 4, 8]], Ent.ren [0, 1, 2, 3] [2, 3, 21, 22, 23] rfl rfl rfl, ?_⟩
  refine rnd ?_
  refine sat_bt (by rfl) ?_
  repeat (first | (first | refine sat_self ?_ | refine sat_nd ?_) | refine sat_need (hf1 _) ?_ | refine sat_need (need_emp (bit := 4) hc2 hbd hcs (by simp)) ?_)
  refine sat_br (fun h2 => ?_) (fun h2 => ?_)
  ·have h2 : (decide ((IntKind.u8.wrap (ca.tdiv 4)).tmod 2 = 1) && (decide (2 < (4 : Int)) == bl) && decide (a = sqW 4 0) && decide (b = sqW 4 1) && emptyB (tk zs) (((betwO f r (sqW 4 0) (sqW 4 2)).drop 0).take (betwL f r (sqW 4 0) (sqW 4 2)).length)) = true := h2
   rw [tk_eq, betwO_take] at h2
   have h2 : cgS f r zs bl ca a b 4 = true := h2
   exact sat_ret (sat_ret (fin_val (.inr rfl) rfl rfl rfl (by simp only [cgL, h, h0, h1, h2, cond_true, cond_false]; rfl)))
  have h2 : (decide ((IntKind.u8.wrap (ca.tdiv 4)).tmod 2 = 1) && (decide (2 < (4 : Int)) == bl) && decide (a = sqW 4 0) && decide (b = sqW 4 1) && emptyB (tk zs) (((betwO f r (sqW 4 0) (sqW 4 2)).drop 0).take (betwL f r (sqW 4 0) (sqW 4 2)).length)) = false := h2
  rw [tk_eq, betwO_take] at h2
  have h2 : cgS f r zs bl ca a b 4 = false := h2
  refine sat_ret ⟨[(2, .ptr 1 0 0), (3, .ptr 2 0 0), (21, .sl 3 0 4 none), (22, I 4), (23, I 3)], [.ints false .i8 zs, .cells true [I f, I r, .sl 0 0 zs.length none, Bb bl, .int .u8 ca, I pa, I ha, I fu], .cells true [I a, I b, .int .i8 pr], .ints true .u8 [1, 2, 4, 8]], Ent.ren [0, 1, 2, 3] [2, 3, 21, 22, 23] rfl rfl rfl, ?_⟩
  refine rnd ?_
  refine sat_bt (by rfl) ?_
  repeat (first | (first | refine sat_self ?_ | refine sat_nd ?_) | refine sat_need (hf1 _) ?_ | refine sat_need (need_emp (bit := 8) hc2 hbd hcs (by simp)) ?_)
  refine sat_br (fun h3 => ?_) (fun h3 => ?_)
  ·have h3 : (decide ((IntKind.u8.wrap (ca.tdiv 8)).tmod 2 = 1) && (decide (2 < (8 : Int)) == bl) && decide (a = sqW 8 0) && decide (b = sqW 8 1) && emptyB (tk zs) (((betwO f r (sqW 8 0) (sqW 8 2)).drop 0).take (betwL f r (sqW 8 0) (sqW 8 2)).length)) = true := h3
   rw [tk_eq, betwO_take] at h3
   have h3 : cgS f r zs bl ca a b 8 = true := h3
   exact sat_ret (sat_ret (fin_val (.inr rfl) rfl rfl rfl (by simp only [cgL, h, h0, h1, h2, h3, cond_true, cond_false]; rfl)))
  have h3 : (decide ((IntKind.u8.wrap (ca.tdiv 8)).tmod 2 = 1) && (decide (2 < (8 : Int)) == bl) && decide (a = sqW 8 0) && decide (b = sqW 8 1) && emptyB (tk zs) (((betwO f r (sqW 8 0) (sqW 8 2)).drop 0).take (betwL f r (sqW 8 0) (sqW 8 2)).length)) = false := h3
  rw [tk_eq, betwO_take] at h3
  have h3 : cgS f r zs bl ca a b 8 = false := h3
  refine sat_ret ⟨[(2, .ptr 1 0 0), (3, .ptr 2 0 0), (21, .sl 3 0 4 none), (22, I 4), (23, I 4)], [.ints false .i8 zs, .cells true [I f, I r, .sl 0 0 zs.length none, Bb bl, .int .u8 ca, I pa, I ha, I fu], .cells true [I a, I b, .int .i8 pr], .ints true .u8 [1, 2, 4, 8]], Ent.ren [0, 1, 2, 3] [2, 3, 21, 22, 23] rfl rfl rfl, ?_⟩
  refine rnd ?_
  refine sat_bf (by rfl) ?_
  exact sat_ret (sat_ret (fin_val (.inr rfl) rfl rfl rfl (by simp only [cgL, h, h0, h1, h2, h3, cond_false])))
 ·cases e
def c_rcap : CF
 | [.agg [.int .i64 f, .int .i64 r, .sl 0 0 len none, .bool _bl, .int .u8 ca, .int .i64 pa, .int .i64 _ha, .int .i64 _fu], .agg [.int .i64 a, .int .i64 b, .int .i8 _pr]], [.ints false .i8 zs] => some (decide (len = zs.length) && decide (zs.length ≤ 64) && (validBd f r zs && castL f r zs ca && validB f r a && validB f r b), .int .i64 (capL f r zs pa a b), [])
 | _, _ => none
theorem c_rcap_ok : CtOk (GGx kCa kDb) PP (115, c_rcap) := by
 refine ct_mk Tryz.func115 (by kernel_rfl) rfl fun a0 h0 c0 v0 N0 e hc => ?_
 unfold c_rcap at e
 split at e
 ·rename_i f r len bl ca pa ha fu a b pr zs
  cases e
  have hE := EE_ok (kCa := kCa) (kDb := kDb) (cts := [(47, c_rpkind), (48, c_Place), (97, c_Number)]) (inl := []) ⟨c_rpkind_ok, c_Place_ok, c_Number_ok, trivial⟩ trivial
  refine fn_sound hE 2 Tryz.func115 rfl rfl ?_
  simp only [Bool.and_eq_true, decide_eq_true_eq] at hc
  obtain ⟨⟨rfl, hc2⟩, ⟨⟨hbd, hcs⟩, hva⟩, hvb⟩ := hc
  have hvs := (bd_valid hbd).1
  obtain ⟨ha0, ha1⟩ := (bd_sq hbd).1 hva
  obtain ⟨hb0, hb1⟩ := (bd_sq hbd).1 hvb
  have hf0 : (!decide (f = 0)) = true := by have := vs_bd hvs; simp; omega
  have hf1 : ∀ g : Bool, (!g || !decide (f = 0)) = true := fun g => by rw [hf0]; simp
  repeat (first | (first | refine sat_self ?_ | refine sat_nd ?_) | refine sat_need (need_i ha0 ha1) ?_ | refine sat_need (need_i hb0 hb1) ?_ | refine sat_need (need_ig ha0 ha1) ?_ | refine sat_need (need_ig hb0 hb1) ?_ | refine sat_need hf0 ?_ | refine sat_need (hf1 _) ?_ | refine sat_need (need_bd hc2 rfl) ?_ | refine sat_need (need_bdg hc2 rfl) ?_)
  refine sat_br (fun h => ?_) (fun h => ?_)
  ·have h : (decide (kind8 (zs.getD a.toNat 0) = 1) && decide (b = pa)) = true := h
   repeat (first | (first | refine sat_self ?_ | refine sat_nd ?_) | refine sat_need (need_i ha0 ha1) ?_ | refine sat_need (need_i hb0 hb1) ?_ | refine sat_need (need_ig ha0 ha1) ?_ | refine sat_need (need_ig hb0 hb1) ?_ | refine sat_need hf0 ?_ | refine sat_need (hf1 _) ?_ | refine sat_need (need_bd hc2 rfl) ?_ | refine sat_need (need_bdg hc2 rfl) ?_)
   exact sat_ret (fin_val (.inr rfl) rfl rfl rfl (by rw [capL, h]; rfl))
  have h : (decide (kind8 (zs.getD a.toNat 0) = 1) && decide (b = pa)) = false := h
  repeat (first | (first | refine sat_self ?_ | refine sat_nd ?_) | refine sat_need (need_i ha0 ha1) ?_ | refine sat_need (need_i hb0 hb1) ?_ | refine sat_need (need_ig ha0 ha1) ?_ | refine sat_need (need_ig hb0 hb1) ?_ | refine sat_need hf0 ?_ | refine sat_need (hf1 _) ?_ | refine sat_need (need_bd hc2 rfl) ?_ | refine sat_need (need_bdg hc2 rfl) ?_)
  refine sat_br (fun h2 => ?_) (fun h2 => ?_)
  ·have h2 : (!decide (zs.getD b.toNat 0 = 0)) = true := h2
   exact sat_ret (fin_val (.inr rfl) rfl rfl rfl (by rw [capL, h, h2]; rfl))
  ·have h2 : (!decide (zs.getD b.toNat 0 = 0)) = false := h2
   exact sat_ret (fin_val (.inr rfl) rfl rfl rfl (by rw [capL, h, h2]; rfl))
 ·cases e
end Go.Ab

set_option maxRecDepth 100000
set_option maxHeartbeats 4000000
namespace Go.Ab
open Go.Proofs Go.RowKit
variable {kCa kDb : Bool}
theorem refuse_pn (b : Bool) (k : IntKind) (e : Int) : PnSound PP 107 [.bool b, .int k e] b (.iface 31 (.int k e)) := by
 refine ⟨fun us w => ?_, fun ρ us w n hus => ?_⟩
 ·simp only [invoke]
  simp
 ·obtain ⟨u1, r1, rfl, h1, u2, r2, rfl, h2, rfl⟩ := hus
  have h1 : u1 = .bool b := h1
  have h2 : u2 = .int k e := h2
  subst h1; subst h2
  refine callsIn_of_wp_marks Tryz.func107 rfl trivial ?_
  refine wpIn_seq (wpIn_region ?_)
  have hr : (Fr none).round = none := rfl
  cases b with
  | false =>
   simp [wpOpsIn, go_sem, Exit.then, hr, Oper.semAt_none, Oper.uponIn]
   refine wpIn_cond_false (by simp [Act.eval, Array.replicate]) (wpIn_skip ?_)
   exact ⟨_, by simp [results, Tryz.results107], Below.refl _ w, _, rfl, fun ρ => ⟨[], rfl, rfl⟩⟩
  | true =>
   simp [wpOpsIn, go_sem, Exit.then, hr, Oper.semAt_none, Oper.uponIn]
   refine wpIn_cond_true (by simp [Act.eval, Array.replicate]) (wpIn_region ?_)
   simp [wpOpsIn, go_sem, hr, Oper.semAt_none, Oper.uponIn, Instr.panic]
   exact ⟨Below.refl _ w, rfl⟩
theorem refused_idle (b : Nat) (hp : List O) (k : Nat) : DefSound (GGx kCa kDb) PP ⟨106, [], [.ptr b 0 k]⟩ .returning .returning hp fun hp' => hp' = hp := by
 refine ⟨ent Tryz.func106 (by kernel_rfl) rfl, fun B w0 gs ρ w us n hh hbel hB hgs hus => ?_⟩
 obtain ⟨u1, r1, rfl, h1, rfl⟩ := hus
 refine callsDIn_of_wpSIn Tryz.func106 rfl trivial fun c₀ cs hu => ?_
 apply wpSIn_seq
 apply wpSIn_region
 simp [wpOpsSIn, go_sem, recoverD, hu, Exit.thenS]
 have hr : (Fr none).round = none := rfl
 refine wpSIn_of_wpIn rfl (wpIn_seq (wpIn_region ?_))
 simp [wpOpsIn, go_sem, Exit.then, hr, Oper.semAt_none, Oper.uponIn]
 refine wpIn_block (wpIn_seq (wpIn_region ?_))
 simp [wpOpsIn, go_sem, Exit.then, hr, Oper.semAt_none, Oper.uponIn]
 refine wpIn_cond_true (by simp [Act.eval, Array.replicate]) (wpIn_skip ?_)
 have hc : c₀ = { c₀ with mode := .returning } := by cases c₀; simp_all
 refine ⟨rfl, .returning, ?_, .tuple #[], by simp [results, Tryz.results106], rfl, ⟨_, rfl⟩, hp, ρ, hh, Ren.le_refl _, hbel, hgs, rfl⟩
 rw [← hc]
theorem store_cell {hp : List O} {b : Nat} {v0 : V} {n : Int} {ρ : Ren} {B : Nat} {w : World} (hh : HR (GGx kCa kDb) B ρ hp w) (hb : hp.getD b .gone = .cells true [v0]) {u : Value} (hu : VR ρ (.ptr b 0 0) u) :
  ∃ w', (Instr.storeAt 31 u (.int .i64 n)).run PP w = .ok () w' ∧ HR (GGx kCa kDb) B ρ (hp.set b (.cells true [.int .i64 n])) w' ∧ Below B w w' ∧ KeepsOthers w w' := by
 have hE := EE_ok (kCa := kCa) (kDb := kDb) (cts := []) (inl := []) trivial trivial
 have hlt : b < gbase := by
  have := getD_gone (l := hp) (b := b) (by rw [hb]; simp)
  have := hh.small
  omega
 have hble : Nat.ble gbase b = false := by
  cases h : Nat.ble gbase b with
  | false => rfl
  | true => have := Nat.le_of_ble_eq_true h; omega
 have ht : TR ρ [(0, .ptr b 0 0), (1, .int .i64 n)] { tmps := #[u, .int .i64 n], defers := [] } := by
  intro t
  rw [look_cons]
  by_cases h0 : 0 = t
  ·subst h0; simpa using hu
  ·rw [if_neg h0, look_cons]
   by_cases h1 : 1 = t
   ·subst h1; rw [if_pos rfl]; exact rfl
   ·rw [if_neg h1]; trivial
 have he : evOp (EE kCa kDb [] []) [(0, .ptr b 0 0), (1, .int .i64 n)] hp (.store 31 (.tmp 0) (.tmp 1)) = .store b (.cells true [.int .i64 n]) := by
  show (match Nat.ble gbase b with | true => R.bad | false => match stO (hp.getD b .gone) 0 0 (.int .i64 n) 1 with | some o => R.store b o | none => R.bad) = _
  rw [hble, hb]
  rfl
 obtain ⟨w', h1, h2, h3, h4⟩ := evOp_store (P := PP) (o := ⟨none, .store 31 (.tmp 0) (.tmp 1), 0, "", #[], none⟩) hE.ok hh ht he
 refine ⟨w', ?_, h2, h3, h4⟩
 have h1 : (do Instr.storeAt 31 u (.int .i64 n); pure Next.skip : Sem Next).run PP w = .ok .skip w' := h1
 simp only [Sem.run_bind] at h1
 cases hx : (Instr.storeAt 31 u (.int .i64 n)).run PP w with
 | ok a w2 => rw [hx] at h1; simp at h1; rw [h1]
 | halt s w2 => rw [hx] at h1; simp [Result.andThen] at h1
theorem as_errno (v : Value) (w : World) : (Instr.typeAssert (.iface 31 v) 20 31 true).run PP w = .ok (.tuple #[v, .bool true]) w := by kernel_rfl
theorem refused_panic {b : Nat} {hp : List O} {v0 : V} {n0 : Int} (hb : hp.getD b .gone = .cells true [v0]) : DefSound (GGx kCa kDb) PP ⟨106, [], [.ptr b 0 0]⟩ (.panicking [{ v := .iface 31 (.int .i64 n0), recovered := false }]) (.panicking [{ v := .iface 31 (.int .i64 n0), recovered := true }]) hp fun hp' => hp' = hp.set b (.cells true [.int .i64 n0]) := by
 refine ⟨ent Tryz.func106 (by kernel_rfl) rfl, fun B w0 gs ρ w us n hh hbel hB hgs hus => ?_⟩
 obtain ⟨u1, r1, rfl, h1, rfl⟩ := hus
 have hu1 := h1
 obtain ⟨w', hrun, h2, h3, h4⟩ := store_cell (n := n0) hh hb h1
 obtain ⟨rg, _, _, _, rfl⟩ := h1
 refine callsDIn_of_wpSIn Tryz.func106 rfl trivial fun c₀ cs hu => ?_
 apply wpSIn_seq
 apply wpSIn_region
 simp [wpOpsSIn, go_sem, recoverD, hu, Exit.thenS]
 have hr : (Fr none).round = none := rfl
 refine wpSIn_of_wpIn rfl (wpIn_seq (wpIn_region ?_))
 simp [wpOpsIn, go_sem, Exit.then, hr, Oper.semAt_none, Oper.uponIn]
 refine wpIn_block (wpIn_seq (wpIn_region ?_))
 simp [wpOpsIn, go_sem, Exit.then, hr, Oper.semAt_none, Oper.uponIn]
 refine wpIn_cond_false (by simp [Act.eval, Array.replicate]) (wpIn_seq (wpIn_region ?_))
 simp [wpOpsIn, go_sem, Exit.then, hr, Oper.semAt_none, Oper.uponIn, as_errno]
 refine wpIn_seq (wpIn_seq (wpIn_region ?_))
 simp [wpOpsIn, go_sem, Exit.then, hr, Oper.semAt_none, Oper.uponIn]
 refine wpIn_cond_false (by simp [Act.eval, Array.replicate]) (wpIn_skip ?_)
 refine wpIn_region ?_
 simp [go_sem] at hrun
 simp [wpOpsIn, go_sem, hr, Oper.semAt_none, Oper.uponIn, hrun]
 exact ⟨rfl, .panicking [{ v := .iface 31 (.int .i64 n0), recovered := true }], rfl, .tuple #[], by simp [results, Tryz.results106], rfl, ⟨_, rfl⟩, _, ρ, h2, Ren.le_refl _, hbel.trans h3, hgs.keeps h4, rfl⟩
end Go.Ab

set_option maxRecDepth 100000
namespace Go.Ab
open Go.Proofs
end Go.Ab

set_option maxRecDepth 100000
namespace Go.Ab
open Go.Proofs
end Go.Ab

set_option maxRecDepth 100000
namespace Go.Ab
open Go.Proofs
theorem foldN_bt (c : Int → Bool) (n : Nat) (hn : n ≤ 64) : Uk (foldN (fun s i => bif c i then uor s (ushl 1 i) else s) 0 n) ∧ ∀ m : Nat, bt (foldN (fun s i => bif c i then uor s (ushl 1 i) else s) 0 n) m = (decide (m < n) && c m) := by
 induction n with
 | zero => exact ⟨uk_0, fun m => by simp [foldN, bt_0]⟩
 | succ n ih =>
  obtain ⟨h1, h2⟩ := ih (by omega)
  simp only [foldN]
  cases hc : c n with
  | false =>
   refine ⟨h1, fun m => ?_⟩
   rw [cond_false, h2]
   by_cases e : m = n
   ·subst e; simp [hc]
   ·congr 1
    simp; omega
  | true =>
   refine ⟨uk_or _ _, fun m => ?_⟩
   rw [cond_true, bt_or h1 (uk_shl _ _), bt_shl (by omega) (by omega), h2]
   by_cases e : m = n
   ·subst e; simp [hc]
   ·have e2 : ¬ ((n : Int) = m) := by omega
    have e3 : decide (m < n) = decide (m < n + 1) := by congr 1; exact propext ⟨fun h => by omega, fun h => by omega⟩
    simp [e2, e3]
theorem getD_mem {zs : List Int} {i : Nat} (h : i < zs.length) : zs.getD i 0 ∈ zs := by simp [List.getD, h]
theorem where_bt (p : Int → Bool) {zs : List Int} (h : zs.length ≤ 64) : Uk (whereR p zs) ∧ ∀ m : Nat, bt (whereR p zs) m = (decide (m < zs.length) && p (zs.getD m 0)) := by
 have := foldN_bt (fun i => p (zs.getD i.toNat 0)) zs.length h
 exact this
theorem occ_bt {f r : Int} {zs : List Int} (h : validBd f r zs = true) (hl : zs.length ≤ 64) : Uk (occR f r zs) ∧ ∀ m : Nat, bt (occR f r zs) m = (decide (m < zs.length) && !decide (zs.getD m 0 = 0)) := by
 obtain ⟨h1, h2⟩ := where_bt posP hl
 obtain ⟨h3, h4⟩ := where_bt negP hl
 unfold occR sidesR
 rw [h]
 refine ⟨uk_or _ _, fun m => ?_⟩
 show bt (uor (whereR posP zs) (whereR negP zs)) m = _
 rw [bt_or h1 h3, h2, h4, ← Bool.and_or_distrib_left]
 congr 1
 unfold posP negP
 rw [Bool.eq_iff_iff]
 simp only [Bool.or_eq_true, decide_eq_true_eq, Bool.not_eq_true', decide_eq_false_iff_not]
 omega
theorem sgn_pos {p : Int} : sgn p = 1 ↔ 0 < p := by have := sgn_eq p; omega
theorem sgn_neg {p : Int} : sgn p = -1 ↔ p < 0 := by have := sgn_eq p; omega
theorem occ_eq {f r : Int} {zs : List Int} (h : validBd f r zs = true) (hl : zs.length ≤ 64) : occL zs = occR f r zs := by
 obtain ⟨h1, h2⟩ := occ_bt h hl
 have hb : ∀ x ∈ sideL zs 1 ++ sideL zs (-1), 0 ≤ x ∧ x < 64 := by
  intro x hx
  rcases List.mem_append.1 hx with hx | hx <;> (have := mem_sideL.1 hx; omega)
 obtain ⟨h3, h4⟩ := ofL_bt _ 0 hb uk_0
 refine uk_ext h3 h1 fun m hm => ?_
 show bt (ofL (sideL zs 1 ++ sideL zs (-1)) 0) m = _
 rw [h4, h2, bt_0, Bool.false_or, Bool.eq_iff_iff]
 simp only [decide_eq_true_eq, List.mem_append, mem_sideL, sgn_pos, sgn_neg, Int.toNat_natCast, Bool.and_eq_true, Bool.not_eq_true', decide_eq_false_iff_not]
 omega
theorem occ_on {f r : Int} {zs : List Int} (h : orthBd f r zs = true) (hl : zs.length ≤ 64) : OnS f r (occR f r zs) := fun m _ hb => by
 rw [(occ_bt (orth_valid h).2.2.1 hl).2, Bool.and_eq_true, decide_eq_true_eq] at hb
 exact (sq_iff h).2 ⟨by omega, by omega⟩
theorem piece_bd {f r : Int} {zs : List Int} (h : orthBd f r zs = true) {i : Int} (h0 : 0 ≤ i) (h1 : i < zs.length) : -6 ≤ zs.getD i.toNat 0 ∧ zs.getD i.toNat 0 ≤ 6 := (orth_valid h).2.2.2 _ (getD_mem (by omega))
theorem kind_abs {p : Int} (h : -6 ≤ p ∧ p ≤ 6) : kind8 p = p.natAbs := by
 have hw : ∀ q : _root_.Fin 13, kind8 ((q.val : Int) - 6) = (((q.val : Int) - 6).natAbs : Int) := by decide +kernel
 have h2 := hw ⟨(p + 6).toNat, by omega⟩
 simp only at h2
 rwa [show (((p + 6).toNat : Int) - 6) = p by omega] at h2
theorem reaches_self {f r kd a occ : Int} (ha : validB f r a = true) (hk : kinds5 kd) : reachesB f r kd a a occ = false := by
 obtain ⟨e1, e2⟩ := diff_w ha ha
 have hl : (lineR f a a).2.2 = false := by
  rcases line_R ha ha with ⟨e, _⟩ | ⟨_, h⟩
  ·rw [e]
  ·unfold onLine at h; omega
 have hd : distR f a a = 0 := by rw [dist_2 ha ha, show px f a - px f a = 0 by omega, show py f a - py f a = 0 by omega]; rfl
 unfold reachesB
 rw [e1, e2, hl, hd, show px f a - px f a = 0 by omega, show py f a - py f a = 0 by omega]
 rcases hk with rfl | rfl | rfl | rfl | rfl <;> rfl
theorem of_bt {f r : Int} {zs : List Int} {occ : Int} (h : orthBd f r zs = true) (hu : Uk occ) (hon : OnS f r occ) {i : Int} (h0 : 0 ≤ i) (h1 : i < zs.length) (hp : zs.getD i.toNat 0 ≠ 0) :
  Uk (ofR f r zs i occ) ∧ OnS f r (ofR f r zs i occ) ∧ ∀ b, validB f r b = true → bt (ofR f r zs i occ) b.toNat = attB4 f r zs i b occ := by
 have hi := (sq_iff h).2 ⟨h0, h1⟩
 have hb := piece_bd h h0 h1
 obtain ⟨hv, hn, _⟩ := orth_valid h
 unfold ofR attB4
 rw [imax_abs hb, kind_abs hb]
 by_cases hk : zs.getD i.toNat 0 = 1 ∨ zs.getD i.toNat 0 = -1
 ·rw [show (decide (zs.getD i.toNat 0 = 1) || decide (zs.getD i.toNat 0 = -1)) = true by simpa using hk, show decide (((zs.getD i.toNat 0).natAbs : Int) = 1) = true by rw [decide_eq_true_eq]; omega, cond_true]
  obtain ⟨_, p1, p2, p3⟩ := pawn_bt (bl := decide (zs.getD i.toNat 0 < 0)) hi
  refine ⟨p1, p2, fun b hbv => ?_⟩
  rw [p3 b hbv, cond_true, Bool.eq_iff_iff, has_mem, mem_filtB]
  have := valid_lt hbv
  exact ⟨fun h => ⟨this.1, by omega, h⟩, fun h => h.2.2⟩
 ·have hk' : (decide (zs.getD i.toNat 0 = 1) || decide (zs.getD i.toNat 0 = -1)) = false := by simpa using hk
  rw [hk', show decide (((zs.getD i.toNat 0).natAbs : Int) = 1) = false by rw [decide_eq_false_iff_not]; omega, cond_false]
  have hr := (rayOn_iff hu).2 ⟨hi, hon⟩
  have h5 : kinds5 ((zs.getD i.toNat 0).natAbs : Int) := by unfold kinds5; omega
  obtain ⟨p1, p2, p3⟩ := reach_bt hr hu h5
  refine ⟨p1, p2, fun b hbv => ?_⟩
  show bt (reachS f r _ i occ) b.toNat = _
  rw [p3 b hbv, cond_false]
  by_cases e : i = b
  ·subst e; rw [reaches_self hi h5]; simp
  ·simp [e]
theorem isP_sgn (p : Int) (bl : Bool) : isP p bl = decide (sgn p = sdI bl) := by
 unfold isP sdI
 rw [Bool.eq_iff_iff]
 cases bl <;> simp [sgn_pos, sgn_neg]
theorem isP_nz {p : Int} {bl : Bool} (h : isP p bl = true) : p ≠ 0 := by
 rintro rfl; cases bl <;> cases h
theorem mem_attL {f r : Int} {zs : List Int} {to : Int} {bl : Bool} {i : Int} : i ∈ attL f r zs to bl ↔ 0 ≤ i ∧ i < zs.length ∧ isP (zs.getD i.toNat 0) bl = true ∧ attB4 f r zs i to (occL zs) = true := by
 unfold attL
 rw [List.mem_filter, mem_sideL, isP_sgn, decide_eq_true_eq]
 simp only [attC4, and_assoc]
theorem att_bit {f r : Int} {zs : List Int} {to : Int} {bl : Bool} (h : orthBd f r zs = true) (hl : zs.length ≤ 64) (ht : validB f r to = true) {i : Int} (h0 : 0 ≤ i) (h1 : i < zs.length) : attB f r zs to bl (occR f r zs) i = true ↔ i ∈ attL f r zs to bl := by
 rw [mem_attL]
 unfold attB
 rw [Bool.and_eq_true]
 have ho := occ_bt (orth_valid h).2.2.1 hl
 have hv := valid_lt ht
 constructor
 ·rintro ⟨h2, h3⟩
  obtain ⟨p1, p2, p3⟩ := of_bt h ho.1 (occ_on h hl) h0 h1 (isP_nz h2)
  rw [bit_of p1 hv.1 hv.2.2, p3 to ht, ← occ_eq (orth_valid h).2.2.1 hl] at h3
  exact ⟨h0, h1, h2, h3⟩
 ·rintro ⟨_, _, h2, h3⟩
  obtain ⟨p1, p2, p3⟩ := of_bt h ho.1 (occ_on h hl) h0 h1 (isP_nz h2)
  rw [bit_of p1 hv.1 hv.2.2, p3 to ht, ← occ_eq (orth_valid h).2.2.1 hl]
  exact ⟨h2, h3⟩
theorem attR_bt {f r : Int} {zs : List Int} {to : Int} {bl : Bool} (h : orthBd f r zs = true) (hl : zs.length ≤ 64) (ht : validB f r to = true) : Uk (attR f r zs to bl) ∧ ∀ m : Nat, bt (attR f r zs to bl) m = decide ((m : Int) ∈ attL f r zs to bl) := by
 obtain ⟨h1, h2⟩ := foldN_bt (attB f r zs to bl (occR f r zs)) zs.length hl
 refine ⟨h1, fun m => ?_⟩
 show bt (foldN (fun s i => bif attB f r zs to bl (occR f r zs) i then uor s (ushl 1 i) else s) 0 zs.length) m = _
 rw [h2, Bool.eq_iff_iff, Bool.and_eq_true, decide_eq_true_eq, decide_eq_true_eq]
 constructor
 ·rintro ⟨h3, h4⟩; exact (att_bit h hl ht (by omega) (by omega)).1 h4
 ·intro h3
  have := mem_attL.1 h3
  exact ⟨by omega, (att_bit h hl ht (by omega) (by omega)).2 h3⟩
end Go.Ab

set_option maxRecDepth 100000
set_option maxHeartbeats 4000000
namespace Go.Ab
open Go.Proofs Go.RowKit
variable {kDb : Bool}
theorem quiet_region {E : Env} {P : Program} {N : Nat} {tm : Tm} {hp : List O} {n : Nat} {B : Nat} {w0 : World} {S : Nat} {D : List Deferred} {gs : List (Nat × Obj)} {ρ : Ren} {a : Act} {w : World} (hE : E.Fn P) (m : Nat) {id : Nat} {ops : Array Oper} (hq : ops.toList.all (fun o => quietOp o.op) = true) {Q2 : Tm → List O → Prop} {K : Act → World → Prop}
  (hs : sat E.G P (fun _ tm hp => Q2 tm hp) (evOps E (hdl E m) N ops.toList ops.toList tm hp (.ret .normal) noX)) (h : Rel E.G B w0 S N D gs ρ tm hp a w) (hd : a.defers = D)
  (hK : ∀ a' w' tm' hp' ρ', Rel E.G B w0 S N D gs ρ' tm' hp' a' w' → a'.defers = D → ρ.le ρ' → Q2 tm' hp' → K a' w') : (Code.region id ops false).wpIn (Fr none) n P (fun e a' w' => e = .normal ∧ K a' w') a w := by
 refine wpIn_region ?_
 have h1 := evOps_gen (n := n) (ro := none) (ρ0 := ρ) (tl := []) (suf := []) (Qx := fun e a' w' => e = .normal ∧ ∃ tm1 hp1 ρ1, Rel E.G B w0 S N D gs ρ1 tm1 hp1 a' w' ∧ ρ.le ρ1 ∧ Q2 tm1 hp1) hE.ok (ps_ok hE) (hdl_ok hE m) (ops := ops)
  (fun a' w' ⟨tm1, hp1, ρ1, r1, r2, r3⟩ => ⟨rfl, tm1, hp1, ρ1, r1, r2, r3⟩) (fun e a2 w2 ⟨_, _, _, _, _, q⟩ => q.elim) ops.toList [] tm hp ρ a w (by simp) hs h (Ren.le_refl ρ)
 rw [List.append_nil, List.length_nil, Array.length_toList, ← List.range_eq_range'] at h1
 rw [← List.append_nil (List.range ops.size)]
 refine quiet_ops (fun e a w he hq => absurd hq.1 he) _ a w (fun i _ o ho => ?_) h1 ?_
 ·rw [← Array.getElem?_toList] at ho
  exact List.all_eq_true.1 hq o (List.mem_of_getElem? ho)
 ·rintro a1 w1 hd1 ⟨_, tm1, hp1, ρ1, r1, r2, r3⟩
  exact ⟨rfl, hK a1 w1 tm1 hp1 ρ1 r1 (hd1.trans hd) r2 r3⟩
abbrev u8andn (a b : Int) : Int := band .andNot .u8 a b
def epB (zs : List Int) (pa a b : Int) : Bool := decide (absP (zs.getD a.toNat 0) = 1) && decide (b = pa)
def at1R (f : Int) (zs : List Int) (pa a b : Int) : Int := bif epB zs pa a b then IntKind.i64.wrap (IntKind.i64.wrap (a - a.tmod f) + b.tmod f) else b
def capR (f : Int) (zs : List Int) (pa a b : Int) : Int := zs.getD (at1R f zs pa a b).toNat 0
def at2R (f : Int) (zs : List Int) (pa a b : Int) : Int := bif decide (capR f zs pa a b = 0) then -1 else at1R f zs pa a b
def zs1R (f : Int) (zs : List Int) (pa a b : Int) : List Int := bif decide (0 ≤ at2R f zs pa a b) then zs.set (at2R f zs pa a b).toNat 0 else zs
def zs2R (f : Int) (zs : List Int) (pa a b : Int) : List Int := ((zs1R f zs pa a b).set a.toNat 0).set b.toNat (zs.getD a.toNat 0)
def cstR (f r : Int) (zs : List Int) (bl : Bool) (ca pa a b pr : Int) : Bool := wayB f r zs (wayN zs bl ca a b) && !goesB f r zs bl pa a b pr
def putR (l : List Int) (bl : Bool) (b pr : Int) (c : Bool) (n : Nat) : List Int := bif !decide (pr = 0) && bl then l.set b.toNat (w8 (0 - pr)) else bif !decide (pr = 0) then l.set b.toNat pr else bif c then (l.set (wCro n).toNat (l.getD (wCor n).toNat 0)).set (wCor n).toNat 0 else l
def zs3R (f r : Int) (zs : List Int) (bl : Bool) (ca pa a b pr : Int) : List Int := putR (zs2R f zs pa a b) bl b pr (cstR f r zs bl ca pa a b pr) (wayN zs bl ca a b)
def caR (ca a b : Int) : Int := u8andn ca (u8or (lostR a) (lostR b))
def twoB (f : Int) (zs : List Int) (a b : Int) : Bool := decide (absP (zs.getD a.toNat 0) = 1) && (decide (IntKind.i64.wrap (b - a) = IntKind.i64.wrap (2 * f)) || decide (IntKind.i64.wrap (b - a) = IntKind.i64.wrap (-2 * f)))
def paR (f : Int) (zs : List Int) (a b : Int) : Int := bif twoB f zs a b then IntKind.i64.wrap (a + IntKind.i64.wrap ((IntKind.i64.wrap (b - a)).tdiv 2)) else -1
def haR (f : Int) (zs : List Int) (pa ha a b : Int) : Int := bif decide (absP (zs.getD a.toNat 0) = 1) || !decide (capR f zs pa a b = 0) then 0 else IntKind.i64.wrap (ha + 1)
def fuR (bl : Bool) (fu : Int) : Int := bif bl then IntKind.i64.wrap (fu + 1) else fu
def err1 (p : Psn) (m : Mov) : Bool := !p.ok || !mvB p.f p.r m.a m.b m.p
def err3 (p : Psn) (m : Mov) : Bool := isP (p.zs.getD m.b.toNat 0) p.bl || (!goesB p.f p.r p.zs p.bl p.pa m.a m.b m.p && (!wayB p.f p.r p.zs (wayN p.zs p.bl p.ca m.a m.b) || !decide (m.p = 0)))
def err4 (p : Psn) (m : Mov) : Bool := chkB p.f p.r (zs3R p.f p.r p.zs p.bl p.ca p.pa m.a m.b m.p) p.bl || (cstR p.f p.r p.zs p.bl p.ca p.pa m.a m.b m.p && (chkB p.f p.r p.zs p.bl || !decide ((attackersR p.f p.r p.zs (wCro (wayN p.zs p.bl p.ca m.a m.b)) (!p.bl)).1 = 0)))
def err5 (p : Psn) (m : Mov) : Bool := decide (10000 < haR p.f p.zs p.pa p.ha m.a m.b) || decide (10000 < fuR p.bl p.fu)
def mkE5 (p : Psn) (m : Mov) : Int := bif err1 p m then 2 else bif !isP (p.zs.getD m.a.toNat 0) p.bl then 9 else bif err3 p m then 10 else bif err4 p m then 90 else bif err5 p m then 7 else 0
def mkP (p : Psn) (m : Mov) : Psn := bif decide (mkE5 p m = 0) then ⟨p.f, p.r, zs3R p.f p.r p.zs p.bl p.ca p.pa m.a m.b m.p, !p.bl, caR p.ca m.a m.b, paR p.f p.zs m.a m.b, haR p.f p.zs p.pa p.ha m.a m.b, fuR p.bl p.fu⟩ else ⟨0, 0, [], false, 0, 0, 0, 0⟩
def mkU (p : Psn) (m : Mov) : Und := bif decide (mkE5 p m = 0) then ⟨m, capR p.f p.zs p.pa m.a m.b, at2R p.f p.zs p.pa m.a m.b, p.ca, p.pa, p.ha, p.fu⟩ else ⟨⟨0, 0, 0⟩, 0, 0, 0, 0, 0, 0⟩
abbrev psV (b : Nat) (p : Psn) : V := .agg [I p.f, I p.r, .sl b 0 p.zs.length none, Bb p.bl, .int .u8 p.ca, I p.pa, I p.ha, I p.fu]
abbrev unV (u : Und) : V := .agg [I u.m.a, I u.m.b, .int .i8 u.m.p, .int .i8 u.c, I u.at_, .int .u8 u.ca, I u.pa, I u.ha, I u.fu]
theorem pnR_ok : ∀ a b v, pnRefuse 31 a = some (b, v) → PnSound PP 107 a b v := by
 intro a b v h
 unfold pnRefuse at h
 split at h
 ·cases h; exact refuse_pn _ _ _
 ·cases h
def seqTail : Code → Code
 | .seq _ y => y
 | c => c
noncomputable abbrev EM (kDb : Bool) : Env := { mkEP tyT (GGx true kDb) [(40, c_pvalid), (56, c_mvalid), (108, c_is), (111, c_kind), (109, c_mcastling), (110, c_mgoes), (58, c_pcopy), (112, c_mlost), (113, c_Attackers), (114, c_mchk)] [] [(107, pnRefuse 31)] with cut := true }
theorem EM_ok {kDb : Bool} : (EM kDb).Fn PP := cutE (envP_ok mixedOk tyOk ⟨c_pvalid_ok, c_mvalid_ok, c_is_ok, c_kind_ok, c_mcastling_ok, c_mgoes_ok, c_pcopy_ok, c_mlost_ok, c_Attackers_ok, c_mchk_ok, trivial⟩ trivial ⟨pnR_ok, trivial⟩)
theorem mk_pan {kDb : Bool} {zs : List Int} {B1 B2 : O} (n : Int) (hn : (!decide (n = 0)) = true) (o1 o2 o3 o4 o5 o6 o7 o8 u1 u2 u3 u4 u5 u6 u7 u8 u9 : V) :
  Lv (EM kDb) PP (fun tm hp => FinL (EM kDb) Tryz.f60 1 (.tup [psV 1 ⟨0, 0, [], false, 0, 0, 0, 0⟩, unV ⟨⟨0, 0, 0⟩, 0, 0, 0, 0, 0, 0⟩, I n]) [.ints true .i8 []] .ret tm hp) [⟨106, [], [.ptr 5 0 0]⟩, ⟨105, [.ptr 5 0 0, .ptr 3 0 0, .ptr 4 0 0], []⟩]
   (.panicking [{ v := .iface 31 (.int .i64 n), recovered := false }]) [(4, .ptr 3 0 0), (5, .ptr 4 0 0), (6, .ptr 5 0 0)] [.ints false .i8 zs, B1, B2, .cells true [o1, o2, o3, o4, o5, o6, o7, o8], .cells true [u1, u2, u3, u4, u5, u6, u7, u8, u9], .cells true [I 0]] := by
 have hE := EM_ok (kDb := kDb)
 refine ⟨by simp, _, _, refused_panic (kCa := true) (kDb := kDb) (b := 5) (v0 := I 0) rfl, ?_⟩
 rintro _ rfl
 refine ⟨by simp [Go.settle], _, fun hp' => hp' = [.ints false .i8 zs, B1, B2, .cells true [I 0, I 0, .nils, .lit false, .int .u8 0, I 0, I 0, I 0], .cells true [I 0, I 0, .int .i8 0, .int .i8 0, I 0, .int .u8 0, I 0, I 0, I 0], .cells true [I n]], defS_of hE 2 Tryz.func105 (by kernel_rfl) rfl rfl ?_, ?_⟩
 ·refine sat_split hE 2 rfl (fun _ => ?_) (fun h => absurd (hn.symm.trans h) (by simp))
  exact sat_ret ⟨.inl rfl, [], rfl, rfl⟩
 ·rintro _ rfl
  refine ⟨rfl, ?_⟩
  refine fin_le (Ent.phan (b := 3) (j := 2) (ww := true) (o := .ints true .i8 []) rfl rfl ⟨by simp, by simp, trivial, rfl⟩ (blt_lt rfl)) (fin_new 6 (.inr rfl) rfl rfl rfl rfl rfl rfl) (fun _ _ h => h)
theorem mk_pan7 {kDb : Bool} {zs : List Int} {B1 B2 : O} (lx : List Int) (n : Int) (hn : (!decide (n = 0)) = true) (o1 o2 o3 o4 o5 o6 o7 o8 u1 u2 u3 u4 u5 u6 u7 u8 u9 : V) :
  Lv (EM kDb) PP (fun tm hp => FinL (EM kDb) Tryz.f60 1 (.tup [psV 1 ⟨0, 0, [], false, 0, 0, 0, 0⟩, unV ⟨⟨0, 0, 0⟩, 0, 0, 0, 0, 0, 0⟩, I n]) [.ints true .i8 []] .ret tm hp) [⟨106, [], [.ptr 5 0 0]⟩, ⟨105, [.ptr 5 0 0, .ptr 3 0 0, .ptr 4 0 0], []⟩]
   (.panicking [{ v := .iface 31 (.int .i64 n), recovered := false }]) [(4, .ptr 3 0 0), (5, .ptr 4 0 0), (6, .ptr 5 0 0)] [.ints false .i8 zs, B1, B2, .cells true [o1, o2, o3, o4, o5, o6, o7, o8], .cells true [u1, u2, u3, u4, u5, u6, u7, u8, u9], .cells true [I 0], .ints true .i8 lx] := by
 have hE := EM_ok (kDb := kDb)
 refine ⟨by simp, _, _, refused_panic (kCa := true) (kDb := kDb) (b := 5) (v0 := I 0) rfl, ?_⟩
 rintro _ rfl
 refine ⟨by simp [Go.settle], _, fun hp' => hp' = [.ints false .i8 zs, B1, B2, .cells true [I 0, I 0, .nils, .lit false, .int .u8 0, I 0, I 0, I 0], .cells true [I 0, I 0, .int .i8 0, .int .i8 0, I 0, .int .u8 0, I 0, I 0, I 0], .cells true [I n], .ints true .i8 lx], defS_of hE 2 Tryz.func105 (by kernel_rfl) rfl rfl ?_, ?_⟩
 ·refine sat_split hE 2 rfl (fun _ => ?_) (fun h => absurd (hn.symm.trans h) (by simp))
  exact sat_ret ⟨.inl rfl, [], rfl, rfl⟩
 ·rintro _ rfl
  refine ⟨rfl, ?_⟩
  refine fin_le (Ent.phan (b := 3) (j := 2) (ww := true) (o := .ints true .i8 []) rfl rfl ⟨by simp, by simp, trivial, rfl⟩ (blt_lt rfl)) (fin_new 7 (.inr rfl) rfl rfl rfl rfl rfl rfl) (fun _ _ h => h)
theorem mk_ret {kDb : Bool} {zs : List Int} {B1 B2 : O} (q : Psn) (x : Und) (hq : q.zs.length = zs.length) :
  Lv (EM kDb) PP (fun tm hp => FinL (EM kDb) Tryz.f60 1 (.tup [psV 1 q, unV x, I 0]) [.ints true .i8 q.zs] .ret tm hp) [⟨106, [], [.ptr 5 0 0]⟩, ⟨105, [.ptr 5 0 0, .ptr 3 0 0, .ptr 4 0 0], []⟩]
   .returning [(4, .ptr 3 0 0), (5, .ptr 4 0 0), (6, .ptr 5 0 0)] [.ints false .i8 zs, B1, B2, .cells true [I q.f, I q.r, .sl 6 0 zs.length none, Bb q.bl, .int .u8 q.ca, I q.pa, I q.ha, I q.fu], .cells true [I x.m.a, I x.m.b, .int .i8 x.m.p, .int .i8 x.c, I x.at_, .int .u8 x.ca, I x.pa, I x.ha, I x.fu], .cells true [I 0], .ints true .i8 q.zs] := by
 have hE := EM_ok (kDb := kDb)
 refine ⟨by simp, _, _, refused_idle (kCa := true) (kDb := kDb) 5 _ 0, ?_⟩
 rintro _ rfl
 refine ⟨by simp [Go.settle], _, fun hp' => hp' = [.ints false .i8 zs, B1, B2, .cells true [I q.f, I q.r, .sl 6 0 zs.length none, Bb q.bl, .int .u8 q.ca, I q.pa, I q.ha, I q.fu], .cells true [I x.m.a, I x.m.b, .int .i8 x.m.p, .int .i8 x.c, I x.at_, .int .u8 x.ca, I x.pa, I x.ha, I x.fu], .cells true [I 0], .ints true .i8 q.zs], defS_of hE 2 Tryz.func105 (by kernel_rfl) rfl rfl ?_, ?_⟩
 ·refine sat_split hE 2 rfl (fun h => absurd h (by simp)) (fun _ => ?_)
  exact sat_ret ⟨.inl rfl, [], rfl, rfl⟩
 ·rintro _ rfl
  refine ⟨rfl, ?_⟩
  rw [← hq]
  exact fin_l0 (fin_new 6 (.inr rfl) rfl rfl rfl rfl rfl rfl)
theorem mk_err {p : Psn} {m : Mov} {n : Int} (h : mkE5 p m = n) (hn : (!decide (n = 0)) = true) : mkP p m = ⟨0, 0, [], false, 0, 0, 0, 0⟩ ∧ mkU p m = ⟨⟨0, 0, 0⟩, 0, 0, 0, 0, 0, 0⟩ := by
 have h0 : decide (mkE5 p m = 0) = false := by rw [h]; simpa using hn
 exact ⟨by rw [mkP, h0]; rfl, by rw [mkU, h0]; rfl⟩
theorem mk_pleaf {kDb : Bool} {zs : List Int} {B1 B2 : O} {p : Psn} {m : Mov} {n : Int} {tm : Tm} {hp : List O} {o1 o2 o3 o4 o5 o6 o7 o8 u1 u2 u3 u4 u5 u6 u7 u8 u9 : V} (he : mkE5 p m = n) (hn : (!decide (n = 0)) = true) (hent : Ent (GGx true kDb) 6 tm hp [(4, .ptr 3 0 0), (5, .ptr 4 0 0), (6, .ptr 5 0 0)] [.ints false .i8 zs, B1, B2, .cells true [o1, o2, o3, o4, o5, o6, o7, o8], .cells true [u1, u2, u3, u4, u5, u6, u7, u8, u9], .cells true [I 0]]) :
  FinDL (EM kDb) PP Tryz.f60 6 1 (.tup [psV 1 (mkP p m), unV (mkU p m), I (mkE5 p m)]) [.ints true .i8 (mkP p m).zs] [⟨106, [], [.ptr 5 0 0]⟩, ⟨105, [.ptr 5 0 0, .ptr 3 0 0, .ptr 4 0 0], []⟩] (.panic [{ v := .iface 31 (.int .i64 n), recovered := false }]) tm hp := by
 obtain ⟨h1, h2⟩ := mk_err he hn
 rw [h1, h2, he]
 exact ⟨_, _, _, rfl, hent, mk_pan n hn o1 o2 o3 o4 o5 o6 o7 o8 u1 u2 u3 u4 u5 u6 u7 u8 u9⟩
theorem mk_pleaf7 {kDb : Bool} {zs : List Int} {B1 B2 : O} {lx : List Int} {p : Psn} {m : Mov} {n : Int} {tm : Tm} {hp : List O} {o1 o2 o3 o4 o5 o6 o7 o8 u1 u2 u3 u4 u5 u6 u7 u8 u9 : V} (he : mkE5 p m = n) (hn : (!decide (n = 0)) = true) (hent : Ent (GGx true kDb) 6 tm hp [(4, .ptr 3 0 0), (5, .ptr 4 0 0), (6, .ptr 5 0 0)] [.ints false .i8 zs, B1, B2, .cells true [o1, o2, o3, o4, o5, o6, o7, o8], .cells true [u1, u2, u3, u4, u5, u6, u7, u8, u9], .cells true [I 0], .ints true .i8 lx]) :
  FinDL (EM kDb) PP Tryz.f60 6 1 (.tup [psV 1 (mkP p m), unV (mkU p m), I (mkE5 p m)]) [.ints true .i8 (mkP p m).zs] [⟨106, [], [.ptr 5 0 0]⟩, ⟨105, [.ptr 5 0 0, .ptr 3 0 0, .ptr 4 0 0], []⟩] (.panic [{ v := .iface 31 (.int .i64 n), recovered := false }]) tm hp := by
 obtain ⟨h1, h2⟩ := mk_err he hn
 rw [h1, h2, he]
 exact ⟨_, _, _, rfl, hent, mk_pan7 lx n hn o1 o2 o3 o4 o5 o6 o7 o8 u1 u2 u3 u4 u5 u6 u7 u8 u9⟩
theorem mk_rleaf {kDb : Bool} {zs : List Int} {B1 B2 : O} {p : Psn} {m : Mov} {q : Psn} {x : Und} {tm : Tm} {hp : List O} (he : mkE5 p m = 0) (h1 : mkP p m = q) (h2 : mkU p m = x) (hq : q.zs.length = zs.length) (hent : Ent (GGx true kDb) 6 tm hp [(4, .ptr 3 0 0), (5, .ptr 4 0 0), (6, .ptr 5 0 0)] [.ints false .i8 zs, B1, B2, .cells true [I q.f, I q.r, .sl 6 0 zs.length none, Bb q.bl, .int .u8 q.ca, I q.pa, I q.ha, I q.fu], .cells true [I x.m.a, I x.m.b, .int .i8 x.m.p, .int .i8 x.c, I x.at_, .int .u8 x.ca, I x.pa, I x.ha, I x.fu], .cells true [I 0], .ints true .i8 q.zs]) :
  FinDL (EM kDb) PP Tryz.f60 6 1 (.tup [psV 1 (mkP p m), unV (mkU p m), I (mkE5 p m)]) [.ints true .i8 (mkP p m).zs] [⟨106, [], [.ptr 5 0 0]⟩, ⟨105, [.ptr 5 0 0, .ptr 3 0 0, .ptr 4 0 0], []⟩] .ret tm hp := by
 rw [h1, h2, he]
 exact ⟨_, _, _, rfl, hent, mk_ret q x hq⟩
theorem need_g2 {zs : List Int} (h : zs.length ≤ 64) {n : Nat} (hn : n = zs.length) {g b : Bool} (hb : b = true) : (!g || (decide (n = (tk zs).length) && decide ((tk zs).length ≤ 64) && b)) = true := by
 rw [need_bdv h hn hb]; simp
theorem ok_bd {p : Psn} (h : p.ok = true) : validBd p.f p.r p.zs = true ∧ castB p.f p.r p.zs p.ca = true := by
 simp only [Psn.ok, Bool.and_eq_true] at h
 exact ⟨h.1.1.1.1.1, h.1.1.2⟩
theorem mv_ab {f r a b p : Int} (h : mvB f r a b p = true) : validB f r a = true ∧ validB f r b = true := by
 simp only [mvB, Bool.and_eq_true] at h
 exact ⟨h.1.1.1, h.1.1.2⟩
theorem ep_ok {f r a b : Int} (ha : validB f r a = true) (hb : validB f r b = true) : validB f r (IntKind.i64.wrap (IntKind.i64.wrap (a - a.tmod f) + b.tmod f)) = true ∧ IntKind.i64.wrap (IntKind.i64.wrap (a - a.tmod f) + b.tmod f) = px f b + py f a * f := by
 obtain ⟨_, a1, a2, a3, a4, a5, a6, a7, a8, a9⟩ := px_bd ha
 obtain ⟨_, b1, b2, b3, b4, b5, _⟩ := px_bd hb
 have h1 := valid_lt ha
 have h2 := valid_lt hb
 have hv := on_valid (X := px f b) (Y := py f a) (valid_vs ha) (on_mk b1 b2 a3 a4)
 have h3 := valid_lt hv.1
 have e1 : IntKind.i64.wrap (a - a.tmod f) = py f a * f := by
  have : a - a.tmod f = py f a * f := by have : a.tmod f = px f a := rfl; omega
  rw [this]; exact w64_id (by omega) (by omega)
 have e2 : IntKind.i64.wrap (IntKind.i64.wrap (a - a.tmod f) + b.tmod f) = px f b + py f a * f := by
  rw [e1, show py f a * f + b.tmod f = px f b + py f a * f by have : b.tmod f = px f b := rfl; omega]
  exact w64_id (by omega) (by omega)
 exact ⟨by rw [e2]; exact hv.1, e2⟩
theorem at1_ok {f r : Int} {zs : List Int} {pa a b : Int} (ha : validB f r a = true) (hb : validB f r b = true) : validB f r (at1R f zs pa a b) = true := by
 unfold at1R
 cases epB zs pa a b
 ·exact hb
 ·exact (ep_ok ha hb).1
theorem at2_ok {f r : Int} {zs : List Int} {pa a b : Int} (hbd : validBd f r zs = true) (ha : validB f r a = true) (hb : validB f r b = true) (h0 : 0 ≤ at2R f zs pa a b) : at2R f zs pa a b < zs.length := by
 unfold at2R at h0 ⊢
 cases h : decide (capR f zs pa a b = 0) with
 | true => rw [h] at h0; simp at h0
 | false => exact ((bd_sq hbd).1 (at1_ok ha hb)).2
theorem zs1_len {f : Int} {zs : List Int} {pa a b : Int} : (zs1R f zs pa a b).length = zs.length := by
 unfold zs1R; cases decide (0 ≤ at2R f zs pa a b) <;> simp
theorem zs2_len {f : Int} {zs : List Int} {pa a b : Int} : (zs2R f zs pa a b).length = zs.length := by
 simp [zs2R, zs1_len]
theorem put_len {l : List Int} {bl : Bool} {b pr : Int} {c : Bool} {n : Nat} : (putR l bl b pr c n).length = l.length := by
 unfold putR
 cases (!decide (pr = 0) && bl) <;> cases (!decide (pr = 0)) <;> cases c <;> simp
theorem zs3_len {f r : Int} {zs : List Int} {bl : Bool} {ca pa a b pr : Int} : (zs3R f r zs bl ca pa a b pr).length = zs.length := by
 rw [zs3R, put_len, zs2_len]
theorem need_out {l : List Int} {n : Nat} (h1 : n = l.length) (h2 : n ≤ 64) : (decide (n = ((l.drop 0).take n).length) && decide (((l.drop 0).take n).length ≤ 64)) = true := by
 subst h1; simp [h2]
theorem need_outg {l : List Int} {n : Nat} {g : Bool} (h1 : n = l.length) (h2 : n ≤ 64) : (!g || (decide (n = ((l.drop 0).take n).length) && decide (((l.drop 0).take n).length ≤ 64))) = true := by
 rw [need_out h1 h2]; simp
theorem need_ixt {zs : List Int} {b : Int} (h : 0 ≤ b) (h1 : b < zs.length) : (decide (0 ≤ b) && decide (b < (tk zs).length)) = true := by rw [tk_eq]; simp [h, h1]
theorem tk_n {l : List Int} {n : Nat} (h1 : n = l.length) : (l.drop 0).take n = l := by subst h1; simp
theorem cast_88 {f r : Int} {zs : List Int} {bl : Bool} {ca a b : Int} (hbd : validBd f r zs = true) (hc : castB f r zs ca = true) (hn : ¬ wayN zs bl ca a b = 4) : is88 f r = true ∧ zs.length = 64 ∧ 0 ≤ wCor (wayN zs bl ca a b) ∧ wCor (wayN zs bl ca a b) < 64 ∧ 0 ≤ wCro (wayN zs bl ca a b) ∧ wCro (wayN zs bl ca a b) < 64 := by
 have key : is88 f r = true := by
  unfold wayN at hn
  simp only [castB, rtX, Bool.and_eq_true, Bool.not_eq_true'] at hc
  obtain ⟨⟨⟨⟨c1, c2⟩, c3⟩, c4⟩, _⟩ := hc
  cases hk : (!decide (absP (zs.getD a.toNat 0) = 6)) with
  | true => rw [hk] at hn; exact absurd rfl hn
  | false =>
   rw [hk, cond_false] at hn
   have go : ∀ {bit : Int} {c : Bool} {k to : Int} {X Y : Bool}, csSkip bl ca a b c bit k to = false → ((!decide (u8and ca bit = 0)) && ((!is88 f r || X) || Y)) = false → is88 f r = true := by
    intro bit c k to X Y h1 h2
    simp only [csSkip, Bool.or_eq_false_iff] at h1
    rw [h1.1.1.2] at h2
    cases h8 : is88 f r with
    | true => rfl
    | false => rw [h8] at h2; simp at h2
   cases h1 : csSkip bl ca a b false 1 4 6 with
   | false => exact go h1 c1
   | true =>
    rw [h1] at hn
    cases h2 : csSkip bl ca a b false 2 4 2 with
    | false => exact go h2 c2
    | true =>
     rw [h2] at hn
     cases h3 : csSkip bl ca a b true 4 60 62 with
     | false => exact go h3 c3
     | true =>
      rw [h3] at hn
      cases h4 : csSkip bl ca a b true 8 60 58 with
      | false => exact go h4 c4
      | true => rw [h4] at hn; exact absurd rfl hn
 have h4 : wayN zs bl ca a b ≤ 4 := by
  unfold wayN
  cases (!decide (absP (zs.getD a.toNat 0) = 6)) <;> cases (!csSkip bl ca a b false 1 4 6) <;> cases (!csSkip bl ca a b false 2 4 2) <;> cases (!csSkip bl ca a b true 4 60 62) <;> cases (!csSkip bl ca a b true 8 60 58) <;> simp
 refine ⟨key, bd_88 hbd key, ?_⟩
 generalize wayN zs bl ca a b = n at h4 hn ⊢
 have : n = 0 ∨ n = 1 ∨ n = 2 ∨ n = 3 := by omega
 rcases this with rfl | rfl | rfl | rfl <;> decide
theorem mk_sound {kDb : Bool} {f r : Int} {zs : List Int} {bl : Bool} {ca pa ha fu a b pr : Int} (hc2 : zs.length ≤ 64) : FnSound (GGx true kDb) PP 60 [.agg [I f, I r, .sl 0 0 zs.length none, Bb bl, .int .u8 ca, I pa, I ha, I fu], .agg [I a, I b, .int .i8 pr]] [.ints false .i8 zs] (.tup [psV 1 (mkP ⟨f, r, zs, bl, ca, pa, ha, fu⟩ ⟨a, b, pr⟩), unV (mkU ⟨f, r, zs, bl, ca, pa, ha, fu⟩ ⟨a, b, pr⟩), I (mkE5 ⟨f, r, zs, bl, ca, pa, ha, fu⟩ ⟨a, b, pr⟩)]) [.ints true .i8 (mkP ⟨f, r, zs, bl, ca, pa, ha, fu⟩ ⟨a, b, pr⟩).zs] := by
 refine fn_soundDM (rest := seqTail (seqTail (seqTail (Tryz.f60.body.getD .skip)))) (EM_ok (kDb := kDb)) 2 Tryz.func60 rfl rfl [⟨106, [], [.ptr 5 0 0]⟩, ⟨105, [.ptr 5 0 0, .ptr 3 0 0, .ptr 4 0 0], []⟩] (Q1 := fun tm hp => tm = (13, .fn 105 [.ptr 5 0 0, .ptr 3 0 0, .ptr 4 0 0]) :: [(6, .ptr 5 0 0), (5, .ptr 4 0 0), (4, .ptr 3 0 0), (3, .ptr 2 0 0), (2, .ptr 1 0 0), (0, .agg [I f, I r, .sl 0 0 zs.length none, Bb bl, .int .u8 ca, I pa, I ha, I fu]), (1, .agg [I a, I b, .int .i8 pr])] ∧ hp = [.ints false .i8 zs, .cells true [I f, I r, .sl 0 0 zs.length none, Bb bl, .int .u8 ca, I pa, I ha, I fu], .cells true [I a, I b, .int .i8 pr], .cells true [I 0, I 0, .nils, .lit false, .int .u8 0, I 0, I 0, I 0], .cells true [I 0, I 0, .int .i8 0, .int .i8 0, I 0, .int .u8 0, I 0, I 0, I 0], .cells true [I 0]]) ?_ ?_
 ·intro B w0 S ρ aa w k Q hrel hd hrest
  refine wpIn_seq (wpIn_mono (quiet_region (K := (seqTail (Tryz.f60.body.getD .skip)).wpIn (Fr none) k PP Q) EM_ok 2 rfl (Q2 := fun tm hp => tm = [(6, .ptr 5 0 0), (5, .ptr 4 0 0), (4, .ptr 3 0 0), (3, .ptr 2 0 0), (2, .ptr 1 0 0), (0, .agg [I f, I r, .sl 0 0 zs.length none, Bb bl, .int .u8 ca, I pa, I ha, I fu]), (1, .agg [I a, I b, .int .i8 pr])] ∧ hp = [.ints false .i8 zs, .cells true [I f, I r, .sl 0 0 zs.length none, Bb bl, .int .u8 ca, I pa, I ha, I fu], .cells true [I a, I b, .int .i8 pr], .cells true [I 0, I 0, .nils, .lit false, .int .u8 0, I 0, I 0, I 0], .cells true [I 0, I 0, .int .i8 0, .int .i8 0, I 0, .int .u8 0, I 0, I 0, I 0], .cells true [I 0]]) (sat_ret ⟨rfl, rfl⟩) hrel hd ?_) ?_)
  rotate_left
  ·rintro e a' w' ⟨rfl, h⟩; exact h
  rintro a1 w1 tm1 hp1 ρ1 r1 hd1 l1 ⟨rfl, rfl⟩
  refine wpIn_seq (wpIn_mono (pre_region (K := (seqTail (seqTail (Tryz.f60.body.getD .skip))).wpIn (Fr none) k PP Q) EM_ok 2 [_] _ [] rfl rfl rfl rfl rfl rfl (f := 105) (caps := [.ptr 5 0 0, .ptr 3 0 0, .ptr 4 0 0]) (args := []) (Q2 := fun tm hp => tm = (13, .fn 105 [.ptr 5 0 0, .ptr 3 0 0, .ptr 4 0 0]) :: [(6, .ptr 5 0 0), (5, .ptr 4 0 0), (4, .ptr 3 0 0), (3, .ptr 2 0 0), (2, .ptr 1 0 0), (0, .agg [I f, I r, .sl 0 0 zs.length none, Bb bl, .int .u8 ca, I pa, I ha, I fu]), (1, .agg [I a, I b, .int .i8 pr])] ∧ hp = [.ints false .i8 zs, .cells true [I f, I r, .sl 0 0 zs.length none, Bb bl, .int .u8 ca, I pa, I ha, I fu], .cells true [I a, I b, .int .i8 pr], .cells true [I 0, I 0, .nils, .lit false, .int .u8 0, I 0, I 0, I 0], .cells true [I 0, I 0, .int .i8 0, .int .i8 0, I 0, .int .u8 0, I 0, I 0, I 0], .cells true [I 0]]) (sat_ret ⟨rfl, rfl, sat_ret ⟨rfl, rfl⟩⟩) r1 hd1 ?_) ?_)
  rotate_left
  ·rintro e a' w' ⟨rfl, h⟩; exact h
  rintro a2 w2 tm2 hp2 ρ2 cus1 us1 r2 hd2 l2 hc1 hu1 ⟨rfl, rfl⟩
  refine wpIn_seq (wpIn_mono (pre_region (K := (seqTail (seqTail (seqTail (Tryz.f60.body.getD .skip)))).wpIn (Fr none) k PP Q) EM_ok 2 [] _ [] rfl rfl rfl rfl rfl rfl (f := 106) (caps := []) (args := [.ptr 5 0 0]) (Q2 := fun tm hp => tm = (13, .fn 105 [.ptr 5 0 0, .ptr 3 0 0, .ptr 4 0 0]) :: [(6, .ptr 5 0 0), (5, .ptr 4 0 0), (4, .ptr 3 0 0), (3, .ptr 2 0 0), (2, .ptr 1 0 0), (0, .agg [I f, I r, .sl 0 0 zs.length none, Bb bl, .int .u8 ca, I pa, I ha, I fu]), (1, .agg [I a, I b, .int .i8 pr])] ∧ hp = [.ints false .i8 zs, .cells true [I f, I r, .sl 0 0 zs.length none, Bb bl, .int .u8 ca, I pa, I ha, I fu], .cells true [I a, I b, .int .i8 pr], .cells true [I 0, I 0, .nils, .lit false, .int .u8 0, I 0, I 0, I 0], .cells true [I 0, I 0, .int .i8 0, .int .i8 0, I 0, .int .u8 0, I 0, I 0, I 0], .cells true [I 0]]) (sat_ret ⟨rfl, rfl, sat_ret ⟨rfl, rfl⟩⟩) r2 hd2 ?_) ?_)
  rotate_left
  ·rintro e a' w' ⟨rfl, h⟩; exact h
  rintro a3 w3 tm3 hp3 ρ3 cus2 us2 r3 hd3 l3 hc3 hu3 ⟨rfl, rfl⟩
  exact hrest _ _ _ _ _ _ r3 (Ren.le_trans l1 (Ren.le_trans l2 l3)) ⟨cus2, us2, _, rfl, hc3, hu3, cus1, us1, [], rfl, VRL.mono l3 _ _ hc1, VRL.mono l3 _ _ hu1, rfl⟩ ⟨rfl, rfl⟩
 rintro tm1 hp1 ⟨rfl, rfl⟩
 refine ⟨by simp, ?_⟩
 have hE := EM_ok (kDb := kDb)
 repeat (first | (first | refine sat_self ?_ | refine sat_nd ?_) | refine sat_need (need_ix ha0 ha1) ?_ | refine sat_need (need_ix hb0 hb1) ?_ | refine sat_need (need_bdv hc2 rfl hv3) ?_ | refine sat_need (need_g2 hc2 rfl hv3) ?_ | refine sat_need (need_bd hc2 rfl) ?_)
 refine sat_br (fun h => ?_) (fun h => ?_)
 ·have h : (!(Psn.ok ⟨f, r, tk zs, bl, ca, pa, ha, fu⟩) || !mvB f r a b pr) = true := h
  rw [tk_eq] at h
  have h : err1 ⟨f, r, zs, bl, ca, pa, ha, fu⟩ ⟨a, b, pr⟩ = true := h
  exact sat_ret (mk_pleaf (by simp only [mkE5, h, cond_true]) rfl (Ent.ren [0, 1, 2, 3, 4, 5] [4, 5, 6] rfl rfl rfl))
 have h : (!(Psn.ok ⟨f, r, tk zs, bl, ca, pa, ha, fu⟩) || !mvB f r a b pr) = false := h
 rw [tk_eq] at h
 have e1 : err1 ⟨f, r, zs, bl, ca, pa, ha, fu⟩ ⟨a, b, pr⟩ = false := h
 simp only [Bool.or_eq_false_iff, Bool.not_eq_false'] at h
 obtain ⟨hbd, hcas⟩ := ok_bd h.1
 obtain ⟨hva, hvb⟩ := mv_ab h.2
 dsimp only at hbd hcas
 obtain ⟨ha0, ha1⟩ := (bd_sq hbd).1 hva
 obtain ⟨hb0, hb1⟩ := (bd_sq hbd).1 hvb
 have hv3 : (validBd f r (tk zs) && validB f r a && validB f r b) = true := by rw [tk_eq, hbd, hva, hvb]; rfl
 have hf0 : (!decide (f = 0)) = true := by have := vs_bd (bd_valid hbd).1; simp; omega
 clear h
 repeat (first | (first | refine sat_self ?_ | refine sat_nd ?_) | refine sat_need (need_ix ha0 ha1) ?_ | refine sat_need (need_ix hb0 hb1) ?_ | refine sat_need (need_bdv hc2 rfl hv3) ?_ | refine sat_need (need_g2 hc2 rfl hv3) ?_ | refine sat_need (need_bd hc2 rfl) ?_ | refine sat_need hf0 ?_)
 refine sat_br (fun h => ?_) (fun h => ?_)
 ·have h : (!isP (zs.getD a.toNat 0) bl) = true := h
  exact sat_ret (mk_pleaf (by simp only [mkE5, e1, h, cond_true, cond_false]) rfl (Ent.ren [0, 1, 2, 3, 4, 5] [4, 5, 6] rfl rfl rfl))
 have e2 : (!isP (zs.getD a.toNat 0) bl) = false := h
 repeat (first | (first | refine sat_self ?_ | refine sat_nd ?_) | refine sat_need (need_ix ha0 ha1) ?_ | refine sat_need (need_ix hb0 hb1) ?_ | refine sat_need (need_bdv hc2 rfl hv3) ?_ | refine sat_need (need_g2 hc2 rfl hv3) ?_ | refine sat_need (need_bd hc2 rfl) ?_ | refine sat_need hf0 ?_)
 refine sat_br (fun h => ?_) (fun h => ?_)
 ·have h : (isP (zs.getD b.toNat 0) bl || (!goesB f r (tk zs) bl pa a b pr && (!wayB f r (tk zs) (wayN (tk zs) bl ca a b) || !decide (pr = 0)))) = true := h
  rw [tk_eq] at h
  have h : err3 ⟨f, r, zs, bl, ca, pa, ha, fu⟩ ⟨a, b, pr⟩ = true := h
  exact sat_ret (mk_pleaf (by simp only [mkE5, e1, e2, h, cond_true, cond_false]) rfl (Ent.ren [0, 1, 2, 3, 4, 5] [4, 5, 6] rfl rfl rfl))
 have h : (isP (zs.getD b.toNat 0) bl || (!goesB f r (tk zs) bl pa a b pr && (!wayB f r (tk zs) (wayN (tk zs) bl ca a b) || !decide (pr = 0)))) = false := h
 rw [tk_eq] at h
 have e3 : err3 ⟨f, r, zs, bl, ca, pa, ha, fu⟩ ⟨a, b, pr⟩ = false := h
 clear h
 repeat (first | (first | refine sat_self ?_ | refine sat_nd ?_) | refine sat_need (need_ix ha0 ha1) ?_ | refine sat_need (need_ix hb0 hb1) ?_ | refine sat_need (need_bdv hc2 rfl hv3) ?_ | refine sat_need (need_g2 hc2 rfl hv3) ?_ | refine sat_need (need_bd hc2 rfl) ?_ | refine sat_need hf0 ?_)
 refine sat_join hE 2 (fun e tm hp => e = .normal ∧ ∃ (n : Nat) (c : Bool) (at_ cap : Int), n = wayN zs bl ca a b ∧ c = cstR f r zs bl ca pa a b pr ∧ at_ = at1R f zs pa a b ∧ cap = capR f zs pa a b ∧ tm = [(2, .ptr 1 0 0), (3, .ptr 2 0 0), (4, .ptr 3 0 0), (5, .ptr 4 0 0), (6, .ptr 5 0 0), (7, .int .i8 (zs.getD a.toNat 0)), (8, .ptr 6 0 0), (9, Bb c)] ∧ hp = [.ints false .i8 zs, .cells true [I f, I r, .sl 0 0 zs.length none, Bb bl, .int .u8 ca, I pa, I ha, I fu], .cells true [I a, I b, .int .i8 pr], .cells true [I 0, I 0, .nils, .lit false, .int .u8 0, I 0, I 0, I 0], .cells true [I a, I b, .int .i8 pr, .int .i8 cap, I at_, .int .u8 ca, I pa, I ha, I fu], .cells true [I 0], .cells true [.int .u8 (wBit n), Bb (wBl n), I (wFrom n), I (wTo n), I (wCor n), I (wCro n)]]) rfl (fun h => ?_) (fun h => ?_) ?_
 ·have hep : epB zs pa a b = true := h
  have hx := (bd_sq hbd).1 (ep_ok hva hvb).1
  repeat (first | (first | refine sat_self ?_ | refine sat_nd ?_) | refine sat_need hf0 ?_ | refine sat_need (need_ix hx.1 hx.2) ?_)
  refine sat_ret ⟨_, _, Ent.ren [0, 1, 2, 3, 4, 5, 6] [2, 3, 4, 5, 6, 7, 8, 9] rfl rfl rfl, rfl, wayN (tk zs) bl ca a b, wayB f r (tk zs) (wayN (tk zs) bl ca a b) && !goesB f r (tk zs) bl pa a b pr, _, _, by rw [tk_eq], by rw [tk_eq]; rfl, ?_, ?_, rfl, rfl⟩
  ·rw [at1R, hep]; rfl
  ·rw [capR, at1R, hep]; rfl
 ·have hep : epB zs pa a b = false := h
  refine sat_ret ⟨_, _, Ent.ren [0, 1, 2, 3, 4, 5, 6] [2, 3, 4, 5, 6, 7, 8, 9] rfl rfl rfl, rfl, wayN (tk zs) bl ca a b, wayB f r (tk zs) (wayN (tk zs) bl ca a b) && !goesB f r (tk zs) bl pa a b pr, _, _, by rw [tk_eq], by rw [tk_eq]; rfl, ?_, ?_, rfl, rfl⟩
  ·rw [at1R, hep]; rfl
  ·rw [capR, at1R, hep]; rfl
 rintro e tm hp ⟨rfl, n, c, at_, cap, hn, hcs, hat, hcap, rfl, rfl⟩
 repeat (first | (first | refine sat_self ?_ | refine sat_nd ?_) | refine sat_need (need_ix ha0 ha1) ?_ | refine sat_need (need_ix hb0 hb1) ?_ | refine sat_need (need_bdv hc2 rfl hv3) ?_ | refine sat_need (need_g2 hc2 rfl hv3) ?_ | refine sat_need (need_bd hc2 rfl) ?_ | refine sat_need hf0 ?_)
 refine sat_join hE 2 (fun e tm hp => e = .normal ∧ ∃ at2 : Int, at2 = at2R f zs pa a b ∧ tm = [(2, .ptr 1 0 0), (3, .ptr 2 0 0), (4, .ptr 3 0 0), (5, .ptr 4 0 0), (6, .ptr 5 0 0), (7, .int .i8 (zs.getD a.toNat 0)), (8, .ptr 6 0 0), (9, Bb c)] ∧ hp = [.ints false .i8 zs, .cells true [I f, I r, .sl 0 0 zs.length none, Bb bl, .int .u8 ca, I pa, I ha, I fu], .cells true [I a, I b, .int .i8 pr], .cells true [I 0, I 0, .nils, .lit false, .int .u8 0, I 0, I 0, I 0], .cells true [I a, I b, .int .i8 pr, .int .i8 cap, I at2, .int .u8 ca, I pa, I ha, I fu], .cells true [I 0], .cells true [.int .u8 (wBit n), Bb (wBl n), I (wFrom n), I (wTo n), I (wCor n), I (wCro n)]]) rfl (fun h => ?_) (fun h => ?_) ?_
 ·have h : decide (cap = 0) = true := h
  refine sat_ret ⟨_, _, Ent.ren [0, 1, 2, 3, 4, 5, 6] [2, 3, 4, 5, 6, 7, 8, 9] rfl rfl rfl, rfl, _, ?_, rfl, rfl⟩
  rw [at2R, ← hcap, h]; rfl
 ·have h : decide (cap = 0) = false := h
  refine sat_ret ⟨_, _, Ent.ren [0, 1, 2, 3, 4, 5, 6] [2, 3, 4, 5, 6, 7, 8, 9] rfl rfl rfl, rfl, _, ?_, rfl, rfl⟩
  rw [at2R, ← hcap, h, ← hat]; rfl
 rintro e tm hp ⟨rfl, at2, hat2, rfl, rfl⟩
 clear hat
 repeat (first | (first | refine sat_self ?_ | refine sat_nd ?_) | refine sat_need (need_ix ha0 ha1) ?_ | refine sat_need (need_ix hb0 hb1) ?_ | refine sat_need (need_bdv hc2 rfl hv3) ?_ | refine sat_need (need_g2 hc2 rfl hv3) ?_ | refine sat_need (need_bd hc2 rfl) ?_ | refine sat_need hf0 ?_)
 refine sat_join hE 2 (fun e tm hp => e = .normal ∧ ∃ (l : List Int) (len : Nat), l = zs1R f zs pa a b ∧ len = zs.length ∧ tm = [(2, .ptr 1 0 0), (3, .ptr 2 0 0), (4, .ptr 3 0 0), (5, .ptr 4 0 0), (6, .ptr 5 0 0), (7, .int .i8 (zs.getD a.toNat 0)), (8, .ptr 6 0 0), (9, Bb c)] ∧ hp = [.ints false .i8 zs, .cells true [I f, I r, .sl 0 0 zs.length none, Bb bl, .int .u8 ca, I pa, I ha, I fu], .cells true [I a, I b, .int .i8 pr], .cells true [I f, I r, .sl 7 0 len none, Bb bl, .int .u8 ca, I pa, I ha, I fu], .cells true [I a, I b, .int .i8 pr, .int .i8 cap, I at2, .int .u8 ca, I pa, I ha, I fu], .cells true [I 0], .cells true [.int .u8 (wBit n), Bb (wBl n), I (wFrom n), I (wTo n), I (wCor n), I (wCro n)], .ints true .i8 l]) rfl (fun h => ?_) (fun h => ?_) ?_
 ·have h : decide (0 ≤ at2) = true := h
  have hx : at2 < zs.length := by rw [hat2]; exact at2_ok hbd hva hvb (by rw [← hat2]; exact of_decide_eq_true h)
  repeat (first | (first | refine sat_self ?_ | refine sat_nd ?_) | refine sat_need (need_ixt (of_decide_eq_true h) hx) ?_)
  refine sat_ret ⟨_, _, Ent.ren [0, 1, 2, 3, 4, 5, 6, 7] [2, 3, 4, 5, 6, 7, 8, 9] rfl rfl rfl, rfl, (tk zs).set at2.toNat 0, (tk zs).length, ?_, by rw [tk_eq], rfl, rfl⟩
  rw [tk_eq, zs1R, ← hat2, h]; rfl
 ·have h : decide (0 ≤ at2) = false := h
  refine sat_ret ⟨_, _, Ent.ren [0, 1, 2, 3, 4, 5, 6, 7] [2, 3, 4, 5, 6, 7, 8, 9] rfl rfl rfl, rfl, tk zs, (tk zs).length, ?_, by rw [tk_eq], rfl, rfl⟩
  rw [tk_eq, zs1R, ← hat2, h]; rfl
 rintro e tm hp ⟨rfl, l, len, hl, hlen, rfl, rfl⟩
 have ha1 : a < len := by rw [hlen]; exact ha1
 have hb1 : b < len := by rw [hlen]; exact hb1
 repeat (first | (first | refine sat_self ?_ | refine sat_nd ?_) | refine sat_need (need_ix ha0 ha1) ?_ | refine sat_need (need_ix hb0 hb1) ?_ | refine sat_need (need_bdv hc2 rfl hv3) ?_ | refine sat_need (need_g2 hc2 rfl hv3) ?_ | refine sat_need (need_bd hc2 rfl) ?_ | refine sat_need hf0 ?_)
 refine sat_join hE 2 (fun e tm hp => e = .normal ∧ ∃ l3 : List Int, l3 = zs3R f r zs bl ca pa a b pr ∧ tm = [(2, .ptr 1 0 0), (3, .ptr 2 0 0), (4, .ptr 3 0 0), (5, .ptr 4 0 0), (6, .ptr 5 0 0), (7, .int .i8 (zs.getD a.toNat 0)), (8, .ptr 6 0 0), (9, Bb c)] ∧ hp = [.ints false .i8 zs, .cells true [I f, I r, .sl 0 0 zs.length none, Bb bl, .int .u8 ca, I pa, I ha, I fu], .cells true [I a, I b, .int .i8 pr], .cells true [I f, I r, .sl 7 0 len none, Bb bl, .int .u8 ca, I pa, I ha, I fu], .cells true [I a, I b, .int .i8 pr, .int .i8 cap, I at2, .int .u8 ca, I pa, I ha, I fu], .cells true [I 0], .cells true [.int .u8 (wBit n), Bb (wBl n), I (wFrom n), I (wTo n), I (wCor n), I (wCro n)], .ints true .i8 l3]) rfl (fun h => ?_) (fun h => ?_) ?_
 ·have h : (!decide (pr = 0) && bl) = true := h
  repeat (first | (first | refine sat_self ?_ | refine sat_nd ?_) | refine sat_need (need_ix ha0 ha1) ?_ | refine sat_need (need_ix hb0 hb1) ?_ | refine sat_need (need_bdv hc2 rfl hv3) ?_ | refine sat_need (need_g2 hc2 rfl hv3) ?_ | refine sat_need (need_bd hc2 rfl) ?_ | refine sat_need hf0 ?_)
  refine sat_ret ⟨_, _, Ent.ren [0, 1, 2, 3, 4, 5, 6, 7] [2, 3, 4, 5, 6, 7, 8, 9] rfl rfl rfl, rfl, _, ?_, rfl, rfl⟩
  rw [zs3R, putR, zs2R, ← hl, h]; rfl
 ·have h : (!decide (pr = 0) && bl) = false := h
  refine sat_split hE 2 rfl (fun h2 => ?_) (fun h2 => ?_)
  ·have h2 : (!decide (pr = 0)) = true := h2
   repeat (first | (first | refine sat_self ?_ | refine sat_nd ?_) | refine sat_need (need_ix ha0 ha1) ?_ | refine sat_need (need_ix hb0 hb1) ?_ | refine sat_need (need_bdv hc2 rfl hv3) ?_ | refine sat_need (need_g2 hc2 rfl hv3) ?_ | refine sat_need (need_bd hc2 rfl) ?_ | refine sat_need hf0 ?_)
   refine sat_ret ⟨_, _, Ent.ren [0, 1, 2, 3, 4, 5, 6, 7] [2, 3, 4, 5, 6, 7, 8, 9] rfl rfl rfl, rfl, _, ?_, rfl, rfl⟩
   rw [zs3R, putR, zs2R, ← hl, h, h2]; rfl
  ·have h2 : (!decide (pr = 0)) = false := h2
   refine sat_split hE 2 rfl (fun h3 => ?_) (fun h3 => ?_)
   ·have h3 : c = true := h3
    have hw : ¬ n = 4 := by
     intro h4
     rw [cstR, ← hn, h4] at hcs
     rw [h3] at hcs
     exact absurd hcs (by simp [wayB])
    obtain ⟨_, h64, w1, w2, w3, w4⟩ := cast_88 (a := a) (b := b) (bl := bl) hbd hcas (by rw [← hn]; exact hw)
    rw [← hn] at w1 w2 w3 w4
    have w2 : wCor n < len := by rw [hlen, h64]; exact w2
    have w4 : wCro n < len := by rw [hlen, h64]; exact w4
    repeat (first | (first | refine sat_self ?_ | refine sat_nd ?_) | refine sat_need (need_ix ha0 ha1) ?_ | refine sat_need (need_ix hb0 hb1) ?_ | refine sat_need (need_bdv hc2 rfl hv3) ?_ | refine sat_need (need_g2 hc2 rfl hv3) ?_ | refine sat_need (need_bd hc2 rfl) ?_ | refine sat_need hf0 ?_)
    refine sat_ret ⟨_, _, Ent.ren [0, 1, 2, 3, 4, 5, 6, 7] [2, 3, 4, 5, 6, 7, 8, 9] rfl rfl rfl, rfl, _, ?_, rfl, rfl⟩
    rw [zs3R, putR, zs2R, ← hl, h, h2, ← hcs, h3, ← hn]; rfl
   ·have h3 : c = false := h3
    refine sat_ret ⟨_, _, Ent.ren [0, 1, 2, 3, 4, 5, 6, 7] [2, 3, 4, 5, 6, 7, 8, 9] rfl rfl rfl, rfl, _, ?_, rfl, rfl⟩
    rw [zs3R, putR, zs2R, ← hl, h, h2, ← hcs, h3]; rfl
 clear hl
 rintro e tm hp ⟨rfl, l3, hl3, rfl, rfl⟩
 repeat (first | (first | refine sat_self ?_ | refine sat_nd ?_) | refine sat_need (need_ix ha0 ha1) ?_ | refine sat_need (need_ix hb0 hb1) ?_ | refine sat_need (need_bdv hc2 rfl hv3) ?_ | refine sat_need (need_g2 hc2 rfl hv3) ?_ | refine sat_need (need_bd hc2 rfl) ?_ | refine sat_need hf0 ?_)
 refine sat_join hE 2 (fun e tm hp => e = .normal ∧ ∃ ca2 pa2 : Int, ca2 = caR ca a b ∧ pa2 = paR f zs a b ∧ tm = [(2, .ptr 1 0 0), (3, .ptr 2 0 0), (4, .ptr 3 0 0), (5, .ptr 4 0 0), (6, .ptr 5 0 0), (7, .int .i8 (zs.getD a.toNat 0)), (8, .ptr 6 0 0), (9, Bb c)] ∧ hp = [.ints false .i8 zs, .cells true [I f, I r, .sl 0 0 zs.length none, Bb bl, .int .u8 ca, I pa, I ha, I fu], .cells true [I a, I b, .int .i8 pr], .cells true [I f, I r, .sl 7 0 len none, Bb bl, .int .u8 ca2, I pa2, I ha, I fu], .cells true [I a, I b, .int .i8 pr, .int .i8 cap, I at2, .int .u8 ca, I pa, I ha, I fu], .cells true [I 0], .cells true [.int .u8 (wBit n), Bb (wBl n), I (wFrom n), I (wTo n), I (wCor n), I (wCro n)], .ints true .i8 l3]) rfl (fun h => ?_) (fun h => ?_) ?_
 ·have h : twoB f zs a b = true := h
  repeat (first | (first | refine sat_self ?_ | refine sat_nd ?_) | refine sat_need (need_ix ha0 ha1) ?_ | refine sat_need (need_ix hb0 hb1) ?_ | refine sat_need (need_bdv hc2 rfl hv3) ?_ | refine sat_need (need_g2 hc2 rfl hv3) ?_ | refine sat_need (need_bd hc2 rfl) ?_ | refine sat_need hf0 ?_)
  refine sat_ret ⟨_, _, Ent.ren [0, 1, 2, 3, 4, 5, 6, 7] [2, 3, 4, 5, 6, 7, 8, 9] rfl rfl rfl, rfl, _, _, rfl, ?_, rfl, rfl⟩
  rw [paR, h]; rfl
 ·have h : twoB f zs a b = false := h
  refine sat_ret ⟨_, _, Ent.ren [0, 1, 2, 3, 4, 5, 6, 7] [2, 3, 4, 5, 6, 7, 8, 9] rfl rfl rfl, rfl, _, _, rfl, ?_, rfl, rfl⟩
  rw [paR, h]; rfl
 rintro e tm hp ⟨rfl, ca2, pa2, hca2, hpa2, rfl, rfl⟩
 repeat (first | (first | refine sat_self ?_ | refine sat_nd ?_) | refine sat_need (need_ix ha0 ha1) ?_ | refine sat_need (need_ix hb0 hb1) ?_ | refine sat_need (need_bdv hc2 rfl hv3) ?_ | refine sat_need (need_g2 hc2 rfl hv3) ?_ | refine sat_need (need_bd hc2 rfl) ?_ | refine sat_need hf0 ?_)
 refine sat_join hE 2 (fun e tm hp => e = .normal ∧ ∃ ha2 : Int, ha2 = haR f zs pa ha a b ∧ tm = [(2, .ptr 1 0 0), (3, .ptr 2 0 0), (4, .ptr 3 0 0), (5, .ptr 4 0 0), (6, .ptr 5 0 0), (7, .int .i8 (zs.getD a.toNat 0)), (8, .ptr 6 0 0), (9, Bb c)] ∧ hp = [.ints false .i8 zs, .cells true [I f, I r, .sl 0 0 zs.length none, Bb bl, .int .u8 ca, I pa, I ha, I fu], .cells true [I a, I b, .int .i8 pr], .cells true [I f, I r, .sl 7 0 len none, Bb bl, .int .u8 ca2, I pa2, I ha2, I fu], .cells true [I a, I b, .int .i8 pr, .int .i8 cap, I at2, .int .u8 ca, I pa, I ha, I fu], .cells true [I 0], .cells true [.int .u8 (wBit n), Bb (wBl n), I (wFrom n), I (wTo n), I (wCor n), I (wCro n)], .ints true .i8 l3]) rfl (fun h => ?_) (fun h => ?_) ?_
 ·have h : (decide (absP (zs.getD a.toNat 0) = 1) || !decide (cap = 0)) = true := h
  refine sat_ret ⟨_, _, Ent.ren [0, 1, 2, 3, 4, 5, 6, 7] [2, 3, 4, 5, 6, 7, 8, 9] rfl rfl rfl, rfl, _, ?_, rfl, rfl⟩
  rw [haR, ← hcap, h]; rfl
 ·have h : (decide (absP (zs.getD a.toNat 0) = 1) || !decide (cap = 0)) = false := h
  refine sat_ret ⟨_, _, Ent.ren [0, 1, 2, 3, 4, 5, 6, 7] [2, 3, 4, 5, 6, 7, 8, 9] rfl rfl rfl, rfl, _, ?_, rfl, rfl⟩
  rw [haR, ← hcap, h]; rfl
 rintro e tm hp ⟨rfl, ha2, hha2, rfl, rfl⟩
 repeat (first | (first | refine sat_self ?_ | refine sat_nd ?_) | refine sat_need (need_ix ha0 ha1) ?_ | refine sat_need (need_ix hb0 hb1) ?_ | refine sat_need (need_bdv hc2 rfl hv3) ?_ | refine sat_need (need_g2 hc2 rfl hv3) ?_ | refine sat_need (need_bd hc2 rfl) ?_ | refine sat_need hf0 ?_)
 refine sat_join hE 2 (fun e tm hp => e = .normal ∧ ∃ fu2 : Int, fu2 = fuR bl fu ∧ tm = [(2, .ptr 1 0 0), (3, .ptr 2 0 0), (4, .ptr 3 0 0), (5, .ptr 4 0 0), (6, .ptr 5 0 0), (7, .int .i8 (zs.getD a.toNat 0)), (8, .ptr 6 0 0), (9, Bb c)] ∧ hp = [.ints false .i8 zs, .cells true [I f, I r, .sl 0 0 zs.length none, Bb bl, .int .u8 ca, I pa, I ha, I fu], .cells true [I a, I b, .int .i8 pr], .cells true [I f, I r, .sl 7 0 len none, Bb bl, .int .u8 ca2, I pa2, I ha2, I fu2], .cells true [I a, I b, .int .i8 pr, .int .i8 cap, I at2, .int .u8 ca, I pa, I ha, I fu], .cells true [I 0], .cells true [.int .u8 (wBit n), Bb (wBl n), I (wFrom n), I (wTo n), I (wCor n), I (wCro n)], .ints true .i8 l3]) rfl (fun h => ?_) (fun h => ?_) ?_
 ·have h : bl = true := h
  refine sat_ret ⟨_, _, Ent.ren [0, 1, 2, 3, 4, 5, 6, 7] [2, 3, 4, 5, 6, 7, 8, 9] rfl rfl rfl, rfl, _, ?_, rfl, rfl⟩
  rw [fuR, h]; rfl
 ·have h : bl = false := h
  refine sat_ret ⟨_, _, Ent.ren [0, 1, 2, 3, 4, 5, 6, 7] [2, 3, 4, 5, 6, 7, 8, 9] rfl rfl rfl, rfl, _, ?_, rfl, rfl⟩
  rw [fuR, h]; rfl
 rintro e tm hp ⟨rfl, fu2, hfu2, rfl, rfl⟩
 have hl3n : len = l3.length := by rw [hl3, zs3_len, hlen]
 have hl64 : len ≤ 64 := by rw [hlen]; exact hc2
 repeat (first | (first | refine sat_self ?_ | refine sat_nd ?_) | refine sat_need (need_ix ha0 ha1) ?_ | refine sat_need (need_ix hb0 hb1) ?_ | refine sat_need (need_bdv hc2 rfl hv3) ?_ | refine sat_need (need_g2 hc2 rfl hv3) ?_ | refine sat_need (need_bd hc2 rfl) ?_ | refine sat_need hf0 ?_ | refine sat_need (need_out hl3n hl64) ?_ | refine sat_need (need_outg hl3n hl64) ?_)
 refine sat_br (fun h => ?_) (fun h => ?_)
 ·have h : (chkB f r ((l3.drop 0).take len) bl || (c && (chkB f r (tk zs) bl || !decide ((attackersR f r (tk zs) (wCro n) (!bl)).1 = 0)))) = true := h
  rw [tk_eq, tk_n hl3n, hl3, hcs, hn] at h
  have h : err4 ⟨f, r, zs, bl, ca, pa, ha, fu⟩ ⟨a, b, pr⟩ = true := h
  exact sat_ret (mk_pleaf7 (by simp only [mkE5, e1, e2, e3, h, cond_true, cond_false]) rfl (Ent.ren [0, 1, 2, 3, 4, 5, 7] [4, 5, 6] rfl rfl rfl))
 have h : (chkB f r ((l3.drop 0).take len) bl || (c && (chkB f r (tk zs) bl || !decide ((attackersR f r (tk zs) (wCro n) (!bl)).1 = 0)))) = false := h
 rw [tk_eq, tk_n hl3n, hl3, hcs, hn] at h
 have e4 : err4 ⟨f, r, zs, bl, ca, pa, ha, fu⟩ ⟨a, b, pr⟩ = false := h
 clear h
 repeat (first | (first | refine sat_self ?_ | refine sat_nd ?_) | refine sat_need (need_ix ha0 ha1) ?_ | refine sat_need (need_ix hb0 hb1) ?_ | refine sat_need (need_bdv hc2 rfl hv3) ?_ | refine sat_need (need_g2 hc2 rfl hv3) ?_ | refine sat_need (need_bd hc2 rfl) ?_ | refine sat_need hf0 ?_ | refine sat_need (need_out hl3n hl64) ?_ | refine sat_need (need_outg hl3n hl64) ?_)
 refine sat_br (fun h => ?_) (fun h => ?_)
 ·have h : (decide (10000 < ha2) || decide (10000 < fu2)) = true := h
  rw [hha2, hfu2] at h
  have h : err5 ⟨f, r, zs, bl, ca, pa, ha, fu⟩ ⟨a, b, pr⟩ = true := h
  exact sat_ret (mk_pleaf7 (by simp only [mkE5, e1, e2, e3, e4, h, cond_true, cond_false]) rfl (Ent.ren [0, 1, 2, 3, 4, 5, 7] [4, 5, 6] rfl rfl rfl))
 have h : (decide (10000 < ha2) || decide (10000 < fu2)) = false := h
 rw [hha2, hfu2] at h
 have e5 : err5 ⟨f, r, zs, bl, ca, pa, ha, fu⟩ ⟨a, b, pr⟩ = false := h
 clear h
 repeat (first | (first | refine sat_self ?_ | refine sat_nd ?_) | refine sat_need (need_ix ha0 ha1) ?_ | refine sat_need (need_ix hb0 hb1) ?_ | refine sat_need (need_bdv hc2 rfl hv3) ?_ | refine sat_need (need_g2 hc2 rfl hv3) ?_ | refine sat_need (need_bd hc2 rfl) ?_ | refine sat_need hf0 ?_ | refine sat_need (need_out hl3n hl64) ?_ | refine sat_need (need_outg hl3n hl64) ?_)
 have he : mkE5 ⟨f, r, zs, bl, ca, pa, ha, fu⟩ ⟨a, b, pr⟩ = 0 := by simp only [mkE5, e1, e2, e3, e4, e5, cond_false]
 subst hlen
 exact sat_ret (mk_rleaf (q := ⟨f, r, l3, !bl, ca2, pa2, ha2, fu2⟩) (x := ⟨⟨a, b, pr⟩, cap, at2, ca, pa, ha, fu⟩) he (by rw [mkP, he, hl3, hca2, hpa2, hha2, hfu2]; rfl) (by rw [mkU, he, hcap, hat2]; rfl) hl3n.symm (Ent.ren [0, 1, 2, 3, 4, 5, 7] [4, 5, 6] rfl rfl rfl))
def c_make : CF
 | [.agg [.int .i64 f, .int .i64 r, .sl 0 0 len none, .bool bl, .int .u8 ca, .int .i64 pa, .int .i64 ha, .int .i64 fu], .agg [.int .i64 a, .int .i64 b, .int .i8 pr]], [.ints false .i8 zs] => some (decide (len = zs.length) && decide (zs.length ≤ 64), .tup [psV 1 (mkP ⟨f, r, zs, bl, ca, pa, ha, fu⟩ ⟨a, b, pr⟩), unV (mkU ⟨f, r, zs, bl, ca, pa, ha, fu⟩ ⟨a, b, pr⟩), I (mkE5 ⟨f, r, zs, bl, ca, pa, ha, fu⟩ ⟨a, b, pr⟩)], [.ints true .i8 (mkP ⟨f, r, zs, bl, ca, pa, ha, fu⟩ ⟨a, b, pr⟩).zs])
 | _, _ => none
theorem c_make_ok : CtOk (GGx true kDb) PP (60, c_make) := by
 refine ct_mk Tryz.func60 (by kernel_rfl) rfl fun a0 h0 c0 v0 N0 e hc => ?_
 unfold c_make at e
 split at e
 ·rename_i f r len bl ca pa ha fu a b pr zs
  cases e
  simp only [Bool.and_eq_true, decide_eq_true_eq] at hc
  obtain ⟨rfl, hc2⟩ := hc
  exact mk_sound hc2
 ·cases e
end Go.Ab
