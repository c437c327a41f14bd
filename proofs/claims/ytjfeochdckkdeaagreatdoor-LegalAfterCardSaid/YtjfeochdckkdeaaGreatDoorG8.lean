/- Contracts of the functions that the laws reach, and plain laws of what they compute (text G8); no condition. -/
import Derived.Test.YtjfeochdckkdeaaGreatDoorG7
import Derived.Test.YtjfeochdckkdeaaGreatDoorG4
import Derived.Test.YtjfeochdckkdeaaGreatDoorG5
set_option maxRecDepth 100000
namespace Go.Ab
open Go.Proofs
theorem Em {p : Int} (h : -6 <= p /\ p <= 6) : absP p = p.natAbs := by
 have hw : w8 (0 - p) = -p := by
  have hb : IntKind.i8.bits = 8 := rfl
  have : ∀ q : _root_.Fin 13, w8 (0 - ((q.val : Int) - 6)) = -((q.val : Int) - 6) := by decide +kernel
  have h2 := this ⟨(p + 6).toNat, by omega⟩
  simp only at h2
  rwa [show (((p + 6).toNat : Int) - 6) = p by omega] at h2
 unfold absP
 rw [hw]
 unfold imax
 by_cases h1 : p < -p <;> simp [h1] <;> omega
end Go.Ab
namespace Go.Ab
open IntKind
open Go.Proofs
section
variable {kCa kDb : Bool}
theorem AV {C : Int -> Bool} {l : List Int} {j : Nat} (h : j < l.length) : (bif C (l.getD j 0) then (l.take j).filter C ++ [l.getD j 0] else (l.take j).filter C) = (l.take (j + 1)).filter C := by
 have e : l.getD j 0 = l[j] := by simp [List.getD, h]
 rw [e, List.take_succ_eq_append_getElem h, List.filter_append]
 cases hc : C l[j] <;> simp [hc]
def aP (p : Int) : Int := bif decide (p < 0) then w8 (0 - p) else p
def sdI (bl : Bool) : Int := bif bl then -1 else 1
def vY (zs : List Int) (s i : Int) : Bool := decide (sgn (zs.getD i.toNat 0) = s)
def cz (zs : List Int) (s : Int) : List Int := cm (vY zs s) id zs.length
def occL (zs : List Int) : Int := ofL (cz zs 1 ++ cz zs (-1)) 0
def jO (zs : List Int) (p i : Int) : Bool := decide (zs.getD i.toNat 0 = p)
def gR (zs : List Int) (p : Int) : List Int := cm (jO zs p) id zs.length
def uQ (f r : Int) (zs : List Int) (i to occ : Int) : Bool := bif decide (aP (zs.getD i.toNat 0) = 1) then hasL to (cm (dA f (decide (zs.getD i.toNat 0 < 0)) i) id (f * r).toNat) else !decide (i = to) && bF f r (aP (zs.getD i.toNat 0)) i to occ
def zJ (f r : Int) (zs : List Int) (to occ i : Int) : Bool := uQ f r zs i to occ
def attL (f r : Int) (zs : List Int) (to : Int) (bl : Bool) : List Int := (cz zs (sdI bl)).filter (zJ f r zs to (occL zs))
def be (zs : List Int) (bl : Bool) : Int := bif decide (((gR zs (w8 (i64.wrap (6 * sdI bl)))).length : Int) = 1) then (gR zs (w8 (i64.wrap (6 * sdI bl)))).getD 0 0 else -1
theorem gp (zs : List Int) (s : Int) : (cz zs s).length <= zs.length := cP _ _ _
theorem gv {zs : List Int} {s x : Int} : x ∈ cz zs s ↔ 0 <= x /\ x < zs.length /\ sgn (zs.getD x.toNat 0) = s := by
 unfold cz
 rw [ei]
 simp [vY]
theorem qu {f r : Int} {zs : List Int} : (vsB f r && decide ((zs.length : Int) = i64.wrap (f * r)) && zs.all okP) = az f r zs := by
 unfold az cntR
 cases vsB f r
 ·simp
 ·simp [badP, List.any_eq_not_all_not]
theorem uq {f r : Int} {zs : List Int} : (az f r zs && zs.all (fun p => !norP p)) = aL f r zs := by
 unfold aL
 simp [List.any_eq_not_all_not]
def uo : CF
 | [.int .i8 p], [] => some (true, .bool (okP p), [])
 | _, _ => none
theorem Ad : CtOk (GGx kCa kDb) PP (146, uo) := by
 refine aG Tryz.func146 (by kernel_rfl) rfl fun a0 h0 c0 v0 N0 e hc => ?_
 unfold uo at e
 split at e
 ·rename_i p
  cases e
  have hE := aD (kCa := kCa) (kDb := kDb) (cts := []) (inl := []) trivial trivial
  refine ak hE 2 Tryz.func146 rfl rfl ?_
  repeat' first | (first | refine ah ?_ | refine sat_nd ?_) | refine au (fun h => ?_) (fun h => ?_)
  all_goals exact ag (ai (.inr rfl) rfl rfl rfl (by first | rfl | (simp only [*, cond_true, cond_false]; done) | (simp only [*, cond_true, cond_false, Bool.not_true, Bool.not_false, Bool.and_true, Bool.true_and, Bool.and_false, Bool.false_and, Bool.or_true, Bool.true_or, Bool.or_false, Bool.false_or]; done) | simp_all []))
 ·cases e
def qQ : CF
 | [.int .i8 p], [] => some (true, .bool (orP p), [])
 | _, _ => none
theorem wj : CtOk (GGx kCa kDb) PP (91, qQ) := by
 refine aG Tryz.func91 (by kernel_rfl) rfl fun a0 h0 c0 v0 N0 e hc => ?_
 unfold qQ at e
 split at e
 ·rename_i p
  cases e
  have hE := aD (kCa := kCa) (kDb := kDb) (cts := []) (inl := []) trivial trivial
  refine ak hE 2 Tryz.func91 rfl rfl ?_
  repeat' first | (first | refine ah ?_ | refine sat_nd ?_) | refine au (fun h => ?_) (fun h => ?_)
  all_goals exact ag (ai (.inr rfl) rfl rfl rfl (by first | rfl | (simp only [*, cond_true, cond_false]; done) | (simp only [*, cond_true, cond_false, Bool.not_true, Bool.not_false, Bool.and_true, Bool.true_and, Bool.and_false, Bool.false_and, Bool.or_true, Bool.true_or, Bool.or_false, Bool.false_or]; done) | simp_all []))
 ·cases e
def lf : CF
 | [.int .i8 p], [] => some (true, .int .i64 (sgn p), [])
 | _, _ => none
theorem ni : CtOk (GGx kCa kDb) PP (116, lf) := by
 refine aG Tryz.func116 (by kernel_rfl) rfl fun a0 h0 c0 v0 N0 e hc => ?_
 unfold lf at e
 split at e
 ·rename_i p
  cases e
  have hE := aD (kCa := kCa) (kDb := kDb) (cts := []) (inl := []) trivial trivial
  refine ak hE 2 Tryz.func116 rfl rfl ?_
  repeat' first | (first | refine ah ?_ | refine sat_nd ?_) | refine au (fun h => ?_) (fun h => ?_)
  all_goals exact ag (ai (.inr rfl) rfl rfl rfl (by first | rfl | (simp only [sgn, *, cond_true, cond_false]; done) | (simp only [sgn, *, cond_true, cond_false, Bool.not_true, Bool.not_false, Bool.and_true, Bool.true_and, Bool.and_false, Bool.false_and, Bool.or_true, Bool.true_or, Bool.or_false, Bool.false_or]; done) | simp_all [sgn]))
 ·cases e
def eP : CF
 | [.int .i8 p], [] => some (true, .int .i8 (aP p), [])
 | _, _ => none
theorem dz : CtOk (GGx kCa kDb) PP (47, eP) := by
 refine aG Tryz.func47 (by kernel_rfl) rfl fun a0 h0 c0 v0 N0 e hc => ?_
 unfold eP at e
 split at e
 ·rename_i p
  cases e
  have hE := aD (kCa := kCa) (kDb := kDb) (cts := []) (inl := []) trivial trivial
  refine ak hE 2 Tryz.func47 rfl rfl ?_
  repeat' first | (first | refine ah ?_ | refine sat_nd ?_) | refine au (fun h => ?_) (fun h => ?_)
  all_goals exact ag (ai (.inr rfl) rfl rfl rfl (by first | rfl | (simp only [aP, *, cond_true, cond_false]; done) | (simp only [aP, *, cond_true, cond_false, Bool.not_true, Bool.not_false, Bool.and_true, Bool.true_and, Bool.and_false, Bool.false_and, Bool.or_true, Bool.true_or, Bool.or_false, Bool.false_or]; done) | simp_all [aP]))
 ·cases e
def qR : CF
 | [.bool bl], [] => some (true, .int .i64 (sdI bl), [])
 | _, _ => none
theorem oB : CtOk (GGx kCa kDb) PP (93, qR) := by
 refine aG Tryz.func93 (by kernel_rfl) rfl fun a0 h0 c0 v0 N0 e hc => ?_
 unfold qR at e
 split at e
 ·rename_i bl
  cases e
  have hE := aD (kCa := kCa) (kDb := kDb) (cts := []) (inl := []) trivial trivial
  refine ak hE 2 Tryz.func93 rfl rfl ?_
  repeat' first | (first | refine ah ?_ | refine sat_nd ?_) | refine au (fun h => ?_) (fun h => ?_)
  all_goals exact ag (ai (.inr rfl) rfl rfl rfl (by first | rfl | (simp only [sdI, *, cond_true, cond_false]; done) | (simp only [sdI, *, cond_true, cond_false, Bool.not_true, Bool.not_false, Bool.and_true, Bool.true_and, Bool.and_false, Bool.false_and, Bool.or_true, Bool.true_or, Bool.or_false, Bool.false_or]; done) | simp_all [sdI]))
 ·cases e
def Bj : CF
 | [.sl 0 0 len none, .int .i64 n], [.ints false .i64 zs] => some (decide (len = zs.length) && decide (zs.length <= 1000000), .bool (hasL n zs), [])
 | _, _ => none
theorem BJ : CtOk (GGx kCa kDb) PP (171, Bj) := by
 refine aG Tryz.func171 (by kernel_rfl) rfl fun a0 h0 c0 v0 N0 e hc => ?_
 unfold Bj at e
 split at e
 ·rename_i len n zs
  cases e
  have hE := aD (kCa := kCa) (kDb := kDb) (cts := []) (inl := []) trivial trivial
  refine ak hE 2 Tryz.func171 rfl rfl ?_
  simp only [Bool.and_eq_true, decide_eq_true_eq] at hc
  obtain ⟨rfl, hc2⟩ := hc
  refine bZ hE 2 (fun i (_ : Unit) => ([(0, .sl 0 0 zs.length none), (1, I n), (5, I i)], [.ints false .i64 zs])) zs.length (fun j _ => hasL n (zs.drop j) = hasL n zs) () (by omega) (Ent.ren [0] [0, 1, 5] rfl rfl rfl) rfl ?_
  intro j i _ hij hj hz
  refine au (fun hlt => ?_) (fun hlt => ?_)
  ·have hlt' : j < zs.length := by simp at hlt; omega
   rw [vS hlt', show j = i.toNat by omega] at hz
   refine ae (by simp; omega) ?_
   repeat (first | refine ah ?_ | refine sat_nd ?_)
   refine au (fun hon => ?_) (fun hon => ?_)
   ·have hon : decide (zs.getD i.toNat 0 = n) = true := hon
    rw [hon] at hz
    exact ag (ag (ai (.inr rfl) rfl rfl rfl (by rw [<- hz]; rfl)))
   ·have hon : decide (zs.getD i.toNat 0 = n) = false := hon
    rw [hon] at hz
    exact ag ⟨hlt', (), by rw [<- hz, show i.toNat = j by omega]; rfl, Ent.ren [0] [0, 1, 5] rfl rfl rfl⟩
  ·obtain rfl : j = zs.length := by simp at hlt; omega
   rw [List.drop_length] at hz
   exact ag (ag (ai (.inr rfl) rfl rfl rfl (by rw [<- hz]; rfl)))
 ·cases e
def nnP (p : Int) : Bool := !norP p
def mq : CF
 | [.agg [.int .i64 f, .int .i64 r, .sl 0 0 len none]], [.ints false .i8 zs] => some (decide (len = zs.length) && decide (zs.length <= 64), .bool (az f r zs), [])
 | _, _ => none
theorem sF : CtOk (GGx kCa kDb) PP (90, mq) := by
 refine aG Tryz.func90 (by kernel_rfl) rfl fun a0 h0 c0 v0 N0 e hc => ?_
 unfold mq at e
 split at e
 ·rename_i f r len zs
  cases e
  have hE := aD (kCa := kCa) (kDb := kDb) (cts := [(53, xA), (146, uo)]) (inl := []) ⟨tu, Ad, trivial⟩ trivial
  refine ak hE 2 Tryz.func90 rfl rfl ?_
  simp only [Bool.and_eq_true, decide_eq_true_eq] at hc
  obtain ⟨rfl, hc2⟩ := hc
  repeat (first | refine ah ?_ | refine sat_nd ?_)
  refine au (fun h => ?_) (fun h => ?_)
  ·have h : (vsB f r && decide ((zs.length : Int) = i64.wrap (f * r))) = false := by
    have h : (!vsB f r || !decide ((zs.length : Int) = i64.wrap (f * r))) = true := h
    cases h1 : vsB f r <;> cases h2 : decide ((zs.length : Int) = i64.wrap (f * r)) <;> simp_all
   exact ag (ai (.inr rfl) rfl rfl rfl (by rw [<- qu, h]; rfl))
  have h : (vsB f r && decide ((zs.length : Int) = i64.wrap (f * r))) = true := by
   have h : (!vsB f r || !decide ((zs.length : Int) = i64.wrap (f * r))) = false := h
   cases h1 : vsB f r <;> cases h2 : decide ((zs.length : Int) = i64.wrap (f * r)) <;> simp_all
  refine bZ hE 2 (fun i (_ : Unit) => ([(1, .ptr 1 0 0), (3, I i)], [.ints false .i8 zs, .cells true [I f, I r, .sl 0 0 zs.length none]])) zs.length (fun j _ => (zs.drop j).all okP = zs.all okP) () (by omega) (Ent.ren [0, 1] [1, 3] rfl rfl rfl) rfl ?_
  intro j i _ hij hj hz
  refine au (fun hlt => ?_) (fun hlt => ?_)
  ·have hlt' : j < zs.length := by simp at hlt; omega
   rw [xR hlt', show j = i.toNat by omega] at hz
   refine ae (by simp; omega) ?_
   repeat (first | (first | refine ah ?_ | refine sat_nd ?_) | refine ae (by simp; omega) ?_)
   refine au (fun hon => ?_) (fun hon => ?_)
   ·have hon : (!okP (zs.getD i.toNat 0)) = true := hon
    have hon : okP (zs.getD i.toNat 0) = false := by simpa using hon
    rw [hon] at hz
    exact ag (ag (ai (.inr rfl) rfl rfl rfl (by rw [<- qu, h, <- hz]; rfl)))
   ·have hon : (!okP (zs.getD i.toNat 0)) = false := hon
    have hon : okP (zs.getD i.toNat 0) = true := by simpa using hon
    rw [hon] at hz
    exact ag ⟨hlt', (), by rw [<- hz, show i.toNat = j by omega]; rfl, Ent.ren [0, 1] [1, 3] rfl rfl rfl⟩
  ·obtain rfl : j = zs.length := by simp at hlt; omega
   rw [List.drop_length] at hz
   have hz : zs.all okP = true := hz.symm
   exact ag (ag (ai (.inr rfl) rfl rfl rfl (by rw [<- qu, h, hz]; rfl)))
 ·cases e
def wJ : CF
 | [.agg [.int .i64 f, .int .i64 r, .sl 0 0 len none]], [.ints false .i8 zs] => some (decide (len = zs.length) && decide (zs.length <= 64), .bool (aL f r zs), [])
 | _, _ => none
theorem ze : CtOk (GGx kCa kDb) PP (44, wJ) := by
 refine aG Tryz.func44 (by kernel_rfl) rfl fun a0 h0 c0 v0 N0 e hc => ?_
 unfold wJ at e
 split at e
 ·rename_i f r len zs
  cases e
  have hE := aD (kCa := kCa) (kDb := kDb) (cts := [(90, mq), (91, qQ)]) (inl := []) ⟨sF, wj, trivial⟩ trivial
  refine ak hE 2 Tryz.func44 rfl rfl ?_
  simp only [Bool.and_eq_true, decide_eq_true_eq] at hc
  obtain ⟨rfl, hc2⟩ := hc
  repeat (first | refine ah ?_ | refine sat_nd ?_)
  refine au (fun h => ?_) (fun h => ?_)
  ·have h : az f r zs = false := by simpa using h
   exact ag (ai (.inr rfl) rfl rfl rfl (by rw [<- uq, h]; rfl))
  have h : az f r zs = true := by simpa using h
  refine bZ hE 2 (fun i (_ : Unit) => ([(1, .ptr 1 0 0), (3, I i)], [.ints false .i8 zs, .cells true [I f, I r, .sl 0 0 zs.length none]])) zs.length (fun j _ => (zs.drop j).all nnP = zs.all nnP) () (by omega) (Ent.ren [0, 1] [1, 3] rfl rfl rfl) rfl ?_
  intro j i _ hij hj hz
  refine au (fun hlt => ?_) (fun hlt => ?_)
  ·have hlt' : j < zs.length := by simp at hlt; omega
   rw [xR hlt', show j = i.toNat by omega] at hz
   refine ae (by simp; omega) ?_
   repeat (first | (first | refine ah ?_ | refine sat_nd ?_) | refine ae (by simp; omega) ?_)
   refine au (fun hon => ?_) (fun hon => ?_)
   ·have hon : (!nnP (zs.getD i.toNat 0)) = true := (Bool.not_not _).trans hon
    have hon : nnP (zs.getD i.toNat 0) = false := by simpa using hon
    rw [hon] at hz
    exact ag (ag (ai (.inr rfl) rfl rfl rfl (by rw [<- uq, h, show zs.all (fun p => !norP p) = zs.all nnP from rfl, <- hz]; rfl)))
   ·have hon : (!nnP (zs.getD i.toNat 0)) = false := (Bool.not_not _).trans hon
    have hon : nnP (zs.getD i.toNat 0) = true := by simpa using hon
    rw [hon] at hz
    exact ag ⟨hlt', (), by rw [<- hz, show i.toNat = j by omega]; rfl, Ent.ren [0, 1] [1, 3] rfl rfl rfl⟩
  ·obtain rfl : j = zs.length := by simp at hlt; omega
   rw [List.drop_length] at hz
   have hz : zs.all nnP = true := hz.symm
   exact ag (ag (ai (.inr rfl) rfl rfl rfl (by rw [<- uq, h, show zs.all (fun p => !norP p) = zs.all nnP from rfl, hz]; rfl)))
 ·cases e
def xb : CF
 | [.agg [.int .i64 _f, .int .i64 _r, .sl 0 0 len none], .int .i64 s], [.ints false .i8 zs] => some (decide (len = zs.length) && decide (zs.length <= 64), .sl 1 0 (cz zs s).length none, [.ints true .i64 (cz zs s)])
 | _, _ => none
theorem sV : CtOk (GGx kCa kDb) PP (147, xb) := by
 refine aG Tryz.func147 (by kernel_rfl) rfl fun a0 h0 c0 v0 N0 e hc => ?_
 unfold xb at e
 split at e
 ·rename_i f r len s zs
  cases e
  have hE := aD (kCa := kCa) (kDb := kDb) (cts := [(116, lf)]) (inl := []) ⟨ni, trivial⟩ trivial
  refine ak hE 2 Tryz.func147 rfl rfl ?_
  simp only [Bool.and_eq_true, decide_eq_true_eq] at hc
  obtain ⟨rfl, hc2⟩ := hc
  refine bZ hE 2 (fun (i : Int) (ys : List Int) => ([(1, I s), (2, .ptr 1 0 0), (5, .sl 2 0 ys.length none), (6, I i)], [.ints false .i8 zs, .cells true [I f, I r, .sl 0 0 zs.length none], .ints true .i64 ys])) (zs.length) (fun j ys => ys = cm (vY zs s) id j) [] (by omega) ((Ent.phanT (t := 5) (o := .ints true .i64 []) rfl ⟨by simp, by simp, trivial, rfl⟩ (aI rfl)).trans (Ent.ren [0, 1, 2] [1, 2, 5, 6] rfl rfl rfl)) rfl ?_
  intro j i ys hij hj hz
  have hb := cP (vY zs s) id j
  rw [<- hz] at hb
  refine au (fun hlt => ?_) (fun hlt => ?_)
  ·have hlt' : j < zs.length := by simp only [decide_eq_true_eq] at hlt; omega
   have hs := ee (vY zs s) id j
   rw [<- hz, <- hij] at hs
   repeat (first | (first | refine ah ?_ | refine sat_nd ?_) | refine ae (by simp; omega) ?_)
   refine au (fun hon => ?_) (fun hon => ?_)
   ·skip
    have hon : vY zs s i = true := hon
    rw [hon, cond_true] at hs
    refine ae (b := decide (ys.length = ys.length) && decide ((ys.length + 1) * 8 <= 140737488355328) && true) (by simp; omega) ?_
    exact ag ⟨hlt', ys ++ [id i], hs.symm, Ent.ren [0, 1, 4] [1, 2, 5, 6] rfl rfl rfl⟩
   ·skip
    have hon : vY zs s i = false := hon
    rw [hon, cond_false] at hs
    exact ag ⟨hlt', ys, hs.symm, Ent.ren [0, 1, 2] [1, 2, 5, 6] rfl rfl rfl⟩
  ·obtain rfl : j = zs.length := by simp only [decide_eq_false_iff_not] at hlt; omega
   subst hz
   refine ag (ag ((bN 2 (.inr rfl) rfl rfl rfl rfl rfl rfl)))
 ·cases e
def uk : CF
 | [.agg [.int .i64 _f, .int .i64 _r, .sl 0 0 len none], .int .i8 p], [.ints false .i8 zs] => some (decide (len = zs.length) && decide (zs.length <= 64), .sl 1 0 (gR zs p).length none, [.ints true .i64 (gR zs p)])
 | _, _ => none
theorem zW : CtOk (GGx kCa kDb) PP (92, uk) := by
 refine aG Tryz.func92 (by kernel_rfl) rfl fun a0 h0 c0 v0 N0 e hc => ?_
 unfold uk at e
 split at e
 ·rename_i f r len p zs
  cases e
  have hE := aD (kCa := kCa) (kDb := kDb) (cts := []) (inl := []) trivial trivial
  refine ak hE 2 Tryz.func92 rfl rfl ?_
  simp only [Bool.and_eq_true, decide_eq_true_eq] at hc
  obtain ⟨rfl, hc2⟩ := hc
  refine bZ hE 2 (fun (i : Int) (ys : List Int) => ([(1, .int .i8 p), (2, .ptr 1 0 0), (5, .sl 2 0 ys.length none), (6, I i)], [.ints false .i8 zs, .cells true [I f, I r, .sl 0 0 zs.length none], .ints true .i64 ys])) (zs.length) (fun j ys => ys = cm (jO zs p) id j) [] (by omega) ((Ent.phanT (t := 5) (o := .ints true .i64 []) rfl ⟨by simp, by simp, trivial, rfl⟩ (aI rfl)).trans (Ent.ren [0, 1, 2] [1, 2, 5, 6] rfl rfl rfl)) rfl ?_
  intro j i ys hij hj hz
  have hb := cP (jO zs p) id j
  rw [<- hz] at hb
  refine au (fun hlt => ?_) (fun hlt => ?_)
  ·have hlt' : j < zs.length := by simp only [decide_eq_true_eq] at hlt; omega
   have hs := ee (jO zs p) id j
   rw [<- hz, <- hij] at hs
   repeat (first | (first | refine ah ?_ | refine sat_nd ?_) | refine ae (by simp; omega) ?_)
   refine au (fun hon => ?_) (fun hon => ?_)
   ·skip
    have hon : jO zs p i = true := hon
    rw [hon, cond_true] at hs
    refine ae (b := decide (ys.length = ys.length) && decide ((ys.length + 1) * 8 <= 140737488355328) && true) (by simp; omega) ?_
    exact ag ⟨hlt', ys ++ [id i], hs.symm, Ent.ren [0, 1, 4] [1, 2, 5, 6] rfl rfl rfl⟩
   ·skip
    have hon : jO zs p i = false := hon
    rw [hon, cond_false] at hs
    exact ag ⟨hlt', ys, hs.symm, Ent.ren [0, 1, 2] [1, 2, 5, 6] rfl rfl rfl⟩
  ·obtain rfl : j = zs.length := by simp only [decide_eq_false_iff_not] at hlt; omega
   subst hz
   refine ag (ag ((bN 2 (.inr rfl) rfl rfl rfl rfl rfl rfl)))
 ·cases e
end
end Go.Ab
namespace Go.Ab
open Go.Proofs
section
variable {kCa kDb : Bool}
theorem fq (l : List Int) : (tk l).length = l.length := by rw [aC]
theorem BS (l m : List Int) (h : l.length <= 1000000) (h2 : m.length <= 1000000) (b : Bool) (hb : b = true) : (decide ((tk l).length = (tk l).length) && decide (((tk l).length + m.length) * 8 <= 140737488355328) && b) = true := by rw [fq, hb]; simp; omega
theorem Fh (zs : List Int) (h : zs.length <= 64) {L : List Int} {n : Nat} (hL : L = cz zs 1 ++ cz zs (-1)) (hn : n = L.length) : (decide (n = ((L.drop 0).take n).length) && decide (((L.drop 0).take n).length <= 1000000) && ((L.drop 0).take n).all fun x => decide (0 <= x)) = true := by
 subst hn
 have e : (L.drop 0).take L.length = L := by simp
 rw [e]
 have h1 := gp zs 1
 have h2 := gp zs (-1)
 have h3 : L.length <= 1000000 := by rw [hL, List.length_append]; omega
 simp only [decide_true, Bool.true_and, Bool.and_eq_true, decide_eq_true_eq, List.all_eq_true]
 refine ⟨h3, fun x hx => ?_⟩
 rw [hL] at hx
 rcases List.mem_append.1 hx with hx | hx <;> exact (gv.1 hx).1
def Cx : CF
 | [.agg [.int .i64 _f, .int .i64 _r, .sl 0 0 len none]], [.ints false .i8 zs] => some (decide (len = zs.length) && decide (zs.length <= 64), .int .u64 (occL zs), [])
 | _, _ => none
theorem pU : CtOk (GGx kCa kDb) PP (148, Cx) := by
 refine aG Tryz.func148 (by kernel_rfl) rfl fun a0 h0 c0 v0 N0 e hc => ?_
 unfold Cx at e
 split at e
 ·rename_i f r len zs
  cases e
  have hE := aD (kCa := kCa) (kDb := kDb) (cts := [(147, xb), (20, c_Of)]) (inl := []) ⟨sV, IW, trivial⟩ trivial
  refine ak hE 2 Tryz.func148 rfl rfl ?_
  simp only [Bool.and_eq_true, decide_eq_true_eq] at hc
  obtain ⟨rfl, hc2⟩ := hc
  have l1 := gp zs 1
  have l2 := gp zs (-1)
  repeat (first | refine ah ?_ | refine sat_nd ?_)
  refine ae (by
   refine BS (cz (tk zs) 1) (cz (tk zs) (-1)) ?_ ?_ _ rfl <;> simp only [aC] <;> omega) ?_
  refine ae (by
   refine Fh zs hc2 (L := tk (cz (tk zs) 1) ++ tk (cz (tk zs) (-1))) ?_ rfl
   simp only [aC]) ?_
  refine ag (ai (.inr rfl) rfl rfl rfl ?_)
  show U (ofL (tk (tk (cz (tk zs) 1) ++ tk (cz (tk zs) (-1)))) 0) = _
  simp only [aC]
  rfl
 ·cases e
end
section
variable {kCa kDb : Bool}
theorem EB {c : Int -> Bool} {n m : Nat} (h : n <= 1000000) (hm : m = (cm c id n).length) : (decide (m = (((cm c id n).drop 0).take m).length) && decide ((((cm c id n).drop 0).take m).length <= 1000000)) = true := by
 subst hm
 have := cP c id n
 have e : ((cm c id n).drop 0).take (cm c id n).length = cm c id n := by simp
 rw [e]; simp; omega
theorem Fc {zs : List Int} {s : Int} {i : Nat} (h : i < (cz (tk zs) s).length) : 0 <= (cz (tk zs) s).getD i 0 /\ (cz (tk zs) s).getD i 0 < zs.length := by
 rw [aC] at h ⊢
 have hm : (cz zs s).getD i 0 ∈ cz zs s := by simp [List.getD, h]
 have := gv.1 hm
 exact ⟨this.1, this.2.1⟩
def mX : CF
 | [.agg [.int .i64 f, .int .i64 r, .sl 0 0 len none], .int .i64 i, .int .i64 to, .int .u64 occ], [.ints false .i8 zs] => some (decide (len = zs.length) && decide (zs.length <= 64) && decide (0 <= i) && decide (i < zs.length) && vsB f r, .bool (uQ f r zs i to occ), [])
 | _, _ => none
theorem sR : CtOk (GGx kCa kDb) PP (149, mX) := by
 refine aG Tryz.func149 (by kernel_rfl) rfl fun a0 h0 c0 v0 N0 e hc => ?_
 unfold mX at e
 split at e
 ·rename_i f r len i to occ zs
  cases e
  have hE := aD (kCa := kCa) (kDb := kDb) (cts := [(47, eP), (172, iR), (171, Bj), (155, jg)]) (inl := []) ⟨dz, ku, BJ, kq, trivial⟩ trivial
  refine ak hE 2 Tryz.func149 rfl rfl ?_
  simp only [Bool.and_eq_true, decide_eq_true_eq] at hc
  obtain ⟨⟨⟨⟨rfl, hc2⟩, hi1⟩, hi2⟩, hv⟩ := hc
  have hf := cI hv
  have hm := fX hv
  have hf0 : (!decide (f = 0)) = true := by simp; omega
  repeat (first | (first | refine ah ?_ | refine sat_nd ?_) | refine ae (by simp; omega) ?_)
  refine au (fun h => ?_) (fun h => ?_)
  ·have h : decide (aP (zs.getD i.toNat 0) = 1) = true := h
   refine ae hv ?_
   repeat (first | refine ah ?_ | refine sat_nd ?_)
   refine ae (EB (by omega) rfl) ?_
   refine ag (ai (.inr rfl) rfl rfl rfl ?_)
   show V.bool (hasL to (tk (cm (dA f (decide (zs.getD i.toNat 0 < 0)) i) id (f * r).toNat))) = _
   rw [aC, uQ, h]; rfl
  ·have h : decide (aP (zs.getD i.toNat 0) = 1) = false := h
   repeat (first | (first | refine ah ?_ | refine sat_nd ?_) | refine ae (by rw [hf0]; exact Bool.or_true _) ?_)
   exact ag (ai (.inr rfl) rfl rfl rfl (by rw [uQ, h]; rfl))
 ·cases e
def dI : CF
 | [.agg [.int .i64 f, .int .i64 r, .sl 0 0 len none], .int .i64 to, .bool bl], [.ints false .i8 zs] => some (decide (len = zs.length) && decide (zs.length <= 64) && vsB f r, .sl 1 0 (attL f r zs to bl).length none, [.ints true .i64 (attL f r zs to bl)])
 | _, _ => none
theorem eY : CtOk (GGx kCa kDb) PP (94, dI) := by
 refine aG Tryz.func94 (by kernel_rfl) rfl fun a0 h0 c0 v0 N0 e hc => ?_
 unfold dI at e
 split at e
 ·rename_i f r len to bl zs
  cases e
  have hE := aD (kCa := kCa) (kDb := kDb) (cts := [(93, qR), (147, xb), (148, Cx), (149, mX)]) (inl := []) ⟨oB, sV, pU, sR, trivial⟩ trivial
  refine ak hE 2 Tryz.func94 rfl rfl ?_
  simp only [Bool.and_eq_true, decide_eq_true_eq] at hc
  obtain ⟨⟨rfl, hc2⟩, hv⟩ := hc
  have hsl : (cz (tk zs) (sdI bl)).length <= zs.length := by rw [aC]; exact gp zs (sdI bl)
  repeat (first | refine ah ?_ | refine sat_nd ?_)
  refine bZ hE 2 (fun (i : Int) (ys : List Int) => ([(1, I to), (3, .ptr 1 0 0), (7, .sl 3 0 ys.length none), (8, .sl 2 0 (cz (tk zs) (sdI bl)).length none), (9, U (occL (tk zs))), (10, I i)], [.ints false .i8 zs, .cells true [I f, I r, .sl 0 0 zs.length none], .ints true .i64 (cz (tk zs) (sdI bl)), .ints true .i64 ys])) (cz (tk zs) (sdI bl)).length (fun j ys => ys = ((cz (tk zs) (sdI bl)).take j).filter (zJ f r (tk zs) to (occL (tk zs)))) [] (by omega) ((Ent.phanT (t := 7) (o := .ints true .i64 []) rfl ⟨by simp, by simp, trivial, rfl⟩ (aI rfl)).trans (Ent.ren [0, 1, 2, 3] [1, 3, 7, 8, 9, 10] rfl rfl rfl)) rfl ?_
  intro j i ys hij hj hz
  have hb : ys.length <= j := by rw [hz]; exact Nat.le_trans (List.length_filter_le _ _) (by rw [List.length_take]; omega)
  refine au (fun hlt => ?_) (fun hlt => ?_)
  ·have hlt' : j < (cz (tk zs) (sdI bl)).length := by simp only [decide_eq_true_eq] at hlt; omega
   have hs := AV (C := zJ f r (tk zs) to (occL (tk zs))) hlt'
   have hgl := Fc (zs := zs) (s := sdI bl) (i := i.toNat) (by omega)
   have hil : (decide (0 <= i) && decide (i < ((cz (tk zs) (sdI bl)).length : Int))) = true := by simp only [Bool.and_eq_true, decide_eq_true_eq]; omega
   rw [<- hz, show j = i.toNat by omega] at hs
   repeat (first | (first | refine ah ?_ | refine sat_nd ?_) | refine ae hil ?_)
   refine ae (by
    simp only [Bool.and_eq_true, decide_eq_true_eq]
    rw [fq]
    exact ⟨⟨⟨⟨by first | rfl | trivial, hc2⟩, hgl.1⟩, hgl.2⟩, hv⟩) ?_
   refine au (fun hon => ?_) (fun hon => ?_)
   ·skip
    have hon : zJ f r (tk zs) to (occL (tk zs)) ((cz (tk zs) (sdI bl)).getD i.toNat 0) = true := hon
    rw [hon, cond_true] at hs
    refine ae (by simp; omega) ?_
    refine ae (b := decide (ys.length = ys.length) && decide ((ys.length + 1) * 8 <= 140737488355328) && true) (by simp; omega) ?_
    exact ag ⟨hlt', ys ++ [(cz (tk zs) (sdI bl)).getD i.toNat 0], by rw [show j + 1 = i.toNat + 1 by omega]; exact hs, Ent.ren [0, 1, 2, 5] [1, 3, 7, 8, 9, 10] rfl rfl rfl⟩
   ·skip
    have hon : zJ f r (tk zs) to (occL (tk zs)) ((cz (tk zs) (sdI bl)).getD i.toNat 0) = false := hon
    rw [hon, cond_false] at hs
    exact ag ⟨hlt', ys, by rw [show j + 1 = i.toNat + 1 by omega]; exact hs, Ent.ren [0, 1, 2, 3] [1, 3, 7, 8, 9, 10] rfl rfl rfl⟩
  ·obtain rfl : j = (cz (tk zs) (sdI bl)).length := by simp only [decide_eq_false_iff_not] at hlt; omega
   rw [List.take_length] at hz
   subst hz
   refine ag (ag (bN 3 (.inr rfl) rfl rfl rfl rfl (by simp only [aC]; rfl) (by simp only [aC]; rfl)))
 ·cases e
end
end Go.Ab
namespace Go.Ab
open IntKind
open Go.Proofs
section
variable {kCa kDb : Bool}
theorem aE {zs : List Int} (h : zs.length <= 64) {n : Nat} (hn : n = zs.length) : (decide (n = (tk zs).length) && decide ((tk zs).length <= 64)) = true := by rw [fq, hn]; simp; omega
theorem aF {zs : List Int} (h : zs.length <= 64) {n : Nat} (hn : n = zs.length) {b : Bool} (hb : b = true) : (decide (n = (tk zs).length) && decide ((tk zs).length <= 64) && b) = true := by rw [fq, hn, hb]; simp; omega
def je : CF
 | [.agg [.int .i64 _f, .int .i64 _r, .sl 0 0 len none], .bool bl], [.ints false .i8 zs] => some (decide (len = zs.length) && decide (zs.length <= 64), .int .i64 (be zs bl), [])
 | _, _ => none
theorem kI : CtOk (GGx kCa kDb) PP (45, je) := by
 refine aG Tryz.func45 (by kernel_rfl) rfl fun a0 h0 c0 v0 N0 e hc => ?_
 unfold je at e
 split at e
 ·rename_i f r len bl zs
  cases e
  have hE := aD (kCa := kCa) (kDb := kDb) (cts := [(93, qR), (92, uk)]) (inl := []) ⟨oB, zW, trivial⟩ trivial
  refine ak hE 2 Tryz.func45 rfl rfl ?_
  simp only [Bool.and_eq_true, decide_eq_true_eq] at hc
  obtain ⟨rfl, hc2⟩ := hc
  repeat (first | refine ah ?_ | refine sat_nd ?_)
  refine au (fun h => ?_) (fun h => ?_)
  ·have h : (!decide (((gR (tk zs) (w8 (i64.wrap (6 * sdI bl)))).length : Int) = 1)) = true := h
   rw [aC, Bool.not_eq_true'] at h
   exact ag (ai (.inr rfl) rfl rfl rfl (by rw [be, h]; rfl))
  ·have h : (!decide (((gR (tk zs) (w8 (i64.wrap (6 * sdI bl)))).length : Int) = 1)) = false := h
   rw [aC, Bool.not_eq_false'] at h
   have hl : ((gR (tk zs) (w8 (i64.wrap (6 * sdI bl)))).length : Int) = 1 := by rw [aC]; exact of_decide_eq_true h
   refine ae (by
    show (decide ((0 : Int) <= 0) && decide ((0 : Int) < ((gR (tk zs) (w8 (i64.wrap (6 * sdI bl)))).length : Int))) = true
    rw [hl]; rfl) ?_
   exact ag (ai (.inr rfl) rfl rfl rfl (by
    show I ((gR (tk zs) (w8 (i64.wrap (6 * sdI bl)))).getD 0 0) = _
    rw [aC, be, h]; rfl))
 ·cases e
end
end Go.Ab
set_option maxHeartbeats 4000000
namespace Go.Ab
open IntKind
open Go.Proofs
section
variable {kCa kDb : Bool}
theorem eF {f r n : Int} (h : aj f r n = true) : i64.wrap (n.tdiv f) = py f n /\ 0 <= px f n /\ px f n < f /\ 0 <= py f n /\ py f n < r /\ px f n + py f n * f = n /\ 3 <= f /\ f <= 8 /\ 3 <= r /\ r <= 8 := by
 have := eG h
 have h2 := zI h
 exact ⟨this.2.2.2.2.1, this.1, this.2.1, this.2.2.1, this.2.2.2.1, h2, this.2.2.2.2.2⟩
theorem tY {f r : Int} {zs : List Int} {pa : Int} {bl g1 g2 : Bool} (h : az f r zs = true) : (!(g1 && g2 && aj f r pa && decide (i64.wrap (pa.tdiv f) = rkP r bl)) || (decide (0 <= pa) && decide (pa < zs.length))) = true := by
 cases hv : aj f r pa with
 | false => simp
 | true => have := (bL h).1 hv; simp [this.1, this.2]
theorem iC {f r : Int} {zs : List Int} {pa : Int} {bl : Bool} (h : az f r zs = true) (hr : 6 <= r) (hv : aj f r pa = true) (hk : i64.wrap (pa.tdiv f) = rkP r bl) : 0 <= pa - f /\ pa + f < zs.length /\ i64.wrap (pa - f) = pa - f /\ i64.wrap (pa + f) = pa + f /\ i64.wrap (0 - f) = -f /\ i64.wrap (pa - -f) = pa + f /\ i64.wrap (pa + -f) = pa - f := by
 obtain ⟨h1, h2, h3, h4, h5, h6, h7⟩ := eF hv
 have hl := (aV h).2
 rw [h1] at hk
 have hw : i64.wrap (r - 3) = r - 3 := aB (by omega) (by omega)
 have hpy : 1 <= py f pa /\ py f pa + 1 < r := by
  cases bl
  ·simp only [rkP, cond_false, hw] at hk; omega
  ·simp only [rkP, cond_true] at hk; omega
 have a1 : 1 * f <= py f pa * f := Int.mul_le_mul_of_nonneg_right hpy.1 (by omega)
 have a2 : (py f pa + 1 + 1) * f <= r * f := Int.mul_le_mul_of_nonneg_right (by omega) (by omega)
 rw [Int.add_mul, Int.add_mul, Int.mul_comm r f] at a2
 have hlt := (aJ hv)
 exact ⟨by omega, by omega, aB (by omega) (by omega), aB (by omega) (by omega), by rw [Int.zero_sub]; exact aB (by omega) (by omega), by rw [Int.sub_neg]; exact aB (by omega) (by omega), by rw [<- Int.sub_eq_add_neg]; exact aB (by omega) (by omega)⟩
theorem gu {f : Int} {g : Bool} (h : f ≠ 0) : (!g || !decide (f = 0)) = true := by simp [h]
theorem Kh {f r : Int} {zs : List Int} {pa ha : Int} {bl x : Bool} (h : az f r zs = true) : (!(decide (6 <= r) && decide (ha = 0) && aj f r pa && decide (i64.wrap (pa.tdiv f) = rkP r bl) && x) || (decide (0 <= i64.wrap (pa - upP f bl)) && decide (i64.wrap (pa - upP f bl) < zs.length))) = true := by
 cases hg : (decide (6 <= r) && decide (ha = 0) && aj f r pa && decide (i64.wrap (pa.tdiv f) = rkP r bl)) with
 | false => simp
 | true =>
  simp only [Bool.and_eq_true, decide_eq_true_eq] at hg
  obtain ⟨h1, h2, h3, h4, h5, h6, h7⟩ := iC (bl := bl) h hg.1.1.1 hg.1.2 hg.2
  have hfr := cI (aV h).1
  cases bl
  ·rw [Bool.or_eq_true]; right
   simp only [upP, cond_false, h5, h6, Bool.and_eq_true, decide_eq_true_eq]; omega
  ·rw [Bool.or_eq_true]; right
   simp only [upP, cond_true, h3, Bool.and_eq_true, decide_eq_true_eq]; omega
theorem JO {f r : Int} {zs : List Int} {pa ha : Int} {bl x y : Bool} (h : az f r zs = true) : (!(decide (6 <= r) && decide (ha = 0) && aj f r pa && decide (i64.wrap (pa.tdiv f) = rkP r bl) && x && y) || (decide (0 <= i64.wrap (pa + upP f bl)) && decide (i64.wrap (pa + upP f bl) < zs.length))) = true := by
 cases hg : (decide (6 <= r) && decide (ha = 0) && aj f r pa && decide (i64.wrap (pa.tdiv f) = rkP r bl)) with
 | false => simp
 | true =>
  simp only [Bool.and_eq_true, decide_eq_true_eq] at hg
  obtain ⟨h1, h2, h3, h4, h5, h6, h7⟩ := iC (bl := bl) h hg.1.1.1 hg.1.2 hg.2
  have hfr := cI (aV h).1
  cases bl
  ·rw [Bool.or_eq_true]; right
   simp only [upP, cond_false, h5, h7, Bool.and_eq_true, decide_eq_true_eq]; omega
  ·rw [Bool.or_eq_true]; right
   simp only [upP, cond_true, h4, Bool.and_eq_true, decide_eq_true_eq]; omega
def uI : CF
 | [.sl 0 0 len none], [.ints false .i8 zs] => some (decide (len = zs.length) && decide (zs.length <= 64), .sl 1 0 zs.length none, [.ints true .i8 zs])
 | _, _ => none
theorem yU : CtOk (GGx kCa kDb) PP (104, uI) := by
 refine aG Tryz.func104 (by kernel_rfl) rfl fun a0 h0 c0 v0 N0 e hc => ?_
 unfold uI at e
 split at e
 ·rename_i len zs
  cases e
  have hE := aD (kCa := kCa) (kDb := kDb) (cts := []) (inl := []) trivial trivial
  refine mb hE 2 Tryz.func104 rfl rfl ?_
  simp only [Bool.and_eq_true, decide_eq_true_eq] at hc
  obtain ⟨rfl, hc2⟩ := hc
  refine As (fun h0 => ?_) ?_
  ·refine au (fun _ => ?_) (fun h => (by cases h))
   have hz : zs = [] := List.eq_nil_of_length_eq_zero h0
   subst hz
   exact ag (Fw (Ent.phanT (t := 2) (o := .ints true .i8 []) rfl ⟨by simp, by simp, trivial, rfl⟩ (aI rfl)) (bN 1 (.inr rfl) rfl rfl rfl rfl rfl rfl))
  ·refine au (fun h => (by cases h)) (fun _ => ?_)
   refine ae (b := ?B) ?_ ?_
   ·show (decide (0 = 0) && decide ((0 + zs.length) * 1 <= 140737488355328) && true) = true
    simp; omega
   exact ag (Fw (Ent.refl _ _ _) (bN 2 (.inr rfl) rfl rfl rfl rfl (by show [O.ints true .i8 (tk zs)] = _; rw [aC]) (by show V.sl 1 0 (tk zs).length none = _; rw [aC])))
 ·cases e
def qG : CF
 | [.agg [.int .i64 f, .int .i64 r, .sl 0 0 len none, .bool bl, .int .u8 ca, .int .i64 pa, .int .i64 ha, .int .i64 fu]], [.ints false .i8 zs] => some (decide (len = zs.length) && decide (zs.length <= 64), .agg [I f, I r, .sl 1 0 zs.length none, Bb bl, .int .u8 ca, I pa, I ha, I fu], [.ints true .i8 zs])
 | _, _ => none
theorem oz : CtOk (GGx kCa kDb) PP (58, qG) := by
 refine aG Tryz.func58 (by kernel_rfl) rfl fun a0 h0 c0 v0 N0 e hc => ?_
 unfold qG at e
 split at e
 ·rename_i f r len bl ca pa ha fu zs
  cases e
  have hE := aD (kCa := kCa) (kDb := kDb) (cts := [(104, uI)]) (inl := []) ⟨yU, trivial⟩ trivial
  refine ak hE 2 Tryz.func58 rfl rfl ?_
  simp only [Bool.and_eq_true, decide_eq_true_eq] at hc
  obtain ⟨rfl, hc2⟩ := hc
  repeat (first | (first | refine ah ?_ | refine sat_nd ?_) | refine ae (aE hc2 rfl) ?_)
  exact ag (bN 3 (.inr rfl) rfl rfl rfl rfl (by show [O.ints true .i8 (tk zs)] = _; rw [aC]) (by show V.agg [I f, I r, .sl 1 0 (tk zs).length none, Bb bl, .int .u8 ca, I pa, I ha, I fu] = _; rw [aC]))
 ·cases e
def ug : CF
 | [.agg [.int .i64 f, .int .i64 r, .sl 0 0 len none, .bool bl, .int .u8 _ca, .int .i64 pa, .int .i64 ha, .int .i64 _fu]], [.ints false .i8 zs] => some (decide (len = zs.length) && decide (zs.length <= 64) && az f r zs, .bool (jJ f r zs bl pa ha), [])
 | _, _ => none
theorem yV : CtOk (GGx kCa kDb) PP (87, ug) := by
 refine aG Tryz.func87 (by kernel_rfl) rfl fun a0 h0 c0 v0 N0 e hc => ?_
 unfold ug at e
 split at e
 ·rename_i f r len bl ca pa ha fu zs
  cases e
  have hE := aD (kCa := kCa) (kDb := kDb) (cts := [(71, eU), (145, FK)]) (inl := []) ⟨cW, yh, trivial⟩ trivial
  refine ak hE 2 Tryz.func87 rfl rfl ?_
  simp only [Bool.and_eq_true, decide_eq_true_eq] at hc
  obtain ⟨⟨rfl, hc2⟩, hbd⟩ := hc
  refine au (fun h => ?_) (fun h => ?_)
  ·have h : decide (pa = -1) = true := h
   exact ag (ai (.inr rfl) rfl rfl rfl (by rw [jJ, h]; rfl))
  have h : decide (pa = -1) = false := h
  have hf : f ≠ 0 := by have := cI (aV hbd).1; omega
  refine au (fun h1 => ?_) (fun h1 => ?_)
  ·have h1 : bl = false := by simpa using h1
   subst h1
   repeat (first | (first | refine ah ?_ | refine sat_nd ?_) | refine ae (gu hf) ?_ | refine ae (tY (bl := false) hbd) ?_ | refine ae (Kh (bl := false) hbd) ?_ | refine ae (JO (bl := false) hbd) ?_)
   exact ag (ai (.inr rfl) rfl rfl rfl (by rw [jJ, h]; rfl))
  ·have h1 : bl = true := by simpa using h1
   subst h1
   repeat (first | (first | refine ah ?_ | refine sat_nd ?_) | refine ae (gu hf) ?_ | refine ae (tY (bl := true) hbd) ?_ | refine ae (Kh (bl := true) hbd) ?_ | refine ae (JO (bl := true) hbd) ?_)
   exact ag (ai (.inr rfl) rfl rfl rfl (by rw [jJ, h]; rfl))
 ·cases e
theorem FP {f r : Int} {zs : List Int} {g : Bool} (h : az f r zs = true) (_hz : zs.length <= 64) : (!g || (decide (0 <= f) && decide (f <= zs.length) && decide ((zs.length : Int) <= zs.length))) = true := by
 obtain ⟨h1, h2⟩ := aV h
 have := cI h1
 have : 1 * f <= r * f := Int.mul_le_mul_of_nonneg_right (by omega) (by omega)
 rw [Int.mul_comm r f] at this
 simp; omega
theorem GF {f r : Int} {zs : List Int} (h : az f r zs = true) (hz : zs.length <= 64) : i64.wrap ((zs.length : Int) - f) = (zs.length : Int) - f /\ 0 <= (zs.length : Int) - f /\ 3 <= f := by
 obtain ⟨h1, h2⟩ := aV h
 have := cI h1
 have : 1 * f <= r * f := Int.mul_le_mul_of_nonneg_right (by omega) (by omega)
 rw [Int.mul_comm r f] at this
 exact ⟨aB (by omega) (by omega), by omega, by omega⟩
theorem DA {f r : Int} {zs : List Int} (h : az f r zs = true) (hz : zs.length <= 64) : (decide (0 <= i64.wrap ((zs.length : Int) - f)) && decide (i64.wrap ((zs.length : Int) - f) <= zs.length) && decide ((zs.length : Int) <= zs.length)) = true := by
 obtain ⟨h1, h2, h3⟩ := GF h hz
 rw [h1]
 simp only [Bool.and_eq_true, decide_eq_true_eq]
 omega
theorem Fv {zs : List Int} {a m : Nat} (h : m = zs.length) (hz : zs.length <= 64) : (decide (m - a = ((zs.drop a).take (m - a)).length) && decide (((zs.drop a).take (m - a)).length <= 1000000)) = true := by
 simp only [Bool.and_eq_true, decide_eq_true_eq, List.length_take, List.length_drop]
 omega
theorem ET {zs : List Int} {b m : Nat} {g : Bool} (h : m <= zs.length) (hz : zs.length <= 64) : (!g || (decide (m - 0 = ((zs.drop 0).take (m - 0)).length) && decide (((zs.drop 0).take (m - 0)).length <= 1000000))) = true /\ b = b := by
 rw [Bool.or_eq_true]
 refine ⟨.inr ?_, rfl⟩
 simp only [Bool.and_eq_true, decide_eq_true_eq, List.length_take, List.length_drop]
 omega
def pS : CF
 | [.agg [.int .i64 f, .int .i64 r, .sl 0 0 len none, .bool _bl, .int .u8 _ca, .int .i64 _pa, .int .i64 _ha, .int .i64 _fu]], [.ints false .i8 zs] => some (decide (len = zs.length) && decide (zs.length <= 64) && az f r zs, .bool (nI f zs), [])
 | _, _ => none
theorem uK : CtOk (GGx kCa kDb) PP (83, pS) := by
 refine aG Tryz.func83 (by kernel_rfl) rfl fun a0 h0 c0 v0 N0 e hc => ?_
 unfold pS at e
 split at e
 ·rename_i f r len bl ca pa ha fu zs
  cases e
  have hE := aD (kCa := kCa) (kDb := kDb) (cts := [(64, gC)]) (inl := []) ⟨jr, trivial⟩ trivial
  refine ak hE 2 Tryz.func83 rfl rfl ?_
  simp only [Bool.and_eq_true, decide_eq_true_eq] at hc
  obtain ⟨⟨rfl, hc2⟩, hbd⟩ := hc
  obtain ⟨hw1, hw2, hw3⟩ := GF hbd hc2
  have hfl : f.toNat <= zs.length := by omega
  repeat (first | (first | refine ah ?_ | refine sat_nd ?_) | refine ae (FP hbd hc2) ?_ | refine ae (DA hbd hc2) ?_ | refine ae (Fv rfl hc2) ?_ | refine ae (ET (b := 0) hfl hc2).1 ?_)
  refine ag (ai (.inr rfl) rfl rfl rfl (congrArg V.bool ?_))
  show (!((zs.drop (i64.wrap ((zs.length : Int) - f)).toNat).take (zs.length - (i64.wrap ((zs.length : Int) - f)).toNat)).any (isV 1) && !((zs.drop 0).take (f.toNat - 0)).any (isV (-1))) = _
  rw [hw1, nI, show ((zs.length : Int) - f).toNat = zs.length - f.toNat by omega, List.drop_zero, Nat.sub_zero, List.take_of_length_le (by simp)]
 ·cases e
def qp : CF
 | [.agg [.int .i64 f, .int .i64 r, .sl 0 0 len none, .bool bl, .int .u8 _ca, .int .i64 _pa, .int .i64 _ha, .int .i64 _fu]], [.ints false .i8 zs] => some (decide (len = zs.length) && decide (zs.length <= 64), .bool (fW f r zs bl), [])
 | _, _ => none
theorem uZ : CtOk (GGx kCa kDb) PP (81, qp) := by
 refine aG Tryz.func81 (by kernel_rfl) rfl fun a0 h0 c0 v0 N0 e hc => ?_
 unfold qp at e
 split at e
 ·rename_i f r len bl ca pa ha fu zs
  cases e
  have hE := aD (kCa := kCa) (kDb := kDb) (cts := [(28, yn), (29, gD)]) (inl := []) ⟨tU, js, trivial⟩ trivial
  refine ak hE 2 Tryz.func81 rfl rfl ?_
  simp only [Bool.and_eq_true, decide_eq_true_eq] at hc
  obtain ⟨rfl, hc2⟩ := hc
  repeat (first | (first | refine ah ?_ | refine sat_nd ?_) | refine ae (aE hc2 rfl) ?_)
  refine ag (ai (.inr rfl) rfl rfl rfl (congrArg V.bool ?_))
  show (decide ((cy f r (tk zs) bl).2 = 0) && decide ((bS f r (tk zs) (!bl)).2 = 0) && decide ((bS f r (tk zs) (!bl)).1 = 0)) = _
  rw [aC]; rfl
 ·cases e
end
end Go.Ab
namespace Go.Ab
open Go.Proofs
section
variable {kCa kDb : Bool}
def gz : CF
 | [.agg [.int .i64 f, .int .i64 r, .sl 0 0 len none, .bool bl, .int .u8 ca, .int .i64 pa, .int .i64 ha, .int .i64 fu]], [.ints false .i8 zs] => some (decide (len = zs.length) && decide (zs.length <= 64), .bool (Psn.ok ⟨f, r, zs, bl, ca, pa, ha, fu⟩), [])
 | _, _ => none
theorem fM : CtOk (GGx kCa kDb) PP (40, gz) := by
 refine aG Tryz.func40 (by kernel_rfl) rfl fun a0 h0 c0 v0 N0 e hc => ?_
 unfold gz at e
 split at e
 ·rename_i f r len bl ca pa ha fu zs
  cases e
  have hE := aD (kCa := kCa) (kDb := kDb) (cts := [(79, iK), (81, qp), (83, pS), (85, jA), (87, ug)]) (inl := [(78, Tryz.f78), (80, Tryz.f80), (82, Tryz.f82), (84, Tryz.f84), (86, Tryz.f86), (88, Tryz.f88)]) ⟨ir, uZ, uK, oW, yV, trivial⟩ ⟨⟨Tryz.func78, by kernel_rfl⟩, ⟨Tryz.func80, by kernel_rfl⟩, ⟨Tryz.func82, by kernel_rfl⟩, ⟨Tryz.func84, by kernel_rfl⟩, ⟨Tryz.func86, by kernel_rfl⟩, ⟨Tryz.func88, by kernel_rfl⟩, trivial⟩
  refine ak hE 3 Tryz.func40 rfl rfl ?_
  simp only [Bool.and_eq_true, decide_eq_true_eq] at hc
  obtain ⟨rfl, hc2⟩ := hc
  repeat (first | refine ah ?_ | refine sat_nd ?_)
  refine cU hE 3 7 ?_
  refine rnd ?_
  refine cC (by rfl) ?_
  repeat (first | (first | refine ah ?_ | refine sat_nd ?_) | refine ae (aE hc2 rfl) ?_)
  refine au (fun h0 => ?_) (fun h0 => ?_)
  ·have h0 : (!az f r (tk zs)) = true := h0
   rw [aC, Bool.not_eq_true'] at h0
   exact ag (ag (ai (.inr rfl) rfl rfl rfl (by simp [Psn.ok, h0])))
  have h0 : (!az f r (tk zs)) = false := h0
  have h0t : az f r (tk zs) = true := by simpa using h0
  rw [aC, Bool.not_eq_false'] at h0
  refine ag ⟨[(1, .ptr 1 0 0), (13, .sl 2 0 6 none), (14, I 6), (15, I 1)], [.ints false .i8 zs, .cells true [I f, I r, .sl 0 0 zs.length none, Bb bl, .int .u8 ca, I pa, I ha, I fu], .vals true 1 [[.fn 78 [.ptr 1 0 0]], [.fn 80 [.ptr 1 0 0]], [.fn 82 [.ptr 1 0 0]], [.fn 84 [.ptr 1 0 0]], [.fn 86 [.ptr 1 0 0]], [.fn 88 [.ptr 1 0 0]]]], Ent.ren [0, 1, 2] [1, 13, 14, 15] rfl rfl rfl, ?_⟩
  refine rnd ?_
  refine cC (by rfl) ?_
  repeat (first | (first | refine ah ?_ | refine sat_nd ?_) | refine ae (aE hc2 rfl) ?_ | refine ae (aF hc2 rfl h0t) ?_)
  refine au (fun h1 => ?_) (fun h1 => ?_)
  ·have h1 : (!fW f r (tk zs) bl) = true := h1
   rw [aC, Bool.not_eq_true'] at h1
   exact ag (ag (ai (.inr rfl) rfl rfl rfl (by simp [Psn.ok, h0, h1])))
  have h1 : (!fW f r (tk zs) bl) = false := h1
  rw [aC, Bool.not_eq_false'] at h1
  refine ag ⟨[(1, .ptr 1 0 0), (13, .sl 2 0 6 none), (14, I 6), (15, I 2)], [.ints false .i8 zs, .cells true [I f, I r, .sl 0 0 zs.length none, Bb bl, .int .u8 ca, I pa, I ha, I fu], .vals true 1 [[.fn 78 [.ptr 1 0 0]], [.fn 80 [.ptr 1 0 0]], [.fn 82 [.ptr 1 0 0]], [.fn 84 [.ptr 1 0 0]], [.fn 86 [.ptr 1 0 0]], [.fn 88 [.ptr 1 0 0]]]], Ent.ren [0, 1, 2] [1, 13, 14, 15] rfl rfl rfl, ?_⟩
  refine rnd ?_
  refine cC (by rfl) ?_
  repeat (first | (first | refine ah ?_ | refine sat_nd ?_) | refine ae (aE hc2 rfl) ?_ | refine ae (aF hc2 rfl h0t) ?_)
  refine au (fun h2 => ?_) (fun h2 => ?_)
  ·have h2 : (!nI f (tk zs)) = true := h2
   rw [aC, Bool.not_eq_true'] at h2
   exact ag (ag (ai (.inr rfl) rfl rfl rfl (by simp [Psn.ok, h0, h1, h2])))
  have h2 : (!nI f (tk zs)) = false := h2
  rw [aC, Bool.not_eq_false'] at h2
  refine ag ⟨[(1, .ptr 1 0 0), (13, .sl 2 0 6 none), (14, I 6), (15, I 3)], [.ints false .i8 zs, .cells true [I f, I r, .sl 0 0 zs.length none, Bb bl, .int .u8 ca, I pa, I ha, I fu], .vals true 1 [[.fn 78 [.ptr 1 0 0]], [.fn 80 [.ptr 1 0 0]], [.fn 82 [.ptr 1 0 0]], [.fn 84 [.ptr 1 0 0]], [.fn 86 [.ptr 1 0 0]], [.fn 88 [.ptr 1 0 0]]]], Ent.ren [0, 1, 2] [1, 13, 14, 15] rfl rfl rfl, ?_⟩
  refine rnd ?_
  refine cC (by rfl) ?_
  repeat (first | (first | refine ah ?_ | refine sat_nd ?_) | refine ae (aE hc2 rfl) ?_ | refine ae (aF hc2 rfl h0t) ?_)
  refine au (fun h3 => ?_) (fun h3 => ?_)
  ·have h3 : (!eI f r (tk zs) ca) = true := h3
   rw [aC, Bool.not_eq_true'] at h3
   exact ag (ag (ai (.inr rfl) rfl rfl rfl (by simp [Psn.ok, h0, h1, h2, h3])))
  have h3 : (!eI f r (tk zs) ca) = false := h3
  rw [aC, Bool.not_eq_false'] at h3
  refine ag ⟨[(1, .ptr 1 0 0), (13, .sl 2 0 6 none), (14, I 6), (15, I 4)], [.ints false .i8 zs, .cells true [I f, I r, .sl 0 0 zs.length none, Bb bl, .int .u8 ca, I pa, I ha, I fu], .vals true 1 [[.fn 78 [.ptr 1 0 0]], [.fn 80 [.ptr 1 0 0]], [.fn 82 [.ptr 1 0 0]], [.fn 84 [.ptr 1 0 0]], [.fn 86 [.ptr 1 0 0]], [.fn 88 [.ptr 1 0 0]]]], Ent.ren [0, 1, 2] [1, 13, 14, 15] rfl rfl rfl, ?_⟩
  refine rnd ?_
  refine cC (by rfl) ?_
  repeat (first | (first | refine ah ?_ | refine sat_nd ?_) | refine ae (aE hc2 rfl) ?_ | refine ae (aF hc2 rfl h0t) ?_)
  refine au (fun h4 => ?_) (fun h4 => ?_)
  ·have h4 : (!jJ f r (tk zs) bl pa ha) = true := h4
   rw [aC, Bool.not_eq_true'] at h4
   exact ag (ag (ai (.inr rfl) rfl rfl rfl (by simp [Psn.ok, h0, h1, h2, h3, h4])))
  have h4 : (!jJ f r (tk zs) bl pa ha) = false := h4
  rw [aC, Bool.not_eq_false'] at h4
  refine ag ⟨[(1, .ptr 1 0 0), (13, .sl 2 0 6 none), (14, I 6), (15, I 5)], [.ints false .i8 zs, .cells true [I f, I r, .sl 0 0 zs.length none, Bb bl, .int .u8 ca, I pa, I ha, I fu], .vals true 1 [[.fn 78 [.ptr 1 0 0]], [.fn 80 [.ptr 1 0 0]], [.fn 82 [.ptr 1 0 0]], [.fn 84 [.ptr 1 0 0]], [.fn 86 [.ptr 1 0 0]], [.fn 88 [.ptr 1 0 0]]]], Ent.ren [0, 1, 2] [1, 13, 14, 15] rfl rfl rfl, ?_⟩
  refine rnd ?_
  refine cC (by rfl) ?_
  repeat (first | (first | refine ah ?_ | refine sat_nd ?_) | refine ae (aE hc2 rfl) ?_ | refine ae (aF hc2 rfl h0t) ?_)
  refine au (fun h5 => ?_) (fun h5 => ?_)
  ·have h5 : (!cntB ha fu) = true := h5
   rw [Bool.not_eq_true'] at h5
   exact ag (ag (ai (.inr rfl) rfl rfl rfl (by simp [Psn.ok, h0, h1, h2, h3, h4, h5])))
  have h5 : (!cntB ha fu) = false := h5
  rw [Bool.not_eq_false'] at h5
  refine ag ⟨[(1, .ptr 1 0 0), (13, .sl 2 0 6 none), (14, I 6), (15, I 6)], [.ints false .i8 zs, .cells true [I f, I r, .sl 0 0 zs.length none, Bb bl, .int .u8 ca, I pa, I ha, I fu], .vals true 1 [[.fn 78 [.ptr 1 0 0]], [.fn 80 [.ptr 1 0 0]], [.fn 82 [.ptr 1 0 0]], [.fn 84 [.ptr 1 0 0]], [.fn 86 [.ptr 1 0 0]], [.fn 88 [.ptr 1 0 0]]]], Ent.ren [0, 1, 2] [1, 13, 14, 15] rfl rfl rfl, ?_⟩
  refine rnd ?_
  refine sI (by rfl) ?_
  refine ag (ag (ai (.inr rfl) rfl rfl rfl (by simp [Psn.ok, h0, h1, h2, h3, h4, h5])))
 ·cases e
end
section
variable {kCa kDb : Bool}
def oG (k : Int) (bl : Bool) : Int := bif bl then w8 (0 - k) else k
def ec (r : Int) (bl : Bool) (n : Int) : Int := bif bl then IntKind.i64.wrap (r - n) else IntKind.i64.wrap (n - 1)
def fK (r : Int) (bl : Bool) : Int := bif bl then 0 else IntKind.i64.wrap (r - 1)
def chkL (f r : Int) (zs : List Int) (bl : Bool) : Bool := decide (0 < ((attL f r zs (be zs bl) (!bl)).length : Int))
def hU (f r : Int) (zs : List Int) (bit : Int) : Bool := bif !decide (f = 8) || !decide (r = 8) then false else bif decide (bit = 1) then decide (zs.getD 4 0 = 6) && decide (zs.getD 7 0 = 4) else bif decide (bit = 2) then decide (zs.getD 4 0 = 6) && decide (zs.getD 0 0 = 4) else bif decide (bit = 4) then decide (zs.getD 60 0 = -6) && decide (zs.getD 63 0 = -4) else decide (zs.getD 60 0 = -6) && decide (zs.getD 56 0 = -4)
theorem nR : cj 8 8 [101, 49] = 4 := by kernel_rfl
theorem pR : cj 8 8 [104, 49] = 7 := by kernel_rfl
theorem pF : cj 8 8 [97, 49] = 0 := by kernel_rfl
theorem nY : cj 8 8 [101, 56] = 60 := by kernel_rfl
theorem qk : cj 8 8 [104, 56] = 63 := by kernel_rfl
theorem qI : cj 8 8 [97, 56] = 56 := by kernel_rfl
def qj : CF
 | [.int .i8 k, .bool bl], [] => some (true, .int .i8 (oG k bl), [])
 | _, _ => none
theorem ve : CtOk (GGx kCa kDb) PP (98, qj) := by
 refine aG Tryz.func98 (by kernel_rfl) rfl fun a0 h0 c0 v0 N0 e hc => ?_
 unfold qj at e
 split at e
 ·rename_i k bl
  cases e
  have hE := aD (kCa := kCa) (kDb := kDb) (cts := []) (inl := []) trivial trivial
  refine ak hE 2 Tryz.func98 rfl rfl ?_
  repeat' first | (first | refine ah ?_ | refine sat_nd ?_) | refine au (fun h => ?_) (fun h => ?_)
  all_goals exact ag (ai (.inr rfl) rfl rfl rfl (by first | rfl | (simp only [oG, *, cond_true, cond_false]; done) | (simp only [oG, *, cond_true, cond_false, Bool.not_true, Bool.not_false, Bool.and_true, Bool.true_and, Bool.and_false, Bool.false_and, Bool.or_true, Bool.true_or, Bool.or_false, Bool.false_or]; done) | simp_all [oG]))
 ·cases e
def vQ : CF
 | [.agg [.int .i64 _f, .int .i64 r], .bool bl, .int .i64 n], [] => some (true, .int .i64 (ec r bl n), [])
 | _, _ => none
theorem yL : CtOk (GGx kCa kDb) PP (96, vQ) := by
 refine aG Tryz.func96 (by kernel_rfl) rfl fun a0 h0 c0 v0 N0 e hc => ?_
 unfold vQ at e
 split at e
 ·rename_i f r bl n
  cases e
  have hE := aD (kCa := kCa) (kDb := kDb) (cts := []) (inl := []) trivial trivial
  refine ak hE 2 Tryz.func96 rfl rfl ?_
  repeat' first | (first | refine ah ?_ | refine sat_nd ?_) | refine au (fun h => ?_) (fun h => ?_)
  all_goals exact ag (ai (.inr rfl) rfl rfl rfl (by first | rfl | (simp only [ec, *, cond_true, cond_false]; done) | (simp only [ec, *, cond_true, cond_false, Bool.not_true, Bool.not_false, Bool.and_true, Bool.true_and, Bool.and_false, Bool.false_and, Bool.or_true, Bool.true_or, Bool.or_false, Bool.false_or]; done) | simp_all [ec]))
 ·cases e
def pO : CF
 | [.agg [.int .i64 _f, .int .i64 r], .bool bl], [] => some (true, .int .i64 (fK r bl), [])
 | _, _ => none
theorem oa : CtOk (GGx kCa kDb) PP (49, pO) := by
 refine aG Tryz.func49 (by kernel_rfl) rfl fun a0 h0 c0 v0 N0 e hc => ?_
 unfold pO at e
 split at e
 ·rename_i f r bl
  cases e
  have hE := aD (kCa := kCa) (kDb := kDb) (cts := []) (inl := []) trivial trivial
  refine ak hE 2 Tryz.func49 rfl rfl ?_
  repeat' first | (first | refine ah ?_ | refine sat_nd ?_) | refine au (fun h => ?_) (fun h => ?_)
  all_goals exact ag (ai (.inr rfl) rfl rfl rfl (by first | rfl | (simp only [fK, *, cond_true, cond_false]; done) | (simp only [fK, *, cond_true, cond_false, Bool.not_true, Bool.not_false, Bool.and_true, Bool.true_and, Bool.and_false, Bool.false_and, Bool.or_true, Bool.true_or, Bool.or_false, Bool.false_or]; done) | simp_all [fK]))
 ·cases e
def vI : CF
 | [.agg [.int .i64 f, .int .i64 r, .sl 0 0 len none, .bool _bl, .int .u8 _ca, .int .i64 _pa, .int .i64 _ha, .int .i64 _fu]], [.ints false .i8 _zs] => some (true, .agg [I f, I r, .sl 0 0 len none], [])
 | _, _ => none
theorem iY : CtOk (GGx kCa kDb) PP (27, vI) := by
 refine aG Tryz.func27 (by kernel_rfl) rfl fun a0 h0 c0 v0 N0 e hc => ?_
 unfold vI at e
 split at e
 ·rename_i f r len bl ca pa ha fu zs
  cases e
  have hE := aD (kCa := kCa) (kDb := kDb) (cts := []) (inl := []) trivial trivial
  refine Ck hE 2 Tryz.func27 rfl rfl ?_
  repeat (first | refine ah ?_ | refine sat_nd ?_)
  exact ag ⟨.inr rfl, _, rfl, rfl, rfl⟩
 ·cases e
def lB : CF
 | [.agg [.int .i64 f, .int .i64 r, .sl 0 0 len none], .bool bl], [.ints false .i8 zs] => some (decide (len = zs.length) && decide (zs.length <= 64) && vsB f r, .bool (chkL f r zs bl), [])
 | _, _ => none
theorem mc : CtOk (GGx kCa kDb) PP (46, lB) := by
 refine aG Tryz.func46 (by kernel_rfl) rfl fun a0 h0 c0 v0 N0 e hc => ?_
 unfold lB at e
 split at e
 ·rename_i f r len bl zs
  cases e
  have hE := aD (kCa := kCa) (kDb := kDb) (cts := [(45, je), (94, dI)]) (inl := []) ⟨kI, eY, trivial⟩ trivial
  refine ak hE 2 Tryz.func46 rfl rfl ?_
  simp only [Bool.and_eq_true, decide_eq_true_eq] at hc
  obtain ⟨⟨rfl, hc2⟩, hv⟩ := hc
  repeat (first | (first | refine ah ?_ | refine sat_nd ?_) | refine ae (aE hc2 rfl) ?_ | refine ae (aF hc2 rfl hv) ?_)
  refine ag (ai (.inr rfl) rfl rfl rfl (by
   show V.bool (chkL f r (tk zs) bl) = _
   rw [aC]))
 ·cases e
def IJ : CF
 | [.agg [.int .i64 _f, .int .i64 _r, .sl 0 0 len none, .bool _bl, .int .u8 _ca, .int .i64 _pa, .int .i64 _ha, .int .i64 _fu], .str s], [.ints false .i8 zs] => some (decide (len = zs.length) && decide (zs.length <= 64) && decide (0 <= cj 8 8 s) && decide (cj 8 8 s < zs.length), .int .i8 (zs.getD (cj 8 8 s).toNat 0), [])
 | _, _ => none
theorem DK : CtOk (GGx kCa kDb) PP (150, IJ) := by
 refine aG Tryz.func150 (by kernel_rfl) rfl fun a0 h0 c0 v0 N0 e hc => ?_
 unfold IJ at e
 split at e
 ·rename_i f r len bl ca pa ha fu s zs
  cases e
  have hE := aD (kCa := kCa) (kDb := kDb) (cts := [(133, nE)]) (inl := []) ⟨jY, trivial⟩ trivial
  refine ak hE 2 Tryz.func150 rfl rfl ?_
  simp only [Bool.and_eq_true, decide_eq_true_eq] at hc
  obtain ⟨⟨⟨rfl, hc2⟩, h0⟩, h1⟩ := hc
  repeat (first | (first | refine ah ?_ | refine sat_nd ?_) | refine ae (by simp only [Bool.and_eq_true, decide_eq_true_eq]; omega) ?_)
  exact ag (ai (.inr rfl) rfl rfl rfl rfl)
 ·cases e
theorem aY {zs : List Int} {s : List UInt8} {n : Nat} (h : cj 8 8 s = n) (h2 : n < 64) (h64 : zs.length = 64) : (decide (zs.length = (tk zs).length) && decide ((tk zs).length <= 64) && decide (0 <= cj 8 8 s) && decide (cj 8 8 s < (tk zs).length)) = true := by
 rw [fq, h, h64]; simp; omega
theorem aR {zs : List Int} {s : List UInt8} {n : Nat} {g : Bool} (h : cj 8 8 s = n) (h2 : n < 64) (h64 : zs.length = 64) : (!g || (decide (zs.length = (tk zs).length) && decide ((tk zs).length <= 64) && decide (0 <= cj 8 8 s) && decide (cj 8 8 s < (tk zs).length))) = true := by
 rw [aY h h2 h64]; simp
def vU : CF
 | [.agg [.int .i64 f, .int .i64 r, .sl 0 0 len none, .bool _bl, .int .u8 _ca, .int .i64 _pa, .int .i64 _ha, .int .i64 _fu], .int .u8 bit], [.ints false .i8 zs] => some (decide (len = zs.length) && decide (zs.length <= 64) && (!decide (f = 8) || !decide (r = 8) || decide (zs.length = 64)), .bool (hU f r zs bit), [])
 | _, _ => none
theorem zG : CtOk (GGx kCa kDb) PP (95, vU) := by
 refine aG Tryz.func95 (by kernel_rfl) rfl fun a0 h0 c0 v0 N0 e hc => ?_
 unfold vU at e
 split at e
 ·rename_i f r len bl ca pa ha fu bit zs
  cases e
  have hE := aD (kCa := kCa) (kDb := kDb) (cts := [(150, IJ)]) (inl := []) ⟨DK, trivial⟩ trivial
  refine ak hE 2 Tryz.func95 rfl rfl ?_
  simp only [Bool.and_eq_true, decide_eq_true_eq] at hc
  obtain ⟨⟨rfl, hc2⟩, hv⟩ := hc
  repeat (first | refine ah ?_ | refine sat_nd ?_)
  refine au (fun h => ?_) (fun h => ?_)
  ·have h : (!decide (f = 8) || !decide (r = 8)) = true := h
   exact ag (ai (.inr rfl) rfl rfl rfl (by rw [hU, h]; rfl))
  have h : (!decide (f = 8) || !decide (r = 8)) = false := h
  have h64 : zs.length = 64 := by
   rw [h] at hv; simpa using hv
  refine au (fun h1 => ?_) (fun h1 => ?_)
  ·have h1 : decide (bit = 1) = true := h1
   repeat (first | (first | refine ah ?_ | refine sat_nd ?_) | refine ae (aY (n := 4) nR (by decide) h64) ?_ | refine ae (aR (n := 4) nR (by decide) h64) ?_ | refine ae (aY (n := 7) pR (by decide) h64) ?_ | refine ae (aR (n := 7) pR (by decide) h64) ?_ | refine ae (aY (n := 0) pF (by decide) h64) ?_ | refine ae (aR (n := 0) pF (by decide) h64) ?_ | refine ae (aY (n := 60) nY (by decide) h64) ?_ | refine ae (aR (n := 60) nY (by decide) h64) ?_ | refine ae (aY (n := 63) qk (by decide) h64) ?_ | refine ae (aR (n := 63) qk (by decide) h64) ?_ | refine ae (aY (n := 56) qI (by decide) h64) ?_ | refine ae (aR (n := 56) qI (by decide) h64) ?_)
   exact ag (ai (.inr rfl) rfl rfl rfl (congrArg V.bool (by
    show (decide ((tk zs).getD (cj 8 8 [101, 49]).toNat 0 = 6) && decide ((tk zs).getD (cj 8 8 [104, 49]).toNat 0 = 4)) = _
    rw [aC, nR, pR, hU, h, h1]; rfl)))
  have h1 : decide (bit = 1) = false := h1
  refine au (fun h2 => ?_) (fun h2 => ?_)
  ·have h2 : decide (bit = 2) = true := h2
   repeat (first | (first | refine ah ?_ | refine sat_nd ?_) | refine ae (aY (n := 4) nR (by decide) h64) ?_ | refine ae (aR (n := 4) nR (by decide) h64) ?_ | refine ae (aY (n := 7) pR (by decide) h64) ?_ | refine ae (aR (n := 7) pR (by decide) h64) ?_ | refine ae (aY (n := 0) pF (by decide) h64) ?_ | refine ae (aR (n := 0) pF (by decide) h64) ?_ | refine ae (aY (n := 60) nY (by decide) h64) ?_ | refine ae (aR (n := 60) nY (by decide) h64) ?_ | refine ae (aY (n := 63) qk (by decide) h64) ?_ | refine ae (aR (n := 63) qk (by decide) h64) ?_ | refine ae (aY (n := 56) qI (by decide) h64) ?_ | refine ae (aR (n := 56) qI (by decide) h64) ?_)
   exact ag (ai (.inr rfl) rfl rfl rfl (congrArg V.bool (by
    show (decide ((tk zs).getD (cj 8 8 [101, 49]).toNat 0 = 6) && decide ((tk zs).getD (cj 8 8 [97, 49]).toNat 0 = 4)) = _
    rw [aC, nR, pF, hU, h, h1, h2]; rfl)))
  have h2 : decide (bit = 2) = false := h2
  refine au (fun h3 => ?_) (fun h3 => ?_)
  ·have h3 : decide (bit = 4) = true := h3
   repeat (first | (first | refine ah ?_ | refine sat_nd ?_) | refine ae (aY (n := 4) nR (by decide) h64) ?_ | refine ae (aR (n := 4) nR (by decide) h64) ?_ | refine ae (aY (n := 7) pR (by decide) h64) ?_ | refine ae (aR (n := 7) pR (by decide) h64) ?_ | refine ae (aY (n := 0) pF (by decide) h64) ?_ | refine ae (aR (n := 0) pF (by decide) h64) ?_ | refine ae (aY (n := 60) nY (by decide) h64) ?_ | refine ae (aR (n := 60) nY (by decide) h64) ?_ | refine ae (aY (n := 63) qk (by decide) h64) ?_ | refine ae (aR (n := 63) qk (by decide) h64) ?_ | refine ae (aY (n := 56) qI (by decide) h64) ?_ | refine ae (aR (n := 56) qI (by decide) h64) ?_)
   exact ag (ai (.inr rfl) rfl rfl rfl (congrArg V.bool (by
    show (decide ((tk zs).getD (cj 8 8 [101, 56]).toNat 0 = -6) && decide ((tk zs).getD (cj 8 8 [104, 56]).toNat 0 = -4)) = _
    rw [aC, nY, qk, hU, h, h1, h2, h3]; rfl)))
  have h3 : decide (bit = 4) = false := h3
  repeat (first | (first | refine ah ?_ | refine sat_nd ?_) | refine ae (aY (n := 4) nR (by decide) h64) ?_ | refine ae (aR (n := 4) nR (by decide) h64) ?_ | refine ae (aY (n := 7) pR (by decide) h64) ?_ | refine ae (aR (n := 7) pR (by decide) h64) ?_ | refine ae (aY (n := 0) pF (by decide) h64) ?_ | refine ae (aR (n := 0) pF (by decide) h64) ?_ | refine ae (aY (n := 60) nY (by decide) h64) ?_ | refine ae (aR (n := 60) nY (by decide) h64) ?_ | refine ae (aY (n := 63) qk (by decide) h64) ?_ | refine ae (aR (n := 63) qk (by decide) h64) ?_ | refine ae (aY (n := 56) qI (by decide) h64) ?_ | refine ae (aR (n := 56) qI (by decide) h64) ?_)
  exact ag (ai (.inr rfl) rfl rfl rfl (congrArg V.bool (by
   show (decide ((tk zs).getD (cj 8 8 [101, 56]).toNat 0 = -6) && decide ((tk zs).getD (cj 8 8 [97, 56]).toNat 0 = -4)) = _
   rw [aC, nY, qI, hU, h, h1, h2, h3]; rfl)))
 ·cases e
end
end Go.Ab
namespace Go.Ab
open IntKind
open Go.Proofs
section
variable {kCa kDb : Bool}
def rXL (f r : Int) (zs : List Int) (ca bit : Int) : Bool := decide ((u8.wrap (ca.tdiv bit)).tmod 2 = 1) && !hU f r zs bit
def cA (f r : Int) (zs : List Int) (ca : Int) : Bool := bif decide (15 < ca) then false else !(rXL f r zs ca 1 || rXL f r zs ca 2 || rXL f r zs ca 4 || rXL f r zs ca 8)
def pasL (f r : Int) (zs : List Int) (bl : Bool) (pa ha : Int) : Bool := bif decide (pa = -1) then true else bif decide (r < 6) || !decide (ha = 0) || !aj f r pa then false else bif !decide (i64.wrap (2 * i64.wrap (pa.tdiv f)) = i64.wrap (ec r (!bl) 2 + ec r (!bl) 4)) then false else decide (zs.getD pa.toNat 0 = 0) && decide (zs.getD (numR f r (pa.tmod f) (ec r (!bl) 2)).toNat 0 = 0) && decide (zs.getD (numR f r (pa.tmod f) (ec r (!bl) 4)).toNat 0 = oG 1 (!bl))
def pwL (f r : Int) (zs : List Int) (i : Int) : Bool := decide (aP (zs.getD i.toNat 0) = 1) && decide (i64.wrap (i.tdiv f) = fK r (decide (zs.getD i.toNat 0 < 0)))
def tS (f r : Int) (zs : List Int) : Bool := (List.range zs.length).any fun i => pwL f r zs i
def nj (p : Psn) : Bool := bif !aL p.f p.r p.zs || decide (be p.zs false < 0) || decide (be p.zs true < 0) || chkL p.f p.r p.zs (!p.bl) then false else bif tS p.f p.r p.zs then false else cA p.f p.r p.zs p.ca && pasL p.f p.r p.zs p.bl p.pa p.ha && decide (0 <= p.ha) && decide (p.ha <= 10000) && decide (1 <= p.fu) && decide (p.fu <= 10000)
theorem lG {f r : Int} {zs : List Int} {g : Bool} (hc2 : zs.length <= 64) (hv : (!decide (f = 8) || !decide (r = 8) || decide (zs.length = 64)) = true) : (!g || (decide (zs.length = (tk zs).length) && decide ((tk zs).length <= 64) && (!decide (f = 8) || !decide (r = 8) || decide ((tk zs).length = 64)))) = true := by
 rw [fq, hv]; simp [hc2]
theorem yp {f r x : Int} {zs : List Int} {bl : Bool} {n : Int} (hbd : az f r zs = true) (hx : 0 <= x /\ x < f) (hr : 6 <= r) (hn : n = 2 \/ n = 4) : 0 <= numR f r x (ec r bl n) /\ numR f r x (ec r bl n) < zs.length := by
 have hv := (aV hbd).1
 have hb := cI hv
 have hk : ec r bl n = (bif bl then r - n else n - 1) := by
  unfold ec; cases bl
  ·exact aB (by omega) (by omega)
  ·exact aB (by omega) (by omega)
 have ho : onB f r x (ec r bl n) = true := by
  rw [hk]; cases bl
  ·exact jo hx.1 hx.2 (by simp only [cond_false]; omega) (by simp only [cond_false]; omega)
  ·exact jo hx.1 hx.2 (by simp only [cond_true]; omega) (by simp only [cond_true]; omega)
 rcases gw f r x (ec r bl n) hv with ⟨_, h⟩ | ⟨h, _⟩
 ·exact (bL hbd).1 h
 ·rw [ho] at h; cases h
theorem bR {zs : List Int} (h : zs.length <= 64) {n : Nat} (hn : n = zs.length) {g : Bool} : (!g || (decide (n = (tk zs).length) && decide ((tk zs).length <= 64))) = true := by rw [aE h hn]; simp
theorem gH {zs : List Int} (h : zs.length <= 64) {g b : Bool} (hb : b = true) : (!g || (decide (zs.length = (tk zs).length) && decide ((tk zs).length <= 64) && b)) = true := by rw [aF h rfl hb]; simp
theorem uM {g : Bool} {x : Int} {n : Nat} (h : 0 <= x /\ x < n) : (!g || (decide (0 <= x) && decide (x < n))) = true := by simp [h]
def mK : CF
 | [.agg [.int .i64 f, .int .i64 r, .sl 0 0 len none, .bool _bl, .int .u8 ca, .int .i64 _pa, .int .i64 _ha, .int .i64 _fu]], [.ints false .i8 zs] => some (decide (len = zs.length) && decide (zs.length <= 64) && (!decide (f = 8) || !decide (r = 8) || decide (zs.length = 64)), .bool (cA f r zs ca), [])
 | _, _ => none
theorem tV : CtOk (GGx kCa kDb) PP (50, mK) := by
 refine aG Tryz.func50 (by kernel_rfl) rfl fun a0 h0 c0 v0 N0 e hc => ?_
 unfold mK at e
 split at e
 ·rename_i f r len bl ca pa ha fu zs
  cases e
  have hE := aD (kCa := kCa) (kDb := kDb) (cts := [(95, vU)]) (inl := []) ⟨zG, trivial⟩ trivial
  refine ak hE 2 Tryz.func50 rfl rfl ?_
  simp only [Bool.and_eq_true, decide_eq_true_eq] at hc
  obtain ⟨⟨rfl, hc2⟩, hv⟩ := hc
  refine au (fun h => ?_) (fun h => ?_)
  ·have h : decide (15 < ca) = true := h
   exact ag (ai (.inr rfl) rfl rfl rfl (by rw [cA, h]; rfl))
  have h : decide (15 < ca) = false := h
  repeat (first | refine ah ?_ | refine sat_nd ?_)
  refine cU hE 2 5 ?_
  refine rnd ?_
  refine cC (by rfl) ?_
  repeat (first | (first | refine ah ?_ | refine sat_nd ?_) | refine ae (lG hc2 hv) ?_)
  refine au (fun h0 => ?_) (fun h0 => ?_)
  ·have h0 : rXL f r (tk zs) ca 1 = true := h0
   rw [aC] at h0
   exact ag (ag (ai (.inr rfl) rfl rfl rfl (by simp [cA, h, h0])))
  have h0 : rXL f r (tk zs) ca 1 = false := h0
  rw [aC] at h0
  refine ag ⟨[(1, .ptr 1 0 0), (8, .sl 2 0 4 none), (9, I 4), (10, I 1)], [.ints false .i8 zs, .cells true [I f, I r, .sl 0 0 zs.length none, Bb bl, .int .u8 ca, I pa, I ha, I fu], .ints true .u8 [1, 2, 4, 8]], Ent.ren [0, 1, 2] [1, 8, 9, 10] rfl rfl rfl, ?_⟩
  refine rnd ?_
  refine cC (by rfl) ?_
  repeat (first | (first | refine ah ?_ | refine sat_nd ?_) | refine ae (lG hc2 hv) ?_)
  refine au (fun h1 => ?_) (fun h1 => ?_)
  ·have h1 : rXL f r (tk zs) ca 2 = true := h1
   rw [aC] at h1
   exact ag (ag (ai (.inr rfl) rfl rfl rfl (by simp [cA, h, h0, h1])))
  have h1 : rXL f r (tk zs) ca 2 = false := h1
  rw [aC] at h1
  refine ag ⟨[(1, .ptr 1 0 0), (8, .sl 2 0 4 none), (9, I 4), (10, I 2)], [.ints false .i8 zs, .cells true [I f, I r, .sl 0 0 zs.length none, Bb bl, .int .u8 ca, I pa, I ha, I fu], .ints true .u8 [1, 2, 4, 8]], Ent.ren [0, 1, 2] [1, 8, 9, 10] rfl rfl rfl, ?_⟩
  refine rnd ?_
  refine cC (by rfl) ?_
  repeat (first | (first | refine ah ?_ | refine sat_nd ?_) | refine ae (lG hc2 hv) ?_)
  refine au (fun h2 => ?_) (fun h2 => ?_)
  ·have h2 : rXL f r (tk zs) ca 4 = true := h2
   rw [aC] at h2
   exact ag (ag (ai (.inr rfl) rfl rfl rfl (by simp [cA, h, h0, h1, h2])))
  have h2 : rXL f r (tk zs) ca 4 = false := h2
  rw [aC] at h2
  refine ag ⟨[(1, .ptr 1 0 0), (8, .sl 2 0 4 none), (9, I 4), (10, I 3)], [.ints false .i8 zs, .cells true [I f, I r, .sl 0 0 zs.length none, Bb bl, .int .u8 ca, I pa, I ha, I fu], .ints true .u8 [1, 2, 4, 8]], Ent.ren [0, 1, 2] [1, 8, 9, 10] rfl rfl rfl, ?_⟩
  refine rnd ?_
  refine cC (by rfl) ?_
  repeat (first | (first | refine ah ?_ | refine sat_nd ?_) | refine ae (lG hc2 hv) ?_)
  refine au (fun h3 => ?_) (fun h3 => ?_)
  ·have h3 : rXL f r (tk zs) ca 8 = true := h3
   rw [aC] at h3
   exact ag (ag (ai (.inr rfl) rfl rfl rfl (by simp [cA, h, h0, h1, h2, h3])))
  have h3 : rXL f r (tk zs) ca 8 = false := h3
  rw [aC] at h3
  refine ag ⟨[(1, .ptr 1 0 0), (8, .sl 2 0 4 none), (9, I 4), (10, I 4)], [.ints false .i8 zs, .cells true [I f, I r, .sl 0 0 zs.length none, Bb bl, .int .u8 ca, I pa, I ha, I fu], .ints true .u8 [1, 2, 4, 8]], Ent.ren [0, 1, 2] [1, 8, 9, 10] rfl rfl rfl, ?_⟩
  refine rnd ?_
  refine sI (by rfl) ?_
  exact ag (ag (ai (.inr rfl) rfl rfl rfl (by simp [cA, h, h0, h1, h2, h3])))
 ·cases e
def jD : CF
 | [.agg [.int .i64 f, .int .i64 r, .sl 0 0 len none, .bool bl, .int .u8 _ca, .int .i64 pa, .int .i64 ha, .int .i64 _fu]], [.ints false .i8 zs] => some (decide (len = zs.length) && decide (zs.length <= 64) && az f r zs, .bool (pasL f r zs bl pa ha), [])
 | _, _ => none
theorem qO : CtOk (GGx kCa kDb) PP (51, jD) := by
 refine aG Tryz.func51 (by kernel_rfl) rfl fun a0 h0 c0 v0 N0 e hc => ?_
 unfold jD at e
 split at e
 ·rename_i f r len bl ca pa ha fu zs
  cases e
  have hE := aD (kCa := kCa) (kDb := kDb) (cts := [(18, my), (48, da), (96, vQ), (97, fO), (98, qj)]) (inl := []) ⟨kf, bP, yL, eE, ve, trivial⟩ trivial
  refine ak hE 2 Tryz.func51 rfl rfl ?_
  simp only [Bool.and_eq_true, decide_eq_true_eq] at hc
  obtain ⟨⟨rfl, hc2⟩, hv⟩ := hc
  refine au (fun h => ?_) (fun h => ?_)
  ·have h : decide (pa = -1) = true := h
   exact ag (ai (.inr rfl) rfl rfl rfl (by rw [pasL, h]; rfl))
  have h : decide (pa = -1) = false := h
  repeat (first | refine ah ?_ | refine sat_nd ?_)
  refine au (fun h1 => ?_) (fun h1 => ?_)
  ·have h1 : (decide (r < 6) || !decide (ha = 0) || !aj f r pa) = true := h1
   exact ag (ai (.inr rfl) rfl rfl rfl (by rw [pasL, h, h1]; rfl))
  have h1 : (decide (r < 6) || !decide (ha = 0) || !aj f r pa) = false := h1
  have h1' := h1
  simp only [Bool.or_eq_false_iff, decide_eq_false_iff_not, Bool.not_eq_false'] at h1'
  obtain ⟨⟨hr, _⟩, hpv⟩ := h1'
  have hf0 : (!decide (f = 0)) = true := by have := cI (aV hv).1; simp; omega
  obtain ⟨hp1, hp2⟩ := (bL hv).1 hpv
  obtain ⟨_, hx1, hx2, _⟩ := eF hpv
  have n2 := yp (bl := !bl) (n := 2) hv ⟨hx1, hx2⟩ (by omega) (.inl rfl)
  have n4 := yp (bl := !bl) (n := 4) hv ⟨hx1, hx2⟩ (by omega) (.inr rfl)
  repeat (first | (first | refine ah ?_ | refine sat_nd ?_) | refine ae hf0 ?_)
  refine au (fun h2 => ?_) (fun h2 => ?_)
  ·have h2 : (!decide (i64.wrap (2 * i64.wrap (pa.tdiv f)) = i64.wrap (ec r (!bl) 2 + ec r (!bl) 4))) = true := h2
   exact ag (ai (.inr rfl) rfl rfl rfl (by rw [pasL, h, h1, h2]; rfl))
  have h2 : (!decide (i64.wrap (2 * i64.wrap (pa.tdiv f)) = i64.wrap (ec r (!bl) 2 + ec r (!bl) 4))) = false := h2
  repeat (first | (first | refine ah ?_ | refine sat_nd ?_) | refine ae (by simp only [Bool.and_eq_true, decide_eq_true_eq]; exact ⟨hp1, hp2⟩) ?_ | refine ae (uM n2) ?_ | refine ae (uM n4) ?_)
  exact ag (ai (.inr rfl) rfl rfl rfl (by rw [pasL, h, h1, h2]; rfl))
 ·cases e
theorem El {f r : Int} {zs : List Int} {_bl : Bool} {x y : Bool} (hc2 : zs.length <= 64) : (!(!(!aL f r (tk zs) || x || y)) || (decide (zs.length = (tk zs).length) && decide ((tk zs).length <= 64) && vsB f r)) = true := by
 cases h : aL f r (tk zs) with
 | false => simp
 | true => rw [fq, (aW h).1]; simp [hc2]
theorem v88 {f r : Int} {zs : List Int} (h : az f r zs = true) : (!decide (f = 8) || !decide (r = 8) || decide (zs.length = 64)) = true := by
 cases h8 : is88 f r with
 | false => simp only [is88, Bool.and_eq_false_iff] at h8; rcases h8 with h8 | h8 <;> rw [h8] <;> simp
 | true => rw [tR h h8]; simp
def kZ : CF
 | [.agg [.int .i64 f, .int .i64 r, .sl 0 0 len none, .bool bl, .int .u8 ca, .int .i64 pa, .int .i64 ha, .int .i64 fu]], [.ints false .i8 zs] => some (decide (len = zs.length) && decide (zs.length <= 64), .bool (nj ⟨f, r, zs, bl, ca, pa, ha, fu⟩), [])
 | _, _ => none
theorem lX : CtOk (GGx kCa kDb) PP (14, kZ) := by
 refine aG Tryz.func14 (by kernel_rfl) rfl fun a0 h0 c0 v0 N0 e hc => ?_
 unfold kZ at e
 split at e
 ·rename_i f r len bl ca pa ha fu zs
  cases e
  have hE := aD (kCa := kCa) (kDb := kDb) (cts := [(44, wJ), (45, je), (46, lB), (47, eP), (48, da), (49, pO), (50, mK), (51, jD)]) (inl := [(27, Tryz.f27)]) ⟨ze, kI, mc, dz, bP, oa, tV, qO, trivial⟩ ⟨⟨Tryz.func27, by kernel_rfl⟩, trivial⟩
  refine ak hE 2 Tryz.func14 rfl rfl ?_
  simp only [Bool.and_eq_true, decide_eq_true_eq] at hc
  obtain ⟨rfl, hc2⟩ := hc
  repeat (first | (first | refine ah ?_ | refine sat_nd ?_) | refine ae (aE hc2 rfl) ?_ | refine ae (bR hc2 rfl) ?_ | refine ae (El (_bl := bl) hc2) ?_)
  refine au (fun h => ?_) (fun h => ?_)
  ·have h : (!aL f r (tk zs) || decide (be (tk zs) false < 0) || decide (be (tk zs) true < 0) || chkL f r (tk zs) (!bl)) = true := h
   rw [aC] at h
   exact ag (ai (.inr rfl) rfl rfl rfl (by simp only [nj, h, cond_true]))
  have h : (!aL f r (tk zs) || decide (be (tk zs) false < 0) || decide (be (tk zs) true < 0) || chkL f r (tk zs) (!bl)) = false := h
  rw [aC] at h
  have h' := h
  simp only [Bool.or_eq_false_iff, Bool.not_eq_false'] at h'
  obtain ⟨hvs, _, hbd, _⟩ := aW h'.1.1.1
  have hf0 : (!decide (f = 0)) = true := by have := cI hvs; simp; omega
  have hf1 : ∀ g : Bool, (!g || !decide (f = 0)) = true := fun g => by rw [hf0]; simp
  have h88 := v88 hbd
  have h88t : (!decide (f = 8) || !decide (r = 8) || decide ((tk zs).length = 64)) = true := by rw [aC]; exact h88
  have hbdt : az f r (tk zs) = true := by rw [aC]; exact hbd
  refine bZ hE 2 (fun i (_ : Unit) => ([(1, .ptr 1 0 0), (4, I i)], [.ints false .i8 zs, .cells true [I f, I r, .sl 0 0 zs.length none, Bb bl, .int .u8 ca, I pa, I ha, I fu]])) zs.length (fun j _ => ∀ k, k < j -> pwL f r zs (k : Nat) = false) () (by omega) (Ent.ren [0, 1] [1, 4] rfl rfl rfl) (fun k hk => absurd hk (by omega)) ?_
  intro j i _ hij hj hz
  refine au (fun hlt => ?_) (fun hlt => ?_)
  ·have hlt' : j < zs.length := by simp at hlt; omega
   repeat (first | (first | refine ah ?_ | refine sat_nd ?_) | refine ae (by simp only [Bool.and_eq_true, decide_eq_true_eq]; omega) ?_ | refine ae (hf1 _) ?_ | refine ae (uM ⟨by omega, by omega⟩) ?_)
   refine au (fun hon => ?_) (fun hon => ?_)
   ·have hon : pwL f r zs i = true := hon
    have hpw : tS f r zs = true := List.any_eq_true.2 ⟨j, List.mem_range.2 hlt', by rw [<- hij]; exact hon⟩
    exact ag (ag (ai (.inr rfl) rfl rfl rfl (by simp only [nj, h, hpw, cond_true, cond_false])))
   ·have hon : pwL f r zs i = false := hon
    refine ag ⟨hlt', (), fun k hk => ?_, Ent.ren [0, 1] [1, 4] rfl rfl rfl⟩
    rcases Nat.lt_or_ge k j with hk2 | hk2
    ·exact hz k hk2
    ·obtain rfl : k = j := by omega
     rw [<- hij]; exact hon
  ·obtain rfl : j = zs.length := by simp at hlt; omega
   have hpw : tS f r zs = false := List.any_eq_false.2 fun k hk => by rw [hz k (List.mem_range.1 hk)]; simp
   refine ag ?_
   repeat (first | (first | refine ah ?_ | refine sat_nd ?_) | refine ae (aE hc2 rfl) ?_ | refine ae (aF hc2 rfl h88t) ?_ | refine ae (gH hc2 hbdt) ?_ | refine ae (gH hc2 h88t) ?_)
   exact ag (ai (.inr rfl) rfl rfl rfl (by
    show V.bool (cA f r (tk zs) ca && pasL f r (tk zs) bl pa ha && decide (0 <= ha) && decide (ha <= 10000) && decide (1 <= fu) && decide (fu <= 10000)) = _
    rw [aC]; simp only [nj, h, hpw, cond_false]))
 ·cases e
end
section
variable {kDb : Bool}
abbrev u8or (a b : Int) : Int := band .or .u8 a b
def aO (bl : Bool) (ca a b : Int) (c : Bool) (bit k to : Int) : Bool := !(c == bl) || decide (eV ca bit = 0) || !decide (k = a) || !decide (to = b)
def wayN (zs : List Int) (bl : Bool) (ca a b : Int) : Nat := bif !decide (absP (zs.getD a.toNat 0) = 6) then 4 else bif !aO bl ca a b false 1 4 6 then 0 else bif !aO bl ca a b false 2 4 2 then 1 else bif !aO bl ca a b true 4 60 62 then 2 else bif !aO bl ca a b true 8 60 58 then 3 else 4
def wBit (n : Nat) : Int := ([1, 2, 4, 8, 0] : List Int).getD n 0
def wBl (n : Nat) : Bool := [false, false, true, true, false].getD n false
def qV (n : Nat) : Int := ([4, 4, 60, 60, 0] : List Int).getD n 0
def wTo (n : Nat) : Int := ([6, 2, 62, 58, 0] : List Int).getD n 0
def wCor (n : Nat) : Int := ([7, 0, 63, 56, 0] : List Int).getD n 0
def wCro (n : Nat) : Int := ([5, 3, 61, 59, 0] : List Int).getD n 0
def wayB (f r : Int) (zs : List Int) (n : Nat) : Bool := !decide (n = 4) && decide (uand (bJ f r (qV n) (wCor n)).1 (occR f r zs) = 0)
def KA (r : Int) (bl : Bool) : Int := bif bl then 0 else i64.wrap (r - 1)
def gS (f r : Int) (zs : List Int) (bl : Bool) (pa a b pr : Int) : Bool :=
 bif !decide (absP (zs.getD a.toNat 0) = 1) then decide (pr = 0) && decide (uand (ushr (bU f r (absP (zs.getD a.toNat 0)) a (occR f r zs)).1 b) 1 = 1)
 else decide (uand (ushr (uor (cO f r bl a (occR f r zs)).1 (bif decide (zs.getD b.toNat 0 = 0) && !decide (b = pa) then 0 else (fN f r bl a).1)) b) 1 = 1) && ((!decide (pr = 0)) == decide (i64.wrap (b.tdiv f) = KA r bl))
def chkB (f r : Int) (zs : List Int) (b : Bool) : Bool := !decide ((bS f r zs b).1 = 0)
def dj (at_ s k q bit : Int) : Int := bif decide (k = at_) || decide (q = at_) then u8or s bit else s
def EJ (at_ : Int) : Int := dj at_ (dj at_ (dj at_ (dj at_ 0 4 7 1) 4 0 2) 60 63 4) 60 56 8
theorem rq {at_ s k q bit : Int} (h : (decide (k = at_) || decide (q = at_)) = true) : dj at_ s k q bit = u8or s bit := by rw [dj, h]; rfl
theorem qA {at_ s k q bit : Int} (h : (decide (k = at_) || decide (q = at_)) = false) : dj at_ s k q bit = s := by rw [dj, h]; rfl
theorem lM {g : Bool} {b : Int} (h : 0 <= b) : (!g || decide (0 <= b)) = true := by simp [h]
theorem aA {zs : List Int} {b : Int} (h : 0 <= b) (h1 : b < zs.length) : (decide (0 <= b) && decide (b < zs.length)) = true := by simp [h, h1]
def wU : CF
 | [.agg [.int .i64 f, .int .i64 r, .sl 0 0 len none, .bool _bl, .int .u8 _ca, .int .i64 _pa, .int .i64 _ha, .int .i64 _fu]], [.ints false .i8 zs] => some (decide (len = zs.length) && decide (zs.length <= 64), .int .u64 (occR f r zs), [])
 | _, _ => none
theorem tL : CtOk (GGx true kDb) PP (156, wU) := by
 refine aG Tryz.func156 (by kernel_rfl) rfl fun a0 h0 c0 v0 N0 e hc => ?_
 unfold wU at e
 split at e
 ·rename_i f r len bl ca pa ha fu zs
  cases e
  have hE := aD (kCa := true) (kDb := kDb) (cts := [(135, mI)]) (inl := []) ⟨jP, trivial⟩ trivial
  refine ak hE 2 Tryz.func156 rfl rfl ?_
  simp only [Bool.and_eq_true, decide_eq_true_eq] at hc
  obtain ⟨rfl, hc2⟩ := hc
  repeat (first | (first | refine ah ?_ | refine sat_nd ?_) | refine ae (aE hc2 rfl) ?_)
  refine ag (ai (.inr rfl) rfl rfl rfl (by
   show V.int .u64 (occR f r (tk zs)) = _
   rw [aC]))
 ·cases e
def Dn : CF
 | [.agg [.int .i64 f, .int .i64 r, .sl 0 0 len none, .bool _bl, .int .u8 _ca, .int .i64 _pa, .int .i64 _ha, .int .i64 _fu], .bool b], [.ints false .i8 zs] => some (decide (len = zs.length) && decide (zs.length <= 64), .bool (chkB f r zs b), [])
 | _, _ => none
theorem Ag : CtOk (GGx true kDb) PP (114, Dn) := by
 refine aG Tryz.func114 (by kernel_rfl) rfl fun a0 h0 c0 v0 N0 e hc => ?_
 unfold Dn at e
 split at e
 ·rename_i f r len bl ca pa ha fu b zs
  cases e
  have hE := aD (kCa := true) (kDb := kDb) (cts := [(29, gD)]) (inl := []) ⟨js, trivial⟩ trivial
  refine ak hE 2 Tryz.func114 rfl rfl ?_
  simp only [Bool.and_eq_true, decide_eq_true_eq] at hc
  obtain ⟨rfl, hc2⟩ := hc
  repeat (first | (first | refine ah ?_ | refine sat_nd ?_) | refine ae (aE hc2 rfl) ?_)
  refine ag (ai (.inr rfl) rfl rfl rfl (by
   show V.bool (chkB f r (tk zs) b) = _
   rw [aC]))
 ·cases e
def ig : CF
 | [.agg [.int .i64 f, .int .i64 r, .sl 0 0 len none, .bool bl, .int .u8 ca, .int .i64 _pa, .int .i64 _ha, .int .i64 _fu], .agg [.int .i64 a, .int .i64 b, .int .i8 _pr]], [.ints false .i8 zs] => some (decide (len = zs.length) && decide (zs.length <= 64) && (az f r zs && aj f r a && aj f r b), .tup [.agg [.int .u8 (wBit (wayN zs bl ca a b)), Bb (wBl (wayN zs bl ca a b)), I (qV (wayN zs bl ca a b)), I (wTo (wayN zs bl ca a b)), I (wCor (wayN zs bl ca a b)), I (wCro (wayN zs bl ca a b))], Bb (wayB f r zs (wayN zs bl ca a b))], [])
 | _, _ => none
theorem nW : CtOk (GGx true kDb) PP (109, ig) := by
 refine aG Tryz.func109 (by kernel_rfl) rfl fun a0 h0 c0 v0 N0 e hc => ?_
 unfold ig at e
 split at e
 ·rename_i f r len bl ca pa ha fu a b pr zs
  cases e
  have hE := aD (kCa := true) (kDb := kDb) (cts := [(111, tQ), (124, fU), (156, wU)]) (inl := []) ⟨mm, sY, tL, trivial⟩ trivial
  refine tT hE 2 Tryz.func109 rfl rfl ?_
  simp only [Bool.and_eq_true, decide_eq_true_eq] at hc
  obtain ⟨⟨rfl, hc2⟩, ⟨hbd, hva⟩, hvb⟩ := hc
  obtain ⟨ha0, ha1⟩ := (bL hbd).1 hva
  obtain ⟨hb0, hb1⟩ := (bL hbd).1 hvb
  repeat (first | (first | refine ah ?_ | refine sat_nd ?_) | refine ae (aA ha0 ha1) ?_)
  refine au (fun hk => ?_) (fun hk => ?_)
  ·have hk : (!decide (absP (zs.getD a.toNat 0) = 6)) = true := hk
   have hn : wayN zs bl ca a b = 4 := by rw [wayN, hk, cond_true]
   refine ag (wq (ai (.inr rfl) rfl rfl rfl rfl) ?_)
   rw [hn]
   exact fun _ _ h => h
  have hk : (!decide (absP (zs.getD a.toNat 0) = 6)) = false := hk
  refine cU hE 2 5 ?_
  refine rnd ?_
  refine cC (by rfl) ?_
  repeat (first | refine ah ?_ | refine sat_nd ?_)
  refine au (fun h0 => ?_) (fun h0 => ?_)
  rotate_left
  ·have h0 : aO bl ca a b false 1 4 6 = false := h0
   have hn : wayN zs bl ca a b = 0 := by simp only [wayN, hk, h0, Bool.not_false, cond_true, cond_false]
   repeat (first | (first | refine ah ?_ | refine sat_nd ?_) | refine ae (aE hc2 rfl) ?_)
   refine ag (ag (wq (ai (.inr rfl) rfl rfl rfl rfl) ?_))
   rw [hn]
   show Like (V.tup [.agg [.int .u8 1, .lit false, I 4, I 6, I 7, I 5], Bb (decide (uand (bJ f r 4 7).1 (occR f r (tk zs)) = 0))]) _
   rw [aC]
   exact fun _ _ h => h
  have h0 : aO bl ca a b false 1 4 6 = true := h0
  refine ag ⟨[(2, .ptr 1 0 0), (3, .ptr 2 0 0), (4, .ptr 3 0 0), (19, .agg [.int .u8 1, .lit false, .int .i64 4, .int .i64 6, .int .i64 7, .int .i64 5, .int .u8 2, .lit false, .int .i64 4, .int .i64 2, .int .i64 0, .int .i64 3, .int .u8 4, .lit true, .int .i64 60, .int .i64 62, .int .i64 63, .int .i64 61, .int .u8 8, .lit true, .int .i64 60, .int .i64 58, .int .i64 56, .int .i64 59]), (20, I 1)], [.ints false .i8 zs, .cells true [I f, I r, .sl 0 0 zs.length none, Bb bl, .int .u8 ca, I pa, I ha, I fu], .cells true [I a, I b, .int .i8 pr], .cells true [.int .u8 0, .lit false, I 0, I 0, I 0, I 0]], Ent.ren [0, 1, 2, 3] [2, 3, 4, 19, 20] rfl rfl rfl, ?_⟩
  refine rnd ?_
  refine cC (by rfl) ?_
  repeat (first | refine ah ?_ | refine sat_nd ?_)
  refine au (fun h1 => ?_) (fun h1 => ?_)
  rotate_left
  ·have h1 : aO bl ca a b false 2 4 2 = false := h1
   have hn : wayN zs bl ca a b = 1 := by simp only [wayN, hk, h0, h1, Bool.not_true, Bool.not_false, cond_true, cond_false]
   repeat (first | (first | refine ah ?_ | refine sat_nd ?_) | refine ae (aE hc2 rfl) ?_)
   refine ag (ag (wq (ai (.inr rfl) rfl rfl rfl rfl) ?_))
   rw [hn]
   show Like (V.tup [.agg [.int .u8 2, .lit false, I 4, I 2, I 0, I 3], Bb (decide (uand (bJ f r 4 0).1 (occR f r (tk zs)) = 0))]) _
   rw [aC]
   exact fun _ _ h => h
  have h1 : aO bl ca a b false 2 4 2 = true := h1
  refine ag ⟨[(2, .ptr 1 0 0), (3, .ptr 2 0 0), (4, .ptr 3 0 0), (19, .agg [.int .u8 1, .lit false, .int .i64 4, .int .i64 6, .int .i64 7, .int .i64 5, .int .u8 2, .lit false, .int .i64 4, .int .i64 2, .int .i64 0, .int .i64 3, .int .u8 4, .lit true, .int .i64 60, .int .i64 62, .int .i64 63, .int .i64 61, .int .u8 8, .lit true, .int .i64 60, .int .i64 58, .int .i64 56, .int .i64 59]), (20, I 2)], [.ints false .i8 zs, .cells true [I f, I r, .sl 0 0 zs.length none, Bb bl, .int .u8 ca, I pa, I ha, I fu], .cells true [I a, I b, .int .i8 pr], .cells true [.int .u8 0, .lit false, I 0, I 0, I 0, I 0]], Ent.ren [0, 1, 2, 3] [2, 3, 4, 19, 20] rfl rfl rfl, ?_⟩
  refine rnd ?_
  refine cC (by rfl) ?_
  repeat (first | refine ah ?_ | refine sat_nd ?_)
  refine au (fun h2 => ?_) (fun h2 => ?_)
  rotate_left
  ·have h2 : aO bl ca a b true 4 60 62 = false := h2
   have hn : wayN zs bl ca a b = 2 := by simp only [wayN, hk, h0, h1, h2, Bool.not_true, Bool.not_false, cond_true, cond_false]
   repeat (first | (first | refine ah ?_ | refine sat_nd ?_) | refine ae (aE hc2 rfl) ?_)
   refine ag (ag (wq (ai (.inr rfl) rfl rfl rfl rfl) ?_))
   rw [hn]
   show Like (V.tup [.agg [.int .u8 4, .lit true, I 60, I 62, I 63, I 61], Bb (decide (uand (bJ f r 60 63).1 (occR f r (tk zs)) = 0))]) _
   rw [aC]
   exact fun _ _ h => h
  have h2 : aO bl ca a b true 4 60 62 = true := h2
  refine ag ⟨[(2, .ptr 1 0 0), (3, .ptr 2 0 0), (4, .ptr 3 0 0), (19, .agg [.int .u8 1, .lit false, .int .i64 4, .int .i64 6, .int .i64 7, .int .i64 5, .int .u8 2, .lit false, .int .i64 4, .int .i64 2, .int .i64 0, .int .i64 3, .int .u8 4, .lit true, .int .i64 60, .int .i64 62, .int .i64 63, .int .i64 61, .int .u8 8, .lit true, .int .i64 60, .int .i64 58, .int .i64 56, .int .i64 59]), (20, I 3)], [.ints false .i8 zs, .cells true [I f, I r, .sl 0 0 zs.length none, Bb bl, .int .u8 ca, I pa, I ha, I fu], .cells true [I a, I b, .int .i8 pr], .cells true [.int .u8 0, .lit false, I 0, I 0, I 0, I 0]], Ent.ren [0, 1, 2, 3] [2, 3, 4, 19, 20] rfl rfl rfl, ?_⟩
  refine rnd ?_
  refine cC (by rfl) ?_
  repeat (first | refine ah ?_ | refine sat_nd ?_)
  refine au (fun h3 => ?_) (fun h3 => ?_)
  rotate_left
  ·have h3 : aO bl ca a b true 8 60 58 = false := h3
   have hn : wayN zs bl ca a b = 3 := by simp only [wayN, hk, h0, h1, h2, h3, Bool.not_true, Bool.not_false, cond_true, cond_false]
   repeat (first | (first | refine ah ?_ | refine sat_nd ?_) | refine ae (aE hc2 rfl) ?_)
   refine ag (ag (wq (ai (.inr rfl) rfl rfl rfl rfl) ?_))
   rw [hn]
   show Like (V.tup [.agg [.int .u8 8, .lit true, I 60, I 58, I 56, I 59], Bb (decide (uand (bJ f r 60 56).1 (occR f r (tk zs)) = 0))]) _
   rw [aC]
   exact fun _ _ h => h
  have h3 : aO bl ca a b true 8 60 58 = true := h3
  refine ag ⟨[(2, .ptr 1 0 0), (3, .ptr 2 0 0), (4, .ptr 3 0 0), (19, .agg [.int .u8 1, .lit false, .int .i64 4, .int .i64 6, .int .i64 7, .int .i64 5, .int .u8 2, .lit false, .int .i64 4, .int .i64 2, .int .i64 0, .int .i64 3, .int .u8 4, .lit true, .int .i64 60, .int .i64 62, .int .i64 63, .int .i64 61, .int .u8 8, .lit true, .int .i64 60, .int .i64 58, .int .i64 56, .int .i64 59]), (20, I 4)], [.ints false .i8 zs, .cells true [I f, I r, .sl 0 0 zs.length none, Bb bl, .int .u8 ca, I pa, I ha, I fu], .cells true [I a, I b, .int .i8 pr], .cells true [.int .u8 0, .lit false, I 0, I 0, I 0, I 0]], Ent.ren [0, 1, 2, 3] [2, 3, 4, 19, 20] rfl rfl rfl, ?_⟩
  refine rnd ?_
  refine sI (by rfl) ?_
  have hn : wayN zs bl ca a b = 4 := by simp only [wayN, hk, h0, h1, h2, h3, Bool.not_true, cond_false]
  refine ag (ag (wq (ai (.inr rfl) rfl rfl rfl rfl) ?_))
  rw [hn]
  exact fun _ _ h => h
 ·cases e
def uX : CF
 | [.agg [.int .i64 f, .int .i64 r, .sl 0 0 len none, .bool bl, .int .u8 _ca, .int .i64 pa, .int .i64 _ha, .int .i64 _fu], .agg [.int .i64 a, .int .i64 b, .int .i8 pr]], [.ints false .i8 zs] => some (decide (len = zs.length) && decide (zs.length <= 64) && (az f r zs && aj f r a && aj f r b), .bool (gS f r zs bl pa a b pr), [])
 | _, _ => none
theorem zP : CtOk (GGx true kDb) PP (110, uX) := by
 refine aG Tryz.func110 (by kernel_rfl) rfl fun a0 h0 c0 v0 N0 e hc => ?_
 unfold uX at e
 split at e
 ·rename_i f r len bl ca pa ha fu a b pr zs
  cases e
  have hE := aD (kCa := true) (kDb := kDb) (cts := [(111, tQ), (156, wU), (125, nP), (157, qs), (158, tF)]) (inl := []) ⟨mm, tL, jV, ot, mC, trivial⟩ trivial
  refine ak hE 2 Tryz.func110 rfl rfl ?_
  simp only [Bool.and_eq_true, decide_eq_true_eq] at hc
  obtain ⟨⟨rfl, hc2⟩, ⟨hbd, hva⟩, hvb⟩ := hc
  obtain ⟨ha0, ha1⟩ := (bL hbd).1 hva
  obtain ⟨hb0, hb1⟩ := (bL hbd).1 hvb
  have hf0 : f ≠ 0 := by have := cI (aV hbd).1; omega
  repeat (first | (first | refine ah ?_ | refine sat_nd ?_) | refine ae (aA ha0 ha1) ?_)
  refine au (fun hk => ?_) (fun hk => ?_)
  ·have hk : (!decide (absP (zs.getD a.toNat 0) = 1)) = true := hk
   repeat (first | (first | refine ah ?_ | refine sat_nd ?_) | refine ae (aE hc2 rfl) ?_ | refine ae (lM hb0) ?_)
   exact ag (ai (.inr rfl) rfl rfl rfl (congrArg V.bool (by
    show (decide (pr = 0) && decide (uand (ushr (bU f r (absP (zs.getD a.toNat 0)) a (occR f r (tk zs))).1 b) 1 = 1)) = _
    rw [aC, gS, hk]; rfl)))
  have hk : (!decide (absP (zs.getD a.toNat 0) = 1)) = false := hk
  repeat (first | refine ah ?_ | refine sat_nd ?_)
  refine au (fun hb => ?_) (fun hb => ?_)
  ·subst hb
   repeat (first | (first | refine ah ?_ | refine sat_nd ?_) | refine ae (aE hc2 rfl) ?_ | refine ae (aA ha0 ha1) ?_ | refine ae (aA hb0 hb1) ?_ | refine ae (lM hb0) ?_ | refine ae (gu hf0) ?_)
   refine au (fun hz => ?_) (fun hz => ?_)
   ·have hz : (decide (zs.getD b.toNat 0 = 0) && !decide (b = pa)) = true := hz
    repeat (first | (first | refine ah ?_ | refine sat_nd ?_) | refine ae (aE hc2 rfl) ?_ | refine ae (aA ha0 ha1) ?_ | refine ae (aA hb0 hb1) ?_ | refine ae (lM hb0) ?_ | refine ae (gu hf0) ?_)
    exact ag (ai (.inr rfl) rfl rfl rfl (congrArg V.bool (by
     show (decide (uand (ushr (uor (cO f r true a (occR f r (tk zs))).1 (0)) b) 1 = 1) && ((!decide (pr = 0)) == decide (i64.wrap (b.tdiv f) = 0))) = _
     rw [aC, gS, hk, cond_false, hz]; rfl)))
   ·have hz : (decide (zs.getD b.toNat 0 = 0) && !decide (b = pa)) = false := hz
    repeat (first | (first | refine ah ?_ | refine sat_nd ?_) | refine ae (aE hc2 rfl) ?_ | refine ae (aA ha0 ha1) ?_ | refine ae (aA hb0 hb1) ?_ | refine ae (lM hb0) ?_ | refine ae (gu hf0) ?_)
    exact ag (ai (.inr rfl) rfl rfl rfl (congrArg V.bool (by
     show (decide (uand (ushr (uor (cO f r true a (occR f r (tk zs))).1 ((fN f r true a).1)) b) 1 = 1) && ((!decide (pr = 0)) == decide (i64.wrap (b.tdiv f) = 0))) = _
     rw [aC, gS, hk, cond_false, hz]; rfl)))
  ·subst hb
   repeat (first | (first | refine ah ?_ | refine sat_nd ?_) | refine ae (aE hc2 rfl) ?_ | refine ae (aA ha0 ha1) ?_ | refine ae (aA hb0 hb1) ?_ | refine ae (lM hb0) ?_ | refine ae (gu hf0) ?_)
   refine au (fun hz => ?_) (fun hz => ?_)
   ·have hz : (decide (zs.getD b.toNat 0 = 0) && !decide (b = pa)) = true := hz
    repeat (first | (first | refine ah ?_ | refine sat_nd ?_) | refine ae (aE hc2 rfl) ?_ | refine ae (aA ha0 ha1) ?_ | refine ae (aA hb0 hb1) ?_ | refine ae (lM hb0) ?_ | refine ae (gu hf0) ?_)
    exact ag (ai (.inr rfl) rfl rfl rfl (congrArg V.bool (by
     show (decide (uand (ushr (uor (cO f r false a (occR f r (tk zs))).1 (0)) b) 1 = 1) && ((!decide (pr = 0)) == decide (i64.wrap (b.tdiv f) = i64.wrap (r - 1)))) = _
     rw [aC, gS, hk, cond_false, hz]; rfl)))
   ·have hz : (decide (zs.getD b.toNat 0 = 0) && !decide (b = pa)) = false := hz
    repeat (first | (first | refine ah ?_ | refine sat_nd ?_) | refine ae (aE hc2 rfl) ?_ | refine ae (aA ha0 ha1) ?_ | refine ae (aA hb0 hb1) ?_ | refine ae (lM hb0) ?_ | refine ae (gu hf0) ?_)
    exact ag (ai (.inr rfl) rfl rfl rfl (congrArg V.bool (by
     show (decide (uand (ushr (uor (cO f r false a (occR f r (tk zs))).1 ((fN f r false a).1)) b) 1 = 1) && ((!decide (pr = 0)) == decide (i64.wrap (b.tdiv f) = i64.wrap (r - 1)))) = _
     rw [aC, gS, hk, cond_false, hz]; rfl)))
 ·cases e
def uw : CF
 | [.int .i64 at_], [] => some (true, .int .u8 (EJ at_), [])
 | _, _ => none
theorem za : CtOk (GGx true kDb) PP (112, uw) := by
 refine aG Tryz.func112 (by kernel_rfl) rfl fun a0 h0 c0 v0 N0 e hc => ?_
 unfold uw at e
 split at e
 ·rename_i at_
  cases e
  have hE := cutE (aD (kCa := true) (kDb := kDb) (cts := []) (inl := []) trivial trivial)
  refine ak hE 2 Tryz.func112 rfl rfl ?_
  repeat (first | refine ah ?_ | refine sat_nd ?_)
  refine cU hE 2 5 ?_
  refine rnd ?_
  refine bq hE 2 rfl (fun _ => ?_) (fun h => absurd h (by decide))
  repeat (first | refine ah ?_ | refine sat_nd ?_)
  refine bn hE 2 (fun e tm hp => e = .normal /\ tm = [(0, I at_), (3, .int .u8 (dj at_ 0 4 7 1)), (6, .agg [.int .u8 1, .lit false, .int .i64 4, .int .i64 6, .int .i64 7, .int .i64 5, .int .u8 2, .lit false, .int .i64 4, .int .i64 2, .int .i64 0, .int .i64 3, .int .u8 4, .lit true, .int .i64 60, .int .i64 62, .int .i64 63, .int .i64 61, .int .u8 8, .lit true, .int .i64 60, .int .i64 58, .int .i64 56, .int .i64 59]), (7, I 0)] /\ hp = []) rfl (fun h => ?_) (fun h => ?_) ?_
  ·have h : (decide (4 = at_) || decide (7 = at_)) = true := h
   exact ag ⟨_, _, Ent.ren [] [0, 3, 6, 7] rfl rfl rfl, rfl, by rw [rq h], rfl⟩
  ·have h : (decide (4 = at_) || decide (7 = at_)) = false := h
   exact ag ⟨_, _, Ent.ren [] [0, 3, 6, 7] rfl rfl rfl, rfl, by rw [qA h], rfl⟩
  rintro e tm hp ⟨rfl, rfl, rfl⟩
  refine ag ⟨[(0, I at_), (3, .int .u8 (dj at_ 0 4 7 1)), (6, .agg [.int .u8 1, .lit false, .int .i64 4, .int .i64 6, .int .i64 7, .int .i64 5, .int .u8 2, .lit false, .int .i64 4, .int .i64 2, .int .i64 0, .int .i64 3, .int .u8 4, .lit true, .int .i64 60, .int .i64 62, .int .i64 63, .int .i64 61, .int .u8 8, .lit true, .int .i64 60, .int .i64 58, .int .i64 56, .int .i64 59]), (7, I 1)], [], Ent.ren [] [0, 3, 6, 7] rfl rfl rfl, ?_⟩
  refine rnd ?_
  refine bq hE 2 rfl (fun _ => ?_) (fun h => absurd h (by decide))
  repeat (first | refine ah ?_ | refine sat_nd ?_)
  refine bn hE 2 (fun e tm hp => e = .normal /\ tm = [(0, I at_), (3, .int .u8 (dj at_ (dj at_ 0 4 7 1) 4 0 2)), (6, .agg [.int .u8 1, .lit false, .int .i64 4, .int .i64 6, .int .i64 7, .int .i64 5, .int .u8 2, .lit false, .int .i64 4, .int .i64 2, .int .i64 0, .int .i64 3, .int .u8 4, .lit true, .int .i64 60, .int .i64 62, .int .i64 63, .int .i64 61, .int .u8 8, .lit true, .int .i64 60, .int .i64 58, .int .i64 56, .int .i64 59]), (7, I 1)] /\ hp = []) rfl (fun h => ?_) (fun h => ?_) ?_
  ·have h : (decide (4 = at_) || decide (0 = at_)) = true := h
   exact ag ⟨_, _, Ent.ren [] [0, 3, 6, 7] rfl rfl rfl, rfl, by rw [rq h], rfl⟩
  ·have h : (decide (4 = at_) || decide (0 = at_)) = false := h
   exact ag ⟨_, _, Ent.ren [] [0, 3, 6, 7] rfl rfl rfl, rfl, by rw [qA h], rfl⟩
  rintro e tm hp ⟨rfl, rfl, rfl⟩
  refine ag ⟨[(0, I at_), (3, .int .u8 (dj at_ (dj at_ 0 4 7 1) 4 0 2)), (6, .agg [.int .u8 1, .lit false, .int .i64 4, .int .i64 6, .int .i64 7, .int .i64 5, .int .u8 2, .lit false, .int .i64 4, .int .i64 2, .int .i64 0, .int .i64 3, .int .u8 4, .lit true, .int .i64 60, .int .i64 62, .int .i64 63, .int .i64 61, .int .u8 8, .lit true, .int .i64 60, .int .i64 58, .int .i64 56, .int .i64 59]), (7, I 2)], [], Ent.ren [] [0, 3, 6, 7] rfl rfl rfl, ?_⟩
  refine rnd ?_
  refine bq hE 2 rfl (fun _ => ?_) (fun h => absurd h (by decide))
  repeat (first | refine ah ?_ | refine sat_nd ?_)
  refine bn hE 2 (fun e tm hp => e = .normal /\ tm = [(0, I at_), (3, .int .u8 (dj at_ (dj at_ (dj at_ 0 4 7 1) 4 0 2) 60 63 4)), (6, .agg [.int .u8 1, .lit false, .int .i64 4, .int .i64 6, .int .i64 7, .int .i64 5, .int .u8 2, .lit false, .int .i64 4, .int .i64 2, .int .i64 0, .int .i64 3, .int .u8 4, .lit true, .int .i64 60, .int .i64 62, .int .i64 63, .int .i64 61, .int .u8 8, .lit true, .int .i64 60, .int .i64 58, .int .i64 56, .int .i64 59]), (7, I 2)] /\ hp = []) rfl (fun h => ?_) (fun h => ?_) ?_
  ·have h : (decide (60 = at_) || decide (63 = at_)) = true := h
   exact ag ⟨_, _, Ent.ren [] [0, 3, 6, 7] rfl rfl rfl, rfl, by rw [rq h], rfl⟩
  ·have h : (decide (60 = at_) || decide (63 = at_)) = false := h
   exact ag ⟨_, _, Ent.ren [] [0, 3, 6, 7] rfl rfl rfl, rfl, by rw [qA h], rfl⟩
  rintro e tm hp ⟨rfl, rfl, rfl⟩
  refine ag ⟨[(0, I at_), (3, .int .u8 (dj at_ (dj at_ (dj at_ 0 4 7 1) 4 0 2) 60 63 4)), (6, .agg [.int .u8 1, .lit false, .int .i64 4, .int .i64 6, .int .i64 7, .int .i64 5, .int .u8 2, .lit false, .int .i64 4, .int .i64 2, .int .i64 0, .int .i64 3, .int .u8 4, .lit true, .int .i64 60, .int .i64 62, .int .i64 63, .int .i64 61, .int .u8 8, .lit true, .int .i64 60, .int .i64 58, .int .i64 56, .int .i64 59]), (7, I 3)], [], Ent.ren [] [0, 3, 6, 7] rfl rfl rfl, ?_⟩
  refine rnd ?_
  refine bq hE 2 rfl (fun _ => ?_) (fun h => absurd h (by decide))
  repeat (first | refine ah ?_ | refine sat_nd ?_)
  refine bn hE 2 (fun e tm hp => e = .normal /\ tm = [(0, I at_), (3, .int .u8 (dj at_ (dj at_ (dj at_ (dj at_ 0 4 7 1) 4 0 2) 60 63 4) 60 56 8)), (6, .agg [.int .u8 1, .lit false, .int .i64 4, .int .i64 6, .int .i64 7, .int .i64 5, .int .u8 2, .lit false, .int .i64 4, .int .i64 2, .int .i64 0, .int .i64 3, .int .u8 4, .lit true, .int .i64 60, .int .i64 62, .int .i64 63, .int .i64 61, .int .u8 8, .lit true, .int .i64 60, .int .i64 58, .int .i64 56, .int .i64 59]), (7, I 3)] /\ hp = []) rfl (fun h => ?_) (fun h => ?_) ?_
  ·have h : (decide (60 = at_) || decide (56 = at_)) = true := h
   exact ag ⟨_, _, Ent.ren [] [0, 3, 6, 7] rfl rfl rfl, rfl, by rw [rq h], rfl⟩
  ·have h : (decide (60 = at_) || decide (56 = at_)) = false := h
   exact ag ⟨_, _, Ent.ren [] [0, 3, 6, 7] rfl rfl rfl, rfl, by rw [qA h], rfl⟩
  rintro e tm hp ⟨rfl, rfl, rfl⟩
  refine ag ⟨[(0, I at_), (3, .int .u8 (dj at_ (dj at_ (dj at_ (dj at_ 0 4 7 1) 4 0 2) 60 63 4) 60 56 8)), (6, .agg [.int .u8 1, .lit false, .int .i64 4, .int .i64 6, .int .i64 7, .int .i64 5, .int .u8 2, .lit false, .int .i64 4, .int .i64 2, .int .i64 0, .int .i64 3, .int .u8 4, .lit true, .int .i64 60, .int .i64 62, .int .i64 63, .int .i64 61, .int .u8 8, .lit true, .int .i64 60, .int .i64 58, .int .i64 56, .int .i64 59]), (7, I 4)], [], Ent.ren [] [0, 3, 6, 7] rfl rfl rfl, ?_⟩
  refine rnd ?_
  refine bq hE 2 rfl (fun h => absurd h (by decide)) (fun _ => ?_)
  exact ag (ag (ai (.inr rfl) rfl rfl rfl rfl))
 ·cases e
end
end Go.Ab
namespace Go.Ab
open Go.Proofs
section
variable {kCa kDb : Bool}
theorem Lc {z w : List Int} {i : Nat} (h : i < z.length) (h2 : i < w.length) : decide (z.drop i = w.drop i) = (decide (z.getD i 0 = w.getD i 0) && decide (z.drop (i + 1) = w.drop (i + 1))) := by
 rw [List.drop_eq_getElem_cons h, List.drop_eq_getElem_cons h2]; simp only [List.cons.injEq, Bool.decide_and, List.getD_eq_getElem?_getD, List.getElem?_eq_getElem h, List.getElem?_eq_getElem h2, Option.getD_some]
def BQ (p q : Psn) : Bool := decide (p.f = q.f) && decide (p.r = q.r) && decide (p.zs = q.zs) && (p.bl == q.bl) && decide (p.ca = q.ca) && decide (p.pa = q.pa)
def dX (p q : Psn) : Bool := BQ p q && decide (p.ha = q.ha) && decide (p.fu = q.fu)
theorem Dy {zs ws : List Int} {g : Bool} (h1 : zs.length <= 64) (h2 : ws.length <= 64) : (!g || (decide (zs.length = (tk zs).length) && decide ((tk zs).length <= 64) && decide (ws.length = (tk ws).length) && decide ((tk ws).length <= 64))) = true := by
 rw [fq, fq]; simp [h1, h2]
theorem xp {zs ws : List Int} (h1 : zs.length <= 64) (h2 : ws.length <= 64) : (decide (zs.length = (tk zs).length) && decide ((tk zs).length <= 64) && decide (ws.length = (tk ws).length) && decide ((tk ws).length <= 64)) = true := by
 rw [fq, fq]; simp [h1, h2]
end
section
variable {kCa kDb : Bool}
def zU (f r : Int) (zs : List Int) (f2 r2 : Int) (ws : List Int) : Bool := decide (f = f2) && decide (r = r2) && decide (zs = ws)
def ownL (p : Int) (bl : Bool) : Bool := !decide (p = 0) && (decide (p < 0) == bl)
def rowN (bit : Int) (i : Nat) : List UInt8 := bif decide (bit = 1) then ([[101, 49], [103, 49], [104, 49], [102, 49]] : List (List UInt8)).getD i [] else bif decide (bit = 2) then ([[101, 49], [99, 49], [97, 49], [100, 49]] : List (List UInt8)).getD i [] else bif decide (bit = 4) then ([[101, 56], [103, 56], [104, 56], [102, 56]] : List (List UInt8)).getD i [] else ([[101, 56], [99, 56], [97, 56], [100, 56]] : List (List UInt8)).getD i []
def sqW (bit : Int) (i : Nat) : Int := cj 8 8 (rowN bit i)
theorem xF {bit : Int} {l : List (List UInt8)} (h : ∀ i, rowN bit i = l.getD i []) : [O.vals true 1 [[.str (rowN bit 0)], [.str (rowN bit 1)], [.str (rowN bit 2)], [.str (rowN bit 3)]]] = [O.vals true 1 [[.str (l.getD 0 [])], [.str (l.getD 1 [])], [.str (l.getD 2 [])], [.str (l.getD 3 [])]]] := by rw [h, h, h, h]
def de (zs l : List Int) : Bool := l.all fun i => decide (zs.getD i.toNat 0 = 0)
def uB : CF
 | [.agg [.int .i64 f, .int .i64 r, .sl 0 0 len none], .agg [.int .i64 f2, .int .i64 r2, .sl 1 0 len2 none]], [.ints false .i8 zs, .ints false .i8 ws] => some (decide (len = zs.length) && decide (zs.length <= 64) && decide (len2 = ws.length) && decide (ws.length <= 64), .bool (zU f r zs f2 r2 ws), [])
 | _, _ => none
theorem zE : CtOk (GGx kCa kDb) PP (89, uB) := by
 refine aG Tryz.func89 (by kernel_rfl) rfl fun a0 h0 c0 v0 N0 e hc => ?_
 unfold uB at e
 split at e
 ·rename_i f r len f2 r2 len2 zs ws
  cases e
  have hE := aD (kCa := kCa) (kDb := kDb) (cts := []) (inl := []) trivial trivial
  refine ak hE 2 Tryz.func89 rfl rfl ?_
  simp only [Bool.and_eq_true, decide_eq_true_eq] at hc
  obtain ⟨⟨⟨rfl, hz64⟩, rfl⟩, hw64⟩ := hc
  repeat (first | refine ah ?_ | refine sat_nd ?_)
  refine au (fun h => ?_) (fun h => ?_)
  ·have h : (!(decide (f = f2) && decide (r = r2)) || !decide ((zs.length : Int) = ws.length)) = true := h
   exact ag (ai (.inr rfl) rfl rfl rfl (congrArg V.bool (by
    rw [Bool.or_eq_true] at h
    rcases h with h | h
    ·rw [Bool.not_eq_true'] at h; rw [zU, h]; rfl
    ·have hne : ¬ zs = ws := by intro h2; subst h2; simp at h
     simp [zU, hne])))
  have h : (!(decide (f = f2) && decide (r = r2)) || !decide ((zs.length : Int) = ws.length)) = false := h
  simp only [Bool.or_eq_false_iff, Bool.not_eq_false', decide_eq_true_eq] at h
  obtain ⟨hfr, hl⟩ := h
  have hl : zs.length = ws.length := by omega
  refine bZ hE 2 (fun i (_ : Unit) => ([(2, .ptr 2 0 0), (3, .ptr 3 0 0), (5, I i)], [.ints false .i8 zs, .ints false .i8 ws, .cells true [I f, I r, .sl 0 0 zs.length none], .cells true [I f2, I r2, .sl 1 0 ws.length none]])) zs.length (fun j _ => decide (zs.drop j = ws.drop j) = decide (zs = ws)) () (by omega) (Ent.ren [0, 1, 2, 3] [2, 3, 5] rfl rfl rfl) rfl ?_
  intro j i _ hij hj hz
  refine au (fun hlt => ?_) (fun hlt => ?_)
  ·have hlt' : j < zs.length := by simp at hlt; omega
   rw [Lc hlt' (by omega), show j = i.toNat by omega] at hz
   repeat (first | (first | refine ah ?_ | refine sat_nd ?_) | refine ae (by simp only [Bool.and_eq_true, decide_eq_true_eq]; omega) ?_)
   refine au (fun hon => ?_) (fun hon => ?_)
   ·have hon : (!decide (zs.getD i.toNat 0 = ws.getD i.toNat 0)) = true := hon
    rw [Bool.not_eq_true'] at hon
    rw [hon, Bool.false_and] at hz
    exact ag (ag (ai (.inr rfl) rfl rfl rfl (by rw [zU, <- hz]; simp)))
   ·have hon : (!decide (zs.getD i.toNat 0 = ws.getD i.toNat 0)) = false := hon
    rw [Bool.not_eq_false'] at hon
    rw [hon, Bool.true_and] at hz
    exact ag ⟨hlt', (), by rw [<- hz, show i.toNat = j by omega], Ent.ren [0, 1, 2, 3] [2, 3, 5] rfl rfl rfl⟩
  ·obtain rfl : j = zs.length := by simp at hlt; omega
   rw [List.drop_length, hl, List.drop_length] at hz
   exact ag (ag (ai (.inr rfl) rfl rfl rfl (by rw [zU, hfr, <- hz]; simp)))
 ·cases e
def vK : CF
 | [.agg [.int .i64 f, .int .i64 r, .sl 0 0 len none, .bool bl, .int .u8 ca, .int .i64 pa, .int .i64 ha, .int .i64 fu], .agg [.int .i64 f2, .int .i64 r2, .sl 1 0 len2 none, .bool bl2, .int .u8 ca2, .int .i64 pa2, .int .i64 ha2, .int .i64 fu2]], [.ints false .i8 zs, .ints false .i8 ws] => some (decide (len = zs.length) && decide (zs.length <= 64) && decide (len2 = ws.length) && decide (ws.length <= 64), .bool (BQ ⟨f, r, zs, bl, ca, pa, ha, fu⟩ ⟨f2, r2, ws, bl2, ca2, pa2, ha2, fu2⟩), [])
 | _, _ => none
theorem yH : CtOk (GGx kCa kDb) PP (43, vK) := by
 refine aG Tryz.func43 (by kernel_rfl) rfl fun a0 h0 c0 v0 N0 e hc => ?_
 unfold vK at e
 split at e
 ·rename_i f r len bl ca pa ha fu f2 r2 len2 bl2 ca2 pa2 ha2 fu2 zs ws
  cases e
  have hE := aD (kCa := kCa) (kDb := kDb) (cts := [(27, vI), (89, uB)]) (inl := []) ⟨iY, zE, trivial⟩ trivial
  refine ak hE 2 Tryz.func43 rfl rfl ?_
  simp only [Bool.and_eq_true, decide_eq_true_eq] at hc
  obtain ⟨⟨⟨rfl, hz64⟩, rfl⟩, hw64⟩ := hc
  repeat (first | (first | refine ah ?_ | refine sat_nd ?_) | refine ae (Dy hz64 hw64) ?_ | refine ae (xp hz64 hw64) ?_)
  exact ag (ai (.inr rfl) rfl rfl rfl (congrArg V.bool (by
   show (zU f r (tk zs) f2 r2 (tk ws) && (bl == bl2) && decide (ca = ca2) && decide (pa = pa2)) = _
   rw [aC, aC]; rfl)))
 ·cases e
def qq : CF
 | [.agg [.int .i64 f, .int .i64 r, .sl 0 0 len none, .bool bl, .int .u8 ca, .int .i64 pa, .int .i64 ha, .int .i64 fu], .agg [.int .i64 f2, .int .i64 r2, .sl 1 0 len2 none, .bool bl2, .int .u8 ca2, .int .i64 pa2, .int .i64 ha2, .int .i64 fu2]], [.ints false .i8 zs, .ints false .i8 ws] => some (decide (len = zs.length) && decide (zs.length <= 64) && decide (len2 = ws.length) && decide (ws.length <= 64), .bool (dX ⟨f, r, zs, bl, ca, pa, ha, fu⟩ ⟨f2, r2, ws, bl2, ca2, pa2, ha2, fu2⟩), [])
 | _, _ => none
theorem vb : CtOk (GGx kCa kDb) PP (13, qq) := by
 refine aG Tryz.func13 (by kernel_rfl) rfl fun a0 h0 c0 v0 N0 e hc => ?_
 unfold qq at e
 split at e
 ·rename_i f r len bl ca pa ha fu f2 r2 len2 bl2 ca2 pa2 ha2 fu2 zs ws
  cases e
  have hE := aD (kCa := kCa) (kDb := kDb) (cts := [(43, vK)]) (inl := []) ⟨yH, trivial⟩ trivial
  refine ak hE 2 Tryz.func13 rfl rfl ?_
  simp only [Bool.and_eq_true, decide_eq_true_eq] at hc
  obtain ⟨⟨⟨rfl, hz64⟩, rfl⟩, hw64⟩ := hc
  repeat (first | (first | refine ah ?_ | refine sat_nd ?_) | refine ae (Dy hz64 hw64) ?_ | refine ae (xp hz64 hw64) ?_)
  exact ag (ai (.inr rfl) rfl rfl rfl (congrArg V.bool (by
   show (BQ ⟨f, r, tk zs, bl, ca, pa, ha, fu⟩ ⟨f2, r2, tk ws, bl2, ca2, pa2, ha2, fu2⟩ && decide (ha = ha2) && decide (fu = fu2)) = _
   rw [aC, aC]; rfl)))
 ·cases e
def pM : CF
 | [.agg [.int .i64 f, .int .i64 r, .sl 0 0 len none, .bool bl, .int .u8 ca, .int .i64 pa, .int .i64 ha, .int .i64 fu]], [.ints false .i8 zs] => some (decide (len = zs.length) && decide (zs.length <= 64), .agg [I f, I r, .sl 1 0 zs.length none, Bb bl, .int .u8 ca, I pa, I ha, I fu], [.ints true .i8 zs])
 | _, _ => none
theorem oD : CtOk (GGx kCa kDb) PP (10, pM) := by
 refine aG Tryz.func10 (by kernel_rfl) rfl fun a0 h0 c0 v0 N0 e hc => ?_
 unfold pM at e
 split at e
 ·rename_i f r len bl ca pa ha fu zs
  cases e
  have hE := aD (kCa := kCa) (kDb := kDb) (cts := []) (inl := []) trivial trivial
  refine ak hE 2 Tryz.func10 rfl rfl ?_
  simp only [Bool.and_eq_true, decide_eq_true_eq] at hc
  obtain ⟨rfl, hc2⟩ := hc
  repeat (first | (first | refine ah ?_ | refine sat_nd ?_) | refine ae (aE hc2 rfl) ?_ | refine ae (by simp; omega) ?_)
  exact ag (bN 3 (.inr rfl) rfl rfl rfl rfl (by show [O.ints true .i8 (tk zs)] = _; rw [aC]) (by show V.agg [I f, I r, .sl 1 0 (tk zs).length none, Bb bl, .int .u8 ca, I pa, I ha, I fu] = _; rw [aC]))
 ·cases e
def mF : CF
 | [.agg [.int .i64 f, .int .i64 r], .agg [.int .i64 a, .int .i64 b, .int .i8 pr]], [] => some (true, .bool (mvB f r a b pr), [])
 | _, _ => none
theorem sy : CtOk (GGx kCa kDb) PP (22, mF) := by
 refine aG Tryz.func22 (by kernel_rfl) rfl fun a0 h0 c0 v0 N0 e hc => ?_
 unfold mF at e
 split at e
 ·rename_i f r a b pr
  cases e
  have hE := aD (kCa := kCa) (kDb := kDb) (cts := [(18, my)]) (inl := []) ⟨kf, trivial⟩ trivial
  refine ak hE 2 Tryz.func22 rfl rfl ?_
  repeat (first | refine ah ?_ | refine sat_nd ?_)
  exact ag (ai (.inr rfl) rfl rfl rfl rfl)
 ·cases e
def BW : CF
 | [.int .i8 p, .bool bl], [] => some (true, .bool (ownL p bl), [])
 | _, _ => none
theorem CZ : CtOk (GGx kCa kDb) PP (153, BW) := by
 refine aG Tryz.func153 (by kernel_rfl) rfl fun a0 h0 c0 v0 N0 e hc => ?_
 unfold BW at e
 split at e
 ·rename_i p bl
  cases e
  have hE := aD (kCa := kCa) (kDb := kDb) (cts := []) (inl := []) trivial trivial
  refine ak hE 2 Tryz.func153 rfl rfl ?_
  repeat (first | refine ah ?_ | refine sat_nd ?_)
  exact ag (ai (.inr rfl) rfl rfl rfl rfl)
 ·cases e
def gq : CF
 | [.str s], [] => some (true, .int .i64 (cj 8 8 s), [])
 | _, _ => none
theorem gb : CtOk (GGx kCa kDb) PP (101, gq) := by
 refine aG Tryz.func101 (by kernel_rfl) rfl fun a0 h0 c0 v0 N0 e hc => ?_
 unfold gq at e
 split at e
 ·rename_i s
  cases e
  have hE := aD (kCa := kCa) (kDb := kDb) (cts := [(133, nE)]) (inl := []) ⟨jY, trivial⟩ trivial
  refine ak hE 2 Tryz.func101 rfl rfl ?_
  repeat (first | refine ah ?_ | refine sat_nd ?_)
  exact ag (ai (.inr rfl) rfl rfl rfl rfl)
 ·cases e
def tM : CF
 | [.int .u8 bit], [] => some (true, .sl 0 0 4 none, [.vals true 1 [[.str (rowN bit 0)], [.str (rowN bit 1)], [.str (rowN bit 2)], [.str (rowN bit 3)]]])
 | _, _ => none
theorem mA : CtOk (GGx kCa kDb) PP (102, tM) := by
 refine aG Tryz.func102 (by kernel_rfl) rfl fun a0 h0 c0 v0 N0 e hc => ?_
 unfold tM at e
 split at e
 ·rename_i bit
  cases e
  have hE := aD (kCa := kCa) (kDb := kDb) (cts := []) (inl := []) trivial trivial
  refine ak hE 2 Tryz.func102 rfl rfl ?_
  repeat (first | refine ah ?_ | refine sat_nd ?_)
  refine au (fun h1 => ?_) (fun h1 => ?_)
  ·have h1 : decide (bit = 1) = true := h1
   repeat (first | refine ah ?_ | refine sat_nd ?_)
   exact ag (bN 0 (.inr rfl) rfl rfl rfl rfl (by rw [xF (l := [[101, 49], [103, 49], [104, 49], [102, 49]]) (fun i => by simp only [rowN, h1, cond_true])]; rfl) rfl)
  have h1 : decide (bit = 1) = false := h1
  refine au (fun h2 => ?_) (fun h2 => ?_)
  ·have h2 : decide (bit = 2) = true := h2
   exact ag (bN 0 (.inr rfl) rfl rfl rfl rfl (by rw [xF (l := [[101, 49], [99, 49], [97, 49], [100, 49]]) (fun i => by simp only [rowN, h1, h2, cond_true, cond_false])]; rfl) rfl)
  have h2 : decide (bit = 2) = false := h2
  refine au (fun h3 => ?_) (fun h3 => ?_)
  ·have h3 : decide (bit = 4) = true := h3
   exact ag (bN 0 (.inr rfl) rfl rfl rfl rfl (by rw [xF (l := [[101, 56], [103, 56], [104, 56], [102, 56]]) (fun i => by simp only [rowN, h1, h2, h3, cond_true, cond_false])]; rfl) rfl)
  have h3 : decide (bit = 4) = false := h3
  exact ag (bN 0 (.inr rfl) rfl rfl rfl rfl (by rw [xF (l := [[101, 56], [99, 56], [97, 56], [100, 56]]) (fun i => by simp only [rowN, h1, h2, h3, cond_false])]; rfl) rfl)
 ·cases e
end
end Go.Ab
namespace Go.Ab
open IntKind
open Go.Proofs
section
variable {kCa kDb : Bool}
def vu (zs : List Int) (i : Int) : Bool := decide (0 <= i) && decide (i < zs.length)
def cgS (f r : Int) (zs : List Int) (bl : Bool) (ca a b bit : Int) : Bool := decide ((u8.wrap (ca.tdiv bit)).tmod 2 = 1) && (decide (2 < bit) == bl) && decide (a = sqW bit 0) && decide (b = sqW bit 1) && de zs (bM f r (sqW bit 0) (sqW bit 2))
def cgL (f r : Int) (zs : List Int) (bl : Bool) (ca a b pr : Int) : Int := bif !decide (aP (zs.getD a.toNat 0) = 6) || !decide (pr = 0) then 0 else bif cgS f r zs bl ca a b 1 then 1 else bif cgS f r zs bl ca a b 2 then 2 else bif cgS f r zs bl ca a b 4 then 4 else bif cgS f r zs bl ca a b 8 then 8 else 0
def pnL (f r : Int) (zs : List Int) (bl : Bool) (pa a b pr : Int) : Bool := bif !(decide (i64.wrap (b.tdiv f) = fK r bl) == !decide (pr = 0)) then false else bif hasL b (cm (bT f r bl a (occL zs)) id ((f * r).toNat)) then true else hasL b (cm (dA f bl a) id ((f * r).toNat)) && (!decide (zs.getD b.toNat 0 = 0) || decide (b = pa))
def soL (f r : Int) (zs : List Int) (bl : Bool) (ca pa a b pr : Int) : Bool := bif ownL (zs.getD b.toNat 0) bl then false else bif decide (aP (zs.getD a.toNat 0) = 1) then pnL f r zs bl pa a b pr else bif !decide (cgL f r zs bl ca a b pr = 0) then true else decide (pr = 0) && bF f r (aP (zs.getD a.toNat 0)) a b (occL zs)
def capL (f r : Int) (zs : List Int) (pa a b : Int) : Int := bif decide (aP (zs.getD a.toNat 0) = 1) && decide (b = pa) then numR f r (b.tmod f) (i64.wrap (a.tdiv f)) else bif !decide (zs.getD b.toNat 0 = 0) then b else -1
theorem bH {zs : List Int} {b : Int} {g : Bool} (h : 0 <= b) (h1 : b < zs.length) : (!g || (decide (0 <= b) && decide (b < zs.length))) = true := by simp [h, h1]
theorem bI {zs : List Int} {b : Int} (h : 0 <= b) (h1 : b < zs.length) : (decide (0 <= b) && decide (b < zs.length)) = true := by simp [h, h1]
theorem bk {zs : List Int} {b : Int} (h : 0 <= b) (h1 : b < zs.length) : (decide (0 <= b) && decide (b < (tk zs).length)) = true := by rw [fq]; simp [h, h1]
theorem tW {f r : Int} {zs : List Int} {ca bit : Int} (h : cA f r zs ca = true) (hb : bit = 1 \/ bit = 2 \/ bit = 4 \/ bit = 8) (h1 : decide ((u8.wrap (ca.tdiv bit)).tmod 2 = 1) = true) : hU f r zs bit = true := by
 unfold cA at h
 cases h15 : decide (15 < ca) with
 | true => rw [h15] at h; cases h
 | false =>
  rw [h15, cond_false] at h
  simp only [Bool.not_eq_true', Bool.or_eq_false_iff, rXL, Bool.and_eq_false_iff, Bool.not_eq_false'] at h
  obtain ⟨⟨⟨c1, c2⟩, c3⟩, c4⟩ := h
  rcases hb with rfl | rfl | rfl | rfl
  ·exact c1.resolve_left (by rw [h1]; simp)
  ·exact c2.resolve_left (by rw [h1]; simp)
  ·exact c3.resolve_left (by rw [h1]; simp)
  ·exact c4.resolve_left (by rw [h1]; simp)
theorem Ch {f r : Int} {zs : List Int} {bit : Int} (h : hU f r zs bit = true) : f = 8 /\ r = 8 := by
 unfold hU at h
 cases h8 : (!decide (f = 8) || !decide (r = 8)) with
 | true => rw [h8] at h; cases h
 | false => simpa using h8
theorem bt_1 : bM 8 8 (sqW 1 0) (sqW 1 2) = [5, 6] := by kernel_rfl
theorem bt_2 : bM 8 8 (sqW 2 0) (sqW 2 2) = [3, 2, 1] := by kernel_rfl
theorem bt_4 : bM 8 8 (sqW 4 0) (sqW 4 2) = [61, 62] := by kernel_rfl
theorem bt_8 : bM 8 8 (sqW 8 0) (sqW 8 2) = [59, 58, 57] := by kernel_rfl
theorem ld {f r : Int} {zs : List Int} {ca bit : Int} {x y z : Bool} (_hc2 : zs.length <= 64) (hbd : az f r zs = true) (h : cA f r zs ca = true) (hb : bit = 1 \/ bit = 2 \/ bit = 4 \/ bit = 8) : (!(decide ((u8.wrap (ca.tdiv bit)).tmod 2 = 1) && x && y && z) || (decide (zs.length = (tk zs).length) && decide ((tk zs).length <= 64) && decide ((bM f r (sqW bit 0) (sqW bit 2)).length = (((fJ f r (sqW bit 0) (sqW bit 2)).drop 0).take (bM f r (sqW bit 0) (sqW bit 2)).length).length) && decide ((((fJ f r (sqW bit 0) (sqW bit 2)).drop 0).take (bM f r (sqW bit 0) (sqW bit 2)).length).length <= 1000) && (((fJ f r (sqW bit 0) (sqW bit 2)).drop 0).take (bM f r (sqW bit 0) (sqW bit 2)).length).all (vu (tk zs)))) = true := by
 rw [cg, aC]
 cases h1 : decide ((u8.wrap (ca.tdiv bit)).tmod 2 = 1) with
 | false => simp
 | true =>
  obtain ⟨rfl, rfl⟩ := Ch (tW h hb h1)
  have h64 := tR hbd rfl
  rcases hb with rfl | rfl | rfl | rfl
  ·rw [bt_1]; simp [vu, h64]
  ·rw [bt_2]; simp [vu, h64]
  ·rw [bt_4]; simp [vu, h64]
  ·rw [bt_8]; simp [vu, h64]
theorem Jg {zs l : List Int} {j : Nat} (h : j < l.length) : de zs (l.drop j) = (decide (zs.getD (l.getD j 0).toNat 0 = 0) && de zs (l.drop (j + 1))) := by
 rw [List.drop_eq_getElem_cons h, de, List.all_cons]
 simp only [List.getD_eq_getElem?_getD, List.getElem?_eq_getElem h, Option.getD_some]
 rfl
def CY : CF
 | [.agg [.int .i64 _f, .int .i64 _r, .sl 0 0 len none, .bool _bl, .int .u8 _ca, .int .i64 _pa, .int .i64 _ha, .int .i64 _fu], .sl 1 0 ll none], [.ints false .i8 zs, .ints false .i64 l] => some (decide (len = zs.length) && decide (zs.length <= 64) && decide (ll = l.length) && decide (l.length <= 1000) && l.all (vu zs), .bool (de zs l), [])
 | _, _ => none
theorem Bq : CtOk (GGx kCa kDb) PP (152, CY) := by
 refine aG Tryz.func152 (by kernel_rfl) rfl fun a0 h0 c0 v0 N0 e hc => ?_
 unfold CY at e
 split at e
 ·rename_i f r len bl ca pa ha fu ll zs l
  cases e
  have hE := aD (kCa := kCa) (kDb := kDb) (cts := []) (inl := []) trivial trivial
  refine ak hE 2 Tryz.func152 rfl rfl ?_
  simp only [Bool.and_eq_true, decide_eq_true_eq] at hc
  obtain ⟨⟨⟨⟨rfl, hc2⟩, rfl⟩, hl⟩, hal⟩ := hc
  refine bZ hE 2 (fun i (_ : Unit) => ([(1, .sl 1 0 l.length none), (2, .ptr 2 0 0), (5, I i)], [.ints false .i8 zs, .ints false .i64 l, .cells true [I f, I r, .sl 0 0 zs.length none, Bb bl, .int .u8 ca, I pa, I ha, I fu]])) l.length (fun j _ => de zs (l.drop j) = de zs l) () (by omega) (Ent.ren [0, 1, 2] [1, 2, 5] rfl rfl rfl) rfl ?_
  intro j i _ hij hj hz
  refine au (fun hlt => ?_) (fun hlt => ?_)
  ·have hlt' : j < l.length := by simp at hlt; omega
   have hx : vu zs (l.getD i.toNat 0) = true := by
    have := List.all_eq_true.1 hal (l[j]) (List.getElem_mem hlt')
    rw [show i.toNat = j by omega, List.getD_eq_getElem?_getD, List.getElem?_eq_getElem hlt', Option.getD_some]; exact this
   rw [Jg hlt', show j = i.toNat by omega] at hz
   repeat (first | (first | refine ah ?_ | refine sat_nd ?_) | refine ae (by simp only [Bool.and_eq_true, decide_eq_true_eq]; omega) ?_ | refine ae hx ?_)
   refine au (fun hon => ?_) (fun hon => ?_)
   ·have hon : (!decide (zs.getD (l.getD i.toNat 0).toNat 0 = 0)) = true := hon
    rw [Bool.not_eq_true'] at hon
    rw [hon, Bool.false_and] at hz
    exact ag (ag (ai (.inr rfl) rfl rfl rfl (by rw [<- hz])))
   ·have hon : (!decide (zs.getD (l.getD i.toNat 0).toNat 0 = 0)) = false := hon
    rw [Bool.not_eq_false'] at hon
    rw [hon, Bool.true_and] at hz
    exact ag ⟨hlt', (), by rw [<- hz, show i.toNat = j by omega], Ent.ren [0, 1, 2] [1, 2, 5] rfl rfl rfl⟩
  ·obtain rfl : j = l.length := by simp at hlt; omega
   rw [List.drop_length] at hz
   exact ag (ag (ai (.inr rfl) rfl rfl rfl (by rw [<- hz]; rfl)))
 ·cases e
def sL : CF
 | [.agg [.int .i64 f, .int .i64 r, .sl 0 0 len none, .bool bl, .int .u8 ca, .int .i64 _pa, .int .i64 _ha, .int .i64 _fu], .agg [.int .i64 a, .int .i64 b, .int .i8 pr]], [.ints false .i8 zs] => some (decide (len = zs.length) && decide (zs.length <= 64) && (az f r zs && cA f r zs ca && aj f r a && aj f r b), .int .u8 (cgL f r zs bl ca a b pr), [])
 | _, _ => none
theorem lU : CtOk (GGx kCa kDb) PP (100, sL) := by
 refine aG Tryz.func100 (by kernel_rfl) rfl fun a0 h0 c0 v0 N0 e hc => ?_
 unfold sL at e
 split at e
 ·rename_i f r len bl ca pa ha fu a b pr zs
  cases e
  have hE := aD (kCa := kCa) (kDb := kDb) (cts := [(47, eP), (102, tM), (101, gq), (33, iA), (152, CY)]) (inl := []) ⟨dz, mA, gb, kp, Bq, trivial⟩ trivial
  refine ak hE 2 Tryz.func100 rfl rfl ?_
  simp only [Bool.and_eq_true, decide_eq_true_eq] at hc
  obtain ⟨⟨rfl, hc2⟩, ⟨⟨hbd, hcs⟩, hva⟩, hvb⟩ := hc
  have hvs := (aV hbd).1
  obtain ⟨ha0, ha1⟩ := (bL hbd).1 hva
  obtain ⟨hb0, hb1⟩ := (bL hbd).1 hvb
  have hf0 : (!decide (f = 0)) = true := by have := cI hvs; simp; omega
  have hf1 : ∀ g : Bool, (!g || !decide (f = 0)) = true := fun g => by rw [hf0]; simp
  repeat (first | (first | refine ah ?_ | refine sat_nd ?_) | refine ae (bI ha0 ha1) ?_ | refine ae (bI hb0 hb1) ?_ | refine ae (bH ha0 ha1) ?_ | refine ae (bH hb0 hb1) ?_ | refine ae hf0 ?_ | refine ae (hf1 _) ?_ | refine ae (aE hc2 rfl) ?_ | refine ae (bR hc2 rfl) ?_)
  refine au (fun h => ?_) (fun h => ?_)
  ·have h : (!decide (aP (zs.getD a.toNat 0) = 6) || !decide (pr = 0)) = true := h
   exact ag (ai (.inr rfl) rfl rfl rfl (by rw [cgL, h]; rfl))
  have h : (!decide (aP (zs.getD a.toNat 0) = 6) || !decide (pr = 0)) = false := h
  repeat (first | refine ah ?_ | refine sat_nd ?_)
  refine cU hE 2 5 ?_
  refine rnd ?_
  refine cC (by rfl) ?_
  repeat (first | (first | refine ah ?_ | refine sat_nd ?_) | refine ae (hf1 _) ?_ | refine ae (ld (bit := 1) hc2 hbd hcs (by simp)) ?_)
  refine au (fun h0 => ?_) (fun h0 => ?_)
  ·have h0 : (decide ((u8.wrap (ca.tdiv 1)).tmod 2 = 1) && (decide (2 < (1 : Int)) == bl) && decide (a = sqW 1 0) && decide (b = sqW 1 1) && de (tk zs) (((fJ f r (sqW 1 0) (sqW 1 2)).drop 0).take (bM f r (sqW 1 0) (sqW 1 2)).length)) = true := h0
   rw [aC, cg] at h0
   have h0 : cgS f r zs bl ca a b 1 = true := h0
   exact ag (ag (ai (.inr rfl) rfl rfl rfl (by simp only [cgL, h, h0, cond_true, cond_false]; rfl)))
  have h0 : (decide ((u8.wrap (ca.tdiv 1)).tmod 2 = 1) && (decide (2 < (1 : Int)) == bl) && decide (a = sqW 1 0) && decide (b = sqW 1 1) && de (tk zs) (((fJ f r (sqW 1 0) (sqW 1 2)).drop 0).take (bM f r (sqW 1 0) (sqW 1 2)).length)) = false := h0
  rw [aC, cg] at h0
  have h0 : cgS f r zs bl ca a b 1 = false := h0
  refine ag ⟨[(2, .ptr 1 0 0), (3, .ptr 2 0 0), (21, .sl 3 0 4 none), (22, I 4), (23, I 1)], [.ints false .i8 zs, .cells true [I f, I r, .sl 0 0 zs.length none, Bb bl, .int .u8 ca, I pa, I ha, I fu], .cells true [I a, I b, .int .i8 pr], .ints true .u8 [1, 2, 4, 8]], Ent.ren [0, 1, 2, 3] [2, 3, 21, 22, 23] rfl rfl rfl, ?_⟩
  refine rnd ?_
  refine cC (by rfl) ?_
  repeat (first | (first | refine ah ?_ | refine sat_nd ?_) | refine ae (hf1 _) ?_ | refine ae (ld (bit := 2) hc2 hbd hcs (by simp)) ?_)
  refine au (fun h1 => ?_) (fun h1 => ?_)
  ·have h1 : (decide ((u8.wrap (ca.tdiv 2)).tmod 2 = 1) && (decide (2 < (2 : Int)) == bl) && decide (a = sqW 2 0) && decide (b = sqW 2 1) && de (tk zs) (((fJ f r (sqW 2 0) (sqW 2 2)).drop 0).take (bM f r (sqW 2 0) (sqW 2 2)).length)) = true := h1
   rw [aC, cg] at h1
   have h1 : cgS f r zs bl ca a b 2 = true := h1
   exact ag (ag (ai (.inr rfl) rfl rfl rfl (by simp only [cgL, h, h0, h1, cond_true, cond_false]; rfl)))
  have h1 : (decide ((u8.wrap (ca.tdiv 2)).tmod 2 = 1) && (decide (2 < (2 : Int)) == bl) && decide (a = sqW 2 0) && decide (b = sqW 2 1) && de (tk zs) (((fJ f r (sqW 2 0) (sqW 2 2)).drop 0).take (bM f r (sqW 2 0) (sqW 2 2)).length)) = false := h1
  rw [aC, cg] at h1
  have h1 : cgS f r zs bl ca a b 2 = false := h1
  refine ag ⟨[(2, .ptr 1 0 0), (3, .ptr 2 0 0), (21, .sl 3 0 4 none), (22, I 4), (23, I 2)], [.ints false .i8 zs, .cells true [I f, I r, .sl 0 0 zs.length none, Bb bl, .int .u8 ca, I pa, I ha, I fu], .cells true [I a, I b, .int .i8 pr], .ints true .u8 [1, 2, 4, 8]], Ent.ren [0, 1, 2, 3] [2, 3, 21, 22, 23] rfl rfl rfl, ?_⟩
  refine rnd ?_
  refine cC (by rfl) ?_
  repeat (first | (first | refine ah ?_ | refine sat_nd ?_) | refine ae (hf1 _) ?_ | refine ae (ld (bit := 4) hc2 hbd hcs (by simp)) ?_)
  refine au (fun h2 => ?_) (fun h2 => ?_)
  ·have h2 : (decide ((u8.wrap (ca.tdiv 4)).tmod 2 = 1) && (decide (2 < (4 : Int)) == bl) && decide (a = sqW 4 0) && decide (b = sqW 4 1) && de (tk zs) (((fJ f r (sqW 4 0) (sqW 4 2)).drop 0).take (bM f r (sqW 4 0) (sqW 4 2)).length)) = true := h2
   rw [aC, cg] at h2
   have h2 : cgS f r zs bl ca a b 4 = true := h2
   exact ag (ag (ai (.inr rfl) rfl rfl rfl (by simp only [cgL, h, h0, h1, h2, cond_true, cond_false]; rfl)))
  have h2 : (decide ((u8.wrap (ca.tdiv 4)).tmod 2 = 1) && (decide (2 < (4 : Int)) == bl) && decide (a = sqW 4 0) && decide (b = sqW 4 1) && de (tk zs) (((fJ f r (sqW 4 0) (sqW 4 2)).drop 0).take (bM f r (sqW 4 0) (sqW 4 2)).length)) = false := h2
  rw [aC, cg] at h2
  have h2 : cgS f r zs bl ca a b 4 = false := h2
  refine ag ⟨[(2, .ptr 1 0 0), (3, .ptr 2 0 0), (21, .sl 3 0 4 none), (22, I 4), (23, I 3)], [.ints false .i8 zs, .cells true [I f, I r, .sl 0 0 zs.length none, Bb bl, .int .u8 ca, I pa, I ha, I fu], .cells true [I a, I b, .int .i8 pr], .ints true .u8 [1, 2, 4, 8]], Ent.ren [0, 1, 2, 3] [2, 3, 21, 22, 23] rfl rfl rfl, ?_⟩
  refine rnd ?_
  refine cC (by rfl) ?_
  repeat (first | (first | refine ah ?_ | refine sat_nd ?_) | refine ae (hf1 _) ?_ | refine ae (ld (bit := 8) hc2 hbd hcs (by simp)) ?_)
  refine au (fun h3 => ?_) (fun h3 => ?_)
  ·have h3 : (decide ((u8.wrap (ca.tdiv 8)).tmod 2 = 1) && (decide (2 < (8 : Int)) == bl) && decide (a = sqW 8 0) && decide (b = sqW 8 1) && de (tk zs) (((fJ f r (sqW 8 0) (sqW 8 2)).drop 0).take (bM f r (sqW 8 0) (sqW 8 2)).length)) = true := h3
   rw [aC, cg] at h3
   have h3 : cgS f r zs bl ca a b 8 = true := h3
   exact ag (ag (ai (.inr rfl) rfl rfl rfl (by simp only [cgL, h, h0, h1, h2, h3, cond_true, cond_false]; rfl)))
  have h3 : (decide ((u8.wrap (ca.tdiv 8)).tmod 2 = 1) && (decide (2 < (8 : Int)) == bl) && decide (a = sqW 8 0) && decide (b = sqW 8 1) && de (tk zs) (((fJ f r (sqW 8 0) (sqW 8 2)).drop 0).take (bM f r (sqW 8 0) (sqW 8 2)).length)) = false := h3
  rw [aC, cg] at h3
  have h3 : cgS f r zs bl ca a b 8 = false := h3
  refine ag ⟨[(2, .ptr 1 0 0), (3, .ptr 2 0 0), (21, .sl 3 0 4 none), (22, I 4), (23, I 4)], [.ints false .i8 zs, .cells true [I f, I r, .sl 0 0 zs.length none, Bb bl, .int .u8 ca, I pa, I ha, I fu], .cells true [I a, I b, .int .i8 pr], .ints true .u8 [1, 2, 4, 8]], Ent.ren [0, 1, 2, 3] [2, 3, 21, 22, 23] rfl rfl rfl, ?_⟩
  refine rnd ?_
  refine sI (by rfl) ?_
  exact ag (ag (ai (.inr rfl) rfl rfl rfl (by simp only [cgL, h, h0, h1, h2, h3, cond_false])))
 ·cases e
def CK : CF
 | [.agg [.int .i64 f, .int .i64 r, .sl 0 0 len none, .bool _bl, .int .u8 ca, .int .i64 pa, .int .i64 _ha, .int .i64 _fu], .agg [.int .i64 a, .int .i64 b, .int .i8 _pr]], [.ints false .i8 zs] => some (decide (len = zs.length) && decide (zs.length <= 64) && (az f r zs && cA f r zs ca && aj f r a && aj f r b), .int .i64 (capL f r zs pa a b), [])
 | _, _ => none
theorem Bp : CtOk (GGx kCa kDb) PP (115, CK) := by
 refine aG Tryz.func115 (by kernel_rfl) rfl fun a0 h0 c0 v0 N0 e hc => ?_
 unfold CK at e
 split at e
 ·rename_i f r len bl ca pa ha fu a b pr zs
  cases e
  have hE := aD (kCa := kCa) (kDb := kDb) (cts := [(47, eP), (48, da), (97, fO)]) (inl := []) ⟨dz, bP, eE, trivial⟩ trivial
  refine ak hE 2 Tryz.func115 rfl rfl ?_
  simp only [Bool.and_eq_true, decide_eq_true_eq] at hc
  obtain ⟨⟨rfl, hc2⟩, ⟨⟨hbd, hcs⟩, hva⟩, hvb⟩ := hc
  have hvs := (aV hbd).1
  obtain ⟨ha0, ha1⟩ := (bL hbd).1 hva
  obtain ⟨hb0, hb1⟩ := (bL hbd).1 hvb
  have hf0 : (!decide (f = 0)) = true := by have := cI hvs; simp; omega
  have hf1 : ∀ g : Bool, (!g || !decide (f = 0)) = true := fun g => by rw [hf0]; simp
  repeat (first | (first | refine ah ?_ | refine sat_nd ?_) | refine ae (bI ha0 ha1) ?_ | refine ae (bI hb0 hb1) ?_ | refine ae (bH ha0 ha1) ?_ | refine ae (bH hb0 hb1) ?_ | refine ae hf0 ?_ | refine ae (hf1 _) ?_ | refine ae (aE hc2 rfl) ?_ | refine ae (bR hc2 rfl) ?_)
  refine au (fun h => ?_) (fun h => ?_)
  ·have h : (decide (aP (zs.getD a.toNat 0) = 1) && decide (b = pa)) = true := h
   repeat (first | (first | refine ah ?_ | refine sat_nd ?_) | refine ae (bI ha0 ha1) ?_ | refine ae (bI hb0 hb1) ?_ | refine ae (bH ha0 ha1) ?_ | refine ae (bH hb0 hb1) ?_ | refine ae hf0 ?_ | refine ae (hf1 _) ?_ | refine ae (aE hc2 rfl) ?_ | refine ae (bR hc2 rfl) ?_)
   exact ag (ai (.inr rfl) rfl rfl rfl (by rw [capL, h]; rfl))
  have h : (decide (aP (zs.getD a.toNat 0) = 1) && decide (b = pa)) = false := h
  repeat (first | (first | refine ah ?_ | refine sat_nd ?_) | refine ae (bI ha0 ha1) ?_ | refine ae (bI hb0 hb1) ?_ | refine ae (bH ha0 ha1) ?_ | refine ae (bH hb0 hb1) ?_ | refine ae hf0 ?_ | refine ae (hf1 _) ?_ | refine ae (aE hc2 rfl) ?_ | refine ae (bR hc2 rfl) ?_)
  refine au (fun h2 => ?_) (fun h2 => ?_)
  ·have h2 : (!decide (zs.getD b.toNat 0 = 0)) = true := h2
   exact ag (ai (.inr rfl) rfl rfl rfl (by rw [capL, h, h2]; rfl))
  ·have h2 : (!decide (zs.getD b.toNat 0 = 0)) = false := h2
   exact ag (ai (.inr rfl) rfl rfl rfl (by rw [capL, h, h2]; rfl))
 ·cases e
end
end Go.Ab
namespace Go.Ab
open Go.Proofs Go.RowKit
section
variable {kCa kDb : Bool}
theorem Df (b : Bool) (k : IntKind) (e : Int) : jQ PP 107 [.bool b, .int k e] b (.iface 31 (.int k e)) := by
 refine ⟨fun us w => ?_, fun ρ us w n hus => ?_⟩
 ·simp only [invoke]
  simp
 ·obtain ⟨u1, r1, rfl, h1, u2, r2, rfl, h2, rfl⟩ := hus
  have h1 : u1 = .bool b := h1
  have h2 : u2 = .int k e := h2
  subst h1; subst h2
  refine callsIn_of_wp_marks Tryz.func107 rfl trivial ?_
  refine wpIn_seq (wpIn_region ?_)
  have hr : (Fr none).round = none := rfl
  cases b with
  | false =>
   simp [wpOpsIn, go_sem, Exit.then, hr, Oper.semAt_none, Oper.uponIn]
   refine wpIn_cond_false (by simp [Act.eval, Array.replicate]) (wpIn_skip ?_)
   exact ⟨_, by simp [results, Tryz.results107], Below.refl _ w, _, rfl, fun ρ => ⟨[], rfl, rfl⟩⟩
  | true =>
   simp [wpOpsIn, go_sem, Exit.then, hr, Oper.semAt_none, Oper.uponIn]
   refine wpIn_cond_true (by simp [Act.eval, Array.replicate]) (wpIn_region ?_)
   simp [wpOpsIn, go_sem, hr, Oper.semAt_none, Oper.uponIn, Instr.panic]
   exact ⟨Below.refl _ w, rfl⟩
theorem rK (b : Nat) (hp : List O) (k : Nat) : lj (GGx kCa kDb) PP ⟨106, [], [.ptr b 0 k]⟩ .returning .returning hp fun hp' => hp' = hp := by
 refine ⟨ent Tryz.func106 (by kernel_rfl) rfl, fun B w0 gs ρ w us n hh hbel hB hgs hus => ?_⟩
 obtain ⟨u1, r1, rfl, h1, rfl⟩ := hus
 refine callsDIn_of_wpSIn Tryz.func106 rfl trivial fun c₀ cs hu => ?_
 apply wpSIn_seq
 apply wpSIn_region
 simp [wpOpsSIn, go_sem, recoverD, hu, Exit.thenS]
 have hr : (Fr none).round = none := rfl
 refine wpSIn_of_wpIn rfl (wpIn_seq (wpIn_region ?_))
 simp [wpOpsIn, go_sem, Exit.then, hr, Oper.semAt_none, Oper.uponIn]
 refine wpIn_block (wpIn_seq (wpIn_region ?_))
 simp [wpOpsIn, go_sem, Exit.then, hr, Oper.semAt_none, Oper.uponIn]
 refine wpIn_cond_true (by simp [Act.eval, Array.replicate]) (wpIn_skip ?_)
 have hc : c₀ = { c₀ with mode := .returning } := by cases c₀; simp_all
 refine ⟨rfl, .returning, ?_, .tuple #[], by simp [results, Tryz.results106], rfl, ⟨_, rfl⟩, hp, ρ, hh, Ren.le_refl _, hbel, hgs, rfl⟩
 rw [<- hc]
theorem zA {hp : List O} {b : Nat} {v0 : V} {n : Int} {ρ : Ren} {B : Nat} {w : World} (hh : HR (GGx kCa kDb) B ρ hp w) (hb : hp.getD b .gone = .cells true [v0]) {u : Value} (hu : VR ρ (.ptr b 0 0) u) :
  ∃ w', (Instr.storeAt 31 u (.int .i64 n)).run PP w = .ok () w' /\ HR (GGx kCa kDb) B ρ (hp.set b (.cells true [.int .i64 n])) w' /\ Below B w w' /\ KeepsOthers w w' := by
 have hE := aD (kCa := kCa) (kDb := kDb) (cts := []) (inl := []) trivial trivial
 have hlt : b < av := by
  have := lY (l := hp) (b := b) (by rw [hb]; simp)
  have := hh.small
  omega
 have hble : Nat.ble av b = false := by
  cases h : Nat.ble av b with
  | false => rfl
  | true => have := Nat.le_of_ble_eq_true h; omega
 have ht : TR ρ [(0, .ptr b 0 0), (1, .int .i64 n)] { tmps := #[u, .int .i64 n], defers := [] } := by
  intro t
  rw [aS]
  by_cases h0 : 0 = t
  ·subst h0; simpa using hu
  ·rw [if_neg h0, aS]
   by_cases h1 : 1 = t
   ·subst h1; rw [if_pos rfl]; exact rfl
   ·rw [if_neg h1]; trivial
 have he : evOp (EE kCa kDb [] []) [(0, .ptr b 0 0), (1, .int .i64 n)] hp (.store 31 (.tmp 0) (.tmp 1)) = .store b (.cells true [.int .i64 n]) := by
  show (match Nat.ble av b with | true => R.bad | false => match stO (hp.getD b .gone) 0 0 (.int .i64 n) 1 with | some o => R.store b o | none => R.bad) = _
  rw [hble, hb]
  rfl
 obtain ⟨w', h1, h2, h3, h4⟩ := gE (P := PP) (o := ⟨none, .store 31 (.tmp 0) (.tmp 1), 0, "", #[], none⟩) hE.ok hh ht he
 refine ⟨w', ?_, h2, h3, h4⟩
 have h1 : (do Instr.storeAt 31 u (.int .i64 n); pure Next.skip : Sem Next).run PP w = .ok .skip w' := h1
 simp only [Sem.run_bind] at h1
 cases hx : (Instr.storeAt 31 u (.int .i64 n)).run PP w with
 | ok a w2 => rw [hx] at h1; simp at h1; rw [h1]
 | halt s w2 => rw [hx] at h1; simp [Result.andThen] at h1
theorem DI (v : Value) (w : World) : (Instr.typeAssert (.iface 31 v) 20 31 true).run PP w = .ok (.tuple #[v, .bool true]) w := by kernel_rfl
theorem jf {b : Nat} {hp : List O} {v0 : V} {n0 : Int} (hb : hp.getD b .gone = .cells true [v0]) : lj (GGx kCa kDb) PP ⟨106, [], [.ptr b 0 0]⟩ (.panicking [{ v := .iface 31 (.int .i64 n0), recovered := false }]) (.panicking [{ v := .iface 31 (.int .i64 n0), recovered := true }]) hp fun hp' => hp' = hp.set b (.cells true [.int .i64 n0]) := by
 refine ⟨ent Tryz.func106 (by kernel_rfl) rfl, fun B w0 gs ρ w us n hh hbel hB hgs hus => ?_⟩
 obtain ⟨u1, r1, rfl, h1, rfl⟩ := hus
 have hu1 := h1
 obtain ⟨w', hrun, h2, h3, h4⟩ := zA (n := n0) hh hb h1
 obtain ⟨rg, _, _, _, rfl⟩ := h1
 refine callsDIn_of_wpSIn Tryz.func106 rfl trivial fun c₀ cs hu => ?_
 apply wpSIn_seq
 apply wpSIn_region
 simp [wpOpsSIn, go_sem, recoverD, hu, Exit.thenS]
 have hr : (Fr none).round = none := rfl
 refine wpSIn_of_wpIn rfl (wpIn_seq (wpIn_region ?_))
 simp [wpOpsIn, go_sem, Exit.then, hr, Oper.semAt_none, Oper.uponIn]
 refine wpIn_block (wpIn_seq (wpIn_region ?_))
 simp [wpOpsIn, go_sem, Exit.then, hr, Oper.semAt_none, Oper.uponIn]
 refine wpIn_cond_false (by simp [Act.eval, Array.replicate]) (wpIn_seq (wpIn_region ?_))
 simp [wpOpsIn, go_sem, Exit.then, hr, Oper.semAt_none, Oper.uponIn, DI]
 refine wpIn_seq (wpIn_seq (wpIn_region ?_))
 simp [wpOpsIn, go_sem, Exit.then, hr, Oper.semAt_none, Oper.uponIn]
 refine wpIn_cond_false (by simp [Act.eval, Array.replicate]) (wpIn_skip ?_)
 refine wpIn_region ?_
 simp [go_sem] at hrun
 simp [wpOpsIn, go_sem, hr, Oper.semAt_none, Oper.uponIn, hrun]
 exact ⟨rfl, .panicking [{ v := .iface 31 (.int .i64 n0), recovered := true }], rfl, .tuple #[], by simp [results, Tryz.results106], rfl, ⟨_, rfl⟩, _, ρ, h2, Ren.le_refl _, hbel.trans h3, hgs.keeps h4, rfl⟩
end
end Go.Ab
namespace Go.Ab
open Go.Proofs
open Go.Proofs
end Go.Ab
namespace Go.Ab
open Go.Proofs
theorem xS (c : Int -> Bool) (n : Nat) (hn : n <= 64) : Uk (iz (fun s i => bif c i then uor s (ushl 1 i) else s) 0 n) /\ ∀ m : Nat, bt (iz (fun s i => bif c i then uor s (ushl 1 i) else s) 0 n) m = (decide (m < n) && c m) := by
 induction n with
 | zero => exact ⟨uk_0, fun m => by simp [iz, bt_0]⟩
 | succ n ih =>
  obtain ⟨h1, h2⟩ := ih (by omega)
  simp only [iz]
  cases hc : c n with
  | false =>
   refine ⟨h1, fun m => ?_⟩
   rw [cond_false, h2]
   by_cases e : m = n
   ·subst e; simp [hc]
   ·congr 1
    simp; omega
  | true =>
   refine ⟨gQ _ _, fun m => ?_⟩
   rw [cond_true, fz h1 (iU _ _), jm (by omega) (by omega), h2]
   by_cases e : m = n
   ·subst e; simp [hc]
   ·have e2 : ¬ ((n : Int) = m) := by omega
    have e3 : decide (m < n) = decide (m < n + 1) := by congr 1; exact propext ⟨fun h => by omega, fun h => by omega⟩
    simp [e2, e3]
theorem wX {zs : List Int} {i : Nat} (h : i < zs.length) : zs.getD i 0 ∈ zs := by simp [List.getD, h]
theorem kX (p : Int -> Bool) {zs : List Int} (h : zs.length <= 64) : Uk (eS p zs) /\ ∀ m : Nat, bt (eS p zs) m = (decide (m < zs.length) && p (zs.getD m 0)) := by
 have := xS (fun i => p (zs.getD i.toNat 0)) zs.length h
 exact this
theorem nO {f r : Int} {zs : List Int} (h : az f r zs = true) (hl : zs.length <= 64) : Uk (occR f r zs) /\ ∀ m : Nat, bt (occR f r zs) m = (decide (m < zs.length) && !decide (zs.getD m 0 = 0)) := by
 obtain ⟨h1, h2⟩ := kX posP hl
 obtain ⟨h3, h4⟩ := kX negP hl
 unfold occR ew
 rw [h]
 refine ⟨gQ _ _, fun m => ?_⟩
 show bt (uor (eS posP zs) (eS negP zs)) m = _
 rw [fz h1 h3, h2, h4, <- Bool.and_or_distrib_left]
 congr 1
 unfold posP negP
 rw [Bool.eq_iff_iff]
 simp only [Bool.or_eq_true, decide_eq_true_eq, Bool.not_eq_true', decide_eq_false_iff_not]
 omega
theorem Ax {p : Int} : sgn p = 1 ↔ 0 < p := by have := jx p; omega
theorem AQ {p : Int} : sgn p = -1 ↔ p < 0 := by have := jx p; omega
theorem lW {f r : Int} {zs : List Int} (h : az f r zs = true) (hl : zs.length <= 64) : occL zs = occR f r zs := by
 obtain ⟨h1, h2⟩ := nO h hl
 have hb : ∀ x ∈ cz zs 1 ++ cz zs (-1), 0 <= x /\ x < 64 := by
  intro x hx
  rcases List.mem_append.1 hx with hx | hx <;> (have := gv.1 hx; omega)
 obtain ⟨h3, h4⟩ := tw _ 0 hb uk_0
 refine yy h3 h1 fun m hm => ?_
 show bt (ofL (cz zs 1 ++ cz zs (-1)) 0) m = _
 rw [h4, h2, bt_0, Bool.false_or, Bool.eq_iff_iff]
 simp only [decide_eq_true_eq, List.mem_append, gv, Ax, AQ, Int.toNat_natCast, Bool.and_eq_true, Bool.not_eq_true', decide_eq_false_iff_not]
 omega
theorem xu {f r : Int} {zs : List Int} (h : aL f r zs = true) (hl : zs.length <= 64) : OnS f r (occR f r zs) := fun m _ hb => by
 rw [(nO (aW h).2.2.1 hl).2, Bool.and_eq_true, decide_eq_true_eq] at hb
 exact (DB h).2 ⟨by omega, by omega⟩
theorem lI {f r : Int} {zs : List Int} (h : aL f r zs = true) {i : Int} (h0 : 0 <= i) (h1 : i < zs.length) : -6 <= zs.getD i.toNat 0 /\ zs.getD i.toNat 0 <= 6 := (aW h).2.2.2 _ (wX (by omega))
theorem jh {p : Int} (h : -6 <= p /\ p <= 6) : aP p = p.natAbs := by
 have hw : ∀ q : _root_.Fin 13, aP ((q.val : Int) - 6) = (((q.val : Int) - 6).natAbs : Int) := by decide +kernel
 have h2 := hw ⟨(p + 6).toNat, by omega⟩
 simp only at h2
 rwa [show (((p + 6).toNat : Int) - 6) = p by omega] at h2
theorem tf {f r kd a occ : Int} (ha : aj f r a = true) (hk : nr kd) : bF f r kd a a occ = false := by
 obtain ⟨e1, e2⟩ := gY ha ha
 have hl : (bg f a a).2.2 = false := by
  rcases sH ha ha with ⟨e, _⟩ | ⟨_, h⟩
  ·rw [e]
  ·unfold kj at h; omega
 have hd : nX f a a = 0 := by rw [Gg ha ha, show px f a - px f a = 0 by omega, show py f a - py f a = 0 by omega]; rfl
 unfold bF
 rw [e1, e2, hl, hd, show px f a - px f a = 0 by omega, show py f a - py f a = 0 by omega]
 rcases hk with rfl | rfl | rfl | rfl | rfl <;> rfl
theorem KC {f r : Int} {zs : List Int} {occ : Int} (h : aL f r zs = true) (hu : Uk occ) (hon : OnS f r occ) {i : Int} (h0 : 0 <= i) (h1 : i < zs.length) (hp : zs.getD i.toNat 0 ≠ 0) :
  Uk (ofR f r zs i occ) /\ OnS f r (ofR f r zs i occ) /\ ∀ b, aj f r b = true -> bt (ofR f r zs i occ) b.toNat = uQ f r zs i b occ := by
 have hi := (DB h).2 ⟨h0, h1⟩
 have hb := lI h h0 h1
 obtain ⟨hv, hn, _⟩ := aW h
 unfold ofR uQ
 rw [Em hb, jh hb]
 by_cases hk : zs.getD i.toNat 0 = 1 \/ zs.getD i.toNat 0 = -1
 ·rw [show (decide (zs.getD i.toNat 0 = 1) || decide (zs.getD i.toNat 0 = -1)) = true by simpa using hk, show decide (((zs.getD i.toNat 0).natAbs : Int) = 1) = true by rw [decide_eq_true_eq]; omega, cond_true]
  obtain ⟨_, p1, p2, p3⟩ := vo (bl := decide (zs.getD i.toNat 0 < 0)) hi
  refine ⟨p1, p2, fun b hbv => ?_⟩
  rw [p3 b hbv, cond_true, Bool.eq_iff_iff, nG, ei]
  have := aJ hbv
  exact ⟨fun h => ⟨this.1, by omega, h⟩, fun h => h.2.2⟩
 ·have hk' : (decide (zs.getD i.toNat 0 = 1) || decide (zs.getD i.toNat 0 = -1)) = false := by simpa using hk
  rw [hk', show decide (((zs.getD i.toNat 0).natAbs : Int) = 1) = false by rw [decide_eq_false_iff_not]; omega, cond_false]
  have hr := (iG hu).2 ⟨hi, hon⟩
  have h5 : nr ((zs.getD i.toNat 0).natAbs : Int) := by unfold nr; omega
  obtain ⟨p1, p2, p3⟩ := qC hr hu h5
  refine ⟨p1, p2, fun b hbv => ?_⟩
  show bt (oM f r _ i occ) b.toNat = _
  rw [p3 b hbv, cond_false]
  by_cases e : i = b
  ·subst e; rw [tf hi h5]; simp
  ·simp [e]
theorem uV (p : Int) (bl : Bool) : isP p bl = decide (sgn p = sdI bl) := by
 unfold isP sdI
 rw [Bool.eq_iff_iff]
 cases bl <;> simp [Ax, AQ]
theorem xk {p : Int} {bl : Bool} (h : isP p bl = true) : p ≠ 0 := by
 rintro rfl; cases bl <;> cases h
theorem qf {f r : Int} {zs : List Int} {to : Int} {bl : Bool} {i : Int} : i ∈ attL f r zs to bl ↔ 0 <= i /\ i < zs.length /\ isP (zs.getD i.toNat 0) bl = true /\ uQ f r zs i to (occL zs) = true := by
 unfold attL
 rw [List.mem_filter, gv, uV, decide_eq_true_eq]
 simp only [zJ, and_assoc]
theorem Dc {f r : Int} {zs : List Int} {to : Int} {bl : Bool} (h : aL f r zs = true) (hl : zs.length <= 64) (ht : aj f r to = true) {i : Int} (h0 : 0 <= i) (h1 : i < zs.length) : attB f r zs to bl (occR f r zs) i = true ↔ i ∈ attL f r zs to bl := by
 rw [qf]
 unfold attB
 rw [Bool.and_eq_true]
 have ho := nO (aW h).2.2.1 hl
 have hv := aJ ht
 constructor
 ·rintro ⟨h2, h3⟩
  obtain ⟨p1, p2, p3⟩ := KC h ho.1 (xu h hl) h0 h1 (xk h2)
  rw [oS p1 hv.1 hv.2.2, p3 to ht, <- lW (aW h).2.2.1 hl] at h3
  exact ⟨h0, h1, h2, h3⟩
 ·rintro ⟨_, _, h2, h3⟩
  obtain ⟨p1, p2, p3⟩ := KC h ho.1 (xu h hl) h0 h1 (xk h2)
  rw [oS p1 hv.1 hv.2.2, p3 to ht, <- lW (aW h).2.2.1 hl]
  exact ⟨h2, h3⟩
theorem Im {f r : Int} {zs : List Int} {to : Int} {bl : Bool} (h : aL f r zs = true) (hl : zs.length <= 64) (ht : aj f r to = true) : Uk (attR f r zs to bl) /\ ∀ m : Nat, bt (attR f r zs to bl) m = decide ((m : Int) ∈ attL f r zs to bl) := by
 obtain ⟨h1, h2⟩ := xS (attB f r zs to bl (occR f r zs)) zs.length hl
 refine ⟨h1, fun m => ?_⟩
 show bt (iz (fun s i => bif attB f r zs to bl (occR f r zs) i then uor s (ushl 1 i) else s) 0 zs.length) m = _
 rw [h2, Bool.eq_iff_iff, Bool.and_eq_true, decide_eq_true_eq, decide_eq_true_eq]
 constructor
 ·rintro ⟨h3, h4⟩; exact (Dc h hl ht (by omega) (by omega)).1 h4
 ·intro h3
  have := qf.1 h3
  exact ⟨by omega, (Dc h hl ht (by omega) (by omega)).2 h3⟩
end Go.Ab
namespace Go.Ab
open Go.Proofs Go.RowKit
section
variable {kDb : Bool}
theorem sg {E : Env} {P : Program} {N : Nat} {tm : Tm} {hp : List O} {n : Nat} {B : Nat} {w0 : World} {S : Nat} {D : List Deferred} {gs : List (Nat × Obj)} {ρ : Ren} {a : Act} {w : World} (hE : E.Fn P) (m : Nat) {id : Nat} {ops : Array Oper} (hq : ops.toList.all (fun o => jS o.op) = true) {Q2 : Tm -> List O -> Prop} {K : Act -> World -> Prop}
  (hs : sat E.G P (fun _ tm hp => Q2 tm hp) (cG E (hdl E m) N ops.toList ops.toList tm hp (.ret .normal) noX)) (h : Rel E.G B w0 S N D gs ρ tm hp a w) (hd : a.defers = D)
  (hK : ∀ a' w' tm' hp' ρ', Rel E.G B w0 S N D gs ρ' tm' hp' a' w' -> a'.defers = D -> ρ.le ρ' -> Q2 tm' hp' -> K a' w') : (Code.region id ops false).wpIn (Fr none) n P (fun e a' w' => e = .normal /\ K a' w') a w := by
 refine wpIn_region ?_
 have h1 := fk (n := n) (ro := none) (ρ0 := ρ) (tl := []) (suf := []) (Qx := fun e a' w' => e = .normal /\ ∃ tm1 hp1 ρ1, Rel E.G B w0 S N D gs ρ1 tm1 hp1 a' w' /\ ρ.le ρ1 /\ Q2 tm1 hp1) hE.ok (dS hE) (cq hE m) (ops := ops)
  (fun a' w' ⟨tm1, hp1, ρ1, r1, r2, r3⟩ => ⟨rfl, tm1, hp1, ρ1, r1, r2, r3⟩) (fun e a2 w2 ⟨_, _, _, _, _, q⟩ => q.elim) ops.toList [] tm hp ρ a w (by simp) hs h (Ren.le_refl ρ)
 rw [List.append_nil, List.length_nil, Array.length_toList, <- List.range_eq_range'] at h1
 rw [<- List.append_nil (List.range ops.size)]
 refine gk (fun e a w he hq => absurd hq.1 he) _ a w (fun i _ o ho => ?_) h1 ?_
 ·rw [<- Array.getElem?_toList] at ho
  exact List.all_eq_true.1 hq o (List.mem_of_getElem? ho)
 ·rintro a1 w1 hd1 ⟨_, tm1, hp1, ρ1, r1, r2, r3⟩
  exact ⟨rfl, hK a1 w1 tm1 hp1 ρ1 r1 (hd1.trans hd) r2 r3⟩
abbrev Gj (a b : Int) : Int := band .andNot .u8 a b
def epB (zs : List Int) (pa a b : Int) : Bool := decide (absP (zs.getD a.toNat 0) = 1) && decide (b = pa)
def at1R (f : Int) (zs : List Int) (pa a b : Int) : Int := bif epB zs pa a b then IntKind.i64.wrap (IntKind.i64.wrap (a - a.tmod f) + b.tmod f) else b
def capR (f : Int) (zs : List Int) (pa a b : Int) : Int := zs.getD (at1R f zs pa a b).toNat 0
def at2R (f : Int) (zs : List Int) (pa a b : Int) : Int := bif decide (capR f zs pa a b = 0) then -1 else at1R f zs pa a b
def zs1R (f : Int) (zs : List Int) (pa a b : Int) : List Int := bif decide (0 <= at2R f zs pa a b) then zs.set (at2R f zs pa a b).toNat 0 else zs
def zs2R (f : Int) (zs : List Int) (pa a b : Int) : List Int := ((zs1R f zs pa a b).set a.toNat 0).set b.toNat (zs.getD a.toNat 0)
def cstR (f r : Int) (zs : List Int) (bl : Bool) (ca pa a b pr : Int) : Bool := wayB f r zs (wayN zs bl ca a b) && !gS f r zs bl pa a b pr
def putR (l : List Int) (bl : Bool) (b pr : Int) (c : Bool) (n : Nat) : List Int := bif !decide (pr = 0) && bl then l.set b.toNat (w8 (0 - pr)) else bif !decide (pr = 0) then l.set b.toNat pr else bif c then (l.set (wCro n).toNat (l.getD (wCor n).toNat 0)).set (wCor n).toNat 0 else l
def zs3R (f r : Int) (zs : List Int) (bl : Bool) (ca pa a b pr : Int) : List Int := putR (zs2R f zs pa a b) bl b pr (cstR f r zs bl ca pa a b pr) (wayN zs bl ca a b)
def caR (ca a b : Int) : Int := Gj ca (u8or (EJ a) (EJ b))
def twoB (f : Int) (zs : List Int) (a b : Int) : Bool := decide (absP (zs.getD a.toNat 0) = 1) && (decide (IntKind.i64.wrap (b - a) = IntKind.i64.wrap (2 * f)) || decide (IntKind.i64.wrap (b - a) = IntKind.i64.wrap (-2 * f)))
def paR (f : Int) (zs : List Int) (a b : Int) : Int := bif twoB f zs a b then IntKind.i64.wrap (a + IntKind.i64.wrap ((IntKind.i64.wrap (b - a)).tdiv 2)) else -1
def haR (f : Int) (zs : List Int) (pa ha a b : Int) : Int := bif decide (absP (zs.getD a.toNat 0) = 1) || !decide (capR f zs pa a b = 0) then 0 else IntKind.i64.wrap (ha + 1)
def fuR (bl : Bool) (fu : Int) : Int := bif bl then IntKind.i64.wrap (fu + 1) else fu
def err1 (p : Psn) (m : Mov) : Bool := !p.ok || !mvB p.f p.r m.a m.b m.p
def err3 (p : Psn) (m : Mov) : Bool := isP (p.zs.getD m.b.toNat 0) p.bl || (!gS p.f p.r p.zs p.bl p.pa m.a m.b m.p && (!wayB p.f p.r p.zs (wayN p.zs p.bl p.ca m.a m.b) || !decide (m.p = 0)))
def err4 (p : Psn) (m : Mov) : Bool := chkB p.f p.r (zs3R p.f p.r p.zs p.bl p.ca p.pa m.a m.b m.p) p.bl || (cstR p.f p.r p.zs p.bl p.ca p.pa m.a m.b m.p && (chkB p.f p.r p.zs p.bl || !decide ((cV p.f p.r p.zs (wCro (wayN p.zs p.bl p.ca m.a m.b)) (!p.bl)).1 = 0)))
def err5 (p : Psn) (m : Mov) : Bool := decide (10000 < haR p.f p.zs p.pa p.ha m.a m.b) || decide (10000 < fuR p.bl p.fu)
def mkE5 (p : Psn) (m : Mov) : Int := bif err1 p m then 2 else bif !isP (p.zs.getD m.a.toNat 0) p.bl then 9 else bif err3 p m then 10 else bif err4 p m then 90 else bif err5 p m then 7 else 0
def mkP (p : Psn) (m : Mov) : Psn := bif decide (mkE5 p m = 0) then ⟨p.f, p.r, zs3R p.f p.r p.zs p.bl p.ca p.pa m.a m.b m.p, !p.bl, caR p.ca m.a m.b, paR p.f p.zs m.a m.b, haR p.f p.zs p.pa p.ha m.a m.b, fuR p.bl p.fu⟩ else ⟨0, 0, [], false, 0, 0, 0, 0⟩
def mkU (p : Psn) (m : Mov) : Und := bif decide (mkE5 p m = 0) then ⟨m, capR p.f p.zs p.pa m.a m.b, at2R p.f p.zs p.pa m.a m.b, p.ca, p.pa, p.ha, p.fu⟩ else ⟨⟨0, 0, 0⟩, 0, 0, 0, 0, 0, 0⟩
abbrev psV (b : Nat) (p : Psn) : V := .agg [I p.f, I p.r, .sl b 0 p.zs.length none, Bb p.bl, .int .u8 p.ca, I p.pa, I p.ha, I p.fu]
abbrev unV (u : Und) : V := .agg [I u.m.a, I u.m.b, .int .i8 u.m.p, .int .i8 u.c, I u.at_, .int .u8 u.ca, I u.pa, I u.ha, I u.fu]
theorem Kw : ∀ a b v, pY 31 a = some (b, v) -> jQ PP 107 a b v := by
 intro a b v h
 unfold pY at h
 split at h
 ·cases h; exact Df _ _ _
 ·cases h
def fI : Code -> Code
 | .seq _ y => y
 | c => c
noncomputable abbrev EM (kDb : Bool) : Env := { mkEP tyT (GGx true kDb) [(40, gz), (56, qi), (108, c_is), (111, tQ), (109, ig), (110, uX), (58, qG), (112, uw), (113, hY), (114, Dn)] [] [(107, pY 31)] with cut := true }
theorem rY {kDb : Bool} : (EM kDb).Fn PP := cutE (Ic CP tyOk ⟨fM, wh, Ho, mm, nW, zP, oz, za, nQ, Ag, trivial⟩ trivial ⟨Kw, trivial⟩)
theorem Ka {kDb : Bool} {zs : List Int} {B1 B2 : O} (n : Int) (hn : (!decide (n = 0)) = true) (o1 o2 o3 o4 o5 o6 o7 o8 u1 u2 u3 u4 u5 u6 u7 u8 u9 : V) :
  Lv (EM kDb) PP (fun tm hp => FinL (EM kDb) Tryz.f60 1 (.tup [psV 1 ⟨0, 0, [], false, 0, 0, 0, 0⟩, unV ⟨⟨0, 0, 0⟩, 0, 0, 0, 0, 0, 0⟩, I n]) [.ints true .i8 []] .ret tm hp) [⟨106, [], [.ptr 5 0 0]⟩, ⟨105, [.ptr 5 0 0, .ptr 3 0 0, .ptr 4 0 0], []⟩]
   (.panicking [{ v := .iface 31 (.int .i64 n), recovered := false }]) [(4, .ptr 3 0 0), (5, .ptr 4 0 0), (6, .ptr 5 0 0)] [.ints false .i8 zs, B1, B2, .cells true [o1, o2, o3, o4, o5, o6, o7, o8], .cells true [u1, u2, u3, u4, u5, u6, u7, u8, u9], .cells true [I 0]] := by
 have hE := rY (kDb := kDb)
 refine ⟨by simp, _, _, jf (kCa := true) (kDb := kDb) (b := 5) (v0 := I 0) rfl, ?_⟩
 rintro _ rfl
 refine ⟨by simp [Go.settle], _, fun hp' => hp' = [.ints false .i8 zs, B1, B2, .cells true [I 0, I 0, .nils, .lit false, .int .u8 0, I 0, I 0, I 0], .cells true [I 0, I 0, .int .i8 0, .int .i8 0, I 0, .int .u8 0, I 0, I 0, I 0], .cells true [I n]], uU hE 2 Tryz.func105 (by kernel_rfl) rfl rfl ?_, ?_⟩
 ·refine bq hE 2 rfl (fun _ => ?_) (fun h => absurd (hn.symm.trans h) (by simp))
  exact ag ⟨.inl rfl, [], rfl, rfl⟩
 ·rintro _ rfl
  refine ⟨rfl, ?_⟩
  refine FY (Ent.phan (b := 3) (j := 2) (ww := true) (o := .ints true .i8 []) rfl rfl ⟨by simp, by simp, trivial, rfl⟩ (aI rfl)) (bN 6 (.inr rfl) rfl rfl rfl rfl rfl rfl) (fun _ _ h => h)
theorem Hs {kDb : Bool} {zs : List Int} {B1 B2 : O} (lx : List Int) (n : Int) (hn : (!decide (n = 0)) = true) (o1 o2 o3 o4 o5 o6 o7 o8 u1 u2 u3 u4 u5 u6 u7 u8 u9 : V) :
  Lv (EM kDb) PP (fun tm hp => FinL (EM kDb) Tryz.f60 1 (.tup [psV 1 ⟨0, 0, [], false, 0, 0, 0, 0⟩, unV ⟨⟨0, 0, 0⟩, 0, 0, 0, 0, 0, 0⟩, I n]) [.ints true .i8 []] .ret tm hp) [⟨106, [], [.ptr 5 0 0]⟩, ⟨105, [.ptr 5 0 0, .ptr 3 0 0, .ptr 4 0 0], []⟩]
   (.panicking [{ v := .iface 31 (.int .i64 n), recovered := false }]) [(4, .ptr 3 0 0), (5, .ptr 4 0 0), (6, .ptr 5 0 0)] [.ints false .i8 zs, B1, B2, .cells true [o1, o2, o3, o4, o5, o6, o7, o8], .cells true [u1, u2, u3, u4, u5, u6, u7, u8, u9], .cells true [I 0], .ints true .i8 lx] := by
 have hE := rY (kDb := kDb)
 refine ⟨by simp, _, _, jf (kCa := true) (kDb := kDb) (b := 5) (v0 := I 0) rfl, ?_⟩
 rintro _ rfl
 refine ⟨by simp [Go.settle], _, fun hp' => hp' = [.ints false .i8 zs, B1, B2, .cells true [I 0, I 0, .nils, .lit false, .int .u8 0, I 0, I 0, I 0], .cells true [I 0, I 0, .int .i8 0, .int .i8 0, I 0, .int .u8 0, I 0, I 0, I 0], .cells true [I n], .ints true .i8 lx], uU hE 2 Tryz.func105 (by kernel_rfl) rfl rfl ?_, ?_⟩
 ·refine bq hE 2 rfl (fun _ => ?_) (fun h => absurd (hn.symm.trans h) (by simp))
  exact ag ⟨.inl rfl, [], rfl, rfl⟩
 ·rintro _ rfl
  refine ⟨rfl, ?_⟩
  refine FY (Ent.phan (b := 3) (j := 2) (ww := true) (o := .ints true .i8 []) rfl rfl ⟨by simp, by simp, trivial, rfl⟩ (aI rfl)) (bN 7 (.inr rfl) rfl rfl rfl rfl rfl rfl) (fun _ _ h => h)
theorem Kg {kDb : Bool} {zs : List Int} {B1 B2 : O} (q : Psn) (x : Und) (hq : q.zs.length = zs.length) :
  Lv (EM kDb) PP (fun tm hp => FinL (EM kDb) Tryz.f60 1 (.tup [psV 1 q, unV x, I 0]) [.ints true .i8 q.zs] .ret tm hp) [⟨106, [], [.ptr 5 0 0]⟩, ⟨105, [.ptr 5 0 0, .ptr 3 0 0, .ptr 4 0 0], []⟩]
   .returning [(4, .ptr 3 0 0), (5, .ptr 4 0 0), (6, .ptr 5 0 0)] [.ints false .i8 zs, B1, B2, .cells true [I q.f, I q.r, .sl 6 0 zs.length none, Bb q.bl, .int .u8 q.ca, I q.pa, I q.ha, I q.fu], .cells true [I x.m.a, I x.m.b, .int .i8 x.m.p, .int .i8 x.c, I x.at_, .int .u8 x.ca, I x.pa, I x.ha, I x.fu], .cells true [I 0], .ints true .i8 q.zs] := by
 have hE := rY (kDb := kDb)
 refine ⟨by simp, _, _, rK (kCa := true) (kDb := kDb) 5 _ 0, ?_⟩
 rintro _ rfl
 refine ⟨by simp [Go.settle], _, fun hp' => hp' = [.ints false .i8 zs, B1, B2, .cells true [I q.f, I q.r, .sl 6 0 zs.length none, Bb q.bl, .int .u8 q.ca, I q.pa, I q.ha, I q.fu], .cells true [I x.m.a, I x.m.b, .int .i8 x.m.p, .int .i8 x.c, I x.at_, .int .u8 x.ca, I x.pa, I x.ha, I x.fu], .cells true [I 0], .ints true .i8 q.zs], uU hE 2 Tryz.func105 (by kernel_rfl) rfl rfl ?_, ?_⟩
 ·refine bq hE 2 rfl (fun h => absurd h (by simp)) (fun _ => ?_)
  exact ag ⟨.inl rfl, [], rfl, rfl⟩
 ·rintro _ rfl
  refine ⟨rfl, ?_⟩
  rw [<- hq]
  exact GO (bN 6 (.inr rfl) rfl rfl rfl rfl rfl rfl)
theorem Gp {p : Psn} {m : Mov} {n : Int} (h : mkE5 p m = n) (hn : (!decide (n = 0)) = true) : mkP p m = ⟨0, 0, [], false, 0, 0, 0, 0⟩ /\ mkU p m = ⟨⟨0, 0, 0⟩, 0, 0, 0, 0, 0, 0⟩ := by
 have h0 : decide (mkE5 p m = 0) = false := by rw [h]; simpa using hn
 exact ⟨by rw [mkP, h0]; rfl, by rw [mkU, h0]; rfl⟩
theorem pq {kDb : Bool} {zs : List Int} {B1 B2 : O} {p : Psn} {m : Mov} {n : Int} {tm : Tm} {hp : List O} {o1 o2 o3 o4 o5 o6 o7 o8 u1 u2 u3 u4 u5 u6 u7 u8 u9 : V} (he : mkE5 p m = n) (hn : (!decide (n = 0)) = true) (hent : Ent (GGx true kDb) 6 tm hp [(4, .ptr 3 0 0), (5, .ptr 4 0 0), (6, .ptr 5 0 0)] [.ints false .i8 zs, B1, B2, .cells true [o1, o2, o3, o4, o5, o6, o7, o8], .cells true [u1, u2, u3, u4, u5, u6, u7, u8, u9], .cells true [I 0]]) :
  DH (EM kDb) PP Tryz.f60 6 1 (.tup [psV 1 (mkP p m), unV (mkU p m), I (mkE5 p m)]) [.ints true .i8 (mkP p m).zs] [⟨106, [], [.ptr 5 0 0]⟩, ⟨105, [.ptr 5 0 0, .ptr 3 0 0, .ptr 4 0 0], []⟩] (.panic [{ v := .iface 31 (.int .i64 n), recovered := false }]) tm hp := by
 obtain ⟨h1, h2⟩ := Gp he hn
 rw [h1, h2, he]
 exact ⟨_, _, _, rfl, hent, Ka n hn o1 o2 o3 o4 o5 o6 o7 o8 u1 u2 u3 u4 u5 u6 u7 u8 u9⟩
theorem rI {kDb : Bool} {zs : List Int} {B1 B2 : O} {lx : List Int} {p : Psn} {m : Mov} {n : Int} {tm : Tm} {hp : List O} {o1 o2 o3 o4 o5 o6 o7 o8 u1 u2 u3 u4 u5 u6 u7 u8 u9 : V} (he : mkE5 p m = n) (hn : (!decide (n = 0)) = true) (hent : Ent (GGx true kDb) 6 tm hp [(4, .ptr 3 0 0), (5, .ptr 4 0 0), (6, .ptr 5 0 0)] [.ints false .i8 zs, B1, B2, .cells true [o1, o2, o3, o4, o5, o6, o7, o8], .cells true [u1, u2, u3, u4, u5, u6, u7, u8, u9], .cells true [I 0], .ints true .i8 lx]) :
  DH (EM kDb) PP Tryz.f60 6 1 (.tup [psV 1 (mkP p m), unV (mkU p m), I (mkE5 p m)]) [.ints true .i8 (mkP p m).zs] [⟨106, [], [.ptr 5 0 0]⟩, ⟨105, [.ptr 5 0 0, .ptr 3 0 0, .ptr 4 0 0], []⟩] (.panic [{ v := .iface 31 (.int .i64 n), recovered := false }]) tm hp := by
 obtain ⟨h1, h2⟩ := Gp he hn
 rw [h1, h2, he]
 exact ⟨_, _, _, rfl, hent, Hs lx n hn o1 o2 o3 o4 o5 o6 o7 o8 u1 u2 u3 u4 u5 u6 u7 u8 u9⟩
theorem EA {kDb : Bool} {zs : List Int} {B1 B2 : O} {p : Psn} {m : Mov} {q : Psn} {x : Und} {tm : Tm} {hp : List O} (he : mkE5 p m = 0) (h1 : mkP p m = q) (h2 : mkU p m = x) (hq : q.zs.length = zs.length) (hent : Ent (GGx true kDb) 6 tm hp [(4, .ptr 3 0 0), (5, .ptr 4 0 0), (6, .ptr 5 0 0)] [.ints false .i8 zs, B1, B2, .cells true [I q.f, I q.r, .sl 6 0 zs.length none, Bb q.bl, .int .u8 q.ca, I q.pa, I q.ha, I q.fu], .cells true [I x.m.a, I x.m.b, .int .i8 x.m.p, .int .i8 x.c, I x.at_, .int .u8 x.ca, I x.pa, I x.ha, I x.fu], .cells true [I 0], .ints true .i8 q.zs]) :
  DH (EM kDb) PP Tryz.f60 6 1 (.tup [psV 1 (mkP p m), unV (mkU p m), I (mkE5 p m)]) [.ints true .i8 (mkP p m).zs] [⟨106, [], [.ptr 5 0 0]⟩, ⟨105, [.ptr 5 0 0, .ptr 3 0 0, .ptr 4 0 0], []⟩] .ret tm hp := by
 rw [h1, h2, he]
 exact ⟨_, _, _, rfl, hent, Kg q x hq⟩
theorem cB {zs : List Int} (h : zs.length <= 64) {n : Nat} (hn : n = zs.length) {g b : Bool} (hb : b = true) : (!g || (decide (n = (tk zs).length) && decide ((tk zs).length <= 64) && b)) = true := by
 rw [aF h hn hb]; simp
theorem KT {p : Psn} (h : p.ok = true) : az p.f p.r p.zs = true /\ eI p.f p.r p.zs p.ca = true := by
 simp only [Psn.ok, Bool.and_eq_true] at h
 exact ⟨h.1.1.1.1.1, h.1.1.2⟩
theorem Ld {f r a b p : Int} (h : mvB f r a b p = true) : aj f r a = true /\ aj f r b = true := by
 simp only [mvB, Bool.and_eq_true] at h
 exact ⟨h.1.1.1, h.1.1.2⟩
theorem JT {f r a b : Int} (ha : aj f r a = true) (hb : aj f r b = true) : aj f r (IntKind.i64.wrap (IntKind.i64.wrap (a - a.tmod f) + b.tmod f)) = true /\ IntKind.i64.wrap (IntKind.i64.wrap (a - a.tmod f) + b.tmod f) = px f b + py f a * f := by
 obtain ⟨_, a1, a2, a3, a4, a5, a6, a7, a8, a9⟩ := eF ha
 obtain ⟨_, b1, b2, b3, b4, b5, _⟩ := eF hb
 have h1 := aJ ha
 have h2 := aJ hb
 have hv := gJ (X := px f b) (Y := py f a) (bE ha) (jo b1 b2 a3 a4)
 have h3 := aJ hv.1
 have e1 : IntKind.i64.wrap (a - a.tmod f) = py f a * f := by
  have : a - a.tmod f = py f a * f := by have : a.tmod f = px f a := rfl; omega
  rw [this]; exact aB (by omega) (by omega)
 have e2 : IntKind.i64.wrap (IntKind.i64.wrap (a - a.tmod f) + b.tmod f) = px f b + py f a * f := by
  rw [e1, show py f a * f + b.tmod f = px f b + py f a * f by have : b.tmod f = px f b := rfl; omega]
  exact aB (by omega) (by omega)
 exact ⟨by rw [e2]; exact hv.1, e2⟩
theorem JJ {f r : Int} {zs : List Int} {pa a b : Int} (ha : aj f r a = true) (hb : aj f r b = true) : aj f r (at1R f zs pa a b) = true := by
 unfold at1R
 cases epB zs pa a b
 ·exact hb
 ·exact (JT ha hb).1
theorem Kn {f r : Int} {zs : List Int} {pa a b : Int} (hbd : az f r zs = true) (ha : aj f r a = true) (hb : aj f r b = true) (h0 : 0 <= at2R f zs pa a b) : at2R f zs pa a b < zs.length := by
 unfold at2R at h0 ⊢
 cases h : decide (capR f zs pa a b = 0) with
 | true => rw [h] at h0; simp at h0
 | false => exact ((bL hbd).1 (JJ ha hb)).2
theorem Ar {f : Int} {zs : List Int} {pa a b : Int} : (zs1R f zs pa a b).length = zs.length := by
 unfold zs1R; cases decide (0 <= at2R f zs pa a b) <;> simp
theorem Bx {f : Int} {zs : List Int} {pa a b : Int} : (zs2R f zs pa a b).length = zs.length := by
 simp [zs2R, Ar]
theorem HF {l : List Int} {bl : Bool} {b pr : Int} {c : Bool} {n : Nat} : (putR l bl b pr c n).length = l.length := by
 unfold putR
 cases (!decide (pr = 0) && bl) <;> cases (!decide (pr = 0)) <;> cases c <;> simp
theorem vr {f r : Int} {zs : List Int} {bl : Bool} {ca pa a b pr : Int} : (zs3R f r zs bl ca pa a b pr).length = zs.length := by
 rw [zs3R, HF, Bx]
theorem kV {l : List Int} {n : Nat} (h1 : n = l.length) (h2 : n <= 64) : (decide (n = ((l.drop 0).take n).length) && decide (((l.drop 0).take n).length <= 64)) = true := by
 subst h1; simp [h2]
theorem mS {l : List Int} {n : Nat} {g : Bool} (h1 : n = l.length) (h2 : n <= 64) : (!g || (decide (n = ((l.drop 0).take n).length) && decide (((l.drop 0).take n).length <= 64))) = true := by
 rw [kV h1 h2]; simp
theorem Ev {zs : List Int} {b : Int} (h : 0 <= b) (h1 : b < zs.length) : (decide (0 <= b) && decide (b < (tk zs).length)) = true := by rw [aC]; simp [h, h1]
theorem tk_n {l : List Int} {n : Nat} (h1 : n = l.length) : (l.drop 0).take n = l := by subst h1; simp
theorem mg {f r : Int} {zs : List Int} {bl : Bool} {ca a b : Int} (hbd : az f r zs = true) (hc : eI f r zs ca = true) (hn : ¬ wayN zs bl ca a b = 4) : is88 f r = true /\ zs.length = 64 /\ 0 <= wCor (wayN zs bl ca a b) /\ wCor (wayN zs bl ca a b) < 64 /\ 0 <= wCro (wayN zs bl ca a b) /\ wCro (wayN zs bl ca a b) < 64 := by
 have key : is88 f r = true := by
  unfold wayN at hn
  simp only [eI, rtX, Bool.and_eq_true, Bool.not_eq_true'] at hc
  obtain ⟨⟨⟨⟨c1, c2⟩, c3⟩, c4⟩, _⟩ := hc
  cases hk : (!decide (absP (zs.getD a.toNat 0) = 6)) with
  | true => rw [hk] at hn; exact absurd rfl hn
  | false =>
   rw [hk, cond_false] at hn
   have go : ∀ {bit : Int} {c : Bool} {k to : Int} {X Y : Bool}, aO bl ca a b c bit k to = false -> ((!decide (eV ca bit = 0)) && ((!is88 f r || X) || Y)) = false -> is88 f r = true := by
    intro bit c k to X Y h1 h2
    simp only [aO, Bool.or_eq_false_iff] at h1
    rw [h1.1.1.2] at h2
    cases h8 : is88 f r with
    | true => rfl
    | false => rw [h8] at h2; simp at h2
   cases h1 : aO bl ca a b false 1 4 6 with
   | false => exact go h1 c1
   | true =>
    rw [h1] at hn
    cases h2 : aO bl ca a b false 2 4 2 with
    | false => exact go h2 c2
    | true =>
     rw [h2] at hn
     cases h3 : aO bl ca a b true 4 60 62 with
     | false => exact go h3 c3
     | true =>
      rw [h3] at hn
      cases h4 : aO bl ca a b true 8 60 58 with
      | false => exact go h4 c4
      | true => rw [h4] at hn; exact absurd rfl hn
 have h4 : wayN zs bl ca a b <= 4 := by
  unfold wayN
  cases (!decide (absP (zs.getD a.toNat 0) = 6)) <;> cases (!aO bl ca a b false 1 4 6) <;> cases (!aO bl ca a b false 2 4 2) <;> cases (!aO bl ca a b true 4 60 62) <;> cases (!aO bl ca a b true 8 60 58) <;> simp
 refine ⟨key, tR hbd key, ?_⟩
 generalize wayN zs bl ca a b = n at h4 hn ⊢
 have : n = 0 \/ n = 1 \/ n = 2 \/ n = 3 := by omega
 rcases this with rfl | rfl | rfl | rfl <;> decide
theorem FR {kDb : Bool} {f r : Int} {zs : List Int} {bl : Bool} {ca pa ha fu a b pr : Int} (hc2 : zs.length <= 64) : aM (GGx true kDb) PP 60 [.agg [I f, I r, .sl 0 0 zs.length none, Bb bl, .int .u8 ca, I pa, I ha, I fu], .agg [I a, I b, .int .i8 pr]] [.ints false .i8 zs] (.tup [psV 1 (mkP ⟨f, r, zs, bl, ca, pa, ha, fu⟩ ⟨a, b, pr⟩), unV (mkU ⟨f, r, zs, bl, ca, pa, ha, fu⟩ ⟨a, b, pr⟩), I (mkE5 ⟨f, r, zs, bl, ca, pa, ha, fu⟩ ⟨a, b, pr⟩)]) [.ints true .i8 (mkP ⟨f, r, zs, bl, ca, pa, ha, fu⟩ ⟨a, b, pr⟩).zs] := by
 refine zC (rest := fI (fI (fI (Tryz.f60.body.getD .skip)))) (rY (kDb := kDb)) 2 Tryz.func60 rfl rfl [⟨106, [], [.ptr 5 0 0]⟩, ⟨105, [.ptr 5 0 0, .ptr 3 0 0, .ptr 4 0 0], []⟩] (Q1 := fun tm hp => tm = (13, .fn 105 [.ptr 5 0 0, .ptr 3 0 0, .ptr 4 0 0]) :: [(6, .ptr 5 0 0), (5, .ptr 4 0 0), (4, .ptr 3 0 0), (3, .ptr 2 0 0), (2, .ptr 1 0 0), (0, .agg [I f, I r, .sl 0 0 zs.length none, Bb bl, .int .u8 ca, I pa, I ha, I fu]), (1, .agg [I a, I b, .int .i8 pr])] /\ hp = [.ints false .i8 zs, .cells true [I f, I r, .sl 0 0 zs.length none, Bb bl, .int .u8 ca, I pa, I ha, I fu], .cells true [I a, I b, .int .i8 pr], .cells true [I 0, I 0, .nils, .lit false, .int .u8 0, I 0, I 0, I 0], .cells true [I 0, I 0, .int .i8 0, .int .i8 0, I 0, .int .u8 0, I 0, I 0, I 0], .cells true [I 0]]) ?_ ?_
 ·intro B w0 S ρ aa w k Q hrel hd hrest
  refine wpIn_seq (wpIn_mono (sg (K := (fI (Tryz.f60.body.getD .skip)).wpIn (Fr none) k PP Q) rY 2 rfl (Q2 := fun tm hp => tm = [(6, .ptr 5 0 0), (5, .ptr 4 0 0), (4, .ptr 3 0 0), (3, .ptr 2 0 0), (2, .ptr 1 0 0), (0, .agg [I f, I r, .sl 0 0 zs.length none, Bb bl, .int .u8 ca, I pa, I ha, I fu]), (1, .agg [I a, I b, .int .i8 pr])] /\ hp = [.ints false .i8 zs, .cells true [I f, I r, .sl 0 0 zs.length none, Bb bl, .int .u8 ca, I pa, I ha, I fu], .cells true [I a, I b, .int .i8 pr], .cells true [I 0, I 0, .nils, .lit false, .int .u8 0, I 0, I 0, I 0], .cells true [I 0, I 0, .int .i8 0, .int .i8 0, I 0, .int .u8 0, I 0, I 0, I 0], .cells true [I 0]]) (ag ⟨rfl, rfl⟩) hrel hd ?_) ?_)
  rotate_left
  ·rintro e a' w' ⟨rfl, h⟩; exact h
  rintro a1 w1 tm1 hp1 ρ1 r1 hd1 l1 ⟨rfl, rfl⟩
  refine wpIn_seq (wpIn_mono (oT (K := (fI (fI (Tryz.f60.body.getD .skip))).wpIn (Fr none) k PP Q) rY 2 [_] _ [] rfl rfl rfl rfl rfl rfl (f := 105) (caps := [.ptr 5 0 0, .ptr 3 0 0, .ptr 4 0 0]) (args := []) (Q2 := fun tm hp => tm = (13, .fn 105 [.ptr 5 0 0, .ptr 3 0 0, .ptr 4 0 0]) :: [(6, .ptr 5 0 0), (5, .ptr 4 0 0), (4, .ptr 3 0 0), (3, .ptr 2 0 0), (2, .ptr 1 0 0), (0, .agg [I f, I r, .sl 0 0 zs.length none, Bb bl, .int .u8 ca, I pa, I ha, I fu]), (1, .agg [I a, I b, .int .i8 pr])] /\ hp = [.ints false .i8 zs, .cells true [I f, I r, .sl 0 0 zs.length none, Bb bl, .int .u8 ca, I pa, I ha, I fu], .cells true [I a, I b, .int .i8 pr], .cells true [I 0, I 0, .nils, .lit false, .int .u8 0, I 0, I 0, I 0], .cells true [I 0, I 0, .int .i8 0, .int .i8 0, I 0, .int .u8 0, I 0, I 0, I 0], .cells true [I 0]]) (ag ⟨rfl, rfl, ag ⟨rfl, rfl⟩⟩) r1 hd1 ?_) ?_)
  rotate_left
  ·rintro e a' w' ⟨rfl, h⟩; exact h
  rintro a2 w2 tm2 hp2 ρ2 cus1 us1 r2 hd2 l2 hc1 hu1 ⟨rfl, rfl⟩
  refine wpIn_seq (wpIn_mono (oT (K := (fI (fI (fI (Tryz.f60.body.getD .skip)))).wpIn (Fr none) k PP Q) rY 2 [] _ [] rfl rfl rfl rfl rfl rfl (f := 106) (caps := []) (args := [.ptr 5 0 0]) (Q2 := fun tm hp => tm = (13, .fn 105 [.ptr 5 0 0, .ptr 3 0 0, .ptr 4 0 0]) :: [(6, .ptr 5 0 0), (5, .ptr 4 0 0), (4, .ptr 3 0 0), (3, .ptr 2 0 0), (2, .ptr 1 0 0), (0, .agg [I f, I r, .sl 0 0 zs.length none, Bb bl, .int .u8 ca, I pa, I ha, I fu]), (1, .agg [I a, I b, .int .i8 pr])] /\ hp = [.ints false .i8 zs, .cells true [I f, I r, .sl 0 0 zs.length none, Bb bl, .int .u8 ca, I pa, I ha, I fu], .cells true [I a, I b, .int .i8 pr], .cells true [I 0, I 0, .nils, .lit false, .int .u8 0, I 0, I 0, I 0], .cells true [I 0, I 0, .int .i8 0, .int .i8 0, I 0, .int .u8 0, I 0, I 0, I 0], .cells true [I 0]]) (ag ⟨rfl, rfl, ag ⟨rfl, rfl⟩⟩) r2 hd2 ?_) ?_)
  rotate_left
  ·rintro e a' w' ⟨rfl, h⟩; exact h
  rintro a3 w3 tm3 hp3 ρ3 cus2 us2 r3 hd3 l3 hc3 hu3 ⟨rfl, rfl⟩
  exact hrest _ _ _ _ _ _ r3 (Ren.le_trans l1 (Ren.le_trans l2 l3)) ⟨cus2, us2, _, rfl, hc3, hu3, cus1, us1, [], rfl, VRL.mono l3 _ _ hc1, VRL.mono l3 _ _ hu1, rfl⟩ ⟨rfl, rfl⟩
 rintro tm1 hp1 ⟨rfl, rfl⟩
 refine ⟨by simp, ?_⟩
 have hE := rY (kDb := kDb)
 repeat (first | (first | refine ah ?_ | refine sat_nd ?_) | refine ae (aA ha0 ha1) ?_ | refine ae (aA hb0 hb1) ?_ | refine ae (aF hc2 rfl hv3) ?_ | refine ae (cB hc2 rfl hv3) ?_ | refine ae (aE hc2 rfl) ?_)
 refine au (fun h => ?_) (fun h => ?_)
 ·have h : (!(Psn.ok ⟨f, r, tk zs, bl, ca, pa, ha, fu⟩) || !mvB f r a b pr) = true := h
  rw [aC] at h
  have h : err1 ⟨f, r, zs, bl, ca, pa, ha, fu⟩ ⟨a, b, pr⟩ = true := h
  exact ag (pq (by simp only [mkE5, h, cond_true]) rfl (Ent.ren [0, 1, 2, 3, 4, 5] [4, 5, 6] rfl rfl rfl))
 have h : (!(Psn.ok ⟨f, r, tk zs, bl, ca, pa, ha, fu⟩) || !mvB f r a b pr) = false := h
 rw [aC] at h
 have e1 : err1 ⟨f, r, zs, bl, ca, pa, ha, fu⟩ ⟨a, b, pr⟩ = false := h
 simp only [Bool.or_eq_false_iff, Bool.not_eq_false'] at h
 obtain ⟨hbd, hcas⟩ := KT h.1
 obtain ⟨hva, hvb⟩ := Ld h.2
 dsimp only at hbd hcas
 obtain ⟨ha0, ha1⟩ := (bL hbd).1 hva
 obtain ⟨hb0, hb1⟩ := (bL hbd).1 hvb
 have hv3 : (az f r (tk zs) && aj f r a && aj f r b) = true := by rw [aC, hbd, hva, hvb]; rfl
 have hf0 : (!decide (f = 0)) = true := by have := cI (aV hbd).1; simp; omega
 clear h
 repeat (first | (first | refine ah ?_ | refine sat_nd ?_) | refine ae (aA ha0 ha1) ?_ | refine ae (aA hb0 hb1) ?_ | refine ae (aF hc2 rfl hv3) ?_ | refine ae (cB hc2 rfl hv3) ?_ | refine ae (aE hc2 rfl) ?_ | refine ae hf0 ?_)
 refine au (fun h => ?_) (fun h => ?_)
 ·have h : (!isP (zs.getD a.toNat 0) bl) = true := h
  exact ag (pq (by simp only [mkE5, e1, h, cond_true, cond_false]) rfl (Ent.ren [0, 1, 2, 3, 4, 5] [4, 5, 6] rfl rfl rfl))
 have e2 : (!isP (zs.getD a.toNat 0) bl) = false := h
 repeat (first | (first | refine ah ?_ | refine sat_nd ?_) | refine ae (aA ha0 ha1) ?_ | refine ae (aA hb0 hb1) ?_ | refine ae (aF hc2 rfl hv3) ?_ | refine ae (cB hc2 rfl hv3) ?_ | refine ae (aE hc2 rfl) ?_ | refine ae hf0 ?_)
 refine au (fun h => ?_) (fun h => ?_)
 ·have h : (isP (zs.getD b.toNat 0) bl || (!gS f r (tk zs) bl pa a b pr && (!wayB f r (tk zs) (wayN (tk zs) bl ca a b) || !decide (pr = 0)))) = true := h
  rw [aC] at h
  have h : err3 ⟨f, r, zs, bl, ca, pa, ha, fu⟩ ⟨a, b, pr⟩ = true := h
  exact ag (pq (by simp only [mkE5, e1, e2, h, cond_true, cond_false]) rfl (Ent.ren [0, 1, 2, 3, 4, 5] [4, 5, 6] rfl rfl rfl))
 have h : (isP (zs.getD b.toNat 0) bl || (!gS f r (tk zs) bl pa a b pr && (!wayB f r (tk zs) (wayN (tk zs) bl ca a b) || !decide (pr = 0)))) = false := h
 rw [aC] at h
 have e3 : err3 ⟨f, r, zs, bl, ca, pa, ha, fu⟩ ⟨a, b, pr⟩ = false := h
 clear h
 repeat (first | (first | refine ah ?_ | refine sat_nd ?_) | refine ae (aA ha0 ha1) ?_ | refine ae (aA hb0 hb1) ?_ | refine ae (aF hc2 rfl hv3) ?_ | refine ae (cB hc2 rfl hv3) ?_ | refine ae (aE hc2 rfl) ?_ | refine ae hf0 ?_)
 refine bn hE 2 (fun e tm hp => e = .normal /\ ∃ (n : Nat) (c : Bool) (at_ cap : Int), n = wayN zs bl ca a b /\ c = cstR f r zs bl ca pa a b pr /\ at_ = at1R f zs pa a b /\ cap = capR f zs pa a b /\ tm = [(2, .ptr 1 0 0), (3, .ptr 2 0 0), (4, .ptr 3 0 0), (5, .ptr 4 0 0), (6, .ptr 5 0 0), (7, .int .i8 (zs.getD a.toNat 0)), (8, .ptr 6 0 0), (9, Bb c)] /\ hp = [.ints false .i8 zs, .cells true [I f, I r, .sl 0 0 zs.length none, Bb bl, .int .u8 ca, I pa, I ha, I fu], .cells true [I a, I b, .int .i8 pr], .cells true [I 0, I 0, .nils, .lit false, .int .u8 0, I 0, I 0, I 0], .cells true [I a, I b, .int .i8 pr, .int .i8 cap, I at_, .int .u8 ca, I pa, I ha, I fu], .cells true [I 0], .cells true [.int .u8 (wBit n), Bb (wBl n), I (qV n), I (wTo n), I (wCor n), I (wCro n)]]) rfl (fun h => ?_) (fun h => ?_) ?_
 ·have hep : epB zs pa a b = true := h
  have hx := (bL hbd).1 (JT hva hvb).1
  repeat (first | (first | refine ah ?_ | refine sat_nd ?_) | refine ae hf0 ?_ | refine ae (aA hx.1 hx.2) ?_)
  refine ag ⟨_, _, Ent.ren [0, 1, 2, 3, 4, 5, 6] [2, 3, 4, 5, 6, 7, 8, 9] rfl rfl rfl, rfl, wayN (tk zs) bl ca a b, wayB f r (tk zs) (wayN (tk zs) bl ca a b) && !gS f r (tk zs) bl pa a b pr, _, _, by rw [aC], by rw [aC]; rfl, ?_, ?_, rfl, rfl⟩
  ·rw [at1R, hep]; rfl
  ·rw [capR, at1R, hep]; rfl
 ·have hep : epB zs pa a b = false := h
  refine ag ⟨_, _, Ent.ren [0, 1, 2, 3, 4, 5, 6] [2, 3, 4, 5, 6, 7, 8, 9] rfl rfl rfl, rfl, wayN (tk zs) bl ca a b, wayB f r (tk zs) (wayN (tk zs) bl ca a b) && !gS f r (tk zs) bl pa a b pr, _, _, by rw [aC], by rw [aC]; rfl, ?_, ?_, rfl, rfl⟩
  ·rw [at1R, hep]; rfl
  ·rw [capR, at1R, hep]; rfl
 rintro e tm hp ⟨rfl, n, c, at_, cap, hn, hcs, hat, hcap, rfl, rfl⟩
 repeat (first | (first | refine ah ?_ | refine sat_nd ?_) | refine ae (aA ha0 ha1) ?_ | refine ae (aA hb0 hb1) ?_ | refine ae (aF hc2 rfl hv3) ?_ | refine ae (cB hc2 rfl hv3) ?_ | refine ae (aE hc2 rfl) ?_ | refine ae hf0 ?_)
 refine bn hE 2 (fun e tm hp => e = .normal /\ ∃ at2 : Int, at2 = at2R f zs pa a b /\ tm = [(2, .ptr 1 0 0), (3, .ptr 2 0 0), (4, .ptr 3 0 0), (5, .ptr 4 0 0), (6, .ptr 5 0 0), (7, .int .i8 (zs.getD a.toNat 0)), (8, .ptr 6 0 0), (9, Bb c)] /\ hp = [.ints false .i8 zs, .cells true [I f, I r, .sl 0 0 zs.length none, Bb bl, .int .u8 ca, I pa, I ha, I fu], .cells true [I a, I b, .int .i8 pr], .cells true [I 0, I 0, .nils, .lit false, .int .u8 0, I 0, I 0, I 0], .cells true [I a, I b, .int .i8 pr, .int .i8 cap, I at2, .int .u8 ca, I pa, I ha, I fu], .cells true [I 0], .cells true [.int .u8 (wBit n), Bb (wBl n), I (qV n), I (wTo n), I (wCor n), I (wCro n)]]) rfl (fun h => ?_) (fun h => ?_) ?_
 ·have h : decide (cap = 0) = true := h
  refine ag ⟨_, _, Ent.ren [0, 1, 2, 3, 4, 5, 6] [2, 3, 4, 5, 6, 7, 8, 9] rfl rfl rfl, rfl, _, ?_, rfl, rfl⟩
  rw [at2R, <- hcap, h]; rfl
 ·have h : decide (cap = 0) = false := h
  refine ag ⟨_, _, Ent.ren [0, 1, 2, 3, 4, 5, 6] [2, 3, 4, 5, 6, 7, 8, 9] rfl rfl rfl, rfl, _, ?_, rfl, rfl⟩
  rw [at2R, <- hcap, h, <- hat]; rfl
 rintro e tm hp ⟨rfl, at2, hat2, rfl, rfl⟩
 clear hat
 repeat (first | (first | refine ah ?_ | refine sat_nd ?_) | refine ae (aA ha0 ha1) ?_ | refine ae (aA hb0 hb1) ?_ | refine ae (aF hc2 rfl hv3) ?_ | refine ae (cB hc2 rfl hv3) ?_ | refine ae (aE hc2 rfl) ?_ | refine ae hf0 ?_)
 refine bn hE 2 (fun e tm hp => e = .normal /\ ∃ (l : List Int) (len : Nat), l = zs1R f zs pa a b /\ len = zs.length /\ tm = [(2, .ptr 1 0 0), (3, .ptr 2 0 0), (4, .ptr 3 0 0), (5, .ptr 4 0 0), (6, .ptr 5 0 0), (7, .int .i8 (zs.getD a.toNat 0)), (8, .ptr 6 0 0), (9, Bb c)] /\ hp = [.ints false .i8 zs, .cells true [I f, I r, .sl 0 0 zs.length none, Bb bl, .int .u8 ca, I pa, I ha, I fu], .cells true [I a, I b, .int .i8 pr], .cells true [I f, I r, .sl 7 0 len none, Bb bl, .int .u8 ca, I pa, I ha, I fu], .cells true [I a, I b, .int .i8 pr, .int .i8 cap, I at2, .int .u8 ca, I pa, I ha, I fu], .cells true [I 0], .cells true [.int .u8 (wBit n), Bb (wBl n), I (qV n), I (wTo n), I (wCor n), I (wCro n)], .ints true .i8 l]) rfl (fun h => ?_) (fun h => ?_) ?_
 ·have h : decide (0 <= at2) = true := h
  have hx : at2 < zs.length := by rw [hat2]; exact Kn hbd hva hvb (by rw [<- hat2]; exact of_decide_eq_true h)
  repeat (first | (first | refine ah ?_ | refine sat_nd ?_) | refine ae (Ev (of_decide_eq_true h) hx) ?_)
  refine ag ⟨_, _, Ent.ren [0, 1, 2, 3, 4, 5, 6, 7] [2, 3, 4, 5, 6, 7, 8, 9] rfl rfl rfl, rfl, (tk zs).set at2.toNat 0, (tk zs).length, ?_, by rw [aC], rfl, rfl⟩
  rw [aC, zs1R, <- hat2, h]; rfl
 ·have h : decide (0 <= at2) = false := h
  refine ag ⟨_, _, Ent.ren [0, 1, 2, 3, 4, 5, 6, 7] [2, 3, 4, 5, 6, 7, 8, 9] rfl rfl rfl, rfl, tk zs, (tk zs).length, ?_, by rw [aC], rfl, rfl⟩
  rw [aC, zs1R, <- hat2, h]; rfl
 rintro e tm hp ⟨rfl, l, len, hl, hlen, rfl, rfl⟩
 have ha1 : a < len := by rw [hlen]; exact ha1
 have hb1 : b < len := by rw [hlen]; exact hb1
 repeat (first | (first | refine ah ?_ | refine sat_nd ?_) | refine ae (aA ha0 ha1) ?_ | refine ae (aA hb0 hb1) ?_ | refine ae (aF hc2 rfl hv3) ?_ | refine ae (cB hc2 rfl hv3) ?_ | refine ae (aE hc2 rfl) ?_ | refine ae hf0 ?_)
 refine bn hE 2 (fun e tm hp => e = .normal /\ ∃ l3 : List Int, l3 = zs3R f r zs bl ca pa a b pr /\ tm = [(2, .ptr 1 0 0), (3, .ptr 2 0 0), (4, .ptr 3 0 0), (5, .ptr 4 0 0), (6, .ptr 5 0 0), (7, .int .i8 (zs.getD a.toNat 0)), (8, .ptr 6 0 0), (9, Bb c)] /\ hp = [.ints false .i8 zs, .cells true [I f, I r, .sl 0 0 zs.length none, Bb bl, .int .u8 ca, I pa, I ha, I fu], .cells true [I a, I b, .int .i8 pr], .cells true [I f, I r, .sl 7 0 len none, Bb bl, .int .u8 ca, I pa, I ha, I fu], .cells true [I a, I b, .int .i8 pr, .int .i8 cap, I at2, .int .u8 ca, I pa, I ha, I fu], .cells true [I 0], .cells true [.int .u8 (wBit n), Bb (wBl n), I (qV n), I (wTo n), I (wCor n), I (wCro n)], .ints true .i8 l3]) rfl (fun h => ?_) (fun h => ?_) ?_
 ·have h : (!decide (pr = 0) && bl) = true := h
  repeat (first | (first | refine ah ?_ | refine sat_nd ?_) | refine ae (aA ha0 ha1) ?_ | refine ae (aA hb0 hb1) ?_ | refine ae (aF hc2 rfl hv3) ?_ | refine ae (cB hc2 rfl hv3) ?_ | refine ae (aE hc2 rfl) ?_ | refine ae hf0 ?_)
  refine ag ⟨_, _, Ent.ren [0, 1, 2, 3, 4, 5, 6, 7] [2, 3, 4, 5, 6, 7, 8, 9] rfl rfl rfl, rfl, _, ?_, rfl, rfl⟩
  rw [zs3R, putR, zs2R, <- hl, h]; rfl
 ·have h : (!decide (pr = 0) && bl) = false := h
  refine bq hE 2 rfl (fun h2 => ?_) (fun h2 => ?_)
  ·have h2 : (!decide (pr = 0)) = true := h2
   repeat (first | (first | refine ah ?_ | refine sat_nd ?_) | refine ae (aA ha0 ha1) ?_ | refine ae (aA hb0 hb1) ?_ | refine ae (aF hc2 rfl hv3) ?_ | refine ae (cB hc2 rfl hv3) ?_ | refine ae (aE hc2 rfl) ?_ | refine ae hf0 ?_)
   refine ag ⟨_, _, Ent.ren [0, 1, 2, 3, 4, 5, 6, 7] [2, 3, 4, 5, 6, 7, 8, 9] rfl rfl rfl, rfl, _, ?_, rfl, rfl⟩
   rw [zs3R, putR, zs2R, <- hl, h, h2]; rfl
  ·have h2 : (!decide (pr = 0)) = false := h2
   refine bq hE 2 rfl (fun h3 => ?_) (fun h3 => ?_)
   ·have h3 : c = true := h3
    have hw : ¬ n = 4 := by
     intro h4
     rw [cstR, <- hn, h4] at hcs
     rw [h3] at hcs
     exact absurd hcs (by simp [wayB])
    obtain ⟨_, h64, w1, w2, w3, w4⟩ := mg (a := a) (b := b) (bl := bl) hbd hcas (by rw [<- hn]; exact hw)
    rw [<- hn] at w1 w2 w3 w4
    have w2 : wCor n < len := by rw [hlen, h64]; exact w2
    have w4 : wCro n < len := by rw [hlen, h64]; exact w4
    repeat (first | (first | refine ah ?_ | refine sat_nd ?_) | refine ae (aA ha0 ha1) ?_ | refine ae (aA hb0 hb1) ?_ | refine ae (aF hc2 rfl hv3) ?_ | refine ae (cB hc2 rfl hv3) ?_ | refine ae (aE hc2 rfl) ?_ | refine ae hf0 ?_)
    refine ag ⟨_, _, Ent.ren [0, 1, 2, 3, 4, 5, 6, 7] [2, 3, 4, 5, 6, 7, 8, 9] rfl rfl rfl, rfl, _, ?_, rfl, rfl⟩
    rw [zs3R, putR, zs2R, <- hl, h, h2, <- hcs, h3, <- hn]; rfl
   ·have h3 : c = false := h3
    refine ag ⟨_, _, Ent.ren [0, 1, 2, 3, 4, 5, 6, 7] [2, 3, 4, 5, 6, 7, 8, 9] rfl rfl rfl, rfl, _, ?_, rfl, rfl⟩
    rw [zs3R, putR, zs2R, <- hl, h, h2, <- hcs, h3]; rfl
 clear hl
 rintro e tm hp ⟨rfl, l3, hl3, rfl, rfl⟩
 repeat (first | (first | refine ah ?_ | refine sat_nd ?_) | refine ae (aA ha0 ha1) ?_ | refine ae (aA hb0 hb1) ?_ | refine ae (aF hc2 rfl hv3) ?_ | refine ae (cB hc2 rfl hv3) ?_ | refine ae (aE hc2 rfl) ?_ | refine ae hf0 ?_)
 refine bn hE 2 (fun e tm hp => e = .normal /\ ∃ ca2 pa2 : Int, ca2 = caR ca a b /\ pa2 = paR f zs a b /\ tm = [(2, .ptr 1 0 0), (3, .ptr 2 0 0), (4, .ptr 3 0 0), (5, .ptr 4 0 0), (6, .ptr 5 0 0), (7, .int .i8 (zs.getD a.toNat 0)), (8, .ptr 6 0 0), (9, Bb c)] /\ hp = [.ints false .i8 zs, .cells true [I f, I r, .sl 0 0 zs.length none, Bb bl, .int .u8 ca, I pa, I ha, I fu], .cells true [I a, I b, .int .i8 pr], .cells true [I f, I r, .sl 7 0 len none, Bb bl, .int .u8 ca2, I pa2, I ha, I fu], .cells true [I a, I b, .int .i8 pr, .int .i8 cap, I at2, .int .u8 ca, I pa, I ha, I fu], .cells true [I 0], .cells true [.int .u8 (wBit n), Bb (wBl n), I (qV n), I (wTo n), I (wCor n), I (wCro n)], .ints true .i8 l3]) rfl (fun h => ?_) (fun h => ?_) ?_
 ·have h : twoB f zs a b = true := h
  repeat (first | (first | refine ah ?_ | refine sat_nd ?_) | refine ae (aA ha0 ha1) ?_ | refine ae (aA hb0 hb1) ?_ | refine ae (aF hc2 rfl hv3) ?_ | refine ae (cB hc2 rfl hv3) ?_ | refine ae (aE hc2 rfl) ?_ | refine ae hf0 ?_)
  refine ag ⟨_, _, Ent.ren [0, 1, 2, 3, 4, 5, 6, 7] [2, 3, 4, 5, 6, 7, 8, 9] rfl rfl rfl, rfl, _, _, rfl, ?_, rfl, rfl⟩
  rw [paR, h]; rfl
 ·have h : twoB f zs a b = false := h
  refine ag ⟨_, _, Ent.ren [0, 1, 2, 3, 4, 5, 6, 7] [2, 3, 4, 5, 6, 7, 8, 9] rfl rfl rfl, rfl, _, _, rfl, ?_, rfl, rfl⟩
  rw [paR, h]; rfl
 rintro e tm hp ⟨rfl, ca2, pa2, hca2, hpa2, rfl, rfl⟩
 repeat (first | (first | refine ah ?_ | refine sat_nd ?_) | refine ae (aA ha0 ha1) ?_ | refine ae (aA hb0 hb1) ?_ | refine ae (aF hc2 rfl hv3) ?_ | refine ae (cB hc2 rfl hv3) ?_ | refine ae (aE hc2 rfl) ?_ | refine ae hf0 ?_)
 refine bn hE 2 (fun e tm hp => e = .normal /\ ∃ ha2 : Int, ha2 = haR f zs pa ha a b /\ tm = [(2, .ptr 1 0 0), (3, .ptr 2 0 0), (4, .ptr 3 0 0), (5, .ptr 4 0 0), (6, .ptr 5 0 0), (7, .int .i8 (zs.getD a.toNat 0)), (8, .ptr 6 0 0), (9, Bb c)] /\ hp = [.ints false .i8 zs, .cells true [I f, I r, .sl 0 0 zs.length none, Bb bl, .int .u8 ca, I pa, I ha, I fu], .cells true [I a, I b, .int .i8 pr], .cells true [I f, I r, .sl 7 0 len none, Bb bl, .int .u8 ca2, I pa2, I ha2, I fu], .cells true [I a, I b, .int .i8 pr, .int .i8 cap, I at2, .int .u8 ca, I pa, I ha, I fu], .cells true [I 0], .cells true [.int .u8 (wBit n), Bb (wBl n), I (qV n), I (wTo n), I (wCor n), I (wCro n)], .ints true .i8 l3]) rfl (fun h => ?_) (fun h => ?_) ?_
 ·have h : (decide (absP (zs.getD a.toNat 0) = 1) || !decide (cap = 0)) = true := h
  refine ag ⟨_, _, Ent.ren [0, 1, 2, 3, 4, 5, 6, 7] [2, 3, 4, 5, 6, 7, 8, 9] rfl rfl rfl, rfl, _, ?_, rfl, rfl⟩
  rw [haR, <- hcap, h]; rfl
 ·have h : (decide (absP (zs.getD a.toNat 0) = 1) || !decide (cap = 0)) = false := h
  refine ag ⟨_, _, Ent.ren [0, 1, 2, 3, 4, 5, 6, 7] [2, 3, 4, 5, 6, 7, 8, 9] rfl rfl rfl, rfl, _, ?_, rfl, rfl⟩
  rw [haR, <- hcap, h]; rfl
 rintro e tm hp ⟨rfl, ha2, hha2, rfl, rfl⟩
 repeat (first | (first | refine ah ?_ | refine sat_nd ?_) | refine ae (aA ha0 ha1) ?_ | refine ae (aA hb0 hb1) ?_ | refine ae (aF hc2 rfl hv3) ?_ | refine ae (cB hc2 rfl hv3) ?_ | refine ae (aE hc2 rfl) ?_ | refine ae hf0 ?_)
 refine bn hE 2 (fun e tm hp => e = .normal /\ ∃ fu2 : Int, fu2 = fuR bl fu /\ tm = [(2, .ptr 1 0 0), (3, .ptr 2 0 0), (4, .ptr 3 0 0), (5, .ptr 4 0 0), (6, .ptr 5 0 0), (7, .int .i8 (zs.getD a.toNat 0)), (8, .ptr 6 0 0), (9, Bb c)] /\ hp = [.ints false .i8 zs, .cells true [I f, I r, .sl 0 0 zs.length none, Bb bl, .int .u8 ca, I pa, I ha, I fu], .cells true [I a, I b, .int .i8 pr], .cells true [I f, I r, .sl 7 0 len none, Bb bl, .int .u8 ca2, I pa2, I ha2, I fu2], .cells true [I a, I b, .int .i8 pr, .int .i8 cap, I at2, .int .u8 ca, I pa, I ha, I fu], .cells true [I 0], .cells true [.int .u8 (wBit n), Bb (wBl n), I (qV n), I (wTo n), I (wCor n), I (wCro n)], .ints true .i8 l3]) rfl (fun h => ?_) (fun h => ?_) ?_
 ·have h : bl = true := h
  refine ag ⟨_, _, Ent.ren [0, 1, 2, 3, 4, 5, 6, 7] [2, 3, 4, 5, 6, 7, 8, 9] rfl rfl rfl, rfl, _, ?_, rfl, rfl⟩
  rw [fuR, h]; rfl
 ·have h : bl = false := h
  refine ag ⟨_, _, Ent.ren [0, 1, 2, 3, 4, 5, 6, 7] [2, 3, 4, 5, 6, 7, 8, 9] rfl rfl rfl, rfl, _, ?_, rfl, rfl⟩
  rw [fuR, h]; rfl
 rintro e tm hp ⟨rfl, fu2, hfu2, rfl, rfl⟩
 have hl3n : len = l3.length := by rw [hl3, vr, hlen]
 have hl64 : len <= 64 := by rw [hlen]; exact hc2
 repeat (first | (first | refine ah ?_ | refine sat_nd ?_) | refine ae (aA ha0 ha1) ?_ | refine ae (aA hb0 hb1) ?_ | refine ae (aF hc2 rfl hv3) ?_ | refine ae (cB hc2 rfl hv3) ?_ | refine ae (aE hc2 rfl) ?_ | refine ae hf0 ?_ | refine ae (kV hl3n hl64) ?_ | refine ae (mS hl3n hl64) ?_)
 refine au (fun h => ?_) (fun h => ?_)
 ·have h : (chkB f r ((l3.drop 0).take len) bl || (c && (chkB f r (tk zs) bl || !decide ((cV f r (tk zs) (wCro n) (!bl)).1 = 0)))) = true := h
  rw [aC, tk_n hl3n, hl3, hcs, hn] at h
  have h : err4 ⟨f, r, zs, bl, ca, pa, ha, fu⟩ ⟨a, b, pr⟩ = true := h
  exact ag (rI (by simp only [mkE5, e1, e2, e3, h, cond_true, cond_false]) rfl (Ent.ren [0, 1, 2, 3, 4, 5, 7] [4, 5, 6] rfl rfl rfl))
 have h : (chkB f r ((l3.drop 0).take len) bl || (c && (chkB f r (tk zs) bl || !decide ((cV f r (tk zs) (wCro n) (!bl)).1 = 0)))) = false := h
 rw [aC, tk_n hl3n, hl3, hcs, hn] at h
 have e4 : err4 ⟨f, r, zs, bl, ca, pa, ha, fu⟩ ⟨a, b, pr⟩ = false := h
 clear h
 repeat (first | (first | refine ah ?_ | refine sat_nd ?_) | refine ae (aA ha0 ha1) ?_ | refine ae (aA hb0 hb1) ?_ | refine ae (aF hc2 rfl hv3) ?_ | refine ae (cB hc2 rfl hv3) ?_ | refine ae (aE hc2 rfl) ?_ | refine ae hf0 ?_ | refine ae (kV hl3n hl64) ?_ | refine ae (mS hl3n hl64) ?_)
 refine au (fun h => ?_) (fun h => ?_)
 ·have h : (decide (10000 < ha2) || decide (10000 < fu2)) = true := h
  rw [hha2, hfu2] at h
  have h : err5 ⟨f, r, zs, bl, ca, pa, ha, fu⟩ ⟨a, b, pr⟩ = true := h
  exact ag (rI (by simp only [mkE5, e1, e2, e3, e4, h, cond_true, cond_false]) rfl (Ent.ren [0, 1, 2, 3, 4, 5, 7] [4, 5, 6] rfl rfl rfl))
 have h : (decide (10000 < ha2) || decide (10000 < fu2)) = false := h
 rw [hha2, hfu2] at h
 have e5 : err5 ⟨f, r, zs, bl, ca, pa, ha, fu⟩ ⟨a, b, pr⟩ = false := h
 clear h
 repeat (first | (first | refine ah ?_ | refine sat_nd ?_) | refine ae (aA ha0 ha1) ?_ | refine ae (aA hb0 hb1) ?_ | refine ae (aF hc2 rfl hv3) ?_ | refine ae (cB hc2 rfl hv3) ?_ | refine ae (aE hc2 rfl) ?_ | refine ae hf0 ?_ | refine ae (kV hl3n hl64) ?_ | refine ae (mS hl3n hl64) ?_)
 have he : mkE5 ⟨f, r, zs, bl, ca, pa, ha, fu⟩ ⟨a, b, pr⟩ = 0 := by simp only [mkE5, e1, e2, e3, e4, e5, cond_false]
 subst hlen
 exact ag (EA (q := ⟨f, r, l3, !bl, ca2, pa2, ha2, fu2⟩) (x := ⟨⟨a, b, pr⟩, cap, at2, ca, pa, ha, fu⟩) he (by rw [mkP, he, hl3, hca2, hpa2, hha2, hfu2]; rfl) (by rw [mkU, he, hcap, hat2]; rfl) hl3n.symm (Ent.ren [0, 1, 2, 3, 4, 5, 7] [4, 5, 6] rfl rfl rfl))
def ya : CF
 | [.agg [.int .i64 f, .int .i64 r, .sl 0 0 len none, .bool bl, .int .u8 ca, .int .i64 pa, .int .i64 ha, .int .i64 fu], .agg [.int .i64 a, .int .i64 b, .int .i8 pr]], [.ints false .i8 zs] => some (decide (len = zs.length) && decide (zs.length <= 64), .tup [psV 1 (mkP ⟨f, r, zs, bl, ca, pa, ha, fu⟩ ⟨a, b, pr⟩), unV (mkU ⟨f, r, zs, bl, ca, pa, ha, fu⟩ ⟨a, b, pr⟩), I (mkE5 ⟨f, r, zs, bl, ca, pa, ha, fu⟩ ⟨a, b, pr⟩)], [.ints true .i8 (mkP ⟨f, r, zs, bl, ca, pa, ha, fu⟩ ⟨a, b, pr⟩).zs])
 | _, _ => none
theorem sP : CtOk (GGx true kDb) PP (60, ya) := by
 refine aG Tryz.func60 (by kernel_rfl) rfl fun a0 h0 c0 v0 N0 e hc => ?_
 unfold ya at e
 split at e
 ·rename_i f r len bl ca pa ha fu a b pr zs
  cases e
  simp only [Bool.and_eq_true, decide_eq_true_eq] at hc
  obtain ⟨rfl, hc2⟩ := hc
  exact FR hc2
 ·cases e
end
end Go.Ab
