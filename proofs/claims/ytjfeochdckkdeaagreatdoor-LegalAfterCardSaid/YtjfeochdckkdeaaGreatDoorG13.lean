/- Contracts of the functions that the laws reach, and plain laws of what they compute (text G13); no condition. -/
import Derived.Test.YtjfeochdckkdeaaGreatDoorG12
set_option maxRecDepth 100000
namespace Go.Ab
open IntKind
open Go.Proofs
section
variable {p : Psn}
theorem Jm (o : PsH p) {a b pr : Int} (hc : canM p a b pr = true) : mkE5 p ⟨a, b, pr⟩ = bif err4 p ⟨a, b, pr⟩ then 90 else bif err5 p ⟨a, b, pr⟩ then 7 else 0 := by
 have hmv := HG hc
 have h1 : err1 p ⟨a, b, pr⟩ = false := by unfold err1; rw [o.ok, hmv]; rfl
 have k := gG (m := ⟨a, b, pr⟩) o hc
 have hp : isP (p.zs.getD a.toNat 0) p.bl = true := k.hp
 unfold mkE5
 rw [h1, k.so]
 dsimp only
 rw [hp]
 rfl
def okR (p : Psn) (r : List Int) : Bool := legF p r && !err5 p (mvR r)
theorem Gk (o : PsH p) {r : List Int} (hr : qL p r) : decide (mkE5 p (afM r) = 0) = okR p r := by
 obtain ⟨a, b, pr, rfl, hc⟩ := hr
 have := Jm o hc
 unfold okR legF
 show decide (mkE5 p ⟨a, b, pr⟩ = 0) = (!err4 p ⟨a, b, pr⟩ && !err5 p ⟨a, b, pr⟩)
 rw [this]
 cases err4 p ⟨a, b, pr⟩ <;> cases err5 p ⟨a, b, pr⟩ <;> rfl
theorem Ba (o : PsH p) {a b pr : Int} (hc : canM p a b pr = true) : rAft p ⟨a, b, pr⟩ = some (afP p ⟨a, b, pr⟩) := by
 have k := gG (m := ⟨a, b, pr⟩) o hc
 have h4 : decide (p.zs.length <= 64) = true := by simpa using o.hl
 have hv : (az p.f p.r p.zs && cA p.f p.r p.zs p.ca && aj p.f p.r a && aj p.f p.r b) = true := by rw [k.bd, cast_eq k.ca, k.cast, k.ha, k.hb]; rfl
 unfold rAft
 simp only [List.drop_zero, List.take_length, cQ, h4, hv, Bool.and_self, aQ]
 rw [show decide ((afP p ⟨a, b, pr⟩).zs.length = (afZ p.f p.r p.zs p.bl p.ca p.pa a b pr).length) = true from decide_eq_true rfl]
 rfl
theorem Fp (o : PsH p) {a b pr : Int} (hc : canM p a b pr = true) : uW p ⟨a, b, pr⟩ = some (err5 p ⟨a, b, pr⟩) := by
 have k := gG (m := ⟨a, b, pr⟩) o hc
 have h5 : (decide (10000 < (afP p ⟨a, b, pr⟩).ha) || decide (10000 < (afP p ⟨a, b, pr⟩).fu)) = err5 p ⟨a, b, pr⟩ := by rw [k.after]; rfl
 unfold uW
 simp only [List.drop_zero, List.take_length, cQ, Ba o hc]
 rw [ck, h5]
theorem GL (o : PsH p) {a b pr : Int} (hc : canM p a b pr = true) (he : mkE5 p ⟨a, b, pr⟩ = 0) : afP p ⟨a, b, pr⟩ = mkP p ⟨a, b, pr⟩ := by
 have k := gG (m := ⟨a, b, pr⟩) o hc
 rw [k.after]
 unfold mkP
 rw [he]; rfl
theorem sr (o : PsH p) : ∀ l : List (List Int), (∀ r ∈ l, qL p r) -> cL p l = (l.filter (okR p)).map fun r => (afM r, mkP p (afM r))
 | [], _ => rfl
 | r :: l, h => by
  have ih := sr o l fun x hx => h x (by simp [hx])
  have he := Gk o (h r (by simp))
  unfold cL at ih ⊢
  rw [List.filterMap_cons, he, ih, List.filter_cons]
  cases okR p r <;> rfl
def sM (p : Psn) : List (List Int) := (allL p).filter (okR p)
theorem CV (o : PsH p) : afLs p = (sM p).map fun r => (afM r, mkP p (afM r)) := by
 unfold afLs afL
 rw [rS o]
 exact sr o (allL p) fun r h => vp h
theorem Hf (o : PsH p) : afOk p = true := by
 have h1 : decide (p.zs.length <= 64) = true := by simpa using o.hl
 unfold afOk afL
 rw [rS o, h1]
 have := pH o
 simpa using this
theorem xM (hl : p.zs.length <= 64) (h : p.ok = false) : afLs p = [] := by
 unfold afLs afL
 rw [Gq hl h]; rfl
theorem FX (hl : p.zs.length <= 64) (h : p.ok = false) : afOk p = true := by
 have h1 : decide (p.zs.length <= 64) = true := by simpa using hl
 unfold afOk afL
 rw [Gq hl h, h1]; rfl
theorem HW (o : PsH p) {l : List (List Int)} (hlen : l.length <= 100000) (hl : ∀ r ∈ l, qL p r) {F : List (List Int) -> Option (List (List Int) ⊕ Bool)} : cK (iv p l) F 1000000 ([], 0) = F (l.filter fun r => !err5 p (mvR r)) := by
 refine (fD (step := iv p l) l (fun acc x => bif !err5 p (mvR x) then acc ++ [x] else acc) (fun s => s) (fun j s => s.length <= j) ?_ ?_ l.length 1000000 0 [] (by omega) (by omega) (by simp)).trans ?_
 ·intro j x s hx hi
  obtain ⟨a, b, pr, rfl, hc⟩ := hl x (List.mem_of_getElem? hx)
  have hj := (List.getElem?_eq_some_iff.1 hx).1
  have e1 : l.getD (j : Int).toNat [] = [a, b, pr] := by simp [List.getD, hx]
  have h1 : decide ((j : Int) < Int.ofNat l.length) = true := by simp; omega
  have h2 : decide (0 <= (j : Int)) = true := by simp
  have h3 : decide ((s.length + 1) * 24 <= 140737488355328) = true := by simp; omega
  have hk := Fp o hc
  have hm : mvR [a, b, pr] = ⟨a, b, pr⟩ := rfl
  refine ⟨?_, ?_⟩
  ·unfold iv
   simp only [List.drop_zero, List.take_length, cQ, e1, h1, h2, h3, cond_true, Bool.and_self, aQ]
   rw [show ([a, b, pr] : List Int).getD 0 0 = a from rfl, show ([a, b, pr] : List Int).getD 1 0 = b from rfl, show ([a, b, pr] : List Int).getD 2 0 = pr from rfl, hk, ck, Option.getD_some, hm, show i64.wrap ((j : Int) + 1) = ((j + 1 : Nat) : Int) from aB (by omega) (by omega)]
   cases err5 p ⟨a, b, pr⟩ <;> rfl
  ·rw [hm]; cases err5 p ⟨a, b, pr⟩ <;> simp <;> omega
 ·intro s _
  have h1 : decide ((l.length : Int) < Int.ofNat l.length) = false := by simp
  unfold iv
  simp only [h1, cond_false]
 ·rw [List.drop_zero, fS, List.nil_append]
theorem JP (o : PsH p) {a b pr : Int} (hc : canM p a b pr = true) (he : mkE5 p ⟨a, b, pr⟩ = 0) : (mkP p ⟨a, b, pr⟩).zs.length = p.zs.length := by
 rw [<- GL o hc he]
 exact ux
theorem Iy {e : Mov × Psn} (hz : e.2.zs.length <= 64) {F : Unit -> Option (Int ⊕ Int ⊕ List Int × Int ⊕ Unit ⊕ Bool)} : cK (bw e) F 1000000 (e.2.zs, 0) = F () := by
 refine (fD (step := bw e) (List.range e.2.zs.length) (fun acc (j : Nat) => acc.set j 1) (fun _ => ()) (fun _ _ => True) ?_ ?_ e.2.zs.length 1000000 0 e.2.zs (by simp) (by omega) trivial).trans rfl
 ·intro j x s hx _
  obtain ⟨hj, hx⟩ := List.getElem?_eq_some_iff.1 hx
  simp only [List.length_range, List.getElem_range] at hj hx
  subst hx
  have h1 : decide ((j : Int) < Int.ofNat e.2.zs.length) = true := by simp; omega
  have h2 : decide (0 <= (j : Int)) = true := by simp
  refine ⟨?_, trivial⟩
  unfold bw
  simp only [h1, h2, Bool.and_self, cond_true, aQ]
  rw [show i64.wrap ((j : Int) + 1) = ((j + 1 : Nat) : Int) from aB (by omega) (by omega)]
  rfl
 ·intro s _
  have h1 : decide (((List.range e.2.zs.length).length : Int) < Int.ofNat e.2.zs.length) = false := by simp
  unfold bw
  simp only [h1, cond_false]
theorem xW (o : PsH p) {w : List (List Int)} {k : Nat} {r : List Int} (hk : w[k]? = some r) (hr : qL p r) (he : mkE5 p (afM r) = 0) (hw : w.length <= 100000) {many : Int} {s : List Int × Int} :
  bW p many w s bw (afM r, mkP p (afM r)) (k : Int) = bif decide (s.2 = 0) && decide (many <= ((k + 1 : Nat) : Int)) then some (.inr (.inl ((k + 1 : Nat) : Int))) else some (.inl ((k + 1 : Nat) : Int)) := by
 obtain ⟨a, b, pr, rfl, hc⟩ := hr
 have hj := (List.getElem?_eq_some_iff.1 hk).1
 have e1 : w.getD (k : Int).toNat [] = [a, b, pr] := by simp [List.getD, hk]
 have hm : afM [a, b, pr] = ⟨a, b, pr⟩ := rfl
 rw [hm] at he ⊢
 have hl := o.hl
 have hz := JP o hc he
 have h1 : decide (Int.ofNat w.length <= (k : Int)) = false := by simp; omega
 have h2 : decide (0 <= (k : Int)) = true := by simp
 have h3 : decide ((k : Int) < Int.ofNat w.length) = true := by simp; omega
 have h4 : decide ((mkP p ⟨a, b, pr⟩).zs.length <= 64) = true := by rw [hz]; simpa using hl
 have ha : rAft p ⟨a, b, pr⟩ = some (mkP p ⟨a, b, pr⟩) := by rw [Ba o hc, GL o hc he]
 have hw1 : i64.wrap ((k : Int) + 1) = ((k + 1 : Nat) : Int) := aB (by omega) (by omega)
 unfold bW
 simp only [List.drop_zero, List.take_length, cQ, e1]
 rw [show ([a, b, pr] : List Int).getD 0 0 = a from rfl, show ([a, b, pr] : List Int).getD 1 0 = b from rfl, show ([a, b, pr] : List Int).getD 2 0 = pr from rfl, ha, Option.getD_some, h1, hw1]
 simp only [h2, h3, h4, decide_true, Bool.and_self, Bool.not_true, Bool.or_self, Bool.not_false, Bool.false_or, Option.isSome_some, aQ, rH, cond_false]
 exact Iy (by show (mkP p ⟨a, b, pr⟩).zs.length <= 64; omega)
theorem AU {n : Nat} {many : Int} (v : Int) (h : v = n /\ ((n : Int) = 0 \/ (n : Int) <= many \/ n <= 1) \/ (1 <= v /\ v <= n /\ many <= v /\ (v = 1 \/ v = many))) : v = imax false (Int.ofNat n) (imax true 1 many) := by
 unfold imax
 dsimp only
 have hn : Int.ofNat n = (n : Int) := rfl
 rw [hn]
 by_cases h1 : 1 < many
 ·rw [decide_eq_true h1, cond_true]
  by_cases h2 : many < (n : Int)
  ·rw [decide_eq_true h2, cond_true]; omega
  ·rw [decide_eq_false h2, cond_false]; omega
 ·rw [decide_eq_false h1, cond_false]
  by_cases h2 : 1 < (n : Int)
  ·rw [decide_eq_true h2, cond_true]; omega
  ·rw [decide_eq_false h2, cond_false]; omega
abbrev afE (p : Psn) (r : List Int) : Mov × Psn := (afM r, mkP p (afM r))
theorem AP (o : PsH p) {w : List (List Int)} (hw : w.length <= 100000) (hall : ∀ r ∈ w, qL p r /\ mkE5 p (afM r) = 0) {many : Int} {s : List Int × Int} (hs : s.2 ≠ 0) {F Fx : Int -> Option (List Int × Int ⊕ Unit ⊕ Bool)} : ∀ (d k : Nat), k + d = w.length ->
  ct (bW p many w s bw) F Fx ((w.drop k).map (afE p)) (k : Int) = F (w.length : Int)
 | 0, k, h => by
  have : k = w.length := by omega
  subst this
  rw [List.drop_length]; rfl
 | d + 1, k, h => by
  have hk : k < w.length := by omega
  obtain ⟨h1, h2⟩ := hall w[k] (List.getElem_mem hk)
  rw [List.drop_eq_getElem_cons hk, List.map_cons, ij (s' := ((k + 1 : Nat) : Int)) (by rw [xW o (List.getElem?_eq_getElem hk) h1 h2 hw, decide_eq_false hs]; rfl)]
  exact AP o hw hall hs d (k + 1) (by omega)
theorem AM (o : PsH p) {w : List (List Int)} (hw : w.length <= 100000) (hall : ∀ r ∈ w, qL p r /\ mkE5 p (afM r) = 0) {many : Int} {s : List Int × Int} (hs : s.2 = 0) {F Fx : Int -> Option (List Int × Int ⊕ Unit ⊕ Bool)} : ∀ (d k : Nat), k + d = w.length -> (k = 0 \/ (k : Int) < many) ->
  ∃ v, v = imax false (Int.ofNat w.length) (imax true 1 many) /\ (ct (bW p many w s bw) F Fx ((w.drop k).map (afE p)) (k : Int) = F v \/ ct (bW p many w s bw) F Fx ((w.drop k).map (afE p)) (k : Int) = Fx v)
 | 0, k, h, hm => by
  have : k = w.length := by omega
  subst this
  refine ⟨(w.length : Int), AU (n := w.length) (many := many) _ (.inl ⟨rfl, by omega⟩), .inl ?_⟩
  rw [List.drop_length]; rfl
 | d + 1, k, h, hm => by
  have hk : k < w.length := by omega
  obtain ⟨h1, h2⟩ := hall w[k] (List.getElem_mem hk)
  have hst := xW o (many := many) (s := s) (List.getElem?_eq_getElem hk) h1 h2 hw
  rw [decide_eq_true hs, Bool.true_and] at hst
  by_cases hx : many <= ((k + 1 : Nat) : Int)
  ·rw [decide_eq_true hx, cond_true] at hst
   refine ⟨((k + 1 : Nat) : Int), AU (n := w.length) (many := many) _ (.inr (by omega)), .inr ?_⟩
   rw [List.drop_eq_getElem_cons hk, List.map_cons, vN hst]
  ·rw [decide_eq_false hx, cond_false] at hst
   obtain ⟨v, e, h3⟩ := AM o hw hall (many := many) hs (F := F) (Fx := Fx) d (k + 1) (by omega) (.inr (by omega))
   refine ⟨v, e, ?_⟩
   rw [List.drop_eq_getElem_cons hk, List.map_cons, ij hst]
   exact h3
def Iq (n : Nat) (l : List Int) : List Int := (List.range n).foldl (fun acc j => acc.set j 0) l
theorem uh {l : List Int} (hl : p.zs.length <= 64) {F : List Int -> Option (List Int × Int ⊕ Unit ⊕ Bool)} : cK (dZ p) F 1000000 (l, 0) = F (Iq p.zs.length l) := by
 refine (fD (step := dZ p) (List.range p.zs.length) (fun acc (j : Nat) => acc.set j 0) (fun s => s) (fun _ _ => True) ?_ ?_ p.zs.length 1000000 0 l (by simp) (by omega) trivial).trans rfl
 ·intro j x s hx _
  obtain ⟨hj, hx⟩ := List.getElem?_eq_some_iff.1 hx
  simp only [List.length_range, List.getElem_range] at hj hx
  subst hx
  have h1 : decide ((j : Int) < Int.ofNat p.zs.length) = true := by simp; omega
  have h2 : decide (0 <= (j : Int)) = true := by simp
  refine ⟨?_, trivial⟩
  unfold dZ
  simp only [List.drop_zero, List.take_length, h1, h2, Bool.and_self, cond_true, aQ]
  rw [show i64.wrap ((j : Int) + 1) = ((j + 1 : Nat) : Int) from aB (by omega) (by omega)]
  rfl
 ·intro s _
  have h1 : decide (((List.range p.zs.length).length : Int) < Int.ofNat p.zs.length) = false := by simp
  unfold dZ
  simp only [List.drop_zero, List.take_length, h1, cond_false]
theorem IU {l : List Int} (hl : p.zs.length <= 64) {F : List Int -> Option (List Int × Int ⊕ Unit ⊕ Bool)} : cK (gF p) F 1000000 (l, 0) = F (Iq p.zs.length l) := uh hl
theorem wS (hl : p.zs.length <= 64) (hok : afOk p = true) {w : List (List Int)} {many : Int} {l : List Int} {t : Nat} (ht : t < 2)
  (h0 : t = 0 -> ∀ (F Fx : Int -> Option (List Int × Int ⊕ Unit ⊕ Bool)), ∃ v, v = imax false (Int.ofNat w.length) (imax true 1 many) /\ (ct (bW p many w (l, (t : Int)) bw) F Fx (afLs p) 0 = F v \/ ct (bW p many w (l, (t : Int)) bw) F Fx (afLs p) 0 = Fx v))
  (h1 : t = 1 -> ∀ (F Fx : Int -> Option (List Int × Int ⊕ Unit ⊕ Bool)), ct (bW p many w (l, (t : Int)) bw) F Fx (afLs p) 0 = F (w.length : Int)) :
  ∃ l', jt p many w bw bW dZ gF (l, (t : Int)) = some (.inl (l', ((t + 1 : Nat) : Int))) := by
 refine ⟨Iq p.zs.length l, ?_⟩
 have hlt : decide ((t : Int) < 2) = true := by simp; omega
 have hw : i64.wrap ((t : Int) + 1) = ((t + 1 : Nat) : Int) := aB (by omega) (by omega)
 unfold jt
 simp only [List.drop_zero, List.take_length, cQ, hlt, hw, cond_true]
 rw [hok, aQ]
 have hcase : t = 0 \/ t = 1 := by omega
 rcases hcase with rfl | rfl
 ·obtain ⟨v, e, h2⟩ := h0 rfl _ _
  rcases h2 with h2 | h2
  ·rw [h2, <- e, uh hl]; simp
  ·rw [h2, <- e, IU hl]; simp
 ·rw [h1 rfl, uh hl]; simp
theorem yj (hl : p.zs.length <= 64) (hok : afOk p = true) {w : List (List Int)} {many : Int} {l : List Int} {F : Unit -> Option Bool}
  (h0 : ∀ (l : List Int) (F Fx : Int -> Option (List Int × Int ⊕ Unit ⊕ Bool)), ∃ v, v = imax false (Int.ofNat w.length) (imax true 1 many) /\ (ct (bW p many w (l, ((0 : Nat) : Int)) bw) F Fx (afLs p) 0 = F v \/ ct (bW p many w (l, ((0 : Nat) : Int)) bw) F Fx (afLs p) 0 = Fx v))
  (h1 : ∀ (l : List Int) (F Fx : Int -> Option (List Int × Int ⊕ Unit ⊕ Bool)), ct (bW p many w (l, ((1 : Nat) : Int)) bw) F Fx (afLs p) 0 = F (w.length : Int)) :
  ∀ fuel, cK (jt p many w bw bW dZ gF) F (fuel + 3) (l, ((0 : Nat) : Int)) = F () := by
 intro fuel
 obtain ⟨l1, e1⟩ := wS hl hok (w := w) (many := many) (l := l) (t := 0) (by omega) (fun _ => h0 l) (fun e => by cases e)
 obtain ⟨l2, e2⟩ := wS hl hok (w := w) (many := many) (l := l1) (t := 1) (by omega) (fun e => by cases e) (fun _ => h1 l1)
 rw [bK e1, bK e2, fj (x := ())]
 have hlt : decide (((1 + 1 : Nat) : Int) < 2) = false := by simp
 unfold jt
 simp only [hlt, cond_false]
theorem zB {many : Int} (hca : 0 <= p.ca) : ED p many = some true := by
 unfold ED
 simp only [List.drop_zero, List.take_length, cQ]
 rw [show rB p = some (decide (Int.ofNat p.zs.length <= 64)) from rfl, ck]
 by_cases hl : p.zs.length <= 64
 ·have h1 : decide (Int.ofNat p.zs.length <= 64) = true := by simp; omega
  have h2 : decide (p.zs.length <= 64) = true := by simpa using hl
  rw [h1, h2, Cw hl hca]
  simp only [Bool.not_true, cond_false, aQ]
  cases hok : p.ok with
  | false =>
   simp only [cond_false, di]
   refine yj hl (FX hl hok) (w := []) (fun l F Fx => ⟨0, AU _ (.inl ⟨rfl, .inl rfl⟩), .inl ?_⟩) (fun l F Fx => ?_) 999997
   ·rw [xM hl hok]; rfl
   ·rw [xM hl hok]; rfl
  | true =>
   have o := psh hl hca hok
   have hgl : ((allL p).filter (legF p)).length <= 100000 := Nat.le_trans (List.length_filter_le _ _) (pH o)
   rw [Ap o]
   simp only [cond_true]
   rw [ck, HW o hgl fun r h => vp (List.mem_filter.1 h).1]
   have hwl : ((allL p).filter (legF p)).filter (fun r => !err5 p (mvR r)) = sM p := by
    unfold sM okR
    rw [List.filter_filter]
    congr 1
    funext r
    exact Bool.and_comm _ _
   rw [hwl]
   have hw : (sM p).length <= 100000 := Nat.le_trans (List.length_filter_le _ _) (pH o)
   have hall : ∀ r ∈ sM p, qL p r /\ mkE5 p (afM r) = 0 := fun r h => by
    obtain ⟨h3, h4⟩ := List.mem_filter.1 h
    have h5 := vp h3
    refine ⟨h5, ?_⟩
    have := Gk o h5
    rw [h4] at this
    exact of_decide_eq_true this
   simp only [di]
   refine yj hl (Hf o) (w := sM p) (fun l F Fx => ?_) (fun l F Fx => ?_) 999997
   ·have := AM o hw hall (many := many) (s := (l, ((0 : Nat) : Int))) rfl (F := F) (Fx := Fx) (sM p).length 0 (by omega) (.inl rfl)
    rw [List.drop_zero] at this
    rw [CV o]
    exact this
   ·have := AP o hw hall (many := many) (s := (l, ((1 : Nat) : Int))) (by simp) (F := F) (Fx := Fx) (sM p).length 0 (by omega)
    rw [List.drop_zero] at this
    rw [CV o]
    exact this
 ·have h1 : decide (Int.ofNat p.zs.length <= 64) = false := by simp; omega
  rw [h1]; rfl
end
end Go.Ab
