/- Contracts of the functions that the laws reach, and plain laws of what they compute (text G12); no condition. -/
import Derived.Test.YtjfeochdckkdeaaGreatDoorG11
import Derived.Test.YtjfeochdckkdeaaGreatDoorG9
import Derived.Test.YtjfeochdckkdeaaGreatDoorG10
import Derived.Test.YtjfeochdckkdeaaGreatDoorG8
set_option maxRecDepth 100000
set_option maxHeartbeats 4000000
namespace Go.Ab
open Go.Proofs
variable {kCa kDb : Bool}
end Go.Ab

set_option maxRecDepth 100000
namespace Go.Ab
open Go.Proofs
theorem psn_eta' (q : Psn) : (⟨q.f, q.r, q.zs, q.bl, q.ca, q.pa, q.ha, q.fu⟩ : Psn) = q := rfl
section
variable {p : Psn}
theorem uis_eq (o : PsH p) {m : Mov} (hmv : mvB p.f p.r m.a m.b m.p = true) : uis p m = some (canM p m.a m.b m.p) := by
 have hmv' := hmv
 simp only [mvB, Bool.and_eq_true] at hmv'
 obtain ⟨⟨⟨ha, hb⟩, _⟩, _⟩ := hmv'
 have hA := (bd_sq o.bd).1 ha
 have h1 : (decide (0 ≤ m.a) && decide (m.a < Int.ofNat p.zs.length)) = true := by simp; omega
 have h2 : decide (p.zs.length ≤ 64) = true := by simpa using o.hl
 have h3 : (!decide (p.zs.getD m.a.toNat 0 = 0) && decide (p.zs.getD m.a.toNat 0 < 0) == p.bl) = isP (p.zs.getD m.a.toNat 0) p.bl := own_is _ _
 unfold uis canM
 simp only [List.drop_zero, List.take_length, h1, h2, h3, o.bd, cast_eq o.ca, o.cast, ha, hb, hmv, Bool.and_self, Bool.or_true, needO_true]
 cases hi : isP (p.zs.getD m.a.toNat 0) p.bl with
 | false => rfl
 | true => rw [so_eq o.h o.hl o.cast o.ca ha hb hi]; rfl
end
end Go.Ab

set_option maxRecDepth 100000
namespace Go.Ab
open Go.Proofs
theorem king_one {f r : Int} {z : List Int} {bl : Bool} {K : Nat} (h : orthBd f r z = true) (hl : z.length ≤ 64) (hK : K < z.length) (h1 : z.getD K 0 = kgP bl) (hu : ∀ i : Nat, i < z.length → z.getD i 0 = kgP bl → i = K) : (kingR f r z bl).2 = 0 ∧ refKing z bl = (K : Int) := by
 have hone : listL z (kgP bl) = [(K : Int)] := filt_one (by simp only [listC, Int.toNat_natCast, h1, decide_true]) _ hK fun i hi hc => hu i hi (by simpa [listC] using hc)
 have hrk : refKing z bl = (K : Int) := by
  unfold refKing
  rw [kg_eq, hone]; rfl
 rcases king_iff (bl := bl) h hl with ⟨h2, _⟩ | ⟨h2, _, _⟩
 ·omega
 ·exact ⟨by rw [h2], hrk⟩
theorem king_uniq {f r : Int} {zs : List Int} {bl : Bool} (h : orthBd f r zs = true) (hl : zs.length ≤ 64) (hk : (kingR f r zs bl).2 = 0) : ∃ K : Nat, K < zs.length ∧ zs.getD K 0 = kgP bl ∧ refKing zs bl = (K : Int) ∧ ∀ i : Nat, i < zs.length → zs.getD i 0 = kgP bl → i = K := by
 rcases king_ref zs bl hl with ⟨h1, _⟩ | ⟨h1, h2, h3, h4, h5, h6⟩
 ·unfold kingR at hk; rw [h, h1] at hk; cases hk
 ·refine ⟨(kingI zs bl).toNat, by omega, h5, by omega, fun i hi he => ?_⟩
  have := h6 i hi he
  omega
theorem own_kg (bl : Bool) : isP (kgP bl) bl = true := by cases bl <;> decide
theorem reaches_king {f r a b occ : Int} (_ha : validB f r a = true) (_hb : validB f r b = true) (h : reachesB f r 6 a b occ = true) : distR f a b = 1 := by
 unfold reachesB at h
 simpa using h
def WayIs (p : Psn) (m : Mov) (n : Nat) (bl : Bool) (bit k to : Int) : Prop := wayN p.zs p.bl p.ca m.a m.b = n ∧ p.bl = bl ∧ u8and p.ca bit ≠ 0 ∧ m.a = k ∧ m.b = to
theorem way_is {p : Psn} {m : Mov} (hn : wayN p.zs p.bl p.ca m.a m.b ≠ 4) : absP (p.zs.getD m.a.toNat 0) = 6 ∧ (WayIs p m 0 false 1 4 6 ∨ WayIs p m 1 false 2 4 2 ∨ WayIs p m 2 true 4 60 62 ∨ WayIs p m 3 true 8 60 58) := by
 unfold WayIs
 cases hk : decide (absP (p.zs.getD m.a.toNat 0) = 6) with
 | false => exact absurd (by unfold wayN; rw [hk]; rfl) hn
 | true =>
  refine ⟨of_decide_eq_true hk, ?_⟩
  cases n1 : (!csSkip p.bl p.ca m.a m.b false 1 4 6) with
  | true =>
   obtain ⟨e1, e2, e3, e4⟩ := sk_iff.1 n1
   exact .inl ⟨by unfold wayN; rw [hk, n1]; rfl, e1.symm, e2, e3.symm, e4.symm⟩
  | false =>
   cases n2 : (!csSkip p.bl p.ca m.a m.b false 2 4 2) with
   | true =>
    obtain ⟨e1, e2, e3, e4⟩ := sk_iff.1 n2
    exact .inr (.inl ⟨by unfold wayN; rw [hk, n1, n2]; rfl, e1.symm, e2, e3.symm, e4.symm⟩)
   | false =>
    cases n3 : (!csSkip p.bl p.ca m.a m.b true 4 60 62) with
    | true =>
     obtain ⟨e1, e2, e3, e4⟩ := sk_iff.1 n3
     exact .inr (.inr (.inl ⟨by unfold wayN; rw [hk, n1, n2, n3]; rfl, e1.symm, e2, e3.symm, e4.symm⟩))
    | false =>
     cases n4 : (!csSkip p.bl p.ca m.a m.b true 8 60 58) with
     | true =>
      obtain ⟨e1, e2, e3, e4⟩ := sk_iff.1 n4
      exact .inr (.inr (.inr ⟨by unfold wayN; rw [hk, n1, n2, n3, n4]; rfl, e1.symm, e2, e3.symm, e4.symm⟩))
     | false => exact absurd (by unfold wayN; rw [hk, n1, n2, n3, n4]; rfl) hn
section
variable {p : Psn} {m : Mov}
theorem MvOk.kU (o : MvOk p m) : ∃ K : Nat, K < p.zs.length ∧ p.zs.getD K 0 = kgP p.bl ∧ refKing p.zs p.bl = (K : Int) ∧ ∀ i : Nat, i < p.zs.length → p.zs.getD i 0 = kgP p.bl → i = K := by
 have := o.kings
 simp only [kingsB, Bool.and_eq_true, decide_eq_true_eq] at this
 exact king_uniq o.h o.hl this.1.1
theorem MvOk.pr0 (o : MvOk p m) (hk : kind8 (p.zs.getD m.a.toNat 0) ≠ 1) : m.p = 0 := by
 have := o.so
 simp only [err3, Bool.or_eq_false_iff] at this
 have hg := goes_eq (bl := p.bl) (_ca := p.ca) (pa := p.pa) (pr := m.p) o.h o.hl o.ha o.hb o.hp
 rw [decide_eq_false hk, cond_false] at hg
 rw [hg] at this
 by_cases h : m.p = 0
 ·exact h
 ·rw [decide_eq_false h] at this; simp at this
theorem MvOk.wayg (o : MvOk p m) (hn : wayN p.zs p.bl p.ca m.a m.b ≠ 4) : kind8 (p.zs.getD m.a.toNat 0) = 6 ∧ m.p = 0 ∧ goesB p.f p.r p.zs p.bl p.pa m.a m.b m.p = false := by
 obtain ⟨hk6, hsq⟩ := way_is hn
 have hk : kind8 (p.zs.getD m.a.toNat 0) = 6 := by rw [← o.kd]; exact hk6
 have hp0 : m.p = 0 := o.pr0 (by rw [hk]; decide)
 refine ⟨hk, hp0, ?_⟩
 rw [goes_eq (_ca := p.ca) o.h o.hl o.ha o.hb o.hp, hk, hp0]
 simp only [decide_true, Bool.true_and]
 cases hr : reachesB p.f p.r 6 m.a m.b (occL p.zs) with
 | false => rfl
 | true =>
  exfalso
  have hd := reaches_king o.ha o.hb hr
  obtain ⟨h88, _⟩ := cast_88 (a := m.a) (b := m.b) (bl := p.bl) o.bd o.cast hn
  simp only [is88, Bool.and_eq_true, decide_eq_true_eq] at h88
  rw [h88.1] at hd
  rcases hsq with ⟨_, _, _, e1, e2⟩ | ⟨_, _, _, e1, e2⟩ | ⟨_, _, _, e1, e2⟩ | ⟨_, _, _, e1, e2⟩ <;> rw [e1, e2] at hd <;> exact absurd hd (by decide)
theorem MvOk.way (o : MvOk p m) (hw : wayB p.f p.r p.zs (wayN p.zs p.bl p.ca m.a m.b) = true) : kind8 (p.zs.getD m.a.toNat 0) = 6 ∧ m.p = 0 ∧ goesB p.f p.r p.zs p.bl p.pa m.a m.b m.p = false ∧
  (cgL p.f p.r p.zs p.bl p.ca m.a m.b m.p ≠ 0) ∧ sqW (cgL p.f p.r p.zs p.bl p.ca m.a m.b m.p) 2 = wCor (wayN p.zs p.bl p.ca m.a m.b) ∧ sqW (cgL p.f p.r p.zs p.bl p.ca m.a m.b m.p) 3 = wCro (wayN p.zs p.bl p.ca m.a m.b) := by
 have hn : wayN p.zs p.bl p.ca m.a m.b ≠ 4 := by intro e; rw [e] at hw; simp [wayB] at hw
 obtain ⟨hk, hp0, hg⟩ := o.wayg hn
 obtain ⟨w1, w2⟩ := way_cg (bl := p.bl) (b := m.b) (pr := m.p) o.h o.hl o.cast o.ca o.sq.1.1 o.sq.1.2
 rw [hw, hp0] at w1
 rw [hp0] at w2 hg ⊢
 have hc : (!decide (cgL p.f p.r p.zs p.bl p.ca m.a m.b 0 = 0)) = true := w1
 obtain ⟨s1, s2, _⟩ := w2 hc
 exact ⟨hk, rfl, hg, by simpa using hc, s1, s2⟩
theorem MvOk.noway (o : MvOk p m) (hw : wayB p.f p.r p.zs (wayN p.zs p.bl p.ca m.a m.b) = false) : cgL p.f p.r p.zs p.bl p.ca m.a m.b m.p = 0 := by
 obtain ⟨w1, _⟩ := way_cg (bl := p.bl) (b := m.b) (pr := m.p) o.h o.hl o.cast o.ca o.sq.1.1 o.sq.1.2
 rw [hw, Bool.and_false] at w1
 simpa using w1
theorem sgn_own {n : Int} {bl : Bool} (h : isP n bl = true) : sgn n = sdI bl := by rw [isP_sgn] at h; exact of_decide_eq_true h
theorem MvOk.af (o : MvOk p m) : afZ p.f p.r p.zs p.bl p.ca p.pa m.a m.b m.p = zs3R p.f p.r p.zs p.bl p.ca p.pa m.a m.b m.p := by
 have h1 : afZ1 p.f p.r p.zs p.pa m.a m.b = zs1R p.f p.zs p.pa m.a m.b := by unfold afZ1 zs1R; rw [o.cap.1]
 have h2 : afZ2 p.f p.r p.zs p.pa m.a m.b = zs2R p.f p.zs p.pa m.a m.b := by unfold afZ2 zs2R; rw [h1]
 unfold afZ zs3R putR afZ3
 rw [h2]
 by_cases hp : m.p = 0
 ·rw [hp]
  simp only [decide_true, Bool.not_true, Bool.false_and, cond_false]
  cases hw : wayB p.f p.r p.zs (wayN p.zs p.bl p.ca m.a m.b) with
  | true =>
   obtain ⟨_, _, g, c, s1, s2⟩ := o.way hw
   rw [hp] at g c s1 s2
   unfold cstR afZ4
   rw [hw, g, s1, s2, decide_eq_false c]; rfl
  | false =>
   have hc := o.noway hw
   rw [hp] at hc
   unfold cstR afZ4
   rw [hw, hc]; rfl
 ·have hpr : 2 ≤ m.p ∧ m.p ≤ 5 := o.hpr.resolve_left hp
  have hc : cgL p.f p.r p.zs p.bl p.ca m.a m.b m.p = 0 := by unfold cgL; rw [decide_eq_false hp]; simp
  rw [hc, decide_eq_false hp]
  simp only [Bool.not_false, Bool.true_and, cond_true]
  have hs := sgn_own o.hp
  unfold afZ4
  rw [hs]
  cases p.bl with
  | true =>
   have : w8 (m.p * w8 (sdI true)) = w8 (0 - m.p) := by
    rw [show w8 (sdI true) = -1 by decide]; congr 1; omega
   rw [this]; rfl
  | false =>
   have : w8 (m.p * w8 (sdI false)) = m.p := by
    rw [show w8 (sdI false) = 1 by decide, Int.mul_one]; exact w8_in (by omega) (by omega)
   rw [this]; rfl
end
end Go.Ab

set_option maxRecDepth 100000
namespace Go.Ab
open Go.Proofs
section
variable {p : Psn} {m : Mov}
theorem can_mvok (o : PsH p) (h : canM p m.a m.b m.p = true) : MvOk p m := by
 unfold canM at h
 simp only [Bool.and_eq_true, Bool.not_eq_true'] at h
 obtain ⟨⟨hmv, hp⟩, he⟩ := h
 simp only [mvB, Bool.and_eq_true, Bool.or_eq_true, decide_eq_true_eq, Bool.not_eq_true', decide_eq_false_iff_not] at hmv
 obtain ⟨⟨⟨ha, hb⟩, hab⟩, hpr⟩ := hmv
 exact ⟨o.h, o.hl, o.ok, o.ca, ha, hb, hab, hpr, hp, he⟩
theorem imax_or (x y : Int) : imax true x y = x ∨ imax true x y = y := by
 unfold imax
 dsimp only
 cases decide (x < y)
 ·exact .inl rfl
 ·exact .inr rfl
theorem abs_ge {n : Int} (h1 : -8 ≤ n) (h2 : n ≤ 8) : n ≤ absI n ∧ -n ≤ absI n := by
 unfold absI
 by_cases h : n < 0
 ·rw [decide_eq_true h, cond_true, w64_id (by omega) (by omega)]; omega
 ·rw [decide_eq_false h, cond_false]; omega
theorem dist_one {f r a b : Int} (ha : validB f r a = true) (hb : validB f r b = true) : ∃ d : Int, sdist ⟨f, r⟩ a b = some (d, 0) ∧ (distR f a b = 1 → d ≠ 2) := by
 obtain ⟨a0, a1, a2, a3, a4, a5, a6, a7, a8, a9⟩ := px_bd ha
 obtain ⟨b0, b1, b2, b3, b4, b5, _⟩ := px_bd hb
 have pa : placeR f r a = (px f a, py f a, 0) := by unfold placeR; rw [ha, cond_true, a0]
 have pb : placeR f r b = (px f b, py f b, 0) := by unfold placeR; rw [hb, cond_true, b0]
 refine ⟨imax true (imax true (imax true (IntKind.i64.wrap (px f a - px f b)) (IntKind.i64.wrap (px f b - px f a))) (IntKind.i64.wrap (py f a - py f b))) (IntKind.i64.wrap (py f b - py f a)), ?_, ?_⟩
 ·unfold sdist
  rw [pa, pb]
  rfl
 ·intro h hd
  unfold distR at h
  rw [a0, b0, show a.tmod f = px f a from rfl, show b.tmod f = px f b from rfl, w64_id (n := py f a - py f b) (by omega) (by omega), w64_id (n := px f a - px f b) (by omega) (by omega)] at h
  rw [w64_id (n := px f a - px f b) (by omega) (by omega), w64_id (n := px f b - px f a) (by omega) (by omega), w64_id (n := py f a - py f b) (by omega) (by omega), w64_id (n := py f b - py f a) (by omega) (by omega)] at hd
  have gx := abs_ge (n := px f a - px f b) (by omega) (by omega)
  have gy := abs_ge (n := py f a - py f b) (by omega) (by omega)
  have hx : absI (px f a - px f b) ≤ 1 ∧ absI (py f a - py f b) ≤ 1 := by
   by_cases hc : absI (py f a - py f b) < absI (px f a - px f b)
   ·rw [decide_eq_true hc, cond_true] at h; omega
   ·rw [decide_eq_false hc, cond_false] at h; omega
  have o1 := imax_or (px f a - px f b) (px f b - px f a)
  have o2 := imax_or (imax true (px f a - px f b) (px f b - px f a)) (py f a - py f b)
  have o3 := imax_or (imax true (imax true (px f a - px f b) (px f b - px f a)) (py f a - py f b)) (py f b - py f a)
  omega
theorem MvOk.castles (o : MvOk p m) : ∃ d : Int, sdist ⟨p.f, p.r⟩ m.a m.b = some (d, 0) ∧ (decide (absP (p.zs.getD m.a.toNat 0) = 6) && decide (d = 2)) = !decide (cgL p.f p.r p.zs p.bl p.ca m.a m.b m.p = 0) := by
 cases hw : wayB p.f p.r p.zs (wayN p.zs p.bl p.ca m.a m.b) with
 | true =>
  have hn : wayN p.zs p.bl p.ca m.a m.b ≠ 4 := by intro e; rw [e] at hw; simp [wayB] at hw
  obtain ⟨hk, _, _, hc, _⟩ := o.way hw
  obtain ⟨h88, _⟩ := cast_88 (a := m.a) (b := m.b) (bl := p.bl) o.bd o.cast hn
  simp only [is88, Bool.and_eq_true, decide_eq_true_eq] at h88
  obtain ⟨_, hsq⟩ := way_is hn
  refine ⟨2, ?_, by rw [o.kd, decide_eq_true hk, decide_eq_false hc]; rfl⟩
  rw [h88.1, h88.2]
  rcases hsq with ⟨_, _, _, e1, e2⟩ | ⟨_, _, _, e1, e2⟩ | ⟨_, _, _, e1, e2⟩ | ⟨_, _, _, e1, e2⟩ <;> rw [e1, e2] <;> decide
 | false =>
  have hc := o.noway hw
  obtain ⟨d, h1, h2⟩ := dist_one o.ha o.hb
  refine ⟨d, h1, ?_⟩
  rw [o.kd, decide_eq_true hc]
  cases hk : decide (kind8 (p.zs.getD m.a.toNat 0) = 6) with
  | false => rfl
  | true =>
   have hk6 := of_decide_eq_true hk
   have hso := o.so
   simp only [err3, hw, Bool.not_false, Bool.true_or, Bool.and_true, Bool.or_eq_false_iff, Bool.not_eq_false'] at hso
   have hg := hso.2
   rw [goes_eq (_ca := p.ca) o.h o.hl o.ha o.hb o.hp, hk6] at hg
   have hg : (decide (m.p = 0) && reachesB p.f p.r 6 m.a m.b (occL p.zs)) = true := hg
   rw [Bool.and_eq_true] at hg
   have := h2 (reaches_king o.ha o.hb hg.2)
   rw [decide_eq_false this]; rfl
end
end Go.Ab

set_option maxRecDepth 100000
namespace Go.Ab
open Go.Proofs
theorem getD_setn {l : List Int} {j i : Nat} {v : Int} (hi : i < l.length) : (l.set j v).getD i 0 = if i = j then v else l.getD i 0 := by
 by_cases e : i = j
 ·subst e; simp [List.getD, hi]
 ·rw [if_neg e]; simp [List.getD, List.getElem?_set_ne (Ne.symm e)]
theorem orth_setn {f r : Int} {zs : List Int} {j : Nat} {v : Int} (h : orthBd f r zs = true) (hv : -6 ≤ v ∧ v ≤ 6) : orthBd f r (zs.set j v) = true := by
 have := orth_set (j := (j : Int)) h hv
 rwa [Int.toNat_natCast] at this
theorem getD_bd {f r : Int} {zs : List Int} (h : orthBd f r zs = true) (i : Nat) : -6 ≤ zs.getD i 0 ∧ zs.getD i 0 ≤ 6 := by
 by_cases hi : i < zs.length
 ·exact (orth_valid h).2.2.2 _ (getD_mem hi)
 ·simp [List.getD, List.getElem?_eq_none (by omega : zs.length ≤ i)]
theorem kind_kg {n : Int} {bl : Bool} (h : -6 ≤ n ∧ n ≤ 6) (hp : isP n bl = true) (hk : kind8 n = 6) : n = kgP bl := by
 rw [kind_abs h] at hk
 have : n = 6 ∨ n = -6 := by omega
 rcases this with rfl | rfl <;> cases bl <;> first | rfl | (revert hp; decide)
section
variable {p : Psn} {m : Mov}
theorem MvOk.z1 (o : MvOk p m) : orthBd p.f p.r (zs1R p.f p.zs p.pa m.a m.b) = true ∧ ∀ i : Nat, i < p.zs.length → (zs1R p.f p.zs p.pa m.a m.b).getD i 0 = p.zs.getD i 0 ∨ ((zs1R p.f p.zs p.pa m.a m.b).getD i 0 = 0 ∧ isP (p.zs.getD i 0) p.bl = false) := by
 unfold zs1R
 cases hc : decide (0 ≤ at2R p.f p.zs p.pa m.a m.b) with
 | false => exact ⟨o.h, fun i _ => .inl rfl⟩
 | true =>
  obtain ⟨c1, c2, c3, _⟩ := o.cap.2.1 (of_decide_eq_true hc)
  refine ⟨orth_setn o.h (by omega), fun i hi => ?_⟩
  rw [cond_true, getD_setn hi]
  by_cases e : i = (at2R p.f p.zs p.pa m.a m.b).toNat
  ·right
   rw [if_pos e, e]
   refine ⟨rfl, ?_⟩
   rw [isP_sgn] at c2 ⊢
   rw [of_decide_eq_true c2]
   cases p.bl <;> decide
  ·left; rw [if_neg e]
theorem MvOk.z2 (o : MvOk p m) : orthBd p.f p.r (zs2R p.f p.zs p.pa m.a m.b) = true ∧ ∀ i : Nat, i < p.zs.length → (zs2R p.f p.zs p.pa m.a m.b).getD i 0 = if i = m.b.toNat then p.zs.getD m.a.toNat 0 else if i = m.a.toNat then 0 else (zs1R p.f p.zs p.pa m.a m.b).getD i 0 := by
 have hl := zs1_len (f := p.f) (zs := p.zs) (pa := p.pa) (a := m.a) (b := m.b)
 refine ⟨orth_setn (orth_setn o.z1.1 (by omega)) (getD_bd o.h _), fun i hi => ?_⟩
 unfold zs2R
 rw [getD_setn (by rw [List.length_set, hl]; exact hi), getD_setn (by rw [hl]; exact hi)]
theorem MvOk.z3 (o : MvOk p m) : orthBd p.f p.r (zs3R p.f p.r p.zs p.bl p.ca p.pa m.a m.b m.p) = true ∧ (kingR p.f p.r (zs3R p.f p.r p.zs p.bl p.ca p.pa m.a m.b m.p) p.bl).2 = 0 := by
 obtain ⟨⟨sa0, sa1⟩, ⟨sb0, sb1⟩⟩ := o.sq
 obtain ⟨z2o, z2g⟩ := o.z2
 obtain ⟨K, k1, k2, _, k4⟩ := o.kU
 have hlen := zs3_len (f := p.f) (r := p.r) (zs := p.zs) (bl := p.bl) (ca := p.ca) (pa := p.pa) (a := m.a) (b := m.b) (pr := m.p)
 have hl2 := zs2_len (f := p.f) (zs := p.zs) (pa := p.pa) (a := m.a) (b := m.b)
 have hkb : K ≠ m.b.toNat := by intro e; have h1 := own_kg p.bl; rw [← k2, e, o.nto] at h1; cases h1
 have kz : (0 : Int) ≠ kgP p.bl := by cases p.bl <;> decide
 have hK1 : (zs1R p.f p.zs p.pa m.a m.b).getD K 0 = kgP p.bl := by
  rcases o.z1.2 K k1 with h | ⟨_, h⟩
  ·rw [h, k2]
  ·rw [k2, own_kg] at h; cases h
 have h1U : ∀ i : Nat, i < p.zs.length → (zs1R p.f p.zs p.pa m.a m.b).getD i 0 = kgP p.bl → i = K := by
  intro i hi he
  rcases o.z1.2 i hi with h | ⟨h, _⟩
  ·rw [h] at he; exact k4 i hi he
  ·rw [h] at he; exact absurd he kz
 -- a board that is like zs2R but for a piece that is put down
 have fin : ∀ (z : List Int) (v : Int), z.length = p.zs.length → (∀ i : Nat, i < p.zs.length → z.getD i 0 = if i = m.b.toNat then v else if i = m.a.toNat then 0 else (zs1R p.f p.zs p.pa m.a m.b).getD i 0) → orthBd p.f p.r z = true → (v = kgP p.bl ↔ K = m.a.toNat) → (kingR p.f p.r z p.bl).2 = 0 := by
  intro z v hzl hz hzo hv
  by_cases hKa : K = m.a.toNat
  ·refine (king_one (K := m.b.toNat) hzo (by rw [hzl]; exact o.hl) (by omega) ?_ fun i hi he => ?_).1
   ·rw [hz _ (by omega), if_pos rfl]; exact hv.2 hKa
   ·rw [hz _ (by omega)] at he
    by_cases e : i = m.b.toNat
    ·exact e
    ·rw [if_neg e] at he
     by_cases e2 : i = m.a.toNat
     ·rw [if_pos e2] at he; exact absurd he kz
     ·rw [if_neg e2] at he; exact absurd ((h1U i (by omega) he).trans hKa) e2
  ·refine (king_one (K := K) hzo (by rw [hzl]; exact o.hl) (by omega) ?_ fun i hi he => ?_).1
   ·rw [hz _ k1, if_neg hkb, if_neg hKa, hK1]
   ·rw [hz _ (by omega)] at he
    by_cases e : i = m.b.toNat
    ·rw [if_pos e] at he; exact absurd (hv.1 he) hKa
    ·rw [if_neg e] at he
     by_cases e2 : i = m.a.toNat
     ·rw [if_pos e2] at he; exact absurd he kz
     ·rw [if_neg e2] at he; exact h1U i (by omega) he
 have haK : p.zs.getD m.a.toNat 0 = kgP p.bl ↔ K = m.a.toNat := ⟨fun h => (k4 _ (by omega) h).symm, fun h => by rw [← h, k2]⟩
 unfold zs3R putR
 by_cases hp : m.p = 0
 ·rw [decide_eq_true hp]
  simp only [Bool.not_true, Bool.false_and, cond_false]
  cases hw : wayB p.f p.r p.zs (wayN p.zs p.bl p.ca m.a m.b) with
  | false =>
   unfold cstR
   rw [hw]
   exact ⟨z2o, fin _ _ hl2 z2g z2o haK⟩
  | true =>
   obtain ⟨hk6, _, g, _, _, _⟩ := o.way hw
   have hn : wayN p.zs p.bl p.ca m.a m.b ≠ 4 := by intro e; rw [e] at hw; simp [wayB] at hw
   obtain ⟨h88, h64, w1, w2, w3, w4⟩ := cast_88 (a := m.a) (b := m.b) (bl := p.bl) o.bd o.cast hn
   unfold cstR
   rw [hw, g]
   simp only [Bool.not_false, Bool.and_self, cond_true]
   have hpiece : p.zs.getD m.a.toNat 0 = kgP p.bl := kind_kg (getD_bd o.h _) o.hp hk6
   have hKa := haK.1 hpiece
   -- the rook
   have hrook : p.zs.getD (wCor (wayN p.zs p.bl p.ca m.a m.b)).toNat 0 = ofP 4 p.bl ∧ wCor (wayN p.zs p.bl p.ca m.a m.b) ≠ m.a ∧ wCor (wayN p.zs p.bl p.ca m.a m.b) ≠ m.b ∧ wCro (wayN p.zs p.bl p.ca m.a m.b) ≠ m.b ∧ wCro (wayN p.zs p.bl p.ca m.a m.b) ≠ m.a := by
    have hcs := o.cast
    simp only [castB, Bool.and_eq_true, Bool.not_eq_true', decide_eq_true_eq] at hcs
    obtain ⟨⟨⟨⟨c1, c2⟩, c3⟩, c4⟩, c5⟩ := hcs
    unfold wayN at hn ⊢
    rw [o.kd, hk6] at hn ⊢
    cases n1 : (!csSkip p.bl p.ca m.a m.b false 1 4 6) with
    | true =>
     obtain ⟨e1, e2, e3, e4⟩ := sk_iff.1 n1
     obtain ⟨_, _, _, e5⟩ := right_88 c1 e2
     rw [← e1, ← e3, ← e4]
     exact ⟨e5, show (7 : Int) ≠ 4 by decide, show (7 : Int) ≠ 6 by decide, show (5 : Int) ≠ 6 by decide, show (5 : Int) ≠ 4 by decide⟩
    | false =>
     cases n2 : (!csSkip p.bl p.ca m.a m.b false 2 4 2) with
     | true =>
      obtain ⟨e1, e2, e3, e4⟩ := sk_iff.1 n2
      obtain ⟨_, _, _, e5⟩ := right_88 c2 e2
      rw [← e1, ← e3, ← e4]
      exact ⟨e5, show (0 : Int) ≠ 4 by decide, show (0 : Int) ≠ 2 by decide, show (3 : Int) ≠ 2 by decide, show (3 : Int) ≠ 4 by decide⟩
     | false =>
      cases n3 : (!csSkip p.bl p.ca m.a m.b true 4 60 62) with
      | true =>
       obtain ⟨e1, e2, e3, e4⟩ := sk_iff.1 n3
       obtain ⟨_, _, _, e5⟩ := right_88 c3 e2
       rw [← e1, ← e3, ← e4]
       exact ⟨e5, show (63 : Int) ≠ 60 by decide, show (63 : Int) ≠ 62 by decide, show (61 : Int) ≠ 62 by decide, show (61 : Int) ≠ 60 by decide⟩
      | false =>
       cases n4 : (!csSkip p.bl p.ca m.a m.b true 8 60 58) with
       | true =>
        obtain ⟨e1, e2, e3, e4⟩ := sk_iff.1 n4
        obtain ⟨_, _, _, e5⟩ := right_88 c4 e2
        rw [← e1, ← e3, ← e4]
        exact ⟨e5, show (56 : Int) ≠ 60 by decide, show (56 : Int) ≠ 58 by decide, show (59 : Int) ≠ 58 by decide, show (59 : Int) ≠ 60 by decide⟩
       | false => rw [n1, n2, n3, n4] at hn; exact absurd rfl hn
   obtain ⟨r1, r2, r3, r4, r5⟩ := hrook
   have hro : orthBd p.f p.r (((zs2R p.f p.zs p.pa m.a m.b).set (wCro (wayN p.zs p.bl p.ca m.a m.b)).toNat ((zs2R p.f p.zs p.pa m.a m.b).getD (wCor (wayN p.zs p.bl p.ca m.a m.b)).toNat 0)).set (wCor (wayN p.zs p.bl p.ca m.a m.b)).toNat 0) = true := orth_setn (orth_setn z2o (getD_bd z2o _)) (by omega)
   refine ⟨hro, (king_one (K := m.b.toNat) hro (by simp only [List.length_set, hl2]; exact o.hl) (by simp only [List.length_set, hl2]; omega) ?_ fun i hi he => ?_).1⟩
   ·rw [getD_setn (by simp only [List.length_set, hl2]; omega), if_neg (by omega), getD_setn (by rw [hl2]; omega), if_neg (by omega), z2g _ (by omega), if_pos rfl, hpiece]
   ·simp only [List.length_set, hl2] at hi
    rw [getD_setn (by simp only [List.length_set, hl2]; omega)] at he
    by_cases e1 : i = (wCor (wayN p.zs p.bl p.ca m.a m.b)).toNat
    ·rw [if_pos e1] at he; exact absurd he kz
    ·rw [if_neg e1, getD_setn (by rw [hl2]; omega)] at he
     by_cases e2 : i = (wCro (wayN p.zs p.bl p.ca m.a m.b)).toNat
     ·exfalso
      rw [if_pos e2, z2g _ (by omega), if_neg (by omega), if_neg (by omega)] at he
      rcases o.z1.2 (wCor (wayN p.zs p.bl p.ca m.a m.b)).toNat (by omega) with h | ⟨h, _⟩
      ·rw [h, r1] at he; revert he; cases p.bl <;> decide
      ·rw [h] at he; exact kz he
     ·rw [if_neg e2, z2g _ hi] at he
      by_cases e : i = m.b.toNat
      ·exact e
      ·rw [if_neg e] at he
       by_cases e3 : i = m.a.toNat
       ·rw [if_pos e3] at he; exact absurd he kz
       ·rw [if_neg e3] at he; exact absurd ((h1U i hi he).trans hKa) e3
 ·have hpr : 2 ≤ m.p ∧ m.p ≤ 5 := o.hpr.resolve_left hp
  have hk1 : kind8 (p.zs.getD m.a.toNat 0) = 1 := by
   by_cases h : kind8 (p.zs.getD m.a.toNat 0) = 1
   ·exact h
   ·exact absurd (o.pr0 h) hp
  have hnK : ¬ K = m.a.toNat := fun e => by
   have := haK.2 e
   rw [this] at hk1
   revert hk1; cases p.bl <;> decide
  rw [decide_eq_false hp]
  simp only [Bool.not_false, Bool.true_and, cond_true]
  have hput : ∀ v : Int, -6 ≤ v ∧ v ≤ 6 → v ≠ kgP p.bl → orthBd p.f p.r ((zs2R p.f p.zs p.pa m.a m.b).set m.b.toNat v) = true ∧ (kingR p.f p.r ((zs2R p.f p.zs p.pa m.a m.b).set m.b.toNat v) p.bl).2 = 0 := by
   intro v hv hvk
   have hzo := orth_setn (j := m.b.toNat) z2o hv
   refine ⟨hzo, fin _ v (by rw [List.length_set, hl2]) (fun i hi => ?_) hzo ⟨fun h => absurd h hvk, fun h => absurd h hnK⟩⟩
   rw [getD_setn (by rw [hl2]; exact hi), z2g i hi]
   by_cases e : i = m.b.toNat <;> simp [e]
  have hkg : kgP p.bl = 6 ∨ kgP p.bl = -6 := by cases p.bl <;> simp [kgP]
  have hw : w8 (0 - m.p) = -m.p := by rw [w8_in (by omega) (by omega)]; omega
  have key : ∀ v, v = m.p ∨ v = -m.p → _ := fun v hv => hput v (by omega) (by omega)
  cases hb : p.bl with
  | true =>
   have := key (-m.p) (.inr rfl)
   rw [hb] at this
   simp only [cond_true, hw]
   exact this
  | false =>
   have := key m.p (.inl rfl)
   rw [hb] at this
   simp only [cond_false]
   exact this
theorem MvOk.safe (o : MvOk p m) : sfL p m = !err4 p m := by
 obtain ⟨z1, z2⟩ := o.z3
 have hz64 : (zs3R p.f p.r p.zs p.bl p.ca p.pa m.a m.b m.p).length ≤ 64 := by rw [zs3_len]; exact o.hl
 have hkk := o.kings
 simp only [kingsB, Bool.and_eq_true, decide_eq_true_eq] at hkk
 have hzs : (afP p m).zs = zs3R p.f p.r p.zs p.bl p.ca p.pa m.a m.b m.p := o.af
 unfold sfL err4
 rw [hzs, chk_eq z1 hz64 z2, chk_eq o.h o.hl hkk.1.1]
 cases chkB p.f p.r (zs3R p.f p.r p.zs p.bl p.ca p.pa m.a m.b m.p) p.bl with
 | true => rfl
 | false =>
  cases hw : wayB p.f p.r p.zs (wayN p.zs p.bl p.ca m.a m.b) with
  | false =>
   have : cstR p.f p.r p.zs p.bl p.ca p.pa m.a m.b m.p = false := by unfold cstR; rw [hw]; rfl
   rw [this, o.noway hw]; rfl
  | true =>
   obtain ⟨_, _, g, c, _, s2⟩ := o.way hw
   have hn : wayN p.zs p.bl p.ca m.a m.b ≠ 4 := by intro e; rw [e] at hw; simp [wayB] at hw
   obtain ⟨h88, h64, _, _, w3, w4⟩ := cast_88 (a := m.a) (b := m.b) (bl := p.bl) o.bd o.cast hn
   have hcst : cstR p.f p.r p.zs p.bl p.ca p.pa m.a m.b m.p = true := by unfold cstR; rw [hw, g]; rfl
   have hv : validB p.f p.r (wCro (wayN p.zs p.bl p.ca m.a m.b)) = true := (bd_sq o.bd).2 ⟨w3, by omega⟩
   rw [hcst, decide_eq_false c, s2]
   simp only [cond_false, Bool.false_or, Bool.true_and, Bool.not_or, Bool.not_not]
   congr 1
   unfold attackersR
   rw [o.h, hv]
   simp only [Bool.and_self, cond_true]
   rw [att_zero o.h o.hl hv]
end
end Go.Ab

set_option maxRecDepth 100000
namespace Go.Ab
open Go.Proofs
section
variable {p : Psn} {m : Mov}
def legM (p : Psn) (m : Mov) : Bool := canM p m.a m.b m.p && !err4 p m
theorem keep_eq (hok : p.ok = true) (hmv : mvB p.f p.r m.a m.b m.p = true) : (decide (mkE5 p m = 0) || decide (mkE5 p m = 7)) = legM p m := by
 have h1 : err1 p m = false := by unfold err1; rw [hok, hmv]; rfl
 unfold mkE5 legM canM
 rw [h1, hmv]
 cases isP (p.zs.getD m.a.toNat 0) p.bl with
 | false => rfl
 | true =>
  have he : err3 p ⟨m.a, m.b, m.p⟩ = err3 p m := rfl
  rw [he]
  cases err3 p m with
  | true => rfl
  | false => cases err4 p m <;> cases err5 p m <;> rfl
theorem safe_eq (o : PsH p) (hc : canM p m.a m.b m.p = true) : sfL p m = !err4 p m := (can_mvok o hc).safe
end
end Go.Ab

set_option maxRecDepth 100000
set_option maxHeartbeats 4000000
namespace Go.Ab
open Go.Proofs
variable {kCa kDb : Bool}
def keeps (p : Psn) (m : Mov) : Option (Bool) := let x5 := List.take p.zs.length (List.drop 0 p.zs); let x3 := mkE5 (Psn.mk p.f p.r x5 p.bl p.ca p.pa p.ha p.fu) (Mov.mk m.a m.b m.p); let x4 := x5.length; needO (decide (x4 ≤ 64)) (some (decide (x3 = 0) || decide (x3 = 7)))
def keeps_V (R : Bool) : V := Bb R
def keeps_N (_R : Bool) : List O := []
def c_keeps : CF
 | [.agg [.int .i64 p_0, .int .i64 p_1, .sl 0 0 p_2n none, .bool p_3, .int .u8 p_4, .int .i64 p_5, .int .i64 p_6, .int .i64 p_7], .agg [.int .i64 m_0, .int .i64 m_1, .int .i8 m_2]], [.ints false .i8 p_2] => retC (decide (p_2n = p_2.length)) (keeps ⟨p_0, p_1, p_2, p_3, p_4, p_5, p_6, p_7⟩ ⟨m_0, m_1, m_2⟩) false keeps_V keeps_N
 | _, _ => none
theorem keeps_snd (p : Psn) (m : Mov) {r} (hr : keeps p m = some r) : FnSound (GGx true kDb) PP 42 [.agg [.int .i64 p.f, .int .i64 p.r, .sl 0 0 p.zs.length none, Bb p.bl, .int .u8 p.ca, .int .i64 p.pa, .int .i64 p.ha, .int .i64 p.fu], .agg [.int .i64 m.a, .int .i64 m.b, .int .i8 m.p]] [.ints false .i8 p.zs] (keeps_V r) (keeps_N r) := by
 have hE := cutE (EE_ok (kCa := true) (kDb := kDb) (cts := [(60, c_make)]) (inl := []) ⟨c_make_ok, trivial⟩ trivial)
 refine so_fn hE 2 Tryz.func42 rfl rfl keeps_V keeps_N hr ?_ rfl rfl
 refine so_as (pl (decide_eq_true (win_len rfl)) id) ?_
 refine so_triv (Bool.not_or_self _) ?_
 refine so_triv (Bool.or_not_self _) ?_
 exact so_ret (fin_bs [] (.inr rfl) rfl rfl rfl rfl rfl)
theorem c_keeps_ok : CtOk (GGx true kDb) PP (42, c_keeps) := by
 refine ct_mk Tryz.func42 (by kernel_rfl) rfl fun a0 h0 c0 v0 N0 e hc => ?_
 unfold c_keeps at e
 split at e
 ·rename_i p_0 p_1 p_2n p_3 p_4 p_5 p_6 p_7 m_0 m_1 m_2 p_2
  obtain ⟨hl, r, hr, rfl, rfl⟩ := ret_ok e hc
  simp only [decide_eq_true_eq] at hl
  obtain rfl := hl
  exact keeps_snd ⟨p_0, p_1, p_2, p_3, p_4, p_5, p_6, p_7⟩ ⟨m_0, m_1, m_2⟩ hr
 ·cases e
def small10 (p : Psn) : Option (Bool) := some (decide (Int.ofNat p.zs.length ≤ 64))
def small10_V (R : Bool) : V := Bb R
def small10_N (_R : Bool) : List O := []
def c_small10 : CF
 | [.agg [.int .i64 p_0, .int .i64 p_1, .sl 0 0 p_2n none, .bool p_3, .int .u8 p_4, .int .i64 p_5, .int .i64 p_6, .int .i64 p_7]], [.ints false .i8 p_2] => retC (decide (p_2n = p_2.length)) (small10 ⟨p_0, p_1, p_2, p_3, p_4, p_5, p_6, p_7⟩) false small10_V small10_N
 | _, _ => none
theorem small10_snd (p : Psn) {r} (hr : small10 p = some r) : FnSound (GGx kCa kDb) PP 8 [.agg [.int .i64 p.f, .int .i64 p.r, .sl 0 0 p.zs.length none, Bb p.bl, .int .u8 p.ca, .int .i64 p.pa, .int .i64 p.ha, .int .i64 p.fu]] [.ints false .i8 p.zs] (small10_V r) (small10_N r) := by
 have hE := cutE (EE_ok (kCa := kCa) (kDb := kDb) (cts := []) (inl := []) trivial trivial)
 refine so_fn hE 2 Tryz.func8 rfl rfl small10_V small10_N hr ?_ rfl rfl
 exact so_ret (fin_bs [] (.inr rfl) rfl rfl rfl rfl rfl)
theorem c_small10_ok : CtOk (GGx kCa kDb) PP (8, c_small10) := by
 refine ct_mk Tryz.func8 (by kernel_rfl) rfl fun a0 h0 c0 v0 N0 e hc => ?_
 unfold c_small10 at e
 split at e
 ·rename_i p_0 p_1 p_2n p_3 p_4 p_5 p_6 p_7 p_2
  obtain ⟨hl, r, hr, rfl, rfl⟩ := ret_ok e hc
  simp only [decide_eq_true_eq] at hl
  obtain rfl := hl
  exact small10_snd ⟨p_0, p_1, p_2, p_3, p_4, p_5, p_6, p_7⟩ hr
 ·cases e
def lis (p : Psn) (m : Mov) : Option (Bool × Int) := let x6 := List.take p.zs.length (List.drop 0 p.zs); let x4 := Psn.mk p.f p.r x6 p.bl p.ca p.pa p.ha p.fu; let x5 := x6.length; needO (decide (x5 ≤ 64)) (bif !x4.ok || !mvB p.f p.r m.a m.b m.p then some (false, 2) else callO (keeps x4 (Mov.mk m.a m.b m.p)) false fun (y3 : Bool) => some (y3, 0))
def lis_V (R : Bool × Int) : V := .tup [Bb R.1, .int .i64 R.2]
def lis_N (_R : Bool × Int) : List O := []
def c_lis : CF
 | [.agg [.int .i64 p_0, .int .i64 p_1, .sl 0 0 p_2n none, .bool p_3, .int .u8 p_4, .int .i64 p_5, .int .i64 p_6, .int .i64 p_7], .agg [.int .i64 m_0, .int .i64 m_1, .int .i8 m_2]], [.ints false .i8 p_2] => retC (decide (p_2n = p_2.length)) (lis ⟨p_0, p_1, p_2, p_3, p_4, p_5, p_6, p_7⟩ ⟨m_0, m_1, m_2⟩) (false, 0) lis_V lis_N
 | _, _ => none
theorem lis_snd (p : Psn) (m : Mov) {r} (hr : lis p m = some r) : FnSound (GGx true kDb) PP 21 [.agg [.int .i64 p.f, .int .i64 p.r, .sl 0 0 p.zs.length none, Bb p.bl, .int .u8 p.ca, .int .i64 p.pa, .int .i64 p.ha, .int .i64 p.fu], .agg [.int .i64 m.a, .int .i64 m.b, .int .i8 m.p]] [.ints false .i8 p.zs] (lis_V r) (lis_N r) := by
 have hE := cutE (EE_ok (kCa := true) (kDb := kDb) (cts := [(40, c_pvalid), (42, c_keeps), (56, c_mvalid)]) (inl := []) ⟨c_pvalid_ok, c_keeps_ok, c_mvalid_ok, trivial⟩ trivial)
 refine so_fn hE 2 Tryz.func21 rfl rfl lis_V lis_N hr ?_ rfl rfl
 refine so_as (pl (decide_eq_true (win_len rfl)) id) ?_
 refine so_triv (Bool.not_or_self _) ?_
 refine so_triv (Bool.not_or_self _) ?_
 refine so_triv (Bool.not_or_self _) ?_
 refine so_triv (pg rfl) ?_
 refine so_triv (Bool.not_or_self _) ?_
 refine so_triv (Bool.or_not_self _) ?_
 refine so_split hE 2 rfl ?_ ?_
 ·exact so_ret (fin_bs [] (.inr rfl) rfl rfl rfl rfl rfl)
 refine so_callas (pl (decide_eq_true (win_len rfl)) id) ?_
 exact so_ret (fin_bs [] (.inr rfl) rfl rfl rfl rfl rfl)
theorem c_lis_ok : CtOk (GGx true kDb) PP (21, c_lis) := by
 refine ct_mk Tryz.func21 (by kernel_rfl) rfl fun a0 h0 c0 v0 N0 e hc => ?_
 unfold c_lis at e
 split at e
 ·rename_i p_0 p_1 p_2n p_3 p_4 p_5 p_6 p_7 m_0 m_1 m_2 p_2
  obtain ⟨hl, r, hr, rfl, rfl⟩ := ret_ok e hc
  simp only [decide_eq_true_eq] at hl
  obtain rfl := hl
  exact lis_snd ⟨p_0, p_1, p_2, p_3, p_4, p_5, p_6, p_7⟩ ⟨m_0, m_1, m_2⟩ hr
 ·cases e
def gis (p : Psn) (m : Mov) : Option (Bool) := let x7 := List.take p.zs.length (List.drop 0 p.zs); let x5 := Psn.mk p.f p.r x7 p.bl p.ca p.pa p.ha p.fu; let x6 := x7.length; callO (uis x5 (Mov.mk m.a m.b m.p)) false fun (y4 : Bool) => needO (!y4 || decide (x6 ≤ 64) && (validBd p.f p.r x7 && castL p.f p.r x7 p.ca && validB p.f p.r m.a && validB p.f p.r m.b)) (some (y4 && sfL x5 (Mov.mk m.a m.b m.p)))
def gis_V (R : Bool) : V := Bb R
def gis_N (_R : Bool) : List O := []
def c_gis : CF
 | [.agg [.int .i64 p_0, .int .i64 p_1, .sl 0 0 p_2n none, .bool p_3, .int .u8 p_4, .int .i64 p_5, .int .i64 p_6, .int .i64 p_7], .agg [.int .i64 m_0, .int .i64 m_1, .int .i8 m_2]], [.ints false .i8 p_2] => retC (decide (p_2n = p_2.length)) (gis ⟨p_0, p_1, p_2, p_3, p_4, p_5, p_6, p_7⟩ ⟨m_0, m_1, m_2⟩) false gis_V gis_N
 | _, _ => none
theorem gis_snd (p : Psn) (m : Mov) {r} (hr : gis p m = some r) : FnSound (GGx kCa kDb) PP 23 [.agg [.int .i64 p.f, .int .i64 p.r, .sl 0 0 p.zs.length none, Bb p.bl, .int .u8 p.ca, .int .i64 p.pa, .int .i64 p.ha, .int .i64 p.fu], .agg [.int .i64 m.a, .int .i64 m.b, .int .i8 m.p]] [.ints false .i8 p.zs] (gis_V r) (gis_N r) := by
 have hE := cutE (EE_ok (kCa := kCa) (kDb := kDb) (cts := [(55, c_rsafe), (57, c_uis)]) (inl := []) ⟨c_rsafe_ok, c_uis_ok, trivial⟩ trivial)
 refine so_fn hE 2 Tryz.func23 rfl rfl gis_V gis_N hr ?_ rfl rfl
 unfold gis
 refine so_callas (pl (decide_eq_true (win_len rfl)) id) ?_
 refine so_triv (Bool.not_or_self _) ?_
 refine so_triv (Bool.not_or_self _) ?_
 refine so_as (pi (pb (pl (decide_eq_true (win_len rfl)) id) id)) ?_
 refine so_triv (Bool.not_or_self _) ?_
 exact so_ret (fin_bs [] (.inr rfl) rfl rfl rfl rfl rfl)
theorem c_gis_ok : CtOk (GGx kCa kDb) PP (23, c_gis) := by
 refine ct_mk Tryz.func23 (by kernel_rfl) rfl fun a0 h0 c0 v0 N0 e hc => ?_
 unfold c_gis at e
 split at e
 ·rename_i p_0 p_1 p_2n p_3 p_4 p_5 p_6 p_7 m_0 m_1 m_2 p_2
  obtain ⟨hl, r, hr, rfl, rfl⟩ := ret_ok e hc
  simp only [decide_eq_true_eq] at hl
  obtain rfl := hl
  exact gis_snd ⟨p_0, p_1, p_2, p_3, p_4, p_5, p_6, p_7⟩ ⟨m_0, m_1, m_2⟩ hr
 ·cases e
end Go.Ab

set_option maxRecDepth 100000
set_option maxHeartbeats 4000000
namespace Go.Ab
open Go.Proofs
noncomputable abbrev Ea : Env := EE true true [(14, c_rvalid), (133, c_Parse), (134, c_Name), (27, c_rOf), (182, c_pletter), (165, c_pparse), (132, c_cast6)] []
theorem Ea_ok : Ea.Fn PP := EE_ok ⟨c_rvalid_ok, c_Parse_ok, c_Name_ok, c_rOf_ok, c_pletter_ok, c_pparse_ok, c_cast6_ok, trivial⟩ trivial
noncomputable abbrev xsa : List (FuncId × Func) := [(36, Tryz.f36), (73, Tryz.f73), (128, Tryz.f128), (131, Tryz.f131), (130, Tryz.f130), (129, Tryz.f129), (165, Tryz.f165), (37, Tryz.f37), (74, Tryz.f74), (18, Tryz.f18), (53, Tryz.f53)]
theorem xsa_ok : InlOk PP xsa := ⟨⟨Tryz.func36, by kernel_rfl⟩, ⟨Tryz.func73, by kernel_rfl⟩, ⟨Tryz.func128, by kernel_rfl⟩, ⟨Tryz.func131, by kernel_rfl⟩, ⟨Tryz.func130, by kernel_rfl⟩, ⟨Tryz.func129, by kernel_rfl⟩, ⟨Tryz.func165, by kernel_rfl⟩, ⟨Tryz.func37, by kernel_rfl⟩, ⟨Tryz.func74, by kernel_rfl⟩, ⟨Tryz.func18, by kernel_rfl⟩, ⟨Tryz.func53, by kernel_rfl⟩, trivial⟩
noncomputable abbrev xsb : List (FuncId × Func) := [(36, Tryz.f36), (73, Tryz.f73), (128, Tryz.f128), (131, Tryz.f131), (130, Tryz.f130), (129, Tryz.f129), (165, Tryz.f165), (37, Tryz.f37), (74, Tryz.f74), (18, Tryz.f18), (53, Tryz.f53), (11, Tryz.f11), (39, Tryz.f39), (12, Tryz.f12), (17, Tryz.f17), (52, Tryz.f52)]
theorem xsb_ok : InlOk PP xsb := ⟨⟨Tryz.func36, by kernel_rfl⟩, ⟨Tryz.func73, by kernel_rfl⟩, ⟨Tryz.func128, by kernel_rfl⟩, ⟨Tryz.func131, by kernel_rfl⟩, ⟨Tryz.func130, by kernel_rfl⟩, ⟨Tryz.func129, by kernel_rfl⟩, ⟨Tryz.func165, by kernel_rfl⟩, ⟨Tryz.func37, by kernel_rfl⟩, ⟨Tryz.func74, by kernel_rfl⟩, ⟨Tryz.func18, by kernel_rfl⟩, ⟨Tryz.func53, by kernel_rfl⟩, ⟨Tryz.func11, by kernel_rfl⟩, ⟨Tryz.func39, by kernel_rfl⟩, ⟨Tryz.func12, by kernel_rfl⟩, ⟨Tryz.func17, by kernel_rfl⟩, ⟨Tryz.func52, by kernel_rfl⟩, trivial⟩
def kpB (p : Psn) (l : List (Int × Int × Bool)) : Bool := l.all fun x => match keeps p ⟨x.1, x.2.1, 0⟩ with | some b => b == x.2.2 | none => false
def kpF (l : List (Int × Int × Bool)) (m : Mov) : Option Bool := match l with
 | [] => none
 | x :: r => bif decide (m.a = x.1) && (decide (m.b = x.2.1) && decide (m.p = 0)) then some x.2.2 else kpF r m
theorem kpF_ok {p : Psn} {m : Mov} {b : Bool} : ∀ {l : List (Int × Int × Bool)}, kpB p l = true → kpF l m = some b → keeps p m = some b
 | [], _, h => by cases h
 | x :: r, h1, h2 => by
  unfold kpB at h1
  rw [List.all_cons, Bool.and_eq_true] at h1
  unfold kpF at h2
  cases hc : (decide (m.a = x.1) && (decide (m.b = x.2.1) && decide (m.p = 0))) with
  | true =>
   rw [hc, cond_true] at h2
   simp only [Bool.and_eq_true, decide_eq_true_eq] at hc
   have hm : m = ⟨x.1, x.2.1, 0⟩ := by
    rcases m with ⟨a, b, c⟩
    obtain ⟨e1, e2, e3⟩ := hc
    dsimp only at e1 e2 e3
    rw [e1, e2, e3]
   rw [hm]
   have h3 := h1.1
   cases hk : keeps p ⟨x.1, x.2.1, 0⟩ with
   | none => rw [hk] at h3; cases h3
   | some y =>
    rw [hk] at h3
    have h3 := eq_of_beq h3
    cases h2
    rw [h3]
  | false =>
   rw [hc, cond_false] at h2
   exact kpF_ok (l := r) h1.2 h2
def polS0 : List UInt8 := [56, 120, 56, 32, 114, 110, 98, 113, 107, 98, 110, 114, 47, 112, 112, 112, 112, 112, 112, 112, 112, 47, 56, 47, 56, 47, 56, 47, 56, 47, 80, 80, 80, 80, 80, 80, 80, 80, 47, 82, 78, 66, 81, 75, 66, 78, 82, 32, 119, 32, 75, 81, 107, 113, 32, 45, 32, 48, 32, 49]
def polV0 : V × List O := (.agg [I 8, I 8, .sl 0 0 64 none, .lit false, .int .u8 15, I (-1), I 0, I 1], [.ints true .i8 [4, 2, 3, 5, 6, 3, 2, 4, 1, 1, 1, 1, 1, 1, 1, 1, 0, 0, 0, 0, 0, 0, 0, 0, 0, 0, 0, 0, 0, 0, 0, 0, 0, 0, 0, 0, 0, 0, 0, 0, 0, 0, 0, 0, 0, 0, 0, 0, -1, -1, -1, -1, -1, -1, -1, -1, -4, -2, -3, -5, -6, -3, -2, -4]])
theorem polR0 : runFn { Ea with pf := pfRun Ea xsa 1000 8, cc := true } 3 1000 Tryz.f36 [.str polS0] [] = some polV0 := by kernel_rfl
def polP0 : Psn := ⟨8, 8, [4, 2, 3, 5, 6, 3, 2, 4, 1, 1, 1, 1, 1, 1, 1, 1, 0, 0, 0, 0, 0, 0, 0, 0, 0, 0, 0, 0, 0, 0, 0, 0, 0, 0, 0, 0, 0, 0, 0, 0, 0, 0, 0, 0, 0, 0, 0, 0, -1, -1, -1, -1, -1, -1, -1, -1, -4, -2, -3, -5, -6, -3, -2, -4], false, 15, -1, 0, 1⟩
def kpL0_0 : List (Int × Int × Bool) := [(1, 16, true), (1, 18, true), (6, 21, true), (6, 23, true)]
theorem kpO0_0 : kpB polP0 kpL0_0 = true := by kernel_rfl
def kpL0_1 : List (Int × Int × Bool) := [(8, 16, true), (8, 24, true), (9, 17, true), (9, 25, true)]
theorem kpO0_1 : kpB polP0 kpL0_1 = true := by kernel_rfl
def kpL0_2 : List (Int × Int × Bool) := [(10, 18, true), (10, 26, true), (11, 19, true), (11, 27, true)]
theorem kpO0_2 : kpB polP0 kpL0_2 = true := by kernel_rfl
def kpL0_3 : List (Int × Int × Bool) := [(12, 20, true), (12, 28, true), (13, 21, true), (13, 29, true)]
theorem kpO0_3 : kpB polP0 kpL0_3 = true := by kernel_rfl
def kpL0_4 : List (Int × Int × Bool) := [(14, 22, true), (14, 30, true), (15, 23, true), (15, 31, true)]
theorem kpO0_4 : kpB polP0 kpL0_4 = true := by kernel_rfl
def kpL0 : List (Int × Int × Bool) := kpL0_0 ++ kpL0_1 ++ kpL0_2 ++ kpL0_3 ++ kpL0_4
theorem kpO0 : kpB polP0 kpL0 = true := by
 unfold kpL0
 have ap : ∀ {l k : List (Int × Int × Bool)}, kpB polP0 l = true → kpB polP0 k = true → kpB polP0 (l ++ k) = true := fun h1 h2 => by unfold kpB at *; rw [List.all_append, h1, h2]; rfl
 exact ap (ap (ap (ap kpO0_0 kpO0_1) kpO0_2) kpO0_3) kpO0_4
def polS1 : List UInt8 := [52, 120, 52, 32, 49, 107, 50, 47, 49, 114, 50, 47, 49, 82, 50, 47, 49, 75, 50, 32, 119, 32, 45, 32, 45, 32, 48, 32, 49]
def polV1 : V × List O := (.agg [I 4, I 4, .sl 0 0 16 none, .lit false, .int .u8 0, I (-1), I 0, I 1], [.ints true .i8 [0, 6, 0, 0, 0, 4, 0, 0, 0, -4, 0, 0, 0, -6, 0, 0]])
theorem polR1 : runFn { Ea with pf := pfRun Ea xsa 1000 8, cc := true } 3 1000 Tryz.f36 [.str polS1] [] = some polV1 := by kernel_rfl
def polP1 : Psn := ⟨4, 4, [0, 6, 0, 0, 0, 4, 0, 0, 0, -4, 0, 0, 0, -6, 0, 0], false, 0, -1, 0, 1⟩
def kpL1_0 : List (Int × Int × Bool) := [(1, 0, true), (1, 2, true), (1, 4, true), (1, 6, true)]
theorem kpO1_0 : kpB polP1 kpL1_0 = true := by kernel_rfl
def kpL1_1 : List (Int × Int × Bool) := [(5, 4, false), (5, 6, false), (5, 7, false), (5, 9, true)]
theorem kpO1_1 : kpB polP1 kpL1_1 = true := by kernel_rfl
def kpL1 : List (Int × Int × Bool) := kpL1_0 ++ kpL1_1
theorem kpO1 : kpB polP1 kpL1 = true := by
 unfold kpL1
 have ap : ∀ {l k : List (Int × Int × Bool)}, kpB polP1 l = true → kpB polP1 k = true → kpB polP1 (l ++ k) = true := fun h1 h2 => by unfold kpB at *; rw [List.all_append, h1, h2]; rfl
 exact ap kpO1_0 kpO1_1
def polS2 : List UInt8 := [51, 120, 51, 32, 107, 81, 49, 47, 51, 47, 75, 50, 32, 98, 32, 45, 32, 45, 32, 48, 32, 49]
def polV2 : V × List O := (.agg [I 3, I 3, .sl 0 0 9 none, .lit true, .int .u8 0, I (-1), I 0, I 1], [.ints true .i8 [6, 0, 0, 0, 0, 0, -6, 5, 0]])
theorem polR2 : runFn { Ea with pf := pfRun Ea xsa 1000 8, cc := true } 3 1000 Tryz.f36 [.str polS2] [] = some polV2 := by kernel_rfl
def polP2 : Psn := ⟨3, 3, [6, 0, 0, 0, 0, 0, -6, 5, 0], true, 0, -1, 0, 1⟩
def kpL2_0 : List (Int × Int × Bool) := [(6, 3, false), (6, 4, false), (6, 7, true)]
theorem kpO2_0 : kpB polP2 kpL2_0 = true := by kernel_rfl
def kpL2 : List (Int × Int × Bool) := kpL2_0
theorem kpO2 : kpB polP2 kpL2 = true := by
 unfold kpL2
 exact kpO2_0
def polS3 : List UInt8 := [51, 120, 51, 32, 107, 50, 47, 49, 81, 49, 47, 75, 50, 32, 98, 32, 45, 32, 45, 32, 48, 32, 49]
def polV3 : V × List O := (.agg [I 3, I 3, .sl 0 0 9 none, .lit true, .int .u8 0, I (-1), I 0, I 1], [.ints true .i8 [6, 0, 0, 0, 5, 0, -6, 0, 0]])
theorem polR3 : runFn { Ea with pf := pfRun Ea xsa 1000 8, cc := true } 3 1000 Tryz.f36 [.str polS3] [] = some polV3 := by kernel_rfl
def polP3 : Psn := ⟨3, 3, [6, 0, 0, 0, 5, 0, -6, 0, 0], true, 0, -1, 0, 1⟩
def kpL3_0 : List (Int × Int × Bool) := [(6, 3, false), (6, 4, false), (6, 7, false)]
theorem kpO3_0 : kpB polP3 kpL3_0 = true := by kernel_rfl
def kpL3 : List (Int × Int × Bool) := kpL3_0
theorem kpO3 : kpB polP3 kpL3 = true := by
 unfold kpL3
 exact kpO3_0
def polS4 : List UInt8 := [51, 120, 51, 32, 107, 50, 47, 50, 81, 47, 49, 75, 49, 32, 98, 32, 45, 32, 45, 32, 48, 32, 49]
def polV4 : V × List O := (.agg [I 3, I 3, .sl 0 0 9 none, .lit true, .int .u8 0, I (-1), I 0, I 1], [.ints true .i8 [0, 6, 0, 0, 0, 5, -6, 0, 0]])
theorem polR4 : runFn { Ea with pf := pfRun Ea xsa 1000 8, cc := true } 3 1000 Tryz.f36 [.str polS4] [] = some polV4 := by kernel_rfl
def polP4 : Psn := ⟨3, 3, [0, 6, 0, 0, 0, 5, -6, 0, 0], true, 0, -1, 0, 1⟩
def kpL4_0 : List (Int × Int × Bool) := [(6, 3, false), (6, 4, false), (6, 7, false)]
theorem kpO4_0 : kpB polP4 kpL4_0 = true := by kernel_rfl
def kpL4 : List (Int × Int × Bool) := kpL4_0
theorem kpO4 : kpB polP4 kpL4 = true := by
 unfold kpL4
 exact kpO4_0
def polT (s : List UInt8) : Option (V × List O) := if s = polS0 then some polV0 else if s = polS1 then some polV1 else if s = polS2 then some polV2 else if s = polS3 then some polV3 else if s = polS4 then some polV4 else none
theorem polT_ok {s : List UInt8} {x : V × List O} (h : polT s = some x) : FnSound (GGx true true) PP 36 [.str s] [] x.1 x.2 := by
 unfold polT at h
 by_cases e0 : s = polS0
 ·rw [if_pos e0] at h; cases h; subst e0; exact run_ct Ea_ok xsa_ok 1000 8 Tryz.func36 polR0
 rw [if_neg e0] at h
 by_cases e1 : s = polS1
 ·rw [if_pos e1] at h; cases h; subst e1; exact run_ct Ea_ok xsa_ok 1000 8 Tryz.func36 polR1
 rw [if_neg e1] at h
 by_cases e2 : s = polS2
 ·rw [if_pos e2] at h; cases h; subst e2; exact run_ct Ea_ok xsa_ok 1000 8 Tryz.func36 polR2
 rw [if_neg e2] at h
 by_cases e3 : s = polS3
 ·rw [if_pos e3] at h; cases h; subst e3; exact run_ct Ea_ok xsa_ok 1000 8 Tryz.func36 polR3
 rw [if_neg e3] at h
 by_cases e4 : s = polS4
 ·rw [if_pos e4] at h; cases h; subst e4; exact run_ct Ea_ok xsa_ok 1000 8 Tryz.func36 polR4
 rw [if_neg e4] at h
 cases h
def c_pos10 : CF
 | [.str s], [] => match polT s with
  | some x => some (true, x.1, x.2)
  | none => none
 | _, _ => none
theorem c_pos10_ok : CtOk (GGx true true) PP (36, c_pos10) := by
 refine ct_mk Tryz.func36 (by kernel_rfl) rfl fun a0 h0 c0 v0 N0 e hc => ?_
 unfold c_pos10 at e
 split at e
 ·split at e
  ·rename_i h
   cases e
   exact polT_ok h
  ·cases e
 ·cases e
theorem eqB_eq {p q : Psn} (h : equalB p q = true) : p = q := by
 simp only [equalB, sameB, Bool.and_eq_true, decide_eq_true_eq, beq_iff_eq] at h
 obtain ⟨⟨⟨⟨⟨⟨⟨h1, h2⟩, h3⟩, h4⟩, h5⟩, h6⟩, h7⟩, h8⟩ := h
 rcases p with ⟨a, b, c, d, e, f, g, i⟩
 rcases q with ⟨a', b', c', d', e', f', g', i'⟩
 dsimp only at h1 h2 h3 h4 h5 h6 h7 h8
 subst h1 h2 h3 h4 h5 h6 h7 h8; rfl
def kpT (p : Psn) (m : Mov) : Option Bool := bif equalB p polP0 then kpF kpL0 m else bif equalB p polP1 then kpF kpL1 m else bif equalB p polP2 then kpF kpL2 m else bif equalB p polP3 then kpF kpL3 m else bif equalB p polP4 then kpF kpL4 m else none
theorem kpT_ok {p : Psn} {m : Mov} {b : Bool} (h : kpT p m = some b) : keeps p m = some b := by
 unfold kpT at h
 cases e0 : equalB p polP0 with
 | true =>
  rw [e0, cond_true] at h
  rw [eqB_eq e0]; exact kpF_ok kpO0 h
 | false =>
 rw [e0, cond_false] at h
 cases e1 : equalB p polP1 with
 | true =>
  rw [e1, cond_true] at h
  rw [eqB_eq e1]; exact kpF_ok kpO1 h
 | false =>
 rw [e1, cond_false] at h
 cases e2 : equalB p polP2 with
 | true =>
  rw [e2, cond_true] at h
  rw [eqB_eq e2]; exact kpF_ok kpO2 h
 | false =>
 rw [e2, cond_false] at h
 cases e3 : equalB p polP3 with
 | true =>
  rw [e3, cond_true] at h
  rw [eqB_eq e3]; exact kpF_ok kpO3 h
 | false =>
 rw [e3, cond_false] at h
 cases e4 : equalB p polP4 with
 | true =>
  rw [e4, cond_true] at h
  rw [eqB_eq e4]; exact kpF_ok kpO4 h
 | false =>
 rw [e4, cond_false] at h
 cases h
def c_kpT : CF
 | [.agg [.int .i64 f, .int .i64 r, .sl 0 0 len none, .bool bl, .int .u8 ca, .int .i64 pa, .int .i64 ha, .int .i64 fu], .agg [.int .i64 a, .int .i64 b, .int .i8 pr]], [.ints false .i8 zs] => match kpT ⟨f, r, zs, bl, ca, pa, ha, fu⟩ ⟨a, b, pr⟩ with
  | some x => some (decide (len = zs.length), keeps_V x, keeps_N x)
  | none => none
 | _, _ => none
theorem c_kpT_ok : CtOk (GGx true true) PP (42, c_kpT) := by
 refine ct_mk Tryz.func42 (by kernel_rfl) rfl fun a0 h0 c0 v0 N0 e hc => ?_
 unfold c_kpT at e
 split at e
 ·rename_i f r len bl ca pa ha fu a b pr zs
  split at e
  ·rename_i x h
   cases e
   rw [decide_eq_true_eq] at hc
   subst hc
   exact keeps_snd ⟨f, r, zs, bl, ca, pa, ha, fu⟩ ⟨a, b, pr⟩ (kpT_ok h)
  ·cases e
 ·cases e
noncomputable abbrev Eb : Env := EE true true [(42, c_kpT), (38, c_pmoves), (41, c_pfrom), (40, c_pvalid), (36, c_pos10), (134, c_Name), (182, c_pletter), (71, c_valid), (99, c_vs)] []
theorem Eb_ok : Eb.Fn PP := EE_ok ⟨c_kpT_ok, c_pmoves_ok, c_pfrom_ok, c_pvalid_ok, c_pos10_ok, c_Name_ok, c_pletter_ok, c_valid_ok, c_vs_ok, trivial⟩ trivial
theorem run10 : runFn { Eb with pf := pfRun Eb xsb 1000 8, cc := true } 3 1000 Tryz.f9 [] [] = some (.lit true, []) := by kernel_rfl
def c_known10 : CF
 | [], [] => some (true, .bool true, [])
 | _, _ => none
theorem c_known10_ok : CtOk (GGx true true) PP (9, c_known10) := by
 refine ct_mk Tryz.func9 (by kernel_rfl) rfl fun a0 h0 c0 v0 N0 e hc => ?_
 unfold c_known10 at e
 split at e
 ·cases e
  exact FnSound.like (run_ct Eb_ok xsb_ok 1000 8 Tryz.func9 run10) (fun _ _ h => h)
 ·cases e
end Go.Ab

set_option maxRecDepth 100000
set_option maxHeartbeats 4000000
namespace Go.Ab
open Go.Proofs
variable {kCa kDb : Bool}
def lawLI (p : Psn) (m : Mov) : Option (Bool) := let x7 := List.take p.zs.length (List.drop 0 p.zs); let x5 := Psn.mk p.f p.r x7 p.bl p.ca p.pa p.ha p.fu; let x6 := x7.length; callO (small10 x5) false fun (y2 : Bool) => bif !y2 then some true else callO (lis x5 (Mov.mk m.a m.b m.p)) (false, 0) fun (y3 : Bool × Int) => needO (decide (x6 ≤ 64)) (bif !validL x5 || !mvB p.f p.r m.a m.b m.p then some (!y3.1 && decide (y3.2 = 2) && true) else callO (gis x5 (Mov.mk m.a m.b m.p)) false fun (y4 : Bool) => some (y3.1 == y4 && decide (y3.2 = 0) && true))
def lawLI_V (R : Bool) : V := Bb R
def lawLI_N (_R : Bool) : List O := []
theorem lawLI_snd (p : Psn) (m : Mov) {r} (hr : lawLI p m = some r) : FnSound (GGx true true) PP 5 [.agg [.int .i64 p.f, .int .i64 p.r, .sl 0 0 p.zs.length none, Bb p.bl, .int .u8 p.ca, .int .i64 p.pa, .int .i64 p.ha, .int .i64 p.fu], .agg [.int .i64 m.a, .int .i64 m.b, .int .i8 m.p]] [.ints false .i8 p.zs] (lawLI_V r) (lawLI_N r) := by
 have hE := cutE (EE_ok (kCa := true) (kDb := true) (cts := [(8, c_small10), (9, c_known10), (14, c_rvalid), (21, c_lis), (22, c_rmvalid), (23, c_gis)]) (inl := []) ⟨c_small10_ok, c_known10_ok, c_rvalid_ok, c_lis_ok, c_rmvalid_ok, c_gis_ok, trivial⟩ trivial)
 refine so_fn hE 2 Tryz.func5 rfl rfl lawLI_V lawLI_N hr ?_ rfl rfl
 unfold lawLI
 refine so_callas (pl (decide_eq_true (win_len rfl)) id) ?_
 refine so_split hE 2 rfl ?_ ?_
 ·refine so_triv rfl ?_
  exact so_ret (fin_bs [] (.inr rfl) rfl rfl rfl rfl rfl)
 refine so_callas (pl (decide_eq_true (win_len rfl)) id) ?_
 refine so_as (pl (decide_eq_true (win_len rfl)) id) ?_
 refine so_triv (Bool.not_or_self _) ?_
 refine so_triv (Bool.not_or_self _) ?_
 refine so_triv (Bool.not_or_self _) ?_
 refine so_triv (pg rfl) ?_
 refine so_triv (Bool.not_or_self _) ?_
 refine so_triv (Bool.or_not_self _) ?_
 refine so_split hE 2 rfl ?_ ?_
 ·refine so_triv (Bool.not_or_self _) ?_
  refine so_triv (Bool.not_or_self _) ?_
  refine so_triv (pg rfl) ?_
  refine so_triv (Bool.not_or_self _) ?_
  exact so_ret (fin_bs [] (.inr rfl) rfl rfl rfl rfl rfl)
 refine so_callas (pl (decide_eq_true (win_len rfl)) id) ?_
 refine so_triv (Bool.not_or_self _) ?_
 refine so_triv (Bool.not_or_self _) ?_
 refine so_triv (pg rfl) ?_
 refine so_triv (Bool.not_or_self _) ?_
 exact so_ret (fin_bs [] (.inr rfl) rfl rfl rfl rfl rfl)
end Go.Ab

set_option maxRecDepth 100000
namespace Go.Ab
open Go.Proofs
section
variable {p : Psn} {m : Mov}
theorem lis_eq (hl : p.zs.length ≤ 64) (hok : p.ok = true) (hmv : mvB p.f p.r m.a m.b m.p = true) : lis p m = some (legM p m, 0) := by
 have h1 : decide (p.zs.length ≤ 64) = true := by simpa using hl
 have hm : (⟨m.a, m.b, m.p⟩ : Mov) = m := rfl
 unfold lis keeps
 simp only [List.drop_zero, List.take_length, psn_eta', hm, h1, hok, hmv, needO_true, Bool.not_true, Bool.or_self, cond_false, callO_some]
 rw [keep_eq hok hmv]
theorem lis_bad (hl : p.zs.length ≤ 64) (h : (!p.ok || !mvB p.f p.r m.a m.b m.p) = true) : lis p m = some (false, 2) := by
 have h1 : decide (p.zs.length ≤ 64) = true := by simpa using hl
 unfold lis
 simp only [List.drop_zero, List.take_length, psn_eta', h1, h, needO_true, cond_true]
theorem gis_eq (o : PsH p) (hmv : mvB p.f p.r m.a m.b m.p = true) : gis p m = some (legM p m) := by
 have h1 : decide (p.zs.length ≤ 64) = true := by simpa using o.hl
 have hm : (⟨m.a, m.b, m.p⟩ : Mov) = m := rfl
 unfold gis legM
 simp only [List.drop_zero, List.take_length, psn_eta', hm, h1, uis_eq o hmv, callO_some]
 cases hc : canM p m.a m.b m.p with
 | false => rfl
 | true =>
  have k := can_mvok o hc
  have hv : (validBd p.f p.r p.zs && castL p.f p.r p.zs p.ca && validB p.f p.r m.a && validB p.f p.r m.b) = true := by rw [k.bd, cast_eq k.ca, k.cast, k.ha, k.hb]; rfl
  simp only [hv, Bool.and_self, Bool.or_true, needO_true, Bool.true_and, safe_eq o hc]
theorem lawLI_true (hca : 0 ≤ p.ca) : lawLI p m = some true := by
 unfold lawLI
 simp only [List.drop_zero, List.take_length, psn_eta']
 rw [show small10 p = some (decide (Int.ofNat p.zs.length ≤ 64)) from rfl, callO_some]
 have hm : (⟨m.a, m.b, m.p⟩ : Mov) = m := rfl
 rw [hm]
 by_cases hl : p.zs.length ≤ 64
 ·have h1 : decide (Int.ofNat p.zs.length ≤ 64) = true := by simp; omega
  have h2 : decide (p.zs.length ≤ 64) = true := by simpa using hl
  rw [h1, h2, psn_valid hl hca]
  cases hb : (!p.ok || !mvB p.f p.r m.a m.b m.p) with
  | true => rw [lis_bad hl hb]; rfl
  | false =>
   simp only [Bool.or_eq_false_iff, Bool.not_eq_false'] at hb
   have o := psh hl hca hb.1
   rw [lis_eq hl hb.1 hb.2, gis_eq o hb.2]
   simp only [Bool.not_true, cond_false, callO_some, needO_true]
   cases legM p m <;> rfl
 ·have h1 : decide (Int.ofNat p.zs.length ≤ 64) = false := by simp; omega
  rw [h1]; rfl
end
end Go.Ab
