/- Contracts of the functions that the laws reach, and plain laws of what they compute (text G12); no condition. -/
import Derived.Test.YtjfeochdckkdeaaGreatDoorG11
import Derived.Test.YtjfeochdckkdeaaGreatDoorG9
import Derived.Test.YtjfeochdckkdeaaGreatDoorG10
import Derived.Test.YtjfeochdckkdeaaGreatDoorG8
import Derived.Test.YtjfeochdckkdeaaGreatDoorG4
import Derived.Test.YtjfeochdckkdeaaGreatDoorG7
set_option maxRecDepth 100000
set_option maxHeartbeats 4000000
namespace Go.Ab
open Go.Proofs
section
variable {kCa kDb : Bool}
end
section
theorem cQ (q : Psn) : (⟨q.f, q.r, q.zs, q.bl, q.ca, q.pa, q.ha, q.fu⟩ : Psn) = q := rfl
theorem rH (p : Psn) : dX p p = true := by simp [dX, BQ]
section
variable {p : Psn}
theorem JC (o : PsH p) {m : Mov} (hmv : mvB p.f p.r m.a m.b m.p = true) : uis p m = some (canM p m.a m.b m.p) := by
 have hmv' := hmv
 simp only [mvB, Bool.and_eq_true] at hmv'
 obtain ⟨⟨⟨ha, hb⟩, _⟩, _⟩ := hmv'
 have hA := (bL o.bd).1 ha
 have h1 : (decide (0 <= m.a) && decide (m.a < Int.ofNat p.zs.length)) = true := by simp; omega
 have h2 : decide (p.zs.length <= 64) = true := by simpa using o.hl
 have h3 : (!decide (p.zs.getD m.a.toNat 0 = 0) && decide (p.zs.getD m.a.toNat 0 < 0) == p.bl) = isP (p.zs.getD m.a.toNat 0) p.bl := Gh _ _
 unfold uis canM
 simp only [List.drop_zero, List.take_length, h1, h2, h3, o.bd, cast_eq o.ca, o.cast, ha, hb, hmv, Bool.and_self, Bool.or_true, aQ]
 cases hi : isP (p.zs.getD m.a.toNat 0) p.bl with
 | false => rfl
 | true => rw [KP o.h o.hl o.cast o.ca ha hb hi]; rfl
theorem Gb {a b pr : Int} (h : mvB p.f p.r a b pr = false) : canM p a b pr = false := by unfold canM; rw [h]; rfl
theorem lQ (o : PsH p) {a i : Int} {s : List (List Int) × Int} {acc : List (List Int)} (h : acc.length <= 100000) (h0 : 0 <= i) (h5 : i < 5) :
  dH p a s (acc, i) = some (.inl (acc ++ (bif canM p a s.2 (prs.getD i.toNat 0) then [[a, s.2, prs.getD i.toNat 0]] else []), i + 1)) := by
 have h1 : decide (i < Int.ofNat 5) = true := by rw [decide_eq_true_eq]; exact h5
 have hw : IntKind.i64.wrap (i + 1) = i + 1 := aB (by omega) (by omega)
 have hp : (iL [0, 2, 3, 4, 5]).getD i.toNat 0 = prs.getD i.toNat 0 := rfl
 unfold dH
 simp only [List.drop_zero, List.take_length, cQ, h1, decide_eq_true h0, hw, hp, cond_true, aQ, Bool.and_self, CT h]
 cases hm : mvB p.f p.r a s.2 (prs.getD i.toNat 0) with
 | false =>
  rw [Gb hm]
  simp only [Bool.not_false, Bool.true_or, aQ, Bool.false_and, cond_false, eZ, List.append_nil]
 | true =>
  have hu := JC o (m := ⟨a, s.2, prs.getD i.toNat 0⟩) hm
  rw [hu]
  simp only [Option.isSome_some, Bool.or_true, aQ, Bool.true_and, Option.getD_some]
  cases canM p a s.2 (prs.getD i.toNat 0) with
  | true => rfl
  | false => simp only [cond_false, eZ, List.append_nil]
theorem JZ {a : Int} {s : List (List Int) × Int} {acc : List (List Int)} : dH p a s (acc, 0 + 1 + 1 + 1 + 1 + 1) = some (.inr (.inl acc)) := by
 unfold dH
 rfl
theorem xo {a b pr : Int} : (bif canM p a b pr then [[a, b, pr]] else []).length <= 1 := by cases canM p a b pr <;> simp
theorem Am {a b : Int} : iI p a b = (bif canM p a b 0 then [[a, b, 0]] else []) ++ ((bif canM p a b 2 then [[a, b, 2]] else []) ++ ((bif canM p a b 3 then [[a, b, 3]] else []) ++ ((bif canM p a b 4 then [[a, b, 4]] else []) ++ (bif canM p a b 5 then [[a, b, 5]] else [])))) := by
 unfold iI prs
 simp only [List.filter_cons, List.filter_nil]
 cases canM p a b 0 <;> cases canM p a b 2 <;> cases canM p a b 3 <;> cases canM p a b 4 <;> cases canM p a b 5 <;> rfl
theorem sD {a b : Int} : (iI p a b).length <= 5 := by
 unfold iI
 rw [List.length_map]
 exact Nat.le_trans (List.length_filter_le _ _) (by decide)
theorem Jr (o : PsH p) {a : Int} {s : List (List Int) × Int} {F : List (List Int) -> Option (List (List Int) × Int ⊕ List (List Int) ⊕ List (List Int))} {acc : List (List Int)} (h : acc.length <= 90000) : cK (dH p a s) F 1000000 (acc, 0) = F (acc ++ iI p a s.2) := by
 rw [show (1000000 : Nat) = 999994 + 1 + 1 + 1 + 1 + 1 + 1 by rfl]
 have c0 := xo (p := p) (a := a) (b := s.2) (pr := prs.getD (0 : Int).toNat 0)
 have c1 := xo (p := p) (a := a) (b := s.2) (pr := prs.getD (0 + 1 : Int).toNat 0)
 have c2 := xo (p := p) (a := a) (b := s.2) (pr := prs.getD (0 + 1 + 1 : Int).toNat 0)
 have c3 := xo (p := p) (a := a) (b := s.2) (pr := prs.getD (0 + 1 + 1 + 1 : Int).toNat 0)
 rw [bK (lQ o (by omega) (by decide) (by decide)), bK (lQ o (by simp only [List.length_append]; omega) (by decide) (by decide)), bK (lQ o (by simp only [List.length_append]; omega) (by decide) (by decide)), bK (lQ o (by simp only [List.length_append]; omega) (by decide) (by decide)), bK (lQ o (by simp only [List.length_append]; omega) (by decide) (by decide)), fj JZ, Am]
 simp only [List.append_assoc]
 rfl
theorem Hr (o : PsH p) {a : Int} {j : Nat} (hj : j < p.zs.length) {acc : List (List Int)} (h : acc.length <= 90000) : ji p a dH (acc, (j : Int)) = some (.inl (acc ++ iI p a j, ((j + 1 : Nat) : Int))) := by
 have hl := o.hl
 have h1 : decide ((j : Int) < Int.ofNat p.zs.length) = true := by simp; omega
 unfold ji
 simp only [h1, cond_true]
 rw [Jr o h, show IntKind.i64.wrap ((j : Int) + 1) = ((j + 1 : Nat) : Int) from aB (by omega) (by omega)]
theorem Gz (o : PsH p) {a : Int} {F : List (List Int) -> Option (List (List Int))} : ∀ (k fuel j : Nat) (acc : List (List Int)), j + k = p.zs.length -> k < fuel -> acc.length + 5 * k <= 90000 ->
  cK (ji p a dH) F fuel (acc, (j : Int)) = F (acc ++ ((List.range' j k).map Int.ofNat).flatMap (iI p a))
 | k, 0, j, acc, _, h, _ => absurd h (by omega)
 | 0, fuel + 1, j, acc, h, _, _ => by
  have h1 : decide ((j : Int) < Int.ofNat p.zs.length) = false := by simp; omega
  rw [fj (x := acc)]
  ·simp
  ·unfold ji; simp only [h1, cond_false]
 | k + 1, fuel + 1, j, acc, h, hf, hM => by
  have := sD (p := p) (a := a) (b := (j : Int))
  rw [bK (Hr o (by omega) (by omega)), Gz o k fuel (j + 1) _ (by omega) (by omega) (by rw [List.length_append]; omega), List.range'_succ, List.map_cons, List.flatMap_cons, List.append_assoc]
  rfl
theorem nc {a : Int} (hl : p.zs.length <= 64) : (psL p a).length <= 320 := by
 have key : ∀ l : List Int, (l.flatMap (iI p a)).length <= 5 * l.length := by
  intro l
  induction l with
  | nil => simp
  | cons x l ih =>
   have := sD (p := p) (a := a) (b := x)
   rw [List.flatMap_cons, List.length_append, List.length_cons]
   omega
 have := key ((List.range p.zs.length).map Int.ofNat)
 rw [List.length_map, List.length_range] at this
 unfold psL
 omega
theorem Et (o : PsH p) {a : Int} : vl p a = some (psL p a) := by
 have hl := o.hl
 have := Gz o (a := a) (F := fun s => some s) p.zs.length 1000000 0 [] (by omega) (by omega) (by simp; omega)
 unfold vl psL
 rw [List.range_eq_range']
 exact this.trans (by rw [List.nil_append])
def allL (p : Psn) : List (List Int) := ((List.range p.zs.length).map Int.ofNat).flatMap (psL p)
theorem HX (o : PsH p) {a : Int} (ha : aj p.f p.r a = true) {acc : List (List Int)} (h : acc.length <= 90000) : me p ⟨p, ownS p, occR p.f p.r p.zs⟩ a acc = some (.inl (acc ++ psL p a)) := by
 have hp := nc (p := p) (a := a) o.hl
 have h2 : decide ((acc.length + (psL p a).length) * 24 <= 140737488355328) = true := by have := o.hl; simp; omega
 unfold me
 simp only [List.drop_zero, List.take_length, rX, decide_true, aQ, FB o ha, ck, h2]
 rfl
theorem DS (o : PsH p) {α : Type} {g : Int -> List α} (hg : ∀ a : Int, isP (p.zs.getD a.toNat 0) p.bl = false -> g a = []) : (bitL (ownS p)).flatMap g = ((List.range p.zs.length).map Int.ofNat).flatMap g := by
 obtain ⟨hwu, hwb⟩ := yB o.hl
 unfold bitL
 rw [nZ o.hl (fun m _ h => by rw [hwb, Bool.and_eq_true, decide_eq_true_eq] at h; exact h.1)]
 refine jE fun x hx => ?_
 obtain ⟨m, hm, rfl⟩ := List.mem_map.1 hx
 have hm := List.mem_range.1 hm
 rw [hwb, show (Int.ofNat m).toNat = m from rfl, decide_eq_true hm, Bool.true_and]
 cases h : isP (p.zs.getD m 0) p.bl with
 | true => rfl
 | false => exact (hg (Int.ofNat m) h).symm
theorem EN {a : Int} (h : isP (p.zs.getD a.toNat 0) p.bl = false) : psL p a = [] := by
 unfold psL
 rw [List.flatMap_eq_nil_iff]
 exact fun _ _ => sk h
theorem rS (o : PsH p) : gV p = some (allL p, 0) := by
 obtain ⟨hwu, hwb⟩ := yB o.hl
 have h1 : decide (p.zs.length <= 64) = true := by simpa using o.hl
 have hlen := kR (ownS p)
 unfold gV
 simp only [List.drop_zero, List.take_length, cQ, h1, o.ok, aQ, Bool.not_true, cond_false, look_eq o.hl o.bd, ck, wV hwu]
 rw [mQ (rows := psL p) (M := 90000) (k := 320) (fun x hx acc h => ?_) (fun _ _ => nc o.hl) (by simp; omega), List.nil_append, DS o (fun _ h => EN h)]
 ·rfl
 ·obtain ⟨b1, b2, b3⟩ := ES hx
  rw [hwb, Bool.and_eq_true, decide_eq_true_eq] at b3
  exact HX o ((bL o.bd).2 ⟨b1, by omega⟩) h
theorem Gq (hl : p.zs.length <= 64) (h : p.ok = false) : gV p = some ([], 2) := by
 have h1 : decide (p.zs.length <= 64) = true := by simpa using hl
 unfold gV
 simp only [List.drop_zero, List.take_length, cQ, h1, h, aQ, Bool.not_false, cond_true]
theorem pH (o : PsH p) : (allL p).length <= 100000 := by
 have key : ∀ l : List Int, (l.flatMap (psL p)).length <= 320 * l.length := by
  intro l
  induction l with
  | nil => simp
  | cons x l ih =>
   have := nc (p := p) (a := x) o.hl
   rw [List.flatMap_cons, List.length_append, List.length_cons]
   omega
 have := key ((List.range p.zs.length).map Int.ofNat)
 rw [List.length_map, List.length_range] at this
 have := o.hl
 unfold allL
 omega
end
end
section
theorem qe {f r : Int} {z : List Int} {bl : Bool} {K : Nat} (h : aL f r z = true) (hl : z.length <= 64) (hK : K < z.length) (h1 : z.getD K 0 = kgP bl) (hu : ∀ i : Nat, i < z.length -> z.getD i 0 = kgP bl -> i = K) : (cy f r z bl).2 = 0 /\ be z bl = (K : Int) := by
 have hone : gR z (kgP bl) = [(K : Int)] := qN (by simp only [jO, Int.toNat_natCast, h1, decide_true]) _ hK fun i hi hc => hu i hi (by simpa [jO] using hc)
 have hrk : be z bl = (K : Int) := by
  unfold be
  rw [Jl, hone]; rfl
 rcases qv (bl := bl) h hl with ⟨h2, _⟩ | ⟨h2, _, _⟩
 ·omega
 ·exact ⟨by rw [h2], hrk⟩
theorem Ao {f r : Int} {zs : List Int} {bl : Bool} (h : aL f r zs = true) (hl : zs.length <= 64) (hk : (cy f r zs bl).2 = 0) : ∃ K : Nat, K < zs.length /\ zs.getD K 0 = kgP bl /\ be zs bl = (K : Int) /\ ∀ i : Nat, i < zs.length -> zs.getD i 0 = kgP bl -> i = K := by
 rcases yo zs bl hl with ⟨h1, _⟩ | ⟨h1, h2, h3, h4, h5, h6⟩
 ·unfold cy at hk; rw [h, h1] at hk; cases hk
 ·refine ⟨(fZ zs bl).toNat, by omega, h5, by omega, fun i hi he => ?_⟩
  have := h6 i hi he
  omega
theorem Gf (bl : Bool) : isP (kgP bl) bl = true := by cases bl <;> decide
theorem kE {f r a b occ : Int} (_ha : aj f r a = true) (_hb : aj f r b = true) (h : bF f r 6 a b occ = true) : nX f a b = 1 := by
 unfold bF at h
 simpa using h
def BL (p : Psn) (m : Mov) (n : Nat) (bl : Bool) (bit k to : Int) : Prop := wayN p.zs p.bl p.ca m.a m.b = n /\ p.bl = bl /\ eV p.ca bit ≠ 0 /\ m.a = k /\ m.b = to
theorem FZ {p : Psn} {m : Mov} (hn : wayN p.zs p.bl p.ca m.a m.b ≠ 4) : absP (p.zs.getD m.a.toNat 0) = 6 /\ (BL p m 0 false 1 4 6 \/ BL p m 1 false 2 4 2 \/ BL p m 2 true 4 60 62 \/ BL p m 3 true 8 60 58) := by
 unfold BL
 cases hk : decide (absP (p.zs.getD m.a.toNat 0) = 6) with
 | false => exact absurd (by unfold wayN; rw [hk]; rfl) hn
 | true =>
  refine ⟨of_decide_eq_true hk, ?_⟩
  cases n1 : (!aO p.bl p.ca m.a m.b false 1 4 6) with
  | true =>
   obtain ⟨e1, e2, e3, e4⟩ := cH.1 n1
   exact .inl ⟨by unfold wayN; rw [hk, n1]; rfl, e1.symm, e2, e3.symm, e4.symm⟩
  | false =>
   cases n2 : (!aO p.bl p.ca m.a m.b false 2 4 2) with
   | true =>
    obtain ⟨e1, e2, e3, e4⟩ := cH.1 n2
    exact .inr (.inl ⟨by unfold wayN; rw [hk, n1, n2]; rfl, e1.symm, e2, e3.symm, e4.symm⟩)
   | false =>
    cases n3 : (!aO p.bl p.ca m.a m.b true 4 60 62) with
    | true =>
     obtain ⟨e1, e2, e3, e4⟩ := cH.1 n3
     exact .inr (.inr (.inl ⟨by unfold wayN; rw [hk, n1, n2, n3]; rfl, e1.symm, e2, e3.symm, e4.symm⟩))
    | false =>
     cases n4 : (!aO p.bl p.ca m.a m.b true 8 60 58) with
     | true =>
      obtain ⟨e1, e2, e3, e4⟩ := cH.1 n4
      exact .inr (.inr (.inr ⟨by unfold wayN; rw [hk, n1, n2, n3, n4]; rfl, e1.symm, e2, e3.symm, e4.symm⟩))
     | false => exact absurd (by unfold wayN; rw [hk, n1, n2, n3, n4]; rfl) hn
section
variable {p : Psn} {m : Mov}
theorem MvOk.kU (o : MvOk p m) : ∃ K : Nat, K < p.zs.length /\ p.zs.getD K 0 = kgP p.bl /\ be p.zs p.bl = (K : Int) /\ ∀ i : Nat, i < p.zs.length -> p.zs.getD i 0 = kgP p.bl -> i = K := by
 have := o.kings
 simp only [fW, Bool.and_eq_true, decide_eq_true_eq] at this
 exact Ao o.h o.hl this.1.1
theorem MvOk.pr0 (o : MvOk p m) (hk : aP (p.zs.getD m.a.toNat 0) ≠ 1) : m.p = 0 := by
 have := o.so
 simp only [err3, Bool.or_eq_false_iff] at this
 have hg := jK (bl := p.bl) (_ca := p.ca) (pa := p.pa) (pr := m.p) o.h o.hl o.ha o.hb o.hp
 rw [decide_eq_false hk, cond_false] at hg
 rw [hg] at this
 by_cases h : m.p = 0
 ·exact h
 ·rw [decide_eq_false h] at this; simp at this
theorem MvOk.wayg (o : MvOk p m) (hn : wayN p.zs p.bl p.ca m.a m.b ≠ 4) : aP (p.zs.getD m.a.toNat 0) = 6 /\ m.p = 0 /\ gS p.f p.r p.zs p.bl p.pa m.a m.b m.p = false := by
 obtain ⟨hk6, hsq⟩ := FZ hn
 have hk : aP (p.zs.getD m.a.toNat 0) = 6 := by rw [<- o.kd]; exact hk6
 have hp0 : m.p = 0 := o.pr0 (by rw [hk]; decide)
 refine ⟨hk, hp0, ?_⟩
 rw [jK (_ca := p.ca) o.h o.hl o.ha o.hb o.hp, hk, hp0]
 simp only [decide_true, Bool.true_and]
 cases hr : bF p.f p.r 6 m.a m.b (occL p.zs) with
 | false => rfl
 | true =>
  exfalso
  have hd := kE o.ha o.hb hr
  obtain ⟨h88, _⟩ := mg (a := m.a) (b := m.b) (bl := p.bl) o.bd o.cast hn
  simp only [is88, Bool.and_eq_true, decide_eq_true_eq] at h88
  rw [h88.1] at hd
  rcases hsq with ⟨_, _, _, e1, e2⟩ | ⟨_, _, _, e1, e2⟩ | ⟨_, _, _, e1, e2⟩ | ⟨_, _, _, e1, e2⟩ <;> rw [e1, e2] at hd <;> exact absurd hd (by decide)
theorem MvOk.way (o : MvOk p m) (hw : wayB p.f p.r p.zs (wayN p.zs p.bl p.ca m.a m.b) = true) : aP (p.zs.getD m.a.toNat 0) = 6 /\ m.p = 0 /\ gS p.f p.r p.zs p.bl p.pa m.a m.b m.p = false /\
  (cgL p.f p.r p.zs p.bl p.ca m.a m.b m.p ≠ 0) /\ sqW (cgL p.f p.r p.zs p.bl p.ca m.a m.b m.p) 2 = wCor (wayN p.zs p.bl p.ca m.a m.b) /\ sqW (cgL p.f p.r p.zs p.bl p.ca m.a m.b m.p) 3 = wCro (wayN p.zs p.bl p.ca m.a m.b) := by
 have hn : wayN p.zs p.bl p.ca m.a m.b ≠ 4 := by intro e; rw [e] at hw; simp [wayB] at hw
 obtain ⟨hk, hp0, hg⟩ := o.wayg hn
 obtain ⟨w1, w2⟩ := BP (bl := p.bl) (b := m.b) (pr := m.p) o.h o.hl o.cast o.ca o.sq.1.1 o.sq.1.2
 rw [hw, hp0] at w1
 rw [hp0] at w2 hg ⊢
 have hc : (!decide (cgL p.f p.r p.zs p.bl p.ca m.a m.b 0 = 0)) = true := w1
 obtain ⟨s1, s2, _⟩ := w2 hc
 exact ⟨hk, rfl, hg, by simpa using hc, s1, s2⟩
theorem MvOk.noway (o : MvOk p m) (hw : wayB p.f p.r p.zs (wayN p.zs p.bl p.ca m.a m.b) = false) : cgL p.f p.r p.zs p.bl p.ca m.a m.b m.p = 0 := by
 obtain ⟨w1, _⟩ := BP (bl := p.bl) (b := m.b) (pr := m.p) o.h o.hl o.cast o.ca o.sq.1.1 o.sq.1.2
 rw [hw, Bool.and_false] at w1
 simpa using w1
theorem Iw {n : Int} {bl : Bool} (h : isP n bl = true) : sgn n = sdI bl := by rw [uV] at h; exact of_decide_eq_true h
theorem MvOk.af (o : MvOk p m) : afZ p.f p.r p.zs p.bl p.ca p.pa m.a m.b m.p = zs3R p.f p.r p.zs p.bl p.ca p.pa m.a m.b m.p := by
 have h1 : afZ1 p.f p.r p.zs p.pa m.a m.b = zs1R p.f p.zs p.pa m.a m.b := by unfold afZ1 zs1R; rw [o.cap.1]
 have h2 : afZ2 p.f p.r p.zs p.pa m.a m.b = zs2R p.f p.zs p.pa m.a m.b := by unfold afZ2 zs2R; rw [h1]
 unfold afZ zs3R putR afZ3
 rw [h2]
 by_cases hp : m.p = 0
 ·rw [hp]
  simp only [decide_true, Bool.not_true, Bool.false_and, cond_false]
  cases hw : wayB p.f p.r p.zs (wayN p.zs p.bl p.ca m.a m.b) with
  | true =>
   obtain ⟨_, _, g, c, s1, s2⟩ := o.way hw
   rw [hp] at g c s1 s2
   unfold cstR afZ4
   rw [hw, g, s1, s2, decide_eq_false c]; rfl
  | false =>
   have hc := o.noway hw
   rw [hp] at hc
   unfold cstR afZ4
   rw [hw, hc]; rfl
 ·have hpr : 2 <= m.p /\ m.p <= 5 := o.hpr.resolve_left hp
  have hc : cgL p.f p.r p.zs p.bl p.ca m.a m.b m.p = 0 := by unfold cgL; rw [decide_eq_false hp]; simp
  rw [hc, decide_eq_false hp]
  simp only [Bool.not_false, Bool.true_and, cond_true]
  have hs := Iw o.hp
  unfold afZ4
  rw [hs]
  cases p.bl with
  | true =>
   have : w8 (m.p * w8 (sdI true)) = w8 (0 - m.p) := by
    rw [show w8 (sdI true) = -1 by decide]; congr 1; omega
   rw [this]; rfl
  | false =>
   have : w8 (m.p * w8 (sdI false)) = m.p := by
    rw [show w8 (sdI false) = 1 by decide, Int.mul_one]; exact Es (by omega) (by omega)
   rw [this]; rfl
end
end
section
variable {p : Psn} {m : Mov}
theorem gG (o : PsH p) (h : canM p m.a m.b m.p = true) : MvOk p m := by
 unfold canM at h
 simp only [Bool.and_eq_true, Bool.not_eq_true'] at h
 obtain ⟨⟨hmv, hp⟩, he⟩ := h
 simp only [mvB, Bool.and_eq_true, Bool.or_eq_true, decide_eq_true_eq, Bool.not_eq_true', decide_eq_false_iff_not] at hmv
 obtain ⟨⟨⟨ha, hb⟩, hab⟩, hpr⟩ := hmv
 exact ⟨o.h, o.hl, o.ok, o.ca, ha, hb, hab, hpr, hp, he⟩
theorem vW (x y : Int) : imax true x y = x \/ imax true x y = y := by
 unfold imax
 dsimp only
 cases decide (x < y)
 ·exact .inl rfl
 ·exact .inr rfl
theorem Gu {n : Int} (h1 : -8 <= n) (h2 : n <= 8) : n <= absI n /\ -n <= absI n := by
 unfold absI
 by_cases h : n < 0
 ·rw [decide_eq_true h, cond_true, aB (by omega) (by omega)]; omega
 ·rw [decide_eq_false h, cond_false]; omega
theorem Fy {f r a b : Int} (ha : aj f r a = true) (hb : aj f r b = true) : ∃ d : Int, He ⟨f, r⟩ a b = some (d, 0) /\ (nX f a b = 1 -> d ≠ 2) := by
 obtain ⟨a0, a1, a2, a3, a4, a5, a6, a7, a8, a9⟩ := eF ha
 obtain ⟨b0, b1, b2, b3, b4, b5, _⟩ := eF hb
 have pa : aK f r a = (px f a, py f a, 0) := by unfold aK; rw [ha, cond_true, a0]
 have pb : aK f r b = (px f b, py f b, 0) := by unfold aK; rw [hb, cond_true, b0]
 refine ⟨imax true (imax true (imax true (IntKind.i64.wrap (px f a - px f b)) (IntKind.i64.wrap (px f b - px f a))) (IntKind.i64.wrap (py f a - py f b))) (IntKind.i64.wrap (py f b - py f a)), ?_, ?_⟩
 ·unfold He
  rw [pa, pb]
  rfl
 ·intro h hd
  unfold nX at h
  rw [a0, b0, show a.tmod f = px f a from rfl, show b.tmod f = px f b from rfl, aB (n := py f a - py f b) (by omega) (by omega), aB (n := px f a - px f b) (by omega) (by omega)] at h
  rw [aB (n := px f a - px f b) (by omega) (by omega), aB (n := px f b - px f a) (by omega) (by omega), aB (n := py f a - py f b) (by omega) (by omega), aB (n := py f b - py f a) (by omega) (by omega)] at hd
  have gx := Gu (n := px f a - px f b) (by omega) (by omega)
  have gy := Gu (n := py f a - py f b) (by omega) (by omega)
  have hx : absI (px f a - px f b) <= 1 /\ absI (py f a - py f b) <= 1 := by
   by_cases hc : absI (py f a - py f b) < absI (px f a - px f b)
   ·rw [decide_eq_true hc, cond_true] at h; omega
   ·rw [decide_eq_false hc, cond_false] at h; omega
  have o1 := vW (px f a - px f b) (px f b - px f a)
  have o2 := vW (imax true (px f a - px f b) (px f b - px f a)) (py f a - py f b)
  have o3 := vW (imax true (imax true (px f a - px f b) (px f b - px f a)) (py f a - py f b)) (py f b - py f a)
  omega
theorem MvOk.castles (o : MvOk p m) : ∃ d : Int, He ⟨p.f, p.r⟩ m.a m.b = some (d, 0) /\ (decide (absP (p.zs.getD m.a.toNat 0) = 6) && decide (d = 2)) = !decide (cgL p.f p.r p.zs p.bl p.ca m.a m.b m.p = 0) := by
 cases hw : wayB p.f p.r p.zs (wayN p.zs p.bl p.ca m.a m.b) with
 | true =>
  have hn : wayN p.zs p.bl p.ca m.a m.b ≠ 4 := by intro e; rw [e] at hw; simp [wayB] at hw
  obtain ⟨hk, _, _, hc, _⟩ := o.way hw
  obtain ⟨h88, _⟩ := mg (a := m.a) (b := m.b) (bl := p.bl) o.bd o.cast hn
  simp only [is88, Bool.and_eq_true, decide_eq_true_eq] at h88
  obtain ⟨_, hsq⟩ := FZ hn
  refine ⟨2, ?_, by rw [o.kd, decide_eq_true hk, decide_eq_false hc]; rfl⟩
  rw [h88.1, h88.2]
  rcases hsq with ⟨_, _, _, e1, e2⟩ | ⟨_, _, _, e1, e2⟩ | ⟨_, _, _, e1, e2⟩ | ⟨_, _, _, e1, e2⟩ <;> rw [e1, e2] <;> decide
 | false =>
  have hc := o.noway hw
  obtain ⟨d, h1, h2⟩ := Fy o.ha o.hb
  refine ⟨d, h1, ?_⟩
  rw [o.kd, decide_eq_true hc]
  cases hk : decide (aP (p.zs.getD m.a.toNat 0) = 6) with
  | false => rfl
  | true =>
   have hk6 := of_decide_eq_true hk
   have hso := o.so
   simp only [err3, hw, Bool.not_false, Bool.true_or, Bool.and_true, Bool.or_eq_false_iff, Bool.not_eq_false'] at hso
   have hg := hso.2
   rw [jK (_ca := p.ca) o.h o.hl o.ha o.hb o.hp, hk6] at hg
   have hg : (decide (m.p = 0) && bF p.f p.r 6 m.a m.b (occL p.zs)) = true := hg
   rw [Bool.and_eq_true] at hg
   have := h2 (kE o.ha o.hb hg.2)
   rw [decide_eq_false this]; rfl
end
section
theorem dQ {l : List Int} {j i : Nat} {v : Int} (hi : i < l.length) : (l.set j v).getD i 0 = if i = j then v else l.getD i 0 := by
 by_cases e : i = j
 ·subst e; simp [List.getD, hi]
 ·rw [if_neg e]; simp [List.getD, List.getElem?_set_ne (Ne.symm e)]
theorem fE {f r : Int} {zs : List Int} {j : Nat} {v : Int} (h : aL f r zs = true) (hv : -6 <= v /\ v <= 6) : aL f r (zs.set j v) = true := by
 have := DW (j := (j : Int)) h hv
 rwa [Int.toNat_natCast] at this
theorem wc {f r : Int} {zs : List Int} (h : aL f r zs = true) (i : Nat) : -6 <= zs.getD i 0 /\ zs.getD i 0 <= 6 := by
 by_cases hi : i < zs.length
 ·exact (aW h).2.2.2 _ (wX hi)
 ·simp [List.getD, List.getElem?_eq_none (by omega : zs.length <= i)]
theorem IT {n : Int} {bl : Bool} (h : -6 <= n /\ n <= 6) (hp : isP n bl = true) (hk : aP n = 6) : n = kgP bl := by
 rw [jh h] at hk
 have : n = 6 \/ n = -6 := by omega
 rcases this with rfl | rfl <;> cases bl <;> first | rfl | (revert hp; decide)
section
variable {p : Psn} {m : Mov}
theorem MvOk.z1 (o : MvOk p m) : aL p.f p.r (zs1R p.f p.zs p.pa m.a m.b) = true /\ ∀ i : Nat, i < p.zs.length -> (zs1R p.f p.zs p.pa m.a m.b).getD i 0 = p.zs.getD i 0 \/ ((zs1R p.f p.zs p.pa m.a m.b).getD i 0 = 0 /\ isP (p.zs.getD i 0) p.bl = false) := by
 unfold zs1R
 cases hc : decide (0 <= at2R p.f p.zs p.pa m.a m.b) with
 | false => exact ⟨o.h, fun i _ => .inl rfl⟩
 | true =>
  obtain ⟨c1, c2, c3, _⟩ := o.cap.2.1 (of_decide_eq_true hc)
  refine ⟨fE o.h (by omega), fun i hi => ?_⟩
  rw [cond_true, dQ hi]
  by_cases e : i = (at2R p.f p.zs p.pa m.a m.b).toNat
  ·right
   rw [if_pos e, e]
   refine ⟨rfl, ?_⟩
   rw [uV] at c2 ⊢
   rw [of_decide_eq_true c2]
   cases p.bl <;> decide
  ·left; rw [if_neg e]
theorem MvOk.z2 (o : MvOk p m) : aL p.f p.r (zs2R p.f p.zs p.pa m.a m.b) = true /\ ∀ i : Nat, i < p.zs.length -> (zs2R p.f p.zs p.pa m.a m.b).getD i 0 = if i = m.b.toNat then p.zs.getD m.a.toNat 0 else if i = m.a.toNat then 0 else (zs1R p.f p.zs p.pa m.a m.b).getD i 0 := by
 have hl := Ar (f := p.f) (zs := p.zs) (pa := p.pa) (a := m.a) (b := m.b)
 refine ⟨fE (fE o.z1.1 (by omega)) (wc o.h _), fun i hi => ?_⟩
 unfold zs2R
 rw [dQ (by rw [List.length_set, hl]; exact hi), dQ (by rw [hl]; exact hi)]
theorem MvOk.z3 (o : MvOk p m) : aL p.f p.r (zs3R p.f p.r p.zs p.bl p.ca p.pa m.a m.b m.p) = true /\ (cy p.f p.r (zs3R p.f p.r p.zs p.bl p.ca p.pa m.a m.b m.p) p.bl).2 = 0 := by
 obtain ⟨⟨sa0, sa1⟩, ⟨sb0, sb1⟩⟩ := o.sq
 obtain ⟨z2o, z2g⟩ := o.z2
 obtain ⟨K, k1, k2, _, k4⟩ := o.kU
 have hlen := vr (f := p.f) (r := p.r) (zs := p.zs) (bl := p.bl) (ca := p.ca) (pa := p.pa) (a := m.a) (b := m.b) (pr := m.p)
 have hl2 := Bx (f := p.f) (zs := p.zs) (pa := p.pa) (a := m.a) (b := m.b)
 have hkb : K ≠ m.b.toNat := by intro e; have h1 := Gf p.bl; rw [<- k2, e, o.nto] at h1; cases h1
 have kz : (0 : Int) ≠ kgP p.bl := by cases p.bl <;> decide
 have hK1 : (zs1R p.f p.zs p.pa m.a m.b).getD K 0 = kgP p.bl := by
  rcases o.z1.2 K k1 with h | ⟨_, h⟩
  ·rw [h, k2]
  ·rw [k2, Gf] at h; cases h
 have h1U : ∀ i : Nat, i < p.zs.length -> (zs1R p.f p.zs p.pa m.a m.b).getD i 0 = kgP p.bl -> i = K := by
  intro i hi he
  rcases o.z1.2 i hi with h | ⟨h, _⟩
  ·rw [h] at he; exact k4 i hi he
  ·rw [h] at he; exact absurd he kz
 -- a board that is like zs2R but for a piece that is put down
 have fin : ∀ (z : List Int) (v : Int), z.length = p.zs.length -> (∀ i : Nat, i < p.zs.length -> z.getD i 0 = if i = m.b.toNat then v else if i = m.a.toNat then 0 else (zs1R p.f p.zs p.pa m.a m.b).getD i 0) -> aL p.f p.r z = true -> (v = kgP p.bl ↔ K = m.a.toNat) -> (cy p.f p.r z p.bl).2 = 0 := by
  intro z v hzl hz hzo hv
  by_cases hKa : K = m.a.toNat
  ·refine (qe (K := m.b.toNat) hzo (by rw [hzl]; exact o.hl) (by omega) ?_ fun i hi he => ?_).1
   ·rw [hz _ (by omega), if_pos rfl]; exact hv.2 hKa
   ·rw [hz _ (by omega)] at he
    by_cases e : i = m.b.toNat
    ·exact e
    ·rw [if_neg e] at he
     by_cases e2 : i = m.a.toNat
     ·rw [if_pos e2] at he; exact absurd he kz
     ·rw [if_neg e2] at he; exact absurd ((h1U i (by omega) he).trans hKa) e2
  ·refine (qe (K := K) hzo (by rw [hzl]; exact o.hl) (by omega) ?_ fun i hi he => ?_).1
   ·rw [hz _ k1, if_neg hkb, if_neg hKa, hK1]
   ·rw [hz _ (by omega)] at he
    by_cases e : i = m.b.toNat
    ·rw [if_pos e] at he; exact absurd (hv.1 he) hKa
    ·rw [if_neg e] at he
     by_cases e2 : i = m.a.toNat
     ·rw [if_pos e2] at he; exact absurd he kz
     ·rw [if_neg e2] at he; exact h1U i (by omega) he
 have haK : p.zs.getD m.a.toNat 0 = kgP p.bl ↔ K = m.a.toNat := ⟨fun h => (k4 _ (by omega) h).symm, fun h => by rw [<- h, k2]⟩
 unfold zs3R putR
 by_cases hp : m.p = 0
 ·rw [decide_eq_true hp]
  simp only [Bool.not_true, Bool.false_and, cond_false]
  cases hw : wayB p.f p.r p.zs (wayN p.zs p.bl p.ca m.a m.b) with
  | false =>
   unfold cstR
   rw [hw]
   exact ⟨z2o, fin _ _ hl2 z2g z2o haK⟩
  | true =>
   obtain ⟨hk6, _, g, _, _, _⟩ := o.way hw
   have hn : wayN p.zs p.bl p.ca m.a m.b ≠ 4 := by intro e; rw [e] at hw; simp [wayB] at hw
   obtain ⟨h88, h64, w1, w2, w3, w4⟩ := mg (a := m.a) (b := m.b) (bl := p.bl) o.bd o.cast hn
   unfold cstR
   rw [hw, g]
   simp only [Bool.not_false, Bool.and_self, cond_true]
   have hpiece : p.zs.getD m.a.toNat 0 = kgP p.bl := IT (wc o.h _) o.hp hk6
   have hKa := haK.1 hpiece
   -- the rook
   have hrook : p.zs.getD (wCor (wayN p.zs p.bl p.ca m.a m.b)).toNat 0 = ofP 4 p.bl /\ wCor (wayN p.zs p.bl p.ca m.a m.b) ≠ m.a /\ wCor (wayN p.zs p.bl p.ca m.a m.b) ≠ m.b /\ wCro (wayN p.zs p.bl p.ca m.a m.b) ≠ m.b /\ wCro (wayN p.zs p.bl p.ca m.a m.b) ≠ m.a := by
    have hcs := o.cast
    simp only [eI, Bool.and_eq_true, Bool.not_eq_true', decide_eq_true_eq] at hcs
    obtain ⟨⟨⟨⟨c1, c2⟩, c3⟩, c4⟩, c5⟩ := hcs
    unfold wayN at hn ⊢
    rw [o.kd, hk6] at hn ⊢
    cases n1 : (!aO p.bl p.ca m.a m.b false 1 4 6) with
    | true =>
     obtain ⟨e1, e2, e3, e4⟩ := cH.1 n1
     obtain ⟨_, _, _, e5⟩ := gL c1 e2
     rw [<- e1, <- e3, <- e4]
     exact ⟨e5, show (7 : Int) ≠ 4 by decide, show (7 : Int) ≠ 6 by decide, show (5 : Int) ≠ 6 by decide, show (5 : Int) ≠ 4 by decide⟩
    | false =>
     cases n2 : (!aO p.bl p.ca m.a m.b false 2 4 2) with
     | true =>
      obtain ⟨e1, e2, e3, e4⟩ := cH.1 n2
      obtain ⟨_, _, _, e5⟩ := gL c2 e2
      rw [<- e1, <- e3, <- e4]
      exact ⟨e5, show (0 : Int) ≠ 4 by decide, show (0 : Int) ≠ 2 by decide, show (3 : Int) ≠ 2 by decide, show (3 : Int) ≠ 4 by decide⟩
     | false =>
      cases n3 : (!aO p.bl p.ca m.a m.b true 4 60 62) with
      | true =>
       obtain ⟨e1, e2, e3, e4⟩ := cH.1 n3
       obtain ⟨_, _, _, e5⟩ := gL c3 e2
       rw [<- e1, <- e3, <- e4]
       exact ⟨e5, show (63 : Int) ≠ 60 by decide, show (63 : Int) ≠ 62 by decide, show (61 : Int) ≠ 62 by decide, show (61 : Int) ≠ 60 by decide⟩
      | false =>
       cases n4 : (!aO p.bl p.ca m.a m.b true 8 60 58) with
       | true =>
        obtain ⟨e1, e2, e3, e4⟩ := cH.1 n4
        obtain ⟨_, _, _, e5⟩ := gL c4 e2
        rw [<- e1, <- e3, <- e4]
        exact ⟨e5, show (56 : Int) ≠ 60 by decide, show (56 : Int) ≠ 58 by decide, show (59 : Int) ≠ 58 by decide, show (59 : Int) ≠ 60 by decide⟩
       | false => rw [n1, n2, n3, n4] at hn; exact absurd rfl hn
   obtain ⟨r1, r2, r3, r4, r5⟩ := hrook
   have hro : aL p.f p.r (((zs2R p.f p.zs p.pa m.a m.b).set (wCro (wayN p.zs p.bl p.ca m.a m.b)).toNat ((zs2R p.f p.zs p.pa m.a m.b).getD (wCor (wayN p.zs p.bl p.ca m.a m.b)).toNat 0)).set (wCor (wayN p.zs p.bl p.ca m.a m.b)).toNat 0) = true := fE (fE z2o (wc z2o _)) (by omega)
   refine ⟨hro, (qe (K := m.b.toNat) hro (by simp only [List.length_set, hl2]; exact o.hl) (by simp only [List.length_set, hl2]; omega) ?_ fun i hi he => ?_).1⟩
   ·rw [dQ (by simp only [List.length_set, hl2]; omega), if_neg (by omega), dQ (by rw [hl2]; omega), if_neg (by omega), z2g _ (by omega), if_pos rfl, hpiece]
   ·simp only [List.length_set, hl2] at hi
    rw [dQ (by simp only [List.length_set, hl2]; omega)] at he
    by_cases e1 : i = (wCor (wayN p.zs p.bl p.ca m.a m.b)).toNat
    ·rw [if_pos e1] at he; exact absurd he kz
    ·rw [if_neg e1, dQ (by rw [hl2]; omega)] at he
     by_cases e2 : i = (wCro (wayN p.zs p.bl p.ca m.a m.b)).toNat
     ·exfalso
      rw [if_pos e2, z2g _ (by omega), if_neg (by omega), if_neg (by omega)] at he
      rcases o.z1.2 (wCor (wayN p.zs p.bl p.ca m.a m.b)).toNat (by omega) with h | ⟨h, _⟩
      ·rw [h, r1] at he; revert he; cases p.bl <;> decide
      ·rw [h] at he; exact kz he
     ·rw [if_neg e2, z2g _ hi] at he
      by_cases e : i = m.b.toNat
      ·exact e
      ·rw [if_neg e] at he
       by_cases e3 : i = m.a.toNat
       ·rw [if_pos e3] at he; exact absurd he kz
       ·rw [if_neg e3] at he; exact absurd ((h1U i hi he).trans hKa) e3
 ·have hpr : 2 <= m.p /\ m.p <= 5 := o.hpr.resolve_left hp
  have hk1 : aP (p.zs.getD m.a.toNat 0) = 1 := by
   by_cases h : aP (p.zs.getD m.a.toNat 0) = 1
   ·exact h
   ·exact absurd (o.pr0 h) hp
  have hnK : ¬ K = m.a.toNat := fun e => by
   have := haK.2 e
   rw [this] at hk1
   revert hk1; cases p.bl <;> decide
  rw [decide_eq_false hp]
  simp only [Bool.not_false, Bool.true_and, cond_true]
  have hput : ∀ v : Int, -6 <= v /\ v <= 6 -> v ≠ kgP p.bl -> aL p.f p.r ((zs2R p.f p.zs p.pa m.a m.b).set m.b.toNat v) = true /\ (cy p.f p.r ((zs2R p.f p.zs p.pa m.a m.b).set m.b.toNat v) p.bl).2 = 0 := by
   intro v hv hvk
   have hzo := fE (j := m.b.toNat) z2o hv
   refine ⟨hzo, fin _ v (by rw [List.length_set, hl2]) (fun i hi => ?_) hzo ⟨fun h => absurd h hvk, fun h => absurd h hnK⟩⟩
   rw [dQ (by rw [hl2]; exact hi), z2g i hi]
   by_cases e : i = m.b.toNat <;> simp [e]
  have hkg : kgP p.bl = 6 \/ kgP p.bl = -6 := by cases p.bl <;> simp [kgP]
  have hw : w8 (0 - m.p) = -m.p := by rw [Es (by omega) (by omega)]; omega
  have key : ∀ v, v = m.p \/ v = -m.p -> _ := fun v hv => hput v (by omega) (by omega)
  cases hb : p.bl with
  | true =>
   have := key (-m.p) (.inr rfl)
   rw [hb] at this
   simp only [cond_true, hw]
   exact this
  | false =>
   have := key m.p (.inl rfl)
   rw [hb] at this
   simp only [cond_false]
   exact this
theorem MvOk.safe (o : MvOk p m) : sfL p m = !err4 p m := by
 obtain ⟨z1, z2⟩ := o.z3
 have hz64 : (zs3R p.f p.r p.zs p.bl p.ca p.pa m.a m.b m.p).length <= 64 := by rw [vr]; exact o.hl
 have hkk := o.kings
 simp only [fW, Bool.and_eq_true, decide_eq_true_eq] at hkk
 have hzs : (afP p m).zs = zs3R p.f p.r p.zs p.bl p.ca p.pa m.a m.b m.p := o.af
 unfold sfL err4
 rw [hzs, Cf z1 hz64 z2, Cf o.h o.hl hkk.1.1]
 cases chkB p.f p.r (zs3R p.f p.r p.zs p.bl p.ca p.pa m.a m.b m.p) p.bl with
 | true => rfl
 | false =>
  cases hw : wayB p.f p.r p.zs (wayN p.zs p.bl p.ca m.a m.b) with
  | false =>
   have : cstR p.f p.r p.zs p.bl p.ca p.pa m.a m.b m.p = false := by unfold cstR; rw [hw]; rfl
   rw [this, o.noway hw]; rfl
  | true =>
   obtain ⟨_, _, g, c, _, s2⟩ := o.way hw
   have hn : wayN p.zs p.bl p.ca m.a m.b ≠ 4 := by intro e; rw [e] at hw; simp [wayB] at hw
   obtain ⟨h88, h64, _, _, w3, w4⟩ := mg (a := m.a) (b := m.b) (bl := p.bl) o.bd o.cast hn
   have hcst : cstR p.f p.r p.zs p.bl p.ca p.pa m.a m.b m.p = true := by unfold cstR; rw [hw, g]; rfl
   have hv : aj p.f p.r (wCro (wayN p.zs p.bl p.ca m.a m.b)) = true := (bL o.bd).2 ⟨w3, by omega⟩
   rw [hcst, decide_eq_false c, s2]
   simp only [cond_false, Bool.false_or, Bool.true_and, Bool.not_or, Bool.not_not]
   congr 1
   unfold cV
   rw [o.h, hv]
   simp only [Bool.and_self, cond_true]
   rw [yg o.h o.hl hv]
end
end
section
variable {p : Psn} {m : Mov}
theorem IM (o : PsH p) (hc : canM p m.a m.b m.p = true) : sfL p m = !err4 p m := (gG o hc).safe
end
section
variable {kCa kDb : Bool}
def keeps (p : Psn) (m : Mov) : Option (Bool) := let x5 := List.take p.zs.length (List.drop 0 p.zs); let x3 := mkE5 (Psn.mk p.f p.r x5 p.bl p.ca p.pa p.ha p.fu) (Mov.mk m.a m.b m.p); let x4 := x5.length; bj (decide (x4 <= 64)) (some (decide (x3 = 0) || decide (x3 = 7)))
def vk (R : Bool) : V := Bb R
def vM (_R : Bool) : List O := []
theorem CD (p : Psn) (m : Mov) {r} (hr : keeps p m = some r) : aM (GGx true kDb) PP 42 [.agg [.int .i64 p.f, .int .i64 p.r, .sl 0 0 p.zs.length none, Bb p.bl, .int .u8 p.ca, .int .i64 p.pa, .int .i64 p.ha, .int .i64 p.fu], .agg [.int .i64 m.a, .int .i64 m.b, .int .i8 m.p]] [.ints false .i8 p.zs] (vk r) (vM r) := by
 have hE := cutE (aD (kCa := true) (kDb := kDb) (cts := [(60, ya)]) (inl := []) ⟨sP, trivial⟩ trivial)
 refine eH hE 2 Tryz.func42 rfl rfl vk vM hr ?_ rfl rfl
 refine ez (pl (decide_eq_true (bx rfl)) id) ?_
 refine aq (Bool.not_or_self _) ?_
 refine aq (Bool.or_not_self _) ?_
 exact aZ (bz [] (.inr rfl) rfl rfl rfl rfl rfl)
def rB (p : Psn) : Option (Bool) := some (decide (Int.ofNat p.zs.length <= 64))
def nw (R : Bool) : V := Bb R
def nF (_R : Bool) : List O := []
def mz : CF
 | [.agg [.int .i64 p_0, .int .i64 p_1, .sl 0 0 p_2n none, .bool p_3, .int .u8 p_4, .int .i64 p_5, .int .i64 p_6, .int .i64 p_7]], [.ints false .i8 p_2] => retC (decide (p_2n = p_2.length)) (rB ⟨p_0, p_1, p_2, p_3, p_4, p_5, p_6, p_7⟩) false nw nF
 | _, _ => none
theorem vG (p : Psn) {r} (hr : rB p = some r) : aM (GGx kCa kDb) PP 8 [.agg [.int .i64 p.f, .int .i64 p.r, .sl 0 0 p.zs.length none, Bb p.bl, .int .u8 p.ca, .int .i64 p.pa, .int .i64 p.ha, .int .i64 p.fu]] [.ints false .i8 p.zs] (nw r) (nF r) := by
 have hE := cutE (aD (kCa := kCa) (kDb := kDb) (cts := []) (inl := []) trivial trivial)
 refine eH hE 2 Tryz.func8 rfl rfl nw nF hr ?_ rfl rfl
 exact aZ (bz [] (.inr rfl) rfl rfl rfl rfl rfl)
theorem si : CtOk (GGx kCa kDb) PP (8, mz) := by
 refine aG Tryz.func8 (by kernel_rfl) rfl fun a0 h0 c0 v0 N0 e hc => ?_
 unfold mz at e
 split at e
 ·rename_i p_0 p_1 p_2n p_3 p_4 p_5 p_6 p_7 p_2
  obtain ⟨hl, r, hr, rfl, rfl⟩ := cX e hc
  simp only [decide_eq_true_eq] at hl
  obtain rfl := hl
  exact vG ⟨p_0, p_1, p_2, p_3, p_4, p_5, p_6, p_7⟩ hr
 ·cases e
end
noncomputable abbrev Ea : Env := EE true true [(14, kZ), (133, nE), (134, tC), (27, vI), (182, gd), (165, pL), (132, vc)] []
theorem AL : Ea.Fn PP := aD ⟨lX, jY, nB, iY, gl, uv, yZ, trivial⟩ trivial
noncomputable abbrev xsa : List (FuncId × Func) := [(36, Tryz.f36), (73, Tryz.f73), (128, Tryz.f128), (131, Tryz.f131), (130, Tryz.f130), (129, Tryz.f129), (165, Tryz.f165), (37, Tryz.f37), (74, Tryz.f74), (18, Tryz.f18), (53, Tryz.f53)]
theorem rN : pD PP xsa := ⟨⟨Tryz.func36, by kernel_rfl⟩, ⟨Tryz.func73, by kernel_rfl⟩, ⟨Tryz.func128, by kernel_rfl⟩, ⟨Tryz.func131, by kernel_rfl⟩, ⟨Tryz.func130, by kernel_rfl⟩, ⟨Tryz.func129, by kernel_rfl⟩, ⟨Tryz.func165, by kernel_rfl⟩, ⟨Tryz.func37, by kernel_rfl⟩, ⟨Tryz.func74, by kernel_rfl⟩, ⟨Tryz.func18, by kernel_rfl⟩, ⟨Tryz.func53, by kernel_rfl⟩, trivial⟩
noncomputable abbrev xsb : List (FuncId × Func) := [(36, Tryz.f36), (73, Tryz.f73), (128, Tryz.f128), (131, Tryz.f131), (130, Tryz.f130), (129, Tryz.f129), (165, Tryz.f165), (37, Tryz.f37), (74, Tryz.f74), (18, Tryz.f18), (53, Tryz.f53), (11, Tryz.f11), (39, Tryz.f39), (12, Tryz.f12), (17, Tryz.f17), (52, Tryz.f52)]
theorem JD : pD PP xsb := ⟨⟨Tryz.func36, by kernel_rfl⟩, ⟨Tryz.func73, by kernel_rfl⟩, ⟨Tryz.func128, by kernel_rfl⟩, ⟨Tryz.func131, by kernel_rfl⟩, ⟨Tryz.func130, by kernel_rfl⟩, ⟨Tryz.func129, by kernel_rfl⟩, ⟨Tryz.func165, by kernel_rfl⟩, ⟨Tryz.func37, by kernel_rfl⟩, ⟨Tryz.func74, by kernel_rfl⟩, ⟨Tryz.func18, by kernel_rfl⟩, ⟨Tryz.func53, by kernel_rfl⟩, ⟨Tryz.func11, by kernel_rfl⟩, ⟨Tryz.func39, by kernel_rfl⟩, ⟨Tryz.func12, by kernel_rfl⟩, ⟨Tryz.func17, by kernel_rfl⟩, ⟨Tryz.func52, by kernel_rfl⟩, trivial⟩
def kpB (p : Psn) (l : List (Int × Int × Bool)) : Bool := l.all fun x => match keeps p ⟨x.1, x.2.1, 0⟩ with | some b => b == x.2.2 | none => false
def kpF (l : List (Int × Int × Bool)) (m : Mov) : Option Bool := match l with
 | [] => none
 | x :: r => bif decide (m.a = x.1) && (decide (m.b = x.2.1) && decide (m.p = 0)) then some x.2.2 else kpF r m
theorem oH {p : Psn} {m : Mov} {b : Bool} : ∀ {l : List (Int × Int × Bool)}, kpB p l = true -> kpF l m = some b -> keeps p m = some b
 | [], _, h => by cases h
 | x :: r, h1, h2 => by
  unfold kpB at h1
  rw [List.all_cons, Bool.and_eq_true] at h1
  unfold kpF at h2
  cases hc : (decide (m.a = x.1) && (decide (m.b = x.2.1) && decide (m.p = 0))) with
  | true =>
   rw [hc, cond_true] at h2
   simp only [Bool.and_eq_true, decide_eq_true_eq] at hc
   have hm : m = ⟨x.1, x.2.1, 0⟩ := by
    rcases m with ⟨a, b, c⟩
    obtain ⟨e1, e2, e3⟩ := hc
    dsimp only at e1 e2 e3
    rw [e1, e2, e3]
   rw [hm]
   have h3 := h1.1
   cases hk : keeps p ⟨x.1, x.2.1, 0⟩ with
   | none => rw [hk] at h3; cases h3
   | some y =>
    rw [hk] at h3
    have h3 := eq_of_beq h3
    cases h2
    rw [h3]
  | false =>
   rw [hc, cond_false] at h2
   exact oH (l := r) h1.2 h2
def Hj : List UInt8 := [56, 120, 56, 32, 114, 110, 98, 113, 107, 98, 110, 114, 47, 112, 112, 112, 112, 112, 112, 112, 112, 47, 56, 47, 56, 47, 56, 47, 56, 47, 80, 80, 80, 80, 80, 80, 80, 80, 47, 82, 78, 66, 81, 75, 66, 78, 82, 32, 119, 32, 75, 81, 107, 113, 32, 45, 32, 48, 32, 49]
def JF : V × List O := (.agg [I 8, I 8, .sl 0 0 64 none, .lit false, .int .u8 15, I (-1), I 0, I 1], [.ints true .i8 [4, 2, 3, 5, 6, 3, 2, 4, 1, 1, 1, 1, 1, 1, 1, 1, 0, 0, 0, 0, 0, 0, 0, 0, 0, 0, 0, 0, 0, 0, 0, 0, 0, 0, 0, 0, 0, 0, 0, 0, 0, 0, 0, 0, 0, 0, 0, 0, -1, -1, -1, -1, -1, -1, -1, -1, -4, -2, -3, -5, -6, -3, -2, -4]])
theorem KN : mH { Ea with pf := kN Ea xsa 1000 8, cc := true } 3 1000 Tryz.f36 [.str Hj] [] = some JF := by kernel_rfl
def ny : Psn := ⟨8, 8, [4, 2, 3, 5, 6, 3, 2, 4, 1, 1, 1, 1, 1, 1, 1, 1, 0, 0, 0, 0, 0, 0, 0, 0, 0, 0, 0, 0, 0, 0, 0, 0, 0, 0, 0, 0, 0, 0, 0, 0, 0, 0, 0, 0, 0, 0, 0, 0, -1, -1, -1, -1, -1, -1, -1, -1, -4, -2, -3, -5, -6, -3, -2, -4], false, 15, -1, 0, 1⟩
def GN : List (Int × Int × Bool) := [(1, 16, true), (1, 18, true), (6, 21, true), (6, 23, true)]
theorem JW : kpB ny GN = true := by kernel_rfl
def Ge : List (Int × Int × Bool) := [(8, 16, true), (8, 24, true), (9, 17, true), (9, 25, true)]
theorem KI : kpB ny Ge = true := by kernel_rfl
def GJ : List (Int × Int × Bool) := [(10, 18, true), (10, 26, true), (11, 19, true), (11, 27, true)]
theorem Kq : kpB ny GJ = true := by kernel_rfl
def Gn : List (Int × Int × Bool) := [(12, 20, true), (12, 28, true), (13, 21, true), (13, 29, true)]
theorem JK : kpB ny Gn = true := by kernel_rfl
def GK : List (Int × Int × Bool) := [(14, 22, true), (14, 30, true), (15, 23, true), (15, 31, true)]
theorem Jw : kpB ny GK = true := by kernel_rfl
def kpL0 : List (Int × Int × Bool) := GN ++ Ge ++ GJ ++ Gn ++ GK
theorem kpO0 : kpB ny kpL0 = true := by
 unfold kpL0
 have ap : ∀ {l k : List (Int × Int × Bool)}, kpB ny l = true -> kpB ny k = true -> kpB ny (l ++ k) = true := fun h1 h2 => by unfold kpB at *; rw [List.all_append, h1, h2]; rfl
 exact ap (ap (ap (ap JW KI) Kq) JK) Jw
def IA : List UInt8 := [52, 120, 52, 32, 49, 107, 50, 47, 49, 114, 50, 47, 49, 82, 50, 47, 49, 75, 50, 32, 119, 32, 45, 32, 45, 32, 48, 32, 49]
def KE : V × List O := (.agg [I 4, I 4, .sl 0 0 16 none, .lit false, .int .u8 0, I (-1), I 0, I 1], [.ints true .i8 [0, 6, 0, 0, 0, 4, 0, 0, 0, -4, 0, 0, 0, -6, 0, 0]])
theorem KR : mH { Ea with pf := kN Ea xsa 1000 8, cc := true } 3 1000 Tryz.f36 [.str IA] [] = some KE := by kernel_rfl
def tD : Psn := ⟨4, 4, [0, 6, 0, 0, 0, 4, 0, 0, 0, -4, 0, 0, 0, -6, 0, 0], false, 0, -1, 0, 1⟩
def Gw : List (Int × Int × Bool) := [(1, 0, true), (1, 2, true), (1, 4, true), (1, 6, true)]
theorem Ju : kpB tD Gw = true := by kernel_rfl
def Gs : List (Int × Int × Bool) := [(5, 4, false), (5, 6, false), (5, 7, false), (5, 9, true)]
theorem KF : kpB tD Gs = true := by kernel_rfl
def kpL1 : List (Int × Int × Bool) := Gw ++ Gs
theorem kpO1 : kpB tD kpL1 = true := by
 unfold kpL1
 have ap : ∀ {l k : List (Int × Int × Bool)}, kpB tD l = true -> kpB tD k = true -> kpB tD (l ++ k) = true := fun h1 h2 => by unfold kpB at *; rw [List.all_append, h1, h2]; rfl
 exact ap Ju KF
def HD : List UInt8 := [51, 120, 51, 32, 107, 81, 49, 47, 51, 47, 75, 50, 32, 98, 32, 45, 32, 45, 32, 48, 32, 49]
def Ks : V × List O := (.agg [I 3, I 3, .sl 0 0 9 none, .lit true, .int .u8 0, I (-1), I 0, I 1], [.ints true .i8 [6, 0, 0, 0, 0, 0, -6, 5, 0]])
theorem Lb : mH { Ea with pf := kN Ea xsa 1000 8, cc := true } 3 1000 Tryz.f36 [.str HD] [] = some Ks := by kernel_rfl
def DR : Psn := ⟨3, 3, [6, 0, 0, 0, 0, 0, -6, 5, 0], true, 0, -1, 0, 1⟩
def GP : List (Int × Int × Bool) := [(6, 3, false), (6, 4, false), (6, 7, true)]
theorem Kl : kpB DR GP = true := by kernel_rfl
def kpL2 : List (Int × Int × Bool) := GP
theorem kpO2 : kpB DR kpL2 = true := by
 unfold kpL2
 exact Kl
def HN : List UInt8 := [51, 120, 51, 32, 107, 50, 47, 49, 81, 49, 47, 75, 50, 32, 98, 32, 45, 32, 45, 32, 48, 32, 49]
def KB : V × List O := (.agg [I 3, I 3, .sl 0 0 9 none, .lit true, .int .u8 0, I (-1), I 0, I 1], [.ints true .i8 [6, 0, 0, 0, 5, 0, -6, 0, 0]])
theorem Lj : mH { Ea with pf := kN Ea xsa 1000 8, cc := true } 3 1000 Tryz.f36 [.str HN] [] = some KB := by kernel_rfl
def FL : Psn := ⟨3, 3, [6, 0, 0, 0, 5, 0, -6, 0, 0], true, 0, -1, 0, 1⟩
def GR : List (Int × Int × Bool) := [(6, 3, false), (6, 4, false), (6, 7, false)]
theorem Ki : kpB FL GR = true := by kernel_rfl
def kpL3 : List (Int × Int × Bool) := GR
theorem kpO3 : kpB FL kpL3 = true := by
 unfold kpL3
 exact Ki
def HI : List UInt8 := [51, 120, 51, 32, 107, 50, 47, 50, 81, 47, 49, 75, 49, 32, 98, 32, 45, 32, 45, 32, 48, 32, 49]
def JS : V × List O := (.agg [I 3, I 3, .sl 0 0 9 none, .lit true, .int .u8 0, I (-1), I 0, I 1], [.ints true .i8 [0, 6, 0, 0, 0, 5, -6, 0, 0]])
theorem KO : mH { Ea with pf := kN Ea xsa 1000 8, cc := true } 3 1000 Tryz.f36 [.str HI] [] = some JS := by kernel_rfl
def Fl : Psn := ⟨3, 3, [0, 6, 0, 0, 0, 5, -6, 0, 0], true, 0, -1, 0, 1⟩
def GI : List (Int × Int × Bool) := [(6, 3, false), (6, 4, false), (6, 7, false)]
theorem JU : kpB Fl GI = true := by kernel_rfl
def kpL4 : List (Int × Int × Bool) := GI
theorem kpO4 : kpB Fl kpL4 = true := by
 unfold kpL4
 exact JU
def polT (s : List UInt8) : Option (V × List O) := if s = Hj then some JF else if s = IA then some KE else if s = HD then some Ks else if s = HN then some KB else if s = HI then some JS else none
theorem Ia {s : List UInt8} {x : V × List O} (h : polT s = some x) : aM (GGx true true) PP 36 [.str s] [] x.1 x.2 := by
 unfold polT at h
 by_cases e0 : s = Hj
 ·rw [if_pos e0] at h; cases h; subst e0; exact lV AL rN 1000 8 Tryz.func36 KN
 rw [if_neg e0] at h
 by_cases e1 : s = IA
 ·rw [if_pos e1] at h; cases h; subst e1; exact lV AL rN 1000 8 Tryz.func36 KR
 rw [if_neg e1] at h
 by_cases e2 : s = HD
 ·rw [if_pos e2] at h; cases h; subst e2; exact lV AL rN 1000 8 Tryz.func36 Lb
 rw [if_neg e2] at h
 by_cases e3 : s = HN
 ·rw [if_pos e3] at h; cases h; subst e3; exact lV AL rN 1000 8 Tryz.func36 Lj
 rw [if_neg e3] at h
 by_cases e4 : s = HI
 ·rw [if_pos e4] at h; cases h; subst e4; exact lV AL rN 1000 8 Tryz.func36 KO
 rw [if_neg e4] at h
 cases h
def uu : CF
 | [.str s], [] => match polT s with
  | some x => some (true, x.1, x.2)
  | none => none
 | _, _ => none
theorem zv : CtOk (GGx true true) PP (36, uu) := by
 refine aG Tryz.func36 (by kernel_rfl) rfl fun a0 h0 c0 v0 N0 e hc => ?_
 unfold uu at e
 split at e
 ·split at e
  ·rename_i h
   cases e
   exact Ia h
  ·cases e
 ·cases e
theorem sW {p q : Psn} (h : dX p q = true) : p = q := by
 simp only [dX, BQ, Bool.and_eq_true, decide_eq_true_eq, beq_iff_eq] at h
 obtain ⟨⟨⟨⟨⟨⟨⟨h1, h2⟩, h3⟩, h4⟩, h5⟩, h6⟩, h7⟩, h8⟩ := h
 rcases p with ⟨a, b, c, d, e, f, g, i⟩
 rcases q with ⟨a', b', c', d', e', f', g', i'⟩
 dsimp only at h1 h2 h3 h4 h5 h6 h7 h8
 subst h1 h2 h3 h4 h5 h6 h7 h8; rfl
def kpT (p : Psn) (m : Mov) : Option Bool := bif dX p ny then kpF kpL0 m else bif dX p tD then kpF kpL1 m else bif dX p DR then kpF kpL2 m else bif dX p FL then kpF kpL3 m else bif dX p Fl then kpF kpL4 m else none
theorem KJ {p : Psn} {m : Mov} {b : Bool} (h : kpT p m = some b) : keeps p m = some b := by
 unfold kpT at h
 cases e0 : dX p ny with
 | true =>
  rw [e0, cond_true] at h
  rw [sW e0]; exact oH kpO0 h
 | false =>
 rw [e0, cond_false] at h
 cases e1 : dX p tD with
 | true =>
  rw [e1, cond_true] at h
  rw [sW e1]; exact oH kpO1 h
 | false =>
 rw [e1, cond_false] at h
 cases e2 : dX p DR with
 | true =>
  rw [e2, cond_true] at h
  rw [sW e2]; exact oH kpO2 h
 | false =>
 rw [e2, cond_false] at h
 cases e3 : dX p FL with
 | true =>
  rw [e3, cond_true] at h
  rw [sW e3]; exact oH kpO3 h
 | false =>
 rw [e3, cond_false] at h
 cases e4 : dX p Fl with
 | true =>
  rw [e4, cond_true] at h
  rw [sW e4]; exact oH kpO4 h
 | false =>
 rw [e4, cond_false] at h
 cases h
def IQ : CF
 | [.agg [.int .i64 f, .int .i64 r, .sl 0 0 len none, .bool bl, .int .u8 ca, .int .i64 pa, .int .i64 ha, .int .i64 fu], .agg [.int .i64 a, .int .i64 b, .int .i8 pr]], [.ints false .i8 zs] => match kpT ⟨f, r, zs, bl, ca, pa, ha, fu⟩ ⟨a, b, pr⟩ with
  | some x => some (decide (len = zs.length), vk x, vM x)
  | none => none
 | _, _ => none
theorem Ef : CtOk (GGx true true) PP (42, IQ) := by
 refine aG Tryz.func42 (by kernel_rfl) rfl fun a0 h0 c0 v0 N0 e hc => ?_
 unfold IQ at e
 split at e
 ·rename_i f r len bl ca pa ha fu a b pr zs
  split at e
  ·rename_i x h
   cases e
   rw [decide_eq_true_eq] at hc
   subst hc
   exact CD ⟨f, r, zs, bl, ca, pa, ha, fu⟩ ⟨a, b, pr⟩ (KJ h)
  ·cases e
 ·cases e
noncomputable abbrev Eb : Env := EE true true [(42, IQ), (38, kQ), (41, wm), (40, gz), (36, uu), (134, tC), (182, gd), (71, eU), (99, c_vs)] []
theorem KQ : Eb.Fn PP := aD ⟨Ef, nf, yN, fM, zv, nB, gl, cW, nt, trivial⟩ trivial
theorem KV : mH { Eb with pf := kN Eb xsb 1000 8, cc := true } 3 1000 Tryz.f9 [] [] = some (.lit true, []) := by kernel_rfl
def mY : CF
 | [], [] => some (true, .bool true, [])
 | _, _ => none
theorem ta : CtOk (GGx true true) PP (9, mY) := by
 refine aG Tryz.func9 (by kernel_rfl) rfl fun a0 h0 c0 v0 N0 e hc => ?_
 unfold mY at e
 split at e
 ·cases e
  exact aM.like (lV KQ JD 1000 8 Tryz.func9 KV) (fun _ _ h => h)
 ·cases e
end Go.Ab
namespace Go.Ab
open IntKind
open Go.Proofs
section
variable {kCa kDb : Bool}
def IZ : Psn -> List (List Int) -> List (List Int) × Int -> Option (List (List Int) × Int ⊕ List (List Int) ⊕ List (List Int)) := fun (p : Psn) (l : List (List Int)) => let x21 := Psn.mk p.f p.r (List.take p.zs.length (List.drop 0 p.zs)) p.bl p.ca p.pa p.ha p.fu; fun (s9 : List (List Int) × Int) => let x24 := (s9.1.length + 1) * 24; let x25 := decide (s9.2 < Int.ofNat l.length); let x26 := (l.getD s9.2.toNat []).getD 0 0; let x27 := (l.getD s9.2.toNat []).getD 1 0; let x28 := (l.getD s9.2.toNat []).getD 2 0; let x23 := Mov.mk x26 x27 x28; bif x25 then bj (decide (0 <= s9.2) && x25) (fY (keeps x21 x23) Inhabited.default fun (y10 : Bool) => di (bif (keeps x21 x23).getD false then bj (decide (x24 <= 140737488355328)) (some (Sum.inl (s9.1 ++ List.take 1 (List.drop 0 [iL [x26, x27, x28]])))) else some (Sum.inl s9.1)) fun (s12 : List (List Int)) => some (Sum.inl (s12, i64.wrap (s9.2 + 1)))) else some (Sum.inr (Sum.inl s9.1))
def kept (p : Psn) (l : List (List Int)) : Option (List (List Int)) := cK (IZ p l) (fun (s20 : List (List Int)) => let x33 := decide (Int.ofNat s20.length <= Int.ofNat s20.length); let x34 := (Int.ofNat s20.length).toNat - Int.toNat 0; bj (decide (0 <= Int.ofNat s20.length) && x33 && x33) (bj (decide (x34 = s20.length)) (some s20))) 1000000 ([], 0)
def kW : Psn -> List (List Int) -> List (List Int) × Int -> Option (List (List Int) × Int ⊕ List (List Int) ⊕ List (List Int)) := fun (p : Psn) (y4 : List (List Int)) (s10 : List (List Int) × Int) => let x23 := (s10.1.length + 1) * 24; let x24 := decide (s10.2 < Int.ofNat y4.length); let x25 := (y4.getD s10.2.toNat []).getD 2 0; let x26 := (y4.getD s10.2.toNat []).getD 1 0; let x27 := (y4.getD s10.2.toNat []).getD 0 0; let x22 := decide (0 <= s10.2) && x24; bif x24 then bj x22 (bj (decide ((List.take p.zs.length (List.drop 0 p.zs)).length <= 64) && (az p.f p.r (List.take p.zs.length (List.drop 0 p.zs)) && cA p.f p.r (List.take p.zs.length (List.drop 0 p.zs)) p.ca && aj p.f p.r x27 && aj p.f p.r x26)) (di (bif sfL (Psn.mk p.f p.r (List.take p.zs.length (List.drop 0 p.zs)) p.bl p.ca p.pa p.ha p.fu) (Mov.mk x27 x26 x25) then bj x22 (bj (decide (x23 <= 140737488355328)) (some (Sum.inl (s10.1 ++ List.take 1 (List.drop 0 [iL [x27, x26, x25]]))))) else some (Sum.inl s10.1)) fun (s12 : List (List Int)) => some (Sum.inl (s12, i64.wrap (s10.2 + 1))))) else some (Sum.inr (Sum.inl s10.1))
def yE (p : Psn) (from_ : Int) : Option (List (List Int)) := fY (vl (Psn.mk p.f p.r (List.take p.zs.length (List.drop 0 p.zs)) p.bl p.ca p.pa p.ha p.fu) from_) [] fun (y4 : List (List Int)) => cK (kW p y4) (fun (s20 : List (List Int)) => some s20) 1000000 ([], 0)
def uS (R : List (List Int)) : V := .sl 1 0 R.length none
def wz (R : List (List Int)) : List O := [.rows true [.i64, .i64, .i8] R]
def va : CF
 | [.agg [.int .i64 p_0, .int .i64 p_1, .sl 0 0 p_2n none, .bool p_3, .int .u8 p_4, .int .i64 p_5, .int .i64 p_6, .int .i64 p_7], .int .i64 from__0], [.ints false .i8 p_2] => retC (decide (p_2n = p_2.length)) (yE ⟨p_0, p_1, p_2, p_3, p_4, p_5, p_6, p_7⟩ from__0) [] uS wz
 | _, _ => none
theorem CE (p : Psn) (from_ : Int) {r} (hr : yE p from_ = some r) : aM (GGx kCa kDb) PP 19 [.agg [.int .i64 p.f, .int .i64 p.r, .sl 0 0 p.zs.length none, Bb p.bl, .int .u8 p.ca, .int .i64 p.pa, .int .i64 p.ha, .int .i64 p.fu], .int .i64 from_] [.ints false .i8 p.zs] (uS r) (wz r) := by
 have hE := cutE (aD (kCa := kCa) (kDb := kDb) (cts := [(54, vZ), (55, wI)]) (inl := []) ⟨yT, zw, trivial⟩ trivial)
 refine eH hE 2 Tryz.func19 rfl rfl uS wz hr ?_ rfl rfl
 unfold yE
 refine bX (pl (decide_eq_true (bx rfl)) id) ?_
 refine dy hE 2 (let x32 := (vl (Psn.mk p.f p.r (List.take p.zs.length (List.drop 0 p.zs)) p.bl p.ca p.pa p.ha p.fu) from_).getD []; fun (s10 : List (List Int) × Int) => ([(2, V.ptr 1 0 0), (4, V.nils), (5, V.sl 2 0 s10.1.length none), (6, V.sl 3 0 x32.length none), (7, I s10.2)], [O.ints false i8 p.zs, O.cells true [I p.f, I p.r, V.sl 0 0 p.zs.length none, Bb p.bl, V.int u8 p.ca, I p.pa, I p.ha, I p.fu], O.rows true [i64, i64, i8] s10.1, O.rows true [i64, i64, i8] x32])) (fun (s20 : List (List Int)) => ([(4, V.nils), (5, V.sl 1 0 s20.length none)], [O.ints false i8 p.zs, O.rows true [i64, i64, i8] s20])) (.exit 0) ((Ent.phT 5 (O.rows true [i64, i64, i8] []) rfl rfl rfl rfl rfl).trans (Ent.rn [0, 1, 3, 2] [2, 4, 5, 6, 7] rfl rfl rfl rfl rfl)) (fun s10 => ?_) (fun s20 => ?_)
 ·refine aN hE 2 rfl ?_ ?_
  ·refine aq rfl ?_
   refine cu ?_
   refine ez (pb (pl (decide_eq_true (bx rfl)) id) id) ?_
   refine dF hE 2 (let x35 := (vl (Psn.mk p.f p.r (List.take p.zs.length (List.drop 0 p.zs)) p.bl p.ca p.pa p.ha p.fu) from_).getD []; fun (s12 : List (List Int)) => ([(2, V.ptr 1 0 0), (4, V.nils), (5, V.sl 2 0 s12.length none), (6, V.sl 3 0 x35.length none), (7, I s10.2)], [O.ints false i8 p.zs, O.cells true [I p.f, I p.r, V.sl 0 0 p.zs.length none, Bb p.bl, V.int u8 p.ca, I p.pa, I p.ha, I p.fu], O.rows true [i64, i64, i8] s12, O.rows true [i64, i64, i8] x35])) rfl ?_ ?_ (fun s12 => ?_)
   ·refine cu ?_
    refine ez (pr (pl (decide_eq_true rfl) id) rfl) ?_
    exact cr ((Ent.rn [0, 1, 5, 3] [2, 4, 5, 6, 7] rfl rfl rfl rfl rfl))
   ·exact cr ((Ent.rn [0, 1, 2, 3] [2, 4, 5, 6, 7] rfl rfl rfl rfl rfl))
   exact dg ((Ent.rn [0, 1, 2, 3] [2, 4, 5, 6, 7] rfl rfl rfl rfl rfl))
  exact dD ((Ent.rn [0, 2] [4, 5] rfl rfl rfl rfl rfl))
 exact aZ (bz [1] (.inr rfl) rfl rfl rfl rfl rfl)
theorem zi : CtOk (GGx kCa kDb) PP (19, va) := by
 refine aG Tryz.func19 (by kernel_rfl) rfl fun a0 h0 c0 v0 N0 e hc => ?_
 unfold va at e
 split at e
 ·rename_i p_0 p_1 p_2n p_3 p_4 p_5 p_6 p_7 from__0 p_2
  obtain ⟨hl, r, hr, rfl, rfl⟩ := cX e hc
  simp only [Bool.and_eq_true, decide_eq_true_eq] at hl
  obtain rfl := hl
  exact CE ⟨p_0, p_1, p_2, p_3, p_4, p_5, p_6, p_7⟩ from__0 hr
 ·cases e
def jd : Psn -> List (List Int) × Int -> Option (List (List Int) × Int ⊕ List (List Int) ⊕ List (List Int)) := fun (p : Psn) (s7 : List (List Int) × Int) => bif decide (s7.2 < Int.ofNat p.zs.length) then fY (yE (Psn.mk p.f p.r (List.take p.zs.length (List.drop 0 p.zs)) p.bl p.ca p.pa p.ha p.fu) s7.2) [] fun (y8 : List (List Int)) => let x19 := (s7.1.length + y8.length) * 24; bj (decide (x19 <= 140737488355328) && !Nat.beq 2 (1 - hlen ([] ++ [O.ints false i8 (List.take p.zs.length (List.drop 0 p.zs))]) + 2 + 1)) (some (Sum.inl (s7.1 ++ List.take y8.length (List.drop 0 y8), i64.wrap (s7.2 + 1)))) else some (Sum.inr (Sum.inl s7.1))
def nJ (p : Psn) : Option (List (List Int)) := cK (jd p) (fun (s16 : List (List Int)) => some s16) 1000000 ([], 0)
def qa (R : List (List Int)) : V := .sl 1 0 R.length none
def ri (R : List (List Int)) : List O := [.rows true [.i64, .i64, .i8] R]
def qg : CF
 | [.agg [.int .i64 p_0, .int .i64 p_1, .sl 0 0 p_2n none, .bool p_3, .int .u8 p_4, .int .i64 p_5, .int .i64 p_6, .int .i64 p_7]], [.ints false .i8 p_2] => retC (decide (p_2n = p_2.length)) (nJ ⟨p_0, p_1, p_2, p_3, p_4, p_5, p_6, p_7⟩) [] qa ri
 | _, _ => none
theorem yM (p : Psn) {r} (hr : nJ p = some r) : aM (GGx kCa kDb) PP 15 [.agg [.int .i64 p.f, .int .i64 p.r, .sl 0 0 p.zs.length none, Bb p.bl, .int .u8 p.ca, .int .i64 p.pa, .int .i64 p.ha, .int .i64 p.fu]] [.ints false .i8 p.zs] (qa r) (ri r) := by
 have hE := cutE (aD (kCa := kCa) (kDb := kDb) (cts := [(19, va)]) (inl := []) ⟨zi, trivial⟩ trivial)
 refine eH hE 2 Tryz.func15 rfl rfl qa ri hr ?_ rfl rfl
 refine dy hE 2 (fun (s7 : List (List Int) × Int) => ([(1, V.ptr 1 0 0), (2, V.nils), (3, V.sl 2 0 s7.1.length none), (4, I s7.2)], [O.ints false i8 p.zs, O.cells true [I p.f, I p.r, V.sl 0 0 p.zs.length none, Bb p.bl, V.int u8 p.ca, I p.pa, I p.ha, I p.fu], O.rows true [i64, i64, i8] s7.1])) (fun (s16 : List (List Int)) => ([(2, V.nils), (3, V.sl 1 0 s16.length none)], [O.ints false i8 p.zs, O.rows true [i64, i64, i8] s16])) (.exit 0) ((Ent.phT 3 (O.rows true [i64, i64, i8] []) rfl rfl rfl rfl rfl).trans (Ent.rn [0, 1, 2] [1, 2, 3, 4] rfl rfl rfl rfl rfl)) (fun s7 => ?_) (fun s16 => ?_)
 ·refine aN hE 2 rfl ?_ ?_
  ·refine bX (pl (decide_eq_true (bx rfl)) id) ?_
   refine ez (pb (pl (decide_eq_true rfl) id) id) ?_
   exact dg ((Ent.rn [0, 1, 4] [1, 2, 3, 4] rfl rfl rfl rfl rfl))
  exact dD ((Ent.rn [0, 2] [2, 3] rfl rfl rfl rfl rfl))
 exact aZ (bz [1] (.inr rfl) rfl rfl rfl rfl rfl)
theorem vP : CtOk (GGx kCa kDb) PP (15, qg) := by
 refine aG Tryz.func15 (by kernel_rfl) rfl fun a0 h0 c0 v0 N0 e hc => ?_
 unfold qg at e
 split at e
 ·rename_i p_0 p_1 p_2n p_3 p_4 p_5 p_6 p_7 p_2
  obtain ⟨hl, r, hr, rfl, rfl⟩ := cX e hc
  simp only [Bool.and_eq_true, decide_eq_true_eq] at hl
  obtain rfl := hl
  exact yM ⟨p_0, p_1, p_2, p_3, p_4, p_5, p_6, p_7⟩ hr
 ·cases e
end
end Go.Ab
namespace Go.Ab
open Go.Proofs
section
theorem fD {β σ ξ α : Type} {step : σ × Int -> Option (σ × Int ⊕ (ξ ⊕ α))} {F : ξ -> Option α} (l : List β) (f : σ -> β -> σ) (out : σ -> ξ) (inv : Nat -> σ -> Prop)
  (hs : ∀ (j : Nat) (x : β) (s : σ), l[j]? = some x -> inv j s -> step (s, (j : Int)) = some (.inl (f s x, ((j + 1 : Nat) : Int))) /\ inv (j + 1) (f s x))
  (he : ∀ s, inv l.length s -> step (s, (l.length : Int)) = some (.inr (.inl (out s)))) :
  ∀ (k fuel j : Nat) (s : σ), j + k = l.length -> k < fuel -> inv j s -> cK step F fuel (s, (j : Int)) = F (out ((l.drop j).foldl f s))
 | k, 0, j, s, _, h, _ => absurd h (by omega)
 | 0, fuel + 1, j, s, h, _, hi => by
  have h0 : j = l.length := by omega
  subst h0
  rw [fj (he s hi), List.drop_length]; rfl
 | k + 1, fuel + 1, j, s, h, hf, hi => by
  have hj : j < l.length := by omega
  obtain ⟨h1, h2⟩ := hs j l[j] s (List.getElem?_eq_getElem hj) hi
  rw [bK h1, fD l f out inv hs he k fuel (j + 1) _ (by omega) (by omega) h2, List.drop_eq_getElem_cons hj, List.foldl_cons]
theorem fS {β : Type} (q : β -> Bool) : ∀ (l acc : List β), l.foldl (fun acc x => bif q x then acc ++ [x] else acc) acc = acc ++ l.filter q
 | [], acc => by simp
 | x :: l, acc => by
  rw [List.foldl_cons, fS q l, List.filter_cons]
  cases q x <;> simp
theorem oP {β γ : Type} (g : β -> List γ) : ∀ (l : List β) (acc : List γ), l.foldl (fun acc x => acc ++ g x) acc = acc ++ l.flatMap g
 | [], acc => by simp
 | x :: l, acc => by rw [List.foldl_cons, oP g l, List.flatMap_cons, List.append_assoc]
def mvR (r : List Int) : Mov := ⟨r.getD 0 0, r.getD 1 0, r.getD 2 0⟩
section
variable {p : Psn}
def qL (p : Psn) (r : List Int) : Prop := ∃ a b pr, r = [a, b, pr] /\ canM p a b pr = true
def legF (p : Psn) (r : List Int) : Bool := !err4 p (mvR r)
theorem Hw {a : Int} {r : List Int} (h : r ∈ psL p a) : ∃ b pr, r = [a, b, pr] /\ canM p a b pr = true := by
 unfold psL iI at h
 simp only [List.mem_flatMap, List.mem_map, List.mem_filter] at h
 obtain ⟨b, _, pr, ⟨_, h2⟩, rfl⟩ := h
 exact ⟨b, pr, rfl, h2⟩
theorem Gl {a : Int} {r : List Int} (h : r ∈ psL p a) : qL p r := let ⟨b, pr, h1, h2⟩ := Hw h; ⟨a, b, pr, h1, h2⟩
theorem vp {r : List Int} (h : r ∈ allL p) : qL p r := by
 unfold allL at h
 obtain ⟨a, _, h⟩ := List.mem_flatMap.1 h
 exact Gl h
theorem HG {a b pr : Int} (h : canM p a b pr = true) : mvB p.f p.r a b pr = true := by
 cases hm : mvB p.f p.r a b pr with
 | true => rfl
 | false => rw [Gb hm] at h; cases h
theorem FI (o : PsH p) {a : Int} : yE p a = some ((psL p a).filter (legF p)) := by
 have hpl := nc (p := p) (a := a) o.hl
 unfold yE
 simp only [List.drop_zero, List.take_length, cQ, Et o]
 rw [ck]
 refine (fD (step := kW p (psL p a)) (psL p a) (fun acc x => bif legF p x then acc ++ [x] else acc) (fun s => s) (fun j s => s.length <= j) ?_ ?_ (psL p a).length 1000000 0 [] (by omega) (by omega) (by simp)).trans ?_
 rotate_left 2
 ·rw [List.drop_zero, fS, List.nil_append]
 ·intro j x s hx hi
  obtain ⟨a', b, pr, rfl, hc⟩ := Gl (List.mem_of_getElem? hx)
  have hj := (List.getElem?_eq_some_iff.1 hx).1
  have e1 : (psL p a).getD (j : Int).toNat [] = [a', b, pr] := by simp [List.getD, hx]
  have h1 : decide ((j : Int) < Int.ofNat (psL p a).length) = true := by simp; omega
  have h2 : decide (0 <= (j : Int)) = true := by simp
  have h3 : decide ((s.length + 1) * 24 <= 140737488355328) = true := by simp; omega
  have h4 : decide (p.zs.length <= 64) = true := by simpa using o.hl
  have k := gG (m := ⟨a', b, pr⟩) o hc
  have hv : (az p.f p.r p.zs && cA p.f p.r p.zs p.ca && aj p.f p.r a' && aj p.f p.r b) = true := by rw [k.bd, cast_eq k.ca, k.cast, k.ha, k.hb]; rfl
  have hsf : sfL p ⟨a', b, pr⟩ = legF p [a', b, pr] := IM o (m := ⟨a', b, pr⟩) hc
  refine ⟨?_, ?_⟩
  ·unfold kW
   simp only [List.drop_zero, List.take_length, cQ, e1, h1, h2, h3, h4, cond_true, Bool.and_self, aQ]
   rw [show ([a', b, pr] : List Int).getD 0 0 = a' from rfl, show ([a', b, pr] : List Int).getD 1 0 = b from rfl, show ([a', b, pr] : List Int).getD 2 0 = pr from rfl, hv, hsf, show IntKind.i64.wrap ((j : Int) + 1) = ((j + 1 : Nat) : Int) from aB (by omega) (by omega)]
   cases legF p [a', b, pr] <;> rfl
  ·cases legF p [a', b, pr] <;> simp <;> omega
 ·intro s _
  have h1 : decide (((psL p a).length : Int) < Int.ofNat (psL p a).length) = false := by simp
  unfold kW
  simp only [h1, cond_false]
theorem Ap (o : PsH p) : nJ p = some ((allL p).filter (legF p)) := by
 have hl := o.hl
 unfold nJ
 refine (fD (step := jd p) (List.range p.zs.length) (fun acc (j : Nat) => acc ++ (psL p j).filter (legF p)) (fun s => s) (fun j s => s.length <= 320 * j) ?_ ?_ p.zs.length 1000000 0 [] (by simp) (by omega) (by simp)).trans ?_
 rotate_left 2
 ·rw [List.drop_zero, oP, List.nil_append]
  unfold allL
  rw [List.filter_flatMap, List.flatMap_map]
  rfl
 ·intro j x s hx hi
  obtain ⟨hj, hx⟩ := List.getElem?_eq_some_iff.1 hx
  simp only [List.length_range, List.getElem_range] at hj hx
  subst hx
  have hp := nc (p := p) (a := (j : Int)) hl
  have hf : ((psL p j).filter (legF p)).length <= 320 := Nat.le_trans (List.length_filter_le _ _) hp
  have h1 : decide ((j : Int) < Int.ofNat p.zs.length) = true := by simp; omega
  have h2 : decide ((s.length + ((psL p j).filter (legF p)).length) * 24 <= 140737488355328) = true := by simp; omega
  refine ⟨?_, by rw [List.length_append]; omega⟩
  unfold jd
  simp only [List.drop_zero, List.take_length, cQ, h1, cond_true, FI o, ck, h2]
  rw [show IntKind.i64.wrap ((j : Int) + 1) = ((j + 1 : Nat) : Int) from aB (by omega) (by omega)]
  rfl
 ·intro s _
  have h1 : decide (((List.range p.zs.length).length : Int) < Int.ofNat p.zs.length) = false := by simp
  unfold jd
  simp only [h1, cond_false]
end
end
section
def fR4 (k1 k2 k3 k4 : Bool) : Int := bif k4 then u8or (bif k3 then u8or (bif k2 then u8or (bif k1 then u8or 0 1 else 0) 2 else (bif k1 then u8or 0 1 else 0)) 4 else (bif k2 then u8or (bif k1 then u8or 0 1 else 0) 2 else (bif k1 then u8or 0 1 else 0))) 8 else (bif k3 then u8or (bif k2 then u8or (bif k1 then u8or 0 1 else 0) 2 else (bif k1 then u8or 0 1 else 0)) 4 else (bif k2 then u8or (bif k1 then u8or 0 1 else 0) 2 else (bif k1 then u8or 0 1 else 0)))
def gR1 (ca bit : Int) (k : Bool) : Int := bif decide ((IntKind.u8.wrap (ca.tdiv bit)).tmod 2 = 1) && k then IntKind.u8.wrap (ca - bit) else ca
theorem zl : ∀ ca : _root_.Fin 16, ∀ a1 a2 a3 a4 b1 b2 b3 b4 : Bool, Gj (ca.val : Int) (u8or (fR4 a1 a2 a3 a4) (fR4 b1 b2 b3 b4)) = gR1 (gR1 (gR1 (gR1 (ca.val : Int) 1 (a1 || b1)) 2 (a2 || b2)) 4 (a3 || b3)) 8 (a4 || b4) := by decide +kernel
theorem AK {ca a b : Int} (h : 0 <= ca /\ ca <= 15) : afC ca a b = caR ca a b := by
 obtain ⟨q1, q2, q3, q4, q5, q6, q7, q8⟩ := sqs
 obtain ⟨p1, p2, p3, p4, p5, p6, p7, p8⟩ := sq01
 have hl : ∀ at_, EJ at_ = fR4 (decide (4 = at_) || decide (7 = at_)) (decide (4 = at_) || decide (0 = at_)) (decide (60 = at_) || decide (63 = at_)) (decide (60 = at_) || decide (56 = at_)) := fun at_ => rfl
 have hs : ∀ c bit k q, sqW bit 0 = k -> sqW bit 2 = q -> afS c a b bit = gR1 c bit ((decide (k = a) || decide (q = a)) || (decide (k = b) || decide (q = b))) := by
  intro c bit k q h0 h2
  unfold afS gR1 hasL
  rw [h0, h2]
  unfold hasL hasL
  simp only [Bool.or_false]
 have := zl ⟨ca.toNat, by omega⟩ (decide (4 = a) || decide (7 = a)) (decide (4 = a) || decide (0 = a)) (decide (60 = a) || decide (63 = a)) (decide (60 = a) || decide (56 = a)) (decide (4 = b) || decide (7 = b)) (decide (4 = b) || decide (0 = b)) (decide (60 = b) || decide (63 = b)) (decide (60 = b) || decide (56 = b))
 unfold afC caR
 rw [hl, hl, hs _ 1 4 7 p1 q1, hs _ 2 4 0 p3 q3, hs _ 4 60 63 p5 q5, hs _ 8 60 56 p7 q7]
 dsimp only at this
 rw [show ((ca.toNat : Nat) : Int) = ca by omega] at this
 exact this.symm
section
variable {p : Psn} {m : Mov}
theorem MvOk.pas (o : MvOk p m) : afPa p.f p.r p.zs m.a m.b = paR p.f p.zs m.a m.b := by
 unfold afPa paR twoB
 rw [o.kd]
 cases hk : decide (aP (p.zs.getD m.a.toNat 0) = 1) with
 | false => rfl
 | true =>
  obtain ⟨a0, a1, a2, a3, a4, a5, a6⟩ := eF o.ha
  obtain ⟨b0, b1, b2, b3, b4, b5, _⟩ := eF o.hb
  have hla := aJ o.ha
  have hlb := aJ o.hb
  have hfw : fwd p.bl = 1 \/ fwd p.bl = -1 := by cases p.bl <;> simp [fwd]
  rw [pc_w o.hb o.ha, pc_w o.ha o.hb, a0, b0, aB (n := m.b - m.a) (by omega) (by omega), aB (n := 2 * p.f) (by omega) (by omega), aB (n := -2 * p.f) (by omega) (by omega)]
  simp only [Bool.true_and]
  have hdiff : m.b - m.a = (px p.f m.b - px p.f m.a) + (py p.f m.b * p.f - py p.f m.a * p.f) := by omega
  have one : ∀ d : Int, (d = 1 \/ d = -1) -> py p.f m.b = py p.f m.a + d -> (-1 <= px p.f m.b - px p.f m.a /\ px p.f m.b - px p.f m.a <= 1) -> (decide (py p.f m.a - py p.f m.b = 2) || decide (py p.f m.b - py p.f m.a = 2)) = false /\ (decide (m.b - m.a = 2 * p.f) || decide (m.b - m.a = -2 * p.f)) = false := by
   intro d hd hy hx
   have : py p.f m.b * p.f = py p.f m.a * p.f + d * p.f := by rw [hy, Int.add_mul]
   constructor
   ·rw [decide_eq_false (by omega), decide_eq_false (by omega)]; rfl
   ·rcases hd with rfl | rfl <;> rw [decide_eq_false (by omega), decide_eq_false (by omega)] <;> rfl
  rcases (o.steps (of_decide_eq_true hk)).1 with h | h
  ·obtain ⟨e1, h2⟩ := AR o.ha o.hb h
   rcases h2 with e2 | ⟨e2, _, _, e5, _⟩
   ·obtain ⟨g1, g2⟩ := one (fwd p.bl) hfw e2 (by omega)
    rw [g1, g2]; rfl
   ·have hmul : py p.f m.b * p.f = py p.f m.a * p.f + 2 * (fwd p.bl * p.f) := by rw [e2, Int.add_mul, Int.mul_assoc]
    have hd2 : m.b - m.a = 2 * (fwd p.bl * p.f) := by omega
    have g1 : (decide (py p.f m.a - py p.f m.b = 2) || decide (py p.f m.b - py p.f m.a = 2)) = true := by
     rcases hfw with e | e
     ·rw [decide_eq_true (p := py p.f m.b - py p.f m.a = 2) (by omega), Bool.or_true]
     ·rw [decide_eq_true (p := py p.f m.a - py p.f m.b = 2) (by omega), Bool.true_or]
    have g2 : (decide (m.b - m.a = 2 * p.f) || decide (m.b - m.a = -2 * p.f)) = true := by
     rcases hfw with e | e <;> rw [e] at hd2
     ·rw [decide_eq_true (p := m.b - m.a = 2 * p.f) (by omega), Bool.true_or]
     ·rw [decide_eq_true (p := m.b - m.a = -2 * p.f) (by omega), Bool.or_true]
    rw [g1, g2, cond_true, cond_true, hd2, Int.mul_tdiv_cancel_left _ (by decide)]
    have hr : m.b - fwd p.bl * p.f = m.a + fwd p.bl * p.f := by omega
    have hlc := aJ e5
    rw [hr] at e5 hlc
    rw [aB (n := fwd p.bl * p.f) (by omega) (by omega), aB (n := m.a + fwd p.bl * p.f) (by omega) (by omega)]
    have hy : py p.f m.a + py p.f m.b = 2 * (py p.f m.a + fwd p.bl) := by omega
    rw [aB (n := py p.f m.a + py p.f m.b) (by omega) (by omega), hy, Int.mul_tdiv_cancel_left _ (by decide), aB (n := py p.f m.a + fwd p.bl) (by omega) (by omega)]
    obtain ⟨_, c1, c2, c3, c4, c5, _⟩ := eF e5
    have hu := qH (f := p.f) (by omega) c1 c2 a1 a2 (show px p.f (m.a + fwd p.bl * p.f) + py p.f (m.a + fwd p.bl * p.f) * p.f = px p.f m.a + (py p.f m.a + fwd p.bl) * p.f by rw [c5, Int.add_mul]; omega)
    have ho : onB p.f p.r (m.a.tmod p.f) (py p.f m.a + fwd p.bl) = true := jo a1 a2 (by omega) (by omega)
    exact (iu (bE o.ha) ho e5).2 ⟨hu.1, hu.2⟩
  ·have hat := h.1
   simp only [dA, Bool.and_eq_true, Bool.or_eq_true, decide_eq_true_eq] at hat
   rw [pc_w o.ha o.hb] at hat
   have e1 : m.a.tmod p.f = px p.f m.a := rfl
   have e2 : m.b.tmod p.f = px p.f m.b := rfl
   rw [e1, e2, aB (n := px p.f m.b - px p.f m.a) (by omega) (by omega), aB (n := px p.f m.a - px p.f m.b) (by omega) (by omega)] at hat
   obtain ⟨g1, g2⟩ := one (fwd p.bl) hfw (by omega) (by omega)
   rw [g1, g2]; rfl
theorem MvOk.half (o : MvOk p m) : afHa p.f p.r p.zs p.pa p.ha m.a m.b = haR p.f p.zs p.pa p.ha m.a m.b := by
 unfold afHa haR
 rw [o.kd, o.cap.1]
 have : decide (0 <= at2R p.f p.zs p.pa m.a m.b) = !decide (capR p.f p.zs p.pa m.a m.b = 0) := by
  by_cases h : 0 <= at2R p.f p.zs p.pa m.a m.b
  ·rw [decide_eq_true h, decide_eq_false (o.cap.2.2.2 h)]; rfl
  ·rw [decide_eq_false h, decide_eq_true (o.cap.2.2.1 (by omega)).2.1]; rfl
 rw [this]
theorem MvOk.caB (o : MvOk p m) : 0 <= p.ca /\ p.ca <= 15 := by
 have := o.cast
 simp only [eI, Bool.and_eq_true, decide_eq_true_eq] at this
 exact ⟨o.ca, by omega⟩
theorem MvOk.after (o : MvOk p m) : afP p m = ⟨p.f, p.r, zs3R p.f p.r p.zs p.bl p.ca p.pa m.a m.b m.p, !p.bl, caR p.ca m.a m.b, paR p.f p.zs m.a m.b, haR p.f p.zs p.pa p.ha m.a m.b, fuR p.bl p.fu⟩ := by
 unfold afP
 rw [o.af, o.pas, o.half, AK o.caB]
end
end
section
variable {p : Psn} {m : Mov}
end
def afM (r : List Int) : Mov := ⟨r.getD 0 0, r.getD 1 0, r.getD 2 0⟩
def cL (p : Psn) (l : List (List Int)) : List (Mov × Psn) := l.filterMap fun r => bif decide (mkE5 p (afM r) = 0) then some (afM r, mkP p (afM r)) else none
def Ai (x : Mov × Psn) : List V := [.agg [I x.1.a, I x.1.b, .int .i8 x.1.p], .agg [I x.2.f, I x.2.r, .sl 0 0 x.2.zs.length none, Bb x.2.bl, .int .u8 x.2.ca, I x.2.pa, I x.2.ha, I x.2.fu]]
def afNs (x : Mov × Psn) : List O := [.ints true .i8 x.2.zs]
def afHc (p : Psn) : List O := [.cells false [I p.f, I p.r, .sl 2 0 p.zs.length none, Bb p.bl, .int .u8 p.ca, I p.pa, I p.ha, I p.fu], .ints false .i8 p.zs]
theorem CQ {p : Psn} : ∀ {l : List (List Int)} {j : Nat} (hj : j < l.length), mkE5 p (afM l[j]) = 0 -> (cL p l)[(cL p (l.take j)).length]? = some (afM l[j], mkP p (afM l[j])) /\ (cL p (l.take (j + 1))).length = (cL p (l.take j)).length + 1 := by
 intro l j hj he
 have h1 : l.take (j + 1) = l.take j ++ [l[j]] := by rw [List.take_succ_eq_append_getElem hj]
 have h2 : l = l.take j ++ l[j] :: l.drop (j + 1) := by rw [List.getElem_cons_drop, List.take_append_drop]
 have h3 : cL p [l[j]] = [(afM l[j], mkP p (afM l[j]))] := by simp [cL, he]
 refine ⟨?_, ?_⟩
 ·have h4 : cL p l = cL p (l.take j) ++ (afM l[j], mkP p (afM l[j])) :: cL p (l.drop (j + 1)) := by
   have h5 : cL p l = cL p (l.take j ++ l[j] :: l.drop (j + 1)) := by rw [<- h2]
   rw [h5]
   unfold cL
   rw [List.filterMap_append, List.filterMap_cons, he]
   rfl
  rw [h4, List.getElem?_append_right (Nat.le_refl _)]; simp
 ·rw [h1]
  unfold cL at h3 ⊢
  rw [List.filterMap_append, h3]; simp
theorem CM {p : Psn} : ∀ {l : List (List Int)} {j : Nat} (hj : j < l.length), mkE5 p (afM l[j]) ≠ 0 -> (cL p (l.take (j + 1))).length = (cL p (l.take j)).length := by
 intro l j hj he
 have h1 : l.take (j + 1) = l.take j ++ [l[j]] := by rw [List.take_succ_eq_append_getElem hj]
 rw [h1]
 unfold cL
 rw [List.filterMap_append]
 simp [he]
theorem EO (p : Psn) {l : List (List Int)} {e : Int} (hp : gV p = some (l, e)) (hl : p.zs.length <= 64) (hn : l.length <= 100000) : SqH (GGx true true) PP 59 (afHc p) [.ptr 1 0 0] [.rows true [.i64, .i64, .i8] l] ((cL p l).map fun x => (Ai x, afNs x)) := by
 have hE := aD (kCa := true) (kDb := true) (cts := [(38, kQ), (60, ya)]) (inl := []) ⟨nf, sP, trivial⟩ trivial
 refine BA hE Tryz.func59 rfl rfl rfl rfl rfl fun nn l0 S0 ρc J ok => ?_
 refine YH.seq (YH.seg hE 2 ?_)
 have e1 : (⟨p.f, p.r, List.take p.zs.length (List.drop 0 p.zs), p.bl, p.ca, p.pa, p.ha, p.fu⟩ : Psn) = p := by rw [List.drop_zero, List.take_length]
 refine ae (by rw [e1, hp, List.drop_zero, List.take_length]; simp) ?_
 refine ag ?_
 rw [e1, hp]
 refine YH.seq (YH.seg hE 2 ?_)
 repeat (first | refine ah ?_ | refine ae (by first | rfl | (simp; done) | (simp; omega)) ?_)
 refine ag ?_
 refine YH.block (YH.loop (fun a : Nat × Nat × Bool => ((some a.2.1, a.2.2), [(0, .yl 0), (1, .ptr 1 0 0), (15, .sl 3 0 l.length none), (16, I l.length), (17, I a.1)],
   [.gone, .cells false [I p.f, I p.r, .sl 2 0 p.zs.length none, Bb p.bl, .int .u8 p.ca, I p.pa, I p.ha, I p.fu], .ints false .i8 p.zs, match a.2.2 with | true => .rows false [.i64, .i64, .i8] l | false => .rows true [.i64, .i64, .i8] l]))
  (fun a => a.1 <= l.length /\ a.2.1 = (cL p (l.take a.1)).length) (fun a => l.length - a.1) (0, 0, false) rfl (Ent.ren [0, 1, 2, 3] [0, 1, 15, 16, 17] rfl rfl rfl) ⟨Nat.zero_le _, rfl⟩ ?_)
 rintro ⟨j, i, hd⟩ ⟨i1, i2⟩
 dsimp only at i1 i2 ⊢
 have hrow : ∀ (x : Bool), (match x with | true => O.rows false [.i64, .i64, .i8] l | false => .rows true [.i64, .i64, .i8] l) = O.rows (!x) [.i64, .i64, .i8] l := by intro x; cases x <;> rfl
 cases hd with
 | false =>
  refine YH.seq (YH.seg hE 2 ?_)
  repeat (first | refine ah ?_ | refine sat_nd ?_)
  refine ag ?_
  refine YH.seq (YH.seg hE 2 ?_)
  refine au (fun h1 => ag ?_) (fun h1 => ag ?_)
  ·have hj : j < l.length := by have h1 := of_decide_eq_true h1; omega
   have hw : IntKind.i64.wrap ((j : Int) + 1) = ((j + 1 : Nat) : Int) := aB (by omega) (by omega)
   have hx : l.getD (j : Int).toNat [] = l[j] := by simp [List.getD, hj]
   refine YH.seq (YH.block (YH.seq (YH.seg hE 2 ?_)))
   repeat (first | refine ah ?_ | refine sat_nd ?_)
   refine ag ?_
   refine YH.seq (YH.seg hE 2 ?_)
   refine ae (by rw [List.drop_zero, List.take_length]; simpa using hl) ?_
   repeat (first | refine ah ?_ | refine sat_nd ?_)
   refine ag ?_
   rw [e1]
   refine YH.seq (YH.yregAt ok 2 6 rfl rfl rfl ?_)
   repeat (first | refine ah ?_ | refine sat_nd ?_)
   refine ag ?_
   have hmv : (⟨(l.getD (j : Int).toNat []).getD 0 0, (l.getD (j : Int).toNat []).getD 1 0, (l.getD (j : Int).toNat []).getD 2 0⟩ : Mov) = afM l[j] := by rw [hx]; rfl
   refine And.intro (fun hg => ?_) (fun hg => ?_)
   ·repeat (first | refine ah ?_ | refine sat_nd ?_)
    refine ag ?_
    have he : mkE5 p (afM l[j]) = 0 := by rw [<- hmv]; exact of_decide_eq_true hg
    obtain ⟨n1, n2⟩ := CQ hj he
    refine ⟨i, Ai (afM l[j], mkP p (afM l[j])), afNs (afM l[j], mkP p (afM l[j])), [0, 1, 15, 16, 17, 30], [3, 5], _, rfl, by rw [List.getElem?_map, i2, n1]; rfl, rfl, rfl, by rw [<- hmv]; rfl, by rw [<- hmv]; rfl, rfl, rfl, rfl, rfl, fun b => ?_⟩
    cases b with
    | true =>
     repeat (first | refine ah ?_ | refine sat_nd ?_)
     refine ag ?_
     refine YH.seg hE 2 ?_
     repeat (first | refine ah ?_ | refine sat_nd ?_)
     refine ag ?_
     refine YH.seg hE 2 ?_
     repeat (first | refine ah ?_ | refine sat_nd ?_)
     refine ag ⟨(j + 1, i + 1, true), ⟨hj, by dsimp only; omega⟩, by dsimp only; omega, rfl, ?_⟩
     dsimp only
     rw [hw]
     exact Ent.ren [0, 1, 2, 3] [0, 1, 15, 16, 17] rfl rfl rfl
    | false =>
     repeat (first | refine ah ?_ | refine sat_nd ?_)
     refine ag ?_
     refine YH.seg hE 2 ?_
     repeat (first | refine ah ?_ | refine sat_nd ?_)
     exact ag ⟨.inr rfl, .inr rfl⟩
   ·repeat (first | refine ah ?_ | refine sat_nd ?_)
    refine ag ?_
    have he : mkE5 p (afM l[j]) ≠ 0 := by rw [<- hmv]; exact of_decide_eq_false hg
    refine YH.seg hE 2 ?_
    repeat (first | refine ah ?_ | refine sat_nd ?_)
    refine ag ?_
    refine YH.seg hE 2 ?_
    repeat (first | refine ah ?_ | refine sat_nd ?_)
    refine ag ⟨(j + 1, i, false), ⟨hj, by dsimp only; rw [CM hj he]; exact i2⟩, by dsimp only; omega, rfl, ?_⟩
    dsimp only
    rw [hw]
    exact Ent.ren [0, 1, 2, 3] [0, 1, 15, 16, 17] rfl rfl rfl
  ·have hj : j = l.length := by have h1 := of_decide_eq_false h1; omega
   refine ⟨.inl rfl, .inl ?_⟩
   dsimp only
   rw [i2, hj, List.take_length, List.length_map]
 | true =>
  refine YH.seq (YH.seg hE 2 ?_)
  repeat (first | refine ah ?_ | refine sat_nd ?_)
  refine ag ?_
  refine YH.seq (YH.seg hE 2 ?_)
  refine au (fun h1 => ag ?_) (fun h1 => ag ?_)
  ·have hj : j < l.length := by have h1 := of_decide_eq_true h1; omega
   have hw : IntKind.i64.wrap ((j : Int) + 1) = ((j + 1 : Nat) : Int) := aB (by omega) (by omega)
   have hx : l.getD (j : Int).toNat [] = l[j] := by simp [List.getD, hj]
   refine YH.seq (YH.block (YH.seq (YH.seg hE 2 ?_)))
   repeat (first | refine ah ?_ | refine sat_nd ?_)
   refine ag ?_
   refine YH.seq (YH.seg hE 2 ?_)
   refine ae (by rw [List.drop_zero, List.take_length]; simpa using hl) ?_
   repeat (first | refine ah ?_ | refine sat_nd ?_)
   refine ag ?_
   rw [e1]
   refine YH.seq (YH.yregAt ok 2 6 rfl rfl rfl ?_)
   repeat (first | refine ah ?_ | refine sat_nd ?_)
   refine ag ?_
   have hmv : (⟨(l.getD (j : Int).toNat []).getD 0 0, (l.getD (j : Int).toNat []).getD 1 0, (l.getD (j : Int).toNat []).getD 2 0⟩ : Mov) = afM l[j] := by rw [hx]; rfl
   refine And.intro (fun hg => ?_) (fun hg => ?_)
   ·repeat (first | refine ah ?_ | refine sat_nd ?_)
    refine ag ?_
    have he : mkE5 p (afM l[j]) = 0 := by rw [<- hmv]; exact of_decide_eq_true hg
    obtain ⟨n1, n2⟩ := CQ hj he
    refine ⟨i, Ai (afM l[j], mkP p (afM l[j])), afNs (afM l[j], mkP p (afM l[j])), [0, 1, 15, 16, 17, 30], [5], _, rfl, by rw [List.getElem?_map, i2, n1]; rfl, rfl, rfl, by rw [<- hmv]; rfl, by rw [<- hmv]; rfl, rfl, rfl, rfl, rfl, fun b => ?_⟩
    cases b with
    | true =>
     repeat (first | refine ah ?_ | refine sat_nd ?_)
     refine ag ?_
     refine YH.seg hE 2 ?_
     repeat (first | refine ah ?_ | refine sat_nd ?_)
     refine ag ?_
     refine YH.seg hE 2 ?_
     repeat (first | refine ah ?_ | refine sat_nd ?_)
     refine ag ⟨(j + 1, i + 1, true), ⟨hj, by dsimp only; omega⟩, by dsimp only; omega, rfl, ?_⟩
     dsimp only
     rw [hw]
     exact Ent.ren [0, 1, 2, 3] [0, 1, 15, 16, 17] rfl rfl rfl
    | false =>
     repeat (first | refine ah ?_ | refine sat_nd ?_)
     refine ag ?_
     refine YH.seg hE 2 ?_
     repeat (first | refine ah ?_ | refine sat_nd ?_)
     exact ag ⟨.inr rfl, .inr rfl⟩
   ·repeat (first | refine ah ?_ | refine sat_nd ?_)
    refine ag ?_
    have he : mkE5 p (afM l[j]) ≠ 0 := by rw [<- hmv]; exact of_decide_eq_false hg
    refine YH.seg hE 2 ?_
    repeat (first | refine ah ?_ | refine sat_nd ?_)
    refine ag ?_
    refine YH.seg hE 2 ?_
    repeat (first | refine ah ?_ | refine sat_nd ?_)
    refine ag ⟨(j + 1, i, true), ⟨hj, by dsimp only; rw [CM hj he]; exact i2⟩, by dsimp only; omega, rfl, ?_⟩
    dsimp only
    rw [hw]
    exact Ent.ren [0, 1, 2, 3] [0, 1, 15, 16, 17] rfl rfl rfl
  ·have hj : j = l.length := by have h1 := of_decide_eq_false h1; omega
   refine ⟨.inl rfl, .inl ?_⟩
   dsimp only
   rw [i2, hj, List.take_length, List.length_map]
def afL (p : Psn) : List (List Int) := ((gV p).getD ([], 0)).1
def afLs (p : Psn) : List (Mov × Psn) := cL p (afL p)
def Ii (p : Psn) : O := .rows true [.i64, .i64, .i8] (afL p)
abbrev Jv : List V := [.ptr 1 0 0]
def afOk (p : Psn) : Bool := (gV p).isSome && decide (p.zs.length <= 64) && decide ((afL p).length <= 100000)
theorem Jq (p : Psn) (h : afOk p = true) : SqH (GGx true true) PP 59 (afHc p) Jv [Ii p] ((afLs p).map fun x => (Ai x, afNs x)) := by
 unfold afOk at h
 simp only [Bool.and_eq_true, decide_eq_true_eq] at h
 obtain ⟨⟨h1, h2⟩, h3⟩ := h
 cases hp : gV p with
 | none => rw [hp] at h1; cases h1
 | some r =>
  obtain ⟨l, e⟩ := r
  have hl : afL p = l := by unfold afL; rw [hp]; rfl
  have := EO p hp h2 (by rw [<- hl]; exact h3)
  unfold Ii afLs
  rw [hl]
  exact this
section
variable {kCa kDb : Bool}
end
section
variable {kCa kDb : Bool}
def rAft (p : Psn) (m : Mov) : Option (Psn) := let x17 := List.take p.zs.length (List.drop 0 p.zs); let x13 := afP (Psn.mk p.f p.r x17 p.bl p.ca p.pa p.ha p.fu) (Mov.mk m.a m.b m.p); let x15 := afZ p.f p.r x17 p.bl p.ca p.pa m.a m.b m.p; let x16 := x17.length; let x12 := x13.zs.length; let x14 := x15.length; bj (decide (x16 <= 64) && (az p.f p.r x17 && cA p.f p.r x17 p.ca && aj p.f p.r m.a && aj p.f p.r m.b)) (bj (decide (x12 = x14)) (some (Psn.mk x13.f x13.r x15 x13.bl x13.ca x13.pa x13.ha x13.fu)))
def xn (R : Psn) : V := .agg [.int .i64 R.f, .int .i64 R.r, .sl 1 0 R.zs.length none, Bb R.bl, .int .u8 R.ca, .int .i64 R.pa, .int .i64 R.ha, .int .i64 R.fu]
def Cy (R : Psn) : List O := [.ints true .i8 R.zs]
def xq : CF
 | [.agg [.int .i64 p_0, .int .i64 p_1, .sl 0 0 p_2n none, .bool p_3, .int .u8 p_4, .int .i64 p_5, .int .i64 p_6, .int .i64 p_7], .agg [.int .i64 m_0, .int .i64 m_1, .int .i8 m_2]], [.ints false .i8 p_2] => retC (decide (p_2n = p_2.length)) (rAft ⟨p_0, p_1, p_2, p_3, p_4, p_5, p_6, p_7⟩ ⟨m_0, m_1, m_2⟩) ⟨0, 0, [], false, 0, 0, 0, 0⟩ xn Cy
 | _, _ => none
theorem DX (p : Psn) (m : Mov) {r} (hr : rAft p m = some r) : aM (GGx kCa kDb) PP 26 [.agg [.int .i64 p.f, .int .i64 p.r, .sl 0 0 p.zs.length none, Bb p.bl, .int .u8 p.ca, .int .i64 p.pa, .int .i64 p.ha, .int .i64 p.fu], .agg [.int .i64 m.a, .int .i64 m.b, .int .i8 m.p]] [.ints false .i8 p.zs] (xn r) (Cy r) := by
 have hE := cutE (aD (kCa := kCa) (kDb := kDb) (cts := [(61, lJ)]) (inl := []) ⟨nv, trivial⟩ trivial)
 refine eH hE 2 Tryz.func26 rfl rfl xn Cy hr ?_ rfl rfl
 refine ez (pb (pl (decide_eq_true (bx rfl)) id) id) ?_
 refine KW (fun h0 => ?_)
 exact aZ (bz [4] (.inr rfl) rfl rfl rfl rfl (by have qh0 := of_decide_eq_true h0; simp_all [xn, addN]))
theorem sC : CtOk (GGx kCa kDb) PP (26, xq) := by
 refine aG Tryz.func26 (by kernel_rfl) rfl fun a0 h0 c0 v0 N0 e hc => ?_
 unfold xq at e
 split at e
 ·rename_i p_0 p_1 p_2n p_3 p_4 p_5 p_6 p_7 m_0 m_1 m_2 p_2
  obtain ⟨hl, r, hr, rfl, rfl⟩ := cX e hc
  simp only [Bool.and_eq_true, decide_eq_true_eq] at hl
  obtain rfl := hl
  exact DX ⟨p_0, p_1, p_2, p_3, p_4, p_5, p_6, p_7⟩ ⟨m_0, m_1, m_2⟩ hr
 ·cases e
def uW (p : Psn) (m : Mov) : Option (Bool) := fY (rAft (Psn.mk p.f p.r (List.take p.zs.length (List.drop 0 p.zs)) p.bl p.ca p.pa p.ha p.fu) (Mov.mk m.a m.b m.p)) (Psn.mk 0 0 [] false 0 0 0 0) fun (y4 : Psn) => some (decide (10000 < y4.ha) || decide (10000 < y4.fu))
def vg (R : Bool) : V := Bb R
def vC (R : Bool) : List O := []
def ud : CF
 | [.agg [.int .i64 p_0, .int .i64 p_1, .sl 0 0 p_2n none, .bool p_3, .int .u8 p_4, .int .i64 p_5, .int .i64 p_6, .int .i64 p_7], .agg [.int .i64 m_0, .int .i64 m_1, .int .i8 m_2]], [.ints false .i8 p_2] => retC (decide (p_2n = p_2.length)) (uW ⟨p_0, p_1, p_2, p_3, p_4, p_5, p_6, p_7⟩ ⟨m_0, m_1, m_2⟩) false vg vC
 | _, _ => none
theorem CG (p : Psn) (m : Mov) {r} (hr : uW p m = some r) : aM (GGx kCa kDb) PP 24 [.agg [.int .i64 p.f, .int .i64 p.r, .sl 0 0 p.zs.length none, Bb p.bl, .int .u8 p.ca, .int .i64 p.pa, .int .i64 p.ha, .int .i64 p.fu], .agg [.int .i64 m.a, .int .i64 m.b, .int .i8 m.p]] [.ints false .i8 p.zs] (vg r) (vC r) := by
 have hE := cutE (aD (kCa := kCa) (kDb := kDb) (cts := [(26, xq)]) (inl := []) ⟨sC, trivial⟩ trivial)
 refine eH hE 2 Tryz.func24 rfl rfl vg vC hr ?_ rfl rfl
 unfold uW
 refine bX (pl (decide_eq_true (bx rfl)) id) ?_
 refine aq (Bool.not_or_self _) ?_
 refine aq (Bool.not_or_self _) ?_
 refine aq (Bool.or_not_self _) ?_
 exact aZ (bz [] (.inr rfl) rfl rfl rfl rfl rfl)
theorem zc : CtOk (GGx kCa kDb) PP (24, ud) := by
 refine aG Tryz.func24 (by kernel_rfl) rfl fun a0 h0 c0 v0 N0 e hc => ?_
 unfold ud at e
 split at e
 ·rename_i p_0 p_1 p_2n p_3 p_4 p_5 p_6 p_7 m_0 m_1 m_2 p_2
  obtain ⟨hl, r, hr, rfl, rfl⟩ := cX e hc
  simp only [Bool.and_eq_true, decide_eq_true_eq] at hl
  obtain rfl := hl
  exact CG ⟨p_0, p_1, p_2, p_3, p_4, p_5, p_6, p_7⟩ ⟨m_0, m_1, m_2⟩ hr
 ·cases e
end
end Go.Ab
namespace Go.Ab
open IntKind
open Go.Proofs
section
variable {kCa kDb : Bool}
def iv : Psn -> List (List Int) -> List (List Int) × Int -> Option (List (List Int) × Int ⊕ List (List Int) ⊕ List (List Int) ⊕ Bool) := fun (p : Psn) (y3 : List (List Int)) => let x147 := Psn.mk p.f p.r (List.take p.zs.length (List.drop 0 p.zs)) p.bl p.ca p.pa p.ha p.fu; fun (s10 : List (List Int) × Int) => let x150 := (s10.1.length + 1) * 24; let x151 := decide (s10.2 < Int.ofNat y3.length); let x152 := (y3.getD s10.2.toNat []).getD 2 0; let x153 := (y3.getD s10.2.toNat []).getD 0 0; let x154 := (y3.getD s10.2.toNat []).getD 1 0; let x149 := Mov.mk x153 x154 x152; bif x151 then bj (decide (0 <= s10.2) && x151) (fY (uW x147 x149) Inhabited.default fun (y11 : Bool) => di (bif !(uW x147 x149).getD false then bj (decide (x150 <= 140737488355328)) (some (Sum.inl (s10.1 ++ List.take 1 (List.drop 0 [iL [x153, x154, x152]])))) else some (Sum.inl s10.1)) fun (s13 : List (List Int)) => some (Sum.inl (s13, i64.wrap (s10.2 + 1)))) else some (Sum.inr (Sum.inl s10.1))
def bw : Mov × Psn -> List Int × Int -> Option (List Int × Int ⊕ Unit ⊕ Int ⊕ Int ⊕ List Int × Int ⊕ Unit ⊕ Bool) := fun (e84 : Mov × Psn) (s102 : List Int × Int) => let x159 := decide (s102.2 < Int.ofNat e84.2.zs.length); bif x159 then bj (decide (0 <= s102.2) && x159) (some (Sum.inl (s102.1.set s102.2.toNat 1, i64.wrap (s102.2 + 1)))) else some (Sum.inr (Sum.inl ()))
def bW : Psn -> Int -> List (List Int) -> List Int × Int -> (Mov × Psn -> List Int × Int -> Option (List Int × Int ⊕ Unit ⊕ Int ⊕ Int ⊕ List Int × Int ⊕ Unit ⊕ Bool)) -> Mov × Psn -> Int -> Option (Int ⊕ Int ⊕ List Int × Int ⊕ Unit ⊕ Bool) := fun (p : Psn) (many : Int) (s23 : List (List Int)) (s83 : List Int × Int) (bw : Mov × Psn -> List Int × Int -> Option (List Int × Int ⊕ Unit ⊕ Int ⊕ Int ⊕ List Int × Int ⊕ Unit ⊕ Bool)) => let x161 := Psn.mk 0 0 [] false 0 0 0 0; let x162 := Psn.mk p.f p.r (List.take p.zs.length (List.drop 0 p.zs)) p.bl p.ca p.pa p.ha p.fu; fun (e84 : Mov × Psn) => let x169 := List.take e84.2.zs.length (List.drop 0 e84.2.zs); let x170 := Mov.mk e84.1.a e84.1.b e84.1.p; let x167 := (rAft x162 x170).getD x161; let x168 := x169.length; let x166 := x167.zs; let x165 := List.take x166.length (List.drop 0 x166); let x164 := x165.length; fun (s98 : Int) => let x174 := (s23.getD s98.toNat []).getD 2 0; let x175 := (s23.getD s98.toNat []).getD 1 0; let x176 := (s23.getD s98.toNat []).getD 0 0; let x177 := decide (Int.ofNat s23.length <= s98); let x178 := i64.wrap (s98 + 1); let x173 := x177 || !(decide (e84.1.a = x176) && (decide (e84.1.b = x175) && decide (e84.1.p = x174))); let x172 := !!x173; bj (!!x177 || decide (0 <= s98) && decide (s98 < Int.ofNat s23.length)) (bj (x172 || (rAft x162 x170).isSome) (bj (x172 || decide (x168 <= 64) && decide (x164 <= 64)) (bif x173 || !dX (Psn.mk e84.2.f e84.2.r x169 e84.2.bl e84.2.ca e84.2.pa e84.2.ha e84.2.fu) (Psn.mk x167.f x167.r x165 x167.bl x167.ca x167.pa x167.ha x167.fu) then escO (escO (escO (escO (some false)))) else cK (bw e84) (fun (s109 : Unit) => bif decide (s83.2 = 0) && decide (many <= x178) then some (Sum.inr (Sum.inl x178)) else some (Sum.inl x178)) 1000000 (e84.2.zs, 0))))
def dZ : Psn -> List Int × Int -> Option (List Int × Int ⊕ List Int ⊕ List Int × Int ⊕ Unit ⊕ Bool) := fun (p : Psn) => let x181 := Int.ofNat (List.take p.zs.length (List.drop 0 p.zs)).length; fun (s119 : List Int × Int) => let x183 := decide (s119.2 < x181); bif x183 then bj (decide (0 <= s119.2) && x183) (some (Sum.inl (s119.1.set s119.2.toNat 0, i64.wrap (s119.2 + 1)))) else some (Sum.inr (Sum.inl s119.1))
def gF : Psn -> List Int × Int -> Option (List Int × Int ⊕ List Int ⊕ List Int × Int ⊕ Unit ⊕ Bool) := fun (p : Psn) => let x185 := Int.ofNat (List.take p.zs.length (List.drop 0 p.zs)).length; fun (s131 : List Int × Int) => let x187 := decide (s131.2 < x185); bif x187 then bj (decide (0 <= s131.2) && x187) (some (Sum.inl (s131.1.set s131.2.toNat 0, i64.wrap (s131.2 + 1)))) else some (Sum.inr (Sum.inl s131.1))
def jt : Psn -> Int -> List (List Int) -> (Mov × Psn -> List Int × Int -> Option (List Int × Int ⊕ Unit ⊕ Int ⊕ Int ⊕ List Int × Int ⊕ Unit ⊕ Bool)) -> (Psn -> Int -> List (List Int) -> List Int × Int -> (Mov × Psn -> List Int × Int -> Option (List Int × Int ⊕ Unit ⊕ Int ⊕ Int ⊕ List Int × Int ⊕ Unit ⊕ Bool)) -> Mov × Psn -> Int -> Option (Int ⊕ Int ⊕ List Int × Int ⊕ Unit ⊕ Bool)) -> (Psn -> List Int × Int -> Option (List Int × Int ⊕ List Int ⊕ List Int × Int ⊕ Unit ⊕ Bool)) -> (Psn -> List Int × Int -> Option (List Int × Int ⊕ List Int ⊕ List Int × Int ⊕ Unit ⊕ Bool)) -> List Int × Int -> Option (List Int × Int ⊕ Unit ⊕ Bool) := fun (p : Psn) (many : Int) (s23 : List (List Int)) (bw : Mov × Psn -> List Int × Int -> Option (List Int × Int ⊕ Unit ⊕ Int ⊕ Int ⊕ List Int × Int ⊕ Unit ⊕ Bool)) (bW : Psn -> Int -> List (List Int) -> List Int × Int -> (Mov × Psn -> List Int × Int -> Option (List Int × Int ⊕ Unit ⊕ Int ⊕ Int ⊕ List Int × Int ⊕ Unit ⊕ Bool)) -> Mov × Psn -> Int -> Option (Int ⊕ Int ⊕ List Int × Int ⊕ Unit ⊕ Bool)) (dZ gF : Psn -> List Int × Int -> Option (List Int × Int ⊕ List Int ⊕ List Int × Int ⊕ Unit ⊕ Bool)) => let x190 := imax false (Int.ofNat s23.length) (imax true 1 many); let x191 := List.take p.zs.length (List.drop 0 p.zs); let x189 := Psn.mk p.f p.r (List.take x191.length (List.drop 0 x191)) p.bl p.ca p.pa p.ha p.fu; fun (s83 : List Int × Int) => let x193 := decide (s83.2 = 1); let x194 := decide (s83.2 = 0); let x195 := i64.wrap (s83.2 + 1); bif decide (s83.2 < 2) then bj (afOk x189) (ct (bW p many s23 s83 bw) (fun (s98 : Int) => bif x194 && !decide (s98 = x190) || x193 && !decide (s98 = Int.ofNat s23.length) then escO (escO (some false)) else cK (dZ p) (fun (s127 : List Int) => some (Sum.inl (s127, x195))) 1000000 (s83.1, 0)) (fun (s115 : Int) => bif x194 && !decide (s115 = x190) || x193 && !decide (s115 = Int.ofNat s23.length) then escO (escO (some false)) else cK (gF p) (fun (s139 : List Int) => some (Sum.inl (s139, x195))) 1000000 (s83.1, 0)) (afLs x189) 0) else some (Sum.inr (Sum.inl ()))
def ED (p : Psn) (many : Int) : Option (Bool) := let x205 := List.take p.zs.length (List.drop 0 p.zs); let x203 := Psn.mk p.f p.r x205 p.bl p.ca p.pa p.ha p.fu; let x204 := x205.length; let x201 := decide (x204 <= 64); let x202 := (List.take x204 (List.drop 0 x205)).length; fY (rB x203) false fun (y2 : Bool) => bif !y2 then some true else bj x201 (bj x201 (di (bif nj x203 then fY (nJ x203) [] fun (y3 : List (List Int)) => cK (iv p y3) (fun (s21 : List (List Int)) => some (Sum.inl s21)) 1000000 ([], 0) else some (Sum.inl [])) fun (s23 : List (List Int)) => bj (decide (x202 <= 64)) (cK (jt p many s23 bw bW dZ gF) (fun (s146 : Unit) => some true) 1000000 (x205, 0))))
def AS (R : Bool) : V := Bb R
def AD (R : Bool) : List O := []
theorem Bv (p : Psn) (many : Int) {r} (hr : ED p many = some r) : aM (GGx true true) PP 6 [.agg [.int .i64 p.f, .int .i64 p.r, .sl 0 0 p.zs.length none, Bb p.bl, .int .u8 p.ca, .int .i64 p.pa, .int .i64 p.ha, .int .i64 p.fu], .int .i64 many] [.ints false .i8 p.zs] (AS r) (AD r) := by
 have hE := cutE (aD (kCa := true) (kDb := true) (cts := [(8, mz), (9, mY), (10, pM), (13, qq), (14, kZ), (15, qg), (24, ud), (26, xq), (58, qG)]) (inl := [(25, Tryz.f25)]) ⟨si, ta, oD, vb, lX, vP, zc, sC, oz, trivial⟩ ⟨⟨Tryz.func25, by kernel_rfl⟩, trivial⟩)
 refine eH hE 2 Tryz.func6 rfl rfl AS AD hr ?_ rfl rfl
 unfold ED
 refine bX (pl (decide_eq_true (bx rfl)) id) ?_
 refine aN hE 2 rfl ?_ ?_
 ·refine aq rfl ?_
  exact aZ (bz [] (.inr rfl) rfl rfl rfl rfl rfl)
 refine ez (pl (decide_eq_true (bx rfl)) id) ?_
 refine ez (pl (decide_eq_true (bx rfl)) id) ?_
 refine dF hE 2 (let x211 := [Bb p.bl, V.int u8 p.ca, I p.pa, I p.ha, I p.fu]; let x212 := List.take p.zs.length (List.drop 0 p.zs); fun (s23 : List (List Int)) => ([(2, V.ptr 1 0 0), (3, V.ptr 2 0 0), (4, V.ptr 3 0 0), (5, V.ptr 4 0 0), (6, V.ptr 5 0 0)], [O.ints false i8 p.zs, O.cells true (I p.f :: I p.r :: V.sl 0 0 p.zs.length none :: x211), O.cells true [I many], O.cells true [Bb false], O.cells true (I p.f :: I p.r :: V.sl 6 0 x212.length none :: x211), O.cells true [V.sl 7 0 s23.length none], O.ints true i8 x212, O.rows true [i64, i64, i8] s23])) rfl ?_ ?_ (fun s23 => ?_)
 ·refine bX (pl (decide_eq_true (bx rfl)) id) ?_
  refine dy hE 2 (let x216 := [Bb p.bl, V.int u8 p.ca, I p.pa, I p.ha, I p.fu]; let x217 := List.take p.zs.length (List.drop 0 p.zs); let x215 := (nJ (Psn.mk p.f p.r x217 p.bl p.ca p.pa p.ha p.fu)).getD []; let x214 := x215.length; fun (s10 : List (List Int) × Int) => ([(2, V.ptr 1 0 0), (3, V.ptr 2 0 0), (4, V.ptr 3 0 0), (5, V.ptr 4 0 0), (6, V.ptr 5 0 0), (25, V.sl 6 0 x214 none), (26, I (Int.ofNat x214)), (27, I s10.2)], [O.ints false i8 p.zs, O.cells true (I p.f :: I p.r :: V.sl 0 0 p.zs.length none :: x216), O.cells true [I many], O.cells true [Bb false], O.cells true (I p.f :: I p.r :: V.sl 7 0 x217.length none :: x216), O.cells true [V.sl 8 0 s10.1.length none], O.rows true [i64, i64, i8] x215, O.ints true i8 x217, O.rows true [i64, i64, i8] s10.1])) (let x219 := [Bb p.bl, V.int u8 p.ca, I p.pa, I p.ha, I p.fu]; let x220 := List.take p.zs.length (List.drop 0 p.zs); fun (s21 : List (List Int)) => ([(2, V.ptr 1 0 0), (3, V.ptr 2 0 0), (4, V.ptr 3 0 0), (5, V.ptr 4 0 0), (6, V.ptr 5 0 0)], [O.ints false i8 p.zs, O.cells true (I p.f :: I p.r :: V.sl 0 0 p.zs.length none :: x219), O.cells true [I many], O.cells true [Bb false], O.cells true (I p.f :: I p.r :: V.sl 6 0 x220.length none :: x219), O.cells true [V.sl 7 0 s21.length none], O.ints true i8 x220, O.rows true [i64, i64, i8] s21])) (.exit 0) ((Ent.phC 6 0 (O.rows true [i64, i64, i8] []) rfl rfl rfl rfl rfl).trans (Ent.rn [0, 1, 2, 3, 5, 6, 7, 4, 8] [2, 3, 4, 5, 6, 25, 26, 27] rfl rfl rfl rfl rfl)) (fun s10 => ?_) (fun s21 => ?_)
  ·refine aN hE 2 rfl ?_ ?_
   ·refine cu ?_
    refine bX (pl (decide_eq_true (bx rfl)) id) ?_
    refine dF hE 2 (let x224 := [Bb p.bl, V.int u8 p.ca, I p.pa, I p.ha, I p.fu]; let x225 := List.take p.zs.length (List.drop 0 p.zs); let x223 := (nJ (Psn.mk p.f p.r x225 p.bl p.ca p.pa p.ha p.fu)).getD []; let x222 := x223.length; fun (s13 : List (List Int)) => ([(2, V.ptr 1 0 0), (3, V.ptr 2 0 0), (4, V.ptr 3 0 0), (5, V.ptr 4 0 0), (6, V.ptr 5 0 0), (25, V.sl 6 0 x222 none), (26, I (Int.ofNat x222)), (27, I s10.2)], [O.ints false i8 p.zs, O.cells true (I p.f :: I p.r :: V.sl 0 0 p.zs.length none :: x224), O.cells true [I many], O.cells true [Bb false], O.cells true (I p.f :: I p.r :: V.sl 7 0 x225.length none :: x224), O.cells true [V.sl 8 0 s13.length none], O.rows true [i64, i64, i8] x223, O.ints true i8 x225, O.rows true [i64, i64, i8] s13])) rfl ?_ ?_ (fun s13 => ?_)
    ·refine ez (pr (pl (decide_eq_true rfl) id) rfl) ?_
     exact cr ((Ent.rn [0, 1, 2, 3, 4, 5, 6, 7, 11] [2, 3, 4, 5, 6, 25, 26, 27] rfl rfl rfl rfl rfl))
    ·exact cr ((Ent.rn [0, 1, 2, 3, 4, 5, 6, 7, 8] [2, 3, 4, 5, 6, 25, 26, 27] rfl rfl rfl rfl rfl))
    exact dg ((Ent.rn [0, 1, 2, 3, 4, 5, 6, 7, 8] [2, 3, 4, 5, 6, 25, 26, 27] rfl rfl rfl rfl rfl))
   exact dD ((Ent.rn [0, 1, 2, 3, 4, 5, 7, 8] [2, 3, 4, 5, 6] rfl rfl rfl rfl rfl))
  exact cr ((Ent.rn [0, 1, 2, 3, 4, 5, 6, 7] [2, 3, 4, 5, 6] rfl rfl rfl rfl rfl))
 ·exact cr ((Ent.phC 6 0 (O.rows true [i64, i64, i8] []) rfl rfl rfl rfl rfl).trans (Ent.rn [0, 1, 2, 3, 5, 6, 4, 7] [2, 3, 4, 5, 6] rfl rfl rfl rfl rfl))
 refine ez (pl (decide_eq_true (bx rfl)) id) ?_
 refine dy hE 2 (let x228 := [Bb p.bl, V.int u8 p.ca, I p.pa, I p.ha, I p.fu]; let x230 := List.take p.zs.length (List.drop 0 p.zs); let x229 := x230.length; let x227 := List.take x229 (List.drop 0 x230); fun (s83 : List Int × Int) => ([(2, V.ptr 1 0 0), (3, V.ptr 2 0 0), (4, V.ptr 3 0 0), (5, V.ptr 4 0 0), (6, V.ptr 5 0 0), (9, V.fn 59 [V.ptr 6 0 0]), (10, V.ptr 7 0 0)], [O.ints false i8 p.zs, O.cells true (I p.f :: I p.r :: V.sl 0 0 p.zs.length none :: x228), O.cells true [I many], O.cells true [Bb false], O.cells true (I p.f :: I p.r :: V.sl 8 0 x229 none :: x228), O.cells true [V.sl 9 0 s23.length none], O.cells true (I p.f :: I p.r :: V.sl 10 0 x227.length none :: x228), O.cells true [I s83.2], O.ints true i8 s83.1, O.rows true [i64, i64, i8] s23, O.ints true i8 x227])) (fun (s146 : Unit) => ([(4, V.ptr 1 0 0)], [O.ints false i8 p.zs, O.cells true [Bb false]])) (.exit 2) ((Ent.rn [0, 1, 2, 3, 4, 5, 10, 11, 6, 7, 9] [2, 3, 4, 5, 6, 9, 10] rfl rfl rfl rfl rfl)) (fun s83 => ?_) (fun s146 => ?_)
 ·refine aN hE 2 rfl ?_ ?_
  ·refine JQ (fun qr84278 => ?_)
   refine BE hE 2 11 (let x234 := [Bb p.bl, V.int u8 p.ca, I p.pa, I p.ha, I p.fu]; let x236 := List.take p.zs.length (List.drop 0 p.zs); let x235 := x236.length; let x233 := List.take x235 (List.drop 0 x236); fun (s98 : Int) => [O.ints false i8 p.zs, O.cells true (I p.f :: I p.r :: V.sl 0 0 p.zs.length none :: x234), O.cells true [I many], O.cells true [Bb false], O.cells true (I p.f :: I p.r :: V.sl 11 0 x235 none :: x234), O.cells true [V.sl 12 0 s23.length none], O.cells true (I p.f :: I p.r :: V.sl 9 0 x233.length none :: x234), O.cells true [I s83.2], O.cells true [I s98], O.ints true i8 x233, O.gone, O.ints true i8 s83.1, O.rows true [i64, i64, i8] s23]) (let x239 := [Bb p.bl, V.int u8 p.ca, I p.pa, I p.ha, I p.fu]; let x241 := List.take p.zs.length (List.drop 0 p.zs); let x240 := x241.length; let x238 := List.take x240 (List.drop 0 x241); fun (s115 : Int) => [O.ints false i8 p.zs, O.cells true (I p.f :: I p.r :: V.sl 0 0 p.zs.length none :: x239), O.cells true [I many], O.cells true [Bb false], O.cells true (I p.f :: I p.r :: V.sl 11 0 x240 none :: x239), O.cells true [V.sl 12 0 s23.length none], O.cells true (I p.f :: I p.r :: V.sl 9 0 x238.length none :: x239), O.cells true [I s83.2], O.cells true [I s115], O.ints true i8 x238, O.gone, O.ints true i8 s83.1, O.rows true [i64, i64, i8] s23]) 4 (afLs (Psn.mk p.f p.r (List.take (List.take p.zs.length (List.drop 0 p.zs)).length (List.drop 0 (List.take p.zs.length (List.drop 0 p.zs)))) p.bl p.ca p.pa p.ha p.fu)) Ai afNs (Ii (Psn.mk p.f p.r (List.take (List.take p.zs.length (List.drop 0 p.zs)).length (List.drop 0 (List.take p.zs.length (List.drop 0 p.zs)))) p.bl p.ca p.pa p.ha p.fu)) (afHc (Psn.mk p.f p.r (List.take (List.take p.zs.length (List.drop 0 p.zs)).length (List.drop 0 (List.take p.zs.length (List.drop 0 p.zs)))) p.bl p.ca p.pa p.ha p.fu)) Jv 10 (fun (e84 : Mov × Psn) (s98 : Int) => (13, V.ptr 16 0 0) :: (12, V.ptr 15 0 0) :: putPs (#[49, 50] : Array Nat).toList [V.agg [I e84.1.a, I e84.1.b, V.int i8 e84.1.p], V.agg [I e84.2.f, I e84.2.r, V.sl 14 0 e84.2.zs.length none, Bb e84.2.bl, V.int u8 e84.2.ca, I e84.2.pa, I e84.2.ha, I e84.2.fu]] [(2, V.ptr 1 0 0), (3, V.ptr 2 0 0), (4, V.ptr 3 0 0), (5, V.ptr 4 0 0), (6, V.ptr 5 0 0), (9, V.fn 59 [V.ptr 6 0 0]), (10, V.ptr 7 0 0), (11, V.ptr 8 0 0), (48, V.fn 59 [V.ptr 6 0 0])]) _ [6, 9] [2, 3, 4, 5, 6, 9, 10, 11, 48] ((Ent.gap rfl rfl).trans ((Ent.rn [0, 1, 2, 3, 4, 5, 6, 7, 11, 10, 12, 8, 9] [2, 3, 4, 5, 6, 9, 10, 11, 48] rfl rfl rfl rfl rfl).trans ((Ent.rn [0, 1, 2, 3, 4, 5, 6, 7, 8, 9, 10, 11, 12] [2, 3, 4, 5, 6, 9, 10, 11, 48] rfl rfl rfl rfl rfl)))) (Jq _ qr84278) (fun _ => ⟨rfl, Nat.le_of_ble_eq_true rfl⟩) (ent Tryz.func59 (by kernel_rfl) rfl) rfl rfl rfl rfl rfl rfl rfl rfl rfl rfl rfl rfl (fun _ => (nk rfl rfl rfl rfl rfl rfl rfl rfl)) (fun _ => (nk rfl rfl rfl rfl rfl rfl rfl rfl)) (fun _ _ => rfl) (fun e84 s98 => ?_) (fun s98 => ?_) (fun s115 => ?_)
   ·refine aq rfl ?_
    refine aq (Bool.not_or_self _) ?_
    refine aq (Bool.not_or_self _) ?_
    refine cu ?_
    refine aq (Bool.not_or_self _) ?_
    refine aq (Bool.not_or_self _) ?_
    refine aq (Bool.not_or_self _) ?_
    refine aq (Bool.or_not_self _) ?_
    refine aq (Bool.not_or_self _) ?_
    refine aq (Bool.not_or_self _) ?_
    refine ez (pi (pl (decide_eq_true (bx rfl)) id)) ?_
    refine aq (Bool.not_or_self _) ?_
    refine aq (Bool.not_or_self _) ?_
    refine ez (pi (pb (pr (pl (decide_eq_true (bx rfl)) id) (decide_eq_true (bx rfl))) id)) ?_
    refine aq (Bool.not_or_self _) ?_
    refine aq (Bool.or_not_self _) ?_
    refine aN hE 2 rfl ?_ ?_
    ·refine EW (hp4 := [O.ints false i8 p.zs, O.cells true [I p.f, I p.r, V.sl 0 0 p.zs.length none, Bb p.bl, V.int u8 p.ca, I p.pa, I p.ha, I p.fu], O.cells true [I many], O.cells true [Bb false], O.cells true [I p.f, I p.r, V.sl 11 0 (List.take p.zs.length (List.drop 0 p.zs)).length none, Bb p.bl, V.int u8 p.ca, I p.pa, I p.ha, I p.fu], O.cells true [V.sl 12 0 s23.length none], O.cells true [I p.f, I p.r, V.sl 9 0 (List.take (List.take p.zs.length (List.drop 0 p.zs)).length (List.drop 0 (List.take p.zs.length (List.drop 0 p.zs)))).length none, Bb p.bl, V.int u8 p.ca, I p.pa, I p.ha, I p.fu], O.cells true [I s83.2], O.cells true [I s98], O.ints true i8 (List.take (List.take p.zs.length (List.drop 0 p.zs)).length (List.drop 0 (List.take p.zs.length (List.drop 0 p.zs)))), O.gone, O.ints true i8 s83.1, O.rows true [i64, i64, i8] s23]) (Ent.rn [0, 1, 2, 3, 4, 5, 6, 7, 8, 9, 10, 11, 12] [] rfl rfl rfl rfl rfl) rfl (nk rfl rfl rfl rfl rfl rfl rfl rfl) ?_
     refine rE (by simp) (nl ?_)
     exact aZ (bz [] (.inr rfl) rfl rfl rfl rfl rfl)
    refine dy hE 2 (let x246 := [Bb p.bl, V.int u8 p.ca, I p.pa, I p.ha, I p.fu]; let x248 := List.take p.zs.length (List.drop 0 p.zs); let x247 := x248.length; let x245 := List.take x247 (List.drop 0 x248); fun (s102 : List Int × Int) => ([(3, V.ptr 2 0 0), (10, V.ptr 7 0 0), (11, V.ptr 8 0 0), (13, V.ptr 11 0 0), (73, I (Int.ofNat e84.2.zs.length)), (74, I s102.2)], [O.ints false i8 p.zs, O.cells true (I p.f :: I p.r :: V.sl 0 0 p.zs.length none :: x246), O.cells true [I many], O.cells true [Bb false], O.cells true (I p.f :: I p.r :: V.sl 12 0 x247 none :: x246), O.cells true [V.sl 13 0 s23.length none], O.cells true (I p.f :: I p.r :: V.sl 9 0 x245.length none :: x246), O.cells true [I s83.2], O.cells true [I s98], O.ints true i8 x245, O.rows true [i64, i64, i8] (afL (Psn.mk p.f p.r x245 p.bl p.ca p.pa p.ha p.fu)), O.cells true [I e84.2.f, I e84.2.r, V.sl 14 0 e84.2.zs.length none, Bb e84.2.bl, V.int u8 e84.2.ca, I e84.2.pa, I e84.2.ha, I e84.2.fu], O.ints true i8 s83.1, O.rows true [i64, i64, i8] s23, O.ints true i8 s102.1])) (let x251 := [Bb p.bl, V.int u8 p.ca, I p.pa, I p.ha, I p.fu]; let x253 := List.take p.zs.length (List.drop 0 p.zs); let x252 := x253.length; let x250 := List.take x252 (List.drop 0 x253); fun (s109 : Unit) => ([(3, V.ptr 2 0 0), (10, V.ptr 7 0 0), (11, V.ptr 8 0 0)], [O.ints false i8 p.zs, O.cells true (I p.f :: I p.r :: V.sl 0 0 p.zs.length none :: x251), O.cells true [I many], O.cells true [Bb false], O.cells true (I p.f :: I p.r :: V.sl 11 0 x252 none :: x251), O.cells true [V.sl 12 0 s23.length none], O.cells true (I p.f :: I p.r :: V.sl 9 0 x250.length none :: x251), O.cells true [I s83.2], O.cells true [I s98], O.ints true i8 x250, O.rows true [i64, i64, i8] (afL (Psn.mk p.f p.r x250 p.bl p.ca p.pa p.ha p.fu)), O.ints true i8 s83.1, O.rows true [i64, i64, i8] s23])) (.exit 6) ((Ent.rn [0, 1, 2, 3, 4, 5, 6, 7, 8, 9, 10, 16, 11, 12, 14] [3, 10, 11, 13, 73, 74] rfl rfl rfl rfl rfl)) (fun s102 => ?_) (fun s109 => ?_)
    ·refine aN hE 2 rfl ?_ ?_
     ·refine cu ?_
      exact dg ((Ent.rn [0, 1, 2, 3, 4, 5, 6, 7, 8, 9, 10, 11, 12, 13, 14] [3, 10, 11, 13, 73, 74] rfl rfl rfl rfl rfl))
     exact dD ((Ent.rn [0, 1, 2, 3, 4, 5, 6, 7, 8, 9, 10, 12, 13] [3, 10, 11] rfl rfl rfl rfl rfl))
    refine aq (Bool.not_or_self _) ?_
    refine aq (Bool.not_or_self _) ?_
    refine aq (Bool.not_or_self _) ?_
    refine aN hE 2 rfl ?_ ?_
    ·exact BV ((Ent.rn [0, 1, 2, 3, 4, 5, 6, 7, 8, 9, 10, 11, 12] [] rfl rfl rfl rfl rfl)) rfl
    exact AG ((Ent.rn [0, 1, 2, 3, 4, 5, 6, 7, 8, 9, 10, 11, 12] [] rfl rfl rfl rfl rfl)) rfl
   ·refine aq (Bool.not_or_self _) ?_
    refine aq (Bool.not_or_self _) ?_
    refine aq (Bool.not_or_self _) ?_
    refine aq (Bool.not_or_self _) ?_
    refine aq (Bool.not_or_self _) ?_
    refine aq (Bool.not_or_self _) ?_
    refine aq (Bool.not_or_self _) ?_
    refine aq (Bool.not_or_self _) ?_
    refine aq (Bool.not_or_self _) ?_
    refine aq (Bool.not_or_self _) ?_
    refine aq (Bool.not_or_self _) ?_
    refine aq (Bool.not_or_self _) ?_
    refine aq (Bool.not_or_self _) ?_
    refine aq (tt7 _ _) ?_
    refine aq (Bool.or_not_self _) ?_
    refine aN hE 2 rfl ?_ ?_
    ·refine rE (by simp) (nl ?_)
     exact aZ (bz [] (.inr rfl) rfl rfl rfl rfl rfl)
    refine dy hE 2 (let x256 := [Bb p.bl, V.int u8 p.ca, I p.pa, I p.ha, I p.fu]; let x258 := List.take p.zs.length (List.drop 0 p.zs); let x257 := x258.length; let x255 := List.take x257 (List.drop 0 x258); fun (s119 : List Int × Int) => ([(2, V.ptr 1 0 0), (3, V.ptr 2 0 0), (4, V.ptr 3 0 0), (5, V.ptr 4 0 0), (6, V.ptr 5 0 0), (9, V.fn 59 [V.ptr 6 0 0]), (10, V.ptr 7 0 0), (114, I (Int.ofNat x257)), (115, I s119.2)], [O.ints false i8 p.zs, O.cells true (I p.f :: I p.r :: V.sl 0 0 p.zs.length none :: x256), O.cells true [I many], O.cells true [Bb false], O.cells true (I p.f :: I p.r :: V.sl 8 0 x257 none :: x256), O.cells true [V.sl 9 0 s23.length none], O.cells true (I p.f :: I p.r :: V.sl 10 0 x255.length none :: x256), O.cells true [I s83.2], O.ints true i8 s119.1, O.rows true [i64, i64, i8] s23, O.ints true i8 x255])) (let x261 := [Bb p.bl, V.int u8 p.ca, I p.pa, I p.ha, I p.fu]; let x263 := List.take p.zs.length (List.drop 0 p.zs); let x262 := x263.length; let x260 := List.take x262 (List.drop 0 x263); fun (s127 : List Int) => ([(2, V.ptr 1 0 0), (3, V.ptr 2 0 0), (4, V.ptr 3 0 0), (5, V.ptr 4 0 0), (6, V.ptr 5 0 0), (9, V.fn 59 [V.ptr 6 0 0]), (10, V.ptr 7 0 0)], [O.ints false i8 p.zs, O.cells true (I p.f :: I p.r :: V.sl 0 0 p.zs.length none :: x261), O.cells true [I many], O.cells true [Bb false], O.cells true (I p.f :: I p.r :: V.sl 8 0 x262 none :: x261), O.cells true [V.sl 9 0 s23.length none], O.cells true (I p.f :: I p.r :: V.sl 10 0 x260.length none :: x261), O.cells true [I s83.2], O.ints true i8 s127, O.rows true [i64, i64, i8] s23, O.ints true i8 x260])) (.exit 8) ((Ent.rn [0, 1, 2, 3, 4, 5, 6, 7, 11, 12, 9] [2, 3, 4, 5, 6, 9, 10, 114, 115] rfl rfl rfl rfl rfl)) (fun s119 => ?_) (fun s127 => ?_)
    ·refine aN hE 2 rfl ?_ ?_
     ·refine cu ?_
      exact dg ((Ent.rn [0, 1, 2, 3, 4, 5, 6, 7, 8, 9, 10] [2, 3, 4, 5, 6, 9, 10, 114, 115] rfl rfl rfl rfl rfl))
     exact dD ((Ent.rn [0, 1, 2, 3, 4, 5, 6, 7, 8, 9, 10] [2, 3, 4, 5, 6, 9, 10] rfl rfl rfl rfl rfl))
    exact dg ((Ent.rn [0, 1, 2, 3, 4, 5, 6, 11, 8, 9, 10] [2, 3, 4, 5, 6, 9, 10] rfl rfl rfl rfl rfl))
   refine aq (Bool.not_or_self _) ?_
   refine aq (Bool.not_or_self _) ?_
   refine aq (Bool.not_or_self _) ?_
   refine aq (Bool.not_or_self _) ?_
   refine aq (Bool.not_or_self _) ?_
   refine aq (Bool.not_or_self _) ?_
   refine aq (Bool.not_or_self _) ?_
   refine aq (Bool.not_or_self _) ?_
   refine aq (Bool.not_or_self _) ?_
   refine aq (Bool.not_or_self _) ?_
   refine aq (Bool.not_or_self _) ?_
   refine aq (Bool.not_or_self _) ?_
   refine aq (Bool.not_or_self _) ?_
   refine aq (tt7 _ _) ?_
   refine aq (Bool.or_not_self _) ?_
   refine aN hE 2 rfl ?_ ?_
   ·refine rE (by simp) (nl ?_)
    exact aZ (bz [] (.inr rfl) rfl rfl rfl rfl rfl)
   refine dy hE 2 (let x266 := [Bb p.bl, V.int u8 p.ca, I p.pa, I p.ha, I p.fu]; let x268 := List.take p.zs.length (List.drop 0 p.zs); let x267 := x268.length; let x265 := List.take x267 (List.drop 0 x268); fun (s131 : List Int × Int) => ([(2, V.ptr 1 0 0), (3, V.ptr 2 0 0), (4, V.ptr 3 0 0), (5, V.ptr 4 0 0), (6, V.ptr 5 0 0), (9, V.fn 59 [V.ptr 6 0 0]), (10, V.ptr 7 0 0), (114, I (Int.ofNat x267)), (115, I s131.2)], [O.ints false i8 p.zs, O.cells true (I p.f :: I p.r :: V.sl 0 0 p.zs.length none :: x266), O.cells true [I many], O.cells true [Bb false], O.cells true (I p.f :: I p.r :: V.sl 8 0 x267 none :: x266), O.cells true [V.sl 9 0 s23.length none], O.cells true (I p.f :: I p.r :: V.sl 10 0 x265.length none :: x266), O.cells true [I s83.2], O.ints true i8 s131.1, O.rows true [i64, i64, i8] s23, O.ints true i8 x265])) (let x271 := [Bb p.bl, V.int u8 p.ca, I p.pa, I p.ha, I p.fu]; let x273 := List.take p.zs.length (List.drop 0 p.zs); let x272 := x273.length; let x270 := List.take x272 (List.drop 0 x273); fun (s139 : List Int) => ([(2, V.ptr 1 0 0), (3, V.ptr 2 0 0), (4, V.ptr 3 0 0), (5, V.ptr 4 0 0), (6, V.ptr 5 0 0), (9, V.fn 59 [V.ptr 6 0 0]), (10, V.ptr 7 0 0)], [O.ints false i8 p.zs, O.cells true (I p.f :: I p.r :: V.sl 0 0 p.zs.length none :: x271), O.cells true [I many], O.cells true [Bb false], O.cells true (I p.f :: I p.r :: V.sl 8 0 x272 none :: x271), O.cells true [V.sl 9 0 s23.length none], O.cells true (I p.f :: I p.r :: V.sl 10 0 x270.length none :: x271), O.cells true [I s83.2], O.ints true i8 s139, O.rows true [i64, i64, i8] s23, O.ints true i8 x270])) (.exit 8) ((Ent.rn [0, 1, 2, 3, 4, 5, 6, 7, 11, 12, 9] [2, 3, 4, 5, 6, 9, 10, 114, 115] rfl rfl rfl rfl rfl)) (fun s131 => ?_) (fun s139 => ?_)
   ·refine aN hE 2 rfl ?_ ?_
    ·refine cu ?_
     exact dg ((Ent.rn [0, 1, 2, 3, 4, 5, 6, 7, 8, 9, 10] [2, 3, 4, 5, 6, 9, 10, 114, 115] rfl rfl rfl rfl rfl))
    exact dD ((Ent.rn [0, 1, 2, 3, 4, 5, 6, 7, 8, 9, 10] [2, 3, 4, 5, 6, 9, 10] rfl rfl rfl rfl rfl))
   exact dg ((Ent.rn [0, 1, 2, 3, 4, 5, 6, 11, 8, 9, 10] [2, 3, 4, 5, 6, 9, 10] rfl rfl rfl rfl rfl))
  exact dD ((Ent.rn [0, 3] [4] rfl rfl rfl rfl rfl))
 refine aq rfl ?_
 exact aZ (bz [] (.inr rfl) rfl rfl rfl rfl rfl)
end
end Go.Ab
