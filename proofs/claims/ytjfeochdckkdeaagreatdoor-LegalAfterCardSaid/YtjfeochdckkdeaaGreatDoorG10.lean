/- Contracts of the functions that the laws reach, and plain laws of what they compute (text G10); no condition. -/
import Derived.Test.YtjfeochdckkdeaaGreatDoorG9
set_option maxRecDepth 100000
namespace Go.Ab
open Go.Proofs
section
def sQ (p : Psn) (b : Int) : Bool := decide (py p.f b = fK p.r p.bl)
def tgB (p : Psn) (a b : Int) : Bool := !isP (p.zs.getD b.toNat 0) p.bl &&
 (bif decide (aP (p.zs.getD a.toNat 0) = 1) then bT p.f p.r p.bl a (occR p.f p.r p.zs) b || (dA p.f p.bl a b && (!decide (p.zs.getD b.toNat 0 = 0) || decide (b = p.pa)))
 else bF p.f p.r (aP (p.zs.getD a.toNat 0)) a b (occR p.f p.r p.zs) || wayB p.f p.r p.zs (wayN p.zs p.bl p.ca a b))
section
variable {p : Psn} {a b : Int}
theorem PsH.ab (o : PsH p) (ha : aj p.f p.r a = true) : absP (p.zs.getD a.toNat 0) = aP (p.zs.getD a.toNat 0) := by
 obtain ⟨h0, h1⟩ := (bL o.bd).1 ha
 exact jv o.h h0 h1
theorem KS (o : PsH p) (hb : aj p.f p.r b = true) {pr : Int} : pnL p.f p.r p.zs p.bl p.pa a b pr = ((sQ p b == !decide (pr = 0)) && (bT p.f p.r p.bl a (occR p.f p.r p.zs) b || (dA p.f p.bl a b && (!decide (p.zs.getD b.toNat 0 = 0) || decide (b = p.pa))))) := by
 have hin : ∀ c : Int -> Bool, hasL b (cm c id (p.f * p.r).toNat) = c b := fun c => by
  rw [Bool.eq_iff_iff, nG, ei]
  have := aJ hb
  exact ⟨fun h => h.2.2, fun h => ⟨this.1, by omega, h⟩⟩
 unfold pnL sQ
 rw [hin, hin, lW o.bd o.hl, (eF hb).1]
 cases (decide (py p.f b = fK p.r p.bl) == !decide (pr = 0)) <;> cases bT p.f p.r p.bl a (occR p.f p.r p.zs) b <;> rfl
theorem td (o : PsH p) (ha : aj p.f p.r a = true) (hb : aj p.f p.r b = true) (hown : isP (p.zs.getD a.toNat 0) p.bl = true) {pr : Int} (hpr : pr = 0 \/ (2 <= pr /\ pr <= 5)) :
  canM p a b pr = (tgB p a b && ((decide (aP (p.zs.getD a.toNat 0) = 1) && sQ p b) == !decide (pr = 0))) := by
 unfold canM tgB err3
 dsimp only
 rw [hown, Bool.and_true, jK (_ca := p.ca) o.h o.hl ha hb hown, lW o.bd o.hl, KS o hb]
 cases hi : isP (p.zs.getD b.toNat 0) p.bl with
 | true => simp
 | false =>
  have hab : a ≠ b := fun e => by rw [e, hi] at hown; cases hown
  have hmv : mvB p.f p.r a b pr = true := by
   unfold mvB
   rw [ha, hb, decide_eq_false hab]
   rcases hpr with h | h
   ·rw [decide_eq_true h]; rfl
   ·rw [decide_eq_true h.1, decide_eq_true h.2]; simp
  rw [hmv]
  cases hk : decide (aP (p.zs.getD a.toNat 0) = 1) with
  | true =>
   have hw : wayB p.f p.r p.zs (wayN p.zs p.bl p.ca a b) = false := by
    have : wayN p.zs p.bl p.ca a b = 4 := by
     unfold wayN
     rw [o.ab ha, of_decide_eq_true hk]; rfl
    rw [this]; rfl
   rw [hw]
   cases (bT p.f p.r p.bl a (occR p.f p.r p.zs) b || (dA p.f p.bl a b && (!decide (p.zs.getD b.toNat 0 = 0) || decide (b = p.pa)))) <;> cases sQ p b <;> cases decide (pr = 0) <;> rfl
  | false =>
   cases bF p.f p.r (aP (p.zs.getD a.toNat 0)) a b (occR p.f p.r p.zs) <;> cases wayB p.f p.r p.zs (wayN p.zs p.bl p.ca a b) <;> cases decide (pr = 0) <;> rfl
theorem HB (o : PsH p) (ha : aj p.f p.r a = true) (hb : aj p.f p.r b = true) (hown : isP (p.zs.getD a.toNat 0) p.bl = true) :
  iI p a b = bif tgB p a b then (bif decide (aP (p.zs.getD a.toNat 0) = 1) && sQ p b then [[a, b, 2], [a, b, 3], [a, b, 4], [a, b, 5]] else [[a, b, 0]]) else [] := by
 unfold iI prs
 simp only [List.filter_cons, List.filter_nil]
 rw [td o ha hb hown (.inl rfl), td o ha hb hown (pr := 2) (.inr (by decide)), td o ha hb hown (pr := 3) (.inr (by decide)), td o ha hb hown (pr := 4) (.inr (by decide)), td o ha hb hown (pr := 5) (.inr (by decide))]
 cases tgB p a b <;> cases (decide (aP (p.zs.getD a.toNat 0) = 1) && sQ p b) <;> simp
theorem sk (hown : isP (p.zs.getD a.toNat 0) p.bl = false) : iI p a b = [] := by
 unfold iI
 rw [filter_none fun pr _ => by unfold canM; rw [hown]; simp]; rfl
theorem PsH.pa0 (o : PsH p) (h : 0 <= p.pa) : aj p.f p.r p.pa = true /\ p.zs.getD p.pa.toNat 0 = 0 := by
 have hps := o.pass
 simp only [jJ, Bool.or_eq_true, Bool.and_eq_true, decide_eq_true_eq] at hps
 rcases hps with hps | ⟨⟨⟨⟨⟨⟨_, _⟩, p3⟩, _⟩, p5⟩, _⟩, _⟩
 ·omega
 ·exact ⟨p3, p5⟩
theorem La (o : PsH p) (ha : aj p.f p.r a = true) (hown : isP (p.zs.getD a.toNat 0) p.bl = true) :
  Uk (tgR p a) /\ (∀ n : Nat, n < 64 -> bt (tgR p a) n = true -> n < p.zs.length) /\ ∀ b, aj p.f p.r b = true -> bt (tgR p a) b.toNat = tgB p a b := by
 obtain ⟨ha0, ha1⟩ := (bL o.bd).1 ha
 obtain ⟨hou, hob⟩ := nO o.bd o.hl
 obtain ⟨hwu, hwb⟩ := yB o.hl
 have hray : gg p.f p.r a (occR p.f p.r p.zs) = true := (iG hou).2 ⟨ha, xu o.h o.hl⟩
 have hon : ∀ {s : Int}, OnS p.f p.r s -> ∀ n : Nat, n < 64 -> bt s n = true -> n < p.zs.length := fun h n hn hb => by
  have := (bL o.bd).1 (h n hn hb)
  omega
 unfold tgR tgB
 rw [o.ab ha]
 cases hk : decide (aP (p.zs.getD a.toNat 0) = 1) with
 | true =>
  simp only [cond_true]
  obtain ⟨_, s1, s3, s2⟩ := yd (bl := p.bl) hray hou
  obtain ⟨_, p1, p3, p2⟩ := vo (bl := p.bl) ha
  have hot : Uk (bif decide (0 <= p.pa) then uor (cF (occR p.f p.r p.zs) (ownS p)) (ushl 1 p.pa) else cF (occR p.f p.r p.zs) (ownS p)) /\ ∀ b, aj p.f p.r b = true -> bt (bif decide (0 <= p.pa) then uor (cF (occR p.f p.r p.zs) (ownS p)) (ushl 1 p.pa) else cF (occR p.f p.r p.zs) (ownS p)) b.toNat = ((!decide (p.zs.getD b.toNat 0 = 0) && !isP (p.zs.getD b.toNat 0) p.bl) || decide (b = p.pa)) := by
   have base : ∀ b, aj p.f p.r b = true -> bt (cF (occR p.f p.r p.zs) (ownS p)) b.toNat = (!decide (p.zs.getD b.toNat 0 = 0) && !isP (p.zs.getD b.toNat 0) p.bl) := fun b hb => by
    have := (bL o.bd).1 hb
    rw [hH hou hwu, hob, hwb, decide_eq_true (show b.toNat < p.zs.length by omega), Bool.true_and, Bool.true_and]
   cases hp : decide (0 <= p.pa) with
   | true =>
    have hp0 := of_decide_eq_true hp
    have hv := (o.pa0 hp0).1
    have hlt := aJ hv
    refine ⟨gQ _ _, fun b hb => ?_⟩
    have hb0 := (aJ hb).1
    rw [cond_true, fz (ke _ _) (iU _ _), base b hb, jm hlt.1 hlt.2.2]
    congr 1
    rw [decide_eq_decide]; omega
   | false =>
    refine ⟨ke _ _, fun b hb => ?_⟩
    have hb0 := (aJ hb).1
    have hp0 := of_decide_eq_false hp
    rw [cond_false, base b hb, decide_eq_false (show ¬ b = p.pa by omega), Bool.or_false]
  refine ⟨gQ _ _, fun n hn h => ?_, fun b hb => ?_⟩
  ·rw [fz s1 (sN _ _), Bool.or_eq_true] at h
   rcases h with h | h
   ·exact hon s3 n hn h
   ·rw [oN p1 hot.1, Bool.and_eq_true] at h
    exact hon p3 n hn h.1
  ·have hlt := (bL o.bd).1 hb
   rw [fz s1 (sN _ _), s2 b hb, oN p1 hot.1, p2 b hb, hot.2 b hb]
   cases hi : isP (p.zs.getD b.toNat 0) p.bl with
   | true =>
    have hz := xk hi
    have hst : bT p.f p.r p.bl a (occR p.f p.r p.zs) b = false := by
     have hocc : hasB (occR p.f p.r p.zs) b = true := by
      rw [lO hou hb, hob, decide_eq_true (show b.toNat < p.zs.length by omega), decide_eq_false hz]; rfl
     rw [Bool.eq_false_iff]
     intro h
     simp only [bT, Bool.or_eq_true, Bool.and_eq_true, decide_eq_true_eq, Bool.not_eq_true'] at h
     rcases h with ⟨h1, h2⟩ | ⟨⟨⟨⟨h1, _⟩, _⟩, _⟩, h2⟩ <;> rw [<- h1, hocc] at h2 <;> cases h2
    have hpa : decide (b = p.pa) = false := by
     rw [decide_eq_false_iff_not]
     intro e
     have := (o.pa0 (by omega)).2
     rw [<- e] at this
     exact hz this
    rw [hst, hpa]; simp
   | false => simp
 | false =>
  simp only [cond_false]
  have hk5 := yA o.h ha0 ha1 hown (of_decide_eq_false hk)
  obtain ⟨r1, r2, r3⟩ := qC hray hou hk5
  replace r1 : Uk (bU p.f p.r (aP (p.zs.getD a.toNat 0)) a (occR p.f p.r p.zs)).1 := r1
  replace r2 : OnS p.f p.r (bU p.f p.r (aP (p.zs.getD a.toNat 0)) a (occR p.f p.r p.zs)).1 := r2
  replace r3 : ∀ b, aj p.f p.r b = true -> bt (bU p.f p.r (aP (p.zs.getD a.toNat 0)) a (occR p.f p.r p.zs)).1 b.toNat = bF p.f p.r (aP (p.zs.getD a.toNat 0)) a b (occR p.f p.r p.zs) := r3
  have hsw : Uk (bif decide (aP (p.zs.getD a.toNat 0) = 6) then uor (bU p.f p.r (aP (p.zs.getD a.toNat 0)) a (occR p.f p.r p.zs)).1 (sw4 p a) else (bU p.f p.r (aP (p.zs.getD a.toNat 0)) a (occR p.f p.r p.zs)).1) /\
    (∀ n : Nat, n < 64 -> bt (bif decide (aP (p.zs.getD a.toNat 0) = 6) then uor (bU p.f p.r (aP (p.zs.getD a.toNat 0)) a (occR p.f p.r p.zs)).1 (sw4 p a) else (bU p.f p.r (aP (p.zs.getD a.toNat 0)) a (occR p.f p.r p.zs)).1) n = true -> n < p.zs.length) /\
    ∀ b, aj p.f p.r b = true -> bt (bif decide (aP (p.zs.getD a.toNat 0) = 6) then uor (bU p.f p.r (aP (p.zs.getD a.toNat 0)) a (occR p.f p.r p.zs)).1 (sw4 p a) else (bU p.f p.r (aP (p.zs.getD a.toNat 0)) a (occR p.f p.r p.zs)).1) b.toNat = (bF p.f p.r (aP (p.zs.getD a.toNat 0)) a b (occR p.f p.r p.zs) || wayB p.f p.r p.zs (wayN p.zs p.bl p.ca a b)) := by
   cases h6 : decide (aP (p.zs.getD a.toNat 0) = 6) with
   | true =>
    have hk6 : absP (p.zs.getD a.toNat 0) = 6 := by rw [o.ab ha]; exact of_decide_eq_true h6
    refine ⟨gQ _ _, fun n hn h => ?_, fun b hb => ?_⟩
    ·rw [cond_true, fz r1 Er.1, Bool.or_eq_true] at h
     rcases h with h | h
     ·exact hon r2 n hn h
     ·have h64 : p.zs.length = 64 := by
       have hc := o.cast
       simp only [eI, Bool.and_eq_true, Bool.not_eq_true', decide_eq_true_eq] at hc
       obtain ⟨⟨⟨⟨c1, c2⟩, c3⟩, c4⟩, _⟩ := hc
       rw [Er.2] at h
       simp only [Bool.or_eq_true, Bool.and_eq_true, Bool.not_eq_true', Bool.or_eq_false_iff, decide_eq_false_iff_not] at h
       have fin : ∀ {bit : Int} {k q : Nat} {c : Bool}, rtX p.f p.r p.zs p.ca bit k q c = false -> eV p.ca bit ≠ 0 -> p.zs.length = 64 := fun h1 h2 => by
        obtain ⟨f8, r8, _⟩ := gL h1 h2
        exact tR o.bd (by rw [f8, r8]; rfl)
       rcases h with ((⟨⟨⟨⟨h, _⟩, _⟩, _⟩, _⟩ | ⟨⟨⟨⟨h, _⟩, _⟩, _⟩, _⟩) | ⟨⟨⟨⟨h, _⟩, _⟩, _⟩, _⟩) | ⟨⟨⟨⟨h, _⟩, _⟩, _⟩, _⟩
       ·exact fin c1 h
       ·exact fin c2 h
       ·exact fin c3 h
       ·exact fin c4 h
      omega
    ·rw [cond_true, fz r1 Er.1, r3 b hb, Kb hk6 (aJ hb).1]
   | false =>
    refine ⟨r1, hon r2, fun b hb => ?_⟩
    have hw : wayN p.zs p.bl p.ca a b = 4 := by
     unfold wayN
     rw [o.ab ha, h6]; rfl
    rw [cond_false, r3 b hb, hw]
    have : wayB p.f p.r p.zs 4 = false := rfl
    rw [this, Bool.or_false]
  refine ⟨ke _ _, fun n hn h => ?_, fun b hb => ?_⟩
  ·rw [hH hsw.1 hwu, Bool.and_eq_true] at h
   exact hsw.2.1 n hn h.1
  ·have hlt := (bL o.bd).1 hb
   rw [hH hsw.1 hwu, hsw.2.2 b hb, hwb, decide_eq_true (show b.toNat < p.zs.length by omega), Bool.true_and, Bool.and_comm]
end
end
end Go.Ab
namespace Go.Ab
open IntKind
open Go.Proofs
section
theorem lT {α β : Type} (q : α -> Bool) (g : α -> List β) : ∀ l : List α, (l.filter q).flatMap g = l.flatMap fun x => bif q x then g x else []
 | [] => rfl
 | x :: l => by
  rw [List.filter_cons, List.flatMap_cons, <- lT q g l]
  cases q x <;> simp
theorem jE {α β : Type} {f g : α -> List β} : ∀ {l : List α}, (∀ x ∈ l, f x = g x) -> l.flatMap f = l.flatMap g
 | [], _ => rfl
 | x :: l, h => by rw [List.flatMap_cons, List.flatMap_cons, h x (List.mem_cons_self ..), jE fun y hy => h y (List.mem_cons_of_mem _ hy)]
theorem nZ {β : Type} {q : Nat -> Bool} {g : Int -> List β} {n : Nat} (hn : n <= 64) (hq : ∀ m, m < 64 -> q m = true -> m < n) :
  (((List.range 64).filter q).map Int.ofNat).flatMap g = ((List.range n).map Int.ofNat).flatMap fun x => bif q x.toNat then g x else [] := by
 rw [List.flatMap_map, List.flatMap_map, lT, List.range_eq_range', List.range_eq_range', show 64 = n + (64 - n) by omega, <- List.range'_append_1, List.flatMap_append]
 have h2 : (List.range' (0 + n) (64 - n)).flatMap (fun x => bif q x then g (Int.ofNat x) else []) = [] := by
  rw [List.flatMap_eq_nil_iff]
  intro x hx
  have hx := List.mem_range'_1.1 hx
  cases h : q x with
  | false => rfl
  | true => have := hq x (by omega) h; omega
 rw [h2, List.append_nil]
 rfl
theorem mQ {α : Type} {step : Int -> List (List Int) -> Option (List (List Int) ⊕ (List (List Int) ⊕ α))} {F Fx : List (List Int) -> Option α} {rows : Int -> List (List Int)} {M k : Nat} : ∀ {l : List Int} {acc : List (List Int)},
  (∀ x ∈ l, ∀ acc : List (List Int), acc.length <= M -> step x acc = some (.inl (acc ++ rows x))) -> (∀ x ∈ l, (rows x).length <= k) -> acc.length + k * l.length <= M -> ct step F Fx l acc = F (acc ++ l.flatMap rows)
 | [], acc, _, _, _ => by rw [yP, List.flatMap_nil, List.append_nil]
 | x :: l, acc, hs, hr, hM => by
  rw [List.length_cons, Nat.mul_add] at hM
  rw [ij (hs x (List.mem_cons_self ..) acc (by omega)), mQ (fun y hy => hs y (List.mem_cons_of_mem _ hy)) (fun y hy => hr y (List.mem_cons_of_mem _ hy)) (by have := hr x (List.mem_cons_self ..); rw [List.length_append]; omega), List.flatMap_cons, List.append_assoc]
theorem BT {f r b : Int} {zs : List Int} (_hbd : az f r zs = true) (hb : aj f r b = true) : ((r - 1) * f <= b ↔ py f b = r - 1) /\ (b < f ↔ py f b = 0) := by
 obtain ⟨b0, b1, b2, b3, b4, b5, b6, b7, b8, b9⟩ := eF hb
 constructor
 ·constructor
  ·intro h
   refine Decidable.byContradiction fun hne => ?_
   have : (py f b + 1) * f <= (r - 1) * f := Int.mul_le_mul_of_nonneg_right (by omega) (by omega)
   rw [Int.add_mul] at this
   omega
  ·intro h
   rw [<- h]; omega
 ·constructor
  ·intro h
   refine Decidable.byContradiction fun hne => ?_
   have : 1 * f <= py f b * f := Int.mul_le_mul_of_nonneg_right (by omega) (by omega)
   omega
  ·intro h
   rw [h] at b5; omega
section
variable {p : Psn} {a b : Int}
def vR (p : Psn) (b : Int) : Bool := bif p.bl then decide (b < p.f) else decide (i64.wrap (p.f * i64.wrap (p.r - 1)) <= b)
theorem Ej (w x : Int) : zX ⟨p, w, x⟩ b = some (vR p b) := by
 unfold zX vR
 cases h : p.bl <;> rfl
theorem IS (o : PsH p) (hb : aj p.f p.r b = true) : vR p b = sQ p b := by
 obtain ⟨w1, w2⟩ := BT o.bd hb
 obtain ⟨b0, b1, b2, b3, b4, b5, b6, b7, b8, b9⟩ := eF hb
 have hlt := aJ hb
 unfold vR sQ
 cases p.bl with
 | true =>
  rw [cond_true, decide_eq_decide, show fK p.r true = 0 from rfl]
  exact w2
 | false =>
  have h1 : i64.wrap (p.r - 1) = p.r - 1 := aB (by omega) (by omega)
  have hm : 0 <= p.f * (p.r - 1) /\ p.f * (p.r - 1) <= 64 := by
   have e1 : p.f * (p.r - 1) <= 8 * (p.r - 1) := Int.mul_le_mul_of_nonneg_right (by omega) (by omega)
   exact ⟨Int.mul_nonneg (by omega) (by omega), by omega⟩
  rw [cond_false, decide_eq_decide, h1, aB (by omega) (by omega), show fK p.r false = p.r - 1 from h1, Int.mul_comm]
  exact w1
def yR (p : Psn) (a b : Int) : List (List Int) := bif decide (absP (p.zs.getD a.toNat 0) = 1) && vR p b then [[a, b, 2], [a, b, 3], [a, b, 4], [a, b, 5]] else [[a, b, 0]]
theorem Dd : (yR p a b).length <= 4 := by
 unfold yR
 cases (decide (absP (p.zs.getD a.toNat 0) = 1) && vR p b) <;> simp
theorem CT {acc : List (List Int)} (h : acc.length <= 100000) : decide ((acc.length + 1) * 24 <= 140737488355328) = true := by simp; omega
theorem iQ {acc : List (List Int)} {q : Int} (h : acc.length <= 100000) (h1 : 0 <= q) (h2 : q <= 5) : dY a b (acc, q) = some (.inl (acc ++ [[a, b, q]], q + 1)) := by
 unfold dY
 simp only [CT h, decide_eq_true h2, cond_true, aQ]
 rw [show i8.wrap (q + 1) = q + 1 from Es (by omega) (by omega)]
 rfl
theorem FT {acc : List (List Int)} : dY a b (acc, 2 + 1 + 1 + 1 + 1) = some (.inr (.inl acc)) := by
 unfold dY
 rfl
theorem Fm {acc : List (List Int)} (h : acc.length <= 90000) : cK (dY a b) (fun s33 : List (List Int) => some (.inl s33)) 1000000 (acc, 2) = some (.inl (acc ++ [[a, b, 2], [a, b, 3], [a, b, 4], [a, b, 5]])) := by
 rw [show (1000000 : Nat) = 999995 + 1 + 1 + 1 + 1 + 1 by rfl]
 rw [bK (iQ (by omega) (by decide) (by decide)), bK (iQ (by simp; omega) (by decide) (by decide)), bK (iQ (by simp; omega) (by decide) (by decide)), bK (iQ (by simp; omega) (by decide) (by decide)), fj FT]
 simp
theorem Il (ha : 0 <= a /\ a < p.zs.length) {acc : List (List Int)} (h : acc.length <= 90000) : rm ⟨p, ownS p, occR p.f p.r p.zs⟩ a dY b acc = some (.inl (acc ++ yR p a b)) := by
 have h1 : (decide (0 <= a) && decide (a < Int.ofNat p.zs.length)) = true := by simp; omega
 unfold rm yR
 simp only [List.drop_zero, List.take_length, rX, Kv, h1, aQ, ck, Option.getD_some, Ej, Option.isSome_some, Bool.or_true, CT (show acc.length <= 100000 by omega), Fm h]
 by_cases h2 : absP (p.zs.getD a.toNat 0) = 1
 ·simp only [h2, decide_true, Bool.not_true, Bool.false_or, Bool.true_and]
  cases vR p b <;> rfl
 ·simp only [h2, decide_false, Bool.not_false, Bool.true_or, Bool.false_and]
  rfl
theorem ES {x n : Int} (h : n ∈ bitL x) : 0 <= n /\ n < 64 /\ bt x n.toNat = true := by
 unfold bitL at h
 obtain ⟨m, hm, rfl⟩ := List.mem_map.1 h
 rw [List.mem_filter, List.mem_range] at hm
 exact ⟨Int.natCast_nonneg _, Int.ofNat_lt.2 hm.1, by simpa using hm.2⟩
theorem FB (o : PsH p) (ha : aj p.f p.r a = true) : zY ⟨p, ownS p, occR p.f p.r p.zs⟩ a = some (psL p a) := by
 have hA := (bL o.bd).1 ha
 have hlt := aJ ha
 obtain ⟨hwu, hwb⟩ := yB o.hl
 have h0 : decide (band Go.BinOp.and u64 ((ownS p).fdiv (2 ^ Min.min a.toNat u64.bits)) 1 = 0) = !isP (p.zs.getD a.toNat 0) p.bl := by
  have := Ht hwu hlt.1 hlt.2.2
  rw [hwb, decide_eq_true (show a.toNat < p.zs.length by omega), Bool.true_and] at this
  exact this
 unfold zY
 simp only [List.drop_zero, List.take_length, rX, decide_eq_true hlt.1, aQ]
 rw [h0]
 cases hi : isP (p.zs.getD a.toNat 0) p.bl with
 | false =>
  rw [Bool.not_false, cond_true]
  congr 1
  unfold psL
  rw [eq_comm, List.flatMap_eq_nil_iff]
  exact fun _ _ => sk hi
 | true =>
  rw [Bool.not_true, cond_false, Lh hA, ck]
  obtain ⟨t1, t2, t3⟩ := La o ha hi
  rw [wV t1]
  have hlen := kR (tgR p a)
  rw [mQ (rows := yR p a) (M := 90000) (k := 4) (fun x _ acc h => Il hA h) (fun _ _ => Dd) (by simp; omega), List.nil_append]
  congr 1
  unfold bitL psL
  rw [nZ o.hl t2]
  refine jE fun x hx => ?_
  obtain ⟨m, hm, rfl⟩ := List.mem_map.1 hx
  have hm := List.mem_range.1 hm
  have hv : aj p.f p.r (Int.ofNat m) = true := (bL o.bd).2 ⟨Int.natCast_nonneg _, Int.ofNat_lt.2 hm⟩
  rw [t3 _ hv, HB o ha hv hi]
  unfold yR
  rw [IS o hv, o.ab ha]
end
end
end Go.Ab
set_option maxHeartbeats 4000000
namespace Go.Ab
open IntKind
open Go.Proofs
section
variable {kCa kDb : Bool}
def oV (p : Int) : Option (Int) := let x5 := (#[112, 110, 98, 114, 113, 107, 97, 99, 100, 101, 102, 103, 104, 105, 106] : Array UInt8).toList; let x6 := (#[80, 78, 66, 82, 81, 75, 65, 67, 68, 69, 70, 71, 72, 73, 74] : Array UInt8).toList; let x7 := i8.wrap (i8.wrap (0 - p) - 1); let x8 := i8.wrap (p - 1); let x3 := Int.ofNat x6.length; let x4 := Int.ofNat x5.length; bif decide (p < 0) then bj (decide (0 <= x7) && decide (x7 < x4)) (some (Int.ofNat (x5.getD x7.toNat 0).toNat)) else bj (decide (0 <= x8) && decide (x8 < x3)) (some (Int.ofNat (x6.getD x8.toNat 0).toNat))
def nH (R : Int) : V := .int .u8 R
def mh (_R : Int) : List O := []
def gd : CF
 | [.int .i8 p_0], [] => retC true (oV p_0) 0 nH mh
 | _, _ => none
theorem uD (p : Int) {r} (hr : oV p = some r) : aM (GGx kCa kDb) PP 182 [.int .i8 p] [] (nH r) (mh r) := by
 have hE := cutE (aD (kCa := kCa) (kDb := kDb) (cts := []) (inl := []) trivial trivial)
 refine eH hE 2 Tryz.func182 rfl rfl nH mh hr ?_ rfl rfl
 refine aN hE 2 rfl ?_ ?_
 ·refine cu ?_
  exact aZ (bz [] (.inr rfl) rfl rfl rfl rfl rfl)
 refine cu ?_
 exact aZ (bz [] (.inr rfl) rfl rfl rfl rfl rfl)
theorem gl : CtOk (GGx kCa kDb) PP (182, gd) := by
 refine aG Tryz.func182 (by kernel_rfl) rfl fun a0 h0 c0 v0 N0 e hc => ?_
 unfold gd at e
 split at e
 ·rename_i p_0
  obtain ⟨hl, r, hr, rfl, rfl⟩ := cX e hc
  exact uD p_0 hr
 ·cases e
def Bd : Int -> Int -> Option (Int ⊕ Unit ⊕ Int) := fun (c s5 : Int) => let x12 := !decide (s5 = 0); bif decide (s5 <= 15) then bj (!x12 || (oV s5).isSome) (bif x12 && decide ((oV s5).getD 0 = c) then escO (escO (some s5)) else some (Sum.inl (i8.wrap (s5 + 1)))) else some (Sum.inr (Sum.inl ()))
def Gy (c : Int) : Option (Int) := cK (Bd c) (fun (_s10 : Unit) => some 0) 1000000 (-15)
def rf (R : Int) : V := .int .i8 R
def pV (_R : Int) : List O := []
def pL : CF
 | [.int .u8 c_0], [] => retC true (Gy c_0) 0 rf pV
 | _, _ => none
theorem zH (c : Int) {r} (hr : Gy c = some r) : aM (GGx kCa kDb) PP 165 [.int .u8 c] [] (rf r) (pV r) := by
 have hE := cutE (aD (kCa := kCa) (kDb := kDb) (cts := [(182, gd)]) (inl := []) ⟨gl, trivial⟩ trivial)
 refine eH hE 2 Tryz.func165 rfl rfl rf pV hr ?_ rfl rfl
 refine dy hE 2 (fun (s5 : Int) => ([(0, V.int u8 c), (2, V.int i8 0), (3, V.int i8 s5)], [])) (fun (s10 : Unit) => ([(2, V.int i8 0)], [])) (.exit 0) ((Ent.rn [] [0, 2, 3] rfl rfl rfl rfl rfl)) (fun s5 => ?_) (fun s10 => ?_)
 ·refine aN hE 2 rfl ?_ ?_
  ·refine aq (Bool.not_or_self _) ?_
   refine ez (pi (pl rfl id)) ?_
   refine aq (Bool.not_or_self _) ?_
   refine aq (Bool.not_or_self _) ?_
   refine aq (Bool.not_or_self _) ?_
   refine aN hE 2 rfl ?_ ?_
   ·refine rE (by simp) (nl ?_)
    exact aZ (bz [] (.inr rfl) rfl rfl rfl rfl rfl)
   exact dg ((Ent.rn [] [0, 2, 3] rfl rfl rfl rfl rfl))
  exact dD ((Ent.rn [] [2] rfl rfl rfl rfl rfl))
 exact aZ (bz [] (.inr rfl) rfl rfl rfl rfl rfl)
theorem uv : CtOk (GGx kCa kDb) PP (165, pL) := by
 refine aG Tryz.func165 (by kernel_rfl) rfl fun a0 h0 c0 v0 N0 e hc => ?_
 unfold pL at e
 split at e
 ·rename_i c_0
  obtain ⟨hl, r, hr, rfl, rfl⟩ := cX e hc
  exact zH c_0 hr
 ·cases e
end
end Go.Ab
namespace Go.Ab
open Go.Proofs
section
variable {kCa kDb : Bool}
end
section
variable {kCa kDb : Bool}
def qh : Int -> List UInt8 × Int -> Option (List UInt8 × Int ⊕ List UInt8 × Int × Bool ⊕ Int ⊕ Unit ⊕ Int) := fun (s27 : Int) => let x54 := (#[75, 81, 107, 113] : Array UInt8).toList; let x53 := Int.ofNat x54.length; fun (s33 : List UInt8 × Int) => let x58 := (s27.fdiv (2 ^ Min.min s33.2.toNat IntKind.i64.bits)).tmod 2; let x59 := decide (s33.2 < 4); let x60 := decide (0 <= s33.2); let x61 := IntKind.i64.wrap (s33.2 + 1); let x57 := List.take (x61.toNat - s33.2.toNat) (List.drop s33.2.toNat x54); let x56 := s33.1.length + x57.length; bif x59 then bj x60 (di (bif decide (x58 = 1) then bj (x60 && decide (s33.2 <= x61) && decide (x61 <= x53)) (bj (decide (x56 <= 4611686018427387904)) (some (Sum.inl (s33.1 ++ x57)))) else some (Sum.inl s33.1)) fun (s35 : List UInt8) => some (Sum.inl (s35, x61))) else some (Sum.inr (Sum.inl (s33.1, s33.2, x59)))
def Fg : List UInt8 -> (Int -> List UInt8 × Int -> Option (List UInt8 × Int ⊕ List UInt8 × Int × Bool ⊕ Int ⊕ Unit ⊕ Int)) -> Int -> Option (Int ⊕ Unit ⊕ Int) := fun (s : List UInt8) (qh : Int -> List UInt8 × Int -> Option (List UInt8 × Int ⊕ List UInt8 × Int × Bool ⊕ Int ⊕ Unit ⊕ Int)) (s27 : Int) => bif decide (s27 < 16) then cK (qh s27) (fun (s45 : List UInt8 × Int × Bool) => di (bif s45.1 == (#[] : Array UInt8).toList then some (Sum.inl (#[45] : Array UInt8).toList) else some (Sum.inl s45.1)) fun (s47 : List UInt8) => bif s47 == s then escO (escO (some s27)) else some (Sum.inl (IntKind.i64.wrap (s27 + 1)))) 1000000 ((#[] : Array UInt8).toList, 0) else some (Sum.inr (Sum.inl ()))
def Ji (s : List UInt8) : Option (Int) := cK (Fg s qh) (fun (_s52 : Unit) => some (-1)) 1000000 0
def uL (R : Int) : V := .int .i64 R
def ue (_R : Int) : List O := []
def vc : CF
 | [.str s_0], [] => retC true (Ji s_0) 0 uL ue
 | _, _ => none
theorem AO (s : List UInt8) {r} (hr : Ji s = some r) : aM (GGx kCa kDb) PP 132 [.str s] [] (uL r) (ue r) := by
 have hE := cutE (aD (kCa := kCa) (kDb := kDb) (cts := []) (inl := []) trivial trivial)
 refine eH hE 2 Tryz.func132 rfl rfl uL ue hr ?_ rfl rfl
 refine dy hE 2 (fun (s27 : Int) => ([(0, V.str s), (2, I 0), (3, I s27)], [])) (fun (s52 : Unit) => ([(2, I 0)], [])) (.exit 0) ((Ent.rn [] [0, 2, 3] rfl rfl rfl rfl rfl)) (fun s27 => ?_) (fun s52 => ?_)
 ·refine aN hE 2 rfl ?_ ?_
  ·refine dy hE 2 (fun (s33 : List UInt8 × Int) => ([(0, V.str s), (2, I 0), (3, I s27), (4, V.str s33.1), (5, I s33.2), (6, I s27), (7, Bb (decide (s27 < 16)))], [])) (fun (s45 : List UInt8 × Int × Bool) => ([(0, V.str s), (2, I 0), (3, I s27), (4, V.str s45.1), (5, I s45.2.1), (6, I s27), (7, Bb (decide (s27 < 16))), (10, I s45.2.1), (11, Bb s45.2.2)], [])) (.exit 2) ((Ent.rn [] [0, 2, 3, 4, 5, 6, 7] rfl rfl rfl rfl rfl)) (fun s33 => ?_) (fun s45 => ?_)
   ·refine aN hE 2 rfl ?_ ?_
    ·refine cu ?_
     refine aq rfl ?_
     refine dF hE 2 (let x74 := s27.fdiv (2 ^ Min.min s33.2.toNat IntKind.i64.bits); let x73 := x74.tmod 2; fun (s35 : List UInt8) => ([(0, V.str s), (2, I 0), (3, I s27), (4, V.str s35), (5, I s33.2), (6, I s27), (7, Bb (decide (s27 < 16))), (10, I s33.2), (11, Bb (decide (s33.2 < 4))), (14, I s27), (15, I s33.2), (16, I x74), (17, I x73), (18, Bb (decide (x73 = 1)))], [])) rfl ?_ ?_ (fun s35 => ?_)
     ·refine cu ?_
      refine cu ?_
      exact cr ((Ent.rn [] [0, 2, 3, 4, 5, 6, 7, 10, 11, 14, 15, 16, 17, 18] rfl rfl rfl rfl rfl))
     ·exact cr ((Ent.rn [] [0, 2, 3, 4, 5, 6, 7, 10, 11, 14, 15, 16, 17, 18] rfl rfl rfl rfl rfl))
     exact dg ((Ent.rn [] [0, 2, 3, 4, 5, 6, 7] rfl rfl rfl rfl rfl))
    exact dD ((Ent.rn [] [0, 2, 3, 4, 5, 6, 7, 10, 11] rfl rfl rfl rfl rfl))
   refine dF hE 2 (fun (s47 : List UInt8) => ([(0, V.str s), (2, I 0), (3, I s27), (4, V.str s47), (5, I s45.2.1), (6, I s27), (7, Bb (decide (s27 < 16))), (10, I s45.2.1), (11, Bb s45.2.2), (25, V.str s45.1), (26, Bb (s45.1 == (#[] : Array UInt8).toList))], [])) rfl ?_ ?_ (fun s47 => ?_)
   ·exact cr ((Ent.rn [] [0, 2, 3, 4, 5, 6, 7, 10, 11, 25, 26] rfl rfl rfl rfl rfl))
   ·exact cr ((Ent.rn [] [0, 2, 3, 4, 5, 6, 7, 10, 11, 25, 26] rfl rfl rfl rfl rfl))
   refine aN hE 2 rfl ?_ ?_
   ·refine rE (by simp) (nl ?_)
    exact aZ (bz [] (.inr rfl) rfl rfl rfl rfl rfl)
   exact dg ((Ent.rn [] [0, 2, 3] rfl rfl rfl rfl rfl))
  exact dD ((Ent.rn [] [2] rfl rfl rfl rfl rfl))
 exact aZ (bz [] (.inr rfl) rfl rfl rfl rfl rfl)
theorem yZ : CtOk (GGx kCa kDb) PP (132, vc) := by
 refine aG Tryz.func132 (by kernel_rfl) rfl fun a0 h0 c0 v0 N0 e hc => ?_
 unfold vc at e
 split at e
 ·rename_i s_0
  obtain ⟨hl, r, hr, rfl, rfl⟩ := cX e hc
  exact AO s_0 hr
 ·cases e
end
section
variable {kCa kDb : Bool}
end
end Go.Ab
