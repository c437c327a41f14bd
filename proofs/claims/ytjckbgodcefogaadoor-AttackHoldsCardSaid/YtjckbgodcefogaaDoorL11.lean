/- Contracts of the functions that the laws reach, and plain laws of what they compute (text L11); no condition. -/
import Derived.Test.YtjckbgodcefogaaDoorF4
namespace Go.Ab
open Go.Proofs
theorem firstNot_spec (B : List Int) : ∀ A : List Int, (firstNot B A = -1 ∧ ∀ x ∈ A, x ∈ B) ∨ (firstNot B A ∈ A ∧ firstNot B A ∉ B)
  | [] => .inl ⟨rfl, by simp⟩
  | x :: A => by
    rw [firstNot]
    cases hx : hasL x B with
    | false =>
      right
      refine ⟨by simp, fun h => ?_⟩
      have := has_mem.2 h
      simp only [Bool.not_false, cond_true] at this
      rw [hx] at this; cases this
    | true =>
      rw [Bool.not_true, cond_false]
      rcases firstNot_spec B A with ⟨h1, h2⟩ | ⟨h1, h2⟩
      · left
        refine ⟨h1, fun y hy => ?_⟩
        rcases List.mem_cons.1 hy with rfl | hy
        · exact has_mem.1 hx
        · exact h2 y hy
      · right; exact ⟨by simp [h1], h2⟩
theorem pins_line {f r : Int} {zs : List Int} {bl : Bool} {K x j : Int} (h : orthBd f r zs = true) (hK : validB f r K = true) (hp : Pins f r zs bl K x j) : validB f r x = true ∧ validB f r j = true ∧ (lineR f x K).2.2 = true ∧ Btw f K x j ∧ zs.getD x.toNat 0 ≠ 0 ∧ zs.getD j.toNat 0 ≠ 0 := by
  obtain ⟨h0, h1, hl, ho⟩ := hp
  have hx := (sq_iff h).2 ⟨h0, h1⟩
  have hj := (ho j).2 rfl
  have hjv := (betwL_bd (b := K) hx).2 j hj.1
  obtain ⟨l1, l2⟩ := (mem_betw hx hK hjv).1 hj.1
  exact ⟨hx, hjv, l1, l2.symm, isP_nz hl.1, hj.2⟩
theorem pins_unique {f r : Int} {zs : List Int} {bl : Bool} {K x1 x2 j : Int} (h : orthBd f r zs = true) (hK : validB f r K = true) (p1 : Pins f r zs bl K x1 j) (p2 : Pins f r zs bl K x2 j) : x1 = x2 := by
  obtain ⟨v1, vj, l1, b1, z1, _⟩ := pins_line h hK p1
  obtain ⟨v2, _, l2, b2, z2, _⟩ := pins_line h hK p2
  obtain ⟨i1, k1, d1, e1, u1, a1, a2, a3, a4, a5, a6, a7⟩ := b1
  obtain ⟨i2, k2, d2, e2, u2, c1, c2, c3, c4, c5, c6, c7⟩ := b2
  have hd : d1 = d2 ∧ e1 = e2 ∧ i1 = i2 := by
    rcases unit_cases u1 with ⟨rfl, rfl⟩ | ⟨rfl, rfl⟩ | ⟨rfl, rfl⟩ | ⟨rfl, rfl⟩ | ⟨rfl, rfl⟩ | ⟨rfl, rfl⟩ | ⟨rfl, rfl⟩ | ⟨rfl, rfl⟩ <;>
    rcases unit_cases u2 with ⟨rfl, rfl⟩ | ⟨rfl, rfl⟩ | ⟨rfl, rfl⟩ | ⟨rfl, rfl⟩ | ⟨rfl, rfl⟩ | ⟨rfl, rfl⟩ | ⟨rfl, rfl⟩ | ⟨rfl, rfl⟩ <;> omega
  obtain ⟨rfl, rfl, rfl⟩ := hd
  have far : ∀ {x : Int} {k : Nat}, i1 < k → px f x = px f K + k * d1 → py f x = py f K + k * e1 → x ≠ j := by
    rintro x k hk e1 e2 rfl
    rcases unit_cases u1 with ⟨rfl, rfl⟩ | ⟨rfl, rfl⟩ | ⟨rfl, rfl⟩ | ⟨rfl, rfl⟩ | ⟨rfl, rfl⟩ | ⟨rfl, rfl⟩ | ⟨rfl, rfl⟩ | ⟨rfl, rfl⟩ <;> omega
  rcases Nat.lt_trichotomy k1 k2 with hk | hk | hk
  · exfalso
    have hb : Btw f K x2 x1 := ⟨k1, k2, d1, e1, u1, by omega, hk, c3, c4, c5, a4, a5⟩
    exact far a2 a4 a5 ((p2.2.2.2 x1).1 ⟨(mem_betw v2 hK v1).2 ⟨l2, hb.symm⟩, z1⟩)
  · subst hk
    exact (valid_inj v1 v2).2 ⟨by omega, by omega⟩
  · exfalso
    have hb : Btw f K x1 x2 := ⟨k2, k1, d1, e1, u1, by omega, hk, a3, a4, a5, c4, c5⟩
    exact far c2 c4 c5 ((p1.2.2.2 x2).1 ⟨(mem_betw v1 hK v2).2 ⟨l1, hb.symm⟩, z2⟩)
theorem no_king {f r : Int} {zs : List Int} {bl : Bool} {K x : Int} (h : orthBd f r zs = true) (hK : validB f r K = true) (p : Pins f r zs bl K x K) : False := by
  obtain ⟨_, _, _, b, _⟩ := pins_line h hK p
  obtain ⟨i, k, d, e, u, a1, a2, a3, a4, a5, a6, a7⟩ := b
  rcases unit_cases u with ⟨rfl, rfl⟩ | ⟨rfl, rfl⟩ | ⟨rfl, rfl⟩ | ⟨rfl, rfl⟩ | ⟨rfl, rfl⟩ | ⟨rfl, rfl⟩ | ⟨rfl, rfl⟩ | ⟨rfl, rfl⟩ <;> omega
theorem isP_lt {p : Int} {bl : Bool} (h : isP p bl = true) : decide (p < 0) = bl ∧ decide (0 < p) = !bl := by
  cases bl <;> simp [isP] at h <;> simp <;> omega
/-- the pinner as the reference finds it -/
theorem pinner_iff {f r : Int} {zs : List Int} {bl : Bool} {j : Int} (h : orthBd f r zs = true) (hz : zs.length ≤ 64) (hK : validB f r (refKing zs bl) = true) (hj0 : 0 ≤ j) (hj1 : j < zs.length) (hjp : isP (zs.getD j.toNat 0) bl = true) :
    (pinnerR f r zs j = -1 ∧ ∀ x, ¬ Pins f r zs bl (refKing zs bl) x j) ∨ Pins f r zs bl (refKing zs bl) (pinnerR f r zs j) j := by
  obtain ⟨e1, e2⟩ := isP_lt hjp
  have hk : pinnerK zs j = refKing zs bl := by unfold pinnerK; rw [e1]
  have hni := fun x => new_iff (K := refKing zs bl) (x := x) h hz hK hj0 hj1 hjp
  unfold pinnerR
  rw [hk, e2, decide_eq_false (isP_nz hjp), Bool.false_or]
  by_cases ek : j = refKing zs bl
  · left
    rw [decide_eq_true ek, cond_true]
    refine ⟨rfl, fun x hp => ?_⟩
    rw [ek] at hp
    exact no_king h hK hp
  · rw [decide_eq_false ek, cond_false]
    rcases firstNot_spec (attL f r zs (refKing zs bl) (!bl)) (attL f r (zs.set j.toNat 0) (refKing zs bl) (!bl)) with ⟨h1, h2⟩ | ⟨h1, h2⟩
    · left
      exact ⟨h1, fun x hp => ((hni x).2 hp).2 (h2 x ((hni x).2 hp).1)⟩
    · right; exact (hni _).1 ⟨h1, h2⟩
/-! the program's folds -/
def PGood (f r : Int) (zs : List Int) (bl : Bool) (K occ x j : Int) : Prop := (skipA zs bl x || skipB f r zs K x) = false ∧ pinC f r zs bl K occ x j = true
theorem good_iff {f r : Int} {zs : List Int} {bl : Bool} {K x j : Int} (h : orthBd f r zs = true) (hz : zs.length ≤ 64) (hK : validB f r K = true) (h0 : 0 ≤ x) (h1 : x < zs.length) (hj0 : 0 ≤ j) (hj1 : j < zs.length) : PGood f r zs bl K (occR f r zs) x j ↔ Pins f r zs bl K x j ∧ isP (zs.getD j.toNat 0) bl = true := by
  unfold PGood Pins
  rw [skip_iff h hK h0 h1]
  constructor
  · rintro ⟨a, b⟩
    have hl := (reaches_line (f := f) (r := r) (x := x) (K := K) (occ := 0) (kd := ((zs.getD x.toNat 0).natAbs : Int)) (by have := a.2.1; omega) (by have := a.2.2.1; omega)).2 a.2.2.2
    obtain ⟨c1, c2⟩ := (pinC_iff h hz ((sq_iff h).2 ⟨h0, h1⟩) hK hl hj0 hj1).1 b
    exact ⟨⟨h0, h1, a, c1⟩, c2⟩
  · rintro ⟨⟨_, _, a, c1⟩, c2⟩
    have hl := (reaches_line (f := f) (r := r) (x := x) (K := K) (occ := 0) (kd := ((zs.getD x.toNat 0).natAbs : Int)) (by have := a.2.1; omega) (by have := a.2.2.1; omega)).2 a.2.2.2
    exact ⟨a, (pinC_iff h hz ((sq_iff h).2 ⟨h0, h1⟩) hK hl hj0 hj1).2 ⟨c1, c2⟩⟩
theorem inP {f r : Int} {zs : List Int} {bl : Bool} {K occ x s : Int} (hs : Uk s) : ∀ n : Nat, n ≤ 64 → Uk (foldN (pinIn cbP f r zs bl K occ x) s n) ∧ ∀ m : Nat, bt (foldN (pinIn cbP f r zs bl K occ x) s n) m = true ↔ bt s m = true ∨ (m < n ∧ pinC f r zs bl K occ x m = true)
  | 0, _ => ⟨hs, fun m => by simp [foldN]⟩
  | n + 1, hn => by
    obtain ⟨h1, h2⟩ := inP hs n (by omega)
    simp only [foldN, pinIn]
    cases hc : pinC f r zs bl K occ x n with
    | false =>
      refine ⟨h1, fun m => ?_⟩
      rw [cond_false, h2]
      refine or_congr_right ⟨fun ⟨a, b⟩ => ⟨by omega, b⟩, fun ⟨a, b⟩ => ⟨?_, b⟩⟩
      have : m ≠ n := by rintro rfl; rw [hc] at b; cases b
      omega
    | true =>
      simp only [cond_true, cbP]
      refine ⟨uk_or _ _, fun m => ?_⟩
      rw [bt_or h1 (uk_shl _ _), bt_shl (by omega) (by omega), Bool.or_eq_true, h2, decide_eq_true_eq, or_assoc]
      refine or_congr_right ⟨?_, fun ⟨a, b⟩ => ?_⟩
      · rintro (⟨a, b⟩ | a)
        · exact ⟨by omega, b⟩
        · have : m = n := by omega
          subst this; exact ⟨by omega, hc⟩
      · by_cases e : m = n
        · exact .inr (by omega)
        · exact .inl ⟨by omega, b⟩
theorem outP {f r : Int} {zs : List Int} {bl : Bool} {K occ : Int} (hz : zs.length ≤ 64) : ∀ n : Nat, Uk (foldN (pinOut cbP f r zs bl K occ) 0 n) ∧ ∀ m : Nat, bt (foldN (pinOut cbP f r zs bl K occ) 0 n) m = true ↔ ∃ x : Nat, x < n ∧ m < zs.length ∧ PGood f r zs bl K occ x m
  | 0 => ⟨uk_0, fun m => by simp [foldN, bt_0]⟩
  | n + 1 => by
    obtain ⟨h1, h2⟩ := outP (f := f) (r := r) (bl := bl) (K := K) (occ := occ) hz n
    simp only [foldN]
    rw [pinOut]
    cases hc : (skipA zs bl n || skipB f r zs K n) with
    | true =>
      refine ⟨h1, fun m => ?_⟩
      rw [cond_true, h2]
      constructor
      · rintro ⟨x, a, b⟩; exact ⟨x, by omega, b⟩
      · rintro ⟨x, a, b, c⟩
        have : x ≠ n := by rintro rfl; have := c.1; rw [hc] at this; cases this
        exact ⟨x, by omega, b, c⟩
    | false =>
      rw [cond_false]
      obtain ⟨g1, g2⟩ := inP (f := f) (r := r) (zs := zs) (bl := bl) (K := K) (occ := occ) (x := n) h1 zs.length hz
      refine ⟨g1, fun m => ?_⟩
      rw [g2, h2]
      constructor
      · rintro (⟨x, a, b⟩ | ⟨a, b⟩)
        · exact ⟨x, by omega, b⟩
        · exact ⟨n, by omega, a, hc, b⟩
      · rintro ⟨x, a, b, c⟩
        by_cases e : x = n
        · subst e; exact .inr ⟨b, c.2⟩
        · exact .inl ⟨x, by omega, b, c⟩
theorem inL {f r : Int} {zs : List Int} {bl : Bool} {K occ x s : Int} {j : Nat} : ∀ n : Nat, foldN (pinIn (cbL j) f r zs bl K occ x) s n = bif decide (j < n) && pinC f r zs bl K occ x j then pinLn f r K x j else s
  | 0 => by simp [foldN]
  | n + 1 => by
    simp only [foldN, pinIn, cbL, inL n]
    by_cases e : (n : Int) = (j : Int)
    · have : n = j := by omega
      subst this
      simp only [Nat.lt_irrefl, decide_false, Bool.false_and, cond_false, Nat.lt_succ_self, decide_true, Bool.true_and, cond_true]
    · have e2 : decide (j < n) = decide (j < n + 1) := by congr 1; exact propext ⟨fun h => by omega, fun h => by omega⟩
      rw [decide_eq_false e, e2]
      cases pinC f r zs bl K occ x n <;> simp
theorem outLn {f r : Int} {zs : List Int} {bl : Bool} {K occ : Int} {j : Nat} (hj : j < zs.length) : ∀ n : Nat, (∃ x : Nat, x < n ∧ PGood f r zs bl K occ x j ∧ foldN (pinOut (cbL j) f r zs bl K occ) 0 n = pinLn f r K x j) ∨ ((∀ x : Nat, x < n → ¬ PGood f r zs bl K occ x j) ∧ foldN (pinOut (cbL j) f r zs bl K occ) 0 n = 0)
  | 0 => .inr ⟨fun x h => by omega, rfl⟩
  | n + 1 => by
    have ih := outLn (f := f) (r := r) (bl := bl) (K := K) (occ := occ) hj n
    simp only [foldN]
    rw [pinOut]
    cases hc : (skipA zs bl n || skipB f r zs K n) with
    | true =>
      rw [cond_true]
      rcases ih with ⟨x, a, b, c⟩ | ⟨a, b⟩
      · exact .inl ⟨x, by omega, b, c⟩
      · refine .inr ⟨fun x hx hg => ?_, b⟩
        by_cases e : x = n
        · subst e; have := hg.1; rw [hc] at this; cases this
        · exact a x (by omega) hg
    | false =>
      rw [cond_false, inL, decide_eq_true hj, Bool.true_and]
      cases hp : pinC f r zs bl K occ n j with
      | true => exact .inl ⟨n, by omega, ⟨hc, hp⟩, rfl⟩
      | false =>
        rw [cond_false]
        rcases ih with ⟨x, a, b, c⟩ | ⟨a, b⟩
        · exact .inl ⟨x, by omega, b, c⟩
        · refine .inr ⟨fun x hx hg => ?_, b⟩
          by_cases e : x = n
          · subst e; have := hg.2; rw [hp] at this; cases this
          · exact a x (by omega) hg
/-- pinned pieces -/
theorem pinned_of {f r : Int} {zs : List Int} {bl : Bool} (h : orthBd f r zs = true) (hz : zs.length ≤ 64) (hk : kingR f r zs bl = (refKing zs bl, 0)) (hK : validB f r (refKing zs bl) = true) : ofL (pinnedL f r zs bl) 0 = (pinnedR f r zs bl).1 ∧ (pinnedR f r zs bl).2 = 0 := by
  unfold pinnedR
  rw [hk]
  refine ⟨?_, rfl⟩
  show _ = pinsF cbP f r zs bl
  unfold pinsF
  rw [hk]
  obtain ⟨g1, g2⟩ := outP (f := f) (r := r) (bl := bl) (K := refKing zs bl) (occ := occR f r zs) hz zs.length
  have hb : ∀ x ∈ pinnedL f r zs bl, 0 ≤ x ∧ x < 64 := fun x hx => by
    have := mem_sideL.1 (List.mem_filter.1 hx).1
    omega
  obtain ⟨h3, h4⟩ := ofL_bt _ 0 hb uk_0
  refine uk_ext h3 g1 fun m _ => ?_
  rw [h4, bt_0, Bool.false_or, Bool.eq_iff_iff, decide_eq_true_eq, g2]
  unfold pinnedL
  rw [List.mem_filter, mem_sideL]
  unfold pinC4
  rw [decide_eq_true_eq]
  constructor
  · rintro ⟨⟨a1, a2, a3⟩, a4⟩
    have hp : isP (zs.getD (m : Int).toNat 0) bl = true := by rw [isP_sgn, decide_eq_true_eq]; exact a3
    rcases pinner_iff h hz hK a1 a2 hp with ⟨b1, _⟩ | b
    · omega
    · have hx : ((pinnerR f r zs m).toNat : Int) = pinnerR f r zs m := by have := b.1; omega
      refine ⟨(pinnerR f r zs m).toNat, by have := b.2.1; omega, by omega, ?_⟩
      rw [hx]
      exact (good_iff h hz hK b.1 b.2.1 a1 a2).2 ⟨b, hp⟩
  · rintro ⟨x, a1, a2, a3⟩
    obtain ⟨b1, b2⟩ := (good_iff h hz hK (by omega) (by omega) (by omega) (by omega)).1 a3
    have hp := b2
    rw [isP_sgn, decide_eq_true_eq] at b2
    refine ⟨⟨by omega, by omega, b2⟩, ?_⟩
    rcases pinner_iff h hz hK (by omega) (by omega) hp with ⟨_, c⟩ | c
    · exact absurd b1 (c x)
    · exact c.1
/-- the pin line -/
theorem line_of {f r : Int} {zs : List Int} {bl : Bool} {j : Int} (h : orthBd f r zs = true) (hz : zs.length ≤ 64) (hk : kingR f r zs bl = (refKing zs bl, 0)) (hK : validB f r (refKing zs bl) = true) (hj0 : 0 ≤ j) (hj1 : j < zs.length) (hjp : isP (zs.getD j.toNat 0) bl = true) :
    (pinnerR f r zs j < 0 ∧ pinLineR f r zs j = (0, 9)) ∨ (0 ≤ pinnerR f r zs j ∧ pinLineR f r zs j = (ofL (lineL f r zs j) 0, 0)) := by
  obtain ⟨e1, e2⟩ := isP_lt hjp
  have hjv := (sq_iff h).2 ⟨hj0, hj1⟩
  have hjn : ((j.toNat : Nat) : Int) = j := by omega
  have hps : pinsF (cbL j) f r zs bl = foldN (pinOut (cbL (j.toNat : Nat)) f r zs bl (refKing zs bl) (occR f r zs)) 0 zs.length := by unfold pinsF; rw [hk, hjn]
  have hR : pinLineR f r zs j = bif decide (pinsF (cbL j) f r zs bl = 0) then (0, 9) else (pinsF (cbL j) f r zs bl, 0) := by
    unfold pinLineR
    rw [h, hjv, decide_eq_false (isP_nz hjp), e1, hk]; rfl
  have hgood : ∀ x : Nat, x < zs.length → (PGood f r zs bl (refKing zs bl) (occR f r zs) x (j.toNat : Nat) ↔ Pins f r zs bl (refKing zs bl) x j) := fun x hx => by
    rw [hjn, good_iff h hz hK (by omega) (by omega) hj0 hj1]
    exact ⟨fun a => a.1, fun a => ⟨a, hjp⟩⟩
  rw [hR, hps]
  rcases outLn (f := f) (r := r) (bl := bl) (K := refKing zs bl) (occ := occR f r zs) (j := j.toNat) (zs := zs) (by omega) zs.length with ⟨x, x1, x2, x3⟩ | ⟨x1, x2⟩
  · right
    have hp := (hgood x x1).1 x2
    have hpr : pinnerR f r zs j = x := by
      rcases pinner_iff h hz hK hj0 hj1 hjp with ⟨_, c⟩ | c
      · exact absurd hp (c x)
      · exact pins_unique h hK c hp
    obtain ⟨v1, _, l1, _, _, _⟩ := pins_line h hK hp
    have hxl := valid_lt v1
    rw [x3, hjn]
    obtain ⟨b1, b2⟩ := betw_bt v1 hK l1
    have hu : Uk (pinLn f r (refKing zs bl) x j) := uk_or _ _
    have hbits : ∀ m : Nat, bt (pinLn f r (refKing zs bl) x j) m = ((decide ((m : Int) ∈ betwL f r x (refKing zs bl)) && !decide (j = m)) || decide ((x : Int) = m)) := fun m => by
      unfold pinLn
      rw [bt_or (uk_andn _ _) (uk_shl _ _), bt_andn b1 (uk_shl _ _), b2, bt_shl hj0 (by omega), bt_shl (by omega) (by omega)]
    have hne : pinLn f r (refKing zs bl) x j ≠ 0 := fun he => by
      have := hbits x
      rw [he, bt_0] at this
      simp at this
    rw [decide_eq_false hne, cond_false, hpr]
    refine ⟨by omega, ?_⟩
    congr 1
    have hb : ∀ y ∈ lineL f r zs j, 0 ≤ y ∧ y < 64 := fun y hy => by have := mem_filtB.1 hy; omega
    obtain ⟨h3, h4⟩ := ofL_bt _ 0 hb uk_0
    refine uk_ext hu h3 fun m _ => ?_
    rw [hbits, h4, bt_0, Bool.false_or, Bool.eq_iff_iff]
    unfold lineL
    simp only [Bool.or_eq_true, Bool.and_eq_true, Bool.not_eq_true', decide_eq_true_eq, decide_eq_false_iff_not, mem_filtB]
    unfold lineC
    have hkk : pinnerK zs j = refKing zs bl := by unfold pinnerK; rw [e1]
    rw [hpr, hkk]
    simp only [Bool.or_eq_true, Bool.and_eq_true, Bool.not_eq_true', decide_eq_true_eq, decide_eq_false_iff_not, has_mem]
    rw [betw_symm v1 hK]
    constructor
    · rintro (⟨a, b⟩ | a)
      · have := (sq_iff h).1 ((betwL_bd hK).2 _ a)
        exact ⟨by omega, by omega, .inr ⟨a, by omega⟩⟩
      · exact ⟨by omega, by omega, .inl (by omega)⟩
    · rintro ⟨_, _, a | ⟨a, b⟩⟩
      · exact .inr (by omega)
      · exact .inl ⟨a, by omega⟩
  · left
    have hpr : pinnerR f r zs j = -1 := by
      rcases pinner_iff h hz hK hj0 hj1 hjp with ⟨c, _⟩ | c
      · exact c
      · exfalso
        have hx : ((pinnerR f r zs j).toNat : Int) = pinnerR f r zs j := by have := c.1; omega
        refine x1 (pinnerR f r zs j).toNat (by have := c.2.1; omega) ((hgood _ (by have := c.2.1; omega)).2 ?_)
        rw [hx]; exact c
    rw [hpr, x2]
    exact ⟨by omega, rfl⟩
end Go.Ab
