/- Contracts of the functions that the laws reach, and plain laws of what they compute (text L12); no condition. -/
import Derived.Test.YtjckbgodcefogaaDoorL11
namespace Go.Ab
open Go.Proofs
/-! ### the theorem of attack -/
theorem att_iff {f r : Int} {zs : List Int} {a : Int} {bl : Bool} (h : orthBd f r zs = true) (hz : zs.length ≤ 64) (ha : validB f r a = true) : (!decide (attR f r zs a bl = 0)) = decide (uand (ushr (atdR f r zs bl) a) 1 = 1) := by
  obtain ⟨h1, h2⟩ := attR_bt (bl := bl) h hz ha
  obtain ⟨h3, h4⟩ := atdR_bt (bl := bl) h hz
  have hl := valid_lt ha
  have hs := (sq_iff h).1 ha
  rw [bit_of h3 hl.1 hl.2.2, h4 _ (by omega), show ((a.toNat : Nat) : Int) = a by omega, Bool.eq_iff_iff, Bool.not_eq_true', decide_eq_false_iff_not, decide_eq_true_eq]
  unfold atdL
  rw [mem_filtB]
  unfold atdC
  rw [decide_eq_true_eq, uk_eq_0 h1]
  constructor
  · intro hn
    obtain ⟨m, hm⟩ := Classical.not_forall.1 hn
    obtain ⟨hm1, hm2⟩ := Classical.not_imp.1 hm
    rw [h2, Bool.not_eq_false, decide_eq_true_eq] at hm2
    have := List.length_pos_of_mem hm2
    exact ⟨hs.1, hs.2, by omega⟩
  · rintro ⟨_, _, h5⟩ hn
    obtain ⟨i, hi⟩ := List.exists_mem_of_length_pos (l := attL f r zs a bl) (by omega)
    have hb := attL_bd (f := f) (r := r) (to := a) (bl := bl) hz i hi
    have := hn i.toNat (by omega)
    rw [h2, show ((i.toNat : Nat) : Int) = i by omega, decide_eq_true hi] at this
    cases this
theorem king_of {f r : Int} {zs : List Int} {bl : Bool} {K : Int} (h : orthBd f r zs = true) (hz : zs.length ≤ 64) (h0 : 0 ≤ K) (h1 : K < zs.length) (hk : zs.getD K.toNat 0 = kgP bl) (hu : ∀ i : Nat, i < zs.length → zs.getD i 0 = kgP bl → (i : Int) = K) : refKing zs bl = K ∧ kingR f r zs bl = (K, 0) := by
  have e : refKing zs bl = K := by
    unfold refKing
    rw [kg_eq]
    have : listL zs (kgP bl) = [((K.toNat : Nat) : Int)] := filt_one (a := K.toNat) (by simp only [listC, Int.toNat_natCast, decide_eq_true_eq]; exact hk) _ (by omega) fun i hi hc => by
      simp only [listC, Int.toNat_natCast, decide_eq_true_eq] at hc
      have := hu i hi hc
      omega
    rw [this]
    simp
    omega
  refine ⟨e, ?_⟩
  rcases king_iff (bl := bl) h hz with ⟨a, _⟩ | ⟨a, _⟩
  · omega
  · rw [a, e]
structure Pos (f r : Int) (zs : List Int) (bl : Bool) (K j : Int) : Prop where
  o : orthBd f r zs = true
  z : zs.length ≤ 64
  kr : kingR f r zs bl = (K, 0)
  k : refKing zs bl = K
  kv : validB f r K = true
  kp : zs.getD K.toNat 0 = kgP bl
  ku : ∀ i : Nat, i < zs.length → zs.getD i 0 = kgP bl → (i : Int) = K
  j0 : 0 ≤ j
  j1 : j < zs.length
  jp : isP (zs.getD j.toNat 0) bl = true
  jk : K ≠ j
theorem pos_mk {f r : Int} {zs : List Int} {j : Int} (h : orthBd f r zs = true) (hz : zs.length ≤ 64) (hj : validB f r j = true) (hc : (decide (zs.getD j.toNat 0 = 0) || !decide ((kingR f r zs (decide (zs.getD j.toNat 0 < 0))).2 = 0) || decide ((kingR f r zs (decide (zs.getD j.toNat 0 < 0))).1 = j)) = false) : ∃ K, Pos f r zs (decide (zs.getD j.toNat 0 < 0)) K j := by
  simp only [Bool.or_eq_false_iff, Bool.not_eq_false', decide_eq_false_iff_not, decide_eq_true_eq] at hc
  obtain ⟨⟨c1, c2⟩, c3⟩ := hc
  obtain ⟨j0, j1⟩ := (sq_iff h).1 hj
  have his : isP (zs.getD j.toNat 0) (decide (zs.getD j.toNat 0 < 0)) = true := by
    unfold isP
    by_cases hn : zs.getD j.toNat 0 < 0
    · rw [decide_eq_true hn]; rfl
    · rw [decide_eq_false hn, decide_eq_true (show 0 < zs.getD j.toNat 0 by omega)]; rfl
  rcases king_iff (bl := decide (zs.getD j.toNat 0 < 0)) h hz with ⟨_, e⟩ | ⟨e, ev, _⟩
  · rw [e] at c2; cases c2
  · rcases king_ref zs (decide (zs.getD j.toNat 0 < 0)) hz with ⟨_, g⟩ | ⟨_, g2, g3, g4, g5, g6⟩
    · have := (valid_lt ev).1; omega
    · refine ⟨refKing zs (decide (zs.getD j.toNat 0 < 0)), h, hz, e, rfl, ev, by rw [g2]; exact g5, fun i hi he => by rw [g2]; exact g6 i hi he, j0, j1, his, fun e2 => c3 ?_⟩
      rw [e]; exact e2
section
variable {f r : Int} {zs : List Int} {bl : Bool} {K j : Int}
theorem kg_nz (bl : Bool) : kgP bl ≠ 0 := by cases bl <;> decide
theorem Pos.set (p : Pos f r zs bl K j) : orthBd f r (zs.set j.toNat 0) = true ∧ (zs.set j.toNat 0).length ≤ 64 ∧ kingR f r (zs.set j.toNat 0) bl = (K, 0) := by
  have ho := orth_set (j := j) (v := 0) p.o (by omega)
  have hl : (zs.set j.toNat 0).length ≤ 64 := by rw [List.length_set]; exact p.z
  have hK := (sq_iff p.o).1 p.kv
  refine ⟨ho, hl, (king_of ho hl hK.1 (by rw [List.length_set]; exact hK.2) ?_ fun i hi he => ?_).2⟩
  · rw [getD_set p.j0 hK.1 hK.2, if_neg p.jk]; exact p.kp
  · rw [List.length_set] at hi
    have hg := getD_set (zs := zs) (v := 0) p.j0 (show (0 : Int) ≤ i by omega) (by omega)
    rw [Int.toNat_natCast] at hg
    rw [hg] at he
    split at he
    · exact absurd he.symm (kg_nz bl)
    · exact p.ku i hi he
theorem Pos.sub (p : Pos f r zs bl K j) {x : Int} (hx : x ∈ attL f r zs K (!bl)) : x ∈ attL f r (zs.set j.toNat 0) K (!bl) := by
  obtain ⟨ho, hl, _⟩ := p.set
  obtain ⟨o1, o2⟩ := occ_bt (orth_valid p.o).2.2.1 p.z
  obtain ⟨q1, q2⟩ := occ_bt (orth_valid ho).2.2.1 hl
  rw [mem_attL] at hx ⊢
  rw [occ_eq (orth_valid p.o).2.2.1 p.z] at hx
  rw [occ_eq (orth_valid ho).2.2.1 hl, List.length_set]
  obtain ⟨h0, h1, h2, h3⟩ := hx
  have hne : x ≠ j := by
    rintro rfl
    have := p.jp
    rw [isP_sgn, decide_eq_true_eq] at h2 this
    cases bl <;> simp [sdI] at h2 this <;> omega
  refine ⟨h0, h1, by rw [isP_set p.j0 h0 h1, decide_eq_false hne]; exact h2, ?_⟩
  unfold attB4 at h3 ⊢
  rw [getD_set p.j0 h0 h1, if_neg hne]
  cases hk : decide (kind8 (zs.getD x.toNat 0) = 1) with
  | true => rw [hk] at h3; exact h3
  | false =>
    rw [hk] at h3
    simp only [cond_false, Bool.and_eq_true] at h3 ⊢
    refine ⟨h3.1, reaches_mono q1 o1 (fun m hm => ?_) h3.2⟩
    rw [q2, List.length_set, Bool.and_eq_true, decide_eq_true_eq] at hm
    have hg := getD_set (zs := zs) (v := 0) p.j0 (show (0 : Int) ≤ m by omega) (by omega)
    rw [Int.toNat_natCast] at hg
    rw [hg] at hm
    rw [o2, decide_eq_true hm.1, Bool.true_and]
    split at hm
    · simp at hm
    · exact hm.2
theorem Pos.new (p : Pos f r zs bl K j) (x : Int) : (x ∈ attL f r (zs.set j.toNat 0) K (!bl) ∧ x ∉ attL f r zs K (!bl)) ↔ Pins f r zs bl K x j := new_iff p.o p.z p.kv p.j0 p.j1 p.jp
theorem Pos.ab (p : Pos f r zs bl K j) : Uk (attR f r zs K (!bl)) ∧ Uk (attR f r (zs.set j.toNat 0) K (!bl)) ∧ (∀ m : Nat, bt (attR f r zs K (!bl)) m = decide ((m : Int) ∈ attL f r zs K (!bl))) ∧ ∀ m : Nat, bt (attR f r (zs.set j.toNat 0) K (!bl)) m = decide ((m : Int) ∈ attL f r (zs.set j.toNat 0) K (!bl)) := by
  obtain ⟨ho, hl, _⟩ := p.set
  obtain ⟨a1, a2⟩ := attR_bt (bl := !bl) p.o p.z p.kv
  obtain ⟨b1, b2⟩ := attR_bt (bl := !bl) ho hl p.kv
  exact ⟨a1, b1, a2, b2⟩
theorem Pos.less (p : Pos f r zs bl K j) : uandn (attR f r zs K (!bl)) (attR f r (zs.set j.toNat 0) K (!bl)) = 0 := by
  obtain ⟨a1, b1, a2, b2⟩ := p.ab
  rw [uk_eq_0 (uk_andn _ _)]
  intro m _
  rw [bt_andn a1 b1, a2, b2]
  by_cases hm : (m : Int) ∈ attL f r zs K (!bl)
  · rw [decide_eq_true (p.sub hm)]; simp
  · rw [decide_eq_false hm]; rfl
theorem Pos.pin (p : Pos f r zs bl K j) : (pinnerR f r zs j = -1 ∧ ∀ x, ¬ Pins f r zs bl K x j) ∨ Pins f r zs bl K (pinnerR f r zs j) j := by
  have := pinner_iff p.o p.z (by rw [p.k]; exact p.kv) p.j0 p.j1 p.jp
  rwa [p.k] at this
theorem Pos.bit (p : Pos f r zs bl K j) : decide (uand (ushr (pinnedR f r zs bl).1 j) 1 = 0) = decide (pinnerR f r zs j < 0) := by
  obtain ⟨e, _⟩ := pinned_of p.o p.z (by rw [p.k]; exact p.kr) (by rw [p.k]; exact p.kv)
  have hb : ∀ x ∈ pinnedL f r zs bl, 0 ≤ x ∧ x < 64 := fun x hx => by
    have := mem_sideL.1 (List.mem_filter.1 hx).1
    have := p.z
    omega
  obtain ⟨h3, h4⟩ := ofL_bt _ 0 hb uk_0
  have hz := p.z
  have hj1 := p.j1
  have hj0 := p.j0
  rw [← e, bit_of0 h3 p.j0 (by omega), h4, bt_0, Bool.false_or, show ((j.toNat : Nat) : Int) = j by omega]
  unfold pinnedL
  have his := p.jp
  rw [isP_sgn, decide_eq_true_eq] at his
  rw [Bool.eq_iff_iff, Bool.not_eq_true', decide_eq_false_iff_not, decide_eq_true_eq, List.mem_filter, mem_sideL]
  unfold pinC4
  rw [decide_eq_true_eq]
  constructor
  · intro hn
    apply Classical.byContradiction
    intro h5
    exact hn ⟨⟨hj0, hj1, his⟩, by omega⟩
  · rintro h5 ⟨_, h6⟩; omega
theorem Pos.same (p : Pos f r zs bl K j) (h : pinnerR f r zs j < 0) : attR f r (zs.set j.toNat 0) K (!bl) = attR f r zs K (!bl) := by
  obtain ⟨a1, b1, a2, b2⟩ := p.ab
  refine uk_ext b1 a1 fun m _ => ?_
  rw [a2, b2, Bool.eq_iff_iff, decide_eq_true_eq, decide_eq_true_eq]
  refine ⟨fun hm => ?_, p.sub⟩
  rcases p.pin with ⟨_, c⟩ | c
  · apply Classical.byContradiction
    intro hn
    exact c m ((p.new m).1 ⟨hm, hn⟩)
  · have := c.1; omega
end
end Go.Ab
