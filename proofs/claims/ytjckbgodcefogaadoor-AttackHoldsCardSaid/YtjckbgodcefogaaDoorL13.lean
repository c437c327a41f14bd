/- Contracts of the functions that the laws reach, and plain laws of what they compute (text L13); no condition. -/
import Derived.Test.YtjckbgodcefogaaDoorL12
namespace Go.Ab
open Go.Proofs
theorem list_more {s t : Int} {x : Nat} (hs : Uk s) (ht : Uk t) (hx : bt s x = false) (hx2 : x < 64) (hb : ∀ m : Nat, bt t m = (bt s m || decide (m = x))) : ∀ k : Nat, k ≤ 64 → (listB t k).length = (listB s k).length + if x < k then 1 else 0
  | 0, _ => by simp [listB]
  | k + 1, hk => by
    have ih := list_more hs ht hx hx2 hb k (by omega)
    rw [listB_succ, listB_succ, has_bt hs, has_bt ht, decide_eq_true (show (0 : Int) ≤ k by omega), decide_eq_true (show (k : Int) < 64 by omega), Int.toNat_natCast, hb]
    simp only [Bool.true_and]
    by_cases e : k = x
    · subst e
      rw [hx]
      simp only [Bool.false_or, decide_true, cond_true, cond_false, List.length_append, List.length_singleton, ih]
      simp
    · rw [decide_eq_false e, Bool.or_false]
      have hlt : (if x < k + 1 then 1 else 0) = if x < k then 1 else 0 := by split <;> split <;> omega
      rw [hlt]
      cases bt s k <;> simp [ih] <;> omega
section
variable {f r : Int} {zs : List Int} {bl : Bool} {K j : Int}
/-- one piece more gives check, and what it is -/
theorem Pos.more (p : Pos f r zs bl K j) (h : ¬ pinnerR f r zs j < 0) : ∃ x : Nat, x < 64 ∧ Pins f r zs bl K x j ∧ bt (attR f r zs K (!bl)) x = false ∧ (∀ m : Nat, bt (attR f r (zs.set j.toNat 0) K (!bl)) m = (bt (attR f r zs K (!bl)) m || decide (m = x))) ∧ pinLineR f r zs j = (ofL (lineL f r zs j) 0, 0) ∧ pinnerR f r zs j = x := by
  obtain ⟨a1, b1, a2, b2⟩ := p.ab
  rcases p.pin with ⟨c, _⟩ | c
  · omega
  · have hz := p.z
    have hx : ((pinnerR f r zs j).toNat : Int) = pinnerR f r zs j := by have := c.1; omega
    have hn := (p.new _).2 c
    refine ⟨(pinnerR f r zs j).toNat, by have := c.2.1; omega, by rw [hx]; exact c, by rw [a2, hx]; exact decide_eq_false hn.2, fun m => ?_, ?_, hx.symm⟩
    · rw [a2, b2, Bool.eq_iff_iff, Bool.or_eq_true, decide_eq_true_eq, decide_eq_true_eq, decide_eq_true_eq]
      constructor
      · intro hm
        by_cases hm2 : (m : Int) ∈ attL f r zs K (!bl)
        · exact .inl hm2
        · right
          have := pins_unique p.o p.kv ((p.new m).1 ⟨hm, hm2⟩) c
          omega
      · rintro (hm | hm)
        · exact p.sub hm
        · subst hm; rw [hx]; exact hn.1
    · rcases line_of (bl := bl) p.o p.z (by rw [p.k]; exact p.kr) (by rw [p.k]; exact p.kv) p.j0 p.j1 p.jp with ⟨e, _⟩ | ⟨_, e⟩
      · exact absurd e h
      · exact e
theorem Pos.many (p : Pos f r zs bl K j) (h : ¬ pinnerR f r zs j < 0) : ((listB (attR f r (zs.set j.toNat 0) K (!bl)) 64).length : Int) = IntKind.i64.wrap ((listB (attR f r zs K (!bl)) 64).length + 1) := by
  obtain ⟨a1, b1, _, _⟩ := p.ab
  obtain ⟨x, x1, _, x3, x4, _⟩ := p.more h
  have := list_more a1 b1 x3 x1 x4 64 (Nat.le_refl _)
  have hl := listB_len (attR f r zs K (!bl)) 64
  rw [this, if_pos x1, w64_id (by omega) (by omega)]
  omega
theorem Pos.onLine (p : Pos f r zs bl K j) (h : ¬ pinnerR f r zs j < 0) : uandn (uandn (attR f r (zs.set j.toNat 0) K (!bl)) (attR f r zs K (!bl))) (pinLineR f r zs j).1 = 0 := by
  obtain ⟨a1, b1, a2, b2⟩ := p.ab
  obtain ⟨x, x1, x2, x3, x4, x5, x6⟩ := p.more h
  have hb : ∀ y ∈ lineL f r zs j, 0 ≤ y ∧ y < 64 := fun y hy => by have := mem_filtB.1 hy; have := p.z; omega
  obtain ⟨h3, h4⟩ := ofL_bt _ 0 hb uk_0
  rw [x5, uk_eq_0 (uk_andn _ _)]
  intro m _
  show bt (uandn (uandn _ _) (ofL (lineL f r zs j) 0)) m = false
  rw [bt_andn (uk_andn _ _) h3, bt_andn b1 a1, x4, h4, bt_0, Bool.false_or]
  by_cases e : m = x
  · subst e
    have : (m : Int) ∈ lineL f r zs j := by
      unfold lineL
      rw [mem_filtB]
      refine ⟨by omega, x2.2.1, ?_⟩
      unfold lineC
      rw [x6]; simp
    rw [decide_eq_true this]; simp
  · rw [decide_eq_false e]
    cases bt (attR f r zs K (!bl)) m <;> simp
/-- the squares of the line -/
theorem Pos.line (p : Pos f r zs bl K j) (h : ¬ pinnerR f r zs j < 0) {to : Int} (ht : to ∈ listB (pinLineR f r zs j).1 64) : validB f r to = true ∧ (to = pinnerR f r zs j ∨ (to ∈ betwL f r (pinnerR f r zs j) K ∧ to ≠ j)) := by
  obtain ⟨x, x1, x2, x3, x4, x5, x6⟩ := p.more h
  have hb : ∀ y ∈ lineL f r zs j, 0 ≤ y ∧ y < 64 := fun y hy => by have := mem_filtB.1 hy; have := p.z; omega
  obtain ⟨h3, h4⟩ := ofL_bt _ 0 hb uk_0
  rw [x5] at ht
  obtain ⟨t1, t2, t3⟩ := mem_listB.1 ht
  rw [has_bt h3, h4, bt_0, Bool.false_or] at t3
  simp only [Bool.and_eq_true, decide_eq_true_eq] at t3
  have ht2 := t3.2
  rw [show ((to.toNat : Nat) : Int) = to by omega] at ht2
  unfold lineL at ht2
  obtain ⟨u1, u2, u3⟩ := mem_filtB.1 ht2
  refine ⟨(sq_iff p.o).2 ⟨u1, u2⟩, ?_⟩
  unfold lineC at u3
  have hkk : pinnerK zs j = K := by unfold pinnerK; rw [(isP_lt p.jp).1]; exact p.k
  rw [hkk] at u3
  simp only [Bool.or_eq_true, Bool.and_eq_true, Bool.not_eq_true', decide_eq_true_eq, decide_eq_false_iff_not, has_mem] at u3
  rcases u3 with u3 | u3
  · exact .inl u3
  · right
    have hx := (pins_line p.o p.kv (x6 ▸ x2)).1
    exact ⟨(betw_symm p.kv hx to).1 u3.1, u3.2⟩
theorem Pos.put (p : Pos f r zs bl K j) (h : ¬ pinnerR f r zs j < 0) {to : Int} (ht : to ∈ listB (pinLineR f r zs j).1 64) : orthBd f r ((zs.set j.toNat 0).set to.toNat (zs.getD j.toNat 0)) = true ∧ kingR f r ((zs.set j.toNat 0).set to.toNat (zs.getD j.toNat 0)) bl = (K, 0) := by
  obtain ⟨ho, hl, _⟩ := p.set
  obtain ⟨hv, hc⟩ := p.line h ht
  have htl := (sq_iff p.o).1 hv
  have hb := piece_bd p.o p.j0 p.j1
  have ho2 := orth_set (j := to) (v := zs.getD j.toNat 0) ho hb
  have hl2 : ((zs.set j.toNat 0).set to.toNat (zs.getD j.toNat 0)).length ≤ 64 := by rw [List.length_set]; exact hl
  have hK := (sq_iff p.o).1 p.kv
  have hpk : zs.getD j.toNat 0 ≠ kgP bl := fun e => by
    have := p.ku j.toNat (by have := p.j1; have := p.j0; omega) e
    have := p.jk
    have := p.j0
    omega
  have hto : to ≠ K := by
    rintro rfl
    rcases p.pin with ⟨c, _⟩ | c
    · omega
    · rcases hc with hc | hc
      · have := c.2.2.1.1
        rw [← hc, p.kp] at this
        cases bl <;> simp [kgP, isP] at this
      · obtain ⟨v1, _, l1, _, _, _⟩ := pins_line p.o p.kv c
        obtain ⟨i, k, d, e, u, a1, a2, a3, a4, a5, a6, a7⟩ := ((mem_betw v1 p.kv p.kv).1 hc.1).2
        rcases unit_cases u with ⟨rfl, rfl⟩ | ⟨rfl, rfl⟩ | ⟨rfl, rfl⟩ | ⟨rfl, rfl⟩ | ⟨rfl, rfl⟩ | ⟨rfl, rfl⟩ | ⟨rfl, rfl⟩ | ⟨rfl, rfl⟩ <;> omega
  have hget : ∀ i : Nat, i < zs.length → ((zs.set j.toNat 0).set to.toNat (zs.getD j.toNat 0)).getD i 0 = if (i : Int) = to then zs.getD j.toNat 0 else if (i : Int) = j then 0 else zs.getD i 0 := by
    intro i hi
    have g1 := getD_set (zs := zs.set j.toNat 0) (v := zs.getD j.toNat 0) htl.1 (show (0 : Int) ≤ i by omega) (by rw [List.length_set]; omega)
    have g2 := getD_set (zs := zs) (v := 0) p.j0 (show (0 : Int) ≤ i by omega) (by omega)
    rw [Int.toNat_natCast] at g1 g2
    rw [g1, g2]
  refine ⟨ho2, (king_of ho2 hl2 hK.1 (by rw [List.length_set, List.length_set]; exact hK.2) ?_ fun i hi he => ?_).2⟩
  · rw [hget K.toNat (by omega), if_neg (by omega), if_neg (by have := p.jk; omega)]; exact p.kp
  · rw [List.length_set, List.length_set] at hi
    rw [hget i hi] at he
    split at he
    · exact absurd he hpk
    · split at he
      · exact absurd he.symm (kg_nz bl)
      · exact p.ku i hi he
theorem Pos.shut (p : Pos f r zs bl K j) (h : ¬ pinnerR f r zs j < 0) {to : Int} (ht : to ∈ listB (pinLineR f r zs j).1 64) (hb : bt (attR f r (zs.set j.toNat 0) K (!bl)) to.toNat = false) :
    uand (attR f r ((zs.set j.toNat 0).set to.toNat (zs.getD j.toNat 0)) K (!bl)) (uandn (attR f r (zs.set j.toNat 0) K (!bl)) (attR f r zs K (!bl))) = 0 := by
  obtain ⟨a1, b1, a2, b2⟩ := p.ab
  obtain ⟨ho, hl, _⟩ := p.set
  obtain ⟨ho2, _⟩ := p.put h ht
  have hl2 : ((zs.set j.toNat 0).set to.toNat (zs.getD j.toNat 0)).length ≤ 64 := by rw [List.length_set]; exact hl
  obtain ⟨x, x1, x2, x3, x4, x5, x6⟩ := p.more h
  obtain ⟨hv, hc⟩ := p.line h ht
  have htl := (sq_iff p.o).1 hv
  obtain ⟨t1, t2⟩ := attR_bt (bl := !bl) ho2 hl2 p.kv
  obtain ⟨q1, q2⟩ := occ_bt (orth_valid ho2).2.2.1 hl2
  rw [uk_eq_0 (uk_and _ _)]
  intro m _
  rw [bt_and t1 (uk_andn _ _), bt_andn b1 a1, x4, t2]
  by_cases e : m = x
  · subst e
    have hne : to ≠ (m : Int) := by
      rintro rfl
      rw [Int.toNat_natCast, x4] at hb
      simp at hb
    rw [x6] at hc
    rcases hc with hc | hc
    · exact absurd hc hne
    · have hnm : (m : Int) ∉ attL f r ((zs.set j.toNat 0).set to.toNat (zs.getD j.toNat 0)) K (!bl) := by
        intro hm
        rw [mem_attL, occ_eq (orth_valid ho2).2.2.1 hl2] at hm
        obtain ⟨_, _, _, h4⟩ := hm
        have hmj : (m : Int) ≠ j := by
          rintro e2
          have h5 := x2.2.2.1.1
          have h6 := p.jp
          rw [e2] at h5
          rw [isP_sgn, decide_eq_true_eq] at h5 h6
          cases bl <;> simp [sdI] at h5 h6 <;> omega
        have g1 := getD_set (zs := zs.set j.toNat 0) (v := zs.getD j.toNat 0) htl.1 (show (0 : Int) ≤ m by omega) (by rw [List.length_set]; exact x2.2.1)
        have g2 := getD_set (zs := zs) (v := 0) p.j0 (show (0 : Int) ≤ m by omega) x2.2.1
        rw [if_neg (fun h => hne h.symm)] at g1
        rw [if_neg hmj] at g2
        unfold attB4 at h4
        rw [g1, g2] at h4
        have hbd := piece_bd p.o (show (0 : Int) ≤ m by omega) x2.2.1
        obtain ⟨l1, l2, l3, l4⟩ := x2.2.2.1
        rw [kind_abs hbd, decide_eq_false (by omega), cond_false, Bool.and_eq_true] at h4
        have hr := (reaches_line (f := f) (r := r) (x := (m : Int)) (K := K) (occ := occR f r ((zs.set j.toNat 0).set to.toNat (zs.getD j.toNat 0))) (kd := ((zs.getD (m : Int).toNat 0).natAbs : Int)) (by omega) (by omega)).1
        rw [hr, Bool.and_eq_true] at h4
        have := free_iff.1 h4.2.2 to hc.1
        rw [has_bt' q1 hv, q2, List.length_set, List.length_set] at this
        have g3 := getD_set (zs := zs.set j.toNat 0) (v := zs.getD j.toNat 0) htl.1 htl.1 (by rw [List.length_set]; exact htl.2)
        rw [g3, if_pos rfl, decide_eq_true (show to.toNat < zs.length by omega), decide_eq_false (isP_nz p.jp)] at this
        simp at this
      rw [decide_eq_false hnm]; rfl
  · rw [decide_eq_false e]
    cases bt (attR f r zs K (!bl)) m <;> simp
end
end Go.Ab
