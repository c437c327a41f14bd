/- Contracts of the functions that the laws reach, and plain laws of what they compute (text F4); no condition. -/
import Derived.Test.YtjckbgodcefogaaDoorF3
namespace Go.Ab
open Go.Proofs
/-! ### plain laws of attack -/
theorem foldN_bt (c : Int → Bool) (n : Nat) (hn : n ≤ 64) : Uk (foldN (fun s i => bif c i then uor s (ushl 1 i) else s) 0 n) ∧ ∀ m : Nat, bt (foldN (fun s i => bif c i then uor s (ushl 1 i) else s) 0 n) m = (decide (m < n) && c m) := by
  induction n with
  | zero => exact ⟨uk_0, fun m => by simp [foldN, bt_0]⟩
  | succ n ih =>
    obtain ⟨h1, h2⟩ := ih (by omega)
    simp only [foldN]
    cases hc : c n with
    | false =>
      refine ⟨h1, fun m => ?_⟩
      rw [cond_false, h2]
      by_cases e : m = n
      · subst e; simp [hc]
      · congr 1
        simp; omega
    | true =>
      refine ⟨uk_or _ _, fun m => ?_⟩
      rw [cond_true, bt_or h1 (uk_shl _ _), bt_shl (by omega) (by omega), h2]
      by_cases e : m = n
      · subst e; simp [hc]
      · have e2 : ¬ ((n : Int) = m) := by omega
        have e3 : decide (m < n) = decide (m < n + 1) := by congr 1; exact propext ⟨fun h => by omega, fun h => by omega⟩
        simp [e2, e3]
theorem getD_mem {zs : List Int} {i : Nat} (h : i < zs.length) : zs.getD i 0 ∈ zs := by simp [List.getD, h]
theorem where_bt (p : Int → Bool) {zs : List Int} (h : zs.length ≤ 64) : Uk (whereR p zs) ∧ ∀ m : Nat, bt (whereR p zs) m = (decide (m < zs.length) && p (zs.getD m 0)) := by
  have := foldN_bt (fun i => p (zs.getD i.toNat 0)) zs.length h
  exact this
theorem occ_bt {f r : Int} {zs : List Int} (h : validBd f r zs = true) (hl : zs.length ≤ 64) : Uk (occR f r zs) ∧ ∀ m : Nat, bt (occR f r zs) m = (decide (m < zs.length) && !decide (zs.getD m 0 = 0)) := by
  obtain ⟨h1, h2⟩ := where_bt posP hl
  obtain ⟨h3, h4⟩ := where_bt negP hl
  unfold occR sidesR
  rw [h]
  refine ⟨uk_or _ _, fun m => ?_⟩
  show bt (uor (whereR posP zs) (whereR negP zs)) m = _
  rw [bt_or h1 h3, h2, h4, ← Bool.and_or_distrib_left]
  congr 1
  unfold posP negP
  rw [Bool.eq_iff_iff]
  simp only [Bool.or_eq_true, decide_eq_true_eq, Bool.not_eq_true', decide_eq_false_iff_not]
  omega
theorem sgn_pos {p : Int} : sgn p = 1 ↔ 0 < p := by have := sgn_eq p; omega
theorem sgn_neg {p : Int} : sgn p = -1 ↔ p < 0 := by have := sgn_eq p; omega
theorem occ_eq {f r : Int} {zs : List Int} (h : validBd f r zs = true) (hl : zs.length ≤ 64) : occL zs = occR f r zs := by
  obtain ⟨h1, h2⟩ := occ_bt h hl
  have hb : ∀ x ∈ sideL zs 1 ++ sideL zs (-1), 0 ≤ x ∧ x < 64 := by
    intro x hx
    rcases List.mem_append.1 hx with hx | hx <;> (have := mem_sideL.1 hx; omega)
  obtain ⟨h3, h4⟩ := ofL_bt _ 0 hb uk_0
  refine uk_ext h3 h1 fun m hm => ?_
  show bt (ofL (sideL zs 1 ++ sideL zs (-1)) 0) m = _
  rw [h4, h2, bt_0, Bool.false_or, Bool.eq_iff_iff]
  simp only [decide_eq_true_eq, List.mem_append, mem_sideL, sgn_pos, sgn_neg, Int.toNat_natCast, Bool.and_eq_true, Bool.not_eq_true', decide_eq_false_iff_not]
  omega
theorem occ_on {f r : Int} {zs : List Int} (h : orthBd f r zs = true) (hl : zs.length ≤ 64) : OnS f r (occR f r zs) := fun m _ hb => by
  rw [(occ_bt (orth_valid h).2.2.1 hl).2, Bool.and_eq_true, decide_eq_true_eq] at hb
  exact (sq_iff h).2 ⟨by omega, by omega⟩
theorem piece_bd {f r : Int} {zs : List Int} (h : orthBd f r zs = true) {i : Int} (h0 : 0 ≤ i) (h1 : i < zs.length) : -6 ≤ zs.getD i.toNat 0 ∧ zs.getD i.toNat 0 ≤ 6 := (orth_valid h).2.2.2 _ (getD_mem (by omega))
theorem kind_abs {p : Int} (h : -6 ≤ p ∧ p ≤ 6) : kind8 p = p.natAbs := by
  have hw : ∀ q : _root_.Fin 13, kind8 ((q.val : Int) - 6) = (((q.val : Int) - 6).natAbs : Int) := by decide +kernel
  have h2 := hw ⟨(p + 6).toNat, by omega⟩
  simp only at h2
  rwa [show (((p + 6).toNat : Int) - 6) = p by omega] at h2
theorem reaches_self {f r kd a occ : Int} (ha : validB f r a = true) (hk : kinds5 kd) : reachesB f r kd a a occ = false := by
  obtain ⟨e1, e2⟩ := diff_w ha ha
  have hl : (lineR f a a).2.2 = false := by
    rcases line_R ha ha with ⟨e, _⟩ | ⟨_, h⟩
    · rw [e]
    · unfold onLine at h; omega
  have hd : distR f a a = 0 := by rw [dist_2 ha ha, show px f a - px f a = 0 by omega, show py f a - py f a = 0 by omega]; rfl
  unfold reachesB
  rw [e1, e2, hl, hd, show px f a - px f a = 0 by omega, show py f a - py f a = 0 by omega]
  rcases hk with rfl | rfl | rfl | rfl | rfl <;> rfl
/-- the squares of one piece -/
theorem of_bt {f r : Int} {zs : List Int} {occ : Int} (h : orthBd f r zs = true) (hu : Uk occ) (hon : OnS f r occ) {i : Int} (h0 : 0 ≤ i) (h1 : i < zs.length) (hp : zs.getD i.toNat 0 ≠ 0) :
    Uk (ofR f r zs i occ) ∧ OnS f r (ofR f r zs i occ) ∧ ∀ b, validB f r b = true → bt (ofR f r zs i occ) b.toNat = attB4 f r zs i b occ := by
  have hi := (sq_iff h).2 ⟨h0, h1⟩
  have hb := piece_bd h h0 h1
  obtain ⟨hv, hn, _⟩ := orth_valid h
  unfold ofR attB4
  rw [imax_abs hb, kind_abs hb]
  by_cases hk : zs.getD i.toNat 0 = 1 ∨ zs.getD i.toNat 0 = -1
  · rw [show (decide (zs.getD i.toNat 0 = 1) || decide (zs.getD i.toNat 0 = -1)) = true by simpa using hk, show decide (((zs.getD i.toNat 0).natAbs : Int) = 1) = true by rw [decide_eq_true_eq]; omega, cond_true]
    obtain ⟨_, p1, p2, p3⟩ := pawn_bt (bl := decide (zs.getD i.toNat 0 < 0)) hi
    refine ⟨p1, p2, fun b hbv => ?_⟩
    rw [p3 b hbv, cond_true, Bool.eq_iff_iff, has_mem, mem_filtB]
    have := valid_lt hbv
    exact ⟨fun h => ⟨this.1, by omega, h⟩, fun h => h.2.2⟩
  · have hk' : (decide (zs.getD i.toNat 0 = 1) || decide (zs.getD i.toNat 0 = -1)) = false := by simpa using hk
    rw [hk', show decide (((zs.getD i.toNat 0).natAbs : Int) = 1) = false by rw [decide_eq_false_iff_not]; omega, cond_false]
    have hr := (rayOn_iff hu).2 ⟨hi, hon⟩
    have h5 : kinds5 ((zs.getD i.toNat 0).natAbs : Int) := by unfold kinds5; omega
    obtain ⟨p1, p2, p3⟩ := reach_bt hr hu h5
    refine ⟨p1, p2, fun b hbv => ?_⟩
    show bt (reachS f r _ i occ) b.toNat = _
    rw [p3 b hbv, cond_false]
    by_cases e : i = b
    · subst e; rw [reaches_self hi h5]; simp
    · simp [e]
theorem isP_sgn (p : Int) (bl : Bool) : isP p bl = decide (sgn p = sdI bl) := by
  unfold isP sdI
  rw [Bool.eq_iff_iff]
  cases bl <;> simp [sgn_pos, sgn_neg]
theorem isP_nz {p : Int} {bl : Bool} (h : isP p bl = true) : p ≠ 0 := by
  rintro rfl; cases bl <;> cases h
/-- attackers as a list -/
theorem mem_attL {f r : Int} {zs : List Int} {to : Int} {bl : Bool} {i : Int} : i ∈ attL f r zs to bl ↔ 0 ≤ i ∧ i < zs.length ∧ isP (zs.getD i.toNat 0) bl = true ∧ attB4 f r zs i to (occL zs) = true := by
  unfold attL
  rw [List.mem_filter, mem_sideL, isP_sgn, decide_eq_true_eq]
  simp only [attC4, and_assoc]
theorem att_bit {f r : Int} {zs : List Int} {to : Int} {bl : Bool} (h : orthBd f r zs = true) (hl : zs.length ≤ 64) (ht : validB f r to = true) {i : Int} (h0 : 0 ≤ i) (h1 : i < zs.length) : attB f r zs to bl (occR f r zs) i = true ↔ i ∈ attL f r zs to bl := by
  rw [mem_attL]
  unfold attB
  rw [Bool.and_eq_true]
  have ho := occ_bt (orth_valid h).2.2.1 hl
  have hv := valid_lt ht
  constructor
  · rintro ⟨h2, h3⟩
    obtain ⟨p1, p2, p3⟩ := of_bt h ho.1 (occ_on h hl) h0 h1 (isP_nz h2)
    rw [bit_of p1 hv.1 hv.2.2, p3 to ht, ← occ_eq (orth_valid h).2.2.1 hl] at h3
    exact ⟨h0, h1, h2, h3⟩
  · rintro ⟨_, _, h2, h3⟩
    obtain ⟨p1, p2, p3⟩ := of_bt h ho.1 (occ_on h hl) h0 h1 (isP_nz h2)
    rw [bit_of p1 hv.1 hv.2.2, p3 to ht, ← occ_eq (orth_valid h).2.2.1 hl]
    exact ⟨h2, h3⟩
theorem attR_bt {f r : Int} {zs : List Int} {to : Int} {bl : Bool} (h : orthBd f r zs = true) (hl : zs.length ≤ 64) (ht : validB f r to = true) : Uk (attR f r zs to bl) ∧ ∀ m : Nat, bt (attR f r zs to bl) m = decide ((m : Int) ∈ attL f r zs to bl) := by
  obtain ⟨h1, h2⟩ := foldN_bt (attB f r zs to bl (occR f r zs)) zs.length hl
  refine ⟨h1, fun m => ?_⟩
  show bt (foldN (fun s i => bif attB f r zs to bl (occR f r zs) i then uor s (ushl 1 i) else s) 0 zs.length) m = _
  rw [h2, Bool.eq_iff_iff, Bool.and_eq_true, decide_eq_true_eq, decide_eq_true_eq]
  constructor
  · rintro ⟨h3, h4⟩; exact (att_bit h hl ht (by omega) (by omega)).1 h4
  · intro h3
    have := mem_attL.1 h3
    exact ⟨by omega, (att_bit h hl ht (by omega) (by omega)).2 h3⟩
theorem attL_bd {f r : Int} {zs : List Int} {to : Int} {bl : Bool} (hl : zs.length ≤ 64) : ∀ x ∈ attL f r zs to bl, 0 ≤ x ∧ x < 64 := fun x hx => by have := mem_attL.1 hx; omega
theorem attR_of {f r : Int} {zs : List Int} {to : Int} {bl : Bool} (h : orthBd f r zs = true) (hl : zs.length ≤ 64) (ht : validB f r to = true) : ofL (attL f r zs to bl) 0 = attR f r zs to bl := by
  obtain ⟨h1, h2⟩ := attR_bt (bl := bl) h hl ht
  obtain ⟨h3, h4⟩ := ofL_bt _ 0 (attL_bd (f := f) (r := r) (to := to) (bl := bl) hl) uk_0
  exact uk_ext h3 h1 fun m _ => by rw [h4, h2, bt_0, Bool.false_or]
/-- attacked squares -/
theorem foldN_or (c : Int → Bool) (g : Int → Int) : ∀ (n : Nat), (∀ i : Nat, i < n → c i = true → Uk (g i)) → Uk (foldN (fun s i => bif c i then uor s (g i) else s) 0 n) ∧ ∀ m : Nat, bt (foldN (fun s i => bif c i then uor s (g i) else s) 0 n) m = true ↔ ∃ i : Nat, i < n ∧ c i = true ∧ bt (g i) m = true
  | 0, _ => ⟨uk_0, fun m => by simp [foldN, bt_0]⟩
  | n + 1, h => by
    obtain ⟨h1, h2⟩ := foldN_or c g n (fun i hi => h i (by omega))
    simp only [foldN]
    cases hc : c n with
    | false =>
      refine ⟨h1, fun m => ?_⟩
      rw [cond_false, h2]
      constructor
      · rintro ⟨i, a, b⟩; exact ⟨i, by omega, b⟩
      · rintro ⟨i, a, b, d⟩
        have : i ≠ n := by rintro rfl; rw [hc] at b; cases b
        exact ⟨i, by omega, b, d⟩
    | true =>
      refine ⟨uk_or _ _, fun m => ?_⟩
      rw [cond_true, bt_or h1 (h n (by omega) hc), Bool.or_eq_true, h2]
      constructor
      · rintro (⟨i, a, b⟩ | a)
        · exact ⟨i, by omega, b⟩
        · exact ⟨n, by omega, hc, a⟩
      · rintro ⟨i, a, b, d⟩
        by_cases e : i = n
        · subst e; exact .inr d
        · exact .inl ⟨i, by omega, b, d⟩
theorem atdR_bt {f r : Int} {zs : List Int} {bl : Bool} (h : orthBd f r zs = true) (hl : zs.length ≤ 64) : Uk (atdR f r zs bl) ∧ ∀ m : Nat, m < 64 → bt (atdR f r zs bl) m = decide ((m : Int) ∈ atdL f r zs bl) := by
  have ho := occ_bt (orth_valid h).2.2.1 hl
  have hof : ∀ i : Nat, i < zs.length → isP (zs.getD (i : Int).toNat 0) bl = true → _ := fun i hi hp => of_bt h ho.1 (occ_on h hl) (i := (i : Int)) (by omega) (by omega) (isP_nz hp)
  obtain ⟨h1, h2⟩ := foldN_or (fun i => isP (zs.getD i.toNat 0) bl) (fun i => ofR f r zs i (occR f r zs)) zs.length (fun i hi hc => (hof i hi hc).1)
  refine ⟨h1, fun m hm => ?_⟩
  rw [Bool.eq_iff_iff, decide_eq_true_eq]
  refine (h2 m).trans ?_
  unfold atdL
  rw [mem_filtB]
  unfold atdC
  rw [decide_eq_true_eq]
  constructor
  · rintro ⟨i, hi, hp, hb⟩
    have hmv := (hof i hi hp).2.1 m hm hb
    have hml := (sq_iff h).1 hmv
    refine ⟨hml.1, hml.2, ?_⟩
    have : (i : Int) ∈ attL f r zs m bl := by
      rw [mem_attL]
      refine ⟨by omega, by omega, hp, ?_⟩
      have := (hof i hi hp).2.2 m hmv
      rw [Int.toNat_natCast] at this
      rw [occ_eq (orth_valid h).2.2.1 hl, ← this]
      exact hb
    have := List.length_pos_of_mem this
    omega
  · rintro ⟨h3, h4, h5⟩
    obtain ⟨i, hi⟩ := List.exists_mem_of_length_pos (l := attL f r zs m bl) (by omega)
    obtain ⟨a1, a2, a3, a4⟩ := mem_attL.1 hi
    have hmv := (sq_iff h).2 ⟨h3, h4⟩
    have hi' : ((i.toNat : Nat) : Int) = i := by omega
    have a3' : isP (zs.getD ((i.toNat : Nat) : Int).toNat 0) bl = true := by rw [hi']; exact a3
    refine ⟨i.toNat, by omega, a3', ?_⟩
    have := (hof i.toNat (by omega) a3').2.2 m hmv
    rw [Int.toNat_natCast, hi', ← occ_eq (orth_valid h).2.2.1 hl, a4, occ_eq (orth_valid h).2.2.1 hl] at this
    show bt (ofR f r zs ((i.toNat : Nat) : Int) (occR f r zs)) m = true
    rw [hi']; exact this
theorem atdR_of {f r : Int} {zs : List Int} {bl : Bool} (h : orthBd f r zs = true) (hl : zs.length ≤ 64) : ofL (atdL f r zs bl) 0 = atdR f r zs bl := by
  obtain ⟨h1, h2⟩ := atdR_bt (bl := bl) h hl
  have hb : ∀ x ∈ atdL f r zs bl, 0 ≤ x ∧ x < 64 := fun x hx => by have := mem_filtB.1 hx; omega
  obtain ⟨h3, h4⟩ := ofL_bt _ 0 hb uk_0
  exact uk_ext h3 h1 fun m hm => by rw [h4, h2 m hm, bt_0, Bool.false_or]
end Go.Ab

namespace Go.Ab
open Go.Proofs
/-! ### kings -/
theorem findI_spec (p : Int → Bool) : ∀ (l : List Int) (k : Int), (findI p l k = -1 ∧ ∀ i, i < l.length → p (l.getD i 0) = false) ∨ (∃ j, j < l.length ∧ findI p l k = k + (j : Nat) ∧ p (l.getD j 0) = true ∧ ∀ i, i < j → p (l.getD i 0) = false)
  | [], k => .inl ⟨rfl, fun i h => by simp at h⟩
  | x :: l, k => by
    rw [findI]
    cases hx : p x with
    | true => right; exact ⟨0, by simp, by simp, by simpa using hx, fun i h => by omega⟩
    | false =>
      rw [cond_false]
      rcases findI_spec p l (k + 1) with ⟨h1, h2⟩ | ⟨j, h1, h2, h3, h4⟩
      · left
        refine ⟨h1, fun i hi => ?_⟩
        cases i with
        | zero => simpa using hx
        | succ i => have := h2 i (by simpa using hi); simpa using this
      · right
        refine ⟨j + 1, by simpa using h1, by rw [h2]; push_cast; omega, by simpa using h3, fun i hi => ?_⟩
        cases i with
        | zero => simpa using hx
        | succ i => have := h4 i (by omega); simpa using this
theorem filt_none {c : Int → Bool} : ∀ (n : Nat), (∀ i : Nat, i < n → c i = false) → filtB c id n = []
  | 0, _ => rfl
  | n + 1, h => by rw [filtB_succ, h n (by omega), cond_false]; exact filt_none n fun i hi => h i (by omega)
theorem filt_one {c : Int → Bool} {a : Nat} (ha : c a = true) : ∀ (n : Nat), a < n → (∀ i : Nat, i < n → c i = true → i = a) → filtB c id n = [(a : Int)]
  | 0, h, _ => by omega
  | n + 1, h, hu => by
    rw [filtB_succ]
    by_cases e : n = a
    · subst e
      rw [ha, cond_true, filt_none n fun i hi => ?_]
      · rfl
      · cases hc : c i with
        | false => rfl
        | true => have := hu i (by omega) hc; omega
    · have : c n = false := by
        cases hc : c n with
        | false => rfl
        | true => exact absurd (hu n (by omega) hc) e
      rw [this, cond_false]
      exact filt_one ha n (by omega) fun i hi => hu i (by omega)
theorem kg_eq (bl : Bool) : w8 (IntKind.i64.wrap (6 * sdI bl)) = kgP bl := by cases bl <;> decide
theorem any_drop {zs : List Int} {p : Int → Bool} {k : Nat} : (zs.drop k).any p = true ↔ ∃ i, k ≤ i ∧ i < zs.length ∧ p (zs.getD i 0) = true := by
  rw [List.any_eq_true]
  constructor
  · rintro ⟨x, hx, hp⟩
    obtain ⟨i, hi, rfl⟩ := List.mem_iff_getElem.1 hx
    rw [List.getElem_drop] at hp
    rw [List.length_drop] at hi
    exact ⟨k + i, by omega, by omega, by simpa [List.getD, show k + i < zs.length by omega] using hp⟩
  · rintro ⟨i, h1, h2, h3⟩
    refine ⟨zs.getD i 0, ?_, h3⟩
    rw [List.mem_iff_getElem]
    refine ⟨i - k, by rw [List.length_drop]; omega, ?_⟩
    rw [List.getElem_drop]
    simp [List.getD, h2, show k + (i - k) = i by omega]
theorem king_ref (zs : List Int) (bl : Bool) (hl : zs.length ≤ 64) : (kingN zs bl = true ∧ refKing zs bl = -1) ∨ (kingN zs bl = false ∧ refKing zs bl = kingI zs bl ∧ 0 ≤ kingI zs bl ∧ kingI zs bl < zs.length ∧ zs.getD (kingI zs bl).toNat 0 = kgP bl ∧ ∀ i : Nat, i < zs.length → zs.getD i 0 = kgP bl → (i : Int) = kingI zs bl) := by
  unfold refKing kingN
  rw [kg_eq]
  rcases findI_spec (isV (kgP bl)) zs 0 with ⟨h1, h2⟩ | ⟨j, h1, h2, h3, h4⟩
  · left
    have hn : listL zs (kgP bl) = [] := filt_none _ fun i hi => by
      have := h2 i hi
      simp only [isV, decide_eq_false_iff_not] at this
      simp only [listC, Int.toNat_natCast, decide_eq_false_iff_not]
      exact fun e => this e.symm
    rw [hn]
    refine ⟨?_, rfl⟩
    rw [show kingI zs bl = -1 from h1]; rfl
  · have hK : kingI zs bl = (j : Int) := by unfold kingI; rw [h2]; omega
    simp only [isV, decide_eq_true_eq] at h3
    rw [hK, show IntKind.i64.wrap ((j : Int) + 1) = ((j + 1 : Nat) : Int) by rw [w64_id (by omega) (by omega)]; omega, Int.toNat_natCast, show decide ((j : Int) < 0) = false by simp, Bool.false_or]
    cases ha : (zs.drop (j + 1)).any (isV (kgP bl)) with
    | true =>
      left
      refine ⟨rfl, ?_⟩
      obtain ⟨i, g1, g2, g3⟩ := any_drop.1 ha
      simp only [isV, decide_eq_true_eq] at g3
      have m1 : (j : Int) ∈ listL zs (kgP bl) := mem_filtB.2 ⟨by omega, by omega, by simp [listC, h3]⟩
      have m2 : (i : Int) ∈ listL zs (kgP bl) := mem_filtB.2 ⟨by omega, by omega, by simp [listC, g3]⟩
      cases hd : decide (((listL zs (kgP bl)).length : Int) = 1) with
      | false => rfl
      | true =>
        have : (listL zs (kgP bl)).length = 1 := by have := of_decide_eq_true hd; omega
        obtain ⟨x, hx⟩ := List.length_eq_one_iff.1 this
        rw [hx] at m1 m2
        simp at m1 m2
        omega
    | false =>
      right
      have hno : ∀ i : Nat, i < zs.length → zs.getD i 0 = kgP bl → i = j := by
        intro i hi he
        rcases Nat.lt_trichotomy i j with g | g | g
        · have := h4 i g
          simp only [isV, decide_eq_false_iff_not] at this
          exact absurd he.symm this
        · exact g
        · have : (zs.drop (j + 1)).any (isV (kgP bl)) = true := any_drop.2 ⟨i, by omega, hi, by simp only [isV, decide_eq_true_eq]; exact he.symm⟩
          rw [ha] at this; cases this
      have hone : listL zs (kgP bl) = [(j : Int)] := filt_one (by simp [listC, h3]) _ h1 fun i hi hc => hno i hi (by simpa [listC] using hc)
      refine ⟨rfl, by rw [hone]; rfl, by omega, by omega, by rw [h3, Int.toNat_natCast], fun i hi he => by rw [hno i hi he]⟩
theorem king_iff {f r : Int} {zs : List Int} {bl : Bool} (h : orthBd f r zs = true) (hl : zs.length ≤ 64) : (refKing zs bl < 0 ∧ kingR f r zs bl = (0, 9)) ∨ (kingR f r zs bl = (refKing zs bl, 0) ∧ validB f r (refKing zs bl) = true ∧ refKing zs bl = kingI zs bl) := by
  rcases king_ref zs bl hl with ⟨h1, h2⟩ | ⟨h1, h2, h3, h4, _⟩
  · left; exact ⟨by rw [h2]; decide, by unfold kingR; rw [h, h1]; rfl⟩
  · right; exact ⟨by unfold kingR; rw [h, h1, h2]; rfl, (sq_iff h).2 (by rw [h2]; exact ⟨h3, h4⟩), h2⟩
end Go.Ab

namespace Go.Ab
open Go.Proofs
/-! ### pins -/
/-- an enemy piece that would reach the king if nothing were between -/
def Lurk (f r : Int) (zs : List Int) (bl : Bool) (K x : Int) : Prop := isP (zs.getD x.toNat 0) (!bl) = true ∧ 3 ≤ (zs.getD x.toNat 0).natAbs ∧ (zs.getD x.toNat 0).natAbs ≤ 5 ∧ reachesB f r ((zs.getD x.toNat 0).natAbs : Int) x K 0 = true
/-- the only piece between -/
def Only (f r : Int) (zs : List Int) (K x j : Int) : Prop := ∀ m, (m ∈ betwL f r x K ∧ zs.getD m.toNat 0 ≠ 0) ↔ m = j
theorem reaches_line {f r kd x K occ : Int} (h3 : 3 ≤ kd) (h5 : kd ≤ 5) : reachesB f r kd x K occ = (reachesB f r kd x K 0 && freeB occ (betwL f r x K)) ∧ (reachesB f r kd x K 0 = true → (lineR f x K).2.2 = true) := by
  have hz : freeB 0 (betwL f r x K) = true := free_iff.2 fun y _ => by rw [has_bt uk_0, bt_0]; simp
  unfold reachesB
  rw [show decide (kd = 2) = false by simp; omega, show decide (kd = 6) = false by simp; omega, hz]
  simp only [cond_false, Bool.and_true]
  refine ⟨trivial, fun h => ?_⟩
  simp only [Bool.and_eq_true] at h
  exact h.1
theorem skip_iff {f r : Int} {zs : List Int} {bl : Bool} {K x : Int} (h : orthBd f r zs = true) (hK : validB f r K = true) (h0 : 0 ≤ x) (h1 : x < zs.length) : (skipA zs bl x || skipB f r zs K x) = false ↔ Lurk f r zs bl K x := by
  have hx := (sq_iff h).2 ⟨h0, h1⟩
  have hb := piece_bd h h0 h1
  have hkv := valid_lt hK
  unfold skipA skipB Lurk
  rw [imax_abs hb]
  simp only [Bool.or_eq_false_iff, Bool.not_eq_false', decide_eq_false_iff_not, decide_eq_true_eq]
  have e0 : Uk 0 := uk_0
  have on0 : OnS f r 0 := fun m _ hm => by rw [bt_0] at hm; cases hm
  have hr := (rayOn_iff e0).2 ⟨hx, on0⟩
  constructor
  · rintro ⟨⟨⟨a1, a2⟩, a3⟩, a4, a5⟩
    have hk : kinds5 ((zs.getD x.toNat 0).natAbs : Int) := by unfold kinds5; omega
    obtain ⟨p1, _, p3⟩ := reach_bt hr e0 hk
    have : decide (uand (ushr (reachS f r ((zs.getD x.toNat 0).natAbs : Int) x 0) K) 1 = 0) = false := decide_eq_false a5
    rw [bit_of0 p1 hkv.1 hkv.2.2, p3 K hK, Bool.not_eq_false'] at this
    exact ⟨a1, by omega, by omega, this⟩
  · rintro ⟨a1, a2, a3, a4⟩
    have hk : kinds5 ((zs.getD x.toNat 0).natAbs : Int) := by unfold kinds5; omega
    obtain ⟨p1, _, p3⟩ := reach_bt hr e0 hk
    have hl := (reaches_line (f := f) (r := r) (x := x) (K := K) (occ := 0) (kd := ((zs.getD x.toNat 0).natAbs : Int)) (by omega) (by omega)).2 a4
    refine ⟨⟨⟨a1, by omega⟩, by omega⟩, by rw [(betw_set hx hK hl).2], ?_⟩
    have : decide (uand (ushr (reachS f r ((zs.getD x.toNat 0).natAbs : Int) x 0) K) 1 = 0) = false := by rw [bit_of0 p1 hkv.1 hkv.2.2, p3 K hK, a4]; rfl
    exact of_decide_eq_false this
theorem betw_bt {f r : Int} {x K : Int} (hx : validB f r x = true) (hK : validB f r K = true) (hl : (lineR f x K).2.2 = true) : Uk (betwR f r x K).1 ∧ ∀ m : Nat, bt (betwR f r x K).1 m = decide ((m : Int) ∈ betwL f r x K) := by
  rw [(betw_set hx hK hl).2]
  obtain ⟨h1, h2⟩ := ofL_bt (betwL f r x K) 0 (fun y hy => ⟨(valid_lt ((betwL_bd hx).2 y hy)).1, (valid_lt ((betwL_bd hx).2 y hy)).2.2⟩) uk_0
  exact ⟨h1, fun m => by rw [h2, bt_0, Bool.false_or]⟩
theorem pinC_iff {f r : Int} {zs : List Int} {bl : Bool} {K x j : Int} (h : orthBd f r zs = true) (hz : zs.length ≤ 64) (hx : validB f r x = true) (hK : validB f r K = true) (hl : (lineR f x K).2.2 = true) (hj0 : 0 ≤ j) (hj1 : j < zs.length) :
    pinC f r zs bl K (occR f r zs) x j = true ↔ Only f r zs K x j ∧ isP (zs.getD j.toNat 0) bl = true := by
  obtain ⟨b1, b2⟩ := betw_bt hx hK hl
  obtain ⟨o1, o2⟩ := occ_bt (orth_valid h).2.2.1 hz
  unfold pinC
  rw [Bool.and_eq_true, decide_eq_true_eq]
  refine and_congr_left' ?_
  have hbd := (betwL_bd (f := f) (r := r) (b := K) hx).2
  constructor
  · intro he m
    constructor
    · rintro ⟨m1, m2⟩
      have hm := (sq_iff h).1 (hbd m m1)
      have hb : bt (uand (betwR f r x K).1 (occR f r zs)) m.toNat = bt (ushl 1 j) m.toNat := congrArg (fun s => bt s m.toNat) he
      rw [bt_and b1 o1, b2, o2, bt_shl hj0 (by omega), show ((m.toNat : Nat) : Int) = m by omega, decide_eq_true m1, decide_eq_true (show m.toNat < zs.length by omega)] at hb
      simp only [m2, decide_false, Bool.not_false, Bool.and_self] at hb
      exact (of_decide_eq_true hb.symm).symm
    · rintro rfl
      have hb : bt (uand (betwR f r x K).1 (occR f r zs)) m.toNat = bt (ushl 1 m) m.toNat := congrArg (fun s => bt s m.toNat) he
      rw [bt_and b1 o1, b2, o2, bt_shl hj0 (by omega), show ((m.toNat : Nat) : Int) = m by omega] at hb
      simp only [decide_true, Bool.and_eq_true, decide_eq_true_eq, Bool.not_eq_true', decide_eq_false_iff_not] at hb
      exact ⟨hb.1, hb.2.2⟩
  · intro ho
    refine uk_ext (uk_and _ _) (uk_shl _ _) fun n hn => ?_
    rw [bt_and b1 o1, b2, o2, bt_shl hj0 (by omega), Bool.eq_iff_iff]
    simp only [Bool.and_eq_true, decide_eq_true_eq, Bool.not_eq_true', decide_eq_false_iff_not]
    have := ho n
    rw [Int.toNat_natCast] at this
    constructor
    · rintro ⟨a1, _, a3⟩; exact (this.1 ⟨a1, a3⟩).symm
    · intro e
      have h2 := this.2 e.symm
      exact ⟨h2.1, by omega, h2.2⟩
/-! the pieces that pin -/
def Pins (f r : Int) (zs : List Int) (bl : Bool) (K x j : Int) : Prop := 0 ≤ x ∧ x < zs.length ∧ Lurk f r zs bl K x ∧ Only f r zs K x j
theorem isP_set {zs : List Int} {j x : Int} {bl : Bool} (hj : 0 ≤ j) (hx : 0 ≤ x) (h1 : x < zs.length) : isP ((zs.set j.toNat 0).getD x.toNat 0) bl = (!decide (x = j) && isP (zs.getD x.toNat 0) bl) := by
  by_cases e : x = j
  · subst e
    have : (zs.set x.toNat 0).getD x.toNat 0 = 0 := by simp [List.getD, show x.toNat < zs.length by omega]
    rw [this]; cases bl <;> simp [isP]
  · have : (zs.set j.toNat 0).getD x.toNat 0 = zs.getD x.toNat 0 := by simp [List.getD, show ¬ j.toNat = x.toNat by omega]
    rw [this]; simp [e]
theorem getD_set {zs : List Int} {j x v : Int} (hj : 0 ≤ j) (hx : 0 ≤ x) (h1 : x < zs.length) : (zs.set j.toNat v).getD x.toNat 0 = if x = j then v else zs.getD x.toNat 0 := by
  by_cases e : x = j
  · subst e; simp [List.getD, show x.toNat < zs.length by omega]
  · rw [if_neg e]; simp [List.getD, show ¬ j.toNat = x.toNat by omega]
theorem orth_set {f r : Int} {zs : List Int} {j v : Int} (h : orthBd f r zs = true) (hv : -6 ≤ v ∧ v ≤ 6) : orthBd f r (zs.set j.toNat v) = true := by
  simp only [orthBd, validBd, Bool.and_eq_true, Bool.not_eq_true', List.any_eq_false] at h ⊢
  rw [List.length_set]
  refine ⟨⟨h.1.1, fun p hp => ?_⟩, fun p hp => ?_⟩
  · rcases List.mem_or_eq_of_mem_set hp with hp | rfl
    · exact h.1.2 p hp
    · simp [badP, okP]; omega
  · rcases List.mem_or_eq_of_mem_set hp with hp | rfl
    · exact h.2 p hp
    · simp [norP, orP]; omega
theorem new_iff {f r : Int} {zs : List Int} {bl : Bool} {K j x : Int} (h : orthBd f r zs = true) (hz : zs.length ≤ 64) (hK : validB f r K = true) (hj0 : 0 ≤ j) (hj1 : j < zs.length) (hjp : isP (zs.getD j.toNat 0) bl = true) :
    (x ∈ attL f r (zs.set j.toNat 0) K (!bl) ∧ x ∉ attL f r zs K (!bl)) ↔ Pins f r zs bl K x j := by
  have hs := orth_set (j := j) (v := 0) h (by omega)
  have hzs : (zs.set j.toNat 0).length ≤ 64 := by rw [List.length_set]; exact hz
  obtain ⟨o1, o2⟩ := occ_bt (orth_valid h).2.2.1 hz
  obtain ⟨q1, q2⟩ := occ_bt (orth_valid hs).2.2.1 hzs
  rw [mem_attL, mem_attL, List.length_set, occ_eq (orth_valid h).2.2.1 hz, occ_eq (orth_valid hs).2.2.1 hzs]
  unfold Pins
  by_cases hx : 0 ≤ x ∧ x < zs.length
  · obtain ⟨h0, h1⟩ := hx
    have hxv := (sq_iff h).2 ⟨h0, h1⟩
    have hb := piece_bd h h0 h1
    rw [isP_set hj0 h0 h1]
    by_cases hp : isP (zs.getD x.toNat 0) (!bl) = true
    · have hne : x ≠ j := by
        rintro rfl
        rw [isP_sgn, decide_eq_true_eq] at hp hjp
        cases bl <;> simp [sdI] at hp hjp <;> omega
      have hq : occR f r (zs.set j.toNat 0) = occR f r (zs.set j.toNat 0) := rfl
      have e1 : attB4 f r (zs.set j.toNat 0) x K (occR f r (zs.set j.toNat 0)) = attB4 f r zs x K (occR f r (zs.set j.toNat 0)) := by
        unfold attB4
        rw [getD_set hj0 h0 h1, if_neg hne]
      rw [e1]
      simp only [hp, hne, decide_false, Bool.not_false, Bool.true_and, h0, h1, true_and]
      have hbits : ∀ y, validB f r y = true → hasB (occR f r (zs.set j.toNat 0)) y = (!decide (y = j) && hasB (occR f r zs) y) := by
        intro y hy
        have hyl := (sq_iff h).1 hy
        rw [has_bt' q1 hy, has_bt' o1 hy, q2, o2, List.length_set, getD_set hj0 hyl.1 hyl.2]
        by_cases e : y = j
        · simp [e]
        · simp [e]
      have hbits2 : ∀ y, validB f r y = true → hasB (occR f r zs) y = !decide (zs.getD y.toNat 0 = 0) := by
        intro y hy
        have hyl := (sq_iff h).1 hy
        rw [has_bt' o1 hy, o2, decide_eq_true (show y.toNat < zs.length by omega), Bool.true_and]
      unfold attB4 Lurk
      rw [kind_abs hb]
      have hjz := isP_nz hjp
      by_cases hk : 3 ≤ (zs.getD x.toNat 0).natAbs ∧ (zs.getD x.toNat 0).natAbs ≤ 5
      · rw [show decide (((zs.getD x.toNat 0).natAbs : Int) = 1) = false by rw [decide_eq_false_iff_not]; omega]
        simp only [cond_false]
        obtain ⟨r1, _⟩ := reaches_line (f := f) (r := r) (x := x) (K := K) (occ := occR f r zs) (kd := ((zs.getD x.toNat 0).natAbs : Int)) (by omega) (by omega)
        obtain ⟨r2, _⟩ := reaches_line (f := f) (r := r) (x := x) (K := K) (occ := occR f r (zs.set j.toNat 0)) (kd := ((zs.getD x.toNat 0).natAbs : Int)) (by omega) (by omega)
        rw [r1, r2]
        have hbd := (betwL_bd (f := f) (r := r) (b := K) hxv).2
        have hxK : reachesB f r ((zs.getD x.toNat 0).natAbs : Int) x K 0 = true → x ≠ K := by
          rintro hr rfl
          rw [reaches_self hxv (by unfold kinds5; omega)] at hr; cases hr
        cases hr : reachesB f r ((zs.getD x.toNat 0).natAbs : Int) x K 0 with
        | false => simp
        | true =>
          have hxK := hxK hr
          simp only [hxK, decide_false, Bool.not_false, Bool.true_and, hp, hk, true_and]
          unfold Only
          constructor
          · rintro ⟨f1, f2⟩
            have f1' := free_iff.1 f1
            have : ¬ ∀ y ∈ betwL f r x K, hasB (occR f r zs) y = false := fun hh => f2 (free_iff.2 hh)
            obtain ⟨y, hyy⟩ := Classical.not_forall.1 this
            obtain ⟨hy, hyo⟩ := Classical.not_imp.1 hyy
            have hyv := hbd y hy
            have hyj : y = j := by
              have := f1' y hy
              rw [hbits y hyv] at this
              by_cases e : y = j
              · exact e
              · simp [e] at this; exact absurd this hyo
            subst hyj
            intro m
            constructor
            · rintro ⟨m1, m2⟩
              have := f1' m m1
              rw [hbits m (hbd m m1), hbits2 m (hbd m m1)] at this
              by_cases e : m = y
              · exact e
              · simp [e] at this; exact absurd this m2
            · rintro rfl; exact ⟨hy, hjz⟩
          · intro ho
            refine ⟨free_iff.2 fun y hy => ?_, fun hf => ?_⟩
            · rw [hbits y (hbd y hy), hbits2 y (hbd y hy)]
              by_cases e : y = j
              · simp [e]
              · have := Classical.not_not.1 (mt (fun h2 => (ho y).1 ⟨hy, h2⟩) e)
                rw [decide_eq_true this]; simp
            · have hjm := (ho j).2 rfl
              have := free_iff.1 hf j hjm.1
              rw [hbits2 j (hbd j hjm.1), decide_eq_false hjm.2] at this
              cases this
      · have hsame : (bif decide (((zs.getD x.toNat 0).natAbs : Int) = 1) then hasL K (filtB (pawnC f (decide (zs.getD x.toNat 0 < 0)) x) id (f * r).toNat) else !decide (x = K) && reachesB f r ((zs.getD x.toNat 0).natAbs : Int) x K (occR f r (zs.set j.toNat 0))) = (bif decide (((zs.getD x.toNat 0).natAbs : Int) = 1) then hasL K (filtB (pawnC f (decide (zs.getD x.toNat 0 < 0)) x) id (f * r).toNat) else !decide (x = K) && reachesB f r ((zs.getD x.toNat 0).natAbs : Int) x K (occR f r zs)) := by
          have hnz := isP_nz hp
          by_cases h1 : (zs.getD x.toNat 0).natAbs = 1
          · rw [show decide (((zs.getD x.toNat 0).natAbs : Int) = 1) = true by rw [decide_eq_true_eq]; omega]; rfl
          · have h26 : (zs.getD x.toNat 0).natAbs = 2 ∨ (zs.getD x.toNat 0).natAbs = 6 := by omega
            rcases h26 with h2 | h2 <;> simp only [h2] <;> rfl
        rw [hsame]
        constructor
        · rintro ⟨a, b⟩; exact absurd a b
        · rintro ⟨⟨_, a2, a3, _⟩, _⟩; exact absurd ⟨a2, a3⟩ hk
    · constructor
      · rintro ⟨⟨_, _, a, _⟩, _⟩
        rw [Bool.and_eq_true] at a
        exact absurd a.2 hp
      · rintro ⟨_, _, ⟨a, _⟩, _⟩; exact absurd a hp
  · constructor
    · rintro ⟨⟨a, b, _⟩, _⟩; exact absurd ⟨a, b⟩ hx
    · rintro ⟨a, b, _⟩; exact absurd ⟨a, b⟩ hx
end Go.Ab

namespace Go.Ab
open Go.Proofs
/-! ### the examples, run -/
noncomputable abbrev E5 : Env := EE [(31, c_Attackers), (34, c_Attacked), (37, c_Checkers), (39, c_Pinned), (40, c_PinLine), (36, c_King), (68, c_Parse), (20, c_Of), (87, c_has5), (95, c_Name)] []
theorem E5_ok : E5.Fn PP := EE_ok ⟨c_Attackers_ok, c_Attacked_ok, c_Checkers_ok, c_Pinned_ok, c_PinLine_ok, c_King_ok, c_Parse_ok, c_Of_ok, c_has5_ok, c_Name_ok, trivial⟩ trivial
noncomputable abbrev xs5 : List (FuncId × Func) := [(67, Tryd.f67), (94, Tryd.f94), (107, Tryd.f107), (115, Tryd.f115), (69, Tryd.f69)]
theorem xs5_ok : InlOk PP xs5 := ⟨⟨Tryd.func67, by kernel_rfl⟩, ⟨Tryd.func94, by kernel_rfl⟩, ⟨Tryd.func107, by kernel_rfl⟩, ⟨Tryd.func115, by kernel_rfl⟩, ⟨Tryd.func69, by kernel_rfl⟩, trivial⟩
theorem run5 : runFn { E5 with pf := pfRun E5 xs5 1000 4, cc := true } 3 1000 Tryd.f30 [] [] = some (.lit true, []) := by kernel_rfl
def c_known5 : CF
  | [], [] => some (true, .bool true, [])
  | _, _ => none
theorem c_known5_ok : CtOk GG PP (30, c_known5) := by
  refine ct_mk Tryd.func30 (by kernel_rfl) rfl fun a0 h0 c0 v0 N0 e hc => ?_
  unfold c_known5 at e
  split at e
  · cases e
    exact FnSound.like (run_ct E5_ok xs5_ok 1000 4 Tryd.func30 run5) (fun _ _ h => h)
  · cases e
end Go.Ab

namespace Go.Ab
open Go.Proofs
def c_small5 : CF
  | [.agg [.int .i64 _f, .int .i64 _r, .sl 0 0 len none]], [.ints false .i8 _zs] => some (true, .bool (decide ((len : Int) ≤ 64)), [])
  | _, _ => none
theorem c_small5_ok : CtOk GG PP (29, c_small5) := by
  refine ct_mk Tryd.func29 (by kernel_rfl) rfl fun a0 h0 c0 v0 N0 e hc => ?_
  unfold c_small5 at e
  split at e
  · rename_i f r len zs
    cases e
    have hE := EE_ok (cts := []) (inl := []) trivial trivial
    refine fn_sound hE 2 Tryd.func29 rfl rfl ?_
    repeat' first | (first | refine sat_self ?_ | refine sat_need (by first | rfl | exact tt1 _ _ | exact tt5 _ _ | exact tt2 _ _ _ | exact tt4 _ _ _ | exact tt6 _ _ _ | exact tt7 _ _ | exact tt8 _ _ _ | exact tt9 _ _ _ | exact tt10 _ _ | exact tt11 _ _ _ | exact Bool.or_not_self _ | (simp; done) | (simp; omega)) ?_) | refine sat_br (fun h => ?_) (fun h => ?_)
    all_goals exact sat_ret (fin_val (.inr rfl) rfl rfl rfl (by first | rfl | (simp only [*, cond_true, cond_false]; done) | (simp only [*, cond_true, cond_false, Bool.not_true, Bool.not_false, Bool.and_true, Bool.true_and, Bool.and_false, Bool.false_and, Bool.or_true, Bool.true_or, Bool.or_false, Bool.false_or]; done) | simp_all []))
  · cases e

theorem need_ofl {l m : List Int} (hm : m = l) (h : l.length ≤ 1000000) (h2 : ∀ x ∈ l, 0 ≤ x) {n : Nat} (hn : n = l.length) : (decide (n = m.length) && decide (m.length ≤ 1000000) && m.all fun x => decide (0 ≤ x)) = true := by
  subst hm hn
  simp only [decide_true, Bool.true_and, Bool.and_eq_true, decide_eq_true_eq, List.all_eq_true]
  exact ⟨h, h2⟩
def c_lawAttackers : CF
  | [.agg [.int .i64 _f, .int .i64 _r, .sl 0 0 len none], .int .i64 _at_, .bool _bl], [.ints false .i8 zs] => some (decide (len = zs.length), .bool true, [])
  | _, _ => none
theorem c_lawAttackers_ok : CtOk GG PP (8, c_lawAttackers) := by
  refine ct_mk Tryd.func8 (by kernel_rfl) rfl fun a0 h0 c0 v0 N0 e hc => ?_
  unfold c_lawAttackers at e
  split at e
  · rename_i f r len at_ bl zs
    cases e
    have hE := EE_ok (cts := [(29, c_small5), (30, c_known5), (31, c_Attackers), (32, c_rorth), (18, c_Valid), (33, c_refAttackers), (20, c_Of)]) (inl := []) ⟨c_small5_ok, c_known5_ok, c_Attackers_ok, c_rorth_ok, c_Valid_ok, c_refAttackers_ok, c_Of_ok, trivial⟩ trivial
    refine fn_sound hE 2 Tryd.func8 rfl rfl ?_
    obtain rfl := of_decide_eq_true hc
    repeat (first | refine sat_self ?_ | refine sat_need (by first | rfl | exact tt1 _ _ | exact tt5 _ _ | exact tt2 _ _ _ | exact tt4 _ _ _ | exact tt6 _ _ _ | exact tt7 _ _ | exact tt8 _ _ _ | exact tt9 _ _ _ | exact tt10 _ _ | exact tt11 _ _ _ | exact Bool.or_not_self _ | (simp; done) | (simp; omega)) ?_)
    refine sat_br (fun hs => ?_) (fun hs => ?_)
    · repeat (first | refine sat_self ?_ | refine sat_need (by first | rfl | exact tt1 _ _ | exact tt5 _ _ | exact tt2 _ _ _ | exact tt4 _ _ _ | exact tt6 _ _ _ | exact tt7 _ _ | exact tt8 _ _ _ | exact tt9 _ _ _ | exact tt10 _ _ | exact tt11 _ _ _ | exact Bool.or_not_self _ | (simp; done) | (simp; omega)) ?_)
      exact sat_ret (fin_val (.inr rfl) rfl rfl rfl rfl)
    have hl : zs.length ≤ 64 := by simp at hs; omega
    repeat (first | (first | refine sat_self ?_ | refine sat_need (by first | rfl | exact tt1 _ _ | exact tt5 _ _ | exact tt2 _ _ _ | exact tt4 _ _ _ | exact tt6 _ _ _ | exact tt7 _ _ | exact tt8 _ _ _ | exact tt9 _ _ _ | exact tt10 _ _ | exact tt11 _ _ _ | exact Bool.or_not_self _ | (simp; done) | (simp; omega)) ?_) | refine sat_need (need_bd hl rfl) ?_)
    refine sat_br (fun h => ?_) (fun h => ?_)
    · have h : (!orthBd f r (tk zs) || !validB f r at_) = true := h
      rw [tk_eq] at h
      have h1 : (orthBd f r zs && validB f r at_) = false := by cases h1 : orthBd f r zs <;> cases h2 : validB f r at_ <;> simp_all
      repeat (first | refine sat_self ?_ | refine sat_need (by first | rfl | exact tt1 _ _ | exact tt5 _ _ | exact tt2 _ _ _ | exact tt4 _ _ _ | exact tt6 _ _ _ | exact tt7 _ _ | exact tt8 _ _ _ | exact tt9 _ _ _ | exact tt10 _ _ | exact tt11 _ _ _ | exact Bool.or_not_self _ | (simp; done) | (simp; omega)) ?_)
      refine sat_ret (fin_val (.inr rfl) rfl rfl rfl (congrArg V.bool ?_))
      show (decide ((attackersR f r (tk zs) at_ bl).1 = 0) && decide ((attackersR f r (tk zs) at_ bl).2 = 2) && true) = true
      rw [tk_eq, attackersR, h1]; rfl
    have h : (!orthBd f r (tk zs) || !validB f r at_) = false := h
    rw [tk_eq] at h
    have h1 : orthBd f r zs = true ∧ validB f r at_ = true := by cases h1 : orthBd f r zs <;> cases h2 : validB f r at_ <;> simp_all
    have hv := (orth_valid h1.1).1
    have hal : (attL f r (tk zs) at_ bl).length ≤ 64 := by have := attL_len f r (tk zs) at_ bl; rw [tk_len] at this; omega
    repeat (first | (first | refine sat_self ?_ | refine sat_need (by first | rfl | exact tt1 _ _ | exact tt5 _ _ | exact tt2 _ _ _ | exact tt4 _ _ _ | exact tt6 _ _ _ | exact tt7 _ _ | exact tt8 _ _ _ | exact tt9 _ _ _ | exact tt10 _ _ | exact tt11 _ _ _ | exact Bool.or_not_self _ | (simp; done) | (simp; omega)) ?_) | refine sat_need (need_bdv hl rfl hv) ?_)
    refine sat_need (need_ofl (tk_eq (attL f r (tk zs) at_ bl)) (by omega) (fun x hx => (mem_attL.1 hx).1) rfl) ?_
    repeat (first | refine sat_self ?_ | refine sat_need (by first | rfl | exact tt1 _ _ | exact tt5 _ _ | exact tt2 _ _ _ | exact tt4 _ _ _ | exact tt6 _ _ _ | exact tt7 _ _ | exact tt8 _ _ _ | exact tt9 _ _ _ | exact tt10 _ _ | exact tt11 _ _ _ | exact Bool.or_not_self _ | (simp; done) | (simp; omega)) ?_)
    refine sat_ret (fin_val (.inr rfl) rfl rfl rfl (congrArg V.bool ?_))
    show (decide ((attackersR f r (tk zs) at_ bl).1 = ofL (tk (attL f r (tk zs) at_ bl)) 0) && decide ((attackersR f r (tk zs) at_ bl).2 = 0) && true) = true
    simp only [tk_eq]
    rw [attR_of h1.1 hl h1.2, attackersR, h1.1, h1.2]
    simp
  · cases e

def c_lawAll : CF
  | [.agg [.int .i64 _f, .int .i64 _r, .sl 0 0 len none], .bool _bl], [.ints false .i8 zs] => some (decide (len = zs.length), .bool true, [])
  | _, _ => none
theorem c_lawAll_ok : CtOk GG PP (9, c_lawAll) := by
  refine ct_mk Tryd.func9 (by kernel_rfl) rfl fun a0 h0 c0 v0 N0 e hc => ?_
  unfold c_lawAll at e
  split at e
  · rename_i f r len bl zs
    cases e
    have hE := EE_ok (cts := [(29, c_small5), (30, c_known5), (34, c_Attacked), (32, c_rorth), (18, c_Valid), (35, c_refAttacked), (20, c_Of)]) (inl := []) ⟨c_small5_ok, c_known5_ok, c_Attacked_ok, c_rorth_ok, c_Valid_ok, c_refAttacked_ok, c_Of_ok, trivial⟩ trivial
    refine fn_sound hE 2 Tryd.func9 rfl rfl ?_
    obtain rfl := of_decide_eq_true hc
    repeat (first | refine sat_self ?_ | refine sat_need (by first | rfl | exact tt1 _ _ | exact tt5 _ _ | exact tt2 _ _ _ | exact tt4 _ _ _ | exact tt6 _ _ _ | exact tt7 _ _ | exact tt8 _ _ _ | exact tt9 _ _ _ | exact tt10 _ _ | exact tt11 _ _ _ | exact Bool.or_not_self _ | (simp; done) | (simp; omega)) ?_)
    refine sat_br (fun hs => ?_) (fun hs => ?_)
    · repeat (first | refine sat_self ?_ | refine sat_need (by first | rfl | exact tt1 _ _ | exact tt5 _ _ | exact tt2 _ _ _ | exact tt4 _ _ _ | exact tt6 _ _ _ | exact tt7 _ _ | exact tt8 _ _ _ | exact tt9 _ _ _ | exact tt10 _ _ | exact tt11 _ _ _ | exact Bool.or_not_self _ | (simp; done) | (simp; omega)) ?_)
      exact sat_ret (fin_val (.inr rfl) rfl rfl rfl rfl)
    have hl : zs.length ≤ 64 := by simp at hs; omega
    repeat (first | (first | refine sat_self ?_ | refine sat_need (by first | rfl | exact tt1 _ _ | exact tt5 _ _ | exact tt2 _ _ _ | exact tt4 _ _ _ | exact tt6 _ _ _ | exact tt7 _ _ | exact tt8 _ _ _ | exact tt9 _ _ _ | exact tt10 _ _ | exact tt11 _ _ _ | exact Bool.or_not_self _ | (simp; done) | (simp; omega)) ?_) | refine sat_need (need_bd hl rfl) ?_)
    refine sat_br (fun h => ?_) (fun h => ?_)
    · have h1 : orthBd f r zs = false := by simpa using h
      repeat (first | refine sat_self ?_ | refine sat_need (by first | rfl | exact tt1 _ _ | exact tt5 _ _ | exact tt2 _ _ _ | exact tt4 _ _ _ | exact tt6 _ _ _ | exact tt7 _ _ | exact tt8 _ _ _ | exact tt9 _ _ _ | exact tt10 _ _ | exact tt11 _ _ _ | exact Bool.or_not_self _ | (simp; done) | (simp; omega)) ?_)
      refine sat_ret (fin_val (.inr rfl) rfl rfl rfl (congrArg V.bool ?_))
      show (decide ((attackedR f r (tk zs) bl).1 = 0) && decide ((attackedR f r (tk zs) bl).2 = 2) && true) = true
      rw [tk_eq, attackedR, h1]; rfl
    have h1 : orthBd f r zs = true := by simpa using h
    have hv := (orth_valid h1).1
    have hal : (atdL f r (tk zs) bl).length ≤ 64 := by have := filtB_len (atdC f r (tk zs) bl) id (tk zs).length; rw [tk_len] at this; unfold atdL; rw [tk_len]; omega
    repeat (first | (first | refine sat_self ?_ | refine sat_need (by first | rfl | exact tt1 _ _ | exact tt5 _ _ | exact tt2 _ _ _ | exact tt4 _ _ _ | exact tt6 _ _ _ | exact tt7 _ _ | exact tt8 _ _ _ | exact tt9 _ _ _ | exact tt10 _ _ | exact tt11 _ _ _ | exact Bool.or_not_self _ | (simp; done) | (simp; omega)) ?_) | refine sat_need (need_bdv hl rfl hv) ?_)
    refine sat_need (need_ofl (tk_eq (atdL f r (tk zs) bl)) (by omega) (fun x hx => (mem_filtB.1 hx).1) rfl) ?_
    repeat (first | refine sat_self ?_ | refine sat_need (by first | rfl | exact tt1 _ _ | exact tt5 _ _ | exact tt2 _ _ _ | exact tt4 _ _ _ | exact tt6 _ _ _ | exact tt7 _ _ | exact tt8 _ _ _ | exact tt9 _ _ _ | exact tt10 _ _ | exact tt11 _ _ _ | exact Bool.or_not_self _ | (simp; done) | (simp; omega)) ?_)
    refine sat_ret (fin_val (.inr rfl) rfl rfl rfl (congrArg V.bool ?_))
    show (decide ((attackedR f r (tk zs) bl).1 = ofL (tk (atdL f r (tk zs) bl)) 0) && decide ((attackedR f r (tk zs) bl).2 = 0) && true) = true
    simp only [tk_eq]
    rw [atdR_of h1 hl, attackedR, h1]
    simp
  · cases e

end Go.Ab
