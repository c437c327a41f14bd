/- Contracts of the functions that the laws reach, and plain laws of what they compute (text G12); no condition. -/
import Derived.Test.YtjfeochdckkdeaaGreatDoorG11
import Derived.Test.YtjfeochdckkdeaaGreatDoorG9
import Derived.Test.YtjfeochdckkdeaaGreatDoorG10
import Derived.Test.YtjfeochdckkdeaaGreatDoorG8
import Derived.Test.YtjfeochdckkdeaaGreatDoorG4
import Derived.Test.YtjfeochdckkdeaaGreatDoorG7
set_option maxRecDepth 100000
set_option maxHeartbeats 4000000
namespace Go.Ab
open Go.Proofs
variable {kCa kDb : Bool}
end Go.Ab

set_option maxRecDepth 100000
namespace Go.Ab
open Go.Proofs
theorem psn_eta' (q : Psn) : (⟨q.f, q.r, q.zs, q.bl, q.ca, q.pa, q.ha, q.fu⟩ : Psn) = q := rfl
theorem equalB_self' (p : Psn) : equalB p p = true := by simp [equalB, sameB]
section
variable {p : Psn}
theorem uis_eq (o : PsH p) {m : Mov} (hmv : mvB p.f p.r m.a m.b m.p = true) : uis p m = some (canM p m.a m.b m.p) := by
 have hmv' := hmv
 simp only [mvB, Bool.and_eq_true] at hmv'
 obtain ⟨⟨⟨ha, hb⟩, _⟩, _⟩ := hmv'
 have hA := (bd_sq o.bd).1 ha
 have h1 : (decide (0 ≤ m.a) && decide (m.a < Int.ofNat p.zs.length)) = true := by simp; omega
 have h2 : decide (p.zs.length ≤ 64) = true := by simpa using o.hl
 have h3 : (!decide (p.zs.getD m.a.toNat 0 = 0) && decide (p.zs.getD m.a.toNat 0 < 0) == p.bl) = isP (p.zs.getD m.a.toNat 0) p.bl := own_is _ _
 unfold uis canM
 simp only [List.drop_zero, List.take_length, h1, h2, h3, o.bd, cast_eq o.ca, o.cast, ha, hb, hmv, Bool.and_self, Bool.or_true, needO_true]
 cases hi : isP (p.zs.getD m.a.toNat 0) p.bl with
 | false => rfl
 | true => rw [so_eq o.h o.hl o.cast o.ca ha hb hi]; rfl
theorem can_mv {a b pr : Int} (h : mvB p.f p.r a b pr = false) : canM p a b pr = false := by unfold canM; rw [h]; rfl
theorem uf_step (o : PsH p) {a i : Int} {s : List (List Int) × Int} {acc : List (List Int)} (h : acc.length ≤ 100000) (h0 : 0 ≤ i) (h5 : i < 5) :
  ufrom_s1 p a s (acc, i) = some (.inl (acc ++ (bif canM p a s.2 (prs.getD i.toNat 0) then [[a, s.2, prs.getD i.toNat 0]] else []), i + 1)) := by
 have h1 : decide (i < Int.ofNat 5) = true := by rw [decide_eq_true_eq]; exact h5
 have hw : IntKind.i64.wrap (i + 1) = i + 1 := w64_id (by omega) (by omega)
 have hp : (iL [0, 2, 3, 4, 5]).getD i.toNat 0 = prs.getD i.toNat 0 := rfl
 unfold ufrom_s1
 simp only [List.drop_zero, List.take_length, psn_eta', h1, decide_eq_true h0, hw, hp, cond_true, needO_true, Bool.and_self, app_ok h]
 cases hm : mvB p.f p.r a s.2 (prs.getD i.toNat 0) with
 | false =>
  rw [can_mv hm]
  simp only [Bool.not_false, Bool.true_or, needO_true, Bool.false_and, cond_false, joinO_inl, List.append_nil]
 | true =>
  have hu := uis_eq o (m := ⟨a, s.2, prs.getD i.toNat 0⟩) hm
  rw [hu]
  simp only [Option.isSome_some, Bool.or_true, needO_true, Bool.true_and, Option.getD_some]
  cases canM p a s.2 (prs.getD i.toNat 0) with
  | true => rfl
  | false => simp only [cond_false, joinO_inl, List.append_nil]
theorem uf_end {a : Int} {s : List (List Int) × Int} {acc : List (List Int)} : ufrom_s1 p a s (acc, 0 + 1 + 1 + 1 + 1 + 1) = some (.inr (.inl acc)) := by
 unfold ufrom_s1
 rfl
theorem cf_len {a b pr : Int} : (bif canM p a b pr then [[a, b, pr]] else []).length ≤ 1 := by cases canM p a b pr <;> simp
theorem rowsM_app {a b : Int} : rowsM p a b = (bif canM p a b 0 then [[a, b, 0]] else []) ++ ((bif canM p a b 2 then [[a, b, 2]] else []) ++ ((bif canM p a b 3 then [[a, b, 3]] else []) ++ ((bif canM p a b 4 then [[a, b, 4]] else []) ++ (bif canM p a b 5 then [[a, b, 5]] else [])))) := by
 unfold rowsM prs
 simp only [List.filter_cons, List.filter_nil]
 cases canM p a b 0 <;> cases canM p a b 2 <;> cases canM p a b 3 <;> cases canM p a b 4 <;> cases canM p a b 5 <;> rfl
theorem rowsM_len {a b : Int} : (rowsM p a b).length ≤ 5 := by
 unfold rowsM
 rw [List.length_map]
 exact Nat.le_trans (List.length_filter_le _ _) (by decide)
theorem uf_run (o : PsH p) {a : Int} {s : List (List Int) × Int} {F : List (List Int) → Option (List (List Int) × Int ⊕ List (List Int) ⊕ List (List Int))} {acc : List (List Int)} (h : acc.length ≤ 90000) : loopO (ufrom_s1 p a s) F 1000000 (acc, 0) = F (acc ++ rowsM p a s.2) := by
 rw [show (1000000 : Nat) = 999994 + 1 + 1 + 1 + 1 + 1 + 1 by rfl]
 have c0 := cf_len (p := p) (a := a) (b := s.2) (pr := prs.getD (0 : Int).toNat 0)
 have c1 := cf_len (p := p) (a := a) (b := s.2) (pr := prs.getD (0 + 1 : Int).toNat 0)
 have c2 := cf_len (p := p) (a := a) (b := s.2) (pr := prs.getD (0 + 1 + 1 : Int).toNat 0)
 have c3 := cf_len (p := p) (a := a) (b := s.2) (pr := prs.getD (0 + 1 + 1 + 1 : Int).toNat 0)
 rw [loopO_next (uf_step o (by omega) (by decide) (by decide)), loopO_next (uf_step o (by simp only [List.length_append]; omega) (by decide) (by decide)), loopO_next (uf_step o (by simp only [List.length_append]; omega) (by decide) (by decide)), loopO_next (uf_step o (by simp only [List.length_append]; omega) (by decide) (by decide)), loopO_next (uf_step o (by simp only [List.length_append]; omega) (by decide) (by decide)), loopO_exit uf_end, rowsM_app]
 simp only [List.append_assoc]
 rfl
theorem uo_step (o : PsH p) {a : Int} {j : Nat} (hj : j < p.zs.length) {acc : List (List Int)} (h : acc.length ≤ 90000) : ufrom_s2 p a ufrom_s1 (acc, (j : Int)) = some (.inl (acc ++ rowsM p a j, ((j + 1 : Nat) : Int))) := by
 have hl := o.hl
 have h1 : decide ((j : Int) < Int.ofNat p.zs.length) = true := by simp; omega
 unfold ufrom_s2
 simp only [h1, cond_true]
 rw [uf_run o h, show IntKind.i64.wrap ((j : Int) + 1) = ((j + 1 : Nat) : Int) from w64_id (by omega) (by omega)]
theorem uo_run (o : PsH p) {a : Int} {F : List (List Int) → Option (List (List Int))} : ∀ (k fuel j : Nat) (acc : List (List Int)), j + k = p.zs.length → k < fuel → acc.length + 5 * k ≤ 90000 →
  loopO (ufrom_s2 p a ufrom_s1) F fuel (acc, (j : Int)) = F (acc ++ ((List.range' j k).map Int.ofNat).flatMap (rowsM p a))
 | k, 0, j, acc, _, h, _ => absurd h (by omega)
 | 0, fuel + 1, j, acc, h, _, _ => by
  have h1 : decide ((j : Int) < Int.ofNat p.zs.length) = false := by simp; omega
  rw [loopO_exit (x := acc)]
  ·simp
  ·unfold ufrom_s2; simp only [h1, cond_false]
 | k + 1, fuel + 1, j, acc, h, hf, hM => by
  have := rowsM_len (p := p) (a := a) (b := (j : Int))
  rw [loopO_next (uo_step o (by omega) (by omega)), uo_run o k fuel (j + 1) _ (by omega) (by omega) (by rw [List.length_append]; omega), List.range'_succ, List.map_cons, List.flatMap_cons, List.append_assoc]
  rfl
theorem psL_len {a : Int} (hl : p.zs.length ≤ 64) : (psL p a).length ≤ 320 := by
 have key : ∀ l : List Int, (l.flatMap (rowsM p a)).length ≤ 5 * l.length := by
  intro l
  induction l with
  | nil => simp
  | cons x l ih =>
   have := rowsM_len (p := p) (a := a) (b := x)
   rw [List.flatMap_cons, List.length_append, List.length_cons]
   omega
 have := key ((List.range p.zs.length).map Int.ofNat)
 rw [List.length_map, List.length_range] at this
 unfold psL
 omega
theorem ufrom_eq (o : PsH p) {a : Int} : ufrom p a = some (psL p a) := by
 have hl := o.hl
 have := uo_run o (a := a) (F := fun s => some s) p.zs.length 1000000 0 [] (by omega) (by omega) (by simp; omega)
 unfold ufrom psL
 rw [List.range_eq_range']
 exact this.trans (by rw [List.nil_append])
def allL (p : Psn) : List (List Int) := ((List.range p.zs.length).map Int.ofNat).flatMap (psL p)
theorem pm_step (o : PsH p) {a : Int} (ha : validB p.f p.r a = true) {acc : List (List Int)} (h : acc.length ≤ 90000) : pmoves_s1 p ⟨p, ownS p, occR p.f p.r p.zs⟩ a acc = some (.inl (acc ++ psL p a)) := by
 have hp := psL_len (p := p) (a := a) o.hl
 have h2 : decide ((acc.length + (psL p a).length) * 24 ≤ 140737488355328) = true := by have := o.hl; simp; omega
 unfold pmoves_s1
 simp only [List.drop_zero, List.take_length, sg_eta, decide_true, needO_true, sfrom_eq o ha, callO_some, h2]
 rfl
theorem own_list (o : PsH p) {α : Type} {g : Int → List α} (hg : ∀ a : Int, isP (p.zs.getD a.toNat 0) p.bl = false → g a = []) : (bitL (ownS p)).flatMap g = ((List.range p.zs.length).map Int.ofNat).flatMap g := by
 obtain ⟨hwu, hwb⟩ := own_bt o.hl
 unfold bitL
 rw [flat_range o.hl (fun m _ h => by rw [hwb, Bool.and_eq_true, decide_eq_true_eq] at h; exact h.1)]
 refine flat_congr fun x hx => ?_
 obtain ⟨m, hm, rfl⟩ := List.mem_map.1 hx
 have hm := List.mem_range.1 hm
 rw [hwb, show (Int.ofNat m).toNat = m from rfl, decide_eq_true hm, Bool.true_and]
 cases h : isP (p.zs.getD m 0) p.bl with
 | true => rfl
 | false => exact (hg (Int.ofNat m) h).symm
theorem psL_none {a : Int} (h : isP (p.zs.getD a.toNat 0) p.bl = false) : psL p a = [] := by
 unfold psL
 rw [List.flatMap_eq_nil_iff]
 exact fun _ _ => rows_none h
theorem pmoves_eq (o : PsH p) : pmoves p = some (allL p, 0) := by
 obtain ⟨hwu, hwb⟩ := own_bt o.hl
 have h1 : decide (p.zs.length ≤ 64) = true := by simpa using o.hl
 have hlen := bitL_len (ownS p)
 unfold pmoves
 simp only [List.drop_zero, List.take_length, psn_eta', h1, o.ok, needO_true, Bool.not_true, cond_false, look_eq o.hl o.bd, callO_some, eachL_eq hwu]
 rw [range_app (rows := psL p) (M := 90000) (k := 320) (fun x hx acc h => ?_) (fun _ _ => psL_len o.hl) (by simp; omega), List.nil_append, own_list o (fun _ h => psL_none h)]
 ·rfl
 ·obtain ⟨b1, b2, b3⟩ := bitL_mem hx
  rw [hwb, Bool.and_eq_true, decide_eq_true_eq] at b3
  exact pm_step o ((bd_sq o.bd).2 ⟨b1, by omega⟩) h
theorem pfrom_eq (o : PsH p) {a : Int} (ha : validB p.f p.r a = true) : pfrom p a = some (psL p a, 0) := by
 have h1 : decide (p.zs.length ≤ 64) = true := by simpa using o.hl
 unfold pfrom
 simp only [List.drop_zero, List.take_length, psn_eta', h1, o.ok, ha, needO_true, Bool.not_true, Bool.or_self, cond_false, look_eq o.hl o.bd, callO_some, decide_true, sfrom_eq o ha]
theorem pm_bad (hl : p.zs.length ≤ 64) (h : p.ok = false) : pmoves p = some ([], 2) := by
 have h1 : decide (p.zs.length ≤ 64) = true := by simpa using hl
 unfold pmoves
 simp only [List.drop_zero, List.take_length, psn_eta', h1, h, needO_true, Bool.not_false, cond_true]
theorem pf_bad (hl : p.zs.length ≤ 64) {a : Int} (h : (!p.ok || !validB p.f p.r a) = true) : pfrom p a = some ([], 2) := by
 have h1 : decide (p.zs.length ≤ 64) = true := by simpa using hl
 unfold pfrom
 simp only [List.drop_zero, List.take_length, psn_eta', h1, h, needO_true, cond_true]
theorem msame_self {a : List (List Int)} (h : a.length ≤ 100000) : msame a a = some true := by
 have go : ∀ (j fuel i : Nat), i + j = a.length → j < fuel → loopO (msame_s1 a a) (fun _ : Unit => some true) fuel (i : Int) = some true := by
  intro j
  induction j with
  | zero =>
   intro fuel i hi hf
   obtain ⟨fuel, rfl⟩ : ∃ k, fuel = k + 1 := ⟨fuel - 1, by omega⟩
   rw [loopO_exit (x := ())]
   unfold msame_s1
   have h1 : decide ((i : Int) < Int.ofNat a.length) = false := by simp; omega
   simp only [h1]; rfl
  | succ j ih =>
   intro fuel i hi hf
   obtain ⟨fuel, rfl⟩ : ∃ k, fuel = k + 1 := ⟨fuel - 1, by omega⟩
   have h1 : decide ((i : Int) < Int.ofNat a.length) = true := by simp; omega
   have h2 : decide ((0 : Int) ≤ i) = true := by simp
   have : msame_s1 a a (i : Int) = some (.inl ((i + 1 : Nat) : Int)) := by
    unfold msame_s1
    simp only [h1, h2, show IntKind.i64.wrap ((i : Int) + 1) = ((i + 1 : Nat) : Int) from w64_id (by omega) (by omega), decide_true]
    rfl
   rw [loopO_next this]
   exact ih fuel (i + 1) (by omega) (by omega)
 unfold msame
 rw [show (!decide (Int.ofNat a.length = Int.ofNat a.length)) = false by simp]
 exact go a.length 1000000 0 (by omega) (by omega)
theorem allL_len (o : PsH p) : (allL p).length ≤ 100000 := by
 have key : ∀ l : List Int, (l.flatMap (psL p)).length ≤ 320 * l.length := by
  intro l
  induction l with
  | nil => simp
  | cons x l ih =>
   have := psL_len (p := p) (a := x) o.hl
   rw [List.flatMap_cons, List.length_append, List.length_cons]
   omega
 have := key ((List.range p.zs.length).map Int.ofNat)
 rw [List.length_map, List.length_range] at this
 have := o.hl
 unfold allL
 omega
end
end Go.Ab

set_option maxRecDepth 100000
namespace Go.Ab
open Go.Proofs
theorem king_one {f r : Int} {z : List Int} {bl : Bool} {K : Nat} (h : orthBd f r z = true) (hl : z.length ≤ 64) (hK : K < z.length) (h1 : z.getD K 0 = kgP bl) (hu : ∀ i : Nat, i < z.length → z.getD i 0 = kgP bl → i = K) : (kingR f r z bl).2 = 0 ∧ refKing z bl = (K : Int) := by
 have hone : listL z (kgP bl) = [(K : Int)] := filt_one (by simp only [listC, Int.toNat_natCast, h1, decide_true]) _ hK fun i hi hc => hu i hi (by simpa [listC] using hc)
 have hrk : refKing z bl = (K : Int) := by
  unfold refKing
  rw [kg_eq, hone]; rfl
 rcases king_iff (bl := bl) h hl with ⟨h2, _⟩ | ⟨h2, _, _⟩
 ·omega
 ·exact ⟨by rw [h2], hrk⟩
theorem king_uniq {f r : Int} {zs : List Int} {bl : Bool} (h : orthBd f r zs = true) (hl : zs.length ≤ 64) (hk : (kingR f r zs bl).2 = 0) : ∃ K : Nat, K < zs.length ∧ zs.getD K 0 = kgP bl ∧ refKing zs bl = (K : Int) ∧ ∀ i : Nat, i < zs.length → zs.getD i 0 = kgP bl → i = K := by
 rcases king_ref zs bl hl with ⟨h1, _⟩ | ⟨h1, h2, h3, h4, h5, h6⟩
 ·unfold kingR at hk; rw [h, h1] at hk; cases hk
 ·refine ⟨(kingI zs bl).toNat, by omega, h5, by omega, fun i hi he => ?_⟩
  have := h6 i hi he
  omega
theorem own_kg (bl : Bool) : isP (kgP bl) bl = true := by cases bl <;> decide
theorem reaches_king {f r a b occ : Int} (_ha : validB f r a = true) (_hb : validB f r b = true) (h : reachesB f r 6 a b occ = true) : distR f a b = 1 := by
 unfold reachesB at h
 simpa using h
def WayIs (p : Psn) (m : Mov) (n : Nat) (bl : Bool) (bit k to : Int) : Prop := wayN p.zs p.bl p.ca m.a m.b = n ∧ p.bl = bl ∧ u8and p.ca bit ≠ 0 ∧ m.a = k ∧ m.b = to
theorem way_is {p : Psn} {m : Mov} (hn : wayN p.zs p.bl p.ca m.a m.b ≠ 4) : absP (p.zs.getD m.a.toNat 0) = 6 ∧ (WayIs p m 0 false 1 4 6 ∨ WayIs p m 1 false 2 4 2 ∨ WayIs p m 2 true 4 60 62 ∨ WayIs p m 3 true 8 60 58) := by
 unfold WayIs
 cases hk : decide (absP (p.zs.getD m.a.toNat 0) = 6) with
 | false => exact absurd (by unfold wayN; rw [hk]; rfl) hn
 | true =>
  refine ⟨of_decide_eq_true hk, ?_⟩
  cases n1 : (!csSkip p.bl p.ca m.a m.b false 1 4 6) with
  | true =>
   obtain ⟨e1, e2, e3, e4⟩ := sk_iff.1 n1
   exact .inl ⟨by unfold wayN; rw [hk, n1]; rfl, e1.symm, e2, e3.symm, e4.symm⟩
  | false =>
   cases n2 : (!csSkip p.bl p.ca m.a m.b false 2 4 2) with
   | true =>
    obtain ⟨e1, e2, e3, e4⟩ := sk_iff.1 n2
    exact .inr (.inl ⟨by unfold wayN; rw [hk, n1, n2]; rfl, e1.symm, e2, e3.symm, e4.symm⟩)
   | false =>
    cases n3 : (!csSkip p.bl p.ca m.a m.b true 4 60 62) with
    | true =>
     obtain ⟨e1, e2, e3, e4⟩ := sk_iff.1 n3
     exact .inr (.inr (.inl ⟨by unfold wayN; rw [hk, n1, n2, n3]; rfl, e1.symm, e2, e3.symm, e4.symm⟩))
    | false =>
     cases n4 : (!csSkip p.bl p.ca m.a m.b true 8 60 58) with
     | true =>
      obtain ⟨e1, e2, e3, e4⟩ := sk_iff.1 n4
      exact .inr (.inr (.inr ⟨by unfold wayN; rw [hk, n1, n2, n3, n4]; rfl, e1.symm, e2, e3.symm, e4.symm⟩))
     | false => exact absurd (by unfold wayN; rw [hk, n1, n2, n3, n4]; rfl) hn
section
variable {p : Psn} {m : Mov}
theorem MvOk.kU (o : MvOk p m) : ∃ K : Nat, K < p.zs.length ∧ p.zs.getD K 0 = kgP p.bl ∧ refKing p.zs p.bl = (K : Int) ∧ ∀ i : Nat, i < p.zs.length → p.zs.getD i 0 = kgP p.bl → i = K := by
 have := o.kings
 simp only [kingsB, Bool.and_eq_true, decide_eq_true_eq] at this
 exact king_uniq o.h o.hl this.1.1
theorem MvOk.pr0 (o : MvOk p m) (hk : kind8 (p.zs.getD m.a.toNat 0) ≠ 1) : m.p = 0 := by
 have := o.so
 simp only [err3, Bool.or_eq_false_iff] at this
 have hg := goes_eq (bl := p.bl) (_ca := p.ca) (pa := p.pa) (pr := m.p) o.h o.hl o.ha o.hb o.hp
 rw [decide_eq_false hk, cond_false] at hg
 rw [hg] at this
 by_cases h : m.p = 0
 ·exact h
 ·rw [decide_eq_false h] at this; simp at this
theorem MvOk.wayg (o : MvOk p m) (hn : wayN p.zs p.bl p.ca m.a m.b ≠ 4) : kind8 (p.zs.getD m.a.toNat 0) = 6 ∧ m.p = 0 ∧ goesB p.f p.r p.zs p.bl p.pa m.a m.b m.p = false := by
 obtain ⟨hk6, hsq⟩ := way_is hn
 have hk : kind8 (p.zs.getD m.a.toNat 0) = 6 := by rw [← o.kd]; exact hk6
 have hp0 : m.p = 0 := o.pr0 (by rw [hk]; decide)
 refine ⟨hk, hp0, ?_⟩
 rw [goes_eq (_ca := p.ca) o.h o.hl o.ha o.hb o.hp, hk, hp0]
 simp only [decide_true, Bool.true_and]
 cases hr : reachesB p.f p.r 6 m.a m.b (occL p.zs) with
 | false => rfl
 | true =>
  exfalso
  have hd := reaches_king o.ha o.hb hr
  obtain ⟨h88, _⟩ := cast_88 (a := m.a) (b := m.b) (bl := p.bl) o.bd o.cast hn
  simp only [is88, Bool.and_eq_true, decide_eq_true_eq] at h88
  rw [h88.1] at hd
  rcases hsq with ⟨_, _, _, e1, e2⟩ | ⟨_, _, _, e1, e2⟩ | ⟨_, _, _, e1, e2⟩ | ⟨_, _, _, e1, e2⟩ <;> rw [e1, e2] at hd <;> exact absurd hd (by decide)
theorem MvOk.way (o : MvOk p m) (hw : wayB p.f p.r p.zs (wayN p.zs p.bl p.ca m.a m.b) = true) : kind8 (p.zs.getD m.a.toNat 0) = 6 ∧ m.p = 0 ∧ goesB p.f p.r p.zs p.bl p.pa m.a m.b m.p = false ∧
  (cgL p.f p.r p.zs p.bl p.ca m.a m.b m.p ≠ 0) ∧ sqW (cgL p.f p.r p.zs p.bl p.ca m.a m.b m.p) 2 = wCor (wayN p.zs p.bl p.ca m.a m.b) ∧ sqW (cgL p.f p.r p.zs p.bl p.ca m.a m.b m.p) 3 = wCro (wayN p.zs p.bl p.ca m.a m.b) := by
 have hn : wayN p.zs p.bl p.ca m.a m.b ≠ 4 := by intro e; rw [e] at hw; simp [wayB] at hw
 obtain ⟨hk, hp0, hg⟩ := o.wayg hn
 obtain ⟨w1, w2⟩ := way_cg (bl := p.bl) (b := m.b) (pr := m.p) o.h o.hl o.cast o.ca o.sq.1.1 o.sq.1.2
 rw [hw, hp0] at w1
 rw [hp0] at w2 hg ⊢
 have hc : (!decide (cgL p.f p.r p.zs p.bl p.ca m.a m.b 0 = 0)) = true := w1
 obtain ⟨s1, s2, _⟩ := w2 hc
 exact ⟨hk, rfl, hg, by simpa using hc, s1, s2⟩
theorem MvOk.noway (o : MvOk p m) (hw : wayB p.f p.r p.zs (wayN p.zs p.bl p.ca m.a m.b) = false) : cgL p.f p.r p.zs p.bl p.ca m.a m.b m.p = 0 := by
 obtain ⟨w1, _⟩ := way_cg (bl := p.bl) (b := m.b) (pr := m.p) o.h o.hl o.cast o.ca o.sq.1.1 o.sq.1.2
 rw [hw, Bool.and_false] at w1
 simpa using w1
theorem sgn_own {n : Int} {bl : Bool} (h : isP n bl = true) : sgn n = sdI bl := by rw [isP_sgn] at h; exact of_decide_eq_true h
theorem MvOk.af (o : MvOk p m) : afZ p.f p.r p.zs p.bl p.ca p.pa m.a m.b m.p = zs3R p.f p.r p.zs p.bl p.ca p.pa m.a m.b m.p := by
 have h1 : afZ1 p.f p.r p.zs p.pa m.a m.b = zs1R p.f p.zs p.pa m.a m.b := by unfold afZ1 zs1R; rw [o.cap.1]
 have h2 : afZ2 p.f p.r p.zs p.pa m.a m.b = zs2R p.f p.zs p.pa m.a m.b := by unfold afZ2 zs2R; rw [h1]
 unfold afZ zs3R putR afZ3
 rw [h2]
 by_cases hp : m.p = 0
 ·rw [hp]
  simp only [decide_true, Bool.not_true, Bool.false_and, cond_false]
  cases hw : wayB p.f p.r p.zs (wayN p.zs p.bl p.ca m.a m.b) with
  | true =>
   obtain ⟨_, _, g, c, s1, s2⟩ := o.way hw
   rw [hp] at g c s1 s2
   unfold cstR afZ4
   rw [hw, g, s1, s2, decide_eq_false c]; rfl
  | false =>
   have hc := o.noway hw
   rw [hp] at hc
   unfold cstR afZ4
   rw [hw, hc]; rfl
 ·have hpr : 2 ≤ m.p ∧ m.p ≤ 5 := o.hpr.resolve_left hp
  have hc : cgL p.f p.r p.zs p.bl p.ca m.a m.b m.p = 0 := by unfold cgL; rw [decide_eq_false hp]; simp
  rw [hc, decide_eq_false hp]
  simp only [Bool.not_false, Bool.true_and, cond_true]
  have hs := sgn_own o.hp
  unfold afZ4
  rw [hs]
  cases p.bl with
  | true =>
   have : w8 (m.p * w8 (sdI true)) = w8 (0 - m.p) := by
    rw [show w8 (sdI true) = -1 by decide]; congr 1; omega
   rw [this]; rfl
  | false =>
   have : w8 (m.p * w8 (sdI false)) = m.p := by
    rw [show w8 (sdI false) = 1 by decide, Int.mul_one]; exact w8_in (by omega) (by omega)
   rw [this]; rfl
end
end Go.Ab

set_option maxRecDepth 100000
namespace Go.Ab
open Go.Proofs
section
variable {p : Psn} {m : Mov}
theorem can_mvok (o : PsH p) (h : canM p m.a m.b m.p = true) : MvOk p m := by
 unfold canM at h
 simp only [Bool.and_eq_true, Bool.not_eq_true'] at h
 obtain ⟨⟨hmv, hp⟩, he⟩ := h
 simp only [mvB, Bool.and_eq_true, Bool.or_eq_true, decide_eq_true_eq, Bool.not_eq_true', decide_eq_false_iff_not] at hmv
 obtain ⟨⟨⟨ha, hb⟩, hab⟩, hpr⟩ := hmv
 exact ⟨o.h, o.hl, o.ok, o.ca, ha, hb, hab, hpr, hp, he⟩
theorem imax_or (x y : Int) : imax true x y = x ∨ imax true x y = y := by
 unfold imax
 dsimp only
 cases decide (x < y)
 ·exact .inl rfl
 ·exact .inr rfl
theorem abs_ge {n : Int} (h1 : -8 ≤ n) (h2 : n ≤ 8) : n ≤ absI n ∧ -n ≤ absI n := by
 unfold absI
 by_cases h : n < 0
 ·rw [decide_eq_true h, cond_true, w64_id (by omega) (by omega)]; omega
 ·rw [decide_eq_false h, cond_false]; omega
theorem dist_one {f r a b : Int} (ha : validB f r a = true) (hb : validB f r b = true) : ∃ d : Int, sdist ⟨f, r⟩ a b = some (d, 0) ∧ (distR f a b = 1 → d ≠ 2) := by
 obtain ⟨a0, a1, a2, a3, a4, a5, a6, a7, a8, a9⟩ := px_bd ha
 obtain ⟨b0, b1, b2, b3, b4, b5, _⟩ := px_bd hb
 have pa : placeR f r a = (px f a, py f a, 0) := by unfold placeR; rw [ha, cond_true, a0]
 have pb : placeR f r b = (px f b, py f b, 0) := by unfold placeR; rw [hb, cond_true, b0]
 refine ⟨imax true (imax true (imax true (IntKind.i64.wrap (px f a - px f b)) (IntKind.i64.wrap (px f b - px f a))) (IntKind.i64.wrap (py f a - py f b))) (IntKind.i64.wrap (py f b - py f a)), ?_, ?_⟩
 ·unfold sdist
  rw [pa, pb]
  rfl
 ·intro h hd
  unfold distR at h
  rw [a0, b0, show a.tmod f = px f a from rfl, show b.tmod f = px f b from rfl, w64_id (n := py f a - py f b) (by omega) (by omega), w64_id (n := px f a - px f b) (by omega) (by omega)] at h
  rw [w64_id (n := px f a - px f b) (by omega) (by omega), w64_id (n := px f b - px f a) (by omega) (by omega), w64_id (n := py f a - py f b) (by omega) (by omega), w64_id (n := py f b - py f a) (by omega) (by omega)] at hd
  have gx := abs_ge (n := px f a - px f b) (by omega) (by omega)
  have gy := abs_ge (n := py f a - py f b) (by omega) (by omega)
  have hx : absI (px f a - px f b) ≤ 1 ∧ absI (py f a - py f b) ≤ 1 := by
   by_cases hc : absI (py f a - py f b) < absI (px f a - px f b)
   ·rw [decide_eq_true hc, cond_true] at h; omega
   ·rw [decide_eq_false hc, cond_false] at h; omega
  have o1 := imax_or (px f a - px f b) (px f b - px f a)
  have o2 := imax_or (imax true (px f a - px f b) (px f b - px f a)) (py f a - py f b)
  have o3 := imax_or (imax true (imax true (px f a - px f b) (px f b - px f a)) (py f a - py f b)) (py f b - py f a)
  omega
theorem MvOk.castles (o : MvOk p m) : ∃ d : Int, sdist ⟨p.f, p.r⟩ m.a m.b = some (d, 0) ∧ (decide (absP (p.zs.getD m.a.toNat 0) = 6) && decide (d = 2)) = !decide (cgL p.f p.r p.zs p.bl p.ca m.a m.b m.p = 0) := by
 cases hw : wayB p.f p.r p.zs (wayN p.zs p.bl p.ca m.a m.b) with
 | true =>
  have hn : wayN p.zs p.bl p.ca m.a m.b ≠ 4 := by intro e; rw [e] at hw; simp [wayB] at hw
  obtain ⟨hk, _, _, hc, _⟩ := o.way hw
  obtain ⟨h88, _⟩ := cast_88 (a := m.a) (b := m.b) (bl := p.bl) o.bd o.cast hn
  simp only [is88, Bool.and_eq_true, decide_eq_true_eq] at h88
  obtain ⟨_, hsq⟩ := way_is hn
  refine ⟨2, ?_, by rw [o.kd, decide_eq_true hk, decide_eq_false hc]; rfl⟩
  rw [h88.1, h88.2]
  rcases hsq with ⟨_, _, _, e1, e2⟩ | ⟨_, _, _, e1, e2⟩ | ⟨_, _, _, e1, e2⟩ | ⟨_, _, _, e1, e2⟩ <;> rw [e1, e2] <;> decide
 | false =>
  have hc := o.noway hw
  obtain ⟨d, h1, h2⟩ := dist_one o.ha o.hb
  refine ⟨d, h1, ?_⟩
  rw [o.kd, decide_eq_true hc]
  cases hk : decide (kind8 (p.zs.getD m.a.toNat 0) = 6) with
  | false => rfl
  | true =>
   have hk6 := of_decide_eq_true hk
   have hso := o.so
   simp only [err3, hw, Bool.not_false, Bool.true_or, Bool.and_true, Bool.or_eq_false_iff, Bool.not_eq_false'] at hso
   have hg := hso.2
   rw [goes_eq (_ca := p.ca) o.h o.hl o.ha o.hb o.hp, hk6] at hg
   have hg : (decide (m.p = 0) && reachesB p.f p.r 6 m.a m.b (occL p.zs)) = true := hg
   rw [Bool.and_eq_true] at hg
   have := h2 (reaches_king o.ha o.hb hg.2)
   rw [decide_eq_false this]; rfl
end
end Go.Ab

set_option maxRecDepth 100000
namespace Go.Ab
open Go.Proofs
theorem getD_setn {l : List Int} {j i : Nat} {v : Int} (hi : i < l.length) : (l.set j v).getD i 0 = if i = j then v else l.getD i 0 := by
 by_cases e : i = j
 ·subst e; simp [List.getD, hi]
 ·rw [if_neg e]; simp [List.getD, List.getElem?_set_ne (Ne.symm e)]
theorem orth_setn {f r : Int} {zs : List Int} {j : Nat} {v : Int} (h : orthBd f r zs = true) (hv : -6 ≤ v ∧ v ≤ 6) : orthBd f r (zs.set j v) = true := by
 have := orth_set (j := (j : Int)) h hv
 rwa [Int.toNat_natCast] at this
theorem getD_bd {f r : Int} {zs : List Int} (h : orthBd f r zs = true) (i : Nat) : -6 ≤ zs.getD i 0 ∧ zs.getD i 0 ≤ 6 := by
 by_cases hi : i < zs.length
 ·exact (orth_valid h).2.2.2 _ (getD_mem hi)
 ·simp [List.getD, List.getElem?_eq_none (by omega : zs.length ≤ i)]
theorem kind_kg {n : Int} {bl : Bool} (h : -6 ≤ n ∧ n ≤ 6) (hp : isP n bl = true) (hk : kind8 n = 6) : n = kgP bl := by
 rw [kind_abs h] at hk
 have : n = 6 ∨ n = -6 := by omega
 rcases this with rfl | rfl <;> cases bl <;> first | rfl | (revert hp; decide)
section
variable {p : Psn} {m : Mov}
theorem MvOk.z1 (o : MvOk p m) : orthBd p.f p.r (zs1R p.f p.zs p.pa m.a m.b) = true ∧ ∀ i : Nat, i < p.zs.length → (zs1R p.f p.zs p.pa m.a m.b).getD i 0 = p.zs.getD i 0 ∨ ((zs1R p.f p.zs p.pa m.a m.b).getD i 0 = 0 ∧ isP (p.zs.getD i 0) p.bl = false) := by
 unfold zs1R
 cases hc : decide (0 ≤ at2R p.f p.zs p.pa m.a m.b) with
 | false => exact ⟨o.h, fun i _ => .inl rfl⟩
 | true =>
  obtain ⟨c1, c2, c3, _⟩ := o.cap.2.1 (of_decide_eq_true hc)
  refine ⟨orth_setn o.h (by omega), fun i hi => ?_⟩
  rw [cond_true, getD_setn hi]
  by_cases e : i = (at2R p.f p.zs p.pa m.a m.b).toNat
  ·right
   rw [if_pos e, e]
   refine ⟨rfl, ?_⟩
   rw [isP_sgn] at c2 ⊢
   rw [of_decide_eq_true c2]
   cases p.bl <;> decide
  ·left; rw [if_neg e]
theorem MvOk.z2 (o : MvOk p m) : orthBd p.f p.r (zs2R p.f p.zs p.pa m.a m.b) = true ∧ ∀ i : Nat, i < p.zs.length → (zs2R p.f p.zs p.pa m.a m.b).getD i 0 = if i = m.b.toNat then p.zs.getD m.a.toNat 0 else if i = m.a.toNat then 0 else (zs1R p.f p.zs p.pa m.a m.b).getD i 0 := by
 have hl := zs1_len (f := p.f) (zs := p.zs) (pa := p.pa) (a := m.a) (b := m.b)
 refine ⟨orth_setn (orth_setn o.z1.1 (by omega)) (getD_bd o.h _), fun i hi => ?_⟩
 unfold zs2R
 rw [getD_setn (by rw [List.length_set, hl]; exact hi), getD_setn (by rw [hl]; exact hi)]
theorem MvOk.z3 (o : MvOk p m) : orthBd p.f p.r (zs3R p.f p.r p.zs p.bl p.ca p.pa m.a m.b m.p) = true ∧ (kingR p.f p.r (zs3R p.f p.r p.zs p.bl p.ca p.pa m.a m.b m.p) p.bl).2 = 0 := by
 obtain ⟨⟨sa0, sa1⟩, ⟨sb0, sb1⟩⟩ := o.sq
 obtain ⟨z2o, z2g⟩ := o.z2
 obtain ⟨K, k1, k2, _, k4⟩ := o.kU
 have hlen := zs3_len (f := p.f) (r := p.r) (zs := p.zs) (bl := p.bl) (ca := p.ca) (pa := p.pa) (a := m.a) (b := m.b) (pr := m.p)
 have hl2 := zs2_len (f := p.f) (zs := p.zs) (pa := p.pa) (a := m.a) (b := m.b)
 have hkb : K ≠ m.b.toNat := by intro e; have h1 := own_kg p.bl; rw [← k2, e, o.nto] at h1; cases h1
 have kz : (0 : Int) ≠ kgP p.bl := by cases p.bl <;> decide
 have hK1 : (zs1R p.f p.zs p.pa m.a m.b).getD K 0 = kgP p.bl := by
  rcases o.z1.2 K k1 with h | ⟨_, h⟩
  ·rw [h, k2]
  ·rw [k2, own_kg] at h; cases h
 have h1U : ∀ i : Nat, i < p.zs.length → (zs1R p.f p.zs p.pa m.a m.b).getD i 0 = kgP p.bl → i = K := by
  intro i hi he
  rcases o.z1.2 i hi with h | ⟨h, _⟩
  ·rw [h] at he; exact k4 i hi he
  ·rw [h] at he; exact absurd he kz
 -- a board that is like zs2R but for a piece that is put down
 have fin : ∀ (z : List Int) (v : Int), z.length = p.zs.length → (∀ i : Nat, i < p.zs.length → z.getD i 0 = if i = m.b.toNat then v else if i = m.a.toNat then 0 else (zs1R p.f p.zs p.pa m.a m.b).getD i 0) → orthBd p.f p.r z = true → (v = kgP p.bl ↔ K = m.a.toNat) → (kingR p.f p.r z p.bl).2 = 0 := by
  intro z v hzl hz hzo hv
  by_cases hKa : K = m.a.toNat
  ·refine (king_one (K := m.b.toNat) hzo (by rw [hzl]; exact o.hl) (by omega) ?_ fun i hi he => ?_).1
   ·rw [hz _ (by omega), if_pos rfl]; exact hv.2 hKa
   ·rw [hz _ (by omega)] at he
    by_cases e : i = m.b.toNat
    ·exact e
    ·rw [if_neg e] at he
     by_cases e2 : i = m.a.toNat
     ·rw [if_pos e2] at he; exact absurd he kz
     ·rw [if_neg e2] at he; exact absurd ((h1U i (by omega) he).trans hKa) e2
  ·refine (king_one (K := K) hzo (by rw [hzl]; exact o.hl) (by omega) ?_ fun i hi he => ?_).1
   ·rw [hz _ k1, if_neg hkb, if_neg hKa, hK1]
   ·rw [hz _ (by omega)] at he
    by_cases e : i = m.b.toNat
    ·rw [if_pos e] at he; exact absurd (hv.1 he) hKa
    ·rw [if_neg e] at he
     by_cases e2 : i = m.a.toNat
     ·rw [if_pos e2] at he; exact absurd he kz
     ·rw [if_neg e2] at he; exact h1U i (by omega) he
 have haK : p.zs.getD m.a.toNat 0 = kgP p.bl ↔ K = m.a.toNat := ⟨fun h => (k4 _ (by omega) h).symm, fun h => by rw [← h, k2]⟩
 unfold zs3R putR
 by_cases hp : m.p = 0
 ·rw [decide_eq_true hp]
  simp only [Bool.not_true, Bool.false_and, cond_false]
  cases hw : wayB p.f p.r p.zs (wayN p.zs p.bl p.ca m.a m.b) with
  | false =>
   unfold cstR
   rw [hw]
   exact ⟨z2o, fin _ _ hl2 z2g z2o haK⟩
  | true =>
   obtain ⟨hk6, _, g, _, _, _⟩ := o.way hw
   have hn : wayN p.zs p.bl p.ca m.a m.b ≠ 4 := by intro e; rw [e] at hw; simp [wayB] at hw
   obtain ⟨h88, h64, w1, w2, w3, w4⟩ := cast_88 (a := m.a) (b := m.b) (bl := p.bl) o.bd o.cast hn
   unfold cstR
   rw [hw, g]
   simp only [Bool.not_false, Bool.and_self, cond_true]
   have hpiece : p.zs.getD m.a.toNat 0 = kgP p.bl := kind_kg (getD_bd o.h _) o.hp hk6
   have hKa := haK.1 hpiece
   -- the rook
   have hrook : p.zs.getD (wCor (wayN p.zs p.bl p.ca m.a m.b)).toNat 0 = ofP 4 p.bl ∧ wCor (wayN p.zs p.bl p.ca m.a m.b) ≠ m.a ∧ wCor (wayN p.zs p.bl p.ca m.a m.b) ≠ m.b ∧ wCro (wayN p.zs p.bl p.ca m.a m.b) ≠ m.b ∧ wCro (wayN p.zs p.bl p.ca m.a m.b) ≠ m.a := by
    have hcs := o.cast
    simp only [castB, Bool.and_eq_true, Bool.not_eq_true', decide_eq_true_eq] at hcs
    obtain ⟨⟨⟨⟨c1, c2⟩, c3⟩, c4⟩, c5⟩ := hcs
    unfold wayN at hn ⊢
    rw [o.kd, hk6] at hn ⊢
    cases n1 : (!csSkip p.bl p.ca m.a m.b false 1 4 6) with
    | true =>
     obtain ⟨e1, e2, e3, e4⟩ := sk_iff.1 n1
     obtain ⟨_, _, _, e5⟩ := right_88 c1 e2
     rw [← e1, ← e3, ← e4]
     exact ⟨e5, show (7 : Int) ≠ 4 by decide, show (7 : Int) ≠ 6 by decide, show (5 : Int) ≠ 6 by decide, show (5 : Int) ≠ 4 by decide⟩
    | false =>
     cases n2 : (!csSkip p.bl p.ca m.a m.b false 2 4 2) with
     | true =>
      obtain ⟨e1, e2, e3, e4⟩ := sk_iff.1 n2
      obtain ⟨_, _, _, e5⟩ := right_88 c2 e2
      rw [← e1, ← e3, ← e4]
      exact ⟨e5, show (0 : Int) ≠ 4 by decide, show (0 : Int) ≠ 2 by decide, show (3 : Int) ≠ 2 by decide, show (3 : Int) ≠ 4 by decide⟩
     | false =>
      cases n3 : (!csSkip p.bl p.ca m.a m.b true 4 60 62) with
      | true =>
       obtain ⟨e1, e2, e3, e4⟩ := sk_iff.1 n3
       obtain ⟨_, _, _, e5⟩ := right_88 c3 e2
       rw [← e1, ← e3, ← e4]
       exact ⟨e5, show (63 : Int) ≠ 60 by decide, show (63 : Int) ≠ 62 by decide, show (61 : Int) ≠ 62 by decide, show (61 : Int) ≠ 60 by decide⟩
      | false =>
       cases n4 : (!csSkip p.bl p.ca m.a m.b true 8 60 58) with
       | true =>
        obtain ⟨e1, e2, e3, e4⟩ := sk_iff.1 n4
        obtain ⟨_, _, _, e5⟩ := right_88 c4 e2
        rw [← e1, ← e3, ← e4]
        exact ⟨e5, show (56 : Int) ≠ 60 by decide, show (56 : Int) ≠ 58 by decide, show (59 : Int) ≠ 58 by decide, show (59 : Int) ≠ 60 by decide⟩
       | false => rw [n1, n2, n3, n4] at hn; exact absurd rfl hn
   obtain ⟨r1, r2, r3, r4, r5⟩ := hrook
   have hro : orthBd p.f p.r (((zs2R p.f p.zs p.pa m.a m.b).set (wCro (wayN p.zs p.bl p.ca m.a m.b)).toNat ((zs2R p.f p.zs p.pa m.a m.b).getD (wCor (wayN p.zs p.bl p.ca m.a m.b)).toNat 0)).set (wCor (wayN p.zs p.bl p.ca m.a m.b)).toNat 0) = true := orth_setn (orth_setn z2o (getD_bd z2o _)) (by omega)
   refine ⟨hro, (king_one (K := m.b.toNat) hro (by simp only [List.length_set, hl2]; exact o.hl) (by simp only [List.length_set, hl2]; omega) ?_ fun i hi he => ?_).1⟩
   ·rw [getD_setn (by simp only [List.length_set, hl2]; omega), if_neg (by omega), getD_setn (by rw [hl2]; omega), if_neg (by omega), z2g _ (by omega), if_pos rfl, hpiece]
   ·simp only [List.length_set, hl2] at hi
    rw [getD_setn (by simp only [List.length_set, hl2]; omega)] at he
    by_cases e1 : i = (wCor (wayN p.zs p.bl p.ca m.a m.b)).toNat
    ·rw [if_pos e1] at he; exact absurd he kz
    ·rw [if_neg e1, getD_setn (by rw [hl2]; omega)] at he
     by_cases e2 : i = (wCro (wayN p.zs p.bl p.ca m.a m.b)).toNat
     ·exfalso
      rw [if_pos e2, z2g _ (by omega), if_neg (by omega), if_neg (by omega)] at he
      rcases o.z1.2 (wCor (wayN p.zs p.bl p.ca m.a m.b)).toNat (by omega) with h | ⟨h, _⟩
      ·rw [h, r1] at he; revert he; cases p.bl <;> decide
      ·rw [h] at he; exact kz he
     ·rw [if_neg e2, z2g _ hi] at he
      by_cases e : i = m.b.toNat
      ·exact e
      ·rw [if_neg e] at he
       by_cases e3 : i = m.a.toNat
       ·rw [if_pos e3] at he; exact absurd he kz
       ·rw [if_neg e3] at he; exact absurd ((h1U i hi he).trans hKa) e3
 ·have hpr : 2 ≤ m.p ∧ m.p ≤ 5 := o.hpr.resolve_left hp
  have hk1 : kind8 (p.zs.getD m.a.toNat 0) = 1 := by
   by_cases h : kind8 (p.zs.getD m.a.toNat 0) = 1
   ·exact h
   ·exact absurd (o.pr0 h) hp
  have hnK : ¬ K = m.a.toNat := fun e => by
   have := haK.2 e
   rw [this] at hk1
   revert hk1; cases p.bl <;> decide
  rw [decide_eq_false hp]
  simp only [Bool.not_false, Bool.true_and, cond_true]
  have hput : ∀ v : Int, -6 ≤ v ∧ v ≤ 6 → v ≠ kgP p.bl → orthBd p.f p.r ((zs2R p.f p.zs p.pa m.a m.b).set m.b.toNat v) = true ∧ (kingR p.f p.r ((zs2R p.f p.zs p.pa m.a m.b).set m.b.toNat v) p.bl).2 = 0 := by
   intro v hv hvk
   have hzo := orth_setn (j := m.b.toNat) z2o hv
   refine ⟨hzo, fin _ v (by rw [List.length_set, hl2]) (fun i hi => ?_) hzo ⟨fun h => absurd h hvk, fun h => absurd h hnK⟩⟩
   rw [getD_setn (by rw [hl2]; exact hi), z2g i hi]
   by_cases e : i = m.b.toNat <;> simp [e]
  have hkg : kgP p.bl = 6 ∨ kgP p.bl = -6 := by cases p.bl <;> simp [kgP]
  have hw : w8 (0 - m.p) = -m.p := by rw [w8_in (by omega) (by omega)]; omega
  have key : ∀ v, v = m.p ∨ v = -m.p → _ := fun v hv => hput v (by omega) (by omega)
  cases hb : p.bl with
  | true =>
   have := key (-m.p) (.inr rfl)
   rw [hb] at this
   simp only [cond_true, hw]
   exact this
  | false =>
   have := key m.p (.inl rfl)
   rw [hb] at this
   simp only [cond_false]
   exact this
theorem MvOk.safe (o : MvOk p m) : sfL p m = !err4 p m := by
 obtain ⟨z1, z2⟩ := o.z3
 have hz64 : (zs3R p.f p.r p.zs p.bl p.ca p.pa m.a m.b m.p).length ≤ 64 := by rw [zs3_len]; exact o.hl
 have hkk := o.kings
 simp only [kingsB, Bool.and_eq_true, decide_eq_true_eq] at hkk
 have hzs : (afP p m).zs = zs3R p.f p.r p.zs p.bl p.ca p.pa m.a m.b m.p := o.af
 unfold sfL err4
 rw [hzs, chk_eq z1 hz64 z2, chk_eq o.h o.hl hkk.1.1]
 cases chkB p.f p.r (zs3R p.f p.r p.zs p.bl p.ca p.pa m.a m.b m.p) p.bl with
 | true => rfl
 | false =>
  cases hw : wayB p.f p.r p.zs (wayN p.zs p.bl p.ca m.a m.b) with
  | false =>
   have : cstR p.f p.r p.zs p.bl p.ca p.pa m.a m.b m.p = false := by unfold cstR; rw [hw]; rfl
   rw [this, o.noway hw]; rfl
  | true =>
   obtain ⟨_, _, g, c, _, s2⟩ := o.way hw
   have hn : wayN p.zs p.bl p.ca m.a m.b ≠ 4 := by intro e; rw [e] at hw; simp [wayB] at hw
   obtain ⟨h88, h64, _, _, w3, w4⟩ := cast_88 (a := m.a) (b := m.b) (bl := p.bl) o.bd o.cast hn
   have hcst : cstR p.f p.r p.zs p.bl p.ca p.pa m.a m.b m.p = true := by unfold cstR; rw [hw, g]; rfl
   have hv : validB p.f p.r (wCro (wayN p.zs p.bl p.ca m.a m.b)) = true := (bd_sq o.bd).2 ⟨w3, by omega⟩
   rw [hcst, decide_eq_false c, s2]
   simp only [cond_false, Bool.false_or, Bool.true_and, Bool.not_or, Bool.not_not]
   congr 1
   unfold attackersR
   rw [o.h, hv]
   simp only [Bool.and_self, cond_true]
   rw [att_zero o.h o.hl hv]
end
end Go.Ab

set_option maxRecDepth 100000
namespace Go.Ab
open Go.Proofs
section
variable {p : Psn} {m : Mov}
def legM (p : Psn) (m : Mov) : Bool := canM p m.a m.b m.p && !err4 p m
theorem keep_eq (hok : p.ok = true) (hmv : mvB p.f p.r m.a m.b m.p = true) : (decide (mkE5 p m = 0) || decide (mkE5 p m = 7)) = legM p m := by
 have h1 : err1 p m = false := by unfold err1; rw [hok, hmv]; rfl
 unfold mkE5 legM canM
 rw [h1, hmv]
 cases isP (p.zs.getD m.a.toNat 0) p.bl with
 | false => rfl
 | true =>
  have he : err3 p ⟨m.a, m.b, m.p⟩ = err3 p m := rfl
  rw [he]
  cases err3 p m with
  | true => rfl
  | false => cases err4 p m <;> cases err5 p m <;> rfl
theorem safe_eq (o : PsH p) (hc : canM p m.a m.b m.p = true) : sfL p m = !err4 p m := (can_mvok o hc).safe
end
end Go.Ab

set_option maxRecDepth 100000
set_option maxHeartbeats 4000000
namespace Go.Ab
open Go.Proofs
variable {kCa kDb : Bool}
def keeps (p : Psn) (m : Mov) : Option (Bool) := let x5 := List.take p.zs.length (List.drop 0 p.zs); let x3 := mkE5 (Psn.mk p.f p.r x5 p.bl p.ca p.pa p.ha p.fu) (Mov.mk m.a m.b m.p); let x4 := x5.length; needO (decide (x4 ≤ 64)) (some (decide (x3 = 0) || decide (x3 = 7)))
def keeps_V (R : Bool) : V := Bb R
def keeps_N (_R : Bool) : List O := []
def c_keeps : CF
 | [.agg [.int .i64 p_0, .int .i64 p_1, .sl 0 0 p_2n none, .bool p_3, .int .u8 p_4, .int .i64 p_5, .int .i64 p_6, .int .i64 p_7], .agg [.int .i64 m_0, .int .i64 m_1, .int .i8 m_2]], [.ints false .i8 p_2] => retC (decide (p_2n = p_2.length)) (keeps ⟨p_0, p_1, p_2, p_3, p_4, p_5, p_6, p_7⟩ ⟨m_0, m_1, m_2⟩) false keeps_V keeps_N
 | _, _ => none
theorem keeps_snd (p : Psn) (m : Mov) {r} (hr : keeps p m = some r) : FnSound (GGx true kDb) PP 42 [.agg [.int .i64 p.f, .int .i64 p.r, .sl 0 0 p.zs.length none, Bb p.bl, .int .u8 p.ca, .int .i64 p.pa, .int .i64 p.ha, .int .i64 p.fu], .agg [.int .i64 m.a, .int .i64 m.b, .int .i8 m.p]] [.ints false .i8 p.zs] (keeps_V r) (keeps_N r) := by
 have hE := cutE (EE_ok (kCa := true) (kDb := kDb) (cts := [(60, c_make)]) (inl := []) ⟨c_make_ok, trivial⟩ trivial)
 refine so_fn hE 2 Tryz.func42 rfl rfl keeps_V keeps_N hr ?_ rfl rfl
 refine so_as (pl (decide_eq_true (win_len rfl)) id) ?_
 refine so_triv (Bool.not_or_self _) ?_
 refine so_triv (Bool.or_not_self _) ?_
 exact so_ret (fin_bs [] (.inr rfl) rfl rfl rfl rfl rfl)
theorem c_keeps_ok : CtOk (GGx true kDb) PP (42, c_keeps) := by
 refine ct_mk Tryz.func42 (by kernel_rfl) rfl fun a0 h0 c0 v0 N0 e hc => ?_
 unfold c_keeps at e
 split at e
 ·rename_i p_0 p_1 p_2n p_3 p_4 p_5 p_6 p_7 m_0 m_1 m_2 p_2
  obtain ⟨hl, r, hr, rfl, rfl⟩ := ret_ok e hc
  simp only [decide_eq_true_eq] at hl
  obtain rfl := hl
  exact keeps_snd ⟨p_0, p_1, p_2, p_3, p_4, p_5, p_6, p_7⟩ ⟨m_0, m_1, m_2⟩ hr
 ·cases e
def small10 (p : Psn) : Option (Bool) := some (decide (Int.ofNat p.zs.length ≤ 64))
def small10_V (R : Bool) : V := Bb R
def small10_N (_R : Bool) : List O := []
def c_small10 : CF
 | [.agg [.int .i64 p_0, .int .i64 p_1, .sl 0 0 p_2n none, .bool p_3, .int .u8 p_4, .int .i64 p_5, .int .i64 p_6, .int .i64 p_7]], [.ints false .i8 p_2] => retC (decide (p_2n = p_2.length)) (small10 ⟨p_0, p_1, p_2, p_3, p_4, p_5, p_6, p_7⟩) false small10_V small10_N
 | _, _ => none
theorem small10_snd (p : Psn) {r} (hr : small10 p = some r) : FnSound (GGx kCa kDb) PP 8 [.agg [.int .i64 p.f, .int .i64 p.r, .sl 0 0 p.zs.length none, Bb p.bl, .int .u8 p.ca, .int .i64 p.pa, .int .i64 p.ha, .int .i64 p.fu]] [.ints false .i8 p.zs] (small10_V r) (small10_N r) := by
 have hE := cutE (EE_ok (kCa := kCa) (kDb := kDb) (cts := []) (inl := []) trivial trivial)
 refine so_fn hE 2 Tryz.func8 rfl rfl small10_V small10_N hr ?_ rfl rfl
 exact so_ret (fin_bs [] (.inr rfl) rfl rfl rfl rfl rfl)
theorem c_small10_ok : CtOk (GGx kCa kDb) PP (8, c_small10) := by
 refine ct_mk Tryz.func8 (by kernel_rfl) rfl fun a0 h0 c0 v0 N0 e hc => ?_
 unfold c_small10 at e
 split at e
 ·rename_i p_0 p_1 p_2n p_3 p_4 p_5 p_6 p_7 p_2
  obtain ⟨hl, r, hr, rfl, rfl⟩ := ret_ok e hc
  simp only [decide_eq_true_eq] at hl
  obtain rfl := hl
  exact small10_snd ⟨p_0, p_1, p_2, p_3, p_4, p_5, p_6, p_7⟩ hr
 ·cases e
end Go.Ab

set_option maxRecDepth 100000
set_option maxHeartbeats 4000000
namespace Go.Ab
open Go.Proofs
noncomputable abbrev Ea : Env := EE true true [(14, c_rvalid), (133, c_Parse), (134, c_Name), (27, c_rOf), (182, c_pletter), (165, c_pparse), (132, c_cast6)] []
theorem Ea_ok : Ea.Fn PP := EE_ok ⟨c_rvalid_ok, c_Parse_ok, c_Name_ok, c_rOf_ok, c_pletter_ok, c_pparse_ok, c_cast6_ok, trivial⟩ trivial
noncomputable abbrev xsa : List (FuncId × Func) := [(36, Tryz.f36), (73, Tryz.f73), (128, Tryz.f128), (131, Tryz.f131), (130, Tryz.f130), (129, Tryz.f129), (165, Tryz.f165), (37, Tryz.f37), (74, Tryz.f74), (18, Tryz.f18), (53, Tryz.f53)]
theorem xsa_ok : InlOk PP xsa := ⟨⟨Tryz.func36, by kernel_rfl⟩, ⟨Tryz.func73, by kernel_rfl⟩, ⟨Tryz.func128, by kernel_rfl⟩, ⟨Tryz.func131, by kernel_rfl⟩, ⟨Tryz.func130, by kernel_rfl⟩, ⟨Tryz.func129, by kernel_rfl⟩, ⟨Tryz.func165, by kernel_rfl⟩, ⟨Tryz.func37, by kernel_rfl⟩, ⟨Tryz.func74, by kernel_rfl⟩, ⟨Tryz.func18, by kernel_rfl⟩, ⟨Tryz.func53, by kernel_rfl⟩, trivial⟩
noncomputable abbrev xsb : List (FuncId × Func) := [(36, Tryz.f36), (73, Tryz.f73), (128, Tryz.f128), (131, Tryz.f131), (130, Tryz.f130), (129, Tryz.f129), (165, Tryz.f165), (37, Tryz.f37), (74, Tryz.f74), (18, Tryz.f18), (53, Tryz.f53), (11, Tryz.f11), (39, Tryz.f39), (12, Tryz.f12), (17, Tryz.f17), (52, Tryz.f52)]
theorem xsb_ok : InlOk PP xsb := ⟨⟨Tryz.func36, by kernel_rfl⟩, ⟨Tryz.func73, by kernel_rfl⟩, ⟨Tryz.func128, by kernel_rfl⟩, ⟨Tryz.func131, by kernel_rfl⟩, ⟨Tryz.func130, by kernel_rfl⟩, ⟨Tryz.func129, by kernel_rfl⟩, ⟨Tryz.func165, by kernel_rfl⟩, ⟨Tryz.func37, by kernel_rfl⟩, ⟨Tryz.func74, by kernel_rfl⟩, ⟨Tryz.func18, by kernel_rfl⟩, ⟨Tryz.func53, by kernel_rfl⟩, ⟨Tryz.func11, by kernel_rfl⟩, ⟨Tryz.func39, by kernel_rfl⟩, ⟨Tryz.func12, by kernel_rfl⟩, ⟨Tryz.func17, by kernel_rfl⟩, ⟨Tryz.func52, by kernel_rfl⟩, trivial⟩
def kpB (p : Psn) (l : List (Int × Int × Bool)) : Bool := l.all fun x => match keeps p ⟨x.1, x.2.1, 0⟩ with | some b => b == x.2.2 | none => false
def kpF (l : List (Int × Int × Bool)) (m : Mov) : Option Bool := match l with
 | [] => none
 | x :: r => bif decide (m.a = x.1) && (decide (m.b = x.2.1) && decide (m.p = 0)) then some x.2.2 else kpF r m
theorem kpF_ok {p : Psn} {m : Mov} {b : Bool} : ∀ {l : List (Int × Int × Bool)}, kpB p l = true → kpF l m = some b → keeps p m = some b
 | [], _, h => by cases h
 | x :: r, h1, h2 => by
  unfold kpB at h1
  rw [List.all_cons, Bool.and_eq_true] at h1
  unfold kpF at h2
  cases hc : (decide (m.a = x.1) && (decide (m.b = x.2.1) && decide (m.p = 0))) with
  | true =>
   rw [hc, cond_true] at h2
   simp only [Bool.and_eq_true, decide_eq_true_eq] at hc
   have hm : m = ⟨x.1, x.2.1, 0⟩ := by
    rcases m with ⟨a, b, c⟩
    obtain ⟨e1, e2, e3⟩ := hc
    dsimp only at e1 e2 e3
    rw [e1, e2, e3]
   rw [hm]
   have h3 := h1.1
   cases hk : keeps p ⟨x.1, x.2.1, 0⟩ with
   | none => rw [hk] at h3; cases h3
   | some y =>
    rw [hk] at h3
    have h3 := eq_of_beq h3
    cases h2
    rw [h3]
  | false =>
   rw [hc, cond_false] at h2
   exact kpF_ok (l := r) h1.2 h2
def polS0 : List UInt8 := [56, 120, 56, 32, 114, 110, 98, 113, 107, 98, 110, 114, 47, 112, 112, 112, 112, 112, 112, 112, 112, 47, 56, 47, 56, 47, 56, 47, 56, 47, 80, 80, 80, 80, 80, 80, 80, 80, 47, 82, 78, 66, 81, 75, 66, 78, 82, 32, 119, 32, 75, 81, 107, 113, 32, 45, 32, 48, 32, 49]
def polV0 : V × List O := (.agg [I 8, I 8, .sl 0 0 64 none, .lit false, .int .u8 15, I (-1), I 0, I 1], [.ints true .i8 [4, 2, 3, 5, 6, 3, 2, 4, 1, 1, 1, 1, 1, 1, 1, 1, 0, 0, 0, 0, 0, 0, 0, 0, 0, 0, 0, 0, 0, 0, 0, 0, 0, 0, 0, 0, 0, 0, 0, 0, 0, 0, 0, 0, 0, 0, 0, 0, -1, -1, -1, -1, -1, -1, -1, -1, -4, -2, -3, -5, -6, -3, -2, -4]])
theorem polR0 : runFn { Ea with pf := pfRun Ea xsa 1000 8, cc := true } 3 1000 Tryz.f36 [.str polS0] [] = some polV0 := by kernel_rfl
def polP0 : Psn := ⟨8, 8, [4, 2, 3, 5, 6, 3, 2, 4, 1, 1, 1, 1, 1, 1, 1, 1, 0, 0, 0, 0, 0, 0, 0, 0, 0, 0, 0, 0, 0, 0, 0, 0, 0, 0, 0, 0, 0, 0, 0, 0, 0, 0, 0, 0, 0, 0, 0, 0, -1, -1, -1, -1, -1, -1, -1, -1, -4, -2, -3, -5, -6, -3, -2, -4], false, 15, -1, 0, 1⟩
def kpL0_0 : List (Int × Int × Bool) := [(1, 16, true), (1, 18, true), (6, 21, true), (6, 23, true)]
theorem kpO0_0 : kpB polP0 kpL0_0 = true := by kernel_rfl
def kpL0_1 : List (Int × Int × Bool) := [(8, 16, true), (8, 24, true), (9, 17, true), (9, 25, true)]
theorem kpO0_1 : kpB polP0 kpL0_1 = true := by kernel_rfl
def kpL0_2 : List (Int × Int × Bool) := [(10, 18, true), (10, 26, true), (11, 19, true), (11, 27, true)]
theorem kpO0_2 : kpB polP0 kpL0_2 = true := by kernel_rfl
def kpL0_3 : List (Int × Int × Bool) := [(12, 20, true), (12, 28, true), (13, 21, true), (13, 29, true)]
theorem kpO0_3 : kpB polP0 kpL0_3 = true := by kernel_rfl
def kpL0_4 : List (Int × Int × Bool) := [(14, 22, true), (14, 30, true), (15, 23, true), (15, 31, true)]
theorem kpO0_4 : kpB polP0 kpL0_4 = true := by kernel_rfl
def kpL0 : List (Int × Int × Bool) := kpL0_0 ++ kpL0_1 ++ kpL0_2 ++ kpL0_3 ++ kpL0_4
theorem kpO0 : kpB polP0 kpL0 = true := by
 unfold kpL0
 have ap : ∀ {l k : List (Int × Int × Bool)}, kpB polP0 l = true → kpB polP0 k = true → kpB polP0 (l ++ k) = true := fun h1 h2 => by unfold kpB at *; rw [List.all_append, h1, h2]; rfl
 exact ap (ap (ap (ap kpO0_0 kpO0_1) kpO0_2) kpO0_3) kpO0_4
def polS1 : List UInt8 := [52, 120, 52, 32, 49, 107, 50, 47, 49, 114, 50, 47, 49, 82, 50, 47, 49, 75, 50, 32, 119, 32, 45, 32, 45, 32, 48, 32, 49]
def polV1 : V × List O := (.agg [I 4, I 4, .sl 0 0 16 none, .lit false, .int .u8 0, I (-1), I 0, I 1], [.ints true .i8 [0, 6, 0, 0, 0, 4, 0, 0, 0, -4, 0, 0, 0, -6, 0, 0]])
theorem polR1 : runFn { Ea with pf := pfRun Ea xsa 1000 8, cc := true } 3 1000 Tryz.f36 [.str polS1] [] = some polV1 := by kernel_rfl
def polP1 : Psn := ⟨4, 4, [0, 6, 0, 0, 0, 4, 0, 0, 0, -4, 0, 0, 0, -6, 0, 0], false, 0, -1, 0, 1⟩
def kpL1_0 : List (Int × Int × Bool) := [(1, 0, true), (1, 2, true), (1, 4, true), (1, 6, true)]
theorem kpO1_0 : kpB polP1 kpL1_0 = true := by kernel_rfl
def kpL1_1 : List (Int × Int × Bool) := [(5, 4, false), (5, 6, false), (5, 7, false), (5, 9, true)]
theorem kpO1_1 : kpB polP1 kpL1_1 = true := by kernel_rfl
def kpL1 : List (Int × Int × Bool) := kpL1_0 ++ kpL1_1
theorem kpO1 : kpB polP1 kpL1 = true := by
 unfold kpL1
 have ap : ∀ {l k : List (Int × Int × Bool)}, kpB polP1 l = true → kpB polP1 k = true → kpB polP1 (l ++ k) = true := fun h1 h2 => by unfold kpB at *; rw [List.all_append, h1, h2]; rfl
 exact ap kpO1_0 kpO1_1
def polS2 : List UInt8 := [51, 120, 51, 32, 107, 81, 49, 47, 51, 47, 75, 50, 32, 98, 32, 45, 32, 45, 32, 48, 32, 49]
def polV2 : V × List O := (.agg [I 3, I 3, .sl 0 0 9 none, .lit true, .int .u8 0, I (-1), I 0, I 1], [.ints true .i8 [6, 0, 0, 0, 0, 0, -6, 5, 0]])
theorem polR2 : runFn { Ea with pf := pfRun Ea xsa 1000 8, cc := true } 3 1000 Tryz.f36 [.str polS2] [] = some polV2 := by kernel_rfl
def polP2 : Psn := ⟨3, 3, [6, 0, 0, 0, 0, 0, -6, 5, 0], true, 0, -1, 0, 1⟩
def kpL2_0 : List (Int × Int × Bool) := [(6, 3, false), (6, 4, false), (6, 7, true)]
theorem kpO2_0 : kpB polP2 kpL2_0 = true := by kernel_rfl
def kpL2 : List (Int × Int × Bool) := kpL2_0
theorem kpO2 : kpB polP2 kpL2 = true := by
 unfold kpL2
 exact kpO2_0
def polS3 : List UInt8 := [51, 120, 51, 32, 107, 50, 47, 49, 81, 49, 47, 75, 50, 32, 98, 32, 45, 32, 45, 32, 48, 32, 49]
def polV3 : V × List O := (.agg [I 3, I 3, .sl 0 0 9 none, .lit true, .int .u8 0, I (-1), I 0, I 1], [.ints true .i8 [6, 0, 0, 0, 5, 0, -6, 0, 0]])
theorem polR3 : runFn { Ea with pf := pfRun Ea xsa 1000 8, cc := true } 3 1000 Tryz.f36 [.str polS3] [] = some polV3 := by kernel_rfl
def polP3 : Psn := ⟨3, 3, [6, 0, 0, 0, 5, 0, -6, 0, 0], true, 0, -1, 0, 1⟩
def kpL3_0 : List (Int × Int × Bool) := [(6, 3, false), (6, 4, false), (6, 7, false)]
theorem kpO3_0 : kpB polP3 kpL3_0 = true := by kernel_rfl
def kpL3 : List (Int × Int × Bool) := kpL3_0
theorem kpO3 : kpB polP3 kpL3 = true := by
 unfold kpL3
 exact kpO3_0
def polS4 : List UInt8 := [51, 120, 51, 32, 107, 50, 47, 50, 81, 47, 49, 75, 49, 32, 98, 32, 45, 32, 45, 32, 48, 32, 49]
def polV4 : V × List O := (.agg [I 3, I 3, .sl 0 0 9 none, .lit true, .int .u8 0, I (-1), I 0, I 1], [.ints true .i8 [0, 6, 0, 0, 0, 5, -6, 0, 0]])
theorem polR4 : runFn { Ea with pf := pfRun Ea xsa 1000 8, cc := true } 3 1000 Tryz.f36 [.str polS4] [] = some polV4 := by kernel_rfl
def polP4 : Psn := ⟨3, 3, [0, 6, 0, 0, 0, 5, -6, 0, 0], true, 0, -1, 0, 1⟩
def kpL4_0 : List (Int × Int × Bool) := [(6, 3, false), (6, 4, false), (6, 7, false)]
theorem kpO4_0 : kpB polP4 kpL4_0 = true := by kernel_rfl
def kpL4 : List (Int × Int × Bool) := kpL4_0
theorem kpO4 : kpB polP4 kpL4 = true := by
 unfold kpL4
 exact kpO4_0
def polT (s : List UInt8) : Option (V × List O) := if s = polS0 then some polV0 else if s = polS1 then some polV1 else if s = polS2 then some polV2 else if s = polS3 then some polV3 else if s = polS4 then some polV4 else none
theorem polT_ok {s : List UInt8} {x : V × List O} (h : polT s = some x) : FnSound (GGx true true) PP 36 [.str s] [] x.1 x.2 := by
 unfold polT at h
 by_cases e0 : s = polS0
 ·rw [if_pos e0] at h; cases h; subst e0; exact run_ct Ea_ok xsa_ok 1000 8 Tryz.func36 polR0
 rw [if_neg e0] at h
 by_cases e1 : s = polS1
 ·rw [if_pos e1] at h; cases h; subst e1; exact run_ct Ea_ok xsa_ok 1000 8 Tryz.func36 polR1
 rw [if_neg e1] at h
 by_cases e2 : s = polS2
 ·rw [if_pos e2] at h; cases h; subst e2; exact run_ct Ea_ok xsa_ok 1000 8 Tryz.func36 polR2
 rw [if_neg e2] at h
 by_cases e3 : s = polS3
 ·rw [if_pos e3] at h; cases h; subst e3; exact run_ct Ea_ok xsa_ok 1000 8 Tryz.func36 polR3
 rw [if_neg e3] at h
 by_cases e4 : s = polS4
 ·rw [if_pos e4] at h; cases h; subst e4; exact run_ct Ea_ok xsa_ok 1000 8 Tryz.func36 polR4
 rw [if_neg e4] at h
 cases h
def c_pos10 : CF
 | [.str s], [] => match polT s with
  | some x => some (true, x.1, x.2)
  | none => none
 | _, _ => none
theorem c_pos10_ok : CtOk (GGx true true) PP (36, c_pos10) := by
 refine ct_mk Tryz.func36 (by kernel_rfl) rfl fun a0 h0 c0 v0 N0 e hc => ?_
 unfold c_pos10 at e
 split at e
 ·split at e
  ·rename_i h
   cases e
   exact polT_ok h
  ·cases e
 ·cases e
theorem eqB_eq {p q : Psn} (h : equalB p q = true) : p = q := by
 simp only [equalB, sameB, Bool.and_eq_true, decide_eq_true_eq, beq_iff_eq] at h
 obtain ⟨⟨⟨⟨⟨⟨⟨h1, h2⟩, h3⟩, h4⟩, h5⟩, h6⟩, h7⟩, h8⟩ := h
 rcases p with ⟨a, b, c, d, e, f, g, i⟩
 rcases q with ⟨a', b', c', d', e', f', g', i'⟩
 dsimp only at h1 h2 h3 h4 h5 h6 h7 h8
 subst h1 h2 h3 h4 h5 h6 h7 h8; rfl
def kpT (p : Psn) (m : Mov) : Option Bool := bif equalB p polP0 then kpF kpL0 m else bif equalB p polP1 then kpF kpL1 m else bif equalB p polP2 then kpF kpL2 m else bif equalB p polP3 then kpF kpL3 m else bif equalB p polP4 then kpF kpL4 m else none
theorem kpT_ok {p : Psn} {m : Mov} {b : Bool} (h : kpT p m = some b) : keeps p m = some b := by
 unfold kpT at h
 cases e0 : equalB p polP0 with
 | true =>
  rw [e0, cond_true] at h
  rw [eqB_eq e0]; exact kpF_ok kpO0 h
 | false =>
 rw [e0, cond_false] at h
 cases e1 : equalB p polP1 with
 | true =>
  rw [e1, cond_true] at h
  rw [eqB_eq e1]; exact kpF_ok kpO1 h
 | false =>
 rw [e1, cond_false] at h
 cases e2 : equalB p polP2 with
 | true =>
  rw [e2, cond_true] at h
  rw [eqB_eq e2]; exact kpF_ok kpO2 h
 | false =>
 rw [e2, cond_false] at h
 cases e3 : equalB p polP3 with
 | true =>
  rw [e3, cond_true] at h
  rw [eqB_eq e3]; exact kpF_ok kpO3 h
 | false =>
 rw [e3, cond_false] at h
 cases e4 : equalB p polP4 with
 | true =>
  rw [e4, cond_true] at h
  rw [eqB_eq e4]; exact kpF_ok kpO4 h
 | false =>
 rw [e4, cond_false] at h
 cases h
def c_kpT : CF
 | [.agg [.int .i64 f, .int .i64 r, .sl 0 0 len none, .bool bl, .int .u8 ca, .int .i64 pa, .int .i64 ha, .int .i64 fu], .agg [.int .i64 a, .int .i64 b, .int .i8 pr]], [.ints false .i8 zs] => match kpT ⟨f, r, zs, bl, ca, pa, ha, fu⟩ ⟨a, b, pr⟩ with
  | some x => some (decide (len = zs.length), keeps_V x, keeps_N x)
  | none => none
 | _, _ => none
theorem c_kpT_ok : CtOk (GGx true true) PP (42, c_kpT) := by
 refine ct_mk Tryz.func42 (by kernel_rfl) rfl fun a0 h0 c0 v0 N0 e hc => ?_
 unfold c_kpT at e
 split at e
 ·rename_i f r len bl ca pa ha fu a b pr zs
  split at e
  ·rename_i x h
   cases e
   rw [decide_eq_true_eq] at hc
   subst hc
   exact keeps_snd ⟨f, r, zs, bl, ca, pa, ha, fu⟩ ⟨a, b, pr⟩ (kpT_ok h)
  ·cases e
 ·cases e
noncomputable abbrev Eb : Env := EE true true [(42, c_kpT), (38, c_pmoves), (41, c_pfrom), (40, c_pvalid), (36, c_pos10), (134, c_Name), (182, c_pletter), (71, c_valid), (99, c_vs)] []
theorem Eb_ok : Eb.Fn PP := EE_ok ⟨c_kpT_ok, c_pmoves_ok, c_pfrom_ok, c_pvalid_ok, c_pos10_ok, c_Name_ok, c_pletter_ok, c_valid_ok, c_vs_ok, trivial⟩ trivial
theorem run10 : runFn { Eb with pf := pfRun Eb xsb 1000 8, cc := true } 3 1000 Tryz.f9 [] [] = some (.lit true, []) := by kernel_rfl
def c_known10 : CF
 | [], [] => some (true, .bool true, [])
 | _, _ => none
theorem c_known10_ok : CtOk (GGx true true) PP (9, c_known10) := by
 refine ct_mk Tryz.func9 (by kernel_rfl) rfl fun a0 h0 c0 v0 N0 e hc => ?_
 unfold c_known10 at e
 split at e
 ·cases e
  exact FnSound.like (run_ct Eb_ok xsb_ok 1000 8 Tryz.func9 run10) (fun _ _ h => h)
 ·cases e
end Go.Ab

set_option maxRecDepth 100000
set_option maxHeartbeats 4000000
namespace Go.Ab
open Go.Proofs
variable {kCa kDb : Bool}
def sqOf_s1 : Siz → List Int → Int × Int → Option (Int × Int ⊕ Int ⊕ Int × Int) := fun (s : Siz) (squares : List Int) (s7 : Int × Int) => let x17 := decide (s7.2 < Int.ofNat squares.length); bif x17 then needO (decide (0 ≤ s7.2) && x17) (bif !validB s.f s.r (squares.getD s7.2.toNat 0) then escO (escO (some (0, 2))) else needO (decide (0 ≤ squares.getD s7.2.toNat 0)) (some (Sum.inl (band Go.BinOp.or IntKind.u64 s7.1 (IntKind.u64.wrap (1 * 2 ^ Min.min (squares.getD s7.2.toNat 0).toNat IntKind.u64.bits)), IntKind.i64.wrap (s7.2 + 1))))) else some (Sum.inr (Sum.inl s7.1))
def sqOf (s : Siz) (squares : List Int) : Option (Int × Int) := bif !vsB s.f s.r then some (0, 2) else loopO (sqOf_s1 s squares) (fun (s15 : Int) => some (s15, 0)) 1000000 (0, 0)
def sqOf_V (R : Int × Int) : V := .tup [.int .u64 R.1, .int .i64 R.2]
def sqOf_N (R : Int × Int) : List O := []
def c_sqOf : CF
 | [.agg [.int .i64 s_0, .int .i64 s_1], .sl 0 0 squares_0n none], [.ints false .i64 squares_0] => retC (decide (squares_0n = squares_0.length)) (sqOf ⟨s_0, s_1⟩ squares_0) (0, 0) sqOf_V sqOf_N
 | _, _ => none
theorem sqOf_snd (s : Siz) (squares : List Int) {r} (hr : sqOf s squares = some r) : FnSound (GGx kCa kDb) PP 52 [.agg [.int .i64 s.f, .int .i64 s.r], .sl 0 0 squares.length none] [.ints false .i64 squares] (sqOf_V r) (sqOf_N r) := by
 have hE := cutE (EE_ok (kCa := kCa) (kDb := kDb) (cts := [(71, c_valid), (99, c_vs)]) (inl := []) ⟨c_valid_ok, c_vs_ok, trivial⟩ trivial)
 refine so_fn hE 2 Tryz.func52 rfl rfl sqOf_V sqOf_N hr ?_ rfl rfl
 refine so_triv rfl ?_
 refine so_split hE 2 rfl ?_ ?_
 ·exact so_ret (fin_bs [] (.inr rfl) rfl rfl rfl rfl rfl)
 refine so_loop hE 2 (fun (s7 : Int × Int) => ([(2, V.ptr 1 0 0), (4, V.int IntKind.u64 0), (5, V.int IntKind.i64 0), (6, V.int IntKind.u64 s7.1), (12, V.sl 0 0 squares.length none), (13, V.int IntKind.i64 (Int.ofNat squares.length)), (14, V.int IntKind.i64 s7.2)], [O.ints false IntKind.i64 squares, O.cells true [V.int IntKind.i64 s.f, V.int IntKind.i64 s.r]])) (fun (s15 : Int) => ([(4, V.int IntKind.u64 0), (5, V.int IntKind.i64 0), (6, V.int IntKind.u64 s15)], [O.ints false IntKind.i64 squares])) (.exit 0) ((Ent.rn [0, 1] [2, 4, 5, 6, 12, 13, 14] rfl rfl rfl rfl rfl)) (fun s7 => ?_) (fun s15 => ?_)
 ·refine so_split hE 2 rfl ?_ ?_
  ·refine so_need ?_
   refine so_triv rfl ?_
   refine so_split hE 2 rfl ?_ ?_
   ·refine so_out (by simp) (so_out1 ?_)
    exact so_ret (fin_bs [] (.inr rfl) rfl rfl rfl rfl rfl)
   refine so_need ?_
   exact so_next ((Ent.rn [0, 1] [2, 4, 5, 6, 12, 13, 14] rfl rfl rfl rfl rfl))
  exact so_exit ((Ent.rn [0] [4, 5, 6] rfl rfl rfl rfl rfl))
 exact so_ret (fin_bs [] (.inr rfl) rfl rfl rfl rfl rfl)
theorem c_sqOf_ok : CtOk (GGx kCa kDb) PP (52, c_sqOf) := by
 refine ct_mk Tryz.func52 (by kernel_rfl) rfl fun a0 h0 c0 v0 N0 e hc => ?_
 unfold c_sqOf at e
 split at e
 ·rename_i s_0 s_1 squares_0n squares_0
  obtain ⟨hl, r, hr, rfl, rfl⟩ := ret_ok e hc
  simp only [Bool.and_eq_true, decide_eq_true_eq] at hl
  obtain rfl := hl
  exact sqOf_snd ⟨s_0, s_1⟩ squares_0 hr
 ·cases e
def kept_s1 : Psn → List (List Int) → List (List Int) × Int → Option (List (List Int) × Int ⊕ List (List Int) ⊕ List (List Int)) := fun (p : Psn) (l : List (List Int)) => let x21 := Psn.mk p.f p.r (List.take p.zs.length (List.drop 0 p.zs)) p.bl p.ca p.pa p.ha p.fu; fun (s9 : List (List Int) × Int) => let x24 := (s9.1.length + 1) * 24; let x25 := decide (s9.2 < Int.ofNat l.length); let x26 := (l.getD s9.2.toNat []).getD 0 0; let x27 := (l.getD s9.2.toNat []).getD 1 0; let x28 := (l.getD s9.2.toNat []).getD 2 0; let x23 := Mov.mk x26 x27 x28; bif x25 then needO (decide (0 ≤ s9.2) && x25) (callO (keeps x21 x23) Inhabited.default fun (y10 : Bool) => joinO (bif (keeps x21 x23).getD false then needO (decide (x24 ≤ 140737488355328)) (some (Sum.inl (s9.1 ++ List.take 1 (List.drop 0 [iL [x26, x27, x28]])))) else some (Sum.inl s9.1)) fun (s12 : List (List Int)) => some (Sum.inl (s12, IntKind.i64.wrap (s9.2 + 1)))) else some (Sum.inr (Sum.inl s9.1))
def kept (p : Psn) (l : List (List Int)) : Option (List (List Int)) := loopO (kept_s1 p l) (fun (s20 : List (List Int)) => let x33 := decide (Int.ofNat s20.length ≤ Int.ofNat s20.length); let x34 := (Int.ofNat s20.length).toNat - Int.toNat 0; needO (decide (0 ≤ Int.ofNat s20.length) && x33 && x33) (needO (decide (x34 = s20.length)) (some s20))) 1000000 ([], 0)
def kept_V (R : List (List Int)) : V := .sl 2 0 R.length (some R.length)
def kept_N (R : List (List Int)) : List O := [.rows true [.i64, .i64, .i8] R]
def c_kept : CF
 | [.agg [.int .i64 p_0, .int .i64 p_1, .sl 0 0 p_2n none, .bool p_3, .int .u8 p_4, .int .i64 p_5, .int .i64 p_6, .int .i64 p_7], .sl 1 0 l_0n none], [.ints false .i8 p_2, .rows false [.i64, .i64, .i8] l_0] => retC (decide (p_2n = p_2.length) && decide (l_0n = l_0.length)) (kept ⟨p_0, p_1, p_2, p_3, p_4, p_5, p_6, p_7⟩ l_0) [] kept_V kept_N
 | _, _ => none
theorem kept_snd (p : Psn) (l : List (List Int)) {r} (hr : kept p l = some r) : FnSound (GGx true kDb) PP 39 [.agg [.int .i64 p.f, .int .i64 p.r, .sl 0 0 p.zs.length none, Bb p.bl, .int .u8 p.ca, .int .i64 p.pa, .int .i64 p.ha, .int .i64 p.fu], .sl 1 0 l.length none] [.ints false .i8 p.zs, .rows false [.i64, .i64, .i8] l] (kept_V r) (kept_N r) := by
 have hE := cutE (EE_ok (kCa := true) (kDb := kDb) (cts := [(42, c_keeps)]) (inl := []) ⟨c_keeps_ok, trivial⟩ trivial)
 refine so_fn hE 2 Tryz.func39 rfl rfl kept_V kept_N hr ?_ rfl rfl
 refine so_loop hE 2 (fun (s9 : List (List Int) × Int) => ([(2, V.ptr 2 0 0), (4, V.nils), (5, V.fn 42 []), (6, V.sl 3 0 s9.1.length none), (9, V.sl 1 0 l.length none), (10, V.int IntKind.i64 (Int.ofNat l.length)), (11, V.int IntKind.i64 s9.2)], [O.ints false IntKind.i8 p.zs, O.rows false [IntKind.i64, IntKind.i64, IntKind.i8] l, O.cells true [V.int IntKind.i64 p.f, V.int IntKind.i64 p.r, V.sl 0 0 p.zs.length none, V.bool p.bl, V.int IntKind.u8 p.ca, V.int IntKind.i64 p.pa, V.int IntKind.i64 p.ha, V.int IntKind.i64 p.fu], O.rows true [IntKind.i64, IntKind.i64, IntKind.i8] s9.1])) (fun (s20 : List (List Int)) => ([(4, V.nils), (6, V.sl 2 0 s20.length none)], [O.ints false IntKind.i8 p.zs, O.rows false [IntKind.i64, IntKind.i64, IntKind.i8] l, O.rows true [IntKind.i64, IntKind.i64, IntKind.i8] s20])) (.exit 0) ((Ent.phT 6 (O.rows true [IntKind.i64, IntKind.i64, IntKind.i8] []) rfl rfl rfl rfl rfl).trans (Ent.rn [0, 1, 2, 3] [2, 4, 5, 6, 9, 10, 11] rfl rfl rfl rfl rfl)) (fun s9 => ?_) (fun s20 => ?_)
 ·refine so_split hE 2 rfl ?_ ?_
  ·refine so_need ?_
   refine so_callas (pl (decide_eq_true (win_len rfl)) id) ?_
   refine so_join hE 2 (fun (s12 : List (List Int)) => ([(2, V.ptr 2 0 0), (4, V.nils), (5, V.fn 42 []), (6, V.sl 3 0 s12.length none), (9, V.sl 1 0 l.length none), (10, V.int IntKind.i64 (Int.ofNat l.length)), (11, V.int IntKind.i64 s9.2)], [O.ints false IntKind.i8 p.zs, O.rows false [IntKind.i64, IntKind.i64, IntKind.i8] l, O.cells true [V.int IntKind.i64 p.f, V.int IntKind.i64 p.r, V.sl 0 0 p.zs.length none, V.bool p.bl, V.int IntKind.u8 p.ca, V.int IntKind.i64 p.pa, V.int IntKind.i64 p.ha, V.int IntKind.i64 p.fu], O.rows true [IntKind.i64, IntKind.i64, IntKind.i8] s12])) rfl ?_ ?_ (fun s12 => ?_)
   ·refine so_as (pr (pl (decide_eq_true rfl) id) rfl) ?_
    exact so_nrm ((Ent.rn [0, 1, 2, 6] [2, 4, 5, 6, 9, 10, 11] rfl rfl rfl rfl rfl))
   ·exact so_nrm ((Ent.rn [0, 1, 2, 3] [2, 4, 5, 6, 9, 10, 11] rfl rfl rfl rfl rfl))
   exact so_next ((Ent.rn [0, 1, 2, 3] [2, 4, 5, 6, 9, 10, 11] rfl rfl rfl rfl rfl))
  exact so_exit ((Ent.rn [0, 1, 3] [4, 6] rfl rfl rfl rfl rfl))
 refine so_as (pb (pb (pl rfl id) id) id) ?_
 refine so_if (fun h0 => ?_)
 exact so_ret (fin_bs [2] (.inr rfl) rfl rfl rfl rfl (by have qh0 := of_decide_eq_true h0; simp_all [kept_V, addN]))
theorem c_kept_ok : CtOk (GGx true kDb) PP (39, c_kept) := by
 refine ct_mk Tryz.func39 (by kernel_rfl) rfl fun a0 h0 c0 v0 N0 e hc => ?_
 unfold c_kept at e
 split at e
 ·rename_i p_0 p_1 p_2n p_3 p_4 p_5 p_6 p_7 l_0n p_2 l_0
  obtain ⟨hl, r, hr, rfl, rfl⟩ := ret_ok e hc
  simp only [Bool.and_eq_true, decide_eq_true_eq] at hl
  obtain ⟨rfl, rfl⟩ := hl
  exact kept_snd ⟨p_0, p_1, p_2, p_3, p_4, p_5, p_6, p_7⟩ l_0 hr
 ·cases e
def lmoves (p : Psn) : Option (List (List Int) × Int) := let x3 := Psn.mk p.f p.r (List.take p.zs.length (List.drop 0 p.zs)) p.bl p.ca p.pa p.ha p.fu; callO (pmoves x3) ([], 0) fun (y1 : List (List Int) × Int) => bif !decide (y1.2 = 0) then some ([], y1.2) else callO (kept x3 (List.take y1.1.length (List.drop 0 y1.1))) [] fun (y2 : List (List Int)) => some (y2, 0)
def lmoves_V (R : List (List Int) × Int) : V := .tup [.sl 1 0 R.1.length (some R.1.length), .int .i64 R.2]
def lmoves_N (R : List (List Int) × Int) : List O := [.rows true [.i64, .i64, .i8] R.1]
def c_lmoves : CF
 | [.agg [.int .i64 p_0, .int .i64 p_1, .sl 0 0 p_2n none, .bool p_3, .int .u8 p_4, .int .i64 p_5, .int .i64 p_6, .int .i64 p_7]], [.ints false .i8 p_2] => retC (decide (p_2n = p_2.length)) (lmoves ⟨p_0, p_1, p_2, p_3, p_4, p_5, p_6, p_7⟩) ([], 0) lmoves_V lmoves_N
 | _, _ => none
theorem lmoves_snd (p : Psn) {r} (hr : lmoves p = some r) : FnSound (GGx true true) PP 11 [.agg [.int .i64 p.f, .int .i64 p.r, .sl 0 0 p.zs.length none, Bb p.bl, .int .u8 p.ca, .int .i64 p.pa, .int .i64 p.ha, .int .i64 p.fu]] [.ints false .i8 p.zs] (lmoves_V r) (lmoves_N r) := by
 have hE := cutE (EE_ok (kCa := true) (kDb := true) (cts := [(38, c_pmoves), (39, c_kept)]) (inl := []) ⟨c_pmoves_ok, c_kept_ok, trivial⟩ trivial)
 refine so_fn hE 2 Tryz.func11 rfl rfl lmoves_V lmoves_N hr ?_ rfl rfl
 unfold lmoves
 refine so_callas (pl (decide_eq_true (win_len rfl)) id) ?_
 refine so_split hE 2 rfl ?_ ?_
 ·exact so_ret (fin_phZ 2 (.rows true [.i64, .i64, .i8] []) rfl rfl rfl <| fin_bs [3] (.inr rfl) rfl rfl rfl rfl rfl)
 refine so_callas (pl (pa (decide_eq_true (win_len rfl)) (decide_eq_true (win_len rfl))) id) ?_
 exact so_ret (fin_bs [3] (.inr rfl) rfl rfl rfl rfl rfl)
theorem c_lmoves_ok : CtOk (GGx true true) PP (11, c_lmoves) := by
 refine ct_mk Tryz.func11 (by kernel_rfl) rfl fun a0 h0 c0 v0 N0 e hc => ?_
 unfold c_lmoves at e
 split at e
 ·rename_i p_0 p_1 p_2n p_3 p_4 p_5 p_6 p_7 p_2
  obtain ⟨hl, r, hr, rfl, rfl⟩ := ret_ok e hc
  simp only [Bool.and_eq_true, decide_eq_true_eq] at hl
  obtain rfl := hl
  exact lmoves_snd ⟨p_0, p_1, p_2, p_3, p_4, p_5, p_6, p_7⟩ hr
 ·cases e
def ltargets_s1 : Psn → List (List Int) → Int × Int → Option (Int × Int ⊕ Int ⊕ Int × Int) := fun (p : Psn) (y3 : List (List Int)) (s8 : Int × Int) => let x20 := List.take 1 (List.drop 0 (iL [(y3.getD s8.2.toNat []).getD 1 0])); let x21 := decide (s8.2 < Int.ofNat y3.length); let x19 := x20.length; bif x21 then needO (decide (0 ≤ s8.2) && x21) (needO (decide (1 = x19)) (callO (sqOf (Siz.mk p.f p.r) x20) Inhabited.default fun (y9 : Int × Int) => some (Sum.inl (band Go.BinOp.or IntKind.u64 s8.1 ((sqOf (Siz.mk p.f p.r) x20).getD (0, 0)).fst, IntKind.i64.wrap (s8.2 + 1))))) else some (Sum.inr (Sum.inl s8.1))
def ltargets (p : Psn) (at_ : Int) : Option (Int × Int) := let x24 := Psn.mk p.f p.r (List.take p.zs.length (List.drop 0 p.zs)) p.bl p.ca p.pa p.ha p.fu; callO (pfrom x24 at_) ([], 0) fun (y2 : List (List Int) × Int) => bif !decide (y2.2 = 0) then some (0, y2.2) else callO (kept x24 (List.take y2.1.length (List.drop 0 y2.1))) [] fun (y3 : List (List Int)) => loopO (ltargets_s1 p y3) (fun (s17 : Int) => some (s17, 0)) 1000000 (0, 0)
def ltargets_V (R : Int × Int) : V := .tup [.int .u64 R.1, .int .i64 R.2]
def ltargets_N (R : Int × Int) : List O := []
def c_ltargets : CF
 | [.agg [.int .i64 p_0, .int .i64 p_1, .sl 0 0 p_2n none, .bool p_3, .int .u8 p_4, .int .i64 p_5, .int .i64 p_6, .int .i64 p_7], .int .i64 at__0], [.ints false .i8 p_2] => retC (decide (p_2n = p_2.length)) (ltargets ⟨p_0, p_1, p_2, p_3, p_4, p_5, p_6, p_7⟩ at__0) (0, 0) ltargets_V ltargets_N
 | _, _ => none
theorem ltargets_snd (p : Psn) (at_ : Int) {r} (hr : ltargets p at_ = some r) : FnSound (GGx true true) PP 17 [.agg [.int .i64 p.f, .int .i64 p.r, .sl 0 0 p.zs.length none, Bb p.bl, .int .u8 p.ca, .int .i64 p.pa, .int .i64 p.ha, .int .i64 p.fu], .int .i64 at_] [.ints false .i8 p.zs] (ltargets_V r) (ltargets_N r) := by
 have hE := cutE (EE_ok (kCa := true) (kDb := true) (cts := [(39, c_kept), (41, c_pfrom), (52, c_sqOf)]) (inl := []) ⟨c_kept_ok, c_pfrom_ok, c_sqOf_ok, trivial⟩ trivial)
 refine so_fn hE 2 Tryz.func17 rfl rfl ltargets_V ltargets_N hr ?_ rfl rfl
 unfold ltargets
 refine so_callas (pl (decide_eq_true (win_len rfl)) id) ?_
 refine so_split hE 2 rfl ?_ ?_
 ·exact so_ret (fin_bs [] (.inr rfl) rfl rfl rfl rfl rfl)
 refine so_callas (pl (pa (decide_eq_true (win_len rfl)) (decide_eq_true (win_len rfl))) id) ?_
 refine so_loop hE 2 (let x31 := Psn.mk p.f p.r (List.take p.zs.length (List.drop 0 p.zs)) p.bl p.ca p.pa p.ha p.fu; let x30 := ((pfrom x31 at_).getD ([], 0)).fst; let x29 := (kept x31 (List.take x30.length (List.drop 0 x30))).getD []; let x28 := x29.length; fun (s8 : Int × Int) => ([(2, V.ptr 1 0 0), (4, V.int IntKind.u64 0), (5, V.int IntKind.i64 0), (8, V.int IntKind.u64 s8.1), (24, V.sl 2 0 x28 (some x28)), (25, V.int IntKind.i64 (Int.ofNat x28)), (26, V.int IntKind.i64 s8.2)], [O.ints false IntKind.i8 p.zs, O.cells true [V.int IntKind.i64 p.f, V.int IntKind.i64 p.r, V.sl 0 0 p.zs.length none, V.bool p.bl, V.int IntKind.u8 p.ca, V.int IntKind.i64 p.pa, V.int IntKind.i64 p.ha, V.int IntKind.i64 p.fu], O.rows true [IntKind.i64, IntKind.i64, IntKind.i8] x29])) (fun (s17 : Int) => ([(4, V.int IntKind.u64 0), (5, V.int IntKind.i64 0), (8, V.int IntKind.u64 s17)], [O.ints false IntKind.i8 p.zs])) (.exit 0) ((Ent.rn [0, 1, 3] [2, 4, 5, 8, 24, 25, 26] rfl rfl rfl rfl rfl)) (fun s8 => ?_) (fun s17 => ?_)
 ·refine so_split hE 2 rfl ?_ ?_
  ·refine so_need ?_
   refine so_as2 id ?_
   exact so_next ((Ent.rn [0, 1, 2] [2, 4, 5, 8, 24, 25, 26] rfl rfl rfl rfl rfl))
  exact so_exit ((Ent.rn [0] [4, 5, 8] rfl rfl rfl rfl rfl))
 exact so_ret (fin_bs [] (.inr rfl) rfl rfl rfl rfl rfl)
theorem c_ltargets_ok : CtOk (GGx true true) PP (17, c_ltargets) := by
 refine ct_mk Tryz.func17 (by kernel_rfl) rfl fun a0 h0 c0 v0 N0 e hc => ?_
 unfold c_ltargets at e
 split at e
 ·rename_i p_0 p_1 p_2n p_3 p_4 p_5 p_6 p_7 at__0 p_2
  obtain ⟨hl, r, hr, rfl, rfl⟩ := ret_ok e hc
  simp only [Bool.and_eq_true, decide_eq_true_eq] at hl
  obtain rfl := hl
  exact ltargets_snd ⟨p_0, p_1, p_2, p_3, p_4, p_5, p_6, p_7⟩ at__0 hr
 ·cases e
def gfrom_s1 : Psn → List (List Int) → List (List Int) × Int → Option (List (List Int) × Int ⊕ List (List Int) ⊕ List (List Int)) := fun (p : Psn) (y4 : List (List Int)) (s10 : List (List Int) × Int) => let x23 := (s10.1.length + 1) * 24; let x24 := decide (s10.2 < Int.ofNat y4.length); let x25 := (y4.getD s10.2.toNat []).getD 2 0; let x26 := (y4.getD s10.2.toNat []).getD 1 0; let x27 := (y4.getD s10.2.toNat []).getD 0 0; let x22 := decide (0 ≤ s10.2) && x24; bif x24 then needO x22 (needO (decide ((List.take p.zs.length (List.drop 0 p.zs)).length ≤ 64) && (validBd p.f p.r (List.take p.zs.length (List.drop 0 p.zs)) && castL p.f p.r (List.take p.zs.length (List.drop 0 p.zs)) p.ca && validB p.f p.r x27 && validB p.f p.r x26)) (joinO (bif sfL (Psn.mk p.f p.r (List.take p.zs.length (List.drop 0 p.zs)) p.bl p.ca p.pa p.ha p.fu) (Mov.mk x27 x26 x25) then needO x22 (needO (decide (x23 ≤ 140737488355328)) (some (Sum.inl (s10.1 ++ List.take 1 (List.drop 0 [iL [x27, x26, x25]]))))) else some (Sum.inl s10.1)) fun (s12 : List (List Int)) => some (Sum.inl (s12, IntKind.i64.wrap (s10.2 + 1))))) else some (Sum.inr (Sum.inl s10.1))
def gfrom (p : Psn) (from_ : Int) : Option (List (List Int)) := callO (ufrom (Psn.mk p.f p.r (List.take p.zs.length (List.drop 0 p.zs)) p.bl p.ca p.pa p.ha p.fu) from_) [] fun (y4 : List (List Int)) => loopO (gfrom_s1 p y4) (fun (s20 : List (List Int)) => some s20) 1000000 ([], 0)
def gfrom_V (R : List (List Int)) : V := .sl 1 0 R.length none
def gfrom_N (R : List (List Int)) : List O := [.rows true [.i64, .i64, .i8] R]
def c_gfrom : CF
 | [.agg [.int .i64 p_0, .int .i64 p_1, .sl 0 0 p_2n none, .bool p_3, .int .u8 p_4, .int .i64 p_5, .int .i64 p_6, .int .i64 p_7], .int .i64 from__0], [.ints false .i8 p_2] => retC (decide (p_2n = p_2.length)) (gfrom ⟨p_0, p_1, p_2, p_3, p_4, p_5, p_6, p_7⟩ from__0) [] gfrom_V gfrom_N
 | _, _ => none
theorem gfrom_snd (p : Psn) (from_ : Int) {r} (hr : gfrom p from_ = some r) : FnSound (GGx kCa kDb) PP 19 [.agg [.int .i64 p.f, .int .i64 p.r, .sl 0 0 p.zs.length none, Bb p.bl, .int .u8 p.ca, .int .i64 p.pa, .int .i64 p.ha, .int .i64 p.fu], .int .i64 from_] [.ints false .i8 p.zs] (gfrom_V r) (gfrom_N r) := by
 have hE := cutE (EE_ok (kCa := kCa) (kDb := kDb) (cts := [(54, c_ufrom), (55, c_rsafe)]) (inl := []) ⟨c_ufrom_ok, c_rsafe_ok, trivial⟩ trivial)
 refine so_fn hE 2 Tryz.func19 rfl rfl gfrom_V gfrom_N hr ?_ rfl rfl
 unfold gfrom
 refine so_callas (pl (decide_eq_true (win_len rfl)) id) ?_
 refine so_loop hE 2 (let x32 := (ufrom (Psn.mk p.f p.r (List.take p.zs.length (List.drop 0 p.zs)) p.bl p.ca p.pa p.ha p.fu) from_).getD []; fun (s10 : List (List Int) × Int) => ([(2, V.ptr 1 0 0), (4, V.nils), (5, V.sl 2 0 s10.1.length none), (6, V.sl 3 0 x32.length none), (7, V.int IntKind.i64 s10.2)], [O.ints false IntKind.i8 p.zs, O.cells true [V.int IntKind.i64 p.f, V.int IntKind.i64 p.r, V.sl 0 0 p.zs.length none, V.bool p.bl, V.int IntKind.u8 p.ca, V.int IntKind.i64 p.pa, V.int IntKind.i64 p.ha, V.int IntKind.i64 p.fu], O.rows true [IntKind.i64, IntKind.i64, IntKind.i8] s10.1, O.rows true [IntKind.i64, IntKind.i64, IntKind.i8] x32])) (fun (s20 : List (List Int)) => ([(4, V.nils), (5, V.sl 1 0 s20.length none)], [O.ints false IntKind.i8 p.zs, O.rows true [IntKind.i64, IntKind.i64, IntKind.i8] s20])) (.exit 0) ((Ent.phT 5 (O.rows true [IntKind.i64, IntKind.i64, IntKind.i8] []) rfl rfl rfl rfl rfl).trans (Ent.rn [0, 1, 3, 2] [2, 4, 5, 6, 7] rfl rfl rfl rfl rfl)) (fun s10 => ?_) (fun s20 => ?_)
 ·refine so_split hE 2 rfl ?_ ?_
  ·refine so_triv rfl ?_
   refine so_need ?_
   refine so_as (pb (pl (decide_eq_true (win_len rfl)) id) id) ?_
   refine so_join hE 2 (let x35 := (ufrom (Psn.mk p.f p.r (List.take p.zs.length (List.drop 0 p.zs)) p.bl p.ca p.pa p.ha p.fu) from_).getD []; fun (s12 : List (List Int)) => ([(2, V.ptr 1 0 0), (4, V.nils), (5, V.sl 2 0 s12.length none), (6, V.sl 3 0 x35.length none), (7, V.int IntKind.i64 s10.2)], [O.ints false IntKind.i8 p.zs, O.cells true [V.int IntKind.i64 p.f, V.int IntKind.i64 p.r, V.sl 0 0 p.zs.length none, V.bool p.bl, V.int IntKind.u8 p.ca, V.int IntKind.i64 p.pa, V.int IntKind.i64 p.ha, V.int IntKind.i64 p.fu], O.rows true [IntKind.i64, IntKind.i64, IntKind.i8] s12, O.rows true [IntKind.i64, IntKind.i64, IntKind.i8] x35])) rfl ?_ ?_ (fun s12 => ?_)
   ·refine so_need ?_
    refine so_as (pr (pl (decide_eq_true rfl) id) rfl) ?_
    exact so_nrm ((Ent.rn [0, 1, 5, 3] [2, 4, 5, 6, 7] rfl rfl rfl rfl rfl))
   ·exact so_nrm ((Ent.rn [0, 1, 2, 3] [2, 4, 5, 6, 7] rfl rfl rfl rfl rfl))
   exact so_next ((Ent.rn [0, 1, 2, 3] [2, 4, 5, 6, 7] rfl rfl rfl rfl rfl))
  exact so_exit ((Ent.rn [0, 2] [4, 5] rfl rfl rfl rfl rfl))
 exact so_ret (fin_bs [1] (.inr rfl) rfl rfl rfl rfl rfl)
theorem c_gfrom_ok : CtOk (GGx kCa kDb) PP (19, c_gfrom) := by
 refine ct_mk Tryz.func19 (by kernel_rfl) rfl fun a0 h0 c0 v0 N0 e hc => ?_
 unfold c_gfrom at e
 split at e
 ·rename_i p_0 p_1 p_2n p_3 p_4 p_5 p_6 p_7 from__0 p_2
  obtain ⟨hl, r, hr, rfl, rfl⟩ := ret_ok e hc
  simp only [Bool.and_eq_true, decide_eq_true_eq] at hl
  obtain rfl := hl
  exact gfrom_snd ⟨p_0, p_1, p_2, p_3, p_4, p_5, p_6, p_7⟩ from__0 hr
 ·cases e
def gmoves_s1 : Psn → List (List Int) × Int → Option (List (List Int) × Int ⊕ List (List Int) ⊕ List (List Int)) := fun (p : Psn) (s7 : List (List Int) × Int) => bif decide (s7.2 < Int.ofNat p.zs.length) then callO (gfrom (Psn.mk p.f p.r (List.take p.zs.length (List.drop 0 p.zs)) p.bl p.ca p.pa p.ha p.fu) s7.2) [] fun (y8 : List (List Int)) => let x19 := (s7.1.length + y8.length) * 24; needO (decide (x19 ≤ 140737488355328) && !Nat.beq 2 (1 - hlen ([] ++ [O.ints false IntKind.i8 (List.take p.zs.length (List.drop 0 p.zs))]) + 2 + 1)) (some (Sum.inl (s7.1 ++ List.take y8.length (List.drop 0 y8), IntKind.i64.wrap (s7.2 + 1)))) else some (Sum.inr (Sum.inl s7.1))
def gmoves (p : Psn) : Option (List (List Int)) := loopO (gmoves_s1 p) (fun (s16 : List (List Int)) => some s16) 1000000 ([], 0)
def gmoves_V (R : List (List Int)) : V := .sl 1 0 R.length none
def gmoves_N (R : List (List Int)) : List O := [.rows true [.i64, .i64, .i8] R]
def c_gmoves : CF
 | [.agg [.int .i64 p_0, .int .i64 p_1, .sl 0 0 p_2n none, .bool p_3, .int .u8 p_4, .int .i64 p_5, .int .i64 p_6, .int .i64 p_7]], [.ints false .i8 p_2] => retC (decide (p_2n = p_2.length)) (gmoves ⟨p_0, p_1, p_2, p_3, p_4, p_5, p_6, p_7⟩) [] gmoves_V gmoves_N
 | _, _ => none
theorem gmoves_snd (p : Psn) {r} (hr : gmoves p = some r) : FnSound (GGx kCa kDb) PP 15 [.agg [.int .i64 p.f, .int .i64 p.r, .sl 0 0 p.zs.length none, Bb p.bl, .int .u8 p.ca, .int .i64 p.pa, .int .i64 p.ha, .int .i64 p.fu]] [.ints false .i8 p.zs] (gmoves_V r) (gmoves_N r) := by
 have hE := cutE (EE_ok (kCa := kCa) (kDb := kDb) (cts := [(19, c_gfrom)]) (inl := []) ⟨c_gfrom_ok, trivial⟩ trivial)
 refine so_fn hE 2 Tryz.func15 rfl rfl gmoves_V gmoves_N hr ?_ rfl rfl
 refine so_loop hE 2 (fun (s7 : List (List Int) × Int) => ([(1, V.ptr 1 0 0), (2, V.nils), (3, V.sl 2 0 s7.1.length none), (4, V.int IntKind.i64 s7.2)], [O.ints false IntKind.i8 p.zs, O.cells true [V.int IntKind.i64 p.f, V.int IntKind.i64 p.r, V.sl 0 0 p.zs.length none, V.bool p.bl, V.int IntKind.u8 p.ca, V.int IntKind.i64 p.pa, V.int IntKind.i64 p.ha, V.int IntKind.i64 p.fu], O.rows true [IntKind.i64, IntKind.i64, IntKind.i8] s7.1])) (fun (s16 : List (List Int)) => ([(2, V.nils), (3, V.sl 1 0 s16.length none)], [O.ints false IntKind.i8 p.zs, O.rows true [IntKind.i64, IntKind.i64, IntKind.i8] s16])) (.exit 0) ((Ent.phT 3 (O.rows true [IntKind.i64, IntKind.i64, IntKind.i8] []) rfl rfl rfl rfl rfl).trans (Ent.rn [0, 1, 2] [1, 2, 3, 4] rfl rfl rfl rfl rfl)) (fun s7 => ?_) (fun s16 => ?_)
 ·refine so_split hE 2 rfl ?_ ?_
  ·refine so_callas (pl (decide_eq_true (win_len rfl)) id) ?_
   refine so_as (pb (pl (decide_eq_true rfl) id) id) ?_
   exact so_next ((Ent.rn [0, 1, 4] [1, 2, 3, 4] rfl rfl rfl rfl rfl))
  exact so_exit ((Ent.rn [0, 2] [2, 3] rfl rfl rfl rfl rfl))
 exact so_ret (fin_bs [1] (.inr rfl) rfl rfl rfl rfl rfl)
theorem c_gmoves_ok : CtOk (GGx kCa kDb) PP (15, c_gmoves) := by
 refine ct_mk Tryz.func15 (by kernel_rfl) rfl fun a0 h0 c0 v0 N0 e hc => ?_
 unfold c_gmoves at e
 split at e
 ·rename_i p_0 p_1 p_2n p_3 p_4 p_5 p_6 p_7 p_2
  obtain ⟨hl, r, hr, rfl, rfl⟩ := ret_ok e hc
  simp only [Bool.and_eq_true, decide_eq_true_eq] at hl
  obtain rfl := hl
  exact gmoves_snd ⟨p_0, p_1, p_2, p_3, p_4, p_5, p_6, p_7⟩ hr
 ·cases e
def lany_s1 : Psn → Bool × Int → List (List Int) × Int → Bool × Int → Option (Bool × Int ⊕ Bool ⊕ Bool × Int ⊕ Bool ⊕ Bool × Int) := fun (p : Psn) (s19 : Bool × Int) (y20 : List (List Int) × Int) => let x43 := Psn.mk p.f p.r (List.take p.zs.length (List.drop 0 p.zs)) p.bl p.ca p.pa p.ha p.fu; fun (s25 : Bool × Int) => let x47 := decide (s25.2 < Int.ofNat y20.1.length); let x48 := y20.1.getD s25.2.toNat []; let x46 := Mov.mk (x48.getD 0 0) (x48.getD 1 0) (x48.getD 2 0); let x45 := (keeps x43 x46).getD false; bif x47 then needO (decide (0 ≤ s25.2) && x47) (callO (keeps x43 x46) Inhabited.default fun (y26 : Bool) => bif x45 then some (Sum.inr (Sum.inl x45)) else some (Sum.inl (x45, IntKind.i64.wrap (s25.2 + 1)))) else escO (escO (some (Sum.inl (s25.1, IntKind.i64.wrap (s19.2 + 1)))))
def lany_s2 : Psn → (Psn → Bool × Int → List (List Int) × Int → Bool × Int → Option (Bool × Int ⊕ Bool ⊕ Bool × Int ⊕ Bool ⊕ Bool × Int)) → Bool × Int → Option (Bool × Int ⊕ Bool ⊕ Bool × Int) := fun (p : Psn) (lany_s1 : Psn → Bool × Int → List (List Int) × Int → Bool × Int → Option (Bool × Int ⊕ Bool ⊕ Bool × Int ⊕ Bool ⊕ Bool × Int)) (s19 : Bool × Int) => bif decide (s19.2 < Int.ofNat p.zs.length) then callO (pfrom (Psn.mk p.f p.r (List.take p.zs.length (List.drop 0 p.zs)) p.bl p.ca p.pa p.ha p.fu) s19.2) ([], 0) fun (y20 : List (List Int) × Int) => loopO (lany_s1 p s19 y20) (fun (s34 : Bool) => some (Sum.inr (Sum.inl s34))) 1000000 (s19.1, 0) else some (Sum.inr (Sum.inl s19.1))
def lany (p : Psn) : Option (Bool × Int) := let x56 := List.take p.zs.length (List.drop 0 p.zs); let x55 := x56.length; needO (decide (x55 ≤ 64)) (bif !(Psn.mk p.f p.r x56 p.bl p.ca p.pa p.ha p.fu).ok then some (false, 2) else loopO (lany_s2 p lany_s1) (fun (s42 : Bool) => some (s42, 0)) 1000000 (false, 0))
def lany_V (R : Bool × Int) : V := .tup [Bb R.1, .int .i64 R.2]
def lany_N (R : Bool × Int) : List O := []
def c_lany : CF
 | [.agg [.int .i64 p_0, .int .i64 p_1, .sl 0 0 p_2n none, .bool p_3, .int .u8 p_4, .int .i64 p_5, .int .i64 p_6, .int .i64 p_7]], [.ints false .i8 p_2] => retC (decide (p_2n = p_2.length)) (lany ⟨p_0, p_1, p_2, p_3, p_4, p_5, p_6, p_7⟩) (false, 0) lany_V lany_N
 | _, _ => none
theorem lany_snd (p : Psn) {r} (hr : lany p = some r) : FnSound (GGx true true) PP 12 [.agg [.int .i64 p.f, .int .i64 p.r, .sl 0 0 p.zs.length none, Bb p.bl, .int .u8 p.ca, .int .i64 p.pa, .int .i64 p.ha, .int .i64 p.fu]] [.ints false .i8 p.zs] (lany_V r) (lany_N r) := by
 have hE := cutE (EE_ok (kCa := true) (kDb := true) (cts := [(40, c_pvalid), (41, c_pfrom), (42, c_keeps)]) (inl := []) ⟨c_pvalid_ok, c_pfrom_ok, c_keeps_ok, trivial⟩ trivial)
 refine so_fn hE 2 Tryz.func12 rfl rfl lany_V lany_N hr ?_ rfl rfl
 refine so_as (pl (decide_eq_true (win_len rfl)) id) ?_
 refine so_split hE 2 rfl ?_ ?_
 ·exact so_ret (fin_bs [] (.inr rfl) rfl rfl rfl rfl rfl)
 refine so_loop hE 2 (fun (s19 : Bool × Int) => ([(1, V.ptr 1 0 0), (2, V.bool false), (3, V.int IntKind.i64 0), (4, V.bool s19.1), (15, V.int IntKind.i64 (Int.ofNat p.zs.length)), (16, V.int IntKind.i64 s19.2)], [O.ints false IntKind.i8 p.zs, O.cells true [V.int IntKind.i64 p.f, V.int IntKind.i64 p.r, V.sl 0 0 p.zs.length none, V.bool p.bl, V.int IntKind.u8 p.ca, V.int IntKind.i64 p.pa, V.int IntKind.i64 p.ha, V.int IntKind.i64 p.fu]])) (fun (s42 : Bool) => ([(2, V.bool false), (3, V.int IntKind.i64 0), (4, V.bool s42)], [O.ints false IntKind.i8 p.zs])) (.exit 0) ((Ent.rn [0, 1] [1, 2, 3, 4, 15, 16] rfl rfl rfl rfl rfl)) (fun s19 => ?_) (fun s42 => ?_)
 ·refine so_split hE 2 rfl ?_ ?_
  ·refine so_callas (pl (decide_eq_true (win_len rfl)) id) ?_
   refine so_loop hE 2 (let x61 := ((pfrom (Psn.mk p.f p.r (List.take p.zs.length (List.drop 0 p.zs)) p.bl p.ca p.pa p.ha p.fu) s19.2).getD ([], 0)).fst; let x60 := x61.length; fun (s25 : Bool × Int) => ([(1, V.ptr 1 0 0), (2, V.bool false), (3, V.int IntKind.i64 0), (4, V.bool s25.1), (15, V.int IntKind.i64 (Int.ofNat p.zs.length)), (16, V.int IntKind.i64 s19.2), (25, V.sl 2 0 x60 none), (26, V.int IntKind.i64 (Int.ofNat x60)), (27, V.int IntKind.i64 s25.2)], [O.ints false IntKind.i8 p.zs, O.cells true [V.int IntKind.i64 p.f, V.int IntKind.i64 p.r, V.sl 0 0 p.zs.length none, V.bool p.bl, V.int IntKind.u8 p.ca, V.int IntKind.i64 p.pa, V.int IntKind.i64 p.ha, V.int IntKind.i64 p.fu], O.rows true [IntKind.i64, IntKind.i64, IntKind.i8] x61])) (fun (s34 : Bool) => ([(1, V.ptr 1 0 0), (2, V.bool false), (3, V.int IntKind.i64 0), (4, V.bool s34), (15, V.int IntKind.i64 (Int.ofNat p.zs.length)), (16, V.int IntKind.i64 s19.2)], [O.ints false IntKind.i8 p.zs, O.cells true [V.int IntKind.i64 p.f, V.int IntKind.i64 p.r, V.sl 0 0 p.zs.length none, V.bool p.bl, V.int IntKind.u8 p.ca, V.int IntKind.i64 p.pa, V.int IntKind.i64 p.ha, V.int IntKind.i64 p.fu]])) (.exit 0) ((Ent.rn [0, 1, 2] [1, 2, 3, 4, 15, 16, 25, 26, 27] rfl rfl rfl rfl rfl)) (fun s25 => ?_) (fun s34 => ?_)
   ·refine so_split hE 2 rfl ?_ ?_
    ·refine so_need ?_
     refine so_callas (pl (decide_eq_true (win_len rfl)) id) ?_
     refine so_split hE 2 rfl ?_ ?_
     ·exact so_exit ((Ent.rn [0, 1] [1, 2, 3, 4, 15, 16] rfl rfl rfl rfl rfl))
     exact so_next ((Ent.rn [0, 1, 2] [1, 2, 3, 4, 15, 16, 25, 26, 27] rfl rfl rfl rfl rfl))
    refine so_out (by simp) (so_out1 ?_)
    exact so_next ((Ent.rn [0, 1] [1, 2, 3, 4, 15, 16] rfl rfl rfl rfl rfl))
   exact so_exit ((Ent.rn [0] [2, 3, 4] rfl rfl rfl rfl rfl))
  exact so_exit ((Ent.rn [0] [2, 3, 4] rfl rfl rfl rfl rfl))
 exact so_ret (fin_bs [] (.inr rfl) rfl rfl rfl rfl rfl)
theorem c_lany_ok : CtOk (GGx true true) PP (12, c_lany) := by
 refine ct_mk Tryz.func12 (by kernel_rfl) rfl fun a0 h0 c0 v0 N0 e hc => ?_
 unfold c_lany at e
 split at e
 ·rename_i p_0 p_1 p_2n p_3 p_4 p_5 p_6 p_7 p_2
  obtain ⟨hl, r, hr, rfl, rfl⟩ := ret_ok e hc
  simp only [Bool.and_eq_true, decide_eq_true_eq] at hl
  obtain rfl := hl
  exact lany_snd ⟨p_0, p_1, p_2, p_3, p_4, p_5, p_6, p_7⟩ hr
 ·cases e
end Go.Ab

set_option maxRecDepth 100000
namespace Go.Ab
open Go.Proofs
theorem loop_list {β σ ξ α : Type} {step : σ × Int → Option (σ × Int ⊕ (ξ ⊕ α))} {F : ξ → Option α} (l : List β) (f : σ → β → σ) (out : σ → ξ) (inv : Nat → σ → Prop)
  (hs : ∀ (j : Nat) (x : β) (s : σ), l[j]? = some x → inv j s → step (s, (j : Int)) = some (.inl (f s x, ((j + 1 : Nat) : Int))) ∧ inv (j + 1) (f s x))
  (he : ∀ s, inv l.length s → step (s, (l.length : Int)) = some (.inr (.inl (out s)))) :
  ∀ (k fuel j : Nat) (s : σ), j + k = l.length → k < fuel → inv j s → loopO step F fuel (s, (j : Int)) = F (out ((l.drop j).foldl f s))
 | k, 0, j, s, _, h, _ => absurd h (by omega)
 | 0, fuel + 1, j, s, h, _, hi => by
  have h0 : j = l.length := by omega
  subst h0
  rw [loopO_exit (he s hi), List.drop_length]; rfl
 | k + 1, fuel + 1, j, s, h, hf, hi => by
  have hj : j < l.length := by omega
  obtain ⟨h1, h2⟩ := hs j l[j] s (List.getElem?_eq_getElem hj) hi
  rw [loopO_next h1, loop_list l f out inv hs he k fuel (j + 1) _ (by omega) (by omega) h2, List.drop_eq_getElem_cons hj, List.foldl_cons]
theorem foldl_filter' {β : Type} (q : β → Bool) : ∀ (l acc : List β), l.foldl (fun acc x => bif q x then acc ++ [x] else acc) acc = acc ++ l.filter q
 | [], acc => by simp
 | x :: l, acc => by
  rw [List.foldl_cons, foldl_filter' q l, List.filter_cons]
  cases q x <;> simp
theorem foldl_flat {β γ : Type} (g : β → List γ) : ∀ (l : List β) (acc : List γ), l.foldl (fun acc x => acc ++ g x) acc = acc ++ l.flatMap g
 | [], acc => by simp
 | x :: l, acc => by rw [List.foldl_cons, foldl_flat g l, List.flatMap_cons, List.append_assoc]
def mvR (r : List Int) : Mov := ⟨r.getD 0 0, r.getD 1 0, r.getD 2 0⟩
section
variable {p : Psn}
def RowOk (p : Psn) (r : List Int) : Prop := ∃ a b pr, r = [a, b, pr] ∧ canM p a b pr = true
def legF (p : Psn) (r : List Int) : Bool := !err4 p (mvR r)
theorem psL_row {a : Int} {r : List Int} (h : r ∈ psL p a) : ∃ b pr, r = [a, b, pr] ∧ canM p a b pr = true := by
 unfold psL rowsM at h
 simp only [List.mem_flatMap, List.mem_map, List.mem_filter] at h
 obtain ⟨b, _, pr, ⟨_, h2⟩, rfl⟩ := h
 exact ⟨b, pr, rfl, h2⟩
theorem psL_ok {a : Int} {r : List Int} (h : r ∈ psL p a) : RowOk p r := let ⟨b, pr, h1, h2⟩ := psL_row h; ⟨a, b, pr, h1, h2⟩
theorem allL_ok {r : List Int} (h : r ∈ allL p) : RowOk p r := by
 unfold allL at h
 obtain ⟨a, _, h⟩ := List.mem_flatMap.1 h
 exact psL_ok h
theorem can_mvB {a b pr : Int} (h : canM p a b pr = true) : mvB p.f p.r a b pr = true := by
 cases hm : mvB p.f p.r a b pr with
 | true => rfl
 | false => rw [can_mv hm] at h; cases h
theorem keeps_eq (o : PsH p) {a b pr : Int} (h : canM p a b pr = true) : keeps p ⟨a, b, pr⟩ = some (legF p [a, b, pr]) := by
 have h1 : decide (p.zs.length ≤ 64) = true := by simpa using o.hl
 unfold keeps
 simp only [List.drop_zero, List.take_length, psn_eta', h1, needO_true]
 rw [keep_eq (m := ⟨a, b, pr⟩) o.ok (can_mvB h)]
 unfold legM legF mvR
 rw [h]; rfl
theorem kept_eq (o : PsH p) {l : List (List Int)} (hl : l.length ≤ 100000) (hr : ∀ r ∈ l, RowOk p r) : kept p l = some (l.filter (legF p)) := by
 unfold kept
 refine (loop_list (step := kept_s1 p l) l (fun acc x => bif legF p x then acc ++ [x] else acc) (fun s => s) (fun j s => s.length ≤ j) ?_ ?_ l.length 1000000 0 [] (by omega) (by omega) (by simp)).trans ?_
 rotate_left 2
 ·rw [List.drop_zero, foldl_filter', List.nil_append]
  have h1 : decide (Int.ofNat (l.filter (legF p)).length ≤ Int.ofNat (l.filter (legF p)).length) = true := by simp
  have h2 : decide (0 ≤ Int.ofNat (l.filter (legF p)).length) = true := by simp
  have h3 : decide ((Int.ofNat (l.filter (legF p)).length).toNat - Int.toNat 0 = (l.filter (legF p)).length) = true := by simp
  simp only [h1, h2, h3, Bool.and_self, needO_true]
 ·intro j x s hx hi
  obtain ⟨a, b, pr, rfl, hc⟩ := hr x (List.mem_of_getElem? hx)
  have hj := (List.getElem?_eq_some_iff.1 hx).1
  have e1 : l.getD (j : Int).toNat [] = [a, b, pr] := by simp [List.getD, hx]
  have h1 : decide ((j : Int) < Int.ofNat l.length) = true := by simp; omega
  have h2 : decide (0 ≤ (j : Int)) = true := by simp
  have h3 : decide ((s.length + 1) * 24 ≤ 140737488355328) = true := by simp; omega
  have hk := keeps_eq o hc
  refine ⟨?_, ?_⟩
  ·unfold kept_s1
   simp only [List.drop_zero, List.take_length, psn_eta', e1, h1, h2, h3, cond_true, Bool.and_self, needO_true]
   rw [show ([a, b, pr] : List Int).getD 0 0 = a from rfl, show ([a, b, pr] : List Int).getD 1 0 = b from rfl, show ([a, b, pr] : List Int).getD 2 0 = pr from rfl, hk, callO_some, Option.getD_some, show IntKind.i64.wrap ((j : Int) + 1) = ((j + 1 : Nat) : Int) from w64_id (by omega) (by omega)]
   cases legF p [a, b, pr] <;> rfl
  ·cases legF p [a, b, pr] <;> simp <;> omega
 ·intro s _
  have h1 : decide ((l.length : Int) < Int.ofNat l.length) = false := by simp
  unfold kept_s1
  simp only [h1, cond_false]
theorem lmoves_eq (o : PsH p) : lmoves p = some ((allL p).filter (legF p), 0) := by
 unfold lmoves
 simp only [List.drop_zero, List.take_length, psn_eta', pmoves_eq o, callO_some, decide_true, Bool.not_true, cond_false]
 rw [kept_eq o (allL_len o) fun r h => allL_ok h]; rfl
theorem lmoves_bad (hl : p.zs.length ≤ 64) (h : p.ok = false) : lmoves p = some ([], 2) := by
 unfold lmoves
 simp only [List.drop_zero, List.take_length, psn_eta', pm_bad hl h, callO_some]; rfl
theorem gfrom_eq (o : PsH p) {a : Int} : gfrom p a = some ((psL p a).filter (legF p)) := by
 have hpl := psL_len (p := p) (a := a) o.hl
 unfold gfrom
 simp only [List.drop_zero, List.take_length, psn_eta', ufrom_eq o]
 rw [callO_some]
 refine (loop_list (step := gfrom_s1 p (psL p a)) (psL p a) (fun acc x => bif legF p x then acc ++ [x] else acc) (fun s => s) (fun j s => s.length ≤ j) ?_ ?_ (psL p a).length 1000000 0 [] (by omega) (by omega) (by simp)).trans ?_
 rotate_left 2
 ·rw [List.drop_zero, foldl_filter', List.nil_append]
 ·intro j x s hx hi
  obtain ⟨a', b, pr, rfl, hc⟩ := psL_ok (List.mem_of_getElem? hx)
  have hj := (List.getElem?_eq_some_iff.1 hx).1
  have e1 : (psL p a).getD (j : Int).toNat [] = [a', b, pr] := by simp [List.getD, hx]
  have h1 : decide ((j : Int) < Int.ofNat (psL p a).length) = true := by simp; omega
  have h2 : decide (0 ≤ (j : Int)) = true := by simp
  have h3 : decide ((s.length + 1) * 24 ≤ 140737488355328) = true := by simp; omega
  have h4 : decide (p.zs.length ≤ 64) = true := by simpa using o.hl
  have k := can_mvok (m := ⟨a', b, pr⟩) o hc
  have hv : (validBd p.f p.r p.zs && castL p.f p.r p.zs p.ca && validB p.f p.r a' && validB p.f p.r b) = true := by rw [k.bd, cast_eq k.ca, k.cast, k.ha, k.hb]; rfl
  have hsf : sfL p ⟨a', b, pr⟩ = legF p [a', b, pr] := safe_eq o (m := ⟨a', b, pr⟩) hc
  refine ⟨?_, ?_⟩
  ·unfold gfrom_s1
   simp only [List.drop_zero, List.take_length, psn_eta', e1, h1, h2, h3, h4, cond_true, Bool.and_self, needO_true]
   rw [show ([a', b, pr] : List Int).getD 0 0 = a' from rfl, show ([a', b, pr] : List Int).getD 1 0 = b from rfl, show ([a', b, pr] : List Int).getD 2 0 = pr from rfl, hv, hsf, show IntKind.i64.wrap ((j : Int) + 1) = ((j + 1 : Nat) : Int) from w64_id (by omega) (by omega)]
   cases legF p [a', b, pr] <;> rfl
  ·cases legF p [a', b, pr] <;> simp <;> omega
 ·intro s _
  have h1 : decide (((psL p a).length : Int) < Int.ofNat (psL p a).length) = false := by simp
  unfold gfrom_s1
  simp only [h1, cond_false]
theorem gmoves_eq (o : PsH p) : gmoves p = some ((allL p).filter (legF p)) := by
 have hl := o.hl
 unfold gmoves
 refine (loop_list (step := gmoves_s1 p) (List.range p.zs.length) (fun acc (j : Nat) => acc ++ (psL p j).filter (legF p)) (fun s => s) (fun j s => s.length ≤ 320 * j) ?_ ?_ p.zs.length 1000000 0 [] (by simp) (by omega) (by simp)).trans ?_
 rotate_left 2
 ·rw [List.drop_zero, foldl_flat, List.nil_append]
  unfold allL
  rw [List.filter_flatMap, List.flatMap_map]
  rfl
 ·intro j x s hx hi
  obtain ⟨hj, hx⟩ := List.getElem?_eq_some_iff.1 hx
  simp only [List.length_range, List.getElem_range] at hj hx
  subst hx
  have hp := psL_len (p := p) (a := (j : Int)) hl
  have hf : ((psL p j).filter (legF p)).length ≤ 320 := Nat.le_trans (List.length_filter_le _ _) hp
  have h1 : decide ((j : Int) < Int.ofNat p.zs.length) = true := by simp; omega
  have h2 : decide ((s.length + ((psL p j).filter (legF p)).length) * 24 ≤ 140737488355328) = true := by simp; omega
  refine ⟨?_, by rw [List.length_append]; omega⟩
  unfold gmoves_s1
  simp only [List.drop_zero, List.take_length, psn_eta', h1, cond_true, gfrom_eq o, callO_some, h2]
  rw [show IntKind.i64.wrap ((j : Int) + 1) = ((j + 1 : Nat) : Int) from w64_id (by omega) (by omega)]
  rfl
 ·intro s _
  have h1 : decide (((List.range p.zs.length).length : Int) < Int.ofNat p.zs.length) = false := by simp
  unfold gmoves_s1
  simp only [h1, cond_false]
theorem la_in (o : PsH p) {l : List (List Int)} (hl : l.length ≤ 100000) (hr : ∀ r ∈ l, RowOk p r) {s : Bool × Int} (hs0 : 0 ≤ s.2) (hs1 : s.2 < 1000) {e : Int} {F : Bool → Option (Bool × Int ⊕ Bool ⊕ Bool × Int)} : ∀ (k fuel j : Nat), j + k = l.length → k < fuel →
  loopO (lany_s1 p s (l, e)) F fuel (false, (j : Int)) = bif (l.drop j).any (legF p) then F true else some (.inl (false, s.2 + 1))
 | k, 0, j, _, h => absurd h (by omega)
 | 0, fuel + 1, j, h, _ => by
  have h1 : decide ((j : Int) < Int.ofNat l.length) = false := by simp; omega
  rw [loopO_ret (r := .inl (false, s.2 + 1))]
  ·rw [List.drop_eq_nil_of_le (by omega)]; rfl
  ·unfold lany_s1
   simp only [h1, cond_false]
   rw [show IntKind.i64.wrap (s.2 + 1) = s.2 + 1 from w64_id (by omega) (by omega)]; rfl
 | k + 1, fuel + 1, j, h, hf => by
  have hj : j < l.length := by omega
  obtain ⟨a, b, pr, hx, hc⟩ := hr l[j] (List.getElem_mem hj)
  have e1 : l.getD (j : Int).toNat [] = [a, b, pr] := by simp [List.getD, hj, hx]
  have h1 : decide ((j : Int) < Int.ofNat l.length) = true := by simp; omega
  have h2 : decide (0 ≤ (j : Int)) = true := by simp
  have hk := keeps_eq o hc
  have hst : lany_s1 p s (l, e) (false, (j : Int)) = bif legF p [a, b, pr] then some (.inr (.inl true)) else some (.inl (false, ((j + 1 : Nat) : Int))) := by
   unfold lany_s1
   simp only [List.drop_zero, List.take_length, psn_eta', e1, h1, h2, cond_true, Bool.and_self, needO_true]
   rw [show ([a, b, pr] : List Int).getD 0 0 = a from rfl, show ([a, b, pr] : List Int).getD 1 0 = b from rfl, show ([a, b, pr] : List Int).getD 2 0 = pr from rfl, hk, callO_some, Option.getD_some, show IntKind.i64.wrap ((j : Int) + 1) = ((j + 1 : Nat) : Int) from w64_id (by omega) (by omega)]
   cases legF p [a, b, pr] <;> rfl
  rw [List.drop_eq_getElem_cons hj, List.any_cons, hx]
  cases hq : legF p [a, b, pr] with
  | true => rw [loopO_exit (x := true) (by rw [hst, hq]; rfl)]; rfl
  | false => rw [loopO_next (s' := (false, ((j + 1 : Nat) : Int))) (by rw [hst, hq]; rfl), la_in o hl hr hs0 hs1 k fuel (j + 1) (by omega) (by omega)]; rfl
theorem la_step (o : PsH p) {j : Nat} (hj : j < p.zs.length) : lany_s2 p lany_s1 (false, (j : Int)) = bif (psL p j).any (legF p) then some (.inr (.inl true)) else some (.inl (false, ((j + 1 : Nat) : Int))) := by
 have hl := o.hl
 have hpl := psL_len (p := p) (a := (j : Int)) hl
 have h1 : decide ((j : Int) < Int.ofNat p.zs.length) = true := by simp; omega
 have hv : validB p.f p.r (j : Int) = true := (bd_sq o.bd).2 ⟨by omega, by omega⟩
 unfold lany_s2
 simp only [List.drop_zero, List.take_length, psn_eta', h1, cond_true, pfrom_eq o hv]
 rw [callO_some]
 have := la_in o (l := psL p j) (by omega) (fun r h => psL_ok h) (s := (false, (j : Int))) (by simp) (by simp; omega) (e := 0) (F := fun s34 => some (.inr (.inl s34))) (psL p j).length 1000000 0 (by omega) (by omega)
 rw [List.drop_zero] at this
 exact this
theorem la_out (o : PsH p) {F : Bool → Option (Bool × Int)} : ∀ (k fuel j : Nat), j + k = p.zs.length → k < fuel →
  loopO (lany_s2 p lany_s1) F fuel (false, (j : Int)) = F ((List.range' j k).any fun x => (psL p x).any (legF p))
 | k, 0, j, _, h => absurd h (by omega)
 | 0, fuel + 1, j, h, _ => by
  have h1 : decide ((j : Int) < Int.ofNat p.zs.length) = false := by simp; omega
  rw [loopO_exit (x := false)]
  ·rfl
  ·unfold lany_s2; simp only [h1, cond_false]
 | k + 1, fuel + 1, j, h, hf => by
  have hl := o.hl
  have hpl := psL_len (p := p) (a := (j : Int)) hl
  have h1 : decide ((j : Int) < Int.ofNat p.zs.length) = true := by simp; omega
  have hv : validB p.f p.r (j : Int) = true := (bd_sq o.bd).2 ⟨by omega, by omega⟩
  have hst := la_step o (j := j) (by omega)
  rw [List.range'_succ, List.any_cons]
  cases hq : (psL p j).any (legF p) with
  | true => rw [loopO_exit (x := true) (by rw [hst, hq]; rfl)]; rfl
  | false => rw [loopO_next (s' := (false, ((j + 1 : Nat) : Int))) (by rw [hst, hq]; rfl), la_out o k fuel (j + 1) (by omega) (by omega)]; rfl
theorem lany_eq (o : PsH p) : lany p = some ((allL p).any (legF p), 0) := by
 have hl := o.hl
 have h1 : decide (p.zs.length ≤ 64) = true := by simpa using hl
 unfold lany
 simp only [List.drop_zero, List.take_length, psn_eta', h1, o.ok, needO_true, Bool.not_true, cond_false]
 have := la_out o (F := fun s42 => some (s42, 0)) p.zs.length 1000000 0 (by omega) (by omega)
 refine this.trans ?_
 unfold allL
 rw [List.any_flatMap, List.any_map, List.range_eq_range']
 rfl
theorem lany_bad (hl : p.zs.length ≤ 64) (h : p.ok = false) : lany p = some (false, 2) := by
 have h1 : decide (p.zs.length ≤ 64) = true := by simpa using hl
 unfold lany
 simp only [List.drop_zero, List.take_length, psn_eta', h1, h, needO_true, Bool.not_false, cond_true]
end
end Go.Ab

set_option maxRecDepth 100000
set_option maxHeartbeats 4000000
namespace Go.Ab
open Go.Proofs
variable {kCa kDb : Bool}
def lawLM (p : Psn) : Option (Bool) := let x11 := List.take p.zs.length (List.drop 0 p.zs); let x9 := Psn.mk p.f p.r x11 p.bl p.ca p.pa p.ha p.fu; let x10 := x11.length; let x6 := decide (x10 ≤ 64); let x8 := List.take x10 (List.drop 0 x11); let x7 := x8.length; callO (small10 x9) false fun (y1 : Bool) => bif !y1 then some true else needO x6 (callO (lmoves x9) ([], 0) fun (y2 : List (List Int) × Int) => callO (lany x9) (false, 0) fun (y3 : Bool × Int) => needO (decide (x7 ≤ 64) && x6) (bif !equalB (Psn.mk p.f p.r x8 p.bl p.ca p.pa p.ha p.fu) x9 then some false else needO x6 (bif !validL x9 then some (decide (Int.ofNat y2.1.length = 0) && decide (y2.2 = 2) && !y3.1 && decide (y3.2 = 2) && true) else callO (gmoves x9) [] fun (y4 : List (List Int)) => callO (msame (List.take y2.1.length (List.drop 0 y2.1)) (List.take y4.length (List.drop 0 y4))) false fun (y5 : Bool) => some (y5 && decide (y2.2 = 0) && y3.1 == decide (0 < Int.ofNat y4.length) && decide (y3.2 = 0) && true))))
def lawLM_V (R : Bool) : V := Bb R
def lawLM_N (R : Bool) : List O := []
theorem lawLM_snd (p : Psn) {r} (hr : lawLM p = some r) : FnSound (GGx true true) PP 3 [.agg [.int .i64 p.f, .int .i64 p.r, .sl 0 0 p.zs.length none, Bb p.bl, .int .u8 p.ca, .int .i64 p.pa, .int .i64 p.ha, .int .i64 p.fu]] [.ints false .i8 p.zs] (lawLM_V r) (lawLM_N r) := by
 have hE := cutE (EE_ok (kCa := true) (kDb := true) (cts := [(8, c_small10), (9, c_known10), (10, c_rcopy), (11, c_lmoves), (12, c_lany), (13, c_requal), (14, c_rvalid), (15, c_gmoves), (16, c_msame)]) (inl := []) ⟨c_small10_ok, c_known10_ok, c_rcopy_ok, c_lmoves_ok, c_lany_ok, c_requal_ok, c_rvalid_ok, c_gmoves_ok, c_msame_ok, trivial⟩ trivial)
 refine so_fn hE 2 Tryz.func3 rfl rfl lawLM_V lawLM_N hr ?_ rfl rfl
 unfold lawLM
 refine so_callas (pl (decide_eq_true (win_len rfl)) id) ?_
 refine so_split hE 2 rfl ?_ ?_
 ·refine so_triv rfl ?_
  exact so_ret (fin_bs [] (.inr rfl) rfl rfl rfl rfl rfl)
 refine so_as (pl (decide_eq_true (win_len rfl)) id) ?_
 refine so_callas (pl (decide_eq_true (win_len rfl)) id) ?_
 refine so_callas (pl (decide_eq_true (win_len rfl)) id) ?_
 refine so_as (pb (pr (pl (decide_eq_true (win_len rfl)) id) (decide_eq_true (win_len rfl))) id) ?_
 refine so_split hE 2 rfl ?_ ?_
 ·exact so_ret (fin_bs [] (.inr rfl) rfl rfl rfl rfl rfl)
 refine so_as (pl (decide_eq_true (win_len rfl)) id) ?_
 refine so_split hE 2 rfl ?_ ?_
 ·refine so_triv (Bool.not_or_self _) ?_
  refine so_triv (Bool.not_or_self _) ?_
  refine so_triv (Bool.not_or_self _) ?_
  refine so_triv (Bool.not_or_self _) ?_
  refine so_triv (Bool.not_or_self _) ?_
  refine so_triv (Bool.not_or_self _) ?_
  refine so_triv (pg rfl) ?_
  refine so_triv (Bool.not_or_self _) ?_
  exact so_ret (fin_bs [] (.inr rfl) rfl rfl rfl rfl rfl)
 refine so_callas (pl (decide_eq_true (win_len rfl)) id) ?_
 refine so_callas (pl (pa (decide_eq_true (win_len rfl)) (decide_eq_true (win_len rfl))) id) ?_
 refine so_triv (Bool.not_or_self _) ?_
 refine so_triv (Bool.not_or_self _) ?_
 refine so_triv (Bool.not_or_self _) ?_
 refine so_triv (Bool.not_or_self _) ?_
 refine so_triv (Bool.not_or_self _) ?_
 refine so_triv (Bool.not_or_self _) ?_
 refine so_triv (Bool.not_or_self _) ?_
 refine so_triv (Bool.not_or_self _) ?_
 refine so_triv (Bool.not_or_self _) ?_
 refine so_triv (pg rfl) ?_
 refine so_triv (Bool.not_or_self _) ?_
 exact so_ret (fin_bs [] (.inr rfl) rfl rfl rfl rfl rfl)
def lawLT_s1 : List (List Int) → List Int × Int → Option (List Int × Int ⊕ List Int ⊕ Bool) := fun (y4 : List (List Int)) (s8 : List Int × Int) => let x18 := (s8.1.length + 1) * 8; let x19 := decide (s8.2 < Int.ofNat y4.length); bif x19 then needO (decide (0 ≤ s8.2) && x19) (needO (decide (x18 ≤ 140737488355328)) (some (Sum.inl (s8.1 ++ List.take 1 (List.drop 0 (iL [(y4.getD s8.2.toNat []).getD 1 0])), IntKind.i64.wrap (s8.2 + 1))))) else some (Sum.inr (Sum.inl s8.1))
def lawLT (p : Psn) (at_ : Int) : Option (Bool) := let x23 := List.take p.zs.length (List.drop 0 p.zs); let x21 := Psn.mk p.f p.r x23 p.bl p.ca p.pa p.ha p.fu; let x22 := x23.length; callO (small10 x21) false fun (y2 : Bool) => bif !y2 then some true else callO (ltargets x21 at_) (0, 0) fun (y3 : Int × Int) => needO (decide (x22 ≤ 64)) (bif !validL x21 || !validB p.f p.r at_ then some (decide (y3.1 = 0) && decide (y3.2 = 2) && true) else callO (gfrom x21 at_) [] fun (y4 : List (List Int)) => loopO (lawLT_s1 y4) (fun (s16 : List Int) => let x28 := ofL (List.take s16.length (List.drop 0 s16)) 0; needO (decide ((List.take s16.length (List.drop 0 s16)).length ≤ 1000000) && (List.take s16.length (List.drop 0 s16)).all fun (x : Int) => decide (0 ≤ x)) (some (decide (y3.1 = x28) && decide (y3.2 = 0) && true))) 1000000 ([], 0))
def lawLT_V (R : Bool) : V := Bb R
def lawLT_N (R : Bool) : List O := []
theorem lawLT_snd (p : Psn) (at_ : Int) {r} (hr : lawLT p at_ = some r) : FnSound (GGx true true) PP 4 [.agg [.int .i64 p.f, .int .i64 p.r, .sl 0 0 p.zs.length none, Bb p.bl, .int .u8 p.ca, .int .i64 p.pa, .int .i64 p.ha, .int .i64 p.fu], .int .i64 at_] [.ints false .i8 p.zs] (lawLT_V r) (lawLT_N r) := by
 have hE := cutE (EE_ok (kCa := true) (kDb := true) (cts := [(8, c_small10), (9, c_known10), (14, c_rvalid), (17, c_ltargets), (18, c_Valid), (19, c_gfrom), (20, c_Of)]) (inl := []) ⟨c_small10_ok, c_known10_ok, c_rvalid_ok, c_ltargets_ok, c_Valid_ok, c_gfrom_ok, c_Of_ok, trivial⟩ trivial)
 refine so_fn hE 2 Tryz.func4 rfl rfl lawLT_V lawLT_N hr ?_ rfl rfl
 unfold lawLT
 refine so_callas (pl (decide_eq_true (win_len rfl)) id) ?_
 refine so_split hE 2 rfl ?_ ?_
 ·refine so_triv rfl ?_
  exact so_ret (fin_bs [] (.inr rfl) rfl rfl rfl rfl rfl)
 refine so_callas (pl (decide_eq_true (win_len rfl)) id) ?_
 refine so_as (pl (decide_eq_true (win_len rfl)) id) ?_
 refine so_triv (Bool.not_or_self _) ?_
 refine so_triv (Bool.not_or_self _) ?_
 refine so_triv (Bool.not_or_self _) ?_
 refine so_triv (pg rfl) ?_
 refine so_triv (Bool.not_or_self _) ?_
 refine so_triv (Bool.or_not_self _) ?_
 refine so_split hE 2 rfl ?_ ?_
 ·refine so_triv (Bool.not_or_self _) ?_
  refine so_triv (Bool.not_or_self _) ?_
  refine so_triv (pg rfl) ?_
  refine so_triv (Bool.not_or_self _) ?_
  exact so_ret (fin_bs [] (.inr rfl) rfl rfl rfl rfl rfl)
 refine so_callas (pl (decide_eq_true (win_len rfl)) id) ?_
 refine so_loop hE 2 (let x32 := Psn.mk p.f p.r (List.take p.zs.length (List.drop 0 p.zs)) p.bl p.ca p.pa p.ha p.fu; let x31 := (gfrom x32 at_).getD []; let x30 := x31.length; fun (s8 : List Int × Int) => ([(4, V.bool false), (5, V.int IntKind.u64 ((ltargets x32 at_).getD (0, 0)).fst), (6, V.int IntKind.i64 ((ltargets x32 at_).getD (0, 0)).snd), (7, V.sl 1 0 s8.1.length none), (41, V.sl 2 0 x30 none), (42, V.int IntKind.i64 (Int.ofNat x30)), (43, V.int IntKind.i64 s8.2)], [O.ints false IntKind.i8 p.zs, O.ints true IntKind.i64 s8.1, O.rows true [IntKind.i64, IntKind.i64, IntKind.i8] x31])) (let x34 := Psn.mk p.f p.r (List.take p.zs.length (List.drop 0 p.zs)) p.bl p.ca p.pa p.ha p.fu; fun (s16 : List Int) => ([(4, V.bool false), (5, V.int IntKind.u64 ((ltargets x34 at_).getD (0, 0)).fst), (6, V.int IntKind.i64 ((ltargets x34 at_).getD (0, 0)).snd), (7, V.sl 1 0 s16.length none)], [O.ints false IntKind.i8 p.zs, O.ints true IntKind.i64 s16])) (.exit 0) ((Ent.phT 7 (O.ints true IntKind.i64 []) rfl rfl rfl rfl rfl).trans (Ent.rn [0, 3, 2] [4, 5, 6, 7, 41, 42, 43] rfl rfl rfl rfl rfl)) (fun s8 => ?_) (fun s16 => ?_)
 ·refine so_split hE 2 rfl ?_ ?_
  ·refine so_need ?_
   refine so_as (pr (pl (decide_eq_true rfl) id) rfl) ?_
   exact so_next ((Ent.rn [0, 5, 2] [4, 5, 6, 7, 41, 42, 43] rfl rfl rfl rfl rfl))
  exact so_exit ((Ent.rn [0, 1] [4, 5, 6, 7] rfl rfl rfl rfl rfl))
 refine so_as (pb (pl (decide_eq_true (win_len rfl)) id) id) ?_
 refine so_triv (Bool.not_or_self _) ?_
 refine so_triv (Bool.not_or_self _) ?_
 refine so_triv (pg rfl) ?_
 refine so_triv (Bool.not_or_self _) ?_
 exact so_ret (fin_bs [] (.inr rfl) rfl rfl rfl rfl rfl)
end Go.Ab

set_option maxRecDepth 100000
namespace Go.Ab
open Go.Proofs
theorem any_len {β : Type} (q : β → Bool) (l : List β) : l.any q = decide (0 < Int.ofNat (l.filter q).length) := by
 induction l with
 | nil => rfl
 | cons x l ih =>
  rw [List.any_cons, List.filter_cons, ih]
  cases q x with
  | true => simp
  | false => simp
section
variable {p : Psn}
theorem row_b {r : List Int} (o : PsH p) (h : RowOk p r) : validB p.f p.r (r.getD 1 0) = true ∧ 0 ≤ r.getD 1 0 ∧ r.getD 1 0 < 64 := by
 obtain ⟨a, b, pr, rfl, hc⟩ := h
 have k := can_mvok (m := ⟨a, b, pr⟩) o hc
 have hb : validB p.f p.r b = true := k.hb
 have := (bd_sq o.bd).1 hb
 have hl := o.hl
 exact ⟨hb, this.1, by show b < 64; omega⟩
theorem sqOf_eq {b : Int} (hv : validB p.f p.r b = true) (h0 : 0 ≤ b) : sqOf ⟨p.f, p.r⟩ [b] = some (uor 0 (ushl 1 b), 0) := by
 unfold sqOf
 rw [show vsB p.f p.r = true from valid_vs hv]
 refine (loop_list (step := sqOf_s1 ⟨p.f, p.r⟩ [b]) [b] (fun s x => uor s (ushl 1 x)) (fun s => s) (fun _ _ => True) ?_ ?_ 1 1000000 0 0 (by simp) (by omega) trivial).trans ?_
 ·intro j x s hx _
  have hj : j = 0 := by have := (List.getElem?_eq_some_iff.1 hx).1; simpa using this
  subst hj
  have hx : b = x := by simpa using hx
  subst hx
  refine ⟨?_, trivial⟩
  have h1 : decide (((0 : Nat) : Int) < Int.ofNat [b].length) = true := by simp
  have h2 : decide (0 ≤ ((0 : Nat) : Int)) = true := by simp
  have h3 : decide (0 ≤ b) = true := by simpa using h0
  unfold sqOf_s1
  simp only [h1, h2, Bool.and_self, cond_true, needO_true]
  rw [show ([b] : List Int).getD ((0 : Nat) : Int).toNat 0 = b from rfl, hv, h3]
  rfl
 ·intro s _
  have h1 : decide ((([b] : List Int).length : Int) < Int.ofNat [b].length) = false := by simp
  unfold sqOf_s1
  simp only [h1, cond_false]
 ·rfl
def tgF (s : Int) (r : List Int) : Int := uor s (uor 0 (ushl 1 (r.getD 1 0)))
theorem tgF_bt (o : PsH p) : ∀ (l : List (List Int)) (s : Int), (∀ r ∈ l, RowOk p r) → Uk s → Uk (l.foldl tgF s) ∧ ∀ m : Nat, bt (l.foldl tgF s) m = (bt s m || decide ((m : Int) ∈ l.map (·.getD 1 0)))
 | [], s, _, hs => ⟨hs, fun m => by simp⟩
 | r :: l, s, hl, hs => by
  have hb := row_b o (hl r (by simp))
  have hu : Uk (uor 0 (ushl 1 (r.getD 1 0))) := uk_or _ _
  obtain ⟨h1, h2⟩ := tgF_bt o l (tgF s r) (fun x hx => hl x (by simp [hx])) (uk_or _ _)
  refine ⟨h1, fun m => ?_⟩
  rw [List.foldl_cons, h2]
  unfold tgF
  rw [bt_or hs hu, bt_or uk_0 (uk_shl _ _), bt_0, Bool.false_or, bt_shl hb.2.1 hb.2.2, List.map_cons]
  by_cases e : (m : Int) = r.getD 1 0
  ·rw [decide_eq_true e.symm, decide_eq_true (show (m : Int) ∈ r.getD 1 0 :: l.map (·.getD 1 0) by rw [e]; simp)]; simp
  ·rw [decide_eq_false (Ne.symm e), Bool.or_false]
   congr 1
   rw [decide_eq_decide, List.mem_cons]
   exact ⟨.inr, fun h => h.resolve_left e⟩
theorem tg_of (o : PsH p) {l : List (List Int)} (hl : ∀ r ∈ l, RowOk p r) : l.foldl tgF 0 = ofL (l.map (·.getD 1 0)) 0 := by
 obtain ⟨h1, h2⟩ := tgF_bt o l 0 hl uk_0
 obtain ⟨h3, h4⟩ := ofL_bt (l.map (·.getD 1 0)) 0 (fun x hx => by
  obtain ⟨r, hr, rfl⟩ := List.mem_map.1 hx
  exact (row_b o (hl r hr)).2) uk_0
 exact uk_ext h1 h3 fun m _ => by rw [h2, h4]
theorem filt_ok {a : Int} {r : List Int} (h : r ∈ (psL p a).filter (legF p)) : RowOk p r := psL_ok (List.mem_filter.1 h).1
theorem lt_run (o : PsH p) {l : List (List Int)} (hlen : l.length ≤ 100000) (hl : ∀ r ∈ l, RowOk p r) {F : Int → Option (Int × Int)} : loopO (ltargets_s1 p l) F 1000000 (0, 0) = F (l.foldl tgF 0) := by
 refine (loop_list (step := ltargets_s1 p l) l tgF (fun s => s) (fun _ _ => True) ?_ ?_ l.length 1000000 0 0 (by omega) (by omega) trivial).trans ?_
 ·intro j x s hx _
  have hj := (List.getElem?_eq_some_iff.1 hx).1
  have hb := row_b o (hl x (List.mem_of_getElem? hx))
  have e1 : l.getD (j : Int).toNat [] = x := by simp [List.getD, hx]
  have h1 : decide ((j : Int) < Int.ofNat l.length) = true := by simp; omega
  have h2 : decide (0 ≤ (j : Int)) = true := by simp
  refine ⟨?_, trivial⟩
  unfold ltargets_s1
  simp only [e1, h1, h2, Bool.and_self, cond_true, needO_true]
  rw [show List.take 1 (List.drop 0 (iL [x.getD 1 0])) = [x.getD 1 0] from rfl, sqOf_eq hb.1 hb.2.1, callO_some, Option.getD_some, show IntKind.i64.wrap ((j : Int) + 1) = ((j + 1 : Nat) : Int) from w64_id (by omega) (by omega)]
  rfl
 ·intro s _
  have h1 : decide ((l.length : Int) < Int.ofNat l.length) = false := by simp
  unfold ltargets_s1
  simp only [h1, cond_false]
 ·rw [List.drop_zero]
theorem ltargets_eq (o : PsH p) {a : Int} (ha : validB p.f p.r a = true) : ltargets p a = some (((psL p a).filter (legF p)).foldl tgF 0, 0) := by
 have hpl := psL_len (p := p) (a := a) o.hl
 have hf : ((psL p a).filter (legF p)).length ≤ 100000 := Nat.le_trans (List.length_filter_le _ _) (by omega)
 unfold ltargets
 simp only [List.drop_zero, List.take_length, psn_eta', pfrom_eq o ha]
 rw [callO_some]
 simp only [decide_true, Bool.not_true, cond_false]
 rw [kept_eq o (by omega) fun r h => psL_ok h, callO_some]
 exact lt_run o hf fun r h => filt_ok h
theorem ltargets_bad (hl : p.zs.length ≤ 64) {a : Int} (h : (!p.ok || !validB p.f p.r a) = true) : ltargets p a = some (0, 2) := by
 unfold ltargets
 simp only [List.drop_zero, List.take_length, psn_eta', pf_bad hl h]
 rw [callO_some]
 rfl
theorem lawLM_true (hca : 0 ≤ p.ca) : lawLM p = some true := by
 unfold lawLM
 simp only [List.drop_zero, List.take_length, psn_eta']
 rw [show small10 p = some (decide (Int.ofNat p.zs.length ≤ 64)) from rfl, callO_some]
 by_cases hl : p.zs.length ≤ 64
 ·have h1 : decide (Int.ofNat p.zs.length ≤ 64) = true := by simp; omega
  have h2 : decide (p.zs.length ≤ 64) = true := by simpa using hl
  rw [h1, h2, psn_valid hl hca, equalB_self']
  simp only [Bool.not_true, cond_false, needO_true, Bool.and_self]
  cases hok : p.ok with
  | false =>
   rw [lmoves_bad hl hok, callO_some, lany_bad hl hok, callO_some]; rfl
  | true =>
   have o := psh hl hca hok
   have hlen : ((allL p).filter (legF p)).length ≤ 100000 := Nat.le_trans (List.length_filter_le _ _) (allL_len o)
   rw [lmoves_eq o, callO_some, lany_eq o, callO_some, gmoves_eq o]
   simp only [Bool.not_true, cond_false]
   rw [callO_some, msame_self hlen, callO_some, any_len]
   simp
 ·have h1 : decide (Int.ofNat p.zs.length ≤ 64) = false := by simp; omega
  rw [h1]; rfl
theorem lT_run {l : List (List Int)} (hlen : l.length ≤ 100000) {F : List Int → Option Bool} : loopO (lawLT_s1 l) F 1000000 ([], 0) = F (l.map (·.getD 1 0)) := by
 refine (loop_list (step := lawLT_s1 l) l (fun acc x => acc ++ [x.getD 1 0]) (fun s => s) (fun j s => s.length ≤ j) ?_ ?_ l.length 1000000 0 [] (by omega) (by omega) (by simp)).trans ?_
 ·intro j x s hx hi
  have hj := (List.getElem?_eq_some_iff.1 hx).1
  have e1 : l.getD (j : Int).toNat [] = x := by simp [List.getD, hx]
  have h1 : decide ((j : Int) < Int.ofNat l.length) = true := by simp; omega
  have h2 : decide (0 ≤ (j : Int)) = true := by simp
  have h3 : decide ((s.length + 1) * 8 ≤ 140737488355328) = true := by simp; omega
  refine ⟨?_, by simp; omega⟩
  unfold lawLT_s1
  simp only [e1, h1, h2, h3, Bool.and_self, cond_true, needO_true]
  rw [show List.take 1 (List.drop 0 (iL [x.getD 1 0])) = [x.getD 1 0] from rfl, show IntKind.i64.wrap ((j : Int) + 1) = ((j + 1 : Nat) : Int) from w64_id (by omega) (by omega)]
 ·intro s _
  have h1 : decide ((l.length : Int) < Int.ofNat l.length) = false := by simp
  unfold lawLT_s1
  simp only [h1, cond_false]
 ·rw [List.drop_zero]
  have : ∀ (l : List (List Int)) (acc : List Int), l.foldl (fun acc x => acc ++ [x.getD 1 0]) acc = acc ++ l.map (·.getD 1 0) := by
   intro l
   induction l with
   | nil => intro acc; simp
   | cons x l ih => intro acc; rw [List.foldl_cons, ih]; simp
  rw [this, List.nil_append]
theorem lawLT_true {a : Int} (hca : 0 ≤ p.ca) : lawLT p a = some true := by
 unfold lawLT
 simp only [List.drop_zero, List.take_length, psn_eta']
 rw [show small10 p = some (decide (Int.ofNat p.zs.length ≤ 64)) from rfl, callO_some]
 by_cases hl : p.zs.length ≤ 64
 ·have h1 : decide (Int.ofNat p.zs.length ≤ 64) = true := by simp; omega
  have h2 : decide (p.zs.length ≤ 64) = true := by simpa using hl
  rw [h1, h2, psn_valid hl hca]
  simp only [Bool.not_true, cond_false]
  cases hb : (!p.ok || !validB p.f p.r a) with
  | true =>
   rw [ltargets_bad hl hb, callO_some]; rfl
  | false =>
   rw [Bool.or_eq_false_iff, Bool.not_eq_false', Bool.not_eq_false'] at hb
   have o := psh hl hca hb.1
   have hpl := psL_len (p := p) (a := a) hl
   have hlen : ((psL p a).filter (legF p)).length ≤ 100000 := Nat.le_trans (List.length_filter_le _ _) (by omega)
   rw [ltargets_eq o hb.2, callO_some, gfrom_eq o]
   simp only [needO_true, cond_false]
   rw [callO_some, lT_run hlen]
   have h3 : decide ((((psL p a).filter (legF p)).map (·.getD 1 0)).length ≤ 1000000) = true := by rw [List.length_map, decide_eq_true_eq]; omega
   have h4 : ((((psL p a).filter (legF p)).map (·.getD 1 0)).all fun x => decide (0 ≤ x)) = true := by
    rw [List.all_eq_true]
    intro x hx
    obtain ⟨r, hr, rfl⟩ := List.mem_map.1 hx
    exact decide_eq_true (row_b o (filt_ok hr)).2.1
   rw [h3, h4, tg_of o fun r h => filt_ok h]
   simp
 ·have h1 : decide (Int.ofNat p.zs.length ≤ 64) = false := by simp; omega
  rw [h1]; rfl
end
end Go.Ab
