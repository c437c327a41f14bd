/- An evaluator of the model on values that are partly known, and its soundness (part AbLoop); no condition. -/
import Derived.Test.YtjckbgodcefogaaDoorAbTy
import Derived.LoopNIn
namespace Go.Ab
open Go.RowKit

variable {G : List O} {P : Program} {B : Nat} {w0 : World} {S : Nat} {N : Nat} {D : List Deferred} {gs : List (Nat × Obj)} {ρ : Ren} {tm : Tm} {hp : List O} {a : Act} {w : World}

mutual
/-- no block from n on is named -/
def V.lim (n : Nat) : V → Bool
  | .ptr b _ _ => Nat.blt b n || Nat.ble gbase b
  | .sl b _ _ _ => Nat.blt b n || Nat.ble gbase b
  | .yl l => Nat.blt l n
  | .fn _ l => limL n l
  | .agg l => limL n l
  | .tup l => limL n l
  | .when _ v => V.lim n v
  | _ => true
def limL (n : Nat) : List V → Bool
  | [] => true
  | v :: l => V.lim n v && limL n l
end

def O.lim (n : Nat) : O → Bool
  | .cells _ l => limL n l
  | .vals _ _ rs => rs.all (limL n)
  | _ => true

theorem below_or {n b : Nat} (h : (Nat.blt b n || Nat.ble gbase b) = true) : b < n ∨ gbase ≤ b := by
  simp only [Bool.or_eq_true] at h
  exact h.imp blt_lt Nat.le_of_ble_eq_true

mutual
theorem VR.leB {n : Nat} {ρ ρ' : Ren} (hl : ρ.leB n ρ') : ∀ (v : V) (u : Value), V.lim n v = true → VR ρ v u → VR ρ' v u
  | .ptr _b _ _, _, h, ⟨r, e, x⟩ => ⟨r, hl _ _ (below_or h) e, x⟩
  | .sl _b _ _ _, _, h, ⟨r, e, x⟩ => ⟨r, hl _ _ (below_or h) e, x⟩
  | .yl _l, _, h, ⟨r, e, x⟩ => ⟨r, hl _ _ (.inl (blt_lt h)) e, x⟩
  | .fn _ l, _, h, ⟨us, e, x⟩ => ⟨us, e, VRL.leB hl l us h x⟩
  | .agg l, _, h, ⟨us, e, x⟩ => ⟨us, e, VRL.leB hl l us h x⟩
  | .tup l, _, h, ⟨us, e, x⟩ => ⟨us, e, VRL.leB hl l us h x⟩
  | .when _ v, u, h, e => ⟨fun g => VR.leB hl v u h (e.1 g), e.2⟩
  | .lit _, _, _, e => e
  | .bool _, _, _, e => e
  | .int _ _, _, _, e => e
  | .str _, _, _, e => e
  | .nilp, _, _, e => e
  | .nils, _, _, e => e
  | .nilf, _, _, e => e
  | .nili, _, _, e => e
  | .junk, _, _, _ => trivial
theorem VRL.leB {n : Nat} {ρ ρ' : Ren} (hl : ρ.leB n ρ') : ∀ (l : List V) (us : List Value), limL n l = true → VRL ρ l us → VRL ρ' l us
  | [], _, _, e => e
  | v :: l, _, h, ⟨u, r, e, x, y⟩ => by
    simp only [limL, Bool.and_eq_true] at h
    exact ⟨u, r, e, VR.leB hl v u h.1 x, VRL.leB hl l r h.2 y⟩
end

theorem limL_mem {n : Nat} : ∀ {l : List V}, limL n l = true → ∀ v ∈ l, V.lim n v = true
  | [], _, v, hv => by simp at hv
  | x :: l, h, v, hv => by
    simp only [limL, Bool.and_eq_true] at h
    rcases List.mem_cons.1 hv with rfl | hv
    · exact h.1
    · exact limL_mem h.2 v hv

theorem look_mem (tm : Tm) (t : Nat) : look tm t = .junk ∨ look tm t ∈ tm.map (·.2) := by
  induction tm with
  | nil => exact .inl rfl
  | cons p l ih =>
    obtain ⟨i, v⟩ := p
    rw [look_cons]
    by_cases e : i = t
    · rw [if_pos e]; exact .inr (by simp)
    · rw [if_neg e]; exact ih.imp id fun h => by simp only [List.map_cons, List.mem_cons]; exact .inr h

theorem TR.leB {n : Nat} {ρ' : Ren} (h : TR ρ tm a) (hl : ρ.leB n ρ') (hm : limL n (tm.map (·.2)) = true) : TR ρ' tm a := fun t => by
  rcases look_mem tm t with e | e
  · rw [e]; trivial
  · exact VR.leB hl _ _ (limL_mem hm _ e) (h t)

/-- the temporaries ts alone -/
def keepT (tm : Tm) : List Nat → Tm
  | [] => []
  | t :: r => (t, look tm t) :: keepT tm r

theorem TR.keep (h : TR ρ tm a) (ts : List Nat) : TR ρ (keepT tm ts) a := fun t => by
  induction ts with
  | nil => trivial
  | cons x r ih =>
    rw [keepT, look_cons]
    by_cases e : x = t
    · subst e; rw [if_pos rfl]; exact h x
    · rw [if_neg e]; exact ih

/-- **ENTAILMENT**: what a state says in other words; the blocks below μ stand -/
def Ent (G : List O) (μ : Nat) (tm : Tm) (hp : List O) (tm' : Tm) (hp' : List O) : Prop :=
  ∀ B ρ a w, TR ρ tm a → HR G B ρ hp w → ∃ ρ', ρ.leB μ ρ' ∧ TR ρ' tm' a ∧ HR G B ρ' hp' w

theorem Ent.refl (μ : Nat) (tm : Tm) (hp : List O) : Ent G μ tm hp tm hp := fun _ ρ _ _ h1 h2 => ⟨ρ, Ren.leB_refl μ ρ, h1, h2⟩

theorem Ent.trans {μ : Nat} {tm1 tm2 tm3 : Tm} {hp1 hp2 hp3 : List O} (h : Ent G μ tm1 hp1 tm2 hp2) (k : Ent G μ tm2 hp2 tm3 hp3) : Ent G μ tm1 hp1 tm3 hp3 := fun B ρ a w h1 h2 => by
  obtain ⟨ρ1, l1, t1, r1⟩ := h B ρ a w h1 h2
  obtain ⟨ρ2, l2, t2, r2⟩ := k B ρ1 a w t1 r1
  exact ⟨ρ2, Ren.leB_trans l1 l2, t2, r2⟩

theorem Ent.keep (μ : Nat) (ts : List Nat) : Ent G μ tm hp (keepT tm ts) hp := fun _ ρ _ _ h1 h2 => ⟨ρ, Ren.leB_refl μ ρ, h1.keep ts, h2⟩

/-! #### Blocks numbered anew -/

mutual
/-- block bs[i] is number i from now on -/
def V.ren (bs : List Nat) : V → Option V
  | .ptr b k j => match Nat.ble gbase b with
    | true => some (.ptr b k j)
    | false => match idx b bs with | some i => some (.ptr i k j) | none => none
  | .sl b k len cap => match Nat.ble gbase b with
    | true => some (.sl b k len cap)
    | false => match idx b bs with | some i => some (.sl i k len cap) | none => none
  | .yl b => match idx b bs with | some i => some (.yl i) | none => none
  | .fn f l => match renL bs l with | some l => some (.fn f l) | none => none
  | .agg l => match renL bs l with | some l => some (.agg l) | none => none
  | .tup l => match renL bs l with | some l => some (.tup l) | none => none
  | .when g v => match V.ren bs v with | some v => some (.when g v) | none => none
  | .lit b => some (.lit b)
  | .bool b => some (.bool b)
  | .int k n => some (.int k n)
  | .str s => some (.str s)
  | .nilp => some .nilp
  | .nils => some .nils
  | .nilf => some .nilf
  | .nili => some .nili
  | .junk => some .junk
def renL (bs : List Nat) : List V → Option (List V)
  | [] => some []
  | v :: l => match V.ren bs v with
    | some v => match renL bs l with
      | some l => some (v :: l)
      | none => none
    | none => none
end

def renLL (bs : List Nat) : List (List V) → Option (List (List V))
  | [] => some []
  | r :: l => match renL bs r with
    | some r => match renLL bs l with
      | some l => some (r :: l)
      | none => none
    | none => none

def O.ren (bs : List Nat) : O → Option O
  | .vals w m rs => match renLL bs rs with | some rs => some (.vals w m rs) | none => none
  | .cells w l => match renL bs l with | some l => some (.cells w l) | none => none
  | .ints w k zs => some (.ints w k zs)
  | .rows w ks rs => some (.rows w ks rs)
  | .gone => some .gone
  | .rsv => none

def renHp (bs : List Nat) (hp : List O) : List Nat → Option (List O)
  | [] => some []
  | b :: r => match O.ren bs (hp.getD b .gone) with
    | some o => match renHp bs hp r with
      | some l => some (o :: l)
      | none => none
    | none => none

def renTm (bs : List Nat) (tm : Tm) : List Nat → Option Tm
  | [] => some []
  | t :: r => match V.ren bs (look tm t) with
    | some v => match renTm bs tm r with
      | some l => some ((t, v) :: l)
      | none => none
    | none => none

def Ren.re (ρ : Ren) (bs : List Nat) : Ren := fun i => if gbase ≤ i then ρ i else (bs[i]?).bind ρ

theorem re_idx {ρ : Ren} {bs : List Nat} (hs : bs.length < gbase) {b i : Nat} (h : idx b bs = some i) {r : Rg} (hr : ρ b = some r) : ρ.re bs i = some r := by
  have := idx_ok bs i h
  have hlt := (List.getElem?_eq_some_iff.1 this).1
  simp only [Ren.re]
  rw [if_neg (by omega), this]
  exact hr

mutual
theorem VR.ren {ρ : Ren} {bs : List Nat} (hs : bs.length < gbase) : ∀ (v v' : V) (u : Value), V.ren bs v = some v' → VR ρ v u → VR (ρ.re bs) v' u
  | .ptr b k j, v', u, h, ⟨r, e, x⟩ => by
    simp only [V.ren] at h
    split at h
    · rename_i hb; cases h; exact ⟨r, by simp only [Ren.re]; rw [if_pos (Nat.le_of_ble_eq_true hb)]; exact e, x⟩
    · split at h
      · rename_i i hi; cases h; exact ⟨r, re_idx hs hi e, x⟩
      · cases h
  | .sl b k len cap, v', u, h, ⟨r, e, x⟩ => by
    simp only [V.ren] at h
    split at h
    · rename_i hb; cases h; exact ⟨r, by simp only [Ren.re]; rw [if_pos (Nat.le_of_ble_eq_true hb)]; exact e, x⟩
    · split at h
      · rename_i i hi; cases h; exact ⟨r, re_idx hs hi e, x⟩
      · cases h
  | .yl b, v', u, h, ⟨r, e, x⟩ => by
    simp only [V.ren] at h
    split at h
    · rename_i i hi; cases h; exact ⟨r, re_idx hs hi e, x⟩
    · cases h
  | .fn f l, v', u, h, ⟨us, e, x⟩ => by
    simp only [V.ren] at h
    split at h
    · rename_i l' hl; cases h; exact ⟨us, e, VRL.ren hs l l' us hl x⟩
    · cases h
  | .agg l, v', u, h, ⟨us, e, x⟩ => by
    simp only [V.ren] at h
    split at h
    · rename_i l' hl; cases h; exact ⟨us, e, VRL.ren hs l l' us hl x⟩
    · cases h
  | .tup l, v', u, h, ⟨us, e, x⟩ => by
    simp only [V.ren] at h
    split at h
    · rename_i l' hl; cases h; exact ⟨us, e, VRL.ren hs l l' us hl x⟩
    · cases h
  | .when g v, v', u, h, e => by
    simp only [V.ren] at h
    split at h
    · rename_i v1 h1; cases h; exact ⟨fun hg => VR.ren hs v v1 u h1 (e.1 hg), e.2⟩
    · cases h
  | .lit _, _, _, h, e => by simp only [V.ren, Option.some.injEq] at h; subst h; exact e
  | .bool _, _, _, h, e => by simp only [V.ren, Option.some.injEq] at h; subst h; exact e
  | .int _ _, _, _, h, e => by simp only [V.ren, Option.some.injEq] at h; subst h; exact e
  | .str _, _, _, h, e => by simp only [V.ren, Option.some.injEq] at h; subst h; exact e
  | .nilp, _, _, h, e => by simp only [V.ren, Option.some.injEq] at h; subst h; exact e
  | .nils, _, _, h, e => by simp only [V.ren, Option.some.injEq] at h; subst h; exact e
  | .nilf, _, _, h, e => by simp only [V.ren, Option.some.injEq] at h; subst h; exact e
  | .nili, _, _, h, e => by simp only [V.ren, Option.some.injEq] at h; subst h; exact e
  | .junk, _, _, h, _ => by simp only [V.ren, Option.some.injEq] at h; subst h; trivial
theorem VRL.ren {ρ : Ren} {bs : List Nat} (hs : bs.length < gbase) : ∀ (l l' : List V) (us : List Value), renL bs l = some l' → VRL ρ l us → VRL (ρ.re bs) l' us
  | [], _, _, h, e => by simp only [renL, Option.some.injEq] at h; subst h; exact e
  | v :: l, l', _, h, ⟨u, r, e, x, y⟩ => by
    simp only [renL] at h
    split at h
    · rename_i v1 h1
      split at h
      · rename_i l1 h2; cases h; exact ⟨u, r, e, VR.ren hs v v1 u h1 x, VRL.ren hs l l1 r h2 y⟩
      · cases h
    · cases h
end

theorem renL_get {bs : List Nat} : ∀ {l l' : List V}, renL bs l = some l' → l'.length = l.length ∧ ∀ (i : Nat) (v' : V), l'[i]? = some v' → ∃ v, l[i]? = some v ∧ V.ren bs v = some v'
  | [], l', h => by simp only [renL, Option.some.injEq] at h; subst h; exact ⟨rfl, fun i v' hi => by simp at hi⟩
  | v :: l, l', h => by
    simp only [renL] at h
    split at h
    · rename_i v1 h1
      split at h
      · rename_i l1 h2
        cases h
        obtain ⟨e1, e2⟩ := renL_get h2
        refine ⟨by simp [e1], fun i v' hi => ?_⟩
        cases i with
        | zero => simp only [List.getElem?_cons_zero, Option.some.injEq] at hi; subst hi; exact ⟨v, rfl, h1⟩
        | succ i => simpa using e2 i v' (by simpa using hi)
      · cases h
    · cases h

theorem V.ren_one {bs : List Nat} {v v' : V} (h : V.ren bs v = some v') (h1 : v.one = true) : v'.one = true := by
  cases v <;> simp only [V.one, Bool.false_eq_true] at h1 <;> simp only [V.ren] at h
  case ptr => (repeat' split at h) <;> cases h <;> rfl
  case sl => (repeat' split at h) <;> cases h <;> rfl
  case yl => (repeat' split at h) <;> cases h <;> rfl
  case fn => (repeat' split at h) <;> cases h <;> rfl
  all_goals (cases h; rfl)

theorem renL_one {bs : List Nat} : ∀ {l l' : List V}, renL bs l = some l' → l.all V.one = true → l'.all V.one = true
  | [], l', h, _ => by simp only [renL, Option.some.injEq] at h; subst h; rfl
  | v :: l, l', h, h1 => by
    simp only [renL] at h
    simp only [List.all_cons, Bool.and_eq_true] at h1
    split at h
    · rename_i v1 hv
      split at h
      · rename_i l1 hl
        cases h
        simp only [List.all_cons, Bool.and_eq_true]
        exact ⟨V.ren_one hv h1.1, renL_one hl h1.2⟩
      · cases h
    · cases h

theorem renLL_get {bs : List Nat} : ∀ {l l' : List (List V)}, renLL bs l = some l' → l'.length = l.length ∧ ∀ (i : Nat) (r' : List V), l'[i]? = some r' → ∃ r, l[i]? = some r ∧ renL bs r = some r'
  | [], l', h => by simp only [renLL, Option.some.injEq] at h; subst h; exact ⟨rfl, fun i v' hi => by simp at hi⟩
  | v :: l, l', h => by
    simp only [renLL] at h
    split at h
    · rename_i v1 h1
      split at h
      · rename_i l1 h2
        cases h
        obtain ⟨e1, e2⟩ := renLL_get h2
        refine ⟨by simp [e1], fun i v' hi => ?_⟩
        cases i with
        | zero => simp only [List.getElem?_cons_zero, Option.some.injEq] at hi; subst hi; exact ⟨v, rfl, h1⟩
        | succ i => simpa using e2 i v' (by simpa using hi)
      · cases h
    · cases h

theorem renHp_get {bs : List Nat} {hp : List O} : ∀ {l : List Nat} {hp' : List O}, renHp bs hp l = some hp' → hp'.length = l.length ∧ ∀ (i b : Nat), l[i]? = some b → O.ren bs (hp.getD b .gone) = some (hp'.getD i .gone)
  | [], hp', h => by simp only [renHp, Option.some.injEq] at h; subst h; exact ⟨rfl, fun i b hi => by simp at hi⟩
  | x :: l, hp', h => by
    simp only [renHp] at h
    split at h
    · rename_i o h1
      split at h
      · rename_i l1 h2
        cases h
        obtain ⟨e1, e2⟩ := renHp_get h2
        refine ⟨by simp [e1], fun i b hi => ?_⟩
        cases i with
        | zero => simp only [List.getElem?_cons_zero, Option.some.injEq] at hi; subst hi; simpa using h1
        | succ i => simpa using e2 i b (by simpa using hi)
      · cases h
    · cases h

theorem O.ren_ok {bs : List Nat} {o o' : O} (h : O.ren bs o = some o') (ha : o' ≠ .gone) : o ≠ .gone ∧ o ≠ .rsv ∧ o' ≠ .gone ∧ o' ≠ .rsv ∧ o'.len = o.len ∧ o'.wid = o.wid ∧ o'.own = o.own ∧ (o.wf → o'.wf) ∧
    ∀ k j v', o'.cell k j = some v' → ∃ v, o.cell k j = some v ∧ V.ren bs v = some v' := by
  cases o with
  | cells w l =>
    simp only [O.ren] at h
    split at h
    · rename_i l' hl
      cases h
      obtain ⟨e1, e2⟩ := renL_get hl
      refine ⟨by simp, by simp, by simp, by simp, rfl, by simp [O.wid, e1], rfl, fun _ => trivial, fun k j v' hc => ?_⟩
      cases k with
      | zero => simp only [O.cell] at hc ⊢; exact e2 j v' hc
      | succ k => simp [O.cell] at hc
    · cases h
  | ints w k zs =>
    simp only [O.ren, Option.some.injEq] at h
    subst h
    refine ⟨by simp, by simp, by simp, by simp, rfl, rfl, rfl, id, fun k j v' hc => ⟨v', hc, ?_⟩⟩
    cases j <;> simp [O.cell] at hc
    subst hc; simp [V.ren]
  | rows w ks rs =>
    simp only [O.ren, Option.some.injEq] at h
    subst h
    refine ⟨by simp, by simp, by simp, by simp, rfl, rfl, rfl, id, fun k j v' hc => ⟨v', hc, ?_⟩⟩
    simp only [O.cell] at hc
    split at hc
    · simp only [Option.some.injEq] at hc; subst hc; simp [V.ren]
    · cases hc
  | vals w m rs =>
    simp only [O.ren] at h
    split at h
    · rename_i l' hl
      cases h
      obtain ⟨e1, e2⟩ := renLL_get hl
      refine ⟨by simp, by simp, by simp, by simp, by simp [O.len, e1], rfl, rfl, fun hwf r' hr' => ?_, fun k j v' hc => ?_⟩
      · obtain ⟨i, hi⟩ := List.getElem?_of_mem hr'
        obtain ⟨r, hr, hren⟩ := e2 i r' hi
        have := hwf r (List.mem_of_getElem? hr)
        exact ⟨by rw [(renL_get hren).1]; exact this.1, renL_one hren this.2⟩
      · simp only [O.cell] at hc ⊢
        split at hc
        · rename_i r' hr'
          obtain ⟨r, hr, hren⟩ := e2 k r' hr'
          rw [hr]
          exact (renL_get hren).2 j v' hc
        · cases hc
    · cases h
  | gone => simp only [O.ren, Option.some.injEq] at h; exact absurd h.symm ha
  | rsv => simp [O.ren] at h

theorem HR.ren (hh : HR G B ρ hp w) {bs : List Nat} {hp' : List O} (hnd : bs.Nodup) (hlt : ∀ b ∈ bs, b < hp.length) (hs : bs.length < gbase) (h : renHp bs hp bs = some hp') : HR G B (ρ.re bs) hp' w := by
  obtain ⟨e1, e2⟩ := renHp_get h
  have hsm := hh.small
  have hc : ∀ i r, ρ.re bs i = some r → (gbase ≤ i ∧ ρ i = some r ∧ getO G hp' i = getO G hp i) ∨ (i < gbase ∧ ∃ b, bs[i]? = some b ∧ b < gbase ∧ ρ b = some r ∧ O.ren bs (getO G hp b) = some (getO G hp' i)) := by
    intro i r hr
    simp only [Ren.re] at hr
    split at hr
    · rename_i hi; exact .inl ⟨hi, hr, by rw [getO_glob hi, getO_glob hi]⟩
    · rename_i hi
      cases hb : bs[i]? with
      | none => rw [hb] at hr; cases hr
      | some b =>
        rw [hb] at hr
        have hbl := hlt b (List.mem_of_getElem? hb)
        exact .inr ⟨by omega, b, rfl, by omega, hr, by rw [getO_hp (by omega), getO_hp (by omega)]; exact e2 i b hb⟩
  refine ⟨?_, ?_, fun b h1 => ?_, ?_, ?_, ?_, by omega⟩
  · intro i r hr hal
    rcases hc i r hr with ⟨h1, h2, h3⟩ | ⟨h1, b, h2, h3, h4, h5⟩
    · rw [h3] at hal ⊢
      have ho := hh.blocks i r h2 hal
      rw [getO_glob h1] at ho hal ⊢
      cases hG : G[i - gbase]? with
      | none => simp [List.getD, hG] at hal
      | some o =>
        obtain ⟨_, _, _, _, _, _, _, ht⟩ := hh.glob _ o hG
        refine ho.data ?_ _
        simp [List.getD, hG, (O.tab_data ht).1]
    · obtain ⟨q1, q2, q3, q4, q5, q6, q7, q8, q9⟩ := O.ren_ok h5 hal
      have ho := hh.blocks b r h4 q1
      exact ⟨q3, q4, q8 ho.wf, by rw [q5]; exact ho.n, ho.ph0, ho.lt, by rw [q6]; exact ho.m, ho.cp, fun hp0 k j v hk hj hv => by
        obtain ⟨v0, hv0, hren⟩ := q9 k j v hv
        obtain ⟨u, hu, hr⟩ := ho.cell hp0 k j v0 (by omega) (by omega) hv0
        exact ⟨u, hu, VR.ren hs v0 v u hren hr⟩, by rw [q7]; exact ho.own⟩
  · intro i h1 h2
    simp only [Ren.re]
    rw [if_neg (by omega), List.getElem?_eq_none (by omega)]
    rfl
  · cases hx : ρ.re bs b with
    | none => rfl
    | some x =>
      rcases hc b x hx with ⟨_, h2, h3⟩ | ⟨_, b', _, _, _, h5⟩
      · rw [h3] at h1; rw [hh.rsv b h1] at h2; cases h2
      · exact absurd h1 (O.ren_ok h5 (fun e => by rw [e] at h1; cases h1)).2.2.2.1
  · intro i r hr ho hp0
    rcases hc i r hr with ⟨h1, h2, h3⟩ | ⟨h1, b, h2, h3, h4, h5⟩
    · rw [h3] at ho; exact hh.base i r h2 ho hp0
    · rw [(O.ren_ok h5 (fun e => by rw [e] at ho; cases ho)).2.2.2.2.2.2.1] at ho; exact hh.base b r h4 ho hp0
  · intro i i' r r' hr hr' hal hp0 hp0' ho hne
    rcases hc i r hr with ⟨h1, h2, h3⟩ | ⟨h1, b, h2, h3, h4, h5⟩
    · rcases hc i' r' hr' with ⟨h1', h2', h3'⟩ | ⟨h1', b', h2', h3', h4', h5'⟩
      · rw [h3'] at hal; rw [h3] at ho; exact hh.apart i i' r r' h2 h2' hal hp0 hp0' ho hne
      · rw [h3] at ho; exact hh.apart i b' r r' h2 h4' (O.ren_ok h5' hal).1 hp0 hp0' ho (by omega)
    · rw [(O.ren_ok h5 (fun e => by rw [e] at ho; cases ho)).2.2.2.2.2.2.1] at ho
      rcases hc i' r' hr' with ⟨h1', h2', h3'⟩ | ⟨h1', b', h2', h3', h4', h5'⟩
      · rw [h3'] at hal; exact hh.apart b i' r r' h4 h2' hal hp0 hp0' ho (by omega)
      · refine hh.apart b b' r r' h4 h4' (O.ren_ok h5' hal).1 hp0 hp0' ho fun e => hne ?_
        subst e
        have hi := (List.getElem?_eq_some_iff.1 h2).1
        have hi' := (List.getElem?_eq_some_iff.1 h2').1
        rw [List.getElem?_eq_getElem hi, Option.some.injEq] at h2
        rw [List.getElem?_eq_getElem hi', Option.some.injEq] at h2'
        exact nodup_inj hnd hi hi' (h2.trans h2'.symm)
  · intro g o hg
    obtain ⟨r, h1, h2⟩ := hh.glob g o hg
    exact ⟨r, by simp only [Ren.re]; rw [if_pos (by omega)]; exact h1, h2⟩

theorem renTm_look {bs : List Nat} {tm : Tm} : ∀ {ts : List Nat} {tm' : Tm}, renTm bs tm ts = some tm' → ∀ t, look tm' t = .junk ∨ V.ren bs (look tm t) = some (look tm' t)
  | [], tm', h, t => by simp only [renTm, Option.some.injEq] at h; subst h; exact .inl rfl
  | x :: ts, tm', h, t => by
    simp only [renTm] at h
    split at h
    · rename_i v h1
      split at h
      · rename_i l h2
        cases h
        rw [look_cons]
        by_cases e : x = t
        · subst e; rw [if_pos rfl]; exact .inr h1
        · rw [if_neg e]; exact renTm_look h2 t
      · cases h
    · cases h

/-- the numbers below μ stay as they are -/
def preB (bs : List Nat) : Nat → Bool
  | 0 => true
  | μ + 1 => (match bs[μ]? with | some b => Nat.beq b μ | none => false) && preB bs μ

theorem preB_ok {bs : List Nat} : ∀ {μ : Nat}, preB bs μ = true → ∀ i, i < μ → bs[i]? = some i
  | μ + 1, h, i, hi => by
    simp only [preB, Bool.and_eq_true] at h
    by_cases e : i = μ
    · subst e
      have := h.1
      split at this
      · rename_i b hb; rw [hb, Nat.eq_of_beq_eq_true this]
      · cases this
    · exact preB_ok h.2 i (by omega)

def distB : List Nat → Bool
  | [] => true
  | x :: l => (l.all fun y => !Nat.beq x y) && distB l

theorem distB_ok : ∀ {l : List Nat}, distB l = true → l.Nodup
  | [], _ => List.nodup_nil
  | x :: l, h => by
    simp only [distB, Bool.and_eq_true, List.all_eq_true] at h
    refine List.nodup_cons.2 ⟨fun hm => ?_, distB_ok h.2⟩
    have := h.1 x hm
    simp at this

/-- the blocks bs alone, numbered anew; the temporaries ts alone -/
theorem Ent.ren {μ : Nat} {tm' : Tm} {hp' : List O} (bs ts : List Nat) (h : renHp bs hp bs = some hp') (ht : renTm bs tm ts = some tm') (hb : (preB bs μ && distB bs && (bs.all fun b => Nat.blt b hp.length) && Nat.blt bs.length gbase) = true) :
    Ent G μ tm hp tm' hp' := by
  simp only [Bool.and_eq_true] at hb
  obtain ⟨⟨⟨h1, h2⟩, h3⟩, h4⟩ := hb
  have hs := blt_lt h4
  intro B ρ a w htr hh
  refine ⟨ρ.re bs, fun b r hl hr => ?_, fun t => ?_, hh.ren (distB_ok h2) (fun b hb => blt_lt (List.all_eq_true.1 h3 b hb)) hs h⟩
  · simp only [Ren.re]
    split
    · exact hr
    · rcases hl with hl | hl
      · rw [preB_ok h1 b hl]; exact hr
      · contradiction
  · rcases renTm_look ht t with e | e
    · rw [e]; trivial
    · exact VR.ren hs _ _ _ e (htr t)

/-- a nil slice in a variable: a slice of a block that is not there -/
theorem Ent.phan {μ : Nat} {b j : Nat} {ww : Bool} {l : List V} {o : O} (hb : hp.getD b .gone = .cells ww l) (hj : l[j]? = some .nils) (ho : o ≠ .gone ∧ o ≠ .rsv ∧ o.wf ∧ o.len = 0) (hsm : hp.length + 1 < gbase) :
    Ent G μ tm hp tm (hp.set b (.cells ww (l.set j (.sl hp.length 0 0 none))) ++ [o]) := by
  intro B ρ a w htr hh
  have hblt : b < hp.length := by
    rcases Nat.lt_or_ge b hp.length with h | h
    · exact h
    · simp [List.getD, List.getElem?_eq_none h] at hb
  have hfree := hh.free hp.length (Nat.le_refl _) (by omega)
  have hle := Ren.le_add hfree { blk := 0, base := 0, m := 1, n := 0, cp := 0, ph := true }
  have hold : ∀ i x, ρ i = some x → i ≠ hp.length := fun i x hx e => by rw [e, hfree] at hx; cases hx
  have hget : ∀ i x, ρ i = some x → i ≠ b → getO G (hp.set b (.cells ww (l.set j (.sl hp.length 0 0 none))) ++ [o]) i = getO G hp i := by
    intro i x hx hne
    by_cases hi : i < gbase
    · have : i < hp.length := by
        rcases Nat.lt_or_ge i hp.length with h | h
        · exact h
        · rw [hh.free i h hi] at hx; cases hx
      rw [getO_hp hi, getO_hp hi]
      simp [List.getD, List.getElem?_append_left (show i < (hp.set b (.cells ww (l.set j (.sl hp.length 0 0 none)))).length by simpa using this), List.getElem?_set_ne (Ne.symm hne)]
    · rw [getO_glob (by omega), getO_glob (by omega)]
  have hgetb : getO G (hp.set b (.cells ww (l.set j (.sl hp.length 0 0 none))) ++ [o]) b = .cells ww (l.set j (.sl hp.length 0 0 none)) := by
    rw [getO_hp (by omega)]
    simp [List.getD, List.getElem?_append_left (show b < (hp.set b (.cells ww (l.set j (.sl hp.length 0 0 none)))).length by simpa using hblt), hblt]
  have hgetn : getO G (hp.set b (.cells ww (l.set j (.sl hp.length 0 0 none))) ++ [o]) hp.length = o := by
    rw [getO_hp (by omega)]
    simp [List.getD]
  have hgb : getO G hp b = .cells ww l := by rw [getO_hp (by omega)]; exact hb
  have hc : ∀ i r, (ρ.add hp.length { blk := 0, base := 0, m := 1, n := 0, cp := 0, ph := true }) i = some r → (i = hp.length ∧ r.ph = true ∧ r.n = 0) ∨ ρ i = some r := by
    intro i r hr
    by_cases e : i = hp.length
    · subst e; rw [Ren.add_same] at hr; cases hr; exact .inl ⟨rfl, rfl, rfl⟩
    · rw [Ren.add_other _ _ e] at hr; exact .inr hr
  refine ⟨_, hle.leB, htr.mono hle, ?_, ?_, fun i h1 => ?_, ?_, ?_, ?_, by simp; omega⟩
  · intro i r hr hal
    rcases hc i r hr with ⟨rfl, h2, h3⟩ | h2
    · rw [hgetn]
      exact ⟨ho.1, ho.2.1, ho.2.2.1, by rw [ho.2.2.2]; exact h3, fun _ => h3, fun e => (by rw [h2] at e; cases e), fun e => (by rw [h2] at e; cases e), fun e => (by rw [h2] at e; cases e), fun e => (by rw [h2] at e; cases e), fun _ e => (by rw [h2] at e; cases e)⟩
    · by_cases e : i = b
      · subst e
        rw [hgetb]
        have hob := hh.blocks i r h2 (by rw [hgb]; simp)
        rw [hgb] at hob
        refine ⟨by simp, by simp, trivial, by rw [hob.n]; rfl, hob.ph0, hob.lt, by intro e; rw [hob.m e]; simp [O.wid], hob.cp, fun hp0 k j' v hk hj' hv => ?_, fun h e => hob.own h e⟩
        cases k with
        | succ k => simp [O.cell] at hv
        | zero =>
          simp only [O.cell] at hv
          simp only [O.wid, List.length_set] at hj'
          by_cases e2 : j' = j
          · subst e2
            rw [List.getElem?_set_self hj', Option.some.injEq] at hv
            subst hv
            obtain ⟨u, hu, hvu⟩ := hob.cell hp0 0 j' .nils (by simp [O.len]) (by simpa [O.wid] using hj') (by simpa [O.cell] using hj)
            refine ⟨u, hu, _, Ren.add_same _ _ _, Nat.le_refl _, fun _ => ⟨rfl, hvu⟩, fun e => by cases e⟩
          · rw [List.getElem?_set_ne (Ne.symm e2)] at hv
            obtain ⟨u, hu, hvu⟩ := hob.cell hp0 0 j' v (by simp [O.len]) (by simpa [O.wid] using hj') (by simpa [O.cell] using hv)
            exact ⟨u, hu, VR.mono hle _ _ hvu⟩
      · rw [hget i r h2 e] at hal ⊢
        exact (hh.blocks i r h2 hal).mono hle
  · intro i h1 h2
    simp only [List.length_append, List.length_set, List.length_singleton] at h1
    rw [Ren.add_other _ _ (by omega)]
    exact hh.free i (by omega) h2
  · cases hx : (ρ.add hp.length { blk := 0, base := 0, m := 1, n := 0, cp := 0, ph := true }) i with
    | none => rfl
    | some r =>
      rcases hc i r hx with ⟨rfl, _⟩ | h2
      · rw [hgetn] at h1; exact absurd h1 ho.2.1
      · by_cases e : i = b
        · subst e; rw [hgetb] at h1; cases h1
        · rw [hget i r h2 e] at h1; rw [hh.rsv i h1] at h2; cases h2
  · intro i r hr how hp0
    rcases hc i r hr with ⟨rfl, h2, h3⟩ | h2
    · rw [h2] at hp0; cases hp0
    · by_cases e : i = b
      · subst e; rw [hgetb] at how; exact hh.base i r h2 (by rw [hgb]; exact how) hp0
      · rw [hget i r h2 e] at how; exact hh.base i r h2 how hp0
  · intro i i' r r' hr hr' hal hp0 hp0' how hne
    rcases hc i r hr with ⟨rfl, h2, h3⟩ | h2
    · rw [h2] at hp0; cases hp0
    · rcases hc i' r' hr' with ⟨rfl, h2', h3'⟩ | h2'
      · rw [h2'] at hp0'; cases hp0'
      · refine hh.apart i i' r r' h2 h2' ?_ hp0 hp0' ?_ hne
        · by_cases e : i' = b
          · subst e; rw [hgb]; simp
          · rw [hget i' r' h2' e] at hal; exact hal
        · by_cases e : i = b
          · subst e; rw [hgetb] at how; rw [hgb]; exact how
          · rw [hget i r h2 e] at how; exact how
  · intro g o' hg
    obtain ⟨r, h1, h2⟩ := hh.glob g o' hg
    exact ⟨r, hle _ _ h1, h2⟩

/-! #### Loops -/

theorem Rel.ent {μ : Nat} {tm' : Tm} {hp' : List O} (h : Ent G μ tm hp tm' hp') (hr : Rel G B w0 S N D gs ρ tm hp a w) : ∃ ρ', ρ.leB μ ρ' ∧ Rel G B w0 S N D gs ρ' tm' hp' a w := by
  obtain ⟨ρ', h1, h2, h3⟩ := h B ρ a w hr.tr hr.hr
  exact ⟨ρ', h1, h2, h3, hr.bel, hr.sz, hr.df, hr.gs, hr.bs, hr.ss, hr.sw⟩

/-- less is known at the start -/
theorem Good.ent {μ : Nat} {c : Code} {tm' : Tm} {hp' : List O} {R : Exit → Tm → List O → Prop} (h : Ent G μ tm hp tm' hp') (hg : Good G P μ N c tm' hp' R) : Good G P μ N c tm hp R := by
  intro B w0 S D gs ρ a w n ro h0 hr
  obtain ⟨ρ1, l1, h1⟩ := hr.ent h
  refine wpIn_mono (hg B w0 S D gs _ a w n ro h0 h1) ?_
  rintro e a' w' ⟨tm2, hp2, ρ2, h2, hl2, hR⟩
  exact ⟨tm2, hp2, ρ2, h2, Ren.leB_trans l1 hl2, hR⟩

/-- **A LOOP** by what holds at its head when k more rounds may go on -/
theorem Good.loop {μ : Nat} {body : Code} {R : Exit → Tm → List O → Prop} (I : Nat → Tm → List O → Prop) {m : Nat} (h0 : I m tm hp)
    (hround : ∀ k tm1 hp1, I k tm1 hp1 → Good G P μ N body tm1 hp1 fun e tm2 hp2 => match e with
      | .normal => ∃ k' tm3 hp3, k = k' + 1 ∧ Ent G μ tm2 hp2 tm3 hp3 ∧ I k' tm3 hp3
      | e => R e tm2 hp2) : Good G P μ N (.loop body) tm hp R := by
  intro B w0 S D gs ρ a w n ro hro hr
  refine wpIn_loop_rounds (m + 1) ?_
  have key : ∀ (k : Nat) (tm1 : Tm) (hp1 : List O) (ρ1 : Ren) (a1 : Act) (w1 : World), I k tm1 hp1 → Rel G B w0 S N D gs ρ1 tm1 hp1 a1 w1 → ρ.leB μ ρ1 →
      Code.roundsIn (Fr ro) n P body (fun e a' w' => ∃ tm' hp' ρ', Rel G B w0 S N D gs ρ' tm' hp' a' w' ∧ ρ.leB μ ρ' ∧ R e tm' hp') (k + 1) a1 w1 := by
    intro k
    induction k with
    | zero =>
      intro tm1 hp1 ρ1 a1 w1 hI hr1 hl1
      refine wpIn_mono (hround 0 tm1 hp1 hI B w0 S D gs ρ1 a1 w1 n ro hro hr1) ?_
      rintro e a2 w2 ⟨tm2, hp2, ρ2, h2, hl2, hq⟩
      cases e with
      | normal => obtain ⟨k', _, _, h, _⟩ := hq; omega
      | _ => exact ⟨tm2, hp2, ρ2, h2, Ren.leB_trans hl1 hl2, hq⟩
    | succ k ih =>
      intro tm1 hp1 ρ1 a1 w1 hI hr1 hl1
      refine wpIn_mono (hround (k + 1) tm1 hp1 hI B w0 S D gs ρ1 a1 w1 n ro hro hr1) ?_
      rintro e a2 w2 ⟨tm2, hp2, ρ2, h2, hl2, hq⟩
      cases e with
      | normal =>
        obtain ⟨k', tm3, hp3, hk, he, hI3⟩ := hq
        obtain rfl : k = k' := by omega
        obtain ⟨ρ3, l3, h3⟩ := h2.ent he
        exact ih tm3 hp3 ρ3 a2 w2 hI3 h3 (Ren.leB_trans hl1 (Ren.leB_trans hl2 l3))
      | _ => exact ⟨tm2, hp2, ρ2, h2, Ren.leB_trans hl1 hl2, hq⟩
  exact key m tm hp ρ a w h0 hr (Ren.leB_refl μ ρ)

/-- a loop met in an evaluation -/
theorem sat_loop {Q : Exit → Tm → List O → Prop} {μ : Nat} {c : Code} {k : Exit → Tm → List O → T} (R : Exit → Tm → List O → Prop) (h : Good G P μ N c tm hp R) (hk : ∀ e tm' hp', R e tm' hp' → sat G P Q (k e tm' hp')) :
    sat G P Q (.loop c μ N tm hp k) := ⟨R, h, hk⟩

end Go.Ab
