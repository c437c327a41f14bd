/- An evaluator of the model on values that are partly known, and its soundness (part AbRel); no condition. -/
import Derived.Test.YtjckbgodcefogaaDoorAbCore
namespace Go.Ab

/-! ### What an abstract state says of a world -/

/-- where an abstract block lies -/
structure Rg where
  blk : Nat
  base : Nat
  m : Nat
  n : Nat
  cp : Nat
  ph : Bool

abbrev Ren := Nat → Option Rg

mutual
def VR (ρ : Ren) : V → Value → Prop
  | .lit b, u => u = .bool b
  | .bool b, u => u = .bool b
  | .int k n, u => u = .int k n
  | .str s, u => u = .string ⟨s.toArray⟩
  | .ptr b k j, u => ∃ r, ρ b = some r ∧ r.ph = false ∧ k < r.n ∧ u = .pointer (some ⟨r.blk, r.base + k * r.m + j, none⟩)
  | .nilp, u => u = .pointer none
  | .sl b k len cap, u => ∃ r, ρ b = some r ∧ k + len ≤ r.n ∧ (r.ph = true → len = 0 ∧ u = .slice none 0 0) ∧
      (r.ph = false → len ≤ (cap.getD (r.cp - k)) ∧ ∃ ad, u = .slice (some ad) len (cap.getD (r.cp - k)) ∧ (cap.getD (r.cp - k) ≠ 0 → ad = ⟨r.blk, r.base + k * r.m, none⟩))
  | .nils, u => u = .slice none 0 0
  | .fn f caps, u => ∃ us : List Value, u = .func (.func f) #[] us.toArray ∧ VRL ρ caps us
  | .nilf, u => u = .nilFunc
  | .yl l, u => ∃ r, ρ l = some r ∧ u = .func (.yield r.blk) #[] #[]
  | .agg l, u => ∃ us : List Value, u = .agg us.toArray ∧ VRL ρ l us
  | .tup l, u => ∃ us : List Value, u = .tuple us.toArray ∧ VRL ρ l us
  | .nili, u => u = .nilIface
  | .when g v, u => (g = true → VR ρ v u) ∧ (g = false → u = undef)
  | .junk, _ => True
def VRL (ρ : Ren) : List V → List Value → Prop
  | [], us => us = []
  | v :: l, us => ∃ u r, us = u :: r ∧ VR ρ v u ∧ VRL ρ l r
end

def Ren.le (ρ ρ' : Ren) : Prop := ∀ b r, ρ b = some r → ρ' b = some r
/-- blocks below μ stand -/
def Ren.leB (μ : Nat) (ρ ρ' : Ren) : Prop := ∀ b r, b < μ ∨ gbase ≤ b → ρ b = some r → ρ' b = some r
theorem Ren.leB_refl (μ : Nat) (ρ : Ren) : ρ.leB μ ρ := fun _ _ _ h => h
theorem Ren.leB_trans {μ : Nat} {a b c : Ren} (h : a.leB μ b) (k : b.leB μ c) : a.leB μ c := fun i r l e => k i r l (h i r l e)
theorem Ren.le.leB {μ : Nat} {a b : Ren} (h : a.le b) : a.leB μ b := fun i r _ e => h i r e
theorem Ren.leB_mono {μ μ' : Nat} {a b : Ren} (h : a.leB μ' b) (hl : μ ≤ μ') : a.leB μ b := fun i r l e => h i r (l.imp_left fun x => Nat.lt_of_lt_of_le x hl) e
theorem Ren.le_refl (ρ : Ren) : ρ.le ρ := fun _ _ h => h
theorem Ren.le_trans {a b c : Ren} (h : a.le b) (k : b.le c) : a.le c := fun i r e => k i r (h i r e)

mutual
theorem VR.mono {ρ ρ' : Ren} (h : ρ.le ρ') : ∀ (v : V) (u : Value), VR ρ v u → VR ρ' v u
  | .lit _, _, e => e
  | .bool _, _, e => e
  | .int _ _, _, e => e
  | .str _, _, e => e
  | .ptr _ _ _, _, ⟨r, e, x⟩ => ⟨r, h _ _ e, x⟩
  | .nilp, _, e => e
  | .sl _ _ _ _, _, ⟨r, e, x⟩ => ⟨r, h _ _ e, x⟩
  | .nils, _, e => e
  | .fn _ l, _, ⟨us, e, x⟩ => ⟨us, e, VRL.mono h l us x⟩
  | .nilf, _, e => e
  | .yl _, _, ⟨r, e, x⟩ => ⟨r, h _ _ e, x⟩
  | .agg l, _, ⟨us, e, x⟩ => ⟨us, e, VRL.mono h l us x⟩
  | .tup l, _, ⟨us, e, x⟩ => ⟨us, e, VRL.mono h l us x⟩
  | .nili, _, e => e
  | .when _ v, u, e => ⟨fun g => VR.mono h v u (e.1 g), e.2⟩
  | .junk, _, _ => trivial
theorem VRL.mono {ρ ρ' : Ren} (h : ρ.le ρ') : ∀ (l : List V) (us : List Value), VRL ρ l us → VRL ρ' l us
  | [], _, e => e
  | v :: l, _, ⟨u, r, e, x, y⟩ => ⟨u, r, e, VR.mono h v u x, VRL.mono h l r y⟩
end

theorem VRL.length {ρ : Ren} : ∀ {l : List V} {us : List Value}, VRL ρ l us → us.length = l.length
  | [], _, e => by cases e; rfl
  | v :: l, _, ⟨u, r, e, _, y⟩ => by cases e; simp [VRL.length y]

theorem VRL.get {ρ : Ren} : ∀ {l : List V} {us : List Value}, VRL ρ l us → ∀ (i : Nat) (v : V), l[i]? = some v → ∃ u, us[i]? = some u ∧ VR ρ v u
  | [], _, _, i, v, hi => by simp at hi
  | w :: l, _, ⟨u, r, e, x, y⟩, 0, v, hi => by cases e; simp at hi; subst hi; exact ⟨u, rfl, x⟩
  | w :: l, _, ⟨u, r, e, x, y⟩, i + 1, v, hi => by cases e; simp at hi; simpa using VRL.get y i v hi

theorem VRL.append {ρ : Ren} : ∀ {l l' : List V} {us us' : List Value}, VRL ρ l us → VRL ρ l' us' → VRL ρ (l ++ l') (us ++ us')
  | [], _, _, _, e, h => by cases e; simpa using h
  | v :: l, _, _, _, ⟨u, r, e, x, y⟩, h => by cases e; exact ⟨u, r ++ _, rfl, x, VRL.append y h⟩

theorem VRL.set {ρ : Ren} : ∀ {l : List V} {us : List Value}, VRL ρ l us → ∀ (i : Nat) (v : V) (u : Value), VR ρ v u → VRL ρ (l.set i v) (us.set i u)
  | [], _, e, i, v, u, h => by cases e; simp [VRL]
  | w :: l, _, ⟨x, r, e, hx, hy⟩, 0, v, u, h => by cases e; exact ⟨u, r, rfl, h, hy⟩
  | w :: l, _, ⟨x, r, e, hx, hy⟩, i + 1, v, u, h => by cases e; exact ⟨x, r.set i u, rfl, hx, VRL.set hy i v u h⟩

theorem VRL.map {ρ : Ren} {α : Type} (f : α → V) (g : α → Value) : ∀ (l : List α), (∀ x ∈ l, VR ρ (f x) (g x)) → VRL ρ (l.map f) (l.map g)
  | [], _ => rfl
  | x :: l, h => ⟨g x, l.map g, rfl, h x (by simp), VRL.map f g l fun y hy => h y (by simp [hy])⟩

theorem VR.oneCell {ρ : Ren} {v : V} {u : Value} (h : VR ρ v u) (h1 : v.one = true) : u.oneCell' = true := by
  cases v <;> simp only [V.one, Bool.false_eq_true] at h1 <;> simp only [VR] at h
  case ptr => obtain ⟨r, _, _, _, rfl⟩ := h; rfl
  case sl =>
    obtain ⟨r, _, _, h1, h2⟩ := h
    cases hp : r.ph with
    | true => rw [(h1 hp).2]; rfl
    | false => obtain ⟨ad, e, _⟩ := (h2 hp).2; rw [e]; rfl
  case fn => obtain ⟨us, rfl, _⟩ := h; rfl
  case yl => obtain ⟨r, _, rfl⟩ := h; rfl
  all_goals (subst h; rfl)

mutual
theorem VR.pl {ρ ρ' : Ren} : ∀ (v : V) (u : Value), V.pl v = true → VR ρ v u → VR ρ' v u
  | .lit _, _, _, e => e
  | .bool _, _, _, e => e
  | .int _ _, _, _, e => e
  | .str _, _, _, e => e
  | .nils, _, _, e => e
  | .nilp, _, _, e => e
  | .agg l, _, h, ⟨us, e, x⟩ => ⟨us, e, VRL.pl l us h x⟩
  | .ptr _ _ _, _, h, _ => by simp [V.pl] at h
  | .sl _ _ _ _, _, h, _ => by simp [V.pl] at h
  | .fn _ _, _, h, _ => by simp [V.pl] at h
  | .nilf, _, h, _ => by simp [V.pl] at h
  | .yl _, _, h, _ => by simp [V.pl] at h
  | .tup _, _, h, _ => by simp [V.pl] at h
  | .nili, _, h, _ => by simp [V.pl] at h
  | .when _ _, _, h, _ => by simp [V.pl] at h
  | .junk, _, h, _ => by simp [V.pl] at h
theorem VRL.pl {ρ ρ' : Ren} : ∀ (l : List V) (us : List Value), plL l = true → VRL ρ l us → VRL ρ' l us
  | [], _, _, e => e
  | v :: l, _, h, ⟨u, r, e, x, y⟩ => by
    simp only [plL, Bool.and_eq_true] at h
    exact ⟨u, r, e, VR.pl v u h.1 x, VRL.pl l r h.2 y⟩
end

theorem plL_mem : ∀ {l : List V}, plL l = true → ∀ v ∈ l, V.pl v = true
  | [], _, v, hv => by simp at hv
  | x :: l, h, v, hv => by
    simp only [plL, Bool.and_eq_true] at h
    rcases List.mem_cons.1 hv with rfl | hv
    · exact h.1
    · exact plL_mem h.2 v hv

/-- an abstract value's cells are the value's cells -/
theorem VR.cells {ρ : Ren} {v : V} {u : Value} (h : VR ρ v u) (h1 : v.cells.all V.one = true) : VRL ρ v.cells u.cells.toList := by
  cases v
  case agg l => obtain ⟨us, rfl, h⟩ := h; simpa [V.cells, Value.cells] using h
  case tup => simp [V.cells, V.one] at h1
  case junk => simp [V.cells, V.one] at h1
  case when => simp [V.cells, V.one] at h1
  all_goals
    have ho := VR.oneCell h (by rfl)
    refine ⟨u, [], ?_, h, rfl⟩
    cases u <;> simp_all [Value.cells, Value.oneCell']

theorem VRL.oneCell {ρ : Ren} : ∀ {l : List V} {us : List Value}, VRL ρ l us → l.all V.one = true → ∀ u ∈ us, u.oneCell' = true
  | [], _, e, _, u, hu => by cases e; simp at hu
  | v :: l, _, ⟨x, r, e, hx, hy⟩, h1, u, hu => by
    cases e
    simp only [List.all_cons, Bool.and_eq_true] at h1
    rcases List.mem_cons.1 hu with rfl | hu
    · exact VR.oneCell hx h1.1
    · exact VRL.oneCell hy h1.2 u hu

/-- an abstract block lies in the world -/
structure OR (ρ : Ren) (o : O) (r : Rg) (w : World) : Prop where
  alive : o ≠ .gone
  nrsv : o ≠ .rsv
  wf : o.wf
  n : r.n = o.len
  ph0 : r.ph = true → r.n = 0
  lt : r.ph = false → r.blk < w.heap.size
  m : r.ph = false → r.m = o.wid
  cp : r.ph = false → r.n ≤ r.cp
  cell : r.ph = false → ∀ k j v, k < o.len → j < o.wid → o.cell k j = some v → ∃ u, w.cell? ⟨r.blk, r.base + k * r.m + j, none⟩ = some u ∧ VR ρ v u
  own : o.own = true → r.ph = false → r.base = 0 ∧ r.cp ≤ maxLen ∧ ∃ cs e, w.heap[r.blk]? = some (.cells cs e (0, 0)) ∧ cs.size = r.cp * r.m

structure HR (G : List O) (B : Nat) (ρ : Ren) (hp : List O) (w : World) : Prop where
  blocks : ∀ b r, ρ b = some r → getO G hp b ≠ .gone → OR ρ (getO G hp b) r w
  free : ∀ b, hp.length ≤ b → b < gbase → ρ b = none
  rsv : ∀ b, getO G hp b = .rsv → ρ b = none
  base : ∀ b r, ρ b = some r → (getO G hp b).own = true → r.ph = false → B ≤ r.blk
  apart : ∀ b b' r r', ρ b = some r → ρ b' = some r' → getO G hp b' ≠ .gone → r.ph = false → r'.ph = false → (getO G hp b).own = true → b ≠ b' → r.blk ≠ r'.blk
  glob : ∀ g o, G[g]? = some o → ∃ r, ρ (gbase + g) = some r ∧ r.blk = g ∧ r.base = 0 ∧ r.ph = false ∧ r.cp = r.n ∧ 0 < r.n ∧ o.tab = true
  small : hp.length < gbase

/-- what plain operations go by: the blocks that are named -/
structure HV (G : List O) (ρ : Ren) (hp : List O) (w : World) : Prop where
  blocks : ∀ b r, ρ b = some r → getO G hp b ≠ .gone → getO G hp b ≠ .rsv → OR ρ (getO G hp b) r w
  glob : ∀ g o, G[g]? = some o → ∃ r, ρ (gbase + g) = some r ∧ r.blk = g ∧ r.base = 0 ∧ r.ph = false ∧ r.cp = r.n ∧ 0 < r.n ∧ o.tab = true

theorem HR.hv {G : List O} {B : Nat} {ρ : Ren} {hp : List O} {w : World} (h : HR G B ρ hp w) : HV G ρ hp w := ⟨fun b r e al _ => h.blocks b r e al, h.glob⟩

/-- temporaries -/
def TR (ρ : Ren) (tm : List (Nat × V)) (a : Act) : Prop := ∀ t, VR ρ (look tm t) (a.tmps.getD t undef)

theorem OR.same {ρ : Ren} {o : O} {r : Rg} {w w' : World} (h : OR ρ o r w) (hb : r.ph = false → w'.heap[r.blk]? = w.heap[r.blk]?) (hs : w.heap.size ≤ w'.heap.size) : OR ρ o r w' where
  alive := h.alive
  nrsv := h.nrsv
  wf := h.wf
  n := h.n
  ph0 := h.ph0
  lt := fun hp => Nat.lt_of_lt_of_le (h.lt hp) hs
  m := h.m
  cp := h.cp
  cell := fun hp k j v hk hj hv => by
    obtain ⟨u, hu, hr⟩ := h.cell hp k j v hk hj hv
    exact ⟨u, (World.cell?_of_block (hb hp)).trans hu, hr⟩
  own := fun ho hp => by
    obtain ⟨a, hm, cs, e, hc, hsz⟩ := h.own ho hp
    exact ⟨a, hm, cs, e, (hb hp).trans hc, hsz⟩

theorem OR.mono {ρ ρ' : Ren} {o : O} {r : Rg} {w : World} (h : OR ρ o r w) (hl : ρ.le ρ') : OR ρ' o r w where
  alive := h.alive
  nrsv := h.nrsv
  wf := h.wf
  n := h.n
  ph0 := h.ph0
  lt := h.lt
  m := h.m
  cp := h.cp
  cell := fun hp k j v hk hj hv => let ⟨u, hu, hr⟩ := h.cell hp k j v hk hj hv; ⟨u, hu, VR.mono hl _ _ hr⟩
  own := h.own

/-- old blocks unchanged: all stands -/
theorem HR.frame {G : List O} {B : Nat} {ρ : Ren} {hp : List O} {w w' : World} (h : HR G B ρ hp w) (hs : w.heap.size ≤ w'.heap.size) (hb : ∀ k, k < w.heap.size → w'.heap[k]? = w.heap[k]?) : HR G B ρ hp w' where
  blocks := fun b r e al => (h.blocks b r e al).same (fun hp => hb _ ((h.blocks b r e al).lt hp)) hs
  free := h.free
  rsv := h.rsv
  base := h.base
  apart := h.apart
  glob := h.glob
  small := h.small

theorem look_cons (d : Nat) (v : V) (tm : List (Nat × V)) (t : Nat) : look ((d, v) :: tm) t = if d = t then v else look tm t := by
  simp only [look]
  by_cases h : d = t
  · subst h; simp
  · simp [h]
    cases hb : Nat.beq d t
    · rfl
    · exact absurd (Nat.eq_of_beq_eq_true hb) h

theorem TR.put {ρ : Ren} {tm : List (Nat × V)} {a : Act} (h : TR ρ tm a) {d : Nat} (hd : d < a.tmps.size) {v : V} {u : Value} (hv : VR ρ v u) : TR ρ ((d, v) :: tm) (a.put (some d) u) := by
  intro t
  rw [look_cons]
  simp only [Act.put]
  by_cases e : d = t
  · subst e
    simp [hd, hv]
  · rw [if_neg e]
    have := h t
    simpa [Array.getD_eq_getD_getElem?, Array.getElem?_setIfInBounds_ne e] using this

theorem TR.mono {ρ ρ' : Ren} {tm : List (Nat × V)} {a : Act} (h : TR ρ tm a) (hl : ρ.le ρ') : TR ρ' tm a := fun t => VR.mono hl _ _ (h t)

theorem VR.const {ρ : Ren} (v : Value) : VR ρ (constV v) v := by
  unfold constV
  split <;> simp [VR]

theorem evA_ok {E : Env} {ρ : Ren} {hp : List O} {w : World} {tm : List (Nat × V)} {a : Act} (ht : TR ρ tm a) (hh : HV E.G ρ hp w) (x : Operand) : VR ρ (evA E tm x) (a.eval x) := by
  cases x with
  | tmp t => exact ht t
  | const v => exact VR.const v
  | global g =>
    simp only [evA, Act.eval]
    split
    · rename_i o ho
      obtain ⟨r, h1, h2, h3, h4, h5, h6, _⟩ := hh.glob g o ho
      exact ⟨r, h1, h4, h6, by simp [h2, h3]⟩
    · trivial
  | func f => exact ⟨[], rfl, rfl⟩

end Go.Ab
