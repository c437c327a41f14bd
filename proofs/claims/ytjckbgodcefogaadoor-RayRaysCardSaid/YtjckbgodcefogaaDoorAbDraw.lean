/- An evaluator of the model on values that are partly known, and its soundness (part AbDraw); no condition. -/
import Derived.Test.YtjckbgodcefogaaDoorAbSound
namespace Go.Ab
open Go.RowKit

variable {E : Env} {G : List O} {P : Program}

/-! ### Folds in which some members are left out -/

section folds
variable {α β : Type}

/-- the members that L lets in, from number i on -/
def foldL (f : α → β → β) (L : Nat → Bool) : List α → Nat → β → β
  | [], _, x => x
  | a :: l, i, x => foldL f L l (i + 1) (bif L i then f a x else x)

theorem foldL_congr (f : α → β → β) {L L' : Nat → Bool} : ∀ (l : List α) (i : Nat) (x : β), (∀ k, i ≤ k → k < i + l.length → L k = L' k) → foldL f L l i x = foldL f L' l i x
  | [], _, _, _ => rfl
  | a :: l, i, x, h => by
    simp only [foldL]
    rw [h i (Nat.le_refl _) (by simp)]
    exact foldL_congr f l (i + 1) _ fun k h1 h2 => h k (by omega) (by simp only [List.length_cons]; omega)

/-- two folds that agree wherever it matters -/
theorem foldL_rel {γ : Type} (f : α → β → β) (g : β → γ) {L L' : Nat → Bool} : ∀ (l : List α) (i : Nat) (x y : β), g x = g y →
    (∀ (k : Nat) (a : α), l[k]? = some a → (∀ x y, g x = g y → g (f a x) = g (f a y)) ∧ (L (i + k) = L' (i + k) ∨ ∀ x, g (f a x) = g x)) → g (foldL f L l i x) = g (foldL f L' l i y)
  | [], _, _, _, h, _ => h
  | a :: l, i, x, y, h, hk => by
    simp only [foldL]
    obtain ⟨h1, h2⟩ := hk 0 a rfl
    simp only [Nat.add_zero] at h2
    refine foldL_rel f g l (i + 1) _ _ ?_ fun k b hb => by
      have := hk (k + 1) b (by simpa using hb)
      rwa [show i + (k + 1) = i + 1 + k by omega] at this
    rcases h2 with h2 | h2
    · rw [h2]
      cases L' i
      · exact h
      · exact h1 _ _ h
    · cases L i <;> cases L' i <;> simp only [cond_true, cond_false, h2, h]

/-- one member more, which those behind it leave alone -/
theorem foldL_add (f : α → β → β) (p : β → Prop) {L : Nat → Bool} {j : Nat} {b : α} : ∀ (l : List α) (i : Nat) (x : β), p x → i ≤ j → l[j - i]? = some b → L j = false →
    (∀ (k : Nat) (a : α), l[k]? = some a → ∀ x, p x → p (f a x)) → (∀ (k : Nat) (a : α), l[k]? = some a → j < i + k → L (i + k) = true → ∀ x, p x → f a (f b x) = f b (f a x)) → p (f b x) →
    foldL f (fun k => k == j || L k) l i x = f b (foldL f L l i x) := by
  intro l
  induction l with
  | nil => intro i x _ _ h; simp at h
  | cons a l ih =>
    intro i x hp hij hb hj hpk hc hpb
    simp only [foldL]
    by_cases e : i = j
    · subst e
      simp only [Nat.sub_self, List.getElem?_cons_zero, Option.some.injEq] at hb
      subst hb
      simp only [beq_self_eq_true, Bool.true_or, cond_true, hj, cond_false]
      have key : ∀ (l : List α) (m : Nat) (x : β), p x → i < m → (∀ (k : Nat) (a : α), l[k]? = some a → ∀ x, p x → p (f a x)) → (∀ (k : Nat) (c : α), l[k]? = some c → L (m + k) = true → ∀ x, p x → f c (f a x) = f a (f c x)) →
          foldL f (fun k => k == i || L k) l m (f a x) = f a (foldL f L l m x) := by
        intro l
        induction l with
        | nil => intros; rfl
        | cons c l ih2 =>
          intro m x hp him hpk hc
          simp only [foldL]
          have hm : (m == i) = false := by simp; omega
          rw [hm, Bool.false_or]
          cases hL : L m with
          | true =>
            simp only [cond_true]
            rw [hc 0 c rfl (by simpa using hL) x hp]
            exact ih2 (m + 1) _ (hpk 0 c rfl x hp) (by omega) (fun k d hd => hpk (k + 1) d (by simpa using hd)) (fun k d hd hl => hc (k + 1) d (by simpa using hd) (by rwa [show m + (k + 1) = m + 1 + k by omega]))
          | false =>
            simp only [cond_false]
            exact ih2 (m + 1) _ hp (by omega) (fun k d hd => hpk (k + 1) d (by simpa using hd)) (fun k d hd hl => hc (k + 1) d (by simpa using hd) (by rwa [show m + (k + 1) = m + 1 + k by omega]))
      exact key l (i + 1) x hp (by omega) (fun k d hd => hpk (k + 1) d (by simpa using hd)) (fun k d hd hl => hc (k + 1) d (by simpa using hd) (by omega) (by rwa [show i + (k + 1) = i + 1 + k by omega]))
    · have hm : (i == j) = false := by simpa using e
      rw [hm, Bool.false_or]
      have hb' : l[j - (i + 1)]? = some b := by rw [show j - i = (j - (i + 1)) + 1 by omega] at hb; simpa using hb
      have hpk' : ∀ k d, l[k]? = some d → ∀ x, p x → p (f d x) := fun k d hd => hpk (k + 1) d (by simpa using hd)
      have hc' : ∀ k d, l[k]? = some d → j < i + 1 + k → L (i + 1 + k) = true → ∀ x, p x → f d (f b x) = f b (f d x) := fun k d hd h1 h2 => hc (k + 1) d (by simpa using hd) (by omega) (by rwa [show i + (k + 1) = i + 1 + k by omega])
      have hpb' : ∀ x, p x → p (f b x) := fun x hx => hpk (j - i) b hb x hx
      cases L i
      · exact ih (i + 1) _ hp (by omega) hb' hj hpk' hc' hpb
      · exact ih (i + 1) _ (hpk 0 a rfl x hp) (by omega) hb' hj hpk' hc' (hpb' _ (hpk 0 a rfl x hp))

end folds

/-! ### The order -/

/-- what is listed holds what must come before it -/
def Closed (ops : Array Oper) (L : Nat → Bool) : Prop := ∀ j o, ops[j]? = some o → L j = true → ∀ e ∈ o.after, Region.binds .any e = true → L e.on = true

def ReadyAt (ops : Array Oper) (L : Nat → Bool) (j : Nat) : Prop := ∀ o, ops[j]? = some o → ∀ e ∈ o.after, Region.binds .any e = true → L e.on = true

theorem befs_length : ∀ (ops : List Oper) (acc : List Nat), (befs ops acc).length = acc.length + ops.length
  | [], acc => by simp [befs]
  | o :: r, acc => by rw [befs, befs_length r]; simp; omega

theorem befs_prefix : ∀ (ops : List Oper) (acc : List Nat) (i : Nat), i < acc.length → (befs ops acc).getD i 0 = acc.getD i 0
  | [], acc, i, _ => rfl
  | o :: r, acc, i, h => by
    rw [befs, befs_prefix r _ i (by simp; omega)]
    simp [List.getD, List.getElem?_append_left h]

def bitsAt (acc : Nat → Nat) (o : Oper) : Nat := o.after.toList.foldl (fun s e => bif Region.binds .any e then s ||| 2 ^ e.on ||| acc e.on else s) 0

theorem bitsAt_spec (acc : Nat → Nat) (o : Oper) (i : Nat) (h : Nat.testBit (bitsAt acc o) i = true) : ∃ e ∈ o.after, Region.binds .any e = true ∧ (i = e.on ∨ Nat.testBit (acc e.on) i = true) := by
  have key : ∀ (l : List Edge) (s : Nat), Nat.testBit (l.foldl (fun s e => bif Region.binds .any e then s ||| 2 ^ e.on ||| acc e.on else s) s) i = true →
      Nat.testBit s i = true ∨ ∃ e ∈ l, Region.binds .any e = true ∧ (i = e.on ∨ Nat.testBit (acc e.on) i = true) := by
    intro l
    induction l with
    | nil => intro s h; exact .inl h
    | cons e l ih =>
      intro s h
      rcases ih _ h with h1 | ⟨e', he', x⟩
      · cases hb : Region.binds .any e with
        | true =>
          dsimp only at h1
          rw [hb] at h1
          simp only [cond_true, Nat.testBit_or, Bool.or_eq_true, Nat.testBit_two_pow] at h1
          rcases h1 with (h1 | h1) | h1
          · exact .inl h1
          · exact .inr ⟨e, by simp, hb, .inl (of_decide_eq_true h1).symm⟩
          · exact .inr ⟨e, by simp, hb, .inr h1⟩
        | false => dsimp only at h1; rw [hb] at h1; exact .inl h1
      · exact .inr ⟨e', by simp [he'], x⟩
  rcases key o.after.toList 0 h with h1 | ⟨e, he, x⟩
  · simp at h1
  · exact ⟨e, by simpa using he, x⟩

/-- the bits are of direct or indirect forerunners -/
theorem befs_spec : ∀ (ops : List Oper) (acc : List Nat) (j : Nat) (o : Oper), ops[j]? = some o → ∃ acc' : Nat → Nat, (befs ops acc).getD (acc.length + j) 0 = bitsAt acc' o ∧
    ∀ k, acc' k = 0 ∨ acc' k = (befs ops acc).getD k 0 ∧ k < acc.length + j := by
  intro ops
  induction ops with
  | nil => intro acc j o h; simp at h
  | cons p ops ih =>
    intro acc j o h
    cases j with
    | zero =>
      simp only [List.getElem?_cons_zero, Option.some.injEq] at h
      subst h
      refine ⟨fun k => acc.getD k 0, ?_, fun k => ?_⟩
      · rw [befs, befs_prefix _ _ _ (by simp)]
        simp [List.getD, bitsAt]
      · by_cases hk : k < acc.length
        · exact .inr ⟨by rw [befs, befs_prefix _ _ _ (by simp; omega)]; simp [List.getD, List.getElem?_append_left hk], by omega⟩
        · exact .inl (by simp [List.getD, List.getElem?_eq_none (Nat.le_of_not_lt hk)])
    | succ j =>
      obtain ⟨acc', h1, h2⟩ := ih (acc ++ [bitsAt (fun k => acc.getD k 0) p]) j o (by simpa using h)
      simp only [List.length_append, List.length_singleton] at h1 h2
      have hb : befs (p :: ops) acc = befs ops (acc ++ [bitsAt (fun k => acc.getD k 0) p]) := rfl
      rw [hb]
      refine ⟨acc', by rw [← h1]; congr 1; omega, fun k => (h2 k).imp id fun h => ⟨h.1, by omega⟩⟩

theorem ord_listed {ops : Array Oper} {L : Nat → Bool} (hc : Closed ops L) : ∀ (j : Nat), ReadyAt ops L j → ∀ i, ord (befs ops.toList []) i j = true → L i = true := by
  intro j
  induction j using Nat.strongRecOn with
  | _ j ih =>
    intro hr i h
    unfold ord at h
    cases ho : ops[j]? with
    | none =>
      have : (befs ops.toList []).getD j 0 = 0 := by
        have hl := befs_length ops.toList []
        have : ops.size ≤ j := by
          rcases Nat.lt_or_ge j ops.size with h | h
          · simp [h] at ho
          · exact h
        simp only [List.length_nil, Nat.zero_add, Array.length_toList] at hl
        simp [List.getD, List.getElem?_eq_none (show (befs ops.toList []).length ≤ j by omega)]
      rw [this] at h
      simp at h
    | some o =>
      obtain ⟨acc', h1, h2⟩ := befs_spec ops.toList [] j o (by simpa using ho)
      simp only [List.length_nil, Nat.zero_add] at h1 h2
      rw [h1] at h
      obtain ⟨e, he, hb, hx⟩ := bitsAt_spec _ _ _ h
      have hL := hr o ho e he hb
      rcases hx with rfl | hx
      · exact hL
      · rcases h2 e.on with h3 | ⟨h3, h4⟩
        · rw [h3] at hx; simp at hx
        · rw [h3] at hx
          exact ih e.on h4 (fun o' ho' => hc e.on o' ho' hL) i hx

/-- a heap in which more is known -/
def Le (G hp hp' : List O) : Prop := ∀ b, getO G hp b ≠ .gone → getO G hp b ≠ .rsv → getO G hp' b = getO G hp b

theorem Le.refl (G hp : List O) : Le G hp hp := fun _ _ _ => rfl

theorem evA_congr {tm tm' : Tm} {x : Operand} (h : ∀ t, x = .tmp t → look tm t = look tm' t) : evA E tm x = evA E tm' x := by
  cases x <;> simp only [evA]
  exact h _ rfl

theorem evOp_congr {tm tm' : Tm} {hp : List O} {op : Op} (h : ∀ x ∈ op.operands.toList, evA E tm x = evA E tm' x) : evOp E tm hp op = evOp E tm' hp op := by
  cases op
  case move x => simp only [evOp, h x (by simp [Op.operands])]
  case assign x => simp only [evOp, h x (by simp [Op.operands])]
  case pick c x y => simp only [evOp, h c (by simp [Op.operands]), h x (by simp [Op.operands]), h y (by simp [Op.operands])]
  case box t x => simp only [evOp, h x (by simp [Op.operands])]
  case load t x => simp only [evOp, h x (by simp [Op.operands])]
  case store t x y => simp only [evOp, h x (by simp [Op.operands]), h y (by simp [Op.operands])]
  case fieldAddr t x i => simp only [evOp, h x (by simp [Op.operands])]
  case indexAddr t x i => simp only [evOp, h x (by simp [Op.operands]), h i (by simp [Op.operands])]
  case binOp o t x y t' => simp only [evOp, h x (by simp [Op.operands]), h y (by simp [Op.operands])]
  case unOp o t x => cases o <;> simp only [evOp, h x (by simp [Op.operands])]
  case extract x i => simp only [evOp, h x (by simp [Op.operands])]
  case build t ps =>
    have : (ps.toList.map fun p => (p.1, evA E tm p.2)) = (ps.toList.map fun p => (p.1, evA E tm' p.2)) :=
      List.map_congr_left fun p hp => by rw [h p.2 (by simp [Op.operands]; exact ⟨p.1, by simpa using hp⟩)]
    simp only [evOp, this]
  case slice t x lo hi mx =>
    have e1 : optI E tm lo = optI E tm' lo := by cases lo with | none => rfl | some y => simp only [optI, h y (by simp [Op.operands])]
    have e2 : optI E tm hi = optI E tm' hi := by cases hi with | none => rfl | some y => simp only [optI, h y (by simp [Op.operands])]
    have e3 : optI E tm mx = optI E tm' mx := by cases mx with | none => rfl | some y => simp only [optI, h y (by simp [Op.operands])]
    simp only [evOp, h x (by simp [Op.operands]), e1, e2, e3]
  case convert t t' x => simp only [evOp, h x (by simp [Op.operands])]
  case index t x i => simp only [evOp, h x (by simp [Op.operands]), h i (by simp [Op.operands])]
  case makeFunc fn f c =>
    have : c.toList.map (evA E tm) = c.toList.map (evA E tm') := List.map_congr_left fun x hx => h x (by simp only [Op.operands, Array.toList_append, List.mem_append]; exact .inr hx)
    simp only [evOp, this]
  case buildSlice t n ps =>
    have : (ps.toList.map fun p => (p.1, evA E tm p.2)) = (ps.toList.map fun p => (p.1, evA E tm' p.2)) :=
      List.map_congr_left fun p hp => by rw [h p.2 (by simp [Op.operands]; exact ⟨p.1, by simpa using hp⟩)]
    simp only [evOp, this]
  case call c =>
    obtain ⟨cal, args, tys⟩ := c
    have hargs : ∀ x ∈ args.toList, evA E tm x = evA E tm' x := fun x hx => h x (by simp only [Op.operands, Call.operands, Array.toList_append, List.mem_append]; exact .inr hx)
    have hmap : args.toList.map (evA E tm) = args.toList.map (evA E tm') := List.map_congr_left hargs
    cases cal with
    | value f => simp only [evOp, hmap, h f (by simp [Op.operands, Call.operands])]
    | invoke r m => simp only [evOp]
    | builtin b =>
      cases b <;> simp only [evOp]
      · split
        · rename_i s x t t' hx ht
          rw [hargs s (by simp [hx]), hargs x (by simp [hx])]
        · rfl
      · split
        · rename_i x t hx ht
          rw [hargs x (by simp [hx])]
        · rfl
      · split
        · rename_i x r hx
          rw [hargs x (by simp [hx]), List.map_congr_left fun y hy => hargs y (by simp [hx, hy])]
        · rfl
      · split
        · rename_i x r hx
          rw [hargs x (by simp [hx]), List.map_congr_left fun y hy => hargs y (by simp [hx, hy])]
        · rfl
  all_goals rfl

/-! ### What each operation does -/

inductive Wr where
  | none
  | new (l : List O)
  | set (id : Nat) (o : O)

structure Item where
  o : Oper
  tm : Tm
  hp : List O
  v : V
  w : Wr

def Item.putT (it : Item) (tm : Tm) : Tm := match it.o.dst with | some d => (d, it.v) :: tm | none => tm
def Item.putH (it : Item) (hp : List O) : List O := match it.w with | .none => hp | .new l => hp ++ l | .set id o => hp.set id o
def Item.putN (it : Item) (hp : List O) : List O := match it.w with | .new l => hp ++ l | _ => hp

def Tr : List Item → Tm → List O → Tm → List O → Prop
  | [], tm, hp, tm', hp' => tm' = tm ∧ hp' = hp
  | it :: r, tm, hp, tm', hp' => it.tm = tm ∧ it.hp = hp ∧ Tr r (it.putT tm) (it.putN hp) tm' hp'

theorem Tr.at : ∀ {items : List Item} {tm tm' : Tm} {hp hp' : List O}, Tr items tm hp tm' hp' → ∀ (i j : Nat) (it : Item), items[j]? = some it →
    it.tm = foldL Item.putT (fun k => decide (k < i + j)) items i tm ∧ it.hp = foldL Item.putN (fun k => decide (k < i + j)) items i hp
  | [], _, _, _, _, _, _, _, _, h => by simp at h
  | x :: r, tm, tm', hp, hp', ⟨h1, h2, h3⟩, i, j, it, h => by
    cases j with
    | zero =>
      simp only [List.getElem?_cons_zero, Option.some.injEq] at h
      subst h
      simp only [foldL, Nat.add_zero, Nat.lt_irrefl, decide_false, cond_false]
      have : ∀ {β : Type} (f : Item → β → β) (y : β), foldL f (fun k => decide (k < i)) r (i + 1) y = y := by
        intro β f y
        have key : ∀ (l : List Item) (m : Nat) (y : β), i < m → foldL f (fun k => decide (k < i)) l m y = y := by
          intro l
          induction l with
          | nil => intros; rfl
          | cons a l ih =>
            intro m y hm
            simp only [foldL]
            rw [decide_eq_false (by omega), cond_false]
            exact ih (m + 1) y (by omega)
        exact key r (i + 1) y (by omega)
      exact ⟨by rw [this]; exact h1, by rw [this]; exact h2⟩
    | succ j =>
      have := Tr.at h3 (i + 1) j it (by simpa using h)
      simp only [foldL]
      rw [decide_eq_true (by omega), cond_true, cond_true]
      rw [show i + (j + 1) = i + 1 + j by omega]
      exact this

theorem Tr.fin : ∀ {items : List Item} {tm tm' : Tm} {hp hp' : List O}, Tr items tm hp tm' hp' → ∀ i, tm' = foldL Item.putT (fun _ => true) items i tm ∧ hp' = foldL Item.putN (fun _ => true) items i hp
  | [], _, _, _, _, h, _ => h
  | x :: r, _, _, _, _, ⟨_, _, h⟩, i => by simp only [foldL, cond_true]; exact Tr.fin h (i + 1)

/-- what an operation sees of the temporaries -/
def restr (ns : List Nat) (tm : Tm) : Tm := ns.map fun t => (t, look tm t)

theorem look_restr (ns : List Nat) (tm : Tm) (t : Nat) : look (restr ns tm) t = if t ∈ ns then look tm t else .junk := by
  induction ns with
  | nil => rfl
  | cons n ns ih =>
    have : restr (n :: ns) tm = (n, look tm n) :: restr ns tm := rfl
    rw [this, look_cons, ih]
    by_cases e : n = t
    · subst e; simp
    · rw [if_neg e]
      by_cases h : t ∈ ns
      · simp [h]
      · simp [h, Ne.symm e]

theorem TR.restr {ρ : Ren} {tm tmX : Tm} {a : Act} (ht : TR ρ tmX a) {ns : List Nat} (h : ∀ t ∈ ns, look tmX t = look tm t) : TR ρ (restr ns tm) a := fun t => by
  rw [look_restr]
  split
  · rename_i hm; rw [← h t hm]; exact ht t
  · trivial

theorem mem_tmpsOf {t : Nat} : ∀ (l : List Operand), Operand.tmp t ∈ l → t ∈ tmpsOf l
  | [], h => by simp at h
  | x :: l, h => by
    rcases List.mem_cons.1 h with rfl | h
    · simp [tmpsOf]
    · have := mem_tmpsOf l h
      cases x <;> simp [tmpsOf, this]

theorem evA_restr {all : List Oper} {o : Oper} {tm : Tm} {x : Operand} (h : x ∈ o.op.operands.toList) : evA E (restr (names all o) tm) x = evA E tm x := by
  refine evA_congr fun t e => ?_
  subst e
  rw [look_restr, if_pos]
  exact List.mem_append.2 (.inl (mem_tmpsOf _ h))

theorem evOp_restr {all : List Oper} {o : Oper} {tm : Tm} {hp : List O} : evOp E (restr (names all o) tm) hp o.op = evOp E tm hp o.op := evOp_congr fun _ h => evA_restr h

/-- the makes of an operation -/
def SemQ (E : Env) (P : Program) (ops : Array Oper) (it : Item) : Prop :=
  it.w = .none ∧ (∀ c, it.o.op ≠ .defer c) ∧ ∀ ρ a w, TR ρ (restr (names ops.toList it.o) it.tm) a → HV E.G ρ it.hp w →
    (Region.wanted it.o (yielded ops a.tmps) = true → ValOk P ρ w a it.o it.v) ∧ (Region.wanted it.o (yielded ops a.tmps) = false → VR ρ it.v undef)

/-- a call that makes no block, maybe under a guard -/
def SemC (E : Env) (P : Program) (ops : Array Oper) (N : Nat) (it : Item) : Prop :=
  it.w = .none ∧ loud it.o.op = true ∧ ∀ tmX hpX, hpX.length = it.hp.length → Le E.G it.hp hpX →
    ∀ B w0 S D gs ρ a w, Rel E.G B w0 S N D gs ρ tmX hpX a w → TR ρ (restr (names ops.toList it.o) it.tm) a →
      (Region.wanted it.o (yielded ops a.tmps) = true → ∀ n ro (next : Act → World → Prop) Qx, (∀ u w' ρ', VR ρ' it.v u → Rel E.G B w0 S N D gs ρ' tmX hpX a w' → ρ.le ρ' → next (a.put it.o.dst u) w') → it.o.wpIn (Fr ro) n P a w next Qx) ∧
      (Region.wanted it.o (yielded ops a.tmps) = false → VR ρ it.v undef)

def SemL (E : Env) (P : Program) (ops : Array Oper) (N : Nat) (it : Item) : Prop :=
  ∃ l, it.w = .new l ∧ loud it.o.op = true ∧ it.o.guard = none ∧ ∀ tmX hpX, hpX.length = it.hp.length → Le E.G it.hp hpX →
    ∀ B w0 S D gs ρ a w n ro (next : Act → World → Prop) Qx, Rel E.G B w0 S N D gs ρ tmX hpX a w → TR ρ (restr (names ops.toList it.o) it.tm) a →
      (∀ u w' ρ', VR ρ' it.v u → Rel E.G B w0 S N D gs ρ' tmX (hpX ++ l) a w' → ρ.le ρ' → next (a.put it.o.dst u) w') → it.o.wpIn (Fr ro) n P a w next Qx

def SemA (_E : Env) (P : Program) (id : Nat) (z : List V) (it : Item) : Prop :=
  it.v = .ptr id 0 0 ∧ it.o.guard = none ∧ (∀ c, it.o.op ≠ .defer c) ∧
    ∀ (a : Act) (w : World), ∃ us t, (execOp a.eval it.o).run P w = .ok (.value (.pointer (some ⟨w.heap.size, 0, none⟩))) (w.alloc (.cells us.toArray t)) ∧ ∀ ρ, NewOk ρ (.cells true z) us

def SemS (E : Env) (_P : Program) (ops : Array Oper) (id : Nat) (l : List V) (it : Item) : Prop :=
  it.o.guard = none ∧ it.o.dst = none ∧
    ∀ hpX, (∃ c, hpX.getD id .gone = .cells true c ∧ c.length = l.length) → evOp E (restr (names ops.toList it.o) it.tm) hpX it.o.op = .store id (.cells true l)

/-- how the blocks reserved are written -/
def Sets (E : Env) (P : Program) (ops : Array Oper) (base nA : Nat) : List Item → Nat → Nat → List Rsv → List Rsv → Prop
  | [], _, _, rs, rs' => rs' = rs
  | it :: r, j, na, rs, rs' => match it.w with
    | .set id o => ∃ l, o = .cells true l ∧ ((id = base + na ∧ na < nA ∧ SemA E P id l it ∧ Sets E P ops base nA r (j + 1) (na + 1) (rs ++ [⟨id, j, l⟩]) rs') ∨
        (rsvOk (befs ops.toList []) id j l rs = true ∧ SemS E P ops id l it ∧ Sets E P ops base nA r (j + 1) na (rs ++ [⟨id, j, l⟩]) rs'))
    | _ => Sets E P ops base nA r (j + 1) na rs rs'

structure Items (E : Env) (P : Program) (ops : Array Oper) (N : Nat) (j : Nat) (items : List Item) : Prop where
  op : ∀ (k : Nat) (it : Item), items[k]? = some it → ops[j + k]? = some it.o
  dst : ∀ (k : Nat) (it : Item) d, items[k]? = some it → it.o.dst = some d → d < N
  sem : ∀ (k : Nat) (it : Item), items[k]? = some it → SemQ E P ops it ∨ SemC E P ops N it ∨ SemL E P ops N it ∨ ∃ id o, it.w = .set id o

end Go.Ab
