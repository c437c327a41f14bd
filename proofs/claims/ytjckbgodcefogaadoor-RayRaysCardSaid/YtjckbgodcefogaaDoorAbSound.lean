/- An evaluator of the model on values that are partly known, and its soundness (part AbSound); no condition. -/
import Derived.Test.YtjckbgodcefogaaDoorAbEval
import Derived.RangeFuncOwn
import Derived.RangeFuncCalls
import Derived.RangeFuncLeaves
namespace Go.Ab
open Go.RowKit

def Fr (ro : Option Nat) : Fence := { Fence.wide with round := ro }

def Gs := List (Nat × Obj)
def GsOk (gs : List (Nat × Obj)) (w : World) : Prop := ∀ p ∈ gs, w.heap[p.1]? = some p.2 ∧ p.2.isCells = false

theorem GsOk.keeps {gs : List (Nat × Obj)} {w w' : World} (h : GsOk gs w) (k : KeepsOthers w w') : GsOk gs w' :=
  fun p hp => ⟨k.same _ _ (h p hp).1 (h p hp).2, (h p hp).2⟩

def mark (d : Nat) : Deferred := { target := .collected d, args := #[] }
def marked (d : Nat) : Nat × Obj := (d, .deferred (some []))

structure Rel (G : List O) (B : Nat) (w0 : World) (S : Nat) (N : Nat) (D : List Deferred) (gs : List (Nat × Obj)) (ρ : Ren) (tm : Tm) (hp : List O) (a : Act) (w : World) : Prop where
  tr : TR ρ tm a
  hr : HR G B ρ hp w
  bel : Below B w0 w
  sz : a.tmps.size = N
  df : ∃ ms : List Nat, a.defers = ms.map mark ++ D ∧ GsOk (ms.map marked) w ∧ (∀ d ∈ ms, S ≤ d) ∧ ms.Nodup
  gs : GsOk gs w
  bs : B ≤ w0.heap.size
  ss : w0.heap.size ≤ S
  sw : S ≤ w.heap.size

/-- a function value called: what is asked of the machine -/
def InvokeOk (P : Program) (n : Nat) (_ro : Option Nat) (uf : Value) (us : List Value) (w : World) (K : Value → World → Prop) : Prop :=
  ∃ d, (Deferred.ofValue uf us.toArray).run P w = .ok d w ∧
    ((∃ f args, (invoke d.target d.args).run P w = .ok (.enter f args) w ∧ CallsIn (Fr none) n P f args w fun e w' => ∃ u, e = .returned u ∧ K u w') ∨
     (∃ l f tmps assign body, (invoke d.target d.args).run P w = .ok (.round l f tmps assign body) w ∧ RoundIn (Fr none) n P l f tmps assign body w fun e w' => ∃ u, e = .returned u ∧ K u w'))

variable {E : Env} {G : List O} {P : Program}

def CallGood (G : List O) (P : Program) (fv : V) (args : List V) (hp : List O) (R : V → List O → Prop) : Prop :=
  ∀ B w0 gs ρ w uf us n ro, HR G B ρ hp w → Below B w0 w → B ≤ w0.heap.size → GsOk gs w → VR ρ fv uf → VRL ρ args us →
    InvokeOk P n ro uf us w fun u w' => ∃ v hp' ρ', VR ρ' v u ∧ HR G B ρ' hp' w' ∧ ρ.le ρ' ∧ Below B w0 w' ∧ GsOk gs w' ∧ R v hp'

/-- no range over a function -/
def plainC : Code → Bool
  | .rangeFunc _ _ _ _ => false
  | .seq a b => plainC a && plainC b
  | .cond _ a b => plainC a && plainC b
  | .block _ b => plainC b
  | .loop b => plainC b
  | _ => true

def Good (G : List O) (P : Program) (μ N : Nat) (c : Code) (tm : Tm) (hp : List O) (R : Exit → Tm → List O → Prop) : Prop :=
  ∀ B w0 S D gs ρ a w n ro, (ro = none ∨ plainC c = true) → Rel G B w0 S N D gs ρ tm hp a w →
    c.wpIn (Fr ro) n P (fun e a' w' => ∃ tm' hp' ρ', Rel G B w0 S N D gs ρ' tm' hp' a' w' ∧ ρ.leB μ ρ' ∧ R e tm' hp') a w

def sat (G : List O) (P : Program) (Q : Exit → Tm → List O → Prop) : T → Prop
  | .ret e tm hp => Q e tm hp
  | .br b x y => (b = true → sat G P Q x) ∧ (b = false → sat G P Q y)
  | .need b x => b = true ∧ sat G P Q x
  | .loop c μ N tm hp k => ∃ R, Good G P μ N c tm hp R ∧ ∀ e tm' hp', R e tm' hp' → sat G P Q (k e tm' hp')
  | .fail => False

def HdOk (G : List O) (P : Program) (hd : Hd) : Prop :=
  ∀ fv args hp k Q, sat G P Q (hd fv args hp k) → CallGood G P fv args hp fun v hp' => sat G P Q (k v hp')

/-- one operation, then what follows -/
def StepGood (G : List O) (P : Program) (N : Nat) (o : Oper) (tm : Tm) (hp : List O) (R : Tm → List O → Prop) : Prop :=
  ∀ B w0 S D gs ρ a w n ro (next : Act → World → Prop) Q, Rel G B w0 S N D gs ρ tm hp a w →
    (∀ a' w', (∃ tm' hp' ρ', Rel G B w0 S N D gs ρ' tm' hp' a' w' ∧ ρ.le ρ' ∧ R tm' hp') → next a' w') → o.wpIn (Fr ro) n P a w next Q

theorem fr_about (ro : Option Nat) (o : Oper) (w : World) (ρ : Operand → Value) : ∀ f, o.about P w ρ = some f → (Fr ro).fn f := fun _ _ => trivial

section
variable {B : Nat} {w0 : World} {S : Nat} {N : Nat} {D : List Deferred} {gs : List (Nat × Obj)} {ρ : Ren} {tm tm' : Tm} {hp : List O} {a : Act} {w : World}

theorem blt_lt {a b : Nat} (h : Nat.blt a b = true) : a < b := Nat.le_of_ble_eq_true h

/-- the temporary written, the world as it was or turned -/
theorem Rel.put (h : Rel G B w0 S N D gs ρ tm hp a w) {ρ' : Ren} {hp' : List O} {w' : World} (hl : ρ.le ρ') (hr : HR G B ρ' hp' w') (hb : Below B w0 w') (hk : KeepsOthers w w')
    {d : Option Nat} {v : V} {u : Value} (hv : VR ρ' v u) {k : Tm → List O → T} {Q : Exit → Tm → List O → Prop} (hs : sat G P Q (putV N tm hp' d v k)) :
    ∃ tm' hp' ρ', Rel G B w0 S N D gs ρ' tm' hp' (a.put d u) w' ∧ ρ.le ρ' ∧ sat G P Q (k tm' hp') := by
  obtain ⟨ms, hd1, hd2, hd3⟩ := h.df
  cases d with
  | none => exact ⟨tm, hp', ρ', ⟨h.tr.mono hl, hr, hb, h.sz, ⟨ms, hd1, hd2.keeps hk, hd3⟩, h.gs.keeps hk, h.bs, h.ss, Nat.le_trans h.sw hk.size⟩, hl, hs⟩
  | some d =>
    simp only [putV] at hs
    split at hs
    · rename_i hlt
      rw [forceD_eq] at hs
      have hlt := blt_lt hlt
      exact ⟨_, hp', ρ', ⟨(h.tr.mono hl).put (by rw [h.sz]; exact hlt) hv, hr, hb, by simp [Act.put, h.sz], ⟨ms, hd1, hd2.keeps hk, hd3⟩, h.gs.keeps hk, h.bs, h.ss, Nat.le_trans h.sw hk.size⟩, hl, hs⟩
    · exact hs.elim

theorem semAt_of {o : Oper} {r : R} (hr : evOp E tm hp o.op = r) (hne : r ≠ .bad) (ro : Option Nat) (x : Operand → Value) : o.semAt ro x = execOp x o :=
  Oper.semAt_eq ro x o fun c hc => hne (by rw [← hr, hc]; rfl)

theorem uponIn_value {o : Oper} {ro : Option Nat} {n : Nat} {a : Act} {w w' : World} {next : Act → World → Prop} {Q : Exit → Act → World → Prop} {tm : Tm} {hp : List O} {r : R} (hr : evOp E tm hp o.op = r) (hne : r ≠ .bad)
    {u : Value} (hrun : (execOp a.eval o).run P w = .ok (.value u) w') (h : next (a.put o.dst u) w') : o.wpIn (Fr ro) n P a w next Q :=
  ⟨fr_about ro o w _, by rw [semAt_of hr hne, hrun]; exact h⟩

theorem uponIn_skip {o : Oper} {ro : Option Nat} {n : Nat} {a : Act} {w w' : World} {next : Act → World → Prop} {Q : Exit → Act → World → Prop} {tm : Tm} {hp : List O} {r : R} (hr : evOp E tm hp o.op = r) (hne : r ≠ .bad)
    (hrun : (execOp a.eval o).run P w = .ok .skip w') (h : next (a.put o.dst undef) w') : o.wpIn (Fr ro) n P a w next Q :=
  ⟨fr_about ro o w _, by rw [semAt_of hr hne, hrun]; exact h⟩

theorem VRL.evArgs (hev : ∀ x, VR ρ (evA E tm x) (a.eval x)) (l : List Operand) : VRL ρ (l.map (evA E tm)) (l.map a.eval) := VRL.map _ _ l fun x _ => hev x

/-- a call, by what is known of the callee -/
theorem call_step {o : Oper} {f : V} {args : List V} {R : V → List O → Prop} {n : Nat} {ro : Option Nat} {next : Act → World → Prop} {Qx : Exit → Act → World → Prop}
    (h : Rel E.G B w0 S N D gs ρ tm hp a w) (he : evOp E tm' hp o.op = .call f args) (ht' : TR ρ tm' a) (hgood : CallGood E.G P f args hp R)
    (hnext : ∀ u w', (∃ v hp' ρ', VR ρ' v u ∧ Rel E.G B w0 S N D gs ρ' tm hp' a w' ∧ ρ.le ρ' ∧ R v hp') → next (a.put o.dst u) w') : o.wpIn (Fr ro) n P a w next Qx := by
  have hev := fun x => evA_ok (E := E) (w := w) ht' h.hr.hv x
  obtain ⟨dst, op, ty, pos, after, guard⟩ := o
  dsimp only at he hgood hnext ⊢
  obtain ⟨cl, f0, rfl, hcal, rfl, rfl⟩ := evOp_call he
  have hfv := hev f0
  have hav := VRL.evArgs hev cl.args.toList
  obtain ⟨ms, hd1, hd2, hd3⟩ := h.df
  have hgs : GsOk (gs ++ ms.map marked) w := fun p hp => (List.mem_append.1 hp).elim (h.gs p) (hd2 p)
  obtain ⟨d, hres, hinv⟩ := hgood B w (gs ++ ms.map marked) ρ w _ _ (n - 1) ro h.hr (Below.refl B w) (Nat.le_trans h.bs h.bel.size) hgs hfv hav
  have hfin : ∀ u w', (∃ v hp' ρ', VR ρ' v u ∧ HR E.G B ρ' hp' w' ∧ ρ.le ρ' ∧ Below B w w' ∧ GsOk (gs ++ ms.map marked) w' ∧ R v hp') → next (a.put dst u) w' := by
    rintro u w' ⟨v, hp', ρ', hv, hr', hl', hb', hg', hs'⟩
    exact hnext _ _ ⟨v, hp', ρ', hv, ⟨h.tr.mono hl', hr', h.bel.trans hb', h.sz, ⟨ms, hd1, fun p hp => hg' p (List.mem_append.2 (.inr hp)), hd3⟩, fun p hp => hg' p (List.mem_append.2 (.inl hp)), h.bs, h.ss, Nat.le_trans h.sw hb'.size⟩, hl', hs'⟩
  refine ⟨fr_about ro _ w _, ?_⟩
  rw [semAt_of (r := .call _ _) he (by simp)]
  have hrw : (execOp a.eval { dst := dst, op := .call cl, type := ty, pos := pos, after := after, guard := guard }).run P w = (invoke d.target d.args).run P w := by
    have hargs : cl.args.map a.eval = (cl.args.toList.map a.eval).toArray := Array.toList_inj.1 (by simp)
    simp only [execOp, resolve, hcal, Sem.run_bind, hargs, hres, Result.andThen_ok]
  rw [hrw]
  rcases hinv with ⟨f', args', hi, hc⟩ | ⟨l, f', tmps, asg, body, hi, hc⟩
  · rw [hi]
    refine ⟨fun h => by simp [Fr, Fence.wide] at h, CallsIn.mono (show CallsIn (Fr ro) (n - 1) P f' args' w _ from by cases ro <;> exact hc) ?_⟩
    rintro e w' ⟨u, rfl, hK⟩
    exact hfin u w' hK
  · rw [hi]
    refine ⟨fun h => by simp [Fr, Fence.wide] at h, RoundIn.mono (show RoundIn (Fr ro) (n - 1) P l f' tmps asg body w _ from by cases ro <;> exact hc) ?_⟩
    rintro e w' ⟨u, rfl, hK⟩
    exact hfin u w' hK

/-- calls that contracts answer by plain values -/
def PsOk (E : Env) (P : Program) : Prop := ∀ hp f args c v, pfPlain E hp f args = some (c, v) → c = true → CallGood E.G P f args hp fun v' hp' => v' = v ∧ hp' = hp

theorem opK_ok (hE : E.Ok P) {hd : Hd} (hhd : HdOk E.G P hd) {o : Oper} {k : Tm → List O → T} {Q : Exit → Tm → List O → Prop} (hs : sat E.G P Q (opK E hd N o tm hp k)) :
    StepGood E.G P N o tm hp fun tm' hp' => sat E.G P Q (k tm' hp') := by
  intro B w0 S D gs ρ a w n ro next Qx h hnext
  have hev := fun x => evA_ok (w := w) h.tr h.hr.hv x
  unfold opK at hs
  split at hs
  · rename_i v he
    obtain ⟨u, hrun, hv⟩ := evOp_val hE h.hr.hv h.tr he (by simp)
    exact uponIn_value he (by simp) hrun (hnext _ _ (h.put (Ren.le_refl ρ) h.hr h.bel (KeepsOthers.refl w) hv hs))
  · rename_i c v he
    obtain ⟨hc, hs⟩ := hs
    obtain ⟨u, hrun, hv⟩ := evOp_val hE h.hr.hv h.tr he (by rintro b ⟨⟩; exact hc)
    exact uponIn_value he (by simp) hrun (hnext _ _ (h.put (Ren.le_refl ρ) h.hr h.bel (KeepsOthers.refl w) hv hs))
  · rename_i ob mk he
    split at hs
    · rename_i hlen
      rw [appK_eq] at hs
      have hlen := blt_lt hlen
      obtain ⟨us, t, u, hrun, hnew, hmk⟩ := evOp_alloc hE h.hr h.tr he
      have hfree := h.hr.free hp.length (Nat.le_refl _) (by omega)
      have hle := Ren.le_add hfree (newRg ob w.heap.size ob.len)
      have hBw : B ≤ w.heap.size := Nat.le_trans h.bs h.bel.size
      obtain ⟨hr', hl'⟩ := h.hr.extend (w' := w.alloc (.cells us.toArray t)) (r := newRg ob w.heap.size ob.len) (by simp) (fun k hk => heap_alloc_old w _ hk) (OR.new (hnew.mono hle) w t) (fun _ _ => hBw) (fun _ _ => Nat.le_refl _)
        (fun _ b x hx ho hp0 => Nat.ne_of_lt ((h.hr.blocks b x hx (fun e => by rw [e] at ho; simp [O.own] at ho)).lt hp0)) hlen
      exact uponIn_value he (by simp) hrun (hnext _ _ (h.put hl' hr' (h.bel.alloc hBw _) (KeepsOthers.alloc w _) (hmk _ _ (Ren.add_same _ _ _)) hs))
    · exact hs.elim
  · rename_i b ob he
    rw [setK_eq] at hs
    obtain ⟨w', hrun, hr', hb', hk'⟩ := evOp_store hE h.hr h.tr he
    exact uponIn_skip he (by simp) hrun (hnext _ _ (h.put (v := .junk) (Ren.le_refl ρ) hr' (h.bel.trans hb') hk' trivial hs))
  · rename_i f args he
    rw [forceV_eq, forceL_eq] at hs
    refine call_step h he h.tr (hhd f args hp _ _ hs) fun u w' ⟨v, hp', ρ', hv, hrel, hl', hs'⟩ => hnext _ _ ?_
    obtain ⟨tm2, hp2, ρ2, h2, hl2, hs2⟩ := hrel.put (Ren.le_refl ρ') hrel.hr hrel.bel (KeepsOthers.refl w') hv hs'
    exact ⟨tm2, hp2, ρ2, h2, Ren.le_trans hl' hl2, hs2⟩
  · rename_i b x y he
    obtain ⟨u, hrun, h1, h2⟩ := evOp_br (P := P) h.hr.hv h.tr he
    refine uponIn_value he (by simp) hrun (hnext _ _ ?_)
    cases b
    · exact h.put (Ren.le_refl ρ) h.hr h.bel (KeepsOthers.refl w) (h2 rfl) (hs.2 rfl)
    · exact h.put (Ren.le_refl ρ) h.hr h.bel (KeepsOthers.refl w) (h1 rfl) (hs.1 rfl)
  · rename_i old c ob he
    obtain ⟨hc, hs⟩ := hs
    split at hs
    · rename_i hlen
      rw [killK_eq, appK_eq] at hs
      have hlen := blt_lt hlen
      have hBw : B ≤ w.heap.size := Nat.le_trans h.bs h.bel.size
      obtain ⟨u, w', r, hrun, hb', hk', hr', hl', hv⟩ := evOp_app hE h.hr h.tr hBw he hc (by omega)
      exact uponIn_value he (by simp) hrun (hnext _ _ (h.put hl' hr' (h.bel.trans hb') hk' hv hs))
    · exact hs.elim
  · exact hs.elim

theorem unwhen_ok {g : Bool} {k : Tm → T} {Q : Exit → Tm → List O → Prop} : ∀ (l : List Operand) (tm : Tm), sat E.G P Q (unwhen g l tm k) →
    ∃ tm', (g = true → ∀ ρ a, TR ρ tm a → TR ρ tm' a) ∧ sat E.G P Q (k tm')
  | [], tm, h => ⟨tm, fun _ _ _ h => h, h⟩
  | x :: r, tm, h => by
    cases x with
    | tmp t =>
      simp only [unwhen] at h
      split at h
      · rename_i g' v hl
        obtain ⟨hg, h⟩ := h
        rw [forceV_eq] at h
        obtain ⟨tm', h1, h2⟩ := unwhen_ok r _ h
        refine ⟨tm', fun e ρ a ht => h1 e ρ a fun t' => ?_, h2⟩
        rw [look_cons]
        by_cases e2 : t = t'
        · subst e2
          rw [if_pos rfl]
          have := ht t
          rw [hl] at this
          subst e
          simp at hg
          exact this.1 hg
        · rw [if_neg e2]; exact ht t'
      · exact unwhen_ok r _ h
    | const v => exact unwhen_ok r _ h
    | global g => exact unwhen_ok r _ h
    | func f => exact unwhen_ok r _ h

theorem TR.lit (ht : TR ρ tm a) {d : Nat} {b : Bool} (hb : VR ρ (.lit b) (a.tmps.getD d undef)) : TR ρ ((d, .lit b) :: tm) a := fun t => by
  rw [look_cons]
  by_cases e : d = t
  · subst e; rw [if_pos rfl]; exact hb
  · rw [if_neg e]; exact ht t

theorem wanted_of {ops : Array Oper} {o : Oper} {j : Nat} {want : Bool} (hg : o.guard = some (j, want)) {d : Nat} (hd : dstOf ops.toList j = some d) {b : Bool} (hb : a.tmps.getD d undef = .bool b) :
    Region.wanted o (yielded ops a.tmps) = (b == want) := by
  have h1 : (ops[j]?).bind (·.dst) = some d := by
    unfold dstOf at hd
    rw [Array.getElem?_toList] at hd
    cases ho : ops[j]? with
    | none => rw [ho] at hd; cases hd
    | some x => rw [ho] at hd; simpa using hd
  have h2 : a.tmps[d]? = some (.bool b) := by
    rw [Array.getD_eq_getD_getElem?] at hb
    cases hx : a.tmps[d]? with
    | none => rw [hx] at hb; simp [undef] at hb
    | some x => rw [hx] at hb; simpa using hb
  simp [Region.wanted, hg, yielded, h1, h2]

theorem wanted_val {ops : Array Oper} {o : Oper} {j : Nat} {want : Bool} (hg : o.guard = some (j, want)) {d : Nat} (hd : dstOf ops.toList j = some d) (hw : Region.wanted o (yielded ops a.tmps) = true) : a.tmps.getD d undef = .bool want := by
  have h1 : (ops[j]?).bind (·.dst) = some d := by
    unfold dstOf at hd
    rw [Array.getElem?_toList] at hd
    cases ho : ops[j]? with
    | none => rw [ho] at hd; cases hd
    | some x => rw [ho] at hd; simpa using hd
  simp only [Region.wanted, hg, yielded, h1, Option.bind_some, beq_iff_eq] at hw
  split at hw
  · rename_i b hb
    simp only [Option.some.injEq] at hw
    rw [Array.getD_eq_getD_getElem?, hb, hw]
    rfl
  · cases hw

theorem wanted_undef {ops : Array Oper} {o : Oper} {j : Nat} {want : Bool} (hg : o.guard = some (j, want)) {d : Nat} (hd : dstOf ops.toList j = some d) (hu : a.tmps.getD d undef = undef) : Region.wanted o (yielded ops a.tmps) = false := by
  cases hw : Region.wanted o (yielded ops a.tmps) with
  | false => rfl
  | true => rw [wanted_val hg hd hw] at hu; simp [undef] at hu

/-- what the value of a guard says -/
theorem gval_ok {ops : Array Oper} {o : Oper} {j : Nat} {want : Bool} (hg : o.guard = some (j, want)) {d : Nat} (hd : dstOf ops.toList j = some d) {v : V} (hv : VR ρ v (a.tmps.getD d undef)) :
    match gval v want with
    | .yes => Region.wanted o (yielded ops a.tmps) = true
    | .no => Region.wanted o (yielded ops a.tmps) = false
    | .grd g => Region.wanted o (yielded ops a.tmps) = g
    | .bad => True := by
  have hb : ∀ b, a.tmps.getD d undef = .bool b → Region.wanted o (yielded ops a.tmps) = (b == want) := fun b h => wanted_of hg hd h
  cases v with
  | lit b => have := hb b hv; cases b <;> cases want <;> simpa [gval] using this
  | bool b => have := hb b hv; cases want <;> cases b <;> simpa [gval] using this
  | when g v =>
    obtain ⟨h1, h2⟩ := hv
    cases g with
    | false =>
      have hw := wanted_undef hg hd (h2 rfl)
      cases v with
      | lit b => cases b <;> cases want <;> simpa [gval] using hw
      | bool b => cases b <;> cases want <;> simpa [gval] using hw
      | _ => trivial
    | true =>
      have hv := h1 rfl
      cases v with
      | lit b => have := hb b hv; cases b <;> cases want <;> simpa [gval] using this
      | bool b => have := hb b hv; cases want <;> cases b <;> simpa [gval] using this
      | _ => trivial
  | _ => trivial

theorem gvalE_ok {ops : Array Oper} {o : Oper} {j : Nat} {want : Bool} (hg : o.guard = some (j, want)) {d : Nat} (hd : dstOf ops.toList j = some d) {v : V} (hv : VR ρ v (a.tmps.getD d undef)) :
    match gvalE E v want with
    | .yes => Region.wanted o (yielded ops a.tmps) = true
    | .no => Region.wanted o (yielded ops a.tmps) = false
    | .grd g => Region.wanted o (yielded ops a.tmps) = g
    | .bad => True := by
  have h := gval_ok hg hd hv
  unfold gvalE
  cases hx : gval v want with
  | grd g => rw [hx] at h; cases hc : E.cc <;> cases g <;> exact h
  | _ => rw [hx] at h; cases hc : E.cc <;> exact h

theorem Rel.withTm (h : Rel E.G B w0 S N D gs ρ tm hp a w) {tm' : Tm} (ht : TR ρ tm' a) : Rel E.G B w0 S N D gs ρ tm' hp a w := ⟨ht, h.hr, h.bel, h.sz, h.df, h.gs, h.bs, h.ss, h.sw⟩

theorem evOps_gen (hE : E.Ok P) (hps : PsOk E P) {hd : Hd} (hhd : HdOk E.G P hd) {ops : Array Oper} {k : Tm → List O → T} {Q : Exit → Tm → List O → Prop} {n : Nat} {ro : Option Nat} {Qx : Exit → Act → World → Prop} {ρ0 : Ren} {tl : List Nat} {suf : List Oper}
    (hQx : ∀ a' w', (∃ tm' hp' ρ', Rel E.G B w0 S N D gs ρ' tm' hp' a' w' ∧ ρ0.le ρ' ∧ sat E.G P Q (k tm' hp')) → wpOpsIn (Fr ro) n P ops Qx tl a' w') :
    ∀ (rest pre : List Oper) (tm : Tm) (hp : List O) (ρ : Ren) (a : Act) (w : World), ops.toList = pre ++ rest ++ suf → sat E.G P Q (evOps E hd N ops.toList rest tm hp k) → Rel E.G B w0 S N D gs ρ tm hp a w → ρ0.le ρ →
      wpOpsIn (Fr ro) n P ops Qx (List.range' pre.length rest.length ++ tl) a w := by
  intro rest
  induction rest with
  | nil =>
    intro pre tm hp ρ a w _ hs h hle
    exact hQx a w ⟨tm, hp, ρ, h, hle, hs⟩
  | cons o rest ih =>
    intro pre tm hp ρ a w hops hs h hle
    have hi : ops[pre.length]? = some o := by rw [← Array.getElem?_toList, hops]; simp
    have hops' : ops.toList = (pre ++ [o]) ++ rest ++ suf := by simp [hops]
    have ih' := fun (tm : Tm) (hp : List O) (ρ : Ren) (a : Act) (w : World) (hs : sat E.G P Q (evOps E hd N ops.toList rest tm hp k)) (h : Rel E.G B w0 S N D gs ρ tm hp a w) (hl : ρ0.le ρ) =>
      ih (pre ++ [o]) tm hp ρ a w hops' hs h hl
    simp only [List.length_append, List.length_singleton] at ih'
    simp only [List.length_cons, List.range'_succ, List.cons_append, wpOpsIn, hi]
    have step : ∀ {tm : Tm}, Rel E.G B w0 S N D gs ρ tm hp a w → sat E.G P Q (opK E hd N o tm hp fun tm hp => evOps E hd N ops.toList rest tm hp k) →
        o.wpIn (Fr ro) n P a w (wpOpsIn (Fr ro) n P ops Qx (List.range' (pre.length + 1) rest.length ++ tl)) Qx := fun h hs =>
      opK_ok hE hhd hs B w0 S D gs ρ a w n ro _ _ h fun a' w' ⟨tm', hp', ρ', h', hl', hs'⟩ => ih' tm' hp' ρ' a' w' hs' h' (Ren.le_trans hle hl')
    have skip : ∀ {tm : Tm} {v : V}, VR ρ v undef → Rel E.G B w0 S N D gs ρ tm hp a w → sat E.G P Q (putV N tm hp o.dst v fun tm hp => evOps E hd N ops.toList rest tm hp k) →
        wpOpsIn (Fr ro) n P ops Qx (List.range' (pre.length + 1) rest.length ++ tl) (a.put o.dst undef) w := fun hv h hs => by
      obtain ⟨tm', hp', ρ', h', hl', hs'⟩ := h.put (u := undef) (Ren.le_refl ρ) h.hr h.bel (KeepsOthers.refl w) hv hs
      exact ih' tm' hp' ρ' _ w hs' h' (Ren.le_trans hle hl')
    unfold evOps at hs
    split at hs
    · rename_i hg
      rw [if_pos (by simp [Region.wanted, hg])]
      exact step h hs
    · rename_i j want hg
      split at hs
      · exact hs.elim
      · rename_i d hd'
        have hgv := gvalE_ok (E := E) (o := o) hg hd' (h.tr d)
        split at hs
        · rename_i hb
          rw [hb] at hgv
          rw [hgv]
          obtain ⟨tm', ht, hs⟩ := unwhen_ok _ _ hs
          exact step (h.withTm (ht rfl ρ a h.tr)) hs
        · rename_i hb
          rw [hb] at hgv
          rw [hgv]
          exact ⟨fr_about ro o w _, skip (v := .junk) trivial h hs⟩
        · rename_i b hb
          rw [hb] at hgv
          dsimp only at hgv
          obtain ⟨tm', ht, hs⟩ := unwhen_ok _ _ hs
          have hno : b = false → TR ρ (gno tm d want) a := by
            intro hbf
            unfold gno
            split
            · rename_i b0 hl
              have h0 := h.tr d
              rw [hl] at h0
              refine h.tr.lit ?_
              have := wanted_of hg hd' h0
              rw [hgv, hbf] at this
              have h0 : a.tmps.getD d undef = .bool b0 := h0
              rw [h0]
              have e : b0 = !want := by cases b0 <;> cases want <;> first | rfl | cases this
              rw [e]
              exact rfl
            · exact h.tr
          have hyes : b = true → VR ρ (.lit want) (a.tmps.getD d undef) := fun e => wanted_val hg hd' (by rw [hgv, e])
          rw [hgv]
          split at hs
          · rename_i v he
            cases b
            · exact ⟨fr_about ro o w _, skip (v := .when false v) ⟨fun e => (by cases e), fun _ => rfl⟩ h hs⟩
            · have h' := h.withTm (ht rfl ρ a h.tr)
              obtain ⟨u, hrun, hv⟩ := evOp_val hE h'.hr.hv h'.tr he (by simp)
              obtain ⟨tm2, hp2, ρ2, h2, hl2, hs2⟩ := h.put (Ren.le_refl ρ) h.hr h.bel (KeepsOthers.refl w) (v := .when true v) (u := u) ⟨fun _ => hv, fun e => (by cases e)⟩ hs
              exact uponIn_value he (by simp) hrun (ih' _ _ _ _ _ hs2 h2 (Ren.le_trans hle hl2))
          · rename_i c v he
            obtain ⟨hc, hs⟩ := hs
            cases b
            · exact ⟨fr_about ro o w _, skip (v := .when false v) ⟨fun e => (by cases e), fun _ => rfl⟩ h hs⟩
            · have h' := h.withTm (ht rfl ρ a h.tr)
              obtain ⟨u, hrun, hv⟩ := evOp_val hE h'.hr.hv h'.tr he (by rintro b ⟨⟩; simpa using hc)
              obtain ⟨tm2, hp2, ρ2, h2, hl2, hs2⟩ := h.put (Ren.le_refl ρ) h.hr h.bel (KeepsOthers.refl w) (v := .when true v) (u := u) ⟨fun _ => hv, fun e => (by cases e)⟩ hs
              exact uponIn_value he (by simp) hrun (ih' _ _ _ _ _ hs2 h2 (Ren.le_trans hle hl2))
          · rename_i f args he
            rw [forceV_eq, forceL_eq] at hs
            split at hs
            · rename_i cc v hpf
              obtain ⟨hcc, hs⟩ := hs
              cases b
              · exact ⟨fr_about ro o w _, skip (v := .when false v) ⟨fun e => (by cases e), fun _ => rfl⟩ h hs⟩
              · refine call_step h he (ht rfl ρ a h.tr) (hps _ _ _ _ _ hpf (by simpa using hcc)) fun u w' ⟨v', hp', ρ', hv, hrel, hl', hv2, hh2⟩ => ?_
                subst hv2; subst hh2
                obtain ⟨tm2, hp2, ρ2, h2, hl2, hs2⟩ := hrel.put (Ren.le_refl ρ') hrel.hr hrel.bel (KeepsOthers.refl w') (v := .when true _) (u := u) ⟨fun _ => hv, fun e => (by cases e)⟩ hs
                exact ih' _ _ _ _ _ hs2 h2 (Ren.le_trans hle (Ren.le_trans hl' hl2))
            · cases b
              · exact ⟨fr_about ro o w _, skip (v := .junk) trivial (h.withTm (hno rfl)) (hs.2 rfl)⟩
              · exact step (h.withTm ((ht rfl ρ a h.tr).lit (hyes rfl))) (hs.1 rfl)
          · cases b
            · exact ⟨fr_about ro o w _, skip (v := .junk) trivial (h.withTm (hno rfl)) (hs.2 rfl)⟩
            · exact step (h.withTm ((ht rfl ρ a h.tr).lit (hyes rfl))) (hs.1 rfl)
        · exact hs.elim

theorem evOps_ok (hE : E.Ok P) (hps : PsOk E P) {hd : Hd} (hhd : HdOk E.G P hd) {ops : Array Oper} {k : Tm → List O → T} {Q : Exit → Tm → List O → Prop} {n : Nat} {ro : Option Nat} {Qx : Exit → Act → World → Prop} {ρ0 : Ren}
    (hQx : ∀ a' w', (∃ tm' hp' ρ', Rel E.G B w0 S N D gs ρ' tm' hp' a' w' ∧ ρ0.le ρ' ∧ sat E.G P Q (k tm' hp')) → Qx .normal a' w') :
    ∀ (rest pre : List Oper) (tm : Tm) (hp : List O) (ρ : Ren) (a : Act) (w : World), ops.toList = pre ++ rest → sat E.G P Q (evOps E hd N ops.toList rest tm hp k) → Rel E.G B w0 S N D gs ρ tm hp a w → ρ0.le ρ →
      wpOpsIn (Fr ro) n P ops Qx (List.range' pre.length rest.length) a w := by
  intro rest pre tm hp ρ a w hops hs h hle
  have := evOps_gen (n := n) (ro := ro) (tl := []) (suf := []) hE hps hhd (ops := ops) (Qx := Qx) (ρ0 := ρ0) (k := k) (Q := Q) (fun a' w' h => hQx a' w' h) rest pre tm hp ρ a w (by rw [hops, List.append_nil]) hs h hle
  rwa [List.append_nil] at this

end

end Go.Ab
