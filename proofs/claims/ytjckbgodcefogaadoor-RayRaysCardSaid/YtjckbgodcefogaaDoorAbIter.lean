/- An evaluator of the model on values that are partly known, and its soundness (part AbIter); no condition. -/
import Derived.Test.YtjckbgodcefogaaDoorAbKit
namespace Go.Ab
open Go.RowKit

/-! ### Iterators: code that hands values on -/

section
variable {E : Env} {P : Program} {n N l S0 : Nat} {ρc : Ren} {cs L : List (List V)} {J : Option Nat → World → Prop}

/-- what a call of an iterator goes by -/
structure ItOk (E : Env) (P : Program) (n l S0 : Nat) (ρc : Ren) (cs L : List (List V)) (J : Option Nat → World → Prop) : Prop where
  hE : E.Fn P
  stab : ∀ σ W W', J σ W → Later S0 W W' → J σ W'
  hr : ∀ σ W, J σ W → HR E.G W.heap.size ρc (hp0 cs) W
  yl : ρc cs.length = some (yrg l)
  cov : ∀ i, i < cs.length → ∃ r, ρc i = some r
  small : cs.length + 1 < gbase
  lS : l < S0
  yld : ∀ i vs us W1, L[i]? = some vs → (∀ ρ, VRL ρ vs us) → J (some i) W1 → YieldAt (Fr none) (n - 1) P l us.toArray W1 fun e W' => ∃ b, e = .returned (.bool b) ∧ J (bif b then some (i + 1) else none) W' ∧ Kept l W1 W'

def It (E : Env) (N S0 : Nat) (ρc : Ren) (cs : List (List V)) (J : Option Nat → World → Prop) (σ : Option Nat) (tm : Tm) (hp : List O) (a : Act) (w : World) : Prop :=
  ∃ (D0 : List Nat) (Wy : World) (ρ : Ren), J σ Wy ∧ S0 ≤ Wy.heap.size ∧ D0.Nodup ∧ (∀ d ∈ D0, S0 ≤ d ∧ d < Wy.heap.size) ∧ Rel E.G Wy.heap.size Wy Wy.heap.size N (D0.map mark) (D0.map marked) ρ tm hp a w ∧ ρc.leB (cs.length + 1) ρ

def YG (E : Env) (P : Program) (n N S0 : Nat) (ρc : Ren) (cs : List (List V)) (J : Option Nat → World → Prop) (c : Code) (σ : Option Nat) (tm : Tm) (hp : List O) (Q : Exit → Option Nat → Tm → List O → Prop) : Prop :=
  ∀ a w, It E N S0 ρc cs J σ tm hp a w → c.wpIn (Fr none) n P (fun e a' w' => ∃ σ' tm' hp', It E N S0 ρc cs J σ' tm' hp' a' w' ∧ Q e σ' tm' hp') a w

variable {c : Code} {σ : Option Nat} {tm : Tm} {hp : List O} {Q Q' : Exit → Option Nat → Tm → List O → Prop}

theorem YG.mono (h : YG E P n N S0 ρc cs J c σ tm hp Q) (hq : ∀ e σ tm hp, Q e σ tm hp → Q' e σ tm hp) : YG E P n N S0 ρc cs J c σ tm hp Q' :=
  fun a w hi => wpIn_mono (h a w hi) fun _ _ _ ⟨σ', tm', hp', h1, h2⟩ => ⟨σ', tm', hp', h1, hq _ _ _ _ h2⟩

theorem It.ent {a : Act} {w : World} (h : It E N S0 ρc cs J σ tm hp a w) {tm' : Tm} {hp' : List O} (he : Ent E.G (cs.length + 1) tm hp tm' hp') : It E N S0 ρc cs J σ tm' hp' a w := by
  obtain ⟨D0, Wy, ρ, h1, h2, h3, h4, h5, h6⟩ := h
  obtain ⟨ρ', l1, h7⟩ := h5.ent he
  exact ⟨D0, Wy, ρ', h1, h2, h3, h4, h7, Ren.leB_trans h6 l1⟩

theorem YG.ent {tm' : Tm} {hp' : List O} (he : Ent E.G (cs.length + 1) tm hp tm' hp') (h : YG E P n N S0 ρc cs J c σ tm' hp' Q) : YG E P n N S0 ρc cs J c σ tm hp Q := fun a w hi => h a w (hi.ent he)

/-- code that hands nothing on -/
theorem YG.seg (hE : E.Fn P) (m : Nat) (hs : sat E.G P (fun e tm' hp' => Q e σ tm' hp') (evC E (hdl E m) (cs.length + 1) N c tm hp .ret)) : YG E P n N S0 ρc cs J c σ tm hp Q := by
  rintro a w ⟨D0, Wy, ρ, h1, h2, h3, h4, h5, h6⟩
  refine wpIn_mono (evC_ok hE.mixed hE.ok (pg_ok hE) (ps_ok hE) (hdl_ok hE m) c tm hp _ _ hs Wy.heap.size Wy Wy.heap.size (D0.map mark) (D0.map marked) ρ a w n none (.inl rfl) h5) ?_
  rintro e a' w' ⟨tm', hp', ρ', h7, h8, h9⟩
  exact ⟨σ, tm', hp', ⟨D0, Wy, ρ', h1, h2, h3, h4, h7, Ren.leB_trans h6 h8⟩, h9⟩

theorem YG.seq {x y : Code} (h : YG E P n N S0 ρc cs J x σ tm hp (fun e σ' tm' hp' => match e with | .normal => YG E P n N S0 ρc cs J y σ' tm' hp' Q | e => Q e σ' tm' hp')) : YG E P n N S0 ρc cs J (.seq x y) σ tm hp Q := by
  intro a w hi
  refine wpIn_seq (wpIn_mono (h a w hi) ?_)
  rintro e a' w' ⟨σ', tm', hp', h1, h2⟩
  cases e with
  | normal => exact h2 a' w' h1
  | _ => exact ⟨σ', tm', hp', h1, h2⟩

theorem YG.cond {x y : Code} {o : Operand} {b : Bool} (ho : evA E tm o = .bool b) (h1 : b = true → YG E P n N S0 ρc cs J x σ tm hp Q) (h2 : b = false → YG E P n N S0 ρc cs J y σ tm hp Q) : YG E P n N S0 ρc cs J (.cond o x y) σ tm hp Q := by
  intro a w hi
  have hi' := hi
  obtain ⟨D0, Wy, ρ, _, _, _, _, h5, _⟩ := hi'
  have hev := evA_ok (E := E) (w := w) h5.tr h5.hr.hv o
  rw [ho] at hev
  exact wpIn_cond_split hev (fun e => h1 e a w hi) (fun e => h2 e a w hi)

theorem YG.condL {x y : Code} {o : Operand} {b : Bool} (ho : evA E tm o = .lit b) (h1 : b = true → YG E P n N S0 ρc cs J x σ tm hp Q) (h2 : b = false → YG E P n N S0 ρc cs J y σ tm hp Q) : YG E P n N S0 ρc cs J (.cond o x y) σ tm hp Q := by
  intro a w hi
  have hi' := hi
  obtain ⟨D0, Wy, ρ, _, _, _, _, h5, _⟩ := hi'
  have hev := evA_ok (E := E) (w := w) h5.tr h5.hr.hv o
  rw [ho] at hev
  cases b
  · exact wpIn_cond_false hev (h2 rfl a w hi)
  · exact wpIn_cond_true hev (h1 rfl a w hi)

theorem YG.block {id : Nat} {x : Code} (h : YG E P n N S0 ρc cs J x σ tm hp (fun e σ' tm' hp' => match e with | .exit id' => (match Nat.beq id' id with | true => Q .normal σ' tm' hp' | false => Q (.exit id') σ' tm' hp') | e => Q e σ' tm' hp')) : YG E P n N S0 ρc cs J (.block id x) σ tm hp Q := by
  intro a w hi
  refine wpIn_block (wpIn_mono (h a w hi) ?_)
  rintro e a' w' ⟨σ', tm', hp', h1, h2⟩
  cases e with
  | exit id' =>
    simp only [Exit.inBlock]
    dsimp only at h2
    split at h2
    · rename_i hb; rw [if_pos (Nat.eq_of_beq_eq_true hb)]; exact ⟨σ', tm', hp', h1, h2⟩
    · rename_i hb; rw [if_neg (Nat.ne_of_beq_eq_false hb)]; exact ⟨σ', tm', hp', h1, h2⟩
  | _ => exact ⟨σ', tm', hp', h1, h2⟩

theorem YG.loop {body : Code} {α : Type} (st : α → Option Nat × Tm × List O) (inv : α → Prop) (meas : α → Nat) (a0 : α) (hσ : σ = (st a0).1) (h0 : Ent E.G (cs.length + 1) tm hp (st a0).2.1 (st a0).2.2) (hi : inv a0)
    (hround : ∀ x, inv x → YG E P n N S0 ρc cs J body (st x).1 (st x).2.1 (st x).2.2 fun e σ' tm' hp' => match e with
      | .normal => ∃ x', inv x' ∧ meas x' < meas x ∧ σ' = (st x').1 ∧ Ent E.G (cs.length + 1) tm' hp' (st x').2.1 (st x').2.2
      | e => Q e σ' tm' hp') : YG E P n N S0 ρc cs J (.loop body) σ tm hp Q := by
  subst hσ
  refine YG.ent h0 fun a w hi0 => wpIn_loop_rounds (meas a0 + 1) ?_
  have key : ∀ (k : Nat) (x : α) (a : Act) (w : World), inv x → meas x ≤ k → It E N S0 ρc cs J (st x).1 (st x).2.1 (st x).2.2 a w →
      Code.roundsIn (Fr none) n P body (fun e a' w' => ∃ σ' tm' hp', It E N S0 ρc cs J σ' tm' hp' a' w' ∧ Q e σ' tm' hp') (k + 1) a w := by
    intro k
    induction k with
    | zero =>
      intro x a w hx hk hit
      refine wpIn_mono (hround x hx a w hit) ?_
      rintro e a2 w2 ⟨σ2, tm2, hp2, h2, hq⟩
      cases e with
      | normal => obtain ⟨x', _, h4, _⟩ := hq; omega
      | _ => exact ⟨σ2, tm2, hp2, h2, hq⟩
    | succ k ih =>
      intro x a w hx hk hit
      refine wpIn_mono (hround x hx a w hit) ?_
      rintro e a2 w2 ⟨σ2, tm2, hp2, h2, hq⟩
      cases e with
      | normal =>
        obtain ⟨x', h3, h4, rfl, h5⟩ := hq
        exact ih x' a2 w2 h3 (by omega) (h2.ent h5)
      | _ => exact ⟨σ2, tm2, hp2, h2, hq⟩
  exact key (meas a0) a0 a w hi (Nat.le_refl _) hi0

/-- values that name nothing but the captured variables -/
def okY (μ : Nat) : V → Bool
  | .ptr b _ _ => Nat.blt b μ
  | .yl b => Nat.blt b μ
  | v => V.pl v

theorem okY_ok {ρ : Ren} {μ : Nat} (hm : ∀ b r, b < μ → ρ b = some r → ρc b = some r) {v : V} {u : Value} (h : okY μ v = true) (hv : VR ρ v u) : VR ρc v u := by
  cases v with
  | ptr b k j => obtain ⟨r, h1, h2⟩ := hv; exact ⟨r, hm b r (blt_lt h) h1, h2⟩
  | yl b => obtain ⟨r, h1, h2⟩ := hv; exact ⟨r, hm b r (blt_lt h) h1, h2⟩
  | _ => exact VR.pl _ u h hv

def YSkip (E : Env) (P : Program) (m N : Nat) (all : List Oper) (oy : Oper) (suf : List Oper) (σ : Option Nat) (Q : Exit → Option Nat → Tm → List O → Prop) (tm : Tm) (hp : List O) : Prop :=
  sat E.G P (fun e tm' hp' => Q e σ tm' hp') (putV N tm hp oy.dst .junk fun tm hp => evOps E (hdl E m) N all suf tm hp (.ret .normal))

def YDo (E : Env) (P : Program) (m N : Nat) (cs L : List (List V)) (all : List Oper) (oy : Oper) (cl : Call) (f : Operand) (suf : List Oper) (σ : Option Nat) (Q : Exit → Option Nat → Tm → List O → Prop) (tm : Tm) : Prop :=
  ∃ i vs ts, σ = some i ∧ L[i]? = some vs ∧ evA E tm f = .yl cs.length ∧ cl.args.toList.map (evA E tm) = vs ∧ plL vs = true ∧ (ts.all fun t => okY (cs.length + 1) (look tm t)) = true ∧
    ∀ b, sat E.G P (fun e tm' hp' => Q e (bif b then some (i + 1) else none) tm' hp') (putV N (keepT tm ts) (hp0 cs) oy.dst (.lit b) fun tm hp => evOps E (hdl E m) N all suf tm hp (.ret .normal))

def YOp (E : Env) (P : Program) (m N : Nat) (cs L : List (List V)) (all : List Oper) (oy : Oper) (cl : Call) (f : Operand) (suf : List Oper) (σ : Option Nat) (Q : Exit → Option Nat → Tm → List O → Prop) (tm : Tm) (hp : List O) : Prop :=
  match oy.guard with
  | none => YDo E P m N cs L all oy cl f suf σ Q tm
  | some (j, want) => match dstOf all j with
    | none => False
    | some d => match gvalE E (look tm d) want with
      | .yes => YDo E P m N cs L all oy cl f suf σ Q tm
      | .no => YSkip E P m N all oy suf σ Q tm hp
      | .grd g => (g = true → sat E.G P (fun _ tm' _ => YDo E P m N cs L all oy cl f suf σ Q ((d, .lit want) :: tm')) (unwhen g (whenOps oy.op) tm fun tm' => .ret .normal tm' [])) ∧ (g = false → YSkip E P m N all oy suf σ Q (gno tm d want) hp)
      | .bad => False

/-- a region in which a value is handed on -/
theorem YG.yreg (ok : ItOk E P n l S0 ρc cs L J) (m : Nat) {id : Nat} {ops : Array Oper} (pre : List Oper) (oy : Oper) (suf : List Oper) {cl : Call} {f : Operand} (hops : ops.toList = pre ++ oy :: suf) (hop : oy.op = .call cl) (hcal : cl.callee = .value f)
    (h : sat E.G P (fun _ tm' hp' => YOp E P m N cs L ops.toList oy cl f suf σ Q tm' hp') (evOps E (hdl E m) N ops.toList pre tm hp (.ret .normal))) : YG E P n N S0 ρc cs J (.region id ops false) σ tm hp Q := by
  have hE := ok.hE
  rintro a w ⟨D0, Wy, ρ, h1, h2, h3, h4, h5, h6⟩
  refine wpIn_region ?_
  have hi : ops[pre.length]? = some oy := by rw [← Array.getElem?_toList, hops]; simp
  have hsz : ops.size = pre.length + (suf.length + 1) := by rw [← Array.length_toList, hops]; simp
  have hlist : List.range ops.size = List.range' 0 pre.length ++ (pre.length :: List.range' (pre.length + 1) suf.length) := by
    rw [List.range_eq_range', hsz, ← List.range'_append_1, Nat.zero_add, List.range'_succ]
  rw [hlist]
  have suffix : ∀ (σ' : Option Nat) (tm' : Tm) (hp' : List O) (a' : Act) (w' : World), It E N S0 ρc cs J σ' tm' hp' a' w' → sat E.G P (fun e tm' hp' => Q e σ' tm' hp') (evOps E (hdl E m) N ops.toList suf tm' hp' (.ret .normal)) →
      wpOpsIn (Fr none) n P ops (fun e a' w' => ∃ σ' tm' hp', It E N S0 ρc cs J σ' tm' hp' a' w' ∧ Q e σ' tm' hp') (List.range' (pre.length + 1) suf.length) a' w' := by
    rintro σ' tm' hp' a' w' ⟨D1, W1, ρ1, g1, g2, g3, g4, g5, g6⟩ hs
    have := evOps_ok (n := n) (ro := none) (ρ0 := ρ1) hE.ok (ps_ok hE) (hdl_ok hE m) (ops := ops) (Qx := fun e a' w' => ∃ σ' tm' hp', It E N S0 ρc cs J σ' tm' hp' a' w' ∧ Q e σ' tm' hp')
      (fun a2 w2 ⟨tm2, hp2, ρ2, q1, q2, q3⟩ => ⟨σ', tm2, hp2, ⟨D1, W1, ρ2, g1, g2, g3, g4, q1, Ren.leB_trans g6 q2.leB⟩, q3⟩) suf (pre ++ [oy]) tm' hp' ρ1 a' w' (by simp [hops]) hs g5 (Ren.le_refl ρ1)
    simpa using this
  refine evOps_gen (n := n) (ro := none) (ρ0 := ρ) (suf := oy :: suf) hE.ok (ps_ok hE) (hdl_ok hE m) (ops := ops) ?_ pre [] tm hp ρ a w (by rw [hops]; simp) h h5 (Ren.le_refl ρ)
  rintro a1 w1 ⟨tm1, hp1, ρ1, r1, r2, r3⟩
  have r3 : YOp E P m N cs L ops.toList oy cl f suf σ Q tm1 hp1 := r3
  have hc1 : ρc.leB (cs.length + 1) ρ1 := Ren.leB_trans h6 r2.leB
  simp only [wpOpsIn, hi]
  -- the call
  have doit : ∀ tm2, TR ρ1 tm2 a1 → YDo E P m N cs L ops.toList oy cl f suf σ Q tm2 → oy.wpIn (Fr none) n P a1 w1 (wpOpsIn (Fr none) n P ops (fun e a' w' => ∃ σ' tm' hp', It E N S0 ρc cs J σ' tm' hp' a' w' ∧ Q e σ' tm' hp') (List.range' (pre.length + 1) suf.length)) (fun e a' w' => ∃ σ' tm' hp', It E N S0 ρc cs J σ' tm' hp' a' w' ∧ Q e σ' tm' hp') := by
    rintro tm2 htr ⟨i, vs, ts, rfl, d2, d3, d4, d5, d6, d7⟩
    have hev := fun x => evA_ok (E := E) (w := w1) htr r1.hr.hv x
    have hf := hev f
    rw [d3] at hf
    obtain ⟨r, hr, hfe⟩ := hf
    have hyl := hc1 _ _ (.inl (Nat.lt_succ_self _)) ok.yl
    rw [hyl] at hr
    cases hr
    have hav := VRL.evArgs hev cl.args.toList
    rw [d4] at hav
    obtain ⟨us, hus⟩ : ∃ us, us = cl.args.toList.map a1.eval := ⟨_, rfl⟩
    rw [← hus] at hav
    have hJ : J (some i) w1 := ok.stab _ _ _ h1 ⟨r1.bel.os, r1.bel.tape, r1.bel.output, r1.bel.size, fun k o hk _ => (r1.bel.block k (Array.getElem?_eq_some_iff.1 hk).1).trans hk⟩
    obtain ⟨fn, tmps, asg, body, hy, hround⟩ := ok.yld i vs us w1 d2 (fun ρ' => VRL.pl _ _ d5 hav) hJ
    obtain ⟨dst, op, ty, pos, after, guard⟩ := oy
    dsimp only at hop d7 ⊢
    subst hop
    refine ⟨fr_about none _ w1 _, ?_⟩
    have hsem : ({ dst := dst, op := .call cl, type := ty, pos := pos, after := after, guard := guard } : Oper).semAt (Fr none).round a1.eval = execOp a1.eval { dst := dst, op := .call cl, type := ty, pos := pos, after := after, guard := guard } :=
      Oper.semAt_eq _ _ _ fun c hc => by cases hc
    rw [hsem]
    have hargs : cl.args.map a1.eval = us.toArray := Array.toList_inj.1 (by simp [hus])
    have hof : (Deferred.ofValue (.func (.yield l) #[] #[]) us.toArray).run P w1 = .ok { target := .fn (.yield l) #[], args := us.toArray } w1 := by simp [Deferred.ofValue]
    have hfe' : a1.eval f = .func (.yield l) #[] #[] := hfe
    have hrw : (execOp a1.eval { dst := dst, op := .call cl, type := ty, pos := pos, after := after, guard := guard }).run P w1 = .ok (.round l fn tmps asg body) w1 := by
      simp only [execOp, resolve, hcal, hfe', hargs, Sem.run_bind, hof, Result.andThen_ok, invoke, hy]
    rw [hrw]
    refine ⟨fun h => by simp [Fr, Fence.wide] at h, RoundIn.mono hround ?_⟩
    rintro e W' ⟨b, rfl, hJ', hk1, hk2⟩
    dsimp only
    -- the state behind it
    obtain ⟨ms, e1, e2, e3, e4⟩ := r1.df
    have hlim : ∀ d ∈ ms ++ D0, S0 ≤ d ∧ d < w1.heap.size := by
      intro d hd
      rcases List.mem_append.1 hd with hd | hd
      · exact ⟨Nat.le_trans h2 (e3 d hd), (Array.getElem?_eq_some_iff.1 (e2 (marked d) (List.mem_map.2 ⟨d, hd, rfl⟩)).1).1⟩
      · exact ⟨(h4 d hd).1, Nat.lt_of_lt_of_le (h4 d hd).2 r1.bel.size⟩
    have hgsall : ∀ p ∈ (ms ++ D0).map marked, w1.heap[p.1]? = some p.2 ∧ p.2.isCells = false := by
      intro p hp
      rw [List.map_append] at hp
      exact (List.mem_append.1 hp).elim (e2 p) (r1.gs p)
    have hgs' : GsOk ((ms ++ D0).map marked) W' := by
      intro p hp
      obtain ⟨q1, q2⟩ := hgsall p hp
      obtain ⟨d, hd, rfl⟩ := List.mem_map.1 hp
      have hlt : d ≠ l := by have := (hlim d hd).1; have := ok.lS; omega
      exact ⟨hk2 d _ hlt q1 q2, q2⟩
    have hnd : (ms ++ D0).Nodup := by
      refine List.nodup_append.2 ⟨e4, h3, fun x hx y hy hxy => ?_⟩
      have := e3 x hx
      have := (h4 y hy).2
      omega
    have hmback : ∀ b r, b < cs.length + 1 → ρ1 b = some r → ρc b = some r := by
      intro b r hb hr
      by_cases hbl : b < cs.length
      · obtain ⟨r', hr'⟩ := ok.cov b hbl
        have := hc1 b r' (.inl hb) hr'
        rw [hr] at this; cases this; exact hr'
      · obtain rfl : b = cs.length := by omega
        rw [hyl] at hr; cases hr; exact ok.yl
    have hTR : TR ρc (keepT tm2 ts) a1 := by
      intro t
      clear d7
      induction ts with
      | nil => trivial
      | cons x r ih =>
        simp only [List.all_cons, Bool.and_eq_true] at d6
        rw [keepT, look_cons]
        by_cases e : x = t
        · subst e; rw [if_pos rfl]; exact okY_ok hmback d6.1 (htr x)
        · rw [if_neg e]; exact ih d6.2
    have hrelN : Rel E.G W'.heap.size W' W'.heap.size N ((ms ++ D0).map mark) ((ms ++ D0).map marked) ρc (keepT tm2 ts) (hp0 cs) a1 W' :=
      ⟨hTR, ok.hr _ _ hJ', Below.refl _ _, r1.sz, ⟨[], by rw [e1]; simp, fun p hp => by simp at hp, by simp, by simp⟩, hgs', Nat.le_refl _, Nat.le_refl _, Nat.le_refl _⟩
    obtain ⟨tm3, hp3, ρ3, s1, s2, s3⟩ := hrelN.put (Ren.le_refl ρc) hrelN.hr hrelN.bel (KeepsOthers.refl W') (v := .lit b) (u := .bool b) rfl (d7 b)
    exact suffix _ tm3 hp3 _ W' ⟨ms ++ D0, W', ρ3, hJ', by have := r1.bel.size; omega, hnd, fun d hd => ⟨(hlim d hd).1, by have := (hlim d hd).2; omega⟩, s1, s2.leB⟩ s3
  have skip : ∀ tm2, TR ρ1 tm2 a1 → YSkip E P m N ops.toList oy suf σ Q tm2 hp1 → wpOpsIn (Fr none) n P ops (fun e a' w' => ∃ σ' tm' hp', It E N S0 ρc cs J σ' tm' hp' a' w' ∧ Q e σ' tm' hp') (List.range' (pre.length + 1) suf.length) (a1.put oy.dst undef) w1 := by
    intro tm2 htr hs
    obtain ⟨tm3, hp3, ρ3, s1, s2, s3⟩ := (r1.withTm htr).put (u := undef) (Ren.le_refl ρ1) r1.hr r1.bel (KeepsOthers.refl w1) (v := .junk) trivial hs
    exact suffix σ tm3 hp3 _ w1 ⟨D0, Wy, ρ3, h1, h2, h3, h4, s1, Ren.leB_trans hc1 s2.leB⟩ s3
  unfold YOp at r3
  split at r3
  · rename_i hg
    rw [if_pos (by simp [Region.wanted, hg])]
    exact doit tm1 r1.tr r3
  · rename_i j want hg
    split at r3
    · exact r3.elim
    · rename_i d hd'
      have hgv := gvalE_ok (E := E) (o := oy) hg hd' (r1.tr d)
      split at r3
      · rename_i hb; rw [hb] at hgv; rw [hgv]; exact doit tm1 r1.tr r3
      · rename_i hb; rw [hb] at hgv; rw [hgv]; exact ⟨fr_about none oy w1 _, skip tm1 r1.tr r3⟩
      · rename_i g hb
        rw [hb] at hgv
        dsimp only at hgv
        rw [hgv]
        cases g with
        | true =>
          obtain ⟨tm', hun, hs⟩ := unwhen_ok _ _ (r3.1 rfl)
          exact doit _ ((hun rfl ρ1 a1 r1.tr).lit (wanted_val hg hd' hgv)) hs
        | false =>
          refine ⟨fr_about none oy w1 _, skip _ ?_ (r3.2 rfl)⟩
          unfold gno
          split
          · rename_i b0 hl
            have h0 := r1.tr d
            rw [hl] at h0
            have h0 : a1.tmps.getD d undef = .bool b0 := h0
            have hw := wanted_of hg hd' h0
            rw [hgv] at hw
            have e : b0 = !want := by cases b0 <;> cases want <;> first | rfl | cases hw
            refine r1.tr.lit ?_
            rw [h0, e]
            exact rfl
          · exact r1.tr
      · exact r3.elim

theorem YG.yregAt (ok : ItOk E P n l S0 ρc cs L J) (m k : Nat) {id : Nat} {ops : Array Oper} {oy : Oper} {cl : Call} {f : Operand} (hoy : ops.toList[k]? = some oy) (hop : oy.op = .call cl) (hcal : cl.callee = .value f)
    (h : sat E.G P (fun _ tm' hp' => YOp E P m N cs L ops.toList oy cl f (ops.toList.drop (k + 1)) σ Q tm' hp') (evOps E (hdl E m) N ops.toList (ops.toList.take k) tm hp (.ret .normal))) : YG E P n N S0 ρc cs J (.region id ops false) σ tm hp Q := by
  refine YG.yreg ok m (ops.toList.take k) oy (ops.toList.drop (k + 1)) ?_ hop hcal h
  obtain ⟨hlt, he⟩ := List.getElem?_eq_some_iff.1 hoy
  rw [← he, ← List.drop_eq_getElem_cons hlt, List.take_append_drop]

/-- **AN ITERATOR's CONTRACT FROM AN EVALUATION** -/
theorem sq_sound (hE : E.Fn P) {f : FuncId} {fn : Func} {c : Code} (hf : P.funcs[f]? = some fn) (hb : fn.body = some c) (hres : fn.results = #[]) (hlen : Nat.ble (cs.length + 1) fn.ntmps = true) (hsm : Nat.blt (cs.length + 1) gbase = true)
    (h : ∀ (n l S0 : Nat) (ρc : Ren) (J : Option Nat → World → Prop), ItOk E P n l S0 ρc cs L J → YG E P n fn.ntmps S0 ρc cs J c (some 0) (initTm 0 (.yl cs.length :: capsV cs.length)) (hp0 cs) fun e σ _ _ => (e = .normal ∨ e = .ret) ∧ (σ = some L.length ∨ σ = none)) : SqSound E.G P f cs L := by
  intro n l caps ρc J Jx W hv hyl hl hst hstx hJ hJx hy h0
  have hsm := blt_lt hsm
  have hlen := Nat.le_of_ble_eq_true hlen
  have hcl : caps.length = cs.length := by have := hv.length; simpa [capsV] using this
  have ok : ItOk E P n l W.heap.size ρc cs L (fun σ W => match σ with | some i => J i W | none => Jx W) := by
    refine ⟨hE, fun σ W1 W2 h1 h2 => ?_, fun σ W1 h1 => ?_, hyl, fun i hi => ?_, hsm, hl, fun i vs us W1 h1 h2 h3 => ?_⟩
    · cases σ with
      | none => exact hstx _ _ h1 h2
      | some i => exact hst _ _ _ h1 h2
    · cases σ with
      | none => exact hJx _ h1
      | some i => exact hJ _ _ h1
    · obtain ⟨u, _, r, hr, _⟩ := hv.get i (.ptr i 0 0) (by simp [capsV, hi])
      exact ⟨r, hr⟩
    · obtain ⟨fn', t, x, y, e1, e2⟩ := hy i vs us W1 h1 h2 h3
      refine ⟨fn', t, x, y, e1, e2.mono ?_⟩
      rintro e W' (⟨rfl, q1, q2⟩ | ⟨rfl, q1, q2⟩)
      · exact ⟨true, rfl, q1, q2⟩
      · exact ⟨false, rfl, q1, q2⟩
  have hyg := h n l W.heap.size ρc _ ok
  refine callsIn_of_wp_marks hf hb trivial ?_
  have hh := hJ 0 W h0
  have hus : VRL ρc (.yl cs.length :: capsV cs.length) (.func (.yield l) #[] #[] :: caps) := ⟨_, _, rfl, ⟨_, hyl, rfl⟩, hv⟩
  have harr : (#[Value.func (.yield l) #[] #[]] ++ caps.toArray) = (Value.func (.yield l) #[] #[] :: caps).toArray := by simp
  rw [harr]
  have hit : It E fn.ntmps W.heap.size ρc cs (fun σ W => match σ with | some i => J i W | none => Jx W) (some 0) (initTm 0 (.yl cs.length :: capsV cs.length)) (hp0 cs)
      { tmps := (Value.func (.yield l) #[] #[] :: caps).toArray ++ Array.replicate (fn.ntmps - (Value.func (.yield l) #[] #[] :: caps).toArray.size) undef, defers := [] } W := by
    refine ⟨[], W, ρc, h0, Nat.le_refl _, List.nodup_nil, by simp, ⟨?_, hh, Below.refl _ W, ?_, ⟨[], rfl, fun p hp => by simp at hp, by simp, by simp⟩, fun p hp => by simp at hp, Nat.le_refl _, Nat.le_refl _, Nat.le_refl _⟩, Ren.leB_refl _ _⟩
    · simpa using TR.init ρc _ _ fn.ntmps hus
    · simp [hcl]; omega
  refine wpIn_mono (hyg _ _ hit) ?_
  rintro e a' w' ⟨σ, tm, hp, ⟨D0, Wy, ρ, g1, g2, g3, g4, g5, g6⟩, he, hσ⟩
  have hpost : LeavesInM (Fr none) n P fn a'.tmps (fun e W' => (∃ v, e = .returned v) ∧ (J L.length W' ∨ Jx W')) a'.defers .returning w' := by
    obtain ⟨ms, hd1, hd2, hd3, hd4⟩ := g5.df
    rw [hd1, ← List.map_append]
    have hall : ∀ d ∈ ms ++ D0, w'.heap[d]? = some (.deferred (some [])) ∧ W.heap.size ≤ d := by
      intro d hd
      rcases List.mem_append.1 hd with hd | hd
      · exact ⟨(hd2 (marked d) (List.mem_map.2 ⟨d, hd, rfl⟩)).1, Nat.le_trans g2 (hd3 d hd)⟩
      · exact ⟨(g5.gs (marked d) (List.mem_map.2 ⟨d, hd, rfl⟩)).1, (g4 d hd).1⟩
    refine leaves_marks (S := W.heap.size) (ms ++ D0) w' (fun p hp => ?_) (List.nodup_append.2 ⟨hd4, g3, fun x hx y hy hxy => ?_⟩) (fun d hd => (hall d hd).2) ?_
    · obtain ⟨d, hd, rfl⟩ := List.mem_map.1 hp
      exact ⟨(hall d hd).1, rfl⟩
    · have := hd3 x hx
      have := (g4 y hy).2
      omega
    intro w2 h1 h2 h3 h4 h5 h6
    have hkeep : ∀ (k : Nat) (o : Obj), w'.heap[k]? = some o → (k < W.heap.size ∨ o.isCells = true) → w2.heap[k]? = some o := by
      intro k o hk hor
      rw [h5 k fun d hd e => ?_]
      · exact hk
      · obtain ⟨q1, q2⟩ := hall d hd
        subst e
        rw [q1] at hk
        cases hk
        rcases hor with hor | hor
        · omega
        · cases hor
    have hJ2 : (fun σ W => match σ with | some i => J i W | none => Jx W) σ w2 := by
      refine ok.stab σ Wy w2 g1 ⟨by rw [h2]; exact g5.bel.os, by rw [h3]; exact g5.bel.tape, by rw [h4]; exact g5.bel.output, by have := g5.bel.size; omega, fun k o hk hor => ?_⟩
      exact hkeep k o ((g5.bel.block k (Array.getElem?_eq_some_iff.1 hk).1).trans hk) hor
    have hhr := g5.hr.cellsSame (w' := w2) (fun k ob hk hob => hkeep k ob hk (.inr hob)) (by omega)
    obtain ⟨u, hrun, _⟩ := results_ok (l := []) hE.ok g5.tr hhr (fn := fn) (by rw [hres]; rfl)
    refine ⟨u, hrun, ⟨u, rfl⟩, ?_⟩
    rcases hσ with rfl | rfl
    · exact .inl hJ2
    · exact .inr hJ2
  rcases he with rfl | rfl <;> exact hpost
end
end Go.Ab
