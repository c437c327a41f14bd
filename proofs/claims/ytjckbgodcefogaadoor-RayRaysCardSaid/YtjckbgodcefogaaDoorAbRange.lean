/- An evaluator of the model on values that are partly known, and its soundness (part AbRange); no condition. -/
import Derived.Test.YtjckbgodcefogaaDoorAbLoop
import Derived.RangeFuncRecord
import Derived.RangeFuncSeq
namespace Go.Ab
open Go.RowKit

/-- the variables that an iterator's function has captured, which hold plain values -/
def capsOf (hp : List O) : List V → Option (List Nat × List (List V))
  | [] => some ([], [])
  | .ptr b 0 0 :: r => match Nat.blt b gbase with
    | true => match hp.getD b .gone with
      | .cells _ l => match plL l with
        | true => match capsOf hp r with
          | some (bs, x) => some (b :: bs, l :: x)
          | none => none
        | false => none
      | _ => none
    | false => none
  | _ => none

def hp0 (cs : List (List V)) : List O := cs.map (.cells false) ++ [.gone]
def capsV (n : Nat) : List V := (List.range n).map fun i => .ptr i 0 0
def yrg (l : Nat) : Rg := { blk := l, base := 0, m := 0, n := 0, cp := 0, ph := true }
def Ren.caps (ρ : Ren) (bs : List Nat) (l : Nat) : Ren := fun i => if gbase ≤ i then ρ i else if i = bs.length then some (yrg l) else (bs[i]?).bind ρ

theorem capsOf_get {hp : List O} : ∀ {caps : List V} {bs : List Nat} {cs : List (List V)}, capsOf hp caps = some (bs, cs) → bs.length = cs.length ∧ caps = bs.map (fun b => .ptr b 0 0) ∧
    ∀ (i b : Nat), bs[i]? = some b → b < gbase ∧ ∃ w c, cs[i]? = some c ∧ hp.getD b .gone = .cells w c ∧ plL c = true := by
  intro caps
  induction caps with
  | nil => intro bs cs h; simp only [capsOf, Option.some.injEq, Prod.mk.injEq] at h; obtain ⟨rfl, rfl⟩ := h; exact ⟨rfl, rfl, fun i b hb => by simp at hb⟩
  | cons v r ih =>
    intro bs cs h
    unfold capsOf at h
    split at h
    · rename_i heq; cases heq
    · rename_i b r' heq
      cases heq
      split at h
      · rename_i hb
        split at h
        · rename_i ww l ho
          split at h
          · rename_i hpl
            split at h
            · rename_i bs' x hx
              cases h
              obtain ⟨h1, h2, h3⟩ := ih hx
              refine ⟨by simp [h1], by simp [h2], fun i b' hi => ?_⟩
              cases i with
              | zero => simp only [List.getElem?_cons_zero, Option.some.injEq] at hi; subst hi; exact ⟨blt_lt hb, ww, l, rfl, ho, hpl⟩
              | succ i => simpa using h3 i b' (by simpa using hi)
            · cases h
          · cases h
        · cases h
      · cases h
    · cases h

theorem VRL.ptrs {ρ ρ' : Ren} : ∀ {bs : List Nat} {us : List Value} (o : Nat), (∀ (i b : Nat) (r : Rg), bs[i]? = some b → ρ b = some r → ρ' (o + i) = some r) → VRL ρ (bs.map fun b => .ptr b 0 0) us → VRL ρ' ((List.range' o bs.length).map fun i => .ptr i 0 0) us
  | [], _, o, _, h => h
  | b :: bs, _, o, hm, ⟨u, r, e, ⟨rg, h1, h2⟩, h3⟩ => by
    refine ⟨u, r, e, ⟨rg, hm 0 b rg rfl h1, h2⟩, VRL.ptrs (o + 1) (fun i b' r' hi hr => ?_) h3⟩
    have := hm (i + 1) b' r' (by simpa using hi) hr
    rwa [show o + (i + 1) = o + 1 + i by omega] at this

/-- the captured variables by themselves -/
theorem caps_hr {G : List O} {B μ : Nat} {ρ ρ' : Ren} {hp : List O} {w : World} (hh : HR G B ρ' hp w) (hl : ρ.leB μ ρ') (hglob : ∀ g o, G[g]? = some o → ∃ r, ρ (gbase + g) = some r) {caps : List V} {bs : List Nat} {cs : List (List V)} (hc : capsOf hp caps = some (bs, cs)) (hμ : ∀ b ∈ bs, b < μ)
    (hsm : bs.length + 1 < gbase) (l C : Nat) : HR G C (ρ.caps bs l) (hp0 cs) w := by
  obtain ⟨h1, h2, h3⟩ := capsOf_get hc
  have hlen : (hp0 cs).length = bs.length + 1 := by simp [hp0, h1]
  have hgw : ∀ b, (getO G (hp0 cs) b).own = false := by
    intro b
    by_cases hb : gbase ≤ b
    · rw [getO_glob hb]
      cases hg : G[b - gbase]? with
      | none => simp [List.getD, hg, O.own]
      | some o => obtain ⟨_, _, _, _, _, _, _, h⟩ := hh.glob _ o hg; simp [List.getD, hg, (O.tab_data h).2]
    · rw [getO_hp (by omega)]
      unfold hp0
      simp only [List.getD_eq_getElem?_getD]
      by_cases h4 : b < cs.length
      · rw [List.getElem?_append_left (by simpa using h4)]; simp [h4, O.own]
      · rw [List.getElem?_append_right (by simp; omega)]
        cases hx : b - (cs.map (O.cells false)).length with
        | zero => simp [O.own]
        | succ x => simp [O.own]
  refine ⟨?_, ?_, fun b h4 => ?_, ?_, ?_, ?_, by omega⟩
  · intro i r hr hal
    simp only [Ren.caps] at hr
    split at hr
    · rename_i hi
      have hr' := hl i r (.inr hi) hr
      have ho := hh.blocks i r hr' (by rw [getO_glob hi] at hal ⊢; exact hal)
      rw [getO_glob hi] at ho hal ⊢
      cases hG : G[i - gbase]? with
      | none => simp [List.getD, hG] at hal
      | some o =>
        obtain ⟨_, _, _, _, _, _, _, ht⟩ := hh.glob _ o hG
        refine ho.data ?_ _
        simp [List.getD, hG, (O.tab_data ht).1]
    · rename_i hi
      split at hr
      · rename_i e
        subst e
        exfalso
        apply hal
        rw [getO_hp (by omega)]
        simp [hp0, List.getD, h1]
      · rename_i e
        cases hb : bs[i]? with
        | none => rw [hb] at hr; cases hr
        | some b =>
          rw [hb] at hr
          obtain ⟨h5, ww, c, h6, h7, h8⟩ := h3 i b hb
          have hr' := hl b r (.inl (hμ b (List.mem_of_getElem? hb))) hr
          have ho := hh.blocks b r hr' (by rw [getO_hp h5, h7]; simp)
          rw [getO_hp h5, h7] at ho
          have hilt : i < cs.length := (List.getElem?_eq_some_iff.1 h6).1
          have hg : getO G (hp0 cs) i = .cells false c := by
            rw [getO_hp (by omega)]
            simp only [hp0, List.getD_eq_getElem?_getD]
            rw [List.getElem?_append_left (by simpa using hilt)]
            simp [h6]
          rw [hg]
          refine ⟨by simp, by simp, trivial, ho.n, ho.ph0, ho.lt, ho.m, ho.cp, fun hp0' k j v hk hj hv => ?_, fun e => by cases e⟩
          obtain ⟨u, hu, hvu⟩ := ho.cell hp0' k j v hk hj (by cases k <;> simp [O.cell] at hv ⊢ <;> exact hv)
          refine ⟨u, hu, VR.pl v u ?_ hvu⟩
          cases k with
          | zero => exact plL_mem h8 v (List.mem_of_getElem? (by simpa [O.cell] using hv))
          | succ k => simp [O.cell] at hv
  · intro i h4 h5
    simp only [Ren.caps]
    rw [if_neg (by omega), if_neg (by omega), List.getElem?_eq_none (by omega)]
    rfl
  · exfalso
    by_cases hb : gbase ≤ b
    · rw [getO_glob hb] at h4
      cases hg : G[b - gbase]? with
      | none => simp [List.getD, hg] at h4
      | some o => obtain ⟨_, _, _, _, _, _, _, h⟩ := hh.glob _ o hg; simp only [List.getD, hg, Option.getD_some] at h4; rw [h4] at h; cases h
    · rw [getO_hp (by omega)] at h4
      unfold hp0 at h4
      simp only [List.getD_eq_getElem?_getD] at h4
      by_cases h5 : b < cs.length
      · rw [List.getElem?_append_left (by simpa using h5)] at h4; simp [h5] at h4
      · rw [List.getElem?_append_right (by simp; omega)] at h4
        cases hx : b - (cs.map (O.cells false)).length with
        | zero => rw [hx] at h4; simp at h4
        | succ x => rw [hx] at h4; simp at h4
  · intro b r _ ho; rw [hgw] at ho; cases ho
  · intro b b' r r' _ _ _ _ _ ho; rw [hgw] at ho; cases ho
  · intro g o hg
    obtain ⟨r, h4⟩ := hglob g o hg
    obtain ⟨r', h5, h6⟩ := hh.glob g o hg
    have := hl _ _ (.inr (Nat.le_add_right _ _)) h4
    rw [h5] at this
    cases this
    exact ⟨_, by simp only [Ren.caps]; rw [if_pos (Nat.le_add_right _ _)]; exact h4, h6⟩

/-- but for the loop's record, whatever is no cells lies as it lay -/
def Kept (l : Nat) (W W' : World) : Prop := W.heap.size ≤ W'.heap.size ∧ ∀ k o, k ≠ l → W.heap[k]? = some o → o.isCells = false → W'.heap[k]? = some o

/-- variables and what lies below S are as they were -/
structure Later (S : Nat) (W W' : World) : Prop where
  os : W'.os = W.os
  tape : W'.tape = W.tape
  output : W'.output = W.output
  size : W.heap.size ≤ W'.heap.size
  keep : ∀ (k : Nat) (o : Obj), W.heap[k]? = some o → (k < S ∨ o.isCells = true) → W'.heap[k]? = some o

theorem Later.of_below {S : Nat} {W W' : World} (h : Below W.heap.size W W') : Later S W W' :=
  ⟨h.os, h.tape, h.output, h.size, fun k _o ho _ => (h.block k (Array.getElem?_eq_some_iff.1 ho).1).trans ho⟩

/-- **THE CONTRACT OF AN ITERATOR**: it hands on the values of L, one after the other -/
def SqSound (G : List O) (P : Program) (f : FuncId) (cs : List (List V)) (L : List (List V)) : Prop :=
  ∀ (n l : Nat) (caps : List Value) (ρc : Ren) (J : Nat → World → Prop) (Jx : World → Prop) (W : World),
    VRL ρc (capsV cs.length) caps → ρc cs.length = some (yrg l) → l < W.heap.size →
    (∀ i W1 W', J i W1 → Later W.heap.size W1 W' → J i W') → (∀ W1 W', Jx W1 → Later W.heap.size W1 W' → Jx W') → (∀ i W, J i W → HR G W.heap.size ρc (hp0 cs) W) → (∀ W, Jx W → HR G W.heap.size ρc (hp0 cs) W) →
    (∀ i vs us W1, L[i]? = some vs → (∀ ρ, VRL ρ vs us) → J i W1 → YieldAt (Fr none) (n - 1) P l us.toArray W1 fun e W' => (e = .returned (.bool true) ∧ J (i + 1) W' ∧ Kept l W1 W') ∨ (e = .returned (.bool false) ∧ Jx W' ∧ Kept l W1 W')) →
    J 0 W → CallsIn (Fr none) n P f (#[.func (.yield l) #[] #[]] ++ caps.toArray) W fun e W' => (∃ v, e = .returned v) ∧ (J L.length W' ∨ Jx W')

def putPs : List Nat → List V → Tm → Tm
  | p :: ps, v :: vs, tm => putPs ps vs ((p, v) :: tm)
  | _, _, tm => tm

theorem TR.putPs {ρ : Ren} : ∀ (ps : List Nat) (vs : List V) (us : List Value) (tm : Tm) (t : Array Value) (d d' : List Deferred), TR ρ tm { tmps := t, defers := d } → VRL ρ vs us → (∀ p ∈ ps, p < t.size) →
    TR ρ (putPs ps vs tm) { tmps := (ps.zip us).foldl (fun t p => t.setIfInBounds p.1 p.2) t, defers := d' }
  | [], _, _, tm, t, d, d', h, _, _ => by
    unfold Ab.putPs
    exact h
  | p :: ps, [], us, tm, t, d, d', h, hv, _ => by
    cases hv
    unfold Ab.putPs
    exact h
  | p :: ps, v :: vs, _, tm, t, d, d', h, ⟨u, us, rfl, hu, hus⟩, hp => by
    have h1 := h.put (d := p) (by simpa using hp p (by simp)) hu
    have := TR.putPs ps vs us ((p, v) :: tm) (t.setIfInBounds p u) d d' h1 hus (fun q hq => by simpa using hp q (by simp [hq]))
    simpa [Ab.putPs] using this

variable {E : Env} {G : List O} {P : Program} {B : Nat} {w0 : World} {S : Nat} {N : Nat} {D : List Deferred} {gs : List (Nat × Obj)} {ρ : Ren} {tm : Tm} {hp : List O} {a : Act} {w : World}

theorem GsOk.below (h : GsOk gs w) {w' : World} (hb : Below w.heap.size w w') : GsOk gs w' := fun p hp =>
  ⟨(hb.block _ (Array.getElem?_eq_some_iff.1 (h p hp).1).1).trans (h p hp).1, (h p hp).2⟩

theorem cell_other {l : Nat} {o o' : Obj} (hl : w.heap[l]? = some o) (ho : o.isCells = false) {ad : Addr} {x : Value} (h : w.cell? ad = some x) : (w.putObj l o').cell? ad = some x := by
  refine (World.cell?_of_block (World.putObj_heap_other ?_)).trans h
  intro e
  obtain ⟨o2, h2, h3⟩ := cells_of_cell h
  rw [e, hl] at h2
  cases h2
  rw [ho] at h3; cases h3

theorem OR.putObj {o : O} {r : Rg} (h : OR ρ o r w) {l : Nat} {ob o' : Obj} (hl : w.heap[l]? = some ob) (ho : ob.isCells = false) : OR ρ o r (w.putObj l o') where
  alive := h.alive
  nrsv := h.nrsv
  wf := h.wf
  n := h.n
  ph0 := h.ph0
  lt := fun hp => by simpa using h.lt hp
  m := h.m
  cp := h.cp
  cell := fun hp k j v hk hj hv => by
    obtain ⟨u, hu, hr⟩ := h.cell hp k j v hk hj hv
    exact ⟨u, cell_other hl ho hu, hr⟩
  own := fun hw hp => by
    obtain ⟨h1, hm, cs, e, hc, hsz⟩ := h.own hw hp
    refine ⟨h1, hm, cs, e, ?_, hsz⟩
    rw [World.putObj_heap_other]
    · exact hc
    · intro e2
      rw [e2, hl] at hc
      cases hc
      simp [Obj.isCells] at ho

theorem HR.putObj (h : HR G B ρ hp w) {l : Nat} {ob o' : Obj} (hl : w.heap[l]? = some ob) (ho : ob.isCells = false) : HR G B ρ hp (w.putObj l o') where
  blocks := fun b r e al => (h.blocks b r e al).putObj hl ho
  free := h.free
  rsv := h.rsv
  base := h.base
  apart := h.apart
  glob := h.glob
  small := h.small

theorem below_putObj {w1 : World} (h : Below B w1 w) {l : Nat} {o' : Obj} (hl : B ≤ l) : Below B w1 (w.putObj l o') :=
  h.trans ⟨rfl, rfl, rfl, by simp, fun k hk => World.putObj_heap_other (by omega)⟩

theorem GsOk.putObj (h : GsOk gs w) {l : Nat} {o' : Obj} (hl : ∀ p ∈ gs, p.1 ≠ l) : GsOk gs (w.putObj l o') := fun p hp =>
  ⟨(World.putObj_heap_other (hl p hp)).trans (h p hp).1, (h p hp).2⟩

/-- whatever is no cells, but for block l -/
def oth (l : Nat) (W : World) : List (Nat × Obj) := (List.range W.heap.size).filterMap fun k => match W.heap[k]? with
  | some o => bif k == l || o.isCells then none else some (k, o)
  | none => none

theorem mem_oth {l : Nat} {W : World} {p : Nat × Obj} : p ∈ oth l W ↔ W.heap[p.1]? = some p.2 ∧ p.1 ≠ l ∧ p.2.isCells = false := by
  unfold oth
  rw [List.mem_filterMap]
  constructor
  · rintro ⟨k, hk, h⟩
    split at h
    · rename_i o ho
      cases hb : (k == l || o.isCells) with
      | true => rw [hb] at h; cases h
      | false =>
        rw [hb] at h
        simp only [cond_false, Option.some.injEq] at h
        subst h
        rw [Bool.or_eq_false_iff] at hb
        exact ⟨ho, by simpa using hb.1, hb.2⟩
    · cases h
  · rintro ⟨h1, h2, h3⟩
    refine ⟨p.1, List.mem_range.2 (Array.getElem?_eq_some_iff.1 h1).1, ?_⟩
    have : (p.1 == l || p.2.isCells) = false := by simp [h2, h3]
    simp only [h1, this, cond_false]

theorem oth_ok (l : Nat) (W : World) : GsOk (oth l W) W := fun p hp => by
  obtain ⟨h1, _, h3⟩ := mem_oth.1 hp
  exact ⟨h1, h3⟩

/-- how a round is left -/
inductive JumpOf : Exit → Code → Prop
  | ret : JumpOf .ret .ret
  | exit (id : Nat) : JumpOf (.exit id) (.exit id)

/-- **A RANGE OVER AN ITERATOR** -/
theorem Good.range {μ μ' : Nat} {tmL : Tm} (hμ : Nat.ble μ μ' = true) {g : Operand} {ps : Array Tmp} {asg body : Code} {f : FuncId} {caps : List V} {cs L : List (List V)} {R : Exit → Tm → List O → Prop}
    (hg : evA E tm g = .fn f caps) (hsub : ∃ ts, tmL = keepT tm ts) (htl : limL μ' (tmL.map (·.2)) = true) (hent : Entered P f) (hsq : SqSound E.G P f cs L) (hpl : (plainC asg && plainC body) = true) (hps : ps.toList.all (fun p => Nat.blt p N) = true) (hL : ∀ vs ∈ L, vs.length = ps.size)
    (I : Nat → List O → Prop) (X : Exit → List O → Prop) (h0 : I 0 hp) {bs : List Nat} (hbs : (bs.all (fun b => Nat.blt b μ') && Nat.blt (bs.length + 1) gbase) = true) (hcap : ∀ i hp', I i hp' → capsOf hp' caps = some (bs, cs)) (hcapx : ∀ e hp', X e hp' → capsOf hp' caps = some (bs, cs))
    (hround : ∀ i vs hp', L[i]? = some vs → I i hp' → ∃ Ra : Tm → List O → Prop, Good E.G P μ' N asg (Ab.putPs ps.toList vs tmL) hp' (fun e tm1 hp1 => e = .normal ∧ Ra tm1 hp1) ∧
      ∀ tm1 hp1, Ra tm1 hp1 → Good E.G P μ' N body tm1 hp1 fun e _ hp2 => ∃ hp3, Ent E.G μ' [] hp2 [] hp3 ∧ match e with
        | .normal => I (i + 1) hp3
        | .ret => X .ret hp3
        | .exit id => X (.exit id) hp3
        | _ => False)
    (hend : ∀ hp', I L.length hp' → R .normal tmL hp') (hx : ∀ e hp', X e hp' → R e tmL hp') : Good E.G P μ N (.rangeFunc g ps asg body) tm hp R := by
  intro B w0 S D gs ρ a w n ro hro h
  obtain rfl : ro = none := by rcases hro with h | h; exact h; simp [plainC] at h
  rw [Bool.and_eq_true] at hpl
  have hμ := Nat.le_of_ble_eq_true hμ
  rw [Bool.and_eq_true] at hbs
  have hbsl := blt_lt hbs.2
  have hbsm : ∀ b ∈ bs, b < μ' := fun b hb => blt_lt (List.all_eq_true.1 hbs.1 b hb)
  have hglob0 : ∀ g o, E.G[g]? = some o → ∃ r, ρ (gbase + g) = some r := fun g o hg => let ⟨r, h1, _⟩ := h.hr.glob g o hg; ⟨r, h1⟩
  have htrL : TR ρ tmL a := by obtain ⟨ts, rfl⟩ := hsub; exact h.tr.keep ts
  obtain ⟨ms, hd1, hd2, hd3, hd4⟩ := h.df
  have hBw : B ≤ w.heap.size := Nat.le_trans h.bs h.bel.size
  have hev := evA_ok (E := E) (w := w) h.tr h.hr.hv g
  rw [hg] at hev
  obtain ⟨cus, hga, hcv⟩ := hev
  refine wpIn_rangeFunc ?_
  intro fn _
  obtain ⟨rec, hrec⟩ : ∃ rec : LoopState → Option Code → Loop, rec = fun st pe => { state := st, pending := pe, fn, tmps := a.tmps, params := ps, assign := asg, body, defers := w.heap.size } := ⟨_, rfl⟩
  obtain ⟨W1, hW1⟩ : ∃ W1, (w.alloc (.deferred (some []))).alloc (.loop (rec .ready none)) = W1 := ⟨_, rfl⟩
  have hL1 : W1.heap[w.heap.size + 1]? = some (.loop (rec .ready none)) := by
    rw [← hW1]; have := World.alloc_heap_new (w.alloc (.deferred (some []))) (.loop (rec .ready none)); rwa [World.size_alloc] at this
  have hK1 : W1.heap[w.heap.size]? = some (.deferred (some [])) := by
    rw [← hW1]; exact (Below.heap_alloc _ _ _ (by simp)).trans (World.alloc_heap_new w _)
  have hb1 : Below w.heap.size w W1 := by
    rw [← hW1]; exact ((Below.refl _ w).alloc (Nat.le_refl _) _).alloc (by simp) _
  -- what lies beside the heap
  obtain ⟨Kp, hKp⟩ : ∃ Kp : Loop → World → Prop, Kp = fun r W => Below B w0 W ∧ GsOk (gs ++ ms.map marked) W ∧ w.heap.size + 2 ≤ W.heap.size ∧ W.heap[w.heap.size + 1]? = some (.loop r) ∧ W.heap[w.heap.size]? = some (.deferred (some [])) := ⟨_, rfl⟩
  have hgs0 : GsOk (gs ++ ms.map marked) w := fun p hp => (List.mem_append.1 hp).elim (h.gs p) (hd2 p)
  have hgslt : ∀ p ∈ gs ++ ms.map marked, p.1 < w.heap.size := fun p hp => (Array.getElem?_eq_some_iff.1 (hgs0 p hp).1).1
  have hKp1 : Kp (rec .ready none) W1 := by
    rw [hKp]
    refine ⟨h.bel.trans (hb1.mono hBw), hgs0.below hb1, ?_, hL1, hK1⟩
    rw [← hW1]; simp
  have hKpB : ∀ {r : Loop} {W W' : World}, Kp r W → Below W.heap.size W W' → Kp r W' := by
    intro r W W' hk hb
    rw [hKp] at hk ⊢
    obtain ⟨k1, k2, k3, k4, k5⟩ := hk
    exact ⟨k1.trans (hb.mono (by omega)), k2.below hb, by have := hb.size; omega, (hb.block _ (by omega)).trans k4, (hb.block _ (by omega)).trans k5⟩
  have hW1s : W1.heap.size = w.heap.size + 2 := by rw [← hW1]; simp
  have hKpL2 : ∀ {r : Loop} {W W' : World}, Kp r W → Later W1.heap.size W W' → Kp r W' := by
    intro r W W' hk hb
    rw [hKp] at hk ⊢
    obtain ⟨k1, k2, k3, k4, k5⟩ := hk
    refine ⟨k1.trans ⟨hb.os, hb.tape, hb.output, hb.size, fun k hk => ?_⟩, fun p hp => ⟨hb.keep _ _ (k2 p hp).1 (.inl ?_), (k2 p hp).2⟩, by have := hb.size; omega, hb.keep _ _ k4 (.inl (by omega)), hb.keep _ _ k5 (.inl (by omega))⟩
    · have hlt : k < W.heap.size := by omega
      rw [Array.getElem?_eq_getElem hlt]
      exact hb.keep _ _ (Array.getElem?_eq_getElem hlt) (.inl (by omega))
    · have := hgslt p hp; omega
  have hKpP : ∀ {r r' : Loop} {W : World}, Kp r W → Kp r' (W.putObj (w.heap.size + 1) (.loop r')) := by
    intro r r' W hk
    rw [hKp] at hk ⊢
    obtain ⟨k1, k2, k3, k4, k5⟩ := hk
    exact ⟨below_putObj k1 (by omega), k2.putObj (fun p hp => by have := hgslt p hp; omega), by simpa using k3, World.putObj_heap_same (by omega), (World.putObj_heap_other (by omega)).trans k5⟩
  have hKpL : ∀ {r : Loop} {W : World}, Kp r W → W.heap[w.heap.size + 1]? = some (.loop r) := fun hk => by rw [hKp] at hk; exact hk.2.2.2.1
  -- the state in a round
  have hKpR : ∀ {r : Loop} {W : World}, Kp r W → GsOk ((w.heap.size + 1, .loop r) :: (w.heap.size, .deferred (some [])) :: (gs ++ ms.map marked)) W ∧ Below B w0 W ∧ w.heap.size + 2 ≤ W.heap.size := fun hk => by
    rw [hKp] at hk
    obtain ⟨k1, k2, k3, k4, k5⟩ := hk
    refine ⟨fun p hp => ?_, k1, k3⟩
    rcases List.mem_cons.1 hp with rfl | hp
    · exact ⟨k4, rfl⟩
    · rcases List.mem_cons.1 hp with rfl | hp
      · exact ⟨k5, rfl⟩
      · exact k2 p hp
  have hKpO : ∀ {r : Loop} {W : World} {l' : List (Nat × Obj)}, GsOk ((w.heap.size + 1, .loop r) :: (w.heap.size, .deferred (some [])) :: (gs ++ ms.map marked) ++ l') W → Below B w0 W → Kp r W := fun {r W l'} k1 k2 => by
    rw [hKp]
    have hl := (k1 (w.heap.size + 1, .loop r) (by simp)).1
    have hd := (k1 (w.heap.size, .deferred (some [])) (by simp)).1
    have := (Array.getElem?_eq_some_iff.1 hl).1
    exact ⟨k2, fun p hp => k1 p (List.mem_append.2 (.inl (List.mem_cons_of_mem _ (List.mem_cons_of_mem _ hp)))), by omega, hl, hd⟩
  have fin : ∀ (jump : Option Code) (W4 : World), Kp { rec .ready none with state := .busy } W4 →
      (Instr.endRound (w.heap.size + 1) jump).run P W4 = .ok (.bool jump.isNone) (W4.putObj (w.heap.size + 1) (.loop (rec (if jump.isNone then .ready else .done) jump))) := by
    intro jump W4 hk
    have := run_endRound (P := P) jump (hKpL hk)
    rw [hrec] at this ⊢
    exact this
  have finRel : ∀ {r r' : Loop} {W : World} {ρ' : Ren} {hp' : List O}, Kp r W → HR E.G B ρ' hp' W → ρ.leB μ' ρ' →
      Rel E.G B w0 S N D gs ρ' tmL hp' { tmps := a.tmps, defers := [mark w.heap.size] ++ a.defers } (W.putObj (w.heap.size + 1) (.loop r')) := by
    intro r r' W ρ' hp' hk hr hl
    have hk' := hKpP (r' := r') hk
    obtain ⟨g1, g2, g3⟩ := hKpR hk'
    refine ⟨htrL.leB hl htl, hr.putObj (hKpL hk) rfl, g2, h.sz, ⟨w.heap.size :: ms, by simp [hd1], fun p hp => ?_, fun d hd => ?_, ?_⟩, fun p hp => g1 p (by simp [hp]), h.bs, h.ss, by have := h.sw; omega⟩
    · rcases List.mem_cons.1 hp with rfl | hp
      · exact g1 _ (by simp [marked])
      · exact g1 p (by simp only [List.mem_cons, List.mem_append]; exact .inr (.inr (.inr hp)))
    · rcases List.mem_cons.1 hd with rfl | hd
      · exact h.sw
      · exact hd3 d hd
    · refine List.nodup_cons.2 ⟨fun hm => ?_, hd4⟩
      have := hgslt (marked w.heap.size) (List.mem_append.2 (.inr (List.mem_map.2 ⟨_, hm, rfl⟩)))
      simp [marked] at this
  have hr1 : HR E.G B ρ hp W1 := h.hr.frame hb1.size (fun k hk => hb1.block k hk)
  refine ⟨w.heap.size + 1, [mark w.heap.size], W1, { target := .fn (.func f) cus.toArray, args := #[.func (.yield (w.heap.size + 1)) #[] #[]] }, W1, f,
    #[.func (.yield (w.heap.size + 1)) #[] #[]] ++ cus.toArray, W1, ?_, ?_, fun _ _ => trivial, ?_, fun e => by simp [Fr, Fence.wide] at e, ?_⟩
  · rw [← hW1, hrec]; exact run_enterLoop_outer _ _ _ _ _
  · simp only [resolve, hga]
    simp [go_sem]
  · obtain ⟨fn', hf1, hf2, hf3⟩ := hent
    simp only [invoke]
    exact callFunc_run hf1 hf2 hf3 _ _
  · refine CallsIn.mono (hsq (n - 1) (w.heap.size + 1) cus (ρ.caps bs (w.heap.size + 1)) (fun i W => ∃ hp' ρ', I i hp' ∧ HR E.G B ρ' hp' W ∧ ρ.leB μ' ρ' ∧ Kp (rec .ready none) W)
      (fun W => ∃ e c hp' ρ', JumpOf e c ∧ X e hp' ∧ HR E.G B ρ' hp' W ∧ ρ.leB μ' ρ' ∧ Kp (rec .done (some c)) W) W1 ?_ ?_ ?_ ?_ ?_ ?_ ?_ ?_ ⟨hp, ρ, h0, hr1, Ren.leB_refl μ' ρ, hKp1⟩) ?_
    · obtain ⟨q1, q2, q3⟩ := capsOf_get (hcap 0 hp h0)
      have hv := VRL.ptrs (ρ := ρ) (ρ' := ρ.caps bs (w.heap.size + 1)) (bs := bs) (us := cus) 0 (fun i b r hi hr => by
        have := (List.getElem?_eq_some_iff.1 hi).1
        simp only [Ren.caps]
        rw [if_neg (by have := hbsl; omega), if_neg (by omega), Nat.zero_add, hi]
        exact hr) (by rw [← q2]; exact hcv)
      rw [← List.range_eq_range', q1] at hv
      exact hv
    · have q1 := (capsOf_get (hcap 0 hp h0)).1
      simp only [Ren.caps]
      rw [if_neg (by have := hbsl; omega), if_pos q1.symm]
    · rw [← hW1]; simp
    · rintro i W W' ⟨hp', ρ', h1, h3, h4, h5⟩ hb
      exact ⟨hp', ρ', h1, h3.cellsSame (fun k o ho hc => hb.keep k o ho (.inr hc)) hb.size, h4, hKpL2 h5 hb⟩
    · rintro W W' ⟨e, c, hp', ρ', h1, h2, h3, h4, h5⟩ hb
      exact ⟨e, c, hp', ρ', h1, h2, h3.cellsSame (fun k o ho hc => hb.keep k o ho (.inr hc)) hb.size, h4, hKpL2 h5 hb⟩
    · rintro i W ⟨hp', ρ', h1, h3, h4, h5⟩
      exact caps_hr h3 h4 hglob0 (hcap i hp' h1) hbsm hbsl _ _
    · rintro W ⟨e, c, hp', ρ', h1, h2, h3, h4, h5⟩
      exact caps_hr h3 h4 hglob0 (hcapx e hp' h2) hbsm hbsl _ _
    · -- one round
      rintro i vs us W hi hvs ⟨hp', ρ', h1, h3, h4, h5⟩
      have hlen : us.length = ps.size := by rw [(hvs ρ').length]; exact hL vs (List.mem_of_getElem? hi)
      obtain ⟨Ra, hA, hBd⟩ := hround i vs hp' hi h1
      obtain ⟨g1, g2, g3⟩ := hKpR h5
      have hy := run_yield (P := P) (args := us.toArray) (hKpL h5) (by rw [hrec]; simpa using hlen)
      rw [hrec] at hy
      refine ⟨fn, _, asg, body, hy, roundIn_of_wpIn trivial ?_⟩
      have hfold : ((ps.zip us.toArray).foldl (fun tmps x => tmps.setIfInBounds x.1 x.2) a.tmps) = (ps.toList.zip us).foldl (fun t p => t.setIfInBounds p.1 p.2) a.tmps := by
        rw [← Array.foldl_toList]; simp
      have hrel : Rel E.G B w0 W.heap.size N [] ((w.heap.size + 1, .loop (rec .ready none)) :: (w.heap.size, .deferred (some [])) :: (gs ++ ms.map marked) ++ oth (w.heap.size + 1) W) ρ' (Ab.putPs ps.toList vs tmL) hp'
          { tmps := ((ps.zip us.toArray).foldl (fun tmps x => tmps.setIfInBounds x.1 x.2) a.tmps), defers := [] } W := by
        refine ⟨?_, h3, g2, ?_, ⟨[], rfl, fun p hp => by simp at hp, by simp, by simp⟩, fun p hp => (List.mem_append.1 hp).elim (g1 p) (oth_ok _ W p), h.bs, g2.size, Nat.le_refl _⟩
        · rw [hfold]
          exact TR.putPs ps.toList vs us tmL a.tmps a.defers [] (htrL.leB h4 htl) (hvs ρ') (fun p hp => by rw [h.sz]; exact blt_lt (List.all_eq_true.1 hps p hp))
        · rw [hfold, ← h.sz]
          have key : ∀ (l : List (Nat × Value)) (t : Array Value), (l.foldl (fun t p => t.setIfInBounds p.1 p.2) t).size = t.size := by
            intro l
            induction l with
            | nil => intro t; rfl
            | cons p l ih => intro t; simp only [List.foldl_cons, ih, Array.size_setIfInBounds]
          exact key _ _
      refine wpIn_mono (hA B w0 _ [] _ ρ' _ W (n - 1 - 1) (some (w.heap.size + 1)) (.inr hpl.1) hrel) ?_
      rintro e a2 W2 ⟨tm2, hp2, ρ2, hrel2, hl2, rfl, hRa⟩
      have hk2 := hKpO hrel2.gs hrel2.bel
      refine ⟨_, run_beginRound (hKpL hk2) (by rw [hrec]), ?_⟩
      have hk3 := hKpP (r' := { rec .ready none with state := .busy }) hk2
      have ho2 : GsOk (oth (w.heap.size + 1) W) W2 := fun p hp => hrel2.gs p (List.mem_append.2 (.inr hp))
      have ho3 := ho2.putObj (l := w.heap.size + 1) (o' := .loop { rec .ready none with state := .busy }) (fun p hp => (mem_oth.1 hp).2.1)
      obtain ⟨b1, b2, b3⟩ := hKpR hk3
      obtain ⟨ms2, e1, e2, e3, e4⟩ := hrel2.df
      have hrel3 : Rel E.G B w0 W.heap.size N [] _ ρ2 tm2 hp2 a2 (W2.putObj (w.heap.size + 1) (.loop { rec .ready none with state := .busy })) :=
        ⟨hrel2.tr, hrel2.hr.putObj (hKpL hk2) rfl, b2, hrel2.sz, ⟨ms2, e1, e2.putObj (fun p hp e => by
          have x1 := (e2 p hp).1
          rw [e, hKpL hk2] at x1
          obtain ⟨d, _, rfl⟩ := List.mem_map.1 hp
          simp [marked] at x1), e3, e4⟩, fun p hp => (List.mem_append.1 hp).elim (b1 p) (ho3 p), h.bs, g2.size, by simpa using hrel2.sw⟩
      refine wpIn_mono (hBd tm2 hp2 hRa B w0 _ [] _ ρ2 a2 _ (n - 1 - 1) (some (w.heap.size + 1)) (.inr hpl.2) hrel3) ?_
      rintro e a4 W4 ⟨tm4, hp4, ρ4, hrel4, hl4, hp5, hent5, hpost⟩
      have hk4 := hKpO hrel4.gs hrel4.bel
      obtain ⟨ρ5, hl5, _, hr5⟩ := hent5 B ρ4 a4 W4 (fun t => trivial) hrel4.hr
      have hle5 : ρ.leB μ' ρ5 := Ren.leB_trans h4 (Ren.leB_trans hl2 (Ren.leB_trans hl4 hl5))
      have hkept : ∀ o', Kept (w.heap.size + 1) W (W4.putObj (w.heap.size + 1) o') := fun o' => by
        have ho4 : GsOk (oth (w.heap.size + 1) W) W4 := fun p hp => hrel4.gs p (List.mem_append.2 (.inr hp))
        refine ⟨?_, fun k o hk ho hc => (World.putObj_heap_other hk).trans (ho4 (k, o) (mem_oth.2 ⟨ho, hk, hc⟩)).1⟩
        simp only [World.putObj_size]
        exact hrel4.sw
      cases e with
      | normal => exact ⟨_, _, fin none W4 hk4, .inl ⟨rfl, ⟨hp5, _, hpost, hr5.putObj (hKpL hk4) rfl, hle5, hKpP hk4⟩, hkept _⟩⟩
      | ret => exact ⟨_, _, fin (some .ret) W4 hk4, .inr ⟨rfl, ⟨.ret, .ret, hp5, _, .ret, hpost, hr5.putObj (hKpL hk4) rfl, hle5, hKpP hk4⟩, hkept _⟩⟩
      | exit id => exact ⟨_, _, fin (some (.exit id)) W4 hk4, .inr ⟨rfl, ⟨.exit id, .exit id, hp5, _, .exit id, hpost, hr5.putObj (hKpL hk4) rfl, hle5, hKpP hk4⟩, hkept _⟩⟩
      | goto t => exact hpost.elim
      | panic c => exact hpost.elim
      | outgrown => exact hpost.elim
    · rintro e W ⟨⟨v, rfl⟩, ⟨hp', ρ', h1, h3, h4, h5⟩ | ⟨e, c, hp', ρ', h1, h2, h3, h4, h5⟩⟩
      · have he := run_endLoop (P := P) (hKpL h5) (by rw [hrec]; simp)
        rw [hrec] at he
        exact ⟨none, _, he, tmL, hp', ρ', finRel h5 h3 h4, Ren.leB_mono h4 hμ, hend hp' h1⟩
      · have he := run_endLoop (P := P) (hKpL h5) (by rw [hrec]; simp)
        rw [hrec] at he
        refine ⟨some c, _, he, ?_⟩
        cases h1 with
        | ret => exact wpIn_ret ⟨tmL, hp', ρ', finRel h5 h3 h4, Ren.leB_mono h4 hμ, hx _ _ h2⟩
        | exit id => exact wpIn_exit ⟨tmL, hp', ρ', finRel h5 h3 h4, Ren.leB_mono h4 hμ, hx _ _ h2⟩

end Go.Ab
