/- An evaluator of the model on values that are partly known, and its soundness (part AbSound2); no condition. -/
import Derived.Test.YtjckbgodcefogaaDoorAbDrawEv
namespace Go.Ab
open Go.RowKit
variable {E : Env} {G : List O} {P : Program}

theorem Good.mono {μ N : Nat} {c : Code} {tm : Tm} {hp : List O} {R R' : Exit → Tm → List O → Prop} (h : Good E.G P μ N c tm hp R) (hr : ∀ e tm hp, R e tm hp → R' e tm hp) : Good E.G P μ N c tm hp R' :=
  fun B w0 S D gs ρ a w n ro h0 hrel => wpIn_mono (h B w0 S D gs ρ a w n ro h0 hrel) fun _e _a' _w' ⟨tm', hp', ρ', h1, h2, h3⟩ => ⟨tm', hp', ρ', h1, h2, hr _ _ _ h3⟩

theorem foldL_none {α β : Type} (f : α → β → β) {L : Nat → Bool} (hL : ∀ k, L k = false) : ∀ (l : List α) (i : Nat) (x : β), foldL f L l i x = x
  | [], _, _ => rfl
  | a :: l, i, x => by simp only [foldL, hL i, cond_false]; exact foldL_none f hL l (i + 1) x

section
variable {B : Nat} {w0 : World} {S : Nat} {N : Nat} {D : List Deferred} {gs : List (Nat × Obj)} {ρ : Ren} {tm : Tm} {hp : List O} {a : Act} {w : World}

theorem Rel.draw (h : Rel G B w0 S N D gs ρ tm hp a w) (n : Nat) : Rel G B w0 S N D gs ρ tm hp a { w with drawn := n } :=
  ⟨h.tr, h.hr.frame (Nat.le_refl _) (fun _ _ => rfl), ⟨h.bel.os, h.bel.tape, h.bel.output, h.bel.size, h.bel.block⟩, h.sz, h.df, h.gs, h.bs, h.ss, h.sw⟩

/-- a region that draws its order -/
theorem evRegion_ok (hm : P.follows .mixedOrders = true) (hE : E.Ok P) (hpg : PgOk E P) (hps : PsOk E P) {hd : Hd} (hhd : HdOk E.G P hd) {ops : Array Oper} {id : Nat} {k : Tm → List O → T} {Q : Exit → Tm → List O → Prop} {n : Nat} {ro : Option Nat} {Qx : Exit → Act → World → Prop}
    (hQx : ∀ a' w', (∃ tm' hp' ρ', Rel E.G B w0 S N D gs ρ' tm' hp' a' w' ∧ ρ.le ρ' ∧ sat E.G P Q (k tm' hp')) → Qx .normal a' w')
    (hs : sat E.G P Q (evRegion E hd N ops.toList tm hp k)) (h : Rel E.G B w0 S N D gs ρ tm hp a w) : (Code.region id ops true).wpIn (Fr ro) n P Qx a w := by
  unfold evRegion at hs
  dsimp only at hs
  generalize hmm : cutGo (befs ops.toList []) ops.toList.length = m at hs
  have hms : m ≤ ops.size := by rw [← hmm, ← Array.length_toList]; exact cutGo_le _ _
  obtain ⟨hd0, hs⟩ := hs
  rw [Bool.and_eq_true] at hd0
  have hdo := drawOk_of hms hd0.1
  split at hs
  · rename_i hlt
    have hlt := blt_lt hlt
    obtain ⟨items, tm', hp', na', rs', hI, hl, hT, hS, hk⟩ := evD_ok hE hpg hps (ops := ops) (base := hp.length) (nA := nAlloc (ops.toList.take m)) (by omega) (ops.toList.take m) 0 tm _ 0 []
      (fun q o hq => by
        rw [List.getElem?_take] at hq
        split at hq
        · rw [Nat.zero_add, ← Array.getElem?_toList]; exact hq
        · cases hq)
      (fun o ho c hc => by
        have := List.all_eq_true.1 hd0.2 o (List.mem_of_mem_take ho)
        rw [hc] at this; simp [isDefer] at this)
      (fun e he => by simp at he) hs
    rw [settle_eq] at hk
    have hlen : items.length = m := by rw [hl, List.length_take, Array.length_toList]; omega
    have hno : ∀ j, Lof (Array.replicate ops.size false) j = false := fun j => by
      unfold Lof
      rw [Array.getD_eq_getD_getElem?]
      by_cases hj : j < ops.size
      · simp [hj]
      · simp [hj]
    refine wpIn_region_any hm (any_ok (B := B) (w0 := w0) (S := S) (D := D) (gs := gs) (hp0 := hp) (tm0 := tm) (ρ0 := ρ) (rs' := rs') hE hI hlen hdo hS (by omega) (fun i it hit => by simpa using hT.at 0 i it hit) ?_ ops.size _ a _ ρ (by simp) (fun j o ho hj => by rw [hno] at hj; cases hj) (fun j _ => hno j) (Nat.le_trans (List.count_le_length (a := false) (l := List.replicate ops.size false)) (by simp)) ?_ (Ren.le_refl ρ))
    · intro a' w' ρ' h' hl'
      obtain ⟨f1, f2⟩ := hT.fin 0
      obtain ⟨rs2, r1, r2⟩ := hS.fin
      rw [List.nil_append] at r1
      subst r1
      rw [r2 0 _ (fun q x id o hx hw => by have := (set_range hS q x id o hx hw).2; simp; omega), ← f1, ← f2] at h'
      have := evOps_ok (n := n) (ro := ro) (ρ0 := ρ) hE hps hhd (ops := ops) hQx (ops.toList.drop m) (ops.toList.take m) _ _ ρ' a' w' (List.take_append_drop m _).symm hk h' hl'
      rwa [List.length_take, List.length_drop, Array.length_toList, Nat.min_eq_left hms] at this
    · rw [foldL_none _ hno, foldL_none _ hno]
      have h1 := h.draw (w.drawn + 1)
      exact ⟨h1.tr, h1.hr.reserve _ (by omega), h1.bel, h1.sz, h1.df, h1.gs, h1.bs, h1.ss, h1.sw⟩
  · exact hs.elim

end

/-- **THE EVALUATOR IS SOUND** -/
theorem evC_ok (hm : P.follows .mixedOrders = true) (hE : E.Ok P) (hpg : PgOk E P) (hps : PsOk E P) {hd : Hd} (hhd : HdOk E.G P hd) {μ N : Nat} : ∀ (c : Code) (tm : Tm) (hp : List O) (k : Exit → Tm → List O → T) (Q : Exit → Tm → List O → Prop),
    sat E.G P Q (evC E hd μ N c tm hp k) → Good E.G P μ N c tm hp fun e tm' hp' => sat E.G P Q (k e tm' hp') := by
  intro c
  induction c with
  | skip => exact fun tm hp k Q hs B w0 S D gs ρ a w n ro h0 h => wpIn_skip ⟨tm, hp, ρ, h, Ren.leB_refl μ ρ, hs⟩
  | exit id => exact fun tm hp k Q hs B w0 S D gs ρ a w n ro h0 h => wpIn_exit ⟨tm, hp, ρ, h, Ren.leB_refl μ ρ, hs⟩
  | ret => exact fun tm hp k Q hs B w0 S D gs ρ a w n ro h0 h => wpIn_ret ⟨tm, hp, ρ, h, Ren.leB_refl μ ρ, hs⟩
  | seq x y ihx ihy =>
    intro tm hp k Q hs B w0 S D gs ρ a w n ro h0 h
    have hx := h0.imp_right fun e => (by simpa [plainC] using e : plainC x = true ∧ plainC y = true)
    refine wpIn_seq (wpIn_mono (ihx tm hp _ Q hs B w0 S D gs ρ a w n ro (hx.imp_right (·.1)) h) ?_)
    rintro e a' w' ⟨tm', hp', ρ', h', hl, hs'⟩
    cases e with
    | normal =>
      refine wpIn_mono (ihy tm' hp' k Q hs' B w0 S D gs ρ' a' w' n ro (hx.imp_right (·.2)) h') ?_
      rintro e a2 w2 ⟨tm2, hp2, ρ2, h2, hl2, hs2⟩
      exact ⟨tm2, hp2, ρ2, h2, Ren.leB_trans hl hl2, hs2⟩
    | _ => exact ⟨tm', hp', ρ', h', hl, hs'⟩
  | cond c x y ihx ihy =>
    intro tm hp k Q hs B w0 S D gs ρ a w n ro h0 h
    have hx := h0.imp_right fun e => (by simpa [plainC] using e : plainC x = true ∧ plainC y = true)
    have hev := evA_ok (w := w) h.tr h.hr.hv c
    simp only [evC] at hs
    split at hs
    · rename_i he; rw [he] at hev; exact wpIn_cond_true hev (ihx tm hp k Q hs B w0 S D gs ρ a w n ro (hx.imp_right (·.1)) h)
    · rename_i he; rw [he] at hev; exact wpIn_cond_false hev (ihy tm hp k Q hs B w0 S D gs ρ a w n ro (hx.imp_right (·.2)) h)
    · rename_i b he
      rw [he] at hev
      exact wpIn_cond_split hev (fun e => ihx tm hp k Q (hs.1 e) B w0 S D gs ρ a w n ro (hx.imp_right (·.1)) h) (fun e => ihy tm hp k Q (hs.2 e) B w0 S D gs ρ a w n ro (hx.imp_right (·.2)) h)
    · exact hs.elim
  | block id x ih =>
    intro tm hp k Q hs B w0 S D gs ρ a w n ro h0 h
    refine wpIn_block (wpIn_mono (ih tm hp _ Q hs B w0 S D gs ρ a w n ro h0 h) ?_)
    rintro e a' w' ⟨tm', hp', ρ', h', hl, hs'⟩
    cases e with
    | exit id' =>
      simp only [Exit.inBlock]
      dsimp only at hs'
      split at hs'
      · rename_i hb; rw [if_pos (Nat.eq_of_beq_eq_true hb)]; exact ⟨tm', hp', ρ', h', hl, hs'⟩
      · rename_i hb; rw [if_neg (Nat.ne_of_beq_eq_false hb)]; exact ⟨tm', hp', ρ', h', hl, hs'⟩
    | _ => exact ⟨tm', hp', ρ', h', hl, hs'⟩
  | loop x ih =>
    intro tm hp k Q hs
    obtain ⟨R, hR, hk⟩ := hs
    exact hR.mono hk
  | rangeFunc g ps x y =>
    intro tm hp k Q hs
    obtain ⟨R, hR, hk⟩ := hs
    exact hR.mono hk
  | region id ops draw =>
    intro tm hp k Q hs B w0 S D gs ρ a w n ro h0 h
    cases draw with
    | true => exact evRegion_ok hm hE hpg hps hhd (fun a' w' ⟨tm', hp', ρ', h1, h2, h3⟩ => ⟨tm', hp', ρ', h1, h2.leB, h3⟩) hs h
    | false =>
      refine wpIn_region ?_
      have := evOps_ok (n := n) (ro := ro) (ρ0 := ρ) hE hps hhd (ops := ops) (Qx := fun e a' w' => ∃ tm' hp' ρ', Rel E.G B w0 S N D gs ρ' tm' hp' a' w' ∧ ρ.leB μ ρ' ∧ sat E.G P Q (k e tm' hp')) (fun a' w' ⟨tm', hp', ρ', h1, h2, h3⟩ => ⟨tm', hp', ρ', h1, h2.leB, h3⟩) ops.toList [] tm hp ρ a w rfl hs h (Ren.le_refl ρ)
      simpa [List.range_eq_range'] using this
  | _ => exact fun tm hp k Q hs => hs.elim

end Go.Ab
