/- An evaluator of the model on values that are partly known, and its soundness (part AbFor); no condition. -/
import Derived.Test.YtjckbgodcefogaaDoorAbIter
namespace Go.Ab
open Go.RowKit
variable {E : Env} {P : Program} {N : Nat} {tm : Tm} {hp : List O} {G : List O}

/-- **A RANGE OVER AN ITERATOR** -/
theorem sat_range (hE : E.Fn P) (n μ' : Nat) {μ : Nat} {g : Operand} {ps : Array Tmp} {asg body : Code} {k : Exit → Tm → List O → T} {Q : Exit → Tm → List O → Prop} {tm1 : Tm} {hp1 : List O}
    {f : FuncId} {caps : List V} {cs L : List (List V)} (bs ts : List Nat) (h0 : Ent E.G μ tm hp tm1 hp1)
    (hsq : SqSound E.G P f cs L) (hL : ∀ vs ∈ L, vs.length = ps.size) (hent : Entered P f)
    (hg : evA E tm1 g = .fn f caps) (hμ : Nat.ble μ μ' = true) (htl : limL μ' ((keepT tm1 ts).map (·.2)) = true) (hpl : (plainC asg && plainC body) = true) (hps : ps.toList.all (fun p => Nat.blt p N) = true)
    (hbs : (bs.all (fun b => Nat.blt b μ') && Nat.blt (bs.length + 1) gbase) = true)
    (I : Nat → List O → Prop) (X : Exit → List O → Prop) (hi : I 0 hp1) (hcap : ∀ i hp', I i hp' → capsOf hp' caps = some (bs, cs)) (hcapx : ∀ e hp', X e hp' → capsOf hp' caps = some (bs, cs))
    (hround : ∀ i vs hp', L[i]? = some vs → I i hp' → sat E.G P (fun e tm2 hp2 => e = .normal ∧ sat E.G P (fun e _ hp3 => ∃ hp4, Ent E.G μ' [] hp3 [] hp4 ∧ match e with
        | .normal => I (i + 1) hp4
        | .ret => X .ret hp4
        | .exit id => X (.exit id) hp4
        | _ => False) (evC E (hdl E n) μ' N body tm2 hp2 .ret)) (evC E (hdl E n) μ' N asg (putPs ps.toList vs (keepT tm1 ts)) hp' .ret))
    (hend : ∀ hp', I L.length hp' → sat E.G P Q (k .normal (keepT tm1 ts) hp')) (hx : ∀ e hp', X e hp' → sat E.G P Q (k e (keepT tm1 ts) hp')) :
    sat E.G P Q (.loop (.rangeFunc g ps asg body) μ N tm hp k) := by
  refine ⟨fun e tm' hp' => sat E.G P Q (k e tm' hp'), ?_, fun _ _ _ h => h⟩
  refine Good.ent h0 (Good.range (μ := μ) (μ' := μ') hμ hg ⟨ts, rfl⟩ htl hent hsq hpl hps hL I X hi hbs hcap hcapx ?_ hend hx)
  intro i vs hp' h1 h2
  refine ⟨fun tm2 hp2 => sat E.G P (fun e _ hp3 => ∃ hp4, Ent E.G μ' [] hp3 [] hp4 ∧ match e with
        | .normal => I (i + 1) hp4
        | .ret => X .ret hp4
        | .exit id => X (.exit id) hp4
        | _ => False) (evC E (hdl E n) μ' N body tm2 hp2 .ret), ?_, fun tm2 hp2 h3 => ?_⟩
  · exact evC_ok hE.mixed hE.ok (pg_ok hE) (ps_ok hE) (hdl_ok hE n) asg _ _ _ _ (hround i vs hp' h1 h2)
  · exact evC_ok hE.mixed hE.ok (pg_ok hE) (ps_ok hE) (hdl_ok hE n) body _ _ _ _ h3

/-- a nil slice in a temporary: a slice of a block that is not there -/
theorem Ent.phanT {μ : Nat} {t : Nat} {o : O} (ht : look tm t = .nils) (ho : o ≠ .gone ∧ o ≠ .rsv ∧ o.wf ∧ o.len = 0) (hsm : hp.length + 1 < gbase) :
    Ent G μ tm hp ((t, .sl hp.length 0 0 none) :: tm) (hp ++ [o]) := by
  intro B ρ a w htr hh
  have hfree := hh.free hp.length (Nat.le_refl _) (by omega)
  have hle := Ren.le_add hfree { blk := 0, base := 0, m := 1, n := 0, cp := 0, ph := true }
  have hget : ∀ i x, ρ i = some x → getO G (hp ++ [o]) i = getO G hp i := by
    intro i x hx
    by_cases hi : i < gbase
    · have : i < hp.length := by
        rcases Nat.lt_or_ge i hp.length with h | h
        · exact h
        · rw [hh.free i h hi] at hx; cases hx
      rw [getO_hp hi, getO_hp hi]
      simp [List.getD, List.getElem?_append_left this]
    · rw [getO_glob (by omega), getO_glob (by omega)]
  have hgetn : getO G (hp ++ [o]) hp.length = o := by
    rw [getO_hp (by omega)]
    simp [List.getD]
  have hc : ∀ i r, (ρ.add hp.length { blk := 0, base := 0, m := 1, n := 0, cp := 0, ph := true }) i = some r → (i = hp.length ∧ r.ph = true ∧ r.n = 0) ∨ ρ i = some r := by
    intro i r hr
    by_cases e : i = hp.length
    · subst e; rw [Ren.add_same] at hr; cases hr; exact .inl ⟨rfl, rfl, rfl⟩
    · rw [Ren.add_other _ _ e] at hr; exact .inr hr
  refine ⟨_, hle.leB, fun t' => ?_, ?_, ?_, fun i h1 => ?_, ?_, ?_, ?_, by simp; omega⟩
  · rw [look_cons]
    by_cases e : t = t'
    · subst e
      rw [if_pos rfl]
      have := htr t
      rw [ht] at this
      exact ⟨_, Ren.add_same _ _ _, Nat.le_refl _, fun _ => ⟨rfl, this⟩, fun e => by cases e⟩
    · rw [if_neg e]; exact VR.mono hle _ _ (htr t')
  · intro i r hr hal
    rcases hc i r hr with ⟨rfl, h2, h3⟩ | h2
    · rw [hgetn]
      exact ⟨ho.1, ho.2.1, ho.2.2.1, by rw [ho.2.2.2]; exact h3, fun _ => h3, fun e => (by rw [h2] at e; cases e), fun e => (by rw [h2] at e; cases e), fun e => (by rw [h2] at e; cases e), fun e => (by rw [h2] at e; cases e), fun _ e => (by rw [h2] at e; cases e)⟩
    · rw [hget i r h2] at hal ⊢
      exact (hh.blocks i r h2 hal).mono hle
  · intro i h1 h2
    simp only [List.length_append, List.length_singleton] at h1
    rw [Ren.add_other _ _ (by omega)]
    exact hh.free i (by omega) h2
  · cases hx : (ρ.add hp.length { blk := 0, base := 0, m := 1, n := 0, cp := 0, ph := true }) i with
    | none => rfl
    | some r =>
      rcases hc i r hx with ⟨rfl, _⟩ | h2
      · rw [hgetn] at h1; exact absurd h1 ho.2.1
      · rw [hget i r h2] at h1; rw [hh.rsv i h1] at h2; cases h2
  · intro i r hr how hp0
    rcases hc i r hr with ⟨rfl, h2, h3⟩ | h2
    · rw [h2] at hp0; cases hp0
    · rw [hget i r h2] at how; exact hh.base i r h2 how hp0
  · intro i i' r r' hr hr' hal hp0 hp0' how hne
    rcases hc i r hr with ⟨rfl, h2, h3⟩ | h2
    · rw [h2] at hp0; cases hp0
    · rcases hc i' r' hr' with ⟨rfl, h2', h3'⟩ | h2'
      · rw [h2'] at hp0'; cases hp0'
      · exact hh.apart i i' r r' h2 h2' (by rw [hget i' r' h2'] at hal; exact hal) hp0 hp0' (by rw [hget i r h2] at how; exact how) hne
  · intro g o' hg
    obtain ⟨r, h1, h2⟩ := hh.glob g o' hg
    exact ⟨r, hle _ _ h1, h2⟩

section
variable {B : Nat} {w0 : World} {gs : List (Nat × Obj)} {ρ : Ren} {w : World}

/-- body_ok, with less known at the end -/
theorem body_okE (hE : E.Fn P) (m : Nat) {f : FuncId} {fn : Func} {c : Code} (hf : P.funcs[f]? = some fn) (hb : fn.body = some c) {args : List V} {us : List Value}
    (hus : VRL ρ args us) (hlen : args.length ≤ fn.ntmps) (hh : HR E.G B ρ hp w) (hbel : Below B w0 w) (hB : B ≤ w0.heap.size) (hgs : GsOk gs w) {n : Nat} {Q : Exit → Tm → List O → Prop}
    (hs : sat E.G P Q (evC E (hdl E m) hp.length fn.ntmps c (initTm 0 args) hp .ret)) {R : V → List O → Prop}
    (hk : ∀ e tm hp0, Q e tm hp0 → ∃ tm2 hp2, Ent E.G hp.length tm hp0 tm2 hp2 ∧ (e = .normal ∨ e = .ret) ∧ ∃ l, resV E tm2 hp2 fn.results.toList = some l ∧ R (oneOrTup l) hp2) :
    CallsIn (Fr none) n P f us.toArray w fun e w' => ∃ u, e = .returned u ∧ ∃ v hp' ρ', VR ρ' v u ∧ HR E.G B ρ' hp' w' ∧ ρ.le ρ' ∧ Below B w0 w' ∧ GsOk gs w' ∧ R v hp' := by
  refine callsIn_of_wp_marks hf hb trivial ?_
  have hl := hus.length
  have hrel : Rel E.G B w0 w.heap.size fn.ntmps [] gs ρ (initTm 0 args) hp { tmps := us.toArray ++ Array.replicate (fn.ntmps - us.toArray.size) undef, defers := [] } w :=
    ⟨by simpa using TR.init ρ args us fn.ntmps hus, hh, hbel, by simp; omega, ⟨[], rfl, fun p hp => by simp at hp, by simp, by simp⟩, hgs, hB, hbel.size, Nat.le_refl _⟩
  refine wpIn_mono (evC_ok hE.mixed hE.ok (pg_ok hE) (ps_ok hE) (hdl_ok hE m) c _ _ .ret Q hs B w0 w.heap.size [] gs ρ _ w n none (.inl rfl) hrel) ?_
  rintro e a' w' ⟨tm0, hp0, ρ0, h0, hl0, hs'⟩
  obtain ⟨tm', hp', hent, he, l, hres, hR⟩ := hk _ _ _ hs'
  obtain ⟨ρ', l1, h'⟩ := h0.ent hent
  have hl' : ρ.le ρ' := fun b r e => by
    have hc : b < hp.length ∨ gbase ≤ b := by
      by_cases h1 : b < hp.length
      · exact .inl h1
      · by_cases h2 : gbase ≤ b
        · exact .inr h2
        · rw [hh.free b (by omega) (by omega)] at e; cases e
    exact l1 b r hc (hl0 b r hc e)
  have hpost : LeavesInM (Fr none) n P fn a'.tmps (fun e w' => ∃ u, e = .returned u ∧ ∃ v hp' ρ', VR ρ' v u ∧ HR E.G B ρ' hp' w' ∧ ρ.le ρ' ∧ Below B w0 w' ∧ GsOk gs w' ∧ R v hp') a'.defers .returning w' := by
    obtain ⟨ms, hd1, hd2, hd3, hd4⟩ := h'.df
    rw [hd1, List.append_nil]
    refine leaves_marks (S := w.heap.size) ms w' hd2 hd4 hd3 ?_
    intro w2 h1 h2 h3 h4 h5 h6
    have hdm : ∀ d ∈ ms, w'.heap[d]? = some (.deferred (some [])) := fun d hd => (hd2 (marked d) (List.mem_map.2 ⟨d, hd, rfl⟩)).1
    have hhr := h'.hr.cellsSame (w' := w2) (fun k ob hk hob => by
      rw [h5 k (fun d hd e => by subst e; rw [hdm k hd] at hk; cases hk; cases hob)]; exact hk) (by omega)
    obtain ⟨u, hrun, hv⟩ := results_ok hE.ok h'.tr hhr hres
    refine ⟨u, hrun, u, rfl, _, hp', ρ', hv, hhr, hl', ?_, ?_, hR⟩
    · refine h'.bel.trans ⟨h2, h3, h4, by omega, fun k hk => h5 k fun d hd e => ?_⟩
      have := hd3 d hd
      have := hbel.size
      omega
    · intro p hp
      refine ⟨?_, (h'.gs p hp).2⟩
      rw [h5 p.1 (fun d hd e => ?_)]
      · exact (h'.gs p hp).1
      · have := (Array.getElem?_eq_some_iff.1 (hgs p hp).1).1
        have := hd3 d hd
        omega
  rcases he with rfl | rfl <;> exact hpost
end

def FinE (E : Env) (fn : Func) (d : Nat) (v : V) (N : List O) : Exit → Tm → List O → Prop := fun e tm hp => ∃ tm' hp', Ent E.G d tm hp tm' hp' ∧ Fin E fn d v N e tm' hp'

theorem fin_e {E : Env} {fn : Func} {d : Nat} {v : V} {N : List O} {e : Exit} {tm tm' : Tm} {hp hp' : List O} (h : Ent E.G d tm hp tm' hp') (h2 : Fin E fn d v N e tm' hp') : FinE E fn d v N e tm hp := ⟨tm', hp', h, h2⟩
theorem fin_0 {E : Env} {fn : Func} {d : Nat} {v : V} {N : List O} {e : Exit} {tm : Tm} {hp : List O} (h2 : Fin E fn d v N e tm hp) : FinE E fn d v N e tm hp := ⟨tm, hp, Ent.refl _ _ _, h2⟩

/-- **A CONTRACT FROM AN EVALUATION**, with less known at the end -/
theorem fn_soundE (hE : E.Fn P) (n : Nat) {f : FuncId} {fn : Func} {c : Code} (hf : P.funcs[f]? = some fn) (hb : fn.body = some c) {args : List V} {H : List O} {v : V} {N : List O} (hlen : Nat.ble args.length fn.ntmps = true)
    (hs : sat E.G P (FinE E fn H.length v N) (evC E (hdl E n) H.length fn.ntmps c (initTm 0 args) H .ret)) : FnSound E.G P f args H v N := by
  intro ρ us w hh hus
  have hbody := body_okE (gs := []) (n := 0) hE n hf hb hus (Nat.le_of_ble_eq_true hlen) hh (Below.refl _ w) (Nat.le_refl _) (fun p hp => by simp at hp) hs
    (R := fun v0 hp => ∃ bs, V.out bs H.length v0 = some v ∧ bs.Nodup ∧ (∀ b ∈ bs, b < gbase ∧ (hp.getD b .gone).isData = true) ∧ N = bs.map (hp.getD · .gone) ∧ H.length + bs.length + 1 < gbase)
    (fun e tm hp ⟨tm', hp', he, h1, l, bs, h2, h3⟩ => ⟨tm', hp', he, h1, l, h2, bs, h3⟩)
  refine (callsIn_wide.1 hbody).mono ?_
  rintro e w' ⟨u, rfl, v0, hp', ρ', hv, hr', hl', hb', _, bs, h1, h2, h3, rfl, h5⟩
  obtain ⟨ρ2, hr2, hl2, hm2⟩ := hh.take (Nat.le_refl _) hr' hb' bs h2 h3 h5
  exact ⟨u, ρ2, rfl, out_ok hm2 _ _ _ h1 hv, hr2, hl2, hb'⟩

end Go.Ab
