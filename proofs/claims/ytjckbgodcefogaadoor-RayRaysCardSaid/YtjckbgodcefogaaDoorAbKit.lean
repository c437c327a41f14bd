/- An evaluator of the model on values that are partly known, and its soundness (part AbKit); no condition. -/
import Derived.Test.YtjckbgodcefogaaDoorAbRange
namespace Go.Ab

/-! ### Contracts put together -/

abbrev CF := List V → List O → Option (Bool × V × List O)

def pfOf (l : List (FuncId × CF)) (f : FuncId) (a : List V) (h : List O) : Option (Bool × V × List O) :=
  match assoc l f with
  | some c => c a h
  | none => none

def mkE (ty : List (TypeId × Ty)) (G : List O) (cts : List (FuncId × CF)) (inl : List (FuncId × Func)) : Env := ⟨ty, G, pfOf cts, inl, false⟩

variable {G : List O} {P : Program}

def CtOk (G : List O) (P : Program) (p : FuncId × CF) : Prop := Entered P p.1 ∧ ∀ a h c v N, p.2 a h = some (c, v, N) → c = true → FnSound G P p.1 a h v N
def CtsOk (G : List O) (P : Program) : List (FuncId × CF) → Prop
  | [] => True
  | p :: l => CtOk G P p ∧ CtsOk G P l
def InlOk (P : Program) : List (FuncId × Func) → Prop
  | [] => True
  | p :: l => (P.funcs[p.1]? = some p.2 ∧ (p.2.name == "runtime.NumGoroutine") = false) ∧ InlOk P l

theorem cts_at {f : FuncId} {c : CF} : ∀ {l : List (FuncId × CF)}, CtsOk G P l → assoc l f = some c → CtOk G P (f, c)
  | [], _, h => by cases h
  | (i, x) :: l, ⟨h1, h2⟩, h => by
    simp only [assoc] at h
    split at h
    · rename_i hb; cases h; rw [← Nat.eq_of_beq_eq_true hb]; exact h1
    · exact cts_at h2 h

theorem inl_at {f : FuncId} {fn : Func} : ∀ {l : List (FuncId × Func)}, InlOk P l → assoc l f = some fn → P.funcs[f]? = some fn ∧ (fn.name == "runtime.NumGoroutine") = false
  | [], _, h => by cases h
  | (i, x) :: l, ⟨h1, h2⟩, h => by
    simp only [assoc] at h
    split at h
    · rename_i hb; cases h; rw [← Nat.eq_of_beq_eq_true hb]; exact h1
    · exact inl_at h2 h

theorem env_ok {ty : List (TypeId × Ty)} {cts : List (FuncId × CF)} {inl : List (FuncId × Func)} (hm : P.follows .mixedOrders = true) (hty : ty.all (fun p => tyB P p.1 p.2) = true) (hc : CtsOk G P cts) (hi : InlOk P inl) :
    (mkE ty G cts inl).Fn P := by
  refine ⟨Env.ok_of hty, hm, fun f a h c v N e hcc => ?_, fun f fn h => inl_at hi h⟩
  change pfOf cts f a h = _ at e
  unfold pfOf at e
  split at e
  · rename_i cf hcf
    obtain ⟨h1, h2⟩ := cts_at hc hcf
    exact ⟨h1, h2 a h c v N e hcc⟩
  · cases e

theorem ent {f : FuncId} {fn : Func} (h : P.funcs[f]? = some fn) (h2 : (fn.name == "runtime.NumGoroutine") = false) (h3 : fn.body.isSome = true) : Entered P f := ⟨fn, h, h2, h3⟩

theorem ct_mk {f : FuncId} {fn : Func} {cf : CF} (hf : P.funcs[f]? = some fn) (h2 : (fn.name == "runtime.NumGoroutine") = false) (h3 : fn.body.isSome = true) (h : ∀ a h c v N, cf a h = some (c, v, N) → c = true → FnSound G P f a h v N) : CtOk G P (f, cf) := ⟨ent hf h2 h3, h⟩

/-! ### Steps of an evaluation -/

theorem sat_br {Q : Exit → Tm → List O → Prop} {b : Bool} {x y : T} (h1 : b = true → sat G P Q x) (h2 : b = false → sat G P Q y) : sat G P Q (.br b x y) := ⟨h1, h2⟩
theorem sat_bt {Q : Exit → Tm → List O → Prop} {b : Bool} {x y : T} (hb : b = true) (h1 : sat G P Q x) : sat G P Q (.br b x y) := ⟨fun _ => h1, fun e => (by rw [hb] at e; cases e)⟩
theorem sat_bf {Q : Exit → Tm → List O → Prop} {b : Bool} {x y : T} (hb : b = false) (h1 : sat G P Q y) : sat G P Q (.br b x y) := ⟨fun e => (by rw [hb] at e; cases e), fun _ => h1⟩
theorem sat_need {Q : Exit → Tm → List O → Prop} {b : Bool} {x : T} (h1 : b = true) (h2 : sat G P Q x) : sat G P Q (.need b x) := ⟨h1, h2⟩
theorem sat_self {Q : Exit → Tm → List O → Prop} {b : Bool} {x : T} (h2 : sat G P Q x) : sat G P Q (.need (!b || b) x) := ⟨by simp, h2⟩
theorem sat_ret {Q : Exit → Tm → List O → Prop} {e : Exit} {tm : Tm} {hp : List O} (h : Q e tm hp) : sat G P Q (.ret e tm hp) := h

theorem fin_val {E : Env} {fn : Func} {d : Nat} {v v' : V} {e : Exit} {tm : Tm} {hp : List O} {l : List V} (he : e = .normal ∨ e = .ret) (h1 : resV E tm hp fn.results.toList = some l) (h2 : V.out [] d (oneOrTup l) = some v') (hd : Nat.blt (d + 1) gbase = true) (hv : v' = v) : Fin E fn d v [] e tm hp :=
  ⟨he, l, [], h1, by rw [← hv]; exact h2, List.nodup_nil, by simp, rfl, by simpa using blt_lt hd⟩

theorem fin_new {E : Env} {fn : Func} {d : Nat} {v v' : V} {N : List O} {e : Exit} {tm : Tm} {hp : List O} {l : List V} (b : Nat) (he : e = .normal ∨ e = .ret) (h1 : resV E tm hp fn.results.toList = some l) (h2 : V.out [b] d (oneOrTup l) = some v') (hb : (Nat.blt b gbase && (hp.getD b .gone).isData) = true) (hd : Nat.blt (d + 2) gbase = true) (hN : [hp.getD b .gone] = N) (hv : v' = v) : Fin E fn d v N e tm hp := by
  simp only [Bool.and_eq_true] at hb
  exact ⟨he, l, [b], h1, by rw [← hv]; exact h2, by simp, by simpa using ⟨blt_lt hb.1, hb.2⟩, by simp [← hN], by simpa using blt_lt hd⟩

/-- **A LOOP**: its states at the head, what holds of them, what every round lowers -/
theorem sat_for {E : Env} (hE : E.Fn P) (n : Nat) {α : Type} (st : α → Tm × List O) (inv : α → Prop) (meas : α → Nat) (a0 : α) {μ N : Nat} {body : Code} {tm : Tm} {hp : List O} {k : Exit → Tm → List O → T} {Q : Exit → Tm → List O → Prop}
    (h0 : Ent E.G μ tm hp (st a0).1 (st a0).2) (hi : inv a0)
    (hround : ∀ a, inv a → sat E.G P (fun e tm' hp' => match e with
      | .normal => ∃ a', inv a' ∧ meas a' < meas a ∧ Ent E.G μ tm' hp' (st a').1 (st a').2
      | e => sat E.G P Q (k e tm' hp')) (evC E (hdl E n) μ N body (st a).1 (st a).2 .ret)) :
    sat E.G P Q (.loop (.loop body) μ N tm hp k) := by
  refine ⟨fun e tm' hp' => sat E.G P Q (k e tm' hp'), ?_, fun _ _ _ h => h⟩
  refine Good.ent h0 (Good.loop (fun j tm hp => ∃ a, inv a ∧ meas a ≤ j ∧ tm = (st a).1 ∧ hp = (st a).2) (m := meas a0) ⟨a0, hi, Nat.le_refl _, rfl, rfl⟩ ?_)
  rintro j tm1 hp1 ⟨a, ha, hj, rfl, rfl⟩
  refine (evC_ok hE.mixed hE.ok (pg_ok hE) (ps_ok hE) (hdl_ok hE n) body _ _ _ _ (hround a ha)).mono ?_
  intro e tm2 hp2 h
  cases e with
  | normal =>
    obtain ⟨a', h1, h2, h3⟩ := h
    exact ⟨j - 1, _, _, by omega, h3, a', h1, by omega, rfl, rfl⟩
  | _ => exact h

theorem tt1 (x y : Bool) : (!(x && y) || x) = true := by cases x <;> cases y <;> rfl
theorem tt2 (x y z : Bool) : (!(x && y && z) || x) = true := by cases x <;> cases y <;> cases z <;> rfl
theorem tt3 (x y z u : Bool) : (!(x && y && z && u) || x) = true := by cases x <;> cases y <;> cases z <;> cases u <;> rfl
theorem tt4 (x y z : Bool) : (!(x && (y && z)) || (x && y)) = true := by cases x <;> cases y <;> cases z <;> rfl
theorem tt5 (x y : Bool) : (!(!(x || y)) || !x) = true := by cases x <;> cases y <;> rfl
theorem tt6 (x y z : Bool) : (!(!(x || y || z)) || !x) = true := by cases x <;> cases y <;> cases z <;> rfl

theorem tt7 (x y : Bool) : (!x || (!y || (x && y))) = true := by cases x <;> cases y <;> rfl
theorem tt8 (x y z : Bool) : (!x || (!(y && z) || (x && y && z))) = true := by cases x <;> cases y <;> cases z <;> rfl
theorem tt9 (x y z : Bool) : (!x || (!(y && z) || (x && (y && z)))) = true := by cases x <;> cases y <;> cases z <;> rfl

abbrev I (n : Int) : V := .int .i64 n
abbrev U (n : Int) : V := .int .u64 n
abbrev Bb (b : Bool) : V := .bool b

end Go.Ab
