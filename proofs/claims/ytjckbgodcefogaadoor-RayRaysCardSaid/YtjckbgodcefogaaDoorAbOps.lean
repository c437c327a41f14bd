/- An evaluator of the model on values that are partly known, and its soundness (part AbOps); no condition. -/
import Derived.Test.YtjckbgodcefogaaDoorAbRel
namespace Go.Ab

structure TyOk (P : Program) (t : TypeId) (T : Ty) : Prop where
  zs : T.zero.length = T.sz
  info : ∃ i z, P.info? t = some i ∧ i.size = T.sz ∧ i.bytes = T.by_ ∧ i.zero = some z ∧ ∀ ρ, VRL ρ T.zero z.cells.toList
  und : match T.kd with
    | .int k => P.underlying t = some (.int k)
    | .bool => P.underlying t = some .bool
    | .str => P.underlying t = some .string
    | .slice e => P.underlying t = some (.slice e)
    | .array n e => P.underlying t = some (.array n e)
    | .struct offs => ∃ fs, P.underlying t = some (.struct fs) ∧ fs.toList.map (fun f => (f.offset, f.type)) = offs ∧
        fs.toList.mapM (fun f => (P.info? f.type).map fun i => (f.offset, i.size)) = some (offs.map fun p => (p.1, P.cellsOf p.2))
    | .func => ∃ a b c, P.underlying t = some (.func a b c)
    | .other => ∃ d, P.underlying t = some d ∧ (match d with | .struct _ | .array _ _ => false | _ => true) = true

structure Env.Ok (E : Env) (P : Program) : Prop where
  ty : ∀ t T, assoc E.ty t = some T → TyOk P t T

section
variable {E : Env} {P : Program} {ρ : Ren} {hp : List O} {w : World} {tm : List (Nat × V)} {a : Act}

theorem TyOk.size {t : TypeId} {T : Ty} (h : TyOk P t T) (w : World) : (sizeOf t).run P w = .ok T.sz w := by
  obtain ⟨i, z, h1, h2, _⟩ := h.info
  simp [sizeOf, typeInfo, h1, h2]

theorem TyOk.cellsOf {t : TypeId} {T : Ty} (h : TyOk P t T) : P.cellsOf t = T.sz := by
  obtain ⟨i, z, h1, h2, _⟩ := h.info
  simp [Program.cellsOf, h1, h2]

theorem TyOk.isAgg {t : TypeId} {T : Ty} (h : TyOk P t T) (w : World) : (isAgg t).run P w = .ok T.kd.isAgg w := by
  have hu := h.und
  unfold Go.isAgg
  cases hk : T.kd <;> rw [hk] at hu <;> simp only [TyK.isAgg] at *
  case struct => obtain ⟨fs, hu, _⟩ := hu; simp [run_underlying hu]
  case func => obtain ⟨x, y, z, hu⟩ := hu; simp [run_underlying hu]
  case other =>
    obtain ⟨d, hu, hd⟩ := hu
    simp only [Sem.run_bind, run_underlying hu, Result.andThen_ok]
    cases d <;> simp_all
  all_goals simp [run_underlying hu]

theorem O.cell_wid {o : O} (hwf : o.wf) {k j : Nat} {v : V} (h : o.cell k j = some v) : j < o.wid := by
  cases o with
  | ints _ kd zs => cases j <;> simp_all [O.cell, O.wid]
  | rows _ ks rs =>
    simp only [O.cell] at h
    split at h
    · rename_i kd hk; simp only [O.wid]; exact (List.getElem?_eq_some_iff.1 hk).1
    · cases h
  | cells _ l => cases k <;> simp_all [O.cell, O.wid]; exact (List.getElem?_eq_some_iff.1 h).1
  | vals _ m rs =>
    simp only [O.cell] at h
    split at h
    · rename_i r hr; simp only [O.wid]; have := (hwf r (List.mem_of_getElem? hr)).1; have := (List.getElem?_eq_some_iff.1 h).1; omega
    · cases h
  | gone => simp [O.cell] at h
  | rsv => simp [O.cell] at h

theorem getO_ok (hh : HV E.G ρ hp w) {b k j : Nat} {v : V} {r : Rg} (hr : ρ b = some r) (hp0 : r.ph = false) (hk : k < r.n) (hc : (getO E.G hp b).cell k j = some v) :
    ∃ u, w.cell? ⟨r.blk, r.base + k * r.m + j, none⟩ = some u ∧ VR ρ v u := by
  have ho := hh.blocks b r hr (fun e => by rw [e] at hc; simp [O.cell] at hc) (fun e => by rw [e] at hc; simp [O.cell] at hc)
  exact ho.cell hp0 k j v (by rw [← ho.n]; exact hk) (O.cell_wid ho.wf hc) hc

theorem cellsAt_ok (hh : HV E.G ρ hp w) {b k : Nat} {r : Rg} (hr : ρ b = some r) (hp0 : r.ph = false) (hk : k < r.n) :
    ∀ (n j : Nat) (l : List V), (getO E.G hp b).cellsAt k j n = some l → ∃ us : List Value, us.length = n ∧ VRL ρ l us ∧ ∀ i u, us[i]? = some u → w.cell? ((⟨r.blk, r.base + k * r.m + j, none⟩ : Addr).add i) = some u
  | 0, j, l, h => by
    simp only [O.cellsAt, Option.some.injEq] at h
    subst h
    exact ⟨[], rfl, rfl, fun i u hu => by simp at hu⟩
  | n + 1, j, l, h => by
    simp only [O.cellsAt] at h
    split at h
    · rename_i v hv
      split at h
      · rename_i l' hl'
        cases h
        obtain ⟨u, hu, hvu⟩ := getO_ok hh hr hp0 hk hv
        obtain ⟨us, hl, hus, hall⟩ := cellsAt_ok hh hr hp0 hk n (j + 1) l' hl'
        refine ⟨u :: us, by simp [hl], ⟨u, us, rfl, hvu, hus⟩, fun i x hx => ?_⟩
        cases i with
        | zero => simp at hx; subst hx; simpa [Addr.add_lit] using hu
        | succ i =>
          have := hall i x (by simpa using hx)
          rw [Addr.add_lit] at this ⊢
          rw [← this]
          congr 2
          omega
      · cases h
    · cases h

/-- a variable is read -/
theorem loadV_ok (hE : E.Ok P) (hh : HV E.G ρ hp w) {t : TypeId} {pv v : V} {u : Value} (hu : VR ρ pv u) (h : loadV E hp t pv = some v) :
    ∃ ad x, u = .pointer (some ad) ∧ (loadVar t ad).run P w = .ok x w ∧ VR ρ v x := by
  unfold loadV at h
  split at h
  · rename_i b k j
    split at h
    · rename_i T hT
      obtain ⟨r, hr, hp0, hk, rfl⟩ := hu
      have hty := hE.ty t T hT
      have hagg := hty.isAgg w
      refine ⟨⟨r.blk, r.base + k * r.m + j, none⟩, ?_⟩
      unfold loadVar
      rw [Sem.run_bind, hagg, Result.andThen_ok]
      cases hk2 : T.kd.isAgg with
      | true =>
        rw [hk2] at h
        dsimp only at h
        split at h
        · rename_i l hl
          cases h
          obtain ⟨us, hlen, hus, hall⟩ := cellsAt_ok hh hr hp0 hk _ _ _ hl
          have hrun := run_loadCells_list (P := P) w _ us hall
          rw [hlen] at hrun
          refine ⟨.agg us.toArray, rfl, ?_, us, rfl, hus⟩
          simp only [if_true, Sem.run_bind, hty.size, Result.andThen_ok, hrun, Sem.run_pure]
        · cases h
      | false =>
        rw [hk2] at h
        dsimp only at h
        obtain ⟨x, hx, hvx⟩ := getO_ok hh hr hp0 hk h
        exact ⟨x, rfl, by simp [hx], hvx⟩
    · cases h
  · cases h

/-- what a plain operation comes to -/
def ValOk (P : Program) (ρ : Ren) (w : World) (a : Act) (o : Oper) (v : V) : Prop :=
  ∃ u, (execOp a.eval o).run P w = .ok (.value u) w ∧ VR ρ v u

theorem ValOk.mk {o : Oper} {v : V} {s : Sem Value} (hs : execOp a.eval o = (do pure (.value (← s)))) {u : Value} (h : s.run P w = .ok u w) (hv : VR ρ v u) : ValOk P ρ w a o v :=
  ⟨u, by rw [hs]; simp [h], hv⟩

theorem bin_ok {op : BinOp} (hsh : BinOp.isShift op = false) {k : IntKind} {x y : Int} {c : Option Bool} {v : V} (h : bin op k x y = .val c v) (hc : ∀ b, c = some b → b = true) (t : TypeId) (p q : Operand) (w : World) :
    ∃ u, (do eqGuard op t p q (.int k x) (.int k y); binOp op t (.int k x) (.int k y)).run P w = .ok u w ∧ VR ρ v u := by
  cases op <;> simp only [BinOp.isShift, Bool.true_eq_false] at hsh <;> simp only [bin, R.val.injEq] at h <;> obtain ⟨rfl, rfl⟩ := h
  case quo =>
    have := hc _ rfl
    simp at this
    exact ⟨_, by simp [eqGuard, binOp, Op.intDiv, this], rfl⟩
  case rem =>
    have := hc _ rfl
    simp at this
    exact ⟨_, by simp [eqGuard, binOp, Op.intDiv, this], rfl⟩
  all_goals exact ⟨_, by simp [eqGuard, binOp, Op.intArith, Op.intBits, Op.intCmp, band]; try rfl, rfl⟩

theorem shf_ok {op : BinOp} (hsh : BinOp.isShift op = true) {k k' : IntKind} {x y : Int} {c : Option Bool} {v : V} (h : shf op k x y = .val c v) (hc : ∀ b, c = some b → b = true) (t : TypeId) (p q : Operand) (w : World) :
    ∃ u, (do eqGuard op t p q (.int k x) (.int k' y); binOp op t (.int k x) (.int k' y)).run P w = .ok u w ∧ VR ρ v u := by
  cases op <;> simp only [BinOp.isShift, Bool.false_eq_true] at hsh <;> simp only [shf, R.val.injEq] at h <;> obtain ⟨rfl, rfl⟩ := h
  all_goals
    have := hc _ rfl
    simp at this
    exact ⟨_, by simp [eqGuard, binOp, Op.shift, show ¬ y < 0 by omega], rfl⟩

theorem addN_eq (k n : Nat) : addN k n = k + n := by cases k <;> simp [addN]

theorem szOf_some (hE : E.Ok P) {t : TypeId} {n : Nat} (h : szOf E t = some n) : (∀ w, (sizeOf t).run P w = .ok n w) ∧ P.cellsOf t = n := by
  unfold szOf at h
  split at h
  · rename_i T hT
    cases h
    exact ⟨(hE.ty t T hT).size, (hE.ty t T hT).cellsOf⟩
  · cases h

theorem pick_ok {cv xv yv : V} {c x y : Value} (hc : VR ρ cv c) (hx : VR ρ xv x) (hy : VR ρ yv y) {cd : Option Bool} {v : V} (h : pickV cv xv yv = .val cd v) (hcd : ∀ b, cd = some b → b = true) :
    ∃ b, c = .bool b ∧ VR ρ v (if b then x else y) := by
  unfold pickV at h
  split at h
  · cases hc
    refine ⟨true, rfl, ?_⟩
    split at h
    · rename_i g z
      cases h
      have hg := hcd _ rfl
      simp only [VR] at hx
      exact hx.1 hg
    · cases h; exact hx
  · cases hc
    refine ⟨false, rfl, ?_⟩
    split at h
    · rename_i g z
      cases h
      have hg := hcd _ rfl
      simp only [VR] at hy
      exact hy.1 hg
    · cases h; exact hy
  · rename_i b
    obtain rfl : c = .bool b := hc
    refine ⟨b, rfl, ?_⟩
    split at h <;> (try cases h)
    · rename_i g z
      have hg := hcd _ rfl
      cases hy
      cases b
      · rfl
      · simp at hg; simpa [VR] using hx.1 hg
    · rename_i g z
      have hg := hcd _ rfl
      cases hy
      cases b
      · rfl
      · simp at hg; simpa [VR] using hx.1 hg
    · cases hx; cases hy; cases b <;> rfl
    · rename_i g z
      have hg := hcd _ rfl
      cases hx
      cases b
      · simp at hg; simpa [VR] using hy.1 hg
      · rfl
    · rename_i g z
      have hg := hcd _ rfl
      cases hx
      cases b
      · simp at hg; simpa [VR] using hy.1 hg
      · rfl
    · cases hx; cases hy; cases b <;> rfl
  · cases h

theorem putCells_length : ∀ (vs : List V) (l : List V) (j : Nat), (putCells l j vs).length = l.length
  | [], l, j => rfl
  | v :: vs, l, j => by rw [putCells, putCells_length vs]; simp

/-- the cells of a build -/
theorem fill_put : ∀ (vs : List V) (us : List Value) (l : List V) (cs : Array Value) (j i : Nat), VRL ρ vs us → VRL ρ l cs.toList →
    VRL ρ (putCells l (j + i) vs) ((us.zipIdx i).foldl (fun (c : Array Value) (p : Value × Nat) => c.setIfInBounds (j + p.2) p.1) cs).toList := by
  intro vs
  induction vs with
  | nil => intro us l cs j i h hl; cases h; simpa [putCells] using hl
  | cons v vs ih =>
    intro us l cs j i h hl
    obtain ⟨u, r, rfl, hv, hr⟩ := h
    have step : VRL ρ (l.set (j + i) v) (cs.setIfInBounds (j + i) u).toList := by rw [Array.toList_setIfInBounds]; exact hl.set (j + i) v u hv
    have := ih r (l.set (j + i) v) (cs.setIfInBounds (j + i) u) j (i + 1) hr step
    simpa only [putCells, List.zipIdx_cons, List.foldl_cons, Nat.add_assoc] using this

theorem build_ok {offs : List (Nat × TypeId)} (hE : E.Ok P) : ∀ (parts : List (Nat × V)) (ps : List (Nat × Value)) (l l' : List V) (cs : Array Value),
    (∀ i : Nat, (∀ p : Nat × V, parts[i]? = some p → ∃ u, ps[i]? = some (p.1, u) ∧ VR ρ p.2 u) ∧ (parts[i]? = none → ps[i]? = none)) → VRL ρ l cs.toList →
    buildL offs (szOf E) parts l = some l' → ∃ cs', Instr.fill (((offs.map fun p => (p.1, P.cellsOf p.2)).toArray)[·]?) cs ps = some cs' ∧ VRL ρ l' cs'.toList := by
  intro parts
  induction parts with
  | nil =>
    intro ps l l' cs hps hl h
    have h0 := (hps 0).2 rfl
    have : ps = [] := by cases ps with | nil => rfl | cons x xs => simp at h0
    subst this
    simp only [buildL, Option.some.injEq] at h
    subst h
    exact ⟨cs, rfl, hl⟩
  | cons p parts ih =>
    intro ps l l' cs hps hl h
    obtain ⟨i, v⟩ := p
    obtain ⟨u, hu, hvu⟩ := (hps 0).1 (i, v) rfl
    cases ps with
    | nil => simp at hu
    | cons q ps =>
      simp only [List.getElem?_cons_zero, Option.some.injEq] at hu
      subst hu
      simp only [buildL] at h
      split at h
      · rename_i o t ho
        split at h
        · rename_i n hn
          split at h
          · rename_i hb
            simp only [Bool.and_eq_true, Nat.ble_eq] at hb
            obtain ⟨⟨hb1, hb2⟩, hb3⟩ := hb
            have hb1 := Nat.eq_of_beq_eq_true hb1
            have hcells := VR.cells hvu hb3
            have hsz : u.cells.size = n := by have := hcells.length; simp only [Array.length_toList] at this; omega
            have hcs : cs.size = l.length := by have := hl.length; simpa using this
            have hstep := fill_put v.cells u.cells.toList l cs o 0 hcells hl
            have hrest : ∀ i : Nat, (∀ p : Nat × V, parts[i]? = some p → ∃ u, ps[i]? = some (p.1, u) ∧ VR ρ p.2 u) ∧ (parts[i]? = none → ps[i]? = none) := fun i => by simpa using hps (i + 1)
            obtain ⟨cs', hf, hr⟩ := ih ps _ l' _ hrest hstep h
            refine ⟨cs', ?_, hr⟩
            have hpl : ((offs.map fun p => (p.1, P.cellsOf p.2)).toArray)[i]? = some (o, n) := by simp [ho, (szOf_some hE hn).2]
            simp only [Instr.fill, hpl, hsz]
            rw [if_neg (by simp; omega)]
            rw [← Array.foldl_toList, Array.toList_zipIdx]
            exact hf
          · cases h
        · cases h
      · cases h


/-! ### Operators that are plain -/

def R.isVal : R → Bool
  | .val _ _ => true
  | .bad => true
  | _ => false

theorem binX_pure (op : BinOp) (t : TypeId) (u v : V) : (binX E op t u v).isVal = true := by
  unfold binX
  repeat' split
  all_goals rfl
theorem slX_pure (t : TypeId) (u : V) (lo hi mx : Option (Option Int)) : (slX E hp t u lo hi mx).isVal = true := by
  unfold slX
  repeat' split
  all_goals rfl
def R.isApp : R → Bool
  | .app _ _ _ => true
  | .bad => true
  | _ => false
theorem appX_pure (t : TypeId) (u v : V) : (appX E hp t u v).isApp = true := by
  unfold appX
  repeat' split
  all_goals rfl
theorem maxV_pure (g : Bool) (l : List V) : ∀ x : V, (maxV g x l).isVal = true := by
  induction l with
  | nil => intro x; simp only [maxV]; rfl
  | cons y l ih =>
    intro x
    unfold maxV
    split
    · rfl
    · rename_i heq
      cases heq
      split
      · exact ih _
      · rfl
    · rfl

theorem nv_bin {op : BinOp} {t : TypeId} {u v : V} {r : R} (h : binX E op t u v = r) (hr : r.isVal = false) : False := by have := binX_pure (E := E) op t u v; rw [h, hr] at this; cases this
theorem nv_sl {t : TypeId} {u : V} {lo hi mx : Option (Option Int)} {r : R} (h : slX E hp t u lo hi mx = r) (hr : r.isVal = false) : False := by have := slX_pure (E := E) (hp := hp) t u lo hi mx; rw [h, hr] at this; cases this
theorem nv_max {g : Bool} {x : V} {l : List V} {r : R} (h : maxV g x l = r) (hr : r.isVal = false) : False := by have := maxV_pure g l x; rw [h, hr] at this; cases this
theorem nv_app {t : TypeId} {u v : V} {r : R} (h : appX E hp t u v = r) (hr : r.isApp = false) : False := by have := appX_pure (E := E) (hp := hp) t u v; rw [h, hr] at this; cases this

theorem run_equalIn_func_nil (d : Nat) {t : TypeId} {x y z} (hun : P.underlying t = some (.func x y z)) (f : Fn) (a b : Array Value) (w : World) : (Op.equalIn (d + 1) t (.func f a b) .nilFunc).run P w = .ok false w := by
  simp [Op.equalIn, run_underlying hun]
theorem run_equal_func_nil {t : TypeId} {x y z} (hun : P.underlying t = some (.func x y z)) (f : Fn) (a b : Array Value) (w : World) : (Op.equal t (.func f a b) .nilFunc).run P w = .ok false w :=
  run_equalIn_func_nil 9999 hun f a b w

theorem b?_ok {u : V} {x : Value} {b : Bool} (h : VR ρ u x) (hb : u.b? = some b) : x = .bool b := by
  cases u <;> simp only [V.b?, reduceCtorEq, Option.some.injEq] at hb
  all_goals (subst hb; exact h)

theorem binX_val (hE : E.Ok P) {op : BinOp} {t : TypeId} {u v : V} {x y : Value} {c : Option Bool} {r : V} (hu : VR ρ u x) (hv : VR ρ v y) (h : binX E op t u v = .val c r) (hc : ∀ b, c = some b → b = true) (p q : Operand) (w : World) :
    ∃ z, (do eqGuard op t p q x y; binOp op t x y).run P w = .ok z w ∧ VR ρ r z := by
  unfold binX at h
  split at h
  · rename_i a
    split at h
    · rename_i b
      have hu : x = .string ⟨a.toArray⟩ := hu
      have hv : y = .string ⟨b.toArray⟩ := hv
      subst hu; subst hv
      split at h <;> cases h
      · have hb := hc _ rfl
        simp only [decide_eq_true_eq] at hb
        refine ⟨.string ⟨(a ++ b).toArray⟩, ?_, rfl⟩
        have := run_string_add_sum (P := P) (w := w) ⟨a.toArray⟩ ⟨b.toArray⟩ (by show a.toArray.size + b.toArray.size ≤ _; simp; omega)
        have e : (⟨a.toArray⟩ : ByteArray) ++ ⟨b.toArray⟩ = ⟨(a ++ b).toArray⟩ := by
          apply ByteArray.ext
          rw [ByteArray.data_append]
          simp
        rw [e] at this
        simp [eqGuard, binOp_string_add, this]
      · exact ⟨.bool (a == b), by simp [eqGuard, binOp_string_eql, ByteArray.toList_eq], by simp [VR]⟩
      · exact ⟨.bool (!(a == b)), by simp [eqGuard, binOp_string_neq, ByteArray.toList_eq], by simp [VR]⟩
    · cases h
  · rename_i f caps
    obtain ⟨us, rfl, _⟩ := hu
    split at h
    · rename_i T hT
      have hy : y = .nilFunc := hv
      subst hy
      have hty := (hE.ty t T hT).und
      split at h <;> (try cases h)
      all_goals
        rename_i hk
        rw [hk] at hty
        obtain ⟨a1, a2, a3, hun⟩ := hty
        have heq := run_equal_func_nil hun (.func f) #[] us.toArray w
        first | exact ⟨.bool false, by simp only [binOp]; simp [eqGuard, heq], rfl⟩ | exact ⟨.bool true, by simp only [binOp]; simp [eqGuard, heq], rfl⟩
    · cases h
  · split at h
    · rename_i a b T hb1 hb2 hT
      have hx := b?_ok hu hb1
      have hy := b?_ok hv hb2
      subst hx; subst hy
      have hty := (hE.ty t T hT).und
      split at h <;> (try cases h)
      all_goals
        rename_i hk
        rw [hk] at hty
        dsimp only at hty
      · exact ⟨.bool (a == b), by simp [eqGuard, run_eql_bool w t a b hty], rfl⟩
      · exact ⟨.bool (!(a == b)), by simp [eqGuard, run_neq_bool w t a b hty], rfl⟩
    · cases h

theorem optI_ok (hev : ∀ x, VR ρ (evA E tm x) (a.eval x)) {o : Option Operand} {r : Option Int} (h : optI E tm o = some r) : (r = none ∧ o.map a.eval = none) ∨ ∃ k n, r = some n ∧ o.map a.eval = some (.int k n) := by
  cases o with
  | none => simp only [optI, Option.some.injEq] at h; exact .inl ⟨h.symm, rfl⟩
  | some x =>
    simp only [optI] at h
    split at h
    · rename_i k n he
      cases h
      have := hev x
      rw [he] at this
      exact .inr ⟨k, n, rfl, by simp only [Option.map_some]; rw [show a.eval x = .int k n from this]⟩
    · cases h

theorem run_sliceBounds_of {b : Bool} {len cap : Nat} {lo hi : Option Value} {lo' hi' : Option Int} (hl : (lo' = none ∧ lo = none) ∨ ∃ k n, lo' = some n ∧ lo = some (.int k n)) (hh : (hi' = none ∧ hi = none) ∨ ∃ k n, hi' = some n ∧ hi = some (.int k n))
    (h0 : 0 ≤ lo'.getD 0) (h1 : lo'.getD 0 ≤ hi'.getD len) (h2 : hi'.getD len ≤ len) (h3 : len ≤ cap) (w : World) :
    (Instr.sliceBounds b len cap lo hi none).run P w = .ok ((lo'.getD 0).toNat, (hi'.getD len).toNat, cap) w := by
  rcases hl with ⟨rfl, rfl⟩ | ⟨k, n, rfl, rfl⟩ <;> rcases hh with ⟨rfl, rfl⟩ | ⟨k', n', rfl, rfl⟩ <;> simp only [Option.getD_none, Option.getD_some] at *
  · simp [Instr.sliceBounds]
  · have e1 := run_sliceBound (P := P) w k' n' cap (if b = true then BoundsCode.sliceAcap else BoundsCode.sliceAlen) (by omega) (by omega)
    simp [Instr.sliceBounds, e1]
  · have e1 := run_sliceBound (P := P) w k n len BoundsCode.sliceB (by omega) (by omega)
    simp [Instr.sliceBounds, e1]
  · have e1 := run_sliceBound (P := P) w k' n' cap (if b = true then BoundsCode.sliceAcap else BoundsCode.sliceAlen) (by omega) (by omega)
    have e2 := run_sliceBound (P := P) w k n n'.toNat BoundsCode.sliceB (by omega) (by omega)
    simp [Instr.sliceBounds, e1, e2]

theorem run_sliceBounds_max {b : Bool} {len cap : Nat} {lo : Option Value} {lo' : Option Int} (hl : (lo' = none ∧ lo = none) ∨ ∃ k n, lo' = some n ∧ lo = some (.int k n)) (kh km : IntKind) (h m : Int)
    (h0 : 0 ≤ lo'.getD 0) (h1 : lo'.getD 0 ≤ h) (h2 : h ≤ m) (h3 : m ≤ cap) (w : World) :
    (Instr.sliceBounds b len cap lo (some (.int kh h)) (some (.int km m))).run P w = .ok ((lo'.getD 0).toNat, h.toNat, m.toNat) w := by
  have e1 := run_sliceBound (P := P) w km m cap (if b = true then BoundsCode.slice3Acap else BoundsCode.slice3Alen) (by omega) (by omega)
  have e2 := run_sliceBound (P := P) w kh h m.toNat BoundsCode.slice3B (by omega) (by omega)
  rcases hl with ⟨rfl, rfl⟩ | ⟨k, n, rfl, rfl⟩ <;> simp only [Option.getD_none, Option.getD_some] at *
  · simp [Instr.sliceBounds, e1, e2]
  · have e3 := run_sliceBound (P := P) w k n h.toNat BoundsCode.slice3C (by omega) (by omega)
    simp [Instr.sliceBounds, e1, e2, e3]

theorem slX_val (hE : E.Ok P) (hh : HV E.G ρ hp w) (hev : ∀ x, VR ρ (evA E tm x) (a.eval x)) {t : TypeId} {u : V} {x : Value} {lo hi mx : Option Operand} {c : Option Bool} {r : V} (hu : VR ρ u x)
    (h : slX E hp t u (optI E tm lo) (optI E tm hi) (optI E tm mx) = .val c r) (hc : ∀ b, c = some b → b = true) :
    ∃ z, (Instr.sliceAt t x (lo.map a.eval) (hi.map a.eval) (mx.map a.eval)).run P w = .ok z w ∧ VR ρ r z := by
  unfold slX at h
  split at h
  · rename_i T hT
    have hty := (hE.ty t T hT).und
    split at h
    · rename_i b k len cap
      split at h
      · rename_i e hk
        rw [hk] at hty
        dsimp only at hty
        have hel : P.elem t = e := by simp [Program.elem, hty]
        have hsl : P.underlying t = some (.slice (P.elem t)) := by rw [hel]; exact hty
        split at h
        · rename_i sz hsz
          have hs := (szOf_some (P := P) hE hsz).1 w
          split at h
          · rename_i hw
            have hw := Nat.eq_of_beq_eq_true hw
            obtain ⟨rg, hr, hkl, hp1, hp2⟩ := hu
            have hal : getO E.G hp b ≠ .gone := fun e => by rw [e] at hw; simp [O.wid] at hw
            have hnr : getO E.G hp b ≠ .rsv := fun e => by rw [e] at hw; simp [O.wid] at hw
            have hob := hh.blocks b rg hr hal hnr
            split at h
            · rename_i lo' hi' hlo hhi hmx
              cases h
              have hb := hc _ rfl
              simp only [Bool.and_eq_true, decide_eq_true_eq] at hb
              obtain ⟨⟨hb1, hb2⟩, hb3⟩ := hb
              have hmx' : mx.map a.eval = none := by
                rcases optI_ok hev hmx with ⟨_, e⟩ | ⟨_, _, e, _⟩
                · exact e
                · cases e
              rw [hmx', run_sliceAt_slice w t x _ _ _ hsl]
              cases hph : rg.ph with
              | true =>
                obtain ⟨e1, rfl⟩ := hp1 hph
                subst e1
                have hrun := run_slice_any (P := P) w t none 0 0 hsl (lo.map a.eval) (hi.map a.eval) none
                rw [run_sliceBounds_of (P := P) (optI_ok hev hlo) (optI_ok hev hhi) hb1 hb2 hb3 (Nat.le_refl _) w, Result.andThen_ok, hel, hs, Result.andThen_ok] at hrun
                refine ⟨_, hrun, rg, hr, by rw [addN_eq]; omega, fun _ => ⟨by omega, ?_⟩, fun e => by rw [hph] at e; cases e⟩
                simp only [sliced, Option.map_none]
                have q1 : (hi'.getD ((0 : Nat) : Int)).toNat - (lo'.getD 0).toNat = 0 := by omega
                rw [q1]
                simp
              | false =>
                obtain ⟨hlc, ad, rfl, had⟩ := hp2 hph
                have hrun := run_slice_any (P := P) w t (some ad) len (cap.getD (rg.cp - k)) hsl (lo.map a.eval) (hi.map a.eval) none
                rw [run_sliceBounds_of (P := P) (optI_ok hev hlo) (optI_ok hev hhi) hb1 hb2 hb3 hlc w, Result.andThen_ok, hel, hs, Result.andThen_ok] at hrun
                have hcap : (cap.map (· - (lo'.getD 0).toNat)).getD (rg.cp - addN k (lo'.getD 0).toNat) = cap.getD (rg.cp - k) - (lo'.getD 0).toNat := by
                  rw [addN_eq]
                  cases cap with
                  | none => simp only [Option.map_none, Option.getD_none]; omega
                  | some c => rfl
                refine ⟨_, hrun, rg, hr, by rw [addN_eq]; omega, fun e => (by rw [hph] at e; cases e), fun _ => ⟨by rw [hcap]; omega, ?_⟩⟩
                rw [hcap]
                simp only [sliced]
                by_cases hz : cap.getD (rg.cp - k) = (lo'.getD 0).toNat
                · rw [if_pos hz]
                  exact ⟨ad, rfl, fun e => absurd hz (by omega)⟩
                · rw [if_neg hz]
                  refine ⟨_, rfl, fun _ => ?_⟩
                  rw [had (by omega), addN_eq]
                  show Addr.add _ _ = _
                  rw [Addr.add_lit]
                  congr 1
                  rw [show sz.succ = rg.m by have := hob.m hph; omega, Nat.add_mul]
                  omega
            · rename_i lo' h' m' hlo hhi hmx
              cases h
              have hb := hc _ rfl
              simp only [Bool.and_eq_true, decide_eq_true_eq] at hb
              obtain ⟨⟨⟨hb1, hb2⟩, hb3⟩, hb4⟩ := hb
              obtain ⟨km, nm, e1, e2⟩ : ∃ km nm, m' = nm ∧ mx.map a.eval = some (.int km nm) := by
                rcases optI_ok hev hmx with ⟨e, _⟩ | ⟨km, nm, e, e2⟩
                · cases e
                · cases e; exact ⟨km, _, rfl, e2⟩
              obtain ⟨kh, nh, e3, e4⟩ : ∃ kh nh, h' = nh ∧ hi.map a.eval = some (.int kh nh) := by
                rcases optI_ok hev hhi with ⟨e, _⟩ | ⟨kh, nh, e, e2⟩
                · cases e
                · cases e; exact ⟨kh, _, rfl, e2⟩
              subst e1; subst e3
              rw [e2, e4, run_sliceAt_slice w t x _ _ _ hsl]
              cases hph : rg.ph with
              | true =>
                obtain ⟨e1, rfl⟩ := hp1 hph
                subst e1
                have hrun := run_slice_any (P := P) w t none 0 0 hsl (lo.map a.eval) (some (.int kh h')) (some (.int km m'))
                rw [run_sliceBounds_max (P := P) (optI_ok hev hlo) kh km h' m' hb1 hb2 hb3 (by omega) w, Result.andThen_ok, hel, hs, Result.andThen_ok] at hrun
                refine ⟨_, hrun, rg, hr, by rw [addN_eq]; omega, fun _ => ⟨by omega, ?_⟩, fun e => by rw [hph] at e; cases e⟩
                simp only [sliced, Option.map_none]
                rw [show h'.toNat - (lo'.getD 0).toNat = 0 by omega, show m'.toNat - (lo'.getD 0).toNat = 0 by omega]
                simp
              | false =>
                obtain ⟨hlc, ad, rfl, had⟩ := hp2 hph
                have hrun := run_slice_any (P := P) w t (some ad) len (cap.getD (rg.cp - k)) hsl (lo.map a.eval) (some (.int kh h')) (some (.int km m'))
                rw [run_sliceBounds_max (P := P) (optI_ok hev hlo) kh km h' m' hb1 hb2 hb3 (by omega) w, Result.andThen_ok, hel, hs, Result.andThen_ok] at hrun
                refine ⟨_, hrun, rg, hr, by rw [addN_eq]; omega, fun e => (by rw [hph] at e; cases e), fun _ => ⟨by simp only [Option.getD_some]; omega, ?_⟩⟩
                simp only [sliced, Option.getD_some]
                by_cases hz : m'.toNat = (lo'.getD 0).toNat
                · rw [if_pos hz]
                  exact ⟨ad, rfl, fun e => absurd hz (by omega)⟩
                · rw [if_neg hz]
                  refine ⟨_, rfl, fun _ => ?_⟩
                  rw [had (by omega), addN_eq]
                  show Addr.add _ _ = _
                  rw [Addr.add_lit]
                  congr 1
                  rw [show sz.succ = rg.m by have := hob.m hph; omega, Nat.add_mul]
                  omega
            · cases h
          · cases h
        · cases h
      · cases h
    · rename_i l
      have hu : x = .string ⟨l.toArray⟩ := hu
      subst hu
      split at h
      · rename_i lo' hi' hk hlo hhi hmx
        cases h
        rw [hk] at hty
        dsimp only at hty
        have hb := hc _ rfl
        simp only [Bool.and_eq_true, decide_eq_true_eq] at hb
        obtain ⟨⟨hb1, hb2⟩, hb3⟩ := hb
        have hmx' : mx.map a.eval = none := by
          rcases optI_ok hev hmx with ⟨_, e⟩ | ⟨_, _, e, _⟩
          · exact e
          · cases e
        rw [hmx', run_sliceAt_string w t _ _ _ _ hty]
        refine ⟨.string ((⟨l.toArray⟩ : ByteArray).extract (lo'.getD 0).toNat (hi'.getD l.length).toNat), ?_, ?_⟩
        · have hrun := run_sliceBounds_of (P := P) (b := false) (len := l.length) (cap := l.length) (optI_ok hev hlo) (optI_ok hev hhi) hb1 hb2 hb3 (Nat.le_refl _) w
          have hsz : (⟨l.toArray⟩ : ByteArray).size = l.length := rfl
          simp [Instr.slice, run_underlying hty, hsz, hrun]
        · show Value.string _ = Value.string _
          congr 1
          apply ByteArray.ext
          rw [ByteArray.data_extract]
          simp
      · cases h
    · cases h
  · cases h

def minmax (g : Bool) : Value → Value → Sem Value := match g with | true => Builtin.max2 | false => Builtin.min2

theorem maxV_val {g : Bool} (w : World) (l : List V) : ∀ {us : List Value} {x : V} {u : Value} {c : Option Bool} {r : V}, maxV g x l = .val c r → VR ρ x u → VRL ρ l us →
    ∃ z, (us.foldlM (minmax g) u).run P w = .ok z w ∧ VR ρ r z ∧ c = none := by
  induction l with
  | nil =>
    intro us x u c r h hx hl
    cases hl
    simp only [maxV, R.val.injEq] at h
    obtain ⟨rfl, rfl⟩ := h
    exact ⟨u, by simp, hx, rfl⟩
  | cons y l ih =>
    intro us x u c r h hx hl
    obtain ⟨y', us', rfl, hy, hl'⟩ := hl
    unfold maxV at h
    split at h
    · rename_i heq; cases heq
    · rename_i k n k' n' r' heq
      cases heq
      have hx : u = .int k n := hx
      have hy : y' = .int k' n' := hy
      subst hx; subst hy
      split at h
      · obtain ⟨z, hz, hv⟩ := ih (us := us') (u := .int k (imax g n n')) h rfl hl'
        refine ⟨z, ?_, hv⟩
        rw [List.foldlM_cons, Sem.run_bind, ← hz]
        have hm : (minmax g (.int k n) (.int k' n')).run P w = .ok (.int k (imax g n n')) w := by
          cases g
          · by_cases h : n' < n <;> simp [minmax, Builtin.min2, imax, h]
          · by_cases h : n < n' <;> simp [minmax, Builtin.max2, imax, h]
        rw [hm, Result.andThen_ok]
      · cases h
    · cases h

theorem evOp_val (hE : E.Ok P) (hh : HV E.G ρ hp w) (ht : TR ρ tm a) {o : Oper} {c : Option Bool} {v : V} (h : evOp E tm hp o.op = .val c v) (hc : ∀ b, c = some b → b = true) :
    ValOk P ρ w a o v := by
  have hev := fun x => evA_ok (w := w) ht hh x
  obtain ⟨dst, op, ty, pos, after, guard⟩ := o
  dsimp only at h
  unfold evOp at h
  split at h
  case h_1 x => cases h; exact ⟨_, rfl, hev x⟩
  case h_2 x => cases h; exact ⟨_, rfl, hev x⟩
  case h_3 cc x y =>
    obtain ⟨b, hb, hv⟩ := pick_ok (hev cc) (hev x) (hev y) h hc
    exact ⟨_, by simp [execOp, hb, asBool], hv⟩
  case h_4 t x => (split at h <;> (try split at h)) <;> cases h
  case h_5 t => split at h <;> cases h
  case h_6 t x =>
    -- load
    split at h
    · rename_i v' hl
      cases h
      obtain ⟨ad, u, hx, hu, hvu⟩ := loadV_ok hE hh (hev x) hl
      exact .mk (u := u) rfl (by rw [hx]; simpa [Instr.loadAt, Instr.sureAddr] using hu) hvu
    · cases h
  case h_7 t x y =>
    split at h
    · split at h
      · split at h
        · cases h
        · split at h <;> cases h
      · cases h
    · cases h
  case h_8 t x i =>
    -- fieldAddr
    have hx := hev x
    split at h
    · rename_i b k j he
      rw [he] at hx
      split at h
      · rename_i T hT
        have hty := hE.ty t T hT
        split at h
        · rename_i offs hk
          have hu := hty.und
          rw [hk] at hu
          obtain ⟨fs, hu, hmap, _⟩ := hu
          split at h
          · rename_i o t' ho
            split at h
            · rename_i n hn
              cases h
              obtain ⟨r, hr, hp0, hk2, he2⟩ := hx
              have hf : ∃ f, fs[i]? = some f ∧ f.offset = o ∧ f.type = t' := by
                rw [← hmap] at ho
                simp only [List.getElem?_map, Option.map_eq_some_iff] at ho
                obtain ⟨f, hf, hf2⟩ := ho
                simp only [Prod.mk.injEq] at hf2
                exact ⟨f, by simpa using hf, hf2.1, hf2.2⟩
              obtain ⟨f, hf, rfl, rfl⟩ := hf
              have hsz := (szOf_some (P := P) hE hn).1 w
              refine .mk (u := .pointer (some ⟨r.blk, r.base + k * r.m + j + f.offset, none⟩)) rfl ?_ ⟨r, hr, hp0, hk2, by rw [addN_eq, Nat.add_assoc]⟩
              rw [he2]
              simp [Instr.fieldAt, Instr.sureAddr, run_underlying hu, hf, fieldPlace, hsz, Addr.add_lit]
            · cases h
          · cases h
        · cases h
      · cases h
    · cases h
  case h_9 t x i =>
    -- indexAddr
    have hx := hev x
    have hi := hev i
    split at h
    · rename_i b k len cap ik n he hei
      rw [he] at hx
      rw [hei] at hi
      split at h
      · rename_i T hT
        have hty := hE.ty t T hT
        split at h
        · rename_i e hk
          have hu := hty.und
          rw [hk] at hu
          dsimp only at hu
          split at h
          · rename_i sz hsz
            split at h
            · rename_i hw
              cases h
              have hw := Nat.eq_of_beq_eq_true hw
              have hb := hc _ rfl
              simp only [Bool.and_eq_true, decide_eq_true_eq] at hb
              obtain ⟨r, hr, hkl, hp1, hp2⟩ := hx
              have hal : getO E.G hp b ≠ .gone := fun e => by rw [e] at hw; simp [O.wid] at hw
              have hph : r.ph = false := by
                cases hq : r.ph with
                | false => rfl
                | true => have := (hp1 hq).1; omega
              obtain ⟨hlc, ad, hx, had⟩ := hp2 hph
              rw [had (by omega)] at hx
              have hs := (szOf_some (P := P) hE hsz).1 w
              have hm := (hh.blocks b r hr hal (fun e => by rw [e] at hw; simp [O.wid] at hw)).m hph
              have hel : P.elem t = e := by simp [Program.elem, hu]
              have hidx : ((n.toNat : Nat) : Int) = n := Int.toNat_of_nonneg hb.1
              have hrun := run_indexAt_slice (P := P) w t ⟨r.blk, r.base + k * r.m, none⟩ len (cap.getD (r.cp - k)) ik n (by rw [hel]; exact hu)
              rw [if_pos ⟨hb.1, hb.2⟩, hel, hs] at hrun
              refine .mk (u := .pointer (some ⟨r.blk, r.base + (k + n.toNat) * r.m + 0, none⟩)) rfl ?_ ⟨r, hr, hph, by rw [addN_eq]; omega, by rw [addN_eq]⟩
              rw [hx, show a.eval i = .int ik n from hi, hrun]
              simp only [Result.andThen_ok, Addr.add_lit]
              congr 4
              rw [show sz.succ = r.m by omega, Nat.add_mul]
              omega
            · cases h
          · cases h
        · cases h
      · cases h
    · cases h
  case h_10 bop t x y t' =>
    have hx := hev x
    have hy := hev y
    split at h
    · rename_i k p k' q he he'
      rw [he] at hx
      rw [he'] at hy
      have hx : a.eval x = .int k p := hx
      have hy : a.eval y = .int k' q := hy
      split at h
      · rename_i hs
        obtain ⟨u, hu, hv⟩ := shf_ok (ρ := ρ) (P := P) hs (k' := k') h hc t x y w
        exact .mk (s := do eqGuard bop t x y (a.eval x) (a.eval y); binOp bop t (a.eval x) (a.eval y)) rfl (by rw [hx, hy]; exact hu) hv
      · rename_i hs
        split at h
        · rename_i hk
          obtain rfl : k = k' := of_decide_eq_true hk
          obtain ⟨u, hu, hv⟩ := bin_ok (ρ := ρ) (P := P) hs h hc t x y w
          exact .mk (s := do eqGuard bop t x y (a.eval x) (a.eval y); binOp bop t (a.eval x) (a.eval y)) rfl (by rw [hx, hy]; exact hu) hv
        · cases h
    · obtain ⟨u, hu, hv⟩ := binX_val hE hx hy h hc x y w
      exact .mk (s := do eqGuard bop t x y (a.eval x) (a.eval y); binOp bop t (a.eval x) (a.eval y)) rfl hu hv
  case h_11 t x =>
    have hx := hev x
    split at h
    · rename_i b he
      rw [he] at hx
      cases h
      have hx : a.eval x = .bool b := hx
      exact .mk (u := .bool !b) rfl (by rw [hx]; simp [Op.unary]) rfl
    · rename_i b he
      rw [he] at hx
      cases h
      have hx : a.eval x = .bool b := hx
      exact .mk (u := .bool !b) rfl (by rw [hx]; simp [Op.unary]) rfl
    · cases h
  case h_12 t x =>
    have hx := hev x
    split at h
    · rename_i k n he
      rw [he] at hx
      cases h
      have hx : a.eval x = .int k n := hx
      exact .mk (u := .int k (k.wrap (0 - n))) rfl (by rw [hx]; simp [Op.unary, Op.intArith]) rfl
    · cases h
  case h_13 x i =>
    have hx := hev x
    split at h
    · rename_i l he
      rw [he] at hx
      split at h
      · rename_i v' hv'
        cases h
        obtain ⟨us, hu, hus⟩ := hx
        obtain ⟨u, hu2, hvu⟩ := hus.get i _ hv'
        refine .mk (u := u) rfl ?_ hvu
        rw [hu]
        simp [Instr.extract, hu2]
      · cases h
    · cases h
  case h_14 t parts =>
    split at h
    · rename_i T hT
      have hty := hE.ty t T hT
      split at h
      · rename_i offs hk
        have hu := hty.und
        rw [hk] at hu
        obtain ⟨fs, hu, hmap, hpl⟩ := hu
        obtain ⟨i, z, hi, hsz, _, hz, hzero⟩ := hty.info
        split at h
        · rename_i l hl
          cases h
          have hps : ∀ i : Nat, (∀ p : Nat × V, (parts.toList.map fun p => (p.1, evA E tm p.2))[i]? = some p → ∃ u, (parts.toList.map fun p => (p.1, a.eval p.2))[i]? = some (p.1, u) ∧ VR ρ p.2 u) ∧
              ((parts.toList.map fun p => (p.1, evA E tm p.2))[i]? = none → (parts.toList.map fun p => (p.1, a.eval p.2))[i]? = none) := by
            intro i
            simp only [List.getElem?_map]
            cases parts.toList[i]? with
            | none => simp
            | some q =>
              simp only [Option.map_some, Option.some.injEq, reduceCtorEq, false_implies, and_true]
              rintro p rfl
              exact ⟨_, rfl, hev q.2⟩
          obtain ⟨cs', hf, hr⟩ := build_ok (P := P) (ρ := ρ) hE _ _ _ _ z.cells hps (hzero ρ) hl
          refine .mk (u := .agg cs') rfl (run_build w t _ cs' ?_) ⟨cs'.toList, by simp, hr⟩
          have hpl2 : fs.toList.mapM (fun f => (P.info? f.type).map fun i => (f.offset, i.size)) = some (offs.map fun p => (p.1, P.cellsOf p.2)) := hpl
          simp only [Program.built, hi, hu, hz, hpl2, Array.toList_map]
          exact hf
        · cases h
      · cases h
    · cases h
  case h_15 t x lo hi mx =>
    have hx := hev x
    split at h
    · rename_i b he
      rw [he] at hx
      split at h
      · rename_i T hT
        have hty := hE.ty t T hT
        split at h
        · rename_i n e hk
          have hu := hty.und
          rw [hk] at hu
          dsimp only at hu
          split at h
          · rename_i sz hsz
            split at h
            · rename_i hw
              cases h
              simp only [Bool.and_eq_true] at hw
              have hw1 := Nat.eq_of_beq_eq_true hw.1
              have hw2 := Nat.eq_of_beq_eq_true hw.2
              obtain ⟨r, hr, hph, hk2, hx⟩ := hx
              have hel : P.elem t = e := by simp [Program.elem, hu]
              have hal : P.arrayLen t = n := by simp [Program.arrayLen, hu]
              have hs := (szOf_some (P := P) hE hsz).1 w
              have halv : getO E.G hp b ≠ .gone := fun e => by rw [e] at hw1; simp [O.wid] at hw1
              have hn := (hh.blocks b r hr halv (fun e => by rw [e] at hw1; simp [O.wid] at hw1)).n
              refine .mk (u := .slice (some ⟨r.blk, r.base, none⟩) n n) rfl ?_ ⟨r, hr, by omega, fun e => absurd (hph.symm.trans e) (by simp), fun _ => ⟨by simp, ⟨r.blk, r.base, none⟩, by simp, fun _ => by simp⟩⟩
              have hrun := run_sliceAt_array_all (P := P) w t ⟨r.blk, r.base + 0 * r.m + 0, none⟩ (by rw [hel, hal]; exact hu)
              rw [hel, hal, hs] at hrun
              rw [hx]
              simpa [slicedAt, Addr.add] using hrun
            · cases h
          · cases h
        · cases h
      · cases h
    · obtain ⟨z, hz, hv⟩ := slX_val hE hh hev hx h hc
      exact ValOk.mk (s := Instr.sliceAt t (a.eval x) _ _ _) rfl hz hv
  case h_16 cl =>
    split at h
    · cases h
    · rename_i hcal
      split at h
      · rename_i x t hx ht'
        split at h
        · rename_i T hT
          have hty := hE.ty t T hT
          have hu := hty.und
          have hxx := hev x
          have hargs : cl.args = #[x] := by cases cl with | mk c as ts => exact Array.toList_inj.1 hx
          have htys : cl.argTypes = #[t] := by cases cl with | mk c as ts => exact Array.toList_inj.1 ht'
          split at h
          · rename_i e b k n cap hk he
            cases h
            rw [he] at hxx
            rw [hk] at hu
            dsimp only at hu
            obtain ⟨r, hr, hkl, hp1, hp2⟩ := hxx
            have : ∃ a0 c0, a.eval x = .slice a0 n c0 := by
              cases hq : r.ph with
              | true => exact ⟨none, 0, by rw [(hp1 hq).2, (hp1 hq).1]⟩
              | false => obtain ⟨ad, e, _⟩ := (hp2 hq).2; exact ⟨_, _, e⟩
            obtain ⟨a0, c0, hxv⟩ := this
            refine ⟨.int .i64 n, ?_, rfl⟩
            simp [execOp, resolve, hcal, hargs, htys, hxv, invoke, builtin, Builtin.len_, run_underlying hu, goInt]
          · rename_i e hk he
            cases h
            rw [he] at hxx
            rw [hk] at hu
            dsimp only at hu
            have hxv : a.eval x = .slice none 0 0 := hxx
            refine ⟨.int .i64 0, ?_, rfl⟩
            simp [execOp, resolve, hcal, hargs, htys, hxv, invoke, builtin, Builtin.len_, run_underlying hu, goInt]
          · rename_i l hk he
            cases h
            rw [he] at hxx
            rw [hk] at hu
            dsimp only at hu
            have hxv : a.eval x = .string ⟨l.toArray⟩ := hxx
            refine ⟨.int .i64 l.length, ?_, rfl⟩
            have hrun := run_len_string (P := P) w t ty ⟨l.toArray⟩ hu
            have hgo : goInt ((⟨l.toArray⟩ : ByteArray).size) = .int .i64 l.length := rfl
            rw [hgo] at hrun
            simp [execOp, resolve, hcal, hargs, htys, hxv, invoke, builtin, hrun]
          · cases h
        · cases h
      · cases h
    · -- append
      split at h
      · split at h
        · exact (nv_app h rfl).elim
        · cases h
      · cases h
    · rename_i hcal
      split at h
      · rename_i x r hx
        obtain ⟨z, hz, hv, rfl⟩ := maxV_val (P := P) (ρ := ρ) w (r.map (evA E tm)) h (hev x) (VRL.map _ _ r fun x _ => hev x)
        have hargs : cl.args = (x :: r).toArray := by cases cl with | mk c as ts => exact Array.toList_inj.1 (by simpa using hx)
        refine ⟨z, ?_, hv⟩
        simp only [minmax] at hz
        simp [execOp, resolve, hcal, hargs, invoke, builtin, Builtin.max_, hz]
      · cases h
    · rename_i hcal
      split at h
      · rename_i x r hx
        obtain ⟨z, hz, hv, rfl⟩ := maxV_val (P := P) (ρ := ρ) w (r.map (evA E tm)) h (hev x) (VRL.map _ _ r fun x _ => hev x)
        have hargs : cl.args = (x :: r).toArray := by cases cl with | mk c as ts => exact Array.toList_inj.1 (by simpa using hx)
        refine ⟨z, ?_, hv⟩
        simp only [minmax] at hz
        simp [execOp, resolve, hcal, hargs, invoke, builtin, Builtin.min_, hz]
      · cases h
    · cases h
  case h_17 s d x =>
    split at h
    · rename_i S D hS hD
      have hx := hev x
      have hs : ∃ ds, P.underlying s = some ds := by
        have hu := (hE.ty s S hS).und
        cases hk : S.kd <;> rw [hk] at hu <;> dsimp only at hu
        case struct => obtain ⟨fs, hu, _⟩ := hu; exact ⟨_, hu⟩
        case func => obtain ⟨_, _, _, hu⟩ := hu; exact ⟨_, hu⟩
        case other => obtain ⟨_, hu, _⟩ := hu; exact ⟨_, hu⟩
        all_goals exact ⟨_, hu⟩
      obtain ⟨ds, hs⟩ := hs
      have hd := (hE.ty d D hD).und
      split at h
      · rename_i k k' n hk he
        cases h
        rw [he] at hx
        rw [hk] at hd
        dsimp only at hd
        refine .mk (u := .int k (k.wrap n)) rfl ?_ rfl
        rw [show a.eval x = .int k' n from hx]
        simp [convert, run_underlying hs, run_underlying hd, Conv.intToInt]
      · rename_i l hk he
        cases h
        rw [he] at hx
        rw [hk] at hd
        dsimp only at hd
        refine .mk (u := .string ⟨l.toArray⟩) rfl ?_ rfl
        rw [show a.eval x = .string ⟨l.toArray⟩ from hx]
        simp [convert, run_underlying hs, run_underlying hd]
      · cases h
    · cases h
  case h_18 t x i =>
    split at h
    · rename_i T hT
      have hu := (hE.ty t T hT).und
      have hx := hev x
      have hi := hev i
      split at h
      · rename_i l k n hk he hei
        cases h
        rw [he] at hx
        rw [hei] at hi
        rw [hk] at hu
        dsimp only at hu
        have hb := hc _ rfl
        simp only [Bool.and_eq_true, decide_eq_true_eq] at hb
        have hsz : (⟨l.toArray⟩ : ByteArray).size = l.length := rfl
        have hrun := run_index_string (P := P) w t ⟨l.toArray⟩ k n hu
        rw [dif_pos ⟨hb.1, by rw [hsz]; exact hb.2⟩] at hrun
        refine .mk (u := .int .u8 (l.getD n.toNat 0).toNat) rfl ?_ rfl
        rw [show a.eval x = .string ⟨l.toArray⟩ from hx, show a.eval i = .int k n from hi, hrun]
        have hlt : n.toNat < l.length := by omega
        congr 3
        have : (⟨l.toArray⟩ : ByteArray)[n.toNat]'(by rw [hsz]; exact hlt) = l.toArray[n.toNat]'(by simpa using hlt) := rfl
        rw [this]
        simp [List.getD, hlt]
      · cases h
    · cases h
  case h_19 t x =>
    have hx := hev x
    split at h
    · rename_i k n he
      rw [he] at hx
      cases h
      have hx : a.eval x = .int k n := hx
      refine .mk (u := .int k (band .xor k (match k.signed with | true => -1 | false => k.max) n)) rfl ?_ rfl
      rw [hx]
      cases hk : k.signed <;> simp [Op.unary, Op.intBits, band, hk]
    · cases h
  case h_20 fn first caps =>
    split at h
    · rename_i f hf
      cases h
      have : first = #[] := Array.toList_inj.1 hf
      subst this
      refine ⟨.func (.func f) #[] (caps.map a.eval), ?_, (caps.toList.map a.eval), ?_, VRL.map _ _ _ fun x _ => hev x⟩
      · simp [execOp, Instr.makeFunc]
      · congr 1; apply Array.ext'; simp
    · cases h
  case h_21 t n parts =>
    (repeat' split at h) <;> cases h
  case h_22 => cases h

theorem evOp_call {op : Op} {f : V} {args : List V} (h : evOp E tm hp op = .call f args) : ∃ cl f0, op = .call cl ∧ cl.callee = .value f0 ∧ f = evA E tm f0 ∧ args = cl.args.toList.map (evA E tm) := by
  unfold evOp at h
  split at h
  case h_1 | h_2 => cases h
  case h_3 => unfold pickV at h; (repeat' split at h) <;> cases h
  case h_10 =>
    (repeat' split at h) <;> first | cases h | exact (nv_bin h rfl).elim | skip
    · unfold shf at h; split at h <;> cases h
    · unfold bin at h; split at h <;> cases h
  case h_16 cl =>
    split at h
    · rename_i f0 hc
      cases h
      exact ⟨cl, f0, rfl, hc, rfl, rfl⟩
    all_goals ((repeat' split at h) <;> first | cases h | exact (nv_max h rfl).elim | exact (nv_app h rfl).elim)
  all_goals ((repeat' split at h) <;> first | cases h | exact (nv_sl h rfl).elim)

theorem pick_br {cv xv yv : V} {c x y : Value} (hc : VR ρ cv c) (hx : VR ρ xv x) (hy : VR ρ yv y) {b : Bool} {v1 v2 : V} (h : pickV cv xv yv = .br b v1 v2) :
    c = .bool b ∧ (b = true → VR ρ v1 x) ∧ (b = false → VR ρ v2 y) := by
  unfold pickV at h
  split at h
  · split at h <;> cases h
  · split at h <;> cases h
  · split at h <;> cases h
    exact ⟨hc, fun _ => hx, fun _ => hy⟩
  · cases h

theorem evOp_br (hh : HV E.G ρ hp w) (ht : TR ρ tm a) {o : Oper} {b : Bool} {x y : V} (h : evOp E tm hp o.op = .br b x y) :
    ∃ u, (execOp a.eval o).run P w = .ok (.value u) w ∧ (b = true → VR ρ x u) ∧ (b = false → VR ρ y u) := by
  have hev := fun x => evA_ok (w := w) ht hh x
  obtain ⟨dst, op, ty, pos, after, guard⟩ := o
  dsimp only at h
  unfold evOp at h
  split at h
  case h_1 | h_2 => cases h
  case h_3 cc p q =>
    obtain ⟨hb, h1, h2⟩ := pick_br (hev cc) (hev p) (hev q) h
    refine ⟨if b then a.eval p else a.eval q, by simp [execOp, hb, asBool], fun e => ?_, fun e => ?_⟩
    · subst e; exact h1 rfl
    · subst e; exact h2 rfl
  case h_10 =>
    (repeat' split at h) <;> first | cases h | exact (nv_bin h rfl).elim | skip
    · unfold shf at h; split at h <;> cases h
    · unfold bin at h; split at h <;> cases h
  all_goals ((repeat' split at h) <;> first | cases h | exact (nv_sl h rfl).elim | exact (nv_max h rfl).elim | exact (nv_app h rfl).elim)

end
end Go.Ab
