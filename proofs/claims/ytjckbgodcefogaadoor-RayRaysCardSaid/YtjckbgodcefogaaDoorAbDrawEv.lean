/- An evaluator of the model on values that are partly known, and its soundness (part AbDrawEv); no condition. -/
import Derived.Test.YtjckbgodcefogaaDoorAbSched2
namespace Go.Ab
open Go.RowKit

variable {E : Env} {P : Program} {ops : Array Oper} {N : Nat}

/-! ### What the evaluation of a drawn region gives -/

theorem Le.at_ {G hp hpX : List O} (h : Le G hp hpX) {b : Nat} {o : O} (e : getO G hp b = o) (h1 : o ≠ .gone) (h2 : o ≠ .rsv) : getO G hpX b = o := by
  rw [h b (by rw [e]; exact h1) (by rw [e]; exact h2), e]

mutual
theorem canon_le {hp hpX : List O} (h : Le E.G hp hpX) : ∀ (v : V) (acc : List O) (r : V × List O), canon E hp v acc = some r → canon E hpX v acc = some r
  | .sl b k len cap, acc, r, e => by
    simp only [canon] at e ⊢
    split at e
    · rename_i ww kd zs ho; rw [h.at_ ho (by simp) (by simp)]; exact e
    · rename_i ww ks rs ho; rw [h.at_ ho (by simp) (by simp)]; exact e
    · rename_i ww m rs ho; rw [h.at_ ho (by simp) (by simp)]; exact e
    · cases e
  | .fn f l, acc, r, e => by
    simp only [canon] at e ⊢
    split at e
    · rename_i l' a' h'; rw [canonL_le h l acc _ h']; exact e
    · cases e
  | .agg l, acc, r, e => by
    simp only [canon] at e ⊢
    split at e
    · rename_i l' a' h'; rw [canonL_le h l acc _ h']; exact e
    · cases e
  | .lit _, _, _, e => by simp only [canon] at e ⊢; exact e
  | .bool _, _, _, e => by simp only [canon] at e ⊢; exact e
  | .int _ _, _, _, e => by simp only [canon] at e ⊢; exact e
  | .str _, _, _, e => by simp only [canon] at e ⊢; exact e
  | .nils, _, _, e => by simp only [canon] at e ⊢; exact e
  | .ptr _ _ _, _, _, e => by simp only [canon] at e; cases e
  | .nilp, _, _, e => by simp only [canon] at e; cases e
  | .nilf, _, _, e => by simp only [canon] at e; cases e
  | .yl _, _, _, e => by simp only [canon] at e; cases e
  | .tup _, _, _, e => by simp only [canon] at e; cases e
  | .nili, _, _, e => by simp only [canon] at e; cases e
  | .when _ _, _, _, e => by simp only [canon] at e; cases e
  | .junk, _, _, e => by simp only [canon] at e; cases e
theorem canonL_le {hp hpX : List O} (h : Le E.G hp hpX) : ∀ (l : List V) (acc : List O) (r : List V × List O), canonL E hp l acc = some r → canonL E hpX l acc = some r
  | [], acc, r, e => by simp only [canonL] at e ⊢; exact e
  | v :: l, acc, r, e => by
    simp only [canonL] at e ⊢
    split at e
    · rename_i v1 a1 h1
      rw [canon_le h v acc _ h1]
      dsimp only
      split at e
      · rename_i l2 a2 h2; rw [canonL_le h l a1 _ h2]; exact e
      · cases e
    · cases e
end

theorem pfPlain_le {hp hpX : List O} (h : Le E.G hp hpX) (hl : hpX.length = hp.length) {f : V} {args : List V} {v : Bool × V} (e : pfPlain E hp f args = some v) : pfPlain E hpX f args = some v := by
  unfold pfPlain at e ⊢
  split at e
  · split at e
    · rename_i a h0 hcan
      rw [canonL_le h _ _ _ hcan, hl]
      exact e
    · cases e
  · cases e

/-- calls that contracts answer -/
def PgOk (E : Env) (P : Program) : Prop := ∀ (hp : List O) (g : FuncId) (caps args a : List V) (h : List O) (c : Bool) (v0 v' : V) (new : List O),
  canonL E hp (args ++ caps) [] = some (a, h) → E.pf g a h = some (c, v0, new) → c = true → V.shift h.length hp.length v0 = some v' → new.all O.isData = true → hp.length + new.length + 1 < gbase → h.length + new.length < gbase →
  CallGood E.G P (.fn g caps) args hp fun x hp' => x = v' ∧ hp' = hp ++ new

theorem mem_names {all : List Oper} {o : Oper} {i d : Nat} {want : Bool} (hg : o.guard = some (i, want)) (hd : dstOf all i = some d) : d ∈ names all o := by
  simp [names, hg, hd]

theorem evOp_defer {tm : Tm} {hp : List O} {c : Call} : evOp E tm hp (.defer c) = .bad := by simp only [evOp]

theorem not_defer {tm : Tm} {hp : List O} {o : Oper} {r : R} (he : evOp E tm hp o.op = r) (hr : r ≠ .bad) (c : Call) : o.op ≠ .defer c := fun h => by
  rw [h, evOp_defer] at he; exact hr he.symm

theorem semQ_val (hE : E.Ok P) {o : Oper} {tm : Tm} {hp : List O} {c : Option Bool} {v : V} (he : evOp E tm hp o.op = .val c v) (hc : ∀ b, c = some b → b = true) (hg : o.guard = none) : SemQ E P ops ⟨o, tm, hp, v, .none⟩ := by
  refine ⟨rfl, not_defer he (by simp), fun ρ a w ht hh => ⟨fun _ => ?_, fun hw => ?_⟩⟩
  · exact evOp_val hE hh ht (by rw [evOp_restr]; exact he) hc
  · rw [wanted_none hg] at hw; cases hw

theorem semQ_br {o : Oper} {tm : Tm} {hp : List O} {b : Bool} {x y v : V} (he : evOp E tm hp o.op = .br b x y) (hv : v = bif b then x else y) (hg : o.guard = none) : SemQ E P ops ⟨o, tm, hp, v, .none⟩ := by
  refine ⟨rfl, not_defer he (by simp), fun ρ a w ht hh => ⟨fun _ => ?_, fun hw => ?_⟩⟩
  · obtain ⟨u, h1, h2, h3⟩ := evOp_br (P := P) hh ht (by rw [evOp_restr]; exact he)
    refine ⟨u, h1, ?_⟩
    subst hv
    cases b
    · exact h3 rfl
    · exact h2 rfl
  · rw [wanted_none hg] at hw; cases hw

theorem tr_un {g : Bool} {ns : List Nat} {tm tm' : Tm} {ρ : Ren} {a : Act} (hun : g = true → ∀ ρ t u, VR ρ (look tm t) u → VR ρ (look tm' t) u) (hg : g = true) (ht : TR ρ (restr ns tm) a) : TR ρ (restr ns tm') a := fun t => by
  have := ht t
  rw [look_restr] at this ⊢
  split
  · rename_i hm; rw [if_pos hm] at this; exact hun hg ρ t _ this
  · trivial

/-- an operation under a guard -/
structure Grd (ops : Array Oper) (o : Oper) (tm : Tm) (g : Bool) : Prop where
  ex : ∃ (E : Env) (i : Nat) (want : Bool) (d : Nat), o.guard = some (i, want) ∧ dstOf ops.toList i = some d ∧ match gvalE E (look tm d) want with | .yes => g = true | .no => g = false | .grd b => g = b | .bad => False

theorem Grd.wanted {o : Oper} {tm : Tm} {g : Bool} (h : Grd ops o tm g) {ρ : Ren} {a : Act} (ht : TR ρ (restr (names ops.toList o) tm) a) : Region.wanted o (yielded ops a.tmps) = g := by
  obtain ⟨E, i, want, d, h1, h2, h3⟩ := h.ex
  have := ht d
  rw [look_restr, if_pos (mem_names h1 h2)] at this
  have hgv := gvalE_ok (E := E) (o := o) h1 h2 this
  cases hx : gvalE E (look tm d) want <;> rw [hx] at h3 hgv <;> simp_all

theorem semQ_grd (hE : E.Ok P) {o : Oper} {tm tm' : Tm} {hp : List O} {c : Option Bool} {v : V} {g : Bool} (hg : Grd ops o tm g) (hun : g = true → ∀ ρ t u, VR ρ (look tm t) u → VR ρ (look tm' t) u)
    (he : evOp E tm' hp o.op = .val c v) (hc : ∀ b, c = some b → g = true → b = true) : SemQ E P ops ⟨o, tm, hp, .when g v, .none⟩ := by
  refine ⟨rfl, not_defer he (by simp), fun ρ a w ht hh => ⟨fun hw => ?_, fun hw => ?_⟩⟩
  · rw [hg.wanted ht] at hw
    obtain ⟨u, h1, h2⟩ := evOp_val (P := P) hE hh (tr_un hun hw ht) (show evOp E (restr (names ops.toList o) tm') hp o.op = .val c v by rw [evOp_restr]; exact he) (fun b hb => hc b hb hw)
    exact ⟨u, h1, fun _ => h2, fun e => (by rw [hw] at e; cases e)⟩
  · rw [hg.wanted ht] at hw
    exact ⟨fun e => (by rw [hw] at e; cases e), fun _ => rfl⟩

theorem semQ_skip {o : Oper} {tm : Tm} {hp : List O} (hg : Grd ops o tm false) (hd : ∀ c, o.op ≠ .defer c) : SemQ E P ops ⟨o, tm, hp, .junk, .none⟩ := by
  refine ⟨rfl, hd, fun ρ a w ht hh => ⟨fun hw => ?_, fun hw => trivial⟩⟩
  rw [hg.wanted ht] at hw; cases hw

theorem evOp_call_hp {tm : Tm} {hp hpX : List O} {op : Op} {f : V} {args : List V} (h : evOp E tm hp op = .call f args) : evOp E tm hpX op = .call f args := by
  obtain ⟨cl, f0, rfl, hcal, rfl, rfl⟩ := evOp_call h
  obtain ⟨callee, args, tys⟩ := cl
  dsimp only at hcal
  subst hcal
  simp only [evOp]

theorem evOp_call_loud {tm : Tm} {hp : List O} {op : Op} {f : V} {args : List V} (h : evOp E tm hp op = .call f args) : loud op = true := by
  obtain ⟨cl, f0, rfl, hcal, rfl, rfl⟩ := evOp_call h
  obtain ⟨callee, args, tys⟩ := cl
  dsimp only at hcal
  subst hcal
  rfl

theorem semC_grd (hps : PsOk E P) {o : Oper} {tm tm' : Tm} {hp : List O} {f : V} {args : List V} {v : V} {g : Bool} (hg : Grd ops o tm g) (hun : g = true → ∀ ρ t u, VR ρ (look tm t) u → VR ρ (look tm' t) u)
    (he : evOp E tm' hp o.op = .call f args) {c : Bool} (hpf : pfPlain E hp f args = some (c, v)) (hc : g = true → c = true) : SemC E P ops N ⟨o, tm, hp, .when g v, .none⟩ := by
  refine ⟨rfl, evOp_call_loud he, fun tmX hpX hlen hLe B w0 S D gs ρ a w h ht => ⟨fun hw n ro next Qx hnext => ?_, fun hw => ?_⟩⟩
  · rw [hg.wanted ht] at hw
    refine call_step h (tm' := restr (names ops.toList o) tm') (evOp_call_hp (hp := hp) (by rw [evOp_restr]; exact he)) (tr_un hun hw ht) (hps _ _ _ _ _ (pfPlain_le hLe hlen hpf) (hc hw)) ?_
    rintro u w' ⟨v', hp', ρ', hv, hrel, hl, rfl, rfl⟩
    exact hnext u w' ρ' ⟨fun _ => hv, fun e => (by rw [hw] at e; cases e)⟩ hrel hl
  · rw [hg.wanted ht] at hw
    exact ⟨fun e => (by rw [hw] at e; cases e), fun _ => rfl⟩

theorem semL_call (hpg : PgOk E P) {o : Oper} {tm : Tm} {hp : List O} {g : FuncId} {caps args a : List V} {h0 : List O} {c : Bool} {v0 v' : V} {new : List O} (hgu : o.guard = none) (he : evOp E tm hp o.op = .call (.fn g caps) args)
    (hcan : canonL E hp (args ++ caps) [] = some (a, h0)) (hpf : E.pf g a h0 = some (c, v0, new)) (hc : c = true) (hsh : V.shift h0.length hp.length v0 = some v') (hdata : new.all O.isData = true) (h1 : hp.length + new.length + 1 < gbase) (h2 : h0.length + new.length < gbase) :
    SemL E P ops N ⟨o, tm, hp, v', .new new⟩ := by
  refine ⟨new, rfl, evOp_call_loud he, hgu, fun tmX hpX hlen hLe B w0 S D gs ρ a w n ro next Qx h ht hnext => ?_⟩
  refine call_step h (tm' := restr (names ops.toList o) tm) (evOp_call_hp (hp := hp) (by rw [evOp_restr]; exact he)) ht
    (hpg hpX g caps args _ h0 c v0 v' new (canonL_le hLe _ _ _ hcan) hpf hc (by dsimp only at hlen; rw [hlen]; exact hsh) hdata (by dsimp only at hlen; omega) h2) ?_
  rintro u w' ⟨v', hp', ρ', hv, hrel, hl, rfl, rfl⟩
  exact hnext u w' ρ' hv hrel hl

theorem semL_alloc (hE : E.Ok P) {o : Oper} {tm : Tm} {hp : List O} {ob : O} {mk : Nat → V} (hgu : o.guard = none) (he : evOp E tm hp o.op = .alloc ob mk) (hlo : loud o.op = true) (hlen : hp.length + 1 < gbase)
    (hind : ∀ hpX, evOp E tm hpX o.op = evOp E tm hp o.op) : SemL E P ops N ⟨o, tm, hp, mk hp.length, .new [ob]⟩ := by
  refine ⟨[ob], rfl, hlo, hgu, fun tmX hpX hl hLe B w0 S D gs ρ a w n ro next Qx h ht hnext => ?_⟩
  dsimp only at hl ht hnext ⊢
  have he' : evOp E (restr (names ops.toList o) tm) hpX o.op = .alloc ob mk := by rw [evOp_restr, hind, he]
  obtain ⟨us, t, u, hrun, hnew, hmk⟩ := evOp_alloc hE h.hr ht he'
  have hfree := h.hr.free hpX.length (Nat.le_refl _) (by omega)
  have hle := Ren.le_add hfree (newRg ob w.heap.size ob.len)
  have hBw : B ≤ w.heap.size := Nat.le_trans h.bs h.bel.size
  obtain ⟨hr', hl'⟩ := h.hr.extend (w' := w.alloc (.cells us.toArray t)) (r := newRg ob w.heap.size ob.len) (by simp) (fun k hk => heap_alloc_old w _ hk) (OR.new (hnew.mono hle) w t) (fun _ _ => hBw) (fun _ _ => Nat.le_refl _)
    (fun _ b x hx ho hp0 => Nat.ne_of_lt ((h.hr.blocks b x hx (fun e => by rw [e] at ho; simp [O.own] at ho)).lt hp0)) (by omega)
  have hk := KeepsOthers.alloc w (.cells us.toArray t)
  obtain ⟨ms, hd1, hd2, hd3⟩ := h.df
  refine uponIn_value he' (by simp) hrun (hnext u _ _ ?_ ⟨h.tr.mono hl', hr', h.bel.alloc hBw _, h.sz, ⟨ms, hd1, hd2.keeps hk, hd3⟩, h.gs.keeps hk, h.bs, h.ss, Nat.le_trans h.sw hk.size⟩ hl')
  rw [← hl]
  exact hmk _ _ (Ren.add_same _ _ _)

theorem semA_alloc (hE : E.Ok P) {o : Oper} {tm : Tm} {hp : List O} {t : TypeId} {ty : Ty} (hgu : o.guard = none) (ho : o.op = .alloc t) (ht : assoc E.ty t = some ty) (id : Nat) :
    SemA E P id ty.zero ⟨o, tm, hp, .ptr id 0 0, .set id (.cells true ty.zero)⟩ := by
  obtain ⟨i, z, hi, hsz, _, hz, hzero⟩ := (hE.ty t ty ht).info
  refine ⟨rfl, hgu, fun c hc => (by dsimp only at hc; rw [ho] at hc; cases hc), fun a w => ⟨z.cells.toList, t, ?_, fun ρ => NewOk.cells (hzero ρ)⟩⟩
  dsimp only
  obtain ⟨dst, op, ty', pos, after, guard⟩ := o
  dsimp only at ho
  subst ho
  simp [execOp, Instr.alloc, zeroValue, typeInfo, hi, hz, newVar, newRow]

theorem putCells_app : ∀ (vs pre l : List V), l.length = vs.length → putCells (pre ++ l) pre.length vs = pre ++ vs
  | [], pre, l, h => by
    have : l = [] := List.eq_nil_of_length_eq_zero (by simpa using h)
    simp [putCells, this]
  | v :: vs, pre, [], h => by simp at h
  | v :: vs, pre, x :: l, h => by
    have := putCells_app vs (pre ++ [v]) l (by simpa using h)
    simp only [putCells]
    have e : (pre ++ x :: l).set pre.length v = (pre ++ [v]) ++ l := by simp
    rw [e]
    simp only [List.length_append, List.length_singleton] at this
    rw [this]
    simp

theorem semS_store {o : Oper} {tm : Tm} {hp : List O} {t : TypeId} {ad x : Operand} {b : Nat} {ty : Ty} (hgu : o.guard = none) (hdn : o.dst = none) (ho : o.op = .store t ad x) (ha : evA E tm ad = .ptr b 0 0) (ht : assoc E.ty t = some ty)
    (hl : (Nat.beq (evA E tm x).cells.length ty.sz && Nat.ble 1 ty.sz && (evA E tm x).cells.all V.one) = true) (hb : b < gbase) :
    SemS E P ops b (evA E tm x).cells ⟨o, tm, hp, .junk, .set b (.cells true (evA E tm x).cells)⟩ := by
  refine ⟨hgu, hdn, fun hpX ⟨c, hc, hlen⟩ => ?_⟩
  dsimp only
  rw [evOp_restr, ho]
  simp only [Bool.and_eq_true] at hl
  obtain ⟨⟨h1, h2⟩, h3⟩ := hl
  have h1' := Nat.eq_of_beq_eq_true h1
  have hbb : Nat.ble gbase b = false := by
    cases e : Nat.ble gbase b with
    | false => rfl
    | true => have := Nat.le_of_ble_eq_true e; omega
  have hle : Nat.ble (0 + ty.sz) c.length = true := Nat.ble_eq_true_of_le (by omega)
  simp only [evOp, ha, ht, hbb, hc, stO, h1, h2, h3, hle, Bool.and_self]
  have := putCells_app (evA E tm x).cells [] c (by omega)
  simp only [List.nil_append, List.length_nil] at this
  rw [this]

section steps
variable {Q : Exit → Tm → List O → Prop} {o : Oper} {tm : Tm} {hp : List O}

theorem putV_sat {v : V} {wr : Wr} {k : Tm → List O → T} {hp0 : List O} (h : sat E.G P Q (putV N tm hp o.dst v k)) : (∀ d, o.dst = some d → d < N) ∧ sat E.G P Q (k ((⟨o, tm, hp0, v, wr⟩ : Item).putT tm) hp) := by
  unfold putV at h
  unfold Item.putT
  dsimp only
  cases hd : o.dst with
  | none => rw [hd] at h; exact ⟨fun d e => (by cases e), h⟩
  | some d =>
    rw [hd] at h
    dsimp only at h
    split at h
    · rename_i hlt
      rw [forceD_eq] at h
      exact ⟨fun d' e => by cases e; exact blt_lt hlt, h⟩
    · exact h.elim

theorem unwhen_pt {g : Bool} {k : Tm → T} : ∀ (l : List Operand) (tm : Tm), sat E.G P Q (unwhen g l tm k) →
    ∃ tm', (g = true → ∀ ρ t u, VR ρ (look tm t) u → VR ρ (look tm' t) u) ∧ sat E.G P Q (k tm')
  | [], tm, h => ⟨tm, fun _ _ _ _ h => h, h⟩
  | x :: r, tm, h => by
    cases x with
    | tmp t =>
      simp only [unwhen] at h
      split at h
      · rename_i g' v hl
        obtain ⟨hg, h⟩ := h
        rw [forceV_eq] at h
        obtain ⟨tm', h1, h2⟩ := unwhen_pt r _ h
        refine ⟨tm', fun e ρ t' u hu => h1 e ρ t' u ?_, h2⟩
        rw [look_cons]
        by_cases e2 : t = t'
        · subst e2
          rw [if_pos rfl]
          rw [hl] at hu
          subst e
          simp at hg
          exact hu.1 hg
        · rw [if_neg e2]; exact hu
      · exact unwhen_pt r _ h
    | const v => exact unwhen_pt r _ h
    | global g => exact unwhen_pt r _ h
    | func f => exact unwhen_pt r _ h

/-- what one operation gives -/
def OneOk (E : Env) (P : Program) (ops : Array Oper) (N : Nat) (base nA : Nat) (Q : Exit → Tm → List O → Prop) (o : Oper) (j : Nat) (tm : Tm) (hp : List O) (na : Nat) (rs : List Rsv) (k : Tm → List O → Nat → List Rsv → T) : Prop :=
  ∃ it : Item, it.o = o ∧ it.tm = tm ∧ it.hp = hp ∧ (∀ d, o.dst = some d → d < N) ∧
    (((SemQ E P ops it ∨ SemC E P ops N it ∨ SemL E P ops N it) ∧ (∀ id o, it.w ≠ .set id o) ∧ sat E.G P Q (k (it.putT tm) (it.putN hp) na rs)) ∨
     ∃ id l, it.w = .set id (.cells true l) ∧
      ((id = base + na ∧ na < nA ∧ SemA E P id l it ∧ sat E.G P Q (k (it.putT tm) (it.putN hp) (na + 1) (rs ++ [⟨id, j, l⟩]))) ∨
       (rsvOk (befs ops.toList []) id j l rs = true ∧ SemS E P ops id l it ∧ sat E.G P Q (k (it.putT tm) (it.putN hp) na (rs ++ [⟨id, j, l⟩])))))

variable {base nA j na : Nat} {rs : List Rsv} {k : Tm → List O → Nat → List Rsv → T}

theorem one_q {it : Item} (h1 : it.o = o) (h2 : it.tm = tm) (h3 : it.hp = hp) (hw : it.w = .none) (hq : SemQ E P ops it ∨ SemC E P ops N it) (hs : (∀ d, o.dst = some d → d < N) ∧ sat E.G P Q (k (it.putT tm) hp na rs)) : OneOk E P ops N base nA Q o j tm hp na rs k := by
  refine ⟨it, h1, h2, h3, hs.1, .inl ⟨hq.elim .inl (fun h => .inr (.inl h)), fun id o e => (by rw [hw] at e; cases e), ?_⟩⟩
  have : it.putN hp = hp := by unfold Item.putN; rw [hw]
  rw [this]; exact hs.2

theorem opD_ok (hE : E.Ok P) (hpg : PgOk E P) (hg : o.guard = none) (_hbase : base + nA < gbase) (hrs : ∀ e ∈ rs, e.id < gbase)
    (hs : sat E.G P Q (opD E N (befs ops.toList []) base nA o j tm hp na rs k)) : OneOk E P ops N base nA Q o j tm hp na rs k := by
  have hval : ∀ {c : Option Bool} {v : V}, evOp E tm hp o.op = .val c v → (∀ b, c = some b → b = true) → sat E.G P Q (putV N tm hp o.dst v fun tm hp => k tm hp na rs) → OneOk E P ops N base nA Q o j tm hp na rs k :=
    fun he hc hs => one_q (it := ⟨o, tm, hp, _, .none⟩) rfl rfl rfl rfl (.inl (semQ_val hE he hc hg)) (putV_sat hs)
  unfold opD at hs
  split at hs
  · -- alloc
    rename_i t ho
    split at hs
    · rename_i ty ht hlt
      obtain ⟨hd, hs⟩ := putV_sat (wr := .set (base + na) (.cells true ty.zero)) (hp0 := hp) hs
      exact ⟨⟨o, tm, hp, .ptr (base + na) 0 0, .set (base + na) (.cells true ty.zero)⟩, rfl, rfl, rfl, hd, .inr ⟨_, _, rfl, .inl ⟨rfl, blt_lt hlt, semA_alloc hE hg ho ht _, hs⟩⟩⟩
    · exact hs.elim
  · -- store
    rename_i t ad x ho
    split at hs
    · rename_i b ha hdn
      split at hs
      · rename_i ty ht
        rw [forceD_eq] at hs
        split at hs
        · rename_i hl
          split at hs
          · rename_i hr
            have hb : b < gbase := by
              obtain ⟨_, e, he, rfl⟩ := rsvOk_spec hr
              exact hrs e he
            refine ⟨⟨o, tm, hp, .junk, .set b (.cells true (evA E tm x).cells)⟩, rfl, rfl, rfl, fun d e => (by rw [hdn] at e; cases e), .inr ⟨_, _, rfl, .inr ⟨hr, semS_store hg hdn ho ha ht hl hb, ?_⟩⟩⟩
            unfold Item.putT Item.putN
            dsimp only
            rw [hdn]
            exact hs
          · exact hs.elim
        · exact hs.elim
      · exact hs.elim
    · exact hs.elim
  · -- call
    rename_i c ho
    split at hs
    · split at hs
      · rename_i v he; exact hval he (by simp) hs
      · rename_i c v he; exact hval he (by rintro b ⟨⟩; exact hs.1) hs.2
      · exact hs.elim
    · split at hs
      · rename_i f args he
        rw [forceV_eq, forceL_eq] at hs
        split at hs
        · rename_i c0 d0 v new heq
          split at heq
          · rename_i g caps
            split at heq
            · rename_i a h hcan
              split at heq
              · rename_i cc v0 new0 hpf
                cases heq
                split at hs
                · rename_i v' hsh hdata hlen
                  obtain ⟨hcc, hs⟩ := hs
                  rw [appL_eq] at hs
                  simp only [Bool.and_eq_true] at hlen
                  have hlen1 := blt_lt hlen.1
                  have hlen2 := blt_lt hlen.2
                  obtain ⟨hd, hs⟩ := putV_sat (wr := .new new) (hp0 := hp) hs
                  exact ⟨⟨o, tm, hp, v', .new new⟩, rfl, rfl, rfl, hd, .inl ⟨.inr (.inr (semL_call hpg hg he hcan hpf hcc hsh hdata hlen1 hlen2)), fun id o e => (by cases e), hs⟩⟩
                · exact hs.elim
              · cases heq
            · cases heq
          · cases heq
        · exact hs.elim
      · exact hs.elim
  · rename_i t x ho
    split at hs
    · rename_i ob mk he
      split at hs
      · rename_i hlen
        rw [appK_eq] at hs
        obtain ⟨hd, hs⟩ := putV_sat (wr := .new [ob]) (hp0 := hp) hs
        exact ⟨⟨o, tm, hp, mk hp.length, .new [ob]⟩, rfl, rfl, rfl, hd, .inl ⟨.inr (.inr (semL_alloc hE hg (by rw [ho]; exact he) (by rw [ho]; rfl) (blt_lt hlen) (fun hpX => by rw [ho]; rfl))), fun id o e => (by cases e), hs⟩⟩
      · exact hs.elim
    · exact hs.elim
  · rename_i t n ps ho
    split at hs
    · rename_i ob mk he
      split at hs
      · rename_i hlen
        rw [appK_eq] at hs
        obtain ⟨hd, hs⟩ := putV_sat (wr := .new [ob]) (hp0 := hp) hs
        exact ⟨⟨o, tm, hp, mk hp.length, .new [ob]⟩, rfl, rfl, rfl, hd, .inl ⟨.inr (.inr (semL_alloc hE hg (by rw [ho]; exact he) (by rw [ho]; rfl) (blt_lt hlen) (fun hpX => by rw [ho]; rfl))), fun id o e => (by cases e), hs⟩⟩
      · exact hs.elim
    · exact hs.elim
  · split at hs
    · exact hs.elim
    · split at hs
      · rename_i v he; exact hval he (by simp) hs
      · rename_i c v he; exact hval he (by rintro b ⟨⟩; exact hs.1) hs.2
      · rename_i b x y he
        cases b
        · exact one_q (it := ⟨o, tm, hp, y, .none⟩) rfl rfl rfl rfl (.inl (semQ_br he rfl hg)) (putV_sat (hs.2 rfl))
        · exact one_q (it := ⟨o, tm, hp, x, .none⟩) rfl rfl rfl rfl (.inl (semQ_br he rfl hg)) (putV_sat (hs.1 rfl))
      · exact hs.elim

theorem opDG_ok (hE : E.Ok P) (hps : PsOk E P) {g : Bool} (hg : Grd ops o tm g) {k' : Tm → List O → T} (hk : k' = fun tm hp => k tm hp na rs)
    (hs : sat E.G P Q (opDG E N g o tm hp k')) : OneOk E P ops N base nA Q o j tm hp na rs k := by
  subst hk
  unfold opDG at hs
  obtain ⟨tm', hun, hs⟩ := unwhen_pt _ _ hs
  split at hs
  · rename_i v he
    exact one_q (it := ⟨o, tm, hp, _, .none⟩) rfl rfl rfl rfl (.inl (semQ_grd hE hg hun he (by simp))) (putV_sat hs)
  · rename_i c v he
    exact one_q (it := ⟨o, tm, hp, _, .none⟩) rfl rfl rfl rfl (.inl (semQ_grd hE hg hun he (by rintro b ⟨⟩ rfl; simpa using hs.1))) (putV_sat hs.2)
  · rename_i f args he
    rw [forceV_eq, forceL_eq] at hs
    split at hs
    · rename_i cc v hpf
      exact one_q (it := ⟨o, tm, hp, _, .none⟩) rfl rfl rfl rfl (.inr (semC_grd hps hg hun he hpf (fun e => by have := hs.1; rw [e] at this; simpa using this))) (putV_sat hs.2)
    · exact hs.elim
  · exact hs.elim

end steps

theorem evD_ok (hE : E.Ok P) (hpg : PgOk E P) (hps : PsOk E P) {base nA : Nat} (hbase : base + nA < gbase) {Q : Exit → Tm → List O → Prop} {k : Tm → List O → Nat → List Rsv → T} :
    ∀ (rest : List Oper) (j : Nat) (tm : Tm) (hp : List O) (na : Nat) (rs : List Rsv), (∀ (q : Nat) (o : Oper), rest[q]? = some o → ops[j + q]? = some o) → (∀ o ∈ rest, ∀ c, o.op ≠ .defer c) → (∀ e ∈ rs, e.id < gbase) →
      sat E.G P Q (evD E N ops.toList (befs ops.toList []) base nA rest j tm hp na rs k) →
      ∃ items tm' hp' na' rs', Items E P ops N j items ∧ items.length = rest.length ∧ Tr items tm hp tm' hp' ∧ Sets E P ops base nA items j na rs rs' ∧ sat E.G P Q (k tm' hp' na' rs') := by
  intro rest
  induction rest with
  | nil => exact fun j tm hp na rs _ _ _ hs => ⟨[], tm, hp, na, rs, ⟨fun k it h => by simp at h, fun k it d h => by simp at h, fun k it h => by simp at h⟩, rfl, ⟨rfl, rfl⟩, rfl, hs⟩
  | cons o rest ih =>
    intro j tm hp na rs hop hnd hrs hs
    have hone : OneOk E P ops N base nA Q o j tm hp na rs fun tm hp na rs => evD E N ops.toList (befs ops.toList []) base nA rest (j + 1) tm hp na rs k := by
      unfold evD at hs
      split at hs
      · rename_i hg
        exact opD_ok hE hpg hg hbase hrs hs
      · rename_i i want hg
        split at hs
        · exact hs.elim
        · rename_i d hd
          split at hs
          · rename_i hb
            exact opDG_ok hE hps ⟨E, i, want, d, hg, hd, by rw [hb]⟩ rfl hs
          · rename_i hb
            exact one_q (it := ⟨o, tm, hp, .junk, .none⟩) rfl rfl rfl rfl (.inl (semQ_skip ⟨E, i, want, d, hg, hd, by rw [hb]⟩ (hnd o (by simp)))) (putV_sat hs)
          · rename_i b hb
            exact opDG_ok hE hps ⟨E, i, want, d, hg, hd, by rw [hb]⟩ rfl hs
          · exact hs.elim
    have hop' : ∀ (q : Nat) (o : Oper), rest[q]? = some o → ops[j + 1 + q]? = some o := fun q o' h => by
      have := hop (q + 1) o' (by simpa using h)
      rwa [show j + (q + 1) = j + 1 + q by omega] at this
    have hnd' : ∀ o ∈ rest, ∀ c, o.op ≠ .defer c := fun o' h => hnd o' (by simp [h])
    obtain ⟨it, h1, h2, h3, hd, hcase⟩ := hone
    -- the first item and the others
    have mkI : ∀ {items : List Item}, Items E P ops N (j + 1) items → (SemQ E P ops it ∨ SemC E P ops N it ∨ SemL E P ops N it ∨ ∃ id o, it.w = .set id o) → Items E P ops N j (it :: items) := by
      intro items hI hsem
      refine ⟨fun q x hx => ?_, fun q x d hx => ?_, fun q x hx => ?_⟩
      · cases q with
        | zero => simp only [List.getElem?_cons_zero, Option.some.injEq] at hx; subst hx; rw [h1]; exact hop 0 o rfl
        | succ q => have := hI.op q x (by simpa using hx); rwa [show j + (q + 1) = j + 1 + q by omega]
      · cases q with
        | zero => simp only [List.getElem?_cons_zero, Option.some.injEq] at hx; subst hx; rw [h1]; exact hd d
        | succ q => exact hI.dst q x d (by simpa using hx)
      · cases q with
        | zero => simp only [List.getElem?_cons_zero, Option.some.injEq] at hx; subst hx; exact hsem
        | succ q => exact hI.sem q x (by simpa using hx)
    rcases hcase with ⟨hsem, hns, hs'⟩ | ⟨id, l, hw, hcase⟩
    · obtain ⟨items, tm', hp', na', rs', hI, hl, hT, hS, hk⟩ := ih (j + 1) _ _ na rs hop' hnd' hrs hs'
      refine ⟨it :: items, tm', hp', na', rs', mkI hI (hsem.imp id fun h => h.imp id .inl), by simp [hl], ⟨h2, h3, hT⟩, ?_, hk⟩
      unfold Sets
      split
      · rename_i id o' hw; exact absurd hw (hns id o')
      · exact hS
    · rcases hcase with ⟨rfl, hlt, hA, hs'⟩ | ⟨hr, hSt, hs'⟩
      · obtain ⟨items, tm', hp', na', rs', hI, hl, hT, hS, hk⟩ := ih (j + 1) _ _ (na + 1) (rs ++ [⟨base + na, j, l⟩]) hop' hnd' (fun e he => by
          rcases List.mem_append.1 he with he | he
          · exact hrs e he
          · simp only [List.mem_singleton] at he; subst he; dsimp only; omega) hs'
        refine ⟨it :: items, tm', hp', na', rs', mkI hI (.inr (.inr (.inr ⟨_, _, hw⟩))), by simp [hl], ⟨h2, h3, hT⟩, ?_, hk⟩
        unfold Sets
        rw [hw]
        exact ⟨l, rfl, .inl ⟨rfl, hlt, hA, hS⟩⟩
      · obtain ⟨items, tm', hp', na', rs', hI, hl, hT, hS, hk⟩ := ih (j + 1) _ _ na (rs ++ [⟨id, j, l⟩]) hop' hnd' (fun e he => by
          rcases List.mem_append.1 he with he | he
          · exact hrs e he
          · simp only [List.mem_singleton] at he; subst he
            obtain ⟨_, e, he, h⟩ := rsvOk_spec hr
            have := hrs e he
            dsimp only; omega) hs'
        refine ⟨it :: items, tm', hp', na', rs', mkI hI (.inr (.inr (.inr ⟨_, _, hw⟩))), by simp [hl], ⟨h2, h3, hT⟩, ?_, hk⟩
        unfold Sets
        rw [hw]
        exact ⟨l, rfl, .inr ⟨hr, hSt, hS⟩⟩

/-! #### The blocks reserved come to stand -/

def stAll (rs : List Rsv) (hp : List O) : List O := rs.foldl (fun hp r => hp.set r.id (.cells true r.put)) hp

theorem settle_eq : ∀ (rs : List Rsv) (hp : List O) (k : List O → T), settle rs hp k = k (stAll rs hp)
  | [], _, _ => rfl
  | r :: rs, hp, k => by simp only [settle, setK_eq, settle_eq rs]; rfl

theorem putN_app {L : Nat → Bool} : ∀ (items : List Item) (i : Nat), ∃ l, ∀ x, foldL Item.putN L items i x = x ++ l
  | [], _ => ⟨[], fun x => by simp [foldL]⟩
  | a :: r, i => by
    obtain ⟨l, hl⟩ := putN_app (L := L) r (i + 1)
    cases hL : L i with
    | false => exact ⟨l, fun x => by simp only [foldL, hL, cond_false, hl]⟩
    | true =>
      cases hw : a.w with
      | new l' => exact ⟨l' ++ l, fun x => by simp only [foldL, hL, cond_true, hl]; simp [Item.putN, hw]⟩
      | _ => exact ⟨l, fun x => by simp only [foldL, hL, cond_true, hl]; simp [Item.putN, hw]⟩

theorem Sets.fin {base nA : Nat} : ∀ (items : List Item) (j na : Nat) (rs rs' : List Rsv), Sets E P ops base nA items j na rs rs' →
    ∃ rs2, rs' = rs ++ rs2 ∧ ∀ i x, (∀ (k : Nat) (a : Item) id o, items[k]? = some a → a.w = .set id o → id < x.length) → foldL Item.putH (fun _ => true) items i x = stAll rs2 (foldL Item.putN (fun _ => true) items i x)
  | [], _, _, rs, rs', h => ⟨[], by rw [h]; simp, fun i x _ => rfl⟩
  | a :: r, j, na, rs, rs', h => by
    unfold Sets at h
    split at h
    · rename_i id o hw
      have fin : ∀ {na : Nat} {l : List V}, o = .cells true l → Sets E P ops base nA r (j + 1) na (rs ++ [⟨id, j, l⟩]) rs' →
          ∃ rs2, rs' = rs ++ rs2 ∧ ∀ i x, (∀ (k : Nat) (b : Item) id o, (a :: r)[k]? = some b → b.w = .set id o → id < x.length) → foldL Item.putH (fun _ => true) (a :: r) i x = stAll rs2 (foldL Item.putN (fun _ => true) (a :: r) i x) := by
        intro na l ho h
        obtain ⟨rs2, h1, h2⟩ := Sets.fin r _ _ _ _ h
        refine ⟨⟨id, j, l⟩ :: rs2, by rw [h1]; simp, fun i x hx => ?_⟩
        have hid := hx 0 a id o rfl hw
        simp only [foldL, cond_true]
        have e1 : a.putH x = x.set id o := by unfold Item.putH; rw [hw]
        have e2 : a.putN x = x := by unfold Item.putN; rw [hw]
        rw [e1, e2, h2 (i + 1) (x.set id o) (fun k b id' o' hb hw' => by simpa using hx (k + 1) b id' o' (by simpa using hb) hw')]
        obtain ⟨l2, hl2⟩ := putN_app (L := fun _ => true) r (i + 1)
        rw [hl2, hl2, ho]
        show _ = stAll rs2 ((x ++ l2).set id (.cells true l))
        rw [List.set_append_left _ _ hid]
      obtain ⟨l, ho, ⟨_, _, _, h⟩ | ⟨_, _, h⟩⟩ := h
      · exact fin ho h
      · exact fin ho h
    · rename_i hns
      obtain ⟨rs2, h1, h2⟩ := Sets.fin r _ _ _ _ h
      refine ⟨rs2, h1, fun i x hx => ?_⟩
      simp only [foldL, cond_true]
      have e : a.putH x = a.putN x := by
        unfold Item.putH Item.putN
        cases hw : a.w with
        | set id o => exact absurd hw (hns id o)
        | _ => rfl
      rw [e]
      refine h2 (i + 1) _ fun k b id o hb hw => ?_
      have := hx (k + 1) b id o (by simpa using hb) hw
      unfold Item.putN
      cases a.w with
      | new l => simp only [List.length_append]; omega
      | _ => exact this

end Go.Ab
