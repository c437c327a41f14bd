/- An evaluator of the model on values that are partly known, and its soundness (part AbTy); no condition. -/
import Derived.Test.YtjckbgodcefogaaDoorAbFn
namespace Go.Ab

def zeroB : List V → List Value → Bool
  | [], [] => true
  | .int k n :: l, .int k' n' :: r => decide (k = k') && decide (n = n') && zeroB l r
  | .lit b :: l, .bool b' :: r => (b == b') && zeroB l r
  | .str [] :: l, .string s :: r => decide (s.size = 0) && zeroB l r
  | .nils :: l, .slice none 0 0 :: r => zeroB l r
  | .nilp :: l, .pointer none :: r => zeroB l r
  | .nilf :: l, .nilFunc :: r => zeroB l r
  | .nili :: l, .nilIface :: r => zeroB l r
  | .junk :: l, _ :: r => zeroB l r
  | _, _ => false

theorem zeroB_ok {ρ : Ren} : ∀ (l : List V) (us : List Value), zeroB l us = true → VRL ρ l us := by
  intro l
  induction l with
  | nil => intro us h; cases us with | nil => rfl | cons u r => simp [zeroB] at h
  | cons v l ih =>
    intro us h
    unfold zeroB at h
    split at h <;> (try cases h) <;> (try (rename_i heq; cases heq))
    all_goals (try simp only [Bool.and_eq_true, decide_eq_true_eq, beq_iff_eq] at h)
    · obtain ⟨⟨rfl, rfl⟩, h⟩ := h; exact ⟨_, _, rfl, rfl, ih _ h⟩
    · obtain ⟨rfl, h⟩ := h; exact ⟨_, _, rfl, rfl, ih _ h⟩
    · obtain ⟨h1, h⟩ := h
      rename_i s r
      refine ⟨_, _, rfl, ?_, ih _ h⟩
      show Value.string s = _
      congr 1
      cases s with | mk d => simp only [ByteArray.size] at h1; congr 1; exact Array.eq_empty_of_size_eq_zero h1
    · exact ⟨_, _, rfl, rfl, ih _ h⟩
    · exact ⟨_, _, rfl, rfl, ih _ h⟩
    · exact ⟨_, _, rfl, rfl, ih _ h⟩
    · exact ⟨_, _, rfl, rfl, ih _ h⟩
    · exact ⟨_, _, rfl, trivial, ih _ h⟩

def kdB (P : Program) (t : TypeId) : TyK → Bool
  | .int k => match P.underlying t with | some (.int k') => decide (k = k') | _ => false
  | .bool => match P.underlying t with | some .bool => true | _ => false
  | .str => match P.underlying t with | some .string => true | _ => false
  | .slice e => match P.underlying t with | some (.slice e') => decide (e = e') | _ => false
  | .array n e => match P.underlying t with | some (.array n' e') => decide (n = n') && decide (e = e') | _ => false
  | .struct offs => match P.underlying t with
    | some (.struct fs) => decide (fs.toList.map (fun f => (f.offset, f.type)) = offs) && decide (fs.toList.mapM (fun f => (P.info? f.type).map fun i => (f.offset, i.size)) = some (offs.map fun p => (p.1, P.cellsOf p.2)))
    | _ => false
  | .func => match P.underlying t with | some (.func _ _ _) => true | _ => false
  | .other => match P.underlying t with | some (.struct _) => false | some (.array _ _) => false | some _ => true | none => false

def tyB (P : Program) (t : TypeId) (T : Ty) : Bool :=
  match P.info? t with
  | some i => decide (T.zero.length = T.sz) && decide (i.size = T.sz) && decide (i.bytes = T.by_) && (match i.zero with | some z => zeroB T.zero z.cells.toList | none => false) && kdB P t T.kd
  | none => false

theorem kdB_ok {P : Program} {t : TypeId} {k : TyK} : kdB P t k = true → match k with
    | .int k => P.underlying t = some (.int k)
    | .bool => P.underlying t = some .bool
    | .str => P.underlying t = some .string
    | .slice e => P.underlying t = some (.slice e)
    | .array n e => P.underlying t = some (.array n e)
    | .struct offs => ∃ fs, P.underlying t = some (.struct fs) ∧ fs.toList.map (fun f => (f.offset, f.type)) = offs ∧
        fs.toList.mapM (fun f => (P.info? f.type).map fun i => (f.offset, i.size)) = some (offs.map fun p => (p.1, P.cellsOf p.2))
    | .func => ∃ a b c, P.underlying t = some (.func a b c)
    | .other => ∃ d, P.underlying t = some d ∧ (match d with | .struct _ | .array _ _ => false | _ => true) = true := by
  intro h
  cases hu : P.underlying t with
  | none => cases k <;> simp [kdB, hu] at h
  | some d =>
    cases k <;> simp only [kdB, hu] at h <;> cases d <;> simp_all

theorem tyB_ok {P : Program} {t : TypeId} {T : Ty} (h : tyB P t T = true) : TyOk P t T := by
  unfold tyB at h
  split at h
  · rename_i i hi
    simp only [Bool.and_eq_true, decide_eq_true_eq] at h
    obtain ⟨⟨⟨⟨h0, h1⟩, h2⟩, h3⟩, h4⟩ := h
    split at h3
    · rename_i z hz
      exact ⟨h0, ⟨i, z, hi, h1, h2, hz, fun ρ => zeroB_ok _ _ h3⟩, kdB_ok h4⟩
    · cases h3
  · cases h

theorem assoc_mem {α : Type} {l : List (Nat × α)} {t : Nat} {x : α} (h : assoc l t = some x) : (t, x) ∈ l := by
  induction l with
  | nil => cases h
  | cons p l ih =>
    obtain ⟨i, v⟩ := p
    simp only [assoc] at h
    split at h
    · rename_i hb; cases h; rw [Nat.eq_of_beq_eq_true hb]; simp
    · exact List.mem_cons_of_mem _ (ih h)

theorem Env.ok_of {E : Env} {P : Program} (h : E.ty.all (fun p => tyB P p.1 p.2) = true) : E.Ok P :=
  ⟨fun _ _ ht => tyB_ok (List.all_eq_true.1 h _ (assoc_mem ht))⟩

end Go.Ab
