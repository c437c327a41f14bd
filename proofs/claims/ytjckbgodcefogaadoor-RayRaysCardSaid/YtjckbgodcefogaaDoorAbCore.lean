/- An evaluator of the model on values that are partly known, and its soundness (part AbCore); no condition. -/
import Derived.WalkKit
import Derived.CallsIn
import Derived.OrdersIn
namespace Go.Ab

/-! ### Abstract values, blocks, states -/

/-- abstract values: pointers name abstract blocks -/
inductive V where
  | lit (b : Bool)
  | bool (b : Bool)
  | int (k : IntKind) (n : Int)
  | str (s : List UInt8)
  | ptr (b k j : Nat)
  | nilp
  | sl (b k len : Nat) (cap : Option Nat)
  | nils
  | fn (f : FuncId) (caps : List V)
  | nilf
  | yl (l : Nat)
  | agg (l : List V)
  | tup (l : List V)
  | nili
  | when (g : Bool) (v : V)
  | junk
  deriving Inhabited

/-- abstract blocks; w: the call's own, it may be written -/
inductive O where
  | ints (w : Bool) (k : IntKind) (zs : List Int)
  | rows (w : Bool) (ks : List IntKind) (rs : List (List Int))
  | cells (w : Bool) (l : List V)
  | vals (w : Bool) (m : Nat) (rs : List (List V))
  | gone
  | rsv
  deriving Inhabited

inductive TyK where
  | int (k : IntKind) | bool | str | slice (e : TypeId) | array (n : Nat) (e : TypeId) | struct (offs : List (Nat × TypeId)) | func | other
structure Ty where
  sz : Nat
  by_ : Nat
  zero : List V
  kd : TyK

def TyK.isAgg : TyK → Bool
  | .struct _ | .array _ _ => true
  | _ => false

def look : List (Nat × V) → Nat → V
  | [], _ => .junk
  | (i, v) :: r, t => match Nat.beq i t with | true => v | false => look r t

def assoc {α : Type} : List (Nat × α) → Nat → Option α
  | [], _ => none
  | (i, v) :: r, t => match Nat.beq i t with | true => some v | false => assoc r t

/-- what evaluation goes by: the types, the tables of package level, the contracts of functions (what each asks, its value, its new blocks), functions that are entered -/
structure Env where
  ty : List (TypeId × Ty)
  G : List O
  pf : FuncId → List V → List O → Option (Bool × V × List O)
  inl : List (FuncId × Func)
  cc : Bool := false

mutual
/-- a value that names no block -/
def V.pl : V → Bool
  | .lit _ => true
  | .bool _ => true
  | .int _ _ => true
  | .str _ => true
  | .nils => true
  | .nilp => true
  | .agg l => plL l
  | _ => false
def plL : List V → Bool
  | [] => true
  | v :: l => V.pl v && plL l
end

def gbase : Nat := 1000000

def constV : Value → V
  | .bool b => .lit b
  | .int k n => .int k n
  | .string s => .str s.data.toList
  | .pointer none => .nilp
  | .slice none 0 0 => .nils
  | .nilFunc => .nilf
  | .nilIface => .nili
  | _ => .junk

def evA (E : Env) (tm : List (Nat × V)) : Operand → V
  | .tmp t => look tm t
  | .const v => constV v
  | .global g => match E.G[g]? with | some _ => .ptr (gbase + g) 0 0 | none => .junk
  | .func f => .fn f []

def getO (G : List O) (hp : List O) (b : Nat) : O :=
  match Nat.ble gbase b with
  | true => G.getD (b - gbase) .gone
  | false => hp.getD b .gone

def O.cell : O → Nat → Nat → Option V
  | .ints _ kd zs, k, 0 => some (.int kd (zs.getD k 0))
  | .rows _ ks rs, k, j => match ks[j]? with | some kd => some (.int kd ((rs.getD k []).getD j 0)) | none => none
  | .cells _ l, 0, j => l[j]?
  | .vals _ _ rs, k, j => match rs[k]? with | some r => r[j]? | none => none
  | _, _, _ => none

def O.cellsAt (o : O) (k : Nat) : Nat → Nat → Option (List V)
  | _, 0 => some []
  | j, n + 1 => match o.cell k j with
    | some v => match O.cellsAt o k (j + 1) n with
      | some l => some (v :: l)
      | none => none
    | none => none

def O.len : O → Nat
  | .ints _ _ zs => zs.length
  | .rows _ _ rs => rs.length
  | .cells _ _ => 1
  | .vals _ _ rs => rs.length
  | _ => 0
def O.wid : O → Nat
  | .ints _ _ _ => 1
  | .rows _ ks _ => ks.length
  | .cells _ l => l.length
  | .vals _ m _ => m
  | _ => 0
def O.own : O → Bool
  | .ints w _ _ | .rows w _ _ | .cells w _ | .vals w _ _ => w
  | _ => false

/-- a value of one cell -/
def V.one : V → Bool
  | .agg _ | .tup _ | .when _ _ | .junk => false
  | _ => true

/-- a table, or the elements of a slice that came in -/
def O.tab : O → Bool
  | .ints false _ _ | .rows false _ _ => true
  | .vals false _ rs => rs.all plL
  | _ => false
/-- plain values alone -/
def O.data : O → Bool
  | .ints _ _ _ | .rows _ _ _ => true
  | .vals _ _ rs => rs.all plL
  | _ => false
def O.wf : O → Prop
  | .rows _ ks rs => ∀ r ∈ rs, r.length = ks.length
  | .vals _ m rs => ∀ r ∈ rs, r.length = m ∧ r.all V.one = true
  | _ => True

def V.cells : V → List V
  | .agg l => l
  | v => [v]

def putCells : List V → Nat → List V → List V
  | l, _, [] => l
  | l, j, v :: vs => putCells (l.set j v) (j + 1) vs

/-- a store -/
def stO (o : O) (k j : Nat) (v : V) (sz : Nat) : Option O :=
  match o with
  | .cells true l => match k with
    | 0 => match Nat.beq v.cells.length sz && Nat.ble (j + sz) l.length && v.cells.all V.one && Nat.ble 1 sz with
      | true => some (.cells true (putCells l j v.cells))
      | false => none
    | _ => none
  | .ints true kd zs => match v, j with
    | .int kd' n, 0 => match decide (kd = kd') && Nat.beq sz 1 with | true => some (.ints true kd (zs.set k n)) | false => none
    | _, _ => none
  | .rows true ks rs => match v with
    | .int kd' n => match ks[j]? with
      | some kd => match decide (kd = kd') && Nat.beq sz 1 with | true => some (.rows true ks (rs.set k ((rs.getD k []).set j n))) | false => none
      | none => none
    | _ => none
  | .vals true m rs => match Nat.beq v.cells.length sz && Nat.ble (j + sz) m && v.cells.all V.one && Nat.ble 1 sz with
      | true => some (.vals true m (rs.set k (putCells (rs.getD k []) j v.cells)))
      | false => none
  | _ => none

/-! ### Operations -/

inductive R where
  | val (c : Option Bool) (v : V)
  | alloc (o : O) (mk : Nat → V)
  | store (b : Nat) (o : O)
  | call (f : V) (args : List V)
  | br (b : Bool) (x y : V)
  | app (old : Option Nat) (c : Bool) (o : O)
  | bad

def band (op : BinOp) (k : IntKind) (x y : Int) : Int :=
  let a := BitVec.ofInt k.bits x
  let b := BitVec.ofInt k.bits y
  match op with
  | .and => k.wrap (a &&& b).toNat
  | .or => k.wrap (a ||| b).toNat
  | .xor => k.wrap (a ^^^ b).toNat
  | _ => k.wrap (a &&& ~~~b).toNat

def bin (op : BinOp) (k : IntKind) (a b : Int) : R :=
  match op with
  | .add => .val none (.int k (k.wrap (a + b)))
  | .sub => .val none (.int k (k.wrap (a - b)))
  | .mul => .val none (.int k (k.wrap (a * b)))
  | .quo => .val (some (!decide (b = 0))) (.int k (k.wrap (a.tdiv b)))
  | .rem => .val (some (!decide (b = 0))) (.int k (a.tmod b))
  | .and => .val none (.int k (band .and k a b))
  | .or => .val none (.int k (band .or k a b))
  | .xor => .val none (.int k (band .xor k a b))
  | .andNot => .val none (.int k (band .andNot k a b))
  | .eql => .val none (.bool (decide (a = b)))
  | .neq => .val none (.bool (!decide (a = b)))
  | .lss => .val none (.bool (decide (a < b)))
  | .leq => .val none (.bool (decide (a ≤ b)))
  | .gtr => .val none (.bool (decide (b < a)))
  | .geq => .val none (.bool (decide (b ≤ a)))
  | _ => .bad

def shf (op : BinOp) (k : IntKind) (a b : Int) : R :=
  match op with
  | .shl => .val (some (decide (0 ≤ b))) (.int k (k.wrap (a * 2 ^ (min b.toNat k.bits))))
  | .shr => .val (some (decide (0 ≤ b))) (.int k (a.fdiv (2 ^ (min b.toNat k.bits))))
  | _ => .bad

def BinOp.isShift : BinOp → Bool
  | .shl | .shr => true
  | _ => false

def addN : Nat → Nat → Nat
  | 0, n => n
  | k, n => k + n

/-- pick c a b -/
def pickV (c a b : V) : R :=
  match c with
  | .lit true => match a with
    | .when g x => .val (some g) x
    | a => .val none a
  | .lit false => match b with
    | .when g x => .val (some g) x
    | b => .val none b
  | .bool c => match a, b with
    | .when g (.bool x), .lit false => .val (some (!c || g)) (.bool (c && x))
    | .when g (.lit x), .lit false => .val (some (!c || g)) (.bool (c && x))
    | .bool x, .lit false => .val none (.bool (c && x))
    | .lit true, .when g (.bool y) => .val (some (c || g)) (.bool (c || y))
    | .lit true, .when g (.lit y) => .val (some (c || g)) (.bool (c || y))
    | .lit true, .bool y => .val none (.bool (c || y))
    | x, y => .br c x y
  | _ => .bad

def fitL : List Nat → List V → Nat → List V → List V → Option (List V)
  | _, l, _, [], _ => some l
  | _, _, _, _, _ => none

/-- build: parts into the zero value's cells -/
def buildL (offs : List (Nat × TypeId)) (szs : TypeId → Option Nat) : List (Nat × V) → List V → Option (List V)
  | [], cs => some cs
  | (i, v) :: r, cs => match offs[i]? with
    | some (o, t) => match szs t with
      | some n => match Nat.beq v.cells.length n && Nat.ble (o + n) cs.length && v.cells.all V.one with
        | true => buildL offs szs r (putCells cs o v.cells)
        | false => none
      | none => none
    | none => none

def szOf (E : Env) (t : TypeId) : Option Nat :=
  match assoc E.ty t with | some T => some T.sz | none => none

def foldMax : List V → Option (IntKind × Int)
  | [] => none
  | _ => none

/-- a variable is read -/
def loadV (E : Env) (hp : List O) (t : TypeId) : V → Option V
  | .ptr b k j => match assoc E.ty t with
    | some T => match T.kd.isAgg with
      | true => match (getO E.G hp b).cellsAt k j T.sz with
        | some l => some (.agg l)
        | none => none
      | false => (getO E.G hp b).cell k j
    | none => none
  | _ => none

/-- a bool -/
def V.b? : V → Option Bool
  | .lit b => some b
  | .bool b => some b
  | _ => none

/-- operators on what is no pair of numbers -/
def binX (E : Env) (op : BinOp) (t : TypeId) (u v : V) : R :=
  match u with
  | .str a => match v with
    | .str b => match op with
      | .add => .val (some (decide (a.length + b.length ≤ 4611686018427387904))) (.str (a ++ b))
      | .eql => .val none (.bool (a == b))
      | .neq => .val none (.bool (!(a == b)))
      | _ => .bad
    | _ => .bad
  | .fn _ _ => match v, assoc E.ty t with
    | .nilf, some T => match T.kd, op with
      | .func, .eql => .val none (.lit false)
      | .func, .neq => .val none (.lit true)
      | _, _ => .bad
    | _, _ => .bad
  | u => match u.b?, v.b?, assoc E.ty t with
    | some a, some b, some T => match T.kd, op with
      | .bool, .eql => .val none (.bool (a == b))
      | .bool, .neq => .val none (.bool (!(a == b)))
      | _, _ => .bad
    | _, _, _ => .bad

/-- an index that may be left out -/
def optI (E : Env) (tm : List (Nat × V)) : Option Operand → Option (Option Int)
  | none => some none
  | some x => match evA E tm x with
    | .int _ n => some (some n)
    | _ => none

/-- a slice of a slice, of a string -/
def slX (E : Env) (hp : List O) (t : TypeId) (u : V) (lo hi mx : Option (Option Int)) : R :=
  match assoc E.ty t with
  | some T => match u with
    | .sl b k len cap => match T.kd with
      | .slice e => match szOf E e with
        | some (sz + 1) => match Nat.beq (sz + 1) (getO E.G hp b).wid with
          | true => match lo, hi, mx with
            | some lo, some hi, some none => .val (some (decide (0 ≤ lo.getD 0) && decide (lo.getD 0 ≤ hi.getD len) && decide (hi.getD len ≤ len))) (.sl b (addN k (lo.getD 0).toNat) ((hi.getD len).toNat - (lo.getD 0).toNat) (cap.map (· - (lo.getD 0).toNat)))
            | some lo, some (some h), some (some m) => .val (some (decide (0 ≤ lo.getD 0) && decide (lo.getD 0 ≤ h) && decide (h ≤ m) && decide (m ≤ len))) (.sl b (addN k (lo.getD 0).toNat) (h.toNat - (lo.getD 0).toNat) (some (m.toNat - (lo.getD 0).toNat)))
            | _, _, _ => .bad
          | false => .bad
        | _ => .bad
      | _ => .bad
    | .str l => match T.kd, lo, hi, mx with
      | .str, some lo, some hi, some none => .val (some (decide (0 ≤ lo.getD 0) && decide (lo.getD 0 ≤ hi.getD l.length) && decide (hi.getD l.length ≤ l.length))) (.str ((l.drop (lo.getD 0).toNat).take ((hi.getD l.length).toNat - (lo.getD 0).toNat)))
      | _, _, _, _ => .bad
    | _ => .bad
  | none => .bad

/-- the greatest, the least -/
def imax (g : Bool) (x y : Int) : Int := bif (match g with | true => decide (x < y) | false => decide (y < x)) then y else x
def maxV (g : Bool) : V → List V → R
  | x, [] => .val none x
  | .int k x, .int k' y :: r => match decide (k = k') with
    | true => maxV g (.int k (imax g x y)) r
    | false => .bad
  | _, _ => .bad

/-- numbers of one kind -/
def allInts (k : IntKind) : List (List V) → Option (List Int)
  | [] => some []
  | [.int k' n] :: r => match decide (k = k') with
    | true => match allInts k r with | some l => some (n :: l) | none => none
    | false => none
  | _ => none
def rowInts : List V → Option (List IntKind × List Int)
  | [] => some ([], [])
  | .int k n :: r => match rowInts r with | some (ks, l) => some (k :: ks, n :: l) | none => none
  | _ => none
def allRows (ks : List IntKind) : List (List V) → Option (List (List Int))
  | [] => some []
  | v :: r => match rowInts v with
    | some (ks', l) => match decide (ks = ks') with
      | true => match allRows ks r with | some x => some (l :: x) | none => none
      | false => none
    | none => none

/-- the block of some rows -/
def mkO (m : Nat) (rs : List (List V)) : O :=
  match rs with
  | [.int k _] :: _ => match allInts k rs with
    | some zs => .ints true k zs
    | none => .vals true m rs
  | r :: _ => match rowInts r with
    | some (ks, _) => match allRows ks rs with
      | some x => .rows true ks x
      | none => .vals true m rs
    | none => .vals true m rs
  | [] => .vals true m rs

/-- all parts, each one, in order -/
def partsO (sz : Nat) : Nat → List (Nat × V) → Option (List (List V))
  | _, [] => some []
  | i, (j, v) :: r => match Nat.beq i j && Nat.beq v.cells.length sz && v.cells.all V.one with
    | true => match partsO sz (i + 1) r with | some l => some (v.cells :: l) | none => none
    | false => none

def buildO (sz n : Nat) (ps : List (Nat × V)) : Option O :=
  match partsO sz 0 ps with
  | some rs => match Nat.beq ps.length n && Nat.ble 1 sz && Nat.ble 1 n && Nat.ble (n * sz) 16777216 with
    | true => some (mkO sz rs)
    | false => none
  | none => none

/-- a window of a block -/
def O.win (w : Bool) (o : O) (k len : Nat) : O :=
  match o with
  | .ints _ kd zs => .ints w kd ((zs.drop k).take len)
  | .rows _ ks rs => .rows w ks ((rs.drop k).take len)
  | .vals _ m rs => .vals w m ((rs.drop k).take len)
  | o => o

def O.isRows : O → Bool
  | .ints _ _ _ | .rows _ _ _ | .vals _ _ _ => true
  | _ => false

/-- one block behind another -/
def catO : O → O → Option O
  | .ints _ k zs, .ints _ k' ys => match decide (k = k') with | true => some (.ints true k (zs ++ ys)) | false => none
  | .rows _ ks rs, .rows _ ks' ys => match decide (ks = ks') with | true => some (.rows true ks (rs ++ ys)) | false => none
  | .vals _ m rs, .vals _ m' ys => match Nat.beq m m' with | true => some (.vals true m (rs ++ ys)) | false => none
  | _, _ => none

/-- append -/
def appX (E : Env) (hp : List O) (t : TypeId) (s x : V) : R :=
  match assoc E.ty t with
  | some T => match T.kd with
    | .slice e => match assoc E.ty e with
      | some Te => match x with
        | .sl b2 k2 len2 _ => match (getO E.G hp b2).isRows && Nat.beq Te.sz (getO E.G hp b2).wid && Nat.ble 1 Te.sz && Nat.ble 1 Te.by_ with
          | true => match s with
            | .nils => .app none (decide (len2 * Te.by_ ≤ 140737488355328)) ((getO E.G hp b2).win true k2 len2)
            | .sl b 0 len none => match Nat.ble gbase b, (getO E.G hp b).own, catO (getO E.G hp b) ((getO E.G hp b2).win false k2 len2) with
              | false, true, some o => .app (some b) (decide (len = (getO E.G hp b).len) && decide ((len + len2) * Te.by_ ≤ 140737488355328) && !Nat.beq b b2) o
              | _, _, _ => .bad
            | _ => .bad
          | false => .bad
        | _ => .bad
      | none => .bad
    | _ => .bad
  | none => .bad

def evOp (E : Env) (tm : List (Nat × V)) (hp : List O) : Op → R
  | .move x => .val none (evA E tm x)
  | .assign x => .val none (evA E tm x)
  | .pick c a b => pickV (evA E tm c) (evA E tm a) (evA E tm b)
  | .box t x => match assoc E.ty t with
    | some _T => match (evA E tm x).cells.all V.one with
      | true => .alloc (.cells true (evA E tm x).cells) (fun b => .ptr b 0 0)
      | false => .bad
    | none => .bad
  | .alloc t => match assoc E.ty t with
    | some T => .alloc (.cells true T.zero) (fun b => .ptr b 0 0)
    | none => .bad
  | .load t a => match loadV E hp t (evA E tm a) with
    | some v => .val none v
    | none => .bad
  | .store t a x => match evA E tm a with
    | .ptr b k j => match assoc E.ty t with
      | some T => match Nat.ble gbase b with
        | true => .bad
        | false => match stO (hp.getD b .gone) k j (evA E tm x) T.sz with
          | some o => .store b o
          | none => .bad
      | none => .bad
    | _ => .bad
  | .fieldAddr t a i => match evA E tm a with
    | .ptr b k j => match assoc E.ty t with
      | some T => match T.kd with
        | .struct offs => match offs[i]? with
          | some (o, t') => match szOf E t' with
            | some (_ + 1) => .val none (.ptr b k (addN j o))
            | _ => .bad
          | none => .bad
        | _ => .bad
      | none => .bad
    | _ => .bad
  | .indexAddr t a i => match evA E tm a, evA E tm i with
    | .sl b k len _, .int _ n => match assoc E.ty t with
      | some T => match T.kd with
        | .slice e => match szOf E e with
          | some (sz + 1) => match Nat.beq (sz + 1) (getO E.G hp b).wid with
            | true => .val (some (decide (0 ≤ n) && decide (n < len))) (.ptr b (addN k n.toNat) 0)
            | false => .bad
          | _ => .bad
        | _ => .bad
      | none => .bad
    | _, _ => .bad
  | .binOp op t x y _ => match evA E tm x, evA E tm y with
    | .int k a, .int k' b => match BinOp.isShift op with
      | true => shf op k a b
      | false => match decide (k = k') with
        | true => bin op k a b
        | false => .bad
    | u, v => binX E op t u v
  | .unOp .not _ x => match evA E tm x with
    | .lit b => .val none (.lit (!b))
    | .bool b => .val none (.bool (!b))
    | _ => .bad
  | .unOp .neg _ x => match evA E tm x with
    | .int k n => .val none (.int k (k.wrap (0 - n)))
    | _ => .bad
  | .extract t i => match evA E tm t with
    | .tup l => match l[i]? with | some v => .val none v | none => .bad
    | _ => .bad
  | .build t parts => match assoc E.ty t with
    | some T => match T.kd with
      | .struct offs => match buildL offs (szOf E) (parts.toList.map fun p => (p.1, evA E tm p.2)) T.zero with
        | some l => .val none (.agg l)
        | none => .bad
      | _ => .bad
    | none => .bad
  | .slice t x lo hi mx => match evA E tm x, lo, hi, mx with
    | .ptr b 0 0, none, none, none => match assoc E.ty t with
      | some T => match T.kd with
        | .array n e => match szOf E e with
          | some (sz + 1) => match Nat.beq (sz + 1) (getO E.G hp b).wid && Nat.beq n (getO E.G hp b).len with
            | true => .val none (.sl b 0 n (some n))
            | false => .bad
          | _ => .bad
        | _ => .bad
      | none => .bad
    | u, _, _, _ => slX E hp t u (optI E tm lo) (optI E tm hi) (optI E tm mx)
  | .call c => match c.callee with
    | .value f => .call (evA E tm f) (c.args.toList.map (evA E tm))
    | .builtin .len => match c.args.toList, c.argTypes.toList with
      | [x], [t] => match assoc E.ty t with
        | some T => match T.kd, evA E tm x with
          | .slice _, .sl _ _ n _ => .val none (.int .i64 n)
          | .slice _, .nils => .val none (.int .i64 0)
          | .str, .str l => .val none (.int .i64 l.length)
          | _, _ => .bad
        | none => .bad
      | _, _ => .bad
    | .builtin .append => match c.args.toList, c.argTypes.toList with
      | [s, x], [t, t'] => match Nat.beq t t' with
        | true => appX E hp t (evA E tm s) (evA E tm x)
        | false => .bad
      | _, _ => .bad
    | .builtin .max => match c.args.toList with
      | x :: r => maxV true (evA E tm x) (r.map (evA E tm))
      | [] => .bad
    | .builtin .min => match c.args.toList with
      | x :: r => maxV false (evA E tm x) (r.map (evA E tm))
      | [] => .bad
    | _ => .bad
  | .convert s d x => match assoc E.ty s, assoc E.ty d with
    | some _, some D => match D.kd, evA E tm x with
      | .int k, .int _ n => .val none (.int k (k.wrap n))
      | .str, .str l => .val none (.str l)
      | _, _ => .bad
    | _, _ => .bad
  | .index t x i => match assoc E.ty t with
    | some T => match T.kd, evA E tm x, evA E tm i with
      | .str, .str l, .int _ n => .val (some (decide (0 ≤ n) && decide (n < l.length))) (.int .u8 (l.getD n.toNat 0).toNat)
      | _, _, _ => .bad
    | none => .bad
  | .unOp .xor _ x => match evA E tm x with
    | .int k n => .val none (.int k (band .xor k (match k.signed with | true => -1 | false => k.max) n))
    | _ => .bad
  | .makeFunc fn first caps => match fn, first.toList with
    | .func f, [] => .val none (.fn f (caps.toList.map (evA E tm)))
    | _, _ => .bad
  | .buildSlice t n parts => match assoc E.ty t with
    | some T => match T.kd with
      | .slice e => match assoc E.ty e with
        | some Te => match buildO Te.sz n (parts.toList.map fun p => (p.1, evA E tm p.2)) with
          | some o => .alloc o (fun b => .sl b 0 n none)
          | none => .bad
        | none => .bad
      | _ => .bad
    | none => .bad
  | _ => .bad

end Go.Ab
