/- An evaluator of the model on values that are partly known, and its soundness (part AbEval); no condition. -/
import Derived.Test.YtjckbgodcefogaaDoorAbApp
namespace Go.Ab

/-! ### Evaluation of code -/

abbrev Tm := List (Nat × V)

inductive T where
  | ret (e : Exit) (tm : Tm) (hp : List O)
  | br (b : Bool) (x y : T)
  | need (b : Bool) (x : T)
  | loop (c : Code) (μ N : Nat) (tm : Tm) (hp : List O) (k : Exit → Tm → List O → T)
  | fail

/-- how a function value is called: its value, the arguments, the heap -/
abbrev Hd := V → List V → List O → (V → List O → T) → T

def forceV (v : V) (k : V → T) : T :=
  match v with
  | .lit b => k (.lit b)
  | .bool b => k (.bool b)
  | .int q n => k (.int q n)
  | .str x => k (.str x)
  | .ptr b i j => k (.ptr b i j)
  | .nilp => k .nilp
  | .sl b i n c => k (.sl b i n c)
  | .nils => k .nils
  | .fn f c => k (.fn f c)
  | .nilf => k .nilf
  | .yl l => k (.yl l)
  | .agg l => k (.agg l)
  | .tup l => k (.tup l)
  | .nili => k .nili
  | .when g w => k (.when g w)
  | .junk => k .junk

theorem forceV_eq (v : V) (k : V → T) : forceV v k = k v := by cases v <;> rfl

def forceL : List V → (List V → T) → T
  | [], k => k []
  | v :: l, k => forceV v fun v => forceL l fun l => k (v :: l)

theorem forceL_eq (l : List V) (k : List V → T) : forceL l k = k l := by
  induction l generalizing k with
  | nil => rfl
  | cons v l ih => simp [forceL, forceV_eq, ih]

/-- a value with its parts -/
def forceD (v : V) (k : V → T) : T :=
  match v with
  | .agg l => forceL l fun l => k (.agg l)
  | .tup l => forceL l fun l => k (.tup l)
  | .when g w => forceV w fun w => k (.when g w)
  | v => forceV v k

theorem forceD_eq (v : V) (k : V → T) : forceD v k = k v := by
  cases v <;> simp [forceD, forceL_eq, forceV_eq]

def forceO (o : O) (k : O → T) : T :=
  match o with
  | .cells w l => forceL l fun l => k (.cells w l)
  | .ints w q zs => k (.ints w q zs)
  | .rows w ks rs => k (.rows w ks rs)
  | .vals w m rs => k (.vals w m rs)
  | .gone => k .gone
  | .rsv => k .rsv

theorem forceO_eq (o : O) (k : O → T) : forceO o k = k o := by cases o <;> simp [forceO, forceL_eq]

def appK : List O → O → (List O → T) → T
  | [], o, k => forceO o fun o => k [o]
  | x :: l, o, k => appK l o fun r => k (x :: r)

theorem appK_eq (l : List O) (o : O) (k : List O → T) : appK l o k = k (l ++ [o]) := by
  induction l generalizing k with
  | nil => simp [appK, forceO_eq]
  | cons x l ih => simp [appK, ih]

def setK : List O → Nat → O → (List O → T) → T
  | [], _, _, k => k []
  | _ :: l, 0, o, k => forceO o fun o => k (o :: l)
  | x :: l, i + 1, o, k => setK l i o fun r => k (x :: r)

theorem setK_eq (l : List O) (i : Nat) (o : O) (k : List O → T) : setK l i o k = k (l.set i o) := by
  induction l generalizing i k with
  | nil => rfl
  | cons x l ih => cases i <;> simp [setK, forceO_eq, ih]

def killK (hp : List O) (old : Option Nat) (k : List O → T) : T :=
  match old with
  | none => k hp
  | some b => setK hp b .gone k

theorem killK_eq (hp : List O) (old : Option Nat) (k : List O → T) : killK hp old k = k (killO hp old) := by
  cases old <;> simp [killK, killO, setK_eq]

/-- a temporary is written -/
def putV (N : Nat) (tm : Tm) (hp : List O) (d : Option Nat) (v : V) (k : Tm → List O → T) : T :=
  match d with
  | none => k tm hp
  | some d => match Nat.blt d N with
    | true => forceD v fun v => k ((d, v) :: tm) hp
    | false => .fail

def lenOk (hp : List O) : Bool := Nat.blt (hp.length + 1) gbase

/-- one operation that is carried out -/
def opK (E : Env) (hd : Hd) (N : Nat) (o : Oper) (tm : Tm) (hp : List O) (k : Tm → List O → T) : T :=
  match evOp E tm hp o.op with
  | .val none v => putV N tm hp o.dst v k
  | .val (some c) v => .need c (putV N tm hp o.dst v k)
  | .alloc ob mk => match lenOk hp with
    | true => appK hp ob fun hp' => putV N tm hp' o.dst (mk hp.length) k
    | false => .fail
  | .store b ob => setK hp b ob fun hp => putV N tm hp o.dst .junk k
  | .call f args => forceV f fun f => forceL args fun args => hd f args hp fun v hp => putV N tm hp o.dst v k
  | .br b x y => .br b (putV N tm hp o.dst x k) (putV N tm hp o.dst y k)
  | .app old c ob => .need c (match lenOk hp with
    | true => killK hp old fun hp1 => appK hp1 ob fun hp' => putV N tm hp' o.dst (.sl hp.length 0 ob.len none) k
    | false => .fail)
  | .bad => .fail

def dstOf (ops : List Oper) (j : Nat) : Option Nat :=
  match ops[j]? with | some o => o.dst | none => none

/-- what must be known under a guard -/
def whenOps : Op → List Operand
  | .pick c _ _ => [c]
  | op => op.operands.toList

/-- under a guard: values that hang on guards are taken as they are; what must be known is asked -/
def unwhen (g : Bool) : List Operand → Tm → (Tm → T) → T
  | [], tm, k => k tm
  | .tmp t :: r, tm, k => match look tm t with
    | .when g' v => .need (!g || g') (forceV v fun v => unwhen g r ((t, v) :: tm) k)
    | _ => unwhen g r tm k
  | _ :: r, tm, k => unwhen g r tm k

/-! #### Contracts of pure functions at a call -/

mutual
def canon (E : Env) (hp : List O) : V → List O → Option (V × List O)
  | .sl b k len _, acc => match getO E.G hp b with
    | .ints _ kd zs => some (.sl acc.length 0 len none, acc ++ [.ints false kd ((zs.drop k).take len)])
    | .rows _ ks rs => some (.sl acc.length 0 len none, acc ++ [.rows false ks ((rs.drop k).take len)])
    | .vals _ m rs => match rs.all plL with
      | true => some (.sl acc.length 0 len none, acc ++ [.vals false m ((rs.drop k).take len)])
      | false => none
    | _ => none
  | .fn f l, acc => match canonL E hp l acc with | some (l, acc) => some (.fn f l, acc) | none => none
  | .agg l, acc => match canonL E hp l acc with | some (l, acc) => some (.agg l, acc) | none => none
  | .lit b, acc => some (.bool b, acc)
  | .bool b, acc => some (.bool b, acc)
  | .int k n, acc => some (.int k n, acc)
  | .str s, acc => some (.str s, acc)
  | .nils, acc => some (.nils, acc)
  | _, _ => none
def canonL (E : Env) (hp : List O) : List V → List O → Option (List V × List O)
  | [], acc => some ([], acc)
  | v :: l, acc => match canon E hp v acc with
    | some (v, acc) => match canonL E hp l acc with
      | some (l, acc) => some (v :: l, acc)
      | none => none
    | none => none
end

mutual
/-- a result, its blocks moved from d0 on to d1 on -/
def V.shift (d0 d1 : Nat) : V → Option V
  | .sl b k len cap => match Nat.ble d0 b && Nat.blt b gbase with | true => some (.sl (b - d0 + d1) k len cap) | false => none
  | .lit b => some (.lit b)
  | .bool b => some (.bool b)
  | .int k n => some (.int k n)
  | .str s => some (.str s)
  | .nils => some .nils
  | .agg l => match shiftL d0 d1 l with | some l => some (.agg l) | none => none
  | .tup l => match shiftL d0 d1 l with | some l => some (.tup l) | none => none
  | _ => none
def shiftL (d0 d1 : Nat) : List V → Option (List V)
  | [] => some []
  | v :: l => match V.shift d0 d1 v with
    | some v => match shiftL d0 d1 l with
      | some l => some (v :: l)
      | none => none
    | none => none
end

def O.isData (o : O) : Bool := o.data && o.own

def appL : List O → List O → (List O → T) → T
  | hp, [], k => k hp
  | hp, o :: l, k => appK hp o fun hp => appL hp l k

theorem appL_eq (l : List O) (hp : List O) (k : List O → T) : appL hp l k = k (hp ++ l) := by
  induction l generalizing hp with
  | nil => simp [appL]
  | cons x l ih => simp [appL, appK_eq, ih]

/-- a call that a contract answers by a plain value -/
def pfPlain (E : Env) (hp : List O) (f : V) (args : List V) : Option (Bool × V) :=
  match f with
  | .fn g caps => match canonL E hp (args ++ caps) [] with
    | some (a, h) => match E.pf g a h with
      | some (c, v, []) => match Nat.blt h.length gbase && Nat.blt (hp.length + 1) gbase with
        | true => match V.shift h.length hp.length v with | some v => some (c, v) | none => none
        | false => none
      | _ => none
    | none => none
  | _ => none

/-- a guard: yes, no, by a bool that is not known -/
inductive GV where
  | yes | no | grd (g : Bool) | bad

def gval (v : V) (want : Bool) : GV :=
  match v with
  | .lit b => match b, want with
    | true, true => .yes
    | false, false => .yes
    | _, _ => .no
  | .bool b => match want with
    | true => .grd b
    | false => .grd (!b)
  | .when g (.bool b) => match want with
    | true => .grd (g && b)
    | false => .grd (g && !b)
  | .when g (.lit b) => match b, want with
    | true, true => .grd g
    | false, false => .grd g
    | _, _ => .no
  | _ => .bad

/-- where all is known, a guard is worked out -/
def gcc : Bool → GV → GV
  | true, .grd g => match g with
    | true => .yes
    | false => .no
  | _, x => x
def gvalE (E : Env) (v : V) (want : Bool) : GV := gcc E.cc (gval v want)

/-- what a guard that is not met says -/
def gno (tm : Tm) (d : Nat) (want : Bool) : Tm :=
  match look tm d with
  | .bool _ => (d, .lit (!want)) :: tm
  | _ => tm

def evOps (E : Env) (hd : Hd) (N : Nat) (all : List Oper) : List Oper → Tm → List O → (Tm → List O → T) → T
  | [], tm, hp, k => k tm hp
  | o :: rest, tm, hp, k =>
    match o.guard with
    | none => opK E hd N o tm hp fun tm hp => evOps E hd N all rest tm hp k
    | some (j, want) => match dstOf all j with
      | none => .fail
      | some d => match gvalE E (look tm d) want with
        | .yes => unwhen true (whenOps o.op) tm fun tm => opK E hd N o tm hp fun tm hp => evOps E hd N all rest tm hp k
        | .no => putV N tm hp o.dst .junk fun tm hp => evOps E hd N all rest tm hp k
        | .grd b => unwhen b (whenOps o.op) tm fun tm' => match evOp E tm' hp o.op with
            | .val none v => putV N tm hp o.dst (.when b v) fun tm hp => evOps E hd N all rest tm hp k
            | .val (some c) v => .need (!b || c) (putV N tm hp o.dst (.when b v) fun tm hp => evOps E hd N all rest tm hp k)
            | .call f args => forceV f fun f => forceL args fun args => match pfPlain E hp f args with
              | some (c, v) => .need (!b || c) (putV N tm hp o.dst (.when b v) fun tm hp => evOps E hd N all rest tm hp k)
              | none => .br b (opK E hd N o ((d, .lit want) :: tm') hp fun tm hp => evOps E hd N all rest tm hp k)
                  (putV N (gno tm d want) hp o.dst .junk fun tm hp => evOps E hd N all rest tm hp k)
            | _ => .br b (opK E hd N o ((d, .lit want) :: tm') hp fun tm hp => evOps E hd N all rest tm hp k)
                (putV N (gno tm d want) hp o.dst .junk fun tm hp => evOps E hd N all rest tm hp k)
        | .bad => .fail

/-! #### A region that draws its order -/

/-- what must come before each operation, as bits -/
def befs : List Oper → List Nat → List Nat
  | [], acc => acc
  | o :: r, acc => befs r (acc ++ [o.after.toList.foldl (fun s e => bif Region.binds .any e then s ||| 2 ^ e.on ||| acc.getD e.on 0 else s) 0])

def ord (bf : List Nat) (i j : Nat) : Bool := Nat.testBit (bf.getD j 0) i

def tmpsOf : List Operand → List Nat
  | [] => []
  | .tmp t :: r => t :: tmpsOf r
  | _ :: r => tmpsOf r

/-- the temporaries that an operation looks at -/
def names (all : List Oper) (o : Oper) : List Nat :=
  tmpsOf o.op.operands.toList ++ (match o.guard with | some (i, _) => (match dstOf all i with | some d => [d] | none => []) | none => [])

def conflict (all : List Oper) (x y : Oper) : Bool :=
  (match x.dst with | some d => (names all y).contains d || y.dst == some d | none => false) ||
  (match y.dst with | some d => (names all x).contains d | none => false)

/-- operations that may make blocks -/
def loud : Op → Bool
  | .call c => match c.callee with
    | .builtin .append => true
    | .builtin _ => false
    | _ => true
  | .box _ _ | .buildSlice _ _ _ => true
  | _ => false

def pairOk (all : List Oper) (bf : List Nat) (i j : Nat) : Bool :=
  match all[i]?, all[j]? with
  | some x, some y => (!(conflict all x y || (loud x.op && loud y.op))) || ord bf i j
  | _, _ => true

/-- how many operations may come in any order; the rest comes as it stands -/
def cutGo (bf : List Nat) : Nat → Nat
  | 0 => 0
  | j + 1 => bif (bf.getD j 0) &&& (2 ^ j - 1) == 2 ^ j - 1 then cutGo bf j else j + 1

def drawB (all : List Oper) (bf : List Nat) (m : Nat) : Bool :=
  ((List.range m).all fun j => (List.range j).all fun i => pairOk all bf i j) &&
  ((List.range all.length).all fun j => match all[j]? with | some o => o.after.toList.all (fun e => !Region.binds .any e || Nat.blt e.on j) | none => true) &&
  ((List.range all.length).all fun j => Nat.blt j m || (bf.getD j 0) &&& (2 ^ j - 1) == 2 ^ j - 1)

/-- what is written to the blocks reserved in a region: number, the operation that writes, the content -/
structure Rsv where
  id : Nat
  at_ : Nat
  put : List V

/-- a store to a block reserved: what has been written there must come before it -/
def rsvOk (bf : List Nat) (id j : Nat) (l : List V) (rs : List Rsv) : Bool :=
  (rs.all fun r => !Nat.beq r.id id || (ord bf r.at_ j && Nat.beq r.put.length l.length)) && rs.any fun r => Nat.beq r.id id

def nAlloc : List Oper → Nat
  | [] => 0
  | o :: r => match o.op with | .alloc _ => nAlloc r + 1 | _ => nAlloc r

/-- the blocks reserved come to stand in the heap -/
def settle : List Rsv → List O → (List O → T) → T
  | [], hp, k => k hp
  | r :: rs, hp, k => setK hp r.id (.cells true r.put) fun hp => settle rs hp k

/-- one operation of those that come in any order; j: its number -/
def opD (E : Env) (N : Nat) (bf : List Nat) (base nA : Nat) (o : Oper) (j : Nat) (tm : Tm) (hp : List O) (na : Nat) (rs : List Rsv) (k : Tm → List O → Nat → List Rsv → T) : T :=
  match o.op with
  | .alloc t => match assoc E.ty t, Nat.blt na nA with
    | some ty, true => putV N tm hp o.dst (.ptr (base + na) 0 0) fun tm hp => k tm hp (na + 1) (rs ++ [{ id := base + na, at_ := j, put := ty.zero }])
    | _, _ => .fail
  | .store t a x => match evA E tm a, o.dst with
    | .ptr b 0 0, none => match assoc E.ty t with
      | some ty => forceD (evA E tm x) fun v => match Nat.beq v.cells.length ty.sz && Nat.ble 1 ty.sz && v.cells.all V.one with
        | true => match rsvOk bf b j v.cells rs with
          | true => k tm hp na (rs ++ [{ id := b, at_ := j, put := v.cells }])
          | false => .fail
        | false => .fail
      | none => .fail
    | _, _ => .fail
  | .call c => match c.callee with
    | .builtin _ => match evOp E tm hp o.op with
      | .val none v => putV N tm hp o.dst v fun tm hp => k tm hp na rs
      | .val (some c) v => .need c (putV N tm hp o.dst v fun tm hp => k tm hp na rs)
      | _ => .fail
    | _ => match evOp E tm hp o.op with
      | .call f args => forceV f fun f => forceL args fun args => match (match f with
          | .fn g caps => match canonL E hp (args ++ caps) [] with
            | some (a, h) => match E.pf g a h with
              | some (c, v, new) => some (c, h.length, v, new)
              | none => none
            | none => none
          | _ => none) with
        | some (c, d0, v, new) => match V.shift d0 hp.length v, new.all O.isData, Nat.blt (hp.length + new.length + 1) gbase && Nat.blt (d0 + new.length) gbase with
          | some v, true, true => .need c (appL hp new fun hp => putV N tm hp o.dst v fun tm hp => k tm hp na rs)
          | _, _, _ => .fail
        | none => .fail
      | _ => .fail
  | .box t x => match evOp E tm hp (.box t x) with
    | .alloc ob mk => match lenOk hp with
      | true => appK hp ob fun hp' => putV N tm hp' o.dst (mk hp.length) fun tm hp => k tm hp na rs
      | false => .fail
    | _ => .fail
  | .buildSlice t n ps => match evOp E tm hp (.buildSlice t n ps) with
    | .alloc ob mk => match lenOk hp with
      | true => appK hp ob fun hp' => putV N tm hp' o.dst (mk hp.length) fun tm hp => k tm hp na rs
      | false => .fail
    | _ => .fail
  | op => match loud op with
    | true => .fail
    | false => match evOp E tm hp op with
      | .val none v => putV N tm hp o.dst v fun tm hp => k tm hp na rs
      | .val (some c) v => .need c (putV N tm hp o.dst v fun tm hp => k tm hp na rs)
      | .br b x y => .br b (putV N tm hp o.dst x fun tm hp => k tm hp na rs) (putV N tm hp o.dst y fun tm hp => k tm hp na rs)
      | _ => .fail

/-- likewise under a guard: plain values alone -/
def opDG (E : Env) (N : Nat) (g : Bool) (o : Oper) (tm : Tm) (hp : List O) (k : Tm → List O → T) : T :=
  unwhen g (whenOps o.op) tm fun tm' => match evOp E tm' hp o.op with
    | .val none v => putV N tm hp o.dst (.when g v) k
    | .val (some c) v => .need (!g || c) (putV N tm hp o.dst (.when g v) k)
    | .call f args => forceV f fun f => forceL args fun args => match pfPlain E hp f args with
      | some (c, v) => .need (!g || c) (putV N tm hp o.dst (.when g v) k)
      | none => .fail
    | _ => .fail

def evD (E : Env) (N : Nat) (all : List Oper) (bf : List Nat) (base nA : Nat) : List Oper → Nat → Tm → List O → Nat → List Rsv → (Tm → List O → Nat → List Rsv → T) → T
  | [], _, tm, hp, na, rs, k => k tm hp na rs
  | o :: rest, j, tm, hp, na, rs, k =>
    match o.guard with
    | none => opD E N bf base nA o j tm hp na rs fun tm hp na rs => evD E N all bf base nA rest (j + 1) tm hp na rs k
    | some (i, want) => match dstOf all i with
      | none => .fail
      | some d => match gvalE E (look tm d) want with
        | .yes => opDG E N true o tm hp fun tm hp => evD E N all bf base nA rest (j + 1) tm hp na rs k
        | .no => putV N tm hp o.dst .junk fun tm hp => evD E N all bf base nA rest (j + 1) tm hp na rs k
        | .grd g => opDG E N g o tm hp fun tm hp => evD E N all bf base nA rest (j + 1) tm hp na rs k
        | .bad => .fail

def isDefer : Op → Bool
  | .defer _ => true
  | _ => false

def evRegion (E : Env) (hd : Hd) (N : Nat) (all : List Oper) (tm : Tm) (hp : List O) (k : Tm → List O → T) : T :=
  let bf := befs all []
  let m := cutGo bf all.length
  .need (drawB all bf m && all.all fun o => !isDefer o.op) (match Nat.blt (hp.length + nAlloc (all.take m) + 1) gbase with
    | true => evD E N all bf hp.length (nAlloc (all.take m)) (all.take m) 0 tm (hp ++ List.replicate (nAlloc (all.take m)) .rsv) 0 [] fun tm hp _ rs => settle rs hp fun hp => evOps E hd N all (all.drop m) tm hp k
    | false => .fail)

def evC (E : Env) (hd : Hd) (μ N : Nat) : Code → Tm → List O → (Exit → Tm → List O → T) → T
  | .skip, tm, hp, k => k .normal tm hp
  | .exit id, tm, hp, k => k (.exit id) tm hp
  | .ret, tm, hp, k => k .ret tm hp
  | .seq a b, tm, hp, k => evC E hd μ N a tm hp fun e tm hp => match e with
    | .normal => evC E hd μ N b tm hp k
    | e => k e tm hp
  | .cond c x y, tm, hp, k => match evA E tm c with
    | .lit true => evC E hd μ N x tm hp k
    | .lit false => evC E hd μ N y tm hp k
    | .bool b => .br b (evC E hd μ N x tm hp k) (evC E hd μ N y tm hp k)
    | _ => .fail
  | .block id b, tm, hp, k => evC E hd μ N b tm hp fun e tm hp => match e with
    | .exit id' => match Nat.beq id' id with
      | true => k .normal tm hp
      | false => k (.exit id') tm hp
    | e => k e tm hp
  | .loop b, tm, hp, k => .loop (.loop b) μ N tm hp k
  | .rangeFunc g ps x b, tm, hp, k => .loop (.rangeFunc g ps x b) μ N tm hp k
  | .region _ ops false, tm, hp, k => evOps E hd N ops.toList ops.toList tm hp fun tm hp => k .normal tm hp
  | .region _ ops true, tm, hp, k => evRegion E hd N ops.toList tm hp fun tm hp => k .normal tm hp
  | _, _, _, _ => .fail

/-- the results -/
def resV (E : Env) (tm : Tm) (hp : List O) : List ResultVar → Option (List V)
  | [] => some []
  | .tmp t :: r => match resV E tm hp r with | some l => some (look tm t :: l) | none => none
  | .cell a t :: r => match loadV E hp t (look tm a) with
    | some v => match resV E tm hp r with | some r => some (v :: r) | none => none
    | none => none

def initTm : Nat → List V → Tm
  | _, [] => []
  | i, v :: l => (i, v) :: initTm (i + 1) l

def oneOrTup : List V → V
  | [v] => v
  | l => .tup l

def hdl (E : Env) : Nat → Hd
  | 0, _, _, _, _ => .fail
  | n + 1, .fn f caps, args, hp, k =>
    match (match canonL E hp (args ++ caps) [] with
      | some (a, h) => match E.pf f a h with
        | some (c, v, new) => some (c, h.length, v, new)
        | none => none
      | none => none) with
    | some (c, d0, v, new) => match V.shift d0 hp.length v, new.all O.isData, Nat.blt (hp.length + new.length + 1) gbase && Nat.blt (d0 + new.length) gbase with
      | some v, true, true => .need c (appL hp new fun hp => forceD v fun v => k v hp)
      | _, _, _ => .fail
    | none => match assoc E.inl f with
      | some fn => match fn.body with
        | some c => match Nat.ble (args ++ caps).length fn.ntmps with
          | true => evC E (hdl E n) hp.length fn.ntmps c (initTm 0 (args ++ caps)) hp fun e tm hp => match e with
            | .normal => match resV E tm hp fn.results.toList with
              | some l => k (oneOrTup l) hp
              | none => .fail
            | .ret => match resV E tm hp fn.results.toList with
              | some l => k (oneOrTup l) hp
              | none => .fail
            | _ => .fail
          | false => .fail
        | none => .fail
      | none => .fail
  | _, _, _, _, _ => .fail

end Go.Ab
