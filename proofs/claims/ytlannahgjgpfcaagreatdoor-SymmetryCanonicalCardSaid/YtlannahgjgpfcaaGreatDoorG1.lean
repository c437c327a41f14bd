/- An evaluator of the model on values that are partly known, and its soundness (text G1); no condition. -/
import Derived.WalkKit
import Derived.CallsIn
import Derived.OrdersIn
import Derived.Laws.StructEq
import Derived.ChangeKeysEq
import Derived.Laws.BytesArg
import Derived.Laws.Cover3
import Derived.RangeFuncOwn
namespace Go.Ab
@[reducible] def BM:Nat:=1048576
def idF(f:FuncId):FuncId:=match Nat.ble BM f with|true=>Nat.sub f BM|false=>f
def joinA{α:Type}(f:FuncId)(args caps:List α):List α:=match Nat.ble BM f with|true=>caps++args|false=>args++caps
def mkFn(f:FuncId)(us:Array Value):Value:=match Nat.ble BM f with|true=>.func (.func (Nat.sub f BM)) us #[]|false=>.func (.func f) #[] us
theorem nI{f:FuncId}(h:Nat.ble BM f=false)(us:Array Value):mkFn f us=.func (.func f) #[] us:=by unfold mkFn;rw[h]
theorem JA{f:FuncId}(h:Nat.ble BM f=true)(us:Array Value):mkFn f us=.func (.func (Nat.sub f BM)) us #[]:=by unfold mkFn;rw[h]
theorem JK(f:Nat):Nat.ble BM (BM+f)=true:=Nat.ble_eq_true_of_le (Nat.le_add_right _ _)
theorem Kj(f:Nat):Nat.sub (BM+f) BM=f:=Nat.add_sub_cancel_left ..
theorem NQ(f:FuncId)(cus us:List Value):∃ cu au,(∀ (P:Program) (w:World),(Deferred.ofValue (mkFn f cus.toArray) us.toArray).run P w=.ok { target:=.fn (.func (idF f)) cu,args:=au } w)/\au++cu=(joinA f us cus).toArray:=by
 unfold mkFn joinA idF
 cases Nat.ble BM f
 ·exact⟨cus.toArray,us.toArray,fun P w=>by simp[Deferred.ofValue],by simp⟩
 ·exact⟨#[],cus.toArray++us.toArray,fun P w=>by simp[Deferred.ofValue],by simp⟩
inductive V where
 |lit (b:Bool)
 |bool (b:Bool)
 |int (k:IntKind) (n:Int)
 |str (s:List UInt8)
 |ptr (b k j:Nat)
 |nilp
 |sl (b k len:Nat) (cap:Option Nat)
 |nils
 |fn (f:FuncId) (caps:List V)
 |nilf
 |yl (l:Nat)
 |agg (l:List V)
 |tup (l:List V)
 |nili
 |when (g:Bool) (v:V)
 |junk
 deriving Inhabited
abbrev vno:V:=.when false (.lit false)
inductive O where
 |ints (w:Bool) (k:IntKind) (zs:List Int)
 |rows (w:Bool) (ks:List IntKind) (rs:List (List Int))
 |cells (w:Bool) (l:List V)
 |vals (w:Bool) (m:Nat) (rs:List (List V))
 |gone
 |rsv
 |lock (w:Bool) (m n:Nat)
 deriving Inhabited
inductive TyK where
 |int (k:IntKind)|bool|str|slice (e:TypeId)|array (n:Nat) (e:TypeId)|struct (offs:List (Nat×TypeId))|func|other
structure Ty where
 sz:Nat
 by_:Nat
 zero:List V
 kd:TyK
def TyK.isAgg:TyK->Bool
 |.struct _|.array _ _=>true
 |_=>false
def look:List (Nat×V)->Nat->V
 |[],_=>.junk
 | (i,v)::r,t=>match Nat.beq i t with|true=>v|false=>look r t
def assoc{α:Type}:List (Nat×α)->Nat->Option α
 |[],_=>none
 | (i,v)::r,t=>match Nat.beq i t with|true=>some v|false=>assoc r t
structure Env where
 ty:List (TypeId×Ty)
 G:List O
 pf:FuncId->List V->List O->Option (Bool×V×List O)
 inl:List (FuncId×Func)
 cc:Bool:=false
 pn:List (FuncId×(List V->Option (Bool×Value))):=[]
 cut:Bool:=false
mutual
def V.pl:V->Bool
 |.lit _=>true
 |.bool _=>true
 |.int _ _=>true
 |.str _=>true
 |.nils=>true
 |.nilp=>true
 |.agg l=>plL l
 |_=>false
def plL:List V->Bool
 |[]=>true
 |v::l=>V.pl v&&plL l
end
def ax:Nat:=1000000
def EG:Value->V
 |.bool b=>.lit b
 |.int k n=>.int k n
 |.string s=>.str s.data.toList
 |.pointer none=>.nilp
 |.slice none 0 0=>.nils
 |.nilFunc=>.nilf
 |.nilIface=>.nili
 |_=>.junk
def evA(E:Env)(tm:List (Nat×V)):Operand->V
 |.tmp t=>look tm t
 |.const v=>EG v
 |.global g=>match E.G[g]? with|some _=>.ptr (ax+g) 0 0|none=>.junk
 |.func f=>match Nat.ble BM f with|false=>.fn f []|true=>.junk
def getO(G:List O)(hp:List O)(b:Nat):O:=
 match Nat.ble ax b with
 |true=>G.getD (b-ax) .gone
 |false=>hp.getD b .gone
def O.cell:O->Nat->Nat->Option V
 |.ints _ kd zs,k,0=>some (.int kd (zs.getD k 0))
 |.rows _ ks rs,k,j=>match ks[j]? with|some kd=>some (.int kd ((rs.getD k []).getD j 0))|none=>none
 |.cells _ l,0,j=>l[j]?
 |.vals _ _ rs,k,j=>match rs[k]? with|some r=>r[j]?|none=>none
 |_,_,_=>none
def O.cellsAt(o:O)(k:Nat):Nat->Nat->Option (List V)
 |_,0=>some []
 |j,n+1=>match o.cell k j with
  |some v=>match O.cellsAt o k (j+1) n with
   |some l=>some (v::l)
   |none=>none
  |none=>none
def O.len:O->Nat
 |.ints _ _ zs=>zs.length
 |.rows _ _ rs=>rs.length
 |.cells _ _=>1
 |.vals _ _ rs=>rs.length
 |.lock _ _ n=>n
 |_=>0
def O.wid:O->Nat
 |.ints _ _ _=>1
 |.rows _ ks _=>ks.length
 |.cells _ l=>l.length
 |.vals _ m _=>m
 |.lock _ m _=>m
 |_=>0
def O.own:O->Bool
 |.ints w _ _|.rows w _ _|.cells w _|.vals w _ _|.lock w _ _=>w
 |_=>false
def V.one:V->Bool
 |.agg _|.tup _|.when _ _|.junk=>false
 |_=>true
def O.tab:O->Bool
 |.ints false _ _|.rows false _ _|.lock false _ _=>true
 |.vals false _ rs=>rs.all plL
 |_=>false
def O.data:O->Bool
 |.ints _ _ _|.rows _ _ _|.lock _ _ _=>true
 |.vals _ _ rs=>rs.all plL
 |_=>false
def O.wf:O->Prop
 |.rows _ ks rs=>∀ r∈rs,r.length=ks.length
 |.vals _ m rs=>∀ r∈rs,r.length=m/\r.all V.one=true
 |_=>True
def V.cells:V->List V
 |.agg l=>l
 |v=>[v]
def putCells:List V->Nat->List V->List V
 |l,_,[]=>l
 |l,j,v::vs=>putCells (l.set j v) (j+1) vs
def stO(o:O)(k j:Nat)(v:V)(sz:Nat):Option O:=
 match o with
 |.cells true l=>match k with
  |0=>match Nat.beq v.cells.length sz&&Nat.ble (j+sz) l.length&&v.cells.all V.one&&Nat.ble 1 sz with
   |true=>some (.cells true (putCells l j v.cells))
   |false=>none
  |_=>none
 |.ints true kd zs=>match v,j with
  |.int kd' n,0=>match decide (kd=kd')&&Nat.beq sz 1 with|true=>some (.ints true kd (zs.set k n))|false=>none
  |_,_=>none
 |.rows true ks rs=>match v with
  |.int kd' n=>match ks[j]? with
   |some kd=>match decide (kd=kd')&&Nat.beq sz 1 with|true=>some (.rows true ks (rs.set k ((rs.getD k []).set j n)))|false=>none
   |none=>none
  |_=>none
 |.vals true m rs=>match Nat.beq v.cells.length sz&&Nat.ble (j+sz) m&&v.cells.all V.one&&Nat.ble 1 sz with
   |true=>some (.vals true m (rs.set k (putCells (rs.getD k []) j v.cells)))
   |false=>none
 |_=>none
inductive R where
 |val (c:Option Bool) (v:V)
 |alloc (o:O) (mk:Nat->V)
 |store (b:Nat) (o:O)
 |call (f:V) (args:List V)
 |br (b:Bool) (x y:V)
 |app (old:Option Nat) (c:Bool) (o:O)
 |isnil (n:Nat) (neg:Bool)
 |bad
def band(op:BinOp)(k:IntKind)(x y:Int):Int:=
 let a:=BitVec.ofInt k.bits x
 let b:=BitVec.ofInt k.bits y
 match op with
 |.and=>k.wrap (a &&& b).toNat
 |.or=>k.wrap (a ||| b).toNat
 |.xor=>k.wrap (a ^^^ b).toNat
 |_=>k.wrap (a &&& ~~~b).toNat
def bin(op:BinOp)(k:IntKind)(a b:Int):R:=
 match op with
 |.add=>.val none (.int k (k.wrap (a+b)))
 |.sub=>.val none (.int k (k.wrap (a-b)))
 |.mul=>.val none (.int k (k.wrap (a*b)))
 |.quo=>.val (some (!decide (b=0))) (.int k (k.wrap (a.tdiv b)))
 |.rem=>.val (some (!decide (b=0))) (.int k (a.tmod b))
 |.and=>.val none (.int k (band .and k a b))
 |.or=>.val none (.int k (band .or k a b))
 |.xor=>.val none (.int k (band .xor k a b))
 |.andNot=>.val none (.int k (band .andNot k a b))
 |.eql=>.val none (.bool (decide (a=b)))
 |.neq=>.val none (.bool (!decide (a=b)))
 |.lss=>.val none (.bool (decide (a<b)))
 |.leq=>.val none (.bool (decide (a<=b)))
 |.gtr=>.val none (.bool (decide (b<a)))
 |.geq=>.val none (.bool (decide (b<=a)))
 |_=>.bad
def shf(op:BinOp)(k:IntKind)(a b:Int):R:=
 match op with
 |.shl=>.val (some (decide (0<=b))) (.int k (k.wrap (a*2^(min b.toNat k.bits))))
 |.shr=>.val (some (decide (0<=b))) (.int k (a.fdiv (2^(min b.toNat k.bits))))
 |_=>.bad
def BinOp.isShift:BinOp->Bool
 |.shl|.shr=>true
 |_=>false
def addN:Nat->Nat->Nat
 |0,n=>n
 |k,n=>k+n
def oD(c a b:V):R:=
 match c with
 |.lit true=>match a with
  |.when g x=>.val (some g) x
  |a=>.val none a
 |.lit false=>match b with
  |.when g x=>.val (some g) x
  |b=>.val none b
 |.bool c=>match a,b with
  |.when g (.bool x),.lit false=>.val (some (!c||g)) (.bool (c&&x))
  |.when g (.lit x),.lit false=>.val (some (!c||g)) (.bool (c&&x))
  |.bool x,.lit false=>.val none (.bool (c&&x))
  |.lit true,.when g (.bool y)=>.val (some (c||g)) (.bool (c||y))
  |.lit true,.when g (.lit y)=>.val (some (c||g)) (.bool (c||y))
  |.lit true,.bool y=>.val none (.bool (c||y))
  |x,y=>.br c x y
 |_=>.bad
def tx(offs:List (Nat×TypeId))(szs:TypeId->Option Nat):List (Nat×V)->List V->Option (List V)
 |[],cs=>some cs
 | (i,v)::r,cs=>match offs[i]? with
  |some (o,t)=>match szs t with
   |some n=>match Nat.beq v.cells.length n&&Nat.ble (o+n) cs.length&&v.cells.all V.one with
    |true=>tx offs szs r (putCells cs o v.cells)
    |false=>none
   |none=>none
  |none=>none
def mK(sz:Nat):List (Nat×V)->List V->Option (List V)
 |[],cs=>some cs
 | (i,v)::r,cs=>match Nat.beq v.cells.length sz&&Nat.ble (i*sz+sz) cs.length&&v.cells.all V.one with
  |true=>mK sz r (putCells cs (i*sz) v.cells)
  |false=>none
def szOf(E:Env)(t:TypeId):Option Nat:=
 match assoc E.ty t with|some T=>some T.sz|none=>none
def GO(E:Env)(hp:List O)(t:TypeId):V->Option V
 |.ptr b k j=>match assoc E.ty t with
  |some T=>match T.kd.isAgg with
   |true=>match (getO E.G hp b).cellsAt k j T.sz with
    |some l=>some (.agg l)
    |none=>none
   |false=>(getO E.G hp b).cell k j
  |none=>none
 |_=>none
def V.b?:V->Option Bool
 |.lit b=>some b
 |.bool b=>some b
 |_=>none
def uo(T:Ty)(l:List V)(o:Nat):Option V:=
 match T.kd.isAgg with
 |true=>match Nat.ble (o+T.sz) l.length with
  |true=>some (.agg ((l.drop o).take T.sz))
  |false=>none
 |false=>l[o]?
def oq(E:Env)(t:TypeId)(i:Nat):V->R
 |.agg l=>match assoc E.ty t with
  |some T=>match T.kd with
   |.struct offs=>match offs[i]? with
    |some (o,t')=>match assoc E.ty t' with
     |some T'=>match uo T' l o with
      |some v=>.val none v
      |none=>.bad
     |none=>.bad
    |none=>.bad
   |_=>.bad
  |none=>.bad
 |_=>.bad
def ixV(E:Env)(k:TyK)(u i:V):R:=
 match k with
 |.array n e=>match u with
  |.agg l=>match i with
   |.int _ x=>match assoc E.ty e with
    |some T=>match uo T l (x.toNat*T.sz) with
     |some v=>.val (some (decide (0<=x)&&decide (x<n))) v
     |none=>.bad
    |none=>.bad
   |_=>.bad
  |_=>.bad
 |_=>.bad
def ixA(E:Env)(hp:List O)(t:TypeId)(u i:V):R:=
 match u with
 |.ptr b k j=>match i with
  |.int _ x=>match assoc E.ty t with
   |some T=>match T.kd with
    |.array n e=>match szOf E e with
     |some (sz+1)=>match Nat.beq k 0&&Nat.beq j 0&&Nat.beq (sz+1) (getO E.G hp b).wid&&Nat.beq n (getO E.G hp b).len with
      |true=>.val (some (decide (0<=x)&&decide (x<n))) (.ptr b x.toNat 0)
      |false=>.val (some (decide (0<=x)&&decide (x<n))) (.ptr b k (addN j (x.toNat*(sz+1))))
     |_=>.bad
    |_=>.bad
   |none=>.bad
  |_=>.bad
 |_=>.bad
def eqAr(f:V->V->Option Bool)(T:Ty)(xs ys:List V):Nat->Nat->Option Bool
 |0,_=>some true
 |m+1,i=>match uo T xs (i*T.sz) with
  |some x=>match uo T ys (i*T.sz) with
   |some y=>match f x y with
    |some a=>match eqAr f T xs ys m (i+1) with
     |some b=>some (a&&b)
     |none=>none
    |none=>none
   |none=>none
  |none=>none
def eqFs(E:Env)(f:TypeId->V->V->Option Bool)(xs ys:List V):List (Nat×TypeId)->Option Bool
 |[]=>some true
 | (o,t)::r=>match assoc E.ty t with
  |some T=>match uo T xs o with
   |some x=>match uo T ys o with
    |some y=>match f t x y with
     |some a=>match r with
      |[]=>some a
      |_::_=>match eqFs E f xs ys r with
       |some b=>some (a&&b)
       |none=>none
     |none=>none
    |none=>none
   |none=>none
  |none=>none
def eqT(E:Env):Nat->TypeId->V->V->Option Bool
 |0,_,_,_=>none
 |d+1,t,x,y=>match assoc E.ty t with
  |some T=>match T.kd with
   |.int k=>match x,y with
    |.int k1 a,.int k2 b=>match decide (k1=k)&&decide (k2=k) with
     |true=>some (decide (a=b))
     |false=>none
    |_,_=>none
   |.bool=>match x.b?,y.b? with
    |some a,some b=>some (a==b)
    |_,_=>none
   |.str=>match x,y with
    |.str a,.str b=>some (a==b)
    |_,_=>none
   |.struct offs=>match x,y with
    |.agg xs,.agg ys=>eqFs E (eqT E d) xs ys offs
    |_,_=>none
   |.array n e=>match assoc E.ty e with
    |some Te=>match Te.kd with
     |.int _=>match x,y with
      |.agg xs,.agg ys=>eqAr (eqT E d e) Te xs ys n 0
      |_,_=>none
     |_=>none
    |none=>none
   |_=>none
  |none=>none
def binS(E:Env)(op:BinOp)(t:TypeId)(u v:V):R:=
 match u with
 |.agg xs=>match eqT E 8 t (.agg xs) v with
  |some b=>match op with
   |.eql=>.val none (.bool b)
   |.neq=>.val none (.bool (!b))
   |_=>.bad
  |none=>.bad
 |_=>.bad
def binN(E:Env)(op:BinOp)(t:TypeId)(n:Nat)(v:V):R:=
 match v with
 |.nils=>match assoc E.ty t with
  |some T=>match T.kd with
   |.slice _=>match op with
    |.eql=>.isnil n false
    |.neq=>.isnil n true
    |_=>.bad
   |_=>.bad
  |none=>.bad
 |_=>.bad
def Dx(E:Env)(op:BinOp)(t:TypeId)(v:V):R:=
 match v with
 |.nils=>match assoc E.ty t with
  |some T=>match T.kd with
   |.slice _=>match op with
    |.eql=>.val none (.lit true)
    |.neq=>.val none (.lit false)
    |_=>.bad
   |_=>.bad
  |none=>.bad
 |_=>.bad
def binX(E:Env)(op:BinOp)(t:TypeId)(u v:V):R:=
 match u with
 |.str a=>match v with
  |.str b=>match op with
   |.add=>.val (some (decide (a.length+b.length<=4611686018427387904))) (.str (a++b))
   |.eql=>.val none (.bool (a==b))
   |.neq=>.val none (.bool (!(a==b)))
   |.lss=>.val none (.bool (Op.bytesLess a b))
   |_=>.bad
  |_=>.bad
 |.fn _ _=>match v,assoc E.ty t with
  |.nilf,some T=>match T.kd,op with
   |.func,.eql=>.val none (.lit false)
   |.func,.neq=>.val none (.lit true)
   |_,_=>.bad
  |_,_=>.bad
 |.sl _ _ len _=>binN E op t len v
 |.nils=>Dx E op t v
 |u=>match u.b?,v.b?,assoc E.ty t with
  |some a,some b,some T=>match T.kd,op with
   |.bool,.eql=>.val none (.bool (a==b))
   |.bool,.neq=>.val none (.bool (!(a==b)))
   |_,_=>.bad
  |_,_,_=>binS E op t u v
def optI(E:Env)(tm:List (Nat×V)):Option Operand->Option (Option Int)
 |none=>some none
 |some x=>match evA E tm x with
  |.int _ n=>some (some n)
  |_=>none
def slX(E:Env)(hp:List O)(t:TypeId)(u:V)(lo hi mx:Option (Option Int)):R:=
 match assoc E.ty t with
 |some T=>match u with
  |.sl b k len cap=>match T.kd with
   |.slice e=>match szOf E e with
    |some (sz+1)=>match Nat.beq (sz+1) (getO E.G hp b).wid with
     |true=>match lo,hi,mx with
      |some lo,some hi,some none=>.val (some (decide (0<=lo.getD 0)&&decide (lo.getD 0<=hi.getD len)&&decide (hi.getD len<=len))) (.sl b (addN k (lo.getD 0).toNat) ((hi.getD len).toNat-(lo.getD 0).toNat) (cap.map (·-(lo.getD 0).toNat)))
      |some lo,some (some h),some (some m)=>.val (some (decide (0<=lo.getD 0)&&decide (lo.getD 0<=h)&&decide (h<=m)&&decide (m<=len))) (.sl b (addN k (lo.getD 0).toNat) (h.toNat-(lo.getD 0).toNat) (some (m.toNat-(lo.getD 0).toNat)))
      |_,_,_=>.bad
     |false=>.bad
    |_=>.bad
   |_=>.bad
  |.nils=>match T.kd with
   |.slice e=>match szOf E e with
    |some (_+1)=>match lo,hi,mx with
     |some lo,some (some h),some (some m)=>.val (some (decide (0<=lo.getD 0)&&decide (lo.getD 0<=h)&&decide (h<=m)&&decide (m<=0))) .nils
     |_,_,_=>.bad
    |_=>.bad
   |_=>.bad
  |.str l=>match T.kd,lo,hi,mx with
   |.str,some lo,some hi,some none=>.val (some (decide (0<=lo.getD 0)&&decide (lo.getD 0<=hi.getD l.length)&&decide (hi.getD l.length<=l.length))) (.str ((l.drop (lo.getD 0).toNat).take ((hi.getD l.length).toNat-(lo.getD 0).toNat)))
   |_,_,_,_=>.bad
  |_=>.bad
 |none=>.bad
def imax(g:Bool)(x y:Int):Int:=bif (match g with|true=>decide (x<y)|false=>decide (y<x))then y else x
def maxV(g:Bool):V->List V->R
 |x,[]=>.val none x
 |.int k x,.int k' y::r=>match decide (k=k') with
  |true=>maxV g (.int k (imax g x y)) r
  |false=>.bad
 |_,_=>.bad
def og(k:IntKind):List (List V)->Option (List Int)
 |[]=>some []
 |[.int k' n]::r=>match decide (k=k') with
  |true=>match og k r with|some l=>some (n::l)|none=>none
  |false=>none
 |_=>none
def iE:List V->Option (List IntKind×List Int)
 |[]=>some ([],[])
 |.int k n::r=>match iE r with|some (ks,l)=>some (k::ks,n::l)|none=>none
 |_=>none
def allRows(ks:List IntKind):List (List V)->Option (List (List Int))
 |[]=>some []
 |v::r=>match iE v with
  |some (ks',l)=>match decide (ks=ks') with
   |true=>match allRows ks r with|some x=>some (l::x)|none=>none
   |false=>none
  |none=>none
def mkO(m:Nat)(rs:List (List V)):O:=
 match rs with
 |[.int k _]::_=>match og k rs with
  |some zs=>.ints true k zs
  |none=>.vals true m rs
 |r::_=>match iE r with
  |some (ks,_)=>match allRows ks rs with
   |some x=>.rows true ks x
   |none=>.vals true m rs
  |none=>.vals true m rs
 |[]=>.vals true m rs
def tu(sz:Nat):Nat->List (Nat×V)->Option (List (List V))
 |_,[]=>some []
 |i,(j,v)::r=>match Nat.beq i j&&Nat.beq v.cells.length sz&&v.cells.all V.one with
  |true=>match tu sz (i+1) r with|some l=>some (v.cells::l)|none=>none
  |false=>none
def CZ(sz n:Nat)(ps:List (Nat×V)):Option O:=
 match tu sz 0 ps with
 |some rs=>match Nat.beq ps.length n&&Nat.ble 1 sz&&Nat.ble 1 n&&Nat.ble (n*sz) 16777216 with
  |true=>some (mkO sz rs)
  |false=>none
 |none=>none
def mkNo(sz:Nat)(z:List V):O:=
 match z with
 |[.int k _]=>.ints true k []
 |r=>match iE r with
  |some (ks,_)=>.rows true ks []
  |none=>.vals true sz []
def BL(Te:Ty)(n:Nat)(ps:List (Nat×V)):Option O:=
 match n,ps with
 |0,[]=>some (mkNo Te.sz Te.zero)
 |n,ps=>CZ Te.sz n ps
def dQ(zs:List Int):List UInt8:=zs.map fun n=>UInt8.ofNat n.toNat
def cvX(E:Env)(hp:List O)(s:TypeId)(u:V):R:=
 match assoc E.ty s with
 |some S=>match S.kd with
  |.slice e=>match assoc E.ty e with
   |some Te=>match Te.kd with
    |.int .u8=>match u with
     |.nils=>.val none (.str [])
     |.sl b k len _=>match getO E.G hp b with
      |.ints _ .u8 zs=>.val none (.str (dQ ((zs.drop k).take len)))
      |_=>.bad
     |_=>.bad
    |_=>.bad
   |none=>.bad
  |_=>.bad
 |none=>.bad
def O.win(w:Bool)(o:O)(k len:Nat):O:=
 match o with
 |.ints _ kd zs=>.ints w kd ((zs.drop k).take len)
 |.rows _ ks rs=>.rows w ks ((rs.drop k).take len)
 |.vals _ m rs=>.vals w m ((rs.drop k).take len)
 |o=>o
def O.isRows:O->Bool
 |.ints _ _ _|.rows _ _ _|.vals _ _ _=>true
 |_=>false
def catO:O->O->Option O
 |.ints _ k zs,.ints _ k' ys=>match decide (k=k') with|true=>some (.ints true k (zs++ys))|false=>none
 |.rows _ ks rs,.rows _ ks' ys=>match decide (ks=ks') with|true=>some (.rows true ks (rs++ys))|false=>none
 |.vals _ m rs,.vals _ m' ys=>match Nat.beq m m' with|true=>some (.vals true m (rs++ys))|false=>none
 |_,_=>none
def appX(E:Env)(hp:List O)(t:TypeId)(s x:V):R:=
 match assoc E.ty t with
 |some T=>match T.kd with
  |.slice e=>match assoc E.ty e with
   |some Te=>match x with
    |.sl b2 k2 len2 _=>match (getO E.G hp b2).isRows&&Nat.beq Te.sz (getO E.G hp b2).wid&&Nat.ble 1 Te.sz&&Nat.ble 1 Te.by_ with
     |true=>match s with
      |.nils=>.app none (decide (len2*Te.by_<=140737488355328)) ((getO E.G hp b2).win true k2 len2)
      |.sl b 0 len none=>match Nat.ble ax b,(getO E.G hp b).own,catO (getO E.G hp b) ((getO E.G hp b2).win false k2 len2) with
       |false,true,some o=>.app (some b) (decide (len=(getO E.G hp b).len)&&decide ((len+len2)*Te.by_<=140737488355328)&&!Nat.beq b b2) o
       |_,_,_=>.bad
      |_=>.bad
     |false=>.bad
    |_=>.bad
   |none=>.bad
  |_=>.bad
 |none=>.bad
def evOp(E:Env)(tm:List (Nat×V))(hp:List O):Op->R
 |.move x=>.val none (evA E tm x)
 |.assign x=>.val none (evA E tm x)
 |.pick c a b=>oD (evA E tm c) (evA E tm a) (evA E tm b)
 |.box t x=>match assoc E.ty t with
  |some _T=>match (evA E tm x).cells.all V.one with
   |true=>.alloc (.cells true (evA E tm x).cells) (fun b=>.ptr b 0 0)
   |false=>.bad
  |none=>.bad
 |.alloc t=>match assoc E.ty t with
  |some T=>.alloc (.cells true T.zero) (fun b=>.ptr b 0 0)
  |none=>.bad
 |.load t a=>match GO E hp t (evA E tm a) with
  |some v=>.val none v
  |none=>.bad
 |.store t a x=>match evA E tm a with
  |.ptr b k j=>match assoc E.ty t with
   |some T=>match Nat.ble ax b with
    |true=>.bad
    |false=>match stO (hp.getD b .gone) k j (evA E tm x) T.sz with
     |some o=>.store b o
     |none=>.bad
   |none=>.bad
  |_=>.bad
 |.fieldAddr t a i=>match evA E tm a with
  |.ptr b k j=>match assoc E.ty t with
   |some T=>match T.kd with
    |.struct offs=>match offs[i]? with
     |some (o,t')=>match szOf E t' with
      |some (_+1)=>.val none (.ptr b k (addN j o))
      |_=>.bad
     |none=>.bad
    |_=>.bad
   |none=>.bad
  |_=>.bad
 |.indexAddr t a i=>match evA E tm a,evA E tm i with
  |.sl b k len _,.int _ n=>match assoc E.ty t with
   |some T=>match T.kd with
    |.slice e=>match szOf E e with
     |some (sz+1)=>match Nat.beq (sz+1) (getO E.G hp b).wid with
      |true=>.val (some (decide (0<=n)&&decide (n<len))) (.ptr b (addN k n.toNat) 0)
      |false=>.bad
     |_=>.bad
    |_=>.bad
   |none=>.bad
  |u,i=>ixA E hp t u i
 |.binOp op t x y _=>match evA E tm x,evA E tm y with
  |.int k a,.int k' b=>match BinOp.isShift op with
   |true=>shf op k a b
   |false=>match decide (k=k') with
    |true=>bin op k a b
    |false=>.bad
  |u,v=>binX E op t u v
 |.unOp .not _ x=>match evA E tm x with
  |.lit b=>.val none (.lit (!b))
  |.bool b=>.val none (.bool (!b))
  |_=>.bad
 |.unOp .neg _ x=>match evA E tm x with
  |.int k n=>.val none (.int k (k.wrap (0-n)))
  |_=>.bad
 |.extract t i=>match evA E tm t with
  |.tup l=>match l[i]? with|some v=>.val none v|none=>.bad
  |_=>.bad
 |.build t parts=>match assoc E.ty t with
  |some T=>match T.kd with
   |.struct offs=>match tx offs (szOf E) (parts.toList.map fun p=>(p.1,evA E tm p.2)) T.zero with
    |some l=>.val none (.agg l)
    |none=>.bad
   |.array _ e=>match szOf E e with
    |some n=>match mK n (parts.toList.map fun p=>(p.1,evA E tm p.2)) T.zero with
     |some l=>.val none (.agg l)
     |none=>.bad
    |none=>.bad
   |_=>.bad
  |none=>.bad
 |.slice t x lo hi mx=>match evA E tm x,lo,hi,mx with
  |.ptr b 0 0,none,none,none=>match assoc E.ty t with
   |some T=>match T.kd with
    |.array n e=>match szOf E e with
     |some (sz+1)=>match Nat.beq (sz+1) (getO E.G hp b).wid&&Nat.beq n (getO E.G hp b).len with
      |true=>.val none (.sl b 0 n (some n))
      |false=>.bad
     |_=>.bad
    |_=>.bad
   |none=>.bad
  |u,_,_,_=>slX E hp t u (optI E tm lo) (optI E tm hi) (optI E tm mx)
 |.call c=>match c.callee with
  |.value f=>.call (evA E tm f) (c.args.toList.map (evA E tm))
  |.builtin .len=>match c.args.toList,c.argTypes.toList with
   |[x],[t]=>match assoc E.ty t with
    |some T=>match T.kd,evA E tm x with
     |.slice _,.sl _ _ n _=>.val none (.int .i64 n)
     |.slice _,.nils=>.val none (.int .i64 0)
     |.str,.str l=>.val none (.int .i64 l.length)
     |_,_=>.bad
    |none=>.bad
   |_,_=>.bad
  |.builtin .append=>match c.args.toList,c.argTypes.toList with
   |[s,x],[t,t']=>match Nat.beq t t' with
    |true=>appX E hp t (evA E tm s) (evA E tm x)
    |false=>.bad
   |_,_=>.bad
  |.builtin .max=>match c.args.toList with
   |x::r=>maxV true (evA E tm x) (r.map (evA E tm))
   |[]=>.bad
  |.builtin .min=>match c.args.toList with
   |x::r=>maxV false (evA E tm x) (r.map (evA E tm))
   |[]=>.bad
  |_=>.bad
 |.convert s d x=>match assoc E.ty s,assoc E.ty d with
  |some _,some D=>match D.kd,evA E tm x with
   |.int k,.int _ n=>.val none (.int k (k.wrap n))
   |.str,.str l=>.val none (.str l)
   |.str,u=>cvX E hp s u
   |_,_=>.bad
  |_,_=>.bad
 |.index t x i=>match assoc E.ty t with
  |some T=>match T.kd,evA E tm x,evA E tm i with
   |.str,.str l,.int _ n=>.val (some (decide (0<=n)&&decide (n<l.length))) (.int .u8 (l.getD n.toNat 0).toNat)
   |k,u,i=>ixV E k u i
  |none=>.bad
 |.unOp .xor _ x=>match evA E tm x with
  |.int k n=>.val none (.int k (band .xor k (match k.signed with|true=>-1|false=>k.max) n))
  |_=>.bad
 |.makeFunc fn first caps=>match fn,first.toList.map (evA E tm) with
  |.func f,[]=>match Nat.ble BM f with|false=>.val none (.fn f (caps.toList.map (evA E tm)))|true=>.bad
  |.func f,x::l=>match caps.toList with|[]=>.val none (.fn (BM+f) (x::l))|_=>.bad
  |_,_=>.bad
 |.buildSlice t n parts=>match assoc E.ty t with
  |some T=>match T.kd with
   |.slice e=>match assoc E.ty e with
    |some Te=>match BL Te n (parts.toList.map fun p=>(p.1,evA E tm p.2)) with
     |some o=>.alloc o (fun b=>.sl b 0 n none)
     |none=>.bad
    |none=>.bad
   |_=>.bad
  |none=>.bad
 |.field t x i=>oq E t i (evA E tm x)
 |.nilCheck x=>match evA E tm x with
  |.ptr b k j=>.val none (.ptr b k j)
  |_=>.bad
 |.makeSlice t l c=>match assoc E.ty t with
  |some T=>match T.kd with
   |.slice e=>match assoc E.ty e with
    |some Te=>match Te.zero,evA E tm l,evA E tm c with
     |[.int kd (.ofNat 0)],.int _ (.ofNat n),.int _ m=>.app none (decide (Int.ofNat n=m)&&decide (n*Te.by_<=140737488355328)&&decide (n<=140737488355328)) (.ints true kd (List.replicate n 0))
     |_,_,_=>.bad
    |none=>.bad
   |_=>.bad
  |none=>.bad
 |_=>.bad
structure Rg where
 blk:Nat
 base:Nat
 m:Nat
 n:Nat
 cp:Nat
 ph:Bool
def Rg.hv(r:Rg):Value:=match r.m with
 |7=>.map (some r.blk)
 |_=>.func (.yield r.blk) #[] #[]
abbrev Ren:=Nat->Option Rg
mutual
def VR(ρ:Ren):V->Value->Prop
 |.lit b,u=>u=.bool b
 |.bool b,u=>u=.bool b
 |.int k n,u=>u=.int k n
 |.str s,u=>u=.string ⟨s.toArray⟩
 |.ptr b k j,u=>∃ r,ρ b=some r/\r.ph=false/\k<r.n/\u=.pointer (some ⟨r.blk,r.base+k*r.m+j,none⟩)
 |.nilp,u=>u=.pointer none
 |.sl b k len cap,u=>∃ r,ρ b=some r/\k+len<=r.n/\(r.ph=true->len=0/\u=.slice none 0 0) /\
   (r.ph=false->len<=(cap.getD (r.cp-k))/\∃ ad,u=.slice (some ad) len (cap.getD (r.cp-k))/\(cap.getD (r.cp-k)≠0->ad=⟨r.blk,r.base+k*r.m,none⟩))
 |.nils,u=>u=.slice none 0 0
 |.fn f caps,u=>∃ us:List Value,u=mkFn f us.toArray/\VRL ρ caps us
 |.nilf,u=>u=.nilFunc
 |.yl l,u=>∃ r,ρ l=some r/\u=r.hv
 |.agg l,u=>∃ us:List Value,u=.agg us.toArray/\VRL ρ l us
 |.tup l,u=>∃ us:List Value,u=.tuple us.toArray/\VRL ρ l us
 |.nili,u=>u=.nilIface
 |.when g v,u=>(g=true->VR ρ v u)/\(g=false->u=undef)
 |.junk,_=>True
def VRL(ρ:Ren):List V->List Value->Prop
 |[],us=>us=[]
 |v::l,us=>∃ u r,us=u::r/\VR ρ v u/\VRL ρ l r
end
def Ren.le(ρ ρ':Ren):Prop:=∀ b r,ρ b=some r->ρ' b=some r
def Ren.leB(μ:Nat)(ρ ρ':Ren):Prop:=∀ b r,b<μ\/ax<=b->ρ b=some r->ρ' b=some r
theorem Ren.leB_refl(μ:Nat)(ρ:Ren):ρ.leB μ ρ:=fun _ _ _ h=>h
theorem Ren.leB_trans{μ:Nat}{a b c:Ren}(h:a.leB μ b)(k:b.leB μ c):a.leB μ c:=fun i r l e=>k i r l (h i r l e)
theorem Ren.le.leB{μ:Nat}{a b:Ren}(h:a.le b):a.leB μ b:=fun i r _ e=>h i r e
theorem Ren.leB_mono{μ μ':Nat}{a b:Ren}(h:a.leB μ' b)(hl:μ<=μ'):a.leB μ b:=fun i r l e=>h i r (l.imp_left fun x=>Nat.lt_of_lt_of_le x hl) e
theorem Ren.le_refl(ρ:Ren):ρ.le ρ:=fun _ _ h=>h
theorem Ren.le_trans{a b c:Ren}(h:a.le b)(k:b.le c):a.le c:=fun i r e=>k i r (h i r e)
mutual
theorem VR.mono{ρ ρ':Ren}(h:ρ.le ρ'):∀ (v:V) (u:Value),VR ρ v u->VR ρ' v u
 |.lit _,_,e=>e
 |.bool _,_,e=>e
 |.int _ _,_,e=>e
 |.str _,_,e=>e
 |.ptr _ _ _,_,⟨r,e,x⟩=>⟨r,h _ _ e,x⟩
 |.nilp,_,e=>e
 |.sl _ _ _ _,_,⟨r,e,x⟩=>⟨r,h _ _ e,x⟩
 |.nils,_,e=>e
 |.fn _ l,_,⟨us,e,x⟩=>⟨us,e,VRL.mono h l us x⟩
 |.nilf,_,e=>e
 |.yl _,_,⟨r,e,x⟩=>⟨r,h _ _ e,x⟩
 |.agg l,_,⟨us,e,x⟩=>⟨us,e,VRL.mono h l us x⟩
 |.tup l,_,⟨us,e,x⟩=>⟨us,e,VRL.mono h l us x⟩
 |.nili,_,e=>e
 |.when _ v,u,e=>⟨fun g=>VR.mono h v u (e.1 g),e.2⟩
 |.junk,_,_=>trivial
theorem VRL.mono{ρ ρ':Ren}(h:ρ.le ρ'):∀ (l:List V) (us:List Value),VRL ρ l us->VRL ρ' l us
 |[],_,e=>e
 |v::l,_,⟨u,r,e,x,y⟩=>⟨u,r,e,VR.mono h v u x,VRL.mono h l r y⟩
end
theorem VRL.length{ρ:Ren}:∀ {l:List V} {us:List Value},VRL ρ l us->us.length=l.length
 |[],_,e=>by cases e;rfl
 |v::l,_,⟨u,r,e,_,y⟩=>by cases e;simp[VRL.length y]
theorem VRL.get{ρ:Ren}:∀ {l:List V} {us:List Value},VRL ρ l us->∀ (i:Nat) (v:V),l[i]?=some v->∃ u,us[i]?=some u/\VR ρ v u
 |[],_,_,i,v,hi=>by simp at hi
 |w::l,_,⟨u,r,e,x,y⟩,0,v,hi=>by cases e;simp at hi;subst hi;exact⟨u,rfl,x⟩
 |w::l,_,⟨u,r,e,x,y⟩,i+1,v,hi=>by cases e;simp at hi;simpa using VRL.get y i v hi
theorem VRL.append{ρ:Ren}:∀ {l l':List V} {us us':List Value},VRL ρ l us->VRL ρ l' us'->VRL ρ (l++l') (us++us')
 |[],_,_,_,e,h=>by cases e;simpa using h
 |v::l,_,_,_,⟨u,r,e,x,y⟩,h=>by cases e;exact⟨u,r++_,rfl,x,VRL.append y h⟩
theorem VRL.joinA{ρ:Ren}(f:FuncId){a c:List V}{ua uc:List Value}(h:VRL ρ a ua)(k:VRL ρ c uc):VRL ρ (Go.Ab.joinA f a c) (Go.Ab.joinA f ua uc):=by
 unfold Go.Ab.joinA
 cases Nat.ble BM f
 ·exact h.append k
 ·exact k.append h
theorem VRL.set{ρ:Ren}:∀ {l:List V} {us:List Value},VRL ρ l us->∀ (i:Nat) (v:V) (u:Value),VR ρ v u->VRL ρ (l.set i v) (us.set i u)
 |[],_,e,i,v,u,h=>by cases e;simp[VRL]
 |w::l,_,⟨x,r,e,hx,hy⟩,0,v,u,h=>by cases e;exact⟨u,r,rfl,h,hy⟩
 |w::l,_,⟨x,r,e,hx,hy⟩,i+1,v,u,h=>by cases e;exact⟨x,r.set i u,rfl,hx,VRL.set hy i v u h⟩
theorem VRL.map{ρ:Ren}{α:Type}(f:α->V)(g:α->Value):∀ (l:List α),(∀ x∈l,VR ρ (f x) (g x))->VRL ρ (l.map f) (l.map g)
 |[],_=>rfl
 |x::l,h=>⟨g x,l.map g,rfl,h x (by simp),VRL.map f g l fun y hy=>h y (by simp[hy])⟩
theorem VR.oneCell{ρ:Ren}{v:V}{u:Value}(h:VR ρ v u)(h1:v.one=true):u.oneCell'=true:=by
 cases v<;>simp only[V.one,Bool.false_eq_true]at h1<;>simp only[VR]at h
 case ptr=>obtain⟨r,_,_,_,rfl⟩:=h;rfl
 case sl=>
  obtain⟨r,_,_,h1,h2⟩:=h
  cases hp:r.ph with
  |true=>rw[(h1 hp).2];rfl
  |false=>obtain⟨ad,e,_⟩:=(h2 hp).2;rw[e];rfl
 case fn=>obtain⟨us,rfl,_⟩:=h;unfold mkFn;split<;>rfl
 case yl=>obtain⟨r,_,rfl⟩:=h;unfold Rg.hv;split<;>rfl
 all_goals (subst h;rfl)
mutual
theorem VR.pl{ρ ρ':Ren}:∀ (v:V) (u:Value),V.pl v=true->VR ρ v u->VR ρ' v u
 |.lit _,_,_,e=>e
 |.bool _,_,_,e=>e
 |.int _ _,_,_,e=>e
 |.str _,_,_,e=>e
 |.nils,_,_,e=>e
 |.nilp,_,_,e=>e
 |.agg l,_,h,⟨us,e,x⟩=>⟨us,e,VRL.pl l us h x⟩
 |.ptr _ _ _,_,h,_=>by simp[V.pl]at h
 |.sl _ _ _ _,_,h,_=>by simp[V.pl]at h
 |.fn _ _,_,h,_=>by simp[V.pl]at h
 |.nilf,_,h,_=>by simp[V.pl]at h
 |.yl _,_,h,_=>by simp[V.pl]at h
 |.tup _,_,h,_=>by simp[V.pl]at h
 |.nili,_,h,_=>by simp[V.pl]at h
 |.when _ _,_,h,_=>by simp[V.pl]at h
 |.junk,_,h,_=>by simp[V.pl]at h
theorem VRL.pl{ρ ρ':Ren}:∀ (l:List V) (us:List Value),plL l=true->VRL ρ l us->VRL ρ' l us
 |[],_,_,e=>e
 |v::l,_,h,⟨u,r,e,x,y⟩=>by
  simp only[plL,Bool.and_eq_true]at h
  exact⟨u,r,e,VR.pl v u h.1 x,VRL.pl l r h.2 y⟩
end
theorem qu:∀ {l:List V},plL l=true->∀ v∈l,V.pl v=true
 |[],_,v,hv=>by simp at hv
 |x::l,h,v,hv=>by
  simp only[plL,Bool.and_eq_true]at h
  rcases List.mem_cons.1 hv with rfl|hv
  ·exact h.1
  ·exact qu h.2 v hv
theorem VR.cells{ρ:Ren}{v:V}{u:Value}(h:VR ρ v u)(h1:v.cells.all V.one=true):VRL ρ v.cells u.cells.toList:=by
 cases v
 case agg l=>obtain⟨us,rfl,h⟩:=h;simpa[V.cells,Value.cells]using h
 case tup=>simp[V.cells,V.one]at h1
 case junk=>simp[V.cells,V.one]at h1
 case when=>simp[V.cells,V.one]at h1
 all_goals
  have ho:=VR.oneCell h (by rfl)
  refine⟨u,[],?_,h,rfl⟩
  cases u<;>simp_all [Value.cells,Value.oneCell']
theorem VRL.oneCell{ρ:Ren}:∀ {l:List V} {us:List Value},VRL ρ l us->l.all V.one=true->∀ u∈us,u.oneCell'=true
 |[],_,e,_,u,hu=>by cases e;simp at hu
 |v::l,_,⟨x,r,e,hx,hy⟩,h1,u,hu=>by
  cases e
  simp only[List.all_cons,Bool.and_eq_true]at h1
  rcases List.mem_cons.1 hu with rfl|hu
  ·exact VR.oneCell hx h1.1
  ·exact VRL.oneCell hy h1.2 u hu
structure OR(ρ:Ren)(o:O)(r:Rg)(w:World):Prop where
 alive:o≠.gone
 nrsv:o≠.rsv
 wf:o.wf
 n:r.n=o.len
 ph0:r.ph=true->r.n=0
 lt:r.ph=false->r.blk<w.heap.size
 m:r.ph=false->r.m=o.wid
 cp:r.ph=false->r.n<=r.cp
 cell:r.ph=false->∀ k j v,k<o.len->j<o.wid->o.cell k j=some v->∃ u,w.cell? ⟨r.blk,r.base+k*r.m+j,none⟩=some u/\VR ρ v u
 own:o.own=true->r.ph=false->r.base=0/\r.cp<=maxLen/\∃ cs e,w.heap[r.blk]?=some (.cells cs e (0,0))/\cs.size=r.cp*r.m
structure HR(G:List O)(B:Nat)(ρ:Ren)(hp:List O)(w:World):Prop where
 blocks:∀ b r,ρ b=some r->getO G hp b≠.gone->OR ρ (getO G hp b) r w
 free:∀ b,hp.length<=b->b<ax->ρ b=none
 rsv:∀ b,getO G hp b=.rsv->ρ b=none
 base:∀ b r,ρ b=some r->(getO G hp b).own=true->r.ph=false->B<=r.blk
 apart:∀ b b' r r',ρ b=some r->ρ b'=some r'->getO G hp b'≠.gone->r.ph=false->r'.ph=false->(getO G hp b).own=true->b≠b'->r.blk≠r'.blk
 glob:∀ g o,G[g]?=some o->∃ r,ρ (ax+g)=some r/\r.blk=g/\r.base=0/\r.ph=false/\r.cp=r.n/\0<r.n/\o.tab=true
 small:hp.length<ax
structure HV(G:List O)(ρ:Ren)(hp:List O)(w:World):Prop where
 blocks:∀ b r,ρ b=some r->getO G hp b≠.gone->getO G hp b≠.rsv->OR ρ (getO G hp b) r w
 glob:∀ g o,G[g]?=some o->∃ r,ρ (ax+g)=some r/\r.blk=g/\r.base=0/\r.ph=false/\r.cp=r.n/\0<r.n/\o.tab=true
theorem HR.hv{G:List O}{B:Nat}{ρ:Ren}{hp:List O}{w:World}(h:HR G B ρ hp w):HV G ρ hp w:=⟨fun b r e al _=>h.blocks b r e al,h.glob⟩
def TR(ρ:Ren)(tm:List (Nat×V))(a:Act):Prop:=∀ t,VR ρ (look tm t) (a.tmps.getD t undef)
theorem OR.same{ρ:Ren}{o:O}{r:Rg}{w w':World}(h:OR ρ o r w)(hb:r.ph=false->w'.heap[r.blk]?=w.heap[r.blk]?)(hs:w.heap.size<=w'.heap.size):OR ρ o r w' where
 alive:=h.alive
 nrsv:=h.nrsv
 wf:=h.wf
 n:=h.n
 ph0:=h.ph0
 lt:=fun hp=>Nat.lt_of_lt_of_le (h.lt hp) hs
 m:=h.m
 cp:=h.cp
 cell:=fun hp k j v hk hj hv=>by
  obtain⟨u,hu,hr⟩:=h.cell hp k j v hk hj hv
  exact⟨u,(World.cell?_of_block (hb hp)).trans hu,hr⟩
 own:=fun ho hp=>by
  obtain⟨a,hm,cs,e,hc,hsz⟩:=h.own ho hp
  exact⟨a,hm,cs,e,(hb hp).trans hc,hsz⟩
theorem OR.mono{ρ ρ':Ren}{o:O}{r:Rg}{w:World}(h:OR ρ o r w)(hl:ρ.le ρ'):OR ρ' o r w where
 alive:=h.alive
 nrsv:=h.nrsv
 wf:=h.wf
 n:=h.n
 ph0:=h.ph0
 lt:=h.lt
 m:=h.m
 cp:=h.cp
 cell:=fun hp k j v hk hj hv=>let ⟨u,hu,hr⟩:=h.cell hp k j v hk hj hv;⟨u,hu,VR.mono hl _ _ hr⟩
 own:=h.own
theorem HR.frame{G:List O}{B:Nat}{ρ:Ren}{hp:List O}{w w':World}(h:HR G B ρ hp w)(hs:w.heap.size<=w'.heap.size)(hb:∀ k,k<w.heap.size->w'.heap[k]?=w.heap[k]?):HR G B ρ hp w' where
 blocks:=fun b r e al=>(h.blocks b r e al).same (fun hp=>hb _ ((h.blocks b r e al).lt hp)) hs
 free:=h.free
 rsv:=h.rsv
 base:=h.base
 apart:=h.apart
 glob:=h.glob
 small:=h.small
theorem bx(d:Nat)(v:V)(tm:List (Nat×V))(t:Nat):look ((d,v)::tm) t=if d=t then v else look tm t:=by
 simp only[look]
 by_cases h:d=t
 ·subst h;simp
 ·simp[h]
  cases hb:Nat.beq d t
  ·rfl
  ·exact absurd (Nat.eq_of_beq_eq_true hb) h
theorem TR.put{ρ:Ren}{tm:List (Nat×V)}{a:Act}(h:TR ρ tm a){d:Nat}(hd:d<a.tmps.size){v:V}{u:Value}(hv:VR ρ v u):TR ρ ((d,v)::tm) (a.put (some d) u):=by
 intro t
 rw[bx]
 simp only[Act.put]
 by_cases e:d=t
 ·subst e
  simp[hd,hv]
 ·rw[if_neg e]
  have:=h t
  simpa[Array.getD_eq_getD_getElem?,Array.getElem?_setIfInBounds_ne e]using this
theorem TR.mono{ρ ρ':Ren}{tm:List (Nat×V)}{a:Act}(h:TR ρ tm a)(hl:ρ.le ρ'):TR ρ' tm a:=fun t=>VR.mono hl _ _ (h t)
theorem VR.const{ρ:Ren}(v:Value):VR ρ (EG v) v:=by
 unfold EG
 split<;>simp[VR]
theorem dz{E:Env}{ρ:Ren}{hp:List O}{w:World}{tm:List (Nat×V)}{a:Act}(ht:TR ρ tm a)(hh:HV E.G ρ hp w)(x:Operand):VR ρ (evA E tm x) (a.eval x):=by
 cases x with
 |tmp t=>exact ht t
 |const v=>exact VR.const v
 |global g=>
  simp only[evA,Act.eval]
  split
  ·rename_i o ho
   obtain⟨r,h1,h2,h3,h4,h5,h6,_⟩:=hh.glob g o ho
   exact⟨r,h1,h4,h6,by simp[h2,h3]⟩
  ·trivial
 |func f=>
  simp only[evA,Act.eval]
  split
  ·rename_i h;exact⟨[],(nI h _).symm,rfl⟩
  ·trivial
section
structure TyOk(P:Program)(t:TypeId)(T:Ty):Prop where
 zs:T.zero.length=T.sz
 info:∃ i z,P.info? t=some i/\i.size=T.sz/\i.bytes=T.by_/\i.zero=some z/\∀ ρ,VRL ρ T.zero z.cells.toList
 und:match T.kd with
  |.int k=>P.underlying t=some (.int k)
  |.bool=>P.underlying t=some .bool
  |.str=>P.underlying t=some .string
  |.slice e=>P.underlying t=some (.slice e)
  |.array n e=>P.underlying t=some (.array n e)
  |.struct offs=>∃ fs,P.underlying t=some (.struct fs)/\fs.toList.map (fun f=>(f.offset,f.type))=offs /\
    fs.toList.mapM (fun f=>(P.info? f.type).map fun i=>(f.offset,i.size))=some (offs.map fun p=>(p.1,P.cellsOf p.2)) /\
    P.stoodInHeld t=false/\P.eqGuardType P.depth t=false/\fs.toList.all (fun f=>f.name != "_")=true
  |.func=>∃ a b c,P.underlying t=some (.func a b c)
  |.other=>∃ d,P.underlying t=some d/\(match d with|.struct _|.array _ _=>false|_=>true)=true
structure Env.Ok(E:Env)(P:Program):Prop where
 ty:∀ t T,assoc E.ty t=some T->TyOk P t T
section
variable{E:Env}{P:Program}{ρ:Ren}{hp:List O}{w:World}{tm:List (Nat×V)}{a:Act}
theorem TyOk.size{t:TypeId}{T:Ty}(h:TyOk P t T)(w:World):(sizeOf t).run P w=.ok T.sz w:=by
 obtain⟨i,z,h1,h2,_⟩:=h.info
 simp[sizeOf,typeInfo,h1,h2]
theorem TyOk.cellsOf{t:TypeId}{T:Ty}(h:TyOk P t T):P.cellsOf t=T.sz:=by
 obtain⟨i,z,h1,h2,_⟩:=h.info
 simp[Program.cellsOf,h1,h2]
theorem TyOk.isAgg{t:TypeId}{T:Ty}(h:TyOk P t T)(w:World):(isAgg t).run P w=.ok T.kd.isAgg w:=by
 have hu:=h.und
 unfold Go.isAgg
 cases hk:T.kd<;>rw[hk]at hu<;>simp only[TyK.isAgg]at *
 case struct=>obtain⟨fs,hu,_⟩:=hu;simp[run_underlying hu]
 case func=>obtain⟨x,y,z,hu⟩:=hu;simp[run_underlying hu]
 case other=>
  obtain⟨d,hu,hd⟩:=hu
  simp only[Sem.run_bind,run_underlying hu,Result.andThen_ok]
  cases d<;>simp_all
 all_goals simp[run_underlying hu]
theorem O.cell_wid{o:O}(hwf:o.wf){k j:Nat}{v:V}(h:o.cell k j=some v):j<o.wid:=by
 cases o with
 |ints _ kd zs=>cases j<;>simp_all [O.cell,O.wid]
 |rows _ ks rs=>
  simp only[O.cell]at h
  split at h
  ·rename_i kd hk;simp only[O.wid];exact(List.getElem?_eq_some_iff.1 hk).1
  ·cases h
 |cells _ l=>cases k<;>simp_all [O.cell,O.wid];exact(List.getElem?_eq_some_iff.1 h).1
 |vals _ m rs=>
  simp only[O.cell]at h
  split at h
  ·rename_i r hr;simp only[O.wid];have:=(hwf r (List.mem_of_getElem? hr)).1;have:=(List.getElem?_eq_some_iff.1 h).1;omega
  ·cases h
 |gone=>simp[O.cell]at h
 |rsv=>simp[O.cell]at h
 |lock=>simp[O.cell]at h
theorem AX(hh:HV E.G ρ hp w){b k j:Nat}{v:V}{r:Rg}(hr:ρ b=some r)(hp0:r.ph=false)(hk:k<r.n)(hc:(getO E.G hp b).cell k j=some v) :
  ∃ u,w.cell? ⟨r.blk,r.base+k*r.m+j,none⟩=some u/\VR ρ v u:=by
 have ho:=hh.blocks b r hr (fun e=>by rw[e]at hc;simp[O.cell]at hc) (fun e=>by rw[e]at hc;simp[O.cell]at hc)
 exact ho.cell hp0 k j v (by rw[<-ho.n];exact hk) (O.cell_wid ho.wf hc) hc
theorem pz(hh:HV E.G ρ hp w){b k:Nat}{r:Rg}(hr:ρ b=some r)(hp0:r.ph=false)(hk:k<r.n) :
  ∀ (n j:Nat) (l:List V),(getO E.G hp b).cellsAt k j n=some l->∃ us:List Value,us.length=n/\VRL ρ l us/\∀ i u,us[i]?=some u->w.cell? ((⟨r.blk,r.base+k*r.m+j,none⟩:Addr).add i)=some u
 |0,j,l,h=>by
  simp only[O.cellsAt,Option.some.injEq]at h
  subst h
  exact⟨[],rfl,rfl,fun i u hu=>by simp at hu⟩
 |n+1,j,l,h=>by
  simp only[O.cellsAt]at h
  split at h
  ·rename_i v hv
   split at h
   ·rename_i l' hl'
    cases h
    obtain⟨u,hu,hvu⟩:=AX hh hr hp0 hk hv
    obtain⟨us,hl,hus,hall⟩:=pz hh hr hp0 hk n (j+1) l' hl'
    refine⟨u::us,by simp[hl],⟨u,us,rfl,hvu,hus⟩,fun i x hx=>?_⟩
    cases i with
    |zero=>simp at hx;subst hx;simpa[Addr.add_lit]using hu
    |succ i=>
     have:=hall i x (by simpa using hx)
     rw[Addr.add_lit]at this ⊢
     rw[<-this]
     congr 2
     omega
   ·cases h
  ·cases h
theorem ye(hE:E.Ok P)(hh:HV E.G ρ hp w){t:TypeId}{pv v:V}{u:Value}(hu:VR ρ pv u)(h:GO E hp t pv=some v) :
  ∃ ad x,u=.pointer (some ad)/\(loadVar t ad).run P w=.ok x w/\VR ρ v x:=by
 unfold GO at h
 split at h
 ·rename_i b k j
  split at h
  ·rename_i T hT
   obtain⟨r,hr,hp0,hk,rfl⟩:=hu
   have hty:=hE.ty t T hT
   have hagg:=hty.isAgg w
   refine⟨⟨r.blk,r.base+k*r.m+j,none⟩,?_⟩
   unfold loadVar
   rw[Sem.run_bind,hagg,Result.andThen_ok]
   cases hk2:T.kd.isAgg with
   |true=>
    rw[hk2]at h
    dsimp only at h
    split at h
    ·rename_i l hl
     cases h
     obtain⟨us,hlen,hus,hall⟩:=pz hh hr hp0 hk _ _ _ hl
     have hrun:=run_loadCells_list (P:=P) w _ us hall
     rw[hlen]at hrun
     refine⟨.agg us.toArray,rfl,?_,us,rfl,hus⟩
     simp only[if_true,Sem.run_bind,hty.size,Result.andThen_ok,hrun,Sem.run_pure]
    ·cases h
   |false=>
    rw[hk2]at h
    dsimp only at h
    obtain⟨x,hx,hvx⟩:=AX hh hr hp0 hk h
    exact⟨x,rfl,by simp[hx],hvx⟩
  ·cases h
 ·cases h
def Ea(P:Program)(ρ:Ren)(w:World)(a:Act)(o:Oper)(v:V):Prop:=
 ∃ u,(execOp a.eval o).run P w=.ok (.value u) w/\VR ρ v u
theorem Ea.mk{o:Oper}{v:V}{s:Sem Value}(hs:execOp a.eval o=(do pure (.value (<-s)))){u:Value}(h:s.run P w=.ok u w)(hv:VR ρ v u):Ea P ρ w a o v:=
 ⟨u,by rw[hs];simp[h],hv⟩
theorem Mh{op:BinOp}(hsh:BinOp.isShift op=false){k:IntKind}{x y:Int}{c:Option Bool}{v:V}(h:bin op k x y=.val c v)(hc:∀ b,c=some b->b=true)(t:TypeId)(p q:Operand)(w:World) :
  ∃ u,(do eqGuard op t p q (.int k x) (.int k y);binOp op t (.int k x) (.int k y)).run P w=.ok u w/\VR ρ v u:=by
 cases op<;>simp only[BinOp.isShift,Bool.true_eq_false]at hsh<;>simp only[bin,R.val.injEq]at h<;>obtain⟨rfl,rfl⟩:=h
 case quo=>
  have:=hc _ rfl
  simp at this
  exact⟨_,by simp[eqGuard,binOp,Op.intDiv,this],rfl⟩
 case rem=>
  have:=hc _ rfl
  simp at this
  exact⟨_,by simp[eqGuard,binOp,Op.intDiv,this],rfl⟩
 all_goals exact⟨_,by simp[eqGuard,binOp,Op.intArith,Op.intBits,Op.intCmp,band];try rfl,rfl⟩
theorem MH{op:BinOp}(hsh:BinOp.isShift op=true){k k':IntKind}{x y:Int}{c:Option Bool}{v:V}(h:shf op k x y=.val c v)(hc:∀ b,c=some b->b=true)(t:TypeId)(p q:Operand)(w:World) :
  ∃ u,(do eqGuard op t p q (.int k x) (.int k' y);binOp op t (.int k x) (.int k' y)).run P w=.ok u w/\VR ρ v u:=by
 cases op<;>simp only[BinOp.isShift,Bool.false_eq_true]at hsh<;>simp only[shf,R.val.injEq]at h<;>obtain⟨rfl,rfl⟩:=h
 all_goals
  have:=hc _ rfl
  simp at this
  exact⟨_,by simp[eqGuard,binOp,Op.shift,show ¬ y<0 by omega],rfl⟩
theorem eC(k n:Nat):addN k n=k+n:=by cases k<;>simp[addN]
theorem eM(hE:E.Ok P){t:TypeId}{n:Nat}(h:szOf E t=some n):(∀ w,(sizeOf t).run P w=.ok n w)/\P.cellsOf t=n:=by
 unfold szOf at h
 split at h
 ·rename_i T hT
  cases h
  exact⟨(hE.ty t T hT).size,(hE.ty t T hT).cellsOf⟩
 ·cases h
theorem LH{cv xv yv:V}{c x y:Value}(hc:VR ρ cv c)(hx:VR ρ xv x)(hy:VR ρ yv y){cd:Option Bool}{v:V}(h:oD cv xv yv=.val cd v)(hcd:∀ b,cd=some b->b=true) :
  ∃ b,c=.bool b/\VR ρ v (if b then x else y):=by
 unfold oD at h
 split at h
 ·cases hc
  refine⟨true,rfl,?_⟩
  split at h
  ·rename_i g z
   cases h
   have hg:=hcd _ rfl
   simp only[VR]at hx
   exact hx.1 hg
  ·cases h;exact hx
 ·cases hc
  refine⟨false,rfl,?_⟩
  split at h
  ·rename_i g z
   cases h
   have hg:=hcd _ rfl
   simp only[VR]at hy
   exact hy.1 hg
  ·cases h;exact hy
 ·rename_i b
  obtain rfl:c=.bool b:=hc
  refine⟨b,rfl,?_⟩
  split at h<;>(try cases h)
  ·rename_i g z
   have hg:=hcd _ rfl
   cases hy
   cases b
   ·rfl
   ·simp at hg;simpa[VR]using hx.1 hg
  ·rename_i g z
   have hg:=hcd _ rfl
   cases hy
   cases b
   ·rfl
   ·simp at hg;simpa[VR]using hx.1 hg
  ·cases hx;cases hy;cases b<;>rfl
  ·rename_i g z
   have hg:=hcd _ rfl
   cases hx
   cases b
   ·simp at hg;simpa[VR]using hy.1 hg
   ·rfl
  ·rename_i g z
   have hg:=hcd _ rfl
   cases hx
   cases b
   ·simp at hg;simpa[VR]using hy.1 hg
   ·rfl
  ·cases hx;cases hy;cases b<;>rfl
 ·cases h
theorem cB:∀ (vs:List V) (l:List V) (j:Nat),(putCells l j vs).length=l.length
 |[],l,j=>rfl
 |v::vs,l,j=>by rw[putCells,cB vs];simp
theorem rL:∀ (vs:List V) (us:List Value) (l:List V) (cs:Array Value) (j i:Nat),VRL ρ vs us->VRL ρ l cs.toList ->
  VRL ρ (putCells l (j+i) vs) ((us.zipIdx i).foldl (fun(c:Array Value) (p:Value×Nat)=>c.setIfInBounds (j+p.2) p.1) cs).toList:=by
 intro vs
 induction vs with
 |nil=>intro us l cs j i h hl;cases h;simpa[putCells]using hl
 |cons v vs ih=>
  intro us l cs j i h hl
  obtain⟨u,r,rfl,hv,hr⟩:=h
  have step:VRL ρ (l.set (j+i) v) (cs.setIfInBounds (j+i) u).toList:=by rw[Array.toList_setIfInBounds];exact hl.set (j+i) v u hv
  have:=ih r (l.set (j+i) v) (cs.setIfInBounds (j+i) u) j (i+1) hr step
  simpa only[putCells,List.zipIdx_cons,List.foldl_cons,Nat.add_assoc]using this
theorem Hr{offs:List (Nat×TypeId)}(hE:E.Ok P):∀ (parts:List (Nat×V)) (ps:List (Nat×Value)) (l l':List V) (cs:Array Value),
  (∀ i:Nat,(∀ p:Nat×V,parts[i]?=some p->∃ u,ps[i]?=some (p.1,u)/\VR ρ p.2 u)/\(parts[i]?=none->ps[i]?=none))->VRL ρ l cs.toList ->
  tx offs (szOf E) parts l=some l'->∃ cs',Instr.fill (((offs.map fun p=>(p.1,P.cellsOf p.2)).toArray)[·]?) cs ps=some cs'/\VRL ρ l' cs'.toList:=by
 intro parts
 induction parts with
 |nil=>
  intro ps l l' cs hps hl h
  have h0:=(hps 0).2 rfl
  have:ps=[]:=by cases ps with|nil=>rfl|cons x xs=>simp at h0
  subst this
  simp only[tx,Option.some.injEq]at h
  subst h
  exact⟨cs,rfl,hl⟩
 |cons p parts ih=>
  intro ps l l' cs hps hl h
  obtain⟨i,v⟩:=p
  obtain⟨u,hu,hvu⟩:=(hps 0).1 (i,v) rfl
  cases ps with
  |nil=>simp at hu
  |cons q ps=>
   simp only[List.getElem?_cons_zero,Option.some.injEq]at hu
   subst hu
   simp only[tx]at h
   split at h
   ·rename_i o t ho
    split at h
    ·rename_i n hn
     split at h
     ·rename_i hb
      simp only[Bool.and_eq_true,Nat.ble_eq]at hb
      obtain⟨⟨hb1,hb2⟩,hb3⟩:=hb
      have hb1:=Nat.eq_of_beq_eq_true hb1
      have hcells:=VR.cells hvu hb3
      have hsz:u.cells.size=n:=by have:=hcells.length;simp only[Array.length_toList]at this;omega
      have hcs:cs.size=l.length:=by have:=hl.length;simpa using this
      have hstep:=rL v.cells u.cells.toList l cs o 0 hcells hl
      have hrest:∀ i:Nat,(∀ p:Nat×V,parts[i]?=some p->∃ u,ps[i]?=some (p.1,u)/\VR ρ p.2 u)/\(parts[i]?=none->ps[i]?=none):=fun i=>by simpa using hps (i+1)
      obtain⟨cs',hf,hr⟩:=ih ps _ l' _ hrest hstep h
      refine⟨cs',?_,hr⟩
      have hpl:((offs.map fun p=>(p.1,P.cellsOf p.2)).toArray)[i]?=some (o,n):=by simp[ho,(eM hE hn).2]
      simp only[Instr.fill,hpl,hsz]
      rw[if_neg (by simp;omega)]
      rw[<-Array.foldl_toList,Array.toList_zipIdx]
      exact hf
     ·cases h
    ·cases h
   ·cases h
theorem zE{n:Nat}:∀ (parts:List (Nat×V)) (ps:List (Nat×Value)) (l l':List V) (cs:Array Value),
  (∀ i:Nat,(∀ p:Nat×V,parts[i]?=some p->∃ u,ps[i]?=some (p.1,u)/\VR ρ p.2 u)/\(parts[i]?=none->ps[i]?=none))->VRL ρ l cs.toList ->
  mK n parts l=some l'->∃ cs',Instr.fill (fun i=>some (i*n,n)) cs ps=some cs'/\VRL ρ l' cs'.toList:=by
 intro parts
 induction parts with
 |nil=>
  intro ps l l' cs hps hl h
  have h0:=(hps 0).2 rfl
  have:ps=[]:=by cases ps with|nil=>rfl|cons x xs=>simp at h0
  subst this
  simp only[mK,Option.some.injEq]at h
  subst h
  exact⟨cs,rfl,hl⟩
 |cons p parts ih=>
  intro ps l l' cs hps hl h
  obtain⟨i,v⟩:=p
  obtain⟨u,hu,hvu⟩:=(hps 0).1 (i,v) rfl
  cases ps with
  |nil=>simp at hu
  |cons q ps=>
   simp only[List.getElem?_cons_zero,Option.some.injEq]at hu
   subst hu
   simp only[mK]at h
   split at h
   ·rename_i hb
    simp only[Bool.and_eq_true,Nat.ble_eq]at hb
    obtain⟨⟨hb1,hb2⟩,hb3⟩:=hb
    have hb1:=Nat.eq_of_beq_eq_true hb1
    have hcells:=VR.cells hvu hb3
    have hsz:u.cells.size=n:=by have:=hcells.length;simp only[Array.length_toList]at this;omega
    have hcs:cs.size=l.length:=by have:=hl.length;simpa using this
    have hstep:=rL v.cells u.cells.toList l cs (i*n) 0 hcells hl
    have hrest:∀ i:Nat,(∀ p:Nat×V,parts[i]?=some p->∃ u,ps[i]?=some (p.1,u)/\VR ρ p.2 u)/\(parts[i]?=none->ps[i]?=none):=fun i=>by simpa using hps (i+1)
    obtain⟨cs',hf,hr⟩:=ih ps _ l' _ hrest hstep h
    refine⟨cs',?_,hr⟩
    simp only[Instr.fill,hsz]
    rw[if_neg (by simp;omega)]
    rw[<-Array.foldl_toList,Array.toList_zipIdx]
    exact hf
   ·cases h
def R.isVal:R->Bool
 |.val _ _=>true
 |.isnil _ _=>true
 |.bad=>true
 |_=>false
theorem wG(t:TypeId)(i:Nat)(u:V):(oq E t i u).isVal=true:=by
 unfold oq
 repeat' split
 all_goals rfl
theorem GJ(k:TyK)(u i:V):(ixV E k u i).isVal=true:=by
 unfold ixV
 repeat' split
 all_goals rfl
theorem GD(t:TypeId)(u i:V):(ixA E hp t u i).isVal=true:=by
 unfold ixA
 repeat' split
 all_goals rfl
theorem CH(op:BinOp)(t:TypeId)(u v:V):(binS E op t u v).isVal=true:=by
 unfold binS
 repeat' split
 all_goals rfl
theorem FA(s:TypeId)(u:V):(cvX E hp s u).isVal=true:=by
 unfold cvX
 (repeat' split)<;>rfl
theorem Ex{s:TypeId}{u:V}{r:R}(h:cvX E hp s u=r)(hr:r.isVal=false):False:=by have:=FA (E:=E) (hp:=hp) s u;rw[h,hr]at this;cases this
theorem NZ{s:TypeId}{u:V}{n:Nat}{g:Bool}(h:cvX E hp s u=.isnil n g):False:=by
 unfold cvX at h
 (repeat' split at h)<;>cases h
theorem jc{t:TypeId}{i:Nat}{u:V}{r:R}(h:oq E t i u=r)(hr:r.isVal=false):False:=by have:=wG (E:=E) t i u;rw[h,hr]at this;cases this
theorem sX{k:TyK}{u i:V}{r:R}(h:ixV E k u i=r)(hr:r.isVal=false):False:=by have:=GJ (E:=E) k u i;rw[h,hr]at this;cases this
theorem sV{t:TypeId}{u i:V}{r:R}(h:ixA E hp t u i=r)(hr:r.isVal=false):False:=by have:=GD (E:=E) (hp:=hp) t u i;rw[h,hr]at this;cases this
theorem CS(op:BinOp)(t:TypeId)(n:Nat)(v:V):(binN E op t n v).isVal=true:=by
 unfold binN
 repeat' split
 all_goals rfl
theorem zm(op:BinOp)(t:TypeId)(v:V):(Dx E op t v).isVal=true:=by
 unfold Dx
 repeat' split
 all_goals rfl
theorem El(op:BinOp)(t:TypeId)(u v:V):(binX E op t u v).isVal=true:=by
 unfold binX
 repeat' split
 all_goals first|rfl|exact CH _ _ _ _|exact CS _ _ _ _|exact zm _ _ _
theorem Hw(t:TypeId)(u:V)(lo hi mx:Option (Option Int)):(slX E hp t u lo hi mx).isVal=true:=by
 unfold slX
 repeat' split
 all_goals rfl
def R.isApp:R->Bool
 |.app _ _ _=>true
 |.bad=>true
 |_=>false
theorem BN(t:TypeId)(u v:V):(appX E hp t u v).isApp=true:=by
 unfold appX
 repeat' split
 all_goals rfl
theorem BP(g:Bool)(l:List V):∀ x:V,(maxV g x l).isVal=true:=by
 induction l with
 |nil=>intro x;simp only[maxV];rfl
 |cons y l ih=>
  intro x
  unfold maxV
  split
  ·rfl
  ·rename_i heq
   cases heq
   split
   ·exact ih _
   ·rfl
  ·rfl
theorem tF{op:BinOp}{t:TypeId}{u v:V}{r:R}(h:binX E op t u v=r)(hr:r.isVal=false):False:=by have:=El (E:=E) op t u v;rw[h,hr]at this;cases this
theorem Ds{t:TypeId}{u:V}{lo hi mx:Option (Option Int)}{r:R}(h:slX E hp t u lo hi mx=r)(hr:r.isVal=false):False:=by have:=Hw (E:=E) (hp:=hp) t u lo hi mx;rw[h,hr]at this;cases this
theorem pT{g:Bool}{x:V}{l:List V}{r:R}(h:maxV g x l=r)(hr:r.isVal=false):False:=by have:=BP g l x;rw[h,hr]at this;cases this
theorem tP{t:TypeId}{u v:V}{r:R}(h:appX E hp t u v=r)(hr:r.isApp=false):False:=by have:=BN (E:=E) (hp:=hp) t u v;rw[h,hr]at this;cases this
theorem iv(d:Nat){t:TypeId}{x y z}(hun:P.underlying t=some (.func x y z))(f:Fn)(a b:Array Value)(w:World):(Op.equalIn (d+1) t (.func f a b) .nilFunc).run P w=.ok false w:=by
 simp[Op.equalIn,run_underlying hun]
theorem iY{t:TypeId}{x y z}(hun:P.underlying t=some (.func x y z))(f:Fn)(a b:Array Value)(w:World):(Op.equal t (.func f a b) .nilFunc).run P w=.ok false w:=
 iv 9999 hun f a b w
theorem b?_ok{u:V}{x:Value}{b:Bool}(h:VR ρ u x)(hb:u.b?=some b):x=.bool b:=by
 cases u<;>simp only[V.b?,reduceCtorEq,Option.some.injEq]at hb
 all_goals (subst hb;exact h)
theorem VRL.drop{ρ:Ren}:∀ (n:Nat) {l:List V} {us:List Value},VRL ρ l us->VRL ρ (l.drop n) (us.drop n)
 |0,_,_,h=>h
 |n+1,[],_,e=>by cases e;rfl
 |n+1,_::_,_,⟨_,_,e,_,y⟩=>by cases e;exact VRL.drop n y
theorem VRL.take{ρ:Ren}:∀ (n:Nat) {l:List V} {us:List Value},VRL ρ l us->VRL ρ (l.take n) (us.take n)
 |0,_,_,_=>by simp[VRL]
 |n+1,[],_,e=>by cases e;rfl
 |n+1,_::_,_,⟨u,r,e,x,y⟩=>by cases e;exact⟨u,r.take n,rfl,x,VRL.take n y⟩
theorem gT(hE:E.Ok P){t:TypeId}{T:Ty}(hT:assoc E.ty t=some T){l:List V}{us:List Value}(h:VRL ρ l us){o:Nat}{v:V}(hp:uo T l o=some v)(w:World) :
  ∃ u,(part t us.toArray o).run P w=.ok u w/\VR ρ v u:=by
 have hty:=hE.ty t T hT
 have hag:=hty.isAgg w
 unfold uo at hp
 unfold part
 rw[Sem.run_bind,hag,Result.andThen_ok]
 split at hp
 ·rename_i ha
  split at hp
  ·rename_i hle
   cases hp
   refine⟨.agg ((us.drop o).take T.sz).toArray,?_,_,rfl,(h.drop o).take T.sz⟩
   rw[ha]
   simp only[if_true,Sem.run_bind,hty.size,Result.andThen_ok,Sem.run_pure]
   congr 2
   apply Array.toList_inj.1
   simp[List.extract_eq_take_drop]
  ·cases hp
 ·rename_i ha
  obtain⟨u,hu,hv⟩:=h.get o v hp
  refine⟨u,?_,hv⟩
  rw[ha]
  simp[hu]
theorem Az(hE:E.Ok P){t:TypeId}{i:Nat}{u:V}{x:Value}{c:Option Bool}{r:V}(hu:VR ρ u x)(h:oq E t i u=.val c r)(w:World):∃ z,(Instr.field t x i).run P w=.ok z w/\VR ρ r z:=by
 unfold oq at h
 split at h
 ·obtain⟨us,rfl,hus⟩:=hu
  split at h
  ·rename_i T hT
   have hty:=(hE.ty t T hT).und
   split at h
   ·rename_i offs hk
    rw[hk]at hty
    obtain⟨fs,hun,hmap,_⟩:=hty
    split at h
    ·rename_i o t' ho
     split at h
     ·rename_i T' hT'
      split at h
      ·rename_i v hv
       cases h
       have hf:∃ f,fs[i]?=some f/\f.offset=o/\f.type=t':=by
        rw[<-hmap]at ho
        simp only[List.getElem?_map,Option.map_eq_some_iff]at ho
        obtain⟨f,hf,hf2⟩:=ho
        simp only[Prod.mk.injEq]at hf2
        exact⟨f,by simpa using hf,hf2.1,hf2.2⟩
       obtain⟨f,hf,rfl,rfl⟩:=hf
       obtain⟨z,hz,hvz⟩:=gT (P:=P) hE hT' hus hv w
       exact⟨z,by simp[Instr.field,run_underlying hun,hf,asAgg,hz],hvz⟩
      ·cases h
     ·cases h
    ·cases h
   ·cases h
  ·cases h
 ·cases h
theorem Ju(hE:E.Ok P){t:TypeId}{T:Ty}(hT:assoc E.ty t=some T){u i:V}{x y:Value}{c:Option Bool}{r:V}(hu:VR ρ u x)(hi:VR ρ i y)(h:ixV E T.kd u i=.val c r)(hc:∀ b,c=some b->b=true)(w:World) :
  ∃ z,(Instr.index t x y).run P w=.ok z w/\VR ρ r z:=by
 have hty:=(hE.ty t T hT).und
 unfold ixV at h
 split at h
 ·rename_i n e hk
  rw[hk]at hty
  dsimp only at hty
  split at h
  ·obtain⟨us,rfl,hus⟩:=hu
   split at h
   ·rename_i ik q
    have hi:y=.int ik q:=hi
    subst hi
    split at h
    ·rename_i Te hTe
     split at h
     ·rename_i v hv
      cases h
      have hb:=hc _ rfl
      simp only[Bool.and_eq_true,decide_eq_true_eq]at hb
      obtain⟨z,hz,hvz⟩:=gT (P:=P) hE hTe hus hv w
      refine⟨z,?_,hvz⟩
      simp only[Instr.index,asIntOf,Sem.run_bind,Sem.run_pure,Result.andThen_ok,run_underlying hty]
      rw[if_pos hb]
      simp only[Sem.run_bind,(hE.ty e Te hTe).size,Result.andThen_ok]
      exact hz
     ·cases h
    ·cases h
   ·cases h
  ·cases h
 ·cases h
theorem KB(hE:E.Ok P)(hh:HV E.G ρ hp w){t:TypeId}{u i:V}{x y:Value}{c:Option Bool}{r:V}(hu:VR ρ u x)(hi:VR ρ i y)(h:ixA E hp t u i=.val c r)(hc:∀ b,c=some b->b=true) :
  ∃ z,(Instr.indexAt t x y).run P w=.ok z w/\VR ρ r z:=by
 unfold ixA at h
 split at h
 ·rename_i b k j
  obtain⟨rg,hr,hp0,hk2,rfl⟩:=hu
  split at h
  ·rename_i ik q
   have hi:y=.int ik q:=hi
   subst hi
   split at h
   ·rename_i T hT
    have hty:=(hE.ty t T hT).und
    split at h
    ·rename_i n e hk
     rw[hk]at hty
     dsimp only at hty
     split at h
     ·rename_i sz hsz
      have hb:(decide (0<=q)&&decide (q<n))=true:=by
       split at h<;>(cases h;exact hc _ rfl)
      simp only[Bool.and_eq_true,decide_eq_true_eq]at hb
      have hs:=(eM (P:=P) hE hsz).1 w
      have hel:P.elem t=e:=by simp[Program.elem,hty]
      have hal:P.arrayLen t=n:=by simp[Program.arrayLen,hty]
      have hrun:=run_indexAt_array (P:=P) w t ⟨rg.blk,rg.base+k*rg.m+j,none⟩ ik q (by rw[hel,hal];exact hty)
      rw[hal,if_pos hb,hel,hs]at hrun
      split at h
      ·rename_i hrow
       cases h
       simp only[Bool.and_eq_true]at hrow
       obtain⟨⟨⟨r1,r2⟩,r3⟩,r4⟩:=hrow
       obtain rfl:=Nat.eq_of_beq_eq_true r1
       obtain rfl:=Nat.eq_of_beq_eq_true r2
       have r3:=Nat.eq_of_beq_eq_true r3
       have r4:=Nat.eq_of_beq_eq_true r4
       have hal:getO E.G hp b≠.gone:=fun e=>by rw[e]at r3;simp[O.wid]at r3
       have hnr:getO E.G hp b≠.rsv:=fun e=>by rw[e]at r3;simp[O.wid]at r3
       have hob:=hh.blocks b rg hr hal hnr
       have hm:=hob.m hp0
       have hn:=hob.n
       refine⟨.pointer (some ⟨rg.blk,rg.base+q.toNat*rg.m+0,none⟩),?_,rg,hr,hp0,by omega,rfl⟩
       rw[hrun]
       simp only[Result.andThen_ok,Addr.add_lit]
       congr 4
       rw[hm,<-r3,Nat.succ_eq_add_one,Nat.zero_mul]
       omega
      cases h
      refine⟨.pointer (some ⟨rg.blk,rg.base+k*rg.m+(j+q.toNat*(sz+1)),none⟩),?_,rg,hr,hp0,hk2,by rw[eC]⟩
      rw[hrun]
      simp only[Result.andThen_ok,Addr.add_lit,Nat.add_assoc]
     ·cases h
    ·cases h
   ·cases h
  ·cases h
 ·cases h
theorem Nu(hE:E.Ok P)(w:World):∀ (d:Nat) (D:Nat) (t:TypeId) (x y:V) (b:Bool) (u v:Value),d<=D->eqT E d t x y=some b->VR ρ x u->VR ρ y v->(Op.equalIn D t u v).run P w=.ok b w:=by
 intro d
 induction d with
 |zero=>intro D t x y b u v _ h;simp[eqT]at h
 |succ d ih=>
  intro D t x y b u v hD h hx hy
  obtain⟨D,rfl⟩:∃ D',D=D'+1:=⟨D-1,by omega⟩
  simp only[eqT]at h
  split at h
  ·rename_i T hT
   have hty:=(hE.ty t T hT).und
   split at h
   ·rename_i k hk
    rw[hk]at hty
    dsimp only at hty
    split at h
    ·rename_i k1 p k2 q
     split at h
     ·rename_i hkk
      cases h
      simp only[Bool.and_eq_true,decide_eq_true_eq]at hkk
      obtain⟨h1,h2⟩:=hkk
      subst h1;subst h2
      have hx:u=.int _ p:=hx
      have hy:v=.int _ q:=hy
      subst hx;subst hy
      rw[run_equalIn_int w D t _ _ p q hty]
      congr 1
     ·cases h
    ·cases h
   ·rename_i hk
    rw[hk]at hty
    dsimp only at hty
    split at h
    ·rename_i p q hp hq
     cases h
     have:=b?_ok hx hp
     have:=b?_ok hy hq
     subst u;subst v
     exact run_equalIn_bool w D t p q hty
    ·cases h
   ·rename_i hk
    rw[hk]at hty
    dsimp only at hty
    split at h
    ·rename_i p q
     cases h
     have hx:u=.string ⟨p.toArray⟩:=hx
     have hy:v=.string ⟨q.toArray⟩:=hy
     subst hx;subst hy
     rw[run_equalIn_string w D t _ _ hty]
     simp[ByteArray.toList_eq]
    ·cases h
   ·rename_i offs hk
    rw[hk]at hty
    obtain⟨fs,hun,hmap,_,hst,_,hnm⟩:=hty
    split at h
    ·rename_i xs ys
     obtain⟨us,rfl,hus⟩:=hx
     obtain⟨vs,rfl,hvs⟩:=hy
     have hfo:P.fieldsOf t=fs:=by simp[Program.fieldsOf,hun]
     rw[run_equalIn_struct w D t _ _ (by rw[hfo];exact hun) hst,hfo]
     have key:∀ (l:List Field) (offs:List (Nat×TypeId)) (b:Bool),l.map (fun f=>(f.offset,f.type))=offs->l.all (fun f=>f.name != "_")=true->eqFs E (eqT E d) xs ys offs=some b->(Op.eqFields D us.toArray vs.toArray l).run P w=.ok b w:=by
      intro l
      induction l with
      |nil=>intro offs b hm _ hq;subst hm;simp only[List.map_nil,eqFs,Option.some.injEq]at hq;subst hq;simp[Op.eqFields]
      |cons f l ihl=>
       intro offs b hm hn hq
       subst hm
       simp only[List.all_cons,Bool.and_eq_true]at hn
       simp only[List.map_cons,eqFs]at hq
       have hne:f.name ≠ "_" := by simpa using hn.1
       split at hq
       ·rename_i T' hT'
        split at hq
        ·rename_i x' hx'
         split at hq
         ·rename_i y' hy'
          split at hq
          ·rename_i a ha
           obtain⟨z1,hz1,hv1⟩:=gT (P:=P) hE hT' hus hx' w
           obtain⟨z2,hz2,hv2⟩:=gT (P:=P) hE hT' hvs hy' w
           have hrun:=ih D f.type x' y' a z1 z2 (by omega) ha hv1 hv2
           simp only[Op.eqFields,if_pos hne,Sem.run_bind,hz1,hz2,hrun,Result.andThen_ok]
           have hrest:∃ b',b=(a&&b')/\(Op.eqFields D us.toArray vs.toArray l).run P w=.ok b' w:=by
            split at hq
            ·rename_i hl
             cases hq
             have:l=[]:=by simpa using hl
             subst this
             exact⟨true,by simp,by simp[Op.eqFields]⟩
            ·rename_i p r hl
             split at hq
             ·rename_i b' hb'
              cases hq
              exact⟨b',rfl,ihl _ b' rfl hn.2 (by first|exact hb'|(rw[hl];exact hb'))⟩
             ·cases hq
           obtain⟨b',rfl,hr⟩:=hrest
           cases a
           ·simp
           ·simpa using hr
          ·cases hq
         ·cases hq
        ·cases hq
       ·cases hq
     exact key fs.toList offs b hmap hnm h
    ·cases h
   ·rename_i n e hk
    rw[hk]at hty
    dsimp only at hty
    split at h
    ·rename_i Te hTe
     split at h
     ·split at h
      ·rename_i xs ys
       obtain⟨us,rfl,hus⟩:=hx
       obtain⟨vs,rfl,hvs⟩:=hy
       obtain⟨i,z,hi,hisz,_⟩:=(hE.ty e Te hTe).info
       rw[run_equalIn_array (w:=w) D us.toArray vs.toArray hty hi,(hE.ty e Te hTe).cellsOf,List.range_eq_range']
       have key:∀ (m k:Nat) (b:Bool),eqAr (eqT E d e) Te xs ys m k=some b->(Op.eqItems D e Te.sz us.toArray vs.toArray (List.range' k m)).run P w=.ok b w:=by
        intro m
        induction m with
        |zero=>intro k b hq;cases hq;simp[Op.eqItems]
        |succ m ihm=>
         intro k b hq
         simp only[eqAr]at hq
         split at hq
         ·rename_i x' hx'
          split at hq
          ·rename_i y' hy'
           split at hq
           ·rename_i a ha
            split at hq
            ·rename_i b' hb'
             cases hq
             obtain⟨z1,hz1,hv1⟩:=gT (P:=P) hE hTe hus hx' w
             obtain⟨z2,hz2,hv2⟩:=gT (P:=P) hE hTe hvs hy' w
             have hrun:=ih D e x' y' a z1 z2 (by omega) ha hv1 hv2
             have hrest:=ihm (k+1) b' hb'
             rw[List.range'_succ]
             simp only[Op.eqItems,Sem.run_bind,hz1,hz2,hrun,Result.andThen_ok]
             cases a
             ·simp
             ·simpa using hrest
            ·cases hq
           ·cases hq
          ·cases hq
         ·cases hq
       exact key n 0 b h
      ·cases h
     ·cases h
    ·cases h
   ·cases h
  ·cases h
theorem Gl(hE:E.Ok P){op:BinOp}{t:TypeId}{u v:V}{x y:Value}{c:Option Bool}{r:V}(hu:VR ρ u x)(hv:VR ρ v y)(h:binS E op t u v=.val c r)(p q:Operand)(w:World) :
  ∃ z,(do eqGuard op t p q x y;binOp op t x y).run P w=.ok z w/\VR ρ r z:=by
 unfold binS at h
 split at h
 ·rename_i xs
  split at h
  ·rename_i b hb
   have hrun:=Nu (P:=P) hE w 8 10000 t (.agg xs) v b x y (by omega) hb hu hv
   have hg:∃ ys,y=.agg ys/\P.eqGuardType P.depth t=false:=by
    change eqT E (7+1) t (.agg xs) v=some b at hb
    unfold eqT at hb
    split at hb
    ·rename_i T hT
     have hty:=(hE.ty t T hT).und
     split at hb
     ·cases hb
     ·cases hb
     ·cases hb
     ·rename_i offs hk
      rw[hk]at hty
      obtain⟨fs,_,_,_,_,hgu,_⟩:=hty
      split at hb
      ·obtain⟨vs,rfl,_⟩:=hv
       exact⟨_,rfl,hgu⟩
      ·cases hb
     ·rename_i n e hk
      rw[hk]at hty
      dsimp only at hty
      split at hb
      ·rename_i Te hTe
       have hte:=(hE.ty e Te hTe).und
       split at hb
       ·rename_i k0 hk0
        rw[hk0]at hte
        dsimp only at hte
        split at hb
        ·obtain⟨vs,rfl,_⟩:=hv
         refine⟨_,rfl,?_⟩
         unfold Program.depth
         simp only[Program.eqGuardType,hty,hte]
        ·cases hb
       ·cases hb
      ·cases hb
     ·cases hb
    ·cases hb
   obtain⟨ys,rfl,hgu⟩:=hg
   obtain⟨us,rfl,_⟩:=hu
   split at h<;>cases h
   ·exact⟨.bool b,by rw[Sem.run_bind,run_eqGuard_agg w .eql t p q _ _ hgu,Result.andThen_ok,run_eql_struct,hrun];rfl,rfl⟩
   ·exact⟨.bool (!b),by rw[Sem.run_bind,run_eqGuard_agg w .neq t p q _ _ hgu,Result.andThen_ok,run_neq_struct,hrun];rfl,rfl⟩
  ·cases h
 ·cases h
theorem GX(hE:E.Ok P){op:BinOp}{t:TypeId}{u v:V}{x y:Value}{c:Option Bool}{r:V}(hu:VR ρ u x)(hv:VR ρ v y)(h:binX E op t u v=.val c r)(hc:∀ b,c=some b->b=true)(p q:Operand)(w:World) :
  ∃ z,(do eqGuard op t p q x y;binOp op t x y).run P w=.ok z w/\VR ρ r z:=by
 unfold binX at h
 split at h
 ·rename_i a
  split at h
  ·rename_i b
   have hu:x=.string ⟨a.toArray⟩:=hu
   have hv:y=.string ⟨b.toArray⟩:=hv
   subst hu;subst hv
   split at h<;>cases h
   ·have hb:=hc _ rfl
    simp only[decide_eq_true_eq]at hb
    refine⟨.string ⟨(a++b).toArray⟩,?_,rfl⟩
    have:=run_string_add_sum (P:=P) (w:=w) ⟨a.toArray⟩ ⟨b.toArray⟩ (by show a.toArray.size+b.toArray.size<=_;simp;omega)
    have e:(⟨a.toArray⟩:ByteArray)++⟨b.toArray⟩=⟨(a++b).toArray⟩:=by
     apply ByteArray.ext
     rw[ByteArray.data_append]
     simp
    rw[e]at this
    simp[eqGuard,binOp_string_add,this]
   ·exact⟨.bool (a==b),by simp[eqGuard,binOp_string_eql,ByteArray.toList_eq],by simp[VR]⟩
   ·exact⟨.bool (!(a==b)),by simp[eqGuard,binOp_string_neq,ByteArray.toList_eq],by simp[VR]⟩
   ·exact⟨.bool (Op.bytesLess a b),by simp[eqGuard,show binOp .lss t (.string ⟨a.toArray⟩) (.string ⟨b.toArray⟩)=pure (.bool (Op.bytesLess (ByteArray.toList ⟨a.toArray⟩) (ByteArray.toList ⟨b.toArray⟩)))from rfl,ByteArray.toList_eq],by simp[VR]⟩
  ·cases h
 ·rename_i f caps
  obtain⟨us,rfl,_⟩:=hu
  split at h
  ·rename_i T hT
   have hy:y=.nilFunc:=hv
   subst hy
   have hty:=(hE.ty t T hT).und
   split at h<;>(try cases h)
   all_goals
    rename_i hk
    rw[hk]at hty
    obtain⟨a1,a2,a3,hun⟩:=hty
    obtain⟨f',a',c',he⟩:∃ f' a' c',mkFn f us.toArray=.func f' a' c':=by unfold mkFn;split<;>exact⟨_,_,_,rfl⟩
    have heq:=iY hun f' a' c' w
    rw[<-he]at heq
    first|exact⟨.bool false,by simp only[binOp];simp[eqGuard,heq],rfl⟩|exact⟨.bool true,by simp only[binOp];simp[eqGuard,heq],rfl⟩
  ·cases h
 ·unfold binN at h
  (repeat' split at h)<;>cases h
 ·have hx:x=.slice none 0 0:=hu
  subst hx
  unfold Dx at h
  split at h
  ·have hy:y=.slice none 0 0:=hv
   subst hy
   split at h
   ·rename_i T hT
    have hty:=(hE.ty t T hT).und
    split at h
    ·rename_i e hk
     rw[hk]at hty
     dsimp only at hty
     split at h<;>cases h
     ·exact⟨.bool true,by simp only[binOp];simp[eqGuard,run_equal_slice_nil w t e none 0 0 hty],rfl⟩
     ·exact⟨.bool false,by simp only[binOp];simp[eqGuard,run_equal_slice_nil w t e none 0 0 hty],rfl⟩
    ·cases h
   ·cases h
  ·cases h
 ·split at h
  ·rename_i a b T hb1 hb2 hT
   have hx:=b?_ok hu hb1
   have hy:=b?_ok hv hb2
   subst hx;subst hy
   have hty:=(hE.ty t T hT).und
   split at h<;>(try cases h)
   all_goals
    rename_i hk
    rw[hk]at hty
    dsimp only at hty
   ·exact⟨.bool (a==b),by simp[eqGuard,run_eql_bool w t a b hty],rfl⟩
   ·exact⟨.bool (!(a==b)),by simp[eqGuard,run_neq_bool w t a b hty],rfl⟩
  ·exact Gl hE hu hv h p q w
theorem cR(hev:∀ x,VR ρ (evA E tm x) (a.eval x)){o:Option Operand}{r:Option Int}(h:optI E tm o=some r):(r=none/\o.map a.eval=none)\/∃ k n,r=some n/\o.map a.eval=some (.int k n):=by
 cases o with
 |none=>simp only[optI,Option.some.injEq]at h;exact .inl ⟨h.symm,rfl⟩
 |some x=>
  simp only[optI]at h
  split at h
  ·rename_i k n he
   cases h
   have:=hev x
   rw[he]at this
   exact .inr ⟨k,n,rfl,by simp only[Option.map_some];rw[show a.eval x=.int k n from this]⟩
  ·cases h
theorem dc{b:Bool}{len cap:Nat}{lo hi:Option Value}{lo' hi':Option Int}(hl:(lo'=none/\lo=none)\/∃ k n,lo'=some n/\lo=some (.int k n))(hh:(hi'=none/\hi=none)\/∃ k n,hi'=some n/\hi=some (.int k n))
  (h0:0<=lo'.getD 0) (h1:lo'.getD 0<=hi'.getD len) (h2:hi'.getD len<=len) (h3:len<=cap) (w:World) :
  (Instr.sliceBounds b len cap lo hi none).run P w=.ok ((lo'.getD 0).toNat,(hi'.getD len).toNat,cap) w:=by
 rcases hl with⟨rfl,rfl⟩|⟨k,n,rfl,rfl⟩<;>rcases hh with⟨rfl,rfl⟩|⟨k',n',rfl,rfl⟩<;>simp only[Option.getD_none,Option.getD_some]at *
 ·simp[Instr.sliceBounds]
 ·have e1:=run_sliceBound (P:=P) w k' n' cap (if b=true then BoundsCode.sliceAcap else BoundsCode.sliceAlen) (by omega) (by omega)
  simp[Instr.sliceBounds,e1]
 ·have e1:=run_sliceBound (P:=P) w k n len BoundsCode.sliceB (by omega) (by omega)
  simp[Instr.sliceBounds,e1]
 ·have e1:=run_sliceBound (P:=P) w k' n' cap (if b=true then BoundsCode.sliceAcap else BoundsCode.sliceAlen) (by omega) (by omega)
  have e2:=run_sliceBound (P:=P) w k n n'.toNat BoundsCode.sliceB (by omega) (by omega)
  simp[Instr.sliceBounds,e1,e2]
theorem cM{b:Bool}{len cap:Nat}{lo:Option Value}{lo':Option Int}(hl:(lo'=none/\lo=none)\/∃ k n,lo'=some n/\lo=some (.int k n))(kh km:IntKind)(h m:Int)
  (h0:0<=lo'.getD 0) (h1:lo'.getD 0<=h) (h2:h<=m) (h3:m<=cap) (w:World) :
  (Instr.sliceBounds b len cap lo (some (.int kh h)) (some (.int km m))).run P w=.ok ((lo'.getD 0).toNat,h.toNat,m.toNat) w:=by
 have e1:=run_sliceBound (P:=P) w km m cap (if b=true then BoundsCode.slice3Acap else BoundsCode.slice3Alen) (by omega) (by omega)
 have e2:=run_sliceBound (P:=P) w kh h m.toNat BoundsCode.slice3B (by omega) (by omega)
 rcases hl with⟨rfl,rfl⟩|⟨k,n,rfl,rfl⟩<;>simp only[Option.getD_none,Option.getD_some]at *
 ·simp[Instr.sliceBounds,e1,e2]
 ·have e3:=run_sliceBound (P:=P) w k n h.toNat BoundsCode.slice3C (by omega) (by omega)
  simp[Instr.sliceBounds,e1,e2,e3]
theorem Lq(hE:E.Ok P)(hh:HV E.G ρ hp w)(hev:∀ x,VR ρ (evA E tm x) (a.eval x)){t:TypeId}{u:V}{x:Value}{lo hi mx:Option Operand}{c:Option Bool}{r:V}(hu:VR ρ u x)
  (h:slX E hp t u (optI E tm lo) (optI E tm hi) (optI E tm mx)=.val c r) (hc:∀ b,c=some b->b=true) :
  ∃ z,(Instr.sliceAt t x (lo.map a.eval) (hi.map a.eval) (mx.map a.eval)).run P w=.ok z w/\VR ρ r z:=by
 unfold slX at h
 split at h
 ·rename_i T hT
  have hty:=(hE.ty t T hT).und
  split at h
  ·rename_i b k len cap
   split at h
   ·rename_i e hk
    rw[hk]at hty
    dsimp only at hty
    have hel:P.elem t=e:=by simp[Program.elem,hty]
    have hsl:P.underlying t=some (.slice (P.elem t)):=by rw[hel];exact hty
    split at h
    ·rename_i sz hsz
     have hs:=(eM (P:=P) hE hsz).1 w
     split at h
     ·rename_i hw
      have hw:=Nat.eq_of_beq_eq_true hw
      obtain⟨rg,hr,hkl,hp1,hp2⟩:=hu
      have hal:getO E.G hp b≠.gone:=fun e=>by rw[e]at hw;simp[O.wid]at hw
      have hnr:getO E.G hp b≠.rsv:=fun e=>by rw[e]at hw;simp[O.wid]at hw
      have hob:=hh.blocks b rg hr hal hnr
      split at h
      ·rename_i lo' hi' hlo hhi hmx
       cases h
       have hb:=hc _ rfl
       simp only[Bool.and_eq_true,decide_eq_true_eq]at hb
       obtain⟨⟨hb1,hb2⟩,hb3⟩:=hb
       have hmx':mx.map a.eval=none:=by
        rcases cR hev hmx with⟨_,e⟩|⟨_,_,e,_⟩
        ·exact e
        ·cases e
       rw[hmx',run_sliceAt_slice w t x _ _ _ hsl]
       cases hph:rg.ph with
       |true=>
        obtain⟨e1,rfl⟩:=hp1 hph
        subst e1
        have hrun:=run_slice_any (P:=P) w t none 0 0 hsl (lo.map a.eval) (hi.map a.eval) none
        rw[dc (P:=P) (cR hev hlo) (cR hev hhi) hb1 hb2 hb3 (Nat.le_refl _) w,Result.andThen_ok,hel,hs,Result.andThen_ok]at hrun
        refine⟨_,hrun,rg,hr,by rw[eC];omega,fun _=>⟨by omega,?_⟩,fun e=>by rw[hph]at e;cases e⟩
        simp only[sliced,Option.map_none]
        have q1:(hi'.getD ((0:Nat):Int)).toNat-(lo'.getD 0).toNat=0:=by omega
        rw[q1]
        simp
       |false=>
        obtain⟨hlc,ad,rfl,had⟩:=hp2 hph
        have hrun:=run_slice_any (P:=P) w t (some ad) len (cap.getD (rg.cp-k)) hsl (lo.map a.eval) (hi.map a.eval) none
        rw[dc (P:=P) (cR hev hlo) (cR hev hhi) hb1 hb2 hb3 hlc w,Result.andThen_ok,hel,hs,Result.andThen_ok]at hrun
        have hcap:(cap.map (·-(lo'.getD 0).toNat)).getD (rg.cp-addN k (lo'.getD 0).toNat)=cap.getD (rg.cp-k)-(lo'.getD 0).toNat:=by
         rw[eC]
         cases cap with
         |none=>simp only[Option.map_none,Option.getD_none];omega
         |some c=>rfl
        refine⟨_,hrun,rg,hr,by rw[eC];omega,fun e=>(by rw[hph]at e;cases e),fun _=>⟨by rw[hcap];omega,?_⟩⟩
        rw[hcap]
        simp only[sliced]
        by_cases hz:cap.getD (rg.cp-k)=(lo'.getD 0).toNat
        ·rw[if_pos hz]
         exact⟨ad,rfl,fun e=>absurd hz (by omega)⟩
        ·rw[if_neg hz]
         refine⟨_,rfl,fun _=>?_⟩
         rw[had (by omega),eC]
         show Addr.add _ _=_
         rw[Addr.add_lit]
         congr 1
         rw[show sz.succ=rg.m by have:=hob.m hph;omega,Nat.add_mul]
         omega
      ·rename_i lo' h' m' hlo hhi hmx
       cases h
       have hb:=hc _ rfl
       simp only[Bool.and_eq_true,decide_eq_true_eq]at hb
       obtain⟨⟨⟨hb1,hb2⟩,hb3⟩,hb4⟩:=hb
       obtain⟨km,nm,e1,e2⟩:∃ km nm,m'=nm/\mx.map a.eval=some (.int km nm):=by
        rcases cR hev hmx with⟨e,_⟩|⟨km,nm,e,e2⟩
        ·cases e
        ·cases e;exact⟨km,_,rfl,e2⟩
       obtain⟨kh,nh,e3,e4⟩:∃ kh nh,h'=nh/\hi.map a.eval=some (.int kh nh):=by
        rcases cR hev hhi with⟨e,_⟩|⟨kh,nh,e,e2⟩
        ·cases e
        ·cases e;exact⟨kh,_,rfl,e2⟩
       subst e1;subst e3
       rw[e2,e4,run_sliceAt_slice w t x _ _ _ hsl]
       cases hph:rg.ph with
       |true=>
        obtain⟨e1,rfl⟩:=hp1 hph
        subst e1
        have hrun:=run_slice_any (P:=P) w t none 0 0 hsl (lo.map a.eval) (some (.int kh h')) (some (.int km m'))
        rw[cM (P:=P) (cR hev hlo) kh km h' m' hb1 hb2 hb3 (by omega) w,Result.andThen_ok,hel,hs,Result.andThen_ok]at hrun
        refine⟨_,hrun,rg,hr,by rw[eC];omega,fun _=>⟨by omega,?_⟩,fun e=>by rw[hph]at e;cases e⟩
        simp only[sliced,Option.map_none]
        rw[show h'.toNat-(lo'.getD 0).toNat=0 by omega,show m'.toNat-(lo'.getD 0).toNat=0 by omega]
        simp
       |false=>
        obtain⟨hlc,ad,rfl,had⟩:=hp2 hph
        have hrun:=run_slice_any (P:=P) w t (some ad) len (cap.getD (rg.cp-k)) hsl (lo.map a.eval) (some (.int kh h')) (some (.int km m'))
        rw[cM (P:=P) (cR hev hlo) kh km h' m' hb1 hb2 hb3 (by omega) w,Result.andThen_ok,hel,hs,Result.andThen_ok]at hrun
        refine⟨_,hrun,rg,hr,by rw[eC];omega,fun e=>(by rw[hph]at e;cases e),fun _=>⟨by simp only[Option.getD_some];omega,?_⟩⟩
        simp only[sliced,Option.getD_some]
        by_cases hz:m'.toNat=(lo'.getD 0).toNat
        ·rw[if_pos hz]
         exact⟨ad,rfl,fun e=>absurd hz (by omega)⟩
        ·rw[if_neg hz]
         refine⟨_,rfl,fun _=>?_⟩
         rw[had (by omega),eC]
         show Addr.add _ _=_
         rw[Addr.add_lit]
         congr 1
         rw[show sz.succ=rg.m by have:=hob.m hph;omega,Nat.add_mul]
         omega
      ·cases h
     ·cases h
    ·cases h
   ·cases h
  ·have hu:x=.slice none 0 0:=hu
   subst hu
   split at h
   ·rename_i e hk
    rw[hk]at hty
    dsimp only at hty
    have hel:P.elem t=e:=by simp[Program.elem,hty]
    have hsl:P.underlying t=some (.slice (P.elem t)):=by rw[hel];exact hty
    split at h
    ·rename_i sz hsz
     have hs:=(eM (P:=P) hE hsz).1 w
     split at h
     ·rename_i lo' h' m' hlo hhi hmx
      cases h
      have hb:=hc _ rfl
      simp only[Bool.and_eq_true,decide_eq_true_eq]at hb
      obtain⟨⟨⟨hb1,hb2⟩,hb3⟩,hb4⟩:=hb
      obtain⟨km,nm,e1,e2⟩:∃ km nm,m'=nm/\mx.map a.eval=some (.int km nm):=by
       rcases cR hev hmx with⟨e,_⟩|⟨km,nm,e,e2⟩
       ·cases e
       ·cases e;exact⟨km,_,rfl,e2⟩
      obtain⟨kh,nh,e3,e4⟩:∃ kh nh,h'=nh/\hi.map a.eval=some (.int kh nh):=by
       rcases cR hev hhi with⟨e,_⟩|⟨kh,nh,e,e2⟩
       ·cases e
       ·cases e;exact⟨kh,_,rfl,e2⟩
      subst e1;subst e3
      rw[e2,e4,run_sliceAt_slice w t _ _ _ _ hsl]
      have hrun:=run_slice_any (P:=P) w t none 0 0 hsl (lo.map a.eval) (some (.int kh h')) (some (.int km m'))
      rw[cM (P:=P) (cR hev hlo) kh km h' m' hb1 hb2 hb3 (by omega) w,Result.andThen_ok,hel,hs,Result.andThen_ok]at hrun
      refine⟨_,hrun,?_⟩
      change _=Value.slice none 0 0
      simp only[sliced,Option.map_none]
      rw[show h'.toNat-(lo'.getD 0).toNat=0 by omega,show m'.toNat-(lo'.getD 0).toNat=0 by omega]
      simp
     ·cases h
    ·cases h
   ·cases h
  ·rename_i l
   have hu:x=.string ⟨l.toArray⟩:=hu
   subst hu
   split at h
   ·rename_i lo' hi' hk hlo hhi hmx
    cases h
    rw[hk]at hty
    dsimp only at hty
    have hb:=hc _ rfl
    simp only[Bool.and_eq_true,decide_eq_true_eq]at hb
    obtain⟨⟨hb1,hb2⟩,hb3⟩:=hb
    have hmx':mx.map a.eval=none:=by
     rcases cR hev hmx with⟨_,e⟩|⟨_,_,e,_⟩
     ·exact e
     ·cases e
    rw[hmx',run_sliceAt_string w t _ _ _ _ hty]
    refine⟨.string ((⟨l.toArray⟩:ByteArray).extract (lo'.getD 0).toNat (hi'.getD l.length).toNat),?_,?_⟩
    ·have hrun:=dc (P:=P) (b:=false) (len:=l.length) (cap:=l.length) (cR hev hlo) (cR hev hhi) hb1 hb2 hb3 (Nat.le_refl _) w
     have hsz:(⟨l.toArray⟩:ByteArray).size=l.length:=rfl
     simp[Instr.slice,run_underlying hty,hsz,hrun]
    ·show Value.string _=Value.string _
     congr 1
     apply ByteArray.ext
     rw[ByteArray.data_extract]
     simp
   ·cases h
  ·cases h
 ·cases h
def pC(g:Bool):Value->Value->Sem Value:=match g with|true=>Builtin.max2|false=>Builtin.min2
theorem yK{g:Bool}(w:World)(l:List V):∀ {us:List Value} {x:V} {u:Value} {c:Option Bool} {r:V},maxV g x l=.val c r->VR ρ x u->VRL ρ l us ->
  ∃ z,(us.foldlM (pC g) u).run P w=.ok z w/\VR ρ r z/\c=none:=by
 induction l with
 |nil=>
  intro us x u c r h hx hl
  cases hl
  simp only[maxV,R.val.injEq]at h
  obtain⟨rfl,rfl⟩:=h
  exact⟨u,by simp,hx,rfl⟩
 |cons y l ih=>
  intro us x u c r h hx hl
  obtain⟨y',us',rfl,hy,hl'⟩:=hl
  unfold maxV at h
  split at h
  ·rename_i heq;cases heq
  ·rename_i k n k' n' r' heq
   cases heq
   have hx:u=.int k n:=hx
   have hy:y'=.int k' n':=hy
   subst hx;subst hy
   split at h
   ·obtain⟨z,hz,hv⟩:=ih (us:=us') (u:=.int k (imax g n n')) h rfl hl'
    refine⟨z,?_,hv⟩
    rw[List.foldlM_cons,Sem.run_bind,<-hz]
    have hm:(pC g (.int k n) (.int k' n')).run P w=.ok (.int k (imax g n n')) w:=by
     cases g
     ·by_cases h:n'<n<;>simp[pC,Builtin.min2,imax,h]
     ·by_cases h:n<n'<;>simp[pC,Builtin.max2,imax,h]
    rw[hm,Result.andThen_ok]
   ·cases h
  ·cases h
theorem FJ{s:TypeId}{u:V}{c:Option Bool}{v:V}(h:cvX E hp s u=.val c v):∃ (_:c=none),∃ l,v=.str l:=by
 unfold cvX at h
 (repeat' split at h)<;>cases h<;>exact⟨rfl,_,rfl⟩
theorem Mv(hE:E.Ok P)(hh:HV E.G ρ hp w){s d:TypeId}{u:V}{x:Value}{c:Option Bool}{l:List UInt8}(hx:VR ρ u x)(hd:P.underlying d=some .string)(h:cvX E hp s u=.val c (.str l)):True/\(convert s d x).run P w=.ok (.string ⟨l.toArray⟩) w:=by
 refine⟨trivial,?_⟩
 unfold cvX at h
 split at h
 ·rename_i S hS
  split at h
  ·rename_i e hk
   split at h
   ·rename_i Te hTe
    split at h
    ·rename_i hke
     have hs:=(hE.ty s S hS).und
     rw[hk]at hs
     dsimp only at hs
     have he:=(hE.ty e Te hTe).und
     rw[hke]at he
     dsimp only at he
     split at h
     ·cases h
      subst hx
      rw[run_convert_bytes_string w s d e _ _ _ hs he hd]
      simp[Conv.bytesToString]
      rfl
     ·rename_i b k len cap
      split at h
      ·rename_i ww zs hob
       cases h
       obtain⟨r,hr,hkl,hp1,hp2⟩:=hx
       have ho:=hh.blocks b r hr (by rw[hob];exact fun e=>by cases e) (by rw[hob];exact fun e=>by cases e)
       rw[hob]at ho
       have hn:r.n=zs.length:=ho.n
       cases hph:r.ph with
       |true=>
        obtain⟨rfl,rfl⟩:=hp1 hph
        rw[run_convert_bytes_string w s d e _ _ _ hs he hd]
        simp[Conv.bytesToString,dQ]
        rfl
       |false=>
        obtain⟨hcap,ad,rfl,had⟩:=hp2 hph
        have hbs:(⟨(dQ ((zs.drop k).take len)).toArray⟩:ByteArray)=strOfNums ((zs.drop k).take len):=rfl
        rw[hbs]
        by_cases hl0:len=0
        ·subst hl0
         rw[run_convert_bytes_string w s d e _ _ _ hs he hd]
         have hl:(loadCells ad 0).run P w=.ok (([]:List Int).map (Value.int .u8)).toArray w:=by
          have:=run_loadCells_list (P:=P) w ad [] (fun j v hj=>by simp at hj)
          simpa using this
         rw[run_bytesToString w ad 0 _ [] hl]
         simp[strOfNums]
         rfl
        ·have had:=had (by omega)
         subst had
         have hm:r.m=1:=ho.m hph
         refine run_convert_bytes_arg w s e hs he _ _ len _ ((zs.drop k).take len) (by rw[List.length_take,List.length_drop];omega) (fun i hi=>?_) d hd
         obtain⟨u,hu,hvu⟩:=ho.cell hph (k+i) 0 (.int .u8 (zs.getD (k+i) 0)) (by show k+i<zs.length;omega) (by show 0<1;omega) rfl
         have hvu:u=.int .u8 (zs.getD (k+i) 0):=hvu
         subst hvu
         have hg:((zs.drop k).take len).getD i 0=zs.getD (k+i) 0:=by simp[List.getD,hi,List.getElem?_drop]
         rw[hg,<-hu,hm]
         congr 2
         omega
      ·cases h
     ·cases h
    ·cases h
   ·cases h
  ·cases h
 ·cases h
theorem ir(hE:E.Ok P)(hh:HV E.G ρ hp w)(ht:TR ρ tm a){o:Oper}{c:Option Bool}{v:V}(h:evOp E tm hp o.op=.val c v)(hc:∀ b,c=some b->b=true) :
  Ea P ρ w a o v:=by
 have hev:=fun x=>dz (w:=w) ht hh x
 obtain⟨dst,op,ty,pos,after,guard⟩:=o
 dsimp only at h
 unfold evOp at h
 split at h
 case h_1 x=>cases h;exact⟨_,rfl,hev x⟩
 case h_2 x=>cases h;exact⟨_,rfl,hev x⟩
 case h_3 cc x y=>
  obtain⟨b,hb,hv⟩:=LH (hev cc) (hev x) (hev y) h hc
  exact⟨_,by simp[execOp,hb,asBool],hv⟩
 case h_4 t x=>(split at h<;>(try split at h))<;>cases h
 case h_5 t=>split at h<;>cases h
 case h_6 t x=>
  -- load
  split at h
  ·rename_i v' hl
   cases h
   obtain⟨ad,u,hx,hu,hvu⟩:=ye hE hh (hev x) hl
   exact .mk (u:=u) rfl (by rw[hx];simpa[Instr.loadAt,Instr.sureAddr]using hu) hvu
  ·cases h
 case h_7 t x y=>
  split at h
  ·split at h
   ·split at h
    ·cases h
    ·split at h<;>cases h
   ·cases h
  ·cases h
 case h_8 t x i=>
  -- fieldAddr
  have hx:=hev x
  split at h
  ·rename_i b k j he
   rw[he]at hx
   split at h
   ·rename_i T hT
    have hty:=hE.ty t T hT
    split at h
    ·rename_i offs hk
     have hu:=hty.und
     rw[hk]at hu
     obtain⟨fs,hu,hmap,_⟩:=hu
     split at h
     ·rename_i o t' ho
      split at h
      ·rename_i n hn
       cases h
       obtain⟨r,hr,hp0,hk2,he2⟩:=hx
       have hf:∃ f,fs[i]?=some f/\f.offset=o/\f.type=t':=by
        rw[<-hmap]at ho
        simp only[List.getElem?_map,Option.map_eq_some_iff]at ho
        obtain⟨f,hf,hf2⟩:=ho
        simp only[Prod.mk.injEq]at hf2
        exact⟨f,by simpa using hf,hf2.1,hf2.2⟩
       obtain⟨f,hf,rfl,rfl⟩:=hf
       have hsz:=(eM (P:=P) hE hn).1 w
       refine .mk (u:=.pointer (some ⟨r.blk,r.base+k*r.m+j+f.offset,none⟩)) rfl ?_ ⟨r,hr,hp0,hk2,by rw[eC,Nat.add_assoc]⟩
       rw[he2]
       simp[Instr.fieldAt,Instr.sureAddr,run_underlying hu,hf,fieldPlace,hsz,Addr.add_lit]
      ·cases h
     ·cases h
    ·cases h
   ·cases h
  ·cases h
 case h_9 t x i=>
  -- indexAddr
  have hx:=hev x
  have hi:=hev i
  split at h
  ·rename_i b k len cap ik n he hei
   rw[he]at hx
   rw[hei]at hi
   split at h
   ·rename_i T hT
    have hty:=hE.ty t T hT
    split at h
    ·rename_i e hk
     have hu:=hty.und
     rw[hk]at hu
     dsimp only at hu
     split at h
     ·rename_i sz hsz
      split at h
      ·rename_i hw
       cases h
       have hw:=Nat.eq_of_beq_eq_true hw
       have hb:=hc _ rfl
       simp only[Bool.and_eq_true,decide_eq_true_eq]at hb
       obtain⟨r,hr,hkl,hp1,hp2⟩:=hx
       have hal:getO E.G hp b≠.gone:=fun e=>by rw[e]at hw;simp[O.wid]at hw
       have hph:r.ph=false:=by
        cases hq:r.ph with
        |false=>rfl
        |true=>have:=(hp1 hq).1;omega
       obtain⟨hlc,ad,hx,had⟩:=hp2 hph
       rw[had (by omega)]at hx
       have hs:=(eM (P:=P) hE hsz).1 w
       have hm:=(hh.blocks b r hr hal (fun e=>by rw[e]at hw;simp[O.wid]at hw)).m hph
       have hel:P.elem t=e:=by simp[Program.elem,hu]
       have hidx:((n.toNat:Nat):Int)=n:=Int.toNat_of_nonneg hb.1
       have hrun:=run_indexAt_slice (P:=P) w t ⟨r.blk,r.base+k*r.m,none⟩ len (cap.getD (r.cp-k)) ik n (by rw[hel];exact hu)
       rw[if_pos ⟨hb.1,hb.2⟩,hel,hs]at hrun
       refine .mk (u:=.pointer (some ⟨r.blk,r.base+(k+n.toNat)*r.m+0,none⟩)) rfl ?_ ⟨r,hr,hph,by rw[eC];omega,by rw[eC]⟩
       rw[hx,show a.eval i=.int ik n from hi,hrun]
       simp only[Result.andThen_ok,Addr.add_lit]
       congr 4
       rw[show sz.succ=r.m by omega,Nat.add_mul]
       omega
      ·cases h
     ·cases h
    ·cases h
   ·cases h
  ·obtain⟨z,hz,hvz⟩:=KB (P:=P) hE hh hx hi h hc
   exact .mk rfl hz hvz
 case h_10 bop t x y t'=>
  have hx:=hev x
  have hy:=hev y
  split at h
  ·rename_i k p k' q he he'
   rw[he]at hx
   rw[he']at hy
   have hx:a.eval x=.int k p:=hx
   have hy:a.eval y=.int k' q:=hy
   split at h
   ·rename_i hs
    obtain⟨u,hu,hv⟩:=MH (ρ:=ρ) (P:=P) hs (k':=k') h hc t x y w
    exact .mk (s:=do eqGuard bop t x y (a.eval x) (a.eval y);binOp bop t (a.eval x) (a.eval y)) rfl (by rw[hx,hy];exact hu) hv
   ·rename_i hs
    split at h
    ·rename_i hk
     obtain rfl:k=k':=of_decide_eq_true hk
     obtain⟨u,hu,hv⟩:=Mh (ρ:=ρ) (P:=P) hs h hc t x y w
     exact .mk (s:=do eqGuard bop t x y (a.eval x) (a.eval y);binOp bop t (a.eval x) (a.eval y)) rfl (by rw[hx,hy];exact hu) hv
    ·cases h
  ·obtain⟨u,hu,hv⟩:=GX hE hx hy h hc x y w
   exact .mk (s:=do eqGuard bop t x y (a.eval x) (a.eval y);binOp bop t (a.eval x) (a.eval y)) rfl hu hv
 case h_11 t x=>
  have hx:=hev x
  split at h
  ·rename_i b he
   rw[he]at hx
   cases h
   have hx:a.eval x=.bool b:=hx
   exact .mk (u:=.bool !b) rfl (by rw[hx];simp[Op.unary]) rfl
  ·rename_i b he
   rw[he]at hx
   cases h
   have hx:a.eval x=.bool b:=hx
   exact .mk (u:=.bool !b) rfl (by rw[hx];simp[Op.unary]) rfl
  ·cases h
 case h_12 t x=>
  have hx:=hev x
  split at h
  ·rename_i k n he
   rw[he]at hx
   cases h
   have hx:a.eval x=.int k n:=hx
   exact .mk (u:=.int k (k.wrap (0-n))) rfl (by rw[hx];simp[Op.unary,Op.intArith]) rfl
  ·cases h
 case h_13 x i=>
  have hx:=hev x
  split at h
  ·rename_i l he
   rw[he]at hx
   split at h
   ·rename_i v' hv'
    cases h
    obtain⟨us,hu,hus⟩:=hx
    obtain⟨u,hu2,hvu⟩:=hus.get i _ hv'
    refine .mk (u:=u) rfl ?_ hvu
    rw[hu]
    simp[Instr.extract,hu2]
   ·cases h
  ·cases h
 case h_14 t parts=>
  split at h
  ·rename_i T hT
   have hty:=hE.ty t T hT
   split at h
   ·rename_i offs hk
    have hu:=hty.und
    rw[hk]at hu
    obtain⟨fs,hu,hmap,hpl⟩:=hu
    obtain⟨i,z,hi,hsz,_,hz,hzero⟩:=hty.info
    split at h
    ·rename_i l hl
     cases h
     have hps:∀ i:Nat,(∀ p:Nat×V,(parts.toList.map fun p=>(p.1,evA E tm p.2))[i]?=some p->∃ u,(parts.toList.map fun p=>(p.1,a.eval p.2))[i]?=some (p.1,u)/\VR ρ p.2 u) /\
       ((parts.toList.map fun p=>(p.1,evA E tm p.2))[i]?=none->(parts.toList.map fun p=>(p.1,a.eval p.2))[i]?=none):=by
      intro i
      simp only[List.getElem?_map]
      cases parts.toList[i]? with
      |none=>simp
      |some q=>
       simp only[Option.map_some,Option.some.injEq,reduceCtorEq,false_implies,and_true]
       rintro p rfl
       exact⟨_,rfl,hev q.2⟩
     obtain⟨cs',hf,hr⟩:=Hr (P:=P) (ρ:=ρ) hE _ _ _ _ z.cells hps (hzero ρ) hl
     refine .mk (u:=.agg cs') rfl (run_build w t _ cs' ?_) ⟨cs'.toList,by simp,hr⟩
     have hpl2:fs.toList.mapM (fun f=>(P.info? f.type).map fun i=>(f.offset,i.size))=some (offs.map fun p=>(p.1,P.cellsOf p.2)):=hpl.1
     simp only[Program.built,hi,hu,hz,hpl2,Array.toList_map]
     exact hf
    ·cases h
   ·rename_i m e hk
    have hu:=hty.und
    rw[hk]at hu
    dsimp only at hu
    obtain⟨i,z,hi,hsz,_,hz,hzero⟩:=hty.info
    split at h
    ·rename_i n hn
     split at h
     ·rename_i l hl
      cases h
      have hps:∀ i:Nat,(∀ p:Nat×V,(parts.toList.map fun p=>(p.1,evA E tm p.2))[i]?=some p->∃ u,(parts.toList.map fun p=>(p.1,a.eval p.2))[i]?=some (p.1,u)/\VR ρ p.2 u) /\
        ((parts.toList.map fun p=>(p.1,evA E tm p.2))[i]?=none->(parts.toList.map fun p=>(p.1,a.eval p.2))[i]?=none):=by
       intro i
       simp only[List.getElem?_map]
       cases parts.toList[i]? with
       |none=>simp
       |some q=>
        simp only[Option.map_some,Option.some.injEq,reduceCtorEq,false_implies,and_true]
        rintro p rfl
        exact⟨_,rfl,hev q.2⟩
      obtain⟨cs',hf,hr⟩:=zE (ρ:=ρ) _ _ _ _ z.cells hps (hzero ρ) hl
      have hie:∃ ie,P.info? e=some ie/\ie.size=n:=by
       unfold szOf at hn
       split at hn
       ·rename_i Te hTe
        cases hn
        obtain⟨ie,_,h1,h2,_⟩:=(hE.ty e Te hTe).info
        exact⟨ie,h1,h2⟩
       ·cases hn
      obtain⟨ie,hie1,hie2⟩:=hie
      refine .mk (u:=.agg cs') rfl (run_build w t _ cs' ?_) ⟨cs'.toList,by simp,hr⟩
      simp only[Program.built,hi,hu,hz,hie1,Array.toList_map,hie2]
      exact hf
     ·cases h
    ·cases h
   ·cases h
  ·cases h
 case h_15 t x lo hi mx=>
  have hx:=hev x
  split at h
  ·rename_i b he
   rw[he]at hx
   split at h
   ·rename_i T hT
    have hty:=hE.ty t T hT
    split at h
    ·rename_i n e hk
     have hu:=hty.und
     rw[hk]at hu
     dsimp only at hu
     split at h
     ·rename_i sz hsz
      split at h
      ·rename_i hw
       cases h
       simp only[Bool.and_eq_true]at hw
       have hw1:=Nat.eq_of_beq_eq_true hw.1
       have hw2:=Nat.eq_of_beq_eq_true hw.2
       obtain⟨r,hr,hph,hk2,hx⟩:=hx
       have hel:P.elem t=e:=by simp[Program.elem,hu]
       have hal:P.arrayLen t=n:=by simp[Program.arrayLen,hu]
       have hs:=(eM (P:=P) hE hsz).1 w
       have halv:getO E.G hp b≠.gone:=fun e=>by rw[e]at hw1;simp[O.wid]at hw1
       have hn:=(hh.blocks b r hr halv (fun e=>by rw[e]at hw1;simp[O.wid]at hw1)).n
       refine .mk (u:=.slice (some ⟨r.blk,r.base,none⟩) n n) rfl ?_ ⟨r,hr,by omega,fun e=>absurd (hph.symm.trans e) (by simp),fun _=>⟨by simp,⟨r.blk,r.base,none⟩,by simp,fun _=>by simp⟩⟩
       have hrun:=run_sliceAt_array_all (P:=P) w t ⟨r.blk,r.base+0*r.m+0,none⟩ (by rw[hel,hal];exact hu)
       rw[hel,hal,hs]at hrun
       rw[hx]
       simpa[slicedAt,Addr.add]using hrun
      ·cases h
     ·cases h
    ·cases h
   ·cases h
  ·obtain⟨z,hz,hv⟩:=Lq hE hh hev hx h hc
   exact Ea.mk (s:=Instr.sliceAt t (a.eval x) _ _ _) rfl hz hv
 case h_16 cl=>
  split at h
  ·cases h
  ·rename_i hcal
   split at h
   ·rename_i x t hx ht'
    split at h
    ·rename_i T hT
     have hty:=hE.ty t T hT
     have hu:=hty.und
     have hxx:=hev x
     have hargs:cl.args=#[x]:=by cases cl with|mk c as ts=>exact Array.toList_inj.1 hx
     have htys:cl.argTypes=#[t]:=by cases cl with|mk c as ts=>exact Array.toList_inj.1 ht'
     split at h
     ·rename_i e b k n cap hk he
      cases h
      rw[he]at hxx
      rw[hk]at hu
      dsimp only at hu
      obtain⟨r,hr,hkl,hp1,hp2⟩:=hxx
      have:∃ a0 c0,a.eval x=.slice a0 n c0:=by
       cases hq:r.ph with
       |true=>exact⟨none,0,by rw[(hp1 hq).2,(hp1 hq).1]⟩
       |false=>obtain⟨ad,e,_⟩:=(hp2 hq).2;exact⟨_,_,e⟩
      obtain⟨a0,c0,hxv⟩:=this
      refine⟨.int .i64 n,?_,rfl⟩
      simp[execOp,resolve,hcal,hargs,htys,hxv,invoke,builtin,Builtin.len_,run_underlying hu,goInt]
     ·rename_i e hk he
      cases h
      rw[he]at hxx
      rw[hk]at hu
      dsimp only at hu
      have hxv:a.eval x=.slice none 0 0:=hxx
      refine⟨.int .i64 0,?_,rfl⟩
      simp[execOp,resolve,hcal,hargs,htys,hxv,invoke,builtin,Builtin.len_,run_underlying hu,goInt]
     ·rename_i l hk he
      cases h
      rw[he]at hxx
      rw[hk]at hu
      dsimp only at hu
      have hxv:a.eval x=.string ⟨l.toArray⟩:=hxx
      refine⟨.int .i64 l.length,?_,rfl⟩
      have hrun:=run_len_string (P:=P) w t ty ⟨l.toArray⟩ hu
      have hgo:goInt ((⟨l.toArray⟩:ByteArray).size)=.int .i64 l.length:=rfl
      rw[hgo]at hrun
      simp[execOp,resolve,hcal,hargs,htys,hxv,invoke,builtin,hrun]
     ·cases h
    ·cases h
   ·cases h
  ·-- append
   split at h
   ·split at h
    ·exact(tP h rfl).elim
    ·cases h
   ·cases h
  ·rename_i hcal
   split at h
   ·rename_i x r hx
    obtain⟨z,hz,hv,rfl⟩:=yK (P:=P) (ρ:=ρ) w (r.map (evA E tm)) h (hev x) (VRL.map _ _ r fun x _=>hev x)
    have hargs:cl.args=(x::r).toArray:=by cases cl with|mk c as ts=>exact Array.toList_inj.1 (by simpa using hx)
    refine⟨z,?_,hv⟩
    simp only[pC]at hz
    simp[execOp,resolve,hcal,hargs,invoke,builtin,Builtin.max_,hz]
   ·cases h
  ·rename_i hcal
   split at h
   ·rename_i x r hx
    obtain⟨z,hz,hv,rfl⟩:=yK (P:=P) (ρ:=ρ) w (r.map (evA E tm)) h (hev x) (VRL.map _ _ r fun x _=>hev x)
    have hargs:cl.args=(x::r).toArray:=by cases cl with|mk c as ts=>exact Array.toList_inj.1 (by simpa using hx)
    refine⟨z,?_,hv⟩
    simp only[pC]at hz
    simp[execOp,resolve,hcal,hargs,invoke,builtin,Builtin.min_,hz]
   ·cases h
  ·cases h
 case h_17 s d x=>
  split at h
  ·rename_i S D hS hD
   have hx:=hev x
   have hs:∃ ds,P.underlying s=some ds:=by
    have hu:=(hE.ty s S hS).und
    cases hk:S.kd<;>rw[hk]at hu<;>dsimp only at hu
    case struct=>obtain⟨fs,hu,_⟩:=hu;exact⟨_,hu⟩
    case func=>obtain⟨_,_,_,hu⟩:=hu;exact⟨_,hu⟩
    case other=>obtain⟨_,hu,_⟩:=hu;exact⟨_,hu⟩
    all_goals exact⟨_,hu⟩
   obtain⟨ds,hs⟩:=hs
   have hd:=(hE.ty d D hD).und
   split at h
   ·rename_i k k' n hk he
    cases h
    rw[he]at hx
    rw[hk]at hd
    dsimp only at hd
    refine .mk (u:=.int k (k.wrap n)) rfl ?_ rfl
    rw[show a.eval x=.int k' n from hx]
    simp[convert,run_underlying hs,run_underlying hd,Conv.intToInt]
   ·rename_i l hk he
    cases h
    rw[he]at hx
    rw[hk]at hd
    dsimp only at hd
    refine .mk (u:=.string ⟨l.toArray⟩) rfl ?_ rfl
    rw[show a.eval x=.string ⟨l.toArray⟩from hx]
    simp[convert,run_underlying hs,run_underlying hd]
   ·rename_i u hk hne
    rw[hk]at hd
    dsimp only at hd
    obtain⟨c0,l,rfl⟩:=FJ h
    obtain⟨hv,hrun⟩:=Mv (P:=P) hE hh hx hd h
    exact .mk (u:=.string ⟨l.toArray⟩) rfl hrun rfl
   ·cases h
  ·cases h
 case h_18 t x i=>
  split at h
  ·rename_i T hT
   have hu:=(hE.ty t T hT).und
   have hx:=hev x
   have hi:=hev i
   split at h
   ·rename_i l k n hk he hei
    cases h
    rw[he]at hx
    rw[hei]at hi
    rw[hk]at hu
    dsimp only at hu
    have hb:=hc _ rfl
    simp only[Bool.and_eq_true,decide_eq_true_eq]at hb
    have hsz:(⟨l.toArray⟩:ByteArray).size=l.length:=rfl
    have hrun:=run_index_string (P:=P) w t ⟨l.toArray⟩ k n hu
    rw[dif_pos ⟨hb.1,by rw[hsz];exact hb.2⟩]at hrun
    refine .mk (u:=.int .u8 (l.getD n.toNat 0).toNat) rfl ?_ rfl
    rw[show a.eval x=.string ⟨l.toArray⟩from hx,show a.eval i=.int k n from hi,hrun]
    have hlt:n.toNat<l.length:=by omega
    congr 3
    have:(⟨l.toArray⟩:ByteArray)[n.toNat]'(by rw[hsz];exact hlt)=l.toArray[n.toNat]'(by simpa using hlt):=rfl
    rw[this]
    simp[List.getD,hlt]
   ·obtain⟨z,hz,hvz⟩:=Ju (P:=P) hE hT hx hi h hc w
    exact .mk rfl hz hvz
  ·cases h
 case h_19 t x=>
  have hx:=hev x
  split at h
  ·rename_i k n he
   rw[he]at hx
   cases h
   have hx:a.eval x=.int k n:=hx
   refine .mk (u:=.int k (band .xor k (match k.signed with|true=>-1|false=>k.max) n)) rfl ?_ rfl
   rw[hx]
   cases hk:k.signed<;>simp[Op.unary,Op.intBits,band,hk]
  ·cases h
 case h_20 fn first caps=>
  split at h
  ·rename_i f hf
   split at h
   ·rename_i hlo
    cases h
    have:first=#[]:=Array.toList_inj.1 (List.map_eq_nil_iff.1 hf)
    subst this
    refine⟨.func (.func f) #[] (caps.map a.eval),?_,(caps.toList.map a.eval),?_,VRL.map _ _ _ fun x _=>hev x⟩
    ·simp[execOp,Instr.makeFunc]
    ·rw[nI hlo];congr 1;apply Array.ext';simp
   ·cases h
  ·rename_i f y l hf
   split at h
   ·rename_i hcp
    cases h
    have:caps=#[]:=Array.toList_inj.1 hcp
    subst this
    refine⟨.func (.func f) (first.map a.eval) #[],?_,(first.toList.map a.eval),?_,by rw[<-hf];exact VRL.map _ _ _ fun x _=>hev x⟩
    ·simp[execOp,Instr.makeFunc]
    ·rw[JA (JK f),Kj];congr 1;apply Array.ext';simp
   ·cases h
  ·cases h
 case h_21 t n parts=>
  (repeat' split at h)<;>cases h
 case h_22 t x i=>
  obtain⟨z,hz,hvz⟩:=Az (P:=P) hE (hev x) h w
  exact .mk rfl hz hvz
 case h_23 x=>
  have hx:=hev x
  split at h
  ·rename_i b k j he
   cases h
   rw[he]at hx
   obtain⟨r,hr,hp0,hk,hxe⟩:=hx
   exact⟨_,by simp[execOp,hxe],r,hr,hp0,hk,rfl⟩
  ·cases h
 case h_24=>(repeat' split at h)<;>cases h
 case h_25=>cases h
theorem jr{op:Op}{f:V}{args:List V}(h:evOp E tm hp op=.call f args):∃ cl f0,op=.call cl/\cl.callee=.value f0/\f=evA E tm f0/\args=cl.args.toList.map (evA E tm):=by
 unfold evOp at h
 split at h
 case h_1|h_2=>cases h
 case h_3=>unfold oD at h;(repeat' split at h)<;>cases h
 case h_10=>
  (repeat' split at h)<;>first|cases h|exact(tF h rfl).elim|skip
  ·unfold shf at h;split at h<;>cases h
  ·unfold bin at h;split at h<;>cases h
 case h_16 cl=>
  split at h
  ·rename_i f0 hc
   cases h
   exact⟨cl,f0,rfl,hc,rfl,rfl⟩
  all_goals ((repeat' split at h)<;>first|cases h|exact(pT h rfl).elim|exact(tP h rfl).elim)
 all_goals ((repeat' split at h)<;>first|cases h|exact(Ds h rfl).elim|exact(sV h rfl).elim|exact(sX h rfl).elim|exact(jc h rfl).elim|exact(Ex h rfl).elim)
theorem Ky{n:Nat}{neg:Bool}(g:Bool)(l:List V):∀ x:V,maxV g x l=.isnil n neg->False:=by
 induction l with
 |nil=>intro x h;simp[maxV]at h
 |cons y l ih=>
  intro x h
  unfold maxV at h
  split at h
  ·cases h
  ·rename_i heq
   cases heq
   split at h
   ·exact ih _ h
   ·cases h
  ·cases h
theorem zb(hE:E.Ok P)(hh:HV E.G ρ hp w)(ht:TR ρ tm a){o:Oper}{n:Nat}{neg:Bool}(h:evOp E tm hp o.op=.isnil n neg) :
  ∃ b,(b=true->n=0)/\(execOp a.eval o).run P w=.ok (.value (.bool (b != neg))) w:=by
 have hev:=fun x=>dz (w:=w) ht hh x
 obtain⟨dst,op,ty,pos,after,guard⟩:=o
 dsimp only at h
 have hX:∀ {bop:BinOp} {t:TypeId} {u v:V} {x y:Value} (p q:Operand),VR ρ u x->VR ρ v y->binX E bop t u v=.isnil n neg->∃ b,(b=true->n=0)/\(do eqGuard bop t p q x y;binOp bop t x y).run P w=.ok (.bool (b != neg)) w:=by
  intro bop t u v x y p q hu hv h
  unfold binX at h
  split at h
  ·(repeat' split at h)<;>cases h
  ·(repeat' split at h)<;>cases h
  ·rename_i b k len cap
   obtain⟨r,_,_,hp1,hp2⟩:=hu
   unfold binN at h
   split at h
   ·have hy:y=.slice none 0 0:=hv
    subst hy
    split at h
    ·rename_i T hT
     have hty:=(hE.ty t T hT).und
     split at h
     ·rename_i e hk
      rw[hk]at hty
      dsimp only at hty
      have hs:∃ ad l c,x=.slice ad l c/\(ad.isNone=true->len=0):=by
       cases hq:r.ph with
       |true=>exact⟨none,0,0,(hp1 hq).2,fun _=>(hp1 hq).1⟩
       |false=>
        obtain⟨ad,e,_⟩:=(hp2 hq).2
        exact⟨some ad,_,_,e,fun e=>by cases e⟩
      obtain⟨ad,l,c,rfl,hz⟩:=hs
      split at h<;>cases h
      ·exact⟨ad.isNone,hz,by simp only[binOp];simp[eqGuard,run_equal_slice_nil w t e ad l c hty]⟩
      ·exact⟨ad.isNone,hz,by simp only[binOp];simp[eqGuard,run_equal_slice_nil w t e ad l c hty]⟩
     ·cases h
    ·cases h
   ·cases h
  ·unfold Dx at h;(repeat' split at h)<;>cases h
  ·(repeat' split at h)<;>first|cases h|(unfold binS at h;(repeat' split at h)<;>cases h)
 unfold evOp at h
 split at h
 case h_1|h_2=>cases h
 case h_3=>unfold oD at h;(repeat' split at h)<;>cases h
 case h_10 bop t x y t'=>
  split at h
  ·(repeat' split at h)<;>first|cases h|(unfold shf at h;split at h<;>cases h)|(unfold bin at h;split at h<;>cases h)
  ·obtain⟨b,h1,h2⟩:=hX x y (hev x) (hev y) h
   exact⟨b,h1,by simp only[execOp,Sem.run_bind]at h2 ⊢;simp only[h2,Result.andThen_ok];rfl⟩
 all_goals ((repeat' split at h)<;>first|cases h|(unfold slX at h;(repeat' split at h)<;>cases h)|(unfold ixA at h;(repeat' split at h)<;>cases h)|(unfold ixV at h;(repeat' split at h)<;>cases h)|(unfold oq at h;(repeat' split at h)<;>cases h)|(unfold appX at h;(repeat' split at h)<;>cases h)|skip)
 all_goals first|exact(Ky _ _ _ h).elim|exact(NZ h).elim
theorem LO{cv xv yv:V}{c x y:Value}(hc:VR ρ cv c)(hx:VR ρ xv x)(hy:VR ρ yv y){b:Bool}{v1 v2:V}(h:oD cv xv yv=.br b v1 v2) :
  c=.bool b/\(b=true->VR ρ v1 x)/\(b=false->VR ρ v2 y):=by
 unfold oD at h
 split at h
 ·split at h<;>cases h
 ·split at h<;>cases h
 ·split at h<;>cases h
  exact⟨hc,fun _=>hx,fun _=>hy⟩
 ·cases h
theorem BG(hh:HV E.G ρ hp w)(ht:TR ρ tm a){o:Oper}{b:Bool}{x y:V}(h:evOp E tm hp o.op=.br b x y) :
  ∃ u,(execOp a.eval o).run P w=.ok (.value u) w/\(b=true->VR ρ x u)/\(b=false->VR ρ y u):=by
 have hev:=fun x=>dz (w:=w) ht hh x
 obtain⟨dst,op,ty,pos,after,guard⟩:=o
 dsimp only at h
 unfold evOp at h
 split at h
 case h_1|h_2=>cases h
 case h_3 cc p q=>
  obtain⟨hb,h1,h2⟩:=LO (hev cc) (hev p) (hev q) h
  refine⟨if b then a.eval p else a.eval q,by simp[execOp,hb,asBool],fun e=>?_,fun e=>?_⟩
  ·subst e;exact h1 rfl
  ·subst e;exact h2 rfl
 case h_10=>
  (repeat' split at h)<;>first|cases h|exact(tF h rfl).elim|skip
  ·unfold shf at h;split at h<;>cases h
  ·unfold bin at h;split at h<;>cases h
 all_goals ((repeat' split at h)<;>first|cases h|exact(Ds h rfl).elim|exact(pT h rfl).elim|exact(tP h rfl).elim|exact(sV h rfl).elim|exact(sX h rfl).elim|exact(jc h rfl).elim|exact(Ex h rfl).elim)
end
end
section
variable{G:List O}{E:Env}{P:Program}{B:Nat}{ρ:Ren}{hp:List O}{w:World}{tm:List (Nat×V)}{a:Act}
structure iZ(ρ:Ren)(o:O)(us:List Value):Prop where
 alive:o≠.gone
 nrsv:o≠.rsv
 wf:o.wf
 own:o.own=true
 few:o.len<=maxLen
 size:us.length=o.len*o.wid
 cell:∀ k j v,k<o.len->j<o.wid->o.cell k j=some v->∃ x,us[k*o.wid+j]?=some x/\VR ρ v x
def dw(o:O)(blk cp:Nat):Rg:={ blk:=blk,base:=0,m:=o.wid,n:=o.len,cp:=cp,ph:=false }
def Ren.add(ρ:Ren)(b:Nat)(r:Rg):Ren:=fun i=>if i=b then some r else ρ i
theorem Ren.add_same(ρ:Ren)(b:Nat)(r:Rg):(ρ.add b r) b=some r:=by simp[Ren.add]
theorem Ren.add_other(ρ:Ren){b i:Nat}(r:Rg)(h:i≠b):(ρ.add b r) i=ρ i:=by simp[Ren.add,h]
theorem Ren.le_add{ρ:Ren}{b:Nat}(h:ρ b=none)(r:Rg):ρ.le (ρ.add b r):=fun i x hx=>by
 by_cases e:i=b
 ·subst e;rw[h]at hx;cases hx
 ·rw[Ren.add_other ρ r e];exact hx
theorem aB{b:Nat}(h:b<ax):getO G hp b=hp.getD b .gone:=by
 unfold getO
 have:Nat.ble ax b=false:=by
  cases hb:Nat.ble ax b with
  |false=>rfl
  |true=>have:=Nat.le_of_ble_eq_true hb;omega
 rw[this]
theorem aA{b:Nat}(h:ax<=b):getO G hp b=G.getD (b-ax) .gone:=by
 unfold getO
 rw[Nat.ble_eq_true_of_le h]
theorem fk{l:List O}{x:O}{b:Nat}(h:b<l.length):(l++[x]).getD b .gone=l.getD b .gone:=by
 simp[List.getD,List.getElem?_append_left h]
theorem ff{l:List O}{x:O}:(l++[x]).getD l.length .gone=x:=by simp[List.getD]
theorem HR.extend(hh:HR G B ρ hp w){o:O}{w':World}{r:Rg}(hs:w.heap.size<=w'.heap.size)(hold:∀ k,k<w.heap.size->w'.heap[k]?=w.heap[k]?)
  (hr:OR (ρ.add hp.length r) o r w') (hB:o.own=true->r.ph=false->B<=r.blk) (hnew:o.own=true->r.ph=false->w.heap.size<=r.blk)
  (hold2:r.ph=false->∀ b x,ρ b=some x->(getO G hp b).own=true->x.ph=false->x.blk≠r.blk) (hsm:hp.length+1<ax) :
  HR G B (ρ.add hp.length r) (hp++[o]) w'/\ρ.le (ρ.add hp.length r):=by
 have hno:ρ hp.length=none:=hh.free _ (Nat.le_refl _) (by omega)
 have hle:=Ren.le_add hno r
 have hget:∀ b x,ρ b=some x->getO G (hp++[o]) b=getO G hp b:=by
  intro b x hx
  by_cases hb:b<ax
  ·rw[aB hb,aB hb]
   have:b<hp.length:=by
    rcases Nat.lt_or_ge b hp.length with h|h
    ·exact h
    ·rw[hh.free b h hb]at hx;cases hx
   exact fk this
  ·rw[aA (by omega),aA (by omega)]
 have hgn:getO G (hp++[o]) hp.length=o:=by rw[aB (by omega)];exact ff
 refine⟨⟨?_,fun b h1 h2=>?_,fun b h1=>?_,?_,?_,?_,by simp;omega⟩,hle⟩
 ·intro b x hx hal
  by_cases e:b=hp.length
  ·subst e
   rw[Ren.add_same]at hx
   cases hx
   rw[hgn]
   exact hr
  ·rw[Ren.add_other ρ r e]at hx
   rw[hget b x hx]at hal ⊢
   exact((hh.blocks b x hx hal).mono hle).same (fun hp0=>hold _ ((hh.blocks b x hx hal).lt hp0)) hs
 ·simp only[List.length_append,List.length_singleton]at h1
  rw[Ren.add_other ρ r (by omega)]
  exact hh.free b (by omega) h2
 ·by_cases e:b=hp.length
  ·subst e;rw[hgn]at h1;exact absurd h1 hr.nrsv
  ·rw[Ren.add_other ρ r e]
   cases hx:ρ b with
   |none=>rfl
   |some x=>rw[hget b x hx]at h1;rw[hh.rsv b h1]at hx;cases hx
 ·intro b x hx ho hp0
  by_cases e:b=hp.length
  ·subst e
   rw[Ren.add_same]at hx
   cases hx
   rw[hgn]at ho
   exact hB ho hp0
  ·rw[Ren.add_other ρ r e]at hx
   rw[hget b x hx]at ho
   exact hh.base b x hx ho hp0
 ·intro b b' x x' hx hx' hal hp0 hp0' ho hne
  by_cases e:b=hp.length
  ·subst e
   rw[Ren.add_same]at hx
   cases hx
   rw[Ren.add_other ρ r (Ne.symm hne)]at hx'
   rw[hget b' x' hx']at hal
   rw[hgn]at ho
   have:=(hh.blocks b' x' hx' hal).lt hp0'
   have:=hnew ho hp0
   omega
  ·rw[Ren.add_other ρ r e]at hx
   rw[hget b x hx]at ho
   by_cases e':b'=hp.length
   ·subst e'
    rw[Ren.add_same]at hx'
    cases hx'
    exact hold2 hp0' b x hx ho hp0
   ·rw[Ren.add_other ρ r e']at hx'
    rw[hget b' x' hx']at hal
    exact hh.apart b b' x x' hx hx' hal hp0 hp0' ho hne
 ·intro g x hx
  obtain⟨r',h1,h2⟩:=hh.glob g x hx
  refine⟨r',?_,h2⟩
  rw[Ren.add_other ρ r (by omega)]
  exact h1
theorem OR.cellsSame{ρ:Ren}{o:O}{r:Rg}{w w':World}(h:OR ρ o r w)(hb:∀ (k:Nat) (ob:Obj),w.heap[k]?=some ob->ob.isCells=true->w'.heap[k]?=some ob)(hs:w.heap.size<=w'.heap.size):OR ρ o r w' where
 alive:=h.alive
 nrsv:=h.nrsv
 wf:=h.wf
 n:=h.n
 ph0:=h.ph0
 lt:=fun hp=>Nat.lt_of_lt_of_le (h.lt hp) hs
 m:=h.m
 cp:=h.cp
 cell:=fun hp k j v hk hj hv=>by
  obtain⟨u,hu,hr⟩:=h.cell hp k j v hk hj hv
  refine⟨u,?_,hr⟩
  obtain⟨ob,ho,hc⟩:=cells_of_cell hu
  exact(World.cell?_of_block ((hb _ _ ho hc).trans ho.symm)).trans hu
 own:=fun ho hp=>by
  obtain⟨a,hm,cs,e,hc,hsz⟩:=h.own ho hp
  exact⟨a,hm,cs,e,hb _ _ hc rfl,hsz⟩
theorem HR.cellsSame{w':World}(h:HR G B ρ hp w)(hb:∀ (k:Nat) (ob:Obj),w.heap[k]?=some ob->ob.isCells=true->w'.heap[k]?=some ob)(hs:w.heap.size<=w'.heap.size):HR G B ρ hp w':=
 ⟨fun b r e al=>(h.blocks b r e al).cellsSame hb hs,h.free,h.rsv,h.base,h.apart,h.glob,h.small⟩
theorem OR.new{ρ:Ren}{o:O}{us:List Value}(h:iZ ρ o us)(w:World)(t:TypeId):OR ρ o (dw o w.heap.size o.len) (w.alloc (.cells us.toArray t)) where
 alive:=h.alive
 nrsv:=h.nrsv
 wf:=h.wf
 n:=rfl
 ph0:=fun e=>by simp[dw]at e
 lt:=fun _=>by simp[dw]
 m:=fun _=>rfl
 cp:=fun _=>Nat.le_refl _
 cell:=fun _ k j v hk hj hv=>by
  obtain⟨x,hx,hvx⟩:=h.cell k j v hk hj hv
  refine⟨x,?_,hvx⟩
  simp only[dw,Nat.zero_add]
  rw[World.cell?_alloc_new]
  simpa using hx
 own:=fun _ _=>⟨rfl,h.few,us.toArray,t,heap_alloc_new _ _,by simp[dw,h.size]⟩
theorem iZ.mono{ρ ρ':Ren}{o:O}{us:List Value}(h:iZ ρ o us)(hl:ρ.le ρ'):iZ ρ' o us:=
 ⟨h.alive,h.nrsv,h.wf,h.own,h.few,h.size,fun k j v hk hj hv=>let ⟨x,hx,hvx⟩:=h.cell k j v hk hj hv;⟨x,hx,VR.mono hl _ _ hvx⟩⟩
theorem iZ.cells{ρ:Ren}{l:List V}{us:List Value}(h:VRL ρ l us):iZ ρ (.cells true l) us where
 alive:=by simp
 nrsv:=by simp
 wf:=trivial
 own:=rfl
 few:=by simp[O.len,maxLen]
 size:=by simp[O.len,O.wid,h.length]
 cell:=fun k j v hk hj hv=>by
  simp only[O.len]at hk
  obtain rfl:k=0:=by omega
  simp only[O.cell]at hv
  obtain⟨x,hx,hvx⟩:=h.get j v hv
  exact⟨x,by simpa[O.wid]using hx,hvx⟩
theorem dS:∀ (vs l:List V) (j i:Nat),j+vs.length<=l.length->(putCells l j vs)[i]?=if j<=i/\i<j+vs.length then vs[i-j]? else l[i]?
 |[],l,j,i,_=>by
  simp only[putCells,List.length_nil,Nat.add_zero]
  rw[if_neg (by omega)]
 |v::vs,l,j,i,h=>by
  simp only[List.length_cons]at h
  rw[putCells,dS vs _ _ i (by simp;omega)]
  simp only[List.length_cons]
  by_cases h1:j+1<=i/\i<j+1+vs.length
  ·rw[if_pos h1,if_pos (by omega),show i-j=(i-(j+1))+1 by omega,List.getElem?_cons_succ]
  ·rw[if_neg h1,List.getElem?_set]
   by_cases h2:j=i
   ·subst h2
    rw[if_pos rfl,if_pos (by omega),if_pos (by omega)]
    simp
   ·rw[if_neg h2,if_neg (by omega)]
theorem kN:∀ (vs l:List V) (j:Nat),vs.all V.one=true->l.all V.one=true->(putCells l j vs).all V.one=true
 |[],l,j,_,h=>h
 |v::vs,l,j,h,hl=>by
  simp only[List.all_cons,Bool.and_eq_true]at h
  rw[putCells]
  refine kN vs _ _ h.2 (List.all_eq_true.2 fun x hx=>?_)
  rcases List.mem_or_eq_of_mem_set hx with h'|rfl
  ·exact List.all_eq_true.1 hl x h'
  ·exact h.1
theorem zO{k:IntKind}:∀ {rs:List (List V)} {zs:List Int},og k rs=some zs->zs.length=rs.length/\∀ i:Nat,i<rs.length->rs[i]?=some [V.int k (zs.getD i 0)]:=by
 intro rs
 induction rs with
 |nil=>intro zs h;simp only[og,Option.some.injEq]at h;subst h;exact⟨rfl,fun i hi=>by simp at hi⟩
 |cons r rs ih=>
  intro zs h
  unfold og at h
  split at h
  ·rename_i heq;cases heq
  ·rename_i k' n r' heq
   cases heq
   split at h
   ·rename_i hk
    obtain rfl:=of_decide_eq_true hk
    split at h
    ·rename_i l hl
     cases h
     obtain⟨h1,h2⟩:=ih hl
     refine⟨by simp[h1],fun i hi=>?_⟩
     cases i with
     |zero=>rfl
     |succ i=>simpa using h2 i (by simpa using hi)
    ·cases h
   ·cases h
  ·cases h
theorem pW:∀ {r:List V} {ks:List IntKind} {l:List Int},iE r=some (ks,l)->ks.length=r.length/\l.length=r.length/\∀ (j:Nat) (kd:IntKind),ks[j]?=some kd->r[j]?=some (V.int kd (l.getD j 0)):=by
 intro r
 induction r with
 |nil=>intro ks l h;simp only[iE,Option.some.injEq,Prod.mk.injEq]at h;obtain⟨rfl,rfl⟩:=h;exact⟨rfl,rfl,fun j kd hj=>by simp at hj⟩
 |cons v r ih=>
  intro ks l h
  unfold iE at h
  split at h
  ·rename_i heq;cases heq
  ·rename_i k n r' heq
   cases heq
   split at h
   ·rename_i ks' l' hl
    cases h
    obtain⟨h1,h2,h3⟩:=ih hl
    refine⟨by simp[h1],by simp[h2],fun j kd hj=>?_⟩
    cases j with
    |zero=>simp only[List.getElem?_cons_zero,Option.some.injEq]at hj;subst hj;rfl
    |succ j=>simpa using h3 j kd (by simpa using hj)
   ·cases h
  ·cases h
theorem Ag{ks:List IntKind}:∀ {rs:List (List V)} {x:List (List Int)},allRows ks rs=some x->x.length=rs.length/\(∀ row∈x,row.length=ks.length)/\∀ (i j:Nat) (kd:IntKind),i<rs.length->ks[j]?=some kd->(rs[i]?).bind (·[j]?)=some (V.int kd ((x.getD i []).getD j 0)):=by
 intro rs
 induction rs with
 |nil=>intro x h;simp only[allRows,Option.some.injEq]at h;subst h;exact⟨rfl,by simp,fun i j kd hi=>by simp at hi⟩
 |cons v rs ih=>
  intro x h
  unfold allRows at h
  split at h
  ·rename_i ks' l hl
   split at h
   ·rename_i hk
    obtain rfl:=of_decide_eq_true hk
    split at h
    ·rename_i x' hx
     cases h
     obtain⟨r1,r2,r3⟩:=pW hl
     obtain⟨h1,h2,h3⟩:=ih hx
     refine⟨by simp[h1],fun row hr=>?_,fun i j kd hi hj=>?_⟩
     ·rcases List.mem_cons.1 hr with rfl|hr
      ·omega
      ·exact h2 row hr
     ·cases i with
      |zero=>simpa using r3 j kd hj
      |succ i=>simpa using h3 i j kd (by simpa using hi) hj
    ·cases h
   ·cases h
  ·cases h
theorem MY{m:Nat}{rs:List (List V)}(hrs:∀ r∈rs,r.length=m/\r.all V.one=true):(mkO m rs)≠.gone/\(mkO m rs)≠.rsv/\(mkO m rs).wf/\(mkO m rs).own=true/\(mkO m rs).len=rs.length/\(mkO m rs).wid=m /\
  ∀ k j v,k<rs.length->j<m->(mkO m rs).cell k j=some v->(rs[k]?).bind (·[j]?)=some v:=by
 have hv:∀ k j v,(O.vals true m rs).cell k j=some v->(rs[k]?).bind (·[j]?)=some v:=by
  intro k j v h
  simp only[O.cell]at h
  split at h
  ·rename_i r hr;rw[hr];exact h
  ·cases h
 have hvals:(O.vals true m rs)≠.gone/\(O.vals true m rs)≠.rsv/\(O.vals true m rs).wf/\(O.vals true m rs).own=true/\(O.vals true m rs).len=rs.length/\(O.vals true m rs).wid=m /\
   ∀ k j v,k<rs.length->j<m->(O.vals true m rs).cell k j=some v->(rs[k]?).bind (·[j]?)=some v:=⟨by simp,by simp,hrs,rfl,rfl,rfl,fun k j v _ _ h=>hv k j v h⟩
 unfold mkO
 split
 ·rename_i k n rs'
  split
  ·rename_i zs hz
   obtain⟨h1,h2⟩:=zO hz
   have hm:m=1:=by have:=(hrs [.int k n] (by simp)).1;simpa using this.symm
   refine⟨by simp,by simp,trivial,rfl,by simp only[O.len];exact h1,by simp only[O.wid];exact hm.symm,fun i j v hi hj hc=>?_⟩
   obtain rfl:j=0:=by omega
   simp only[O.cell,Option.some.injEq]at hc
   rw[h2 i hi]
   simp only[Option.bind_some,List.getElem?_cons_zero,hc]
  ·exact hvals
 ·rename_i r rs' hne
  split
  ·rename_i ks l hr
   split
   ·rename_i x hx
    obtain⟨h1,h2,h3⟩:=Ag hx
    obtain⟨r1,_,_⟩:=pW hr
    have hm:=(hrs r (by simp)).1
    refine⟨by simp,by simp,h2,rfl,by simp only[O.len];exact h1,by simp only[O.wid];omega,fun i j v hi hj hc=>?_⟩
    simp only[O.cell]at hc
    split at hc
    ·rename_i kd hkd
     simp only[Option.some.injEq]at hc
     rw[h3 i j kd hi hkd,hc]
    ·cases hc
   ·exact hvals
  ·exact hvals
 ·exact hvals
theorem Ey{sz:Nat}(hsz:1<=sz):∀ (parts:List (Nat×V)) (ps:List (Nat×Value)) (i0:Nat) (l:List V) (cs:Array Value) (rs:List (List V)),tu sz i0 parts=some rs ->
  (∀ i:Nat,(∀ p:Nat×V,parts[i]?=some p->∃ u,ps[i]?=some (p.1,u)/\VR ρ p.2 u)/\(parts[i]?=none->ps[i]?=none))->VRL ρ l cs.toList->(i0+parts.length)*sz<=l.length ->
  ∃ cs' l',Instr.fill (fun i=>some (i*sz,sz)) cs ps=some cs'/\VRL ρ l' cs'.toList/\l'.length=l.length/\rs.length=parts.length/\(∀ r∈rs,r.length=sz/\r.all V.one=true) /\
   (∀ i,i<i0*sz->l'[i]?=l[i]?)/\∀ k j v,j<sz->(rs[k]?).bind (·[j]?)=some v->l'[(i0+k)*sz+j]?=some v:=by
 intro parts
 induction parts with
 |nil=>
  intro ps i0 l cs rs h hps hl _
  have h0:=(hps 0).2 rfl
  have:ps=[]:=by cases ps with|nil=>rfl|cons x xs=>simp at h0
  subst this
  simp only[tu,Option.some.injEq]at h
  subst h
  exact⟨cs,l,rfl,hl,rfl,rfl,by simp,fun _ _=>rfl,fun k j v _ hv=>by simp at hv⟩
 |cons p parts ih=>
  intro ps i0 l cs rs h hps hl hlen
  obtain⟨i,v⟩:=p
  obtain⟨u,hu,hvu⟩:=(hps 0).1 (i,v) rfl
  cases ps with
  |nil=>simp at hu
  |cons q ps=>
   simp only[List.getElem?_cons_zero,Option.some.injEq]at hu
   subst hu
   simp only[tu]at h
   split at h
   ·rename_i hb
    simp only[Bool.and_eq_true]at hb
    obtain⟨⟨hb1,hb2⟩,hb3⟩:=hb
    obtain rfl:=Nat.eq_of_beq_eq_true hb1
    have hb2:=Nat.eq_of_beq_eq_true hb2
    split at h
    ·rename_i rs' hrs
     cases h
     have hcells:=VR.cells hvu hb3
     have hsz2:u.cells.size=sz:=by have:=hcells.length;simp only[Array.length_toList]at this;omega
     have hcs:cs.size=l.length:=by have:=hl.length;simpa using this
     have hstep:=rL v.cells u.cells.toList l cs (i0*sz) 0 hcells hl
     rw[Nat.add_zero]at hstep
     simp only[List.length_cons]at hlen
     have hi1:i0*sz+sz<=l.length:=by
      have:(i0+1)*sz<=(i0+(parts.length+1))*sz:=Nat.mul_le_mul_right _ (by omega)
      rw[Nat.add_mul,Nat.one_mul]at this
      omega
     have hrest:∀ i:Nat,(∀ p:Nat×V,parts[i]?=some p->∃ u,ps[i]?=some (p.1,u)/\VR ρ p.2 u)/\(parts[i]?=none->ps[i]?=none):=fun i=>by simpa using hps (i+1)
     obtain⟨cs',l',hf,hr,hl1,hl2,hl3,hl4,hl5⟩:=ih ps (i0+1) _ _ rs' hrs hrest hstep (by rw[cB,show i0+1+parts.length=i0+(parts.length+1) by omega];exact hlen)
     refine⟨cs',l',?_,hr,by rw[hl1,cB],by simp[hl2],fun r hr=>?_,fun i hi=>?_,fun k j x hj hx=>?_⟩
     ·simp only[Instr.fill,hsz2]
      rw[if_neg (by simp;omega)]
      rw[<-Array.foldl_toList,Array.toList_zipIdx]
      exact hf
     ·rcases List.mem_cons.1 hr with rfl|hr
      ·exact⟨hb2,hb3⟩
      ·exact hl3 r hr
     ·rw[hl4 i (by rw[Nat.add_mul];omega),dS _ _ _ _ (by omega),if_neg (by omega)]
     ·cases k with
      |zero=>
       simp only[List.getElem?_cons_zero,Option.bind_some]at hx
       rw[Nat.add_zero,hl4 _ (by rw[Nat.add_mul];omega),dS _ _ _ _ (by omega),if_pos (by omega),Nat.add_sub_cancel_left]
       exact hx
      |succ k=>
       rw[show i0+(k+1)=i0+1+k by omega]
       exact hl5 k j x hj (by simpa using hx)
    ·cases h
   ·cases h
theorem xd:∀ (us:List Value),VRL ρ (List.replicate us.length .junk) us
 |[]=>rfl
 |u::us=>⟨u,us,rfl,trivial,xd us⟩
theorem Dn(hE:E.Ok P){t e:TypeId}{T Te:Ty}(hT:assoc E.ty t=some T)(hk:T.kd=.slice e)(hTe:assoc E.ty e=some Te){n:Nat}{parts:List (Nat×V)}{ps:Array (Nat×Value)}{o:O}(h:CZ Te.sz n parts=some o)
  (hps:∀ i:Nat,(∀ p:Nat×V,parts[i]?=some p->∃ u,ps.toList[i]?=some (p.1,u)/\VR ρ p.2 u)/\(parts[i]?=none->ps.toList[i]?=none)) (w:World) :
  ∃ us,(Instr.buildSlice t n ps).run P w=.ok (.slice (some ⟨w.heap.size,0,none⟩) n n) (w.alloc (.cells us.toArray e))/\iZ ρ o us/\o.len=n:=by
 have hu:=(hE.ty t T hT).und
 rw[hk]at hu
 dsimp only at hu
 obtain⟨i,z,hi,hsz,_,hz,_⟩:=(hE.ty e Te hTe).info
 unfold CZ at h
 split at h
 ·rename_i rs hrs
  split at h
  ·rename_i hb
   cases h
   simp only[Bool.and_eq_true]at hb
   obtain⟨⟨⟨hb1,hb2⟩,hb4⟩,hb3⟩:=hb
   have hb1:=Nat.eq_of_beq_eq_true hb1
   have hb2:=Nat.le_of_ble_eq_true hb2
   have hb4:=Nat.le_of_ble_eq_true hb4
   have hb3:=Nat.le_of_ble_eq_true hb3
   obtain⟨cs,hcs⟩:∃ cs:Array Value,cs=(Array.range (n*Te.sz)).map ((if n*Te.sz=0 then #[]else z.cells)[·%(if n*Te.sz=0 then #[]else z.cells).size]!):=⟨_,rfl⟩
   have hcsz:cs.size=n*Te.sz:=by rw[hcs];simp
   obtain⟨cs',l',hf,hr,hl1,hl2,hl3,hl4,hl5⟩:=Ey (ρ:=ρ) hb2 parts ps.toList 0 (List.replicate cs.toList.length .junk) cs rs hrs hps (xd _) (by simp[hcsz,hb1])
   obtain⟨m1,m2,m3,m4,m5,m6,m7⟩:=MY hl3
   have hlen:cs'.size=n*Te.sz:=by have:=hr.length;simp only[Array.length_toList]at this;rw[this,hl1];simp[hcsz]
   refine⟨cs'.toList,?_,⟨m1,m2,m3,m4,?_,?_,fun k j v hk hj hv=>?_⟩,by rw[m5,hl2,hb1]⟩
   ·have hno:¬ (16777216<n*Te.sz):=by omega
    have hpos:0<Te.sz:=hb2
    have hz0:¬ n*Te.sz=0:=by have:=Nat.mul_pos hb4 hpos;omega
    rw[if_neg hz0]at hcs
    rw[hcs]at hf
    simp only[Instr.buildSlice,Sem.run_bind,run_underlying hu,Result.andThen_ok,sizeOf,typeInfo,zeroValue]
    simp[hno,if_neg hz0,hsz,hi,hz,hf,newRow]
   ·rw[m5,hl2,hb1]
    have:n<=n*Te.sz:=Nat.le_mul_of_pos_right _ hb2
    simp only[maxLen];omega
   ·rw[m5,m6,hl2,hb1];simp[hlen]
   ·rw[m5]at hk
    rw[m6]at hj
    have:=hl5 k j v hj (m7 k j v hk hj hv)
    rw[Nat.zero_add]at this
    rw[m6]
    exact hr.get _ _ this
  ·cases h
 ·cases h
theorem LX(sz:Nat)(z:List V):mkNo sz z≠.gone/\mkNo sz z≠.rsv/\(mkNo sz z).wf/\(mkNo sz z).own=true/\(mkNo sz z).len=0:=by
 unfold mkNo
 split
 ·exact⟨by simp,by simp,trivial,rfl,rfl⟩
 ·split
  ·exact⟨by simp,by simp,fun r hr=>(by simp at hr),rfl,rfl⟩
  ·exact⟨by simp,by simp,fun r hr=>(by simp at hr),rfl,rfl⟩
theorem BE(hE:E.Ok P){t e:TypeId}{T Te:Ty}(hT:assoc E.ty t=some T)(hk:T.kd=.slice e)(hTe:assoc E.ty e=some Te){n:Nat}{parts:List (Nat×V)}{ps:Array (Nat×Value)}{o:O}(h:BL Te n parts=some o)
  (hps:∀ i:Nat,(∀ p:Nat×V,parts[i]?=some p->∃ u,ps.toList[i]?=some (p.1,u)/\VR ρ p.2 u)/\(parts[i]?=none->ps.toList[i]?=none)) (w:World) :
  ∃ us,(Instr.buildSlice t n ps).run P w=.ok (.slice (some ⟨w.heap.size,0,none⟩) n n) (w.alloc (.cells us.toArray e))/\iZ ρ o us/\o.len=n:=by
 unfold BL at h
 split at h
 ·cases h
  have hu:=(hE.ty t T hT).und
  rw[hk]at hu
  dsimp only at hu
  obtain⟨i,z,hi,hsz,_,hz,_⟩:=(hE.ty e Te hTe).info
  obtain⟨m1,m2,m3,m4,m5⟩:=LX Te.sz Te.zero
  have hp:ps=#[]:=by
   have:=(hps 0).2 rfl
   have h2:ps.toList=[]:=by
    cases h3:ps.toList with
    |nil=>rfl
    |cons x l=>rw[h3]at this;cases this
   exact Array.toList_inj.1 h2
  subst hp
  refine⟨[],?_,⟨m1,m2,m3,m4,by rw[m5];exact Nat.zero_le _,by rw[m5];simp,fun k j v hk=>by rw[m5]at hk;omega⟩,m5⟩
  simp only[Instr.buildSlice,Sem.run_bind,run_underlying hu,Result.andThen_ok,sizeOf,typeInfo,zeroValue]
  simp[hsz,hi,newRow,Instr.fill]
  congr 2
  exact Array.eq_empty_of_size_eq_zero (by simp)
 ·exact Dn hE hT hk hTe h hps w
theorem jS(hE:E.Ok P)(hh:HR E.G B ρ hp w)(ht:TR ρ tm a){o:Oper}{ob:O}{mk:Nat->V}(h:evOp E tm hp o.op=.alloc ob mk) :
  ∃ us t u,(execOp a.eval o).run P w=.ok (.value u) (w.alloc (.cells us.toArray t))/\iZ ρ ob us /\
   ∀ ρ' b,ρ' b=some (dw ob w.heap.size ob.len)->VR ρ' (mk b) u:=by
 have hev:=fun x=>dz (w:=w) ht hh.hv x
 obtain⟨dst,op,ty,pos,after,guard⟩:=o
 dsimp only at h
 unfold evOp at h
 split at h
 case h_1|h_2=>cases h
 case h_3=>unfold oD at h;(repeat' split at h)<;>cases h
 case h_4 t x=>
  split at h
  ·rename_i T hT
   split at h
   ·rename_i ha
    cases h
    have hc:=VR.cells (hev x) ha
    refine⟨(a.eval x).cells.toList,t,.pointer (some ⟨w.heap.size,0,none⟩),?_,iZ.cells hc,fun ρ' b hb=>⟨_,hb,rfl,by simp[dw,O.len],by simp[dw]⟩⟩
    simp[execOp,Instr.box,newVar,newRow]
   ·cases h
  ·cases h
 case h_5 t=>
  split at h
  ·rename_i T hT
   cases h
   obtain⟨i,z,hi,hsz,_,hz,hzero⟩:=(hE.ty t T hT).info
   refine⟨z.cells.toList,t,.pointer (some ⟨w.heap.size,0,none⟩),?_,iZ.cells (hzero ρ),fun ρ' b hb=>⟨_,hb,rfl,by simp[dw,O.len],by simp[dw]⟩⟩
   simp[execOp,Instr.alloc,zeroValue,typeInfo,hi,hz,newVar,newRow]
  ·cases h
 case h_10=>
  (repeat' split at h)<;>first|cases h|exact(tF h rfl).elim|skip
  ·unfold shf at h;split at h<;>cases h
  ·unfold bin at h;split at h<;>cases h
 case h_21 t n parts=>
  split at h
  ·rename_i T hT
   split at h
   ·rename_i e hk
    split at h
    ·rename_i Te hTe
     split at h
     ·rename_i o ho
      cases h
      have hps:∀ i:Nat,(∀ p:Nat×V,(parts.toList.map fun p=>(p.1,evA E tm p.2))[i]?=some p->∃ u,(parts.map fun p=>(p.1,a.eval p.2)).toList[i]?=some (p.1,u)/\VR ρ p.2 u) /\
        ((parts.toList.map fun p=>(p.1,evA E tm p.2))[i]?=none->(parts.map fun p=>(p.1,a.eval p.2)).toList[i]?=none):=by
       intro i
       simp only[List.getElem?_map,Array.toList_map]
       cases parts.toList[i]? with
       |none=>simp
       |some q=>
        simp only[Option.map_some,Option.some.injEq,reduceCtorEq,false_implies,and_true]
        rintro p rfl
        exact⟨_,rfl,hev q.2⟩
      obtain⟨us,hrun,hnew,hlen⟩:=BE (P:=P) (ρ:=ρ) hE hT hk hTe ho hps w
      refine⟨us,e,.slice (some ⟨w.heap.size,0,none⟩) n n,?_,hnew,fun ρ' b hb=>⟨_,hb,by simp[dw,hlen],fun e=>by simp[dw]at e,fun _=>⟨by simp[dw,hlen],⟨w.heap.size,0,none⟩,by simp[dw,hlen],fun _=>by simp[dw]⟩⟩⟩
      simp[execOp,hrun]
     ·cases h
    ·cases h
   ·cases h
  ·cases h
 all_goals ((repeat' split at h)<;>first|cases h|exact(Ds h rfl).elim|exact(pT h rfl).elim|exact(tP h rfl).elim|exact(sV h rfl).elim|exact(sX h rfl).elim|exact(jc h rfl).elim|exact(Ex h rfl).elim)
theorem qB{o:O}{r:Rg}(ho:OR ρ o r w)(how:o.own=true)(hph:r.ph=false)(x:Nat)(us:List Value)(hx:x+us.length<=r.cp*r.m)(h1:∀ u∈us,u.oneCell'=true) :
  ∃ w' cs',(storeCells ⟨r.blk,x,none⟩ us).run P w=.ok () w'/\w'.heap.size=w.heap.size/\(∀ k,k≠r.blk->w'.heap[k]?=w.heap[k]?) /\
   w'.os=w.os/\w'.tape=w.tape/\w'.output=w.output /\
   (∃ e,w'.heap[r.blk]?=some (.cells cs' e (0,0)))/\cs'.size=r.cp*r.m /\
   ∀ i,w'.cell? ⟨r.blk,i,none⟩=if x<=i/\i<x+us.length then us[i-x]? else w.cell? ⟨r.blk,i,none⟩:=by
 obtain⟨hb,_,cs,e,hc,hsz⟩:=ho.own how hph
 have hrun:=run_storeCells_at P r.blk x e us 0 cs w hc (by omega) h1
 simp only[Nat.add_zero]at hrun
 have hnew:=setRow_heap w r.blk cs (cs.toList.take x++us++cs.toList.drop (x+us.length)).toArray e (0,0) hc
 refine⟨_,(cs.toList.take x++us++cs.toList.drop (x+us.length)).toArray,hrun,by simp,fun k hk=>setRow_other w r.blk k _ hk,rfl,rfl,rfl,⟨e,hnew⟩,?_,?_⟩
 ·simp only[List.size_toArray,List.length_append,List.length_take,List.length_drop,Array.length_toList]
  omega
 ·intro i
  rw[cell_of_row _ r.blk i _ e (0,0) hnew,cell_of_row _ r.blk i cs e (0,0) hc]
  have hl:(cs.toList.take x).length=x:=by simp;omega
  simp only[List.getElem?_toArray]
  by_cases h2:x<=i/\i<x+us.length
  ·rw[if_pos h2,List.append_assoc,List.getElem?_append_right (by omega),hl,List.getElem?_append_left (by omega)]
  ·rw[if_neg h2]
   by_cases h3:i<x
   ·rw[List.append_assoc,List.getElem?_append_left (by omega),List.getElem?_take]
    simp[h3]
   ·rw[List.getElem?_append_right (by simp;omega)]
    simp only[List.length_append,hl,List.getElem?_drop]
    rw[show x+us.length+(i-(x+us.length))=i by omega]
    simp
theorem HR.update(hh:HR G B ρ hp w){b:Nat}{r:Rg}(hr:ρ b=some r)(hb:b<ax)(hph:r.ph=false)(how:(getO G hp b).own=true){o':O}{w':World}
  (hs:w.heap.size=w'.heap.size) (hold:∀ k,k≠r.blk->w'.heap[k]?=w.heap[k]?) (ho':OR ρ o' r w') (_hown:o'.own=true):HR G B ρ (hp.set b o') w':=by
 have hlt:b<hp.length:=by
  rcases Nat.lt_or_ge b hp.length with h|h
  ·exact h
  ·rw[hh.free b h hb]at hr;cases hr
 have hget:∀ b',b'≠b->getO G (hp.set b o') b'=getO G hp b':=by
  intro b' hne
  by_cases hg:b'<ax
  ·rw[aB hg,aB hg]
   simp[List.getD,Ne.symm hne]
  ·rw[aA (by omega),aA (by omega)]
 have hgb:getO G (hp.set b o') b=o':=by
  rw[aB hb]
  simp[List.getD,hlt]
 refine⟨?_,fun b h1 h2=>hh.free b (by simpa using h1) h2,fun b' h1=>?_,?_,?_,hh.glob,by simpa using hh.small⟩
 ·intro b' r' hr' hal
  by_cases e:b'=b
  ·subst e
   rw[hr]at hr'
   cases hr'
   rw[hgb]
   exact ho'
  ·rw[hget b' e]at hal ⊢
   refine(hh.blocks b' r' hr' hal).same (fun hp'=>hold _ ?_) (by omega)
   exact fun e2=>hh.apart b b' r r' hr hr' hal hph hp' how (Ne.symm e) e2.symm
 ·by_cases e:b'=b
  ·subst e;rw[hgb]at h1;exact absurd h1 ho'.nrsv
  ·rw[hget b' e]at h1;exact hh.rsv b' h1
 ·intro b' r' hr' ho hp'
  by_cases e:b'=b
  ·subst e
   rw[hr]at hr'
   cases hr'
   exact hh.base _ _ hr how hp'
  ·rw[hget b' e]at ho
   exact hh.base b' r' hr' ho hp'
 ·intro b' b'' r' r'' hr' hr'' hal hp' hp'' ho hne
  have hal2:getO G hp b''≠.gone:=by
   by_cases e:b''=b
   ·subst e;intro e2;rw[e2]at how;simp[O.own]at how
   ·rwa [hget b'' e]at hal
  by_cases e:b'=b
  ·subst e
   exact hh.apart _ b'' r' r'' hr' hr'' hal2 hp' hp'' how hne
  ·rw[hget b' e]at ho
   exact hh.apart b' b'' r' r'' hr' hr'' hal2 hp' hp'' ho hne
theorem MT{ob o':O}{k j sz:Nat}{v:V}{u:Value}(hst:stO ob k j v sz=some o')(hvu:VR ρ v u)(hk:k<ob.len)(hwf:ob.wf) :
  ob.own=true/\o'.own=true/\0<sz/\o'.wf/\o'≠.gone/\o'≠.rsv/\o'.len=ob.len/\o'.wid=ob.wid/\j+sz<=ob.wid/\u.cells.toList.length=sz/\(∀ x∈u.cells.toList,x.oneCell'=true) /\
   ∃ vs,VRL ρ vs u.cells.toList/\∀ k' j' v',o'.cell k' j'=some v' ->
    (k'=k/\j<=j'/\j'<j+sz/\vs[j'-j]?=some v')\/(¬ (k'=k/\j<=j'/\j'<j+sz)/\ob.cell k' j'=some v'):=by
 unfold stO at hst
 split at hst
 ·rename_i l
  split at hst
  ·split at hst
   ·rename_i hb
    simp only[Bool.and_eq_true,Nat.ble_eq]at hb
    obtain⟨⟨⟨hb1,hb2⟩,hb3⟩,hb4⟩:=hb
    have hb1:=Nat.eq_of_beq_eq_true hb1
    cases hst
    have hc:=VR.cells hvu hb3
    refine⟨rfl,rfl,hb4,trivial,by simp,by simp,rfl,by simp[O.wid,cB],by simpa[O.wid]using hb2,by rw[hc.length,hb1],VRL.oneCell hc hb3,v.cells,hc,?_⟩
    intro k' j' v' hv
    cases k' with
    |succ=>simp[O.cell]at hv
    |zero=>
     simp only[O.cell]at hv
     rw[dS _ _ _ _ (by omega)]at hv
     by_cases hin:j<=j'/\j'<j+v.cells.length
     ·rw[if_pos hin]at hv
      exact .inl ⟨rfl,hin.1,by omega,hv⟩
     ·rw[if_neg hin]at hv
      exact .inr ⟨fun h=>hin ⟨h.2.1,by omega⟩,hv⟩
   ·cases hst
  ·cases hst
 ·rename_i kd zs
  split at hst
  ·rename_i kd' n
   split at hst
   ·rename_i hb
    simp only[Bool.and_eq_true,decide_eq_true_eq]at hb
    obtain⟨rfl,hb⟩:=hb
    obtain rfl:=Nat.eq_of_beq_eq_true hb
    cases hst
    cases hvu
    refine⟨rfl,rfl,by omega,trivial,by simp,by simp,by simp[O.len],rfl,by simp[O.wid],rfl,by simp[Value.cells,Value.oneCell'],[.int kd n],⟨_,_,rfl,rfl,rfl⟩,?_⟩
    intro k' j' v' hv
    cases j' with
    |succ=>simp[O.cell]at hv
    |zero=>
     simp only[O.cell,Option.some.injEq,List.getD_eq_getElem?_getD,List.getElem?_set]at hv
     by_cases hkk:k=k'
     ·subst hkk
      simp only[O.len]at hk
      rw[if_pos rfl,if_pos hk]at hv
      exact .inl ⟨rfl,Nat.le_refl _,by omega,by simpa using hv⟩
     ·rw[if_neg hkk]at hv
      exact .inr ⟨fun h=>hkk h.1.symm,by simp[O.cell,<-hv]⟩
   ·cases hst
  ·cases hst
 ·rename_i ks rs
  split at hst
  ·rename_i kd' n
   split at hst
   ·rename_i kd hkd
    split at hst
    ·rename_i hb
     simp only[Bool.and_eq_true,decide_eq_true_eq]at hb
     obtain⟨rfl,hb⟩:=hb
     obtain rfl:=Nat.eq_of_beq_eq_true hb
     cases hst
     cases hvu
     have hjw:j<ks.length:=(List.getElem?_eq_some_iff.1 hkd).1
     have hrow:∀ hk':k<rs.length,rs[k].length=ks.length:=fun hk'=>hwf _ (List.getElem_mem hk')
     refine⟨rfl,rfl,by omega,?_,by simp,by simp,by simp[O.len],rfl,by simp only[O.wid];omega,rfl,by simp[Value.cells,Value.oneCell'],[.int kd n],⟨_,_,rfl,rfl,rfl⟩,?_⟩
     ·intro row hr
      rcases List.mem_or_eq_of_mem_set hr with h|rfl
      ·exact hwf _ h
      ·simp only[O.len]at hk
       simp[hk,hrow hk]
     intro k' j' v' hv
     simp only[O.cell]at hv
     split at hv
     ·rename_i kd2 hkd2
      simp only[Option.some.injEq,List.getD_eq_getElem?_getD,List.getElem?_set]at hv
      by_cases hkk:k=k'
      ·subst hkk
       simp only[O.len]at hk
       rw[if_pos rfl,if_pos hk]at hv
       by_cases hjj:j=j'
       ·subst hjj
        rw[hkd]at hkd2
        cases hkd2
        refine .inl ⟨rfl,Nat.le_refl _,by omega,?_⟩
        have hl:=hrow hk
        simp[hk,hl,hjw]at hv
        simpa using hv
       ·refine .inr ⟨fun h=>hjj (by omega),?_⟩
        have hl:=hrow hk
        simp[hk,hjj]at hv
        simp[O.cell,hkd2,hk,hv]
      ·rw[if_neg hkk]at hv
       exact .inr ⟨fun h=>hkk h.1.symm,by simp[O.cell,hkd2,<-hv]⟩
     ·cases hv
    ·cases hst
   ·cases hst
  ·cases hst
 ·rename_i m rs
  split at hst
  ·rename_i hb
   simp only[Bool.and_eq_true,Nat.ble_eq]at hb
   obtain⟨⟨⟨hb1,hb2⟩,hb3⟩,hb4⟩:=hb
   have hb1:=Nat.eq_of_beq_eq_true hb1
   cases hst
   have hc:=VR.cells hvu hb3
   have hk':k<rs.length:=hk
   have hrow:(rs.getD k []).length=m:=by
    have:rs.getD k []=rs[k]:=by simp[List.getD,hk']
    rw[this];exact(hwf _ (List.getElem_mem hk')).1
   have hrow1:(rs.getD k []).all V.one=true:=by
    have:rs.getD k []=rs[k]:=by simp[List.getD,hk']
    rw[this];exact(hwf _ (List.getElem_mem hk')).2
   refine⟨rfl,rfl,hb4,?_,by simp,by simp,by simp[O.len],rfl,hb2,by rw[hc.length,hb1],VRL.oneCell hc hb3,v.cells,hc,?_⟩
   ·intro row hr
    rcases List.mem_or_eq_of_mem_set hr with h|rfl
    ·exact hwf _ h
    ·exact⟨by rw[cB];exact hrow,kN _ _ _ hb3 hrow1⟩
   intro k' j' v' hv
   simp only[O.cell,List.getElem?_set]at hv
   by_cases hkk:k=k'
   ·subst hkk
    rw[if_pos rfl,if_pos hk']at hv
    dsimp only at hv
    rw[dS _ _ _ _ (by omega)]at hv
    by_cases hin:j<=j'/\j'<j+v.cells.length
    ·rw[if_pos hin]at hv
     exact .inl ⟨rfl,hin.1,by omega,hv⟩
    ·rw[if_neg hin]at hv
     refine .inr ⟨fun h=>hin ⟨h.2.1,by omega⟩,?_⟩
     simp only[O.cell]
     rw[List.getElem?_eq_getElem hk']
     dsimp only
     simpa[List.getD,hk']using hv
   ·rw[if_neg hkk]at hv
    exact .inr ⟨fun h=>hkk h.1.symm,by simpa only[O.cell]using hv⟩
  ·cases hst
 ·cases hst
theorem Kq{k k' j j' m sz:Nat}(h1:j+sz<=m)(h2:j'<m)(_h3:0<sz):(k*m+j<=k'*m+j'/\k'*m+j'<k*m+j+sz)↔(k'=k/\j<=j'/\j'<j+sz):=by
 constructor
 ·rintro⟨a,b⟩
  have hk:k'=k:=by
   rcases Nat.lt_trichotomy k' k with h|h|h
   ·have:(k'+1)*m<=k*m:=Nat.mul_le_mul_right _ h
    rw[Nat.add_mul]at this
    omega
   ·exact h
   ·have:(k+1)*m<=k'*m:=Nat.mul_le_mul_right _ h
    rw[Nat.add_mul]at this
    omega
  subst hk
  exact⟨rfl,by omega,by omega⟩
 ·rintro⟨rfl,a,b⟩
  omega
theorem kH(hE:E.Ok P)(hh:HR E.G B ρ hp w)(ht:TR ρ tm a){o:Oper}{b:Nat}{o':O}(h:evOp E tm hp o.op=.store b o') :
  ∃ w',(execOp a.eval o).run P w=.ok .skip w'/\HR E.G B ρ (hp.set b o') w'/\RowKit.Below B w w'/\KeepsOthers w w':=by
 have hev:=fun x=>dz (w:=w) ht hh.hv x
 obtain⟨dst,op,ty,pos,after,guard⟩:=o
 dsimp only at h
 unfold evOp at h
 split at h
 case h_1|h_2=>cases h
 case h_3=>unfold oD at h;(repeat' split at h)<;>cases h
 case h_7 t x y=>
  have hx:=hev x
  have hy:=hev y
  split at h
  ·rename_i b' k j he
   rw[he]at hx
   split at h
   ·rename_i T hT
    have hty:=hE.ty t T hT
    split at h
    ·cases h
    ·rename_i hgb
     have hgb:b'<ax:=by
      rcases Nat.lt_or_ge b' ax with h|h
      ·exact h
      ·rw[Nat.ble_eq_true_of_le h]at hgb;cases hgb
     split at h
     ·rename_i o'' hst
      cases h
      obtain⟨r,hr,hph,hk,hxe⟩:=hx
      have hob:=hh.blocks b r hr (fun e=>by rw[aB hgb]at e;rw[e]at hst;simp[stO]at hst)
      have hbase0:=hh.base b r hr
      rw[aB hgb]at hob hbase0
      rw[hob.n]at hk
      obtain⟨how,how',hsz0,hwf',hal,hnr,hlen,hwid,hjsz,hus,h1,vs,hvs,hcl⟩:=MT (ρ:=ρ) hst hy hk hob.wf
      have hm:=hob.m hph
      have hbase:=(hob.own how hph).1
      have hcp:=hob.cp hph
      have hfit:k*r.m+j+(a.eval y).cells.toList.length<=r.cp*r.m:=by
       have:(k+1)*r.m<=r.cp*r.m:=Nat.mul_le_mul_right _ (by have:=hob.n;omega)
       rw[Nat.add_mul]at this
       omega
      obtain⟨w',cs',hrun,hsz,hold,hos,htp,hout,hheap,hcsz,hcell⟩:=qB (P:=P) hob how hph (k*r.m+j) _ hfit h1
      have hnew:OR ρ o' r w':=by
       refine⟨hal,hnr,hwf',by rw[hlen];exact hob.n,hob.ph0,fun hp'=>by rw[hsz];exact hob.lt hp',fun hp'=>by rw[hwid];exact hob.m hp',hob.cp,fun hp' k' j' v' hk' hj' hv'=>?_,fun _ _=>⟨hbase,(hob.own how hph).2.1,cs',hheap.imp fun e he=>⟨he,hcsz⟩⟩⟩
       have hc:=hcell (k'*r.m+j')
       rw[hus]at hc
       simp only[Kq (k:=k) (k':=k') (j:=j) (j':=j') (m:=r.m) (sz:=T.sz) (by omega) (by omega) hsz0]at hc
       rcases hcl k' j' v' hv' with⟨rfl,h2,h3,h4⟩|⟨h2,h3⟩
       ·rw[if_pos ⟨rfl,h2,h3⟩]at hc
        obtain⟨x,hx,hvx⟩:=hvs.get _ _ h4
        refine⟨x,?_,hvx⟩
        rw[hbase,Nat.zero_add,hc,<-hx]
        congr 1
        omega
       ·rw[if_neg h2]at hc
        obtain⟨x,hx,hvx⟩:=hob.cell hp' k' j' v' (by omega) (by omega) h3
        refine⟨x,?_,hvx⟩
        rw[hbase,Nat.zero_add]at hx ⊢
        rw[hc]
        exact hx
      have hB:=hbase0 how hph
      refine⟨w',?_,hh.update hr hgb hph (by rw[aB hgb];exact how) hsz.symm hold hnew how',⟨hos,htp,hout,by omega,fun k hk=>hold k (by omega)⟩,⟨by omega,fun k obk hk hobk=>?_⟩⟩
      rotate_left
      ·by_cases e:k=r.blk
       ·subst e
        obtain⟨_,_,cs2,e2,hc2,_⟩:=hob.own how hph
        rw[hc2]at hk
        cases hk
        simp[Obj.isCells]at hobk
       ·exact(hold k e).trans hk
      have hvs2:(a.eval y).cells.size=T.sz:=by simpa using hus
      rw[hbase,Nat.zero_add]at hxe
      simp[execOp,Instr.storeAt,Instr.sureAddr,hxe,storeVar,hty.size,hvs2,hrun]
     ·cases h
   ·cases h
  ·cases h
 case h_10=>
  (repeat' split at h)<;>first|cases h|exact(tF h rfl).elim|skip
  ·unfold shf at h;split at h<;>cases h
  ·unfold bin at h;split at h<;>cases h
 all_goals ((repeat' split at h)<;>first|cases h|exact(Ds h rfl).elim|exact(pT h rfl).elim|exact(tP h rfl).elim|exact(sV h rfl).elim|exact(sX h rfl).elim|exact(jc h rfl).elim|exact(Ex h rfl).elim)
end
section
variable{G:List O}{E:Env}{P:Program}{B:Nat}{ρ:Ren}{hp:List O}{w:World}{tm:List (Nat×V)}{a:Act}
def killO(hp:List O):Option Nat->List O
 |none=>hp
 |some b=>hp.set b .gone
theorem HR.kill(hh:HR G B ρ hp w){b:Nat}(hb:b<ax):HR G B ρ (hp.set b .gone) w:=by
 have hget:∀ b',b'≠b->getO G (hp.set b .gone) b'=getO G hp b':=by
  intro b' hne
  by_cases hg:b'<ax
  ·rw[aB hg,aB hg]
   simp[List.getD,Ne.symm hne]
  ·rw[aA (by omega),aA (by omega)]
 have hgb:getO G (hp.set b .gone) b=.gone:=by
  rw[aB hb]
  by_cases h:b<hp.length
  ·simp[List.getD,h]
  ·simp[List.getD,List.getElem?_eq_none (show (hp.set b O.gone).length<=b by simp;omega)]
 refine⟨?_,fun b' h1 h2=>hh.free b' (by simpa using h1) h2,fun b' h1=>?_,?_,?_,hh.glob,by simpa using hh.small⟩
 ·intro b' r' hr' hal
  by_cases e:b'=b
  ·subst e;exact absurd hgb hal
  ·rw[hget b' e]at hal ⊢;exact hh.blocks b' r' hr' hal
 ·by_cases e:b'=b
  ·subst e;rw[hgb]at h1;cases h1
  ·rw[hget b' e]at h1;exact hh.rsv b' h1
 ·intro b' r' hr' ho hp'
  by_cases e:b'=b
  ·subst e;rw[hgb]at ho;cases ho
  ·rw[hget b' e]at ho;exact hh.base b' r' hr' ho hp'
 ·intro b' b'' r' r'' hr' hr'' hal hp' hp'' ho hne
  by_cases e:b'=b
  ·subst e;rw[hgb]at ho;cases ho
  ·by_cases e2:b''=b
   ·subst e2;exact absurd hgb hal
   ·rw[hget b' e]at ho;rw[hget b'' e2]at hal
    exact hh.apart b' b'' r' r'' hr' hr'' hal hp' hp'' ho hne
theorem HR.extend2(hh:HR G B ρ hp w){o:O}{w':World}{r:Rg}(hs:w.heap.size<=w'.heap.size)
  (hold:∀ b x,ρ b=some x->getO G hp b≠.gone->x.ph=false->w'.heap[x.blk]?=w.heap[x.blk]?)
  (hr:OR (ρ.add hp.length r) o r w') (hB:o.own=true->r.ph=false->B<=r.blk)
  (hnew:r.ph=false->∀ b x,ρ b=some x->getO G hp b≠.gone->x.ph=false->x.blk≠r.blk) (hsm:hp.length+1<ax) :
  HR G B (ρ.add hp.length r) (hp++[o]) w'/\ρ.le (ρ.add hp.length r):=by
 have hno:ρ hp.length=none:=hh.free _ (Nat.le_refl _) (by omega)
 have hle:=Ren.le_add hno r
 have hget:∀ b x,ρ b=some x->getO G (hp++[o]) b=getO G hp b:=by
  intro b x hx
  by_cases hb:b<ax
  ·rw[aB hb,aB hb]
   have:b<hp.length:=by
    rcases Nat.lt_or_ge b hp.length with h|h
    ·exact h
    ·rw[hh.free b h hb]at hx;cases hx
   exact fk this
  ·rw[aA (by omega),aA (by omega)]
 have hgn:getO G (hp++[o]) hp.length=o:=by rw[aB (by omega)];exact ff
 refine⟨⟨?_,fun b h1 h2=>?_,fun b h1=>?_,?_,?_,?_,by simp;omega⟩,hle⟩
 ·intro b x hx hal
  by_cases e:b=hp.length
  ·subst e
   rw[Ren.add_same]at hx
   cases hx
   rw[hgn]
   exact hr
  ·rw[Ren.add_other ρ r e]at hx
   rw[hget b x hx]at hal ⊢
   exact((hh.blocks b x hx hal).mono hle).same (fun hp0=>hold b x hx hal hp0) hs
 ·simp only[List.length_append,List.length_singleton]at h1
  rw[Ren.add_other ρ r (by omega)]
  exact hh.free b (by omega) h2
 ·by_cases e:b=hp.length
  ·subst e;rw[hgn]at h1;exact absurd h1 hr.nrsv
  ·rw[Ren.add_other ρ r e]
   cases hx:ρ b with
   |none=>rfl
   |some x=>rw[hget b x hx]at h1;rw[hh.rsv b h1]at hx;cases hx
 ·intro b x hx ho hp0
  by_cases e:b=hp.length
  ·subst e
   rw[Ren.add_same]at hx
   cases hx
   rw[hgn]at ho
   exact hB ho hp0
  ·rw[Ren.add_other ρ r e]at hx
   rw[hget b x hx]at ho
   exact hh.base b x hx ho hp0
 ·intro b b' x x' hx hx' hal hp0 hp0' ho hne
  by_cases e:b=hp.length
  ·subst e
   rw[Ren.add_same]at hx
   cases hx
   rw[Ren.add_other ρ r (Ne.symm hne)]at hx'
   rw[hget b' x' hx']at hal
   exact fun e=>hnew hp0 b' x' hx' hal hp0' e.symm
  ·rw[Ren.add_other ρ r e]at hx
   rw[hget b x hx]at ho
   by_cases e':b'=hp.length
   ·subst e'
    rw[Ren.add_same]at hx'
    cases hx'
    exact hnew hp0' b x hx (fun e=>by rw[e]at ho;cases ho) hp0
   ·rw[Ren.add_other ρ r e']at hx'
    rw[hget b' x' hx']at hal
    exact hh.apart b b' x x' hx hx' hal hp0 hp0' ho hne
 ·intro g x hx
  obtain⟨r',h1,h2⟩:=hh.glob g x hx
  refine⟨r',?_,h2⟩
  rw[Ren.add_other ρ r (by omega)]
  exact h1
theorem sg(t ty e:TypeId)(i:TypeInfo)(ht:P.underlying t=some (.slice e))(hi:P.info? e=some i)
  (g sLen sCap:Nat) (cur:Array Value) (e0:TypeId) (hg:w.heap[g]?=some (.cells cur e0 (0,0)))
  (ad:Addr) (m c:Nat) (news:List Value) (hl:news.length=m*i.size) (hnews:∀ j u,news[j]?=some u->w.cell? (ad.add j)=some u) (h1:∀ u∈news,u.oneCell'=true)
  (hroom:sLen+m<=sCap) (hfit:sLen*i.size+news.length<=cur.size) :
  (Builtin.append_ #[t,t] ty #[.slice (some ⟨g,0,none⟩) sLen sCap,.slice (some ad) m c]).run P w =
   .ok (.slice (some ⟨g,0,none⟩) (sLen+m) sCap) (w.setRow g (cur.toList.take (sLen*i.size)++news++cur.toList.drop (sLen*i.size+news.length)).toArray):=by
 have hf:=run_firstCells_some (P:=P) w i.size m ad m c news hl hnews
 have hst:=run_storeCells_at P g (sLen*i.size) e0 news 0 cur w hg (by simpa using hfit) h1
 simp only[Nat.add_zero]at hst
 simp[Builtin.append_,run_underlying ht,sizeOf,typeInfo,hi,Builtin.lenOf,hroom,hf,Addr.add_lit,hst]
theorem gJ(t ty e:TypeId)(i:TypeInfo)(ht:P.underlying t=some (.slice e))(hi:P.info? e=some i)(base:Option Addr)(sLen sCap:Nat)(hle:sLen<=sCap)(b2:Option Addr)(c:Nat) :
  (Builtin.append_ #[t,t] ty #[.slice base sLen sCap,.slice b2 0 c]).run P w=.ok (.slice base sLen sCap) w:=by
 cases base<;>cases b2<;>simp[Builtin.append_,run_underlying ht,sizeOf,typeInfo,hi,Builtin.lenOf,hle,Builtin.firstCells,loadCells,loadCellsFrom,storeCells]
theorem EX{p:Nat->Value->Prop}:∀ (N:Nat),(∀ j,j<N->∃ u,p j u)->∃ us:List Value,us.length=N/\∀ j u,us[j]?=some u->p j u
 |0,_=>⟨[],rfl,fun j u h=>by simp at h⟩
 |N+1,h=>by
  obtain⟨us,h1,h2⟩:=EX N fun j hj=>h j (by omega)
  obtain⟨u,hu⟩:=h N (by omega)
  refine⟨us++[u],by simp[h1],fun j x hx=>?_⟩
  by_cases hj:j<us.length
  ·rw[List.getElem?_append_left hj]at hx;exact h2 j x hx
  ·rw[List.getElem?_append_right (by omega)]at hx
   have:j=us.length:=by
    rcases Nat.lt_or_ge (j-us.length) 1 with h|h
    ·omega
    ·rw[List.getElem?_eq_none (by simpa using h)]at hx;cases hx
   subst this
   rw[Nat.sub_self]at hx
   simp only[List.getElem?_cons_zero,Option.some.injEq]at hx
   rw[<-hx,h1]
   exact hu
theorem O.cell_ex{o:O}(hr:o.isRows=true)(hwf:o.wf){k j:Nat}(hk:k<o.len)(hj:j<o.wid):∃ v,o.cell k j=some v/\V.one v=true:=by
 cases o with
 |ints w kd zs=>
  simp only[O.wid]at hj
  obtain rfl:j=0:=by omega
  exact⟨.int kd (zs.getD k 0),rfl,rfl⟩
 |rows w ks rs=>
  simp only[O.wid]at hj
  exact⟨.int ks[j] ((rs.getD k []).getD j 0),by simp only[O.cell];rw[List.getElem?_eq_getElem hj],rfl⟩
 |vals w m rs=>
  simp only[O.len]at hk
  simp only[O.wid]at hj
  obtain⟨hl,h1⟩:=hwf _ (List.getElem_mem hk)
  exact⟨rs[k][j],by simp only[O.cell];rw[List.getElem?_eq_getElem hk];dsimp only;rw[List.getElem?_eq_getElem (by omega)],List.all_eq_true.1 h1 _ (List.getElem_mem _)⟩
 |cells w l=>cases hr
 |gone=>cases hr
 |rsv=>cases hr
 |lock w m n=>cases hr
theorem O.rows_alive{o:O}(h:o.isRows=true):o≠.gone/\o≠.rsv:=by cases o<;>simp_all [O.isRows]
theorem yq(hh:HV G ρ hp w){b:Nat}{r:Rg}(hr:ρ b=some r)(hp0:r.ph=false)(hrow:(getO G hp b).isRows=true){k n:Nat}(hn:k+n<=r.n) :
  ∃ us:List Value,us.length=n*r.m/\(∀ j u,us[j]?=some u->w.cell? ⟨r.blk,r.base+k*r.m+j,none⟩=some u)/\(∀ u∈us,u.oneCell'=true) /\
   ∀ k' j v,k'<n->j<r.m->(getO G hp b).cell (k+k') j=some v->∃ u,us[k'*r.m+j]?=some u/\VR ρ v u:=by
 obtain⟨ha,hb⟩:=O.rows_alive hrow
 have hob:=hh.blocks b r hr ha hb
 have hm:=hob.m hp0
 have hlen:=hob.n
 obtain⟨us,h1,h2⟩:=EX (p:=fun j u=>w.cell? ⟨r.blk,r.base+k*r.m+j,none⟩=some u/\u.oneCell'=true/\∀ v,(getO G hp b).cell (k+j/r.m) (j%r.m)=some v->VR ρ v u) (n*r.m) (fun j hj=>by
  have hm0:0<r.m:=by
   rcases Nat.eq_zero_or_pos r.m with h|h
   ·rw[h]at hj;simp at hj
   ·exact h
  have hk':j/r.m<n:=Nat.div_lt_of_lt_mul (by rw[Nat.mul_comm];exact hj)
  have hj':j%r.m<r.m:=Nat.mod_lt _ hm0
  obtain⟨v,hv,hone⟩:=O.cell_ex hrow hob.wf (k:=k+j/r.m) (j:=j%r.m) (by omega) (by omega)
  obtain⟨u,hu,hvu⟩:=hob.cell hp0 (k+j/r.m) (j%r.m) v (by omega) (by omega) hv
  refine⟨u,?_,VR.oneCell hvu hone,fun v' hv'=>by rw[hv]at hv';cases hv';exact hvu⟩
  rw[<-hu]
  congr 2
  rw[Nat.add_mul]
  have:=Nat.div_add_mod j r.m
  rw[Nat.mul_comm]at this
  omega)
 refine⟨us,h1,fun j u hu=>(h2 j u hu).1,fun u hu=>?_,fun k' j v hk' hj hv=>?_⟩
 ·obtain⟨j,hj⟩:=List.getElem?_of_mem hu
  exact(h2 j u hj).2.1
 obtain⟨x,hx⟩:∃ x,x=k'*r.m+j:=⟨_,rfl⟩
 have hd:x/r.m=k'/\x%r.m=j:=by
  rw[hx,Nat.mul_comm k' r.m,Nat.mul_add_div (by omega),Nat.mul_add_mod,Nat.div_eq_of_lt hj,Nat.mod_eq_of_lt hj]
  exact⟨rfl,rfl⟩
 rw[<-hx]
 have hlt:x<us.length:=by
  rw[h1]
  have:(k'+1)*r.m<=n*r.m:=Nat.mul_le_mul_right _ hk'
  rw[Nat.add_mul]at this
  omega
 refine⟨us[x],List.getElem?_eq_getElem hlt,?_⟩
 have:=(h2 _ _ (List.getElem?_eq_getElem hlt)).2.2 v
 rw[hd.1,hd.2]at this
 exact this hv
theorem xy{o:O}{ww:Bool}{k n:Nat}(hr:o.isRows=true)(hn:k+n<=o.len):(o.win ww k n).len=n/\(o.win ww k n).wid=o.wid/\(o.win ww k n).own=ww/\(o.win ww k n).isRows=true/\(o.wf->(o.win ww k n).wf) /\
  ∀ k' j v,k'<n->(o.win ww k n).cell k' j=some v->o.cell (k+k') j=some v:=by
 have hg:∀ {α:Type} (l:List α) (d:α) (i:Nat),i<n->((l.drop k).take n).getD i d=l.getD (k+i) d:=by
  intro α l d i h
  simp[List.getD,h,List.getElem?_drop]
 cases o with
 |ints w kd zs=>
  simp only[O.len]at hn
  refine⟨by simp only[O.win,O.len,List.length_take,List.length_drop];omega,rfl,rfl,rfl,fun _=>trivial,fun k' j v hk hc=>?_⟩
  cases j with
  |zero=>simp only[O.win,O.cell,Option.some.injEq]at hc ⊢;rw[<-hc,hg _ _ _ hk]
  |succ j=>simp[O.win,O.cell]at hc
 |rows w ks rs=>
  simp only[O.len]at hn
  refine⟨by simp only[O.win,O.len,List.length_take,List.length_drop];omega,rfl,rfl,rfl,fun h r hr=>h r (List.mem_of_mem_drop (List.mem_of_mem_take hr)),fun k' j v hk hc=>?_⟩
  simp only[O.win,O.cell]at hc ⊢
  split at hc
  ·simp only[Option.some.injEq]at hc ⊢;rw[<-hc,hg _ _ _ hk]
  ·cases hc
 |vals w m rs=>
  simp only[O.len]at hn
  refine⟨by simp only[O.win,O.len,List.length_take,List.length_drop];omega,rfl,rfl,rfl,fun h r hr=>h r (List.mem_of_mem_drop (List.mem_of_mem_take hr)),fun k' j v hk hc=>?_⟩
  simp only[O.win,O.cell]at hc ⊢
  rw[List.getElem?_take,if_pos hk,List.getElem?_drop]at hc
  exact hc
 |cells w l=>cases hr
 |gone=>cases hr
 |rsv=>cases hr
 |lock w m n=>cases hr
theorem FL{o x y:O}(h:catO x y=some o):o.len=x.len+y.len/\o.wid=x.wid/\y.wid=x.wid/\o.own=true/\o≠.gone/\o≠.rsv/\(x.wf->y.wf->o.wf)/\x.isRows=true/\y.isRows=true /\
  ∀ k j v,k<o.len->o.cell k j=some v->(k<x.len/\x.cell k j=some v)\/(x.len<=k/\y.cell (k-x.len) j=some v):=by
 have hg:∀ {α:Type} (l r:List α) (d:α) (i:Nat),(i<l.length->(l++r).getD i d=l.getD i d)/\(l.length<=i->(l++r).getD i d=r.getD (i-l.length) d):=by
  intro α l r d i
  exact⟨fun h=>by simp[List.getD,List.getElem?_append_left h],fun h=>by simp[List.getD,List.getElem?_append_right h]⟩
 unfold catO at h
 split at h
 ·split at h
  ·rename_i k zs w' k' ys bb hk
   obtain rfl:=of_decide_eq_true hk
   cases h
   refine⟨by simp[O.len],rfl,rfl,rfl,by simp,by simp,fun _ _=>trivial,rfl,rfl,fun i j v hi hc=>?_⟩
   cases j with
   |succ j=>simp[O.cell]at hc
   |zero=>
    simp only[O.cell,Option.some.injEq,O.len]at hc ⊢
    by_cases h:i<zs.length
    ·exact .inl ⟨h,by rw[<-hc,(hg zs ys 0 i).1 h]⟩
    ·exact .inr ⟨by omega,by rw[<-hc,(hg zs ys 0 i).2 (by omega)]⟩
  ·cases h
 ·split at h
  ·rename_i ks rs w' ks' ys bb hk
   obtain rfl:=of_decide_eq_true hk
   cases h
   refine⟨by simp[O.len],rfl,rfl,rfl,by simp,by simp,fun hx hy r hr=>(List.mem_append.1 hr).elim (hx r) (hy r),rfl,rfl,fun i j v hi hc=>?_⟩
   simp only[O.cell,O.len]at hc ⊢
   split at hc
   ·simp only[Option.some.injEq]at hc ⊢
    by_cases h:i<rs.length
    ·exact .inl ⟨h,by rw[<-hc,(hg rs ys [] i).1 h]⟩
    ·exact .inr ⟨by omega,by rw[<-hc,(hg rs ys [] i).2 (by omega)]⟩
   ·cases hc
  ·cases h
 ·split at h
  ·rename_i m rs w' m' ys bb hk
   obtain rfl:=Nat.eq_of_beq_eq_true hk
   cases h
   refine⟨by simp[O.len],rfl,rfl,rfl,by simp,by simp,fun hx hy r hr=>(List.mem_append.1 hr).elim (hx r) (hy r),rfl,rfl,fun i j v hi hc=>?_⟩
   simp only[O.cell,O.len]at hc ⊢
   by_cases h:i<rs.length
   ·rw[List.getElem?_append_left h]at hc;exact .inl ⟨h,hc⟩
   ·rw[List.getElem?_append_right (by omega)]at hc;exact .inr ⟨by omega,hc⟩
  ·cases h
 ·cases h
theorem OR.grown{ρ:Ren}{o:O}(h1:o≠.gone)(h2:o≠.rsv)(hwf:o.wf){us:List Value}{z:Array Value}{m cp:Nat}(e:TypeId)(hm:o.wid=m)(hl:us.length=o.len*m)(hcp:o.len<=cp)(hmax:cp<=maxLen)(hz:z.size=m)
  (hc:∀ k j v,k<o.len->j<m->o.cell k j=some v->∃ u,us[k*m+j]?=some u/\VR ρ v u) (w:World) :
  OR ρ o { blk:=w.heap.size,base:=0,m:=m,n:=o.len,cp:=cp,ph:=false } (w.drew.alloc (.cells (us.toArray++Builtin.zeroCells z (cp-o.len)) e)) where
 alive:=h1
 nrsv:=h2
 wf:=hwf
 n:=rfl
 ph0:=fun e=>by cases e
 lt:=fun _=>by simp
 m:=fun _=>hm.symm
 cp:=fun _=>hcp
 cell:=fun _ k j v hk hj hv=>by
  rw[hm]at hj
  obtain⟨u,hu,hvu⟩:=hc k j v hk hj hv
  refine⟨u,?_,hvu⟩
  dsimp only
  rw[Nat.zero_add]
  have:=World.cell?_alloc_new w.drew (us.toArray++Builtin.zeroCells z (cp-o.len)) e (k*m+j)
  have hs:w.drew.heap.size=w.heap.size:=rfl
  rw[hs]at this
  rw[this]
  have hlt:=(List.getElem?_eq_some_iff.1 hu).1
  rw[Array.getElem?_append_left (by simpa using hlt)]
  simpa using hu
 own:=fun _ _=>⟨rfl,hmax,_,e,heap_alloc_new w.drew _,by
  simp only[Array.size_append,List.size_toArray,size_zeroCells,hz,hl]
  rw[<-Nat.add_mul]
  congr 1
  omega⟩
theorem lK{B:Nat}{w:World}(hB:B<=w.heap.size)(o:Obj):RowKit.Below B w (w.drew.alloc o):=
 ⟨rfl,rfl,rfl,by simp,fun k hk=>heap_alloc_old w.drew o (by show k<w.heap.size;omega)⟩
theorem lJ(w:World)(o:Obj):KeepsOthers w (w.drew.alloc o):=
 ⟨by simp,fun k ob hk _=>(heap_alloc_old w.drew o (Array.getElem?_eq_some_iff.1 hk).1).trans hk⟩
def zi(E:Env)(P:Program)(B:Nat)(ρ:Ren)(hp:List O)(w:World)(old:Option Nat)(ob:O)(s:Sem Value):Prop:=
 ∃ u w' r,s.run P w=.ok u w'/\RowKit.Below B w w'/\KeepsOthers w w'/\HR E.G B (ρ.add hp.length r) (killO hp old++[ob]) w'/\ρ.le (ρ.add hp.length r)/\VR (ρ.add hp.length r) (.sl hp.length 0 ob.len none) u
theorem gu(hp:List O)(old:Option Nat):(killO hp old).length=hp.length:=by cases old<;>simp[killO]
theorem HR.killO(hh:HR G B ρ hp w){old:Option Nat}(h:∀ b,old=some b->b<ax):HR G B ρ (Ab.killO hp old) w:=by
 cases old with
 |none=>exact hh
 |some b=>exact hh.kill (h b rfl)
theorem GY(hh:HR E.G B ρ hp w){old:Option Nat}(hold:∀ b,old=some b->b<ax){ob:O}(h1:ob≠.gone)(h2:ob≠.rsv)(hwf:ob.wf)(h0:ob.len=0)(hsm:hp.length+1<ax){s:Sem Value}(hs:s.run P w=.ok (.slice none 0 0) w):zi E P B ρ hp w old ob s:=by
 have hk:=hh.killO hold
 obtain⟨h3,h4⟩:=hk.extend2 (w':=w) (r:={ blk:=0,base:=0,m:=0,n:=0,cp:=0,ph:=true }) (o:=ob) (Nat.le_refl _) (fun _ _ _ _ _=>rfl)
  ⟨h1,h2,hwf,h0.symm,fun _=>rfl,fun e=>(by cases e),fun e=>(by cases e),fun e=>(by cases e),fun e=>(by cases e),fun _ e=>(by cases e)⟩ (fun _ e=>(by cases e)) (fun e=>(by cases e)) (by rw[gu];exact hsm)
 rw[gu]at h3 h4
 refine⟨_,w,_,hs,⟨rfl,rfl,rfl,Nat.le_refl _,fun _ _=>rfl⟩,KeepsOthers.refl w,h3,h4,_,Ren.add_same _ _ _,by simp[h0],fun _=>⟨h0,rfl⟩,fun e=>(by cases e)⟩
theorem ET(hh:HR E.G B ρ hp w)(hB:B<=w.heap.size){old:Option Nat}(hold:∀ b,old=some b->b<ax){ob:O}(h1:ob≠.gone)(h2:ob≠.rsv)(hwf:ob.wf)(_hown:ob.own=true)(hsm:hp.length+1<ax){us:List Value}{z:Array Value}{m oc:Nat}(e:TypeId)
  (hm:ob.wid=m) (hl:us.length=ob.len*m) (hmax:ob.len<=maxLen) (hz:z.size=m)
  (hc:∀ k j v,k<ob.len->j<m->ob.cell k j=some v->∃ u,us[k*m+j]?=some u/\VR ρ v u) {s:Sem Value}
  (hs:s.run P w=.ok (.slice (some ⟨w.heap.size,0,none⟩) ob.len (grownCap w ob.len oc e)) (w.drew.alloc (.cells (us.toArray++Builtin.zeroCells z (grownCap w ob.len oc e-ob.len)) e))):zi E P B ρ hp w old ob s:=by
 have hk:=hh.killO hold
 have hfree:ρ hp.length=none:=hh.free _ (Nat.le_refl _) (by omega)
 have hge:=grownCap_ge w ob.len oc e
 have hcm:=grownCap_le_maxLen w ob.len oc e hmax
 have hOR:=OR.grown (ρ:=ρ.add hp.length { blk:=w.heap.size,base:=0,m:=m,n:=ob.len,cp:=grownCap w ob.len oc e,ph:=false }) h1 h2 hwf e hm hl hge hcm hz (fun k j v hk hj hv=>let ⟨u,hu,hvu⟩:=hc k j v hk hj hv;⟨u,hu,VR.mono (Ren.le_add hfree _) _ _ hvu⟩) w
 obtain⟨h3,h4⟩:=hk.extend2 (o:=ob) (r:={ blk:=w.heap.size,base:=0,m:=m,n:=ob.len,cp:=grownCap w ob.len oc e,ph:=false }) (w':=w.drew.alloc (.cells (us.toArray++Builtin.zeroCells z (grownCap w ob.len oc e-ob.len)) e)) (by simp)
  (fun b x hx hal hp0=>heap_alloc_old w.drew _ ((hk.blocks b x hx hal).lt hp0)) (by rw[gu];exact hOR) (fun _ _=>hB) (fun _ b x hx hal hp0=>Nat.ne_of_lt ((hk.blocks b x hx hal).lt hp0)) (by rw[gu];exact hsm)
 rw[gu]at h3 h4
 exact⟨_,_,_,hs,lK hB _,lJ w _,h3,h4,_,Ren.add_same _ _ _,by simp,fun e=>(by cases e),fun _=>⟨by simpa using hge,⟨w.heap.size,0,none⟩,by simp,fun _=>by simp⟩⟩
theorem Hi(hh:HR E.G B ρ hp w)(hB:B<=w.heap.size){kd:IntKind}{n:Nat}(e:TypeId)(hn:n<=maxLen)(hsm:hp.length+1<ax){s:Sem Value}
  (hs:s.run P w=.ok (.slice (some ⟨w.heap.size,0,none⟩) n n) (w.alloc (.cells (List.replicate n (Value.int kd 0)).toArray e))):zi E P B ρ hp w none (.ints true kd (List.replicate n 0)) s:=by
 have hfree:ρ hp.length=none:=hh.free _ (Nat.le_refl _) (by omega)
 have hOR:OR (ρ.add hp.length { blk:=w.heap.size,base:=0,m:=1,n:=n,cp:=n,ph:=false }) (.ints true kd (List.replicate n 0)) { blk:=w.heap.size,base:=0,m:=1,n:=n,cp:=n,ph:=false } (w.alloc (.cells (List.replicate n (Value.int kd 0)).toArray e)):=
  {
   alive:=(by simp),nrsv:=(by simp),wf:=trivial,n:=(by simp[O.len]),ph0:=fun e=>(by cases e),lt:=fun _=>(by simp),m:=fun _=>rfl,cp:=fun _=>Nat.le_refl _
   cell:=fun _ k j v hk hj hv=>by
    simp only[O.len,List.length_replicate]at hk
    simp only[O.wid]at hj
    obtain rfl:j=0:=by omega
    simp only[O.cell,Option.some.injEq]at hv
    subst hv
    refine⟨.int kd 0,?_,?_⟩
    ·have:=World.cell?_alloc_new w (List.replicate n (Value.int kd 0)).toArray e k
     simp only[Nat.zero_add,Nat.mul_one,Nat.add_zero]
     rw[this]
     simp[hk]
    ·simp[VR,List.getD,hk]
   own:=fun _ _=>⟨rfl,hn,_,e,heap_alloc_new w _,by simp⟩ }
 obtain⟨h3,h4⟩:=hh.extend2 (o:=.ints true kd (List.replicate n 0)) (w':=w.alloc (.cells (List.replicate n (Value.int kd 0)).toArray e)) (by simp)
  (fun b x hx hal hp0=>heap_alloc_old w _ ((hh.blocks b x hx hal).lt hp0)) hOR (fun _ _=>hB) (fun _ b x hx hal hp0=>Nat.ne_of_lt ((hh.blocks b x hx hal).lt hp0)) hsm
 refine⟨_,_,_,hs,⟨rfl,rfl,rfl,by simp,fun k hk=>heap_alloc_old w _ (by omega)⟩,⟨by simp,fun k ob hk _=>(heap_alloc_old w _ (Array.getElem?_eq_some_iff.1 hk).1).trans hk⟩,h3,h4,_,Ren.add_same _ _ _,by simp[O.len],fun e=>(by cases e),fun _=>⟨by simp[O.len],⟨w.heap.size,0,none⟩,by simp[O.len],fun _=>by simp⟩⟩
theorem BD{kd:IntKind}{z:Value}(hz:∀ ρ,VRL ρ [V.int kd 0] z.cells.toList)(n:Nat):madeCells z.cells n=(List.replicate n (Value.int kd 0)).toArray:=by
 obtain⟨u,r,h1,h2,h3⟩:=hz (fun _=>none)
 cases h3
 simp only[VR]at h2
 subst h2
 have hz':z.cells=#[Value.int kd 0]:=by apply Array.toList_inj.1;rw[h1]
 rw[hz']
 unfold madeCells
 apply Array.ext
 ·simp
 ·intro i h1 h2
  simp[Nat.mod_one]
theorem Lo(hE:E.Ok P)(hh:HR E.G B ρ hp w)(hB:B<=w.heap.size){t:TypeId}{sv xv:V}{s x:Value}(hsv:VR ρ sv s)(hxv:VR ρ xv x){old:Option Nat}{c:Bool}{ob:O}(h:appX E hp t sv xv=.app old c ob)(hc:c=true)(hsm:hp.length+1<ax)(ty:TypeId) :
  zi E P B ρ hp w old ob (Builtin.append_ #[t,t] ty #[s,x]):=by
 unfold appX at h
 split at h
 ·rename_i T hT
  have hu:=(hE.ty t T hT).und
  split at h
  ·rename_i e hk
   rw[hk]at hu
   dsimp only at hu
   split at h
   ·rename_i Te hTe
    obtain⟨i,z,hi,hisz,hiby,hz,hzero⟩:=(hE.ty e Te hTe).info
    split at h
    ·rename_i b2 k2 len2 cap2
     obtain⟨r2,hr2,hkl2,hph2,hnp2⟩:=hxv
     split at h
     ·rename_i hb
      simp only[Bool.and_eq_true]at hb
      obtain⟨⟨⟨hrow2,hb2⟩,hb3⟩,hb4⟩:=hb
      have hb2:=Nat.eq_of_beq_eq_true hb2
      have hsz1:=Nat.le_of_ble_eq_true hb3
      have hby1:=Nat.le_of_ble_eq_true hb4
      obtain⟨ha2,hn2⟩:=O.rows_alive hrow2
      have hob2:=hh.hv.blocks b2 r2 hr2 ha2 hn2
      have hlen2:=hob2.n
      -- what is appended
      have hzs:z.cells.size=Te.sz:=by
       have:=(hzero ρ).length
       rw[(hE.ty e Te hTe).zs]at this
       simpa using this
      have hx0:len2=0->∃ b c,x=.slice b 0 c:=by
       intro h0
       subst h0
       cases hp2:r2.ph with
       |true=>exact⟨none,0,(hph2 hp2).2⟩
       |false=>obtain⟨ad,e,_⟩:=(hnp2 hp2).2;exact⟨_,_,e⟩
      have hsrc:len2≠0->∃ (ad:Addr) (c:Nat) (news:List Value),x=.slice (some ad) len2 c/\news.length=len2*Te.sz/\(∀ j u,news[j]?=some u->w.cell? (ad.add j)=some u)/\(∀ u∈news,u.oneCell'=true) /\
        ∀ k' j v,k'<len2->j<Te.sz->(getO E.G hp b2).cell (k2+k') j=some v->∃ u,news[k'*Te.sz+j]?=some u/\VR ρ v u:=by
       intro h0
       have hp2:r2.ph=false:=by
        cases hp2:r2.ph with
        |true=>exact absurd (hph2 hp2).1 h0
        |false=>rfl
       obtain⟨hle,ad,hx,had⟩:=hnp2 hp2
       have hm:=hob2.m hp2
       obtain⟨us,h1,h2,h3,h4⟩:=yq hh.hv hr2 hp2 hrow2 hkl2
       have hms:r2.m=Te.sz:=by omega
       rw[hms]at h1 h4
       refine⟨ad,_,us,hx,h1,fun j u hu=>?_,h3,h4⟩
       rw[had (by omega),Addr.add_lit]
       exact h2 j u hu
      have hmaxb:∀ n,n*Te.by_<=140737488355328->n<=140737488355328:=fun n hn=>Nat.le_trans (Nat.le_mul_of_pos_right _ hby1) hn
      obtain⟨w1,w2,w3,w4,w5,w6⟩:=xy (ww:=true) (k:=k2) (n:=len2) hrow2 (by omega)
      obtain⟨v1,v2,v3,v4,v5,v6⟩:=xy (ww:=false) (k:=k2) (n:=len2) hrow2 (by omega)
      -- onto nothing
      have onto:∀ (old:Option Nat) (ob:O),(∀ b,old=some b->b<ax)->ob≠.gone->ob≠.rsv->ob.wf->ob.own=true->ob.len=len2->ob.wid=Te.sz->len2*Te.by_<=140737488355328 ->
        (∀ k j v,k<len2->j<Te.sz->ob.cell k j=some v->(getO E.G hp b2).cell (k2+k) j=some v)->s=.slice none 0 0->zi E P B ρ hp w old ob (Builtin.append_ #[t,t] ty #[s,x]):=by
       intro old ob ho1 ho2 ho3 ho4 ho5 ho6 ho7 hbb hcl hs
       subst hs
       by_cases h0:len2=0
       ·obtain⟨bb,cc,rfl⟩:=hx0 h0
        exact GY hh ho1 ho2 ho3 ho4 (by omega) hsm (gJ (P:=P) (w:=w) t ty e i hu hi none 0 0 (Nat.le_refl _) bb cc)
       ·obtain⟨ad,cc,news,rfl,n1,n2,n3,n4⟩:=hsrc h0
        have hfit:=hmaxb _ hbb
        have hrun:=run_append_nil (P:=P) w t ty e i z hu hi hz ad len2 cc news (by rw[hisz];exact n1) n2 (by omega) (by omega) (by rw[hiby];omega)
        rw[<-ho6]at hrun
        exact ET hh hB ho1 ho2 ho3 ho4 ho5 hsm e ho7 (by rw[ho6];exact n1) (by rw[ho6];simp only[maxLen];omega) hzs (fun k j v hk hj hv=>n4 k j v (by omega) hj (hcl k j v (by omega) hj hv)) (by rw[ho6]at hrun ⊢;exact hrun)
      split at h
      ·cases h
       have hc:=of_decide_eq_true hc
       exact onto _ _ (by simp) (O.rows_alive w4).1 (O.rows_alive w4).2 (w5 hob2.wf) w3 w1 (by rw[w2];exact hb2.symm) hc (fun k j v hk hj hv=>w6 k j v hk hv) hsv
      ·rename_i b len
       obtain⟨r,hr,hkl,hph,hnp⟩:=hsv
       split at h
       ·rename_i ob' hgb hown hcat
        cases h
        simp only[Bool.and_eq_true,decide_eq_true_eq]at hc
        obtain⟨⟨hc1,hc2⟩,hc3⟩:=hc
        obtain⟨c1,c2,c3,c4,c5,c6,c7,c8,c9,c10⟩:=FL hcat
        have hgb:b<ax:=by
         rcases Nat.lt_or_ge b ax with h|h
         ·exact h
         ·rw[Nat.ble_eq_true_of_le h]at hgb;cases hgb
        obtain⟨ha,hn⟩:=O.rows_alive c8
        have hob:=hh.blocks b r hr ha
        have hwid:ob.wid=Te.sz:=by rw[c2,<-c3,v2];exact hb2.symm
        have hlen:ob.len=len+len2:=by rw[c1,v1,<-hc1]
        have hwf:ob.wf:=c7 hob.wf (v5 hob2.wf)
        have holdb:∀ b',some b=some b'->b'<ax:=fun b' e=>by cases e;exact hgb
        cases hp0:r.ph with
        |true=>
         obtain⟨e0,hs⟩:=hph hp0
         exact onto _ _ holdb c5 c6 hwf c4 (by omega) hwid (by rw[e0,Nat.zero_add]at hc2;exact hc2) (fun k j v hk hj hv=>by
          rcases c10 k j v (by omega) hv with⟨h1,_⟩|⟨_,h2⟩
          ·omega
          ·rw[<-hc1,e0,Nat.sub_zero]at h2
           exact v6 k j v hk h2) hs
        |false=>
         obtain⟨hle,ad,rfl,had⟩:=hnp hp0
         simp only[Option.getD_none,Nat.sub_zero]at hle had
         obtain⟨hb0,hcpm,cs,e0,hheap,hcs⟩:=hob.own hown hp0
         have hm:=hob.m hp0
         have hmsz:r.m=Te.sz:=by rw[hm,<-c3,v2];exact hb2.symm
         have hrn:=hob.n
         obtain⟨olds,o1,o2,o3,o4⟩:=yq (n:=len) (k:=0) hh.hv hr hp0 c8 (by omega)
         rw[hmsz]at o1 o4
         have hadr:len≠0\/r.cp≠0->ad=⟨r.blk,0,none⟩:=fun h=>by rw[had (by omega),hb0];simp
         have oldat:∀ j u,olds[j]?=some u->w.cell? (ad.add j)=some u:=fun j u hu=>by
          have hlt:=(List.getElem?_eq_some_iff.1 hu).1
          have hl0:len≠0:=by intro e;rw[e]at o1;simp at o1;rw[o1]at hlt;simp at hlt
          rw[hadr (.inl hl0),Addr.add_lit]
          have:=o2 j u hu
          rw[hb0]at this
          simpa using this
         -- the block stays where it is
         have stay:∀ (w':World) (s:Sem Value),s.run P w=.ok (.slice (some ad) ob.len r.cp) w'->RowKit.Below B w w'->KeepsOthers w w'->(∀ k,k≠r.blk->w'.heap[k]?=w.heap[k]?)->ob.len<=r.cp ->
           (∀ k j v,k<ob.len->j<r.m->ob.cell k j=some v->∃ u,w'.cell? ⟨r.blk,k*r.m+j,none⟩=some u/\VR ρ v u)->(∃ cs' e',w'.heap[r.blk]?=some (.cells cs' e' (0,0))/\cs'.size=r.cp*r.m)->zi E P B ρ hp w (some b) ob s:=by
          intro w' s hrun hbel hko hother hlecp hcells hown'
          have hk:=hh.kill hgb
          have hfree:ρ hp.length=none:=hh.free _ (Nat.le_refl _) (by omega)
          have hap:∀ b' x,ρ b'=some x->getO E.G (hp.set b .gone) b'≠.gone->x.ph=false->x.blk≠r.blk:=by
           intro b' x hx hal hxp
           have hne:b'≠b:=by
            rintro rfl
            apply hal
            rw[aB hgb]
            by_cases h:b'<hp.length
            ·simp[List.getD,h]
            ·simp[List.getD,List.getElem?_eq_none (show (hp.set b' O.gone).length<=b' by simp;omega)]
           have hal':getO E.G hp b'≠.gone:=by
            by_cases hg:b'<ax
            ·rw[aB hg]at hal ⊢
             simpa[List.getD,List.getElem?_set,Ne.symm hne]using hal
            ·rw[aA (by omega)]at hal ⊢;exact hal
           exact fun e=>hh.apart b b' r x hr hx hal' hp0 hxp hown (Ne.symm hne) e.symm
          obtain⟨h3,h4⟩:=hk.extend2 (o:=ob) (w':=w') (r:={ r with n:=ob.len }) hbel.size (fun b' x hx hal hxp=>hother _ (hap b' x hx hal hxp))
           ⟨c5,c6,hwf,rfl,fun e=>(by rw[hp0]at e;cases e),fun _=>Nat.lt_of_lt_of_le (hob.lt hp0) hbel.size,fun _=>by rw[hwid];exact hmsz,fun _=>hlecp,fun _ k j v hk hj hv=>by
            obtain⟨u,hu,hvu⟩:=hcells k j v hk (by omega) hv
            refine⟨u,?_,VR.mono (Ren.le_add (by simpa using hfree) _) _ _ hvu⟩
            dsimp only
            rw[hb0,Nat.zero_add]
            exact hu,fun _ _=>⟨hb0,hcpm,hown'⟩⟩
           (fun _ _=>hh.base b r hr hown hp0) (fun _=>hap) (by simpa using hsm)
          rw[List.length_set]at h3 h4
          refine⟨_,w',_,hrun,hbel,hko,h3,h4,_,Ren.add_same _ _ _,by simp,fun e=>(by rw[hp0]at e;cases e),fun _=>⟨by simpa using hlecp,ad,by simp,fun hne=>?_⟩⟩
          rw[hadr (.inr (by simpa using hne)),hb0]
          simp
         by_cases h0:len2=0
         ·obtain⟨bb,cc,rfl⟩:=hx0 h0
          have hl0:ob.len=len:=by omega
          refine stay w _ (by rw[hl0];exact gJ (P:=P) (w:=w) t ty e i hu hi (some ad) len r.cp hle bb cc) (RowKit.Below.refl _ _) (KeepsOthers.refl w) (fun _ _=>rfl) (by omega) (fun k j v hk hj hv=>?_) ⟨cs,e0,hheap,hcs⟩
          rcases c10 k j v hk hv with⟨h1,h2⟩|⟨h1,_⟩
          ·obtain⟨u,hu,hvu⟩:=hob.cell hp0 k j v h1 (by omega) h2
           rw[hb0,Nat.zero_add]at hu
           exact⟨u,hu,hvu⟩
          ·omega
         ·obtain⟨ad2,cc,news,rfl,n1,n2,n3,n4⟩:=hsrc h0
          have hfit:=hmaxb _ hc2
          have hcont:∀ k j v,k<ob.len->j<Te.sz->ob.cell k j=some v->∃ u,(olds++news)[k*Te.sz+j]?=some u/\VR ρ v u:=by
           intro k j v hk hj hv
           rcases c10 k j v hk hv with⟨h1,h2⟩|⟨h1,h2⟩
           ·obtain⟨u,hu,hvu⟩:=o4 k j v (by omega) hj (by rw[Nat.zero_add];exact h2)
            exact⟨u,by rw[List.getElem?_append_left (List.getElem?_eq_some_iff.1 hu).1];exact hu,hvu⟩
           ·rw[<-hc1]at h1 h2
            obtain⟨u,hu,hvu⟩:=n4 (k-len) j v (by omega) hj (v6 _ _ _ (by omega) h2)
            refine⟨u,?_,hvu⟩
            have hsp:k*Te.sz+j=len*Te.sz+((k-len)*Te.sz+j):=by
             have:k=len+(k-len):=by omega
             rw[this,Nat.add_mul]
             simp only[Nat.add_sub_cancel_left]
             omega
            rw[hsp,<-o1,List.getElem?_append_right (by omega),Nat.add_sub_cancel_left]
            exact hu
          by_cases hroom:len+len2<=r.cp
          ·have hadr2:=hadr (.inr (by omega))
           subst hadr2
           have hfit2:len*Te.sz+news.length<=cs.size:=by rw[n1,hcs,<-Nat.add_mul,hmsz];exact Nat.mul_le_mul_right _ hroom
           have hrun:=sg (P:=P) t ty e i hu hi r.blk len r.cp cs e0 hheap ad2 len2 cc news (by rw[hisz];exact n1) n2 n3 hroom (by rw[hisz];exact hfit2)
           rw[<-hlen,hisz]at hrun
           have hnewrow:=setRow_heap w r.blk cs (cs.toList.take (len*Te.sz)++news++cs.toList.drop (len*Te.sz+news.length)).toArray e0 (0,0) hheap
           have htake:cs.toList.take (len*Te.sz)=olds:=by
            apply List.ext_getElem?
            intro j
            by_cases hj:j<len*Te.sz
            ·rw[List.getElem?_take,if_pos hj]
             have hlt:j<olds.length:=by omega
             have h1:=o2 j olds[j] (List.getElem?_eq_getElem hlt)
             rw[hb0,Nat.zero_add,Nat.zero_mul,Nat.zero_add,cell_of_row w r.blk j cs e0 (0,0) hheap]at h1
             rw[List.getElem?_eq_getElem hlt]
             simpa using h1
            ·rw[List.getElem?_take,if_neg hj,List.getElem?_eq_none (by omega)]
           refine stay _ _ hrun ?_ ?_ (fun k hk=>setRow_other w r.blk k _ hk) (by omega) (fun k j v hk hj hv=>?_) ⟨_,e0,hnewrow,?_⟩
           ·exact⟨rfl,rfl,rfl,by simp,fun k hk=>setRow_other w r.blk k _ (by have:=hh.base b r hr hown hp0;omega)⟩
           ·refine⟨by simp,fun k obk hk hobk=>?_⟩
            by_cases e1:k=r.blk
            ·subst e1;rw[hheap]at hk;cases hk;simp[Obj.isCells]at hobk
            ·exact(setRow_other w r.blk k _ e1).trans hk
           ·rw[hmsz]at hj ⊢
            obtain⟨u,hu,hvu⟩:=hcont k j v hk hj hv
            refine⟨u,?_,hvu⟩
            rw[cell_of_row _ r.blk _ _ e0 (0,0) hnewrow,htake]
            rw[List.getElem?_toArray,List.getElem?_append_left (List.getElem?_eq_some_iff.1 hu).1]
            exact hu
           ·simp only[List.size_toArray,List.length_append,List.length_take,List.length_drop,Array.length_toList]
            omega
          ·have hrun:=run_append_grow (P:=P) w t ty e i z hu hi hz ad len r.cp olds (by rw[hisz];exact o1) oldat ad2 len2 cc news (by rw[hisz];exact n1) n2 (by omega) (by omega) (growslice_fits (by omega) (by rw[hiby];exact hc2))
           have hrun':(Builtin.append_ #[t,t] ty #[.slice (some ad) len r.cp,.slice (some ad2) len2 cc]).run P w=.ok (.slice (some ⟨w.heap.size,0,none⟩) ob.len (grownCap w ob.len r.cp e)) (w.drew.alloc (.cells ((olds++news).toArray++Builtin.zeroCells z.cells (grownCap w ob.len r.cp e-ob.len)) e)):=by
            rw[hlen,hrun]
            simp
           exact ET hh hB holdb c5 c6 hwf c4 hsm e hwid (by rw[List.length_append,o1,n1,hlen,Nat.add_mul]) (by rw[hlen];simp only[maxLen];omega) hzs hcont hrun'
       ·cases h
      ·cases h
     ·cases h
    ·cases h
   ·cases h
  ·cases h
 ·cases h
theorem xg(hE:E.Ok P)(hh:HR E.G B ρ hp w)(ht:TR ρ tm a)(hB:B<=w.heap.size){o:Oper}{old:Option Nat}{c:Bool}{ob:O}(h:evOp E tm hp o.op=.app old c ob)(hc:c=true)(hsm:hp.length+1<ax) :
  ∃ u w' r,(execOp a.eval o).run P w=.ok (.value u) w'/\RowKit.Below B w w'/\KeepsOthers w w'/\HR E.G B (ρ.add hp.length r) (killO hp old++[ob]) w'/\ρ.le (ρ.add hp.length r)/\VR (ρ.add hp.length r) (.sl hp.length 0 ob.len none) u:=by
 have hev:=fun x=>dz (w:=w) ht hh.hv x
 obtain⟨dst,op,ty,pos,after,guard⟩:=o
 dsimp only at h
 unfold evOp at h
 split at h
 case h_1|h_2=>cases h
 case h_3=>unfold oD at h;(repeat' split at h)<;>cases h
 case h_10=>
  (repeat' split at h)<;>first|cases h|exact(tF h rfl).elim|skip
  ·unfold shf at h;split at h<;>cases h
  ·unfold bin at h;split at h<;>cases h
 case h_16 cl=>
  split at h
  ·cases h
  ·(repeat' split at h)<;>cases h
  ·rename_i hcal
   split at h
   ·rename_i s x t t' hx ht'
    split at h
    ·rename_i htt
     obtain rfl:=Nat.eq_of_beq_eq_true htt
     have hargs:cl.args=#[s,x]:=by cases cl with|mk c as ts=>exact Array.toList_inj.1 hx
     have htys:cl.argTypes=#[t,t]:=by cases cl with|mk c as ts=>exact Array.toList_inj.1 ht'
     obtain⟨u,w',r,hrun,rest⟩:=Lo (P:=P) hE hh hB (hev s) (hev x) h hc hsm ty
     refine⟨u,w',r,?_,rest⟩
     simp[execOp,resolve,hcal,hargs,htys,invoke,builtin,hrun]
    ·cases h
   ·cases h
  all_goals ((repeat' split at h)<;>first|cases h|exact(pT h rfl).elim)
 case h_24 t l c=>
  split at h
  ·rename_i T hT
   split at h
   ·rename_i e hk
    split at h
    ·rename_i Te hTe
     split at h
     ·rename_i kd k1 n k2 m hz0 hl hc2
      cases h
      simp only[Bool.and_eq_true,decide_eq_true_eq]at hc
      obtain⟨⟨rfl,hby⟩,hn⟩:=hc
      have h1:=hev l
      have h2:=hev c
      rw[hl]at h1
      rw[hc2]at h2
      simp only[VR]at h1 h2
      have hu:=(hE.ty t T hT).und
      rw[hk]at hu
      dsimp only at hu
      obtain⟨i,z,hi,hisz,hiby,hz,hzero⟩:=(hE.ty e Te hTe).info
      have hzs:=(hE.ty e Te hTe).zs
      rw[hz0]at hzs hzero
      have hs1:i.size=1:=by rw[hisz,<-hzs];rfl
      have hn0:(n:Int)<=140737488355328:=by omega
      have hby0:(i.bytes:Int)*(n:Int)<=140737488355328:=by
       have h:((n*Te.by_:Nat):Int)<=140737488355328:=by omega
       rw[Int.natCast_mul]at h
       rw[hiby,Int.mul_comm];exact h
      have hrun:=run_make (P:=P) w t e i z hu hi hz k1 k2 (Int.ofNat n) (Int.ofNat n) (Int.natCast_nonneg n) (Int.le_refl _) (by show (i.bytes:Int)*(n:Int)<=_;omega) (by show (n:Int)<=_;omega)
      rw[hs1,Nat.mul_one,show (Int.ofNat n).toNat=n from rfl,BD hzero]at hrun
      obtain⟨u,w',r,hr,rest⟩:=Hi (P:=P) hh hB (kd:=kd) (n:=n) e (by simp only[maxLen];omega) hsm (s:=Instr.makeSlice t (.int k1 (Int.ofNat n)) (.int k2 (Int.ofNat n))) hrun
      exact⟨u,w',r,by simp only[execOp,h1,h2,hr,Sem.run_bind,Result.andThen_ok];rfl,rest⟩
     ·cases h
    ·cases h
   ·cases h
  ·cases h
 all_goals ((repeat' split at h)<;>first|cases h|exact(Ds h rfl).elim|exact(sV h rfl).elim|exact(sX h rfl).elim|exact(jc h rfl).elim|exact(Ex h rfl).elim)
end
end Go.Ab
