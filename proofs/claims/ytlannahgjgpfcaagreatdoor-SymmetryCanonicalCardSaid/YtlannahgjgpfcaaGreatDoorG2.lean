/- An evaluator of the model on values that are partly known, and its soundness (text G2); no condition. -/
import Derived.Test.YtlannahgjgpfcaaGreatDoorG1
import Derived.RangeFuncOwn
import Derived.RangeFuncCalls
import Derived.RangeFuncLeaves
namespace Go.Ab
abbrev Tm:=List (Nat×V)
inductive T where
 |ret (e:Exit) (tm:Tm) (hp:List O)
 |br (b:Bool) (x y:T)
 |need (b:Bool) (x:T)
 |loop (c:Code) (μ N:Nat) (tm:Tm) (hp:List O) (k:Exit->Tm->List O->T)
 |isnil (n:Nat) (f:Bool->T)
 |fail
abbrev Hd:=V->List V->List O->(V->List O->T)->T
def eY{α:Type}(n:Nat)(k:Nat->α):α:=
 match n with
 |0=>k 0
 |m+1=>k (m+1)
theorem fO{α:Type}(n:Nat)(k:Nat->α):eY n k=k n:=by cases n<;>rfl
def gd(v:V)(k:V->T):T:=
 match v with
 |.lit b=>k (.lit b)
 |.bool b=>k (.bool b)
 |.int q n=>k (.int q n)
 |.str x=>k (.str x)
 |.ptr b i j=>eY b fun b=>k (.ptr b i j)
 |.nilp=>k .nilp
 |.sl b i n c=>eY b fun b=>k (.sl b i n c)
 |.nils=>k .nils
 |.fn f c=>k (.fn f c)
 |.nilf=>k .nilf
 |.yl l=>k (.yl l)
 |.agg l=>k (.agg l)
 |.tup l=>k (.tup l)
 |.nili=>k .nili
 |.when g w=>k (.when g w)
 |.junk=>k .junk
theorem cJ(v:V)(k:V->T):gd v k=k v:=by cases v<;>simp[gd,fO]
def gb:List V->(List V->T)->T
 |[],k=>k []
 |v::l,k=>gd v fun v=>gb l fun l=>k (v::l)
theorem dL(l:List V)(k:List V->T):gb l k=k l:=by
 induction l generalizing k with
 |nil=>rfl
 |cons v l ih=>simp[gb,cJ,ih]
def lj(v:V)(k:V->T):T:=
 match v with
 |.agg l=>gb l fun l=>k (.agg l)
 |.tup l=>gb l fun l=>k (.tup l)
 |.when g w=>gd w fun w=>k (.when g w)
 |v=>gd v k
theorem gv(v:V)(k:V->T):lj v k=k v:=by
 cases v<;>simp[lj,dL,cJ]
def yS(o:O)(k:O->T):T:=
 match o with
 |.cells w l=>gb l fun l=>k (.cells w l)
 |.ints w q zs=>k (.ints w q zs)
 |.rows w ks rs=>k (.rows w ks rs)
 |.vals w m rs=>k (.vals w m rs)
 |.gone=>k .gone
 |.rsv=>k .rsv
 |.lock w m n=>k (.lock w m n)
theorem ur(o:O)(k:O->T):yS o k=k o:=by cases o<;>simp[yS,dL]
def CI:List O->Nat->Nat
 |[],n=>n
 |_::l,n=>CI l (n+1)
def hlen(l:List O):Nat:=CI l 0
theorem xY:∀ (l:List O) (n:Nat),CI l n=l.length+n
 |[],n=>by simp[CI]
 |_::l,n=>by rw[CI,xY l (n+1),List.length_cons];omega
theorem eE(l:List O):hlen l=l.length:=by rw[hlen,xY];rfl
def appK:List O->O->(List O->T)->T
 |[],o,k=>yS o fun o=>k [o]
 |x::l,o,k=>appK l o fun r=>k (x::r)
theorem iO(l:List O)(o:O)(k:List O->T):appK l o k=k (l++[o]):=by
 induction l generalizing k with
 |nil=>simp[appK,ur]
 |cons x l ih=>simp[appK,ih]
def setK:List O->Nat->O->(List O->T)->T
 |[],_,_,k=>k []
 |_::l,0,o,k=>yS o fun o=>k (o::l)
 |x::l,i+1,o,k=>setK l i o fun r=>k (x::r)
theorem rf(l:List O)(i:Nat)(o:O)(k:List O->T):setK l i o k=k (l.set i o):=by
 induction l generalizing i k with
 |nil=>rfl
 |cons x l ih=>cases i<;>simp[setK,ur,ih]
def Mf(hp:List O)(old:Option Nat)(k:List O->T):T:=
 match old with
 |none=>k hp
 |some b=>setK hp b .gone k
theorem Hg(hp:List O)(old:Option Nat)(k:List O->T):Mf hp old k=k (killO hp old):=by
 cases old<;>simp[Mf,killO,rf]
def putV(N:Nat)(tm:Tm)(hp:List O)(d:Option Nat)(v:V)(k:Tm->List O->T):T:=
 match d with
 |none=>k tm hp
 |some d=>match Nat.blt d N with
  |true=>lj v fun v=>k ((d,v)::tm) hp
  |false=>.fail
def wB(hp:List O):Bool:=Nat.blt ((hlen hp)+1) ax
def opK(E:Env)(hd:Hd)(N:Nat)(o:Oper)(tm:Tm)(hp:List O)(k:Tm->List O->T):T:=
 match evOp E tm hp o.op with
 |.val none v=>putV N tm hp o.dst v k
 |.val (some c) v=>.need c (putV N tm hp o.dst v k)
 |.alloc ob mk=>match wB hp with
  |true=>appK hp ob fun hp'=>putV N tm hp' o.dst (mk (hlen hp)) k
  |false=>.fail
 |.store b ob=>setK hp b ob fun hp=>putV N tm hp o.dst .junk k
 |.call f args=>gd f fun f=>gb args fun args=>hd f args hp fun v hp=>putV N tm hp o.dst v k
 |.br b x y=>.br b (putV N tm hp o.dst x k) (putV N tm hp o.dst y k)
 |.app old c ob=>.need c (match wB hp with
  |true=>Mf hp old fun hp1=>appK hp1 ob fun hp'=>putV N tm hp' o.dst (.sl (hlen hp) 0 ob.len none) k
  |false=>.fail)
 |.isnil n neg=>.isnil n fun b=>putV N tm hp o.dst (.bool (b != neg)) k
 |.bad=>.fail
def iD(ops:List Oper)(j:Nat):Option Nat:=
 match ops[j]? with|some o=>o.dst|none=>none
def ko:Op->List Operand
 |.pick c _ _=>[c]
 |op=>op.operands.toList
def fP(g:Bool):List Operand->Tm->(Tm->T)->T
 |[],tm,k=>k tm
 |.tmp t::r,tm,k=>match look tm t with
  |.when g' v=>.need (!g||g') (gd v fun v=>fP g r ((t,v)::tm) k)
  |_=>fP g r tm k
 |_::r,tm,k=>fP g r tm k
mutual
def canon(E:Env)(hp:List O):V->List O->Option (V×List O)
 |.sl b k len _,acc=>match getO E.G hp b with
  |.ints _ kd zs=>some (.sl acc.length 0 len none,acc++[.ints false kd ((zs.drop k).take len)])
  |.rows _ ks rs=>some (.sl acc.length 0 len none,acc++[.rows false ks ((rs.drop k).take len)])
  |.vals _ m rs=>match rs.all plL with
   |true=>some (.sl acc.length 0 len none,acc++[.vals false m ((rs.drop k).take len)])
   |false=>none
  |_=>none
 |.fn f l,acc=>match dA E hp l acc with|some (l,acc)=>some (.fn f l,acc)|none=>none
 |.agg l,acc=>match dA E hp l acc with|some (l,acc)=>some (.agg l,acc)|none=>none
 |.lit b,acc=>some (.bool b,acc)
 |.bool b,acc=>some (.bool b,acc)
 |.int k n,acc=>some (.int k n,acc)
 |.str s,acc=>some (.str s,acc)
 |.nils,acc=>some (.nils,acc)
 |_,_=>none
def dA(E:Env)(hp:List O):List V->List O->Option (List V×List O)
 |[],acc=>some ([],acc)
 |v::l,acc=>match canon E hp v acc with
  |some (v,acc)=>match dA E hp l acc with
   |some (l,acc)=>some (v::l,acc)
   |none=>none
  |none=>none
end
mutual
def V.sls:V->List (Nat×Nat×Nat×Option Nat)
 |.sl b k len cap=>[(b,k,len,cap)]
 |.fn _ l=>slsL l
 |.agg l=>slsL l
 |_=>[]
def slsL:List V->List (Nat×Nat×Nat×Option Nat)
 |[]=>[]
 |v::l=>V.sls v++slsL l
end
def NX(sl:List (Nat×Nat×Nat×Option Nat))(b k len:Nat)(cap:Option Nat):Option V:=
 match k,cap,sl[b]? with
 |0,none,some (b',k',_,cap')=>some (.sl b' k' len cap')
 |_,_,_=>none
mutual
def V.shift(sl:List (Nat×Nat×Nat×Option Nat))(d0 d1:Nat):V->Option V
 |.sl b k len cap=>match Nat.ble d0 b&&Nat.blt b ax with|true=>some (.sl (b-d0+d1) k len cap)|false=>NX sl b k len cap
 |.lit b=>some (.lit b)
 |.bool b=>some (.bool b)
 |.int k n=>some (.int k n)
 |.str s=>some (.str s)
 |.nils=>some .nils
 |.agg l=>match tT sl d0 d1 l with|some l=>some (.agg l)|none=>none
 |.tup l=>match tT sl d0 d1 l with|some l=>some (.tup l)|none=>none
 |_=>none
def tT(sl:List (Nat×Nat×Nat×Option Nat))(d0 d1:Nat):List V->Option (List V)
 |[]=>some []
 |v::l=>match V.shift sl d0 d1 v with
  |some v=>match tT sl d0 d1 l with
   |some l=>some (v::l)
   |none=>none
  |none=>none
end
def O.isData(o:O):Bool:=o.data&&o.own
def appL:List O->List O->(List O->T)->T
 |hp,[],k=>k hp
 |hp,o::l,k=>appK hp o fun hp=>appL hp l k
theorem vl(l:List O)(hp:List O)(k:List O->T):appL hp l k=k (hp++l):=by
 induction l generalizing hp with
 |nil=>simp[appL]
 |cons x l ih=>simp[appL,iO,ih]
def dV(E:Env)(hp:List O)(f:V)(args:List V):Option (Bool×V):=
 match f with
 |.fn g caps=>match dA E hp (joinA g args caps) [] with
  |some (a,h)=>match E.pf (idF g) a h with
   |some (c,v,[])=>match Nat.blt (hlen h) ax&&Nat.blt ((hlen hp)+1) ax with
    |true=>match V.shift (slsL (joinA g args caps)) (hlen h) (hlen hp) v with|some v=>some (c,v)|none=>none
    |false=>none
   |_=>none
  |none=>none
 |_=>none
inductive GV where
 |yes|no|grd (g:Bool)|bad
def gval(v:V)(want:Bool):GV:=
 match v with
 |.lit b=>match b,want with
  |true,true=>.yes
  |false,false=>.yes
  |_,_=>.no
 |.bool b=>match want with
  |true=>.grd b
  |false=>.grd (!b)
 |.when g (.bool b)=>match want with
  |true=>.grd (g&&b)
  |false=>.grd (g&&!b)
 |.when g (.lit b)=>match b,want with
  |true,true=>.grd g
  |false,false=>.grd g
  |_,_=>.no
 |_=>.bad
def gcc:Bool->GV->GV
 |true,.grd g=>match g with
  |true=>.yes
  |false=>.no
 |_,x=>x
def qU(E:Env)(v:V)(want:Bool):GV:=gcc E.cc (gval v want)
def gno(tm:Tm)(d:Nat)(want:Bool):Tm:=
 match look tm d with
 |.bool _=>(d,.lit (!want))::tm
 |_=>tm
def Lu(E:Env)(tm:Tm)(hp:List O)(o:Oper):Option (Bool×Value):=
 match E.pn with
 |[]=>none
 |p::l=>match o.op with
  |.call c=>match evOp E tm hp (.call c) with
   |.call (.fn f []) args=>match Nat.ble BM f with
    |false=>match assoc (p::l) f with
     |some g=>g args
     |none=>none
    |true=>none
   |_=>none
  |_=>none
abbrev noX:Exit->Tm->List O->T:=fun _ _ _=>.fail
def cZ(E:Env)(hd:Hd)(N:Nat)(all:List Oper):List Oper->Tm->List O->(Tm->List O->T)->(Exit->Tm->List O->T)->T
 |[],tm,hp,k,_=>k tm hp
 |o::rest,tm,hp,k,kx=>
  match o.guard with
  |none=>match Lu E tm hp o with
   |some (b,v)=>.br b (kx (.panic [{ v:=v,recovered:=false }]) tm hp) (putV N tm hp o.dst (.tup []) fun tm hp=>cZ E hd N all rest tm hp k kx)
   |none=>opK E hd N o tm hp fun tm hp=>cZ E hd N all rest tm hp k kx
  |some (j,want)=>match iD all j with
   |none=>.fail
   |some d=>match qU E (look tm d) want with
    |.yes=>fP true (ko o.op) tm fun tm=>opK E hd N o tm hp fun tm hp=>cZ E hd N all rest tm hp k kx
    |.no=>putV N tm hp o.dst vno fun tm hp=>cZ E hd N all rest tm hp k kx
    |.grd b=>fP b (ko o.op) tm fun tm'=>match evOp E tm' hp o.op with
      |.val none v=>putV N tm hp o.dst (.when b v) fun tm hp=>cZ E hd N all rest tm hp k kx
      |.val (some c) v=>.need (!b||c) (putV N tm hp o.dst (.when b v) fun tm hp=>cZ E hd N all rest tm hp k kx)
      |.call f args=>gd f fun f=>gb args fun args=>match dV E hp f args with
       |some (c,v)=>.need (!b||c) (putV N tm hp o.dst (.when b v) fun tm hp=>cZ E hd N all rest tm hp k kx)
       |none=>.br b (opK E hd N o ((d,.lit want)::tm') hp fun tm hp=>cZ E hd N all rest tm hp k kx)
         (putV N (gno tm d want) hp o.dst vno fun tm hp=>cZ E hd N all rest tm hp k kx)
      |_=>.br b (opK E hd N o ((d,.lit want)::tm') hp fun tm hp=>cZ E hd N all rest tm hp k kx)
        (putV N (gno tm d want) hp o.dst vno fun tm hp=>cZ E hd N all rest tm hp k kx)
    |.bad=>.fail
def befs:List Oper->List Nat->List Nat
 |[],acc=>acc
 |o::r,acc=>befs r (acc++[o.after.toList.foldl (fun s e=>bif Region.binds .any e then s ||| 2^e.on ||| acc.getD e.on 0 else s) 0])
def ord(bf:List Nat)(i j:Nat):Bool:=Nat.testBit (bf.getD j 0) i
def tmpsOf:List Operand->List Nat
 |[]=>[]
 |.tmp t::r=>t::tmpsOf r
 |_::r=>tmpsOf r
def names(all:List Oper)(o:Oper):List Nat:=
 tmpsOf o.op.operands.toList++(match o.guard with|some (i,_)=>(match iD all i with|some d=>[d]|none=>[])|none=>[])
def conflict(all:List Oper)(x y:Oper):Bool:=
 (match x.dst with|some d=>(names all y).contains d||y.dst==some d|none=>false) ||
 (match y.dst with|some d=>(names all x).contains d|none=>false)
def loud:Op->Bool
 |.call c=>match c.callee with
  |.builtin .append=>true
  |.builtin _=>false
  |_=>true
 |.box _ _|.buildSlice _ _ _=>true
 |_=>false
def IM(all:List Oper)(bf:List Nat)(i j:Nat):Bool:=
 match all[i]?,all[j]? with
 |some x,some y=>(!(conflict all x y||(loud x.op&&loud y.op)))||ord bf i j
 |_,_=>true
def oF(bf:List Nat):Nat->Nat
 |0=>0
 |j+1=>bif (bf.getD j 0) &&& (2^j-1)==2^j-1 then oF bf j else j+1
def HF(all:List Oper)(bf:List Nat)(m:Nat):Bool:=
 ((List.range m).all fun j=>(List.range j).all fun i=>IM all bf i j) &&
 ((List.range all.length).all fun j=>match all[j]? with|some o=>o.after.toList.all (fun e=>!Region.binds .any e||Nat.blt e.on j)|none=>true) &&
 ((List.range all.length).all fun j=>Nat.blt j m||(bf.getD j 0) &&& (2^j-1)==2^j-1)
structure Rsv where
 id:Nat
 at_:Nat
 put:List V
def Bf(bf:List Nat)(id j:Nat)(l:List V)(rs:List Rsv):Bool:=
 (rs.all fun r=>!Nat.beq r.id id||(ord bf r.at_ j&&Nat.beq r.put.length l.length))&&rs.any fun r=>Nat.beq r.id id
def ow:List Oper->Nat
 |[]=>0
 |o::r=>match o.op with|.alloc _=>ow r+1|_=>ow r
def settle:List Rsv->List O->(List O->T)->T
 |[],hp,k=>k hp
 |r::rs,hp,k=>setK hp r.id (.cells true r.put) fun hp=>settle rs hp k
def opD(E:Env)(N:Nat)(bf:List Nat)(base nA:Nat)(o:Oper)(j:Nat)(tm:Tm)(hp:List O)(na:Nat)(rs:List Rsv)(k:Tm->List O->Nat->List Rsv->T):T:=
 match o.op with
 |.alloc t=>match assoc E.ty t,Nat.blt na nA with
  |some ty,true=>putV N tm hp o.dst (.ptr (base+na) 0 0) fun tm hp=>k tm hp (na+1) (rs++[{ id:=base+na,at_:=j,put:=ty.zero }])
  |_,_=>.fail
 |.store t a x=>match evA E tm a,o.dst with
  |.ptr b 0 0,none=>match assoc E.ty t with
   |some ty=>lj (evA E tm x) fun v=>match Nat.beq v.cells.length ty.sz&&Nat.ble 1 ty.sz&&v.cells.all V.one with
    |true=>match Bf bf b j v.cells rs with
     |true=>k tm hp na (rs++[{ id:=b,at_:=j,put:=v.cells }])
     |false=>.fail
    |false=>.fail
   |none=>.fail
  |_,_=>.fail
 |.call c=>match c.callee with
  |.builtin _=>match evOp E tm hp o.op with
   |.val none v=>putV N tm hp o.dst v fun tm hp=>k tm hp na rs
   |.val (some c) v=>.need c (putV N tm hp o.dst v fun tm hp=>k tm hp na rs)
   |.app none c ob=>.need c (match wB hp with
    |true=>appK hp ob fun hp'=>putV N tm hp' o.dst (.sl (hlen hp) 0 ob.len none) fun tm hp=>k tm hp na rs
    |false=>.fail)
   |_=>.fail
  |_=>match evOp E tm hp o.op with
   |.call f args=>gd f fun f=>gb args fun args=>match (match f with
     |.fn g caps=>match dA E hp (joinA g args caps) [] with
      |some (a,h)=>match E.pf (idF g) a h with
       |some (c,v,new)=>some (c,(hlen h),v,new,slsL (joinA g args caps))
       |none=>none
      |none=>none
     |_=>none) with
    |some (c,d0,v,new,sl)=>match V.shift sl d0 (hlen hp) v,new.all O.isData,Nat.blt ((hlen hp)+(hlen new)+1) ax&&Nat.blt (d0+(hlen new)) ax with
     |some v,true,true=>.need c (appL hp new fun hp=>putV N tm hp o.dst v fun tm hp=>k tm hp na rs)
     |_,_,_=>.fail
    |none=>.fail
   |_=>.fail
 |.box t x=>match evOp E tm hp (.box t x) with
  |.alloc ob mk=>match wB hp with
   |true=>appK hp ob fun hp'=>putV N tm hp' o.dst (mk (hlen hp)) fun tm hp=>k tm hp na rs
   |false=>.fail
  |_=>.fail
 |.buildSlice t n ps=>match evOp E tm hp (.buildSlice t n ps) with
  |.alloc ob mk=>match wB hp with
   |true=>appK hp ob fun hp'=>putV N tm hp' o.dst (mk (hlen hp)) fun tm hp=>k tm hp na rs
   |false=>.fail
  |_=>.fail
 |op=>match loud op with
  |true=>.fail
  |false=>match evOp E tm hp op with
   |.val none v=>putV N tm hp o.dst v fun tm hp=>k tm hp na rs
   |.val (some c) v=>.need c (putV N tm hp o.dst v fun tm hp=>k tm hp na rs)
   |.br b x y=>.br b (putV N tm hp o.dst x fun tm hp=>k tm hp na rs) (putV N tm hp o.dst y fun tm hp=>k tm hp na rs)
   |_=>.fail
def HH(E:Env)(N:Nat)(g:Bool)(o:Oper)(tm:Tm)(hp:List O)(k:Tm->List O->T):T:=
 fP g (ko o.op) tm fun tm'=>match evOp E tm' hp o.op with
  |.val none v=>putV N tm hp o.dst (.when g v) k
  |.val (some c) v=>.need (!g||c) (putV N tm hp o.dst (.when g v) k)
  |.call f args=>gd f fun f=>gb args fun args=>match dV E hp f args with
   |some (c,v)=>.need (!g||c) (putV N tm hp o.dst (.when g v) k)
   |none=>.fail
  |_=>.fail
def Kw(E:Env)(hp:List O)(f:V)(args:List V):Option (Bool×V×List O):=
 match f with
 |.fn g caps=>match dA E hp (joinA g args caps) [] with
  |some (a,h)=>match E.pf (idF g) a h with
   |some (c,v,new)=>match V.shift (slsL (joinA g args caps)) (hlen h) (hlen hp) v,new.all O.isData,Nat.blt ((hlen hp)+(hlen new)+1) ax&&Nat.blt ((hlen h)+(hlen new)) ax with
    |some v,true,true=>some (c,v,new)
    |_,_,_=>none
   |none=>none
  |none=>none
 |_=>none
def opDG(E:Env)(N:Nat)(g:Bool)(o:Oper)(tm:Tm)(hp:List O)(k:Tm->List O->T):T:=
 fP g (ko o.op) tm fun tm'=>match evOp E tm' hp o.op with
  |.val none v=>putV N tm hp o.dst (.when g v) k
  |.val (some c) v=>.need (!g||c) (putV N tm hp o.dst (.when g v) k)
  |.call f args=>gd f fun f=>gb args fun args=>match dV E hp f args with
   |some (c,v)=>.need (!g||c) (putV N tm hp o.dst (.when g v) k)
   |none=>match Kw E hp f args with
    |some (c,v,new)=>.need (!g||c) (appL hp new fun hp=>putV N tm hp o.dst (.when g v) k)
    |none=>.fail
  |.alloc ob mk=>match o.op with
   |.buildSlice _ _ _=>match Nat.blt ((hlen hp)+2) ax with
    |true=>appK hp ob fun hp'=>putV N tm hp' o.dst (.when g (mk (hlen hp))) k
    |false=>.fail
   |_=>.fail
  |_=>.fail
def evD(E:Env)(N:Nat)(all:List Oper)(bf:List Nat)(base nA:Nat):List Oper->Nat->Tm->List O->Nat->List Rsv->(Tm->List O->Nat->List Rsv->T)->T
 |[],_,tm,hp,na,rs,k=>k tm hp na rs
 |o::rest,j,tm,hp,na,rs,k=>
  match o.guard with
  |none=>opD E N bf base nA o j tm hp na rs fun tm hp na rs=>evD E N all bf base nA rest (j+1) tm hp na rs k
  |some (i,want)=>match iD all i with
   |none=>.fail
   |some d=>match qU E (look tm d) want with
    |.yes=>opDG E N true o tm hp fun tm hp=>evD E N all bf base nA rest (j+1) tm hp na rs k
    |.no=>putV N tm hp o.dst vno fun tm hp=>evD E N all bf base nA rest (j+1) tm hp na rs k
    |.grd g=>opDG E N g o tm hp fun tm hp=>evD E N all bf base nA rest (j+1) tm hp na rs k
    |.bad=>.fail
def qE:Op->Bool
 |.defer _=>true
 |_=>false
def rK(E:Env)(hd:Hd)(N:Nat)(all:List Oper)(tm:Tm)(hp:List O)(k:Tm->List O->T)(kx:Exit->Tm->List O->T):T:=
 let bf:=befs all []
 let m:=oF bf all.length
 .need (HF all bf m&&all.all fun o=>!qE o.op) (match Nat.blt ((hlen hp)+ow (all.take m)+1) ax with
  |true=>eY (hlen hp) fun base=>evD E N all bf base (ow (all.take m)) (all.take m) 0 tm (hp++List.replicate (ow (all.take m)) .rsv) 0 [] fun tm hp _ rs=>settle rs hp fun hp=>cZ E hd N all (all.drop m) tm hp k kx
  |false=>.fail)
def oK(bf:List Nat)(i j:Nat):Bool:=!(Nat.beq i j||(ord bf i j||ord bf j i))
def hidden(bf:List Nat):List (Nat×Nat)->Nat->List Nat
 |[],_=>[]
 | (s,b)::r,j=>match oK bf s j with|true=>b::hidden bf r j|false=>hidden bf r j
def fW:O->O
 |.gone=>.gone
 |.rsv=>.rsv
 |o=>.lock o.own o.wid o.len
def dF(f:O->O):List Nat->List O->List O
 |[],hp=>hp
 |b::r,hp=>dF f r (hp.set b (f (hp.getD b .gone)))
def oe(E:Env):List Oper->Nat->Tm->List O->(List (Nat×Nat)->T)->T
 |[],_,_,_,k=>k []
 |o::r,j,tm,hp,k=>match o.op with
  |.store _ a _=>match evA E tm a with
   |.ptr b _ _=>eY b fun b=>oe E r (j+1) tm hp fun l=>k ((j,b)::l)
   |_=>oe E r (j+1) tm hp k
  |.call c=>match evOp E tm hp (.call c),o.dst with
   |.call f args,some d=>match dV E hp f args with
    |some (_,v)=>lj v fun v=>oe E r (j+1) ((d,v)::tm) hp k
    |none=>oe E r (j+1) tm hp k
   |.val _ v,some d=>lj v fun v=>oe E r (j+1) ((d,v)::tm) hp k
   |_,_=>oe E r (j+1) tm hp k
  |op=>match evOp E tm hp op,o.dst with
   |.val _ v,some d=>lj v fun v=>oe E r (j+1) ((d,v)::tm) hp k
   |_,_=>oe E r (j+1) tm hp k
def okSt(bf:List Nat)(st:List (Nat×Nat))(j b:Nat):Bool:=
 (st.any fun p=>Nat.beq p.1 j&&Nat.beq p.2 b)&&st.all fun p=>!Nat.beq p.2 b||!oK bf p.1 j
def opDS(E:Env)(N:Nat)(o:Oper)(tm:Tm)(hpQ hpC:List O)(k:Tm->T):T:=
 match loud o.op with
 |true=>match evOp E tm hpC o.op with
  |.call f args=>gd f fun f=>gb args fun args=>match dV E hpC f args with
   |some (c,v)=>.need c (putV N tm hpC o.dst v fun tm _=>k tm)
   |none=>.fail
  |_=>.fail
 |false=>match evOp E tm hpQ o.op with
  |.val none v=>putV N tm hpQ o.dst v fun tm _=>k tm
  |.val (some c) v=>.need c (putV N tm hpQ o.dst v fun tm _=>k tm)
  |.br b x y=>.br b (putV N tm hpQ o.dst x fun tm _=>k tm) (putV N tm hpQ o.dst y fun tm _=>k tm)
  |_=>.fail
def HU(E:Env)(N:Nat)(g:Bool)(o:Oper)(tm:Tm)(hpQ hpC:List O)(k:Tm->T):T:=
 match loud o.op with
 |true=>HH E N g o tm hpC fun tm _=>k tm
 |false=>HH E N g o tm hpQ fun tm _=>k tm
def opST(E:Env)(bf:List Nat)(st:List (Nat×Nat))(o:Oper)(j:Nat)(t:TypeId)(a x:Operand)(tm:Tm)(hp:List O)(k:List O->T):T:=
 match o.guard,o.dst,evA E tm a,assoc E.ty t with
 |none,none,.ptr b kk jj,some ty=>match Nat.ble ax b,okSt bf st j b with
  |false,true=>match stO (hp.getD b .gone) kk jj (evA E tm x) ty.sz with
   |some o'=>setK hp b o' k
   |none=>.fail
  |_,_=>.fail
 |_,_,_,_=>.fail
def evS(E:Env)(N:Nat)(all:List Oper)(bf:List Nat)(st:List (Nat×Nat)):List Oper->Nat->Tm->List O->(Tm->List O->T)->T
 |[],_,tm,hp,k=>k tm hp
 |o::rest,j,tm,hp,k=>match o.op with
  |.store t a x=>opST E bf st o j t a x tm hp fun hp=>evS E N all bf st rest (j+1) tm hp k
  |_=>match o.guard with
   |none=>opDS E N o tm (dF fW (hidden bf st j) hp) (dF (fun _=>.gone) (hidden bf st j) hp) fun tm=>evS E N all bf st rest (j+1) tm hp k
   |some (i,want)=>match iD all i with
    |none=>.fail
    |some d=>match qU E (look tm d) want with
     |.yes=>HU E N true o tm (dF fW (hidden bf st j) hp) (dF (fun _=>.gone) (hidden bf st j) hp) fun tm=>evS E N all bf st rest (j+1) tm hp k
     |.no=>putV N tm hp o.dst vno fun tm _=>evS E N all bf st rest (j+1) tm hp k
     |.grd g=>HU E N g o tm (dF fW (hidden bf st j) hp) (dF (fun _=>.gone) (hidden bf st j) hp) fun tm=>evS E N all bf st rest (j+1) tm hp k
     |.bad=>.fail
def isSt:Op->Bool
 |.store _ _ _=>true
 |_=>false
def early(all:List Oper):Bool:=
 let m:=oF (befs all []) all.length
 Nat.beq (ow (all.take m)) 0&&(all.take m).any fun o=>isSt o.op
def mR(E:Env)(hd:Hd)(N:Nat)(all:List Oper)(tm:Tm)(hp:List O)(k:Tm->List O->T)(kx:Exit->Tm->List O->T):T:=
 let bf:=befs all []
 let m:=oF bf all.length
 .need (HF all bf m&&all.all fun o=>!qE o.op) (oe E (all.take m) 0 tm hp fun st=>
  evS E N all bf st (all.take m) 0 tm hp fun tm hp=>cZ E hd N all (all.drop m) tm hp k kx)
def mV(E:Env)(hd:Hd)(N:Nat)(all:List Oper)(tm:Tm)(hp:List O)(k:Tm->List O->T)(kx:Exit->Tm->List O->T):T:=
 match early all with
 |true=>mR E hd N all tm hp k kx
 |false=>rK E hd N all tm hp k kx
def MO(all:List Oper):Bool:=
 let l:=all.take (oF (befs all []) all.length)
 early all&&(l.any fun o=>match o.op with|.extract _ _=>true|_=>false)&&l.any fun o=>match o.op with
  |.call c=>match c.callee with
   |.value (.func _)=>true
   |_=>false
  |_=>false
def NJ(all:List Oper):Bool:=MO all||(all.take (oF (befs all []) all.length)).any fun o=>match o.op with
 |.call c=>match c.callee with
  |.builtin .append=>match c.args.toList with
   |.tmp _::_=>true
   |_=>false
  |_=>false
 |_=>false
def evC(E:Env)(hd:Hd)(μ N:Nat):Code->Tm->List O->(Exit->Tm->List O->T)->T
 |.skip,tm,hp,k=>k .normal tm hp
 |.exit id,tm,hp,k=>k (.exit id) tm hp
 |.ret,tm,hp,k=>k .ret tm hp
 |.seq a b,tm,hp,k=>evC E hd μ N a tm hp fun e tm hp=>match e with
  |.normal=>evC E hd μ N b tm hp k
  |e=>k e tm hp
 |.cond c x y,tm,hp,k=>match evA E tm c with
  |.lit true=>evC E hd μ N x tm hp k
  |.lit false=>evC E hd μ N y tm hp k
  |.bool b=>match E.cut with
   |true=>.loop (.cond c x y) μ N tm hp k
   |false=>.br b (evC E hd μ N x tm hp k) (evC E hd μ N y tm hp k)
  |_=>.fail
 |.block id b,tm,hp,k=>evC E hd μ N b tm hp fun e tm hp=>match e with
  |.exit id'=>match Nat.beq id' id with
   |true=>k .normal tm hp
   |false=>k (.exit id') tm hp
  |e=>k e tm hp
 |.scope b,tm,hp,k=>evC E hd μ N b tm hp fun e tm hp=>match e with
  |.goto _=>.fail
  |e=>k e tm hp
 |.label _,tm,hp,k=>k .normal tm hp
 |.loop b,tm,hp,k=>.loop (.loop b) μ N tm hp k
 |.rangeFunc g ps x b,tm,hp,k=>.loop (.rangeFunc g ps x b) μ N tm hp k
 |.region _ ops false,tm,hp,k=>cZ E hd N ops.toList ops.toList tm hp (fun tm hp=>k .normal tm hp) k
 |.region id ops true,tm,hp,k=>match E.cut&&NJ ops.toList with
  |true=>.loop (.region id ops true) μ N tm hp k
  |false=>mV E hd N ops.toList tm hp (fun tm hp=>k .normal tm hp) k
 |_,_,_,_=>.fail
def resV(E:Env)(tm:Tm)(hp:List O):List ResultVar->Option (List V)
 |[]=>some []
 |.tmp t::r=>match resV E tm hp r with|some l=>some (look tm t::l)|none=>none
 |.cell a t::r=>match GO E hp t (look tm a) with
  |some v=>match resV E tm hp r with|some r=>some (v::r)|none=>none
  |none=>none
def cT:Nat->List V->Tm
 |_,[]=>[]
 |i,v::l=>(i,v)::cT (i+1) l
def bM:List V->V
 |[v]=>v
 |l=>.tup l
def hdl(E:Env):Nat->Hd
 |0,_,_,_,_=>.fail
 |n+1,.fn f caps,args,hp,k=>
  match (match dA E hp (joinA f args caps) [] with
   |some (a,h)=>match E.pf (idF f) a h with
    |some (c,v,new)=>some (c,(hlen h),v,new,slsL (joinA f args caps))
    |none=>none
   |none=>none) with
  |some (c,d0,v,new,sl)=>match V.shift sl d0 (hlen hp) v,new.all O.isData,Nat.blt ((hlen hp)+(hlen new)+1) ax&&Nat.blt (d0+(hlen new)) ax with
   |some v,true,true=>.need c (appL hp new fun hp=>lj v fun v=>k v hp)
   |_,_,_=>.fail
  |none=>match assoc E.inl (idF f) with
   |some fn=>match fn.body with
    |some c=>match Nat.ble (joinA f args caps).length fn.ntmps with
     |true=>evC E (hdl E n) (hlen hp) fn.ntmps c (cT 0 (joinA f args caps)) hp fun e tm hp=>match e with
      |.normal=>match resV E tm hp fn.results.toList with
       |some l=>k (bM l) hp
       |none=>.fail
      |.ret=>match resV E tm hp fn.results.toList with
       |some l=>k (bM l) hp
       |none=>.fail
      |_=>.fail
     |false=>.fail
    |none=>.fail
   |none=>.fail
 |_,_,_,_,_=>.fail
end Go.Ab
namespace Go.Ab
open Go.RowKit
section
def Fr(ro:Option Nat):Fence:={ Fence.wide with round:=ro }
def GsOk(gs:List (Nat×Obj))(w:World):Prop:=∀ p∈gs,w.heap[p.1]?=some p.2/\p.2.isCells=false
theorem GsOk.keeps{gs:List (Nat×Obj)}{w w':World}(h:GsOk gs w)(k:KeepsOthers w w'):GsOk gs w':=
 fun p hp=>⟨k.same _ _ (h p hp).1 (h p hp).2,(h p hp).2⟩
def mark(d:Nat):Deferred:={ target:=.collected d,args:=#[] }
def marked(d:Nat):Nat×Obj:=(d,.deferred (some []))
structure Rel(G:List O)(B:Nat)(w0:World)(S:Nat)(N:Nat)(D:List Deferred)(gs:List (Nat×Obj))(ρ:Ren)(tm:Tm)(hp:List O)(a:Act)(w:World):Prop where
 tr:TR ρ tm a
 hr:HR G B ρ hp w
 bel:Below B w0 w
 sz:a.tmps.size=N
 df:∃ ms:List Nat,a.defers=ms.map mark++D/\GsOk (ms.map marked) w/\(∀ d∈ms,S<=d)/\ms.Nodup
 gs:GsOk gs w
 bs:B<=w0.heap.size
 ss:w0.heap.size<=S
 sw:S<=w.heap.size
def FH(P:Program)(n:Nat)(_ro:Option Nat)(uf:Value)(us:List Value)(w:World)(K:Value->World->Prop):Prop:=
 ∃ d,(Deferred.ofValue uf us.toArray).run P w=.ok d w /\
  ((∃ f args,(invoke d.target d.args).run P w=.ok (.enter f args) w/\CallsIn (Fr none) n P f args w fun e w'=>∃ u,e=.returned u/\K u w') \/
   (∃ l f tmps assign body,(invoke d.target d.args).run P w=.ok (.round l f tmps assign body) w/\RoundIn (Fr none) n P l f tmps assign body w fun e w'=>∃ u,e=.returned u/\K u w'))
variable{E:Env}{G:List O}{P:Program}
def eP(G:List O)(P:Program)(fv:V)(args:List V)(hp:List O)(R:V->List O->Prop):Prop:=
 ∀ B w0 gs ρ w uf us n ro,HR G B ρ hp w->Below B w0 w->B<=w0.heap.size->GsOk gs w->VR ρ fv uf->VRL ρ args us ->
  FH P n ro uf us w fun u w'=>∃ v hp' ρ',VR ρ' v u/\HR G B ρ' hp' w'/\ρ.le ρ'/\Below B w0 w'/\GsOk gs w'/\R v hp'
def bG:Code->Bool
 |.rangeFunc _ _ _ _=>false
 |.seq a b=>bG a&&bG b
 |.cond _ a b=>bG a&&bG b
 |.block _ b=>bG b
 |.loop b=>bG b
 |.scope b=>bG b
 |_=>true
def Good(G:List O)(P:Program)(μ N:Nat)(c:Code)(tm:Tm)(hp:List O)(R:Exit->Tm->List O->Prop):Prop:=
 ∀ B w0 S D gs ρ a w n ro,(ro=none\/bG c=true)->Rel G B w0 S N D gs ρ tm hp a w ->
  c.wpIn (Fr ro) n P (fun e a' w'=>∃ tm' hp' ρ',Rel G B w0 S N D gs ρ' tm' hp' a' w'/\ρ.leB μ ρ'/\R e tm' hp') a w
def sat(G:List O)(P:Program)(Q:Exit->Tm->List O->Prop):T->Prop
 |.ret e tm hp=>Q e tm hp
 |.br b x y=>(b=true->sat G P Q x)/\(b=false->sat G P Q y)
 |.need b x=>b=true/\sat G P Q x
 |.loop c μ N tm hp k=>∃ R,Good G P μ N c tm hp R/\∀ e tm' hp',R e tm' hp'->sat G P Q (k e tm' hp')
 |.isnil n f=>∀ b,(b=true->n=0)->sat G P Q (f b)
 |.fail=>False
def HdOk(G:List O)(P:Program)(hd:Hd):Prop:=
 ∀ fv args hp k Q,sat G P Q (hd fv args hp k)->eP G P fv args hp fun v hp'=>sat G P Q (k v hp')
def Gr(G:List O)(P:Program)(N:Nat)(o:Oper)(tm:Tm)(hp:List O)(R:Tm->List O->Prop):Prop:=
 ∀ B w0 S D gs ρ a w n ro (next:Act->World->Prop) Q,Rel G B w0 S N D gs ρ tm hp a w ->
  (∀ a' w',(∃ tm' hp' ρ',Rel G B w0 S N D gs ρ' tm' hp' a' w'/\ρ.le ρ'/\R tm' hp')->next a' w')->o.wpIn (Fr ro) n P a w next Q
theorem bz(ro:Option Nat)(o:Oper)(w:World)(ρ:Operand->Value):∀ f,o.about P w ρ=some f->(Fr ro).fn f:=fun _ _=>trivial
section
variable{B:Nat}{w0:World}{S:Nat}{N:Nat}{D:List Deferred}{gs:List (Nat×Obj)}{ρ:Ren}{tm tm':Tm}{hp:List O}{a:Act}{w:World}
theorem aM{a b:Nat}(h:Nat.blt a b=true):a<b:=Nat.le_of_ble_eq_true h
theorem Rel.put(h:Rel G B w0 S N D gs ρ tm hp a w){ρ':Ren}{hp':List O}{w':World}(hl:ρ.le ρ')(hr:HR G B ρ' hp' w')(hb:Below B w0 w')(hk:KeepsOthers w w')
  {d:Option Nat} {v:V} {u:Value} (hv:VR ρ' v u) {k:Tm->List O->T} {Q:Exit->Tm->List O->Prop} (hs:sat G P Q (putV N tm hp' d v k)) :
  ∃ tm' hp' ρ',Rel G B w0 S N D gs ρ' tm' hp' (a.put d u) w'/\ρ.le ρ'/\sat G P Q (k tm' hp'):=by
 obtain⟨ms,hd1,hd2,hd3⟩:=h.df
 cases d with
 |none=>exact⟨tm,hp',ρ',⟨h.tr.mono hl,hr,hb,h.sz,⟨ms,hd1,hd2.keeps hk,hd3⟩,h.gs.keeps hk,h.bs,h.ss,Nat.le_trans h.sw hk.size⟩,hl,hs⟩
 |some d=>
  simp only[putV]at hs
  split at hs
  ·rename_i hlt
   rw[gv]at hs
   have hlt:=aM hlt
   exact⟨_,hp',ρ',⟨(h.tr.mono hl).put (by rw[h.sz];exact hlt) hv,hr,hb,by simp[Act.put,h.sz],⟨ms,hd1,hd2.keeps hk,hd3⟩,h.gs.keeps hk,h.bs,h.ss,Nat.le_trans h.sw hk.size⟩,hl,hs⟩
  ·exact hs.elim
theorem lM{o:Oper}{r:R}(hr:evOp E tm hp o.op=r)(hne:r≠.bad)(ro:Option Nat)(x:Operand->Value):o.semAt ro x=execOp x o:=
 Oper.semAt_eq ro x o fun c hc=>hne (by rw[<-hr,hc];rfl)
theorem uponIn_value{o:Oper}{ro:Option Nat}{n:Nat}{a:Act}{w w':World}{next:Act->World->Prop}{Q:Exit->Act->World->Prop}{tm:Tm}{hp:List O}{r:R}(hr:evOp E tm hp o.op=r)(hne:r≠.bad)
  {u:Value} (hrun:(execOp a.eval o).run P w=.ok (.value u) w') (h:next (a.put o.dst u) w'):o.wpIn (Fr ro) n P a w next Q:=
 ⟨bz ro o w _,by rw[lM hr hne,hrun];exact h⟩
theorem uponIn_skip{o:Oper}{ro:Option Nat}{n:Nat}{a:Act}{w w':World}{next:Act->World->Prop}{Q:Exit->Act->World->Prop}{tm:Tm}{hp:List O}{r:R}(hr:evOp E tm hp o.op=r)(hne:r≠.bad)
  (hrun:(execOp a.eval o).run P w=.ok .skip w') (h:next (a.put o.dst undef) w'):o.wpIn (Fr ro) n P a w next Q:=
 ⟨bz ro o w _,by rw[lM hr hne,hrun];exact h⟩
theorem VRL.evArgs(hev:∀ x,VR ρ (evA E tm x) (a.eval x))(l:List Operand):VRL ρ (l.map (evA E tm)) (l.map a.eval):=VRL.map _ _ l fun x _=>hev x
theorem fM{o:Oper}{f:V}{args:List V}{R:V->List O->Prop}{n:Nat}{ro:Option Nat}{next:Act->World->Prop}{Qx:Exit->Act->World->Prop}
  (h:Rel E.G B w0 S N D gs ρ tm hp a w) (he:evOp E tm' hp o.op=.call f args) (ht':TR ρ tm' a) (hgood:eP E.G P f args hp R)
  (hnext:∀ u w',(∃ v hp' ρ',VR ρ' v u/\Rel E.G B w0 S N D gs ρ' tm hp' a w'/\ρ.le ρ'/\R v hp')->next (a.put o.dst u) w'):o.wpIn (Fr ro) n P a w next Qx:=by
 have hev:=fun x=>dz (E:=E) (w:=w) ht' h.hr.hv x
 obtain⟨dst,op,ty,pos,after,guard⟩:=o
 dsimp only at he hgood hnext ⊢
 obtain⟨cl,f0,rfl,hcal,rfl,rfl⟩:=jr he
 have hfv:=hev f0
 have hav:=VRL.evArgs hev cl.args.toList
 obtain⟨ms,hd1,hd2,hd3⟩:=h.df
 have hgs:GsOk (gs++ms.map marked) w:=fun p hp=>(List.mem_append.1 hp).elim (h.gs p) (hd2 p)
 obtain⟨d,hres,hinv⟩:=hgood B w (gs++ms.map marked) ρ w _ _ (n-1) ro h.hr (Below.refl B w) (Nat.le_trans h.bs h.bel.size) hgs hfv hav
 have hfin:∀ u w',(∃ v hp' ρ',VR ρ' v u/\HR E.G B ρ' hp' w'/\ρ.le ρ'/\Below B w w'/\GsOk (gs++ms.map marked) w'/\R v hp')->next (a.put dst u) w':=by
  rintro u w' ⟨v,hp',ρ',hv,hr',hl',hb',hg',hs'⟩
  exact hnext _ _ ⟨v,hp',ρ',hv,⟨h.tr.mono hl',hr',h.bel.trans hb',h.sz,⟨ms,hd1,fun p hp=>hg' p (List.mem_append.2 (.inr hp)),hd3⟩,fun p hp=>hg' p (List.mem_append.2 (.inl hp)),h.bs,h.ss,Nat.le_trans h.sw hb'.size⟩,hl',hs'⟩
 refine⟨bz ro _ w _,?_⟩
 rw[lM (r:=.call _ _) he (by simp)]
 have hrw:(execOp a.eval { dst:=dst,op:=.call cl,type:=ty,pos:=pos,after:=after,guard:=guard }).run P w=(invoke d.target d.args).run P w:=by
  have hargs:cl.args.map a.eval=(cl.args.toList.map a.eval).toArray:=Array.toList_inj.1 (by simp)
  simp only[execOp,resolve,hcal,Sem.run_bind,hargs,hres,Result.andThen_ok]
 rw[hrw]
 rcases hinv with⟨f',args',hi,hc⟩|⟨l,f',tmps,asg,body,hi,hc⟩
 ·rw[hi]
  refine⟨fun h=>by simp[Fr,Fence.wide]at h,CallsIn.mono (show CallsIn (Fr ro) (n-1) P f' args' w _ from by cases ro<;>exact hc) ?_⟩
  rintro e w' ⟨u,rfl,hK⟩
  exact hfin u w' hK
 ·rw[hi]
  refine⟨fun h=>by simp[Fr,Fence.wide]at h,RoundIn.mono (show RoundIn (Fr ro) (n-1) P l f' tmps asg body w _ from by cases ro<;>exact hc) ?_⟩
  rintro e w' ⟨u,rfl,hK⟩
  exact hfin u w' hK
def Of(E:Env)(P:Program):Prop:=∀ hp f args c v,dV E hp f args=some (c,v)->c=true->eP E.G P f args hp fun v' hp'=>v'=v/\hp'=hp
def DN(P:Program)(f:FuncId)(args:List V)(b:Bool)(v:Value):Prop:=
 (∀ us w,(invoke (.fn (.func f) #[]) us).run P w=.ok (.enter f us) w)/\∀ ρ us w n,VRL ρ args us->CallsIn (Fr none) n P f us.toArray w fun e w'=>
  RowKit.Below w.heap.size w w'/\match b with
   |true=>e=.panicked [{ v:=v,recovered:=false }]
   |false=>∃ u,e=.returned u/\∀ ρ,VR ρ (.tup []) u
def PnOk(E:Env)(P:Program):Prop:=∀ f g args b v,assoc E.pn f=some g->g args=some (b,v)->DN P f args b v
def PsOk(E:Env)(P:Program):Prop:=Of E P/\PnOk E P
theorem zG{tm:Tm}{hp:List O}{o:Oper}{b:Bool}{v:Value}(h:Lu E tm hp o=some (b,v)):∃ f g args,evOp E tm hp o.op=.call (.fn f []) args/\assoc E.pn f=some g/\g args=some (b,v)/\Nat.ble BM f=false:=by
 unfold Lu at h
 split at h
 ·cases h
 ·rename_i p l hpn
  split at h
  ·rename_i c hc
   split at h
   ·rename_i f args he
    split at h
    ·rename_i hlo
     split at h
     ·rename_i g hg
      exact⟨f,g,args,by rw[hc];exact he,by rw[hpn];exact hg,h,hlo⟩
     ·cases h
    ·cases h
   ·cases h
  ·cases h
theorem Ht{o:Oper}{f:FuncId}{args:List V}{b:Bool}{v:Value}{n:Nat}{ro:Option Nat}{next:Act->World->Prop}{Qx:Exit->Act->World->Prop}
  (h:Rel E.G B w0 S N D gs ρ tm hp a w) (he:evOp E tm hp o.op=.call (.fn f []) args) (hlo:Nat.ble BM f=false) (hpn:DN P f args b v)
  (hp1:b=true->∀ w',Rel E.G B w0 S N D gs ρ tm hp a w'->Qx (.panic [{ v:=v,recovered:=false }]) a w')
  (hp2:b=false->∀ u w',VR ρ (.tup []) u->Rel E.G B w0 S N D gs ρ tm hp a w'->next (a.put o.dst u) w'):o.wpIn (Fr ro) n P a w next Qx:=by
 have hev:=fun x=>dz (E:=E) (w:=w) h.tr h.hr.hv x
 obtain⟨dst,op,ty,pos,after,guard⟩:=o
 dsimp only at he hp1 hp2 ⊢
 obtain⟨cl,f0,rfl,hcal,hf0,rfl⟩:=jr he
 have hfv:=hev f0
 rw[<-hf0]at hfv
 obtain⟨cus,hfe,hcv⟩:=hfv
 rw[nI hlo]at hfe
 have hcus:cus=[]:=by
  have:=VRL.length hcv
  cases cus with
  |nil=>rfl
  |cons x y=>simp at this
 subst hcus
 have hav:=VRL.evArgs hev cl.args.toList
 obtain⟨ms,hd1,hd2,hd3⟩:=h.df
 refine⟨bz ro _ w _,?_⟩
 rw[lM (r:=.call _ _) he (by simp)]
 have hof:(Deferred.ofValue (a.eval f0) (cl.args.toList.map a.eval).toArray).run P w=.ok { target:=.fn (.func f) #[],args:=(cl.args.toList.map a.eval).toArray } w:=by rw[hfe];simp[Deferred.ofValue]
 have hrw:(execOp a.eval { dst:=dst,op:=.call cl,type:=ty,pos:=pos,after:=after,guard:=guard }).run P w=.ok (.enter f (cl.args.toList.map a.eval).toArray) w:=by
  have hargs:cl.args.map a.eval=(cl.args.toList.map a.eval).toArray:=Array.toList_inj.1 (by simp)
  simp only[execOp,resolve,hcal,Sem.run_bind,hargs,hof,Result.andThen_ok]
  exact hpn.1 _ _
 rw[hrw]
 refine⟨fun h=>by simp[Fr,Fence.wide]at h,CallsIn.mono (show CallsIn (Fr ro) (n-1) P f _ w _ from by cases ro<;>exact hpn.2 ρ _ w (n-1) hav) ?_⟩
 rintro e w' ⟨hb,hq⟩
 have hB:B<=w.heap.size:=Nat.le_trans h.bs h.bel.size
 have keep:∀ (l:List (Nat×Obj)),GsOk l w->GsOk l w':=fun l hl p hp=>⟨(hb.block _ (Array.getElem?_eq_some_iff.1 (hl p hp).1).1).trans (hl p hp).1,(hl p hp).2⟩
 have h':Rel E.G B w0 S N D gs ρ tm hp a w':=⟨h.tr,h.hr.frame hb.size hb.block,h.bel.trans (hb.mono hB),h.sz,⟨ms,hd1,keep _ hd2,hd3⟩,keep _ h.gs,h.bs,h.ss,Nat.le_trans h.sw hb.size⟩
 cases b with
 |true=>dsimp only at hq;subst hq;exact hp1 rfl w' h'
 |false=>obtain⟨u,rfl,hu⟩:=hq;exact hp2 rfl u w' (hu ρ) h'
theorem Iq(hE:E.Ok P){hd:Hd}(hhd:HdOk E.G P hd){o:Oper}{k:Tm->List O->T}{Q:Exit->Tm->List O->Prop}(hs:sat E.G P Q (opK E hd N o tm hp k)) :
  Gr E.G P N o tm hp fun tm' hp'=>sat E.G P Q (k tm' hp'):=by
 intro B w0 S D gs ρ a w n ro next Qx h hnext
 have hev:=fun x=>dz (w:=w) h.tr h.hr.hv x
 unfold opK wB at hs
 simp only[eE]at hs
 split at hs
 ·rename_i v he
  obtain⟨u,hrun,hv⟩:=ir hE h.hr.hv h.tr he (by simp)
  exact uponIn_value he (by simp) hrun (hnext _ _ (h.put (Ren.le_refl ρ) h.hr h.bel (KeepsOthers.refl w) hv hs))
 ·rename_i c v he
  obtain⟨hc,hs⟩:=hs
  obtain⟨u,hrun,hv⟩:=ir hE h.hr.hv h.tr he (by rintro b ⟨⟩;exact hc)
  exact uponIn_value he (by simp) hrun (hnext _ _ (h.put (Ren.le_refl ρ) h.hr h.bel (KeepsOthers.refl w) hv hs))
 ·rename_i ob mk he
  split at hs
  ·rename_i hlen
   rw[iO]at hs
   have hlen:=aM hlen
   obtain⟨us,t,u,hrun,hnew,hmk⟩:=jS hE h.hr h.tr he
   have hfree:=h.hr.free hp.length (Nat.le_refl _) (by omega)
   have hle:=Ren.le_add hfree (dw ob w.heap.size ob.len)
   have hBw:B<=w.heap.size:=Nat.le_trans h.bs h.bel.size
   obtain⟨hr',hl'⟩:=h.hr.extend (w':=w.alloc (.cells us.toArray t)) (r:=dw ob w.heap.size ob.len) (by simp) (fun k hk=>heap_alloc_old w _ hk) (OR.new (hnew.mono hle) w t) (fun _ _=>hBw) (fun _ _=>Nat.le_refl _)
    (fun _ b x hx ho hp0=>Nat.ne_of_lt ((h.hr.blocks b x hx (fun e=>by rw[e]at ho;simp[O.own]at ho)).lt hp0)) hlen
   exact uponIn_value he (by simp) hrun (hnext _ _ (h.put hl' hr' (h.bel.alloc hBw _) (KeepsOthers.alloc w _) (hmk _ _ (Ren.add_same _ _ _)) hs))
  ·exact hs.elim
 ·rename_i b ob he
  rw[rf]at hs
  obtain⟨w',hrun,hr',hb',hk'⟩:=kH hE h.hr h.tr he
  exact uponIn_skip he (by simp) hrun (hnext _ _ (h.put (v:=.junk) (Ren.le_refl ρ) hr' (h.bel.trans hb') hk' trivial hs))
 ·rename_i f args he
  rw[cJ,dL]at hs
  refine fM h he h.tr (hhd f args hp _ _ hs) fun u w' ⟨v,hp',ρ',hv,hrel,hl',hs'⟩=>hnext _ _ ?_
  obtain⟨tm2,hp2,ρ2,h2,hl2,hs2⟩:=hrel.put (Ren.le_refl ρ') hrel.hr hrel.bel (KeepsOthers.refl w') hv hs'
  exact⟨tm2,hp2,ρ2,h2,Ren.le_trans hl' hl2,hs2⟩
 ·rename_i b x y he
  obtain⟨u,hrun,h1,h2⟩:=BG (P:=P) h.hr.hv h.tr he
  refine uponIn_value he (by simp) hrun (hnext _ _ ?_)
  cases b
  ·exact h.put (Ren.le_refl ρ) h.hr h.bel (KeepsOthers.refl w) (h2 rfl) (hs.2 rfl)
  ·exact h.put (Ren.le_refl ρ) h.hr h.bel (KeepsOthers.refl w) (h1 rfl) (hs.1 rfl)
 ·rename_i old c ob he
  obtain⟨hc,hs⟩:=hs
  split at hs
  ·rename_i hlen
   rw[Hg,iO]at hs
   have hlen:=aM hlen
   have hBw:B<=w.heap.size:=Nat.le_trans h.bs h.bel.size
   obtain⟨u,w',r,hrun,hb',hk',hr',hl',hv⟩:=xg hE h.hr h.tr hBw he hc (by omega)
   exact uponIn_value he (by simp) hrun (hnext _ _ (h.put hl' hr' (h.bel.trans hb') hk' hv hs))
  ·exact hs.elim
 ·rename_i n neg he
  obtain⟨b,hb,hrun⟩:=zb (P:=P) hE h.hr.hv h.tr he
  exact uponIn_value he (by simp) hrun (hnext _ _ (h.put (Ren.le_refl ρ) h.hr h.bel (KeepsOthers.refl w) (v:=.bool (b != neg)) (u:=.bool (b != neg)) rfl (hs b hb)))
 ·exact hs.elim
theorem dm{g:Bool}{k:Tm->T}{Q:Exit->Tm->List O->Prop}:∀ (l:List Operand) (tm:Tm),sat E.G P Q (fP g l tm k) ->
  ∃ tm',(g=true->∀ ρ a,TR ρ tm a->TR ρ tm' a)/\sat E.G P Q (k tm')
 |[],tm,h=>⟨tm,fun _ _ _ h=>h,h⟩
 |x::r,tm,h=>by
  cases x with
  |tmp t=>
   simp only[fP]at h
   split at h
   ·rename_i g' v hl
    obtain⟨hg,h⟩:=h
    rw[cJ]at h
    obtain⟨tm',h1,h2⟩:=dm r _ h
    refine⟨tm',fun e ρ a ht=>h1 e ρ a fun t'=>?_,h2⟩
    rw[bx]
    by_cases e2:t=t'
    ·subst e2
     rw[if_pos rfl]
     have:=ht t
     rw[hl]at this
     subst e
     simp at hg
     exact this.1 hg
    ·rw[if_neg e2];exact ht t'
   ·exact dm r _ h
  |const v=>exact dm r _ h
  |global g=>exact dm r _ h
  |func f=>exact dm r _ h
theorem TR.lit(ht:TR ρ tm a){d:Nat}{b:Bool}(hb:VR ρ (.lit b) (a.tmps.getD d undef)):TR ρ ((d,.lit b)::tm) a:=fun t=>by
 rw[bx]
 by_cases e:d=t
 ·subst e;rw[if_pos rfl];exact hb
 ·rw[if_neg e];exact ht t
theorem jC{ops:Array Oper}{o:Oper}{j:Nat}{want:Bool}(hg:o.guard=some (j,want)){d:Nat}(hd:iD ops.toList j=some d){b:Bool}(hb:a.tmps.getD d undef=.bool b) :
  Region.wanted o (yielded ops a.tmps)=(b==want):=by
 have h1:(ops[j]?).bind (·.dst)=some d:=by
  unfold iD at hd
  rw[Array.getElem?_toList]at hd
  cases ho:ops[j]? with
  |none=>rw[ho]at hd;cases hd
  |some x=>rw[ho]at hd;simpa using hd
 have h2:a.tmps[d]?=some (.bool b):=by
  rw[Array.getD_eq_getD_getElem?]at hb
  cases hx:a.tmps[d]? with
  |none=>rw[hx]at hb;simp[undef]at hb
  |some x=>rw[hx]at hb;simpa using hb
 simp[Region.wanted,hg,yielded,h1,h2]
theorem gX{ops:Array Oper}{o:Oper}{j:Nat}{want:Bool}(hg:o.guard=some (j,want)){d:Nat}(hd:iD ops.toList j=some d)(hw:Region.wanted o (yielded ops a.tmps)=true):a.tmps.getD d undef=.bool want:=by
 have h1:(ops[j]?).bind (·.dst)=some d:=by
  unfold iD at hd
  rw[Array.getElem?_toList]at hd
  cases ho:ops[j]? with
  |none=>rw[ho]at hd;cases hd
  |some x=>rw[ho]at hd;simpa using hd
 simp only[Region.wanted,hg,yielded,h1,Option.bind_some,beq_iff_eq]at hw
 split at hw
 ·rename_i b hb
  simp only[Option.some.injEq]at hw
  rw[Array.getD_eq_getD_getElem?,hb,hw]
  rfl
 ·cases hw
theorem uk{ops:Array Oper}{o:Oper}{j:Nat}{want:Bool}(hg:o.guard=some (j,want)){d:Nat}(hd:iD ops.toList j=some d)(hu:a.tmps.getD d undef=undef):Region.wanted o (yielded ops a.tmps)=false:=by
 cases hw:Region.wanted o (yielded ops a.tmps) with
 |false=>rfl
 |true=>rw[gX hg hd hw]at hu;simp[undef]at hu
theorem LQ{ops:Array Oper}{o:Oper}{j:Nat}{want:Bool}(hg:o.guard=some (j,want)){d:Nat}(hd:iD ops.toList j=some d){v:V}(hv:VR ρ v (a.tmps.getD d undef)) :
  match gval v want with
  |.yes=>Region.wanted o (yielded ops a.tmps)=true
  |.no=>Region.wanted o (yielded ops a.tmps)=false
  |.grd g=>Region.wanted o (yielded ops a.tmps)=g
  |.bad=>True:=by
 have hb:∀ b,a.tmps.getD d undef=.bool b->Region.wanted o (yielded ops a.tmps)=(b==want):=fun b h=>jC hg hd h
 cases v with
 |lit b=>have:=hb b hv;cases b<;>cases want<;>simpa[gval]using this
 |bool b=>have:=hb b hv;cases want<;>cases b<;>simpa[gval]using this
 |when g v=>
  obtain⟨h1,h2⟩:=hv
  cases g with
  |false=>
   have hw:=uk hg hd (h2 rfl)
   cases v with
   |lit b=>cases b<;>cases want<;>simpa[gval]using hw
   |bool b=>cases b<;>cases want<;>simpa[gval]using hw
   |_=>trivial
  |true=>
   have hv:=h1 rfl
   cases v with
   |lit b=>have:=hb b hv;cases b<;>cases want<;>simpa[gval]using this
   |bool b=>have:=hb b hv;cases want<;>cases b<;>simpa[gval]using this
   |_=>trivial
 |_=>trivial
theorem me{ops:Array Oper}{o:Oper}{j:Nat}{want:Bool}(hg:o.guard=some (j,want)){d:Nat}(hd:iD ops.toList j=some d){v:V}(hv:VR ρ v (a.tmps.getD d undef)) :
  match qU E v want with
  |.yes=>Region.wanted o (yielded ops a.tmps)=true
  |.no=>Region.wanted o (yielded ops a.tmps)=false
  |.grd g=>Region.wanted o (yielded ops a.tmps)=g
  |.bad=>True:=by
 have h:=LQ hg hd hv
 unfold qU
 cases hx:gval v want with
 |grd g=>rw[hx]at h;cases hc:E.cc<;>cases g<;>exact h
 |_=>rw[hx]at h;cases hc:E.cc<;>exact h
theorem Rel.withTm(h:Rel E.G B w0 S N D gs ρ tm hp a w){tm':Tm}(ht:TR ρ tm' a):Rel E.G B w0 S N D gs ρ tm' hp a w:=⟨ht,h.hr,h.bel,h.sz,h.df,h.gs,h.bs,h.ss,h.sw⟩
theorem nc(hE:E.Ok P)(hps:PsOk E P){hd:Hd}(hhd:HdOk E.G P hd){ops:Array Oper}{k:Tm->List O->T}{kx:Exit->Tm->List O->T}{Q:Exit->Tm->List O->Prop}{n:Nat}{ro:Option Nat}{Qx:Exit->Act->World->Prop}{ρ0:Ren}{tl:List Nat}{suf:List Oper}
  (hQx:∀ a' w',(∃ tm' hp' ρ',Rel E.G B w0 S N D gs ρ' tm' hp' a' w'/\ρ0.le ρ'/\sat E.G P Q (k tm' hp'))->wpOpsIn (Fr ro) n P ops Qx tl a' w')
  (hQp:∀ e a' w',(∃ tm' hp' ρ',Rel E.G B w0 S N D gs ρ' tm' hp' a' w'/\ρ0.le ρ'/\sat E.G P Q (kx e tm' hp'))->Qx e a' w') :
  ∀ (rest pre:List Oper) (tm:Tm) (hp:List O) (ρ:Ren) (a:Act) (w:World),ops.toList=pre++rest++suf->sat E.G P Q (cZ E hd N ops.toList rest tm hp k kx)->Rel E.G B w0 S N D gs ρ tm hp a w->ρ0.le ρ ->
   wpOpsIn (Fr ro) n P ops Qx (List.range' pre.length rest.length++tl) a w:=by
 intro rest
 induction rest with
 |nil=>
  intro pre tm hp ρ a w _ hs h hle
  exact hQx a w ⟨tm,hp,ρ,h,hle,hs⟩
 |cons o rest ih=>
  intro pre tm hp ρ a w hops hs h hle
  have hi:ops[pre.length]?=some o:=by rw[<-Array.getElem?_toList,hops];simp
  have hops':ops.toList=(pre++[o])++rest++suf:=by simp[hops]
  have ih':=fun(tm:Tm) (hp:List O) (ρ:Ren) (a:Act) (w:World) (hs:sat E.G P Q (cZ E hd N ops.toList rest tm hp k kx)) (h:Rel E.G B w0 S N D gs ρ tm hp a w) (hl:ρ0.le ρ)=>
   ih (pre++[o]) tm hp ρ a w hops' hs h hl
  simp only[List.length_append,List.length_singleton]at ih'
  simp only[List.length_cons,List.range'_succ,List.cons_append,wpOpsIn,hi]
  have step:∀ {tm:Tm},Rel E.G B w0 S N D gs ρ tm hp a w->sat E.G P Q (opK E hd N o tm hp fun tm hp=>cZ E hd N ops.toList rest tm hp k kx) ->
    o.wpIn (Fr ro) n P a w (wpOpsIn (Fr ro) n P ops Qx (List.range' (pre.length+1) rest.length++tl)) Qx:=fun h hs=>
   Iq hE hhd hs B w0 S D gs ρ a w n ro _ _ h fun a' w' ⟨tm',hp',ρ',h',hl',hs'⟩=>ih' tm' hp' ρ' a' w' hs' h' (Ren.le_trans hle hl')
  have skip:∀ {tm:Tm} {v:V},VR ρ v undef->Rel E.G B w0 S N D gs ρ tm hp a w->sat E.G P Q (putV N tm hp o.dst v fun tm hp=>cZ E hd N ops.toList rest tm hp k kx) ->
    wpOpsIn (Fr ro) n P ops Qx (List.range' (pre.length+1) rest.length++tl) (a.put o.dst undef) w:=fun hv h hs=>by
   obtain⟨tm',hp',ρ',h',hl',hs'⟩:=h.put (u:=undef) (Ren.le_refl ρ) h.hr h.bel (KeepsOthers.refl w) hv hs
   exact ih' tm' hp' ρ' _ w hs' h' (Ren.le_trans hle hl')
  unfold cZ at hs
  split at hs
  ·rename_i hg
   rw[if_pos (by simp[Region.wanted,hg])]
   split at hs
   ·rename_i b v hpo
    obtain⟨f,g,args,he,hg1,hg2,hlo⟩:=zG hpo
    refine Ht h he hlo (hps.2 f g args b v hg1 hg2) (fun hb w' h'=>hQp _ _ _ ⟨tm,hp,ρ,h',hle,hs.1 hb⟩) fun hb u w' hu h'=>?_
    obtain⟨tm',hp',ρ',h2,hl',hs'⟩:=h'.put (Ren.le_refl ρ) h'.hr h'.bel (KeepsOthers.refl w') hu (hs.2 hb)
    exact ih' _ _ _ _ _ hs' h2 (Ren.le_trans hle hl')
   ·exact step h hs
  ·rename_i j want hg
   split at hs
   ·exact hs.elim
   ·rename_i d hd'
    have hgv:=me (E:=E) (o:=o) hg hd' (h.tr d)
    split at hs
    ·rename_i hb
     rw[hb]at hgv
     rw[hgv]
     obtain⟨tm',ht,hs⟩:=dm _ _ hs
     exact step (h.withTm (ht rfl ρ a h.tr)) hs
    ·rename_i hb
     rw[hb]at hgv
     rw[hgv]
     exact⟨bz ro o w _,skip (v:=vno) ⟨fun e=>(by cases e),fun _=>rfl⟩ h hs⟩
    ·rename_i b hb
     rw[hb]at hgv
     dsimp only at hgv
     obtain⟨tm',ht,hs⟩:=dm _ _ hs
     have hno:b=false->TR ρ (gno tm d want) a:=by
      intro hbf
      unfold gno
      split
      ·rename_i b0 hl
       have h0:=h.tr d
       rw[hl]at h0
       refine h.tr.lit ?_
       have:=jC hg hd' h0
       rw[hgv,hbf]at this
       have h0:a.tmps.getD d undef=.bool b0:=h0
       rw[h0]
       have e:b0=!want:=by cases b0<;>cases want<;>first|rfl|cases this
       rw[e]
       exact rfl
      ·exact h.tr
     have hyes:b=true->VR ρ (.lit want) (a.tmps.getD d undef):=fun e=>gX hg hd' (by rw[hgv,e])
     rw[hgv]
     split at hs
     ·rename_i v he
      cases b
      ·exact⟨bz ro o w _,skip (v:=.when false v) ⟨fun e=>(by cases e),fun _=>rfl⟩ h hs⟩
      ·have h':=h.withTm (ht rfl ρ a h.tr)
       obtain⟨u,hrun,hv⟩:=ir hE h'.hr.hv h'.tr he (by simp)
       obtain⟨tm2,hp2,ρ2,h2,hl2,hs2⟩:=h.put (Ren.le_refl ρ) h.hr h.bel (KeepsOthers.refl w) (v:=.when true v) (u:=u) ⟨fun _=>hv,fun e=>(by cases e)⟩ hs
       exact uponIn_value he (by simp) hrun (ih' _ _ _ _ _ hs2 h2 (Ren.le_trans hle hl2))
     ·rename_i c v he
      obtain⟨hc,hs⟩:=hs
      cases b
      ·exact⟨bz ro o w _,skip (v:=.when false v) ⟨fun e=>(by cases e),fun _=>rfl⟩ h hs⟩
      ·have h':=h.withTm (ht rfl ρ a h.tr)
       obtain⟨u,hrun,hv⟩:=ir hE h'.hr.hv h'.tr he (by rintro b ⟨⟩;simpa using hc)
       obtain⟨tm2,hp2,ρ2,h2,hl2,hs2⟩:=h.put (Ren.le_refl ρ) h.hr h.bel (KeepsOthers.refl w) (v:=.when true v) (u:=u) ⟨fun _=>hv,fun e=>(by cases e)⟩ hs
       exact uponIn_value he (by simp) hrun (ih' _ _ _ _ _ hs2 h2 (Ren.le_trans hle hl2))
     ·rename_i f args he
      rw[cJ,dL]at hs
      split at hs
      ·rename_i cc v hpf
       obtain⟨hcc,hs⟩:=hs
       cases b
       ·exact⟨bz ro o w _,skip (v:=.when false v) ⟨fun e=>(by cases e),fun _=>rfl⟩ h hs⟩
       ·refine fM h he (ht rfl ρ a h.tr) (hps.1 _ _ _ _ _ hpf (by simpa using hcc)) fun u w' ⟨v',hp',ρ',hv,hrel,hl',hv2,hh2⟩=>?_
        subst hv2;subst hh2
        obtain⟨tm2,hp2,ρ2,h2,hl2,hs2⟩:=hrel.put (Ren.le_refl ρ') hrel.hr hrel.bel (KeepsOthers.refl w') (v:=.when true _) (u:=u) ⟨fun _=>hv,fun e=>(by cases e)⟩ hs
        exact ih' _ _ _ _ _ hs2 h2 (Ren.le_trans hle (Ren.le_trans hl' hl2))
      ·cases b
       ·exact⟨bz ro o w _,skip (v:=vno) ⟨fun e=>(by cases e),fun _=>rfl⟩ (h.withTm (hno rfl)) (hs.2 rfl)⟩
       ·exact step (h.withTm ((ht rfl ρ a h.tr).lit (hyes rfl))) (hs.1 rfl)
     ·cases b
      ·exact⟨bz ro o w _,skip (v:=vno) ⟨fun e=>(by cases e),fun _=>rfl⟩ (h.withTm (hno rfl)) (hs.2 rfl)⟩
      ·exact step (h.withTm ((ht rfl ρ a h.tr).lit (hyes rfl))) (hs.1 rfl)
    ·exact hs.elim
theorem jL(hE:E.Ok P)(hps:PsOk E P){hd:Hd}(hhd:HdOk E.G P hd){ops:Array Oper}{k:Tm->List O->T}{kx:Exit->Tm->List O->T}{Q:Exit->Tm->List O->Prop}{n:Nat}{ro:Option Nat}{Qx:Exit->Act->World->Prop}{ρ0:Ren}
  (hQx:∀ a' w',(∃ tm' hp' ρ',Rel E.G B w0 S N D gs ρ' tm' hp' a' w'/\ρ0.le ρ'/\sat E.G P Q (k tm' hp'))->Qx .normal a' w')
  (hQp:∀ e a' w',(∃ tm' hp' ρ',Rel E.G B w0 S N D gs ρ' tm' hp' a' w'/\ρ0.le ρ'/\sat E.G P Q (kx e tm' hp'))->Qx e a' w') :
  ∀ (rest pre:List Oper) (tm:Tm) (hp:List O) (ρ:Ren) (a:Act) (w:World),ops.toList=pre++rest->sat E.G P Q (cZ E hd N ops.toList rest tm hp k kx)->Rel E.G B w0 S N D gs ρ tm hp a w->ρ0.le ρ ->
   wpOpsIn (Fr ro) n P ops Qx (List.range' pre.length rest.length) a w:=by
 intro rest pre tm hp ρ a w hops hs h hle
 have:=nc (n:=n) (ro:=ro) (tl:=[]) (suf:=[]) hE hps hhd (ops:=ops) (Qx:=Qx) (ρ0:=ρ0) (k:=k) (kx:=kx) (Q:=Q) (fun a' w' h=>hQx a' w' h) hQp rest pre tm hp ρ a w (by rw[hops,List.append_nil]) hs h hle
 rwa [List.append_nil]at this
end
end
end Go.Ab
namespace Go
section
variable{F:Fence}{n:Nat}{P:Program}{Q:Exit->Act->World->Prop}{a:Act}{w:World}{b:Frame}{k:List Item}{cs:List Frame}
theorem stepR_scope'{c:Code}:step P (lone (b.atR a (.code (.scope c)::k)) cs w)=.next (lone (b.atR a (.code c::.inScope c::k)) cs w):=
 step_lone_go (by simp[stepG,stepG.exec,Frame.atR])
theorem stepR_inScope'{c:Code}:step P (lone (b.atR a (.inScope c::k)) cs w)=.next (lone (b.atR a k) cs w):=
 step_lone_go (by simp[stepG,stepG.exec,Frame.atR])
theorem wpIn_scope{c:Code}(h:c.wpIn F n P (fun e a w=>(∀ l,e≠.goto l)/\Q e a w) a w):(Code.scope c).wpIn F n P Q a w:=by
 intro b k cs hro hb hr
 have h0:(lone (b.atR a (.code (.scope c)::k)) cs w).fenced P F:=fenced_calm hb hr rfl
 obtain⟨e,a₁,w₁,⟨hng,hq⟩,harr⟩:=h b (.inScope c::k) cs hro hb hr
 cases e with
 |normal=>exact⟨.normal,a₁,w₁,hq,.head h0 stepR_scope' (StepsIn.trans harr (.one (fenced_calm hb hr rfl) stepR_inScope'))⟩
 |exit id=>
  have hx:exitTo id (.inScope c::k)=exitTo id k:=by simp[exitTo]
  exact⟨_,a₁,w₁,hq,fun k' hk=>.head h0 stepR_scope' (harr.1 k' (by rw[hx];exact hk)),
   fun hr' hk=>let ⟨k₁,h1,h2⟩:=harr.2 hr' (by rw[hx];exact hk);⟨k₁,h1,.head h0 stepR_scope' h2⟩⟩
 |goto l=>exact absurd rfl (hng l)
 |ret=>exact⟨_,a₁,w₁,hq,.of_steps (.one h0 stepR_scope') harr⟩
 |panic ch=>exact⟨_,a₁,w₁,hq,.of_steps (.one h0 stepR_scope') harr⟩
 |outgrown=>exact⟨_,a₁,w₁,hq,.of_steps (.one h0 stepR_scope') harr⟩
end
end Go
namespace Go.Ab
open Go.RowKit
section
variable{E:Env}{G:List O}{P:Program}
section folds
variable{α β:Type}
def aH(f:α->β->β)(L:Nat->Bool):List α->Nat->β->β
 |[],_,x=>x
 |a::l,i,x=>aH f L l (i+1) (bif L i then f a x else x)
theorem cS(f:α->β->β){L L':Nat->Bool}:∀ (l:List α) (i:Nat) (x:β),(∀ k,i<=k->k<i+l.length->L k=L' k)->aH f L l i x=aH f L' l i x
 |[],_,_,_=>rfl
 |a::l,i,x,h=>by
  simp only[aH]
  rw[h i (Nat.le_refl _) (by simp)]
  exact cS f l (i+1) _ fun k h1 h2=>h k (by omega) (by simp only[List.length_cons];omega)
theorem je{γ:Type}(f:α->β->β)(g:β->γ){L L':Nat->Bool}:∀ (l:List α) (i:Nat) (x y:β),g x=g y ->
  (∀ (k:Nat) (a:α),l[k]?=some a->(∀ x y,g x=g y->g (f a x)=g (f a y))/\(L (i+k)=L' (i+k)\/∀ x,g (f a x)=g x))->g (aH f L l i x)=g (aH f L' l i y)
 |[],_,_,_,h,_=>h
 |a::l,i,x,y,h,hk=>by
  simp only[aH]
  obtain⟨h1,h2⟩:=hk 0 a rfl
  simp only[Nat.add_zero]at h2
  refine je f g l (i+1) _ _ ?_ fun k b hb=>by
   have:=hk (k+1) b (by simpa using hb)
   rwa [show i+(k+1)=i+1+k by omega]at this
  rcases h2 with h2|h2
  ·rw[h2]
   cases L' i
   ·exact h
   ·exact h1 _ _ h
  ·cases L i<;>cases L' i<;>simp only[cond_true,cond_false,h2,h]
theorem oo(f:α->β->β)(p:β->Prop){L:Nat->Bool}{j:Nat}{b:α}:∀ (l:List α) (i:Nat) (x:β),p x->i<=j->l[j-i]?=some b->L j=false ->
  (∀ (k:Nat) (a:α),l[k]?=some a->∀ x,p x->p (f a x))->(∀ (k:Nat) (a:α),l[k]?=some a->j<i+k->L (i+k)=true->∀ x,p x->f a (f b x)=f b (f a x))->p (f b x) ->
  aH f (fun k=>k==j||L k) l i x=f b (aH f L l i x):=by
 intro l
 induction l with
 |nil=>intro i x _ _ h;simp at h
 |cons a l ih=>
  intro i x hp hij hb hj hpk hc hpb
  simp only[aH]
  by_cases e:i=j
  ·subst e
   simp only[Nat.sub_self,List.getElem?_cons_zero,Option.some.injEq]at hb
   subst hb
   simp only[beq_self_eq_true,Bool.true_or,cond_true,hj,cond_false]
   have key:∀ (l:List α) (m:Nat) (x:β),p x->i<m->(∀ (k:Nat) (a:α),l[k]?=some a->∀ x,p x->p (f a x))->(∀ (k:Nat) (c:α),l[k]?=some c->L (m+k)=true->∀ x,p x->f c (f a x)=f a (f c x)) ->
     aH f (fun k=>k==i||L k) l m (f a x)=f a (aH f L l m x):=by
    intro l
    induction l with
    |nil=>intros;rfl
    |cons c l ih2=>
     intro m x hp him hpk hc
     simp only[aH]
     have hm:(m==i)=false:=by simp;omega
     rw[hm,Bool.false_or]
     cases hL:L m with
     |true=>
      simp only[cond_true]
      rw[hc 0 c rfl (by simpa using hL) x hp]
      exact ih2 (m+1) _ (hpk 0 c rfl x hp) (by omega) (fun k d hd=>hpk (k+1) d (by simpa using hd)) (fun k d hd hl=>hc (k+1) d (by simpa using hd) (by rwa [show m+(k+1)=m+1+k by omega]))
     |false=>
      simp only[cond_false]
      exact ih2 (m+1) _ hp (by omega) (fun k d hd=>hpk (k+1) d (by simpa using hd)) (fun k d hd hl=>hc (k+1) d (by simpa using hd) (by rwa [show m+(k+1)=m+1+k by omega]))
   exact key l (i+1) x hp (by omega) (fun k d hd=>hpk (k+1) d (by simpa using hd)) (fun k d hd hl=>hc (k+1) d (by simpa using hd) (by omega) (by rwa [show i+(k+1)=i+1+k by omega]))
  ·have hm:(i==j)=false:=by simpa using e
   rw[hm,Bool.false_or]
   have hb':l[j-(i+1)]?=some b:=by rw[show j-i=(j-(i+1))+1 by omega]at hb;simpa using hb
   have hpk':∀ k d,l[k]?=some d->∀ x,p x->p (f d x):=fun k d hd=>hpk (k+1) d (by simpa using hd)
   have hc':∀ k d,l[k]?=some d->j<i+1+k->L (i+1+k)=true->∀ x,p x->f d (f b x)=f b (f d x):=fun k d hd h1 h2=>hc (k+1) d (by simpa using hd) (by omega) (by rwa [show i+(k+1)=i+1+k by omega])
   have hpb':∀ x,p x->p (f b x):=fun x hx=>hpk (j-i) b hb x hx
   cases L i
   ·exact ih (i+1) _ hp (by omega) hb' hj hpk' hc' hpb
   ·exact ih (i+1) _ (hpk 0 a rfl x hp) (by omega) hb' hj hpk' hc' (hpb' _ (hpk 0 a rfl x hp))
end folds
def dN(ops:Array Oper)(L:Nat->Bool):Prop:=∀ j o,ops[j]?=some o->L j=true->∀ e∈o.after,Region.binds .any e=true->L e.on=true
def dh(ops:Array Oper)(L:Nat->Bool)(j:Nat):Prop:=∀ o,ops[j]?=some o->∀ e∈o.after,Region.binds .any e=true->L e.on=true
theorem nS:∀ (ops:List Oper) (acc:List Nat),(befs ops acc).length=acc.length+ops.length
 |[],acc=>by simp[befs]
 |o::r,acc=>by rw[befs,nS r];simp;omega
theorem iS:∀ (ops:List Oper) (acc:List Nat) (i:Nat),i<acc.length->(befs ops acc).getD i 0=acc.getD i 0
 |[],acc,i,_=>rfl
 |o::r,acc,i,h=>by
  rw[befs,iS r _ i (by simp;omega)]
  simp[List.getD,List.getElem?_append_left h]
def sG(acc:Nat->Nat)(o:Oper):Nat:=o.after.toList.foldl (fun s e=>bif Region.binds .any e then s ||| 2^e.on ||| acc e.on else s) 0
theorem vN(acc:Nat->Nat)(o:Oper)(i:Nat)(h:Nat.testBit (sG acc o) i=true):∃ e∈o.after,Region.binds .any e=true/\(i=e.on\/Nat.testBit (acc e.on) i=true):=by
 have key:∀ (l:List Edge) (s:Nat),Nat.testBit (l.foldl (fun s e=>bif Region.binds .any e then s ||| 2^e.on ||| acc e.on else s) s) i=true ->
   Nat.testBit s i=true\/∃ e∈l,Region.binds .any e=true/\(i=e.on\/Nat.testBit (acc e.on) i=true):=by
  intro l
  induction l with
  |nil=>intro s h;exact .inl h
  |cons e l ih=>
   intro s h
   rcases ih _ h with h1|⟨e',he',x⟩
   ·cases hb:Region.binds .any e with
    |true=>
     dsimp only at h1
     rw[hb]at h1
     simp only[cond_true,Nat.testBit_or,Bool.or_eq_true,Nat.testBit_two_pow]at h1
     rcases h1 with(h1|h1)|h1
     ·exact .inl h1
     ·exact .inr ⟨e,by simp,hb,.inl (of_decide_eq_true h1).symm⟩
     ·exact .inr ⟨e,by simp,hb,.inr h1⟩
    |false=>dsimp only at h1;rw[hb]at h1;exact .inl h1
   ·exact .inr ⟨e',by simp[he'],x⟩
 rcases key o.after.toList 0 h with h1|⟨e,he,x⟩
 ·simp at h1
 ·exact⟨e,by simpa using he,x⟩
theorem AP:∀ (ops:List Oper) (acc:List Nat) (j:Nat) (o:Oper),ops[j]?=some o->∃ acc':Nat->Nat,(befs ops acc).getD (acc.length+j) 0=sG acc' o /\
  ∀ k,acc' k=0\/acc' k=(befs ops acc).getD k 0/\k<acc.length+j:=by
 intro ops
 induction ops with
 |nil=>intro acc j o h;simp at h
 |cons p ops ih=>
  intro acc j o h
  cases j with
  |zero=>
   simp only[List.getElem?_cons_zero,Option.some.injEq]at h
   subst h
   refine⟨fun k=>acc.getD k 0,?_,fun k=>?_⟩
   ·rw[befs,iS _ _ _ (by simp)]
    simp[List.getD,sG]
   ·by_cases hk:k<acc.length
    ·exact .inr ⟨by rw[befs,iS _ _ _ (by simp;omega)];simp[List.getD,List.getElem?_append_left hk],by omega⟩
    ·exact .inl (by simp[List.getD,List.getElem?_eq_none (Nat.le_of_not_lt hk)])
  |succ j=>
   obtain⟨acc',h1,h2⟩:=ih (acc++[sG (fun k=>acc.getD k 0) p]) j o (by simpa using h)
   simp only[List.length_append,List.length_singleton]at h1 h2
   have hb:befs (p::ops) acc=befs ops (acc++[sG (fun k=>acc.getD k 0) p]):=rfl
   rw[hb]
   refine⟨acc',by rw[<-h1];congr 1;omega,fun k=>(h2 k).imp id fun h=>⟨h.1,by omega⟩⟩
theorem bQ{ops:Array Oper}{L:Nat->Bool}(hc:dN ops L):∀ (j:Nat),dh ops L j->∀ i,ord (befs ops.toList []) i j=true->L i=true:=by
 intro j
 induction j using Nat.strongRecOn with
 |_ j ih=>
  intro hr i h
  unfold ord at h
  cases ho:ops[j]? with
  |none=>
   have:(befs ops.toList []).getD j 0=0:=by
    have hl:=nS ops.toList []
    have:ops.size<=j:=by
     rcases Nat.lt_or_ge j ops.size with h|h
     ·simp[h]at ho
     ·exact h
    simp only[List.length_nil,Nat.zero_add,Array.length_toList]at hl
    simp[List.getD,List.getElem?_eq_none (show (befs ops.toList []).length<=j by omega)]
   rw[this]at h
   simp at h
  |some o=>
   obtain⟨acc',h1,h2⟩:=AP ops.toList [] j o (by simpa using ho)
   simp only[List.length_nil,Nat.zero_add]at h1 h2
   rw[h1]at h
   obtain⟨e,he,hb,hx⟩:=vN _ _ _ h
   have hL:=hr o ho e he hb
   rcases hx with rfl|hx
   ·exact hL
   ·rcases h2 e.on with h3|⟨h3,h4⟩
    ·rw[h3]at hx;simp at hx
    ·rw[h3]at hx
     exact ih e.on h4 (fun o' ho'=>hc e.on o' ho' hL) i hx
def Le(G hp hp':List O):Prop:=∀ b,getO G hp b≠.gone->getO G hp b≠.rsv->getO G hp' b=getO G hp b
theorem Le.refl(G hp:List O):Le G hp hp:=fun _ _ _=>rfl
theorem Cj{tm tm':Tm}{x:Operand}(h:∀ t,x=.tmp t->look tm t=look tm' t):evA E tm x=evA E tm' x:=by
 cases x<;>simp only[evA]
 exact h _ rfl
theorem zL{tm tm':Tm}{hp:List O}{op:Op}(h:∀ x∈op.operands.toList,evA E tm x=evA E tm' x):evOp E tm hp op=evOp E tm' hp op:=by
 cases op
 case move x=>simp only[evOp,h x (by simp[Op.operands])]
 case assign x=>simp only[evOp,h x (by simp[Op.operands])]
 case pick c x y=>simp only[evOp,h c (by simp[Op.operands]),h x (by simp[Op.operands]),h y (by simp[Op.operands])]
 case box t x=>simp only[evOp,h x (by simp[Op.operands])]
 case load t x=>simp only[evOp,h x (by simp[Op.operands])]
 case store t x y=>simp only[evOp,h x (by simp[Op.operands]),h y (by simp[Op.operands])]
 case fieldAddr t x i=>simp only[evOp,h x (by simp[Op.operands])]
 case indexAddr t x i=>simp only[evOp,h x (by simp[Op.operands]),h i (by simp[Op.operands])]
 case binOp o t x y t'=>simp only[evOp,h x (by simp[Op.operands]),h y (by simp[Op.operands])]
 case unOp o t x=>cases o<;>simp only[evOp,h x (by simp[Op.operands])]
 case extract x i=>simp only[evOp,h x (by simp[Op.operands])]
 case build t ps=>
  have:(ps.toList.map fun p=>(p.1,evA E tm p.2))=(ps.toList.map fun p=>(p.1,evA E tm' p.2)):=
   List.map_congr_left fun p hp=>by rw[h p.2 (by simp[Op.operands];exact⟨p.1,by simpa using hp⟩)]
  simp only[evOp,this]
 case slice t x lo hi mx=>
  have e1:optI E tm lo=optI E tm' lo:=by cases lo with|none=>rfl|some y=>simp only[optI,h y (by simp[Op.operands])]
  have e2:optI E tm hi=optI E tm' hi:=by cases hi with|none=>rfl|some y=>simp only[optI,h y (by simp[Op.operands])]
  have e3:optI E tm mx=optI E tm' mx:=by cases mx with|none=>rfl|some y=>simp only[optI,h y (by simp[Op.operands])]
  simp only[evOp,h x (by simp[Op.operands]),e1,e2,e3]
 case convert t t' x=>simp only[evOp,h x (by simp[Op.operands])]
 case index t x i=>simp only[evOp,h x (by simp[Op.operands]),h i (by simp[Op.operands])]
 case field t x i=>simp only[evOp,h x (by simp[Op.operands])]
 case nilCheck x=>simp only[evOp,h x (by simp[Op.operands])]
 case makeSlice t l c=>simp only[evOp,h l (by simp[Op.operands]),h c (by simp[Op.operands])]
 case makeFunc fn f c=>
  have:c.toList.map (evA E tm)=c.toList.map (evA E tm'):=List.map_congr_left fun x hx=>h x (by simp only[Op.operands,Array.toList_append,List.mem_append];exact .inr hx)
  have h2:f.toList.map (evA E tm)=f.toList.map (evA E tm'):=List.map_congr_left fun x hx=>h x (by simp only[Op.operands,Array.toList_append,List.mem_append];exact .inl hx)
  simp only[evOp,this,h2]
 case buildSlice t n ps=>
  have:(ps.toList.map fun p=>(p.1,evA E tm p.2))=(ps.toList.map fun p=>(p.1,evA E tm' p.2)):=
   List.map_congr_left fun p hp=>by rw[h p.2 (by simp[Op.operands];exact⟨p.1,by simpa using hp⟩)]
  simp only[evOp,this]
 case call c=>
  obtain⟨cal,args,tys⟩:=c
  have hargs:∀ x∈args.toList,evA E tm x=evA E tm' x:=fun x hx=>h x (by simp only[Op.operands,Call.operands,Array.toList_append,List.mem_append];exact .inr hx)
  have hmap:args.toList.map (evA E tm)=args.toList.map (evA E tm'):=List.map_congr_left hargs
  cases cal with
  |value f=>simp only[evOp,hmap,h f (by simp[Op.operands,Call.operands])]
  |invoke r m=>simp only[evOp]
  |builtin b=>
   cases b<;>simp only[evOp]
   ·split
    ·rename_i s x t t' hx ht
     rw[hargs s (by simp[hx]),hargs x (by simp[hx])]
    ·rfl
   ·split
    ·rename_i x t hx ht
     rw[hargs x (by simp[hx])]
    ·rfl
   ·split
    ·rename_i x r hx
     rw[hargs x (by simp[hx]),List.map_congr_left fun y hy=>hargs y (by simp[hx,hy])]
    ·rfl
   ·split
    ·rename_i x r hx
     rw[hargs x (by simp[hx]),List.map_congr_left fun y hy=>hargs y (by simp[hx,hy])]
    ·rfl
 all_goals rfl
inductive Wr where
 |none
 |new (l:List O)
 |set (id:Nat) (o:O)
structure Item where
 o:Oper
 tm:Tm
 hp:List O
 v:V
 w:Wr
def Item.putT(it:Item)(tm:Tm):Tm:=match it.o.dst with|some d=>(d,it.v)::tm|none=>tm
def Item.putH(it:Item)(hp:List O):List O:=match it.w with|.none=>hp|.new l=>hp++l|.set id o=>hp.set id o
def Item.putN(it:Item)(hp:List O):List O:=match it.w with|.new l=>hp++l|_=>hp
def Tr:List Item->Tm->List O->Tm->List O->Prop
 |[],tm,hp,tm',hp'=>tm'=tm/\hp'=hp
 |it::r,tm,hp,tm',hp'=>it.tm=tm/\it.hp=hp/\Tr r (it.putT tm) (it.putN hp) tm' hp'
theorem Tr.at:∀ {items:List Item} {tm tm':Tm} {hp hp':List O},Tr items tm hp tm' hp'->∀ (i j:Nat) (it:Item),items[j]?=some it ->
  it.tm=aH Item.putT (fun k=>decide (k<i+j)) items i tm/\it.hp=aH Item.putN (fun k=>decide (k<i+j)) items i hp
 |[],_,_,_,_,_,_,_,_,h=>by simp at h
 |x::r,tm,tm',hp,hp',⟨h1,h2,h3⟩,i,j,it,h=>by
  cases j with
  |zero=>
   simp only[List.getElem?_cons_zero,Option.some.injEq]at h
   subst h
   simp only[aH,Nat.add_zero,Nat.lt_irrefl,decide_false,cond_false]
   have:∀ {β:Type} (f:Item->β->β) (y:β),aH f (fun k=>decide (k<i)) r (i+1) y=y:=by
    intro β f y
    have key:∀ (l:List Item) (m:Nat) (y:β),i<m->aH f (fun k=>decide (k<i)) l m y=y:=by
     intro l
     induction l with
     |nil=>intros;rfl
     |cons a l ih=>
      intro m y hm
      simp only[aH]
      rw[decide_eq_false (by omega),cond_false]
      exact ih (m+1) y (by omega)
    exact key r (i+1) y (by omega)
   exact⟨by rw[this];exact h1,by rw[this];exact h2⟩
  |succ j=>
   have:=Tr.at h3 (i+1) j it (by simpa using h)
   simp only[aH]
   rw[decide_eq_true (by omega),cond_true,cond_true]
   rw[show i+(j+1)=i+1+j by omega]
   exact this
theorem Tr.fin:∀ {items:List Item} {tm tm':Tm} {hp hp':List O},Tr items tm hp tm' hp'->∀ i,tm'=aH Item.putT (fun _=>true) items i tm/\hp'=aH Item.putN (fun _=>true) items i hp
 |[],_,_,_,_,h,_=>h
 |x::r,_,_,_,_,⟨_,_,h⟩,i=>by simp only[aH,cond_true];exact Tr.fin h (i+1)
def restr(ns:List Nat)(tm:Tm):Tm:=ns.map fun t=>(t,look tm t)
theorem ij(ns:List Nat)(tm:Tm)(t:Nat):look (restr ns tm) t=if t∈ns then look tm t else .junk:=by
 induction ns with
 |nil=>rfl
 |cons n ns ih=>
  have:restr (n::ns) tm=(n,look tm n)::restr ns tm:=rfl
  rw[this,bx,ih]
  by_cases e:n=t
  ·subst e;simp
  ·rw[if_neg e]
   by_cases h:t∈ns
   ·simp[h]
   ·simp[h,Ne.symm e]
theorem TR.restr{ρ:Ren}{tm tmX:Tm}{a:Act}(ht:TR ρ tmX a){ns:List Nat}(h:∀ t∈ns,look tmX t=look tm t):TR ρ (restr ns tm) a:=fun t=>by
 rw[ij]
 split
 ·rename_i hm;rw[<-h t hm];exact ht t
 ·trivial
theorem oQ{t:Nat}:∀ (l:List Operand),Operand.tmp t∈l->t∈tmpsOf l
 |[],h=>by simp at h
 |x::l,h=>by
  rcases List.mem_cons.1 h with rfl|h
  ·simp[tmpsOf]
  ·have:=oQ l h
   cases x<;>simp[tmpsOf,this]
theorem DW{all:List Oper}{o:Oper}{tm:Tm}{x:Operand}(h:x∈o.op.operands.toList):evA E (restr (names all o) tm) x=evA E tm x:=by
 refine Cj fun t e=>?_
 subst e
 rw[ij,if_pos]
 exact List.mem_append.2 (.inl (oQ _ h))
theorem bR{all:List Oper}{o:Oper}{tm:Tm}{hp:List O}:evOp E (restr (names all o) tm) hp o.op=evOp E tm hp o.op:=zL fun _ h=>DW h
def SemQ(E:Env)(P:Program)(ops:Array Oper)(it:Item):Prop:=
 it.w=.none/\(∀ c,it.o.op≠.defer c)/\∀ ρ a w,TR ρ (restr (names ops.toList it.o) it.tm) a->HV E.G ρ it.hp w ->
  (Region.wanted it.o (yielded ops a.tmps)=true->Ea P ρ w a it.o it.v)/\(Region.wanted it.o (yielded ops a.tmps)=false->VR ρ it.v undef)
def SemC(E:Env)(P:Program)(ops:Array Oper)(N:Nat)(it:Item):Prop:=
 it.w=.none/\loud it.o.op=true/\∀ tmX hpX,hpX.length=it.hp.length->Le E.G it.hp hpX ->
  ∀ B w0 S D gs ρ a w,Rel E.G B w0 S N D gs ρ tmX hpX a w->TR ρ (restr (names ops.toList it.o) it.tm) a ->
   (Region.wanted it.o (yielded ops a.tmps)=true->∀ n ro (next:Act->World->Prop) Qx,(∀ u w' ρ',VR ρ' it.v u->Rel E.G B w0 S N D gs ρ' tmX hpX a w'->ρ.le ρ'->next (a.put it.o.dst u) w')->it.o.wpIn (Fr ro) n P a w next Qx) /\
   (Region.wanted it.o (yielded ops a.tmps)=false->VR ρ it.v undef)
def SemL(E:Env)(P:Program)(ops:Array Oper)(N:Nat)(it:Item):Prop:=
 ∃ l,it.w=.new l/\loud it.o.op=true/\∀ tmX hpX,hpX.length=it.hp.length->Le E.G it.hp hpX ->
  ∀ B w0 S D gs ρ a w,Rel E.G B w0 S N D gs ρ tmX hpX a w->TR ρ (restr (names ops.toList it.o) it.tm) a ->
   (Region.wanted it.o (yielded ops a.tmps)=true->∀ n ro (next:Act->World->Prop) Qx,(∀ u w' ρ',VR ρ' it.v u->Rel E.G B w0 S N D gs ρ' tmX (hpX++l) a w'->ρ.le ρ'->next (a.put it.o.dst u) w')->it.o.wpIn (Fr ro) n P a w next Qx) /\
   (Region.wanted it.o (yielded ops a.tmps)=false->VR ρ it.v undef/\hpX.length+l.length+1<ax)
def SemA(_E:Env)(P:Program)(id:Nat)(z:List V)(it:Item):Prop:=
 it.v=.ptr id 0 0/\it.o.guard=none/\(∀ c,it.o.op≠.defer c) /\
  ∀ (a:Act) (w:World),∃ us t,(execOp a.eval it.o).run P w=.ok (.value (.pointer (some ⟨w.heap.size,0,none⟩))) (w.alloc (.cells us.toArray t))/\∀ ρ,iZ ρ (.cells true z) us
def SemS(E:Env)(_P:Program)(ops:Array Oper)(id:Nat)(l:List V)(it:Item):Prop:=
 it.o.guard=none/\it.o.dst=none /\
  ∀ hpX,(∃ c,hpX.getD id .gone=.cells true c/\c.length=l.length)->evOp E (restr (names ops.toList it.o) it.tm) hpX it.o.op=.store id (.cells true l)
def Sets(E:Env)(P:Program)(ops:Array Oper)(base nA:Nat):List Item->Nat->Nat->List Rsv->List Rsv->Prop
 |[],_,_,rs,rs'=>rs'=rs
 |it::r,j,na,rs,rs'=>match it.w with
  |.set id o=>∃ l,o=.cells true l/\((id=base+na/\na<nA/\SemA E P id l it/\Sets E P ops base nA r (j+1) (na+1) (rs++[⟨id,j,l⟩]) rs') \/
    (Bf (befs ops.toList []) id j l rs=true/\SemS E P ops id l it/\Sets E P ops base nA r (j+1) na (rs++[⟨id,j,l⟩]) rs'))
  |_=>Sets E P ops base nA r (j+1) na rs rs'
structure jg(E:Env)(P:Program)(ops:Array Oper)(N:Nat)(j:Nat)(items:List Item):Prop where
 op:∀ (k:Nat) (it:Item),items[k]?=some it->ops[j+k]?=some it.o
 dst:∀ (k:Nat) (it:Item) d,items[k]?=some it->it.o.dst=some d->d<N
 sem:∀ (k:Nat) (it:Item),items[k]?=some it->SemQ E P ops it\/SemC E P ops N it\/SemL E P ops N it\/∃ id o,it.w=.set id o
end
section
variable{E:Env}{G:List O}{P:Program}
theorem CA{b j i:Nat}(h:(b &&& (2^j-1))=2^j-1)(hi:i<j):Nat.testBit b i=true:=by
 have:=congrArg (Nat.testBit · i) h
 simp only[Nat.testBit_and,Nat.testBit_two_pow_sub_one,hi,decide_true,Bool.and_true]at this
 exact this
structure dR(ops:Array Oper)(m:Nat):Prop where
 pair:∀ i j x y,i<j->j<m->ops[i]?=some x->ops[j]?=some y->ord (befs ops.toList []) i j=false ->
  conflict ops.toList x y=false/\(loud x.op=true->loud y.op=true->False)
 edge:∀ j o,ops[j]?=some o->∀ e∈o.after,Region.binds .any e=true->e.on<j
 full:∀ i j,i<j->j<ops.size->m<=j->ord (befs ops.toList []) i j=true
 le:m<=ops.size
theorem rR(bf:List Nat):∀ j,oF bf j<=j
 |0=>Nat.le_refl _
 |j+1=>by
  simp only[oF]
  cases(bf.getD j 0 &&& (2^j-1)==2^j-1)
  ·exact Nat.le_refl _
  ·exact Nat.le_succ_of_le (rR bf j)
theorem tU{ops:Array Oper}{m:Nat}(hm:m<=ops.size)(h:HF ops.toList (befs ops.toList []) m=true):dR ops m:=by
 simp only[HF,Bool.and_eq_true,List.all_eq_true,List.mem_range]at h
 obtain⟨⟨h1,h2⟩,h3⟩:=h
 refine⟨fun i j x y hij hj hx hy ho=>?_,fun j o ho e he hb=>?_,fun i j hij hj hmj=>?_,hm⟩
 ·have:=h1 j hj i hij
  simp only[IM,Array.getElem?_toList,hx,hy,ho,Bool.or_false,Bool.not_eq_true',Bool.or_eq_false_iff,Bool.and_eq_false_iff]at this
  refine⟨this.1,fun hx hy=>?_⟩
  rw[hx,hy]at this
  simp at this
 ·have hj:j<ops.toList.length:=by
   rw[Array.length_toList]
   exact(Array.getElem?_eq_some_iff.1 ho).1
  have:=h2 j hj
  simp only[Array.getElem?_toList,ho]at this
  rw[List.all_eq_true]at this
  have:=this e (by simpa using he)
  simp only[hb,Bool.not_true,Bool.false_or]at this
  exact aM this
 ·have:=h3 j (by simpa using hj)
  have hb:Nat.blt j m=false:=by
   cases hb:Nat.blt j m with
   |false=>rfl
   |true=>have:=aM hb;omega
  simp only[hb,Bool.false_or,beq_iff_eq]at this
  exact CA this hij
theorem jN{all:List Oper}{x y:Oper}(h:conflict all x y=false) :
  (∀ d,x.dst=some d->d∉names all y/\y.dst≠some d)/\(∀ d,y.dst=some d->d∉names all x):=by
 unfold conflict at h
 rw[Bool.or_eq_false_iff]at h
 refine⟨fun d hd=>?_,fun d hd=>?_⟩
 ·have:=h.1
  rw[hd]at this
  simp only[Bool.or_eq_false_iff]at this
  exact⟨by simpa using this.1,by simpa using this.2⟩
 ·have:=h.2
  rw[hd]at this
  simpa using this
theorem sep{ops:Array Oper}{m:Nat}(hd:dR ops m){L:Nat->Bool}(hc:dN ops L){i:Nat}(hr:dh ops L i)(hi:L i=false)(him:i<m){y:Oper}(hy:ops[i]?=some y)
  {k:Nat} (hk:k<m) {x:Oper} (hx:ops[k]?=some x) (hne:k≠i) (h1:k<i->L k=false) (h2:i<k->L k=true) :
  (∀ d,x.dst=some d->d∉names ops.toList y/\y.dst≠some d)/\(loud x.op=true->loud y.op=true->False):=by
 rcases Nat.lt_or_gt_of_ne hne with h|h
 ·have ho:ord (befs ops.toList []) k i=false:=by
   cases ho:ord (befs ops.toList []) k i with
   |false=>rfl
   |true=>have:=bQ hc i hr k ho;rw[h1 h]at this;cases this
  obtain⟨c,l⟩:=hd.pair k i x y h him hx hy ho
  exact⟨(jN c).1,l⟩
 ·have ho:ord (befs ops.toList []) i k=false:=by
   cases ho:ord (befs ops.toList []) i k with
   |false=>rfl
   |true=>
    have:=bQ hc k (fun o ho'=>hc k o ho' (h2 h)) i ho
    rw[hi]at this;cases this
  obtain⟨c,l⟩:=hd.pair i k y x h hk hy hx ho
  obtain⟨c1,c2⟩:=jN c
  exact⟨fun d hd=>⟨c2 d hd,fun e=>(c1 d e).2 hd⟩,fun a b=>l b a⟩
def Item.putF(it:Item)(f:Nat->V):Nat->V:=match it.o.dst with|some d=>fun t=>if d=t then it.v else f t|none=>f
theorem tj(it:Item)(tm:Tm):look (it.putT tm)=it.putF (look tm):=by
 funext t
 unfold Item.putT Item.putF
 cases it.o.dst with
 |none=>rfl
 |some d=>rw[bx]
theorem fF(L:Nat->Bool):∀ (items:List Item) (i:Nat) (tm:Tm),look (aH Item.putT L items i tm)=aH Item.putF L items i (look tm)
 |[],_,_=>rfl
 |a::l,i,tm=>by
  simp only[aH]
  rw[fF L l]
  cases L i
  ·rfl
  ·simp only[cond_true];rw[tj]
section step
variable{ops:Array Oper}{N m:Nat}{items:List Item}{L:Nat->Bool}{i:Nat}{it:Item}
theorem oZ(hI:jg E P ops N 0 items)(hm:items.length=m)(hd:dR ops m)(hc:dN ops L)(hr:dh ops L i)(hi:L i=false)(hit:items[i]?=some it)(tm0:Tm) :
  ∀ t∈names ops.toList it.o,look (aH Item.putT L items 0 tm0) t=look (aH Item.putT (fun k=>decide (k<i)) items 0 tm0) t:=by
 intro t ht
 rw[fF,fF]
 have him:i<m:=by rw[<-hm];exact(List.getElem?_eq_some_iff.1 hit).1
 have hy:=hI.op i it hit
 rw[Nat.zero_add]at hy
 refine je Item.putF (fun f=>f t) items 0 _ _ rfl fun k a ha=>⟨fun x y h=>?_,?_⟩
 ·unfold Item.putF;cases a.o.dst with|none=>exact h|some d=>dsimp only;split<;>first|rfl|exact h
 ·rw[Nat.zero_add]
  have hkm:k<m:=by rw[<-hm];exact(List.getElem?_eq_some_iff.1 ha).1
  have hx:=hI.op k a ha
  rw[Nat.zero_add]at hx
  by_cases hki:k=i
  ·subst hki;left;rw[hi];simp
  ·by_cases hL:L k=decide (k<i)
   ·exact .inl hL
   ·right
    have hs:=(sep hd hc hr hi him hy hkm hx hki (fun h=>by cases e:L k with|false=>rfl|true=>exact absurd (by rw[e];simp[h]) hL)
     (fun h=>by cases e:L k with|true=>rfl|false=>exact absurd (by rw[e];simp;omega) hL)).1
    intro f
    unfold Item.putF
    cases hdst:a.o.dst with
    |none=>rfl
    |some d=>dsimp only;rw[if_neg];rintro rfl;exact(hs d hdst).1 ht
theorem BW(hI:jg E P ops N 0 items)(hm:items.length=m)(hd:dR ops m)(hc:dN ops L)(hr:dh ops L i)(hi:L i=false)(hit:items[i]?=some it)(tm0:Tm) :
  look (aH Item.putT (fun k=>k==i||L k) items 0 tm0)=look (it.putT (aH Item.putT L items 0 tm0)):=by
 rw[fF,tj,fF]
 have him:i<m:=by rw[<-hm];exact(List.getElem?_eq_some_iff.1 hit).1
 have hy:=hI.op i it hit
 rw[Nat.zero_add]at hy
 refine oo Item.putF (fun _=>True) items 0 _ trivial (Nat.zero_le _) (by simpa using hit) hi (fun _ _ _ _ _=>trivial) ?_ trivial
 intro k a ha hik hL x _
 rw[Nat.zero_add]at hik hL
 have hkm:k<m:=by rw[<-hm];exact(List.getElem?_eq_some_iff.1 ha).1
 have hx:=hI.op k a ha
 rw[Nat.zero_add]at hx
 have hs:=(sep hd hc hr hi him hy hkm hx (by omega) (fun h=>by omega) (fun _=>hL)).1
 unfold Item.putF
 cases hdst:a.o.dst with
 |none=>rfl
 |some d=>
  cases hdst2:it.o.dst with
  |none=>rfl
  |some d2=>
   funext t
   dsimp only
   by_cases e:d=t
   ·subst e
    rw[if_pos rfl,if_neg (fun(e2:d2=d)=>(hs d hdst).2 (by rw[hdst2,e2])),if_pos rfl]
   ·rw[if_neg e,if_neg e]
theorem gS{bf:List Nat}{id j:Nat}{l:List V}{rs:List Rsv}(h:Bf bf id j l rs=true) :
  (∀ e∈rs,e.id=id->ord bf e.at_ j=true/\e.put.length=l.length)/\∃ e∈rs,e.id=id:=by
 simp only[Bf,Bool.and_eq_true,List.all_eq_true,List.any_eq_true]at h
 refine⟨fun e he hid=>?_,?_⟩
 ·have:=h.1 e he
  subst hid
  simp only[Nat.beq_refl,Bool.not_true,Bool.false_or,Bool.and_eq_true]at this
  exact⟨this.1,Nat.eq_of_beq_eq_true this.2⟩
 ·obtain⟨e,he,hb⟩:=h.2
  exact⟨e,he,Nat.eq_of_beq_eq_true hb⟩
theorem Sets.at{base nA:Nat}{rs':List Rsv}:∀ (items:List Item) (j na:Nat) (rs:List Rsv),Sets E P ops base nA items j na rs rs'->(∀ e∈rs,base<=e.id/\e.id<base+na)->na<=nA ->
  ∀ (q:Nat) (it:Item) (id:Nat) (o:O),items[q]?=some it->it.w=.set id o->∃ l,o=.cells true l/\base<=id/\id<base+nA /\
   ((SemA E P id l it/\(∀ e∈rs,e.id≠id)/\∀ (q':Nat) (x:Item) (o':O),q'<q->items[q']?=some x->x.w≠.set id o') \/
    (SemS E P ops id l it/\(∀ e∈rs,e.id=id->ord (befs ops.toList []) e.at_ (j+q)=true/\e.put.length=l.length) /\
     (∀ (q':Nat) (x:Item) (o':O),q'<q->items[q']?=some x->x.w=.set id o'->ord (befs ops.toList []) (j+q') (j+q)=true/\∃ l',o'=.cells true l'/\l'.length=l.length) /\
     ((∃ e∈rs,e.id=id)\/∃ (q':Nat) (x:Item) (o':O),q'<q/\items[q']?=some x/\x.w=.set id o'))):=by
 intro items
 induction items with
 |nil=>intro j na rs _ _ _ q it id o h;simp at h
 |cons b r ih=>
  intro j na rs h hrs hna q it id o hit hw
  cases q with
  |zero=>
   simp only[List.getElem?_cons_zero,Option.some.injEq]at hit
   subst hit
   simp only[Sets,hw]at h
   obtain⟨l,rfl,⟨rfl,h1,h2,_⟩|⟨h1,h2,_⟩⟩:=h
   ·exact⟨l,rfl,by omega,by omega,.inl ⟨h2,fun e he=>by have:=hrs e he;omega,fun q' x o' hq=>by omega⟩⟩
   ·obtain⟨a1,e,he,hid⟩:=gS h1
    have:=hrs e he
    exact⟨l,rfl,by omega,by omega,.inr ⟨h2,a1,fun q' x o' hq=>by omega,.inl ⟨e,he,hid⟩⟩⟩
  |succ q=>
   have key:∃ na2 rs2,Sets E P ops base nA r (j+1) na2 rs2 rs'/\(∀ e∈rs2,base<=e.id/\e.id<base+na2)/\na2<=nA/\(∀ e∈rs,e∈rs2) /\
     (∀ id o,b.w=.set id o->∃ l,o=.cells true l/\(⟨id,j,l⟩:Rsv)∈rs2)/\(∀ e∈rs2,e∈rs\/b.w=.set e.id (.cells true e.put)):=by
    unfold Sets at h
    split at h
    ·rename_i id0 o0 hw0
     obtain⟨l,rfl,⟨rfl,h1,h2,h3⟩|⟨h1,h2,h3⟩⟩:=h
     ·refine⟨_,_,h3,fun e he=>?_,by omega,fun e he=>by simp[he],fun id o h=>?_,fun e he=>?_⟩
      ·rcases List.mem_append.1 he with he|he
       ·have:=hrs e he;omega
       ·simp only[List.mem_singleton]at he;subst he;dsimp only;omega
      ·rw[hw0]at h;cases h;exact⟨l,rfl,by simp⟩
      ·rcases List.mem_append.1 he with he|he
       ·exact .inl he
       ·simp only[List.mem_singleton]at he;subst he;exact .inr hw0
     ·obtain⟨a1,e0,he0,hid0⟩:=gS h1
      refine⟨_,_,h3,fun e he=>?_,hna,fun e he=>by simp[he],fun id o h=>?_,fun e he=>?_⟩
      ·rcases List.mem_append.1 he with he|he
       ·exact hrs e he
       ·simp only[List.mem_singleton]at he;subst he;have:=hrs e0 he0;dsimp only;omega
      ·rw[hw0]at h;cases h;exact⟨l,rfl,by simp⟩
      ·rcases List.mem_append.1 he with he|he
       ·exact .inl he
       ·simp only[List.mem_singleton]at he;subst he;exact .inr hw0
    ·rename_i hns
     exact⟨na,rs,h,hrs,hna,fun _ h=>h,fun id o h=>absurd h (hns id o),fun _ h=>.inl h⟩
   obtain⟨na2,rs2,k1,k2,k3,k4,k5,k6⟩:=key
   obtain⟨l,rfl,hb1,hb2,hc⟩:=ih (j+1) na2 rs2 k1 k2 k3 q it id o (by simpa using hit) hw
   refine⟨l,rfl,hb1,hb2,?_⟩
   rcases hc with⟨s1,s2,s3⟩|⟨s1,s2,s3,s4⟩
   ·refine .inl ⟨s1,fun e he=>s2 e (k4 e he),fun q' x o' hq hx hxw=>?_⟩
    cases q' with
    |zero=>
     simp only[List.getElem?_cons_zero,Option.some.injEq]at hx
     subst hx
     obtain⟨l',_,hm⟩:=k5 _ _ hxw
     exact s2 _ hm rfl
    |succ q'=>exact s3 q' x o' (by omega) (by simpa using hx) hxw
   ·refine .inr ⟨s1,fun e he hid=>?_,fun q' x o' hq hx hxw=>?_,?_⟩
    ·have:=s2 e (k4 e he) hid
     rwa [show j+1+q=j+(q+1) by omega]at this
    ·cases q' with
     |zero=>
      simp only[List.getElem?_cons_zero,Option.some.injEq]at hx
      subst hx
      obtain⟨l',rfl,hm⟩:=k5 _ _ hxw
      have:=s2 _ hm rfl
      rw[show j+1+q=j+(q+1) by omega]at this
      exact⟨this.1,l',rfl,this.2⟩
     |succ q'=>
      have:=s3 q' x o' (by omega) (by simpa using hx) hxw
      rwa [show j+1+q=j+(q+1) by omega,show j+1+q'=j+(q'+1) by omega]at this
    ·rcases s4 with⟨e,he,hid⟩|⟨q',x,o',h1,h2,h3⟩
     ·rcases k6 e he with h|h
      ·exact .inl ⟨e,h,hid⟩
      ·exact .inr ⟨0,b,_,by omega,rfl,by rw[<-hid];exact h⟩
     ·exact .inr ⟨q'+1,x,o',by omega,by simpa using h2,h3⟩
theorem jg.new_loud{j:Nat}(hI:jg E P ops N j items){k:Nat}{a:Item}(ha:items[k]?=some a){l:List O}(hw:a.w=.new l):loud a.o.op=true:=by
 rcases hI.sem k a ha with h|h|⟨_,_,h,_⟩|⟨id,o,h⟩
 ·rw[h.1]at hw;cases hw
 ·exact h.2.1
 ·exact h
 ·rw[hw]at h;cases h
theorem KW(hI:jg E P ops N 0 items)(hm:items.length=m)(hd:dR ops m)(hc:dN ops L)(hr:dh ops L i)(hi:L i=false)(hit:items[i]?=some it)
  {base nA:Nat} {rs':List Rsv} (hS:Sets E P ops base nA items 0 0 [] rs') {hp1:List O} (hl:base+nA<=hp1.length) :
  aH Item.putH (fun k=>k==i||L k) items 0 hp1=it.putH (aH Item.putH L items 0 hp1):=by
 have him:i<m:=by rw[<-hm];exact(List.getElem?_eq_some_iff.1 hit).1
 have hy:=hI.op i it hit
 rw[Nat.zero_add]at hy
 have hpk:∀ (a:Item) (x:List O),base+nA<=x.length->base+nA<=(a.putH x).length:=by
  intro a x hx
  unfold Item.putH
  cases a.w with
  |none=>exact hx
  |new l=>simp;omega
  |set id o=>simpa using hx
 have hat:=Sets.at items 0 0 [] hS (fun e he=>by simp at he) (Nat.zero_le _)
 refine oo Item.putH (fun x=>base+nA<=x.length) items 0 _ hl (Nat.zero_le _) (by simpa using hit) hi (fun _ a _ x hx=>hpk a x hx) ?_ (hpk it _ hl)
 intro k a ha hik hL x hx
 rw[Nat.zero_add]at hik hL
 have hkm:k<m:=by rw[<-hm];exact(List.getElem?_eq_some_iff.1 ha).1
 have hxo:=hI.op k a ha
 rw[Nat.zero_add]at hxo
 have hs:=(sep hd hc hr hi him hy hkm hxo (by omega) (fun h=>by omega) (fun _=>hL)).2
 unfold Item.putH
 cases hw1:a.w with
 |none=>rfl
 |new l=>
  cases hw2:it.w with
  |none=>rfl
  |new l'=>exact(hs (hI.new_loud ha hw1) (hI.new_loud hit hw2)).elim
  |set id o=>
   obtain⟨_,_,_,h4,_⟩:=hat i it id o hit hw2
   dsimp only
   rw[List.set_append_left _ _ (by omega)]
 |set id o=>
  obtain⟨l,rfl,_,h4,hcase⟩:=hat k a id o ha hw1
  cases hw2:it.w with
  |none=>rfl
  |new l'=>
   dsimp only
   rw[List.set_append_left _ _ (by omega)]
  |set id' o'=>
   dsimp only
   have hne:id≠id':=by
    rintro rfl
    rcases hcase with⟨_,_,s3⟩|⟨_,_,s3,_⟩
    ·exact s3 i it o' hik hit hw2
    ·have:=(s3 i it o' hik hit hw2).1
     rw[Nat.zero_add,Nat.zero_add]at this
     have:=bQ hc k (fun o ho'=>hc k o ho' hL) i this
     rw[hi]at this;cases this
   exact List.set_comm _ _ (Ne.symm hne)
theorem ji{base nA:Nat}:∀ (items:List Item) (i:Nat) (x y:List O),(∀ (k:Nat) (a:Item) id o,items[k]?=some a->a.w=.set id o->base<=id/\id<base+nA)->x.length=y.length ->
  (∀ b,¬ (base<=b/\b<base+nA)->x.getD b .gone=y.getD b .gone) ->
  (aH Item.putH L items i x).length=(aH Item.putN L items i y).length/\∀ b,¬ (base<=b/\b<base+nA)->(aH Item.putH L items i x).getD b .gone=(aH Item.putN L items i y).getD b .gone
 |[],_,_,_,_,h1,h2=>⟨h1,h2⟩
 |a::r,i,x,y,hr,h1,h2=>by
  simp only[aH]
  have hr':∀ (k:Nat) (a:Item) id o,r[k]?=some a->a.w=.set id o->base<=id/\id<base+nA:=fun k b id o hb hw=>hr (k+1) b id o (by simpa using hb) hw
  cases L i with
  |false=>exact ji r (i+1) x y hr' h1 h2
  |true=>
   simp only[cond_true]
   refine ji r (i+1) _ _ hr' ?_ ?_
   ·unfold Item.putH Item.putN
    cases a.w<;>simp[h1]
   ·intro b hb
    unfold Item.putH Item.putN
    cases hw:a.w with
    |none=>exact h2 b hb
    |new l=>
     dsimp only
     simp only[List.getD]at h2 ⊢
     by_cases hlt:b<x.length
     ·rw[List.getElem?_append_left hlt,List.getElem?_append_left (by omega)];exact h2 b hb
     ·rw[List.getElem?_append_right (by omega),List.getElem?_append_right (by omega),h1]
    |set id o=>
     dsimp only
     have:=hr 0 a id o rfl hw
     rw[<-h2 b hb]
     simp only[List.getD]
     rw[List.getElem?_set_ne (by omega)]
theorem mo:∀ (items:List Item) (i:Nat) (x:List O),∃ l,aH Item.putN L items i x=x++l
 |[],_,x=>⟨[],by simp[aH]⟩
 |a::r,i,x=>by
  simp only[aH]
  obtain⟨l,hl⟩:=mo r (i+1) (bif L i then a.putN x else x)
  rw[hl]
  cases L i with
  |false=>exact⟨l,rfl⟩
  |true=>
   unfold Item.putN
   cases a.w with
   |new l'=>exact⟨l'++l,by simp⟩
   |_=>exact⟨l,rfl⟩
theorem fT:∀ (items:List Item) (i:Nat) (x:List O),
  (∀ (k k':Nat) (a a':Item) l l',k<k'->items[k]?=some a->items[k']?=some a'->a.w=.new l->a'.w=.new l'->L (i+k')=true->L (i+k)=true) ->
  ∃ l,aH Item.putN (fun _=>true) items i x=aH Item.putN L items i x++l
 |[],_,x,_=>⟨[],by simp[aH]⟩
 |a::r,i,x,h=>by
  simp only[aH,cond_true]
  have h':∀ (k k':Nat) (a a':Item) l l',k<k'->r[k]?=some a->r[k']?=some a'->a.w=.new l->a'.w=.new l'->L (i+1+k')=true->L (i+1+k)=true:=fun k k' a a' l l' h1 h2 h3 h4 h5 h6=>by
   have:=h (k+1) (k'+1) a a' l l' (by omega) (by simpa using h2) (by simpa using h3) h4 h5 (by rwa [show i+(k'+1)=i+1+k' by omega])
   rwa [show i+(k+1)=i+1+k by omega]at this
  cases hL:L i with
  |true=>exact fT r (i+1) _ h'
  |false=>
   simp only[cond_false]
   cases hw:a.w with
   |new l=>
    have hno:∀ (r:List Item) (j:Nat),(∀ (k':Nat) (a':Item) l',r[k']?=some a'->a'.w=.new l'->L (j+k')=false)->aH Item.putN L r j x=x:=by
     intro r
     induction r with
     |nil=>intros;rfl
     |cons b r ih=>
      intro j hj
      simp only[aH]
      have:(bif L j then b.putN x else x)=x:=by
       cases hLj:L j with
       |false=>rfl
       |true=>
        unfold Item.putN
        cases hwb:b.w with
        |new l'=>have:=hj 0 b l' rfl hwb;rw[Nat.add_zero,hLj]at this;cases this
        |_=>rfl
      rw[this]
      exact ih (j+1) fun k' a' l' h1 h2=>by
       have:=hj (k'+1) a' l' (by simpa using h1) h2
       rwa [show j+(k'+1)=j+1+k' by omega]at this
    rw[hno r (i+1) fun k' a' l' h1 h2=>by
     cases hLk:L (i+1+k') with
     |false=>rfl
     |true=>
      have:=h 0 (k'+1) a a' l l' (by omega) rfl (by simpa using h1) hw h2 (by rwa [show i+(k'+1)=i+1+k' by omega])
      rw[Nat.add_zero,hL]at this;cases this]
    obtain⟨l2,h2⟩:=mo (L:=fun _=>true) r (i+1) (a.putN x)
    rw[h2]
    unfold Item.putN
    rw[hw]
    exact⟨l++l2,by simp⟩
   |_=>
    have:a.putN x=x:=by unfold Item.putN;rw[hw]
    rw[this]
    exact fT r (i+1) _ h'
theorem zX(hI:jg E P ops N 0 items)(hm:items.length=m)(hd:dR ops m)(hc:dN ops L)(k k':Nat)(a a':Item)(l l':List O)(hk:k<k')(ha:items[k]?=some a)(ha':items[k']?=some a')
  (hw:a.w=.new l) (hw':a'.w=.new l') (hL:L (0+k')=true):L (0+k)=true:=by
 rw[Nat.zero_add]at hL ⊢
 have hkm:k'<m:=by rw[<-hm];exact(List.getElem?_eq_some_iff.1 ha').1
 have h1:=hI.op k a ha
 have h2:=hI.op k' a' ha'
 rw[Nat.zero_add]at h1 h2
 cases ho:ord (befs ops.toList []) k k' with
 |true=>exact bQ hc k' (fun o ho'=>hc k' o ho' hL) k ho
 |false=>exact((hd.pair k k' a.o a'.o hk hkm h1 h2 ho).2 (hI.new_loud ha hw) (hI.new_loud ha' hw')).elim
variable{base nA:Nat}{rs':List Rsv}{hp0:List O}{B:Nat}{ρ:Ren}{w:World}
theorem nk(hS:Sets E P ops base nA items 0 0 [] rs'):∀ (k:Nat) (a:Item) id o,items[k]?=some a->a.w=.set id o->base<=id/\id<base+nA:=fun k a id o ha hw=>by
 obtain⟨_,_,h1,h2,_⟩:=Sets.at items 0 0 [] hS (fun e he=>by simp at he) (Nat.zero_le _) k a id o ha hw
 exact⟨h1,h2⟩
theorem fc{l l':List O}{b:Nat}(h:b<l.length):(l++l').getD b .gone=l.getD b .gone:=by
 simp[List.getD,List.getElem?_append_left h]
theorem sB{l:List O}{b:Nat}(h:l.getD b .gone≠.gone):b<l.length:=by
 rcases Nat.lt_or_ge b l.length with h1|h1
 ·exact h1
 ·simp[List.getD,List.getElem?_eq_none h1]at h
theorem Lh(hI:jg E P ops N 0 items)(hm:items.length=m)(hd:dR ops m)(hc:dN ops L)(i:Nat)
  (hS:Sets E P ops hp0.length nA items 0 0 [] rs') (hh:HR G B ρ (aH Item.putH L items 0 (hp0++List.replicate nA .rsv)) w) :
  HV G ρ (aH Item.putN (fun k=>decide (k<i)) items 0 (hp0++List.replicate nA .rsv)) w:=by
 refine⟨fun b r hr hal hnr=>?_,hh.glob⟩
 by_cases hg:ax<=b
 ·have:=hh.blocks b r hr
  rw[aA hg]at hal ⊢
  rw[aA hg]at this
  exact this hal
 ·have hg:b<ax:=by omega
  rw[aB hg]at hal hnr ⊢
  have hb:=sB hal
  obtain⟨l0,h0⟩:=mo (L:=fun k=>decide (k<i)) items 0 (hp0++List.replicate nA .rsv)
  have hout:¬ (hp0.length<=b/\b<hp0.length+nA):=by
   rintro⟨h1,h2⟩
   apply hnr
   rw[h0,fc (by simp;omega)]
   simp only[List.getD,List.getElem?_append_right h1]
   rw[List.getElem?_replicate,if_pos (by omega)]
   rfl
  obtain⟨hl,he⟩:=ji (L:=L) (base:=hp0.length) (nA:=nA) items 0 (hp0++List.replicate nA .rsv) _ (nk hS) rfl (fun _ _=>rfl)
  have hbL:b<(aH Item.putH L items 0 (hp0++List.replicate nA .rsv)).length:=by
   rcases Nat.lt_or_ge b (aH Item.putH L items 0 (hp0++List.replicate nA .rsv)).length with h|h
   ·exact h
   ·rw[hh.free b h hg]at hr;cases hr
  obtain⟨l1,h1⟩:=fT (L:=fun k=>decide (k<i)) items 0 (hp0++List.replicate nA .rsv) (fun k k' a a' l l' hk _ _ _ _ h=>by simp at h ⊢;omega)
  obtain⟨l2,h2⟩:=fT (L:=L) items 0 (hp0++List.replicate nA .rsv) (fun k k' a a' l l' hk ha ha' hw hw' h=>zX hI hm hd hc k k' a a' l l' hk ha ha' hw hw' h)
  have heq:(aH Item.putH L items 0 (hp0++List.replicate nA .rsv)).getD b .gone=(aH Item.putN (fun k=>decide (k<i)) items 0 (hp0++List.replicate nA .rsv)).getD b .gone:=by
   rw[he b hout,<-fc (l':=l2) (by omega),<-h2,h1,fc hb]
  have:=hh.blocks b r hr
  rw[aB hg,heq]at this
  exact this hal
theorem DA(hI:jg E P ops N 0 items)(hm:items.length=m)(hd:dR ops m)(hc:dN ops L)(hr:dh ops L i)(hi:L i=false)(hit:items[i]?=some it)(hlo:loud it.o.op=true)
  (hS:Sets E P ops hp0.length nA items 0 0 [] rs') :
  (aH Item.putH L items 0 (hp0++List.replicate nA .rsv)).length=(aH Item.putN (fun k=>decide (k<i)) items 0 (hp0++List.replicate nA .rsv)).length /\
   Le G (aH Item.putN (fun k=>decide (k<i)) items 0 (hp0++List.replicate nA .rsv)) (aH Item.putH L items 0 (hp0++List.replicate nA .rsv)):=by
 have him:i<m:=by rw[<-hm];exact(List.getElem?_eq_some_iff.1 hit).1
 have hy:=hI.op i it hit
 rw[Nat.zero_add]at hy
 have hN:aH Item.putN L items 0 (hp0++List.replicate nA .rsv)=aH Item.putN (fun k=>decide (k<i)) items 0 (hp0++List.replicate nA .rsv):=by
  refine je Item.putN id items 0 _ _ rfl fun k a ha=>⟨fun x y h=>by rw[show x=y from h],?_⟩
  rw[Nat.zero_add]
  have hkm:k<m:=by rw[<-hm];exact(List.getElem?_eq_some_iff.1 ha).1
  have hx:=hI.op k a ha
  rw[Nat.zero_add]at hx
  by_cases hki:k=i
  ·subst hki;left;rw[hi];simp
  ·by_cases hL:L k=decide (k<i)
   ·exact .inl hL
   ·right
    have hs:=(sep hd hc hr hi him hy hkm hx hki (fun h=>by cases e:L k with|false=>rfl|true=>exact absurd (by rw[e];simp[h]) hL)
     (fun h=>by cases e:L k with|true=>rfl|false=>exact absurd (by rw[e];simp;omega) hL)).2
    intro x
    unfold Item.putN
    cases hw:a.w with
    |new l=>exact(hs (hI.new_loud ha hw) hlo).elim
    |_=>rfl
 obtain⟨hl,he⟩:=ji (L:=L) (base:=hp0.length) (nA:=nA) items 0 (hp0++List.replicate nA .rsv) _ (nk hS) rfl (fun _ _=>rfl)
 refine⟨by rw[hl,hN],fun b hal hnr=>?_⟩
 by_cases hg:ax<=b
 ·rw[aA hg,aA hg]
 ·have hg:b<ax:=by omega
  rw[aB hg]at hal hnr
  rw[aB hg,aB hg]
  obtain⟨l0,h0⟩:=mo (L:=fun k=>decide (k<i)) items 0 (hp0++List.replicate nA .rsv)
  have hout:¬ (hp0.length<=b/\b<hp0.length+nA):=by
   rintro⟨h1,h2⟩
   apply hnr
   rw[h0,fc (by simp;omega)]
   simp only[List.getD,List.getElem?_append_right h1]
   rw[List.getElem?_replicate,if_pos (by omega)]
   rfl
  rw[he b hout,hN]
theorem Nk(_hS:Sets E P ops hp0.length nA items 0 0 [] rs'){id:Nat}(h1:hp0.length<=id)(h2:id<hp0.length+nA) :
  (∀ (k:Nat) (a:Item) o,items[k]?=some a->L k=true->a.w≠.set id o)->(aH Item.putH L items 0 (hp0++List.replicate nA .rsv)).getD id .gone=.rsv:=by
 intro h
 have key:∀ (items:List Item) (i:Nat) (x:List O),id<x.length->x.getD id .gone=.rsv->(∀ (k:Nat) (a:Item) o,items[k]?=some a->L (i+k)=true->a.w≠.set id o)->(aH Item.putH L items i x).getD id .gone=.rsv:=by
  intro items
  induction items with
  |nil=>intro i x _ hx _;exact hx
  |cons a r ih=>
   intro i x hlt hx h
   simp only[aH]
   have h':∀ (k:Nat) (a:Item) o,r[k]?=some a->L (i+1+k)=true->a.w≠.set id o:=fun k b o hb hL=>h (k+1) b o (by simpa using hb) (by rwa [show i+(k+1)=i+1+k by omega])
   cases hL:L i with
   |false=>exact ih (i+1) x hlt hx h'
   |true=>
    simp only[cond_true]
    unfold Item.putH
    cases hw:a.w with
    |none=>exact ih (i+1) x hlt hx h'
    |new l=>exact ih (i+1) _ (by simp;omega) (by rw[fc hlt];exact hx) h'
    |set id' o=>
     have hne:id'≠id:=by rintro rfl;exact h 0 a o rfl hL hw
     exact ih (i+1) _ (by simpa using hlt) (by rw[<-hx];simp only[List.getD];rw[List.getElem?_set_ne hne]) h'
 refine key items 0 _ (by simp;omega) ?_ (fun k a o ha hL=>h k a o ha (by rwa [Nat.zero_add]at hL))
 simp only[List.getD,List.getElem?_append_right h1]
 rw[List.getElem?_replicate,if_pos (by omega)]
 rfl
theorem NM{id n:Nat}(hlt:id<hp0.length+nA)(hall:∀ (k:Nat) (a:Item) o,items[k]?=some a->L k=true->a.w=.set id o->∃ l,o=.cells true l/\l.length=n)
  (hex:∃ (k:Nat) (a:Item) (o:O),items[k]?=some a/\L k=true/\a.w=.set id o):∃ c,(aH Item.putH L items 0 (hp0++List.replicate nA .rsv)).getD id .gone=.cells true c/\c.length=n:=by
 have key:∀ (items:List Item) (i:Nat) (x:List O),id<x.length->(∀ (k:Nat) (a:Item) o,items[k]?=some a->L (i+k)=true->a.w=.set id o->∃ l,o=.cells true l/\l.length=n) ->
   ((∃ c,x.getD id .gone=.cells true c/\c.length=n)\/∃ (k:Nat) (a:Item) (o:O),items[k]?=some a/\L (i+k)=true/\a.w=.set id o)->∃ c,(aH Item.putH L items i x).getD id .gone=.cells true c/\c.length=n:=by
  intro items
  induction items with
  |nil=>intro i x _ _ h;rcases h with h|⟨k,a,o,h,_⟩;exact h;simp at h
  |cons a r ih=>
   intro i x hlt h hx
   simp only[aH]
   have h':∀ (k:Nat) (a:Item) o,r[k]?=some a->L (i+1+k)=true->a.w=.set id o->∃ l,o=.cells true l/\l.length=n:=fun k b o hb hL=>h (k+1) b o (by simpa using hb) (by rwa [show i+(k+1)=i+1+k by omega])
   have hx':(∃ c,x.getD id .gone=.cells true c/\c.length=n)\/(∃ o,L i=true/\a.w=.set id o)\/∃ (k:Nat) (a:Item) (o:O),r[k]?=some a/\L (i+1+k)=true/\a.w=.set id o:=by
    rcases hx with hx|⟨k,b,o,h1,h2,h3⟩
    ·exact .inl hx
    ·cases k with
     |zero=>simp only[List.getElem?_cons_zero,Option.some.injEq]at h1;subst h1;exact .inr (.inl ⟨o,h2,h3⟩)
     |succ k=>exact .inr (.inr ⟨k,b,o,by simpa using h1,by rwa [show i+(k+1)=i+1+k by omega]at h2,h3⟩)
   cases hL:L i with
   |false=>
    refine ih (i+1) x hlt h' ?_
    rcases hx' with h1|⟨o,h1,_⟩|h1
    ·exact .inl h1
    ·rw[hL]at h1;cases h1
    ·exact .inr h1
   |true=>
    simp only[cond_true]
    unfold Item.putH
    cases hw:a.w with
    |none=>
     refine ih (i+1) x hlt h' ?_
     rcases hx' with h1|⟨o,_,h1⟩|h1
     ·exact .inl h1
     ·rw[hw]at h1;cases h1
     ·exact .inr h1
    |new l=>
     refine ih (i+1) _ (by simp;omega) h' ?_
     rcases hx' with⟨c,h1,h2⟩|⟨o,_,h1⟩|h1
     ·exact .inl ⟨c,by rw[fc hlt];exact h1,h2⟩
     ·rw[hw]at h1;cases h1
     ·exact .inr h1
    |set id' o=>
     by_cases hid:id'=id
     ·subst hid
      obtain⟨l,rfl,hl⟩:=h 0 a o rfl hL hw
      exact ih (i+1) _ (by simpa using hlt) h' (.inl ⟨l,by simp[List.getD,hlt],hl⟩)
     ·refine ih (i+1) _ (by simpa using hlt) h' ?_
      rcases hx' with⟨c,h1,h2⟩|⟨o',_,h1⟩|h1
      ·exact .inl ⟨c,by rw[<-h1];simp only[List.getD];rw[List.getElem?_set_ne hid],h2⟩
      ·rw[hw]at h1;cases h1;exact absurd rfl hid
      ·exact .inr h1
 refine key items 0 _ (by simp;omega) (fun k a o ha hL=>hall k a o ha (by rwa [Nat.zero_add]at hL)) (.inr ?_)
 obtain⟨k,a,o,h1,h2,h3⟩:=hex
 exact⟨k,a,o,h1,by rwa [Nat.zero_add],h3⟩
theorem HR.activate{hp:List O}(hh:HR G B ρ hp w){id:Nat}(hid:id<ax)(hrs:hp.getD id .gone=.rsv){o:O}{us:List Value}(hnew:∀ ρ,iZ ρ o us)(t:TypeId)(hB:B<=w.heap.size) :
  HR G B (ρ.add id (dw o w.heap.size o.len)) (hp.set id o) (w.alloc (.cells us.toArray t))/\ρ.le (ρ.add id (dw o w.heap.size o.len)):=by
 have hno:ρ id=none:=hh.rsv id (by rw[aB hid];exact hrs)
 have hle:=Ren.le_add hno (dw o w.heap.size o.len)
 have hlt:id<hp.length:=sB (by rw[hrs];simp)
 have hget:∀ b',b'≠id->getO G (hp.set id o) b'=getO G hp b':=by
  intro b' hne
  by_cases hg:b'<ax
  ·rw[aB hg,aB hg]
   simp[List.getD,Ne.symm hne]
  ·rw[aA (by omega),aA (by omega)]
 have hgb:getO G (hp.set id o) id=o:=by
  rw[aB hid]
  simp[List.getD,hlt]
 have hown:=(hnew ρ).own
 refine⟨⟨?_,fun b h1 h2=>?_,fun b h1=>?_,?_,?_,fun g o' hg=>?_,by simpa using hh.small⟩,hle⟩
 ·intro b x hx hal
  by_cases e:b=id
  ·subst e
   rw[Ren.add_same]at hx
   cases hx
   rw[hgb]
   exact OR.new (hnew _) w t
  ·rw[Ren.add_other ρ _ e]at hx
   rw[hget b e]at hal ⊢
   exact((hh.blocks b x hx hal).mono hle).same (fun hp0=>heap_alloc_old w _ ((hh.blocks b x hx hal).lt hp0)) (by simp)
 ·simp only[List.length_set]at h1
  rw[Ren.add_other ρ _ (by omega)]
  exact hh.free b h1 h2
 ·by_cases e:b=id
  ·subst e;rw[hgb]at h1;exact absurd h1 (hnew ρ).nrsv
  ·rw[Ren.add_other ρ _ e];rw[hget b e]at h1;exact hh.rsv b h1
 ·intro b x hx ho hp0
  by_cases e:b=id
  ·subst e
   rw[Ren.add_same]at hx
   cases hx
   exact hB
  ·rw[Ren.add_other ρ _ e]at hx
   rw[hget b e]at ho
   exact hh.base b x hx ho hp0
 ·intro b b' x x' hx hx' hal hp0 hp0' ho hne
  by_cases e:b=id
  ·subst e
   rw[Ren.add_same]at hx
   cases hx
   rw[Ren.add_other ρ _ (Ne.symm hne)]at hx'
   rw[hget b' (Ne.symm hne)]at hal
   have:=(hh.blocks b' x' hx' hal).lt hp0'
   simp only[dw]
   omega
  ·rw[Ren.add_other ρ _ e]at hx
   rw[hget b e]at ho
   by_cases e':b'=id
   ·subst e'
    rw[Ren.add_same]at hx'
    cases hx'
    have:=(hh.blocks b x hx (fun e=>by rw[e]at ho;simp[O.own]at ho)).lt hp0
    simp only[dw]
    omega
   ·rw[Ren.add_other ρ _ e']at hx'
    rw[hget b' e']at hal
    exact hh.apart b b' x x' hx hx' hal hp0 hp0' ho hne
 ·obtain⟨r,h1,h2⟩:=hh.glob g o' hg
  exact⟨r,hle _ _ h1,h2⟩
theorem HR.pad{hp:List O}(hh:HR G B ρ hp w)(l:List O)(hsm:hp.length+l.length+1<ax):HR G B ρ (hp++l) w:=by
 have hget:∀ b x,ρ b=some x->getO G (hp++l) b=getO G hp b:=by
  intro b x hx
  by_cases hb:b<ax
  ·rw[aB hb,aB hb]
   refine fc ?_
   rcases Nat.lt_or_ge b hp.length with h|h
   ·exact h
   ·rw[hh.free b h hb]at hx;cases hx
  ·rw[aA (by omega),aA (by omega)]
 refine⟨fun b r hr hal=>?_,fun b h1 h2=>hh.free b (by simp at h1;omega) h2,fun b h1=>?_,fun b r hr ho=>?_,fun b b' r r' hr hr' hal hp0 hp0' ho hne=>?_,hh.glob,by simp;omega⟩
 ·rw[hget b r hr]at hal ⊢;exact hh.blocks b r hr hal
 ·cases hx:ρ b with
  |none=>rfl
  |some x=>rw[hget b x hx]at h1;rw[hh.rsv b h1]at hx;cases hx
 ·rw[hget b r hr]at ho;exact hh.base b r hr ho
 ·rw[hget b' r' hr']at hal;rw[hget b r hr]at ho;exact hh.apart b b' r r' hr hr' hal hp0 hp0' ho hne
theorem HR.reserve{hp:List O}(hh:HR G B ρ hp w)(n:Nat)(hsm:hp.length+n+1<ax):HR G B ρ (hp++List.replicate n .rsv) w:=by
 have hget:∀ b x,ρ b=some x->getO G (hp++List.replicate n .rsv) b=getO G hp b:=by
  intro b x hx
  by_cases hb:b<ax
  ·rw[aB hb,aB hb]
   refine fc ?_
   rcases Nat.lt_or_ge b hp.length with h|h
   ·exact h
   ·rw[hh.free b h hb]at hx;cases hx
  ·rw[aA (by omega),aA (by omega)]
 refine⟨fun b r hr hal=>?_,fun b h1 h2=>hh.free b (by simp at h1;omega) h2,fun b h1=>?_,fun b r hr ho=>?_,fun b b' r r' hr hr' hal hp0 hp0' ho hne=>?_,hh.glob,by simp;omega⟩
 ·rw[hget b r hr]at hal ⊢;exact hh.blocks b r hr hal
 ·cases hx:ρ b with
  |none=>rfl
  |some x=>rw[hget b x hx]at h1;rw[hh.rsv b h1]at hx;cases hx
 ·rw[hget b r hr]at ho;exact hh.base b r hr ho
 ·rw[hget b' r' hr']at hal;rw[hget b r hr]at ho;exact hh.apart b b' r r' hr hr' hal hp0 hp0' ho hne
end step
end
section
variable{E:Env}{P:Program}{ops:Array Oper}{N m:Nat}{items:List Item}{rs':List Rsv}{nA:Nat}{hp0:List O}{tm0:Tm}
 {B:Nat} {w0:World} {S:Nat} {D:List Deferred} {gs:List (Nat×Obj)} {ρ0:Ren} {n:Nat} {ro:Option Nat} {Qx:Exit->Act->World->Prop}
def Lof(listed:Array Bool)(k:Nat):Bool:=listed.getD k false
theorem wH{listed:Array Bool}{i:Nat}(hi:i<listed.size):Lof (listed.setIfInBounds i true)=fun k=>k==i||Lof listed k:=by
 funext k
 unfold Lof
 simp only[Array.getD_eq_getD_getElem?,Array.getElem?_setIfInBounds]
 by_cases e:i=k
 ·subst e;simp[hi]
 ·rw[if_neg e]
  have:(k==i)=false:=by simp;omega
  rw[this,Bool.false_or]
theorem fN{listed:Array Bool}(hsz:listed.size=ops.size){i:Nat}(h:i∈Region.ready .any ops listed):i<ops.size/\Lof listed i=false/\dh ops (Lof listed) i:=by
 obtain⟨h1,o,ho,h2⟩:=mem_ready.1 h
 have hlt:=(Array.getElem?_eq_some_iff.1 ho).1
 refine⟨hlt,?_,fun o' ho' e he hb=>?_⟩
 ·unfold Lof
  have:i<listed.size:=by omega
  simp only[Array.getD_eq_getD_getElem?,this,Array.getElem?_eq_getElem,Option.getD_some]at h1 ⊢
  exact h1
 ·rw[ho]at ho'
  cases ho'
  have:=h2 e he hb
  simpa[Lof]using this
theorem rE{listed:Array Bool}(hsz:listed.size=ops.size){i:Nat}(hi:i<ops.size)(hL:Lof listed i=false)(hr:dh ops (Lof listed) i):i∈Region.ready .any ops listed:=by
 refine mem_ready.2 ⟨?_,ops[i],by simp[hi],fun e he hb=>?_⟩
 ·unfold Lof at hL
  have:i<listed.size:=by omega
  simp only[Array.getD_eq_getD_getElem?,this,Array.getElem?_eq_getElem,Option.getD_some]at hL ⊢
  exact hL
 ·have:=hr ops[i] (by simp[hi]) e he hb
  simpa[Lof]using this
theorem least{p:Nat->Bool}:∀ k,p k=false->∃ j,j<=k/\p j=false/\∀ i,i<j->p i=true:=by
 intro k
 induction k using Nat.strongRecOn with
 |_ k ih=>
  intro hk
  by_cases h:∃ i,i<k/\p i=false
  ·obtain⟨i,h1,h2⟩:=h
   obtain⟨j,h3,h4,h5⟩:=ih i h1 h2
   exact⟨j,by omega,h4,h5⟩
  ·refine⟨k,Nat.le_refl _,hk,fun i hi=>?_⟩
   cases e:p i with
   |true=>rfl
   |false=>exact absurd ⟨i,hi,e⟩ h
theorem uN(hd:dR ops m):∀ (fuel p:Nat) (listed:Array Bool) (a:Act) (w:World),listed.size=ops.size->m<=p->p<=ops.size->(∀ k,k<ops.size->Lof listed k=decide (k<p))->ops.size-p<=fuel ->
  wpOpsIn (Fr ro) n P ops Qx (List.range' p (ops.size-p)) a w->wpAnyIn (Fr ro) n P .any ops Qx fuel listed a w:=by
 intro fuel
 induction fuel with
 |zero=>
  intro p listed a w hsz hmp hp hL hf h
  have hps:p=ops.size:=by omega
  subst hps
  refine⟨?_,by simpa[wpOpsIn]using h⟩
  rw[List.eq_nil_iff_forall_not_mem]
  intro i hi
  obtain⟨h1,h2,_⟩:=fN hsz hi
  rw[hL i h1]at h2
  simp at h2;omega
 |succ fuel ih=>
  intro p listed a w hsz hmp hp hL hf h
  by_cases hps:p=ops.size
  ·subst hps
   have hnil:Region.ready .any ops listed=[]:=by
    rw[List.eq_nil_iff_forall_not_mem]
    intro i hi
    obtain⟨h1,h2,_⟩:=fN hsz hi
    rw[hL i h1]at h2
    simp at h2;omega
   exact⟨fun _=>by simpa[wpOpsIn]using h,fun i hi=>by rw[hnil]at hi;cases hi⟩
  ·have hlt:p<ops.size:=by omega
   have hLp:Lof listed p=false:=by rw[hL p hlt];simp
   have hrp:dh ops (Lof listed) p:=fun o ho e he hb=>by
    have:=hd.edge p o ho e he hb
    rw[hL e.on (by omega)];simp[this]
   refine⟨fun h0=>?_,fun i hi=>?_⟩
   ·have:=rE hsz hlt hLp hrp
    rw[h0]at this;cases this
   ·obtain⟨h1,h2,h3⟩:=fN hsz hi
    have hcl:dN ops (Lof listed):=fun j o ho hj e he hb=>by
     have hjs:=(Array.getElem?_eq_some_iff.1 ho).1
     have:=hd.edge j o ho e he hb
     rw[hL j hjs]at hj
     simp only[decide_eq_true_eq]at hj
     rw[hL e.on (by omega)];simp;omega
    have hip:i=p:=by
     rw[hL i h1]at h2
     simp only[decide_eq_false_iff_not,Nat.not_lt]at h2
     rcases Nat.lt_or_ge p i with h4|h4
     ·have:=bQ hcl i h3 p (hd.full p i h4 h1 (by omega))
      rw[hLp]at this;cases this
     ·omega
    subst hip
    rw[show ops.size-i=(ops.size-(i+1))+1 by omega,List.range'_succ,wpOpsIn_cons]at h
    refine wpOpIn_mono (fun a' w' h'=>ih (i+1) _ a' w' (by simpa using hsz) (by omega) (by omega) (fun k hk=>?_) (by omega) h') h
    rw[wH (by omega)]
    dsimp only
    rw[hL k hk]
    by_cases e:k=i
    ·subst e;simp
    ·have e2:(k==i)=false:=by simpa using e
     rw[e2,Bool.false_or]
     simp only[decide_eq_decide];omega
theorem count_set:∀ (l:List Bool) (i:Nat),l[i]?=some false->(l.set i true).count false+1=l.count false
 |[],i,h=>by simp at h
 |b::l,0,h=>by simp at h;subst h;simp
 |b::l,i+1,h=>by
  have:=count_set l i (by simpa using h)
  simp only[List.set_cons_succ,List.count_cons]
  omega
theorem Rel.look{tm tm':Tm}{hp:List O}{ρ:Ren}{a:Act}{w:World}(h:Rel E.G B w0 S N D gs ρ tm hp a w)(e:look tm'=look tm):Rel E.G B w0 S N D gs ρ tm' hp a w:=
 h.withTm fun t=>by rw[e];exact h.tr t
theorem Rel.putT{tm:Tm}{hp:List O}{ρ ρ':Ren}{hp':List O}{a:Act}{w w':World}(h:Rel E.G B w0 S N D gs ρ tm hp a w)(hl:ρ.le ρ')(hr:HR E.G B ρ' hp' w')(hb:Below B w0 w')(hk:KeepsOthers w w')
  {it:Item} (hd:∀ d,it.o.dst=some d->d<N) {u:Value} (hv:VR ρ' it.v u):Rel E.G B w0 S N D gs ρ' (it.putT tm) hp' (a.put it.o.dst u) w':=by
 obtain⟨ms,hd1,hd2,hd3⟩:=h.df
 unfold Item.putT
 cases hdst:it.o.dst with
 |none=>exact⟨h.tr.mono hl,hr,hb,h.sz,⟨ms,hd1,hd2.keeps hk,hd3⟩,h.gs.keeps hk,h.bs,h.ss,Nat.le_trans h.sw hk.size⟩
 |some d=>exact⟨(h.tr.mono hl).put (by rw[h.sz];exact hd d hdst) hv,hr,hb,by simp[Act.put,h.sz],⟨ms,hd1,hd2.keeps hk,hd3⟩,h.gs.keeps hk,h.bs,h.ss,Nat.le_trans h.sw hk.size⟩
theorem cm{o:Oper}(h:o.guard=none)(f:Nat->Option Bool):Region.wanted o f=true:=by simp[Region.wanted,h]
theorem Mq(hE:E.Ok P)(hI:jg E P ops N 0 items)(hm:items.length=m)(hd:dR ops m)(hS:Sets E P ops hp0.length nA items 0 0 [] rs')(hgb:hp0.length+nA<ax)
  (hT:∀ (i:Nat) (it:Item),items[i]?=some it->it.tm=aH Item.putT (fun k=>decide (k<i)) items 0 tm0/\it.hp=aH Item.putN (fun k=>decide (k<i)) items 0 (hp0++List.replicate nA .rsv))
  (hk:∀ a w ρ,Rel E.G B w0 S N D gs ρ (aH Item.putT (fun _=>true) items 0 tm0) (aH Item.putH (fun _=>true) items 0 (hp0++List.replicate nA .rsv)) a w->ρ0.le ρ ->
   wpOpsIn (Fr ro) n P ops Qx (List.range' m (ops.size-m)) a w) :
  ∀ (fuel:Nat) (listed:Array Bool) (a:Act) (w:World) (ρ:Ren),listed.size=ops.size->dN ops (Lof listed)->(∀ k,m<=k->Lof listed k=false)->listed.toList.count false<=fuel ->
   Rel E.G B w0 S N D gs ρ (aH Item.putT (Lof listed) items 0 tm0) (aH Item.putH (Lof listed) items 0 (hp0++List.replicate nA .rsv)) a w->ρ0.le ρ->wpAnyIn (Fr ro) n P .any ops Qx fuel listed a w:=by
 intro fuel
 induction fuel with
 |zero=>
  intro listed a w ρ hsz hc hge hcnt h hle
  by_cases hall:∀ k,k<m->Lof listed k=true
  ·refine uN hd 0 m listed a w hsz (Nat.le_refl _) hd.le (fun k hks=>?_) ?_ (hk a w ρ ?_ hle)
   ·rcases Nat.lt_or_ge k m with h1|h1
    ·rw[hall k h1];simp[h1]
    ·rw[hge k h1];simp;omega
   ·rcases Nat.lt_or_ge m ops.size with h1|h1
    ·exfalso
     have:=hge m (Nat.le_refl _)
     have hmem:false∈listed.toList:=by
      unfold Lof at this
      rw[Array.getD_eq_getD_getElem?,Array.getElem?_eq_getElem (by omega),Option.getD_some]at this
      rw[<-this]
      simp
     have:=List.count_pos_iff.2 hmem
     omega
    ·omega
   ·rwa [cS (L:=Lof listed) (L':=fun _=>true) Item.putT items 0 tm0 (fun k _ hk=>hall k (by omega)),cS (L:=Lof listed) (L':=fun _=>true) Item.putH items 0 _ (fun k _ hk=>hall k (by omega))]at h
  ·exfalso
   obtain⟨k,hk1⟩:=Classical.not_forall.1 hall
   obtain⟨hkm,hk2⟩:=Classical.not_imp.1 hk1
   have hmem:false∈listed.toList:=by
    have hk3:Lof listed k=false:=by simpa using hk2
    unfold Lof at hk3
    have:=hd.le
    rw[Array.getD_eq_getD_getElem?,Array.getElem?_eq_getElem (by omega),Option.getD_some]at hk3
    rw[<-hk3]
    simp
   have:=List.count_pos_iff.2 hmem
   omega
 |succ fuel ih=>
  intro listed a w ρ hsz hc hge hcnt h hle
  by_cases hall:∀ k,k<m->Lof listed k=true
  ·refine uN hd (fuel+1) m listed a w hsz (Nat.le_refl _) hd.le (fun k hks=>?_) ?_ (hk a w ρ ?_ hle)
   ·rcases Nat.lt_or_ge k m with h1|h1
    ·rw[hall k h1];simp[h1]
    ·rw[hge k h1];simp;omega
   ·have key:∀ (l:List Bool) (m:Nat),(∀ k,m<=k->l.getD k false=false)->l.length-m<=l.count false:=by
     intro l
     induction l with
     |nil=>intro m _;simp
     |cons b l ihl=>
      intro m hm
      cases m with
      |zero=>
       have h1:=hm 0 (Nat.le_refl _)
       simp only[List.getD_cons_zero]at h1
       subst h1
       have:=ihl 0 (fun k _=>by have:=hm (k+1) (by omega);simpa using this)
       simp only[List.length_cons,List.count_cons_self]
       omega
      |succ m=>
       have:=ihl m (fun k hk=>by have:=hm (k+1) (by omega);simpa using this)
       simp only[List.length_cons,List.count_cons]
       omega
    have:=key listed.toList m (fun k hk=>by
     have:=hge k hk
     unfold Lof at this
     rw[Array.getD_eq_getD_getElem?]at this
     simpa[List.getD]using this)
    rw[Array.length_toList]at this
    omega
   ·rwa [cS (L:=Lof listed) (L':=fun _=>true) Item.putT items 0 tm0 (fun k _ hk=>hall k (by omega)),cS (L:=Lof listed) (L':=fun _=>true) Item.putH items 0 _ (fun k _ hk=>hall k (by omega))]at h
  ·obtain⟨k0,hk1⟩:=Classical.not_forall.1 hall
   obtain⟨hk0m,hk2⟩:=Classical.not_imp.1 hk1
   have hk3:Lof listed k0=false:=by simpa using hk2
   have hms:=hd.le
   refine⟨fun h0=>?_,fun i hi=>?_⟩
   ·obtain⟨j,hj1,hj2,hj3⟩:=least k0 hk3
    have:=rE hsz (show j<ops.size by omega) hj2 (fun o ho e he hb=>hj3 _ (hd.edge j o ho e he hb))
    rw[h0]at this;cases this
   ·obtain⟨h1,hLi,hri⟩:=fN hsz hi
    have him:i<m:=by
     rcases Nat.lt_or_ge i m with h2|h2
     ·exact h2
     ·have:=bQ hc i hri k0 (hd.full k0 i (by omega) h1 h2)
      rw[hk3]at this;cases this
    obtain⟨it,hit⟩:∃ it,items[i]?=some it:=⟨items[i]'(by omega),by simp⟩
    have hio:=hI.op i it hit
    rw[Nat.zero_add]at hio
    have hdstN:∀ d,it.o.dst=some d->d<N:=fun d=>hI.dst i it d hit
    have hag:=oZ hI hm hd hc hri hLi hit tm0
    have htm:=BW hI hm hd hc hri hLi hit tm0
    have hhp:=KW hI hm hd hc hri hLi hit hS (hp1:=hp0++List.replicate nA .rsv) (by simp)
    have hset:=wH (listed:=listed) (i:=i) (by omega)
    -- what comes next
    have next:∀ (a':Act) (w':World) (ρ':Ren),Rel E.G B w0 S N D gs ρ' (it.putT (aH Item.putT (Lof listed) items 0 tm0)) (it.putH (aH Item.putH (Lof listed) items 0 (hp0++List.replicate nA .rsv))) a' w'->ρ.le ρ' ->
      wpAnyIn (Fr ro) n P .any ops Qx fuel (listed.setIfInBounds i true) a' w':=by
     intro a' w' ρ' h' hl'
     refine ih _ a' w' ρ' (by simpa using hsz) ?_ ?_ ?_ ?_ (Ren.le_trans hle hl')
     ·rw[hset]
      intro j o ho hj e he hb
      dsimp only at hj ⊢
      rw[Bool.or_eq_true]at hj ⊢
      rcases hj with hj|hj
      ·rw[beq_iff_eq]at hj
       subst hj
       exact .inr (hri o ho e he hb)
      ·exact .inr (hc j o ho hj e he hb)
     ·rw[hset]
      intro k hk
      dsimp only
      rw[hge k hk,Bool.or_false]
      simp;omega
     ·have:(listed.setIfInBounds i true).toList=listed.toList.set i true:=by simp
      rw[this]
      have hf:listed.toList[i]?=some false:=by
       unfold Lof at hLi
       rw[Array.getD_eq_getD_getElem?,Array.getElem?_eq_getElem (by omega),Option.getD_some]at hLi
       rw[Array.getElem?_toList,Array.getElem?_eq_getElem (by omega),hLi]
      have:=count_set _ _ hf
      omega
     ·rw[hset,hhp]
      exact h'.look htm
    -- the temporaries and the heap that the operation was looked at with
    have hat:=Sets.at items 0 0 [] hS (fun e he=>by simp at he) (Nat.zero_le _)
    obtain⟨hitm,hihp⟩:=hT i it hit
    have hBw:B<=w.heap.size:=Nat.le_trans h.bs h.bel.size
    have htr:TR ρ (restr (names ops.toList it.o) it.tm) a:=h.tr.restr fun t ht=>by rw[hitm];exact hag t ht
    have hsem:=hI.sem i it hit
    unfold wpOpIn
    simp only[hio]
    rcases hsem with⟨hw,hnd,hq⟩|⟨hw,hlo,hq⟩|⟨l,hw,hlo,hq⟩|⟨id,o,hw⟩
    ·obtain⟨q1,q2⟩:=hq ρ a w htr (by rw[hihp];exact Lh hI hm hd hc i hS h.hr)
     have hpH:∀ x,it.putH x=x:=fun x=>by unfold Item.putH;rw[hw]
     rw[hpH]at next
     split
     ·rename_i hwant
      obtain⟨u,hrun,hv⟩:=q1 hwant
      exact⟨bz ro it.o w _,by rw[show (Fr ro).round=ro from rfl,Oper.semAt_eq ro a.eval it.o hnd,hrun];exact next _ _ ρ (h.putT (Ren.le_refl ρ) h.hr h.bel (KeepsOthers.refl w) hdstN hv) (Ren.le_refl ρ)⟩
     ·rename_i hwant
      exact⟨bz ro it.o w _,next _ _ ρ (h.putT (Ren.le_refl ρ) h.hr h.bel (KeepsOthers.refl w) hdstN (q2 (by simpa using hwant))) (Ren.le_refl ρ)⟩
    ·obtain⟨hlen,hLe⟩:=DA (G:=E.G) hI hm hd hc hri hLi hit hlo hS
     rw[<-hihp]at hlen hLe
     obtain⟨q1,q2⟩:=hq _ _ hlen hLe B w0 S D gs ρ a w h htr
     have hpH:∀ x,it.putH x=x:=fun x=>by unfold Item.putH;rw[hw]
     rw[hpH]at next
     split
     ·rename_i hwant
      exact q1 hwant n ro _ _ fun u w' ρ' hv hrel hl'=>next _ _ ρ' (hrel.putT (Ren.le_refl ρ') hrel.hr hrel.bel (KeepsOthers.refl w') hdstN hv) hl'
     ·rename_i hwant
      exact⟨bz ro it.o w _,next _ _ ρ (h.putT (Ren.le_refl ρ) h.hr h.bel (KeepsOthers.refl w) hdstN (q2 (by simpa using hwant))) (Ren.le_refl ρ)⟩
    ·obtain⟨hlen,hLe⟩:=DA (G:=E.G) hI hm hd hc hri hLi hit hlo hS
     rw[<-hihp]at hlen hLe
     have hpH:∀ x,it.putH x=x++l:=fun x=>by unfold Item.putH;rw[hw]
     rw[hpH]at next
     obtain⟨q1,q2⟩:=hq _ _ hlen hLe B w0 S D gs ρ a w h htr
     split
     ·rename_i hwant
      exact q1 hwant n ro _ _ fun u w' ρ' hv hrel hl'=>next _ _ ρ' (hrel.putT (Ren.le_refl ρ') hrel.hr hrel.bel (KeepsOthers.refl w') hdstN hv) hl'
     ·rename_i hwant
      obtain⟨q3,q4⟩:=q2 (by simpa using hwant)
      exact⟨bz ro it.o w _,next _ _ ρ (h.putT (Ren.le_refl ρ) (h.hr.pad l q4) h.bel (KeepsOthers.refl w) hdstN q3) (Ren.le_refl ρ)⟩
    ·obtain⟨l,rfl,hb1,hb2,hcase⟩:=hat i it id o hit hw
     have hpH:∀ x,it.putH x=x.set id (.cells true l):=fun x=>by unfold Item.putH;rw[hw]
     rw[hpH]at next
     -- no later one has been
     have hlater:∀ (k:Nat) (x:Item) (o':O),items[k]?=some x->Lof listed k=true->x.w=.set id o'->k<i:=by
      intro k x o' hx hLk hxw
      rcases Nat.lt_trichotomy k i with h2|h2|h2
      ·exact h2
      ·subst h2;rw[hLi]at hLk;cases hLk
      ·exfalso
       obtain⟨_,_,_,_,hc2⟩:=hat k x id o' hx hxw
       rcases hc2 with⟨_,_,s3⟩|⟨_,_,s3,_⟩
       ·exact s3 i it _ h2 hit hw
       ·have:=(s3 i it _ h2 hit hw).1
        rw[Nat.zero_add,Nat.zero_add]at this
        have:=bQ hc k (fun o ho'=>hc k o ho' hLk) i this
        rw[hLi]at this;cases this
     rcases hcase with⟨⟨hv,hgu,hnd,hrun⟩,_,s3⟩|⟨⟨hgu,hdn,hst⟩,_,s3,s4⟩
     ·rw[if_pos (cm hgu _)]
      obtain⟨us,t,hrun,hnew⟩:=hrun a w
      have hrsv:=Nk (L:=Lof listed) hS hb1 hb2 (fun k x o' hx hLk hxw=>s3 k x o' (hlater k x o' hx hLk hxw) hx hxw)
      obtain⟨hr',hl'⟩:=h.hr.activate (show id<ax by omega) hrsv hnew t hBw
      refine⟨bz ro it.o w _,?_⟩
      rw[show (Fr ro).round=ro from rfl,Oper.semAt_eq ro a.eval it.o hnd,hrun]
      refine next _ _ _ (h.putT hl' hr' (h.bel.alloc hBw _) (KeepsOthers.alloc w _) hdstN ?_) hl'
      rw[hv]
      exact⟨_,Ren.add_same _ _ _,rfl,by simp[dw,O.len],by simp[dw]⟩
     ·rw[if_pos (cm hgu _)]
      have hput:=NM (L:=Lof listed) (items:=items) (nA:=nA) (hp0:=hp0) (id:=id) (n:=l.length) hb2 (fun k x o' hx hLk hxw=>(s3 k x o' (hlater k x o' hx hLk hxw) hx hxw).2) (by
       rcases s4 with⟨e,he,_⟩|⟨q',x,o',h1,h2,h3⟩
       ·simp at he
       ·have:=(s3 q' x o' h1 h2 h3).1
        rw[Nat.zero_add,Nat.zero_add]at this
        exact⟨q',x,o',h2,bQ hc i hri q' this,h3⟩)
      have he:=hst _ hput
      obtain⟨w',hrun,hr',hb',hk'⟩:=kH hE h.hr htr he
      refine uponIn_skip he (by simp) hrun (next _ _ ρ ?_ (Ren.le_refl ρ))
      have hrel:=h.putT (it:=it) (u:=undef) (Ren.le_refl ρ) hr' (h.bel.trans hb') hk' hdstN
      have hpt:it.putT (aH Item.putT (Lof listed) items 0 tm0)=aH Item.putT (Lof listed) items 0 tm0:=by unfold Item.putT;rw[hdn]
      rw[hpt]
      obtain⟨ms,hd1,hd2,hd3⟩:=h.df
      rw[hdn]
      exact⟨h.tr,hr',h.bel.trans hb',h.sz,⟨ms,hd1,hd2.keeps hk',hd3⟩,h.gs.keeps hk',h.bs,h.ss,Nat.le_trans h.sw hk'.size⟩
end
section
variable{E:Env}{P:Program}{ops:Array Oper}{N:Nat}
theorem Le.at_{G hp hpX:List O}(h:Le G hp hpX){b:Nat}{o:O}(e:getO G hp b=o)(h1:o≠.gone)(h2:o≠.rsv):getO G hpX b=o:=by
 rw[h b (by rw[e];exact h1) (by rw[e];exact h2),e]
mutual
theorem HA{hp hpX:List O}(h:Le E.G hp hpX):∀ (v:V) (acc:List O) (r:V×List O),canon E hp v acc=some r->canon E hpX v acc=some r
 |.sl b k len cap,acc,r,e=>by
  simp only[canon]at e ⊢
  split at e
  ·rename_i ww kd zs ho;rw[h.at_ ho (by simp) (by simp)];exact e
  ·rename_i ww ks rs ho;rw[h.at_ ho (by simp) (by simp)];exact e
  ·rename_i ww m rs ho;rw[h.at_ ho (by simp) (by simp)];exact e
  ·cases e
 |.fn f l,acc,r,e=>by
  simp only[canon]at e ⊢
  split at e
  ·rename_i l' a' h';rw[fG h l acc _ h'];exact e
  ·cases e
 |.agg l,acc,r,e=>by
  simp only[canon]at e ⊢
  split at e
  ·rename_i l' a' h';rw[fG h l acc _ h'];exact e
  ·cases e
 |.lit _,_,_,e=>by simp only[canon]at e ⊢;exact e
 |.bool _,_,_,e=>by simp only[canon]at e ⊢;exact e
 |.int _ _,_,_,e=>by simp only[canon]at e ⊢;exact e
 |.str _,_,_,e=>by simp only[canon]at e ⊢;exact e
 |.nils,_,_,e=>by simp only[canon]at e ⊢;exact e
 |.ptr _ _ _,_,_,e=>by simp only[canon]at e;cases e
 |.nilp,_,_,e=>by simp only[canon]at e;cases e
 |.nilf,_,_,e=>by simp only[canon]at e;cases e
 |.yl _,_,_,e=>by simp only[canon]at e;cases e
 |.tup _,_,_,e=>by simp only[canon]at e;cases e
 |.nili,_,_,e=>by simp only[canon]at e;cases e
 |.when _ _,_,_,e=>by simp only[canon]at e;cases e
 |.junk,_,_,e=>by simp only[canon]at e;cases e
theorem fG{hp hpX:List O}(h:Le E.G hp hpX):∀ (l:List V) (acc:List O) (r:List V×List O),dA E hp l acc=some r->dA E hpX l acc=some r
 |[],acc,r,e=>by simp only[dA]at e ⊢;exact e
 |v::l,acc,r,e=>by
  simp only[dA]at e ⊢
  split at e
  ·rename_i v1 a1 h1
   rw[HA h v acc _ h1]
   dsimp only
   split at e
   ·rename_i l2 a2 h2;rw[fG h l a1 _ h2];exact e
   ·cases e
  ·cases e
end
theorem oY{hp hpX:List O}(h:Le E.G hp hpX)(hl:hpX.length=hp.length){f:V}{args:List V}{v:Bool×V}(e:dV E hp f args=some v):dV E hpX f args=some v:=by
 unfold dV at e ⊢
 simp only[eE]at e ⊢
 split at e
 ·split at e
  ·rename_i a h0 hcan
   rw[fG h _ _ _ hcan,hl]
   exact e
  ·cases e
 ·cases e
def PgOk(E:Env)(P:Program):Prop:=∀ (hp:List O) (g:FuncId) (caps args a:List V) (h:List O) (c:Bool) (v0 v':V) (new:List O),
 dA E hp (joinA g args caps) []=some (a,h)->E.pf (idF g) a h=some (c,v0,new)->c=true->V.shift (slsL (joinA g args caps)) h.length hp.length v0=some v'->new.all O.isData=true->hp.length+new.length+1<ax->h.length+new.length<ax ->
 eP E.G P (.fn g caps) args hp fun x hp'=>x=v'/\hp'=hp++new
theorem Dg{all:List Oper}{o:Oper}{i d:Nat}{want:Bool}(hg:o.guard=some (i,want))(hd:iD all i=some d):d∈names all o:=by
 simp[names,hg,hd]
theorem zP{tm:Tm}{hp:List O}{c:Call}:evOp E tm hp (.defer c)=.bad:=by simp only[evOp]
theorem nu{tm:Tm}{hp:List O}{o:Oper}{r:R}(he:evOp E tm hp o.op=r)(hr:r≠.bad)(c:Call):o.op≠.defer c:=fun h=>by
 rw[h,zP]at he;exact hr he.symm
theorem rQ(hE:E.Ok P){o:Oper}{tm:Tm}{hp:List O}{c:Option Bool}{v:V}(he:evOp E tm hp o.op=.val c v)(hc:∀ b,c=some b->b=true)(hg:o.guard=none):SemQ E P ops ⟨o,tm,hp,v,.none⟩:=by
 refine⟨rfl,nu he (by simp),fun ρ a w ht hh=>⟨fun _=>?_,fun hw=>?_⟩⟩
 ·exact ir hE hh ht (by rw[bR];exact he) hc
 ·rw[cm hg]at hw;cases hw
theorem qG{o:Oper}{tm:Tm}{hp:List O}{b:Bool}{x y v:V}(he:evOp E tm hp o.op=.br b x y)(hv:v=bif b then x else y)(hg:o.guard=none):SemQ E P ops ⟨o,tm,hp,v,.none⟩:=by
 refine⟨rfl,nu he (by simp),fun ρ a w ht hh=>⟨fun _=>?_,fun hw=>?_⟩⟩
 ·obtain⟨u,h1,h2,h3⟩:=BG (P:=P) hh ht (by rw[bR];exact he)
  refine⟨u,h1,?_⟩
  subst hv
  cases b
  ·exact h3 rfl
  ·exact h2 rfl
 ·rw[cm hg]at hw;cases hw
theorem HJ{g:Bool}{ns:List Nat}{tm tm':Tm}{ρ:Ren}{a:Act}(hun:g=true->∀ ρ t u,VR ρ (look tm t) u->VR ρ (look tm' t) u)(hg:g=true)(ht:TR ρ (restr ns tm) a):TR ρ (restr ns tm') a:=fun t=>by
 have:=ht t
 rw[ij]at this ⊢
 split
 ·rename_i hm;rw[if_pos hm]at this;exact hun hg ρ t _ this
 ·trivial
structure Grd(ops:Array Oper)(o:Oper)(tm:Tm)(g:Bool):Prop where
 ex:∃ (E:Env) (i:Nat) (want:Bool) (d:Nat),o.guard=some (i,want)/\iD ops.toList i=some d/\match qU E (look tm d) want with|.yes=>g=true|.no=>g=false|.grd b=>g=b|.bad=>False
theorem Grd.wanted{o:Oper}{tm:Tm}{g:Bool}(h:Grd ops o tm g){ρ:Ren}{a:Act}(ht:TR ρ (restr (names ops.toList o) tm) a):Region.wanted o (yielded ops a.tmps)=g:=by
 obtain⟨E,i,want,d,h1,h2,h3⟩:=h.ex
 have:=ht d
 rw[ij,if_pos (Dg h1 h2)]at this
 have hgv:=me (E:=E) (o:=o) h1 h2 this
 cases hx:qU E (look tm d) want<;>rw[hx]at h3 hgv<;>simp_all
theorem lW(hE:E.Ok P){o:Oper}{tm tm':Tm}{hp:List O}{c:Option Bool}{v:V}{g:Bool}(hg:Grd ops o tm g)(hun:g=true->∀ ρ t u,VR ρ (look tm t) u->VR ρ (look tm' t) u)
  (he:evOp E tm' hp o.op=.val c v) (hc:∀ b,c=some b->g=true->b=true):SemQ E P ops ⟨o,tm,hp,.when g v,.none⟩:=by
 refine⟨rfl,nu he (by simp),fun ρ a w ht hh=>⟨fun hw=>?_,fun hw=>?_⟩⟩
 ·rw[hg.wanted ht]at hw
  obtain⟨u,h1,h2⟩:=ir (P:=P) hE hh (HJ hun hw ht) (show evOp E (restr (names ops.toList o) tm') hp o.op=.val c v by rw[bR];exact he) (fun b hb=>hc b hb hw)
  exact⟨u,h1,fun _=>h2,fun e=>(by rw[hw]at e;cases e)⟩
 ·rw[hg.wanted ht]at hw
  exact⟨fun e=>(by rw[hw]at e;cases e),fun _=>rfl⟩
theorem tR{o:Oper}{tm:Tm}{hp:List O}(hg:Grd ops o tm false)(hd:∀ c,o.op≠.defer c):SemQ E P ops ⟨o,tm,hp,vno,.none⟩:=by
 refine⟨rfl,hd,fun ρ a w ht hh=>⟨fun hw=>?_,fun hw=>⟨fun e=>(by cases e),fun _=>rfl⟩⟩⟩
 rw[hg.wanted ht]at hw;cases hw
theorem eT{tm:Tm}{hp hpX:List O}{op:Op}{f:V}{args:List V}(h:evOp E tm hp op=.call f args):evOp E tm hpX op=.call f args:=by
 obtain⟨cl,f0,rfl,hcal,rfl,rfl⟩:=jr h
 obtain⟨callee,args,tys⟩:=cl
 dsimp only at hcal
 subst hcal
 simp only[evOp]
theorem cK{tm:Tm}{hp:List O}{op:Op}{f:V}{args:List V}(h:evOp E tm hp op=.call f args):loud op=true:=by
 obtain⟨cl,f0,rfl,hcal,rfl,rfl⟩:=jr h
 obtain⟨callee,args,tys⟩:=cl
 dsimp only at hcal
 subst hcal
 rfl
theorem yU(hps:PsOk E P){o:Oper}{tm tm':Tm}{hp:List O}{f:V}{args:List V}{v:V}{g:Bool}(hg:Grd ops o tm g)(hun:g=true->∀ ρ t u,VR ρ (look tm t) u->VR ρ (look tm' t) u)
  (he:evOp E tm' hp o.op=.call f args) {c:Bool} (hpf:dV E hp f args=some (c,v)) (hc:g=true->c=true):SemC E P ops N ⟨o,tm,hp,.when g v,.none⟩:=by
 refine⟨rfl,cK he,fun tmX hpX hlen hLe B w0 S D gs ρ a w h ht=>⟨fun hw n ro next Qx hnext=>?_,fun hw=>?_⟩⟩
 ·rw[hg.wanted ht]at hw
  refine fM h (tm':=restr (names ops.toList o) tm') (eT (hp:=hp) (by rw[bR];exact he)) (HJ hun hw ht) (hps.1 _ _ _ _ _ (oY hLe hlen hpf) (hc hw)) ?_
  rintro u w' ⟨v',hp',ρ',hv,hrel,hl,rfl,rfl⟩
  exact hnext u w' ρ' ⟨fun _=>hv,fun e=>(by rw[hw]at e;cases e)⟩ hrel hl
 ·rw[hg.wanted ht]at hw
  exact⟨fun e=>(by rw[hw]at e;cases e),fun _=>rfl⟩
theorem CE(hpg:PgOk E P){o:Oper}{tm:Tm}{hp:List O}{g:FuncId}{caps args a:List V}{h0:List O}{c:Bool}{v0 v':V}{new:List O}(hgu:o.guard=none)(he:evOp E tm hp o.op=.call (.fn g caps) args)
  (hcan:dA E hp (joinA g args caps) []=some (a,h0)) (hpf:E.pf (idF g) a h0=some (c,v0,new)) (hc:c=true) (hsh:V.shift (slsL (joinA g args caps)) h0.length hp.length v0=some v') (hdata:new.all O.isData=true) (h1:hp.length+new.length+1<ax) (h2:h0.length+new.length<ax) :
  SemL E P ops N ⟨o,tm,hp,v',.new new⟩:=by
 refine⟨new,rfl,cK he,fun tmX hpX hlen hLe B w0 S D gs ρ a w h ht=>⟨fun _ n ro next Qx hnext=>?_,fun hw=>(by rw[cm hgu]at hw;cases hw)⟩⟩
 refine fM h (tm':=restr (names ops.toList o) tm) (eT (hp:=hp) (by rw[bR];exact he)) ht
  (hpg hpX g caps args _ h0 c v0 v' new (fG hLe _ _ _ hcan) hpf hc (by dsimp only at hlen;rw[hlen];exact hsh) hdata (by dsimp only at hlen;omega) h2) ?_
 rintro u w' ⟨v',hp',ρ',hv,hrel,hl,rfl,rfl⟩
 exact hnext u w' ρ' hv hrel hl
theorem oV(hE:E.Ok P){o:Oper}{tm:Tm}{hp:List O}{ob:O}{mk:Nat->V}(hgu:o.guard=none)(he:evOp E tm hp o.op=.alloc ob mk)(hlo:loud o.op=true)(hlen:hp.length+1<ax)
  (hind:∀ hpX,evOp E tm hpX o.op=evOp E tm hp o.op):SemL E P ops N ⟨o,tm,hp,mk hp.length,.new [ob]⟩:=by
 refine⟨[ob],rfl,hlo,fun tmX hpX hl hLe B w0 S D gs ρ a w h ht=>⟨fun _ n ro next Qx hnext=>?_,fun hw=>(by rw[cm hgu]at hw;cases hw)⟩⟩
 dsimp only at hl ht hnext ⊢
 have he':evOp E (restr (names ops.toList o) tm) hpX o.op=.alloc ob mk:=by rw[bR,hind,he]
 obtain⟨us,t,u,hrun,hnew,hmk⟩:=jS hE h.hr ht he'
 have hfree:=h.hr.free hpX.length (Nat.le_refl _) (by omega)
 have hle:=Ren.le_add hfree (dw ob w.heap.size ob.len)
 have hBw:B<=w.heap.size:=Nat.le_trans h.bs h.bel.size
 obtain⟨hr',hl'⟩:=h.hr.extend (w':=w.alloc (.cells us.toArray t)) (r:=dw ob w.heap.size ob.len) (by simp) (fun k hk=>heap_alloc_old w _ hk) (OR.new (hnew.mono hle) w t) (fun _ _=>hBw) (fun _ _=>Nat.le_refl _)
  (fun _ b x hx ho hp0=>Nat.ne_of_lt ((h.hr.blocks b x hx (fun e=>by rw[e]at ho;simp[O.own]at ho)).lt hp0)) (by omega)
 have hk:=KeepsOthers.alloc w (.cells us.toArray t)
 obtain⟨ms,hd1,hd2,hd3⟩:=h.df
 refine uponIn_value he' (by simp) hrun (hnext u _ _ ?_ ⟨h.tr.mono hl',hr',h.bel.alloc hBw _,h.sz,⟨ms,hd1,hd2.keeps hk,hd3⟩,h.gs.keeps hk,h.bs,h.ss,Nat.le_trans h.sw hk.size⟩ hl')
 rw[<-hl]
 exact hmk _ _ (Ren.add_same _ _ _)
theorem Ar(hpg:PgOk E P){o:Oper}{tm tm':Tm}{hp:List O}{f:V}{args:List V}{c:Bool}{v':V}{new:List O}{g:Bool}(hg:Grd ops o tm g)(hun:g=true->∀ ρ t u,VR ρ (look tm t) u->VR ρ (look tm' t) u)(he:evOp E tm' hp o.op=.call f args)
  (hpf:Kw E hp f args=some (c,v',new)) (hc:g=true->c=true) :
  SemL E P ops N ⟨o,tm,hp,.when g v',.new new⟩:=by
 unfold Kw at hpf
 split at hpf
 ·rename_i fg caps
  split at hpf
  ·rename_i a0 h0 hcan
   split at hpf
   ·rename_i c1 v1 new1 hp1
    simp only[eE]at hpf
    split at hpf
    ·rename_i v2 hsh hdata hsz
     cases hpf
     simp only[Bool.and_eq_true]at hsz
     have hs1:=aM hsz.1
     have hs2:=aM hsz.2
     refine⟨_,rfl,cK he,fun tmX hpX hlen hLe B w0 S D gs ρ a w h ht=>⟨fun hw n ro next Qx hnext=>?_,fun hw=>?_⟩⟩
     ·rw[hg.wanted ht]at hw
      refine fM h (tm':=restr (names ops.toList o) tm') (eT (hp:=hp) (by rw[bR];exact he)) (HJ hun hw ht)
       (hpg hpX fg caps args _ h0 _ v1 _ _ (fG hLe _ _ _ hcan) hp1 (hc hw) (by dsimp only at hlen;rw[hlen];exact hsh) hdata (by dsimp only at hlen;omega) hs2) ?_
      rintro u w' ⟨v',hp',ρ',hv,hrel,hl,rfl,rfl⟩
      exact hnext u w' ρ' ⟨fun _=>hv,fun e=>(by rw[hw]at e;cases e)⟩ hrel hl
     ·rw[hg.wanted ht]at hw
      dsimp only at hlen
      exact⟨⟨fun e=>(by rw[hw]at e;cases e),fun _=>rfl⟩,by omega⟩
    ·cases hpf
   ·cases hpf
  ·cases hpf
 ·cases hpf
theorem uw(hE:E.Ok P){o:Oper}{tm tm':Tm}{hp:List O}{ob:O}{mk:Nat->V}{g:Bool}(hg:Grd ops o tm g)(hun:g=true->∀ ρ t u,VR ρ (look tm t) u->VR ρ (look tm' t) u)(he:evOp E tm' hp o.op=.alloc ob mk)(hlo:loud o.op=true)(hlen:hp.length+2<ax)
  (hind:∀ hpX,evOp E tm' hpX o.op=evOp E tm' hp o.op):SemL E P ops N ⟨o,tm,hp,.when g (mk hp.length),.new [ob]⟩:=by
 refine⟨[ob],rfl,hlo,fun tmX hpX hl hLe B w0 S D gs ρ a w h ht=>⟨fun hw n ro next Qx hnext=>?_,fun hw=>?_⟩⟩
 ·rw[hg.wanted ht]at hw
  dsimp only at hl ht hnext ⊢
  have he':evOp E (restr (names ops.toList o) tm') hpX o.op=.alloc ob mk:=by rw[bR,hind,he]
  obtain⟨us,t,u,hrun,hnew,hmk⟩:=jS hE h.hr (HJ hun hw ht) he'
  have hfree:=h.hr.free hpX.length (Nat.le_refl _) (by omega)
  have hle:=Ren.le_add hfree (dw ob w.heap.size ob.len)
  have hBw:B<=w.heap.size:=Nat.le_trans h.bs h.bel.size
  obtain⟨hr',hl'⟩:=h.hr.extend (w':=w.alloc (.cells us.toArray t)) (r:=dw ob w.heap.size ob.len) (by simp) (fun k hk=>heap_alloc_old w _ hk) (OR.new (hnew.mono hle) w t) (fun _ _=>hBw) (fun _ _=>Nat.le_refl _)
   (fun _ b x hx ho hp0=>Nat.ne_of_lt ((h.hr.blocks b x hx (fun e=>by rw[e]at ho;simp[O.own]at ho)).lt hp0)) (by omega)
  have hk:=KeepsOthers.alloc w (.cells us.toArray t)
  obtain⟨ms,hd1,hd2,hd3⟩:=h.df
  refine uponIn_value he' (by simp) hrun (hnext u _ _ ⟨fun _=>?_,fun e=>(by rw[hw]at e;cases e)⟩ ⟨h.tr.mono hl',hr',h.bel.alloc hBw _,h.sz,⟨ms,hd1,hd2.keeps hk,hd3⟩,h.gs.keeps hk,h.bs,h.ss,Nat.le_trans h.sw hk.size⟩ hl')
  rw[<-hl]
  exact hmk _ _ (Ren.add_same _ _ _)
 ·rw[hg.wanted ht]at hw
  dsimp only at hl
  exact⟨⟨fun e=>(by rw[hw]at e;cases e),fun _=>rfl⟩,by simp only[List.length_singleton];omega⟩
theorem LL{hp hpX:List O}(h:Le E.G hp hpX){t:TypeId}{s x:V}{c:Bool}{ob:O}(e:appX E hp t s x=.app none c ob):appX E hpX t s x=.app none c ob:=by
 unfold appX at e ⊢
 split at e
 ·split at e
  ·split at e
   ·split at e
    ·rename_i b2 k2 len2 cap2
     split at e
     ·rename_i hrow
      have hg:getO E.G hpX b2=getO E.G hp b2:=by
       simp only[Bool.and_eq_true]at hrow
       refine h b2 (fun hh=>?_) (fun hh=>?_)<;>(rw[hh]at hrow;simp[O.isRows]at hrow)
      split at e
      ·simp only[hg,hrow];exact e
      ·(repeat' split at e)<;>cases e
      ·cases e
     ·cases e
    ·cases e
   ·cases e
  ·cases e
 ·cases e
theorem ni{hp hpX:List O}(h:Le E.G hp hpX){tm:Tm}{cl:Call}{c:Bool}{ob:O}(e:evOp E tm hp (.call cl)=.app none c ob):evOp E tm hpX (.call cl)=.app none c ob/\loud (.call cl)=true:=by
 simp only[evOp]at e ⊢
 split at e
 ·cases e
 ·(repeat' split at e)<;>cases e
 ·rename_i hcal
  split at e
  ·split at e
   ·exact⟨LL h e,by simp only[loud,hcal]⟩
   ·cases e
  ·cases e
 all_goals ((repeat' split at e)<;>first|cases e|exact(pT e rfl).elim)
theorem Hf(hE:E.Ok P){o:Oper}{tm:Tm}{hp:List O}{cl:Call}{c:Bool}{ob:O}(hgu:o.guard=none)(ho:o.op=.call cl)(he:evOp E tm hp o.op=.app none c ob)(hc:c=true)(hlen:hp.length+1<ax) :
  SemL E P ops N ⟨o,tm,hp,.sl hp.length 0 ob.len none,.new [ob]⟩:=by
 refine⟨[ob],rfl,by rw[ho]at he ⊢;exact(ni (fun _ _ _=>rfl) he).2,fun tmX hpX hl hLe B w0 S D gs ρ a w h ht=>⟨fun _ n ro next Qx hnext=>?_,fun hw=>(by rw[cm hgu]at hw;cases hw)⟩⟩
 dsimp only at hl ht hnext hLe ⊢
 have he':evOp E (restr (names ops.toList o) tm) hpX o.op=.app none c ob:=by rw[bR,ho];rw[ho]at he;exact(ni hLe he).1
 have hBw:B<=w.heap.size:=Nat.le_trans h.bs h.bel.size
 obtain⟨u,w',r,hrun,hb',hk',hr',hl',hv⟩:=xg hE h.hr ht hBw he' hc (by omega)
 obtain⟨ms,hd1,hd2,hd3⟩:=h.df
 refine uponIn_value he' (by simp) hrun (hnext u _ _ ?_ ⟨h.tr.mono hl',hr',h.bel.trans hb',h.sz,⟨ms,hd1,hd2.keeps hk',hd3⟩,h.gs.keeps hk',h.bs,h.ss,Nat.le_trans h.sw hk'.size⟩ hl')
 rw[<-hl]
 exact hv
theorem zg(hE:E.Ok P){o:Oper}{tm:Tm}{hp:List O}{t:TypeId}{ty:Ty}(hgu:o.guard=none)(ho:o.op=.alloc t)(ht:assoc E.ty t=some ty)(id:Nat) :
  SemA E P id ty.zero ⟨o,tm,hp,.ptr id 0 0,.set id (.cells true ty.zero)⟩:=by
 obtain⟨i,z,hi,hsz,_,hz,hzero⟩:=(hE.ty t ty ht).info
 refine⟨rfl,hgu,fun c hc=>(by dsimp only at hc;rw[ho]at hc;cases hc),fun a w=>⟨z.cells.toList,t,?_,fun ρ=>iZ.cells (hzero ρ)⟩⟩
 dsimp only
 obtain⟨dst,op,ty',pos,after,guard⟩:=o
 dsimp only at ho
 subst ho
 simp[execOp,Instr.alloc,zeroValue,typeInfo,hi,hz,newVar,newRow]
theorem kT:∀ (vs pre l:List V),l.length=vs.length->putCells (pre++l) pre.length vs=pre++vs
 |[],pre,l,h=>by
  have:l=[]:=List.eq_nil_of_length_eq_zero (by simpa using h)
  simp[putCells,this]
 |v::vs,pre,[],h=>by simp at h
 |v::vs,pre,x::l,h=>by
  have:=kT vs (pre++[v]) l (by simpa using h)
  simp only[putCells]
  have e:(pre++x::l).set pre.length v=(pre++[v])++l:=by simp
  rw[e]
  simp only[List.length_append,List.length_singleton]at this
  rw[this]
  simp
theorem zn{o:Oper}{tm:Tm}{hp:List O}{t:TypeId}{ad x:Operand}{b:Nat}{ty:Ty}(hgu:o.guard=none)(hdn:o.dst=none)(ho:o.op=.store t ad x)(ha:evA E tm ad=.ptr b 0 0)(ht:assoc E.ty t=some ty)
  (hl:(Nat.beq (evA E tm x).cells.length ty.sz&&Nat.ble 1 ty.sz&&(evA E tm x).cells.all V.one)=true) (hb:b<ax) :
  SemS E P ops b (evA E tm x).cells ⟨o,tm,hp,.junk,.set b (.cells true (evA E tm x).cells)⟩:=by
 refine⟨hgu,hdn,fun hpX ⟨c,hc,hlen⟩=>?_⟩
 dsimp only
 rw[bR,ho]
 simp only[Bool.and_eq_true]at hl
 obtain⟨⟨h1,h2⟩,h3⟩:=hl
 have h1':=Nat.eq_of_beq_eq_true h1
 have hbb:Nat.ble ax b=false:=by
  cases e:Nat.ble ax b with
  |false=>rfl
  |true=>have:=Nat.le_of_ble_eq_true e;omega
 have hle:Nat.ble (0+ty.sz) c.length=true:=Nat.ble_eq_true_of_le (by omega)
 simp only[evOp,ha,ht,hbb,hc,stO,h1,h2,h3,hle,Bool.and_self]
 have:=kT (evA E tm x).cells [] c (by omega)
 simp only[List.nil_append,List.length_nil]at this
 rw[this]
section steps
variable{Q:Exit->Tm->List O->Prop}{o:Oper}{tm:Tm}{hp:List O}
theorem bE{v:V}{wr:Wr}{k:Tm->List O->T}{hp0:List O}(h:sat E.G P Q (putV N tm hp o.dst v k)):(∀ d,o.dst=some d->d<N)/\sat E.G P Q (k ((⟨o,tm,hp0,v,wr⟩:Item).putT tm) hp):=by
 unfold putV at h
 unfold Item.putT
 dsimp only
 cases hd:o.dst with
 |none=>rw[hd]at h;exact⟨fun d e=>(by cases e),h⟩
 |some d=>
  rw[hd]at h
  dsimp only at h
  split at h
  ·rename_i hlt
   rw[gv]at h
   exact⟨fun d' e=>by cases e;exact aM hlt,h⟩
  ·exact h.elim
theorem ew{g:Bool}{k:Tm->T}:∀ (l:List Operand) (tm:Tm),sat E.G P Q (fP g l tm k) ->
  ∃ tm',(g=true->∀ ρ t u,VR ρ (look tm t) u->VR ρ (look tm' t) u)/\sat E.G P Q (k tm')
 |[],tm,h=>⟨tm,fun _ _ _ _ h=>h,h⟩
 |x::r,tm,h=>by
  cases x with
  |tmp t=>
   simp only[fP]at h
   split at h
   ·rename_i g' v hl
    obtain⟨hg,h⟩:=h
    rw[cJ]at h
    obtain⟨tm',h1,h2⟩:=ew r _ h
    refine⟨tm',fun e ρ t' u hu=>h1 e ρ t' u ?_,h2⟩
    rw[bx]
    by_cases e2:t=t'
    ·subst e2
     rw[if_pos rfl]
     rw[hl]at hu
     subst e
     simp at hg
     exact hu.1 hg
    ·rw[if_neg e2];exact hu
   ·exact ew r _ h
  |const v=>exact ew r _ h
  |global g=>exact ew r _ h
  |func f=>exact ew r _ h
def DQ(E:Env)(P:Program)(ops:Array Oper)(N:Nat)(base nA:Nat)(Q:Exit->Tm->List O->Prop)(o:Oper)(j:Nat)(tm:Tm)(hp:List O)(na:Nat)(rs:List Rsv)(k:Tm->List O->Nat->List Rsv->T):Prop:=
 ∃ it:Item,it.o=o/\it.tm=tm/\it.hp=hp/\(∀ d,o.dst=some d->d<N) /\
  (((SemQ E P ops it\/SemC E P ops N it\/SemL E P ops N it)/\(∀ id o,it.w≠.set id o)/\sat E.G P Q (k (it.putT tm) (it.putN hp) na rs)) \/
   ∃ id l,it.w=.set id (.cells true l) /\
    ((id=base+na/\na<nA/\SemA E P id l it/\sat E.G P Q (k (it.putT tm) (it.putN hp) (na+1) (rs++[⟨id,j,l⟩]))) \/
     (Bf (befs ops.toList []) id j l rs=true/\SemS E P ops id l it/\sat E.G P Q (k (it.putT tm) (it.putN hp) na (rs++[⟨id,j,l⟩])))))
variable{base nA j na:Nat}{rs:List Rsv}{k:Tm->List O->Nat->List Rsv->T}
theorem vt{it:Item}(h1:it.o=o)(h2:it.tm=tm)(h3:it.hp=hp)(hw:it.w=.none)(hq:SemQ E P ops it\/SemC E P ops N it)(hs:(∀ d,o.dst=some d->d<N)/\sat E.G P Q (k (it.putT tm) hp na rs)):DQ E P ops N base nA Q o j tm hp na rs k:=by
 refine⟨it,h1,h2,h3,hs.1,.inl ⟨hq.elim .inl (fun h=>.inr (.inl h)),fun id o e=>(by rw[hw]at e;cases e),?_⟩⟩
 have:it.putN hp=hp:=by unfold Item.putN;rw[hw]
 rw[this];exact hs.2
theorem NW(hE:E.Ok P)(hpg:PgOk E P)(hg:o.guard=none)(_hbase:base+nA<ax)(hrs:∀ e∈rs,e.id<ax)
  (hs:sat E.G P Q (opD E N (befs ops.toList []) base nA o j tm hp na rs k)):DQ E P ops N base nA Q o j tm hp na rs k:=by
 have hval:∀ {c:Option Bool} {v:V},evOp E tm hp o.op=.val c v->(∀ b,c=some b->b=true)->sat E.G P Q (putV N tm hp o.dst v fun tm hp=>k tm hp na rs)->DQ E P ops N base nA Q o j tm hp na rs k:=
  fun he hc hs=>vt (it:=⟨o,tm,hp,_,.none⟩) rfl rfl rfl rfl (.inl (rQ hE he hc hg)) (bE hs)
 unfold opD wB at hs
 simp only[eE]at hs
 split at hs
 ·-- alloc
  rename_i t ho
  split at hs
  ·rename_i ty ht hlt
   obtain⟨hd,hs⟩:=bE (wr:=.set (base+na) (.cells true ty.zero)) (hp0:=hp) hs
   exact⟨⟨o,tm,hp,.ptr (base+na) 0 0,.set (base+na) (.cells true ty.zero)⟩,rfl,rfl,rfl,hd,.inr ⟨_,_,rfl,.inl ⟨rfl,aM hlt,zg hE hg ho ht _,hs⟩⟩⟩
  ·exact hs.elim
 ·-- store
  rename_i t ad x ho
  split at hs
  ·rename_i b ha hdn
   split at hs
   ·rename_i ty ht
    rw[gv]at hs
    split at hs
    ·rename_i hl
     split at hs
     ·rename_i hr
      have hb:b<ax:=by
       obtain⟨_,e,he,rfl⟩:=gS hr
       exact hrs e he
      refine⟨⟨o,tm,hp,.junk,.set b (.cells true (evA E tm x).cells)⟩,rfl,rfl,rfl,fun d e=>(by rw[hdn]at e;cases e),.inr ⟨_,_,rfl,.inr ⟨hr,zn hg hdn ho ha ht hl hb,?_⟩⟩⟩
      unfold Item.putT Item.putN
      dsimp only
      rw[hdn]
      exact hs
     ·exact hs.elim
    ·exact hs.elim
   ·exact hs.elim
  ·exact hs.elim
 ·-- call
  rename_i c ho
  split at hs
  ·split at hs
   ·rename_i v he;exact hval he (by simp) hs
   ·rename_i c v he;exact hval he (by rintro b ⟨⟩;exact hs.1) hs.2
   ·rename_i c ob he
    obtain⟨hc,hs⟩:=hs
    split at hs
    ·rename_i hlen
     rw[iO]at hs
     obtain⟨hd,hs⟩:=bE (wr:=.new [ob]) (hp0:=hp) hs
     exact⟨⟨o,tm,hp,_,.new [ob]⟩,rfl,rfl,rfl,hd,.inl ⟨.inr (.inr (Hf hE hg ho he hc (aM hlen))),fun id o e=>(by cases e),hs⟩⟩
    ·exact hs.elim
   ·exact hs.elim
  ·split at hs
   ·rename_i f args he
    rw[cJ,dL]at hs
    split at hs
    ·rename_i c0 d0 v new sl heq
     split at heq
     ·rename_i g caps
      split at heq
      ·rename_i a h hcan
       split at heq
       ·rename_i cc v0 new0 hpf
        cases heq
        split at hs
        ·rename_i v' hsh hdata hlen
         obtain⟨hcc,hs⟩:=hs
         rw[vl]at hs
         simp only[Bool.and_eq_true]at hlen
         have hlen1:=aM hlen.1
         have hlen2:=aM hlen.2
         obtain⟨hd,hs⟩:=bE (wr:=.new new) (hp0:=hp) hs
         exact⟨⟨o,tm,hp,v',.new new⟩,rfl,rfl,rfl,hd,.inl ⟨.inr (.inr (CE hpg hg he hcan hpf hcc hsh hdata hlen1 hlen2)),fun id o e=>(by cases e),hs⟩⟩
        ·exact hs.elim
       ·cases heq
      ·cases heq
     ·cases heq
    ·exact hs.elim
   ·exact hs.elim
 ·rename_i t x ho
  split at hs
  ·rename_i ob mk he
   split at hs
   ·rename_i hlen
    rw[iO]at hs
    obtain⟨hd,hs⟩:=bE (wr:=.new [ob]) (hp0:=hp) hs
    exact⟨⟨o,tm,hp,mk hp.length,.new [ob]⟩,rfl,rfl,rfl,hd,.inl ⟨.inr (.inr (oV hE hg (by rw[ho];exact he) (by rw[ho];rfl) (aM hlen) (fun hpX=>by rw[ho];rfl))),fun id o e=>(by cases e),hs⟩⟩
   ·exact hs.elim
  ·exact hs.elim
 ·rename_i t n ps ho
  split at hs
  ·rename_i ob mk he
   split at hs
   ·rename_i hlen
    rw[iO]at hs
    obtain⟨hd,hs⟩:=bE (wr:=.new [ob]) (hp0:=hp) hs
    exact⟨⟨o,tm,hp,mk hp.length,.new [ob]⟩,rfl,rfl,rfl,hd,.inl ⟨.inr (.inr (oV hE hg (by rw[ho];exact he) (by rw[ho];rfl) (aM hlen) (fun hpX=>by rw[ho];rfl))),fun id o e=>(by cases e),hs⟩⟩
   ·exact hs.elim
  ·exact hs.elim
 ·split at hs
  ·exact hs.elim
  ·split at hs
   ·rename_i v he;exact hval he (by simp) hs
   ·rename_i c v he;exact hval he (by rintro b ⟨⟩;exact hs.1) hs.2
   ·rename_i b x y he
    cases b
    ·exact vt (it:=⟨o,tm,hp,y,.none⟩) rfl rfl rfl rfl (.inl (qG he rfl hg)) (bE (hs.2 rfl))
    ·exact vt (it:=⟨o,tm,hp,x,.none⟩) rfl rfl rfl rfl (.inl (qG he rfl hg)) (bE (hs.1 rfl))
   ·exact hs.elim
theorem EN(hE:E.Ok P)(hpg:PgOk E P)(hps:PsOk E P){g:Bool}(hg:Grd ops o tm g){k':Tm->List O->T}(hk:k'=fun tm hp=>k tm hp na rs)
  (hs:sat E.G P Q (opDG E N g o tm hp k')):DQ E P ops N base nA Q o j tm hp na rs k:=by
 subst hk
 unfold opDG at hs
 obtain⟨tm',hun,hs⟩:=ew _ _ hs
 split at hs
 ·rename_i v he
  exact vt (it:=⟨o,tm,hp,_,.none⟩) rfl rfl rfl rfl (.inl (lW hE hg hun he (by simp))) (bE hs)
 ·rename_i c v he
  exact vt (it:=⟨o,tm,hp,_,.none⟩) rfl rfl rfl rfl (.inl (lW hE hg hun he (by rintro b ⟨⟩ rfl;simpa using hs.1))) (bE hs.2)
 ·rename_i f args he
  rw[cJ,dL]at hs
  split at hs
  ·rename_i cc v hpf
   exact vt (it:=⟨o,tm,hp,_,.none⟩) rfl rfl rfl rfl (.inr (yU hps hg hun he hpf (fun e=>by have:=hs.1;rw[e]at this;simpa using this))) (bE hs.2)
  ·split at hs
   ·rename_i cc v new hpn
    obtain⟨hc,hs⟩:=hs
    rw[vl]at hs
    obtain⟨hd,hs⟩:=bE (wr:=.new new) (hp0:=hp) hs
    exact⟨⟨o,tm,hp,.when g v,.new new⟩,rfl,rfl,rfl,hd,.inl ⟨.inr (.inr (Ar hpg hg hun he hpn (fun e=>by rw[e]at hc;simpa using hc))),fun id o e=>(by cases e),hs⟩⟩
   ·exact hs.elim
 ·rename_i ob mk he
  split at hs
  ·rename_i t n ps ho
   simp only[eE]at hs
   split at hs
   ·rename_i hlen
    rw[iO]at hs
    obtain⟨hd,hs⟩:=bE (wr:=.new [ob]) (hp0:=hp) hs
    exact⟨⟨o,tm,hp,.when g (mk hp.length),.new [ob]⟩,rfl,rfl,rfl,hd,.inl ⟨.inr (.inr (uw hE hg hun he (by rw[ho];rfl) (aM hlen) (fun hpX=>by rw[ho];rfl))),fun id o e=>(by cases e),hs⟩⟩
   ·exact hs.elim
  ·exact hs.elim
 ·exact hs.elim
end steps
theorem Mn(hE:E.Ok P)(hpg:PgOk E P)(hps:PsOk E P){base nA:Nat}(hbase:base+nA<ax){Q:Exit->Tm->List O->Prop}{k:Tm->List O->Nat->List Rsv->T} :
  ∀ (rest:List Oper) (j:Nat) (tm:Tm) (hp:List O) (na:Nat) (rs:List Rsv),(∀ (q:Nat) (o:Oper),rest[q]?=some o->ops[j+q]?=some o)->(∀ o∈rest,∀ c,o.op≠.defer c)->(∀ e∈rs,e.id<ax) ->
   sat E.G P Q (evD E N ops.toList (befs ops.toList []) base nA rest j tm hp na rs k) ->
   ∃ items tm' hp' na' rs',jg E P ops N j items/\items.length=rest.length/\Tr items tm hp tm' hp'/\Sets E P ops base nA items j na rs rs'/\sat E.G P Q (k tm' hp' na' rs'):=by
 intro rest
 induction rest with
 |nil=>exact fun j tm hp na rs _ _ _ hs=>⟨[],tm,hp,na,rs,⟨fun k it h=>by simp at h,fun k it d h=>by simp at h,fun k it h=>by simp at h⟩,rfl,⟨rfl,rfl⟩,rfl,hs⟩
 |cons o rest ih=>
  intro j tm hp na rs hop hnd hrs hs
  have hone:DQ E P ops N base nA Q o j tm hp na rs fun tm hp na rs=>evD E N ops.toList (befs ops.toList []) base nA rest (j+1) tm hp na rs k:=by
   unfold evD at hs
   split at hs
   ·rename_i hg
    exact NW hE hpg hg hbase hrs hs
   ·rename_i i want hg
    split at hs
    ·exact hs.elim
    ·rename_i d hd
     split at hs
     ·rename_i hb
      exact EN hE hpg hps ⟨E,i,want,d,hg,hd,by rw[hb]⟩ rfl hs
     ·rename_i hb
      exact vt (it:=⟨o,tm,hp,vno,.none⟩) rfl rfl rfl rfl (.inl (tR ⟨E,i,want,d,hg,hd,by rw[hb]⟩ (hnd o (by simp)))) (bE hs)
     ·rename_i b hb
      exact EN hE hpg hps ⟨E,i,want,d,hg,hd,by rw[hb]⟩ rfl hs
     ·exact hs.elim
  have hop':∀ (q:Nat) (o:Oper),rest[q]?=some o->ops[j+1+q]?=some o:=fun q o' h=>by
   have:=hop (q+1) o' (by simpa using h)
   rwa [show j+(q+1)=j+1+q by omega]at this
  have hnd':∀ o∈rest,∀ c,o.op≠.defer c:=fun o' h=>hnd o' (by simp[h])
  obtain⟨it,h1,h2,h3,hd,hcase⟩:=hone
  -- the first item and the others
  have mkI:∀ {items:List Item},jg E P ops N (j+1) items->(SemQ E P ops it\/SemC E P ops N it\/SemL E P ops N it\/∃ id o,it.w=.set id o)->jg E P ops N j (it::items):=by
   intro items hI hsem
   refine⟨fun q x hx=>?_,fun q x d hx=>?_,fun q x hx=>?_⟩
   ·cases q with
    |zero=>simp only[List.getElem?_cons_zero,Option.some.injEq]at hx;subst hx;rw[h1];exact hop 0 o rfl
    |succ q=>have:=hI.op q x (by simpa using hx);rwa [show j+(q+1)=j+1+q by omega]
   ·cases q with
    |zero=>simp only[List.getElem?_cons_zero,Option.some.injEq]at hx;subst hx;rw[h1];exact hd d
    |succ q=>exact hI.dst q x d (by simpa using hx)
   ·cases q with
    |zero=>simp only[List.getElem?_cons_zero,Option.some.injEq]at hx;subst hx;exact hsem
    |succ q=>exact hI.sem q x (by simpa using hx)
  rcases hcase with⟨hsem,hns,hs'⟩|⟨id,l,hw,hcase⟩
  ·obtain⟨items,tm',hp',na',rs',hI,hl,hT,hS,hk⟩:=ih (j+1) _ _ na rs hop' hnd' hrs hs'
   refine⟨it::items,tm',hp',na',rs',mkI hI (hsem.imp id fun h=>h.imp id .inl),by simp[hl],⟨h2,h3,hT⟩,?_,hk⟩
   unfold Sets
   split
   ·rename_i id o' hw;exact absurd hw (hns id o')
   ·exact hS
  ·rcases hcase with⟨rfl,hlt,hA,hs'⟩|⟨hr,hSt,hs'⟩
   ·obtain⟨items,tm',hp',na',rs',hI,hl,hT,hS,hk⟩:=ih (j+1) _ _ (na+1) (rs++[⟨base+na,j,l⟩]) hop' hnd' (fun e he=>by
     rcases List.mem_append.1 he with he|he
     ·exact hrs e he
     ·simp only[List.mem_singleton]at he;subst he;dsimp only;omega) hs'
    refine⟨it::items,tm',hp',na',rs',mkI hI (.inr (.inr (.inr ⟨_,_,hw⟩))),by simp[hl],⟨h2,h3,hT⟩,?_,hk⟩
    unfold Sets
    rw[hw]
    exact⟨l,rfl,.inl ⟨rfl,hlt,hA,hS⟩⟩
   ·obtain⟨items,tm',hp',na',rs',hI,hl,hT,hS,hk⟩:=ih (j+1) _ _ na (rs++[⟨id,j,l⟩]) hop' hnd' (fun e he=>by
     rcases List.mem_append.1 he with he|he
     ·exact hrs e he
     ·simp only[List.mem_singleton]at he;subst he
      obtain⟨_,e,he,h⟩:=gS hr
      have:=hrs e he
      dsimp only;omega) hs'
    refine⟨it::items,tm',hp',na',rs',mkI hI (.inr (.inr (.inr ⟨_,_,hw⟩))),by simp[hl],⟨h2,h3,hT⟩,?_,hk⟩
    unfold Sets
    rw[hw]
    exact⟨l,rfl,.inr ⟨hr,hSt,hS⟩⟩
def HO(rs:List Rsv)(hp:List O):List O:=rs.foldl (fun hp r=>hp.set r.id (.cells true r.put)) hp
theorem sE:∀ (rs:List Rsv) (hp:List O) (k:List O->T),settle rs hp k=k (HO rs hp)
 |[],_,_=>rfl
 |r::rs,hp,k=>by simp only[settle,rf,sE rs];rfl
theorem xk{L:Nat->Bool}:∀ (items:List Item) (i:Nat),∃ l,∀ x,aH Item.putN L items i x=x++l
 |[],_=>⟨[],fun x=>by simp[aH]⟩
 |a::r,i=>by
  obtain⟨l,hl⟩:=xk (L:=L) r (i+1)
  cases hL:L i with
  |false=>exact⟨l,fun x=>by simp only[aH,hL,cond_false,hl]⟩
  |true=>
   cases hw:a.w with
   |new l'=>exact⟨l'++l,fun x=>by simp only[aH,hL,cond_true,hl];simp[Item.putN,hw]⟩
   |_=>exact⟨l,fun x=>by simp only[aH,hL,cond_true,hl];simp[Item.putN,hw]⟩
theorem Sets.fin{base nA:Nat}:∀ (items:List Item) (j na:Nat) (rs rs':List Rsv),Sets E P ops base nA items j na rs rs' ->
  ∃ rs2,rs'=rs++rs2/\∀ i x,(∀ (k:Nat) (a:Item) id o,items[k]?=some a->a.w=.set id o->id<x.length)->aH Item.putH (fun _=>true) items i x=HO rs2 (aH Item.putN (fun _=>true) items i x)
 |[],_,_,rs,rs',h=>⟨[],by rw[h];simp,fun i x _=>rfl⟩
 |a::r,j,na,rs,rs',h=>by
  unfold Sets at h
  split at h
  ·rename_i id o hw
   have fin:∀ {na:Nat} {l:List V},o=.cells true l->Sets E P ops base nA r (j+1) na (rs++[⟨id,j,l⟩]) rs' ->
     ∃ rs2,rs'=rs++rs2/\∀ i x,(∀ (k:Nat) (b:Item) id o,(a::r)[k]?=some b->b.w=.set id o->id<x.length)->aH Item.putH (fun _=>true) (a::r) i x=HO rs2 (aH Item.putN (fun _=>true) (a::r) i x):=by
    intro na l ho h
    obtain⟨rs2,h1,h2⟩:=Sets.fin r _ _ _ _ h
    refine⟨⟨id,j,l⟩::rs2,by rw[h1];simp,fun i x hx=>?_⟩
    have hid:=hx 0 a id o rfl hw
    simp only[aH,cond_true]
    have e1:a.putH x=x.set id o:=by unfold Item.putH;rw[hw]
    have e2:a.putN x=x:=by unfold Item.putN;rw[hw]
    rw[e1,e2,h2 (i+1) (x.set id o) (fun k b id' o' hb hw'=>by simpa using hx (k+1) b id' o' (by simpa using hb) hw')]
    obtain⟨l2,hl2⟩:=xk (L:=fun _=>true) r (i+1)
    rw[hl2,hl2,ho]
    show _=HO rs2 ((x++l2).set id (.cells true l))
    rw[List.set_append_left _ _ hid]
   obtain⟨l,ho,⟨_,_,_,h⟩|⟨_,_,h⟩⟩:=h
   ·exact fin ho h
   ·exact fin ho h
  ·rename_i hns
   obtain⟨rs2,h1,h2⟩:=Sets.fin r _ _ _ _ h
   refine⟨rs2,h1,fun i x hx=>?_⟩
   simp only[aH,cond_true]
   have e:a.putH x=a.putN x:=by
    unfold Item.putH Item.putN
    cases hw:a.w with
    |set id o=>exact absurd hw (hns id o)
    |_=>rfl
   rw[e]
   refine h2 (i+1) _ fun k b id o hb hw=>?_
   have:=hx (k+1) b id o (by simpa using hb) hw
   unfold Item.putN
   cases a.w with
   |new l=>simp only[List.length_append];omega
   |_=>exact this
end
section
variable{E:Env}{G:List O}{P:Program}{ops:Array Oper}{N m:Nat}{B:Nat}{w0:World}{S:Nat}{D:List Deferred}{gs:List (Nat×Obj)}{ρ:Ren}{w:World}
def O.shp(o:O):Nat×Bool×Nat×Nat:=
 match o with
 |.gone=>(0,false,0,0)
 |.rsv=>(1,false,0,0)
 |o=>(2,o.own,o.wid,o.len)
theorem kR:∀ (vs l:List V) (j:Nat),(putCells l j vs).length=l.length
 |[],_,_=>rfl
 |v::vs,l,j=>by simp[putCells,kR vs]
theorem KH{o o':O}{k j:Nat}{v:V}{sz:Nat}(h:stO o k j v sz=some o'):o'.shp=o.shp:=by
 cases o with
 |cells ww l=>
  cases ww
  ·simp[stO]at h
  ·cases k
   ·simp only[stO]at h
    split at h
    ·cases h;simp[O.shp,O.own,O.wid,O.len,kR]
    ·cases h
   ·simp[stO]at h
 |ints ww kd zs=>
  cases ww
  ·simp[stO]at h
  ·cases v<;>cases j<;>simp only[stO,reduceCtorEq]at h
   split at h
   ·cases h;simp[O.shp,O.own,O.wid,O.len]
   ·cases h
 |rows ww ks rs=>
  cases ww
  ·simp[stO]at h
  ·cases v<;>simp only[stO,reduceCtorEq]at h
   split at h
   ·split at h
    ·cases h;simp[O.shp,O.own,O.wid,O.len]
    ·cases h
   ·cases h
 |vals ww m rs=>
  cases ww
  ·simp[stO]at h
  ·simp only[stO]at h
   split at h
   ·cases h;simp[O.shp,O.own,O.wid,O.len]
   ·cases h
 |gone=>simp[stO]at h
 |rsv=>simp[stO]at h
 |lock=>simp[stO]at h
theorem yD{o o':O}(h:o.shp=o'.shp):fW o=fW o':=by
 cases o<;>cases o'<;>simp_all [O.shp,fW,O.own,O.wid,O.len]
theorem Em(o:O):(fW o).shp=o.shp:=by
 cases o<;>simp[fW,O.shp,O.own,O.wid,O.len]
theorem OR.mask{o:O}{r:Rg}(h:OR ρ o r w):OR ρ (fW o) r w:=by
 have hal:=h.alive
 have hnr:=h.nrsv
 have hm:fW o=.lock o.own o.wid o.len:=by
  cases o<;>first|rfl|exact absurd rfl hal|exact absurd rfl hnr
 rw[hm]
 exact⟨by simp,by simp,trivial,h.n,h.ph0,h.lt,h.m,h.cp,fun hp k j v hk hj hc=>by simp[O.cell]at hc,fun ho=>h.own ho⟩
theorem kY(f:O->O):∀ (bs:List Nat) (hp:List O),(dF f bs hp).length=hp.length
 |[],_=>rfl
 |b::r,hp=>by rw[dF,kY f r];simp
theorem eU(hp:List O)(b c:Nat)(o:O):(hp.set b o).getD c .gone=if b=c/\b<hp.length then o else hp.getD c .gone:=by
 simp only[List.getD,List.getElem?_set]
 by_cases h:b=c
 ·subst h
  by_cases h2:b<hp.length
  ·simp[h2]
  ·simp[h2]
 ·simp[h]
theorem fH(f:O->O){c:Nat}:∀ (bs:List Nat) (hp:List O),c∉bs->(dF f bs hp).getD c .gone=hp.getD c .gone
 |[],_,_=>rfl
 |b::r,hp,h=>by
  rw[dF,fH f r _ (fun e=>h (by simp[e])),eU,if_neg]
  rintro⟨rfl,_⟩
  exact h (by simp)
theorem kD{c:Nat}:∀ (bs:List Nat) (hp:List O),c∈bs->(dF (fun _=>.gone) bs hp).getD c .gone=.gone
 |[],_,h=>by simp at h
 |b::r,hp,h=>by
  rw[dF]
  by_cases hc:c∈r
  ·exact kD r _ hc
  ·rw[fH _ r _ hc,eU]
   have:b=c:=by simpa[hc,eq_comm]using h
   subst this
   split
   ·rfl
   ·rename_i hn
    simp only[true_and,Nat.not_lt]at hn
    simp[List.getD,List.getElem?_eq_none hn]
theorem zJ:fW .gone=.gone:=rfl
theorem wQ{c:Nat}{o:O}:∀ (bs:List Nat) (hp:List O),c∈bs->(hp.getD c .gone).shp=o.shp->(dF fW bs hp).getD c .gone=fW o
 |[],_,h,_=>by simp at h
 |b::r,hp,h,hs=>by
  rw[dF]
  by_cases hc:c∈r
  ·refine wQ r _ hc ?_
   rw[eU]
   split
   ·rename_i h2;rw[Em,h2.1,hs]
   ·exact hs
  ·rw[fH _ r _ hc,eU]
   have:b=c:=by simpa[hc,eq_comm]using h
   subst this
   split
   ·exact yD hs
   ·rename_i hn
    simp only[true_and,Nat.not_lt]at hn
    have hg:hp.getD b .gone=.gone:=by simp[List.getD,List.getElem?_eq_none hn]
    rw[hg]at hs ⊢
    have:=yD hs
    rwa [zJ]at this
theorem gU{bf:List Nat}{j b:Nat}:∀ {st:List (Nat×Nat)},b∉hidden bf st j->∀ s,(s,b)∈st->oK bf s j=false
 |[],_,s,h=>by simp at h
 | (s0,b0)::r,hn,s,h=>by
  simp only[hidden]at hn
  cases hu:oK bf s0 j with
  |true=>
   rw[hu]at hn
   simp only[List.mem_cons,not_or]at hn
   rcases List.mem_cons.1 h with e|h
   ·cases e;exact absurd rfl hn.1
   ·exact gU hn.2 s h
  |false=>
   rw[hu]at hn
   rcases List.mem_cons.1 h with e|h
   ·cases e;exact hu
   ·exact gU hn s h
theorem zv{bf:List Nat}{i j:Nat}(h:oK bf i j=false):i=j\/ord bf i j=true\/ord bf j i=true:=by
 simp only[oK,Bool.not_eq_false',Bool.or_eq_true]at h
 rcases h with h|h
 ·exact .inl (Nat.eq_of_beq_eq_true h)
 ·exact .inr h
theorem Fq{bf:List Nat}{st:List (Nat×Nat)}{j b:Nat}(h:okSt bf st j b=true):(j,b)∈st/\∀ s,(s,b)∈st->oK bf s j=false:=by
 simp only[okSt,Bool.and_eq_true,List.any_eq_true,List.all_eq_true]at h
 obtain⟨⟨⟨x,y⟩,h1,h2,h3⟩,h4⟩:=h
 dsimp only at h2 h3
 refine⟨by rw[<-Nat.eq_of_beq_eq_true h2,<-Nat.eq_of_beq_eq_true h3];exact h1,fun s hs=>?_⟩
 have:=h4 (s,b) hs
 simpa using this
def OkS(E:Env)(P:Program)(ops:Array Oper)(N:Nat)(st:List (Nat×Nat))(j:Nat)(hpj:List O)(it:Item):Prop:=
 (SemQ E P ops it/\it.hp=dF fW (hidden (befs ops.toList []) st j) hpj)\/(SemC E P ops N it/\it.hp=dF (fun _=>.gone) (hidden (befs ops.toList []) st j) hpj) \/
 ∃ b o,it.w=.set b o/\okSt (befs ops.toList []) st j b=true/\it.o.guard=none/\it.o.dst=none/\b<ax/\o.shp=(hpj.getD b .gone).shp/\∀ hpX,hpX.getD b .gone=hpj.getD b .gone->evOp E (restr (names ops.toList it.o) it.tm) hpX it.o.op=.store b o
def TrS(E:Env)(P:Program)(ops:Array Oper)(N:Nat)(st:List (Nat×Nat)):List Item->Nat->Tm->List O->Tm->List O->Prop
 |[],_,tm,hp,tm',hp'=>tm'=tm/\hp'=hp
 |it::r,j,tm,hp,tm',hp'=>it.tm=tm/\OkS E P ops N st j hp it/\TrS E P ops N st r (j+1) (it.putT tm) (it.putH hp) tm' hp'
theorem qb{α β:Type}(f:α->β->β):∀ (l:List α) (i m:Nat) (y:β),i<=m->aH f (fun k=>decide (k<i)) l m y=y
 |[],_,_,_,_=>rfl
 |a::l,i,m,y,h=>by
  simp only[aH]
  rw[decide_eq_false (by omega),cond_false]
  exact qb f l i (m+1) y (by omega)
theorem TrS.at{st:List (Nat×Nat)}:∀ {items:List Item} {tm tm':Tm} {hp hp':List O} {i:Nat},TrS E P ops N st items i tm hp tm' hp'->∀ (j:Nat) (it:Item),items[j]?=some it ->
  it.tm=aH Item.putT (fun k=>decide (k<i+j)) items i tm/\OkS E P ops N st (i+j) (aH Item.putH (fun k=>decide (k<i+j)) items i hp) it
 |[],_,_,_,_,_,_,_,_,h=>by simp at h
 |x::r,tm,tm',hp,hp',i,⟨h1,h2,h3⟩,j,it,h=>by
  cases j with
  |zero=>
   simp only[List.getElem?_cons_zero,Option.some.injEq]at h
   subst h
   rw[Nat.add_zero,qb _ _ _ _ _ (Nat.le_refl _),qb _ _ _ _ _ (Nat.le_refl _)]
   exact⟨h1,h2⟩
  |succ j=>
   have:=TrS.at h3 j it (by simpa using h)
   simp only[aH]
   rw[decide_eq_true (by omega),cond_true,cond_true]
   rw[show i+(j+1)=i+1+j by omega]
   exact this
theorem TrS.fin{st:List (Nat×Nat)}:∀ {items:List Item} {tm tm':Tm} {hp hp':List O} {i:Nat},TrS E P ops N st items i tm hp tm' hp'->tm'=aH Item.putT (fun _=>true) items i tm/\hp'=aH Item.putH (fun _=>true) items i hp
 |[],_,_,_,_,_,h=>h
 |x::r,_,_,_,_,i,⟨_,_,h⟩=>by simp only[aH,cond_true];exact TrS.fin h
section step
variable{items:List Item}{L:Nat->Bool}{i:Nat}{it:Item}{st:List (Nat×Nat)}{tm0 tm1:Tm}{hp0 hp1:List O}
theorem IP(hd:dR ops m){i j:Nat}(h:ord (befs ops.toList []) i j=true):i<j:=by
 have hc:dN ops fun k=>decide (k<j):=fun k o ho hk e he hb=>by
  have:=hd.edge k o ho e he hb
  simp only[decide_eq_true_eq]at hk ⊢
  omega
 have:=bQ hc j (fun o ho e he hb=>by have:=hd.edge j o ho e he hb;simpa using this) i h
 simpa using this
theorem jM(hT:TrS E P ops N st items 0 tm0 hp0 tm1 hp1){k b:Nat}{a:Item}{o:O}(ha:items[k]?=some a)(hw:a.w=.set b o):(k,b)∈st/\∀ s,(s,b)∈st->oK (befs ops.toList []) s k=false:=by
 obtain⟨_,h⟩:=hT.at k a ha
 rw[Nat.zero_add]at h
 rcases h with⟨⟨h,_⟩,_⟩|⟨⟨h,_⟩,_⟩|⟨b',o',h,h2,_⟩
 ·rw[hw]at h;cases h
 ·rw[hw]at h;cases h
 ·rw[hw]at h;cases h
  exact Fq h2
theorem pF(hd:dR ops m)(hc:dN ops L)(hr:dh ops L i)(hi:L i=false){k:Nat}(h:oK (befs ops.toList []) k i=false):L k=decide (k<i):=by
 rcases zv h with rfl|h|h
 ·rw[hi];simp
 ·rw[bQ hc i hr k h]
  have:=IP hd h
  simp[this]
 ·have h1:=IP hd h
  have:L k=false:=by
   cases e:L k with
   |false=>rfl
   |true=>
    have:=bQ hc k (fun o ho=>hc k o ho e) i h
    rw[hi]at this;cases this
  rw[this]
  simp;omega
theorem uV(hd:dR ops m)(hT:TrS E P ops N st items 0 tm0 hp0 tm1 hp1)(hc:dN ops L)(hr:dh ops L i)(hi:L i=false){b:Nat}(hb:∀ s,(s,b)∈st->oK (befs ops.toList []) s i=false) :
  (aH Item.putH L items 0 hp0).getD b .gone=(aH Item.putH (fun k=>decide (k<i)) items 0 hp0).getD b .gone:=by
 have:=je (L:=L) (L':=fun k=>decide (k<i)) Item.putH (fun(x:List O)=>(x.length,x.getD b .gone)) items 0 hp0 hp0 rfl fun k a ha=>⟨fun x y h=>?_,?_⟩
 ·exact(Prod.mk.inj this).2
 ·obtain⟨h1,h2⟩:=Prod.mk.inj h
  unfold Item.putH
  cases hw:a.w with
  |none=>exact h
  |new l=>
   exfalso
   obtain⟨_,h3⟩:=hT.at k a ha
   rcases h3 with⟨⟨h3,_⟩,_⟩|⟨⟨h3,_⟩,_⟩|⟨_,_,h3,_⟩<;>(rw[hw]at h3;cases h3)
  |set c o=>
   dsimp only
   rw[eU,eU,List.length_set,List.length_set,h1,h2]
 ·rw[Nat.zero_add]
  cases hw:a.w with
  |none=>exact .inr fun x=>by unfold Item.putH;rw[hw]
  |new l=>
   exfalso
   obtain⟨_,h3⟩:=hT.at k a ha
   rcases h3 with⟨⟨h3,_⟩,_⟩|⟨⟨h3,_⟩,_⟩|⟨_,_,h3,_⟩<;>(rw[hw]at h3;cases h3)
  |set c o=>
   by_cases e:c=b
   ·subst e
    exact .inl (pF hd hc hr hi (hb k (jM hT ha hw).1))
   ·right
    intro x
    unfold Item.putH
    rw[hw]
    dsimp only
    rw[eU,if_neg (fun h=>e h.1),List.length_set]
theorem mw(hT:TrS E P ops N st items 0 tm0 hp0 tm1 hp1)(L:Nat->Bool)(b:Nat):(aH Item.putH L items 0 hp0).length=hp0.length/\((aH Item.putH L items 0 hp0).getD b .gone).shp=(hp0.getD b .gone).shp:=by
 have key:∀ (items:List Item) (i:Nat) (tm tm':Tm) (hp hp' x:List O),TrS E P ops N st items i tm hp tm' hp'->x.length=hp.length->(∀ b,(x.getD b .gone).shp=(hp.getD b .gone).shp) ->
   (aH Item.putH L items i x).length=hp.length/\∀ b,((aH Item.putH L items i x).getD b .gone).shp=(hp.getD b .gone).shp:=by
  intro items
  induction items with
  |nil=>intro i tm tm' hp hp' x _ h1 h2;exact⟨h1,h2⟩
  |cons a r ih=>
   intro i tm tm' hp hp' x ⟨_,h2,h3⟩ hl hx
   have hput:∀ y:List O,y.length=hp.length->(∀ b,(y.getD b .gone).shp=(hp.getD b .gone).shp)->(a.putH y).length=hp.length/\∀ b,((a.putH y).getD b .gone).shp=(hp.getD b .gone).shp:=by
    intro y hy1 hy2
    unfold Item.putH
    rcases h2 with⟨⟨h2,_⟩,_⟩|⟨⟨h2,_⟩,_⟩|⟨c,o,h2,_,_,_,_,hs,_⟩
    ·rw[h2];exact⟨hy1,hy2⟩
    ·rw[h2];exact⟨hy1,hy2⟩
    ·rw[h2]
     refine⟨by simp[hy1],fun b=>?_⟩
     dsimp only
     rw[eU]
     split
     ·rename_i h;rw[<-h.1,hs]
     ·exact hy2 b
   obtain⟨p1,p2⟩:=hput hp rfl fun _=>rfl
   obtain⟨q1,q2⟩:=hput x hl hx
   simp only[aH]
   have:=ih (i+1) _ _ _ _ (bif L i then a.putH x else x) h3 (by cases L i with|false=>exact hl.trans p1.symm|true=>exact q1.trans p1.symm) (fun b=>by rw[p2 b];cases L i with|false=>exact hx b|true=>exact q2 b)
   exact⟨by rw[this.1,p1],fun b=>by rw[this.2 b,p2 b]⟩
 exact⟨(key items 0 _ _ _ _ hp0 hT rfl fun _=>rfl).1,(key items 0 _ _ _ _ hp0 hT rfl fun _=>rfl).2 b⟩
theorem HS(hd:dR ops m)(hT:TrS E P ops N st items 0 tm0 hp0 tm1 hp1)(hc:dN ops L)(hi:L i=false)(hit:items[i]?=some it)(hr:dh ops L i) :
  aH Item.putH (fun k=>k==i||L k) items 0 hp0=it.putH (aH Item.putH L items 0 hp0):=by
 refine oo Item.putH (fun _=>True) items 0 _ trivial (Nat.zero_le _) (by simpa using hit) hi (fun _ _ _ _ _=>trivial) ?_ trivial
 intro k a ha hik hL x _
 rw[Nat.zero_add]at hik hL
 unfold Item.putH
 cases hw1:a.w with
 |none=>rfl
 |new l=>
  exfalso
  obtain⟨_,h3⟩:=hT.at k a ha
  rcases h3 with⟨⟨h3,_⟩,_⟩|⟨⟨h3,_⟩,_⟩|⟨_,_,h3,_⟩<;>(rw[hw1]at h3;cases h3)
 |set c o=>
  cases hw2:it.w with
  |none=>rfl
  |new l=>
   exfalso
   obtain⟨_,h3⟩:=hT.at i it hit
   rcases h3 with⟨⟨h3,_⟩,_⟩|⟨⟨h3,_⟩,_⟩|⟨_,_,h3,_⟩<;>(rw[hw2]at h3;cases h3)
  |set c' o'=>
   dsimp only
   refine List.set_comm _ _ ?_
   rintro rfl
   have hu:=(jM hT hit hw2).2 k (jM hT ha hw1).1
   have:=pF hd hc hr hi hu
   rw[hL]at this
   simp at this
   omega
theorem GQ(hd:dR ops m)(hT:TrS E P ops N st items 0 tm0 hp0 tm1 hp1)(hc:dN ops L)(hr:dh ops L i)(hi:L i=false)(hh:HR G B ρ (aH Item.putH L items 0 hp0) w) :
  HV G ρ (dF fW (hidden (befs ops.toList []) st i) (aH Item.putH (fun k=>decide (k<i)) items 0 hp0)) w:=by
 refine⟨fun b r hr' hal hnr=>?_,hh.glob⟩
 by_cases hg:ax<=b
 ·have:=hh.blocks b r hr'
  rw[aA hg]at hal this ⊢
  exact this hal
 ·have hg:b<ax:=by omega
  have hb:=hh.blocks b r hr'
  rw[aB hg]at hal hnr hb ⊢
  by_cases hin:b∈hidden (befs ops.toList []) st i
  ·have hs:((aH Item.putH (fun k=>decide (k<i)) items 0 hp0).getD b .gone).shp=((aH Item.putH L items 0 hp0).getD b .gone).shp:=by rw[(mw hT _ b).2,(mw hT L b).2]
   rw[wQ _ _ hin hs]at hal ⊢
   exact(hb fun e=>hal (by rw[e];rfl)).mask
  ·have:=uV hd hT hc hr hi (gU hin)
   rw[fH _ _ _ hin,<-this]at hal ⊢
   exact hb hal
theorem GZ(hd:dR ops m)(hT:TrS E P ops N st items 0 tm0 hp0 tm1 hp1)(hc:dN ops L)(hr:dh ops L i)(hi:L i=false) :
  (aH Item.putH L items 0 hp0).length=(dF (fun _=>.gone) (hidden (befs ops.toList []) st i) (aH Item.putH (fun k=>decide (k<i)) items 0 hp0)).length /\
  Le G (dF (fun _=>.gone) (hidden (befs ops.toList []) st i) (aH Item.putH (fun k=>decide (k<i)) items 0 hp0)) (aH Item.putH L items 0 hp0):=by
 refine⟨by rw[kY,(mw hT L 0).1,(mw hT _ 0).1],fun b hal _=>?_⟩
 by_cases hg:ax<=b
 ·rw[aA hg,aA hg]
 ·have hg:b<ax:=by omega
  rw[aB hg]at hal
  rw[aB hg,aB hg]
  by_cases hin:b∈hidden (befs ops.toList []) st i
  ·exact absurd (kD _ _ hin) hal
  ·rw[fH _ _ _ hin]
   exact uV hd hT hc hr hi (gU hin)
end step
variable{n:Nat}{ro:Option Nat}{Qx:Exit->Act->World->Prop}{ρ0:Ren}
theorem Kn(hE:E.Ok P){items:List Item}{st:List (Nat×Nat)}{tm0 tm1:Tm}{hp0 hp1:List O}(hI:jg E P ops N 0 items)(hm:items.length=m)(hd:dR ops m)(hT:TrS E P ops N st items 0 tm0 hp0 tm1 hp1)
  (hk:∀ a w ρ,Rel E.G B w0 S N D gs ρ (aH Item.putT (fun _=>true) items 0 tm0) (aH Item.putH (fun _=>true) items 0 hp0) a w->ρ0.le ρ ->
   wpOpsIn (Fr ro) n P ops Qx (List.range' m (ops.size-m)) a w) :
  ∀ (fuel:Nat) (listed:Array Bool) (a:Act) (w:World) (ρ:Ren),listed.size=ops.size->dN ops (Lof listed)->(∀ k,m<=k->Lof listed k=false)->listed.toList.count false<=fuel ->
   Rel E.G B w0 S N D gs ρ (aH Item.putT (Lof listed) items 0 tm0) (aH Item.putH (Lof listed) items 0 hp0) a w->ρ0.le ρ->wpAnyIn (Fr ro) n P .any ops Qx fuel listed a w:=by
 have hall_ok:∀ (fuel:Nat) (listed:Array Bool) (a:Act) (w:World) (ρ:Ren),listed.size=ops.size->(∀ k,m<=k->Lof listed k=false)->listed.toList.count false<=fuel ->
   Rel E.G B w0 S N D gs ρ (aH Item.putT (Lof listed) items 0 tm0) (aH Item.putH (Lof listed) items 0 hp0) a w->ρ0.le ρ->(∀ k,k<m->Lof listed k=true)->wpAnyIn (Fr ro) n P .any ops Qx fuel listed a w:=by
  intro fuel listed a w ρ hsz hge hcnt h hle hall
  refine uN hd fuel m listed a w hsz (Nat.le_refl _) hd.le (fun k hks=>?_) ?_ (hk a w ρ ?_ hle)
  ·rcases Nat.lt_or_ge k m with h1|h1
   ·rw[hall k h1];simp[h1]
   ·rw[hge k h1];simp;omega
  ·have key:∀ (l:List Bool) (m:Nat),(∀ k,m<=k->l.getD k false=false)->l.length-m<=l.count false:=by
    intro l
    induction l with
    |nil=>intro m _;simp
    |cons b l ihl=>
     intro m hm
     cases m with
     |zero=>
      have h1:=hm 0 (Nat.le_refl _)
      simp only[List.getD_cons_zero]at h1
      subst h1
      have:=ihl 0 (fun k _=>by have:=hm (k+1) (by omega);simpa using this)
      simp only[List.length_cons,List.count_cons_self]
      omega
     |succ m=>
      have:=ihl m (fun k hk=>by have:=hm (k+1) (by omega);simpa using this)
      simp only[List.length_cons,List.count_cons]
      omega
   have:=key listed.toList m (fun k hk=>by
    have:=hge k hk
    unfold Lof at this
    rw[Array.getD_eq_getD_getElem?]at this
    simpa[List.getD]using this)
   rw[Array.length_toList]at this
   omega
  ·rwa [cS (L:=Lof listed) (L':=fun _=>true) Item.putT items 0 tm0 (fun k _ hk=>hall k (by omega)),cS (L:=Lof listed) (L':=fun _=>true) Item.putH items 0 _ (fun k _ hk=>hall k (by omega))]at h
 intro fuel
 induction fuel with
 |zero=>
  intro listed a w ρ hsz hc hge hcnt h hle
  refine hall_ok 0 listed a w ρ hsz hge hcnt h hle fun k hkm=>?_
  cases hk3:Lof listed k with
  |true=>rfl
  |false=>
   have hmem:false∈listed.toList:=by
    unfold Lof at hk3
    have:=hd.le
    rw[Array.getD_eq_getD_getElem?,Array.getElem?_eq_getElem (by omega),Option.getD_some]at hk3
    rw[<-hk3]
    simp
   have:=List.count_pos_iff.2 hmem
   omega
 |succ fuel ih=>
  intro listed a w ρ hsz hc hge hcnt h hle
  by_cases hall:∀ k,k<m->Lof listed k=true
  ·exact hall_ok (fuel+1) listed a w ρ hsz hge hcnt h hle hall
  ·obtain⟨k0,hk1⟩:=Classical.not_forall.1 hall
   obtain⟨hk0m,hk2⟩:=Classical.not_imp.1 hk1
   have hk3:Lof listed k0=false:=by simpa using hk2
   have hms:=hd.le
   refine⟨fun h0=>?_,fun i hi=>?_⟩
   ·obtain⟨j,hj1,hj2,hj3⟩:=least k0 hk3
    have:=rE hsz (show j<ops.size by omega) hj2 (fun o ho e he hb=>hj3 _ (hd.edge j o ho e he hb))
    rw[h0]at this;cases this
   ·obtain⟨h1,hLi,hri⟩:=fN hsz hi
    have him:i<m:=by
     rcases Nat.lt_or_ge i m with h2|h2
     ·exact h2
     ·have:=bQ hc i hri k0 (hd.full k0 i (by omega) h1 h2)
      rw[hk3]at this;cases this
    obtain⟨it,hit⟩:∃ it,items[i]?=some it:=⟨items[i]'(by omega),by simp⟩
    have hio:=hI.op i it hit
    rw[Nat.zero_add]at hio
    have hdstN:∀ d,it.o.dst=some d->d<N:=fun d=>hI.dst i it d hit
    have hag:=oZ hI hm hd hc hri hLi hit tm0
    have htm:=BW hI hm hd hc hri hLi hit tm0
    have hhp:=HS hd hT hc hLi hit hri
    have hset:=wH (listed:=listed) (i:=i) (by omega)
    have next:∀ (a':Act) (w':World) (ρ':Ren),Rel E.G B w0 S N D gs ρ' (it.putT (aH Item.putT (Lof listed) items 0 tm0)) (it.putH (aH Item.putH (Lof listed) items 0 hp0)) a' w'->ρ.le ρ' ->
      wpAnyIn (Fr ro) n P .any ops Qx fuel (listed.setIfInBounds i true) a' w':=by
     intro a' w' ρ' h' hl'
     refine ih _ a' w' ρ' (by simpa using hsz) ?_ ?_ ?_ ?_ (Ren.le_trans hle hl')
     ·rw[hset]
      intro j o ho hj e he hb
      dsimp only at hj ⊢
      rw[Bool.or_eq_true]at hj ⊢
      rcases hj with hj|hj
      ·rw[beq_iff_eq]at hj
       subst hj
       exact .inr (hri o ho e he hb)
      ·exact .inr (hc j o ho hj e he hb)
     ·rw[hset]
      intro k hk
      dsimp only
      rw[hge k hk,Bool.or_false]
      simp;omega
     ·have:(listed.setIfInBounds i true).toList=listed.toList.set i true:=by simp
      rw[this]
      have hf:listed.toList[i]?=some false:=by
       unfold Lof at hLi
       rw[Array.getD_eq_getD_getElem?,Array.getElem?_eq_getElem (by omega),Option.getD_some]at hLi
       rw[Array.getElem?_toList,Array.getElem?_eq_getElem (by omega),hLi]
      have:=count_set _ _ hf
      omega
     ·rw[hset,hhp]
      exact h'.look htm
    obtain⟨hitm,hok⟩:=hT.at i it hit
    rw[Nat.zero_add]at hitm hok
    have htr:TR ρ (restr (names ops.toList it.o) it.tm) a:=h.tr.restr fun t ht=>by rw[hitm];exact hag t ht
    unfold wpOpIn
    simp only[hio]
    rcases hok with⟨⟨hw,hnd,hq⟩,hihp⟩|⟨⟨hw,hlo,hq⟩,hihp⟩|⟨b,o,hw,_,hgu,hdn,_,_,hst⟩
    ·obtain⟨q1,q2⟩:=hq ρ a w htr (by rw[hihp];exact GQ hd hT hc hri hLi h.hr)
     have hpH:∀ x,it.putH x=x:=fun x=>by unfold Item.putH;rw[hw]
     rw[hpH]at next
     split
     ·rename_i hwant
      obtain⟨u,hrun,hv⟩:=q1 hwant
      exact⟨bz ro it.o w _,by rw[show (Fr ro).round=ro from rfl,Oper.semAt_eq ro a.eval it.o hnd,hrun];exact next _ _ ρ (h.putT (Ren.le_refl ρ) h.hr h.bel (KeepsOthers.refl w) hdstN hv) (Ren.le_refl ρ)⟩
     ·rename_i hwant
      exact⟨bz ro it.o w _,next _ _ ρ (h.putT (Ren.le_refl ρ) h.hr h.bel (KeepsOthers.refl w) hdstN (q2 (by simpa using hwant))) (Ren.le_refl ρ)⟩
    ·obtain⟨hlen,hLe⟩:=GZ (G:=E.G) hd hT hc hri hLi
     rw[<-hihp]at hlen hLe
     obtain⟨q1,q2⟩:=hq _ _ hlen hLe B w0 S D gs ρ a w h htr
     have hpH:∀ x,it.putH x=x:=fun x=>by unfold Item.putH;rw[hw]
     rw[hpH]at next
     split
     ·rename_i hwant
      exact q1 hwant n ro _ _ fun u w' ρ' hv hrel hl'=>next _ _ ρ' (hrel.putT (Ren.le_refl ρ') hrel.hr hrel.bel (KeepsOthers.refl w') hdstN hv) hl'
     ·rename_i hwant
      exact⟨bz ro it.o w _,next _ _ ρ (h.putT (Ren.le_refl ρ) h.hr h.bel (KeepsOthers.refl w) hdstN (q2 (by simpa using hwant))) (Ren.le_refl ρ)⟩
    ·have hpH:∀ x,it.putH x=x.set b o:=fun x=>by unfold Item.putH;rw[hw]
     rw[hpH]at next
     rw[if_pos (cm hgu _)]
     have he:=hst _ (uV hd hT hc hri hLi (jM hT hit hw).2)
     obtain⟨w',hrun,hr',hb',hk'⟩:=kH hE h.hr htr he
     refine uponIn_skip he (by simp) hrun (next _ _ ρ ?_ (Ren.le_refl ρ))
     have hpt:it.putT (aH Item.putT (Lof listed) items 0 tm0)=aH Item.putT (Lof listed) items 0 tm0:=by unfold Item.putT;rw[hdn]
     rw[hpt]
     obtain⟨ms,hd1,hd2,hd3⟩:=h.df
     rw[hdn]
     exact⟨h.tr,hr',h.bel.trans hb',h.sz,⟨ms,hd1,hd2.keeps hk',hd3⟩,h.gs.keeps hk',h.bs,h.ss,Nat.le_trans h.sw hk'.size⟩
section steps
variable{Q:Exit->Tm->List O->Prop}{o:Oper}{tm:Tm}{hp:List O}{st:List (Nat×Nat)}{j:Nat}
theorem Bw(hps:PsOk E P)(hg:o.guard=none){f:V}{args:List V}{v:V}(he:evOp E tm hp o.op=.call f args)(hpf:dV E hp f args=some (true,v)):SemC E P ops N ⟨o,tm,hp,v,.none⟩:=by
 refine⟨rfl,cK he,fun tmX hpX hlen hLe B w0 S D gs ρ a w h ht=>⟨fun hw n ro next Qx hnext=>?_,fun hw=>(by rw[cm hg]at hw;cases hw)⟩⟩
 refine fM h (tm':=restr (names ops.toList o) tm) (eT (hp:=hp) (by rw[bR];exact he)) ht (hps.1 _ _ _ _ _ (oY hLe hlen hpf) rfl) ?_
 rintro u w' ⟨v',hp',ρ',hv,hrel,hl,rfl,rfl⟩
 exact hnext u w' ρ' hv hrel hl
def OneS(E:Env)(P:Program)(ops:Array Oper)(N:Nat)(st:List (Nat×Nat))(Q:Exit->Tm->List O->Prop)(o:Oper)(j:Nat)(tm:Tm)(hp:List O)(k:Tm->List O->T):Prop:=
 ∃ it:Item,it.o=o/\it.tm=tm/\(∀ d,o.dst=some d->d<N)/\OkS E P ops N st j hp it/\sat E.G P Q (k (it.putT tm) (it.putH hp))
theorem jD{it:Item}{k:Tm->List O->T}(h1:it.o=o)(h2:it.tm=tm)(hw:it.w=.none)(hq:OkS E P ops N st j hp it)(hs:(∀ d,o.dst=some d->d<N)/\sat E.G P Q (k (it.putT tm) hp)):OneS E P ops N st Q o j tm hp k:=by
 refine⟨it,h1,h2,hs.1,hq,?_⟩
 have:it.putH hp=hp:=by unfold Item.putH;rw[hw]
 rw[this];exact hs.2
theorem LF(hE:E.Ok P)(hps:PsOk E P)(hg:o.guard=none){k:Tm->List O->T}{k':Tm->T}(hk:k'=fun tm=>k tm hp)
  (hs:sat E.G P Q (opDS E N o tm (dF fW (hidden (befs ops.toList []) st j) hp) (dF (fun _=>.gone) (hidden (befs ops.toList []) st j) hp) k')):OneS E P ops N st Q o j tm hp k:=by
 subst hk
 unfold opDS at hs
 split at hs
 ·split at hs
  ·rename_i f args he
   rw[cJ,dL]at hs
   split at hs
   ·rename_i c v hpf
    obtain⟨hc,hs⟩:=hs
    subst hc
    have hq:=Bw (ops:=ops) (N:=N) hps hg he hpf
    exact jD (it:=⟨o,tm,_,v,.none⟩) rfl rfl rfl (.inr (.inl ⟨hq,rfl⟩)) (bE hs)
   ·exact hs.elim
  ·exact hs.elim
 ·split at hs
  ·rename_i v he
   exact jD (it:=⟨o,tm,_,v,.none⟩) rfl rfl rfl (.inl ⟨rQ hE he (by simp) hg,rfl⟩) (bE hs)
  ·rename_i c v he
   exact jD (it:=⟨o,tm,_,v,.none⟩) rfl rfl rfl (.inl ⟨rQ hE he (by rintro b ⟨⟩;exact hs.1) hg,rfl⟩) (bE hs.2)
  ·rename_i b x y he
   cases b
   ·exact jD (it:=⟨o,tm,_,y,.none⟩) rfl rfl rfl (.inl ⟨qG he rfl hg,rfl⟩) (bE (hs.2 rfl))
   ·exact jD (it:=⟨o,tm,_,x,.none⟩) rfl rfl rfl (.inl ⟨qG he rfl hg,rfl⟩) (bE (hs.1 rfl))
  ·exact hs.elim
theorem yG(hE:E.Ok P)(hps:PsOk E P){g:Bool}(hg:Grd ops o tm g){hpM:List O}{k':Tm->T}
  (hs:sat E.G P Q (HH E N g o tm hpM fun tm _=>k' tm)):∃ it:Item,it.o=o/\it.tm=tm/\it.hp=hpM/\it.w=.none/\(∀ d,o.dst=some d->d<N)/\((loud o.op=false->SemQ E P ops it)/\(loud o.op=true->SemQ E P ops it\/SemC E P ops N it))/\sat E.G P Q (k' (it.putT tm)):=by
 unfold HH at hs
 obtain⟨tm',hun,hs⟩:=ew _ _ hs
 split at hs
 ·rename_i v he
  obtain⟨h1,h2⟩:=bE (wr:=.none) (hp0:=hpM) hs
  have hq:=lW (P:=P) (ops:=ops) hE hg hun he (by simp)
  exact⟨⟨o,tm,hpM,_,.none⟩,rfl,rfl,rfl,rfl,h1,⟨fun _=>hq,fun _=>.inl hq⟩,h2⟩
 ·rename_i c v he
  obtain⟨h1,h2⟩:=bE (wr:=.none) (hp0:=hpM) hs.2
  have hq:=lW (P:=P) (ops:=ops) hE hg hun he (by rintro b ⟨⟩ rfl;simpa using hs.1)
  exact⟨⟨o,tm,hpM,_,.none⟩,rfl,rfl,rfl,rfl,h1,⟨fun _=>hq,fun _=>.inl hq⟩,h2⟩
 ·rename_i f args he
  rw[cJ,dL]at hs
  split at hs
  ·rename_i cc v hpf
   obtain⟨h1,h2⟩:=bE (wr:=.none) (hp0:=hpM) hs.2
   have hq:=yU (N:=N) hps hg hun he hpf (fun e=>by have:=hs.1;rw[e]at this;simpa using this)
   exact⟨⟨o,tm,hpM,_,.none⟩,rfl,rfl,rfl,rfl,h1,⟨fun e=>(by rw[cK he]at e;cases e),fun _=>.inr hq⟩,h2⟩
  ·exact hs.elim
 ·exact hs.elim
theorem BQ{it:Item}{bs:List Nat}{hp:List O}(h:SemQ E P ops it)(hh:it.hp=dF (fun _=>.gone) bs hp):SemQ E P ops { it with hp:=dF fW bs hp }:=by
 obtain⟨h1,h2,h3⟩:=h
 refine⟨h1,h2,fun ρ a w ht hv=>?_⟩
 refine h3 ρ a w ht ?_
 rw[hh]
 refine⟨fun b r hr hal hnr=>?_,hv.glob⟩
 have:=hv.blocks b r hr
 by_cases hg:ax<=b
 ·rw[aA hg]at hal hnr ⊢
  dsimp only at this
  rw[aA hg]at this
  exact this hal hnr
 ·have hg:b<ax:=by omega
  dsimp only at this
  rw[aB hg]at hal hnr this ⊢
  by_cases hin:b∈bs
  ·exact absurd (kD _ _ hin) hal
  ·rw[fH _ _ _ hin]at hal hnr this ⊢
   exact this hal hnr
theorem xw(hE:E.Ok P)(hps:PsOk E P){g:Bool}(hg:Grd ops o tm g){k:Tm->List O->T}{k':Tm->T}(hk:k'=fun tm=>k tm hp)
  (hs:sat E.G P Q (HU E N g o tm (dF fW (hidden (befs ops.toList []) st j) hp) (dF (fun _=>.gone) (hidden (befs ops.toList []) st j) hp) k')):OneS E P ops N st Q o j tm hp k:=by
 subst hk
 unfold HU at hs
 split at hs
 ·rename_i hl
  obtain⟨it,h1,h2,h3,h4,h5,h6,h7⟩:=yG hE hps hg hs
  rcases h6.2 hl with h|h
  ·exact jD (it:={ it with hp:=dF fW (hidden (befs ops.toList []) st j) hp }) h1 h2 h4 (.inl ⟨BQ h h3,rfl⟩) ⟨h5,h7⟩
  ·exact jD (it:=it) h1 h2 h4 (.inr (.inl ⟨h,h3⟩)) ⟨h5,h7⟩
 ·rename_i hl
  obtain⟨it,h1,h2,h3,h4,h5,h6,h7⟩:=yG hE hps hg hs
  exact jD (it:=it) h1 h2 h4 (.inl ⟨h6.1 hl,h3⟩) ⟨h5,h7⟩
theorem IV{t:TypeId}{ad x:Operand}(ho:o.op=.store t ad x){k:Tm->List O->T}{k':List O->T}(hk:k'=fun hp=>k tm hp)
  (hs:sat E.G P Q (opST E (befs ops.toList []) st o j t ad x tm hp k')):OneS E P ops N st Q o j tm hp k:=by
 subst hk
 unfold opST at hs
 split at hs
 ·rename_i b kk jj ty hgu hdn ha ht
  split at hs
  ·rename_i hgb hok
   split at hs
   ·rename_i o' hst
    rw[rf]at hs
    have hb:b<ax:=by
     rcases Nat.lt_or_ge b ax with h|h
     ·exact h
     ·rw[Nat.ble_eq_true_of_le h]at hgb;cases hgb
    refine⟨⟨o,tm,hp,.junk,.set b o'⟩,rfl,rfl,fun d e=>(by rw[hdn]at e;cases e),.inr (.inr ⟨b,o',rfl,hok,hgu,hdn,hb,KH hst,fun hpX hX=>?_⟩),?_⟩
    ·dsimp only
     rw[bR,ho]
     simp only[evOp,ha,ht,hgb,hX,hst]
    ·have e1:(⟨o,tm,hp,.junk,.set b o'⟩:Item).putT tm=tm:=by unfold Item.putT;dsimp only;rw[hdn]
     rw[e1]
     exact hs
   ·exact hs.elim
  ·exact hs.elim
 ·exact hs.elim
end steps
theorem MN(hE:E.Ok P)(hps:PsOk E P){st:List (Nat×Nat)}{Q:Exit->Tm->List O->Prop}{k:Tm->List O->T} :
  ∀ (rest:List Oper) (j:Nat) (tm:Tm) (hp:List O),(∀ (q:Nat) (o:Oper),rest[q]?=some o->ops[j+q]?=some o)->(∀ o∈rest,∀ c,o.op≠.defer c) ->
   sat E.G P Q (evS E N ops.toList (befs ops.toList []) st rest j tm hp k) ->
   ∃ items tm' hp',jg E P ops N j items/\items.length=rest.length/\TrS E P ops N st items j tm hp tm' hp'/\sat E.G P Q (k tm' hp'):=by
 intro rest
 induction rest with
 |nil=>exact fun j tm hp _ _ hs=>⟨[],tm,hp,⟨fun k it h=>by simp at h,fun k it d h=>by simp at h,fun k it h=>by simp at h⟩,rfl,⟨rfl,rfl⟩,hs⟩
 |cons o rest ih=>
  intro j tm hp hop hnd hs
  have hone:OneS E P ops N st Q o j tm hp fun tm hp=>evS E N ops.toList (befs ops.toList []) st rest (j+1) tm hp k:=by
   unfold evS at hs
   split at hs
   ·rename_i t a x ho
    exact IV ho rfl hs
   ·split at hs
    ·rename_i hg
     exact LF hE hps hg rfl hs
    ·rename_i i want hg
     split at hs
     ·exact hs.elim
     ·rename_i d hd
      split at hs
      ·rename_i hb
       exact xw hE hps ⟨E,i,want,d,hg,hd,by rw[hb]⟩ rfl hs
      ·rename_i hb
       exact jD (it:=⟨o,tm,_,vno,.none⟩) rfl rfl rfl (.inl ⟨tR ⟨E,i,want,d,hg,hd,by rw[hb]⟩ (hnd o (by simp)),rfl⟩) (bE hs)
      ·rename_i b hb
       exact xw hE hps ⟨E,i,want,d,hg,hd,by rw[hb]⟩ rfl hs
      ·exact hs.elim
  have hop':∀ (q:Nat) (o:Oper),rest[q]?=some o->ops[j+1+q]?=some o:=fun q o' h=>by
   have:=hop (q+1) o' (by simpa using h)
   rwa [show j+(q+1)=j+1+q by omega]at this
  have hnd':∀ o∈rest,∀ c,o.op≠.defer c:=fun o' h=>hnd o' (by simp[h])
  obtain⟨it,h1,h2,hd,hok,hs'⟩:=hone
  obtain⟨items,tm',hp',hI,hl,hT,hk⟩:=ih (j+1) _ _ hop' hnd' hs'
  refine⟨it::items,tm',hp',⟨fun q x hx=>?_,fun q x d hx=>?_,fun q x hx=>?_⟩,by simp[hl],⟨h2,hok,hT⟩,hk⟩
  ·cases q with
   |zero=>simp only[List.getElem?_cons_zero,Option.some.injEq]at hx;subst hx;rw[h1];exact hop 0 o rfl
   |succ q=>have:=hI.op q x (by simpa using hx);rwa [show j+(q+1)=j+1+q by omega]
  ·cases q with
   |zero=>simp only[List.getElem?_cons_zero,Option.some.injEq]at hx;subst hx;rw[h1];exact hd d
   |succ q=>exact hI.dst q x d (by simpa using hx)
  ·cases q with
   |zero=>
    simp only[List.getElem?_cons_zero,Option.some.injEq]at hx;subst hx
    rcases hok with⟨h,_⟩|⟨h,_⟩|⟨b,o',h,_⟩
    ·exact .inl h
    ·exact .inr (.inl h)
    ·exact .inr (.inr (.inr ⟨b,o',h⟩))
   |succ q=>exact hI.sem q x (by simpa using hx)
theorem tg{Q:Exit->Tm->List O->Prop}:∀ (l:List Oper) (j:Nat) (tm:Tm) (hp:List O) (k:List (Nat×Nat)->T),sat E.G P Q (oe E l j tm hp k)->∃ st,sat E.G P Q (k st)
 |[],_,_,_,k,h=>⟨[],h⟩
 |o::r,j,tm,hp,k,h=>by
  unfold oe at h
  (repeat' split at h)<;>(try rw[fO]at h)<;>(try rw[gv]at h)<;>(obtain⟨st,h⟩:=tg r _ _ _ _ h;exact⟨_,h⟩)
end
section
variable{E:Env}{G:List O}{P:Program}
theorem Good.mono{μ N:Nat}{c:Code}{tm:Tm}{hp:List O}{R R':Exit->Tm->List O->Prop}(h:Good E.G P μ N c tm hp R)(hr:∀ e tm hp,R e tm hp->R' e tm hp):Good E.G P μ N c tm hp R':=
 fun B w0 S D gs ρ a w n ro h0 hrel=>wpIn_mono (h B w0 S D gs ρ a w n ro h0 hrel) fun _e _a' _w' ⟨tm',hp',ρ',h1,h2,h3⟩=>⟨tm',hp',ρ',h1,h2,hr _ _ _ h3⟩
theorem fx{α β:Type}(f:α->β->β){L:Nat->Bool}(hL:∀ k,L k=false):∀ (l:List α) (i:Nat) (x:β),aH f L l i x=x
 |[],_,_=>rfl
 |a::l,i,x=>by simp only[aH,hL i,cond_false];exact fx f hL l (i+1) x
section
variable{B:Nat}{w0:World}{S:Nat}{N:Nat}{D:List Deferred}{gs:List (Nat×Obj)}{ρ:Ren}{tm:Tm}{hp:List O}{a:Act}{w:World}
theorem Rel.draw(h:Rel G B w0 S N D gs ρ tm hp a w)(n:Nat):Rel G B w0 S N D gs ρ tm hp a { w with drawn:=n }:=
 ⟨h.tr,h.hr.frame (Nat.le_refl _) (fun _ _=>rfl),⟨h.bel.os,h.bel.tape,h.bel.output,h.bel.size,h.bel.block⟩,h.sz,h.df,h.gs,h.bs,h.ss,h.sw⟩
theorem uW(hm:P.follows .mixedOrders=true)(hE:E.Ok P)(hpg:PgOk E P)(hps:PsOk E P){hd:Hd}(hhd:HdOk E.G P hd){ops:Array Oper}{id:Nat}{k:Tm->List O->T}{kx:Exit->Tm->List O->T}{Q:Exit->Tm->List O->Prop}{n:Nat}{ro:Option Nat}{Qx:Exit->Act->World->Prop}
  (hQx:∀ a' w',(∃ tm' hp' ρ',Rel E.G B w0 S N D gs ρ' tm' hp' a' w'/\ρ.le ρ'/\sat E.G P Q (k tm' hp'))->Qx .normal a' w')
  (hQp:∀ e a' w',(∃ tm' hp' ρ',Rel E.G B w0 S N D gs ρ' tm' hp' a' w'/\ρ.le ρ'/\sat E.G P Q (kx e tm' hp'))->Qx e a' w')
  (hs:sat E.G P Q (rK E hd N ops.toList tm hp k kx)) (h:Rel E.G B w0 S N D gs ρ tm hp a w):(Code.region id ops true).wpIn (Fr ro) n P Qx a w:=by
 unfold rK at hs
 simp only[eE,fO]at hs
 generalize hmm:oF (befs ops.toList []) ops.toList.length=m at hs
 have hms:m<=ops.size:=by rw[<-hmm,<-Array.length_toList];exact rR _ _
 obtain⟨hd0,hs⟩:=hs
 rw[Bool.and_eq_true]at hd0
 have hdo:=tU hms hd0.1
 split at hs
 ·rename_i hlt
  have hlt:=aM hlt
  obtain⟨items,tm',hp',na',rs',hI,hl,hT,hS,hk⟩:=Mn hE hpg hps (ops:=ops) (base:=hp.length) (nA:=ow (ops.toList.take m)) (by omega) (ops.toList.take m) 0 tm _ 0 []
   (fun q o hq=>by
    rw[List.getElem?_take]at hq
    split at hq
    ·rw[Nat.zero_add,<-Array.getElem?_toList];exact hq
    ·cases hq)
   (fun o ho c hc=>by
    have:=List.all_eq_true.1 hd0.2 o (List.mem_of_mem_take ho)
    rw[hc]at this;simp[qE]at this)
   (fun e he=>by simp at he) hs
  rw[sE]at hk
  have hlen:items.length=m:=by rw[hl,List.length_take,Array.length_toList];omega
  have hno:∀ j,Lof (Array.replicate ops.size false) j=false:=fun j=>by
   unfold Lof
   rw[Array.getD_eq_getD_getElem?]
   by_cases hj:j<ops.size
   ·simp[hj]
   ·simp[hj]
  refine wpIn_region_any hm (Mq (B:=B) (w0:=w0) (S:=S) (D:=D) (gs:=gs) (hp0:=hp) (tm0:=tm) (ρ0:=ρ) (rs':=rs') hE hI hlen hdo hS (by omega) (fun i it hit=>by simpa using hT.at 0 i it hit) ?_ ops.size _ a _ ρ (by simp) (fun j o ho hj=>by rw[hno]at hj;cases hj) (fun j _=>hno j) (Nat.le_trans (List.count_le_length (a:=false) (l:=List.replicate ops.size false)) (by simp)) ?_ (Ren.le_refl ρ))
  ·intro a' w' ρ' h' hl'
   obtain⟨f1,f2⟩:=hT.fin 0
   obtain⟨rs2,r1,r2⟩:=hS.fin
   rw[List.nil_append]at r1
   subst r1
   rw[r2 0 _ (fun q x id o hx hw=>by have:=(nk hS q x id o hx hw).2;simp;omega),<-f1,<-f2]at h'
   have:=jL (n:=n) (ro:=ro) (ρ0:=ρ) hE hps hhd (ops:=ops) hQx hQp (ops.toList.drop m) (ops.toList.take m) _ _ ρ' a' w' (List.take_append_drop m _).symm hk h' hl'
   rwa [List.length_take,List.length_drop,Array.length_toList,Nat.min_eq_left hms]at this
  ·rw[fx _ hno,fx _ hno]
   have h1:=h.draw (w.drawn+1)
   exact⟨h1.tr,h1.hr.reserve _ (by omega),h1.bel,h1.sz,h1.df,h1.gs,h1.bs,h1.ss,h1.sw⟩
 ·exact hs.elim
theorem sr(hm:P.follows .mixedOrders=true)(hE:E.Ok P)(hps:PsOk E P){hd:Hd}(hhd:HdOk E.G P hd){ops:Array Oper}{id:Nat}{k:Tm->List O->T}{kx:Exit->Tm->List O->T}{Q:Exit->Tm->List O->Prop}{n:Nat}{ro:Option Nat}{Qx:Exit->Act->World->Prop}
  (hQx:∀ a' w',(∃ tm' hp' ρ',Rel E.G B w0 S N D gs ρ' tm' hp' a' w'/\ρ.le ρ'/\sat E.G P Q (k tm' hp'))->Qx .normal a' w')
  (hQp:∀ e a' w',(∃ tm' hp' ρ',Rel E.G B w0 S N D gs ρ' tm' hp' a' w'/\ρ.le ρ'/\sat E.G P Q (kx e tm' hp'))->Qx e a' w')
  (hs:sat E.G P Q (mR E hd N ops.toList tm hp k kx)) (h:Rel E.G B w0 S N D gs ρ tm hp a w):(Code.region id ops true).wpIn (Fr ro) n P Qx a w:=by
 unfold mR at hs
 dsimp only at hs
 generalize hmm:oF (befs ops.toList []) ops.toList.length=m at hs
 have hms:m<=ops.size:=by rw[<-hmm,<-Array.length_toList];exact rR _ _
 obtain⟨hd0,hs⟩:=hs
 rw[Bool.and_eq_true]at hd0
 have hdo:=tU hms hd0.1
 obtain⟨st,hs⟩:=tg _ _ _ _ _ hs
 obtain⟨items,tm',hp',hI,hl,hT,hk⟩:=MN (N:=N) hE hps (ops:=ops) (ops.toList.take m) 0 tm _
  (fun q o hq=>by
   rw[List.getElem?_take]at hq
   split at hq
   ·rw[Nat.zero_add,<-Array.getElem?_toList];exact hq
   ·cases hq)
  (fun o ho c hc=>by
   have:=List.all_eq_true.1 hd0.2 o (List.mem_of_mem_take ho)
   rw[hc]at this;simp[qE]at this) hs
 have hlen:items.length=m:=by rw[hl,List.length_take,Array.length_toList];omega
 have hno:∀ j,Lof (Array.replicate ops.size false) j=false:=fun j=>by
  unfold Lof
  rw[Array.getD_eq_getD_getElem?]
  by_cases hj:j<ops.size
  ·simp[hj]
  ·simp[hj]
 refine wpIn_region_any hm (Kn (B:=B) (w0:=w0) (S:=S) (D:=D) (gs:=gs) (hp0:=hp) (tm0:=tm) (ρ0:=ρ) hE hI hlen hdo hT ?_ ops.size _ a _ ρ (by simp) (fun j o ho hj=>by rw[hno]at hj;cases hj) (fun j _=>hno j) (Nat.le_trans (List.count_le_length (a:=false) (l:=List.replicate ops.size false)) (by simp)) ?_ (Ren.le_refl ρ))
 ·intro a' w' ρ' h' hl'
  obtain⟨f1,f2⟩:=hT.fin
  rw[<-f1,<-f2]at h'
  have:=jL (n:=n) (ro:=ro) (ρ0:=ρ) hE hps hhd (ops:=ops) hQx hQp (ops.toList.drop m) (ops.toList.take m) _ _ ρ' a' w' (List.take_append_drop m _).symm hk h' hl'
  rwa [List.length_take,List.length_drop,Array.length_toList,Nat.min_eq_left hms]at this
 ·rw[fx _ hno,fx _ hno]
  exact h.draw (w.drawn+1)
theorem sk(hm:P.follows .mixedOrders=true)(hE:E.Ok P)(hpg:PgOk E P)(hps:PsOk E P){hd:Hd}(hhd:HdOk E.G P hd){ops:Array Oper}{id:Nat}{k:Tm->List O->T}{kx:Exit->Tm->List O->T}{Q:Exit->Tm->List O->Prop}{n:Nat}{ro:Option Nat}{Qx:Exit->Act->World->Prop}
  (hQx:∀ a' w',(∃ tm' hp' ρ',Rel E.G B w0 S N D gs ρ' tm' hp' a' w'/\ρ.le ρ'/\sat E.G P Q (k tm' hp'))->Qx .normal a' w')
  (hQp:∀ e a' w',(∃ tm' hp' ρ',Rel E.G B w0 S N D gs ρ' tm' hp' a' w'/\ρ.le ρ'/\sat E.G P Q (kx e tm' hp'))->Qx e a' w')
  (hs:sat E.G P Q (mV E hd N ops.toList tm hp k kx)) (h:Rel E.G B w0 S N D gs ρ tm hp a w):(Code.region id ops true).wpIn (Fr ro) n P Qx a w:=by
 unfold mV at hs
 split at hs
 ·exact sr hm hE hps hhd hQx hQp hs h
 ·exact uW hm hE hpg hps hhd hQx hQp hs h
end
theorem dP(hm:P.follows .mixedOrders=true)(hE:E.Ok P)(hpg:PgOk E P)(hps:PsOk E P){hd:Hd}(hhd:HdOk E.G P hd){μ N:Nat}:∀ (c:Code) (tm:Tm) (hp:List O) (k:Exit->Tm->List O->T) (Q:Exit->Tm->List O->Prop),
  sat E.G P Q (evC E hd μ N c tm hp k)->Good E.G P μ N c tm hp fun e tm' hp'=>sat E.G P Q (k e tm' hp'):=by
 intro c
 induction c with
 |label l=>exact fun tm hp k Q hs B w0 S D gs ρ a w n ro h0 h=>wpIn_label ⟨tm,hp,ρ,h,Ren.leB_refl μ ρ,hs⟩
 |scope c ih=>
  intro tm hp k Q hs B w0 S D gs ρ a w n ro h0 h
  have hx:=h0.imp_right fun e=>(by simpa[bG]using e:bG c=true)
  refine wpIn_scope (wpIn_mono (ih tm hp _ Q hs B w0 S D gs ρ a w n ro hx h) ?_)
  rintro e a' w' ⟨tm',hp',ρ',h',hl,hs'⟩
  cases e with
  |goto l=>exact hs'.elim
  |normal=>exact⟨fun _ e=>(by cases e),tm',hp',ρ',h',hl,hs'⟩
  |exit id=>exact⟨fun _ e=>(by cases e),tm',hp',ρ',h',hl,hs'⟩
  |ret=>exact⟨fun _ e=>(by cases e),tm',hp',ρ',h',hl,hs'⟩
  |panic ch=>exact⟨fun _ e=>(by cases e),tm',hp',ρ',h',hl,hs'⟩
  |outgrown=>exact⟨fun _ e=>(by cases e),tm',hp',ρ',h',hl,hs'⟩
 |skip=>exact fun tm hp k Q hs B w0 S D gs ρ a w n ro h0 h=>wpIn_skip ⟨tm,hp,ρ,h,Ren.leB_refl μ ρ,hs⟩
 |exit id=>exact fun tm hp k Q hs B w0 S D gs ρ a w n ro h0 h=>wpIn_exit ⟨tm,hp,ρ,h,Ren.leB_refl μ ρ,hs⟩
 |ret=>exact fun tm hp k Q hs B w0 S D gs ρ a w n ro h0 h=>wpIn_ret ⟨tm,hp,ρ,h,Ren.leB_refl μ ρ,hs⟩
 |seq x y ihx ihy=>
  intro tm hp k Q hs B w0 S D gs ρ a w n ro h0 h
  have hx:=h0.imp_right fun e=>(by simpa[bG]using e:bG x=true/\bG y=true)
  refine wpIn_seq (wpIn_mono (ihx tm hp _ Q hs B w0 S D gs ρ a w n ro (hx.imp_right (·.1)) h) ?_)
  rintro e a' w' ⟨tm',hp',ρ',h',hl,hs'⟩
  cases e with
  |normal=>
   refine wpIn_mono (ihy tm' hp' k Q hs' B w0 S D gs ρ' a' w' n ro (hx.imp_right (·.2)) h') ?_
   rintro e a2 w2 ⟨tm2,hp2,ρ2,h2,hl2,hs2⟩
   exact⟨tm2,hp2,ρ2,h2,Ren.leB_trans hl hl2,hs2⟩
  |_=>exact⟨tm',hp',ρ',h',hl,hs'⟩
 |cond c x y ihx ihy=>
  intro tm hp k Q hs B w0 S D gs ρ a w n ro h0 h
  have hx:=h0.imp_right fun e=>(by simpa[bG]using e:bG x=true/\bG y=true)
  have hev:=dz (w:=w) h.tr h.hr.hv c
  simp only[evC]at hs
  split at hs
  ·rename_i he;rw[he]at hev;exact wpIn_cond_true hev (ihx tm hp k Q hs B w0 S D gs ρ a w n ro (hx.imp_right (·.1)) h)
  ·rename_i he;rw[he]at hev;exact wpIn_cond_false hev (ihy tm hp k Q hs B w0 S D gs ρ a w n ro (hx.imp_right (·.2)) h)
  ·rename_i b he
   rw[he]at hev
   split at hs
   ·obtain⟨R,hR,hk⟩:=hs
    exact hR.mono hk B w0 S D gs ρ a w n ro h0 h
   ·exact wpIn_cond_split hev (fun e=>ihx tm hp k Q (hs.1 e) B w0 S D gs ρ a w n ro (hx.imp_right (·.1)) h) (fun e=>ihy tm hp k Q (hs.2 e) B w0 S D gs ρ a w n ro (hx.imp_right (·.2)) h)
  ·exact hs.elim
 |block id x ih=>
  intro tm hp k Q hs B w0 S D gs ρ a w n ro h0 h
  refine wpIn_block (wpIn_mono (ih tm hp _ Q hs B w0 S D gs ρ a w n ro h0 h) ?_)
  rintro e a' w' ⟨tm',hp',ρ',h',hl,hs'⟩
  cases e with
  |exit id'=>
   simp only[Exit.inBlock]
   dsimp only at hs'
   split at hs'
   ·rename_i hb;rw[if_pos (Nat.eq_of_beq_eq_true hb)];exact⟨tm',hp',ρ',h',hl,hs'⟩
   ·rename_i hb;rw[if_neg (Nat.ne_of_beq_eq_false hb)];exact⟨tm',hp',ρ',h',hl,hs'⟩
  |_=>exact⟨tm',hp',ρ',h',hl,hs'⟩
 |loop x ih=>
  intro tm hp k Q hs
  obtain⟨R,hR,hk⟩:=hs
  exact hR.mono hk
 |rangeFunc g ps x y=>
  intro tm hp k Q hs
  obtain⟨R,hR,hk⟩:=hs
  exact hR.mono hk
 |region id ops draw=>
  intro tm hp k Q hs B w0 S D gs ρ a w n ro h0 h
  cases draw with
  |true=>
   simp only[evC]at hs
   split at hs
   ·obtain⟨R,hR,hk⟩:=hs
    exact hR.mono hk B w0 S D gs ρ a w n ro h0 h
   exact sk hm hE hpg hps hhd (fun a' w' ⟨tm',hp',ρ',h1,h2,h3⟩=>⟨tm',hp',ρ',h1,h2.leB,h3⟩) (fun e a' w' ⟨tm',hp',ρ',h1,h2,h3⟩=>⟨tm',hp',ρ',h1,h2.leB,h3⟩) hs h
  |false=>
   refine wpIn_region ?_
   have:=jL (n:=n) (ro:=ro) (ρ0:=ρ) hE hps hhd (ops:=ops) (Qx:=fun e a' w'=>∃ tm' hp' ρ',Rel E.G B w0 S N D gs ρ' tm' hp' a' w'/\ρ.leB μ ρ'/\sat E.G P Q (k e tm' hp')) (fun a' w' ⟨tm',hp',ρ',h1,h2,h3⟩=>⟨tm',hp',ρ',h1,h2.leB,h3⟩) (fun e a' w' ⟨tm',hp',ρ',h1,h2,h3⟩=>⟨tm',hp',ρ',h1,h2.leB,h3⟩) ops.toList [] tm hp ρ a w rfl hs h (Ren.le_refl ρ)
   simpa[List.range_eq_range']using this
 |_=>exact fun tm hp k Q hs=>hs.elim
end
end Go.Ab
