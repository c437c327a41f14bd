/- Contracts of the functions that the laws reach, and plain laws of what they compute (text G12); no condition. -/
import Derived.Test.YtppdngemnbflmaaGreatDoorG11
import Derived.Test.YtppdngemnbflmaaGreatDoorG9
import Derived.Test.YtppdngemnbflmaaGreatDoorG10
import Derived.Test.YtppdngemnbflmaaGreatDoorG8
import Derived.Test.YtppdngemnbflmaaGreatDoorG4
import Derived.Test.YtppdngemnbflmaaGreatDoorG7
set_option maxRecDepth 100000
set_option maxHeartbeats 4000000
namespace Go.Ab
open Go.Proofs
section
variable{kCa kDb:Bool}
end
section
theorem mG(q:Psn):(⟨q.f,q.r,q.zs,q.bl,q.ca,q.pa,q.ha,q.fu⟩:Psn)=q:=rfl
section
variable{p:Psn}
theorem Kz{a b pr:Int}(h:mvB p.f p.r a b pr=false):canM p a b pr=false:=by unfold canM;rw[h];rfl
theorem CT{a b:Int}:(rG p a b).length<=5:=by
 unfold rG
 rw[List.length_map]
 exact Nat.le_trans (List.length_filter_le _ _) (by decide)
theorem vq{a:Int}(hl:p.zs.length<=64):(psL p a).length<=320:=by
 have key:∀ l:List Int,(l.flatMap (rG p a)).length<=5*l.length:=by
  intro l
  induction l with
  |nil=>simp
  |cons x l ih=>
   have:=CT (p:=p) (a:=a) (b:=x)
   rw[List.flatMap_cons,List.length_append,List.length_cons]
   omega
 have:=key ((List.range p.zs.length).map Int.ofNat)
 rw[List.length_map,List.length_range]at this
 unfold psL
 omega
def allL(p:Psn):List (List Int):=((List.range p.zs.length).map Int.ofNat).flatMap (psL p)
theorem Jn(o:PsH p){a:Int}(ha:ai p.f p.r a=true){acc:List (List Int)}(h:acc.length<=90000):nc p ⟨p,ownS p,occR p.f p.r p.zs⟩ a acc=some (.inl (acc++psL p a)):=by
 have hp:=vq (p:=p) (a:=a) o.hl
 have h2:decide ((acc.length+(psL p a).length)*24<=140737488355328)=true:=by have:=o.hl;simp;omega
 unfold nc
 simp only[List.drop_zero,List.take_length,tA,decide_true,be,Fi o ha,bG,h2]
 rfl
theorem DZ(o:PsH p){α:Type}{g:Int->List α}(hg:∀ a:Int,isP (p.zs.getD a.toNat 0) p.bl=false->g a=[]):(bitL (ownS p)).flatMap g=((List.range p.zs.length).map Int.ofNat).flatMap g:=by
 obtain⟨hwu,hwb⟩:=yN o.hl
 unfold bitL
 rw[pS o.hl (fun m _ h=>by rw[hwb,Bool.and_eq_true,decide_eq_true_eq]at h;exact h.1)]
 refine jX fun x hx=>?_
 obtain⟨m,hm,rfl⟩:=List.mem_map.1 hx
 have hm:=List.mem_range.1 hm
 rw[hwb,show (Int.ofNat m).toNat=m from rfl,decide_eq_true hm,Bool.true_and]
 cases h:isP (p.zs.getD m 0) p.bl with
 |true=>rfl
 |false=>exact(hg (Int.ofNat m) h).symm
theorem Ex{a:Int}(h:isP (p.zs.getD a.toNat 0) p.bl=false):psL p a=[]:=by
 unfold psL
 rw[List.flatMap_eq_nil_iff]
 exact fun _ _=>sJ h
theorem nv(o:PsH p):jR p=some (allL p,0):=by
 obtain⟨hwu,hwb⟩:=yN o.hl
 have h1:decide (p.zs.length<=64)=true:=by simpa using o.hl
 have hlen:=mz (ownS p)
 unfold jR
 simp only[List.drop_zero,List.take_length,mG,h1,o.ok,be,Bool.not_true,cond_false,look_eq o.hl o.bd,bG,yG hwu]
 rw[oB (rows:=psL p) (M:=90000) (k:=320) (fun x hx acc h=>?_) (fun _ _=>vq o.hl) (by simp;omega),List.nil_append,DZ o (fun _ h=>Ex h)]
 ·rfl
 ·obtain⟨b1,b2,b3⟩:=Gg hx
  rw[hwb,Bool.and_eq_true,decide_eq_true_eq]at b3
  exact Jn o ((cG o.bd).2 ⟨b1,by omega⟩) h
theorem qT(o:PsH p):(allL p).length<=100000:=by
 have key:∀ l:List Int,(l.flatMap (psL p)).length<=320*l.length:=by
  intro l
  induction l with
  |nil=>simp
  |cons x l ih=>
   have:=vq (p:=p) (a:=x) o.hl
   rw[List.flatMap_cons,List.length_append,List.length_cons]
   omega
 have:=key ((List.range p.zs.length).map Int.ofNat)
 rw[List.length_map,List.length_range]at this
 have:=o.hl
 unfold allL
 omega
end
end
section
variable{p:Psn}{m:Mov}
theorem qF(o:PsH p)(h:canM p m.a m.b m.p=true):MvOk p m:=by
 unfold canM at h
 simp only[Bool.and_eq_true,Bool.not_eq_true']at h
 obtain⟨⟨hmv,hp⟩,he⟩:=h
 simp only[mvB,Bool.and_eq_true,Bool.or_eq_true,decide_eq_true_eq,Bool.not_eq_true',decide_eq_false_iff_not]at hmv
 obtain⟨⟨⟨ha,hb⟩,hab⟩,hpr⟩:=hmv
 exact⟨o.h,o.hl,o.ok,o.ca,ha,hb,hab,hpr,hp,he⟩
theorem vu(x y:Int):imax true x y=x\/imax true x y=y:=by
 unfold imax
 dsimp only
 cases decide (x<y)
 ·exact .inl rfl
 ·exact .inr rfl
theorem Hl{n:Int}(h1:-8<=n)(h2:n<=8):n<=absI n/\-n<=absI n:=by
 unfold absI
 by_cases h:n<0
 ·rw[decide_eq_true h,cond_true,az (by omega) (by omega)];omega
 ·rw[decide_eq_false h,cond_false];omega
theorem Fp{f r a b:Int}(ha:ai f r a=true)(hb:ai f r b=true):∃ d:Int,Jj ⟨f,r⟩ a b=some (d,0)/\(oQ f a b=1->d≠2):=by
 obtain⟨a0,a1,a2,a3,a4,a5,a6,a7,a8,a9⟩:=de ha
 obtain⟨b0,b1,b2,b3,b4,b5,_⟩:=de hb
 have pa:aO f r a=(px f a,py f a,0):=by unfold aO;rw[ha,cond_true,a0]
 have pb:aO f r b=(px f b,py f b,0):=by unfold aO;rw[hb,cond_true,b0]
 refine⟨imax true (imax true (imax true (IntKind.i64.wrap (px f a-px f b)) (IntKind.i64.wrap (px f b-px f a))) (IntKind.i64.wrap (py f a-py f b))) (IntKind.i64.wrap (py f b-py f a)),?_,?_⟩
 ·unfold Jj
  rw[pa,pb]
  rfl
 ·intro h hd
  unfold oQ at h
  rw[a0,b0,show a.tmod f=px f a from rfl,show b.tmod f=px f b from rfl,az (n:=py f a-py f b) (by omega) (by omega),az (n:=px f a-px f b) (by omega) (by omega)]at h
  rw[az (n:=px f a-px f b) (by omega) (by omega),az (n:=px f b-px f a) (by omega) (by omega),az (n:=py f a-py f b) (by omega) (by omega),az (n:=py f b-py f a) (by omega) (by omega)]at hd
  have gx:=Hl (n:=px f a-px f b) (by omega) (by omega)
  have gy:=Hl (n:=py f a-py f b) (by omega) (by omega)
  have hx:absI (px f a-px f b)<=1/\absI (py f a-py f b)<=1:=by
   by_cases hc:absI (py f a-py f b)<absI (px f a-px f b)
   ·rw[decide_eq_true hc,cond_true]at h;omega
   ·rw[decide_eq_false hc,cond_false]at h;omega
  have o1:=vu (px f a-px f b) (px f b-px f a)
  have o2:=vu (imax true (px f a-px f b) (px f b-px f a)) (py f a-py f b)
  have o3:=vu (imax true (imax true (px f a-px f b) (px f b-px f a)) (py f a-py f b)) (py f b-py f a)
  omega
theorem MvOk.castles(o:MvOk p m):∃ d:Int,Jj ⟨p.f,p.r⟩ m.a m.b=some (d,0)/\(decide (absP (p.zs.getD m.a.toNat 0)=6)&&decide (d=2))=!decide (cgL p.f p.r p.zs p.bl p.ca m.a m.b m.p=0):=by
 cases hw:wayB p.f p.r p.zs (wayN p.zs p.bl p.ca m.a m.b) with
 |true=>
  have hn:wayN p.zs p.bl p.ca m.a m.b≠4:=by intro e;rw[e]at hw;simp[wayB]at hw
  obtain⟨hk,_,_,hc,_⟩:=o.way hw
  obtain⟨h88,_⟩:=ov (a:=m.a) (b:=m.b) (bl:=p.bl) o.bd o.cast hn
  simp only[is88,Bool.and_eq_true,decide_eq_true_eq]at h88
  obtain⟨_,hsq⟩:=Cx hn
  refine⟨2,?_,by rw[o.kd,decide_eq_true hk,decide_eq_false hc];rfl⟩
  rw[h88.1,h88.2]
  rcases hsq with⟨_,_,_,e1,e2⟩|⟨_,_,_,e1,e2⟩|⟨_,_,_,e1,e2⟩|⟨_,_,_,e1,e2⟩<;>rw[e1,e2]<;>decide
 |false=>
  have hc:=o.noway hw
  obtain⟨d,h1,h2⟩:=Fp o.ha o.hb
  refine⟨d,h1,?_⟩
  rw[o.kd,decide_eq_true hc]
  cases hk:decide (aU (p.zs.getD m.a.toNat 0)=6) with
  |false=>rfl
  |true=>
   have hk6:=of_decide_eq_true hk
   have hso:=o.so
   simp only[err3,hw,Bool.not_false,Bool.true_or,Bool.and_true,Bool.or_eq_false_iff,Bool.not_eq_false']at hso
   have hg:=hso.2
   rw[kI (_ca:=p.ca) o.h o.hl o.ha o.hb o.hp,hk6]at hg
   have hg:(decide (m.p=0)&&aQ p.f p.r 6 m.a m.b (occL p.zs))=true:=hg
   rw[Bool.and_eq_true]at hg
   have:=h2 (lA o.ha o.hb hg.2)
   rw[decide_eq_false this];rfl
end
section
variable{p:Psn}{m:Mov}
def legM(p:Psn)(m:Mov):Bool:=canM p m.a m.b m.p&&!err4 p m
theorem HU(hok:p.ok=true)(hmv:mvB p.f p.r m.a m.b m.p=true):(decide (mkE5 p m=0)||decide (mkE5 p m=7))=legM p m:=by
 have h1:err1 p m=false:=by unfold err1;rw[hok,hmv];rfl
 unfold mkE5 legM canM
 rw[h1,hmv]
 cases isP (p.zs.getD m.a.toNat 0) p.bl with
 |false=>rfl
 |true=>
  have he:err3 p ⟨m.a,m.b,m.p⟩=err3 p m:=rfl
  rw[he]
  cases err3 p m with
  |true=>rfl
  |false=>cases err4 p m<;>cases err5 p m<;>rfl
end
section
variable{kCa kDb:Bool}
def keeps(p:Psn)(m:Mov):Option (Bool):=let x5:=List.take p.zs.length (List.drop 0 p.zs);let x3:=mkE5 (Psn.mk p.f p.r x5 p.bl p.ca p.pa p.ha p.fu) (Mov.mk m.a m.b m.p);let x4:=x5.length;bE (decide (x4<=64)) (some (decide (x3=0)||decide (x3=7)))
def rH(R:Bool):V:=Bb R
def qu(_:Bool):List O:=[]
def wZ:CF
 |[.agg [.int .i64 p_0,.int .i64 p_1,.sl 0 0 p_2n none,.bool p_3,.int .u8 p_4,.int .i64 p_5,.int .i64 p_6,.int .i64 p_7],.agg [.int .i64 m_0,.int .i64 m_1,.int .i8 m_2]],[.ints false .i8 p_2]=>retC (decide (p_2n=p_2.length)) (keeps ⟨p_0,p_1,p_2,p_3,p_4,p_5,p_6,p_7⟩ ⟨m_0,m_1,m_2⟩) false rH qu
 |_,_=>none
theorem sY(p:Psn)(m:Mov){r}(hr:keeps p m=some r):aS (GGx true kDb) PP 61 [.agg [.int .i64 p.f,.int .i64 p.r,.sl 0 0 p.zs.length none,Bb p.bl,.int .u8 p.ca,.int .i64 p.pa,.int .i64 p.ha,.int .i64 p.fu],.agg [.int .i64 m.a,.int .i64 m.b,.int .i8 m.p]] [.ints false .i8 p.zs] (rH r) (qu r):=by
 have hE:=cutE (aC (kCa:=true) (kDb:=kDb) (cts:=[(40,xW)]) (inl:=[]) ⟨uI,trivial⟩ trivial)
 refine fy hE 2 Tryz.func61 rfl rfl rH qu hr ?_ rfl rfl
 refine eS (pl (decide_eq_true (bL rfl)) id) ?_
 refine ak (Bool.not_or_self _) ?_
 refine ak (Bool.or_not_self _) ?_
 exact aY (bp [] (.inr rfl) rfl rfl rfl rfl rfl)
theorem zI:CtOk (GGx true kDb) PP (61,wZ):=by
 refine aE Tryz.func61 (by kernel_rfl) rfl fun a0 h0 c0 v0 N0 e hc=>?_
 unfold wZ at e
 split at e
 ·rename_i p_0 p_1 p_2n p_3 p_4 p_5 p_6 p_7 m_0 m_1 m_2 p_2
  obtain⟨hl,r,hr,rfl,rfl⟩:=cO e hc
  simp only[decide_eq_true_eq]at hl
  obtain rfl:=hl
  exact sY ⟨p_0,p_1,p_2,p_3,p_4,p_5,p_6,p_7⟩ ⟨m_0,m_1,m_2⟩ hr
 ·cases e
def sD(p:Psn):Option (Bool):=some (decide (Int.ofNat p.zs.length<=64))
def oG(R:Bool):V:=Bb R
def oq(_:Bool):List O:=[]
def nu:CF
 |[.agg [.int .i64 p_0,.int .i64 p_1,.sl 0 0 p_2n none,.bool p_3,.int .u8 p_4,.int .i64 p_5,.int .i64 p_6,.int .i64 p_7]],[.ints false .i8 p_2]=>retC (decide (p_2n=p_2.length)) (sD ⟨p_0,p_1,p_2,p_3,p_4,p_5,p_6,p_7⟩) false oG oq
 |_,_=>none
theorem wF(p:Psn){r}(hr:sD p=some r):aS (GGx kCa kDb) PP 4 [.agg [.int .i64 p.f,.int .i64 p.r,.sl 0 0 p.zs.length none,Bb p.bl,.int .u8 p.ca,.int .i64 p.pa,.int .i64 p.ha,.int .i64 p.fu]] [.ints false .i8 p.zs] (oG r) (oq r):=by
 have hE:=cutE (aC (kCa:=kCa) (kDb:=kDb) (cts:=[]) (inl:=[]) trivial trivial)
 refine fy hE 2 Tryz.func4 rfl rfl oG oq hr ?_ rfl rfl
 exact aY (bp [] (.inr rfl) rfl rfl rfl rfl rfl)
theorem uo:CtOk (GGx kCa kDb) PP (4,nu):=by
 refine aE Tryz.func4 (by kernel_rfl) rfl fun a0 h0 c0 v0 N0 e hc=>?_
 unfold nu at e
 split at e
 ·rename_i p_0 p_1 p_2n p_3 p_4 p_5 p_6 p_7 p_2
  obtain⟨hl,r,hr,rfl,rfl⟩:=cO e hc
  simp only[decide_eq_true_eq]at hl
  obtain rfl:=hl
  exact wF ⟨p_0,p_1,p_2,p_3,p_4,p_5,p_6,p_7⟩ hr
 ·cases e
end
end Go.Ab
namespace Go.Ab
open IntKind
open Go.Proofs
section
variable{kCa kDb:Bool}
def sE:Psn->List (List Int)->List (List Int)×Int->Option (List (List Int)×Int ⊕ List (List Int) ⊕ List (List Int)):=fun(p:Psn) (l:List (List Int))=>let x21:=Psn.mk p.f p.r (List.take p.zs.length (List.drop 0 p.zs)) p.bl p.ca p.pa p.ha p.fu;fun(s9:List (List Int)×Int)=>let x24:=(s9.1.length+1)*24;let x25:=decide (s9.2<Int.ofNat l.length);let x26:=(l.getD s9.2.toNat []).getD 1 0;let x27:=(l.getD s9.2.toNat []).getD 2 0;let x28:=(l.getD s9.2.toNat []).getD 0 0;let x23:=Mov.mk x28 x26 x27;bif x25 then bE (decide (0<=s9.2)&&x25) (fF (keeps x21 x23) Inhabited.default fun(_y10:Bool)=>dV (bif (keeps x21 x23).getD false then bE (decide (x24<=140737488355328)) (some (Sum.inl (s9.1++List.take 1 (List.drop 0 [iL [x28,x26,x27]]))))else some (Sum.inl s9.1)) fun(s12:List (List Int))=>some (Sum.inl (s12,i64.wrap (s9.2+1))))else some (Sum.inr (Sum.inl s9.1))
def kept(p:Psn)(l:List (List Int)):Option (List (List Int)):=ew (sE p l) (fun(s20:List (List Int))=>let x33:=decide (Int.ofNat s20.length<=Int.ofNat s20.length);let x34:=(Int.ofNat s20.length).toNat-Int.toNat 0;bE (decide (0<=Int.ofNat s20.length)&&x33&&x33) (bE (decide (x34=s20.length)) (some s20))) 1000000 ([],0)
def xN(R:List (List Int)):V:=.sl 2 0 R.length (some R.length)
def Cj(R:List (List Int)):List O:=[.rows true [.i64,.i64,.i8] R]
def AU:CF
 |[.agg [.int .i64 p_0,.int .i64 p_1,.sl 0 0 p_2n none,.bool p_3,.int .u8 p_4,.int .i64 p_5,.int .i64 p_6,.int .i64 p_7],.sl 1 0 l_0n none],[.ints false .i8 p_2,.rows false [.i64,.i64,.i8] l_0]=>retC (decide (p_2n=p_2.length)&&decide (l_0n=l_0.length)) (kept ⟨p_0,p_1,p_2,p_3,p_4,p_5,p_6,p_7⟩ l_0) [] xN Cj
 |_,_=>none
theorem EY(p:Psn)(l:List (List Int)){r}(hr:kept p l=some r):aS (GGx true kDb) PP 31 [.agg [.int .i64 p.f,.int .i64 p.r,.sl 0 0 p.zs.length none,Bb p.bl,.int .u8 p.ca,.int .i64 p.pa,.int .i64 p.ha,.int .i64 p.fu],.sl 1 0 l.length none] [.ints false .i8 p.zs,.rows false [.i64,.i64,.i8] l] (xN r) (Cj r):=by
 have hE:=cutE (aC (kCa:=true) (kDb:=kDb) (cts:=[(61,wZ)]) (inl:=[]) ⟨zI,trivial⟩ trivial)
 refine fy hE 2 Tryz.func31 rfl rfl xN Cj hr ?_ rfl rfl
 refine gD hE 2 (fun(s9:List (List Int)×Int)=>([(2,V.ptr 2 0 0),(4,V.nils),(5,V.fn 61 []),(6,V.sl 3 0 s9.1.length none),(9,V.sl 1 0 l.length none),(10,I (Int.ofNat l.length)),(11,I s9.2)],[O.ints false i8 p.zs,O.rows false [i64,i64,i8] l,O.cells true [I p.f,I p.r,V.sl 0 0 p.zs.length none,Bb p.bl,V.int u8 p.ca,I p.pa,I p.ha,I p.fu],O.rows true [i64,i64,i8] s9.1])) (fun(s20:List (List Int))=>([(4,V.nils),(6,V.sl 2 0 s20.length none)],[O.ints false i8 p.zs,O.rows false [i64,i64,i8] l,O.rows true [i64,i64,i8] s20])) (.exit 0) ((Ent.phT 6 (O.rows true [i64,i64,i8] []) rfl rfl rfl rfl rfl).trans (Ent.rn [0,1,2,3] [2,4,5,6,9,10,11] rfl rfl rfl rfl rfl)) (fun s9=>?_) (fun s20=>?_)
 ·refine aP hE 2 rfl ?_ ?_
  ·refine ct ?_
   refine bJ (pl (decide_eq_true (bL rfl)) id) ?_
   refine dZ hE 2 (fun(s12:List (List Int))=>([(2,V.ptr 2 0 0),(4,V.nils),(5,V.fn 61 []),(6,V.sl 3 0 s12.length none),(9,V.sl 1 0 l.length none),(10,I (Int.ofNat l.length)),(11,I s9.2)],[O.ints false i8 p.zs,O.rows false [i64,i64,i8] l,O.cells true [I p.f,I p.r,V.sl 0 0 p.zs.length none,Bb p.bl,V.int u8 p.ca,I p.pa,I p.ha,I p.fu],O.rows true [i64,i64,i8] s12])) rfl ?_ ?_ (fun s12=>?_)
   ·refine eS (pr (pl (decide_eq_true rfl) id) rfl) ?_
    exact cq ((Ent.rn [0,1,2,6] [2,4,5,6,9,10,11] rfl rfl rfl rfl rfl))
   ·exact cq ((Ent.rn [0,1,2,3] [2,4,5,6,9,10,11] rfl rfl rfl rfl rfl))
   exact fY ((Ent.rn [0,1,2,3] [2,4,5,6,9,10,11] rfl rfl rfl rfl rfl))
  exact gF ((Ent.rn [0,1,3] [4,6] rfl rfl rfl rfl rfl))
 refine eS (pb (pb (pl rfl id) id) id) ?_
 refine Ly (fun h0=>?_)
 exact aY (bp [2] (.inr rfl) rfl rfl rfl rfl (by have qh0:=of_decide_eq_true h0;simp_all [xN,addN]))
theorem Bs:CtOk (GGx true kDb) PP (31,AU):=by
 refine aE Tryz.func31 (by kernel_rfl) rfl fun a0 h0 c0 v0 N0 e hc=>?_
 unfold AU at e
 split at e
 ·rename_i p_0 p_1 p_2n p_3 p_4 p_5 p_6 p_7 l_0n p_2 l_0
  obtain⟨hl,r,hr,rfl,rfl⟩:=cO e hc
  simp only[Bool.and_eq_true,decide_eq_true_eq]at hl
  obtain⟨rfl,rfl⟩:=hl
  exact EY ⟨p_0,p_1,p_2,p_3,p_4,p_5,p_6,p_7⟩ l_0 hr
 ·cases e
def ec(p:Psn):Option (List (List Int)×Int):=let x3:=Psn.mk p.f p.r (List.take p.zs.length (List.drop 0 p.zs)) p.bl p.ca p.pa p.ha p.fu;fF (jR x3) ([],0) fun(y1:List (List Int)×Int)=>bif !decide (y1.2=0)then some ([],y1.2)else fF (kept x3 (List.take y1.1.length (List.drop 0 y1.1))) [] fun(y2:List (List Int))=>some (y2,0)
def sI(R:List (List Int)×Int):V:=.tup [.sl 1 0 R.1.length (some R.1.length),.int .i64 R.2]
def sH(R:List (List Int)×Int):List O:=[.rows true [.i64,.i64,.i8] R.1]
def ri:CF
 |[.agg [.int .i64 p_0,.int .i64 p_1,.sl 0 0 p_2n none,.bool p_3,.int .u8 p_4,.int .i64 p_5,.int .i64 p_6,.int .i64 p_7]],[.ints false .i8 p_2]=>retC (decide (p_2n=p_2.length)) (ec ⟨p_0,p_1,p_2,p_3,p_4,p_5,p_6,p_7⟩) ([],0) sI sH
 |_,_=>none
theorem yZ(p:Psn){r}(hr:ec p=some r):aS (GGx true true) PP 8 [.agg [.int .i64 p.f,.int .i64 p.r,.sl 0 0 p.zs.length none,Bb p.bl,.int .u8 p.ca,.int .i64 p.pa,.int .i64 p.ha,.int .i64 p.fu]] [.ints false .i8 p.zs] (sI r) (sH r):=by
 have hE:=cutE (aC (kCa:=true) (kDb:=true) (cts:=[(30,jx),(31,AU)]) (inl:=[]) ⟨iH,Bs,trivial⟩ trivial)
 refine fy hE 2 Tryz.func8 rfl rfl sI sH hr ?_ rfl rfl
 unfold ec
 refine bJ (pl (decide_eq_true (bL rfl)) id) ?_
 refine aP hE 2 rfl ?_ ?_
 ·exact aY (HY 2 (.rows true [.i64,.i64,.i8] []) rfl rfl rfl<|bp [3] (.inr rfl) rfl rfl rfl rfl rfl)
 refine bJ (pl (pa (decide_eq_true (bL rfl)) (decide_eq_true (bL rfl))) id) ?_
 exact aY (bp [3] (.inr rfl) rfl rfl rfl rfl rfl)
theorem we:CtOk (GGx true true) PP (8,ri):=by
 refine aE Tryz.func8 (by kernel_rfl) rfl fun a0 h0 c0 v0 N0 e hc=>?_
 unfold ri at e
 split at e
 ·rename_i p_0 p_1 p_2n p_3 p_4 p_5 p_6 p_7 p_2
  obtain⟨hl,r,hr,rfl,rfl⟩:=cO e hc
  simp only[decide_eq_true_eq]at hl
  obtain rfl:=hl
  exact yZ ⟨p_0,p_1,p_2,p_3,p_4,p_5,p_6,p_7⟩ hr
 ·cases e
end
end Go.Ab
namespace Go.Ab
open Go.Proofs
section
theorem nj{β σ ξ α:Type}{step:σ×Int->Option (σ×Int ⊕ (ξ ⊕ α))}{F:ξ->Option α}(l:List β)(f:σ->β->σ)(out:σ->ξ)(inv:Nat->σ->Prop)
  (hs:∀ (j:Nat) (x:β) (s:σ),l[j]?=some x->inv j s->step (s,(j:Int))=some (.inl (f s x,((j+1:Nat):Int)))/\inv (j+1) (f s x))
  (he:∀ s,inv l.length s->step (s,(l.length:Int))=some (.inr (.inl (out s)))) :
  ∀ (k fuel j:Nat) (s:σ),j+k=l.length->k<fuel->inv j s->ew step F fuel (s,(j:Int))=F (out ((l.drop j).foldl f s))
 |k,0,j,s,_,h,_=>absurd h (by omega)
 |0,fuel+1,j,s,h,_,hi=>by
  have h0:j=l.length:=by omega
  subst h0
  rw[kf (he s hi),List.drop_length];rfl
 |k+1,fuel+1,j,s,h,hf,hi=>by
  have hj:j<l.length:=by omega
  obtain⟨h1,h2⟩:=hs j l[j] s (List.getElem?_eq_getElem hj) hi
  rw[dw h1,nj l f out inv hs he k fuel (j+1) _ (by omega) (by omega) h2,List.drop_eq_getElem_cons hj,List.foldl_cons]
theorem jJ{β:Type}(q:β->Bool):∀ (l acc:List β),l.foldl (fun acc x=>bif q x then acc++[x]else acc) acc=acc++l.filter q
 |[],acc=>by simp
 |x::l,acc=>by
  rw[List.foldl_cons,jJ q l,List.filter_cons]
  cases q x<;>simp
def mvR(r:List Int):Mov:=⟨r.getD 0 0,r.getD 1 0,r.getD 2 0⟩
section
variable{p:Psn}
def tW(p:Psn)(r:List Int):Prop:=∃ a b pr,r=[a,b,pr]/\canM p a b pr=true
def legF(p:Psn)(r:List Int):Bool:=!err4 p (mvR r)
theorem Iz{a:Int}{r:List Int}(h:r∈psL p a):∃ b pr,r=[a,b,pr]/\canM p a b pr=true:=by
 unfold psL rG at h
 simp only[List.mem_flatMap,List.mem_map,List.mem_filter]at h
 obtain⟨b,_,pr,⟨_,h2⟩,rfl⟩:=h
 exact⟨b,pr,rfl,h2⟩
theorem Kq{a:Int}{r:List Int}(h:r∈psL p a):tW p r:=let ⟨b,pr,h1,h2⟩:=Iz h;⟨a,b,pr,h1,h2⟩
theorem qq{r:List Int}(h:r∈allL p):tW p r:=by
 unfold allL at h
 obtain⟨a,_,h⟩:=List.mem_flatMap.1 h
 exact Kq h
theorem AK{a b pr:Int}(h:canM p a b pr=true):mvB p.f p.r a b pr=true:=by
 cases hm:mvB p.f p.r a b pr with
 |true=>rfl
 |false=>rw[Kz hm]at h;cases h
theorem EH(o:PsH p){a b pr:Int}(h:canM p a b pr=true):keeps p ⟨a,b,pr⟩=some (legF p [a,b,pr]):=by
 have h1:decide (p.zs.length<=64)=true:=by simpa using o.hl
 unfold keeps
 simp only[List.drop_zero,List.take_length,mG,h1,be]
 rw[HU (m:=⟨a,b,pr⟩) o.ok (AK h)]
 unfold legM legF mvR
 rw[h];rfl
theorem Jr(o:PsH p){l:List (List Int)}(hl:l.length<=100000)(hr:∀ r∈l,tW p r):kept p l=some (l.filter (legF p)):=by
 unfold kept
 refine(nj (step:=sE p l) l (fun acc x=>bif legF p x then acc++[x]else acc) (fun s=>s) (fun j s=>s.length<=j) ?_ ?_ l.length 1000000 0 [] (by omega) (by omega) (by simp)).trans ?_
 rotate_left 2
 ·rw[List.drop_zero,jJ,List.nil_append]
  have h1:decide (Int.ofNat (l.filter (legF p)).length<=Int.ofNat (l.filter (legF p)).length)=true:=by simp
  have h2:decide (0<=Int.ofNat (l.filter (legF p)).length)=true:=by simp
  have h3:decide ((Int.ofNat (l.filter (legF p)).length).toNat-Int.toNat 0=(l.filter (legF p)).length)=true:=by simp
  simp only[h1,h2,h3,Bool.and_self,be]
 ·intro j x s hx hi
  obtain⟨a,b,pr,rfl,hc⟩:=hr x (List.mem_of_getElem? hx)
  have hj:=(List.getElem?_eq_some_iff.1 hx).1
  have e1:l.getD (j:Int).toNat []=[a,b,pr]:=by simp[List.getD,hx]
  have h1:decide ((j:Int)<Int.ofNat l.length)=true:=by simp;omega
  have h2:decide (0<=(j:Int))=true:=by simp
  have h3:decide ((s.length+1)*24<=140737488355328)=true:=by simp;omega
  have hk:=EH o hc
  refine⟨?_,?_⟩
  ·unfold sE
   simp only[List.drop_zero,List.take_length,mG,e1,h1,h2,h3,cond_true,Bool.and_self,be]
   rw[show ([a,b,pr]:List Int).getD 0 0=a from rfl,show ([a,b,pr]:List Int).getD 1 0=b from rfl,show ([a,b,pr]:List Int).getD 2 0=pr from rfl,hk,bG,Option.getD_some,show IntKind.i64.wrap ((j:Int)+1)=((j+1:Nat):Int)from az (by omega) (by omega)]
   cases legF p [a,b,pr]<;>rfl
  ·cases legF p [a,b,pr]<;>simp<;>omega
 ·intro s _
  have h1:decide ((l.length:Int)<Int.ofNat l.length)=false:=by simp
  unfold sE
  simp only[h1,cond_false]
theorem Bl(o:PsH p):ec p=some ((allL p).filter (legF p),0):=by
 unfold ec
 simp only[List.drop_zero,List.take_length,mG,nv o,bG,decide_true,Bool.not_true,cond_false]
 rw[Jr o (qT o) fun r h=>qq h];rfl
end
end
def afM(r:List Int):Mov:=⟨r.getD 0 0,r.getD 1 0,r.getD 2 0⟩
def cD(p:Psn)(l:List (List Int)):List (Mov×Psn):=l.filterMap fun r=>bif decide (mkE5 p (afM r)=0)then some (afM r,mkP p (afM r))else none
def BW(x:Mov×Psn):List V:=[.agg [I x.1.a,I x.1.b,.int .i8 x.1.p],.agg [I x.2.f,I x.2.r,.sl 0 0 x.2.zs.length none,Bb x.2.bl,.int .u8 x.2.ca,I x.2.pa,I x.2.ha,I x.2.fu]]
def afNs(x:Mov×Psn):List O:=[.ints true .i8 x.2.zs]
def afHc(p:Psn):List O:=[.cells false [I p.f,I p.r,.sl 2 0 p.zs.length none,Bb p.bl,.int .u8 p.ca,I p.pa,I p.ha,I p.fu],.ints false .i8 p.zs]
theorem BB{p:Psn}:∀ {l:List (List Int)} {j:Nat} (hj:j<l.length),mkE5 p (afM l[j])=0->(cD p l)[(cD p (l.take j)).length]?=some (afM l[j],mkP p (afM l[j]))/\(cD p (l.take (j+1))).length=(cD p (l.take j)).length+1:=by
 intro l j hj he
 have h1:l.take (j+1)=l.take j++[l[j]]:=by rw[List.take_succ_eq_append_getElem hj]
 have h2:l=l.take j++l[j]::l.drop (j+1):=by rw[List.getElem_cons_drop,List.take_append_drop]
 have h3:cD p [l[j]]=[(afM l[j],mkP p (afM l[j]))]:=by simp[cD,he]
 refine⟨?_,?_⟩
 ·have h4:cD p l=cD p (l.take j)++(afM l[j],mkP p (afM l[j]))::cD p (l.drop (j+1)):=by
   have h5:cD p l=cD p (l.take j++l[j]::l.drop (j+1)):=by rw[<-h2]
   rw[h5]
   unfold cD
   rw[List.filterMap_append,List.filterMap_cons,he]
   rfl
  rw[h4,List.getElem?_append_right (Nat.le_refl _)];simp
 ·rw[h1]
  unfold cD at h3 ⊢
  rw[List.filterMap_append,h3];simp
theorem Au{p:Psn}:∀ {l:List (List Int)} {j:Nat} (hj:j<l.length),mkE5 p (afM l[j])≠0->(cD p (l.take (j+1))).length=(cD p (l.take j)).length:=by
 intro l j hj he
 have h1:l.take (j+1)=l.take j++[l[j]]:=by rw[List.take_succ_eq_append_getElem hj]
 rw[h1]
 unfold cD
 rw[List.filterMap_append]
 simp[he]
theorem FT(p:Psn){l:List (List Int)}{e:Int}(hp:jR p=some (l,e))(hl:p.zs.length<=64)(hn:l.length<=100000):SqH (GGx true true) PP 39 (afHc p) [.ptr 1 0 0] [.rows true [.i64,.i64,.i8] l] ((cD p l).map fun x=>(BW x,afNs x)):=by
 have hE:=aC (kCa:=true) (kDb:=true) (cts:=[(30,jx),(40,xW)]) (inl:=[]) ⟨iH,uI,trivial⟩ trivial
 refine Cq hE Tryz.func39 rfl rfl rfl rfl rfl fun nn l0 S0 ρc J ok=>?_
 refine YH.seq (YH.seg hE 2 ?_)
 have e1:(⟨p.f,p.r,List.take p.zs.length (List.drop 0 p.zs),p.bl,p.ca,p.pa,p.ha,p.fu⟩:Psn)=p:=by rw[List.drop_zero,List.take_length]
 refine ag (by rw[e1,hp,List.drop_zero,List.take_length];simp) ?_
 refine ae ?_
 rw[e1,hp]
 refine YH.seq (YH.seg hE 2 ?_)
 repeat (first|refine ah ?_|refine ag (by first|rfl|(simp;done)|(simp;omega)) ?_)
 refine ae ?_
 refine YH.block (YH.loop (fun a:Nat×Nat×Bool=>((some a.2.1,a.2.2),[(0,.yl 0),(1,.ptr 1 0 0),(15,.sl 3 0 l.length none),(16,I l.length),(17,I a.1)],
   [.gone,.cells false [I p.f,I p.r,.sl 2 0 p.zs.length none,Bb p.bl,.int .u8 p.ca,I p.pa,I p.ha,I p.fu],.ints false .i8 p.zs,match a.2.2 with|true=>.rows false [.i64,.i64,.i8] l|false=>.rows true [.i64,.i64,.i8] l]))
  (fun a=>a.1<=l.length/\a.2.1=(cD p (l.take a.1)).length) (fun a=>l.length-a.1) (0,0,false) rfl (Ent.ren [0,1,2,3] [0,1,15,16,17] rfl rfl rfl) ⟨Nat.zero_le _,rfl⟩ ?_)
 rintro⟨j,i,hd⟩ ⟨i1,i2⟩
 dsimp only at i1 i2 ⊢
 have hrow:∀ (x:Bool),(match x with|true=>O.rows false [.i64,.i64,.i8] l|false=>.rows true [.i64,.i64,.i8] l)=O.rows (!x) [.i64,.i64,.i8] l:=by intro x;cases x<;>rfl
 cases hd with
 |false=>
  refine YH.seq (YH.seg hE 2 ?_)
  repeat (first|refine ah ?_|refine sat_nd ?_)
  refine ae ?_
  refine YH.seq (YH.seg hE 2 ?_)
  refine aq (fun h1=>ae ?_) (fun h1=>ae ?_)
  ·have hj:j<l.length:=by have h1:=of_decide_eq_true h1;omega
   have hw:IntKind.i64.wrap ((j:Int)+1)=((j+1:Nat):Int):=az (by omega) (by omega)
   have hx:l.getD (j:Int).toNat []=l[j]:=by simp[List.getD,hj]
   refine YH.seq (YH.block (YH.seq (YH.seg hE 2 ?_)))
   repeat (first|refine ah ?_|refine sat_nd ?_)
   refine ae ?_
   refine YH.seq (YH.seg hE 2 ?_)
   refine ag (by rw[List.drop_zero,List.take_length];simpa using hl) ?_
   repeat (first|refine ah ?_|refine sat_nd ?_)
   refine ae ?_
   rw[e1]
   refine YH.seq (YH.yregAt ok 2 6 rfl rfl rfl ?_)
   repeat (first|refine ah ?_|refine sat_nd ?_)
   refine ae ?_
   have hmv:(⟨(l.getD (j:Int).toNat []).getD 0 0,(l.getD (j:Int).toNat []).getD 1 0,(l.getD (j:Int).toNat []).getD 2 0⟩:Mov)=afM l[j]:=by rw[hx];rfl
   refine And.intro (fun hg=>?_) (fun hg=>?_)
   ·repeat (first|refine ah ?_|refine sat_nd ?_)
    refine ae ?_
    have he:mkE5 p (afM l[j])=0:=by rw[<-hmv];exact of_decide_eq_true hg
    obtain⟨n1,n2⟩:=BB hj he
    refine⟨i,BW (afM l[j],mkP p (afM l[j])),afNs (afM l[j],mkP p (afM l[j])),[0,1,15,16,17,30],[3,5],_,rfl,by rw[List.getElem?_map,i2,n1];rfl,rfl,rfl,by rw[<-hmv];rfl,by rw[<-hmv];rfl,rfl,rfl,rfl,rfl,fun b=>?_⟩
    cases b with
    |true=>
     repeat (first|refine ah ?_|refine sat_nd ?_)
     refine ae ?_
     refine YH.seg hE 2 ?_
     repeat (first|refine ah ?_|refine sat_nd ?_)
     refine ae ?_
     refine YH.seg hE 2 ?_
     repeat (first|refine ah ?_|refine sat_nd ?_)
     refine ae ⟨(j+1,i+1,true),⟨hj,by dsimp only;omega⟩,by dsimp only;omega,rfl,?_⟩
     dsimp only
     rw[hw]
     exact Ent.ren [0,1,2,3] [0,1,15,16,17] rfl rfl rfl
    |false=>
     repeat (first|refine ah ?_|refine sat_nd ?_)
     refine ae ?_
     refine YH.seg hE 2 ?_
     repeat (first|refine ah ?_|refine sat_nd ?_)
     exact ae ⟨.inr rfl,.inr rfl⟩
   ·repeat (first|refine ah ?_|refine sat_nd ?_)
    refine ae ?_
    have he:mkE5 p (afM l[j])≠0:=by rw[<-hmv];exact of_decide_eq_false hg
    refine YH.seg hE 2 ?_
    repeat (first|refine ah ?_|refine sat_nd ?_)
    refine ae ?_
    refine YH.seg hE 2 ?_
    repeat (first|refine ah ?_|refine sat_nd ?_)
    refine ae ⟨(j+1,i,false),⟨hj,by dsimp only;rw[Au hj he];exact i2⟩,by dsimp only;omega,rfl,?_⟩
    dsimp only
    rw[hw]
    exact Ent.ren [0,1,2,3] [0,1,15,16,17] rfl rfl rfl
  ·have hj:j=l.length:=by have h1:=of_decide_eq_false h1;omega
   refine⟨.inl rfl,.inl ?_⟩
   dsimp only
   rw[i2,hj,List.take_length,List.length_map]
 |true=>
  refine YH.seq (YH.seg hE 2 ?_)
  repeat (first|refine ah ?_|refine sat_nd ?_)
  refine ae ?_
  refine YH.seq (YH.seg hE 2 ?_)
  refine aq (fun h1=>ae ?_) (fun h1=>ae ?_)
  ·have hj:j<l.length:=by have h1:=of_decide_eq_true h1;omega
   have hw:IntKind.i64.wrap ((j:Int)+1)=((j+1:Nat):Int):=az (by omega) (by omega)
   have hx:l.getD (j:Int).toNat []=l[j]:=by simp[List.getD,hj]
   refine YH.seq (YH.block (YH.seq (YH.seg hE 2 ?_)))
   repeat (first|refine ah ?_|refine sat_nd ?_)
   refine ae ?_
   refine YH.seq (YH.seg hE 2 ?_)
   refine ag (by rw[List.drop_zero,List.take_length];simpa using hl) ?_
   repeat (first|refine ah ?_|refine sat_nd ?_)
   refine ae ?_
   rw[e1]
   refine YH.seq (YH.yregAt ok 2 6 rfl rfl rfl ?_)
   repeat (first|refine ah ?_|refine sat_nd ?_)
   refine ae ?_
   have hmv:(⟨(l.getD (j:Int).toNat []).getD 0 0,(l.getD (j:Int).toNat []).getD 1 0,(l.getD (j:Int).toNat []).getD 2 0⟩:Mov)=afM l[j]:=by rw[hx];rfl
   refine And.intro (fun hg=>?_) (fun hg=>?_)
   ·repeat (first|refine ah ?_|refine sat_nd ?_)
    refine ae ?_
    have he:mkE5 p (afM l[j])=0:=by rw[<-hmv];exact of_decide_eq_true hg
    obtain⟨n1,n2⟩:=BB hj he
    refine⟨i,BW (afM l[j],mkP p (afM l[j])),afNs (afM l[j],mkP p (afM l[j])),[0,1,15,16,17,30],[5],_,rfl,by rw[List.getElem?_map,i2,n1];rfl,rfl,rfl,by rw[<-hmv];rfl,by rw[<-hmv];rfl,rfl,rfl,rfl,rfl,fun b=>?_⟩
    cases b with
    |true=>
     repeat (first|refine ah ?_|refine sat_nd ?_)
     refine ae ?_
     refine YH.seg hE 2 ?_
     repeat (first|refine ah ?_|refine sat_nd ?_)
     refine ae ?_
     refine YH.seg hE 2 ?_
     repeat (first|refine ah ?_|refine sat_nd ?_)
     refine ae ⟨(j+1,i+1,true),⟨hj,by dsimp only;omega⟩,by dsimp only;omega,rfl,?_⟩
     dsimp only
     rw[hw]
     exact Ent.ren [0,1,2,3] [0,1,15,16,17] rfl rfl rfl
    |false=>
     repeat (first|refine ah ?_|refine sat_nd ?_)
     refine ae ?_
     refine YH.seg hE 2 ?_
     repeat (first|refine ah ?_|refine sat_nd ?_)
     exact ae ⟨.inr rfl,.inr rfl⟩
   ·repeat (first|refine ah ?_|refine sat_nd ?_)
    refine ae ?_
    have he:mkE5 p (afM l[j])≠0:=by rw[<-hmv];exact of_decide_eq_false hg
    refine YH.seg hE 2 ?_
    repeat (first|refine ah ?_|refine sat_nd ?_)
    refine ae ?_
    refine YH.seg hE 2 ?_
    repeat (first|refine ah ?_|refine sat_nd ?_)
    refine ae ⟨(j+1,i,true),⟨hj,by dsimp only;rw[Au hj he];exact i2⟩,by dsimp only;omega,rfl,?_⟩
    dsimp only
    rw[hw]
    exact Ent.ren [0,1,2,3] [0,1,15,16,17] rfl rfl rfl
  ·have hj:j=l.length:=by have h1:=of_decide_eq_false h1;omega
   refine⟨.inl rfl,.inl ?_⟩
   dsimp only
   rw[i2,hj,List.take_length,List.length_map]
def afL(p:Psn):List (List Int):=((jR p).getD ([],0)).1
def afLs(p:Psn):List (Mov×Psn):=cD p (afL p)
def IL(p:Psn):O:=.rows true [.i64,.i64,.i8] (afL p)
abbrev Ky:List V:=[.ptr 1 0 0]
def afOk(p:Psn):Bool:=(jR p).isSome&&decide (p.zs.length<=64)&&decide ((afL p).length<=100000)
theorem KG(p:Psn)(h:afOk p=true):SqH (GGx true true) PP 39 (afHc p) Ky [IL p] ((afLs p).map fun x=>(BW x,afNs x)):=by
 unfold afOk at h
 simp only[Bool.and_eq_true,decide_eq_true_eq]at h
 obtain⟨⟨h1,h2⟩,h3⟩:=h
 cases hp:jR p with
 |none=>rw[hp]at h1;cases h1
 |some r=>
  obtain⟨l,e⟩:=r
  have hl:afL p=l:=by unfold afL;rw[hp];rfl
  have:=FT p hp h2 (by rw[<-hl];exact h3)
  unfold IL afLs
  rw[hl]
  exact this
section
variable{p:Psn}
theorem KV(o:PsH p){a b pr:Int}(hc:canM p a b pr=true):mkE5 p ⟨a,b,pr⟩=bif err4 p ⟨a,b,pr⟩then 90 else bif err5 p ⟨a,b,pr⟩then 7 else 0:=by
 have hmv:=AK hc
 have h1:err1 p ⟨a,b,pr⟩=false:=by unfold err1;rw[o.ok,hmv];rfl
 have k:=qF (m:=⟨a,b,pr⟩) o hc
 have hp:isP (p.zs.getD a.toNat 0) p.bl=true:=k.hp
 unfold mkE5
 rw[h1,k.so]
 dsimp only
 rw[hp]
 rfl
def okR(p:Psn)(r:List Int):Bool:=legF p r&&!err5 p (mvR r)
theorem GR(o:PsH p){r:List Int}(hr:tW p r):decide (mkE5 p (afM r)=0)=okR p r:=by
 obtain⟨a,b,pr,rfl,hc⟩:=hr
 have:=KV o hc
 unfold okR legF
 show decide (mkE5 p ⟨a,b,pr⟩=0)=(!err4 p ⟨a,b,pr⟩&&!err5 p ⟨a,b,pr⟩)
 rw[this]
 cases err4 p ⟨a,b,pr⟩<;>cases err5 p ⟨a,b,pr⟩<;>rfl
theorem JJ(o:PsH p){a b pr:Int}(hc:canM p a b pr=true)(he:mkE5 p ⟨a,b,pr⟩=0):afP p ⟨a,b,pr⟩=mkP p ⟨a,b,pr⟩:=by
 have k:=qF (m:=⟨a,b,pr⟩) o hc
 rw[k.after]
 unfold mkP
 rw[he];rfl
theorem um(o:PsH p):∀ l:List (List Int),(∀ r∈l,tW p r)->cD p l=(l.filter (okR p)).map fun r=>(afM r,mkP p (afM r))
 |[],_=>rfl
 |r::l,h=>by
  have ih:=um o l fun x hx=>h x (by simp[hx])
  have he:=GR o (h r (by simp))
  unfold cD at ih ⊢
  rw[List.filterMap_cons,he,ih,List.filter_cons]
  cases okR p r<;>rfl
def La(p:Psn):List (List Int):=(allL p).filter (okR p)
theorem IU(o:PsH p):afLs p=(La p).map fun r=>(afM r,mkP p (afM r)):=by
 unfold afLs afL
 rw[nv o]
 exact um o (allL p) fun r h=>qq h
theorem Jg(o:PsH p):afOk p=true:=by
 have h1:decide (p.zs.length<=64)=true:=by simpa using o.hl
 unfold afOk afL
 rw[nv o,h1]
 have:=qT o
 simpa using this
theorem KH(o:PsH p){a b pr:Int}(hc:canM p a b pr=true)(he:mkE5 p ⟨a,b,pr⟩=0):(mkP p ⟨a,b,pr⟩).zs.length=p.zs.length:=by
 rw[<-JJ o hc he]
 exact Jl
end
end Go.Ab
