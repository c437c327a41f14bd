/- Contracts of the functions that the laws reach, and plain laws of what they compute (text G10); no condition. -/
import Derived.Test.YtcmhemipmmckoaaGreatDoorG9
import Derived.Test.YtcmhemipmmckoaaGreatDoorG4
import Derived.Test.YtcmhemipmmckoaaGreatDoorG3
set_option maxRecDepth 100000
namespace Go.Ab
open Go.Proofs
theorem zb(c:Int->Bool)(n:Nat)(hn:n<=64):Uk (jD (fun s i=>bif c i then uor s (ushl 1 i)else s) 0 n)/\∀ m:Nat,bt (jD (fun s i=>bif c i then uor s (ushl 1 i)else s) 0 n) m=(decide (m<n)&&c m):=by
 induction n with
 |zero=>exact⟨uk_0,fun m=>by simp[jD,bt_0]⟩
 |succ n ih=>
  obtain⟨h1,h2⟩:=ih (by omega)
  simp only[jD]
  cases hc:c n with
  |false=>
   refine⟨h1,fun m=>?_⟩
   rw[cond_false,h2]
   by_cases e:m=n
   ·subst e;simp[hc]
   ·congr 1
    simp;omega
  |true=>
   refine⟨gA _ _,fun m=>?_⟩
   rw[cond_true,eY h1 (gJ _ _),gZ (by omega) (by omega),h2]
   by_cases e:m=n
   ·subst e;simp[hc]
   ·have e2:¬ ((n:Int)=m):=by omega
    have e3:decide (m<n)=decide (m<n+1):=by congr 1;exact propext ⟨fun h=>by omega,fun h=>by omega⟩
    simp[e2,e3]
theorem yq{zs:List Int}{i:Nat}(h:i<zs.length):zs.getD i 0∈zs:=by simp[List.getD,h]
theorem mz(p:Int->Bool){zs:List Int}(h:zs.length<=64):Uk (eZ p zs)/\∀ m:Nat,bt (eZ p zs) m=(decide (m<zs.length)&&p (zs.getD m 0)):=by
 have:=zb (fun i=>p (zs.getD i.toNat 0)) zs.length h
 exact this
theorem nk{f r:Int}{zs:List Int}(h:aC f r zs=true)(hl:zs.length<=64):Uk (occR f r zs)/\∀ m:Nat,bt (occR f r zs) m=(decide (m<zs.length)&&!decide (zs.getD m 0=0)):=by
 obtain⟨h1,h2⟩:=mz posP hl
 obtain⟨h3,h4⟩:=mz negP hl
 unfold occR eO
 rw[h]
 refine⟨gA _ _,fun m=>?_⟩
 show bt (uor (eZ posP zs) (eZ negP zs)) m=_
 rw[eY h1 h3,h2,h4,<-Bool.and_or_distrib_left]
 congr 1
 unfold posP negP
 rw[Bool.eq_iff_iff]
 simp only[Bool.or_eq_true,decide_eq_true_eq,Bool.not_eq_true',decide_eq_false_iff_not]
 omega
theorem DT{p:Int}:sgn p=1↔0<p:=by have:=ji p;omega
theorem DR{p:Int}:sgn p=-1↔p<0:=by have:=ji p;omega
theorem nT{f r:Int}{zs:List Int}(h:aC f r zs=true)(hl:zs.length<=64):occL zs=occR f r zs:=by
 obtain⟨h1,h2⟩:=nk h hl
 have hb:∀ x∈cF zs 1++cF zs (-1),0<=x/\x<64:=by
  intro x hx
  rcases List.mem_append.1 hx with hx|hx<;>(have:=gP.1 hx;omega)
 obtain⟨h3,h4⟩:=qc _ 0 hb uk_0
 refine tH h3 h1 fun m hm=>?_
 show bt (ofL (cF zs 1++cF zs (-1)) 0) m=_
 rw[h4,h2,bt_0,Bool.false_or,Bool.eq_iff_iff]
 simp only[decide_eq_true_eq,List.mem_append,gP,DT,DR,Int.toNat_natCast,Bool.and_eq_true,Bool.not_eq_true',decide_eq_false_iff_not]
 omega
theorem zo{f r:Int}{zs:List Int}(h:aW f r zs=true)(hl:zs.length<=64):OnS f r (occR f r zs):=fun m _ hb=>by
 rw[(nk (bn h).2.2.1 hl).2,Bool.and_eq_true,decide_eq_true_eq]at hb
 exact(Cl h).2 ⟨by omega,by omega⟩
theorem mB{f r:Int}{zs:List Int}(h:aW f r zs=true){i:Int}(h0:0<=i)(h1:i<zs.length):-6<=zs.getD i.toNat 0/\zs.getD i.toNat 0<=6:=(bn h).2.2.2 _ (yq (by omega))
theorem jz{p:Int}(h:-6<=p/\p<=6):aY p=p.natAbs:=by
 have hw:∀ q:_root_.Fin 13,aY ((q.val:Int)-6)=(((q.val:Int)-6).natAbs:Int):=by decide +kernel
 have h2:=hw ⟨(p+6).toNat,by omega⟩
 simp only at h2
 rwa [show (((p+6).toNat:Int)-6)=p by omega]at h2
theorem tU{f r kd a occ:Int}(ha:aj f r a=true)(hk:nY kd):bJ f r kd a a occ=false:=by
 obtain⟨e1,e2⟩:=iE ha ha
 have hl:(bw f a a).2.2=false:=by
  rcases tx ha ha with⟨e,_⟩|⟨_,h⟩
  ·rw[e]
  ·unfold lM at h;omega
 have hd:eA f a a=0:=by rw[Iq ha ha,show px f a-px f a=0 by omega,show py f a-py f a=0 by omega];rfl
 unfold bJ
 rw[e1,e2,hl,hd,show px f a-px f a=0 by omega,show py f a-py f a=0 by omega]
 rcases hk with rfl|rfl|rfl|rfl|rfl<;>rfl
theorem MD{f r:Int}{zs:List Int}{occ:Int}(h:aW f r zs=true)(hu:Uk occ)(hon:OnS f r occ){i:Int}(h0:0<=i)(h1:i<zs.length)(hp:zs.getD i.toNat 0≠0) :
  Uk (ofR f r zs i occ)/\OnS f r (ofR f r zs i occ)/\∀ b,aj f r b=true->bt (ofR f r zs i occ) b.toNat=xk f r zs i b occ:=by
 have hi:=(Cl h).2 ⟨h0,h1⟩
 have hb:=mB h h0 h1
 obtain⟨hv,hn,_⟩:=bn h
 unfold ofR xk
 rw[Hg hb,jz hb]
 by_cases hk:zs.getD i.toNat 0=1\/zs.getD i.toNat 0=-1
 ·rw[show (decide (zs.getD i.toNat 0=1)||decide (zs.getD i.toNat 0=-1))=true by simpa using hk,show decide (((zs.getD i.toNat 0).natAbs:Int)=1)=true by rw[decide_eq_true_eq];omega,cond_true]
  obtain⟨_,p1,p2,p3⟩:=wJ (bl:=decide (zs.getD i.toNat 0<0)) hi
  refine⟨p1,p2,fun b hbv=>?_⟩
  rw[p3 b hbv,cond_true,Bool.eq_iff_iff,nS,eH]
  have:=aS hbv
  exact⟨fun h=>⟨this.1,by omega,h⟩,fun h=>h.2.2⟩
 ·have hk':(decide (zs.getD i.toNat 0=1)||decide (zs.getD i.toNat 0=-1))=false:=by simpa using hk
  rw[hk',show decide (((zs.getD i.toNat 0).natAbs:Int)=1)=false by rw[decide_eq_false_iff_not];omega,cond_false]
  have hr:=(jh hu).2 ⟨hi,hon⟩
  have h5:nY ((zs.getD i.toNat 0).natAbs:Int):=by unfold nY;omega
  obtain⟨p1,p2,p3⟩:=qO hr hu h5
  refine⟨p1,p2,fun b hbv=>?_⟩
  show bt (oX f r _ i occ) b.toNat=_
  rw[p3 b hbv,cond_false]
  by_cases e:i=b
  ·subst e;rw[tU hi h5];simp
  ·simp[e]
theorem xK(p:Int)(bl:Bool):isP p bl=decide (sgn p=sdI bl):=by
 unfold isP sdI
 rw[Bool.eq_iff_iff]
 cases bl<;>simp[DT,DR]
theorem yA{p:Int}{bl:Bool}(h:isP p bl=true):p≠0:=by
 rintro rfl;cases bl<;>cases h
theorem rF{f r:Int}{zs:List Int}{to:Int}{bl:Bool}{i:Int}:i∈attL f r zs to bl↔0<=i/\i<zs.length/\isP (zs.getD i.toNat 0) bl=true/\xk f r zs i to (occL zs)=true:=by
 unfold attL
 rw[List.mem_filter,gP,xK,decide_eq_true_eq]
 simp only[Bf,and_assoc]
theorem BT{f r:Int}{zs:List Int}{to:Int}{bl:Bool}(h:aW f r zs=true)(hl:zs.length<=64)(ht:aj f r to=true){i:Int}(h0:0<=i)(h1:i<zs.length):attB f r zs to bl (occR f r zs) i=true↔i∈attL f r zs to bl:=by
 rw[rF]
 unfold attB
 rw[Bool.and_eq_true]
 have ho:=nk (bn h).2.2.1 hl
 have hv:=aS ht
 constructor
 ·rintro⟨h2,h3⟩
  obtain⟨p1,p2,p3⟩:=MD h ho.1 (zo h hl) h0 h1 (yA h2)
  rw[pB p1 hv.1 hv.2.2,p3 to ht,<-nT (bn h).2.2.1 hl]at h3
  exact⟨h0,h1,h2,h3⟩
 ·rintro⟨_,_,h2,h3⟩
  obtain⟨p1,p2,p3⟩:=MD h ho.1 (zo h hl) h0 h1 (yA h2)
  rw[pB p1 hv.1 hv.2.2,p3 to ht,<-nT (bn h).2.2.1 hl]
  exact⟨h2,h3⟩
theorem Ly{f r:Int}{zs:List Int}{to:Int}{bl:Bool}(h:aW f r zs=true)(hl:zs.length<=64)(ht:aj f r to=true):Uk (attR f r zs to bl)/\∀ m:Nat,bt (attR f r zs to bl) m=decide ((m:Int)∈attL f r zs to bl):=by
 obtain⟨h1,h2⟩:=zb (attB f r zs to bl (occR f r zs)) zs.length hl
 refine⟨h1,fun m=>?_⟩
 show bt (jD (fun s i=>bif attB f r zs to bl (occR f r zs) i then uor s (ushl 1 i)else s) 0 zs.length) m=_
 rw[h2,Bool.eq_iff_iff,Bool.and_eq_true,decide_eq_true_eq,decide_eq_true_eq]
 constructor
 ·rintro⟨h3,h4⟩;exact(BT h hl ht (by omega) (by omega)).1 h4
 ·intro h3
  have:=rF.1 h3
  exact⟨by omega,(BT h hl ht (by omega) (by omega)).2 h3⟩
end Go.Ab
set_option maxHeartbeats 4000000
namespace Go.Ab
open Go.Proofs Go.RowKit
section
variable{kDb:Bool}
theorem tP{E:Env}{P:Program}{N:Nat}{tm:Tm}{hp:List O}{n:Nat}{B:Nat}{w0:World}{S:Nat}{D:List Deferred}{gs:List (Nat×Obj)}{ρ:Ren}{a:Act}{w:World}(hE:E.Fn P)(m:Nat){id:Nat}{ops:Array Oper}(hq:ops.toList.all (fun o=>kR o.op)=true){Q2:Tm->List O->Prop}{K:Act->World->Prop}
  (hs:sat E.G P (fun _ tm hp=>Q2 tm hp) (cG E (hdl E m) N ops.toList ops.toList tm hp (.ret .normal) noX)) (h:Rel E.G B w0 S N D gs ρ tm hp a w) (hd:a.defers=D)
  (hK:∀ a' w' tm' hp' ρ',Rel E.G B w0 S N D gs ρ' tm' hp' a' w'->a'.defers=D->ρ.le ρ'->Q2 tm' hp'->K a' w'):(Code.region id ops false).wpIn (Fr none) n P (fun e a' w'=>e=.normal/\K a' w') a w:=by
 refine wpIn_region ?_
 have h1:=ef (n:=n) (ro:=none) (ρ0:=ρ) (tl:=[]) (suf:=[]) (Qx:=fun e a' w'=>e=.normal/\∃ tm1 hp1 ρ1,Rel E.G B w0 S N D gs ρ1 tm1 hp1 a' w'/\ρ.le ρ1/\Q2 tm1 hp1) hE.ok (dA hE) (bU hE m) (ops:=ops)
  (fun a' w' ⟨tm1,hp1,ρ1,r1,r2,r3⟩=>⟨rfl,tm1,hp1,ρ1,r1,r2,r3⟩) (fun e a2 w2 ⟨_,_,_,_,_,q⟩=>q.elim) ops.toList [] tm hp ρ a w (by simp) hs h (Ren.le_refl ρ)
 rw[List.append_nil,List.length_nil,Array.length_toList,<-List.range_eq_range']at h1
 rw[<-List.append_nil (List.range ops.size)]
 refine gK (fun e a w he hq=>absurd hq.1 he) _ a w (fun i _ o ho=>?_) h1 ?_
 ·rw[<-Array.getElem?_toList]at ho
  exact List.all_eq_true.1 hq o (List.mem_of_getElem? ho)
 ·rintro a1 w1 hd1 ⟨_,tm1,hp1,ρ1,r1,r2,r3⟩
  exact⟨rfl,hK a1 w1 tm1 hp1 ρ1 r1 (hd1.trans hd) r2 r3⟩
abbrev MA(a b:Int):Int:=band .andNot .u8 a b
def epB(zs:List Int)(pa a b:Int):Bool:=decide (absP (zs.getD a.toNat 0)=1)&&decide (b=pa)
def at1R(f:Int)(zs:List Int)(pa a b:Int):Int:=bif epB zs pa a b then IntKind.i64.wrap (IntKind.i64.wrap (a-a.tmod f)+b.tmod f)else b
def capR(f:Int)(zs:List Int)(pa a b:Int):Int:=zs.getD (at1R f zs pa a b).toNat 0
def at2R(f:Int)(zs:List Int)(pa a b:Int):Int:=bif decide (capR f zs pa a b=0)then -1 else at1R f zs pa a b
def zs1R(f:Int)(zs:List Int)(pa a b:Int):List Int:=bif decide (0<=at2R f zs pa a b)then zs.set (at2R f zs pa a b).toNat 0 else zs
def zs2R(f:Int)(zs:List Int)(pa a b:Int):List Int:=((zs1R f zs pa a b).set a.toNat 0).set b.toNat (zs.getD a.toNat 0)
def cstR(f r:Int)(zs:List Int)(bl:Bool)(ca pa a b pr:Int):Bool:=wayB f r zs (wayN zs bl ca a b)&&!iB f r zs bl pa a b pr
def putR(l:List Int)(bl:Bool)(b pr:Int)(c:Bool)(n:Nat):List Int:=bif !decide (pr=0)&&bl then l.set b.toNat (w8 (0-pr))else bif !decide (pr=0)then l.set b.toNat pr else bif c then(l.set (wCro n).toNat (l.getD (wCor n).toNat 0)).set (wCor n).toNat 0 else l
def zs3R(f r:Int)(zs:List Int)(bl:Bool)(ca pa a b pr:Int):List Int:=putR (zs2R f zs pa a b) bl b pr (cstR f r zs bl ca pa a b pr) (wayN zs bl ca a b)
def caR(ca a b:Int):Int:=MA ca (u8or (JO a) (JO b))
def twoB(f:Int)(zs:List Int)(a b:Int):Bool:=decide (absP (zs.getD a.toNat 0)=1)&&(decide (IntKind.i64.wrap (b-a)=IntKind.i64.wrap (2*f))||decide (IntKind.i64.wrap (b-a)=IntKind.i64.wrap (-2*f)))
def paR(f:Int)(zs:List Int)(a b:Int):Int:=bif twoB f zs a b then IntKind.i64.wrap (a+IntKind.i64.wrap ((IntKind.i64.wrap (b-a)).tdiv 2))else -1
def haR(f:Int)(zs:List Int)(pa ha a b:Int):Int:=bif decide (absP (zs.getD a.toNat 0)=1)||!decide (capR f zs pa a b=0)then 0 else IntKind.i64.wrap (ha+1)
def fuR(bl:Bool)(fu:Int):Int:=bif bl then IntKind.i64.wrap (fu+1)else fu
def err1(p:Psn)(m:Mov):Bool:=!p.ok||!mvB p.f p.r m.a m.b m.p
def err3(p:Psn)(m:Mov):Bool:=isP (p.zs.getD m.b.toNat 0) p.bl||(!iB p.f p.r p.zs p.bl p.pa m.a m.b m.p&&(!wayB p.f p.r p.zs (wayN p.zs p.bl p.ca m.a m.b)||!decide (m.p=0)))
def err4(p:Psn)(m:Mov):Bool:=chkB p.f p.r (zs3R p.f p.r p.zs p.bl p.ca p.pa m.a m.b m.p) p.bl||(cstR p.f p.r p.zs p.bl p.ca p.pa m.a m.b m.p&&(chkB p.f p.r p.zs p.bl||!decide ((dy p.f p.r p.zs (wCro (wayN p.zs p.bl p.ca m.a m.b)) (!p.bl)).1=0)))
def err5(p:Psn)(m:Mov):Bool:=decide (10000<haR p.f p.zs p.pa p.ha m.a m.b)||decide (10000<fuR p.bl p.fu)
def mkE5(p:Psn)(m:Mov):Int:=bif err1 p m then 2 else bif !isP (p.zs.getD m.a.toNat 0) p.bl then 9 else bif err3 p m then 10 else bif err4 p m then 90 else bif err5 p m then 7 else 0
def mkP(p:Psn)(m:Mov):Psn:=bif decide (mkE5 p m=0) then⟨p.f,p.r,zs3R p.f p.r p.zs p.bl p.ca p.pa m.a m.b m.p,!p.bl,caR p.ca m.a m.b,paR p.f p.zs m.a m.b,haR p.f p.zs p.pa p.ha m.a m.b,fuR p.bl p.fu⟩ else⟨0,0,[],false,0,0,0,0⟩
def mkU(p:Psn)(m:Mov):Und:=bif decide (mkE5 p m=0) then⟨m,capR p.f p.zs p.pa m.a m.b,at2R p.f p.zs p.pa m.a m.b,p.ca,p.pa,p.ha,p.fu⟩ else⟨⟨0,0,0⟩,0,0,0,0,0,0⟩
abbrev psV(b:Nat)(p:Psn):V:=.agg [I p.f,I p.r,.sl b 0 p.zs.length none,Bb p.bl,.int .u8 p.ca,I p.pa,I p.ha,I p.fu]
abbrev unV(u:Und):V:=.agg [I u.m.a,I u.m.b,.int .i8 u.m.p,.int .i8 u.c,I u.at_,.int .u8 u.ca,I u.pa,I u.ha,I u.fu]
theorem MO:∀ a b v,sF 30 a=some (b,v)->jX PP 110 a b v:=by
 intro a b v h
 unfold sF at h
 split at h
 ·cases h;exact Fk _ _ _
 ·cases h
def gh:Code->Code
 |.seq _ y=>y
 |c=>c
noncomputable abbrev EM (kDb:Bool):Env:={ mkEP tyT (GGx true kDb) [(33,dZ),(111,rY),(112,c_is),(115,uR),(113,iT),(114,vY),(60,ny),(116,wX),(117,iJ),(118,Dd)] [] [(110,sF 30)]with cut:=true }
theorem uV{kDb:Bool}:(EM kDb).Fn PP:=cutE (Kc BA tyOk ⟨cM,vP,JK,nO,oH,Bg,ke,Bi,oK,Bx,trivial⟩ trivial ⟨MO,trivial⟩)
theorem MP{kDb:Bool}{zs:List Int}{B1 B2:O}(n:Int)(hn:(!decide (n=0))=true)(o1 o2 o3 o4 o5 o6 o7 o8 u1 u2 u3 u4 u5 u6 u7 u8 u9:V) :
  Lv (EM kDb) PP (fun tm hp=>FinL (EM kDb) Tryz.f63 1 (.tup [psV 1 ⟨0,0,[],false,0,0,0,0⟩,unV ⟨⟨0,0,0⟩,0,0,0,0,0,0⟩,I n]) [.ints true .i8 []] .ret tm hp) [⟨109,[],[.ptr 5 0 0]⟩,⟨108,[.ptr 5 0 0,.ptr 3 0 0,.ptr 4 0 0],[]⟩]
   (.panicking [{ v:=.iface 30 (.int .i64 n),recovered:=false }]) [(4,.ptr 3 0 0),(5,.ptr 4 0 0),(6,.ptr 5 0 0)] [.ints false .i8 zs,B1,B2,.cells true [o1,o2,o3,o4,o5,o6,o7,o8],.cells true [u1,u2,u3,u4,u5,u6,u7,u8,u9],.cells true [I 0]]:=by
 have hE:=uV (kDb:=kDb)
 refine⟨by simp,_,_,jA (kCa:=true) (kDb:=kDb) (b:=5) (v0:=I 0) rfl,?_⟩
 rintro _ rfl
 refine⟨by simp[Go.settle],_,fun hp'=>hp'=[.ints false .i8 zs,B1,B2,.cells true [I 0,I 0,.nils,.lit false,.int .u8 0,I 0,I 0,I 0],.cells true [I 0,I 0,.int .i8 0,.int .i8 0,I 0,.int .u8 0,I 0,I 0,I 0],.cells true [I n]],xH hE 2 Tryz.func108 (by kernel_rfl) rfl rfl ?_,?_⟩
 ·refine bF hE 2 rfl (fun _=>?_) (fun h=>absurd (hn.symm.trans h) (by simp))
  exact ag ⟨.inl rfl,[],rfl,rfl⟩
 ·rintro _ rfl
  refine⟨rfl,?_⟩
  refine II (Ent.phan (b:=3) (j:=2) (ww:=true) (o:=.ints true .i8 []) rfl rfl ⟨by simp,by simp,trivial,rfl⟩ (aH rfl)) (bV 6 (.inr rfl) rfl rfl rfl rfl rfl rfl) (fun _ _ h=>h)
theorem JD{kDb:Bool}{zs:List Int}{B1 B2:O}(lx:List Int)(n:Int)(hn:(!decide (n=0))=true)(o1 o2 o3 o4 o5 o6 o7 o8 u1 u2 u3 u4 u5 u6 u7 u8 u9:V) :
  Lv (EM kDb) PP (fun tm hp=>FinL (EM kDb) Tryz.f63 1 (.tup [psV 1 ⟨0,0,[],false,0,0,0,0⟩,unV ⟨⟨0,0,0⟩,0,0,0,0,0,0⟩,I n]) [.ints true .i8 []] .ret tm hp) [⟨109,[],[.ptr 5 0 0]⟩,⟨108,[.ptr 5 0 0,.ptr 3 0 0,.ptr 4 0 0],[]⟩]
   (.panicking [{ v:=.iface 30 (.int .i64 n),recovered:=false }]) [(4,.ptr 3 0 0),(5,.ptr 4 0 0),(6,.ptr 5 0 0)] [.ints false .i8 zs,B1,B2,.cells true [o1,o2,o3,o4,o5,o6,o7,o8],.cells true [u1,u2,u3,u4,u5,u6,u7,u8,u9],.cells true [I 0],.ints true .i8 lx]:=by
 have hE:=uV (kDb:=kDb)
 refine⟨by simp,_,_,jA (kCa:=true) (kDb:=kDb) (b:=5) (v0:=I 0) rfl,?_⟩
 rintro _ rfl
 refine⟨by simp[Go.settle],_,fun hp'=>hp'=[.ints false .i8 zs,B1,B2,.cells true [I 0,I 0,.nils,.lit false,.int .u8 0,I 0,I 0,I 0],.cells true [I 0,I 0,.int .i8 0,.int .i8 0,I 0,.int .u8 0,I 0,I 0,I 0],.cells true [I n],.ints true .i8 lx],xH hE 2 Tryz.func108 (by kernel_rfl) rfl rfl ?_,?_⟩
 ·refine bF hE 2 rfl (fun _=>?_) (fun h=>absurd (hn.symm.trans h) (by simp))
  exact ag ⟨.inl rfl,[],rfl,rfl⟩
 ·rintro _ rfl
  refine⟨rfl,?_⟩
  refine II (Ent.phan (b:=3) (j:=2) (ww:=true) (o:=.ints true .i8 []) rfl rfl ⟨by simp,by simp,trivial,rfl⟩ (aH rfl)) (bV 7 (.inr rfl) rfl rfl rfl rfl rfl rfl) (fun _ _ h=>h)
theorem Mm{kDb:Bool}{zs:List Int}{B1 B2:O}(q:Psn)(x:Und)(hq:q.zs.length=zs.length) :
  Lv (EM kDb) PP (fun tm hp=>FinL (EM kDb) Tryz.f63 1 (.tup [psV 1 q,unV x,I 0]) [.ints true .i8 q.zs] .ret tm hp) [⟨109,[],[.ptr 5 0 0]⟩,⟨108,[.ptr 5 0 0,.ptr 3 0 0,.ptr 4 0 0],[]⟩]
   .returning [(4,.ptr 3 0 0),(5,.ptr 4 0 0),(6,.ptr 5 0 0)] [.ints false .i8 zs,B1,B2,.cells true [I q.f,I q.r,.sl 6 0 zs.length none,Bb q.bl,.int .u8 q.ca,I q.pa,I q.ha,I q.fu],.cells true [I x.m.a,I x.m.b,.int .i8 x.m.p,.int .i8 x.c,I x.at_,.int .u8 x.ca,I x.pa,I x.ha,I x.fu],.cells true [I 0],.ints true .i8 q.zs]:=by
 have hE:=uV (kDb:=kDb)
 refine⟨by simp,_,_,uo (kCa:=true) (kDb:=kDb) 5 _ 0,?_⟩
 rintro _ rfl
 refine⟨by simp[Go.settle],_,fun hp'=>hp'=[.ints false .i8 zs,B1,B2,.cells true [I q.f,I q.r,.sl 6 0 zs.length none,Bb q.bl,.int .u8 q.ca,I q.pa,I q.ha,I q.fu],.cells true [I x.m.a,I x.m.b,.int .i8 x.m.p,.int .i8 x.c,I x.at_,.int .u8 x.ca,I x.pa,I x.ha,I x.fu],.cells true [I 0],.ints true .i8 q.zs],xH hE 2 Tryz.func108 (by kernel_rfl) rfl rfl ?_,?_⟩
 ·refine bF hE 2 rfl (fun h=>absurd h (by simp)) (fun _=>?_)
  exact ag ⟨.inl rfl,[],rfl,rfl⟩
 ·rintro _ rfl
  refine⟨rfl,?_⟩
  rw[<-hq]
  exact IT (bV 6 (.inr rfl) rfl rfl rfl rfl rfl rfl)
theorem Jc{p:Psn}{m:Mov}{n:Int}(h:mkE5 p m=n)(hn:(!decide (n=0))=true):mkP p m=⟨0,0,[],false,0,0,0,0⟩/\mkU p m=⟨⟨0,0,0⟩,0,0,0,0,0,0⟩:=by
 have h0:decide (mkE5 p m=0)=false:=by rw[h];simpa using hn
 exact⟨by rw[mkP,h0];rfl,by rw[mkU,h0];rfl⟩
theorem rQ{kDb:Bool}{zs:List Int}{B1 B2:O}{p:Psn}{m:Mov}{n:Int}{tm:Tm}{hp:List O}{o1 o2 o3 o4 o5 o6 o7 o8 u1 u2 u3 u4 u5 u6 u7 u8 u9:V}(he:mkE5 p m=n)(hn:(!decide (n=0))=true)(hent:Ent (GGx true kDb) 6 tm hp [(4,.ptr 3 0 0),(5,.ptr 4 0 0),(6,.ptr 5 0 0)] [.ints false .i8 zs,B1,B2,.cells true [o1,o2,o3,o4,o5,o6,o7,o8],.cells true [u1,u2,u3,u4,u5,u6,u7,u8,u9],.cells true [I 0]]) :
  HM (EM kDb) PP Tryz.f63 6 1 (.tup [psV 1 (mkP p m),unV (mkU p m),I (mkE5 p m)]) [.ints true .i8 (mkP p m).zs] [⟨109,[],[.ptr 5 0 0]⟩,⟨108,[.ptr 5 0 0,.ptr 3 0 0,.ptr 4 0 0],[]⟩] (.panic [{ v:=.iface 30 (.int .i64 n),recovered:=false }]) tm hp:=by
 obtain⟨h1,h2⟩:=Jc he hn
 rw[h1,h2,he]
 exact⟨_,_,_,rfl,hent,MP n hn o1 o2 o3 o4 o5 o6 o7 o8 u1 u2 u3 u4 u5 u6 u7 u8 u9⟩
theorem tX{kDb:Bool}{zs:List Int}{B1 B2:O}{lx:List Int}{p:Psn}{m:Mov}{n:Int}{tm:Tm}{hp:List O}{o1 o2 o3 o4 o5 o6 o7 o8 u1 u2 u3 u4 u5 u6 u7 u8 u9:V}(he:mkE5 p m=n)(hn:(!decide (n=0))=true)(hent:Ent (GGx true kDb) 6 tm hp [(4,.ptr 3 0 0),(5,.ptr 4 0 0),(6,.ptr 5 0 0)] [.ints false .i8 zs,B1,B2,.cells true [o1,o2,o3,o4,o5,o6,o7,o8],.cells true [u1,u2,u3,u4,u5,u6,u7,u8,u9],.cells true [I 0],.ints true .i8 lx]) :
  HM (EM kDb) PP Tryz.f63 6 1 (.tup [psV 1 (mkP p m),unV (mkU p m),I (mkE5 p m)]) [.ints true .i8 (mkP p m).zs] [⟨109,[],[.ptr 5 0 0]⟩,⟨108,[.ptr 5 0 0,.ptr 3 0 0,.ptr 4 0 0],[]⟩] (.panic [{ v:=.iface 30 (.int .i64 n),recovered:=false }]) tm hp:=by
 obtain⟨h1,h2⟩:=Jc he hn
 rw[h1,h2,he]
 exact⟨_,_,_,rfl,hent,JD lx n hn o1 o2 o3 o4 o5 o6 o7 o8 u1 u2 u3 u4 u5 u6 u7 u8 u9⟩
theorem FT{kDb:Bool}{zs:List Int}{B1 B2:O}{p:Psn}{m:Mov}{q:Psn}{x:Und}{tm:Tm}{hp:List O}(he:mkE5 p m=0)(h1:mkP p m=q)(h2:mkU p m=x)(hq:q.zs.length=zs.length)(hent:Ent (GGx true kDb) 6 tm hp [(4,.ptr 3 0 0),(5,.ptr 4 0 0),(6,.ptr 5 0 0)] [.ints false .i8 zs,B1,B2,.cells true [I q.f,I q.r,.sl 6 0 zs.length none,Bb q.bl,.int .u8 q.ca,I q.pa,I q.ha,I q.fu],.cells true [I x.m.a,I x.m.b,.int .i8 x.m.p,.int .i8 x.c,I x.at_,.int .u8 x.ca,I x.pa,I x.ha,I x.fu],.cells true [I 0],.ints true .i8 q.zs]) :
  HM (EM kDb) PP Tryz.f63 6 1 (.tup [psV 1 (mkP p m),unV (mkU p m),I (mkE5 p m)]) [.ints true .i8 (mkP p m).zs] [⟨109,[],[.ptr 5 0 0]⟩,⟨108,[.ptr 5 0 0,.ptr 3 0 0,.ptr 4 0 0],[]⟩] .ret tm hp:=by
 rw[h1,h2,he]
 exact⟨_,_,_,rfl,hent,Mm q x hq⟩
theorem cK{zs:List Int}(h:zs.length<=64){n:Nat}(hn:n=zs.length){g b:Bool}(hb:b=true):(!g||(decide (n=(tk zs).length)&&decide ((tk zs).length<=64)&&b))=true:=by
 rw[aJ h hn hb];simp
theorem Nw{p:Psn}(h:p.ok=true):aC p.f p.r p.zs=true/\fy p.f p.r p.zs p.ca=true:=by
 simp only[Psn.ok,Bool.and_eq_true]at h
 exact⟨h.1.1.1.1.1,h.1.1.2⟩
theorem NG{f r a b p:Int}(h:mvB f r a b p=true):aj f r a=true/\aj f r b=true:=by
 simp only[mvB,Bool.and_eq_true]at h
 exact⟨h.1.1.1,h.1.1.2⟩
theorem Me{f r a b:Int}(ha:aj f r a=true)(hb:aj f r b=true):aj f r (IntKind.i64.wrap (IntKind.i64.wrap (a-a.tmod f)+b.tmod f))=true/\IntKind.i64.wrap (IntKind.i64.wrap (a-a.tmod f)+b.tmod f)=px f b+py f a*f:=by
 obtain⟨_,a1,a2,a3,a4,a5,a6,a7,a8,a9⟩:=fB ha
 obtain⟨_,b1,b2,b3,b4,b5,_⟩:=fB hb
 have h1:=aS ha
 have h2:=aS hb
 have hv:=hU (X:=px f b) (Y:=py f a) (bI ha) (kB b1 b2 a3 a4)
 have h3:=aS hv.1
 have e1:IntKind.i64.wrap (a-a.tmod f)=py f a*f:=by
  have:a-a.tmod f=py f a*f:=by have:a.tmod f=px f a:=rfl;omega
  rw[this];exact aI (by omega) (by omega)
 have e2:IntKind.i64.wrap (IntKind.i64.wrap (a-a.tmod f)+b.tmod f)=px f b+py f a*f:=by
  rw[e1,show py f a*f+b.tmod f=px f b+py f a*f by have:b.tmod f=px f b:=rfl;omega]
  exact aI (by omega) (by omega)
 exact⟨by rw[e2];exact hv.1,e2⟩
theorem Nv{f r:Int}{zs:List Int}{pa a b:Int}(ha:aj f r a=true)(hb:aj f r b=true):aj f r (at1R f zs pa a b)=true:=by
 unfold at1R
 cases epB zs pa a b
 ·exact hb
 ·exact(Me ha hb).1
theorem Nc{f r:Int}{zs:List Int}{pa a b:Int}(hbd:aC f r zs=true)(ha:aj f r a=true)(hb:aj f r b=true)(h0:0<=at2R f zs pa a b):at2R f zs pa a b<zs.length:=by
 unfold at2R at h0 ⊢
 cases h:decide (capR f zs pa a b=0) with
 |true=>rw[h]at h0;simp at h0
 |false=>exact((bQ hbd).1 (Nv ha hb)).2
theorem EW{f:Int}{zs:List Int}{pa a b:Int}:(zs1R f zs pa a b).length=zs.length:=by
 unfold zs1R;cases decide (0<=at2R f zs pa a b)<;>simp
theorem Fq{f:Int}{zs:List Int}{pa a b:Int}:(zs2R f zs pa a b).length=zs.length:=by
 simp[zs2R,EW]
theorem KZ{l:List Int}{bl:Bool}{b pr:Int}{c:Bool}{n:Nat}:(putR l bl b pr c n).length=l.length:=by
 unfold putR
 cases(!decide (pr=0)&&bl)<;>cases(!decide (pr=0))<;>cases c<;>simp
theorem wS{f r:Int}{zs:List Int}{bl:Bool}{ca pa a b pr:Int}:(zs3R f r zs bl ca pa a b pr).length=zs.length:=by
 rw[zs3R,KZ,Fq]
theorem mE{l:List Int}{n:Nat}(h1:n=l.length)(h2:n<=64):(decide (n=((l.drop 0).take n).length)&&decide (((l.drop 0).take n).length<=64))=true:=by
 subst h1;simp[h2]
theorem mN{l:List Int}{n:Nat}{g:Bool}(h1:n=l.length)(h2:n<=64):(!g||(decide (n=((l.drop 0).take n).length)&&decide (((l.drop 0).take n).length<=64)))=true:=by
 rw[mE h1 h2];simp
theorem FG{zs:List Int}{b:Int}(h:0<=b)(h1:b<zs.length):(decide (0<=b)&&decide (b<(tk zs).length))=true:=by rw[aF];simp[h,h1]
theorem tk_n{l:List Int}{n:Nat}(h1:n=l.length):(l.drop 0).take n=l:=by subst h1;simp
theorem mG{f r:Int}{zs:List Int}{bl:Bool}{ca a b:Int}(hbd:aC f r zs=true)(hc:fy f r zs ca=true)(hn:¬ wayN zs bl ca a b=4):is88 f r=true/\zs.length=64/\0<=wCor (wayN zs bl ca a b)/\wCor (wayN zs bl ca a b)<64/\0<=wCro (wayN zs bl ca a b)/\wCro (wayN zs bl ca a b)<64:=by
 have key:is88 f r=true:=by
  unfold wayN at hn
  simp only[fy,rtX,Bool.and_eq_true,Bool.not_eq_true']at hc
  obtain⟨⟨⟨⟨c1,c2⟩,c3⟩,c4⟩,_⟩:=hc
  cases hk:(!decide (absP (zs.getD a.toNat 0)=6)) with
  |true=>rw[hk]at hn;exact absurd rfl hn
  |false=>
   rw[hk,cond_false]at hn
   have go:∀ {bit:Int} {c:Bool} {k to:Int} {X Y:Bool},aX bl ca a b c bit k to=false->((!decide (fq ca bit=0))&&((!is88 f r||X)||Y))=false->is88 f r=true:=by
    intro bit c k to X Y h1 h2
    simp only[aX,Bool.or_eq_false_iff]at h1
    rw[h1.1.1.2]at h2
    cases h8:is88 f r with
    |true=>rfl
    |false=>rw[h8]at h2;simp at h2
   cases h1:aX bl ca a b false 1 4 6 with
   |false=>exact go h1 c1
   |true=>
    rw[h1]at hn
    cases h2:aX bl ca a b false 2 4 2 with
    |false=>exact go h2 c2
    |true=>
     rw[h2]at hn
     cases h3:aX bl ca a b true 4 60 62 with
     |false=>exact go h3 c3
     |true=>
      rw[h3]at hn
      cases h4:aX bl ca a b true 8 60 58 with
      |false=>exact go h4 c4
      |true=>rw[h4]at hn;exact absurd rfl hn
 have h4:wayN zs bl ca a b<=4:=by
  unfold wayN
  cases(!decide (absP (zs.getD a.toNat 0)=6))<;>cases(!aX bl ca a b false 1 4 6)<;>cases(!aX bl ca a b false 2 4 2)<;>cases(!aX bl ca a b true 4 60 62)<;>cases(!aX bl ca a b true 8 60 58)<;>simp
 refine⟨key,tT hbd key,?_⟩
 generalize wayN zs bl ca a b=n at h4 hn ⊢
 have:n=0\/n=1\/n=2\/n=3:=by omega
 rcases this with rfl|rfl|rfl|rfl<;>decide
theorem FO{kDb:Bool}{f r:Int}{zs:List Int}{bl:Bool}{ca pa ha fu a b pr:Int}(hc2:zs.length<=64):aK (GGx true kDb) PP 63 [.agg [I f,I r,.sl 0 0 zs.length none,Bb bl,.int .u8 ca,I pa,I ha,I fu],.agg [I a,I b,.int .i8 pr]] [.ints false .i8 zs] (.tup [psV 1 (mkP ⟨f,r,zs,bl,ca,pa,ha,fu⟩ ⟨a,b,pr⟩),unV (mkU ⟨f,r,zs,bl,ca,pa,ha,fu⟩ ⟨a,b,pr⟩),I (mkE5 ⟨f,r,zs,bl,ca,pa,ha,fu⟩ ⟨a,b,pr⟩)]) [.ints true .i8 (mkP ⟨f,r,zs,bl,ca,pa,ha,fu⟩ ⟨a,b,pr⟩).zs]:=by
 refine Ar (rest:=gh (gh (gh (Tryz.f63.body.getD .skip)))) (uV (kDb:=kDb)) 2 Tryz.func63 rfl rfl [⟨109,[],[.ptr 5 0 0]⟩,⟨108,[.ptr 5 0 0,.ptr 3 0 0,.ptr 4 0 0],[]⟩] (Q1:=fun tm hp=>tm=(13,.fn 108 [.ptr 5 0 0,.ptr 3 0 0,.ptr 4 0 0])::[(6,.ptr 5 0 0),(5,.ptr 4 0 0),(4,.ptr 3 0 0),(3,.ptr 2 0 0),(2,.ptr 1 0 0),(0,.agg [I f,I r,.sl 0 0 zs.length none,Bb bl,.int .u8 ca,I pa,I ha,I fu]),(1,.agg [I a,I b,.int .i8 pr])]/\hp=[.ints false .i8 zs,.cells true [I f,I r,.sl 0 0 zs.length none,Bb bl,.int .u8 ca,I pa,I ha,I fu],.cells true [I a,I b,.int .i8 pr],.cells true [I 0,I 0,.nils,.lit false,.int .u8 0,I 0,I 0,I 0],.cells true [I 0,I 0,.int .i8 0,.int .i8 0,I 0,.int .u8 0,I 0,I 0,I 0],.cells true [I 0]]) ?_ ?_
 ·intro B w0 S ρ aa w k Q hrel hd hrest
  refine wpIn_seq (wpIn_mono (tP (K:=(gh (Tryz.f63.body.getD .skip)).wpIn (Fr none) k PP Q) uV 2 rfl (Q2:=fun tm hp=>tm=[(6,.ptr 5 0 0),(5,.ptr 4 0 0),(4,.ptr 3 0 0),(3,.ptr 2 0 0),(2,.ptr 1 0 0),(0,.agg [I f,I r,.sl 0 0 zs.length none,Bb bl,.int .u8 ca,I pa,I ha,I fu]),(1,.agg [I a,I b,.int .i8 pr])]/\hp=[.ints false .i8 zs,.cells true [I f,I r,.sl 0 0 zs.length none,Bb bl,.int .u8 ca,I pa,I ha,I fu],.cells true [I a,I b,.int .i8 pr],.cells true [I 0,I 0,.nils,.lit false,.int .u8 0,I 0,I 0,I 0],.cells true [I 0,I 0,.int .i8 0,.int .i8 0,I 0,.int .u8 0,I 0,I 0,I 0],.cells true [I 0]]) (ag ⟨rfl,rfl⟩) hrel hd ?_) ?_)
  rotate_left
  ·rintro e a' w' ⟨rfl,h⟩;exact h
  rintro a1 w1 tm1 hp1 ρ1 r1 hd1 l1 ⟨rfl,rfl⟩
  refine wpIn_seq (wpIn_mono (qd (K:=(gh (gh (Tryz.f63.body.getD .skip))).wpIn (Fr none) k PP Q) uV 2 [_] _ [] rfl rfl rfl rfl rfl rfl (f:=108) (caps:=[.ptr 5 0 0,.ptr 3 0 0,.ptr 4 0 0]) (args:=[]) (Q2:=fun tm hp=>tm=(13,.fn 108 [.ptr 5 0 0,.ptr 3 0 0,.ptr 4 0 0])::[(6,.ptr 5 0 0),(5,.ptr 4 0 0),(4,.ptr 3 0 0),(3,.ptr 2 0 0),(2,.ptr 1 0 0),(0,.agg [I f,I r,.sl 0 0 zs.length none,Bb bl,.int .u8 ca,I pa,I ha,I fu]),(1,.agg [I a,I b,.int .i8 pr])]/\hp=[.ints false .i8 zs,.cells true [I f,I r,.sl 0 0 zs.length none,Bb bl,.int .u8 ca,I pa,I ha,I fu],.cells true [I a,I b,.int .i8 pr],.cells true [I 0,I 0,.nils,.lit false,.int .u8 0,I 0,I 0,I 0],.cells true [I 0,I 0,.int .i8 0,.int .i8 0,I 0,.int .u8 0,I 0,I 0,I 0],.cells true [I 0]]) (ag ⟨rfl,rfl,ag ⟨rfl,rfl⟩⟩) r1 hd1 ?_) ?_)
  rotate_left
  ·rintro e a' w' ⟨rfl,h⟩;exact h
  rintro a2 w2 tm2 hp2 ρ2 cus1 us1 r2 hd2 l2 hc1 hu1 ⟨rfl,rfl⟩
  refine wpIn_seq (wpIn_mono (qd (K:=(gh (gh (gh (Tryz.f63.body.getD .skip)))).wpIn (Fr none) k PP Q) uV 2 [] _ [] rfl rfl rfl rfl rfl rfl (f:=109) (caps:=[]) (args:=[.ptr 5 0 0]) (Q2:=fun tm hp=>tm=(13,.fn 108 [.ptr 5 0 0,.ptr 3 0 0,.ptr 4 0 0])::[(6,.ptr 5 0 0),(5,.ptr 4 0 0),(4,.ptr 3 0 0),(3,.ptr 2 0 0),(2,.ptr 1 0 0),(0,.agg [I f,I r,.sl 0 0 zs.length none,Bb bl,.int .u8 ca,I pa,I ha,I fu]),(1,.agg [I a,I b,.int .i8 pr])]/\hp=[.ints false .i8 zs,.cells true [I f,I r,.sl 0 0 zs.length none,Bb bl,.int .u8 ca,I pa,I ha,I fu],.cells true [I a,I b,.int .i8 pr],.cells true [I 0,I 0,.nils,.lit false,.int .u8 0,I 0,I 0,I 0],.cells true [I 0,I 0,.int .i8 0,.int .i8 0,I 0,.int .u8 0,I 0,I 0,I 0],.cells true [I 0]]) (ag ⟨rfl,rfl,ag ⟨rfl,rfl⟩⟩) r2 hd2 ?_) ?_)
  rotate_left
  ·rintro e a' w' ⟨rfl,h⟩;exact h
  rintro a3 w3 tm3 hp3 ρ3 cus2 us2 r3 hd3 l3 hc3 hu3 ⟨rfl,rfl⟩
  exact hrest _ _ _ _ _ _ r3 (Ren.le_trans l1 (Ren.le_trans l2 l3)) ⟨cus2,us2,_,rfl,hc3,hu3,cus1,us1,[],rfl,VRL.mono l3 _ _ hc1,VRL.mono l3 _ _ hu1,rfl⟩ ⟨rfl,rfl⟩
 rintro tm1 hp1 ⟨rfl,rfl⟩
 refine⟨by simp,?_⟩
 have hE:=uV (kDb:=kDb)
 repeat (first|(first|refine ah ?_|refine sat_nd ?_)|refine ae (aB ha0 ha1) ?_|refine ae (aB hb0 hb1) ?_|refine ae (aJ hc2 rfl hv3) ?_|refine ae (cK hc2 rfl hv3) ?_|refine ae (aG hc2 rfl) ?_)
 refine av (fun h=>?_) (fun h=>?_)
 ·have h:(!(Psn.ok ⟨f,r,tk zs,bl,ca,pa,ha,fu⟩)||!mvB f r a b pr)=true:=h
  rw[aF]at h
  have h:err1 ⟨f,r,zs,bl,ca,pa,ha,fu⟩ ⟨a,b,pr⟩=true:=h
  exact ag (rQ (by simp only[mkE5,h,cond_true]) rfl (Ent.ren [0,1,2,3,4,5] [4,5,6] rfl rfl rfl))
 have h:(!(Psn.ok ⟨f,r,tk zs,bl,ca,pa,ha,fu⟩)||!mvB f r a b pr)=false:=h
 rw[aF]at h
 have e1:err1 ⟨f,r,zs,bl,ca,pa,ha,fu⟩ ⟨a,b,pr⟩=false:=h
 simp only[Bool.or_eq_false_iff,Bool.not_eq_false']at h
 obtain⟨hbd,hcas⟩:=Nw h.1
 obtain⟨hva,hvb⟩:=NG h.2
 dsimp only at hbd hcas
 obtain⟨ha0,ha1⟩:=(bQ hbd).1 hva
 obtain⟨hb0,hb1⟩:=(bQ hbd).1 hvb
 have hv3:(aC f r (tk zs)&&aj f r a&&aj f r b)=true:=by rw[aF,hbd,hva,hvb];rfl
 have hf0:(!decide (f=0))=true:=by have:=cZ (bh hbd).1;simp;omega
 clear h
 repeat (first|(first|refine ah ?_|refine sat_nd ?_)|refine ae (aB ha0 ha1) ?_|refine ae (aB hb0 hb1) ?_|refine ae (aJ hc2 rfl hv3) ?_|refine ae (cK hc2 rfl hv3) ?_|refine ae (aG hc2 rfl) ?_|refine ae hf0 ?_)
 refine av (fun h=>?_) (fun h=>?_)
 ·have h:(!isP (zs.getD a.toNat 0) bl)=true:=h
  exact ag (rQ (by simp only[mkE5,e1,h,cond_true,cond_false]) rfl (Ent.ren [0,1,2,3,4,5] [4,5,6] rfl rfl rfl))
 have e2:(!isP (zs.getD a.toNat 0) bl)=false:=h
 repeat (first|(first|refine ah ?_|refine sat_nd ?_)|refine ae (aB ha0 ha1) ?_|refine ae (aB hb0 hb1) ?_|refine ae (aJ hc2 rfl hv3) ?_|refine ae (cK hc2 rfl hv3) ?_|refine ae (aG hc2 rfl) ?_|refine ae hf0 ?_)
 refine av (fun h=>?_) (fun h=>?_)
 ·have h:(isP (zs.getD b.toNat 0) bl||(!iB f r (tk zs) bl pa a b pr&&(!wayB f r (tk zs) (wayN (tk zs) bl ca a b)||!decide (pr=0))))=true:=h
  rw[aF]at h
  have h:err3 ⟨f,r,zs,bl,ca,pa,ha,fu⟩ ⟨a,b,pr⟩=true:=h
  exact ag (rQ (by simp only[mkE5,e1,e2,h,cond_true,cond_false]) rfl (Ent.ren [0,1,2,3,4,5] [4,5,6] rfl rfl rfl))
 have h:(isP (zs.getD b.toNat 0) bl||(!iB f r (tk zs) bl pa a b pr&&(!wayB f r (tk zs) (wayN (tk zs) bl ca a b)||!decide (pr=0))))=false:=h
 rw[aF]at h
 have e3:err3 ⟨f,r,zs,bl,ca,pa,ha,fu⟩ ⟨a,b,pr⟩=false:=h
 clear h
 repeat (first|(first|refine ah ?_|refine sat_nd ?_)|refine ae (aB ha0 ha1) ?_|refine ae (aB hb0 hb1) ?_|refine ae (aJ hc2 rfl hv3) ?_|refine ae (cK hc2 rfl hv3) ?_|refine ae (aG hc2 rfl) ?_|refine ae hf0 ?_)
 refine bE hE 2 (fun e tm hp=>e=.normal/\∃ (n:Nat) (c:Bool) (at_ cap:Int),n=wayN zs bl ca a b/\c=cstR f r zs bl ca pa a b pr/\at_=at1R f zs pa a b/\cap=capR f zs pa a b/\tm=[(2,.ptr 1 0 0),(3,.ptr 2 0 0),(4,.ptr 3 0 0),(5,.ptr 4 0 0),(6,.ptr 5 0 0),(7,.int .i8 (zs.getD a.toNat 0)),(8,.ptr 6 0 0),(9,Bb c)]/\hp=[.ints false .i8 zs,.cells true [I f,I r,.sl 0 0 zs.length none,Bb bl,.int .u8 ca,I pa,I ha,I fu],.cells true [I a,I b,.int .i8 pr],.cells true [I 0,I 0,.nils,.lit false,.int .u8 0,I 0,I 0,I 0],.cells true [I a,I b,.int .i8 pr,.int .i8 cap,I at_,.int .u8 ca,I pa,I ha,I fu],.cells true [I 0],.cells true [.int .u8 (wBit n),Bb (wBl n),I (sB n),I (wTo n),I (wCor n),I (wCro n)]]) rfl (fun h=>?_) (fun h=>?_) ?_
 ·have hep:epB zs pa a b=true:=h
  have hx:=(bQ hbd).1 (Me hva hvb).1
  repeat (first|(first|refine ah ?_|refine sat_nd ?_)|refine ae hf0 ?_|refine ae (aB hx.1 hx.2) ?_)
  refine ag ⟨_,_,Ent.ren [0,1,2,3,4,5,6] [2,3,4,5,6,7,8,9] rfl rfl rfl,rfl,wayN (tk zs) bl ca a b,wayB f r (tk zs) (wayN (tk zs) bl ca a b)&&!iB f r (tk zs) bl pa a b pr,_,_,by rw[aF],by rw[aF];rfl,?_,?_,rfl,rfl⟩
  ·rw[at1R,hep];rfl
  ·rw[capR,at1R,hep];rfl
 ·have hep:epB zs pa a b=false:=h
  refine ag ⟨_,_,Ent.ren [0,1,2,3,4,5,6] [2,3,4,5,6,7,8,9] rfl rfl rfl,rfl,wayN (tk zs) bl ca a b,wayB f r (tk zs) (wayN (tk zs) bl ca a b)&&!iB f r (tk zs) bl pa a b pr,_,_,by rw[aF],by rw[aF];rfl,?_,?_,rfl,rfl⟩
  ·rw[at1R,hep];rfl
  ·rw[capR,at1R,hep];rfl
 rintro e tm hp ⟨rfl,n,c,at_,cap,hn,hcs,hat,hcap,rfl,rfl⟩
 repeat (first|(first|refine ah ?_|refine sat_nd ?_)|refine ae (aB ha0 ha1) ?_|refine ae (aB hb0 hb1) ?_|refine ae (aJ hc2 rfl hv3) ?_|refine ae (cK hc2 rfl hv3) ?_|refine ae (aG hc2 rfl) ?_|refine ae hf0 ?_)
 refine bE hE 2 (fun e tm hp=>e=.normal/\∃ at2:Int,at2=at2R f zs pa a b/\tm=[(2,.ptr 1 0 0),(3,.ptr 2 0 0),(4,.ptr 3 0 0),(5,.ptr 4 0 0),(6,.ptr 5 0 0),(7,.int .i8 (zs.getD a.toNat 0)),(8,.ptr 6 0 0),(9,Bb c)]/\hp=[.ints false .i8 zs,.cells true [I f,I r,.sl 0 0 zs.length none,Bb bl,.int .u8 ca,I pa,I ha,I fu],.cells true [I a,I b,.int .i8 pr],.cells true [I 0,I 0,.nils,.lit false,.int .u8 0,I 0,I 0,I 0],.cells true [I a,I b,.int .i8 pr,.int .i8 cap,I at2,.int .u8 ca,I pa,I ha,I fu],.cells true [I 0],.cells true [.int .u8 (wBit n),Bb (wBl n),I (sB n),I (wTo n),I (wCor n),I (wCro n)]]) rfl (fun h=>?_) (fun h=>?_) ?_
 ·have h:decide (cap=0)=true:=h
  refine ag ⟨_,_,Ent.ren [0,1,2,3,4,5,6] [2,3,4,5,6,7,8,9] rfl rfl rfl,rfl,_,?_,rfl,rfl⟩
  rw[at2R,<-hcap,h];rfl
 ·have h:decide (cap=0)=false:=h
  refine ag ⟨_,_,Ent.ren [0,1,2,3,4,5,6] [2,3,4,5,6,7,8,9] rfl rfl rfl,rfl,_,?_,rfl,rfl⟩
  rw[at2R,<-hcap,h,<-hat];rfl
 rintro e tm hp ⟨rfl,at2,hat2,rfl,rfl⟩
 clear hat
 repeat (first|(first|refine ah ?_|refine sat_nd ?_)|refine ae (aB ha0 ha1) ?_|refine ae (aB hb0 hb1) ?_|refine ae (aJ hc2 rfl hv3) ?_|refine ae (cK hc2 rfl hv3) ?_|refine ae (aG hc2 rfl) ?_|refine ae hf0 ?_)
 refine bE hE 2 (fun e tm hp=>e=.normal/\∃ (l:List Int) (len:Nat),l=zs1R f zs pa a b/\len=zs.length/\tm=[(2,.ptr 1 0 0),(3,.ptr 2 0 0),(4,.ptr 3 0 0),(5,.ptr 4 0 0),(6,.ptr 5 0 0),(7,.int .i8 (zs.getD a.toNat 0)),(8,.ptr 6 0 0),(9,Bb c)]/\hp=[.ints false .i8 zs,.cells true [I f,I r,.sl 0 0 zs.length none,Bb bl,.int .u8 ca,I pa,I ha,I fu],.cells true [I a,I b,.int .i8 pr],.cells true [I f,I r,.sl 7 0 len none,Bb bl,.int .u8 ca,I pa,I ha,I fu],.cells true [I a,I b,.int .i8 pr,.int .i8 cap,I at2,.int .u8 ca,I pa,I ha,I fu],.cells true [I 0],.cells true [.int .u8 (wBit n),Bb (wBl n),I (sB n),I (wTo n),I (wCor n),I (wCro n)],.ints true .i8 l]) rfl (fun h=>?_) (fun h=>?_) ?_
 ·have h:decide (0<=at2)=true:=h
  have hx:at2<zs.length:=by rw[hat2];exact Nc hbd hva hvb (by rw[<-hat2];exact of_decide_eq_true h)
  repeat (first|(first|refine ah ?_|refine sat_nd ?_)|refine ae (FG (of_decide_eq_true h) hx) ?_)
  refine ag ⟨_,_,Ent.ren [0,1,2,3,4,5,6,7] [2,3,4,5,6,7,8,9] rfl rfl rfl,rfl,(tk zs).set at2.toNat 0,(tk zs).length,?_,by rw[aF],rfl,rfl⟩
  rw[aF,zs1R,<-hat2,h];rfl
 ·have h:decide (0<=at2)=false:=h
  refine ag ⟨_,_,Ent.ren [0,1,2,3,4,5,6,7] [2,3,4,5,6,7,8,9] rfl rfl rfl,rfl,tk zs,(tk zs).length,?_,by rw[aF],rfl,rfl⟩
  rw[aF,zs1R,<-hat2,h];rfl
 rintro e tm hp ⟨rfl,l,len,hl,hlen,rfl,rfl⟩
 have ha1:a<len:=by rw[hlen];exact ha1
 have hb1:b<len:=by rw[hlen];exact hb1
 repeat (first|(first|refine ah ?_|refine sat_nd ?_)|refine ae (aB ha0 ha1) ?_|refine ae (aB hb0 hb1) ?_|refine ae (aJ hc2 rfl hv3) ?_|refine ae (cK hc2 rfl hv3) ?_|refine ae (aG hc2 rfl) ?_|refine ae hf0 ?_)
 refine bE hE 2 (fun e tm hp=>e=.normal/\∃ l3:List Int,l3=zs3R f r zs bl ca pa a b pr/\tm=[(2,.ptr 1 0 0),(3,.ptr 2 0 0),(4,.ptr 3 0 0),(5,.ptr 4 0 0),(6,.ptr 5 0 0),(7,.int .i8 (zs.getD a.toNat 0)),(8,.ptr 6 0 0),(9,Bb c)]/\hp=[.ints false .i8 zs,.cells true [I f,I r,.sl 0 0 zs.length none,Bb bl,.int .u8 ca,I pa,I ha,I fu],.cells true [I a,I b,.int .i8 pr],.cells true [I f,I r,.sl 7 0 len none,Bb bl,.int .u8 ca,I pa,I ha,I fu],.cells true [I a,I b,.int .i8 pr,.int .i8 cap,I at2,.int .u8 ca,I pa,I ha,I fu],.cells true [I 0],.cells true [.int .u8 (wBit n),Bb (wBl n),I (sB n),I (wTo n),I (wCor n),I (wCro n)],.ints true .i8 l3]) rfl (fun h=>?_) (fun h=>?_) ?_
 ·have h:(!decide (pr=0)&&bl)=true:=h
  repeat (first|(first|refine ah ?_|refine sat_nd ?_)|refine ae (aB ha0 ha1) ?_|refine ae (aB hb0 hb1) ?_|refine ae (aJ hc2 rfl hv3) ?_|refine ae (cK hc2 rfl hv3) ?_|refine ae (aG hc2 rfl) ?_|refine ae hf0 ?_)
  refine ag ⟨_,_,Ent.ren [0,1,2,3,4,5,6,7] [2,3,4,5,6,7,8,9] rfl rfl rfl,rfl,_,?_,rfl,rfl⟩
  rw[zs3R,putR,zs2R,<-hl,h];rfl
 ·have h:(!decide (pr=0)&&bl)=false:=h
  refine bF hE 2 rfl (fun h2=>?_) (fun h2=>?_)
  ·have h2:(!decide (pr=0))=true:=h2
   repeat (first|(first|refine ah ?_|refine sat_nd ?_)|refine ae (aB ha0 ha1) ?_|refine ae (aB hb0 hb1) ?_|refine ae (aJ hc2 rfl hv3) ?_|refine ae (cK hc2 rfl hv3) ?_|refine ae (aG hc2 rfl) ?_|refine ae hf0 ?_)
   refine ag ⟨_,_,Ent.ren [0,1,2,3,4,5,6,7] [2,3,4,5,6,7,8,9] rfl rfl rfl,rfl,_,?_,rfl,rfl⟩
   rw[zs3R,putR,zs2R,<-hl,h,h2];rfl
  ·have h2:(!decide (pr=0))=false:=h2
   refine bF hE 2 rfl (fun h3=>?_) (fun h3=>?_)
   ·have h3:c=true:=h3
    have hw:¬ n=4:=by
     intro h4
     rw[cstR,<-hn,h4]at hcs
     rw[h3]at hcs
     exact absurd hcs (by simp[wayB])
    obtain⟨_,h64,w1,w2,w3,w4⟩:=mG (a:=a) (b:=b) (bl:=bl) hbd hcas (by rw[<-hn];exact hw)
    rw[<-hn]at w1 w2 w3 w4
    have w2:wCor n<len:=by rw[hlen,h64];exact w2
    have w4:wCro n<len:=by rw[hlen,h64];exact w4
    repeat (first|(first|refine ah ?_|refine sat_nd ?_)|refine ae (aB ha0 ha1) ?_|refine ae (aB hb0 hb1) ?_|refine ae (aJ hc2 rfl hv3) ?_|refine ae (cK hc2 rfl hv3) ?_|refine ae (aG hc2 rfl) ?_|refine ae hf0 ?_)
    refine ag ⟨_,_,Ent.ren [0,1,2,3,4,5,6,7] [2,3,4,5,6,7,8,9] rfl rfl rfl,rfl,_,?_,rfl,rfl⟩
    rw[zs3R,putR,zs2R,<-hl,h,h2,<-hcs,h3,<-hn];rfl
   ·have h3:c=false:=h3
    refine ag ⟨_,_,Ent.ren [0,1,2,3,4,5,6,7] [2,3,4,5,6,7,8,9] rfl rfl rfl,rfl,_,?_,rfl,rfl⟩
    rw[zs3R,putR,zs2R,<-hl,h,h2,<-hcs,h3];rfl
 clear hl
 rintro e tm hp ⟨rfl,l3,hl3,rfl,rfl⟩
 repeat (first|(first|refine ah ?_|refine sat_nd ?_)|refine ae (aB ha0 ha1) ?_|refine ae (aB hb0 hb1) ?_|refine ae (aJ hc2 rfl hv3) ?_|refine ae (cK hc2 rfl hv3) ?_|refine ae (aG hc2 rfl) ?_|refine ae hf0 ?_)
 refine bE hE 2 (fun e tm hp=>e=.normal/\∃ ca2 pa2:Int,ca2=caR ca a b/\pa2=paR f zs a b/\tm=[(2,.ptr 1 0 0),(3,.ptr 2 0 0),(4,.ptr 3 0 0),(5,.ptr 4 0 0),(6,.ptr 5 0 0),(7,.int .i8 (zs.getD a.toNat 0)),(8,.ptr 6 0 0),(9,Bb c)]/\hp=[.ints false .i8 zs,.cells true [I f,I r,.sl 0 0 zs.length none,Bb bl,.int .u8 ca,I pa,I ha,I fu],.cells true [I a,I b,.int .i8 pr],.cells true [I f,I r,.sl 7 0 len none,Bb bl,.int .u8 ca2,I pa2,I ha,I fu],.cells true [I a,I b,.int .i8 pr,.int .i8 cap,I at2,.int .u8 ca,I pa,I ha,I fu],.cells true [I 0],.cells true [.int .u8 (wBit n),Bb (wBl n),I (sB n),I (wTo n),I (wCor n),I (wCro n)],.ints true .i8 l3]) rfl (fun h=>?_) (fun h=>?_) ?_
 ·have h:twoB f zs a b=true:=h
  repeat (first|(first|refine ah ?_|refine sat_nd ?_)|refine ae (aB ha0 ha1) ?_|refine ae (aB hb0 hb1) ?_|refine ae (aJ hc2 rfl hv3) ?_|refine ae (cK hc2 rfl hv3) ?_|refine ae (aG hc2 rfl) ?_|refine ae hf0 ?_)
  refine ag ⟨_,_,Ent.ren [0,1,2,3,4,5,6,7] [2,3,4,5,6,7,8,9] rfl rfl rfl,rfl,_,_,rfl,?_,rfl,rfl⟩
  rw[paR,h];rfl
 ·have h:twoB f zs a b=false:=h
  refine ag ⟨_,_,Ent.ren [0,1,2,3,4,5,6,7] [2,3,4,5,6,7,8,9] rfl rfl rfl,rfl,_,_,rfl,?_,rfl,rfl⟩
  rw[paR,h];rfl
 rintro e tm hp ⟨rfl,ca2,pa2,hca2,hpa2,rfl,rfl⟩
 repeat (first|(first|refine ah ?_|refine sat_nd ?_)|refine ae (aB ha0 ha1) ?_|refine ae (aB hb0 hb1) ?_|refine ae (aJ hc2 rfl hv3) ?_|refine ae (cK hc2 rfl hv3) ?_|refine ae (aG hc2 rfl) ?_|refine ae hf0 ?_)
 refine bE hE 2 (fun e tm hp=>e=.normal/\∃ ha2:Int,ha2=haR f zs pa ha a b/\tm=[(2,.ptr 1 0 0),(3,.ptr 2 0 0),(4,.ptr 3 0 0),(5,.ptr 4 0 0),(6,.ptr 5 0 0),(7,.int .i8 (zs.getD a.toNat 0)),(8,.ptr 6 0 0),(9,Bb c)]/\hp=[.ints false .i8 zs,.cells true [I f,I r,.sl 0 0 zs.length none,Bb bl,.int .u8 ca,I pa,I ha,I fu],.cells true [I a,I b,.int .i8 pr],.cells true [I f,I r,.sl 7 0 len none,Bb bl,.int .u8 ca2,I pa2,I ha2,I fu],.cells true [I a,I b,.int .i8 pr,.int .i8 cap,I at2,.int .u8 ca,I pa,I ha,I fu],.cells true [I 0],.cells true [.int .u8 (wBit n),Bb (wBl n),I (sB n),I (wTo n),I (wCor n),I (wCro n)],.ints true .i8 l3]) rfl (fun h=>?_) (fun h=>?_) ?_
 ·have h:(decide (absP (zs.getD a.toNat 0)=1)||!decide (cap=0))=true:=h
  refine ag ⟨_,_,Ent.ren [0,1,2,3,4,5,6,7] [2,3,4,5,6,7,8,9] rfl rfl rfl,rfl,_,?_,rfl,rfl⟩
  rw[haR,<-hcap,h];rfl
 ·have h:(decide (absP (zs.getD a.toNat 0)=1)||!decide (cap=0))=false:=h
  refine ag ⟨_,_,Ent.ren [0,1,2,3,4,5,6,7] [2,3,4,5,6,7,8,9] rfl rfl rfl,rfl,_,?_,rfl,rfl⟩
  rw[haR,<-hcap,h];rfl
 rintro e tm hp ⟨rfl,ha2,hha2,rfl,rfl⟩
 repeat (first|(first|refine ah ?_|refine sat_nd ?_)|refine ae (aB ha0 ha1) ?_|refine ae (aB hb0 hb1) ?_|refine ae (aJ hc2 rfl hv3) ?_|refine ae (cK hc2 rfl hv3) ?_|refine ae (aG hc2 rfl) ?_|refine ae hf0 ?_)
 refine bE hE 2 (fun e tm hp=>e=.normal/\∃ fu2:Int,fu2=fuR bl fu/\tm=[(2,.ptr 1 0 0),(3,.ptr 2 0 0),(4,.ptr 3 0 0),(5,.ptr 4 0 0),(6,.ptr 5 0 0),(7,.int .i8 (zs.getD a.toNat 0)),(8,.ptr 6 0 0),(9,Bb c)]/\hp=[.ints false .i8 zs,.cells true [I f,I r,.sl 0 0 zs.length none,Bb bl,.int .u8 ca,I pa,I ha,I fu],.cells true [I a,I b,.int .i8 pr],.cells true [I f,I r,.sl 7 0 len none,Bb bl,.int .u8 ca2,I pa2,I ha2,I fu2],.cells true [I a,I b,.int .i8 pr,.int .i8 cap,I at2,.int .u8 ca,I pa,I ha,I fu],.cells true [I 0],.cells true [.int .u8 (wBit n),Bb (wBl n),I (sB n),I (wTo n),I (wCor n),I (wCro n)],.ints true .i8 l3]) rfl (fun h=>?_) (fun h=>?_) ?_
 ·have h:bl=true:=h
  refine ag ⟨_,_,Ent.ren [0,1,2,3,4,5,6,7] [2,3,4,5,6,7,8,9] rfl rfl rfl,rfl,_,?_,rfl,rfl⟩
  rw[fuR,h];rfl
 ·have h:bl=false:=h
  refine ag ⟨_,_,Ent.ren [0,1,2,3,4,5,6,7] [2,3,4,5,6,7,8,9] rfl rfl rfl,rfl,_,?_,rfl,rfl⟩
  rw[fuR,h];rfl
 rintro e tm hp ⟨rfl,fu2,hfu2,rfl,rfl⟩
 have hl3n:len=l3.length:=by rw[hl3,wS,hlen]
 have hl64:len<=64:=by rw[hlen];exact hc2
 repeat (first|(first|refine ah ?_|refine sat_nd ?_)|refine ae (aB ha0 ha1) ?_|refine ae (aB hb0 hb1) ?_|refine ae (aJ hc2 rfl hv3) ?_|refine ae (cK hc2 rfl hv3) ?_|refine ae (aG hc2 rfl) ?_|refine ae hf0 ?_|refine ae (mE hl3n hl64) ?_|refine ae (mN hl3n hl64) ?_)
 refine av (fun h=>?_) (fun h=>?_)
 ·have h:(chkB f r ((l3.drop 0).take len) bl||(c&&(chkB f r (tk zs) bl||!decide ((dy f r (tk zs) (wCro n) (!bl)).1=0))))=true:=h
  rw[aF,tk_n hl3n,hl3,hcs,hn]at h
  have h:err4 ⟨f,r,zs,bl,ca,pa,ha,fu⟩ ⟨a,b,pr⟩=true:=h
  exact ag (tX (by simp only[mkE5,e1,e2,e3,h,cond_true,cond_false]) rfl (Ent.ren [0,1,2,3,4,5,7] [4,5,6] rfl rfl rfl))
 have h:(chkB f r ((l3.drop 0).take len) bl||(c&&(chkB f r (tk zs) bl||!decide ((dy f r (tk zs) (wCro n) (!bl)).1=0))))=false:=h
 rw[aF,tk_n hl3n,hl3,hcs,hn]at h
 have e4:err4 ⟨f,r,zs,bl,ca,pa,ha,fu⟩ ⟨a,b,pr⟩=false:=h
 clear h
 repeat (first|(first|refine ah ?_|refine sat_nd ?_)|refine ae (aB ha0 ha1) ?_|refine ae (aB hb0 hb1) ?_|refine ae (aJ hc2 rfl hv3) ?_|refine ae (cK hc2 rfl hv3) ?_|refine ae (aG hc2 rfl) ?_|refine ae hf0 ?_|refine ae (mE hl3n hl64) ?_|refine ae (mN hl3n hl64) ?_)
 refine av (fun h=>?_) (fun h=>?_)
 ·have h:(decide (10000<ha2)||decide (10000<fu2))=true:=h
  rw[hha2,hfu2]at h
  have h:err5 ⟨f,r,zs,bl,ca,pa,ha,fu⟩ ⟨a,b,pr⟩=true:=h
  exact ag (tX (by simp only[mkE5,e1,e2,e3,e4,h,cond_true,cond_false]) rfl (Ent.ren [0,1,2,3,4,5,7] [4,5,6] rfl rfl rfl))
 have h:(decide (10000<ha2)||decide (10000<fu2))=false:=h
 rw[hha2,hfu2]at h
 have e5:err5 ⟨f,r,zs,bl,ca,pa,ha,fu⟩ ⟨a,b,pr⟩=false:=h
 clear h
 repeat (first|(first|refine ah ?_|refine sat_nd ?_)|refine ae (aB ha0 ha1) ?_|refine ae (aB hb0 hb1) ?_|refine ae (aJ hc2 rfl hv3) ?_|refine ae (cK hc2 rfl hv3) ?_|refine ae (aG hc2 rfl) ?_|refine ae hf0 ?_|refine ae (mE hl3n hl64) ?_|refine ae (mN hl3n hl64) ?_)
 have he:mkE5 ⟨f,r,zs,bl,ca,pa,ha,fu⟩ ⟨a,b,pr⟩=0:=by simp only[mkE5,e1,e2,e3,e4,e5,cond_false]
 subst hlen
 exact ag (FT (q:=⟨f,r,l3,!bl,ca2,pa2,ha2,fu2⟩) (x:=⟨⟨a,b,pr⟩,cap,at2,ca,pa,ha,fu⟩) he (by rw[mkP,he,hl3,hca2,hpa2,hha2,hfu2];rfl) (by rw[mkU,he,hcap,hat2];rfl) hl3n.symm (Ent.ren [0,1,2,3,4,5,7] [4,5,6] rfl rfl rfl))
def ym:CF
 |[.agg [.int .i64 f,.int .i64 r,.sl 0 0 len none,.bool bl,.int .u8 ca,.int .i64 pa,.int .i64 ha,.int .i64 fu],.agg [.int .i64 a,.int .i64 b,.int .i8 pr]],[.ints false .i8 zs]=>some (decide (len=zs.length)&&decide (zs.length<=64),.tup [psV 1 (mkP ⟨f,r,zs,bl,ca,pa,ha,fu⟩ ⟨a,b,pr⟩),unV (mkU ⟨f,r,zs,bl,ca,pa,ha,fu⟩ ⟨a,b,pr⟩),I (mkE5 ⟨f,r,zs,bl,ca,pa,ha,fu⟩ ⟨a,b,pr⟩)],[.ints true .i8 (mkP ⟨f,r,zs,bl,ca,pa,ha,fu⟩ ⟨a,b,pr⟩).zs])
 |_,_=>none
theorem uh:CtOk (GGx true kDb) PP (63,ym):=by
 refine aD Tryz.func63 (by kernel_rfl) rfl fun a0 h0 c0 v0 N0 e hc=>?_
 unfold ym at e
 split at e
 ·rename_i f r len bl ca pa ha fu a b pr zs
  cases e
  simp only[Bool.and_eq_true,decide_eq_true_eq]at hc
  obtain⟨rfl,hc2⟩:=hc
  exact FO hc2
 ·cases e
end
end Go.Ab
namespace Go.Ab
open IntKind
open Go.Proofs
section
variable{kCa kDb:Bool}
def afZ1(f r:Int)(zs:List Int)(pa a b:Int):List Int:=bif decide (0<=capL f r zs pa a b)then zs.set (capL f r zs pa a b).toNat 0 else zs
def afZ2(f r:Int)(zs:List Int)(pa a b:Int):List Int:=((afZ1 f r zs pa a b).set a.toNat 0).set b.toNat (zs.getD a.toNat 0)
def afZ3(f r:Int)(zs:List Int)(pa a b pr:Int):List Int:=bif !decide (pr=0) then(afZ2 f r zs pa a b).set b.toNat (w8 (pr*w8 (sgn (zs.getD a.toNat 0))))else afZ2 f r zs pa a b
def afZ4(l:List Int)(c:Int):List Int:=bif !decide (c=0) then(l.set (sqW c 3).toNat (l.getD (sqW c 2).toNat 0)).set (sqW c 2).toNat 0 else l
def afZ(f r:Int)(zs:List Int)(bl:Bool)(ca pa a b pr:Int):List Int:=afZ4 (afZ3 f r zs pa a b pr) (cgL f r zs bl ca a b pr)
def afS(ca a b bit:Int):Int:=bif decide ((u8.wrap (ca.tdiv bit)).tmod 2=1)&&(hasL a [sqW bit 0,sqW bit 2]||hasL b [sqW bit 0,sqW bit 2])then u8.wrap (ca-bit)else ca
def afC(ca a b:Int):Int:=afS (afS (afS (afS ca a b 1) a b 2) a b 4) a b 8
def afPa(f r:Int)(zs:List Int)(a b:Int):Int:=bif decide (aY (zs.getD a.toNat 0)=1)&&(decide (i64.wrap (i64.wrap (a.tdiv f)-i64.wrap (b.tdiv f))=2)||decide (i64.wrap (i64.wrap (b.tdiv f)-i64.wrap (a.tdiv f))=2))then numR f r (a.tmod f) (i64.wrap ((i64.wrap (i64.wrap (a.tdiv f)+i64.wrap (b.tdiv f))).tdiv 2))else -1
def afHa(f r:Int)(zs:List Int)(pa ha a b:Int):Int:=bif decide (aY (zs.getD a.toNat 0)=1)||decide (0<=capL f r zs pa a b)then 0 else i64.wrap (ha+1)
def afP(p:Psn)(m:Mov):Psn:=⟨p.f,p.r,afZ p.f p.r p.zs p.bl p.ca p.pa m.a m.b m.p,!p.bl,afC p.ca m.a m.b,afPa p.f p.r p.zs m.a m.b,afHa p.f p.r p.zs p.pa p.ha m.a m.b,fuR p.bl p.fu⟩
theorem bk{n:Nat}{b:Int}(h:0<=b)(h1:b<n):(decide (0<=b)&&decide (b<n))=true:=by simp[h,h1]
theorem Ig{f r:Int}{zs:List Int}{pa a b:Int}:(afZ1 f r zs pa a b).length=zs.length:=by unfold afZ1;cases decide (0<=capL f r zs pa a b)<;>simp
theorem HD{f r:Int}{zs:List Int}{pa a b pr:Int}:(afZ3 f r zs pa a b pr).length=zs.length:=by unfold afZ3 afZ2;cases(!decide (pr=0))<;>simp[Ig]
theorem Cg{f r:Int}{zs:List Int}{bl:Bool}{ca pa a b pr:Int}:(afZ f r zs bl ca pa a b pr).length=zs.length:=by unfold afZ afZ4;cases(!decide (cgL f r zs bl ca a b pr=0))<;>simp[HD]
theorem Ng{f r:Int}{zs:List Int}{pa a b:Int}(hbd:aC f r zs=true)(hb1:b<zs.length)(h:0<=capL f r zs pa a b):capL f r zs pa a b<zs.length:=by
 unfold capL at h ⊢
 cases h1:(decide (aY (zs.getD a.toNat 0)=1)&&decide (b=pa)) with
 |true=>
  rw[h1,cond_true]at h
  rw[cond_true]
  rcases gO f r (b.tmod f) (i64.wrap (a.tdiv f)) (bh hbd).1 with⟨_,hv⟩|⟨_,hv⟩
  ·exact((bQ hbd).1 hv).2
  ·rw[hv]at h;omega
 |false=>
  rw[h1,cond_false]at h
  rw[cond_false]
  cases h2:(!decide (zs.getD b.toNat 0=0)) with
  |true=>exact hb1
  |false=>rw[h2]at h;simp at h
theorem sqs:sqW 1 2=7/\sqW 1 3=5/\sqW 2 2=0/\sqW 2 3=3/\sqW 4 2=63/\sqW 4 3=61/\sqW 8 2=56/\sqW 8 3=59:=⟨by kernel_rfl,by kernel_rfl,by kernel_rfl,by kernel_rfl,by kernel_rfl,by kernel_rfl,by kernel_rfl,by kernel_rfl⟩
theorem MJ{f r:Int}{zs:List Int}{bl:Bool}{ca a b pr:Int}(h:(!decide (cgL f r zs bl ca a b pr=0))=true):∃ bit,(bit=1\/bit=2\/bit=4\/bit=8)/\cgL f r zs bl ca a b pr=bit/\cgS f r zs bl ca a b bit=true:=by
 unfold cgL at h ⊢
 cases h0:(!decide (aY (zs.getD a.toNat 0)=6)||!decide (pr=0)) with
 |true=>rw[h0]at h;simp at h
 |false=>
  cases h1:cgS f r zs bl ca a b 1 with
  |true=>exact⟨1,by simp,by simp,h1⟩
  |false=>
   cases h2:cgS f r zs bl ca a b 2 with
   |true=>exact⟨2,by simp,by simp,h2⟩
   |false=>
    cases h3:cgS f r zs bl ca a b 4 with
    |true=>exact⟨4,by simp,by simp,h3⟩
    |false=>
     cases h4:cgS f r zs bl ca a b 8 with
     |true=>exact⟨8,by simp,by simp,h4⟩
     |false=>rw[h0,h1,h2,h3,h4]at h;simp at h
theorem NV{f r:Int}{zs:List Int}{bl:Bool}{ca a b pr:Int}(hbd:aC f r zs=true)(hcs:cV f r zs ca=true)(h:(!decide (cgL f r zs bl ca a b pr=0))=true):zs.length=64/\0<=sqW (cgL f r zs bl ca a b pr) 2/\sqW (cgL f r zs bl ca a b pr) 2<64/\0<=sqW (cgL f r zs bl ca a b pr) 3/\sqW (cgL f r zs bl ca a b pr) 3<64:=by
 obtain⟨bit,hb,he,hs⟩:=MJ h
 simp only[cgS,Bool.and_eq_true]at hs
 obtain⟨rfl,rfl⟩:=Cy (uD hcs hb hs.1.1.1.1)
 refine⟨tT hbd rfl,?_⟩
 rw[he]
 obtain⟨s1,s2,s3,s4,s5,s6,s7,s8⟩:=sqs
 rcases hb with rfl|rfl|rfl|rfl
 ·rw[s1,s2];decide
 ·rw[s3,s4];decide
 ·rw[s5,s6];decide
 ·rw[s7,s8];decide
def zz:CF
 |[.sl 0 0 len none,.int .i64 n],[.ints false .i64 zs]=>some (decide (len=zs.length)&&decide (zs.length<=1000000),.bool (hasL n zs),[])
 |_,_=>none
theorem tK:CtOk (GGx kCa kDb) PP (143,zz):=by
 refine aD Tryz.func143 (by kernel_rfl) rfl fun a0 h0 c0 v0 N0 e hc=>?_
 unfold zz at e
 split at e
 ·rename_i len n zs
  cases e
  have hE:=aA (kCa:=kCa) (kDb:=kDb) (cts:=[]) (inl:=[]) trivial trivial
  refine aq hE 2 Tryz.func143 rfl rfl ?_
  simp only[Bool.and_eq_true,decide_eq_true_eq]at hc
  obtain⟨rfl,hc2⟩:=hc
  refine cC hE 2 (fun i (_:Unit)=>([(0,.sl 0 0 zs.length none),(1,I n),(5,I i)],[.ints false .i64 zs])) zs.length (fun j _=>hasL n (zs.drop j)=hasL n zs) () (by omega) (Ent.ren [0] [0,1,5] rfl rfl rfl) rfl ?_
  intro j i _ hij hj hz
  refine av (fun hlt=>?_) (fun hlt=>?_)
  ·have hlt':j<zs.length:=by simp at hlt;omega
   rw[vI hlt',show j=i.toNat by omega]at hz
   refine ae (by simp;omega) ?_
   repeat (first|refine ah ?_|refine sat_nd ?_)
   refine av (fun hon=>?_) (fun hon=>?_)
   ·have hon:decide (zs.getD i.toNat 0=n)=true:=hon
    rw[hon]at hz
    exact ag (ag (ai (.inr rfl) rfl rfl rfl (by rw[<-hz];rfl)))
   ·have hon:decide (zs.getD i.toNat 0=n)=false:=hon
    rw[hon]at hz
    exact ag ⟨hlt',(),by rw[<-hz,show i.toNat=j by omega];rfl,Ent.ren [0] [0,1,5] rfl rfl rfl⟩
  ·obtain rfl:j=zs.length:=by simp at hlt;omega
   rw[List.drop_length]at hz
   exact ag (ag (ai (.inr rfl) rfl rfl rfl (by rw[<-hz];rfl)))
 ·cases e
def qk:CF
 |[.agg [.int .i64 f,.int .i64 r,.sl 0 0 len none,.bool bl,.int .u8 ca,.int .i64 pa,.int .i64 ha,.int .i64 fu],.agg [.int .i64 a,.int .i64 b,.int .i8 pr]],[.ints false .i8 zs]=>some (decide (len=zs.length)&&decide (zs.length<=64)&&(aC f r zs&&cV f r zs ca&&aj f r a&&aj f r b),psV 1 (afP ⟨f,r,zs,bl,ca,pa,ha,fu⟩ ⟨a,b,pr⟩),[.ints true .i8 (afZ f r zs bl ca pa a b pr)])
 |_,_=>none
theorem xG:CtOk (GGx kCa kDb) PP (89,qk):=by
 refine aD Tryz.func89 (by kernel_rfl) rfl fun a0 h0 c0 v0 N0 e hc=>?_
 unfold qk at e
 split at e
 ·rename_i f r len bl ca pa ha fu a b pr zs
  cases e
  have hE:=cutE (aA (kCa:=kCa) (kDb:=kDb) (cts:=[(15,xP),(138,Dz),(140,tM),(139,lV),(141,uK),(142,gQ),(143,zz),(39,dF),(38,fj),(86,fY)]) (inl:=[]) ⟨An,BF,mZ,oE,mI,gY,tK,bZ,dR,eG,trivial⟩ trivial)
  refine uy hE 2 Tryz.func89 rfl rfl ?_
  simp only[Bool.and_eq_true,decide_eq_true_eq]at hc
  obtain⟨⟨rfl,hc2⟩,⟨⟨hbd,hcs⟩,hva⟩,hvb⟩:=hc
  have hvs:=(bh hbd).1
  obtain⟨ha0,ha1⟩:=(bQ hbd).1 hva
  obtain⟨hb0,hb1⟩:=(bQ hbd).1 hvb
  have hf0:(!decide (f=0))=true:=by have:=cZ hvs;simp;omega
  have hf1:∀ g:Bool,(!g||!decide (f=0))=true:=fun g=>by rw[hf0];simp
  have hbt:aC f r (tk zs)=true:=by rw[aF];exact hbd
  have hct:cV f r (tk zs) ca=true:=by rw[aF];exact hcs
  have hv4:(aC f r (tk zs)&&cV f r (tk zs) ca&&aj f r a&&aj f r b)=true:=by rw[hbt,hct,hva,hvb];rfl
  repeat (first|(first|refine ah ?_|refine sat_nd ?_)|refine ae (aB ha0 ha1) ?_|refine ae (aB hb0 hb1) ?_|refine ae (bD ha0 ha1) ?_|refine ae (bD hb0 hb1) ?_|refine ae hf0 ?_|refine ae (hf1 _) ?_|refine ae (aG hc2 rfl) ?_|refine ae (aJ hc2 rfl hv4) ?_)
  refine bE hE 2 (fun e tm hp=>e=.normal/\∃ (pc cp:Int) (l:List Int) (len:Nat),pc=zs.getD a.toNat 0/\cp=capL f r zs pa a b/\l=afZ1 f r zs pa a b/\len=zs.length/\tm=[(2,.ptr 1 0 0),(3,.ptr 2 0 0),(4,.ptr 3 0 0),(5,.ptr 5 0 0),(6,.int .i8 pc),(7,I cp)]/\hp=[.ints false .i8 zs,.cells true [I f,I r,.sl 0 0 zs.length none,Bb bl,.int .u8 ca,I pa,I ha,I fu],.cells true [I a,I b,.int .i8 pr],.cells true [I 0,I 0,.nils,.lit false,.int .u8 0,I 0,I 0,I 0],.ints true .i8 l,.cells true [I f,I r,.sl 4 0 len none,Bb bl,.int .u8 ca,I pa,I ha,I fu]]) rfl (fun h=>?_) (fun h=>?_) ?_
  ·have h:decide (0<=capL f r (tk zs) pa a b)=true:=h
   rw[aF]at h
   have hx:=Ng hbd hb1 (of_decide_eq_true h)
   have hx':(decide (0<=capL f r (tk zs) pa a b)&&decide (capL f r (tk zs) pa a b<(tk zs).length))=true:=by rw[aF,h];simpa using hx
   repeat (first|(first|refine ah ?_|refine sat_nd ?_)|refine ae hx' ?_)
   exact ag ⟨_,_,Ent.ren [0,1,2,3,4,5] [2,3,4,5,6,7] rfl rfl rfl,rfl,(tk zs).getD a.toNat 0,capL f r (tk zs) pa a b,(tk zs).set (capL f r (tk zs) pa a b).toNat 0,(tk zs).length,by rw[aF],by rw[aF],by rw[aF,afZ1,h];rfl,by rw[aF],rfl,rfl⟩
  ·have h:decide (0<=capL f r (tk zs) pa a b)=false:=h
   rw[aF]at h
   exact ag ⟨_,_,Ent.ren [0,1,2,3,4,5] [2,3,4,5,6,7] rfl rfl rfl,rfl,(tk zs).getD a.toNat 0,capL f r (tk zs) pa a b,tk zs,(tk zs).length,by rw[aF],by rw[aF],by rw[aF,afZ1,h];rfl,by rw[aF],rfl,rfl⟩
  rintro e tm hp ⟨rfl,pc,cp,l,len,hpc,hcp,hl,hlen,rfl,rfl⟩
  have ha1':=ha1
  have hb1':=hb1
  rw[<-hlen]at ha1' hb1'
  repeat (first|(first|refine ah ?_|refine sat_nd ?_)|refine ae (aB ha0 ha1) ?_|refine ae (aB hb0 hb1) ?_|refine ae (bD ha0 ha1) ?_|refine ae (bD hb0 hb1) ?_|refine ae hf0 ?_|refine ae (hf1 _) ?_|refine ae (aG hc2 rfl) ?_|refine ae (aJ hc2 rfl hv4) ?_|refine ae (bk ha0 ha1') ?_|refine ae (bk hb0 hb1') ?_)
  refine bE hE 2 (fun e tm hp=>e=.normal/\∃ l2:List Int,l2=afZ3 f r zs pa a b pr/\tm=[(2,.ptr 1 0 0),(3,.ptr 2 0 0),(4,.ptr 3 0 0),(5,.ptr 5 0 0),(6,.int .i8 pc),(7,I cp)]/\hp=[.ints false .i8 zs,.cells true [I f,I r,.sl 0 0 zs.length none,Bb bl,.int .u8 ca,I pa,I ha,I fu],.cells true [I a,I b,.int .i8 pr],.cells true [I 0,I 0,.nils,.lit false,.int .u8 0,I 0,I 0,I 0],.ints true .i8 l2,.cells true [I f,I r,.sl 4 0 len none,Bb bl,.int .u8 ca,I pa,I ha,I fu]]) rfl (fun h=>?_) (fun h=>?_) ?_
  ·have h:(!decide (pr=0))=true:=h
   repeat (first|(first|refine ah ?_|refine sat_nd ?_)|refine ae (aB ha0 ha1) ?_|refine ae (aB hb0 hb1) ?_|refine ae (bD ha0 ha1) ?_|refine ae (bD hb0 hb1) ?_|refine ae hf0 ?_|refine ae (hf1 _) ?_|refine ae (aG hc2 rfl) ?_|refine ae (aJ hc2 rfl hv4) ?_|refine ae (bk ha0 ha1') ?_|refine ae (bk hb0 hb1') ?_)
   exact ag ⟨_,_,Ent.ren [0,1,2,3,4,5] [2,3,4,5,6,7] rfl rfl rfl,rfl,_,by rw[afZ3,afZ2,<-hl,<-hpc,h];rfl,rfl,rfl⟩
  ·have h:(!decide (pr=0))=false:=h
   exact ag ⟨_,_,Ent.ren [0,1,2,3,4,5] [2,3,4,5,6,7] rfl rfl rfl,rfl,_,by rw[afZ3,afZ2,<-hl,<-hpc,h];rfl,rfl,rfl⟩
  clear hl
  rintro e tm hp ⟨rfl,l,hl,rfl,rfl⟩
  repeat (first|(first|refine ah ?_|refine sat_nd ?_)|refine ae (aB ha0 ha1) ?_|refine ae (aB hb0 hb1) ?_|refine ae (bD ha0 ha1) ?_|refine ae (bD hb0 hb1) ?_|refine ae hf0 ?_|refine ae (hf1 _) ?_|refine ae (aG hc2 rfl) ?_|refine ae (aJ hc2 rfl hv4) ?_|refine ae (bk ha0 ha1') ?_|refine ae (bk hb0 hb1') ?_)
  refine bE hE 2 (fun e tm hp=>e=.normal/\∃ l2:List Int,l2=afZ f r zs bl ca pa a b pr/\tm=[(2,.ptr 1 0 0),(3,.ptr 2 0 0),(4,.ptr 3 0 0),(5,.ptr 5 0 0),(6,.int .i8 pc),(7,I cp)]/\hp=[.ints false .i8 zs,.cells true [I f,I r,.sl 0 0 zs.length none,Bb bl,.int .u8 ca,I pa,I ha,I fu],.cells true [I a,I b,.int .i8 pr],.cells true [I 0,I 0,.nils,.lit false,.int .u8 0,I 0,I 0,I 0],.ints true .i8 l2,.cells true [I f,I r,.sl 4 0 len none,Bb bl,.int .u8 ca,I pa,I ha,I fu]]) rfl (fun h=>?_) (fun h=>?_) ?_
  ·have h:(!decide (cgL f r (tk zs) bl ca a b pr=0))=true:=h
   rw[aF]at h
   obtain⟨h64,w1,w2,w3,w4⟩:=NV hbd hcs h
   have n2:(decide (0<=sqW (cgL f r (tk zs) bl ca a b pr) 2)&&decide (sqW (cgL f r (tk zs) bl ca a b pr) 2<len))=true:=by rw[aF,hlen,h64];simp[w1];omega
   have n3:(decide (0<=sqW (cgL f r (tk zs) bl ca a b pr) 3)&&decide (sqW (cgL f r (tk zs) bl ca a b pr) 3<len))=true:=by rw[aF,hlen,h64];simp[w3];omega
   repeat (first|refine ae n2 ?_|refine ae n3 ?_|(first|refine ah ?_|refine sat_nd ?_))
   exact ag ⟨_,_,Ent.ren [0,1,2,3,4,5] [2,3,4,5,6,7] rfl rfl rfl,rfl,(l.set (sqW (cgL f r (tk zs) bl ca a b pr) 3).toNat (l.getD (sqW (cgL f r (tk zs) bl ca a b pr) 2).toNat 0)).set (sqW (cgL f r (tk zs) bl ca a b pr) 2).toNat 0,by rw[aF,afZ,afZ4,<-hl,h];rfl,rfl,rfl⟩
  ·have h:(!decide (cgL f r (tk zs) bl ca a b pr=0))=false:=h
   rw[aF]at h
   exact ag ⟨_,_,Ent.ren [0,1,2,3,4,5] [2,3,4,5,6,7] rfl rfl rfl,rfl,_,by rw[afZ,afZ4,<-hl,h];rfl,rfl,rfl⟩
  clear hl
  rintro e tm hp ⟨rfl,l,hl,rfl,rfl⟩
  repeat (first|(first|refine ah ?_|refine sat_nd ?_)|refine ae (aB ha0 ha1) ?_|refine ae (aB hb0 hb1) ?_|refine ae (bD ha0 ha1) ?_|refine ae (bD hb0 hb1) ?_|refine ae hf0 ?_|refine ae (hf1 _) ?_|refine ae (aG hc2 rfl) ?_|refine ae (aJ hc2 rfl hv4) ?_|refine ae (bk ha0 ha1') ?_|refine ae (bk hb0 hb1') ?_)
  refine dx hE 2 5 ?_
  refine rnd ?_
  refine bF hE 2 rfl (fun _=>?_) (fun h=>absurd h (by decide))
  repeat (first|(first|refine ah ?_|refine sat_nd ?_)|refine ae (aB ha0 ha1) ?_|refine ae (aB hb0 hb1) ?_|refine ae (bD ha0 ha1) ?_|refine ae (bD hb0 hb1) ?_|refine ae hf0 ?_|refine ae (hf1 _) ?_|refine ae (aG hc2 rfl) ?_|refine ae (aJ hc2 rfl hv4) ?_|refine ae (bk ha0 ha1') ?_|refine ae (bk hb0 hb1') ?_)
  refine bE hE 2 (fun e tm hp=>e=.normal/\∃ c2:Int,c2=afS ca a b 1/\tm=[(2,.ptr 1 0 0),(3,.ptr 2 0 0),(4,.ptr 3 0 0),(5,.ptr 5 0 0),(6,.int .i8 pc),(7,I cp),(86,.sl 6 0 4 none),(87,I 4),(88,I 0)]/\hp=[.ints false .i8 zs,.cells true [I f,I r,.sl 0 0 zs.length none,Bb bl,.int .u8 ca,I pa,I ha,I fu],.cells true [I a,I b,.int .i8 pr],.cells true [I 0,I 0,.nils,.lit false,.int .u8 0,I 0,I 0,I 0],.ints true .i8 l,.cells true [I f,I r,.sl 4 0 len none,Bb bl,.int .u8 c2,I pa,I ha,I fu],.ints true .u8 [1,2,4,8]]) rfl (fun h=>?_) (fun h=>?_) ?_
  ·have h:(decide ((u8.wrap (ca.tdiv 1)).tmod 2=1)&&(hasL a [sqW 1 0,sqW 1 2]||hasL b [sqW 1 0,sqW 1 2]))=true:=h
   exact ag ⟨_,_,Ent.ren [0,1,2,3,4,5,6] [2,3,4,5,6,7,86,87,88] rfl rfl rfl,rfl,_,by rw[afS,h];rfl,rfl,rfl⟩
  ·have h:(decide ((u8.wrap (ca.tdiv 1)).tmod 2=1)&&(hasL a [sqW 1 0,sqW 1 2]||hasL b [sqW 1 0,sqW 1 2]))=false:=h
   exact ag ⟨_,_,Ent.ren [0,1,2,3,4,5,6] [2,3,4,5,6,7,86,87,88] rfl rfl rfl,rfl,_,by rw[afS,h];rfl,rfl,rfl⟩
  skip
  rintro e tm hp ⟨rfl,c,hcc,rfl,rfl⟩
  refine ag ⟨[(2,.ptr 1 0 0),(3,.ptr 2 0 0),(4,.ptr 3 0 0),(5,.ptr 5 0 0),(6,.int .i8 pc),(7,I cp),(86,.sl 6 0 4 none),(87,I 4),(88,I 1)],[.ints false .i8 zs,.cells true [I f,I r,.sl 0 0 zs.length none,Bb bl,.int .u8 ca,I pa,I ha,I fu],.cells true [I a,I b,.int .i8 pr],.cells true [I 0,I 0,.nils,.lit false,.int .u8 0,I 0,I 0,I 0],.ints true .i8 l,.cells true [I f,I r,.sl 4 0 len none,Bb bl,.int .u8 c,I pa,I ha,I fu],.ints true .u8 [1,2,4,8]],Ent.ren [0,1,2,3,4,5,6] [2,3,4,5,6,7,86,87,88] rfl rfl rfl,?_⟩
  refine rnd ?_
  refine bF hE 2 rfl (fun _=>?_) (fun h=>absurd h (by decide))
  repeat (first|(first|refine ah ?_|refine sat_nd ?_)|refine ae (aB ha0 ha1) ?_|refine ae (aB hb0 hb1) ?_|refine ae (bD ha0 ha1) ?_|refine ae (bD hb0 hb1) ?_|refine ae hf0 ?_|refine ae (hf1 _) ?_|refine ae (aG hc2 rfl) ?_|refine ae (aJ hc2 rfl hv4) ?_|refine ae (bk ha0 ha1') ?_|refine ae (bk hb0 hb1') ?_)
  refine bE hE 2 (fun e tm hp=>e=.normal/\∃ c2:Int,c2=afS c a b 2/\tm=[(2,.ptr 1 0 0),(3,.ptr 2 0 0),(4,.ptr 3 0 0),(5,.ptr 5 0 0),(6,.int .i8 pc),(7,I cp),(86,.sl 6 0 4 none),(87,I 4),(88,I 1)]/\hp=[.ints false .i8 zs,.cells true [I f,I r,.sl 0 0 zs.length none,Bb bl,.int .u8 ca,I pa,I ha,I fu],.cells true [I a,I b,.int .i8 pr],.cells true [I 0,I 0,.nils,.lit false,.int .u8 0,I 0,I 0,I 0],.ints true .i8 l,.cells true [I f,I r,.sl 4 0 len none,Bb bl,.int .u8 c2,I pa,I ha,I fu],.ints true .u8 [1,2,4,8]]) rfl (fun h=>?_) (fun h=>?_) ?_
  ·have h:(decide ((u8.wrap (c.tdiv 2)).tmod 2=1)&&(hasL a [sqW 2 0,sqW 2 2]||hasL b [sqW 2 0,sqW 2 2]))=true:=h
   exact ag ⟨_,_,Ent.ren [0,1,2,3,4,5,6] [2,3,4,5,6,7,86,87,88] rfl rfl rfl,rfl,_,by rw[afS,h];rfl,rfl,rfl⟩
  ·have h:(decide ((u8.wrap (c.tdiv 2)).tmod 2=1)&&(hasL a [sqW 2 0,sqW 2 2]||hasL b [sqW 2 0,sqW 2 2]))=false:=h
   exact ag ⟨_,_,Ent.ren [0,1,2,3,4,5,6] [2,3,4,5,6,7,86,87,88] rfl rfl rfl,rfl,_,by rw[afS,h];rfl,rfl,rfl⟩
  subst hcc
  rintro e tm hp ⟨rfl,c,hcc,rfl,rfl⟩
  refine ag ⟨[(2,.ptr 1 0 0),(3,.ptr 2 0 0),(4,.ptr 3 0 0),(5,.ptr 5 0 0),(6,.int .i8 pc),(7,I cp),(86,.sl 6 0 4 none),(87,I 4),(88,I 2)],[.ints false .i8 zs,.cells true [I f,I r,.sl 0 0 zs.length none,Bb bl,.int .u8 ca,I pa,I ha,I fu],.cells true [I a,I b,.int .i8 pr],.cells true [I 0,I 0,.nils,.lit false,.int .u8 0,I 0,I 0,I 0],.ints true .i8 l,.cells true [I f,I r,.sl 4 0 len none,Bb bl,.int .u8 c,I pa,I ha,I fu],.ints true .u8 [1,2,4,8]],Ent.ren [0,1,2,3,4,5,6] [2,3,4,5,6,7,86,87,88] rfl rfl rfl,?_⟩
  refine rnd ?_
  refine bF hE 2 rfl (fun _=>?_) (fun h=>absurd h (by decide))
  repeat (first|(first|refine ah ?_|refine sat_nd ?_)|refine ae (aB ha0 ha1) ?_|refine ae (aB hb0 hb1) ?_|refine ae (bD ha0 ha1) ?_|refine ae (bD hb0 hb1) ?_|refine ae hf0 ?_|refine ae (hf1 _) ?_|refine ae (aG hc2 rfl) ?_|refine ae (aJ hc2 rfl hv4) ?_|refine ae (bk ha0 ha1') ?_|refine ae (bk hb0 hb1') ?_)
  refine bE hE 2 (fun e tm hp=>e=.normal/\∃ c2:Int,c2=afS c a b 4/\tm=[(2,.ptr 1 0 0),(3,.ptr 2 0 0),(4,.ptr 3 0 0),(5,.ptr 5 0 0),(6,.int .i8 pc),(7,I cp),(86,.sl 6 0 4 none),(87,I 4),(88,I 2)]/\hp=[.ints false .i8 zs,.cells true [I f,I r,.sl 0 0 zs.length none,Bb bl,.int .u8 ca,I pa,I ha,I fu],.cells true [I a,I b,.int .i8 pr],.cells true [I 0,I 0,.nils,.lit false,.int .u8 0,I 0,I 0,I 0],.ints true .i8 l,.cells true [I f,I r,.sl 4 0 len none,Bb bl,.int .u8 c2,I pa,I ha,I fu],.ints true .u8 [1,2,4,8]]) rfl (fun h=>?_) (fun h=>?_) ?_
  ·have h:(decide ((u8.wrap (c.tdiv 4)).tmod 2=1)&&(hasL a [sqW 4 0,sqW 4 2]||hasL b [sqW 4 0,sqW 4 2]))=true:=h
   exact ag ⟨_,_,Ent.ren [0,1,2,3,4,5,6] [2,3,4,5,6,7,86,87,88] rfl rfl rfl,rfl,_,by rw[afS,h];rfl,rfl,rfl⟩
  ·have h:(decide ((u8.wrap (c.tdiv 4)).tmod 2=1)&&(hasL a [sqW 4 0,sqW 4 2]||hasL b [sqW 4 0,sqW 4 2]))=false:=h
   exact ag ⟨_,_,Ent.ren [0,1,2,3,4,5,6] [2,3,4,5,6,7,86,87,88] rfl rfl rfl,rfl,_,by rw[afS,h];rfl,rfl,rfl⟩
  subst hcc
  rintro e tm hp ⟨rfl,c,hcc,rfl,rfl⟩
  refine ag ⟨[(2,.ptr 1 0 0),(3,.ptr 2 0 0),(4,.ptr 3 0 0),(5,.ptr 5 0 0),(6,.int .i8 pc),(7,I cp),(86,.sl 6 0 4 none),(87,I 4),(88,I 3)],[.ints false .i8 zs,.cells true [I f,I r,.sl 0 0 zs.length none,Bb bl,.int .u8 ca,I pa,I ha,I fu],.cells true [I a,I b,.int .i8 pr],.cells true [I 0,I 0,.nils,.lit false,.int .u8 0,I 0,I 0,I 0],.ints true .i8 l,.cells true [I f,I r,.sl 4 0 len none,Bb bl,.int .u8 c,I pa,I ha,I fu],.ints true .u8 [1,2,4,8]],Ent.ren [0,1,2,3,4,5,6] [2,3,4,5,6,7,86,87,88] rfl rfl rfl,?_⟩
  refine rnd ?_
  refine bF hE 2 rfl (fun _=>?_) (fun h=>absurd h (by decide))
  repeat (first|(first|refine ah ?_|refine sat_nd ?_)|refine ae (aB ha0 ha1) ?_|refine ae (aB hb0 hb1) ?_|refine ae (bD ha0 ha1) ?_|refine ae (bD hb0 hb1) ?_|refine ae hf0 ?_|refine ae (hf1 _) ?_|refine ae (aG hc2 rfl) ?_|refine ae (aJ hc2 rfl hv4) ?_|refine ae (bk ha0 ha1') ?_|refine ae (bk hb0 hb1') ?_)
  refine bE hE 2 (fun e tm hp=>e=.normal/\∃ c2:Int,c2=afS c a b 8/\tm=[(2,.ptr 1 0 0),(3,.ptr 2 0 0),(4,.ptr 3 0 0),(5,.ptr 5 0 0),(6,.int .i8 pc),(7,I cp),(86,.sl 6 0 4 none),(87,I 4),(88,I 3)]/\hp=[.ints false .i8 zs,.cells true [I f,I r,.sl 0 0 zs.length none,Bb bl,.int .u8 ca,I pa,I ha,I fu],.cells true [I a,I b,.int .i8 pr],.cells true [I 0,I 0,.nils,.lit false,.int .u8 0,I 0,I 0,I 0],.ints true .i8 l,.cells true [I f,I r,.sl 4 0 len none,Bb bl,.int .u8 c2,I pa,I ha,I fu],.ints true .u8 [1,2,4,8]]) rfl (fun h=>?_) (fun h=>?_) ?_
  ·have h:(decide ((u8.wrap (c.tdiv 8)).tmod 2=1)&&(hasL a [sqW 8 0,sqW 8 2]||hasL b [sqW 8 0,sqW 8 2]))=true:=h
   exact ag ⟨_,_,Ent.ren [0,1,2,3,4,5,6] [2,3,4,5,6,7,86,87,88] rfl rfl rfl,rfl,_,by rw[afS,h];rfl,rfl,rfl⟩
  ·have h:(decide ((u8.wrap (c.tdiv 8)).tmod 2=1)&&(hasL a [sqW 8 0,sqW 8 2]||hasL b [sqW 8 0,sqW 8 2]))=false:=h
   exact ag ⟨_,_,Ent.ren [0,1,2,3,4,5,6] [2,3,4,5,6,7,86,87,88] rfl rfl rfl,rfl,_,by rw[afS,h];rfl,rfl,rfl⟩
  subst hcc
  rintro e tm hp ⟨rfl,c,hcc,rfl,rfl⟩
  refine ag ⟨[(2,.ptr 1 0 0),(3,.ptr 2 0 0),(4,.ptr 3 0 0),(5,.ptr 5 0 0),(6,.int .i8 pc),(7,I cp),(86,.sl 6 0 4 none),(87,I 4),(88,I 4)],[.ints false .i8 zs,.cells true [I f,I r,.sl 0 0 zs.length none,Bb bl,.int .u8 ca,I pa,I ha,I fu],.cells true [I a,I b,.int .i8 pr],.cells true [I 0,I 0,.nils,.lit false,.int .u8 0,I 0,I 0,I 0],.ints true .i8 l,.cells true [I f,I r,.sl 4 0 len none,Bb bl,.int .u8 c,I pa,I ha,I fu],.ints true .u8 [1,2,4,8]],Ent.ren [0,1,2,3,4,5,6] [2,3,4,5,6,7,86,87,88] rfl rfl rfl,?_⟩
  refine rnd ?_
  refine bF hE 2 rfl (fun h=>absurd h (by decide)) (fun _=>?_)
  refine ag ?_
  have hcc:c=afC ca a b:=hcc
  repeat (first|(first|refine ah ?_|refine sat_nd ?_)|refine ae (aB ha0 ha1) ?_|refine ae (aB hb0 hb1) ?_|refine ae (bD ha0 ha1) ?_|refine ae (bD hb0 hb1) ?_|refine ae hf0 ?_|refine ae (hf1 _) ?_|refine ae (aG hc2 rfl) ?_|refine ae (aJ hc2 rfl hv4) ?_|refine ae (bk ha0 ha1') ?_|refine ae (bk hb0 hb1') ?_)
  refine bE hE 2 (fun e tm hp=>e=.normal/\∃ pa2:Int,pa2=afPa f r zs a b/\tm=[(2,.ptr 1 0 0),(3,.ptr 2 0 0),(4,.ptr 3 0 0),(5,.ptr 5 0 0),(6,.int .i8 pc),(7,I cp)]/\hp=[.ints false .i8 zs,.cells true [I f,I r,.sl 0 0 zs.length none,Bb bl,.int .u8 ca,I pa,I ha,I fu],.cells true [I a,I b,.int .i8 pr],.cells true [I 0,I 0,.nils,.lit false,.int .u8 0,I 0,I 0,I 0],.ints true .i8 l,.cells true [I f,I r,.sl 4 0 len none,Bb bl,.int .u8 c,I pa2,I ha,I fu]]) rfl (fun h=>?_) (fun h=>?_) ?_
  ·have h:(decide (aY pc=1)&&(decide (i64.wrap (i64.wrap (a.tdiv f)-i64.wrap (b.tdiv f))=2)||decide (i64.wrap (i64.wrap (b.tdiv f)-i64.wrap (a.tdiv f))=2)))=true:=h
   repeat (first|(first|refine ah ?_|refine sat_nd ?_)|refine ae (aB ha0 ha1) ?_|refine ae (aB hb0 hb1) ?_|refine ae (bD ha0 ha1) ?_|refine ae (bD hb0 hb1) ?_|refine ae hf0 ?_|refine ae (hf1 _) ?_|refine ae (aG hc2 rfl) ?_|refine ae (aJ hc2 rfl hv4) ?_|refine ae (bk ha0 ha1') ?_|refine ae (bk hb0 hb1') ?_)
   exact ag ⟨_,_,Ent.ren [0,1,2,3,4,5] [2,3,4,5,6,7] rfl rfl rfl,rfl,_,by rw[afPa,<-hpc,h];rfl,rfl,rfl⟩
  ·have h:(decide (aY pc=1)&&(decide (i64.wrap (i64.wrap (a.tdiv f)-i64.wrap (b.tdiv f))=2)||decide (i64.wrap (i64.wrap (b.tdiv f)-i64.wrap (a.tdiv f))=2)))=false:=h
   exact ag ⟨_,_,Ent.ren [0,1,2,3,4,5] [2,3,4,5,6,7] rfl rfl rfl,rfl,_,by rw[afPa,<-hpc,h];rfl,rfl,rfl⟩
  rintro e tm hp ⟨rfl,pa2,hpa2,rfl,rfl⟩
  repeat (first|(first|refine ah ?_|refine sat_nd ?_)|refine ae (aB ha0 ha1) ?_|refine ae (aB hb0 hb1) ?_|refine ae (bD ha0 ha1) ?_|refine ae (bD hb0 hb1) ?_|refine ae hf0 ?_|refine ae (hf1 _) ?_|refine ae (aG hc2 rfl) ?_|refine ae (aJ hc2 rfl hv4) ?_|refine ae (bk ha0 ha1') ?_|refine ae (bk hb0 hb1') ?_)
  refine bE hE 2 (fun e tm hp=>e=.normal/\∃ ha2:Int,ha2=afHa f r zs pa ha a b/\tm=[(2,.ptr 1 0 0),(3,.ptr 2 0 0),(4,.ptr 3 0 0),(5,.ptr 5 0 0),(6,.int .i8 pc),(7,I cp)]/\hp=[.ints false .i8 zs,.cells true [I f,I r,.sl 0 0 zs.length none,Bb bl,.int .u8 ca,I pa,I ha,I fu],.cells true [I a,I b,.int .i8 pr],.cells true [I 0,I 0,.nils,.lit false,.int .u8 0,I 0,I 0,I 0],.ints true .i8 l,.cells true [I f,I r,.sl 4 0 len none,Bb bl,.int .u8 c,I pa2,I ha2,I fu]]) rfl (fun h=>?_) (fun h=>?_) ?_
  ·have h:(decide (aY pc=1)||decide (0<=cp))=true:=h
   exact ag ⟨_,_,Ent.ren [0,1,2,3,4,5] [2,3,4,5,6,7] rfl rfl rfl,rfl,_,by rw[afHa,<-hpc,<-hcp,h];rfl,rfl,rfl⟩
  ·have h:(decide (aY pc=1)||decide (0<=cp))=false:=h
   exact ag ⟨_,_,Ent.ren [0,1,2,3,4,5] [2,3,4,5,6,7] rfl rfl rfl,rfl,_,by rw[afHa,<-hpc,<-hcp,h];rfl,rfl,rfl⟩
  rintro e tm hp ⟨rfl,ha2,hha2,rfl,rfl⟩
  repeat (first|(first|refine ah ?_|refine sat_nd ?_)|refine ae (aB ha0 ha1) ?_|refine ae (aB hb0 hb1) ?_|refine ae (bD ha0 ha1) ?_|refine ae (bD hb0 hb1) ?_|refine ae hf0 ?_|refine ae (hf1 _) ?_|refine ae (aG hc2 rfl) ?_|refine ae (aJ hc2 rfl hv4) ?_|refine ae (bk ha0 ha1') ?_|refine ae (bk hb0 hb1') ?_)
  refine bE hE 2 (fun e tm hp=>e=.normal/\∃ fu2:Int,fu2=fuR bl fu/\tm=[(2,.ptr 1 0 0),(3,.ptr 2 0 0),(4,.ptr 3 0 0),(5,.ptr 5 0 0),(6,.int .i8 pc),(7,I cp)]/\hp=[.ints false .i8 zs,.cells true [I f,I r,.sl 0 0 zs.length none,Bb bl,.int .u8 ca,I pa,I ha,I fu],.cells true [I a,I b,.int .i8 pr],.cells true [I 0,I 0,.nils,.lit false,.int .u8 0,I 0,I 0,I 0],.ints true .i8 l,.cells true [I f,I r,.sl 4 0 len none,Bb bl,.int .u8 c,I pa2,I ha2,I fu2]]) rfl (fun h=>?_) (fun h=>?_) ?_
  ·have h:bl=true:=h
   exact ag ⟨_,_,Ent.ren [0,1,2,3,4,5] [2,3,4,5,6,7] rfl rfl rfl,rfl,_,by rw[fuR,h];rfl,rfl,rfl⟩
  ·have h:bl=false:=h
   exact ag ⟨_,_,Ent.ren [0,1,2,3,4,5] [2,3,4,5,6,7] rfl rfl rfl,rfl,_,by rw[fuR,h];rfl,rfl,rfl⟩
  rintro e tm hp ⟨rfl,fu2,hfu2,rfl,rfl⟩
  repeat (first|(first|refine ah ?_|refine sat_nd ?_)|refine ae (aB ha0 ha1) ?_|refine ae (aB hb0 hb1) ?_|refine ae (bD ha0 ha1) ?_|refine ae (bD hb0 hb1) ?_|refine ae hf0 ?_|refine ae (hf1 _) ?_|refine ae (aG hc2 rfl) ?_|refine ae (aJ hc2 rfl hv4) ?_|refine ae (bk ha0 ha1') ?_|refine ae (bk hb0 hb1') ?_)
  refine ag (IT (bV 4 (.inr rfl) rfl rfl rfl rfl (by rw[<-hl];rfl) ?_))
  show V.agg [I f,I r,.sl 1 0 len none,Bb (!bl),.int .u8 c,I pa2,I ha2,I fu2]=V.agg [I f,I r,.sl 1 0 (afZ f r zs bl ca pa a b pr).length none,Bb (!bl),.int .u8 (afC ca a b),I (afPa f r zs a b),I (afHa f r zs pa ha a b),I (fuR bl fu)]
  rw[hcc,hpa2,hha2,hfu2,hlen,Cg]
 ·cases e
end
end Go.Ab
namespace Go.Ab
open Go.Proofs
section
variable{kCa kDb:Bool}
theorem ct{l:List Int}(h:l.length<=64){n:Nat}(hn:n=l.length):(decide (n=((l.drop 0).take n).length)&&decide (((l.drop 0).take n).length<=1000000))=true:=by subst hn;simp;omega
def LH:CF
 |[.agg [.int .i64 f,.int .i64 r,.sl 0 0 len none,.bool bl,.int .u8 ca,.int .i64 pa,.int .i64 _ha,.int .i64 _fu],.agg [.int .i64 a,.int .i64 b,.int .i8 pr]],[.ints false .i8 zs]=>some (decide (len=zs.length)&&decide (zs.length<=64)&&(aC f r zs&&cV f r zs ca&&aj f r a&&aj f r b),.bool (pnL f r zs bl pa a b pr),[])
 |_,_=>none
theorem Gs:CtOk (GGx kCa kDb) PP (184,LH):=by
 refine aD Tryz.func184 (by kernel_rfl) rfl fun a0 h0 c0 v0 N0 e hc=>?_
 unfold LH at e
 split at e
 ·rename_i f r len bl ca pa ha fu a b pr zs
  cases e
  have hE:=aA (kCa:=kCa) (kDb:=kDb) (cts:=[(29,um),(135,Ep),(39,dF),(40,rX),(190,kK),(161,iY),(143,zz)]) (inl:=[]) ⟨ic,qC,bZ,pF,qg,lJ,tK,trivial⟩ trivial
  refine aq hE 2 Tryz.func184 rfl rfl ?_
  simp only[Bool.and_eq_true,decide_eq_true_eq]at hc
  obtain⟨⟨rfl,hc2⟩,⟨⟨hbd,hcs⟩,hva⟩,hvb⟩:=hc
  have hvs:=(bh hbd).1
  obtain⟨ha0,ha1⟩:=(bQ hbd).1 hva
  obtain⟨hb0,hb1⟩:=(bQ hbd).1 hvb
  have hf0:(!decide (f=0))=true:=by have:=cZ hvs;simp;omega
  have hf1:∀ g:Bool,(!g||!decide (f=0))=true:=fun g=>by rw[hf0];simp
  have hbt:aC f r (tk zs)=true:=by rw[aF];exact hbd
  have hct:cV f r (tk zs) ca=true:=by rw[aF];exact hcs
  have hv4:(aC f r (tk zs)&&cV f r (tk zs) ca&&aj f r a&&aj f r b)=true:=by rw[hbt,hct,hva,hvb];rfl
  have hv5:(aC f r (tk zs)&&cV f r (tk zs) ca&&(aj f r a&&aj f r b))=true:=by rw[hbt,hct,hva,hvb];rfl
  have hs1:(cz (cq f r bl a (occL (tk zs))) id ((f*r).toNat)).length<=64:=by have:=dh (cq f r bl a (occL (tk zs))) id ((f*r).toNat);have:=(bh hbd).2;omega
  have hs2:(cz (ei f bl a) id ((f*r).toNat)).length<=64:=by have:=dh (ei f bl a) id ((f*r).toNat);have:=(bh hbd).2;omega
  repeat (first|(first|refine ah ?_|refine sat_nd ?_)|refine ae (bR ha0 ha1) ?_|refine ae (bR hb0 hb1) ?_|refine ae (bO ha0 ha1) ?_|refine ae (bO hb0 hb1) ?_|refine ae hvs ?_|refine ae hf0 ?_|refine ae (hf1 _) ?_|refine ae (aG hc2 rfl) ?_|refine ae (cj hc2 rfl) ?_|refine ae (aJ hc2 rfl hv4) ?_|refine ae (ct hs1 rfl) ?_|refine ae (ct hs2 rfl) ?_)
  refine av (fun h=>?_) (fun h=>?_)
  ·have h:(!(decide (IntKind.i64.wrap (b.tdiv f)=gj r bl)==!decide (pr=0)))=true:=h
   exact ag (ai (.inr rfl) rfl rfl rfl (by rw[pnL,h];rfl))
  have h:(!(decide (IntKind.i64.wrap (b.tdiv f)=gj r bl)==!decide (pr=0)))=false:=h
  repeat (first|(first|refine ah ?_|refine sat_nd ?_)|refine ae (bR ha0 ha1) ?_|refine ae (bR hb0 hb1) ?_|refine ae (bO ha0 ha1) ?_|refine ae (bO hb0 hb1) ?_|refine ae hvs ?_|refine ae hf0 ?_|refine ae (hf1 _) ?_|refine ae (aG hc2 rfl) ?_|refine ae (cj hc2 rfl) ?_|refine ae (aJ hc2 rfl hv4) ?_|refine ae (ct hs1 rfl) ?_|refine ae (ct hs2 rfl) ?_)
  refine av (fun h2=>?_) (fun h2=>?_)
  ·have h2:hasL b (tk (cz (cq f r bl a (occL (tk zs))) id ((f*r).toNat)))=true:=h2
   rw[aF,aF]at h2
   exact ag (ai (.inr rfl) rfl rfl rfl (by rw[pnL,h,h2];rfl))
  have h2:hasL b (tk (cz (cq f r bl a (occL (tk zs))) id ((f*r).toNat)))=false:=h2
  rw[aF,aF]at h2
  repeat (first|(first|refine ah ?_|refine sat_nd ?_)|refine ae (bR ha0 ha1) ?_|refine ae (bR hb0 hb1) ?_|refine ae (bO ha0 ha1) ?_|refine ae (bO hb0 hb1) ?_|refine ae hvs ?_|refine ae hf0 ?_|refine ae (hf1 _) ?_|refine ae (aG hc2 rfl) ?_|refine ae (cj hc2 rfl) ?_|refine ae (aJ hc2 rfl hv4) ?_|refine ae (ct hs1 rfl) ?_|refine ae (ct hs2 rfl) ?_)
  exact ag (ai (.inr rfl) rfl rfl rfl (congrArg V.bool (by
   show (hasL b (tk (cz (ei f bl a) id ((f*r).toNat)))&&(!decide (zs.getD b.toNat 0=0)||decide (b=pa)))=_
   rw[aF,pnL,h,h2];rfl)))
 ·cases e
def JL:CF
 |[.agg [.int .i64 f,.int .i64 r,.sl 0 0 len none,.bool bl,.int .u8 ca,.int .i64 pa,.int .i64 _ha,.int .i64 _fu],.agg [.int .i64 a,.int .i64 b,.int .i8 pr]],[.ints false .i8 zs]=>some (decide (len=zs.length)&&decide (zs.length<=64)&&(aC f r zs&&cV f r zs ca&&aj f r a&&aj f r b),.bool (soL f r zs bl ca pa a b pr),[])
 |_,_=>none
theorem Gi:CtOk (GGx kCa kDb) PP (166,JL):=by
 refine aD Tryz.func166 (by kernel_rfl) rfl fun a0 h0 c0 v0 N0 e hc=>?_
 unfold JL at e
 split at e
 ·rename_i f r len bl ca pa ha fu a b pr zs
  cases e
  have hE:=aA (kCa:=kCa) (kDb:=kDb) (cts:=[(183,Es),(38,fj),(184,LH),(140,tM),(29,um),(135,Ep),(162,jR)]) (inl:=[]) ⟨DA,dR,Gs,mZ,ic,qC,lH,trivial⟩ trivial
  refine aq hE 2 Tryz.func166 rfl rfl ?_
  simp only[Bool.and_eq_true,decide_eq_true_eq]at hc
  obtain⟨⟨rfl,hc2⟩,⟨⟨hbd,hcs⟩,hva⟩,hvb⟩:=hc
  have hvs:=(bh hbd).1
  obtain⟨ha0,ha1⟩:=(bQ hbd).1 hva
  obtain⟨hb0,hb1⟩:=(bQ hbd).1 hvb
  have hf0:(!decide (f=0))=true:=by have:=cZ hvs;simp;omega
  have hf1:∀ g:Bool,(!g||!decide (f=0))=true:=fun g=>by rw[hf0];simp
  have hbt:aC f r (tk zs)=true:=by rw[aF];exact hbd
  have hct:cV f r (tk zs) ca=true:=by rw[aF];exact hcs
  have hv4:(aC f r (tk zs)&&cV f r (tk zs) ca&&aj f r a&&aj f r b)=true:=by rw[hbt,hct,hva,hvb];rfl
  have hv5:(aC f r (tk zs)&&cV f r (tk zs) ca&&(aj f r a&&aj f r b))=true:=by rw[hbt,hct,hva,hvb];rfl
  have hs1:(cz (cq f r bl a (occL (tk zs))) id ((f*r).toNat)).length<=64:=by have:=dh (cq f r bl a (occL (tk zs))) id ((f*r).toNat);have:=(bh hbd).2;omega
  have hs2:(cz (ei f bl a) id ((f*r).toNat)).length<=64:=by have:=dh (ei f bl a) id ((f*r).toNat);have:=(bh hbd).2;omega
  repeat (first|(first|refine ah ?_|refine sat_nd ?_)|refine ae (bR ha0 ha1) ?_|refine ae (bR hb0 hb1) ?_|refine ae (bO ha0 ha1) ?_|refine ae (bO hb0 hb1) ?_|refine ae hvs ?_|refine ae hf0 ?_|refine ae (hf1 _) ?_|refine ae (aG hc2 rfl) ?_|refine ae (cj hc2 rfl) ?_|refine ae (aJ hc2 rfl hv4) ?_|refine ae (ct hs1 rfl) ?_|refine ae (ct hs2 rfl) ?_)
  refine av (fun h=>?_) (fun h=>?_)
  ·have h:ownL (zs.getD b.toNat 0) bl=true:=h
   exact ag (ai (.inr rfl) rfl rfl rfl (by rw[soL,h];rfl))
  have h:ownL (zs.getD b.toNat 0) bl=false:=h
  repeat (first|(first|refine ah ?_|refine sat_nd ?_)|refine ae (bR ha0 ha1) ?_|refine ae (bR hb0 hb1) ?_|refine ae (bO ha0 ha1) ?_|refine ae (bO hb0 hb1) ?_|refine ae hvs ?_|refine ae hf0 ?_|refine ae (hf1 _) ?_|refine ae (aG hc2 rfl) ?_|refine ae (cj hc2 rfl) ?_|refine ae (aJ hc2 rfl hv4) ?_|refine ae (ct hs1 rfl) ?_|refine ae (ct hs2 rfl) ?_)
  refine av (fun h2=>?_) (fun h2=>?_)
  ·have h2:decide (aY (zs.getD a.toNat 0)=1)=true:=h2
   repeat (first|(first|refine ah ?_|refine sat_nd ?_)|refine ae (bR ha0 ha1) ?_|refine ae (bR hb0 hb1) ?_|refine ae (bO ha0 ha1) ?_|refine ae (bO hb0 hb1) ?_|refine ae hvs ?_|refine ae hf0 ?_|refine ae (hf1 _) ?_|refine ae (aG hc2 rfl) ?_|refine ae (cj hc2 rfl) ?_|refine ae (aJ hc2 rfl hv4) ?_|refine ae (ct hs1 rfl) ?_|refine ae (ct hs2 rfl) ?_)
   exact ag (ai (.inr rfl) rfl rfl rfl (congrArg V.bool (by
    show pnL f r (tk zs) bl pa a b pr=_
    rw[aF,soL,h,h2];rfl)))
  have h2:decide (aY (zs.getD a.toNat 0)=1)=false:=h2
  repeat (first|(first|refine ah ?_|refine sat_nd ?_)|refine ae (bR ha0 ha1) ?_|refine ae (bR hb0 hb1) ?_|refine ae (bO ha0 ha1) ?_|refine ae (bO hb0 hb1) ?_|refine ae hvs ?_|refine ae hf0 ?_|refine ae (hf1 _) ?_|refine ae (aG hc2 rfl) ?_|refine ae (cj hc2 rfl) ?_|refine ae (aJ hc2 rfl hv4) ?_|refine ae (ct hs1 rfl) ?_|refine ae (ct hs2 rfl) ?_)
  refine av (fun h3=>?_) (fun h3=>?_)
  ·have h3:(!decide (cgL f r (tk zs) bl ca a b pr=0))=true:=h3
   rw[aF]at h3
   exact ag (ai (.inr rfl) rfl rfl rfl (by rw[soL,h,h2,h3];rfl))
  have h3:(!decide (cgL f r (tk zs) bl ca a b pr=0))=false:=h3
  rw[aF]at h3
  repeat (first|(first|refine ah ?_|refine sat_nd ?_)|refine ae (bR ha0 ha1) ?_|refine ae (bR hb0 hb1) ?_|refine ae (bO ha0 ha1) ?_|refine ae (bO hb0 hb1) ?_|refine ae hvs ?_|refine ae hf0 ?_|refine ae (hf1 _) ?_|refine ae (aG hc2 rfl) ?_|refine ae (cj hc2 rfl) ?_|refine ae (aJ hc2 rfl hv4) ?_|refine ae (ct hs1 rfl) ?_|refine ae (ct hs2 rfl) ?_)
  exact ag (ai (.inr rfl) rfl rfl rfl (congrArg V.bool (by
   show (decide (pr=0)&&bJ f r (aY (zs.getD a.toNat 0)) a b (occL (tk zs)))=_
   rw[aF,soL,h,h2,h3];rfl)))
 ·cases e
end
section
variable{kCa kDb:Bool}
def sfL(p:Psn)(m:Mov):Bool:=bif chkL p.f p.r (afP p m).zs p.bl then false else bif decide (cgL p.f p.r p.zs p.bl p.ca m.a m.b m.p=0)then true else !chkL p.f p.r p.zs p.bl&&decide (((attL p.f p.r p.zs (sqW (cgL p.f p.r p.zs p.bl p.ca m.a m.b m.p) 3) (!p.bl)).length:Int)=0)
theorem rU{l:List Int}{f r:Int}(h:l.length<=64)(hv:vsB f r=true):(decide (l.length=((l.drop 0).take l.length).length)&&decide (((l.drop 0).take l.length).length<=64)&&vsB f r)=true:=by rw[hv];simp[h]
def wh:CF
 |[.agg [.int .i64 f,.int .i64 r,.sl 0 0 len none,.bool bl,.int .u8 ca,.int .i64 pa,.int .i64 ha,.int .i64 fu],.agg [.int .i64 a,.int .i64 b,.int .i8 pr]],[.ints false .i8 zs]=>some (decide (len=zs.length)&&decide (zs.length<=64)&&(aC f r zs&&cV f r zs ca&&aj f r a&&aj f r b),.bool (sfL ⟨f,r,zs,bl,ca,pa,ha,fu⟩ ⟨a,b,pr⟩),[])
 |_,_=>none
theorem Bq:CtOk (GGx kCa kDb) PP (99,wh):=by
 refine aD Tryz.func99 (by kernel_rfl) rfl fun a0 h0 c0 v0 N0 e hc=>?_
 unfold wh at e
 split at e
 ·rename_i f r len bl ca pa ha fu a b pr zs
  cases e
  have hE:=aA (kCa:=kCa) (kDb:=kDb) (cts:=[(89,qk),(29,um),(37,iW),(140,tM),(141,uK),(142,gQ),(82,dW)]) (inl:=[]) ⟨xG,ic,iP,mZ,mI,gY,fM,trivial⟩ trivial
  refine aq hE 2 Tryz.func99 rfl rfl ?_
  simp only[Bool.and_eq_true,decide_eq_true_eq]at hc
  obtain⟨⟨rfl,hc2⟩,⟨⟨hbd,hcs⟩,hva⟩,hvb⟩:=hc
  have hvs:=(bh hbd).1
  obtain⟨ha0,ha1⟩:=(bQ hbd).1 hva
  obtain⟨hb0,hb1⟩:=(bQ hbd).1 hvb
  have hbt:aC f r (tk zs)=true:=by rw[aF];exact hbd
  have hct:cV f r (tk zs) ca=true:=by rw[aF];exact hcs
  have hv4:(aC f r (tk zs)&&cV f r (tk zs) ca&&aj f r a&&aj f r b)=true:=by rw[hbt,hct,hva,hvb];rfl
  have hzl:(afZ f r (tk zs) bl ca pa a b pr).length<=64:=by rw[Cg,jv];exact hc2
  repeat (first|(first|refine ah ?_|refine sat_nd ?_)|refine ae (bR ha0 ha1) ?_|refine ae (bR hb0 hb1) ?_|refine ae (aG hc2 rfl) ?_|refine ae (cj hc2 rfl) ?_|refine ae (aJ hc2 rfl hv4) ?_|refine ae (aJ hc2 rfl hvs) ?_|refine ae (ig hc2 hvs) ?_|refine ae (rU hzl hvs) ?_)
  refine av (fun h=>?_) (fun h=>?_)
  ·have h:chkL f r (tk (afZ f r (tk zs) bl ca pa a b pr)) bl=true:=h
   rw[aF,aF]at h
   have h:chkL f r (afP ⟨f,r,zs,bl,ca,pa,ha,fu⟩ ⟨a,b,pr⟩).zs bl=true:=h
   exact ag (ai (.inr rfl) rfl rfl rfl (by simp only[sfL,h,cond_true]))
  have h:chkL f r (tk (afZ f r (tk zs) bl ca pa a b pr)) bl=false:=h
  rw[aF,aF]at h
  have h:chkL f r (afP ⟨f,r,zs,bl,ca,pa,ha,fu⟩ ⟨a,b,pr⟩).zs bl=false:=h
  repeat (first|(first|refine ah ?_|refine sat_nd ?_)|refine ae (bR ha0 ha1) ?_|refine ae (bR hb0 hb1) ?_|refine ae (aG hc2 rfl) ?_|refine ae (cj hc2 rfl) ?_|refine ae (aJ hc2 rfl hv4) ?_|refine ae (aJ hc2 rfl hvs) ?_|refine ae (ig hc2 hvs) ?_|refine ae (rU hzl hvs) ?_)
  refine av (fun h2=>?_) (fun h2=>?_)
  ·have h2:decide (cgL f r (tk zs) bl ca a b pr=0)=true:=h2
   rw[aF]at h2
   exact ag (ai (.inr rfl) rfl rfl rfl (by simp only[sfL,h,h2,cond_true,cond_false]))
  have h2:decide (cgL f r (tk zs) bl ca a b pr=0)=false:=h2
  rw[aF]at h2
  repeat (first|(first|refine ah ?_|refine sat_nd ?_)|refine ae (bR ha0 ha1) ?_|refine ae (bR hb0 hb1) ?_|refine ae (aG hc2 rfl) ?_|refine ae (cj hc2 rfl) ?_|refine ae (aJ hc2 rfl hv4) ?_|refine ae (aJ hc2 rfl hvs) ?_|refine ae (ig hc2 hvs) ?_|refine ae (rU hzl hvs) ?_)
  refine av (fun hq=>?_) (fun hq=>?_)
  ·have hq:(!chkL f r (tk zs) bl)=true:=hq
   rw[aF]at hq
   repeat (first|(first|refine ah ?_|refine sat_nd ?_)|refine ae (bR ha0 ha1) ?_|refine ae (bR hb0 hb1) ?_|refine ae (aG hc2 rfl) ?_|refine ae (cj hc2 rfl) ?_|refine ae (aJ hc2 rfl hv4) ?_|refine ae (aJ hc2 rfl hvs) ?_|refine ae (ig hc2 hvs) ?_|refine ae (rU hzl hvs) ?_)
   exact ag (ai (.inr rfl) rfl rfl rfl (congrArg V.bool (by
    show decide (((attL f r (tk zs) (sqW (cgL f r (tk zs) bl ca a b pr) 3) (!bl)).length:Int)=0)=_
    rw[aF]
    simp only[sfL,h,h2,hq,cond_false,Bool.true_and])))
  ·have hq:(!chkL f r (tk zs) bl)=false:=hq
   rw[aF]at hq
   exact ag (ai (.inr rfl) rfl rfl rfl (congrArg V.bool (by
    show false=_
    simp only[sfL,h,h2,hq,cond_false,Bool.false_and])))
 ·cases e
end
end Go.Ab
namespace Go.Ab
abbrev iL(l:List Int):List Int:=l
structure Siz where
 f:Int
 r:Int
structure Sgt where
 p:Psn
 own:Int
 all:Int
end Go.Ab
namespace Go.Ab
open Go.Proofs
section
variable{kCa kDb:Bool}
end
section
variable{kDb:Bool}
end
section
variable{kDb:Bool}
end
end Go.Ab
namespace Go.Ab
open IntKind
open Go.Proofs
section
variable{kCa kDb:Bool}
def rI(p:Psn):Option (Sgt):=let x18:=List.take p.zs.length (List.drop 0 p.zs);let x15:=(eO p.f p.r x18).snd.1;let x16:=(eO p.f p.r x18).fst;let x17:=x18.length;be (decide (x17<=1000000)) (dz (bif p.bl then some (Sum.inl x15)else some (Sum.inl x16)) fun(s4:Int)=>some (Sgt.mk (Psn.mk p.f p.r p.zs p.bl p.ca p.pa p.ha p.fu) s4 (band Go.BinOp.or u64 x16 x15)))
def vT(R:Sgt):V:=.agg [.int .i64 R.p.f,.int .i64 R.p.r,.sl 0 0 R.p.zs.length none,Bb R.p.bl,.int .u8 R.p.ca,.int .i64 R.p.pa,.int .i64 R.p.ha,.int .i64 R.p.fu,.int .u64 R.own,.int .u64 R.all]
def xL(_R:Sgt):List O:=[]
def qK:CF
 |[.agg [.int .i64 p_0,.int .i64 p_1,.sl 0 0 p_2n none,.bool p_3,.int .u8 p_4,.int .i64 p_5,.int .i64 p_6,.int .i64 p_7]],[.ints false .i8 p_2]=>retC (decide (p_2n=p_2.length)) (rI ⟨p_0,p_1,p_2,p_3,p_4,p_5,p_6,p_7⟩) ⟨⟨0,0,[],false,0,0,0,0⟩,0,0⟩ vT xL
 |_,_=>none
theorem Fj(p:Psn){r}(hr:rI p=some r):aK (GGx kCa kDb) PP 102 [.agg [.int .i64 p.f,.int .i64 p.r,.sl 0 0 p.zs.length none,Bb p.bl,.int .u8 p.ca,.int .i64 p.pa,.int .i64 p.ha,.int .i64 p.fu]] [.ints false .i8 p.zs] (vT r) (xL r):=by
 have hE:=cutE (aA (kCa:=kCa) (kDb:=kDb) (cts:=[(149,oD)]) (inl:=[]) ⟨lg,trivial⟩ trivial)
 refine cE hE 2 Tryz.func102 rfl rfl vT xL hr ?_ rfl rfl
 refine cN (pl (decide_eq_true (aQ rfl)) id) ?_
 refine cH hE 2 (let x20:=List.take p.zs.length (List.drop 0 p.zs);fun(s4:Int)=>([(2,V.ptr 1 0 0),(6,V.ptr 2 0 0)],[O.ints false i8 p.zs,O.cells true [I 0,I 0,V.nils,Bb false,V.int u8 0,I 0,I 0,I 0,U 0,U 0],O.cells true [I p.f,I p.r,V.sl 0 0 p.zs.length none,Bb p.bl,V.int u8 p.ca,I p.pa,I p.ha,I p.fu,U s4,U (band Go.BinOp.or u64 (eO p.f p.r x20).fst (eO p.f p.r x20).snd.1)]])) rfl ?_ ?_ (fun s4=>?_)
 ·exact bK ((Ent.rn [0,2,3] [2,6] rfl rfl rfl rfl rfl))
 ·exact bK ((Ent.rn [0,2,3] [2,6] rfl rfl rfl rfl rfl))
 exact aM (aL [] (.inr rfl) rfl rfl rfl rfl rfl)
theorem oQ:CtOk (GGx kCa kDb) PP (102,qK):=by
 refine aD Tryz.func102 (by kernel_rfl) rfl fun a0 h0 c0 v0 N0 e hc=>?_
 unfold qK at e
 split at e
 ·rename_i p_0 p_1 p_2n p_3 p_4 p_5 p_6 p_7 p_2
  obtain⟨hl,r,hr,rfl,rfl⟩:=bH e hc
  simp only[decide_eq_true_eq]at hl
  obtain rfl:=hl
  exact Fj ⟨p_0,p_1,p_2,p_3,p_4,p_5,p_6,p_7⟩ hr
 ·cases e
def xp(p:Int):Option (Int):=some (imax true p (i8.wrap (0-p)))
def xu(R:Int):V:=.int .i8 R
def vw(_R:Int):List O:=[]
def sg:CF
 |[.int .i8 p_0],[]=>retC true (xp p_0) 0 xu vw
 |_,_=>none
theorem BS(p:Int){r}(hr:xp p=some r):aK (GGx kCa kDb) PP 151 [.int .i8 p] [] (xu r) (vw r):=by
 have hE:=cutE (aA (kCa:=kCa) (kDb:=kDb) (cts:=[]) (inl:=[]) trivial trivial)
 refine cE hE 2 Tryz.func151 rfl rfl xu vw hr ?_ rfl rfl
 exact aM (aL [] (.inr rfl) rfl rfl rfl rfl rfl)
theorem pQ:CtOk (GGx kCa kDb) PP (151,sg):=by
 refine aD Tryz.func151 (by kernel_rfl) rfl fun a0 h0 c0 v0 N0 e hc=>?_
 unfold sg at e
 split at e
 ·rename_i p_0
  obtain⟨hl,r,hr,rfl,rfl⟩:=bH e hc
  exact BS p_0 hr
 ·cases e
def AD(s:Sgt)(at_:Int):Option (Bool):=let x4:=i64.wrap (s.p.f*i64.wrap (s.p.r-1));bif s.p.bl then some (decide (at_<s.p.f))else some (decide (x4<=at_))
def xQ(R:Bool):V:=Bb R
def wc(_R:Bool):List O:=[]
def xm:CF
 |[.agg [.int .i64 s_0,.int .i64 s_1,.sl 0 0 s_2n none,.bool s_3,.int .u8 s_4,.int .i64 s_5,.int .i64 s_6,.int .i64 s_7,.int .u64 s_8,.int .u64 s_9],.int .i64 at__0],[.ints false .i8 s_2]=>retC (decide (s_2n=s_2.length)) (AD ⟨⟨s_0,s_1,s_2,s_3,s_4,s_5,s_6,s_7⟩,s_8,s_9⟩ at__0) false xQ wc
 |_,_=>none
theorem Fm(s:Sgt)(at_:Int){r}(hr:AD s at_=some r):aK (GGx kCa kDb) PP 152 [.agg [.int .i64 s.p.f,.int .i64 s.p.r,.sl 0 0 s.p.zs.length none,Bb s.p.bl,.int .u8 s.p.ca,.int .i64 s.p.pa,.int .i64 s.p.ha,.int .i64 s.p.fu,.int .u64 s.own,.int .u64 s.all],.int .i64 at_] [.ints false .i8 s.p.zs] (xQ r) (wc r):=by
 have hE:=cutE (aA (kCa:=kCa) (kDb:=kDb) (cts:=[]) (inl:=[]) trivial trivial)
 refine cE hE 2 Tryz.func152 rfl rfl xQ wc hr ?_ rfl rfl
 refine aE hE 2 rfl ?_ ?_
 ·exact aM (aL [] (.inr rfl) rfl rfl rfl rfl rfl)
 exact aM (aL [] (.inr rfl) rfl rfl rfl rfl rfl)
theorem zT:CtOk (GGx kCa kDb) PP (152,xm):=by
 refine aD Tryz.func152 (by kernel_rfl) rfl fun a0 h0 c0 v0 N0 e hc=>?_
 unfold xm at e
 split at e
 ·rename_i s_0 s_1 s_2n s_3 s_4 s_5 s_6 s_7 s_8 s_9 at__0 s_2
  obtain⟨hl,r,hr,rfl,rfl⟩:=bH e hc
  simp only[decide_eq_true_eq]at hl
  obtain rfl:=hl
  exact Fm ⟨⟨s_0,s_1,s_2,s_3,s_4,s_5,s_6,s_7⟩,s_8,s_9⟩ at__0 hr
 ·cases e
end
section
variable{kCa kDb:Bool}
def uis(p:Psn)(m:Mov):Option (Bool):=let x4:=!decide (p.zs.getD m.a.toNat 0=0)&&decide (p.zs.getD m.a.toNat 0<0)==p.bl;let x6:=List.take p.zs.length (List.drop 0 p.zs);let x5:=x6.length;be (decide (0<=m.a)&&decide (m.a<Int.ofNat p.zs.length)) (be (!x4||decide (x5<=64)&&(aC p.f p.r x6&&cV p.f p.r x6 p.ca&&aj p.f p.r m.a&&aj p.f p.r m.b)) (some (x4&&soL p.f p.r x6 p.bl p.ca p.pa m.a m.b m.p)))
def Jz(R:Bool):V:=Bb R
def Jv(_R:Bool):List O:=[]
def LJ:CF
 |[.agg [.int .i64 p_0,.int .i64 p_1,.sl 0 0 p_2n none,.bool p_3,.int .u8 p_4,.int .i64 p_5,.int .i64 p_6,.int .i64 p_7],.agg [.int .i64 m_0,.int .i64 m_1,.int .i8 m_2]],[.ints false .i8 p_2]=>retC (decide (p_2n=p_2.length)) (uis ⟨p_0,p_1,p_2,p_3,p_4,p_5,p_6,p_7⟩ ⟨m_0,m_1,m_2⟩) false Jz Jv
 |_,_=>none
theorem Kv(p:Psn)(m:Mov){r}(hr:uis p m=some r):aK (GGx kCa kDb) PP 148 [.agg [.int .i64 p.f,.int .i64 p.r,.sl 0 0 p.zs.length none,Bb p.bl,.int .u8 p.ca,.int .i64 p.pa,.int .i64 p.ha,.int .i64 p.fu],.agg [.int .i64 m.a,.int .i64 m.b,.int .i8 m.p]] [.ints false .i8 p.zs] (Jz r) (Jv r):=by
 have hE:=cutE (aA (kCa:=kCa) (kDb:=kDb) (cts:=[(166,JL)]) (inl:=[]) ⟨Gi,trivial⟩ trivial)
 refine cE hE 2 Tryz.func148 rfl rfl Jz Jv hr ?_ rfl rfl
 refine bP ?_
 refine ak (Bool.not_or_self _) ?_
 refine ak (Bool.not_or_self _) ?_
 refine ak (Bool.not_or_self _) ?_
 refine ak (Bool.not_or_self _) ?_
 refine ak (Bool.not_or_self _) ?_
 refine ak (Bool.not_or_self _) ?_
 refine ak (Bool.not_or_self _) ?_
 refine cN (pi (pb (pl (decide_eq_true (aQ rfl)) id) id)) ?_
 refine ak (Bool.not_or_self _) ?_
 exact aM (aL [] (.inr rfl) rfl rfl rfl rfl rfl)
theorem FW:CtOk (GGx kCa kDb) PP (148,LJ):=by
 refine aD Tryz.func148 (by kernel_rfl) rfl fun a0 h0 c0 v0 N0 e hc=>?_
 unfold LJ at e
 split at e
 ·rename_i p_0 p_1 p_2n p_3 p_4 p_5 p_6 p_7 m_0 m_1 m_2 p_2
  obtain⟨hl,r,hr,rfl,rfl⟩:=bH e hc
  simp only[decide_eq_true_eq]at hl
  obtain rfl:=hl
  exact Kv ⟨p_0,p_1,p_2,p_3,p_4,p_5,p_6,p_7⟩ ⟨m_0,m_1,m_2⟩ hr
 ·cases e
def ec:Psn->Int->List (List Int)×Int->List (List Int)×Int->Option (List (List Int)×Int ⊕ List (List Int) ⊕ List (List Int)×Int ⊕ List (List Int) ⊕ List (List Int)):=fun(p:Psn) (from_:Int) (s23:List (List Int)×Int)=>let x48:=iL [0,2,3,4,5];let x49:=Psn.mk p.f p.r (List.take p.zs.length (List.drop 0 p.zs)) p.bl p.ca p.pa p.ha p.fu;fun(s29:List (List Int)×Int)=>let x51:=(s29.1.length+1)*24;let x54:=x48.getD s29.2.toNat 0;let x52:=mvB p.f p.r from_ s23.2 x54;let x53:=Mov.mk from_ s23.2 x54;bif decide (s29.2<Int.ofNat 5)then be (decide (0<=s29.2)&&decide (s29.2<Int.ofNat 5)) (be (!x52||(uis x49 x53).isSome) (dz (bif x52&&(uis x49 x53).getD false then be (decide (x51<=140737488355328)) (some (Sum.inl (s29.1++List.take 1 (List.drop 0 [iL [from_,s23.2,x54]]))))else some (Sum.inl s29.1)) fun(s31:List (List Int))=>some (Sum.inl (s31,i64.wrap (s29.2+1)))))else some (Sum.inr (Sum.inl s29.1))
def jC:Psn->Int->(Psn->Int->List (List Int)×Int->List (List Int)×Int->Option (List (List Int)×Int ⊕ List (List Int) ⊕ List (List Int)×Int ⊕ List (List Int) ⊕ List (List Int)))->List (List Int)×Int->Option (List (List Int)×Int ⊕ List (List Int) ⊕ List (List Int)):=fun(p:Psn) (from_:Int) (ec:Psn->Int->List (List Int)×Int->List (List Int)×Int->Option (List (List Int)×Int ⊕ List (List Int) ⊕ List (List Int)×Int ⊕ List (List Int) ⊕ List (List Int))) (s23:List (List Int)×Int)=>bif decide (s23.2<Int.ofNat p.zs.length)then cR (ec p from_ s23) (fun(s39:List (List Int))=>some (Sum.inl (s39,i64.wrap (s23.2+1)))) 1000000 (s23.1,0)else some (Sum.inr (Sum.inl s23.1))
def xJ(p:Psn)(from_:Int):Option (List (List Int)):=cR (jC p from_ ec) (fun(s47:List (List Int))=>some s47) 1000000 ([],0)
def xE(R:List (List Int)):V:=.sl 1 0 R.length none
def xB(R:List (List Int)):List O:=[.rows true [.i64,.i64,.i8] R]
def wv:CF
 |[.agg [.int .i64 p_0,.int .i64 p_1,.sl 0 0 p_2n none,.bool p_3,.int .u8 p_4,.int .i64 p_5,.int .i64 p_6,.int .i64 p_7],.int .i64 from__0],[.ints false .i8 p_2]=>retC (decide (p_2n=p_2.length)) (xJ ⟨p_0,p_1,p_2,p_3,p_4,p_5,p_6,p_7⟩ from__0) [] xE xB
 |_,_=>none
theorem Fv(p:Psn)(from_:Int){r}(hr:xJ p from_=some r):aK (GGx kCa kDb) PP 98 [.agg [.int .i64 p.f,.int .i64 p.r,.sl 0 0 p.zs.length none,Bb p.bl,.int .u8 p.ca,.int .i64 p.pa,.int .i64 p.ha,.int .i64 p.fu],.int .i64 from_] [.ints false .i8 p.zs] (xE r) (xB r):=by
 have hE:=cutE (aA (kCa:=kCa) (kDb:=kDb) (cts:=[(147,mX),(148,LJ)]) (inl:=[]) ⟨sU,FW,trivial⟩ trivial)
 refine cE hE 2 Tryz.func98 rfl rfl xE xB hr ?_ rfl rfl
 refine da hE 2 (fun(s23:List (List Int)×Int)=>([(1,I from_),(2,V.ptr 1 0 0),(4,V.nils),(5,V.sl 2 0 s23.1.length none),(6,I s23.2)],[O.ints false i8 p.zs,O.cells true [I p.f,I p.r,V.sl 0 0 p.zs.length none,Bb p.bl,V.int u8 p.ca,I p.pa,I p.ha,I p.fu],O.rows true [i64,i64,i8] s23.1])) (fun(s47:List (List Int))=>([(4,V.nils),(5,V.sl 1 0 s47.length none)],[O.ints false i8 p.zs,O.rows true [i64,i64,i8] s47])) (.exit 0) ((Ent.phT 5 (O.rows true [i64,i64,i8] []) rfl rfl rfl rfl rfl).trans (Ent.rn [0,1,2] [1,2,4,5,6] rfl rfl rfl rfl rfl)) (fun s23=>?_) (fun s47=>?_)
 ·refine aE hE 2 rfl ?_ ?_
  ·refine da hE 2 (fun(s29:List (List Int)×Int)=>([(1,I from_),(2,V.ptr 1 0 0),(4,V.nils),(5,V.sl 2 0 s29.1.length none),(6,I s23.2),(17,V.sl 3 0 5 none),(18,I (Int.ofNat 5)),(19,I s29.2)],[O.ints false i8 p.zs,O.cells true [I p.f,I p.r,V.sl 0 0 p.zs.length none,Bb p.bl,V.int u8 p.ca,I p.pa,I p.ha,I p.fu],O.rows true [i64,i64,i8] s29.1,O.ints true i8 (iL [0,2,3,4,5])])) (fun(s39:List (List Int))=>([(1,I from_),(2,V.ptr 1 0 0),(4,V.nils),(5,V.sl 2 0 s39.length none),(6,I s23.2)],[O.ints false i8 p.zs,O.cells true [I p.f,I p.r,V.sl 0 0 p.zs.length none,Bb p.bl,V.int u8 p.ca,I p.pa,I p.ha,I p.fu],O.rows true [i64,i64,i8] s39])) (.exit 2) ((Ent.rn [0,1,2,3] [1,2,4,5,6,17,18,19] rfl rfl rfl rfl rfl)) (fun s29=>?_) (fun s39=>?_)
   ·refine aE hE 2 rfl ?_ ?_
    ·refine bP ?_
     refine ak rfl ?_
     refine ak (Bool.not_or_self _) ?_
     refine ak (Bool.not_or_self _) ?_
     refine cN (pi (pl (decide_eq_true (aQ rfl)) id)) ?_
     refine ak (Bool.not_or_self _) ?_
     refine cH hE 2 (fun(s31:List (List Int))=>([(1,I from_),(2,V.ptr 1 0 0),(4,V.nils),(5,V.sl 2 0 s31.length none),(6,I s23.2),(17,V.sl 3 0 5 none),(18,I (Int.ofNat 5)),(19,I s29.2)],[O.ints false i8 p.zs,O.cells true [I p.f,I p.r,V.sl 0 0 p.zs.length none,Bb p.bl,V.int u8 p.ca,I p.pa,I p.ha,I p.fu],O.rows true [i64,i64,i8] s31,O.ints true i8 (iL [0,2,3,4,5])])) rfl ?_ ?_ (fun s31=>?_)
     ·refine cN (pr (pl (decide_eq_true rfl) id) rfl) ?_
      exact bK ((Ent.rn [0,1,6,3] [1,2,4,5,6,17,18,19] rfl rfl rfl rfl rfl))
     ·exact bK ((Ent.rn [0,1,2,3] [1,2,4,5,6,17,18,19] rfl rfl rfl rfl rfl))
     exact cX ((Ent.rn [0,1,2,3] [1,2,4,5,6,17,18,19] rfl rfl rfl rfl rfl))
    exact cJ ((Ent.rn [0,1,2] [1,2,4,5,6] rfl rfl rfl rfl rfl))
   exact cX ((Ent.rn [0,1,2] [1,2,4,5,6] rfl rfl rfl rfl rfl))
  exact cJ ((Ent.rn [0,2] [4,5] rfl rfl rfl rfl rfl))
 exact aM (aL [1] (.inr rfl) rfl rfl rfl rfl rfl)
theorem Af:CtOk (GGx kCa kDb) PP (98,wv):=by
 refine aD Tryz.func98 (by kernel_rfl) rfl fun a0 h0 c0 v0 N0 e hc=>?_
 unfold wv at e
 split at e
 ·rename_i p_0 p_1 p_2n p_3 p_4 p_5 p_6 p_7 from__0 p_2
  obtain⟨hl,r,hr,rfl,rfl⟩:=bH e hc
  simp only[decide_eq_true_eq]at hl
  obtain rfl:=hl
  exact Fv ⟨p_0,p_1,p_2,p_3,p_4,p_5,p_6,p_7⟩ from__0 hr
 ·cases e
def va(s:Siz)(a:Int)(b:Int):Option (Int×Int):=let x5:=(aU s.f s.r a).snd.1;let x6:=(aU s.f s.r a).snd.2;let x7:=(aU s.f s.r b).snd.1;let x8:=(aU s.f s.r b).snd.2;bif !decide (x6=0)||!decide (x8=0)then some (0,2)else some (imax true (imax true (imax true (i64.wrap ((aU s.f s.r a).fst-(aU s.f s.r b).fst)) (i64.wrap ((aU s.f s.r b).fst-(aU s.f s.r a).fst))) (i64.wrap (x5-x7))) (i64.wrap (x7-x5)),0)
def wP(R:Int×Int):V:=.tup [.int .i64 R.1,.int .i64 R.2]
def vM(_R:Int×Int):List O:=[]
def xn:CF
 |[.agg [.int .i64 s_0,.int .i64 s_1],.int .i64 a_0,.int .i64 b_0],[]=>retC true (va ⟨s_0,s_1⟩ a_0 b_0) (0,0) wP vM
 |_,_=>none
theorem Du(s:Siz)(a:Int)(b:Int){r}(hr:va s a b=some r):aK (GGx kCa kDb) PP 52 [.agg [.int .i64 s.f,.int .i64 s.r],.int .i64 a,.int .i64 b] [] (wP r) (vM r):=by
 have hE:=cutE (aA (kCa:=kCa) (kDb:=kDb) (cts:=[(97,kA)]) (inl:=[]) ⟨iv,trivial⟩ trivial)
 refine cE hE 2 Tryz.func52 rfl rfl wP vM hr ?_ rfl rfl
 refine ak rfl ?_
 refine ak rfl ?_
 refine ak (Bool.not_or_self _) ?_
 refine ak (Bool.or_not_self _) ?_
 refine aE hE 2 rfl ?_ ?_
 ·exact aM (aL [] (.inr rfl) rfl rfl rfl rfl rfl)
 exact aM (aL [] (.inr rfl) rfl rfl rfl rfl rfl)
theorem Aj:CtOk (GGx kCa kDb) PP (52,xn):=by
 refine aD Tryz.func52 (by kernel_rfl) rfl fun a0 h0 c0 v0 N0 e hc=>?_
 unfold xn at e
 split at e
 ·rename_i s_0 s_1 a_0 b_0
  obtain⟨hl,r,hr,rfl,rfl⟩:=bH e hc
  exact Du ⟨s_0,s_1⟩ a_0 b_0 hr
 ·cases e
def spawn(s:Sgt)(from_:Int):Option (Int):=let x6:=decide (0<=s.p.pa);dz (bif x6 then be x6 (some (Sum.inl (band Go.BinOp.or u64 (band Go.BinOp.andNot u64 s.all s.own) (u64.wrap (1*2^Min.min s.p.pa.toNat u64.bits)))))else some (Sum.inl (band Go.BinOp.andNot u64 s.all s.own))) fun(s5:Int)=>some (band Go.BinOp.or u64 (dc s.p.f s.p.r s.p.bl from_ s.all).fst (band Go.BinOp.and u64 (gr s.p.f s.p.r s.p.bl from_).fst s5))
def vO(R:Int):V:=.int .u64 R
def vG(_R:Int):List O:=[]
def vE:CF
 |[.agg [.int .i64 s_0,.int .i64 s_1,.sl 0 0 s_2n none,.bool s_3,.int .u8 s_4,.int .i64 s_5,.int .i64 s_6,.int .i64 s_7,.int .u64 s_8,.int .u64 s_9],.int .i64 from__0],[.ints false .i8 s_2]=>retC (decide (s_2n=s_2.length)) (spawn ⟨⟨s_0,s_1,s_2,s_3,s_4,s_5,s_6,s_7⟩,s_8,s_9⟩ from__0) 0 vO vG
 |_,_=>none
theorem BB(s:Sgt)(from_:Int){r}(hr:spawn s from_=some r):aK (GGx kCa kDb) PP 170 [.agg [.int .i64 s.p.f,.int .i64 s.p.r,.sl 0 0 s.p.zs.length none,Bb s.p.bl,.int .u8 s.p.ca,.int .i64 s.p.pa,.int .i64 s.p.ha,.int .i64 s.p.fu,.int .u64 s.own,.int .u64 s.all],.int .i64 from_] [.ints false .i8 s.p.zs] (vO r) (vG r):=by
 have hE:=cutE (aA (kCa:=kCa) (kDb:=kDb) (cts:=[(157,su),(153,uO)]) (inl:=[]) ⟨pK,mJ,trivial⟩ trivial)
 refine cE hE 2 Tryz.func170 rfl rfl vO vG hr ?_ rfl rfl
 refine ak rfl ?_
 refine ak rfl ?_
 refine cH hE 2 (fun(s5:Int)=>([(4,U 0),(5,U (dc s.p.f s.p.r s.p.bl from_ s.all).fst),(7,U (gr s.p.f s.p.r s.p.bl from_).fst),(9,U s5)],[O.ints false i8 s.p.zs])) rfl ?_ ?_ (fun s5=>?_)
 ·refine bP ?_
  exact bK ((Ent.rn [0] [4,5,7,9] rfl rfl rfl rfl rfl))
 ·exact bK ((Ent.rn [0] [4,5,7,9] rfl rfl rfl rfl rfl))
 exact aM (aL [] (.inr rfl) rfl rfl rfl rfl rfl)
theorem Ad:CtOk (GGx kCa kDb) PP (170,vE):=by
 refine aD Tryz.func170 (by kernel_rfl) rfl fun a0 h0 c0 v0 N0 e hc=>?_
 unfold vE at e
 split at e
 ·rename_i s_0 s_1 s_2n s_3 s_4 s_5 s_6 s_7 s_8 s_9 from__0 s_2
  obtain⟨hl,r,hr,rfl,rfl⟩:=bH e hc
  simp only[decide_eq_true_eq]at hl
  obtain rfl:=hl
  exact BB ⟨⟨s_0,s_1,s_2,s_3,s_4,s_5,s_6,s_7⟩,s_8,s_9⟩ from__0 hr
 ·cases e
end
section
variable{kCa kDb:Bool}
def Db(s:Sgt)(from_:Int):Option (Int):=let x21:=band Go.BinOp.and u64 (bS s.p.f s.p.r 60 56).fst s.all;let x22:=band Go.BinOp.and u64 (bS s.p.f s.p.r 60 63).fst s.all;let x23:=band Go.BinOp.and u64 (bS s.p.f s.p.r 4 0).fst s.all;let x24:=band Go.BinOp.and u64 (bS s.p.f s.p.r 4 7).fst s.all;let x25:=!decide (from_=60);let x26:=!decide (from_=4);dz (bif decide (band Go.BinOp.and u8 s.p.ca 1=0)||!s.p.bl==false||x26 then some (Sum.inl 0)else dz (bif decide (x24=0)then some (Sum.inl (band Go.BinOp.or u64 0 (u64.wrap (1*2^Min.min (Int.toNat 6) u64.bits))))else some (Sum.inl 0)) fun(s5:Int)=>some (Sum.inl s5)) fun(s7:Int)=>dz (bif decide (band Go.BinOp.and u8 s.p.ca 2=0)||!s.p.bl==false||x26 then some (Sum.inl s7)else dz (bif decide (x23=0)then some (Sum.inl (band Go.BinOp.or u64 s7 (u64.wrap (1*2^Min.min (Int.toNat 2) u64.bits))))else some (Sum.inl s7)) fun(s9:Int)=>some (Sum.inl s9)) fun(s11:Int)=>dz (bif decide (band Go.BinOp.and u8 s.p.ca 4=0)||!s.p.bl==true||x25 then some (Sum.inl s11)else dz (bif decide (x22=0)then some (Sum.inl (band Go.BinOp.or u64 s11 (u64.wrap (1*2^Min.min (Int.toNat 62) u64.bits))))else some (Sum.inl s11)) fun(s13:Int)=>some (Sum.inl s13)) fun(s15:Int)=>dz (bif decide (band Go.BinOp.and u8 s.p.ca 8=0)||!s.p.bl==true||x25 then some (Sum.inl s15)else dz (bif decide (x21=0)then some (Sum.inl (band Go.BinOp.or u64 s15 (u64.wrap (1*2^Min.min (Int.toNat 58) u64.bits))))else some (Sum.inl s15)) fun(s17:Int)=>some (Sum.inl s17)) fun(s19:Int)=>dz (escO (some s19)) fun(_s20:Unit)=>none
def xR(R:Int):V:=.int .u64 R
def vL(_R:Int):List O:=[]
def xz:CF
 |[.agg [.int .i64 s_0,.int .i64 s_1,.sl 0 0 s_2n none,.bool s_3,.int .u8 s_4,.int .i64 s_5,.int .i64 s_6,.int .i64 s_7,.int .u64 s_8,.int .u64 s_9],.int .i64 from__0],[.ints false .i8 s_2]=>retC (decide (s_2n=s_2.length)) (Db ⟨⟨s_0,s_1,s_2,s_3,s_4,s_5,s_6,s_7⟩,s_8,s_9⟩ from__0) 0 xR vL
 |_,_=>none
theorem CM(s:Sgt)(from_:Int){r}(hr:Db s from_=some r):aK (GGx kCa kDb) PP 171 [.agg [.int .i64 s.p.f,.int .i64 s.p.r,.sl 0 0 s.p.zs.length none,Bb s.p.bl,.int .u8 s.p.ca,.int .i64 s.p.pa,.int .i64 s.p.ha,.int .i64 s.p.fu,.int .u64 s.own,.int .u64 s.all],.int .i64 from_] [.ints false .i8 s.p.zs] (xR r) (vL r):=by
 have hE:=cutE (aA (kCa:=kCa) (kDb:=kDb) (cts:=[(155,gv)]) (inl:=[]) ⟨tY,trivial⟩ trivial)
 refine cE hE 2 Tryz.func171 rfl rfl xR vL hr ?_ rfl rfl
 refine EU hE 2 5 ?_
 refine vg (let x120:=[V.int u8 s.p.ca,I s.p.pa,I s.p.ha,I s.p.fu,U s.own,U s.all];let x122:=decide (band Go.BinOp.and u8 s.p.ca 1=0);let x123:=[I 4,I 7,I 6];let x124:=EE kCa kDb [(155,gv)] [];let x125:=i64.wrap (0+1);let x119:=x122||!s.p.bl==false;let x121:=V.int u8 1::V.lit false::x123;let x118:=(13,V.agg [V.int u8 8,V.lit true,I 60,I 56,I 58])::(12,V.agg [V.int u8 4,V.lit true,I 60,I 63,I 62])::(11,V.agg [V.int u8 2,V.lit false,I 4,I 0,I 2])::(10,V.agg x121)::(5,U 0)::(4,U 0)::(2,V.ptr 1 0 0)::bq 0 [V.agg (I s.p.f::I s.p.r::V.sl 0 0 s.p.zs.length none::Bb s.p.bl::x120),I from_];fun(s7:Int)=>([(1,I from_),(2,V.ptr 1 0 0),(4,U 0),(5,U s7),(7,V.ptr 2 0 0),(14,V.sl 3 0 4 none),(15,I (Int.ofNat 4)),(16,I x125),(17,Bb (decide (0<Int.ofNat 4))),(18,V.ptr 3 0 0),(19,V.agg x121),(20,V.ptr 1 0 0),(21,V.ptr 1 0 4),(22,V.int u8 s.p.ca),(23,V.ptr 2 0 0),(24,V.int u8 1),(25,V.int u8 (band Go.BinOp.and u8 s.p.ca 1)),(26,Bb x122),(27,Bb x122),(34,Bb x119),(35,Bb x119),(40,Bb (x119||!decide (from_=4))),(62,I x125)],[O.ints false i8 s.p.zs,O.cells true (I s.p.f::I s.p.r::V.sl 0 0 s.p.zs.length none::Bb s.p.bl::x120),O.cells true (V.int u8 1::Bb false::x123),O.vals true 5 [(evA (let __src:=x124;Env.mk __src.ty __src.G __src.pf __src.inl __src.cc __src.pn true) x118 (Go.Operand.tmp 10)).cells,(evA (let __src:=x124;Env.mk __src.ty __src.G __src.pf __src.inl __src.cc __src.pn true) x118 (Go.Operand.tmp 11)).cells,(evA (let __src:=x124;Env.mk __src.ty __src.G __src.pf __src.inl __src.cc __src.pn true) x118 (Go.Operand.tmp 12)).cells,(evA (let __src:=x124;Env.mk __src.ty __src.G __src.pf __src.inl __src.cc __src.pn true) x118 (Go.Operand.tmp 13)).cells]])) ?_ (fun s7=>?_)
 ·refine zO hE 2 rfl rfl ?_
  refine ak rfl ?_
  refine ak (Bool.not_or_self _) ?_
  refine ak (Bool.not_or_self _) ?_
  refine ak (Bool.not_or_self _) ?_
  refine ak (Bool.not_or_self _) ?_
  refine ak (Bool.not_or_self _) ?_
  refine ak (Bool.or_not_self _) ?_
  refine ak (Bool.not_or_self _) ?_
  refine ak (Bool.not_or_self _) ?_
  refine ak (Bool.not_or_self _) ?_
  refine ak (Bool.or_not_self _) ?_
  refine aE hE 2 rfl ?_ ?_
  ·exact gV ((Ent.rn [0,1,3,2] [1,2,4,5,7,14,15,16,17,18,19,20,21,22,23,24,25,26,27,34,35,40,62] rfl rfl rfl rfl rfl))
  refine ak rfl ?_
  refine cH hE 2 (let x39:=[V.int u8 s.p.ca,I s.p.pa,I s.p.ha,I s.p.fu,U s.own,U s.all];let x41:=decide (band Go.BinOp.and u8 s.p.ca 1=0);let x42:=[I 4,I 7,I 6];let x44:=EE kCa kDb [(155,gv)] [];let x45:=(bS s.p.f s.p.r 4 7).fst;let x46:=(bS s.p.f s.p.r 4 7).snd;let x37:=[U x45,I x46];let x38:=x41||!s.p.bl==false;let x40:=V.int u8 1::V.lit false::x42;let x43:=band Go.BinOp.and u64 x45 s.all;let x36:=(13,V.agg [V.int u8 8,V.lit true,I 60,I 56,I 58])::(12,V.agg [V.int u8 4,V.lit true,I 60,I 63,I 62])::(11,V.agg [V.int u8 2,V.lit false,I 4,I 0,I 2])::(10,V.agg x40)::(5,U 0)::(4,U 0)::(2,V.ptr 1 0 0)::bq 0 [V.agg (I s.p.f::I s.p.r::V.sl 0 0 s.p.zs.length none::Bb s.p.bl::x39),I from_];fun(s5:Int)=>([(1,I from_),(2,V.ptr 1 0 0),(4,U 0),(5,U s5),(7,V.ptr 2 0 0),(8,U x45),(14,V.sl 3 0 4 none),(15,I (Int.ofNat 4)),(16,I 0),(17,Bb (decide (0<Int.ofNat 4))),(18,V.ptr 3 0 0),(19,V.agg x40),(20,V.ptr 1 0 0),(21,V.ptr 1 0 4),(22,V.int u8 s.p.ca),(23,V.ptr 2 0 0),(24,V.int u8 1),(25,V.int u8 (band Go.BinOp.and u8 s.p.ca 1)),(26,Bb x41),(27,Bb x41),(34,Bb x38),(35,Bb x38),(40,Bb (x38||!decide (from_=4))),(41,V.tup x37),(42,V.ptr 1 0 0),(43,V.ptr 1 0 0),(44,V.agg [I s.p.f,I s.p.r]),(45,V.ptr 2 0 2),(46,I 4),(47,V.ptr 2 0 3),(48,I 7),(49,V.tup x37),(50,U x45),(51,I x46),(52,U x45),(53,V.ptr 1 0 9),(54,U s.all),(55,U x43),(56,Bb (decide (x43=0)))],[O.ints false i8 s.p.zs,O.cells true (I s.p.f::I s.p.r::V.sl 0 0 s.p.zs.length none::Bb s.p.bl::x39),O.cells true (V.int u8 1::Bb false::x42),O.vals true 5 [(evA (let __src:=x44;Env.mk __src.ty __src.G __src.pf __src.inl __src.cc __src.pn true) x36 (Go.Operand.tmp 10)).cells,(evA (let __src:=x44;Env.mk __src.ty __src.G __src.pf __src.inl __src.cc __src.pn true) x36 (Go.Operand.tmp 11)).cells,(evA (let __src:=x44;Env.mk __src.ty __src.G __src.pf __src.inl __src.cc __src.pn true) x36 (Go.Operand.tmp 12)).cells,(evA (let __src:=x44;Env.mk __src.ty __src.G __src.pf __src.inl __src.cc __src.pn true) x36 (Go.Operand.tmp 13)).cells]])) rfl ?_ ?_ (fun s5=>?_)
  ·refine ak rfl ?_
   exact bK ((Ent.rn [0,1,3,2] [1,2,4,5,7,8,14,15,16,17,18,19,20,21,22,23,24,25,26,27,34,35,40,41,42,43,44,45,46,47,48,49,50,51,52,53,54,55,56] rfl rfl rfl rfl rfl))
  ·exact bK ((Ent.rn [0,1,3,2] [1,2,4,5,7,8,14,15,16,17,18,19,20,21,22,23,24,25,26,27,34,35,40,41,42,43,44,45,46,47,48,49,50,51,52,53,54,55,56] rfl rfl rfl rfl rfl))
  exact gV ((Ent.rn [0,1,2,3] [1,2,4,5,7,14,15,16,17,18,19,20,21,22,23,24,25,26,27,34,35,40,62] rfl rfl rfl rfl rfl))
 refine vg (let x110:=[V.int u8 s.p.ca,I s.p.pa,I s.p.ha,I s.p.fu,U s.own,U s.all];let x112:=decide (band Go.BinOp.and u8 s.p.ca 2=0);let x114:=[I 4,I 0,I 2];let x115:=EE kCa kDb [(155,gv)] [];let x116:=i64.wrap (0+1);let x109:=x112||!s.p.bl==false;let x111:=V.int u8 2::V.lit false::x114;let x113:=i64.wrap (x116+1);let x108:=(13,V.agg [V.int u8 8,V.lit true,I 60,I 56,I 58])::(12,V.agg [V.int u8 4,V.lit true,I 60,I 63,I 62])::(11,V.agg x111)::(10,V.agg [V.int u8 1,V.lit false,I 4,I 7,I 6])::(5,U 0)::(4,U 0)::(2,V.ptr 1 0 0)::bq 0 [V.agg (I s.p.f::I s.p.r::V.sl 0 0 s.p.zs.length none::Bb s.p.bl::x110),I from_];fun(s11:Int)=>([(1,I from_),(2,V.ptr 1 0 0),(4,U 0),(5,U s11),(7,V.ptr 2 0 0),(14,V.sl 3 0 4 none),(15,I (Int.ofNat 4)),(16,I x113),(17,Bb (decide (x116<Int.ofNat 4))),(18,V.ptr 3 1 0),(19,V.agg x111),(20,V.ptr 1 0 0),(21,V.ptr 1 0 4),(22,V.int u8 s.p.ca),(23,V.ptr 2 0 0),(24,V.int u8 2),(25,V.int u8 (band Go.BinOp.and u8 s.p.ca 2)),(26,Bb x112),(27,Bb x112),(34,Bb x109),(35,Bb x109),(40,Bb (x109||!decide (from_=4))),(62,I x113)],[O.ints false i8 s.p.zs,O.cells true (I s.p.f::I s.p.r::V.sl 0 0 s.p.zs.length none::Bb s.p.bl::x110),O.cells true (V.int u8 2::Bb false::x114),O.vals true 5 [(evA (let __src:=x115;Env.mk __src.ty __src.G __src.pf __src.inl __src.cc __src.pn true) x108 (Go.Operand.tmp 10)).cells,(evA (let __src:=x115;Env.mk __src.ty __src.G __src.pf __src.inl __src.cc __src.pn true) x108 (Go.Operand.tmp 11)).cells,(evA (let __src:=x115;Env.mk __src.ty __src.G __src.pf __src.inl __src.cc __src.pn true) x108 (Go.Operand.tmp 12)).cells,(evA (let __src:=x115;Env.mk __src.ty __src.G __src.pf __src.inl __src.cc __src.pn true) x108 (Go.Operand.tmp 13)).cells]])) ?_ (fun s11=>?_)
 ·refine zO hE 2 rfl rfl ?_
  refine ak rfl ?_
  refine ak (Bool.not_or_self _) ?_
  refine ak (Bool.not_or_self _) ?_
  refine ak (Bool.not_or_self _) ?_
  refine ak (Bool.not_or_self _) ?_
  refine ak (Bool.not_or_self _) ?_
  refine ak (Bool.or_not_self _) ?_
  refine ak (Bool.not_or_self _) ?_
  refine ak (Bool.not_or_self _) ?_
  refine ak (Bool.not_or_self _) ?_
  refine ak (Bool.or_not_self _) ?_
  refine aE hE 2 rfl ?_ ?_
  ·exact gV ((Ent.rn [0,1,4,3] [1,2,4,5,7,14,15,16,17,18,19,20,21,22,23,24,25,26,27,34,35,40,62] rfl rfl rfl rfl rfl))
  refine ak rfl ?_
  refine cH hE 2 (let x51:=[V.int u8 s.p.ca,I s.p.pa,I s.p.ha,I s.p.fu,U s.own,U s.all];let x53:=decide (band Go.BinOp.and u8 s.p.ca 2=0);let x54:=[I 4,I 0,I 2];let x56:=EE kCa kDb [(155,gv)] [];let x57:=(bS s.p.f s.p.r 4 0).fst;let x58:=(bS s.p.f s.p.r 4 0).snd;let x59:=i64.wrap (0+1);let x49:=[U x57,I x58];let x50:=x53||!s.p.bl==false;let x52:=V.int u8 2::V.lit false::x54;let x55:=band Go.BinOp.and u64 x57 s.all;let x48:=(13,V.agg [V.int u8 8,V.lit true,I 60,I 56,I 58])::(12,V.agg [V.int u8 4,V.lit true,I 60,I 63,I 62])::(11,V.agg x52)::(10,V.agg [V.int u8 1,V.lit false,I 4,I 7,I 6])::(5,U 0)::(4,U 0)::(2,V.ptr 1 0 0)::bq 0 [V.agg (I s.p.f::I s.p.r::V.sl 0 0 s.p.zs.length none::Bb s.p.bl::x51),I from_];fun(s9:Int)=>([(1,I from_),(2,V.ptr 1 0 0),(4,U 0),(5,U s9),(7,V.ptr 2 0 0),(8,U x57),(14,V.sl 3 0 4 none),(15,I (Int.ofNat 4)),(16,I x59),(17,Bb (decide (x59<Int.ofNat 4))),(18,V.ptr 3 1 0),(19,V.agg x52),(20,V.ptr 1 0 0),(21,V.ptr 1 0 4),(22,V.int u8 s.p.ca),(23,V.ptr 2 0 0),(24,V.int u8 2),(25,V.int u8 (band Go.BinOp.and u8 s.p.ca 2)),(26,Bb x53),(27,Bb x53),(34,Bb x50),(35,Bb x50),(40,Bb (x50||!decide (from_=4))),(41,V.tup x49),(42,V.ptr 1 0 0),(43,V.ptr 1 0 0),(44,V.agg [I s.p.f,I s.p.r]),(45,V.ptr 2 0 2),(46,I 4),(47,V.ptr 2 0 3),(48,I 0),(49,V.tup x49),(50,U x57),(51,I x58),(52,U x57),(53,V.ptr 1 0 9),(54,U s.all),(55,U x55),(56,Bb (decide (x55=0))),(62,I x59)],[O.ints false i8 s.p.zs,O.cells true (I s.p.f::I s.p.r::V.sl 0 0 s.p.zs.length none::Bb s.p.bl::x51),O.cells true (V.int u8 2::Bb false::x54),O.vals true 5 [(evA (let __src:=x56;Env.mk __src.ty __src.G __src.pf __src.inl __src.cc __src.pn true) x48 (Go.Operand.tmp 10)).cells,(evA (let __src:=x56;Env.mk __src.ty __src.G __src.pf __src.inl __src.cc __src.pn true) x48 (Go.Operand.tmp 11)).cells,(evA (let __src:=x56;Env.mk __src.ty __src.G __src.pf __src.inl __src.cc __src.pn true) x48 (Go.Operand.tmp 12)).cells,(evA (let __src:=x56;Env.mk __src.ty __src.G __src.pf __src.inl __src.cc __src.pn true) x48 (Go.Operand.tmp 13)).cells]])) rfl ?_ ?_ (fun s9=>?_)
  ·refine ak rfl ?_
   exact bK ((Ent.rn [0,1,4,3] [1,2,4,5,7,8,14,15,16,17,18,19,20,21,22,23,24,25,26,27,34,35,40,41,42,43,44,45,46,47,48,49,50,51,52,53,54,55,56,62] rfl rfl rfl rfl rfl))
  ·exact bK ((Ent.rn [0,1,4,3] [1,2,4,5,7,8,14,15,16,17,18,19,20,21,22,23,24,25,26,27,34,35,40,41,42,43,44,45,46,47,48,49,50,51,52,53,54,55,56,62] rfl rfl rfl rfl rfl))
  exact gV ((Ent.rn [0,1,2,3] [1,2,4,5,7,14,15,16,17,18,19,20,21,22,23,24,25,26,27,34,35,40,62] rfl rfl rfl rfl rfl))
 refine vg (let x101:=[V.int u8 s.p.ca,I s.p.pa,I s.p.ha,I s.p.fu,U s.own,U s.all];let x103:=decide (band Go.BinOp.and u8 s.p.ca 4=0);let x104:=i64.wrap (i64.wrap (0+1)+1);let x105:=[I 60,I 63,I 62];let x106:=EE kCa kDb [(155,gv)] [];let x99:=x103||!s.p.bl==true;let x100:=i64.wrap (x104+1);let x102:=V.int u8 4::V.lit true::x105;let x98:=(13,V.agg [V.int u8 8,V.lit true,I 60,I 56,I 58])::(12,V.agg x102)::(11,V.agg [V.int u8 2,V.lit false,I 4,I 0,I 2])::(10,V.agg [V.int u8 1,V.lit false,I 4,I 7,I 6])::(5,U 0)::(4,U 0)::(2,V.ptr 1 0 0)::bq 0 [V.agg (I s.p.f::I s.p.r::V.sl 0 0 s.p.zs.length none::Bb s.p.bl::x101),I from_];fun(s15:Int)=>([(1,I from_),(2,V.ptr 1 0 0),(4,U 0),(5,U s15),(7,V.ptr 2 0 0),(14,V.sl 3 0 4 none),(15,I (Int.ofNat 4)),(16,I x100),(17,Bb (decide (x104<Int.ofNat 4))),(18,V.ptr 3 2 0),(19,V.agg x102),(20,V.ptr 1 0 0),(21,V.ptr 1 0 4),(22,V.int u8 s.p.ca),(23,V.ptr 2 0 0),(24,V.int u8 4),(25,V.int u8 (band Go.BinOp.and u8 s.p.ca 4)),(26,Bb x103),(27,Bb x103),(34,Bb x99),(35,Bb x99),(40,Bb (x99||!decide (from_=60))),(62,I x100)],[O.ints false i8 s.p.zs,O.cells true (I s.p.f::I s.p.r::V.sl 0 0 s.p.zs.length none::Bb s.p.bl::x101),O.cells true (V.int u8 4::Bb true::x105),O.vals true 5 [(evA (let __src:=x106;Env.mk __src.ty __src.G __src.pf __src.inl __src.cc __src.pn true) x98 (Go.Operand.tmp 10)).cells,(evA (let __src:=x106;Env.mk __src.ty __src.G __src.pf __src.inl __src.cc __src.pn true) x98 (Go.Operand.tmp 11)).cells,(evA (let __src:=x106;Env.mk __src.ty __src.G __src.pf __src.inl __src.cc __src.pn true) x98 (Go.Operand.tmp 12)).cells,(evA (let __src:=x106;Env.mk __src.ty __src.G __src.pf __src.inl __src.cc __src.pn true) x98 (Go.Operand.tmp 13)).cells]])) ?_ (fun s15=>?_)
 ·refine zO hE 2 rfl rfl ?_
  refine ak rfl ?_
  refine ak (Bool.not_or_self _) ?_
  refine ak (Bool.not_or_self _) ?_
  refine ak (Bool.not_or_self _) ?_
  refine ak (Bool.not_or_self _) ?_
  refine ak (Bool.not_or_self _) ?_
  refine ak (Bool.or_not_self _) ?_
  refine ak (Bool.not_or_self _) ?_
  refine ak (Bool.not_or_self _) ?_
  refine ak (Bool.not_or_self _) ?_
  refine ak (Bool.or_not_self _) ?_
  refine aE hE 2 rfl ?_ ?_
  ·exact gV ((Ent.rn [0,1,4,3] [1,2,4,5,7,14,15,16,17,18,19,20,21,22,23,24,25,26,27,34,35,40,62] rfl rfl rfl rfl rfl))
  refine ak rfl ?_
  refine cH hE 2 (let x64:=[V.int u8 s.p.ca,I s.p.pa,I s.p.ha,I s.p.fu,U s.own,U s.all];let x66:=decide (band Go.BinOp.and u8 s.p.ca 4=0);let x67:=i64.wrap (i64.wrap (0+1)+1);let x68:=[I 60,I 63,I 62];let x70:=EE kCa kDb [(155,gv)] [];let x71:=(bS s.p.f s.p.r 60 63).snd;let x72:=(bS s.p.f s.p.r 60 63).fst;let x62:=[U x72,I x71];let x63:=x66||!s.p.bl==true;let x65:=V.int u8 4::V.lit true::x68;let x69:=band Go.BinOp.and u64 x72 s.all;let x61:=(13,V.agg [V.int u8 8,V.lit true,I 60,I 56,I 58])::(12,V.agg x65)::(11,V.agg [V.int u8 2,V.lit false,I 4,I 0,I 2])::(10,V.agg [V.int u8 1,V.lit false,I 4,I 7,I 6])::(5,U 0)::(4,U 0)::(2,V.ptr 1 0 0)::bq 0 [V.agg (I s.p.f::I s.p.r::V.sl 0 0 s.p.zs.length none::Bb s.p.bl::x64),I from_];fun(s13:Int)=>([(1,I from_),(2,V.ptr 1 0 0),(4,U 0),(5,U s13),(7,V.ptr 2 0 0),(8,U x72),(14,V.sl 3 0 4 none),(15,I (Int.ofNat 4)),(16,I x67),(17,Bb (decide (x67<Int.ofNat 4))),(18,V.ptr 3 2 0),(19,V.agg x65),(20,V.ptr 1 0 0),(21,V.ptr 1 0 4),(22,V.int u8 s.p.ca),(23,V.ptr 2 0 0),(24,V.int u8 4),(25,V.int u8 (band Go.BinOp.and u8 s.p.ca 4)),(26,Bb x66),(27,Bb x66),(34,Bb x63),(35,Bb x63),(40,Bb (x63||!decide (from_=60))),(41,V.tup x62),(42,V.ptr 1 0 0),(43,V.ptr 1 0 0),(44,V.agg [I s.p.f,I s.p.r]),(45,V.ptr 2 0 2),(46,I 60),(47,V.ptr 2 0 3),(48,I 63),(49,V.tup x62),(50,U x72),(51,I x71),(52,U x72),(53,V.ptr 1 0 9),(54,U s.all),(55,U x69),(56,Bb (decide (x69=0))),(62,I x67)],[O.ints false i8 s.p.zs,O.cells true (I s.p.f::I s.p.r::V.sl 0 0 s.p.zs.length none::Bb s.p.bl::x64),O.cells true (V.int u8 4::Bb true::x68),O.vals true 5 [(evA (let __src:=x70;Env.mk __src.ty __src.G __src.pf __src.inl __src.cc __src.pn true) x61 (Go.Operand.tmp 10)).cells,(evA (let __src:=x70;Env.mk __src.ty __src.G __src.pf __src.inl __src.cc __src.pn true) x61 (Go.Operand.tmp 11)).cells,(evA (let __src:=x70;Env.mk __src.ty __src.G __src.pf __src.inl __src.cc __src.pn true) x61 (Go.Operand.tmp 12)).cells,(evA (let __src:=x70;Env.mk __src.ty __src.G __src.pf __src.inl __src.cc __src.pn true) x61 (Go.Operand.tmp 13)).cells]])) rfl ?_ ?_ (fun s13=>?_)
  ·refine ak rfl ?_
   exact bK ((Ent.rn [0,1,4,3] [1,2,4,5,7,8,14,15,16,17,18,19,20,21,22,23,24,25,26,27,34,35,40,41,42,43,44,45,46,47,48,49,50,51,52,53,54,55,56,62] rfl rfl rfl rfl rfl))
  ·exact bK ((Ent.rn [0,1,4,3] [1,2,4,5,7,8,14,15,16,17,18,19,20,21,22,23,24,25,26,27,34,35,40,41,42,43,44,45,46,47,48,49,50,51,52,53,54,55,56,62] rfl rfl rfl rfl rfl))
  exact gV ((Ent.rn [0,1,2,3] [1,2,4,5,7,14,15,16,17,18,19,20,21,22,23,24,25,26,27,34,35,40,62] rfl rfl rfl rfl rfl))
 refine vg (let x91:=i64.wrap (i64.wrap (i64.wrap (0+1)+1)+1);let x92:=[V.int u8 s.p.ca,I s.p.pa,I s.p.ha,I s.p.fu,U s.own,U s.all];let x94:=decide (band Go.BinOp.and u8 s.p.ca 8=0);let x95:=[I 60,I 56,I 58];let x96:=EE kCa kDb [(155,gv)] [];let x89:=i64.wrap (x91+1);let x90:=x94||!s.p.bl==true;let x93:=V.int u8 8::V.lit true::x95;let x88:=(13,V.agg x93)::(12,V.agg [V.int u8 4,V.lit true,I 60,I 63,I 62])::(11,V.agg [V.int u8 2,V.lit false,I 4,I 0,I 2])::(10,V.agg [V.int u8 1,V.lit false,I 4,I 7,I 6])::(5,U 0)::(4,U 0)::(2,V.ptr 1 0 0)::bq 0 [V.agg (I s.p.f::I s.p.r::V.sl 0 0 s.p.zs.length none::Bb s.p.bl::x92),I from_];fun(s19:Int)=>([(1,I from_),(2,V.ptr 1 0 0),(4,U 0),(5,U s19),(7,V.ptr 2 0 0),(14,V.sl 3 0 4 none),(15,I (Int.ofNat 4)),(16,I x89),(17,Bb (decide (x91<Int.ofNat 4))),(18,V.ptr 3 3 0),(19,V.agg x93),(20,V.ptr 1 0 0),(21,V.ptr 1 0 4),(22,V.int u8 s.p.ca),(23,V.ptr 2 0 0),(24,V.int u8 8),(25,V.int u8 (band Go.BinOp.and u8 s.p.ca 8)),(26,Bb x94),(27,Bb x94),(34,Bb x90),(35,Bb x90),(40,Bb (x90||!decide (from_=60))),(62,I x89)],[O.ints false i8 s.p.zs,O.cells true (I s.p.f::I s.p.r::V.sl 0 0 s.p.zs.length none::Bb s.p.bl::x92),O.cells true (V.int u8 8::Bb true::x95),O.vals true 5 [(evA (let __src:=x96;Env.mk __src.ty __src.G __src.pf __src.inl __src.cc __src.pn true) x88 (Go.Operand.tmp 10)).cells,(evA (let __src:=x96;Env.mk __src.ty __src.G __src.pf __src.inl __src.cc __src.pn true) x88 (Go.Operand.tmp 11)).cells,(evA (let __src:=x96;Env.mk __src.ty __src.G __src.pf __src.inl __src.cc __src.pn true) x88 (Go.Operand.tmp 12)).cells,(evA (let __src:=x96;Env.mk __src.ty __src.G __src.pf __src.inl __src.cc __src.pn true) x88 (Go.Operand.tmp 13)).cells]])) ?_ (fun s19=>?_)
 ·refine zO hE 2 rfl rfl ?_
  refine ak rfl ?_
  refine ak (Bool.not_or_self _) ?_
  refine ak (Bool.not_or_self _) ?_
  refine ak (Bool.not_or_self _) ?_
  refine ak (Bool.not_or_self _) ?_
  refine ak (Bool.not_or_self _) ?_
  refine ak (Bool.or_not_self _) ?_
  refine ak (Bool.not_or_self _) ?_
  refine ak (Bool.not_or_self _) ?_
  refine ak (Bool.not_or_self _) ?_
  refine ak (Bool.or_not_self _) ?_
  refine aE hE 2 rfl ?_ ?_
  ·exact gV ((Ent.rn [0,1,4,3] [1,2,4,5,7,14,15,16,17,18,19,20,21,22,23,24,25,26,27,34,35,40,62] rfl rfl rfl rfl rfl))
  refine ak rfl ?_
  refine cH hE 2 (let x77:=i64.wrap (i64.wrap (i64.wrap (0+1)+1)+1);let x78:=[V.int u8 s.p.ca,I s.p.pa,I s.p.ha,I s.p.fu,U s.own,U s.all];let x80:=decide (band Go.BinOp.and u8 s.p.ca 8=0);let x81:=[I 60,I 56,I 58];let x83:=EE kCa kDb [(155,gv)] [];let x84:=(bS s.p.f s.p.r 60 56).fst;let x85:=(bS s.p.f s.p.r 60 56).snd;let x75:=[U x84,I x85];let x76:=x80||!s.p.bl==true;let x79:=V.int u8 8::V.lit true::x81;let x82:=band Go.BinOp.and u64 x84 s.all;let x74:=(13,V.agg x79)::(12,V.agg [V.int u8 4,V.lit true,I 60,I 63,I 62])::(11,V.agg [V.int u8 2,V.lit false,I 4,I 0,I 2])::(10,V.agg [V.int u8 1,V.lit false,I 4,I 7,I 6])::(5,U 0)::(4,U 0)::(2,V.ptr 1 0 0)::bq 0 [V.agg (I s.p.f::I s.p.r::V.sl 0 0 s.p.zs.length none::Bb s.p.bl::x78),I from_];fun(s17:Int)=>([(1,I from_),(2,V.ptr 1 0 0),(4,U 0),(5,U s17),(7,V.ptr 2 0 0),(8,U x84),(14,V.sl 3 0 4 none),(15,I (Int.ofNat 4)),(16,I x77),(17,Bb (decide (x77<Int.ofNat 4))),(18,V.ptr 3 3 0),(19,V.agg x79),(20,V.ptr 1 0 0),(21,V.ptr 1 0 4),(22,V.int u8 s.p.ca),(23,V.ptr 2 0 0),(24,V.int u8 8),(25,V.int u8 (band Go.BinOp.and u8 s.p.ca 8)),(26,Bb x80),(27,Bb x80),(34,Bb x76),(35,Bb x76),(40,Bb (x76||!decide (from_=60))),(41,V.tup x75),(42,V.ptr 1 0 0),(43,V.ptr 1 0 0),(44,V.agg [I s.p.f,I s.p.r]),(45,V.ptr 2 0 2),(46,I 60),(47,V.ptr 2 0 3),(48,I 56),(49,V.tup x75),(50,U x84),(51,I x85),(52,U x84),(53,V.ptr 1 0 9),(54,U s.all),(55,U x82),(56,Bb (decide (x82=0))),(62,I x77)],[O.ints false i8 s.p.zs,O.cells true (I s.p.f::I s.p.r::V.sl 0 0 s.p.zs.length none::Bb s.p.bl::x78),O.cells true (V.int u8 8::Bb true::x81),O.vals true 5 [(evA (let __src:=x83;Env.mk __src.ty __src.G __src.pf __src.inl __src.cc __src.pn true) x74 (Go.Operand.tmp 10)).cells,(evA (let __src:=x83;Env.mk __src.ty __src.G __src.pf __src.inl __src.cc __src.pn true) x74 (Go.Operand.tmp 11)).cells,(evA (let __src:=x83;Env.mk __src.ty __src.G __src.pf __src.inl __src.cc __src.pn true) x74 (Go.Operand.tmp 12)).cells,(evA (let __src:=x83;Env.mk __src.ty __src.G __src.pf __src.inl __src.cc __src.pn true) x74 (Go.Operand.tmp 13)).cells]])) rfl ?_ ?_ (fun s17=>?_)
  ·refine ak rfl ?_
   exact bK ((Ent.rn [0,1,4,3] [1,2,4,5,7,8,14,15,16,17,18,19,20,21,22,23,24,25,26,27,34,35,40,41,42,43,44,45,46,47,48,49,50,51,52,53,54,55,56,62] rfl rfl rfl rfl rfl))
  ·exact bK ((Ent.rn [0,1,4,3] [1,2,4,5,7,8,14,15,16,17,18,19,20,21,22,23,24,25,26,27,34,35,40,41,42,43,44,45,46,47,48,49,50,51,52,53,54,55,56,62] rfl rfl rfl rfl rfl))
  exact gV ((Ent.rn [0,1,2,3] [1,2,4,5,7,14,15,16,17,18,19,20,21,22,23,24,25,26,27,34,35,40,62] rfl rfl rfl rfl rfl))
 refine vg (fun(s:Unit)=>([],[])) ?_ LA
 refine NW hE 2 rfl rfl ?_
 refine KF (by simp) ?_
 exact aM (aL [] (.inr rfl) rfl rfl rfl rfl rfl)
theorem zZ:CtOk (GGx kCa kDb) PP (171,xz):=by
 refine aD Tryz.func171 (by kernel_rfl) rfl fun a0 h0 c0 v0 N0 e hc=>?_
 unfold xz at e
 split at e
 ·rename_i s_0 s_1 s_2n s_3 s_4 s_5 s_6 s_7 s_8 s_9 from__0 s_2
  obtain⟨hl,r,hr,rfl,rfl⟩:=bH e hc
  simp only[decide_eq_true_eq]at hl
  obtain rfl:=hl
  exact CM ⟨⟨s_0,s_1,s_2,s_3,s_4,s_5,s_6,s_7⟩,s_8,s_9⟩ from__0 hr
 ·cases e
def dX(s:Sgt)(from_:Int):Option (Int):=let x10:=Sgt.mk (Psn.mk s.p.f s.p.r (List.take s.p.zs.length (List.drop 0 s.p.zs)) s.p.bl s.p.ca s.p.pa s.p.ha s.p.fu) s.own s.all;let x12:=(xp (s.p.zs.getD from_.toNat 0)).getD 0;let x11:=(cn s.p.f s.p.r x12 from_ s.all).fst;be (decide (0<=from_)&&decide (from_<Int.ofNat s.p.zs.length)) (cm (xp (s.p.zs.getD from_.toNat 0)) Inhabited.default fun(_y4:Int)=>bif decide (x12=1)then cm (spawn x10 from_) 0 fun(y6:Int)=>some y6 else dz (bif decide (x12=6)then cm (Db x10 from_) 0 fun(y7:Int)=>some (Sum.inl (band Go.BinOp.or u64 x11 y7))else some (Sum.inl x11)) fun(s9:Int)=>some (band Go.BinOp.andNot u64 s9 s.own))
def ko(R:Int):V:=.int .u64 R
def kH(_R:Int):List O:=[]
def kJ:CF
 |[.agg [.int .i64 s_0,.int .i64 s_1,.sl 0 0 s_2n none,.bool s_3,.int .u8 s_4,.int .i64 s_5,.int .i64 s_6,.int .i64 s_7,.int .u64 s_8,.int .u64 s_9],.int .i64 from__0],[.ints false .i8 s_2]=>retC (decide (s_2n=s_2.length)) (dX ⟨⟨s_0,s_1,s_2,s_3,s_4,s_5,s_6,s_7⟩,s_8,s_9⟩ from__0) 0 ko kH
 |_,_=>none
theorem uE(s:Sgt)(from_:Int){r}(hr:dX s from_=some r):aK (GGx kCa kDb) PP 150 [.agg [.int .i64 s.p.f,.int .i64 s.p.r,.sl 0 0 s.p.zs.length none,Bb s.p.bl,.int .u8 s.p.ca,.int .i64 s.p.pa,.int .i64 s.p.ha,.int .i64 s.p.fu,.int .u64 s.own,.int .u64 s.all],.int .i64 from_] [.ints false .i8 s.p.zs] (ko r) (kH r):=by
 have hE:=cutE (aA (kCa:=kCa) (kDb:=kDb) (cts:=[(151,sg),(154,nf),(170,vE),(171,xz)]) (inl:=[]) ⟨pQ,kg,Ad,zZ,trivial⟩ trivial)
 refine cE hE 2 Tryz.func150 rfl rfl ko kH hr ?_ rfl rfl
 refine bP ?_
 refine aP (pl rfl id) ?_
 refine aE hE 2 rfl ?_ ?_
 ·refine aP (pl (decide_eq_true (aQ rfl)) id) ?_
  exact aM (aL [] (.inr rfl) rfl rfl rfl rfl rfl)
 refine ak rfl ?_
 refine cH hE 2 (fun(s9:Int)=>([(2,V.ptr 1 0 0),(4,U 0),(6,U s9)],[O.ints false i8 s.p.zs,O.cells true [I s.p.f,I s.p.r,V.sl 0 0 s.p.zs.length none,Bb s.p.bl,V.int u8 s.p.ca,I s.p.pa,I s.p.ha,I s.p.fu,U s.own,U s.all]])) rfl ?_ ?_ (fun s9=>?_)
 ·refine aP (pl (decide_eq_true (aQ rfl)) id) ?_
  exact bK ((Ent.rn [0,1] [2,4,6] rfl rfl rfl rfl rfl))
 ·exact bK ((Ent.rn [0,1] [2,4,6] rfl rfl rfl rfl rfl))
 exact aM (aL [] (.inr rfl) rfl rfl rfl rfl rfl)
theorem sn:CtOk (GGx kCa kDb) PP (150,kJ):=by
 refine aD Tryz.func150 (by kernel_rfl) rfl fun a0 h0 c0 v0 N0 e hc=>?_
 unfold kJ at e
 split at e
 ·rename_i s_0 s_1 s_2n s_3 s_4 s_5 s_6 s_7 s_8 s_9 from__0 s_2
  obtain⟨hl,r,hr,rfl,rfl⟩:=bH e hc
  simp only[decide_eq_true_eq]at hl
  obtain rfl:=hl
  exact uE ⟨⟨s_0,s_1,s_2,s_3,s_4,s_5,s_6,s_7⟩,s_8,s_9⟩ from__0 hr
 ·cases e
def tz(x:Int):Option (Int):=let x2:=(u64.wrap (band Go.BinOp.and u64 x (u64.wrap (0-x))*285870213051353865)).fdiv (2^Min.min (Int.toNat 58) u64.bits);bif decide (x=0)then some 64 else be (decide (0<=x2)&&decide (x2<Int.ofNat 64)) (some (i64.wrap (AJ.getD x2.toNat 0)))
def tz_V(R:Int):V:=.int .i64 R
def tz_N(_R:Int):List O:=[]
def c_tz:CF
 |[.int .u64 x_0],[]=>retC true (tz x_0) 0 tz_V tz_N
 |_,_=>none
theorem My(x:Int){r}(hr:tz x=some r):aK (GGx kCa true) PP 96 [.int .u64 x] [] (tz_V r) (tz_N r):=by
 have hE:=cutE (aA (kCa:=kCa) (kDb:=true) (cts:=[]) (inl:=[]) trivial trivial)
 refine cE hE 2 Tryz.func96 rfl rfl tz_V tz_N hr ?_ rfl rfl
 refine aE hE 2 rfl ?_ ?_
 ·exact aM (aL [] (.inr rfl) rfl rfl rfl rfl rfl)
 refine ak rfl ?_
 refine bP ?_
 exact aM (aL [] (.inr rfl) rfl rfl rfl rfl rfl)
theorem JS:CtOk (GGx kCa true) PP (96,c_tz):=by
 refine aD Tryz.func96 (by kernel_rfl) rfl fun a0 h0 c0 v0 N0 e hc=>?_
 unfold c_tz at e
 split at e
 ·rename_i x_0
  obtain⟨hl,r,hr,rfl,rfl⟩:=bH e hc
  exact My x_0 hr
 ·cases e
end
section
variable{kCa:Bool}
def tzf(x:Int):Int:=(tz x).getD 0
def eT(x:Int):Int:=uand x (u64.wrap (x-1))
theorem e58:(2:Int)^Min.min (Int.toNat 58) u64.bits=288230376151711744:=by decide
theorem w0(y:Int):0<=u64.wrap y/\u64.wrap y<18446744073709551616:=by
 rw[jd]
 exact⟨Int.emod_nonneg _ (by decide),Int.emod_lt_of_pos _ (by decide)⟩
theorem d58(z:Int)(h2:0<=z/\z<18446744073709551616):(decide (0<=z.fdiv 288230376151711744)&&decide (z.fdiv 288230376151711744<Int.ofNat 64))=true:=by
 have h3:z.fdiv 288230376151711744=z/288230376151711744:=Int.fdiv_eq_ediv_of_nonneg _ (by decide)
 rw[h3]
 have h4:decide (0<=z/288230376151711744)=true:=by simp;omega
 have h5:decide (z/288230376151711744<Int.ofNat 64)=true:=by
  rw[decide_eq_true_eq];show z/288230376151711744<64;omega
 rw[h4,h5];rfl
theorem Jw(x:Int):(tz x).isSome=true:=by
 unfold tz
 cases decide (x=0)
 ·rw[cond_false,e58,d58 _ (w0 _)];rfl
 ·rfl
def iG:Nat->Int->List Int
 |0,_=>[]
 |k+1,s=>bif decide (s=0) then[]else tzf s::iG k (eT s)
def jy(s:Int):List Int:=iG 66 s
theorem sV(x:Int):Uk (eT x):=tE _ _
theorem Jl(n:Nat)(h:n≠0):∃ t k,n=2^t*(2*k+1):=by
 induction n using Nat.strongRecOn with
 |_ n ih=>
  by_cases ho:n%2=1
  ·exact⟨0,n/2,by omega⟩
  ·obtain⟨t,k,e⟩:=ih (n/2) (by omega) (by omega)
   exact⟨t+1,k,by rw[Nat.pow_succ,Nat.mul_assoc,Nat.mul_comm 2,<-Nat.mul_assoc,<-e];omega⟩
theorem qz(t k j:Nat):(2^t*(2*k+1)).testBit j=(decide (t<=j)&&(decide (j=t)||k.testBit (j-t-1))):=by
 rw[Nat.testBit_two_pow_mul]
 by_cases h:t<=j
 ·by_cases e:j=t
  ·subst e;simp
  ·obtain⟨i,rfl⟩:∃ i,j=t+1+i:=⟨j-t-1,by omega⟩
   have e1:t+1+i-t=i+1:=by omega
   have e2:t+1+i-t-1=i:=by omega
   rw[e1]
   have e3:(2*k+1).testBit (i+1)=k.testBit i:=by rw[Nat.testBit_succ];congr 1;omega
   simp only[e3,decide_eq_true h,decide_eq_false e,Bool.true_and,Bool.false_or,Nat.add_sub_cancel]
 ·simp[h]
theorem zh(t k j:Nat):(2^t*(2*k+1)-1).testBit j=(decide (j<t)||(!decide (j=t)&&k.testBit (j-t-1))):=by
 have hp:0<2^t:=Nat.two_pow_pos t
 have e:2^t*(2*k+1)-1=2^t*(2*k)+(2^t-1):=by rw[Nat.mul_add];omega
 rw[e,Nat.testBit_two_pow_mul_add _ (by omega)]
 by_cases h:j<t
 ·rw[if_pos h,Nat.testBit_two_pow_sub_one];simp[h]
 ·rw[if_neg h]
  by_cases e2:j=t
  ·subst e2;simp
  ·obtain⟨i,rfl⟩:∃ i,j=t+1+i:=⟨j-t-1,by omega⟩
   have e1:t+1+i-t=i+1:=by omega
   have e4:t+1+i-t-1=i:=by omega
   rw[e1,Nat.testBit_succ,show 2*k/2=k by omega]
   simp only[decide_eq_false h,decide_eq_false e2,Bool.false_or,Bool.not_false,Bool.true_and,Nat.add_sub_cancel]
theorem Lo{x:Int}(hu:Uk x)(h0:x≠0):∃ t k:Nat,t<64/\x.toNat=2^t*(2*k+1):=by
 obtain⟨t,k,e⟩:=Jl x.toNat (by have:=hu.1;omega)
 refine⟨t,k,?_,e⟩
 refine Decidable.byContradiction fun h=>?_
 have h1:2^64<=2^t:=Nat.pow_le_pow_right (by decide) (by omega)
 have h2:2^t<=x.toNat:=by rw[e];exact Nat.le_mul_of_pos_right _ (by omega)
 have:=hu.2
 omega
theorem MV{t:Nat}(ht:t<64):Uk ((2^t:Nat):Int):=by
 have:(2:Nat)^t<2^64:=Nat.pow_lt_pow_right (by decide) ht
 exact⟨Int.natCast_nonneg _,by omega⟩
theorem LB{x:Int}(hu:Uk x){t k:Nat}(ht:t<64)(e:x.toNat=2^t*(2*k+1)):uand x (u64.wrap (0-x))=((2^t:Nat):Int):=by
 have hw:Uk (u64.wrap (0-x)):=w0 _
 have hp:0<2^t:=Nat.two_pow_pos t
 have hpos:0<x.toNat:=by rw[e];exact Nat.mul_pos hp (by omega)
 have hn:(u64.wrap (0-x)).toNat=2^64-(x.toNat-1+1):=by
  rw[jd]
  have h1:=hu.1
  have h2:=hu.2
  have:(0-x)%18446744073709551616=18446744073709551616-x:=by omega
  rw[this];omega
 refine tH (tE _ _) (MV ht) fun j hj=>?_
 rw[pq hu hw]
 unfold bt
 rw[hn,Nat.testBit_two_pow_sub_succ (by have:=hu.2;omega),e,qz,zh,Int.toNat_natCast,Nat.testBit_two_pow]
 by_cases h1:j<t
 ·rw[decide_eq_true h1,decide_eq_false (show ¬ t<=j by omega),decide_eq_false (show ¬ t=j by omega)];rfl
 ·by_cases h2:j=t
  ·rw[decide_eq_false h1,decide_eq_true h2,decide_eq_true (show t<=j by omega),decide_eq_true hj,decide_eq_true h2.symm];rfl
  ·rw[decide_eq_false h1,decide_eq_false h2,decide_eq_true (show t<=j by omega),decide_eq_true hj,decide_eq_false (show ¬ t=j by omega)]
   cases k.testBit (j-t-1)<;>rfl
theorem FZ:∀ t:_root_.Fin 64,i64.wrap (AJ.getD ((u64.wrap (((2^t.val:Nat):Int)*285870213051353865)).fdiv 288230376151711744).toNat 0)=((t.val:Nat):Int):=by decide +kernel
theorem Cj(v:Int):(be true (some v)).getD 0=v:=rfl
theorem JY{x:Int}(h:x≠0){z:Int}(hz:band Go.BinOp.and u64 x (u64.wrap (0-x))=z):tzf x=i64.wrap (AJ.getD ((u64.wrap (z*285870213051353865)).fdiv 288230376151711744).toNat 0):=by
 unfold tzf tz
 rw[decide_eq_false h,cond_false,e58,d58 _ (w0 _),Cj,hz]
theorem Kg{x:Int}(hu:Uk x){t k:Nat}(ht:t<64)(e:x.toNat=2^t*(2*k+1)):tzf x=t:=by
 have hp:0<2^t:=Nat.two_pow_pos t
 have hpos:0<x.toNat:=by rw[e];exact Nat.mul_pos hp (by omega)
 exact(JY (by omega) (LB hu ht e)).trans (FZ ⟨t,ht⟩)
theorem wW{x:Int}(hu:Uk x){t k:Nat}(_ht:t<64)(e:x.toNat=2^t*(2*k+1))(j:Nat):bt (eT x) j=(bt x j&&!decide (j=t)):=by
 have hp:0<2^t:=Nat.two_pow_pos t
 have hpos:0<x.toNat:=by rw[e];exact Nat.mul_pos hp (by omega)
 have h1:=hu.1
 have h2:=hu.2
 have hw:u64.wrap (x-1)=x-1:=ue ⟨by omega,by omega⟩
 unfold eT
 rw[hw,pq hu ⟨by omega,by omega⟩]
 unfold bt
 rw[show (x-1).toNat=x.toNat-1 by omega,e,qz,zh]
 by_cases h1:j<t
 ·rw[decide_eq_true h1,decide_eq_false (show ¬ t<=j by omega)];rfl
 ·by_cases h2:j=t
  ·rw[decide_eq_false h1,decide_eq_true h2];simp
  ·rw[decide_eq_false h1,decide_eq_false h2,decide_eq_true (show t<=j by omega)]
   cases k.testBit (j-t-1)<;>rfl
def bitL(x:Int):List Int:=((List.range 64).filter (bt x)).map Int.ofNat
theorem filter_none{α:Type}{p:α->Bool}{l:List α}(h:∀ a∈l,p a=false):l.filter p=[]:=by
 rw[List.filter_eq_nil_iff];exact fun a ha=>by rw[h a ha];decide
theorem ow{x:Int}(hu:Uk x){t k:Nat}(ht:t<64)(e:x.toNat=2^t*(2*k+1)):bitL x=(t:Int)::bitL (eT x):=by
 have hr:List.range 64=List.range' 0 t++t::List.range' (t+1) (63-t):=by
  rw[List.range_eq_range',show 64=t+(1+(63-t)) by omega,<-List.range'_append_1,<-List.range'_append_1]
  simp[Nat.add_comm]
 have hlow:∀ j∈List.range' 0 t,bt x j=false:=by
  intro j hj
  have:=List.mem_range'_1.1 hj
  unfold bt
  rw[e,qz,decide_eq_false (show ¬ t<=j by omega)];rfl
 have ht1:bt x t=true:=by unfold bt;rw[e,qz];simp
 unfold bitL
 rw[hr,List.filter_append,List.filter_append,filter_none hlow,filter_none (p:=bt (eT x)) (l:=List.range' 0 t) (fun j hj=>by rw[wW hu ht e,hlow j hj];rfl),List.filter_cons,List.filter_cons,ht1,wW hu ht e,ht1]
 have h2:(List.range' (t+1) (63-t)).filter (bt (eT x))=(List.range' (t+1) (63-t)).filter (bt x):=by
  refine List.filter_congr fun j hj=>?_
  have:=List.mem_range'_1.1 hj
  rw[wW hu ht e,decide_eq_false (show ¬ j=t by omega)];simp
 rw[h2]
 simp
theorem MK:bitL 0=[]:=by unfold bitL;rw[filter_none fun j _=>bt_0 j];rfl
theorem ry(x:Int):(bitL x).length<=64:=by
 unfold bitL
 rw[List.length_map]
 exact Nat.le_trans (List.length_filter_le _ _) (by simp)
theorem FC:∀ (n:Nat) {x:Int},Uk x->(bitL x).length<n->iG n x=bitL x
 |0,_,_,h=>absurd h (by omega)
 |n+1,x,hu,h=>by
  unfold iG
  by_cases h0:x=0
  ·subst h0;rw[MK];rfl
  ·obtain⟨t,k,ht,e⟩:=Lo hu h0
   have hc:=ow hu ht e
   rw[hc]at h ⊢
   rw[decide_eq_false h0,cond_false,Kg hu ht e,FC n (sV x) (by simpa using h)]
theorem zM{x:Int}(hu:Uk x):jy x=bitL x:=FC 66 hu (by have:=ry x;omega)
theorem qI(s:Int):jZ (GGx kCa true) PP 95 [[U s]] ((jy s).map fun x=>[I x]):=by
 have hE:=aA (kCa:=kCa) (kDb:=true) (cts:=[(96,c_tz)]) (inl:=[]) ⟨JS,trivial⟩ trivial
 refine zq hE Tryz.func95 rfl rfl rfl rfl fun nn l S0 ρc J ok=>?_
 refine YG.seq (YG.seg hE 2 ?_)
 repeat (first|refine ah ?_|refine sat_nd ?_)
 refine ag ?_
 refine YG.block (YG.loop (fun a:Nat×Int=>(some a.1,[(0,.yl 1),(1,.ptr 0 0 0),(3,U a.2)],hp0 [[U s]]))
  (fun a=>a.1<=(jy s).length/\a.1<=65/\(jy s).drop a.1=iG (66-a.1) a.2/\(a.1=0\/(Uk a.2/\(bitL a.2).length+a.1<=65)))
  (fun a=>66-a.1) (0,s) rfl (Ent.ren [0,1] [0,1,3] rfl rfl rfl) ⟨Nat.zero_le _,Nat.zero_le _,rfl,.inl rfl⟩ ?_)
 rintro⟨i,x⟩ ⟨i1,i2,i3,i4⟩
 dsimp only at i1 i2 i3 i4 ⊢
 refine YG.seq (YG.seg hE 2 ?_)
 repeat (first|refine ah ?_|refine sat_nd ?_)
 refine av (fun h1=>ag ?_) (fun h1=>ag ?_)
 ·have h0:x≠0:=by simpa using h1
  have hi:i<=64:=by
   rcases i4 with h|⟨hu,h⟩
   ·omega
   ·obtain⟨t,k,ht,e⟩:=Lo hu h0
    rw[ow hu ht e,List.length_cons]at h
    omega
  have hgo:iG (66-i) x=tzf x::iG (66-(i+1)) (eT x):=by
   rw[show 66-i=(66-(i+1))+1 by omega,iG,decide_eq_false h0,cond_false]
  rw[hgo]at i3
  have hlt:i<(jy s).length:=by
   have:=congrArg List.length i3
   simp only[List.length_drop,List.length_cons]at this
   omega
  have hat:(jy s)[i]?=some (tzf x):=by
   have:=congrArg (fun l:List Int=>l[0]?) i3
   simpa using this
  have hdr:(jy s).drop (i+1)=iG (66-(i+1)) (eT x):=by
   have:=congrArg (List.drop 1) i3
   simpa[List.drop_drop,Nat.add_comm]using this
  refine YG.seq (YG.block (YG.seq (YG.yregAt ok 2 3 rfl rfl rfl ?_)))
  repeat (first|(first|refine ah ?_|refine sat_nd ?_)|refine ae (by simp[Jw]) ?_)
  refine ag ?_
  refine⟨i,[I (tzf x)],[0,1,3],rfl,by simp[hat],rfl,rfl,rfl,rfl,fun b=>?_⟩
  cases b with
  |true=>
   refine ag ?_
   refine YG.seg hE 2 ?_
   refine ag ?_
   refine YG.seg hE 2 ?_
   repeat (first|refine ah ?_|refine sat_nd ?_)
   refine ag ⟨(i+1,eT x),?_,?_,rfl,Ent.ren [0,1] [0,1,3] rfl rfl rfl⟩
   ·dsimp only
    refine⟨hlt,by omega,hdr,.inr ⟨sV x,?_⟩⟩
    rcases i4 with h|⟨hu,h⟩
    ·have:=ry (eT x);omega
    ·obtain⟨t,k,ht,e⟩:=Lo hu h0
     rw[ow hu ht e,List.length_cons]at h
     omega
   ·dsimp only;omega
  |false=>
   refine ag ?_
   refine YG.seg hE 2 ?_
   exact ag ⟨.inr rfl,.inr rfl⟩
 ·have h0:x=0:=by simpa using h1
  rw[h0]at i3
  have hlen:i=(jy s).length:=by
   have:iG (66-i) 0=[]:=by rw[show 66-i=(65-i)+1 by omega];rfl
   rw[this]at i3
   have:=congrArg List.length i3
   simp only[List.length_drop,List.length_nil]at this
   omega
  exact⟨.inl rfl,.inl (by simp[<-hlen])⟩
end
section
variable{kCa kDb:Bool}
def eE:Int->Int->List (List Int)×Int->Option (List (List Int)×Int ⊕ List (List Int) ⊕ List (List Int) ⊕ List (List Int) ⊕ List (List Int)):=fun(at_ e4:Int) (s25:List (List Int)×Int)=>let x39:=(s25.1.length+1)*24;bif decide (s25.2<=5)then be (decide (x39<=140737488355328)) (some (Sum.inl (s25.1++List.take 1 (List.drop 0 [iL [at_,e4,s25.2]]),i8.wrap (s25.2+1))))else some (Sum.inr (Sum.inl s25.1))
def qQ:Sgt->Int->(Int->Int->List (List Int)×Int->Option (List (List Int)×Int ⊕ List (List Int) ⊕ List (List Int) ⊕ List (List Int) ⊕ List (List Int)))->Int->List (List Int)->Option (List (List Int) ⊕ List (List Int) ⊕ List (List Int)):=fun(s:Sgt) (at_:Int) (eE:Int->Int->List (List Int)×Int->Option (List (List Int)×Int ⊕ List (List Int) ⊕ List (List Int) ⊕ List (List Int) ⊕ List (List Int)))=>let x42:=Sgt.mk (Psn.mk s.p.f s.p.r (List.take s.p.zs.length (List.drop 0 s.p.zs)) s.p.bl s.p.ca s.p.pa s.p.ha s.p.fu) s.own s.all;let x43:=(xp (s.p.zs.getD at_.toNat 0)).getD 0;let x41:=!decide (x43=1);fun(e4:Int) (s20:List (List Int))=>let x46:=(s20.length+1)*24;be (decide (0<=at_)&&decide (at_<Int.ofNat s.p.zs.length)) (cm (xp (s.p.zs.getD at_.toNat 0)) Inhabited.default fun(_y21:Int)=>be (!!x41||(AD x42 e4).isSome) (bif x41||!(AD x42 e4).getD false then be (decide (x46<=140737488355328)) (some (Sum.inl (s20++List.take 1 (List.drop 0 [iL [at_,e4,0]]))))else cR (eE at_ e4) (fun(s33:List (List Int))=>some (Sum.inl s33)) 1000000 (s20,2)))
def AQ(s:Sgt)(at_:Int):Option (List (List Int)):=let x50:=band Go.BinOp.and u64 (s.own.fdiv (2^Min.min at_.toNat u64.bits)) 1;be (decide (0<=at_)) (bif decide (x50=0)then some []else cm (dX (Sgt.mk (Psn.mk s.p.f s.p.r (List.take s.p.zs.length (List.drop 0 s.p.zs)) s.p.bl s.p.ca s.p.pa s.p.ha s.p.fu) s.own s.all) at_) 0 fun(y3:Int)=>dN (qQ s at_ eE) (fun(s20:List (List Int))=>some s20) (fun(_s20:List (List Int))=>none) (jy y3) [])
def wG(R:List (List Int)):V:=.sl 1 0 R.length none
def wU(R:List (List Int)):List O:=[.rows true [.i64,.i64,.i8] R]
def sr:CF
 |[.agg [.int .i64 s_0,.int .i64 s_1,.sl 0 0 s_2n none,.bool s_3,.int .u8 s_4,.int .i64 s_5,.int .i64 s_6,.int .i64 s_7,.int .u64 s_8,.int .u64 s_9],.int .i64 at__0],[.ints false .i8 s_2]=>retC (decide (s_2n=s_2.length)) (AQ ⟨⟨s_0,s_1,s_2,s_3,s_4,s_5,s_6,s_7⟩,s_8,s_9⟩ at__0) [] wG wU
 |_,_=>none
theorem DW(s:Sgt)(at_:Int){r}(hr:AQ s at_=some r):aK (GGx kCa true) PP 103 [.agg [.int .i64 s.p.f,.int .i64 s.p.r,.sl 0 0 s.p.zs.length none,Bb s.p.bl,.int .u8 s.p.ca,.int .i64 s.p.pa,.int .i64 s.p.ha,.int .i64 s.p.fu,.int .u64 s.own,.int .u64 s.all],.int .i64 at_] [.ints false .i8 s.p.zs] (wG r) (wU r):=by
 have hE:=cutE (aA (kCa:=kCa) (kDb:=true) (cts:=[(151,sg),(150,kJ),(152,xm)]) (inl:=[(51,Tryz.f51)]) ⟨pQ,sn,zT,trivial⟩ ⟨⟨Tryz.func51,by kernel_rfl⟩,trivial⟩)
 refine cE hE 2 Tryz.func103 rfl rfl wG wU hr ?_ rfl rfl
 refine bP ?_
 refine aE hE 2 rfl ?_ ?_
 ·exact aM (nE 4 (.rows true [.i64,.i64,.i8] []) rfl rfl rfl<|aL [3] (.inr rfl) rfl rfl rfl rfl rfl)
 refine aP (pl (decide_eq_true (aQ rfl)) id) ?_
 refine rA hE 2 5 (fun(s20:List (List Int))=>[O.ints false i8 s.p.zs,O.cells true [I s.p.f,I s.p.r,V.sl 0 0 s.p.zs.length none,Bb s.p.bl,V.int u8 s.p.ca,I s.p.pa,I s.p.ha,I s.p.fu,U s.own,U s.all],O.cells true [I at_],O.cells true [V.sl 5 0 s20.length none],O.cells true [U ((dX (Sgt.mk (Psn.mk s.p.f s.p.r (List.take s.p.zs.length (List.drop 0 s.p.zs)) s.p.bl s.p.ca s.p.pa s.p.ha s.p.fu) s.own s.all) at_).getD 0)],O.rows true [i64,i64,i8] s20]) (fun(s20:List (List Int))=>[O.ints false i8 s.p.zs,O.cells true [I s.p.f,I s.p.r,V.sl 0 0 s.p.zs.length none,Bb s.p.bl,V.int u8 s.p.ca,I s.p.pa,I s.p.ha,I s.p.fu,U s.own,U s.all],O.cells true [I at_],O.cells true [V.sl 5 0 s20.length none],O.cells true [U ((dX (Sgt.mk (Psn.mk s.p.f s.p.r (List.take s.p.zs.length (List.drop 0 s.p.zs)) s.p.bl s.p.ca s.p.pa s.p.ha s.p.fu) s.own s.all) at_).getD 0)],O.rows true [i64,i64,i8] s20]) 0 (jy ((dX (Sgt.mk (Psn.mk s.p.f s.p.r (List.take s.p.zs.length (List.drop 0 s.p.zs)) s.p.bl s.p.ca s.p.pa s.p.ha s.p.fu) s.own s.all) at_).getD 0)) (fun(e4:Int)=>[I e4]) (fun(e4:Int) (s20:List (List Int))=>(6,I e4)::putPs (#[18]:Array Nat).toList [I e4] [(2,V.ptr 1 0 0),(3,V.ptr 2 0 0),(4,V.nils),(5,V.ptr 3 0 0),(17,V.fn 95 [V.ptr 4 0 0])]) [4] [2,3,4,5,17] ((Ent.rn [0,1,2,3,4] [2,3,4,5,17] rfl rfl rfl rfl rfl).trans ((Ent.phC 3 0 (O.rows true [i64,i64,i8] []) rfl rfl rfl rfl rfl).trans (Ent.rn [0,1,2,3,4,5] [2,3,4,5,17] rfl rfl rfl rfl rfl))) (qI _) (fun _=>rfl) (ent Tryz.func95 (by kernel_rfl) rfl) rfl rfl rfl rfl rfl rfl (fun _=>rfl) (fun _=>rfl) (fun _ _=>rfl) (fun e4 s20=>?_) (fun s20=>?_) (fun s20=>ox)
 ·refine bP ?_
  refine aP (pl rfl id) ?_
  refine ak (Bool.not_or_self _) ?_
  refine ak (Bool.not_or_self _) ?_
  refine cN (pi (pl (decide_eq_true (aQ rfl)) id)) ?_
  refine ak (Bool.not_or_self _) ?_
  refine ak (Bool.or_not_self _) ?_
  refine aE hE 2 rfl ?_ ?_
  ·refine cN (pr (pl (decide_eq_true rfl) id) rfl) ?_
   exact mu ((Ent.rn [0,1,2,3,4,7] [] rfl rfl rfl rfl rfl))
  refine da hE 2 (fun(s25:List (List Int)×Int)=>([(3,V.ptr 2 0 0),(5,V.ptr 3 0 0),(6,I e4),(7,V.int i8 s25.2)],[O.ints false i8 s.p.zs,O.cells true [I s.p.f,I s.p.r,V.sl 0 0 s.p.zs.length none,Bb s.p.bl,V.int u8 s.p.ca,I s.p.pa,I s.p.ha,I s.p.fu,U s.own,U s.all],O.cells true [I at_],O.cells true [V.sl 5 0 s25.1.length none],O.cells true [U ((dX (Sgt.mk (Psn.mk s.p.f s.p.r (List.take s.p.zs.length (List.drop 0 s.p.zs)) s.p.bl s.p.ca s.p.pa s.p.ha s.p.fu) s.own s.all) at_).getD 0)],O.rows true [i64,i64,i8] s25.1])) (fun(s33:List (List Int))=>([],[O.ints false i8 s.p.zs,O.cells true [I s.p.f,I s.p.r,V.sl 0 0 s.p.zs.length none,Bb s.p.bl,V.int u8 s.p.ca,I s.p.pa,I s.p.ha,I s.p.fu,U s.own,U s.all],O.cells true [I at_],O.cells true [V.sl 5 0 s33.length none],O.cells true [U ((dX (Sgt.mk (Psn.mk s.p.f s.p.r (List.take s.p.zs.length (List.drop 0 s.p.zs)) s.p.bl s.p.ca s.p.pa s.p.ha s.p.fu) s.own s.all) at_).getD 0)],O.rows true [i64,i64,i8] s33])) (.exit 2) ((Ent.rn [0,1,2,3,4,5] [3,5,6,7] rfl rfl rfl rfl rfl)) (fun s25=>?_) (fun s33=>?_)
  ·refine aE hE 2 rfl ?_ ?_
   ·refine cN (pr (pl (decide_eq_true rfl) id) rfl) ?_
    exact cX ((Ent.rn [0,1,2,3,4,7] [3,5,6,7] rfl rfl rfl rfl rfl))
   exact cJ ((Ent.rn [0,1,2,3,4,5] [] rfl rfl rfl rfl rfl))
  exact mu ((Ent.rn [0,1,2,3,4,5] [] rfl rfl rfl rfl rfl))
 exact aM (aL [5] (.inr rfl) rfl rfl rfl rfl rfl)
theorem pC:CtOk (GGx kCa true) PP (103,sr):=by
 refine aD Tryz.func103 (by kernel_rfl) rfl fun a0 h0 c0 v0 N0 e hc=>?_
 unfold sr at e
 split at e
 ·rename_i s_0 s_1 s_2n s_3 s_4 s_5 s_6 s_7 s_8 s_9 at__0 s_2
  obtain⟨hl,r,hr,rfl,rfl⟩:=bH e hc
  simp only[decide_eq_true_eq]at hl
  obtain rfl:=hl
  exact DW ⟨⟨s_0,s_1,s_2,s_3,s_4,s_5,s_6,s_7⟩,s_8,s_9⟩ at__0 hr
 ·cases e
def Cs:Psn->Sgt->Int->List (List Int)->Option (List (List Int) ⊕ List (List Int) ⊕ List (List Int)×Int):=fun(p:Psn) (y2:Sgt)=>let x13:=(List.take y2.p.zs.length (List.drop 0 p.zs)).length;fun(e3:Int) (s7:List (List Int))=>be (decide (y2.p.zs.length=x13)) (cm (AQ (Sgt.mk (Psn.mk y2.p.f y2.p.r (List.take y2.p.zs.length (List.drop 0 p.zs)) y2.p.bl y2.p.ca y2.p.pa y2.p.ha y2.p.fu) y2.own y2.all) e3) [] fun(y8:List (List Int))=>let x17:=(s7.length+y8.length)*24;be (decide (x17<=140737488355328)&&!Nat.beq 4 (1-hlen ([]++[O.ints false i8 (List.take y2.p.zs.length (List.drop 0 p.zs))])+4+1)) (some (Sum.inl (s7++List.take y8.length (List.drop 0 y8)))))
def pJ(p:Psn):Option (List (List Int)×Int):=let x21:=List.take p.zs.length (List.drop 0 p.zs);let x19:=Psn.mk p.f p.r x21 p.bl p.ca p.pa p.ha p.fu;let x20:=x21.length;be (decide (x20<=64)) (bif !x19.ok then some ([],2)else cm (rI x19) (Sgt.mk (Psn.mk 0 0 [] false 0 0 0 0) 0 0) fun(y2:Sgt)=>dN (Cs p y2) (fun(s7:List (List Int))=>some (s7,0)) (fun(_s7:List (List Int))=>none) (jy y2.own) [])
def qj(R:List (List Int)×Int):V:=.tup [.sl 1 0 R.1.length none,.int .i64 R.2]
def qT(R:List (List Int)×Int):List O:=[.rows true [.i64,.i64,.i8] R.1]
def qW:CF
 |[.agg [.int .i64 p_0,.int .i64 p_1,.sl 0 0 p_2n none,.bool p_3,.int .u8 p_4,.int .i64 p_5,.int .i64 p_6,.int .i64 p_7]],[.ints false .i8 p_2]=>retC (decide (p_2n=p_2.length)) (pJ ⟨p_0,p_1,p_2,p_3,p_4,p_5,p_6,p_7⟩) ([],0) qj qT
 |_,_=>none
theorem AG(p:Psn){r}(hr:pJ p=some r):aK (GGx kCa true) PP 62 [.agg [.int .i64 p.f,.int .i64 p.r,.sl 0 0 p.zs.length none,Bb p.bl,.int .u8 p.ca,.int .i64 p.pa,.int .i64 p.ha,.int .i64 p.fu]] [.ints false .i8 p.zs] (qj r) (qT r):=by
 have hE:=cutE (aA (kCa:=kCa) (kDb:=true) (cts:=[(33,dZ),(102,qK),(103,sr)]) (inl:=[(51,Tryz.f51)]) ⟨cM,oQ,pC,trivial⟩ ⟨⟨Tryz.func51,by kernel_rfl⟩,trivial⟩)
 refine cE hE 2 Tryz.func62 rfl rfl qj qT hr ?_ rfl rfl
 refine cN (pl (decide_eq_true (aQ rfl)) id) ?_
 refine aE hE 2 rfl ?_ ?_
 ·exact aM (nE 2 (.rows true [.i64,.i64,.i8] []) rfl rfl rfl<|aL [2] (.inr rfl) rfl rfl rfl rfl rfl)
 refine aP (pl (decide_eq_true (aQ rfl)) id) ?_
 refine rA hE 2 4 (let x27:=(rI (Psn.mk p.f p.r (List.take p.zs.length (List.drop 0 p.zs)) p.bl p.ca p.pa p.ha p.fu)).getD (Sgt.mk (Psn.mk 0 0 [] false 0 0 0 0) 0 0);let x25:=x27.own;let x26:=x27.p;fun(s7:List (List Int))=>[O.ints false i8 p.zs,O.cells true [I x26.f,I x26.r,V.sl 0 0 x26.zs.length none,Bb x26.bl,V.int u8 x26.ca,I x26.pa,I x26.ha,I x26.fu,U x25,U x27.all],O.cells true [V.sl 4 0 s7.length none],O.cells true [U x25],O.rows true [i64,i64,i8] s7]) (let x31:=(rI (Psn.mk p.f p.r (List.take p.zs.length (List.drop 0 p.zs)) p.bl p.ca p.pa p.ha p.fu)).getD (Sgt.mk (Psn.mk 0 0 [] false 0 0 0 0) 0 0);let x29:=x31.own;let x30:=x31.p;fun(s7:List (List Int))=>[O.ints false i8 p.zs,O.cells true [I x30.f,I x30.r,V.sl 0 0 x30.zs.length none,Bb x30.bl,V.int u8 x30.ca,I x30.pa,I x30.ha,I x30.fu,U x29,U x31.all],O.cells true [V.sl 4 0 s7.length none],O.cells true [U x29],O.rows true [i64,i64,i8] s7]) 0 (jy ((rI (Psn.mk p.f p.r (List.take p.zs.length (List.drop 0 p.zs)) p.bl p.ca p.pa p.ha p.fu)).getD (Sgt.mk (Psn.mk 0 0 [] false 0 0 0 0) 0 0)).own) (fun(e3:Int)=>[I e3]) (fun(e3:Int) (s7:List (List Int))=>(6,I e3)::putPs (#[15]:Array Nat).toList [I e3] [(2,V.nils),(3,I 0),(4,V.ptr 1 0 0),(5,V.ptr 2 0 0),(14,V.fn 95 [V.ptr 3 0 0])]) [3] [2,3,4,5,14] ((Ent.rn [0,2,3,4] [2,3,4,5,14] rfl rfl rfl rfl rfl).trans ((Ent.phC 2 0 (O.rows true [i64,i64,i8] []) rfl rfl rfl rfl rfl).trans (Ent.rn [0,1,2,3,4] [2,3,4,5,14] rfl rfl rfl rfl rfl))) (qI _) (fun _=>rfl) (ent Tryz.func95 (by kernel_rfl) rfl) rfl rfl rfl rfl rfl rfl (fun _=>rfl) (fun _=>rfl) (fun _ _=>rfl) (fun e3 s7=>?_) (fun s7=>?_) (fun s7=>ox)
 ·refine ak rfl ?_
  refine BZ id ?_
  refine cN (pb (pl (decide_eq_true rfl) id) id) ?_
  exact mu ((Ent.rn [0,1,2,3,6] [] rfl rfl rfl rfl rfl))
 exact aM (aL [4] (.inr rfl) rfl rfl rfl rfl rfl)
theorem vK:CtOk (GGx kCa true) PP (62,qW):=by
 refine aD Tryz.func62 (by kernel_rfl) rfl fun a0 h0 c0 v0 N0 e hc=>?_
 unfold qW at e
 split at e
 ·rename_i p_0 p_1 p_2n p_3 p_4 p_5 p_6 p_7 p_2
  obtain⟨hl,r,hr,rfl,rfl⟩:=bH e hc
  simp only[decide_eq_true_eq]at hl
  obtain rfl:=hl
  exact AG ⟨p_0,p_1,p_2,p_3,p_4,p_5,p_6,p_7⟩ hr
 ·cases e
def tu(p:Psn)(at_:Int):Option (List (List Int)×Int):=let x7:=List.take p.zs.length (List.drop 0 p.zs);let x5:=Psn.mk p.f p.r x7 p.bl p.ca p.pa p.ha p.fu;let x6:=x7.length;be (decide (x6<=64)) (bif !x5.ok||!aj p.f p.r at_ then some ([],2)else cm (rI x5) (Sgt.mk (Psn.mk 0 0 [] false 0 0 0 0) 0 0) fun(y3:Sgt)=>let x10:=List.take y3.p.zs.length (List.drop 0 p.zs);let x9:=x10.length;be (decide (y3.p.zs.length=x9)) (cm (AQ (Sgt.mk (Psn.mk y3.p.f y3.p.r x10 y3.p.bl y3.p.ca y3.p.pa y3.p.ha y3.p.fu) y3.own y3.all) at_) [] fun(y4:List (List Int))=>some (y4,0)))
def vC(R:List (List Int)×Int):V:=.tup [.sl 1 0 R.1.length none,.int .i64 R.2]
def xj(R:List (List Int)×Int):List O:=[.rows true [.i64,.i64,.i8] R.1]
def qi:CF
 |[.agg [.int .i64 p_0,.int .i64 p_1,.sl 0 0 p_2n none,.bool p_3,.int .u8 p_4,.int .i64 p_5,.int .i64 p_6,.int .i64 p_7],.int .i64 at__0],[.ints false .i8 p_2]=>retC (decide (p_2n=p_2.length)) (tu ⟨p_0,p_1,p_2,p_3,p_4,p_5,p_6,p_7⟩ at__0) ([],0) vC xj
 |_,_=>none
theorem BL(p:Psn)(at_:Int){r}(hr:tu p at_=some r):aK (GGx kCa true) PP 57 [.agg [.int .i64 p.f,.int .i64 p.r,.sl 0 0 p.zs.length none,Bb p.bl,.int .u8 p.ca,.int .i64 p.pa,.int .i64 p.ha,.int .i64 p.fu],.int .i64 at_] [.ints false .i8 p.zs] (vC r) (xj r):=by
 have hE:=cutE (aA (kCa:=kCa) (kDb:=true) (cts:=[(33,dZ),(102,qK),(103,sr),(101,eK)]) (inl:=[]) ⟨cM,oQ,pC,cS,trivial⟩ trivial)
 refine cE hE 2 Tryz.func57 rfl rfl vC xj hr ?_ rfl rfl
 refine cN (pl (decide_eq_true (aQ rfl)) id) ?_
 refine ak (Bool.not_or_self _) ?_
 refine ak (Bool.not_or_self _) ?_
 refine ak (Bool.not_or_self _) ?_
 refine ak (pg rfl) ?_
 refine ak (Bool.not_or_self _) ?_
 refine ak (Bool.or_not_self _) ?_
 refine aE hE 2 rfl ?_ ?_
 ·exact aM (nE 4 (.rows true [.i64,.i64,.i8] []) rfl rfl rfl<|aL [2] (.inr rfl) rfl rfl rfl rfl rfl)
 refine aP (pl (decide_eq_true (aQ rfl)) id) ?_
 refine BZ id ?_
 exact aM (aL [2] (.inr rfl) rfl rfl rfl rfl rfl)
theorem pR:CtOk (GGx kCa true) PP (57,qi):=by
 refine aD Tryz.func57 (by kernel_rfl) rfl fun a0 h0 c0 v0 N0 e hc=>?_
 unfold qi at e
 split at e
 ·rename_i p_0 p_1 p_2n p_3 p_4 p_5 p_6 p_7 at__0 p_2
  obtain⟨hl,r,hr,rfl,rfl⟩:=bH e hc
  simp only[decide_eq_true_eq]at hl
  obtain rfl:=hl
  exact BL ⟨p_0,p_1,p_2,p_3,p_4,p_5,p_6,p_7⟩ at__0 hr
 ·cases e
end
end Go.Ab
namespace Go.Ab
open Go.Proofs
section
variable{kCa kDb:Bool}
def keeps(p:Psn)(m:Mov):Option (Bool):=let x5:=List.take p.zs.length (List.drop 0 p.zs);let x3:=mkE5 (Psn.mk p.f p.r x5 p.bl p.ca p.pa p.ha p.fu) (Mov.mk m.a m.b m.p);let x4:=x5.length;be (decide (x4<=64)) (some (decide (x3=0)||decide (x3=7)))
def wu(R:Bool):V:=Bb R
def xN(_:Bool):List O:=[]
def qP:CF
 |[.agg [.int .i64 p_0,.int .i64 p_1,.sl 0 0 p_2n none,.bool p_3,.int .u8 p_4,.int .i64 p_5,.int .i64 p_6,.int .i64 p_7],.agg [.int .i64 m_0,.int .i64 m_1,.int .i8 m_2]],[.ints false .i8 p_2]=>retC (decide (p_2n=p_2.length)) (keeps ⟨p_0,p_1,p_2,p_3,p_4,p_5,p_6,p_7⟩ ⟨m_0,m_1,m_2⟩) false wu xN
 |_,_=>none
theorem DP(p:Psn)(m:Mov){r}(hr:keeps p m=some r):aK (GGx true kDb) PP 58 [.agg [.int .i64 p.f,.int .i64 p.r,.sl 0 0 p.zs.length none,Bb p.bl,.int .u8 p.ca,.int .i64 p.pa,.int .i64 p.ha,.int .i64 p.fu],.agg [.int .i64 m.a,.int .i64 m.b,.int .i8 m.p]] [.ints false .i8 p.zs] (wu r) (xN r):=by
 have hE:=cutE (aA (kCa:=true) (kDb:=kDb) (cts:=[(63,ym)]) (inl:=[]) ⟨uh,trivial⟩ trivial)
 refine cE hE 2 Tryz.func58 rfl rfl wu xN hr ?_ rfl rfl
 refine cN (pl (decide_eq_true (aQ rfl)) id) ?_
 refine ak (Bool.not_or_self _) ?_
 refine ak (Bool.or_not_self _) ?_
 exact aM (aL [] (.inr rfl) rfl rfl rfl rfl rfl)
theorem pA:CtOk (GGx true kDb) PP (58,qP):=by
 refine aD Tryz.func58 (by kernel_rfl) rfl fun a0 h0 c0 v0 N0 e hc=>?_
 unfold qP at e
 split at e
 ·rename_i p_0 p_1 p_2n p_3 p_4 p_5 p_6 p_7 m_0 m_1 m_2 p_2
  obtain⟨hl,r,hr,rfl,rfl⟩:=bH e hc
  simp only[decide_eq_true_eq]at hl
  obtain rfl:=hl
  exact DP ⟨p_0,p_1,p_2,p_3,p_4,p_5,p_6,p_7⟩ ⟨m_0,m_1,m_2⟩ hr
 ·cases e
end
end Go.Ab
