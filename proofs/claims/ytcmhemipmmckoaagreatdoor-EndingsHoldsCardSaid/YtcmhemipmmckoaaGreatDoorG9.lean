/- Contracts of the functions that the laws reach, and plain laws of what they compute (text G9); no condition. -/
import Derived.Test.YtcmhemipmmckoaaGreatDoorG8
import Derived.Test.YtcmhemipmmckoaaGreatDoorG4
import Derived.Test.YtcmhemipmmckoaaGreatDoorG6
set_option maxRecDepth 100000
namespace Go.Ab
open Go.Proofs
theorem Gq{p:Int}(h:-6<=p/\p<=6):absP p=p.natAbs:=by
 have hw:w8 (0-p)=-p:=by
  have hb:IntKind.i8.bits=8:=rfl
  have:∀ q:_root_.Fin 13,w8 (0-((q.val:Int)-6))=-((q.val:Int)-6):=by decide +kernel
  have h2:=this ⟨(p+6).toNat,by omega⟩
  simp only at h2
  rwa [show (((p+6).toNat:Int)-6)=p by omega]at h2
 unfold absP
 rw[hw]
 unfold imax
 by_cases h1:p < -p<;>simp[h1]<;>omega
end Go.Ab
namespace Go.Ab
open IntKind
open Go.Proofs
section
variable{kCa kDb:Bool}
theorem Ej{C:Int->Bool}{l:List Int}{j:Nat}(h:j<l.length):(bif C (l.getD j 0) then(l.take j).filter C++[l.getD j 0] else(l.take j).filter C)=(l.take (j+1)).filter C:=by
 have e:l.getD j 0=l[j]:=by simp[List.getD,h]
 rw[e,List.take_succ_eq_append_getElem h,List.filter_append]
 cases hc:C l[j]<;>simp[hc]
def be(p:Int):Int:=bif decide (p<0)then w8 (0-p)else p
def sdI(bl:Bool):Int:=bif bl then -1 else 1
def vU(zs:List Int)(s i:Int):Bool:=decide (sgn (zs.getD i.toNat 0)=s)
def cg(zs:List Int)(s:Int):List Int:=cT (vU zs s) id zs.length
def occL(zs:List Int):Int:=ofL (cg zs 1++cg zs (-1)) 0
def jF(zs:List Int)(p i:Int):Bool:=decide (zs.getD i.toNat 0=p)
def gT(zs:List Int)(p:Int):List Int:=cT (jF zs p) id zs.length
def sD(f r:Int)(zs:List Int)(i to occ:Int):Bool:=bif decide (be (zs.getD i.toNat 0)=1)then hasL to (cT (er f (decide (zs.getD i.toNat 0<0)) i) id (f*r).toNat)else !decide (i=to)&&bG f r (be (zs.getD i.toNat 0)) i to occ
def zU(f r:Int)(zs:List Int)(to occ i:Int):Bool:=sD f r zs i to occ
def attL(f r:Int)(zs:List Int)(to:Int)(bl:Bool):List Int:=(cg zs (sdI bl)).filter (zU f r zs to (occL zs))
def aP(zs:List Int)(bl:Bool):Int:=bif decide (((gT zs (w8 (i64.wrap (6*sdI bl)))).length:Int)=1) then(gT zs (w8 (i64.wrap (6*sdI bl)))).getD 0 0 else -1
theorem gp(zs:List Int)(s:Int):(cg zs s).length<=zs.length:=gz _ _ _
theorem gw{zs:List Int}{s x:Int}:x∈cg zs s↔0<=x/\x<zs.length/\sgn (zs.getD x.toNat 0)=s:=by
 unfold cg
 rw[dK]
 simp[vU]
theorem qN{f r:Int}{zs:List Int}:(vsB f r&&decide ((zs.length:Int)=i64.wrap (f*r))&&zs.all okP)=aH f r zs:=by
 unfold aH cntR
 cases vsB f r
 ·simp
 ·simp[badP,List.any_eq_not_all_not]
theorem ve{f r:Int}{zs:List Int}:(aH f r zs&&zs.all (fun p=>!norP p))=aO f r zs:=by
 unfold aO
 simp[List.any_eq_not_all_not]
def xd:CF
 |[.int .i8 p],[]=>some (true,.bool (okP p),[])
 |_,_=>none
theorem Av:CtOk (GGx kCa kDb) PP (133,xd):=by
 refine aD Tryz.func133 (by kernel_rfl) rfl fun a0 h0 c0 v0 N0 e hc=>?_
 unfold xd at e
 split at e
 ·rename_i p
  cases e
  have hE:=aC (kCa:=kCa) (kDb:=kDb) (cts:=[]) (inl:=[]) trivial trivial
  refine aq hE 2 Tryz.func133 rfl rfl ?_
  repeat' first|(first|refine ah ?_|refine sat_nd ?_)|refine ax (fun h=>?_) (fun h=>?_)
  all_goals exact ae (ai (.inr rfl) rfl rfl rfl (by first|rfl|(simp only[*,cond_true,cond_false];done)|(simp only[*,cond_true,cond_false,Bool.not_true,Bool.not_false,Bool.and_true,Bool.true_and,Bool.and_false,Bool.false_and,Bool.or_true,Bool.true_or,Bool.or_false,Bool.false_or];done)|simp_all []))
 ·cases e
def ri:CF
 |[.int .i8 p],[]=>some (true,.bool (orP p),[])
 |_,_=>none
theorem wT:CtOk (GGx kCa kDb) PP (79,ri):=by
 refine aD Tryz.func79 (by kernel_rfl) rfl fun a0 h0 c0 v0 N0 e hc=>?_
 unfold ri at e
 split at e
 ·rename_i p
  cases e
  have hE:=aC (kCa:=kCa) (kDb:=kDb) (cts:=[]) (inl:=[]) trivial trivial
  refine aq hE 2 Tryz.func79 rfl rfl ?_
  repeat' first|(first|refine ah ?_|refine sat_nd ?_)|refine ax (fun h=>?_) (fun h=>?_)
  all_goals exact ae (ai (.inr rfl) rfl rfl rfl (by first|rfl|(simp only[*,cond_true,cond_false];done)|(simp only[*,cond_true,cond_false,Bool.not_true,Bool.not_false,Bool.and_true,Bool.true_and,Bool.and_false,Bool.false_and,Bool.or_true,Bool.true_or,Bool.or_false,Bool.false_or];done)|simp_all []))
 ·cases e
def qt:CF
 |[.int .i8 p],[]=>some (true,.int .i64 (sgn p),[])
 |_,_=>none
theorem wI:CtOk (GGx kCa kDb) PP (139,qt):=by
 refine aD Tryz.func139 (by kernel_rfl) rfl fun a0 h0 c0 v0 N0 e hc=>?_
 unfold qt at e
 split at e
 ·rename_i p
  cases e
  have hE:=aC (kCa:=kCa) (kDb:=kDb) (cts:=[]) (inl:=[]) trivial trivial
  refine aq hE 2 Tryz.func139 rfl rfl ?_
  repeat' first|(first|refine ah ?_|refine sat_nd ?_)|refine ax (fun h=>?_) (fun h=>?_)
  all_goals exact ae (ai (.inr rfl) rfl rfl rfl (by first|rfl|(simp only[sgn, *,cond_true,cond_false];done)|(simp only[sgn, *,cond_true,cond_false,Bool.not_true,Bool.not_false,Bool.and_true,Bool.true_and,Bool.and_false,Bool.false_and,Bool.or_true,Bool.true_or,Bool.or_false,Bool.false_or];done)|simp_all [sgn]))
 ·cases e
def lO:CF
 |[.int .i8 p],[]=>some (true,.int .i8 (be p),[])
 |_,_=>none
theorem lW:CtOk (GGx kCa kDb) PP (38,lO):=by
 refine aD Tryz.func38 (by kernel_rfl) rfl fun a0 h0 c0 v0 N0 e hc=>?_
 unfold lO at e
 split at e
 ·rename_i p
  cases e
  have hE:=aC (kCa:=kCa) (kDb:=kDb) (cts:=[]) (inl:=[]) trivial trivial
  refine aq hE 2 Tryz.func38 rfl rfl ?_
  repeat' first|(first|refine ah ?_|refine sat_nd ?_)|refine ax (fun h=>?_) (fun h=>?_)
  all_goals exact ae (ai (.inr rfl) rfl rfl rfl (by first|rfl|(simp only[be, *,cond_true,cond_false];done)|(simp only[be, *,cond_true,cond_false,Bool.not_true,Bool.not_false,Bool.and_true,Bool.true_and,Bool.and_false,Bool.false_and,Bool.or_true,Bool.true_or,Bool.or_false,Bool.false_or];done)|simp_all [be]))
 ·cases e
def rj:CF
 |[.bool bl],[]=>some (true,.int .i64 (sdI bl),[])
 |_,_=>none
theorem oD:CtOk (GGx kCa kDb) PP (81,rj):=by
 refine aD Tryz.func81 (by kernel_rfl) rfl fun a0 h0 c0 v0 N0 e hc=>?_
 unfold rj at e
 split at e
 ·rename_i bl
  cases e
  have hE:=aC (kCa:=kCa) (kDb:=kDb) (cts:=[]) (inl:=[]) trivial trivial
  refine aq hE 2 Tryz.func81 rfl rfl ?_
  repeat' first|(first|refine ah ?_|refine sat_nd ?_)|refine ax (fun h=>?_) (fun h=>?_)
  all_goals exact ae (ai (.inr rfl) rfl rfl rfl (by first|rfl|(simp only[sdI, *,cond_true,cond_false];done)|(simp only[sdI, *,cond_true,cond_false,Bool.not_true,Bool.not_false,Bool.and_true,Bool.true_and,Bool.and_false,Bool.false_and,Bool.or_true,Bool.true_or,Bool.or_false,Bool.false_or];done)|simp_all [sdI]))
 ·cases e
def CD:CF
 |[.sl 0 0 len none,.int .i64 n],[.ints false .i64 zs]=>some (decide (len=zs.length)&&decide (zs.length<=1000000),.bool (hasL n zs),[])
 |_,_=>none
theorem Dt:CtOk (GGx kCa kDb) PP (160,CD):=by
 refine aD Tryz.func160 (by kernel_rfl) rfl fun a0 h0 c0 v0 N0 e hc=>?_
 unfold CD at e
 split at e
 ·rename_i len n zs
  cases e
  have hE:=aC (kCa:=kCa) (kDb:=kDb) (cts:=[]) (inl:=[]) trivial trivial
  refine aq hE 2 Tryz.func160 rfl rfl ?_
  simp only[Bool.and_eq_true,decide_eq_true_eq]at hc
  obtain⟨rfl,hc2⟩:=hc
  refine cD hE 2 (fun i (_:Unit)=>([(0,.sl 0 0 zs.length none),(1,I n),(5,I i)],[.ints false .i64 zs])) zs.length (fun j _=>hasL n (zs.drop j)=hasL n zs) () (by omega) (Ent.ren [0] [0,1,5] rfl rfl rfl) rfl ?_
  intro j i _ hij hj hz
  refine ax (fun hlt=>?_) (fun hlt=>?_)
  ·have hlt':j<zs.length:=by simp at hlt;omega
   rw[El hlt',show j=i.toNat by omega]at hz
   refine ag (by simp;omega) ?_
   repeat (first|refine ah ?_|refine sat_nd ?_)
   refine ax (fun hon=>?_) (fun hon=>?_)
   ·have hon:decide (zs.getD i.toNat 0=n)=true:=hon
    rw[hon]at hz
    exact ae (ae (ai (.inr rfl) rfl rfl rfl (by rw[<-hz];rfl)))
   ·have hon:decide (zs.getD i.toNat 0=n)=false:=hon
    rw[hon]at hz
    exact ae ⟨hlt',(),by rw[<-hz,show i.toNat=j by omega];rfl,Ent.ren [0] [0,1,5] rfl rfl rfl⟩
  ·obtain rfl:j=zs.length:=by simp at hlt;omega
   rw[List.drop_length]at hz
   exact ae (ae (ai (.inr rfl) rfl rfl rfl (by rw[<-hz];rfl)))
 ·cases e
def nnP(p:Int):Bool:=!norP p
def mR:CF
 |[.agg [.int .i64 f,.int .i64 r,.sl 0 0 len none]],[.ints false .i8 zs]=>some (decide (len=zs.length)&&decide (zs.length<=64),.bool (aH f r zs),[])
 |_,_=>none
theorem tN:CtOk (GGx kCa kDb) PP (78,mR):=by
 refine aD Tryz.func78 (by kernel_rfl) rfl fun a0 h0 c0 v0 N0 e hc=>?_
 unfold mR at e
 split at e
 ·rename_i f r len zs
  cases e
  have hE:=aC (kCa:=kCa) (kDb:=kDb) (cts:=[(132,xV),(133,xd)]) (inl:=[]) ⟨tF,Av,trivial⟩ trivial
  refine aq hE 2 Tryz.func78 rfl rfl ?_
  simp only[Bool.and_eq_true,decide_eq_true_eq]at hc
  obtain⟨rfl,hc2⟩:=hc
  repeat (first|refine ah ?_|refine sat_nd ?_)
  refine ax (fun h=>?_) (fun h=>?_)
  ·have h:(vsB f r&&decide ((zs.length:Int)=i64.wrap (f*r)))=false:=by
    have h:(!vsB f r||!decide ((zs.length:Int)=i64.wrap (f*r)))=true:=h
    cases h1:vsB f r<;>cases h2:decide ((zs.length:Int)=i64.wrap (f*r))<;>simp_all
   exact ae (ai (.inr rfl) rfl rfl rfl (by rw[<-qN,h];rfl))
  have h:(vsB f r&&decide ((zs.length:Int)=i64.wrap (f*r)))=true:=by
   have h:(!vsB f r||!decide ((zs.length:Int)=i64.wrap (f*r)))=false:=h
   cases h1:vsB f r<;>cases h2:decide ((zs.length:Int)=i64.wrap (f*r))<;>simp_all
  refine cD hE 2 (fun i (_:Unit)=>([(1,.ptr 1 0 0),(3,I i)],[.ints false .i8 zs,.cells true [I f,I r,.sl 0 0 zs.length none]])) zs.length (fun j _=>(zs.drop j).all okP=zs.all okP) () (by omega) (Ent.ren [0,1] [1,3] rfl rfl rfl) rfl ?_
  intro j i _ hij hj hz
  refine ax (fun hlt=>?_) (fun hlt=>?_)
  ·have hlt':j<zs.length:=by simp at hlt;omega
   rw[yR hlt',show j=i.toNat by omega]at hz
   refine ag (by simp;omega) ?_
   repeat (first|(first|refine ah ?_|refine sat_nd ?_)|refine ag (by simp;omega) ?_)
   refine ax (fun hon=>?_) (fun hon=>?_)
   ·have hon:(!okP (zs.getD i.toNat 0))=true:=hon
    have hon:okP (zs.getD i.toNat 0)=false:=by simpa using hon
    rw[hon]at hz
    exact ae (ae (ai (.inr rfl) rfl rfl rfl (by rw[<-qN,h,<-hz];rfl)))
   ·have hon:(!okP (zs.getD i.toNat 0))=false:=hon
    have hon:okP (zs.getD i.toNat 0)=true:=by simpa using hon
    rw[hon]at hz
    exact ae ⟨hlt',(),by rw[<-hz,show i.toNat=j by omega];rfl,Ent.ren [0,1] [1,3] rfl rfl rfl⟩
  ·obtain rfl:j=zs.length:=by simp at hlt;omega
   rw[List.drop_length]at hz
   have hz:zs.all okP=true:=hz.symm
   exact ae (ae (ai (.inr rfl) rfl rfl rfl (by rw[<-qN,h,hz];rfl)))
 ·cases e
def vq:CF
 |[.agg [.int .i64 f,.int .i64 r,.sl 0 0 len none]],[.ints false .i8 zs]=>some (decide (len=zs.length)&&decide (zs.length<=64),.bool (aO f r zs),[])
 |_,_=>none
theorem Aa:CtOk (GGx kCa kDb) PP (35,vq):=by
 refine aD Tryz.func35 (by kernel_rfl) rfl fun a0 h0 c0 v0 N0 e hc=>?_
 unfold vq at e
 split at e
 ·rename_i f r len zs
  cases e
  have hE:=aC (kCa:=kCa) (kDb:=kDb) (cts:=[(78,mR),(79,ri)]) (inl:=[]) ⟨tN,wT,trivial⟩ trivial
  refine aq hE 2 Tryz.func35 rfl rfl ?_
  simp only[Bool.and_eq_true,decide_eq_true_eq]at hc
  obtain⟨rfl,hc2⟩:=hc
  repeat (first|refine ah ?_|refine sat_nd ?_)
  refine ax (fun h=>?_) (fun h=>?_)
  ·have h:aH f r zs=false:=by simpa using h
   exact ae (ai (.inr rfl) rfl rfl rfl (by rw[<-ve,h];rfl))
  have h:aH f r zs=true:=by simpa using h
  refine cD hE 2 (fun i (_:Unit)=>([(1,.ptr 1 0 0),(3,I i)],[.ints false .i8 zs,.cells true [I f,I r,.sl 0 0 zs.length none]])) zs.length (fun j _=>(zs.drop j).all nnP=zs.all nnP) () (by omega) (Ent.ren [0,1] [1,3] rfl rfl rfl) rfl ?_
  intro j i _ hij hj hz
  refine ax (fun hlt=>?_) (fun hlt=>?_)
  ·have hlt':j<zs.length:=by simp at hlt;omega
   rw[yR hlt',show j=i.toNat by omega]at hz
   refine ag (by simp;omega) ?_
   repeat (first|(first|refine ah ?_|refine sat_nd ?_)|refine ag (by simp;omega) ?_)
   refine ax (fun hon=>?_) (fun hon=>?_)
   ·have hon:(!nnP (zs.getD i.toNat 0))=true:=(Bool.not_not _).trans hon
    have hon:nnP (zs.getD i.toNat 0)=false:=by simpa using hon
    rw[hon]at hz
    exact ae (ae (ai (.inr rfl) rfl rfl rfl (by rw[<-ve,h,show zs.all (fun p=>!norP p)=zs.all nnP from rfl,<-hz];rfl)))
   ·have hon:(!nnP (zs.getD i.toNat 0))=false:=(Bool.not_not _).trans hon
    have hon:nnP (zs.getD i.toNat 0)=true:=by simpa using hon
    rw[hon]at hz
    exact ae ⟨hlt',(),by rw[<-hz,show i.toNat=j by omega];rfl,Ent.ren [0,1] [1,3] rfl rfl rfl⟩
  ·obtain rfl:j=zs.length:=by simp at hlt;omega
   rw[List.drop_length]at hz
   have hz:zs.all nnP=true:=hz.symm
   exact ae (ae (ai (.inr rfl) rfl rfl rfl (by rw[<-ve,h,show zs.all (fun p=>!norP p)=zs.all nnP from rfl,hz];rfl)))
 ·cases e
def xE:CF
 |[.agg [.int .i64 _f,.int .i64 _r,.sl 0 0 len none],.int .i64 s],[.ints false .i8 zs]=>some (decide (len=zs.length)&&decide (zs.length<=64),.sl 1 0 (cg zs s).length none,[.ints true .i64 (cg zs s)])
 |_,_=>none
theorem sW:CtOk (GGx kCa kDb) PP (134,xE):=by
 refine aD Tryz.func134 (by kernel_rfl) rfl fun a0 h0 c0 v0 N0 e hc=>?_
 unfold xE at e
 split at e
 ·rename_i f r len s zs
  cases e
  have hE:=aC (kCa:=kCa) (kDb:=kDb) (cts:=[(139,qt)]) (inl:=[]) ⟨wI,trivial⟩ trivial
  refine aq hE 2 Tryz.func134 rfl rfl ?_
  simp only[Bool.and_eq_true,decide_eq_true_eq]at hc
  obtain⟨rfl,hc2⟩:=hc
  refine cD hE 2 (fun(i:Int) (ys:List Int)=>([(1,I s),(2,.ptr 1 0 0),(5,.sl 2 0 ys.length none),(6,I i)],[.ints false .i8 zs,.cells true [I f,I r,.sl 0 0 zs.length none],.ints true .i64 ys])) (zs.length) (fun j ys=>ys=cT (vU zs s) id j) [] (by omega) ((Ent.phanT (t:=5) (o:=.ints true .i64 []) rfl ⟨by simp,by simp,trivial,rfl⟩ (aB rfl)).trans (Ent.ren [0,1,2] [1,2,5,6] rfl rfl rfl)) rfl ?_
  intro j i ys hij hj hz
  have hb:=gz (vU zs s) id j
  rw[<-hz]at hb
  refine ax (fun hlt=>?_) (fun hlt=>?_)
  ·have hlt':j<zs.length:=by simp only[decide_eq_true_eq]at hlt;omega
   have hs:=fJ (vU zs s) id j
   rw[<-hz,<-hij]at hs
   repeat (first|(first|refine ah ?_|refine sat_nd ?_)|refine ag (by simp;omega) ?_)
   refine ax (fun hon=>?_) (fun hon=>?_)
   ·skip
    have hon:vU zs s i=true:=hon
    rw[hon,cond_true]at hs
    refine ag (b:=decide (ys.length=ys.length)&&decide ((ys.length+1)*8<=140737488355328)&&true) (by simp;omega) ?_
    exact ae ⟨hlt',ys++[id i],hs.symm,Ent.ren [0,1,4] [1,2,5,6] rfl rfl rfl⟩
   ·skip
    have hon:vU zs s i=false:=hon
    rw[hon,cond_false]at hs
    exact ae ⟨hlt',ys,hs.symm,Ent.ren [0,1,2] [1,2,5,6] rfl rfl rfl⟩
  ·obtain rfl:j=zs.length:=by simp only[decide_eq_false_iff_not]at hlt;omega
   subst hz
   refine ae (ae ((cP 2 (.inr rfl) rfl rfl rfl rfl rfl rfl)))
 ·cases e
def wB:CF
 |[.agg [.int .i64 _f,.int .i64 _r,.sl 0 0 len none],.int .i8 p],[.ints false .i8 zs]=>some (decide (len=zs.length)&&decide (zs.length<=64),.sl 1 0 (gT zs p).length none,[.ints true .i64 (gT zs p)])
 |_,_=>none
theorem zx:CtOk (GGx kCa kDb) PP (80,wB):=by
 refine aD Tryz.func80 (by kernel_rfl) rfl fun a0 h0 c0 v0 N0 e hc=>?_
 unfold wB at e
 split at e
 ·rename_i f r len p zs
  cases e
  have hE:=aC (kCa:=kCa) (kDb:=kDb) (cts:=[]) (inl:=[]) trivial trivial
  refine aq hE 2 Tryz.func80 rfl rfl ?_
  simp only[Bool.and_eq_true,decide_eq_true_eq]at hc
  obtain⟨rfl,hc2⟩:=hc
  refine cD hE 2 (fun(i:Int) (ys:List Int)=>([(1,.int .i8 p),(2,.ptr 1 0 0),(5,.sl 2 0 ys.length none),(6,I i)],[.ints false .i8 zs,.cells true [I f,I r,.sl 0 0 zs.length none],.ints true .i64 ys])) (zs.length) (fun j ys=>ys=cT (jF zs p) id j) [] (by omega) ((Ent.phanT (t:=5) (o:=.ints true .i64 []) rfl ⟨by simp,by simp,trivial,rfl⟩ (aB rfl)).trans (Ent.ren [0,1,2] [1,2,5,6] rfl rfl rfl)) rfl ?_
  intro j i ys hij hj hz
  have hb:=gz (jF zs p) id j
  rw[<-hz]at hb
  refine ax (fun hlt=>?_) (fun hlt=>?_)
  ·have hlt':j<zs.length:=by simp only[decide_eq_true_eq]at hlt;omega
   have hs:=fJ (jF zs p) id j
   rw[<-hz,<-hij]at hs
   repeat (first|(first|refine ah ?_|refine sat_nd ?_)|refine ag (by simp;omega) ?_)
   refine ax (fun hon=>?_) (fun hon=>?_)
   ·skip
    have hon:jF zs p i=true:=hon
    rw[hon,cond_true]at hs
    refine ag (b:=decide (ys.length=ys.length)&&decide ((ys.length+1)*8<=140737488355328)&&true) (by simp;omega) ?_
    exact ae ⟨hlt',ys++[id i],hs.symm,Ent.ren [0,1,4] [1,2,5,6] rfl rfl rfl⟩
   ·skip
    have hon:jF zs p i=false:=hon
    rw[hon,cond_false]at hs
    exact ae ⟨hlt',ys,hs.symm,Ent.ren [0,1,2] [1,2,5,6] rfl rfl rfl⟩
  ·obtain rfl:j=zs.length:=by simp only[decide_eq_false_iff_not]at hlt;omega
   subst hz
   refine ae (ae ((cP 2 (.inr rfl) rfl rfl rfl rfl rfl rfl)))
 ·cases e
end
end Go.Ab
namespace Go.Ab
open Go.Proofs
section
variable{kCa kDb:Bool}
theorem mV(l:List Int):(tk l).length=l.length:=by rw[aM]
theorem Eo(l m:List Int)(h:l.length<=1000000)(h2:m.length<=1000000)(b:Bool)(hb:b=true):(decide ((tk l).length=(tk l).length)&&decide (((tk l).length+m.length)*8<=140737488355328)&&b)=true:=by rw[mV,hb];simp;omega
theorem Fo(zs:List Int)(h:zs.length<=64){L:List Int}{n:Nat}(hL:L=cg zs 1++cg zs (-1))(hn:n=L.length):(decide (n=((L.drop 0).take n).length)&&decide (((L.drop 0).take n).length<=1000000)&&((L.drop 0).take n).all fun x=>decide (0<=x))=true:=by
 subst hn
 have e:(L.drop 0).take L.length=L:=by simp
 rw[e]
 have h1:=gp zs 1
 have h2:=gp zs (-1)
 have h3:L.length<=1000000:=by rw[hL,List.length_append];omega
 simp only[decide_true,Bool.true_and,Bool.and_eq_true,decide_eq_true_eq,List.all_eq_true]
 refine⟨h3,fun x hx=>?_⟩
 rw[hL]at hx
 rcases List.mem_append.1 hx with hx|hx<;>exact(gw.1 hx).1
def JY:CF
 |[.agg [.int .i64 _f,.int .i64 _r,.sl 0 0 len none]],[.ints false .i8 zs]=>some (decide (len=zs.length)&&decide (zs.length<=64),.int .u64 (occL zs),[])
 |_,_=>none
theorem FQ:CtOk (GGx kCa kDb) PP (135,JY):=by
 refine aD Tryz.func135 (by kernel_rfl) rfl fun a0 h0 c0 v0 N0 e hc=>?_
 unfold JY at e
 split at e
 ·rename_i f r len zs
  cases e
  have hE:=aC (kCa:=kCa) (kDb:=kDb) (cts:=[(134,xE),(22,c_Of)]) (inl:=[]) ⟨sW,Ki,trivial⟩ trivial
  refine aq hE 2 Tryz.func135 rfl rfl ?_
  simp only[Bool.and_eq_true,decide_eq_true_eq]at hc
  obtain⟨rfl,hc2⟩:=hc
  have l1:=gp zs 1
  have l2:=gp zs (-1)
  repeat (first|refine ah ?_|refine sat_nd ?_)
  refine ag (by
   refine Eo (cg (tk zs) 1) (cg (tk zs) (-1)) ?_ ?_ _ rfl<;>simp only[aM]<;>omega) ?_
  refine ag (by
   refine Fo zs hc2 (L:=tk (cg (tk zs) 1)++tk (cg (tk zs) (-1))) ?_ rfl
   simp only[aM]) ?_
  refine ae (ai (.inr rfl) rfl rfl rfl ?_)
  show U (ofL (tk (tk (cg (tk zs) 1)++tk (cg (tk zs) (-1)))) 0)=_
  simp only[aM]
  rfl
 ·cases e
end
section
variable{kCa kDb:Bool}
theorem FE{c:Int->Bool}{n m:Nat}(h:n<=1000000)(hm:m=(cT c id n).length):(decide (m=(((cT c id n).drop 0).take m).length)&&decide ((((cT c id n).drop 0).take m).length<=1000000))=true:=by
 subst hm
 have:=gz c id n
 have e:((cT c id n).drop 0).take (cT c id n).length=cT c id n:=by simp
 rw[e];simp;omega
theorem FH{zs:List Int}{s:Int}{i:Nat}(h:i<(cg (tk zs) s).length):0<=(cg (tk zs) s).getD i 0/\(cg (tk zs) s).getD i 0<zs.length:=by
 rw[aM]at h ⊢
 have hm:(cg zs s).getD i 0∈cg zs s:=by simp[List.getD,h]
 have:=gw.1 hm
 exact⟨this.1,this.2.1⟩
def nJ:CF
 |[.agg [.int .i64 f,.int .i64 r,.sl 0 0 len none],.int .i64 i,.int .i64 to,.int .u64 occ],[.ints false .i8 zs]=>some (decide (len=zs.length)&&decide (zs.length<=64)&&decide (0<=i)&&decide (i<zs.length)&&vsB f r,.bool (sD f r zs i to occ),[])
 |_,_=>none
theorem uL:CtOk (GGx kCa kDb) PP (136,nJ):=by
 refine aD Tryz.func136 (by kernel_rfl) rfl fun a0 h0 c0 v0 N0 e hc=>?_
 unfold nJ at e
 split at e
 ·rename_i f r len i to occ zs
  cases e
  have hE:=aC (kCa:=kCa) (kDb:=kDb) (cts:=[(38,lO),(161,mg),(160,CD),(162,mT)]) (inl:=[]) ⟨lW,uy,Dt,tJ,trivial⟩ trivial
  refine aq hE 2 Tryz.func136 rfl rfl ?_
  simp only[Bool.and_eq_true,decide_eq_true_eq]at hc
  obtain⟨⟨⟨⟨rfl,hc2⟩,hi1⟩,hi2⟩,hv⟩:=hc
  have hf:=dB hv
  have hm:=gA hv
  have hf0:(!decide (f=0))=true:=by simp;omega
  repeat (first|(first|refine ah ?_|refine sat_nd ?_)|refine ag (by simp;omega) ?_)
  refine ax (fun h=>?_) (fun h=>?_)
  ·have h:decide (be (zs.getD i.toNat 0)=1)=true:=h
   refine ag hv ?_
   repeat (first|refine ah ?_|refine sat_nd ?_)
   refine ag (FE (by omega) rfl) ?_
   refine ae (ai (.inr rfl) rfl rfl rfl ?_)
   show V.bool (hasL to (tk (cT (er f (decide (zs.getD i.toNat 0<0)) i) id (f*r).toNat)))=_
   rw[aM,sD,h];rfl
  ·have h:decide (be (zs.getD i.toNat 0)=1)=false:=h
   repeat (first|(first|refine ah ?_|refine sat_nd ?_)|refine ag (by rw[hf0];exact Bool.or_true _) ?_)
   exact ae (ai (.inr rfl) rfl rfl rfl (by rw[sD,h];rfl))
 ·cases e
def fc:CF
 |[.agg [.int .i64 f,.int .i64 r,.sl 0 0 len none],.int .i64 to,.bool bl],[.ints false .i8 zs]=>some (decide (len=zs.length)&&decide (zs.length<=64)&&vsB f r,.sl 1 0 (attL f r zs to bl).length none,[.ints true .i64 (attL f r zs to bl)])
 |_,_=>none
theorem jK:CtOk (GGx kCa kDb) PP (82,fc):=by
 refine aD Tryz.func82 (by kernel_rfl) rfl fun a0 h0 c0 v0 N0 e hc=>?_
 unfold fc at e
 split at e
 ·rename_i f r len to bl zs
  cases e
  have hE:=aC (kCa:=kCa) (kDb:=kDb) (cts:=[(81,rj),(134,xE),(135,JY),(136,nJ)]) (inl:=[]) ⟨oD,sW,FQ,uL,trivial⟩ trivial
  refine aq hE 2 Tryz.func82 rfl rfl ?_
  simp only[Bool.and_eq_true,decide_eq_true_eq]at hc
  obtain⟨⟨rfl,hc2⟩,hv⟩:=hc
  have hsl:(cg (tk zs) (sdI bl)).length<=zs.length:=by rw[aM];exact gp zs (sdI bl)
  repeat (first|refine ah ?_|refine sat_nd ?_)
  refine cD hE 2 (fun(i:Int) (ys:List Int)=>([(1,I to),(3,.ptr 1 0 0),(7,.sl 3 0 ys.length none),(8,.sl 2 0 (cg (tk zs) (sdI bl)).length none),(9,U (occL (tk zs))),(10,I i)],[.ints false .i8 zs,.cells true [I f,I r,.sl 0 0 zs.length none],.ints true .i64 (cg (tk zs) (sdI bl)),.ints true .i64 ys])) (cg (tk zs) (sdI bl)).length (fun j ys=>ys=((cg (tk zs) (sdI bl)).take j).filter (zU f r (tk zs) to (occL (tk zs)))) [] (by omega) ((Ent.phanT (t:=7) (o:=.ints true .i64 []) rfl ⟨by simp,by simp,trivial,rfl⟩ (aB rfl)).trans (Ent.ren [0,1,2,3] [1,3,7,8,9,10] rfl rfl rfl)) rfl ?_
  intro j i ys hij hj hz
  have hb:ys.length<=j:=by rw[hz];exact Nat.le_trans (List.length_filter_le _ _) (by rw[List.length_take];omega)
  refine ax (fun hlt=>?_) (fun hlt=>?_)
  ·have hlt':j<(cg (tk zs) (sdI bl)).length:=by simp only[decide_eq_true_eq]at hlt;omega
   have hs:=Ej (C:=zU f r (tk zs) to (occL (tk zs))) hlt'
   have hgl:=FH (zs:=zs) (s:=sdI bl) (i:=i.toNat) (by omega)
   have hil:(decide (0<=i)&&decide (i<((cg (tk zs) (sdI bl)).length:Int)))=true:=by simp only[Bool.and_eq_true,decide_eq_true_eq];omega
   rw[<-hz,show j=i.toNat by omega]at hs
   repeat (first|(first|refine ah ?_|refine sat_nd ?_)|refine ag hil ?_)
   refine ag (by
    simp only[Bool.and_eq_true,decide_eq_true_eq]
    rw[mV]
    exact⟨⟨⟨⟨by first|rfl|trivial,hc2⟩,hgl.1⟩,hgl.2⟩,hv⟩) ?_
   refine ax (fun hon=>?_) (fun hon=>?_)
   ·skip
    have hon:zU f r (tk zs) to (occL (tk zs)) ((cg (tk zs) (sdI bl)).getD i.toNat 0)=true:=hon
    rw[hon,cond_true]at hs
    refine ag (by simp;omega) ?_
    refine ag (b:=decide (ys.length=ys.length)&&decide ((ys.length+1)*8<=140737488355328)&&true) (by simp;omega) ?_
    exact ae ⟨hlt',ys++[(cg (tk zs) (sdI bl)).getD i.toNat 0],by rw[show j+1=i.toNat+1 by omega];exact hs,Ent.ren [0,1,2,5] [1,3,7,8,9,10] rfl rfl rfl⟩
   ·skip
    have hon:zU f r (tk zs) to (occL (tk zs)) ((cg (tk zs) (sdI bl)).getD i.toNat 0)=false:=hon
    rw[hon,cond_false]at hs
    exact ae ⟨hlt',ys,by rw[show j+1=i.toNat+1 by omega];exact hs,Ent.ren [0,1,2,3] [1,3,7,8,9,10] rfl rfl rfl⟩
  ·obtain rfl:j=(cg (tk zs) (sdI bl)).length:=by simp only[decide_eq_false_iff_not]at hlt;omega
   rw[List.take_length]at hz
   subst hz
   refine ae (ae (cP 3 (.inr rfl) rfl rfl rfl rfl (by simp only[aM];rfl) (by simp only[aM];rfl)))
 ·cases e
end
end Go.Ab
namespace Go.Ab
open IntKind
open Go.Proofs
section
variable{kCa kDb:Bool}
theorem aU{zs:List Int}(h:zs.length<=64){n:Nat}(hn:n=zs.length):(decide (n=(tk zs).length)&&decide ((tk zs).length<=64))=true:=by rw[mV,hn];simp;omega
theorem bh{zs:List Int}(h:zs.length<=64){n:Nat}(hn:n=zs.length){b:Bool}(hb:b=true):(decide (n=(tk zs).length)&&decide ((tk zs).length<=64)&&b)=true:=by rw[mV,hn,hb];simp;omega
def jw:CF
 |[.agg [.int .i64 _f,.int .i64 _r,.sl 0 0 len none],.bool bl],[.ints false .i8 zs]=>some (decide (len=zs.length)&&decide (zs.length<=64),.int .i64 (aP zs bl),[])
 |_,_=>none
theorem kK:CtOk (GGx kCa kDb) PP (36,jw):=by
 refine aD Tryz.func36 (by kernel_rfl) rfl fun a0 h0 c0 v0 N0 e hc=>?_
 unfold jw at e
 split at e
 ·rename_i f r len bl zs
  cases e
  have hE:=aC (kCa:=kCa) (kDb:=kDb) (cts:=[(81,rj),(80,wB)]) (inl:=[]) ⟨oD,zx,trivial⟩ trivial
  refine aq hE 2 Tryz.func36 rfl rfl ?_
  simp only[Bool.and_eq_true,decide_eq_true_eq]at hc
  obtain⟨rfl,hc2⟩:=hc
  repeat (first|refine ah ?_|refine sat_nd ?_)
  refine ax (fun h=>?_) (fun h=>?_)
  ·have h:(!decide (((gT (tk zs) (w8 (i64.wrap (6*sdI bl)))).length:Int)=1))=true:=h
   rw[aM,Bool.not_eq_true']at h
   exact ae (ai (.inr rfl) rfl rfl rfl (by rw[aP,h];rfl))
  ·have h:(!decide (((gT (tk zs) (w8 (i64.wrap (6*sdI bl)))).length:Int)=1))=false:=h
   rw[aM,Bool.not_eq_false']at h
   have hl:((gT (tk zs) (w8 (i64.wrap (6*sdI bl)))).length:Int)=1:=by rw[aM];exact of_decide_eq_true h
   refine ag (by
    show (decide ((0:Int)<=0)&&decide ((0:Int)<((gT (tk zs) (w8 (i64.wrap (6*sdI bl)))).length:Int)))=true
    rw[hl];rfl) ?_
   exact ae (ai (.inr rfl) rfl rfl rfl (by
    show I ((gT (tk zs) (w8 (i64.wrap (6*sdI bl)))).getD 0 0)=_
    rw[aM,aP,h];rfl))
 ·cases e
end
end Go.Ab
set_option maxHeartbeats 4000000
namespace Go.Ab
open IntKind
open Go.Proofs
section
variable{kCa kDb:Bool}
theorem cV{f r n:Int}(h:ak f r n=true):i64.wrap (n.tdiv f)=py f n/\0<=px f n/\px f n<f/\0<=py f n/\py f n<r/\px f n+py f n*f=n/\3<=f/\f<=8/\3<=r/\r<=8:=by
 have:=eP h
 have h2:=zj h
 exact⟨this.2.2.2.2.1,this.1,this.2.1,this.2.2.1,this.2.2.2.1,h2,this.2.2.2.2.2⟩
theorem sL{f r:Int}{zs:List Int}{pa:Int}{bl g1 g2:Bool}(h:aH f r zs=true):(!(g1&&g2&&ak f r pa&&decide (i64.wrap (pa.tdiv f)=rkP r bl))||(decide (0<=pa)&&decide (pa<zs.length)))=true:=by
 cases hv:ak f r pa with
 |false=>simp
 |true=>have:=(cw h).1 hv;simp[this.1,this.2]
theorem iV{f r:Int}{zs:List Int}{pa:Int}{bl:Bool}(h:aH f r zs=true)(hr:6<=r)(hv:ak f r pa=true)(hk:i64.wrap (pa.tdiv f)=rkP r bl):0<=pa-f/\pa+f<zs.length/\i64.wrap (pa-f)=pa-f/\i64.wrap (pa+f)=pa+f/\i64.wrap (0-f)=-f/\i64.wrap (pa - -f)=pa+f/\i64.wrap (pa+-f)=pa-f:=by
 obtain⟨h1,h2,h3,h4,h5,h6,h7⟩:=cV hv
 have hl:=(bL h).2
 rw[h1]at hk
 have hw:i64.wrap (r-3)=r-3:=ay (by omega) (by omega)
 have hpy:1<=py f pa/\py f pa+1<r:=by
  cases bl
  ·simp only[rkP,cond_false,hw]at hk;omega
  ·simp only[rkP,cond_true]at hk;omega
 have a1:1*f<=py f pa*f:=Int.mul_le_mul_of_nonneg_right hpy.1 (by omega)
 have a2:(py f pa+1+1)*f<=r*f:=Int.mul_le_mul_of_nonneg_right (by omega) (by omega)
 rw[Int.add_mul,Int.add_mul,Int.mul_comm r f]at a2
 have hlt:=(aE hv)
 exact⟨by omega,by omega,ay (by omega) (by omega),ay (by omega) (by omega),by rw[Int.zero_sub];exact ay (by omega) (by omega),by rw[Int.sub_neg];exact ay (by omega) (by omega),by rw[<-Int.sub_eq_add_neg];exact ay (by omega) (by omega)⟩
theorem gd{f:Int}{g:Bool}(h:f≠0):(!g||!decide (f=0))=true:=by simp[h]
theorem LK{f r:Int}{zs:List Int}{pa ha:Int}{bl x:Bool}(h:aH f r zs=true):(!(decide (6<=r)&&decide (ha=0)&&ak f r pa&&decide (i64.wrap (pa.tdiv f)=rkP r bl)&&x)||(decide (0<=i64.wrap (pa-upP f bl))&&decide (i64.wrap (pa-upP f bl)<zs.length)))=true:=by
 cases hg:(decide (6<=r)&&decide (ha=0)&&ak f r pa&&decide (i64.wrap (pa.tdiv f)=rkP r bl)) with
 |false=>simp
 |true=>
  simp only[Bool.and_eq_true,decide_eq_true_eq]at hg
  obtain⟨h1,h2,h3,h4,h5,h6,h7⟩:=iV (bl:=bl) h hg.1.1.1 hg.1.2 hg.2
  have hfr:=dB (bL h).1
  cases bl
  ·rw[Bool.or_eq_true];right
   simp only[upP,cond_false,h5,h6,Bool.and_eq_true,decide_eq_true_eq];omega
  ·rw[Bool.or_eq_true];right
   simp only[upP,cond_true,h3,Bool.and_eq_true,decide_eq_true_eq];omega
theorem Lu{f r:Int}{zs:List Int}{pa ha:Int}{bl x y:Bool}(h:aH f r zs=true):(!(decide (6<=r)&&decide (ha=0)&&ak f r pa&&decide (i64.wrap (pa.tdiv f)=rkP r bl)&&x&&y)||(decide (0<=i64.wrap (pa+upP f bl))&&decide (i64.wrap (pa+upP f bl)<zs.length)))=true:=by
 cases hg:(decide (6<=r)&&decide (ha=0)&&ak f r pa&&decide (i64.wrap (pa.tdiv f)=rkP r bl)) with
 |false=>simp
 |true=>
  simp only[Bool.and_eq_true,decide_eq_true_eq]at hg
  obtain⟨h1,h2,h3,h4,h5,h6,h7⟩:=iV (bl:=bl) h hg.1.1.1 hg.1.2 hg.2
  have hfr:=dB (bL h).1
  cases bl
  ·rw[Bool.or_eq_true];right
   simp only[upP,cond_false,h5,h7,Bool.and_eq_true,decide_eq_true_eq];omega
  ·rw[Bool.or_eq_true];right
   simp only[upP,cond_true,h4,Bool.and_eq_true,decide_eq_true_eq];omega
def vu:CF
 |[.sl 0 0 len none],[.ints false .i8 zs]=>some (decide (len=zs.length)&&decide (zs.length<=64),.sl 1 0 zs.length none,[.ints true .i8 zs])
 |_,_=>none
theorem Ak:CtOk (GGx kCa kDb) PP (107,vu):=by
 refine aD Tryz.func107 (by kernel_rfl) rfl fun a0 h0 c0 v0 N0 e hc=>?_
 unfold vu at e
 split at e
 ·rename_i len zs
  cases e
  have hE:=aC (kCa:=kCa) (kDb:=kDb) (cts:=[]) (inl:=[]) trivial trivial
  refine mU hE 2 Tryz.func107 rfl rfl ?_
  simp only[Bool.and_eq_true,decide_eq_true_eq]at hc
  obtain⟨rfl,hc2⟩:=hc
  refine Dw (fun h0=>?_) ?_
  ·refine ax (fun _=>?_) (fun h=>(by cases h))
   have hz:zs=[]:=List.eq_nil_of_length_eq_zero h0
   subst hz
   exact ae (Gb (Ent.phanT (t:=2) (o:=.ints true .i8 []) rfl ⟨by simp,by simp,trivial,rfl⟩ (aB rfl)) (cP 1 (.inr rfl) rfl rfl rfl rfl rfl rfl))
  ·refine ax (fun h=>(by cases h)) (fun _=>?_)
   refine ag (b:=?B) ?_ ?_
   ·show (decide (0=0)&&decide ((0+zs.length)*1<=140737488355328)&&true)=true
    simp;omega
   exact ae (Gb (Ent.refl _ _ _) (cP 2 (.inr rfl) rfl rfl rfl rfl (by show [O.ints true .i8 (tk zs)]=_;rw[aM]) (by show V.sl 1 0 (tk zs).length none=_;rw[aM])))
 ·cases e
def jH:CF
 |[.agg [.int .i64 f,.int .i64 r,.sl 0 0 len none,.bool bl,.int .u8 ca,.int .i64 pa,.int .i64 ha,.int .i64 fu]],[.ints false .i8 zs]=>some (decide (len=zs.length)&&decide (zs.length<=64),.agg [I f,I r,.sl 1 0 zs.length none,Bb bl,.int .u8 ca,I pa,I ha,I fu],[.ints true .i8 zs])
 |_,_=>none
theorem gJ:CtOk (GGx kCa kDb) PP (60,jH):=by
 refine aD Tryz.func60 (by kernel_rfl) rfl fun a0 h0 c0 v0 N0 e hc=>?_
 unfold jH at e
 split at e
 ·rename_i f r len bl ca pa ha fu zs
  cases e
  have hE:=aC (kCa:=kCa) (kDb:=kDb) (cts:=[(107,vu)]) (inl:=[]) ⟨Ak,trivial⟩ trivial
  refine aq hE 2 Tryz.func60 rfl rfl ?_
  simp only[Bool.and_eq_true,decide_eq_true_eq]at hc
  obtain⟨rfl,hc2⟩:=hc
  repeat (first|(first|refine ah ?_|refine sat_nd ?_)|refine ag (aU hc2 rfl) ?_)
  exact ae (cP 3 (.inr rfl) rfl rfl rfl rfl (by show [O.ints true .i8 (tk zs)]=_;rw[aM]) (by show V.agg [I f,I r,.sl 1 0 (tk zs).length none,Bb bl,.int .u8 ca,I pa,I ha,I fu]=_;rw[aM]))
 ·cases e
def we:CF
 |[.agg [.int .i64 f,.int .i64 r,.sl 0 0 len none,.bool bl,.int .u8 _ca,.int .i64 pa,.int .i64 ha,.int .i64 _fu]],[.ints false .i8 zs]=>some (decide (len=zs.length)&&decide (zs.length<=64)&&aH f r zs,.bool (ia f r zs bl pa ha),[])
 |_,_=>none
theorem zX:CtOk (GGx kCa kDb) PP (75,we):=by
 refine aD Tryz.func75 (by kernel_rfl) rfl fun a0 h0 c0 v0 N0 e hc=>?_
 unfold we at e
 split at e
 ·rename_i f r len bl ca pa ha fu zs
  cases e
  have hE:=aC (kCa:=kCa) (kDb:=kDb) (cts:=[(101,eL),(131,Gt)]) (inl:=[]) ⟨cz,yw,trivial⟩ trivial
  refine aq hE 2 Tryz.func75 rfl rfl ?_
  simp only[Bool.and_eq_true,decide_eq_true_eq]at hc
  obtain⟨⟨rfl,hc2⟩,hbd⟩:=hc
  refine ax (fun h=>?_) (fun h=>?_)
  ·have h:decide (pa=-1)=true:=h
   exact ae (ai (.inr rfl) rfl rfl rfl (by rw[ia,h];rfl))
  have h:decide (pa=-1)=false:=h
  have hf:f≠0:=by have:=dB (bL hbd).1;omega
  refine ax (fun h1=>?_) (fun h1=>?_)
  ·have h1:bl=false:=by simpa using h1
   subst h1
   repeat (first|(first|refine ah ?_|refine sat_nd ?_)|refine ag (gd hf) ?_|refine ag (sL (bl:=false) hbd) ?_|refine ag (LK (bl:=false) hbd) ?_|refine ag (Lu (bl:=false) hbd) ?_)
   exact ae (ai (.inr rfl) rfl rfl rfl (by rw[ia,h];rfl))
  ·have h1:bl=true:=by simpa using h1
   subst h1
   repeat (first|(first|refine ah ?_|refine sat_nd ?_)|refine ag (gd hf) ?_|refine ag (sL (bl:=true) hbd) ?_|refine ag (LK (bl:=true) hbd) ?_|refine ag (Lu (bl:=true) hbd) ?_)
   exact ae (ai (.inr rfl) rfl rfl rfl (by rw[ia,h];rfl))
 ·cases e
theorem Ft{f r:Int}{zs:List Int}{g:Bool}(h:aH f r zs=true)(_hz:zs.length<=64):(!g||(decide (0<=f)&&decide (f<=zs.length)&&decide ((zs.length:Int)<=zs.length)))=true:=by
 obtain⟨h1,h2⟩:=bL h
 have:=dB h1
 have:1*f<=r*f:=Int.mul_le_mul_of_nonneg_right (by omega) (by omega)
 rw[Int.mul_comm r f]at this
 simp;omega
theorem GZ{f r:Int}{zs:List Int}(h:aH f r zs=true)(hz:zs.length<=64):i64.wrap ((zs.length:Int)-f)=(zs.length:Int)-f/\0<=(zs.length:Int)-f/\3<=f:=by
 obtain⟨h1,h2⟩:=bL h
 have:=dB h1
 have:1*f<=r*f:=Int.mul_le_mul_of_nonneg_right (by omega) (by omega)
 rw[Int.mul_comm r f]at this
 exact⟨ay (by omega) (by omega),by omega,by omega⟩
theorem CM{f r:Int}{zs:List Int}(h:aH f r zs=true)(hz:zs.length<=64):(decide (0<=i64.wrap ((zs.length:Int)-f))&&decide (i64.wrap ((zs.length:Int)-f)<=zs.length)&&decide ((zs.length:Int)<=zs.length))=true:=by
 obtain⟨h1,h2,h3⟩:=GZ h hz
 rw[h1]
 simp only[Bool.and_eq_true,decide_eq_true_eq]
 omega
theorem Fi{zs:List Int}{a m:Nat}(h:m=zs.length)(hz:zs.length<=64):(decide (m-a=((zs.drop a).take (m-a)).length)&&decide (((zs.drop a).take (m-a)).length<=1000000))=true:=by
 simp only[Bool.and_eq_true,decide_eq_true_eq,List.length_take,List.length_drop]
 omega
theorem GC{zs:List Int}{b m:Nat}{g:Bool}(h:m<=zs.length)(hz:zs.length<=64):(!g||(decide (m-0=((zs.drop 0).take (m-0)).length)&&decide (((zs.drop 0).take (m-0)).length<=1000000)))=true/\b=b:=by
 rw[Bool.or_eq_true]
 refine⟨.inr ?_,rfl⟩
 simp only[Bool.and_eq_true,decide_eq_true_eq,List.length_take,List.length_drop]
 omega
def rZ:CF
 |[.agg [.int .i64 f,.int .i64 r,.sl 0 0 len none,.bool _bl,.int .u8 _ca,.int .i64 _pa,.int .i64 _ha,.int .i64 _fu]],[.ints false .i8 zs]=>some (decide (len=zs.length)&&decide (zs.length<=64)&&aH f r zs,.bool (iB f zs),[])
 |_,_=>none
theorem wV:CtOk (GGx kCa kDb) PP (71,rZ):=by
 refine aD Tryz.func71 (by kernel_rfl) rfl fun a0 h0 c0 v0 N0 e hc=>?_
 unfold rZ at e
 split at e
 ·rename_i f r len bl ca pa ha fu zs
  cases e
  have hE:=aC (kCa:=kCa) (kDb:=kDb) (cts:=[(92,gD)]) (inl:=[]) ⟨ja,trivial⟩ trivial
  refine aq hE 2 Tryz.func71 rfl rfl ?_
  simp only[Bool.and_eq_true,decide_eq_true_eq]at hc
  obtain⟨⟨rfl,hc2⟩,hbd⟩:=hc
  obtain⟨hw1,hw2,hw3⟩:=GZ hbd hc2
  have hfl:f.toNat<=zs.length:=by omega
  repeat (first|(first|refine ah ?_|refine sat_nd ?_)|refine ag (Ft hbd hc2) ?_|refine ag (CM hbd hc2) ?_|refine ag (Fi rfl hc2) ?_|refine ag (GC (b:=0) hfl hc2).1 ?_)
  refine ae (ai (.inr rfl) rfl rfl rfl (congrArg V.bool ?_))
  show (!((zs.drop (i64.wrap ((zs.length:Int)-f)).toNat).take (zs.length-(i64.wrap ((zs.length:Int)-f)).toNat)).any (isV 1)&&!((zs.drop 0).take (f.toNat-0)).any (isV (-1)))=_
  rw[hw1,iB,show ((zs.length:Int)-f).toNat=zs.length-f.toNat by omega,List.drop_zero,Nat.sub_zero,List.take_of_length_le (by simp)]
 ·cases e
def qi:CF
 |[.agg [.int .i64 f,.int .i64 r,.sl 0 0 len none,.bool bl,.int .u8 _ca,.int .i64 _pa,.int .i64 _ha,.int .i64 _fu]],[.ints false .i8 zs]=>some (decide (len=zs.length)&&decide (zs.length<=64),.bool (eC f r zs bl),[])
 |_,_=>none
theorem wz:CtOk (GGx kCa kDb) PP (69,qi):=by
 refine aD Tryz.func69 (by kernel_rfl) rfl fun a0 h0 c0 v0 N0 e hc=>?_
 unfold qi at e
 split at e
 ·rename_i f r len bl ca pa ha fu zs
  cases e
  have hE:=aC (kCa:=kCa) (kDb:=kDb) (cts:=[(49,tW),(28,ej)]) (inl:=[]) ⟨mz,dX,trivial⟩ trivial
  refine aq hE 2 Tryz.func69 rfl rfl ?_
  simp only[Bool.and_eq_true,decide_eq_true_eq]at hc
  obtain⟨rfl,hc2⟩:=hc
  repeat (first|(first|refine ah ?_|refine sat_nd ?_)|refine ag (aU hc2 rfl) ?_)
  refine ae (ai (.inr rfl) rfl rfl rfl (congrArg V.bool ?_))
  show (decide ((bE f r (tk zs) bl).2=0)&&decide ((aZ f r (tk zs) (!bl)).2=0)&&decide ((aZ f r (tk zs) (!bl)).1=0))=_
  rw[aM];rfl
 ·cases e
end
end Go.Ab
namespace Go.Ab
open Go.Proofs
section
variable{kCa kDb:Bool}
def dF:CF
 |[.agg [.int .i64 f,.int .i64 r,.sl 0 0 len none,.bool bl,.int .u8 ca,.int .i64 pa,.int .i64 ha,.int .i64 fu]],[.ints false .i8 zs]=>some (decide (len=zs.length)&&decide (zs.length<=64),.bool (Psn.ok ⟨f,r,zs,bl,ca,pa,ha,fu⟩),[])
 |_,_=>none
theorem cm:CtOk (GGx kCa kDb) PP (33,dF):=by
 refine aD Tryz.func33 (by kernel_rfl) rfl fun a0 h0 c0 v0 N0 e hc=>?_
 unfold dF at e
 split at e
 ·rename_i f r len bl ca pa ha fu zs
  cases e
  have hE:=aC (kCa:=kCa) (kDb:=kDb) (cts:=[(67,jg),(69,qi),(71,rZ),(73,ki),(75,we)]) (inl:=[(66,Tryz.f66),(68,Tryz.f68),(70,Tryz.f70),(72,Tryz.f72),(74,Tryz.f74),(76,Tryz.f76)]) ⟨iz,wz,wV,rG,zX,trivial⟩ ⟨⟨Tryz.func66,by kernel_rfl⟩,⟨Tryz.func68,by kernel_rfl⟩,⟨Tryz.func70,by kernel_rfl⟩,⟨Tryz.func72,by kernel_rfl⟩,⟨Tryz.func74,by kernel_rfl⟩,⟨Tryz.func76,by kernel_rfl⟩,trivial⟩
  refine aq hE 3 Tryz.func33 rfl rfl ?_
  simp only[Bool.and_eq_true,decide_eq_true_eq]at hc
  obtain⟨rfl,hc2⟩:=hc
  repeat (first|refine ah ?_|refine sat_nd ?_)
  refine ei hE 3 7 ?_
  refine rnd ?_
  refine da (by rfl) ?_
  repeat (first|(first|refine ah ?_|refine sat_nd ?_)|refine ag (aU hc2 rfl) ?_)
  refine ax (fun h0=>?_) (fun h0=>?_)
  ·have h0:(!aH f r (tk zs))=true:=h0
   rw[aM,Bool.not_eq_true']at h0
   exact ae (ae (ai (.inr rfl) rfl rfl rfl (by simp[Psn.ok,h0])))
  have h0:(!aH f r (tk zs))=false:=h0
  have h0t:aH f r (tk zs)=true:=by simpa using h0
  rw[aM,Bool.not_eq_false']at h0
  refine ae ⟨[(1,.ptr 1 0 0),(13,.sl 2 0 6 none),(14,I 6),(15,I 1)],[.ints false .i8 zs,.cells true [I f,I r,.sl 0 0 zs.length none,Bb bl,.int .u8 ca,I pa,I ha,I fu],.vals true 1 [[.fn 66 [.ptr 1 0 0]],[.fn 68 [.ptr 1 0 0]],[.fn 70 [.ptr 1 0 0]],[.fn 72 [.ptr 1 0 0]],[.fn 74 [.ptr 1 0 0]],[.fn 76 [.ptr 1 0 0]]]],Ent.ren [0,1,2] [1,13,14,15] rfl rfl rfl,?_⟩
  refine rnd ?_
  refine da (by rfl) ?_
  repeat (first|(first|refine ah ?_|refine sat_nd ?_)|refine ag (aU hc2 rfl) ?_|refine ag (bh hc2 rfl h0t) ?_)
  refine ax (fun h1=>?_) (fun h1=>?_)
  ·have h1:(!eC f r (tk zs) bl)=true:=h1
   rw[aM,Bool.not_eq_true']at h1
   exact ae (ae (ai (.inr rfl) rfl rfl rfl (by simp[Psn.ok,h0,h1])))
  have h1:(!eC f r (tk zs) bl)=false:=h1
  rw[aM,Bool.not_eq_false']at h1
  refine ae ⟨[(1,.ptr 1 0 0),(13,.sl 2 0 6 none),(14,I 6),(15,I 2)],[.ints false .i8 zs,.cells true [I f,I r,.sl 0 0 zs.length none,Bb bl,.int .u8 ca,I pa,I ha,I fu],.vals true 1 [[.fn 66 [.ptr 1 0 0]],[.fn 68 [.ptr 1 0 0]],[.fn 70 [.ptr 1 0 0]],[.fn 72 [.ptr 1 0 0]],[.fn 74 [.ptr 1 0 0]],[.fn 76 [.ptr 1 0 0]]]],Ent.ren [0,1,2] [1,13,14,15] rfl rfl rfl,?_⟩
  refine rnd ?_
  refine da (by rfl) ?_
  repeat (first|(first|refine ah ?_|refine sat_nd ?_)|refine ag (aU hc2 rfl) ?_|refine ag (bh hc2 rfl h0t) ?_)
  refine ax (fun h2=>?_) (fun h2=>?_)
  ·have h2:(!iB f (tk zs))=true:=h2
   rw[aM,Bool.not_eq_true']at h2
   exact ae (ae (ai (.inr rfl) rfl rfl rfl (by simp[Psn.ok,h0,h1,h2])))
  have h2:(!iB f (tk zs))=false:=h2
  rw[aM,Bool.not_eq_false']at h2
  refine ae ⟨[(1,.ptr 1 0 0),(13,.sl 2 0 6 none),(14,I 6),(15,I 3)],[.ints false .i8 zs,.cells true [I f,I r,.sl 0 0 zs.length none,Bb bl,.int .u8 ca,I pa,I ha,I fu],.vals true 1 [[.fn 66 [.ptr 1 0 0]],[.fn 68 [.ptr 1 0 0]],[.fn 70 [.ptr 1 0 0]],[.fn 72 [.ptr 1 0 0]],[.fn 74 [.ptr 1 0 0]],[.fn 76 [.ptr 1 0 0]]]],Ent.ren [0,1,2] [1,13,14,15] rfl rfl rfl,?_⟩
  refine rnd ?_
  refine da (by rfl) ?_
  repeat (first|(first|refine ah ?_|refine sat_nd ?_)|refine ag (aU hc2 rfl) ?_|refine ag (bh hc2 rfl h0t) ?_)
  refine ax (fun h3=>?_) (fun h3=>?_)
  ·have h3:(!ee f r (tk zs) ca)=true:=h3
   rw[aM,Bool.not_eq_true']at h3
   exact ae (ae (ai (.inr rfl) rfl rfl rfl (by simp[Psn.ok,h0,h1,h2,h3])))
  have h3:(!ee f r (tk zs) ca)=false:=h3
  rw[aM,Bool.not_eq_false']at h3
  refine ae ⟨[(1,.ptr 1 0 0),(13,.sl 2 0 6 none),(14,I 6),(15,I 4)],[.ints false .i8 zs,.cells true [I f,I r,.sl 0 0 zs.length none,Bb bl,.int .u8 ca,I pa,I ha,I fu],.vals true 1 [[.fn 66 [.ptr 1 0 0]],[.fn 68 [.ptr 1 0 0]],[.fn 70 [.ptr 1 0 0]],[.fn 72 [.ptr 1 0 0]],[.fn 74 [.ptr 1 0 0]],[.fn 76 [.ptr 1 0 0]]]],Ent.ren [0,1,2] [1,13,14,15] rfl rfl rfl,?_⟩
  refine rnd ?_
  refine da (by rfl) ?_
  repeat (first|(first|refine ah ?_|refine sat_nd ?_)|refine ag (aU hc2 rfl) ?_|refine ag (bh hc2 rfl h0t) ?_)
  refine ax (fun h4=>?_) (fun h4=>?_)
  ·have h4:(!ia f r (tk zs) bl pa ha)=true:=h4
   rw[aM,Bool.not_eq_true']at h4
   exact ae (ae (ai (.inr rfl) rfl rfl rfl (by simp[Psn.ok,h0,h1,h2,h3,h4])))
  have h4:(!ia f r (tk zs) bl pa ha)=false:=h4
  rw[aM,Bool.not_eq_false']at h4
  refine ae ⟨[(1,.ptr 1 0 0),(13,.sl 2 0 6 none),(14,I 6),(15,I 5)],[.ints false .i8 zs,.cells true [I f,I r,.sl 0 0 zs.length none,Bb bl,.int .u8 ca,I pa,I ha,I fu],.vals true 1 [[.fn 66 [.ptr 1 0 0]],[.fn 68 [.ptr 1 0 0]],[.fn 70 [.ptr 1 0 0]],[.fn 72 [.ptr 1 0 0]],[.fn 74 [.ptr 1 0 0]],[.fn 76 [.ptr 1 0 0]]]],Ent.ren [0,1,2] [1,13,14,15] rfl rfl rfl,?_⟩
  refine rnd ?_
  refine da (by rfl) ?_
  repeat (first|(first|refine ah ?_|refine sat_nd ?_)|refine ag (aU hc2 rfl) ?_|refine ag (bh hc2 rfl h0t) ?_)
  refine ax (fun h5=>?_) (fun h5=>?_)
  ·have h5:(!cntB ha fu)=true:=h5
   rw[Bool.not_eq_true']at h5
   exact ae (ae (ai (.inr rfl) rfl rfl rfl (by simp[Psn.ok,h0,h1,h2,h3,h4,h5])))
  have h5:(!cntB ha fu)=false:=h5
  rw[Bool.not_eq_false']at h5
  refine ae ⟨[(1,.ptr 1 0 0),(13,.sl 2 0 6 none),(14,I 6),(15,I 6)],[.ints false .i8 zs,.cells true [I f,I r,.sl 0 0 zs.length none,Bb bl,.int .u8 ca,I pa,I ha,I fu],.vals true 1 [[.fn 66 [.ptr 1 0 0]],[.fn 68 [.ptr 1 0 0]],[.fn 70 [.ptr 1 0 0]],[.fn 72 [.ptr 1 0 0]],[.fn 74 [.ptr 1 0 0]],[.fn 76 [.ptr 1 0 0]]]],Ent.ren [0,1,2] [1,13,14,15] rfl rfl rfl,?_⟩
  refine rnd ?_
  refine xA (by rfl) ?_
  refine ae (ae (ai (.inr rfl) rfl rfl rfl (by simp[Psn.ok,h0,h1,h2,h3,h4,h5])))
 ·cases e
end
section
variable{kCa kDb:Bool}
def oT(k:Int)(bl:Bool):Int:=bif bl then w8 (0-k)else k
def dY(r:Int)(bl:Bool)(n:Int):Int:=bif bl then IntKind.i64.wrap (r-n)else IntKind.i64.wrap (n-1)
def fE(r:Int)(bl:Bool):Int:=bif bl then 0 else IntKind.i64.wrap (r-1)
def chkL(f r:Int)(zs:List Int)(bl:Bool):Bool:=decide (0<((attL f r zs (aP zs bl) (!bl)).length:Int))
def kX(f r:Int)(zs:List Int)(bit:Int):Bool:=bif !decide (f=8)||!decide (r=8)then false else bif decide (bit=1)then decide (zs.getD 4 0=6)&&decide (zs.getD 7 0=4)else bif decide (bit=2)then decide (zs.getD 4 0=6)&&decide (zs.getD 0 0=4)else bif decide (bit=4)then decide (zs.getD 60 0=-6)&&decide (zs.getD 63 0=-4)else decide (zs.getD 60 0=-6)&&decide (zs.getD 56 0=-4)
theorem oh:bU 8 8 [101,49]=4:=by kernel_rfl
theorem qU:bU 8 8 [104,49]=7:=by kernel_rfl
theorem qq:bU 8 8 [97,49]=0:=by kernel_rfl
theorem ow:bU 8 8 [101,56]=60:=by kernel_rfl
theorem qw:bU 8 8 [104,56]=63:=by kernel_rfl
theorem qY:bU 8 8 [97,56]=56:=by kernel_rfl
def qu:CF
 |[.int .i8 k,.bool bl],[]=>some (true,.int .i8 (oT k bl),[])
 |_,_=>none
theorem vk:CtOk (GGx kCa kDb) PP (87,qu):=by
 refine aD Tryz.func87 (by kernel_rfl) rfl fun a0 h0 c0 v0 N0 e hc=>?_
 unfold qu at e
 split at e
 ·rename_i k bl
  cases e
  have hE:=aC (kCa:=kCa) (kDb:=kDb) (cts:=[]) (inl:=[]) trivial trivial
  refine aq hE 2 Tryz.func87 rfl rfl ?_
  repeat' first|(first|refine ah ?_|refine sat_nd ?_)|refine ax (fun h=>?_) (fun h=>?_)
  all_goals exact ae (ai (.inr rfl) rfl rfl rfl (by first|rfl|(simp only[oT, *,cond_true,cond_false];done)|(simp only[oT, *,cond_true,cond_false,Bool.not_true,Bool.not_false,Bool.and_true,Bool.true_and,Bool.and_false,Bool.false_and,Bool.or_true,Bool.true_or,Bool.or_false,Bool.false_or];done)|simp_all [oT]))
 ·cases e
def wj:CF
 |[.agg [.int .i64 _f,.int .i64 r],.bool bl,.int .i64 n],[]=>some (true,.int .i64 (dY r bl n),[])
 |_,_=>none
theorem zl:CtOk (GGx kCa kDb) PP (85,wj):=by
 refine aD Tryz.func85 (by kernel_rfl) rfl fun a0 h0 c0 v0 N0 e hc=>?_
 unfold wj at e
 split at e
 ·rename_i f r bl n
  cases e
  have hE:=aC (kCa:=kCa) (kDb:=kDb) (cts:=[]) (inl:=[]) trivial trivial
  refine aq hE 2 Tryz.func85 rfl rfl ?_
  repeat' first|(first|refine ah ?_|refine sat_nd ?_)|refine ax (fun h=>?_) (fun h=>?_)
  all_goals exact ae (ai (.inr rfl) rfl rfl rfl (by first|rfl|(simp only[dY, *,cond_true,cond_false];done)|(simp only[dY, *,cond_true,cond_false,Bool.not_true,Bool.not_false,Bool.and_true,Bool.true_and,Bool.and_false,Bool.false_and,Bool.or_true,Bool.true_or,Bool.or_false,Bool.false_or];done)|simp_all [dY]))
 ·cases e
def uW:CF
 |[.agg [.int .i64 _f,.int .i64 r],.bool bl],[]=>some (true,.int .i64 (fE r bl),[])
 |_,_=>none
theorem AH:CtOk (GGx kCa kDb) PP (40,uW):=by
 refine aD Tryz.func40 (by kernel_rfl) rfl fun a0 h0 c0 v0 N0 e hc=>?_
 unfold uW at e
 split at e
 ·rename_i f r bl
  cases e
  have hE:=aC (kCa:=kCa) (kDb:=kDb) (cts:=[]) (inl:=[]) trivial trivial
  refine aq hE 2 Tryz.func40 rfl rfl ?_
  repeat' first|(first|refine ah ?_|refine sat_nd ?_)|refine ax (fun h=>?_) (fun h=>?_)
  all_goals exact ae (ai (.inr rfl) rfl rfl rfl (by first|rfl|(simp only[fE, *,cond_true,cond_false];done)|(simp only[fE, *,cond_true,cond_false,Bool.not_true,Bool.not_false,Bool.and_true,Bool.true_and,Bool.and_false,Bool.false_and,Bool.or_true,Bool.true_or,Bool.or_false,Bool.false_or];done)|simp_all [fE]))
 ·cases e
def Gu:CF
 |[.agg [.int .i64 f,.int .i64 r,.sl 0 0 len none,.bool _bl,.int .u8 _ca,.int .i64 _pa,.int .i64 _ha,.int .i64 _fu]],[.ints false .i8 _zs]=>some (true,.agg [I f,I r,.sl 0 0 len none],[])
 |_,_=>none
theorem xx:CtOk (GGx kCa kDb) PP (29,Gu):=by
 refine aD Tryz.func29 (by kernel_rfl) rfl fun a0 h0 c0 v0 N0 e hc=>?_
 unfold Gu at e
 split at e
 ·rename_i f r len bl ca pa ha fu zs
  cases e
  have hE:=aC (kCa:=kCa) (kDb:=kDb) (cts:=[]) (inl:=[]) trivial trivial
  refine AJ hE 2 Tryz.func29 rfl rfl ?_
  repeat (first|refine ah ?_|refine sat_nd ?_)
  exact ae ⟨.inr rfl,_,rfl,rfl,rfl⟩
 ·cases e
def qy:CF
 |[.agg [.int .i64 f,.int .i64 r,.sl 0 0 len none],.bool bl],[.ints false .i8 zs]=>some (decide (len=zs.length)&&decide (zs.length<=64)&&vsB f r,.bool (chkL f r zs bl),[])
 |_,_=>none
theorem vY:CtOk (GGx kCa kDb) PP (37,qy):=by
 refine aD Tryz.func37 (by kernel_rfl) rfl fun a0 h0 c0 v0 N0 e hc=>?_
 unfold qy at e
 split at e
 ·rename_i f r len bl zs
  cases e
  have hE:=aC (kCa:=kCa) (kDb:=kDb) (cts:=[(36,jw),(82,fc)]) (inl:=[]) ⟨kK,jK,trivial⟩ trivial
  refine aq hE 2 Tryz.func37 rfl rfl ?_
  simp only[Bool.and_eq_true,decide_eq_true_eq]at hc
  obtain⟨⟨rfl,hc2⟩,hv⟩:=hc
  repeat (first|(first|refine ah ?_|refine sat_nd ?_)|refine ag (aU hc2 rfl) ?_|refine ag (bh hc2 rfl hv) ?_)
  refine ae (ai (.inr rfl) rfl rfl rfl (by
   show V.bool (chkL f r (tk zs) bl)=_
   rw[aM]))
 ·cases e
def Kk:CF
 |[.agg [.int .i64 _f,.int .i64 _r,.sl 0 0 len none,.bool _bl,.int .u8 _ca,.int .i64 _pa,.int .i64 _ha,.int .i64 _fu],.str s],[.ints false .i8 zs]=>some (decide (len=zs.length)&&decide (zs.length<=64)&&decide (0<=bU 8 8 s)&&decide (bU 8 8 s<zs.length),.int .i8 (zs.getD (bU 8 8 s).toNat 0),[])
 |_,_=>none
theorem Gx:CtOk (GGx kCa kDb) PP (137,Kk):=by
 refine aD Tryz.func137 (by kernel_rfl) rfl fun a0 h0 c0 v0 N0 e hc=>?_
 unfold Kk at e
 split at e
 ·rename_i f r len bl ca pa ha fu s zs
  cases e
  have hE:=aC (kCa:=kCa) (kDb:=kDb) (cts:=[(124,qM)]) (inl:=[]) ⟨pq,trivial⟩ trivial
  refine aq hE 2 Tryz.func137 rfl rfl ?_
  simp only[Bool.and_eq_true,decide_eq_true_eq]at hc
  obtain⟨⟨⟨rfl,hc2⟩,h0⟩,h1⟩:=hc
  repeat (first|(first|refine ah ?_|refine sat_nd ?_)|refine ag (by simp only[Bool.and_eq_true,decide_eq_true_eq];omega) ?_)
  exact ae (ai (.inr rfl) rfl rfl rfl rfl)
 ·cases e
theorem bk{zs:List Int}{s:List UInt8}{n:Nat}(h:bU 8 8 s=n)(h2:n<64)(h64:zs.length=64):(decide (zs.length=(tk zs).length)&&decide ((tk zs).length<=64)&&decide (0<=bU 8 8 s)&&decide (bU 8 8 s<(tk zs).length))=true:=by
 rw[mV,h,h64];simp;omega
theorem aY{zs:List Int}{s:List UInt8}{n:Nat}{g:Bool}(h:bU 8 8 s=n)(h2:n<64)(h64:zs.length=64):(!g||(decide (zs.length=(tk zs).length)&&decide ((tk zs).length<=64)&&decide (0<=bU 8 8 s)&&decide (bU 8 8 s<(tk zs).length)))=true:=by
 rw[bk h h2 h64];simp
def vR:CF
 |[.agg [.int .i64 f,.int .i64 r,.sl 0 0 len none,.bool _bl,.int .u8 _ca,.int .i64 _pa,.int .i64 _ha,.int .i64 _fu],.int .u8 bit],[.ints false .i8 zs]=>some (decide (len=zs.length)&&decide (zs.length<=64)&&(!decide (f=8)||!decide (r=8)||decide (zs.length=64)),.bool (kX f r zs bit),[])
 |_,_=>none
theorem zP:CtOk (GGx kCa kDb) PP (83,vR):=by
 refine aD Tryz.func83 (by kernel_rfl) rfl fun a0 h0 c0 v0 N0 e hc=>?_
 unfold vR at e
 split at e
 ·rename_i f r len bl ca pa ha fu bit zs
  cases e
  have hE:=aC (kCa:=kCa) (kDb:=kDb) (cts:=[(137,Kk)]) (inl:=[]) ⟨Gx,trivial⟩ trivial
  refine aq hE 2 Tryz.func83 rfl rfl ?_
  simp only[Bool.and_eq_true,decide_eq_true_eq]at hc
  obtain⟨⟨rfl,hc2⟩,hv⟩:=hc
  repeat (first|refine ah ?_|refine sat_nd ?_)
  refine ax (fun h=>?_) (fun h=>?_)
  ·have h:(!decide (f=8)||!decide (r=8))=true:=h
   exact ae (ai (.inr rfl) rfl rfl rfl (by rw[kX,h];rfl))
  have h:(!decide (f=8)||!decide (r=8))=false:=h
  have h64:zs.length=64:=by
   rw[h]at hv;simpa using hv
  refine ax (fun h1=>?_) (fun h1=>?_)
  ·have h1:decide (bit=1)=true:=h1
   repeat (first|(first|refine ah ?_|refine sat_nd ?_)|refine ag (bk (n:=4) oh (by decide) h64) ?_|refine ag (aY (n:=4) oh (by decide) h64) ?_|refine ag (bk (n:=7) qU (by decide) h64) ?_|refine ag (aY (n:=7) qU (by decide) h64) ?_|refine ag (bk (n:=0) qq (by decide) h64) ?_|refine ag (aY (n:=0) qq (by decide) h64) ?_|refine ag (bk (n:=60) ow (by decide) h64) ?_|refine ag (aY (n:=60) ow (by decide) h64) ?_|refine ag (bk (n:=63) qw (by decide) h64) ?_|refine ag (aY (n:=63) qw (by decide) h64) ?_|refine ag (bk (n:=56) qY (by decide) h64) ?_|refine ag (aY (n:=56) qY (by decide) h64) ?_)
   exact ae (ai (.inr rfl) rfl rfl rfl (congrArg V.bool (by
    show (decide ((tk zs).getD (bU 8 8 [101,49]).toNat 0=6)&&decide ((tk zs).getD (bU 8 8 [104,49]).toNat 0=4))=_
    rw[aM,oh,qU,kX,h,h1];rfl)))
  have h1:decide (bit=1)=false:=h1
  refine ax (fun h2=>?_) (fun h2=>?_)
  ·have h2:decide (bit=2)=true:=h2
   repeat (first|(first|refine ah ?_|refine sat_nd ?_)|refine ag (bk (n:=4) oh (by decide) h64) ?_|refine ag (aY (n:=4) oh (by decide) h64) ?_|refine ag (bk (n:=7) qU (by decide) h64) ?_|refine ag (aY (n:=7) qU (by decide) h64) ?_|refine ag (bk (n:=0) qq (by decide) h64) ?_|refine ag (aY (n:=0) qq (by decide) h64) ?_|refine ag (bk (n:=60) ow (by decide) h64) ?_|refine ag (aY (n:=60) ow (by decide) h64) ?_|refine ag (bk (n:=63) qw (by decide) h64) ?_|refine ag (aY (n:=63) qw (by decide) h64) ?_|refine ag (bk (n:=56) qY (by decide) h64) ?_|refine ag (aY (n:=56) qY (by decide) h64) ?_)
   exact ae (ai (.inr rfl) rfl rfl rfl (congrArg V.bool (by
    show (decide ((tk zs).getD (bU 8 8 [101,49]).toNat 0=6)&&decide ((tk zs).getD (bU 8 8 [97,49]).toNat 0=4))=_
    rw[aM,oh,qq,kX,h,h1,h2];rfl)))
  have h2:decide (bit=2)=false:=h2
  refine ax (fun h3=>?_) (fun h3=>?_)
  ·have h3:decide (bit=4)=true:=h3
   repeat (first|(first|refine ah ?_|refine sat_nd ?_)|refine ag (bk (n:=4) oh (by decide) h64) ?_|refine ag (aY (n:=4) oh (by decide) h64) ?_|refine ag (bk (n:=7) qU (by decide) h64) ?_|refine ag (aY (n:=7) qU (by decide) h64) ?_|refine ag (bk (n:=0) qq (by decide) h64) ?_|refine ag (aY (n:=0) qq (by decide) h64) ?_|refine ag (bk (n:=60) ow (by decide) h64) ?_|refine ag (aY (n:=60) ow (by decide) h64) ?_|refine ag (bk (n:=63) qw (by decide) h64) ?_|refine ag (aY (n:=63) qw (by decide) h64) ?_|refine ag (bk (n:=56) qY (by decide) h64) ?_|refine ag (aY (n:=56) qY (by decide) h64) ?_)
   exact ae (ai (.inr rfl) rfl rfl rfl (congrArg V.bool (by
    show (decide ((tk zs).getD (bU 8 8 [101,56]).toNat 0=-6)&&decide ((tk zs).getD (bU 8 8 [104,56]).toNat 0=-4))=_
    rw[aM,ow,qw,kX,h,h1,h2,h3];rfl)))
  have h3:decide (bit=4)=false:=h3
  repeat (first|(first|refine ah ?_|refine sat_nd ?_)|refine ag (bk (n:=4) oh (by decide) h64) ?_|refine ag (aY (n:=4) oh (by decide) h64) ?_|refine ag (bk (n:=7) qU (by decide) h64) ?_|refine ag (aY (n:=7) qU (by decide) h64) ?_|refine ag (bk (n:=0) qq (by decide) h64) ?_|refine ag (aY (n:=0) qq (by decide) h64) ?_|refine ag (bk (n:=60) ow (by decide) h64) ?_|refine ag (aY (n:=60) ow (by decide) h64) ?_|refine ag (bk (n:=63) qw (by decide) h64) ?_|refine ag (aY (n:=63) qw (by decide) h64) ?_|refine ag (bk (n:=56) qY (by decide) h64) ?_|refine ag (aY (n:=56) qY (by decide) h64) ?_)
  exact ae (ai (.inr rfl) rfl rfl rfl (congrArg V.bool (by
   show (decide ((tk zs).getD (bU 8 8 [101,56]).toNat 0=-6)&&decide ((tk zs).getD (bU 8 8 [97,56]).toNat 0=-4))=_
   rw[aM,ow,qY,kX,h,h1,h2,h3];rfl)))
 ·cases e
end
end Go.Ab
namespace Go.Ab
open IntKind
open Go.Proofs
section
variable{kCa kDb:Bool}
def rXL(f r:Int)(zs:List Int)(ca bit:Int):Bool:=decide ((u8.wrap (ca.tdiv bit)).tmod 2=1)&&!kX f r zs bit
def ng(f r:Int)(zs:List Int)(ca:Int):Bool:=bif decide (15<ca)then false else !(rXL f r zs ca 1||rXL f r zs ca 2||rXL f r zs ca 4||rXL f r zs ca 8)
def pasL(f r:Int)(zs:List Int)(bl:Bool)(pa ha:Int):Bool:=bif decide (pa=-1)then true else bif decide (r<6)||!decide (ha=0)||!ak f r pa then false else bif !decide (i64.wrap (2*i64.wrap (pa.tdiv f))=i64.wrap (dY r (!bl) 2+dY r (!bl) 4))then false else decide (zs.getD pa.toNat 0=0)&&decide (zs.getD (numR f r (pa.tmod f) (dY r (!bl) 2)).toNat 0=0)&&decide (zs.getD (numR f r (pa.tmod f) (dY r (!bl) 4)).toNat 0=oT 1 (!bl))
def pwL(f r:Int)(zs:List Int)(i:Int):Bool:=decide (be (zs.getD i.toNat 0)=1)&&decide (i64.wrap (i.tdiv f)=fE r (decide (zs.getD i.toNat 0<0)))
def tc(f r:Int)(zs:List Int):Bool:=(List.range zs.length).any fun i=>pwL f r zs i
def lV(p:Psn):Bool:=bif !aO p.f p.r p.zs||decide (aP p.zs false<0)||decide (aP p.zs true<0)||chkL p.f p.r p.zs (!p.bl)then false else bif tc p.f p.r p.zs then false else ng p.f p.r p.zs p.ca&&pasL p.f p.r p.zs p.bl p.pa p.ha&&decide (0<=p.ha)&&decide (p.ha<=10000)&&decide (1<=p.fu)&&decide (p.fu<=10000)
theorem lu{f r:Int}{zs:List Int}{g:Bool}(hc2:zs.length<=64)(hv:(!decide (f=8)||!decide (r=8)||decide (zs.length=64))=true):(!g||(decide (zs.length=(tk zs).length)&&decide ((tk zs).length<=64)&&(!decide (f=8)||!decide (r=8)||decide ((tk zs).length=64))))=true:=by
 rw[mV,hv];simp[hc2]
theorem xT{f r x:Int}{zs:List Int}{bl:Bool}{n:Int}(hbd:aH f r zs=true)(hx:0<=x/\x<f)(hr:6<=r)(hn:n=2\/n=4):0<=numR f r x (dY r bl n)/\numR f r x (dY r bl n)<zs.length:=by
 have hv:=(bL hbd).1
 have hb:=dB hv
 have hk:dY r bl n=(bif bl then r-n else n-1):=by
  unfold dY;cases bl
  ·exact ay (by omega) (by omega)
  ·exact ay (by omega) (by omega)
 have ho:onB f r x (dY r bl n)=true:=by
  rw[hk];cases bl
  ·exact jm hx.1 hx.2 (by simp only[cond_false];omega) (by simp only[cond_false];omega)
  ·exact jm hx.1 hx.2 (by simp only[cond_true];omega) (by simp only[cond_true];omega)
 rcases iW f r x (dY r bl n) hv with⟨_,h⟩|⟨h,_⟩
 ·exact(cw hbd).1 h
 ·rw[ho]at h;cases h
theorem FK{zs:List Int}(h:zs.length<=64){n:Nat}(hn:n=zs.length){g:Bool}:(!g||(decide (n=(tk zs).length)&&decide ((tk zs).length<=64)))=true:=by rw[aU h hn];simp
theorem yV{zs:List Int}(h:zs.length<=64){g b:Bool}(hb:b=true):(!g||(decide (zs.length=(tk zs).length)&&decide ((tk zs).length<=64)&&b))=true:=by rw[bh h rfl hb];simp
theorem vy{g:Bool}{x:Int}{n:Nat}(h:0<=x/\x<n):(!g||(decide (0<=x)&&decide (x<n)))=true:=by simp[h]
def nR:CF
 |[.agg [.int .i64 f,.int .i64 r,.sl 0 0 len none,.bool _bl,.int .u8 ca,.int .i64 _pa,.int .i64 _ha,.int .i64 _fu]],[.ints false .i8 zs]=>some (decide (len=zs.length)&&decide (zs.length<=64)&&(!decide (f=8)||!decide (r=8)||decide (zs.length=64)),.bool (ng f r zs ca),[])
 |_,_=>none
theorem tq:CtOk (GGx kCa kDb) PP (41,nR):=by
 refine aD Tryz.func41 (by kernel_rfl) rfl fun a0 h0 c0 v0 N0 e hc=>?_
 unfold nR at e
 split at e
 ·rename_i f r len bl ca pa ha fu zs
  cases e
  have hE:=aC (kCa:=kCa) (kDb:=kDb) (cts:=[(83,vR)]) (inl:=[]) ⟨zP,trivial⟩ trivial
  refine aq hE 2 Tryz.func41 rfl rfl ?_
  simp only[Bool.and_eq_true,decide_eq_true_eq]at hc
  obtain⟨⟨rfl,hc2⟩,hv⟩:=hc
  refine ax (fun h=>?_) (fun h=>?_)
  ·have h:decide (15<ca)=true:=h
   exact ae (ai (.inr rfl) rfl rfl rfl (by rw[ng,h];rfl))
  have h:decide (15<ca)=false:=h
  repeat (first|refine ah ?_|refine sat_nd ?_)
  refine ei hE 2 5 ?_
  refine rnd ?_
  refine da (by rfl) ?_
  repeat (first|(first|refine ah ?_|refine sat_nd ?_)|refine ag (lu hc2 hv) ?_)
  refine ax (fun h0=>?_) (fun h0=>?_)
  ·have h0:rXL f r (tk zs) ca 1=true:=h0
   rw[aM]at h0
   exact ae (ae (ai (.inr rfl) rfl rfl rfl (by simp[ng,h,h0])))
  have h0:rXL f r (tk zs) ca 1=false:=h0
  rw[aM]at h0
  refine ae ⟨[(1,.ptr 1 0 0),(8,.sl 2 0 4 none),(9,I 4),(10,I 1)],[.ints false .i8 zs,.cells true [I f,I r,.sl 0 0 zs.length none,Bb bl,.int .u8 ca,I pa,I ha,I fu],.ints true .u8 [1,2,4,8]],Ent.ren [0,1,2] [1,8,9,10] rfl rfl rfl,?_⟩
  refine rnd ?_
  refine da (by rfl) ?_
  repeat (first|(first|refine ah ?_|refine sat_nd ?_)|refine ag (lu hc2 hv) ?_)
  refine ax (fun h1=>?_) (fun h1=>?_)
  ·have h1:rXL f r (tk zs) ca 2=true:=h1
   rw[aM]at h1
   exact ae (ae (ai (.inr rfl) rfl rfl rfl (by simp[ng,h,h0,h1])))
  have h1:rXL f r (tk zs) ca 2=false:=h1
  rw[aM]at h1
  refine ae ⟨[(1,.ptr 1 0 0),(8,.sl 2 0 4 none),(9,I 4),(10,I 2)],[.ints false .i8 zs,.cells true [I f,I r,.sl 0 0 zs.length none,Bb bl,.int .u8 ca,I pa,I ha,I fu],.ints true .u8 [1,2,4,8]],Ent.ren [0,1,2] [1,8,9,10] rfl rfl rfl,?_⟩
  refine rnd ?_
  refine da (by rfl) ?_
  repeat (first|(first|refine ah ?_|refine sat_nd ?_)|refine ag (lu hc2 hv) ?_)
  refine ax (fun h2=>?_) (fun h2=>?_)
  ·have h2:rXL f r (tk zs) ca 4=true:=h2
   rw[aM]at h2
   exact ae (ae (ai (.inr rfl) rfl rfl rfl (by simp[ng,h,h0,h1,h2])))
  have h2:rXL f r (tk zs) ca 4=false:=h2
  rw[aM]at h2
  refine ae ⟨[(1,.ptr 1 0 0),(8,.sl 2 0 4 none),(9,I 4),(10,I 3)],[.ints false .i8 zs,.cells true [I f,I r,.sl 0 0 zs.length none,Bb bl,.int .u8 ca,I pa,I ha,I fu],.ints true .u8 [1,2,4,8]],Ent.ren [0,1,2] [1,8,9,10] rfl rfl rfl,?_⟩
  refine rnd ?_
  refine da (by rfl) ?_
  repeat (first|(first|refine ah ?_|refine sat_nd ?_)|refine ag (lu hc2 hv) ?_)
  refine ax (fun h3=>?_) (fun h3=>?_)
  ·have h3:rXL f r (tk zs) ca 8=true:=h3
   rw[aM]at h3
   exact ae (ae (ai (.inr rfl) rfl rfl rfl (by simp[ng,h,h0,h1,h2,h3])))
  have h3:rXL f r (tk zs) ca 8=false:=h3
  rw[aM]at h3
  refine ae ⟨[(1,.ptr 1 0 0),(8,.sl 2 0 4 none),(9,I 4),(10,I 4)],[.ints false .i8 zs,.cells true [I f,I r,.sl 0 0 zs.length none,Bb bl,.int .u8 ca,I pa,I ha,I fu],.ints true .u8 [1,2,4,8]],Ent.ren [0,1,2] [1,8,9,10] rfl rfl rfl,?_⟩
  refine rnd ?_
  refine xA (by rfl) ?_
  exact ae (ae (ai (.inr rfl) rfl rfl rfl (by simp[ng,h,h0,h1,h2,h3])))
 ·cases e
def jM:CF
 |[.agg [.int .i64 f,.int .i64 r,.sl 0 0 len none,.bool bl,.int .u8 _ca,.int .i64 pa,.int .i64 ha,.int .i64 _fu]],[.ints false .i8 zs]=>some (decide (len=zs.length)&&decide (zs.length<=64)&&aH f r zs,.bool (pasL f r zs bl pa ha),[])
 |_,_=>none
theorem pN:CtOk (GGx kCa kDb) PP (42,jM):=by
 refine aD Tryz.func42 (by kernel_rfl) rfl fun a0 h0 c0 v0 N0 e hc=>?_
 unfold jM at e
 split at e
 ·rename_i f r len bl ca pa ha fu zs
  cases e
  have hE:=aC (kCa:=kCa) (kDb:=kDb) (cts:=[(84,qz),(39,fb),(85,wj),(86,lG),(87,qu)]) (inl:=[]) ⟨oN,cS,zl,ny,vk,trivial⟩ trivial
  refine aq hE 2 Tryz.func42 rfl rfl ?_
  simp only[Bool.and_eq_true,decide_eq_true_eq]at hc
  obtain⟨⟨rfl,hc2⟩,hv⟩:=hc
  refine ax (fun h=>?_) (fun h=>?_)
  ·have h:decide (pa=-1)=true:=h
   exact ae (ai (.inr rfl) rfl rfl rfl (by rw[pasL,h];rfl))
  have h:decide (pa=-1)=false:=h
  repeat (first|refine ah ?_|refine sat_nd ?_)
  refine ax (fun h1=>?_) (fun h1=>?_)
  ·have h1:(decide (r<6)||!decide (ha=0)||!ak f r pa)=true:=h1
   exact ae (ai (.inr rfl) rfl rfl rfl (by rw[pasL,h,h1];rfl))
  have h1:(decide (r<6)||!decide (ha=0)||!ak f r pa)=false:=h1
  have h1':=h1
  simp only[Bool.or_eq_false_iff,decide_eq_false_iff_not,Bool.not_eq_false']at h1'
  obtain⟨⟨hr,_⟩,hpv⟩:=h1'
  have hf0:(!decide (f=0))=true:=by have:=dB (bL hv).1;simp;omega
  obtain⟨hp1,hp2⟩:=(cw hv).1 hpv
  obtain⟨_,hx1,hx2,_⟩:=cV hpv
  have n2:=xT (bl:=!bl) (n:=2) hv ⟨hx1,hx2⟩ (by omega) (.inl rfl)
  have n4:=xT (bl:=!bl) (n:=4) hv ⟨hx1,hx2⟩ (by omega) (.inr rfl)
  repeat (first|(first|refine ah ?_|refine sat_nd ?_)|refine ag hf0 ?_)
  refine ax (fun h2=>?_) (fun h2=>?_)
  ·have h2:(!decide (i64.wrap (2*i64.wrap (pa.tdiv f))=i64.wrap (dY r (!bl) 2+dY r (!bl) 4)))=true:=h2
   exact ae (ai (.inr rfl) rfl rfl rfl (by rw[pasL,h,h1,h2];rfl))
  have h2:(!decide (i64.wrap (2*i64.wrap (pa.tdiv f))=i64.wrap (dY r (!bl) 2+dY r (!bl) 4)))=false:=h2
  repeat (first|(first|refine ah ?_|refine sat_nd ?_)|refine ag (by simp only[Bool.and_eq_true,decide_eq_true_eq];exact⟨hp1,hp2⟩) ?_|refine ag (vy n2) ?_|refine ag (vy n4) ?_)
  exact ae (ai (.inr rfl) rfl rfl rfl (by rw[pasL,h,h1,h2];rfl))
 ·cases e
theorem ES{f r:Int}{zs:List Int}{_bl:Bool}{x y:Bool}(hc2:zs.length<=64):(!(!(!aO f r (tk zs)||x||y))||(decide (zs.length=(tk zs).length)&&decide ((tk zs).length<=64)&&vsB f r))=true:=by
 cases h:aO f r (tk zs) with
 |false=>simp
 |true=>rw[mV,(bj h).1];simp[hc2]
theorem v88{f r:Int}{zs:List Int}(h:aH f r zs=true):(!decide (f=8)||!decide (r=8)||decide (zs.length=64))=true:=by
 cases h8:is88 f r with
 |false=>simp only[is88,Bool.and_eq_false_iff]at h8;rcases h8 with h8|h8<;>rw[h8]<;>simp
 |true=>rw[uY h h8];simp
def lH:CF
 |[.agg [.int .i64 f,.int .i64 r,.sl 0 0 len none,.bool bl,.int .u8 ca,.int .i64 pa,.int .i64 ha,.int .i64 fu]],[.ints false .i8 zs]=>some (decide (len=zs.length)&&decide (zs.length<=64),.bool (lV ⟨f,r,zs,bl,ca,pa,ha,fu⟩),[])
 |_,_=>none
theorem nw:CtOk (GGx kCa kDb) PP (12,lH):=by
 refine aD Tryz.func12 (by kernel_rfl) rfl fun a0 h0 c0 v0 N0 e hc=>?_
 unfold lH at e
 split at e
 ·rename_i f r len bl ca pa ha fu zs
  cases e
  have hE:=aC (kCa:=kCa) (kDb:=kDb) (cts:=[(35,vq),(36,jw),(37,qy),(38,lO),(39,fb),(40,uW),(41,nR),(42,jM)]) (inl:=[(29,Tryz.f29)]) ⟨Aa,kK,vY,lW,cS,AH,tq,pN,trivial⟩ ⟨⟨Tryz.func29,by kernel_rfl⟩,trivial⟩
  refine aq hE 2 Tryz.func12 rfl rfl ?_
  simp only[Bool.and_eq_true,decide_eq_true_eq]at hc
  obtain⟨rfl,hc2⟩:=hc
  repeat (first|(first|refine ah ?_|refine sat_nd ?_)|refine ag (aU hc2 rfl) ?_|refine ag (FK hc2 rfl) ?_|refine ag (ES (_bl:=bl) hc2) ?_)
  refine ax (fun h=>?_) (fun h=>?_)
  ·have h:(!aO f r (tk zs)||decide (aP (tk zs) false<0)||decide (aP (tk zs) true<0)||chkL f r (tk zs) (!bl))=true:=h
   rw[aM]at h
   exact ae (ai (.inr rfl) rfl rfl rfl (by simp only[lV,h,cond_true]))
  have h:(!aO f r (tk zs)||decide (aP (tk zs) false<0)||decide (aP (tk zs) true<0)||chkL f r (tk zs) (!bl))=false:=h
  rw[aM]at h
  have h':=h
  simp only[Bool.or_eq_false_iff,Bool.not_eq_false']at h'
  obtain⟨hvs,_,hbd,_⟩:=bj h'.1.1.1
  have hf0:(!decide (f=0))=true:=by have:=dB hvs;simp;omega
  have hf1:∀ g:Bool,(!g||!decide (f=0))=true:=fun g=>by rw[hf0];simp
  have h88:=v88 hbd
  have h88t:(!decide (f=8)||!decide (r=8)||decide ((tk zs).length=64))=true:=by rw[aM];exact h88
  have hbdt:aH f r (tk zs)=true:=by rw[aM];exact hbd
  refine cD hE 2 (fun i (_:Unit)=>([(1,.ptr 1 0 0),(4,I i)],[.ints false .i8 zs,.cells true [I f,I r,.sl 0 0 zs.length none,Bb bl,.int .u8 ca,I pa,I ha,I fu]])) zs.length (fun j _=>∀ k,k<j->pwL f r zs (k:Nat)=false) () (by omega) (Ent.ren [0,1] [1,4] rfl rfl rfl) (fun k hk=>absurd hk (by omega)) ?_
  intro j i _ hij hj hz
  refine ax (fun hlt=>?_) (fun hlt=>?_)
  ·have hlt':j<zs.length:=by simp at hlt;omega
   repeat (first|(first|refine ah ?_|refine sat_nd ?_)|refine ag (by simp only[Bool.and_eq_true,decide_eq_true_eq];omega) ?_|refine ag (hf1 _) ?_|refine ag (vy ⟨by omega,by omega⟩) ?_)
   refine ax (fun hon=>?_) (fun hon=>?_)
   ·have hon:pwL f r zs i=true:=hon
    have hpw:tc f r zs=true:=List.any_eq_true.2 ⟨j,List.mem_range.2 hlt',by rw[<-hij];exact hon⟩
    exact ae (ae (ai (.inr rfl) rfl rfl rfl (by simp only[lV,h,hpw,cond_true,cond_false])))
   ·have hon:pwL f r zs i=false:=hon
    refine ae ⟨hlt',(),fun k hk=>?_,Ent.ren [0,1] [1,4] rfl rfl rfl⟩
    rcases Nat.lt_or_ge k j with hk2|hk2
    ·exact hz k hk2
    ·obtain rfl:k=j:=by omega
     rw[<-hij];exact hon
  ·obtain rfl:j=zs.length:=by simp at hlt;omega
   have hpw:tc f r zs=false:=List.any_eq_false.2 fun k hk=>by rw[hz k (List.mem_range.1 hk)];simp
   refine ae ?_
   repeat (first|(first|refine ah ?_|refine sat_nd ?_)|refine ag (aU hc2 rfl) ?_|refine ag (bh hc2 rfl h88t) ?_|refine ag (yV hc2 hbdt) ?_|refine ag (yV hc2 h88t) ?_)
   exact ae (ai (.inr rfl) rfl rfl rfl (by
    show V.bool (ng f r (tk zs) ca&&pasL f r (tk zs) bl pa ha&&decide (0<=ha)&&decide (ha<=10000)&&decide (1<=fu)&&decide (fu<=10000))=_
    rw[aM];simp only[lV,h,hpw,cond_false]))
 ·cases e
end
section
variable{kDb:Bool}
abbrev u8or(a b:Int):Int:=band .or .u8 a b
def aW(bl:Bool)(ca a b:Int)(c:Bool)(bit k to:Int):Bool:=!(c==bl)||decide (bQ ca bit=0)||!decide (k=a)||!decide (to=b)
def wayN(zs:List Int)(bl:Bool)(ca a b:Int):Nat:=bif !decide (absP (zs.getD a.toNat 0)=6)then 4 else bif !aW bl ca a b false 1 4 6 then 0 else bif !aW bl ca a b false 2 4 2 then 1 else bif !aW bl ca a b true 4 60 62 then 2 else bif !aW bl ca a b true 8 60 58 then 3 else 4
def wBit(n:Nat):Int:=([1,2,4,8,0]:List Int).getD n 0
def wBl(n:Nat):Bool:=[false,false,true,true,false].getD n false
def kV(n:Nat):Int:=([4,4,60,60,0]:List Int).getD n 0
def wTo(n:Nat):Int:=([6,2,62,58,0]:List Int).getD n 0
def wCor(n:Nat):Int:=([7,0,63,56,0]:List Int).getD n 0
def wCro(n:Nat):Int:=([5,3,61,59,0]:List Int).getD n 0
def wayB(f r:Int)(zs:List Int)(n:Nat):Bool:=!decide (n=4)&&decide (uand (bF f r (kV n) (wCor n)).1 (occR f r zs)=0)
def Kw(r:Int)(bl:Bool):Int:=bif bl then 0 else i64.wrap (r-1)
def gU(f r:Int)(zs:List Int)(bl:Bool)(pa a b pr:Int):Bool:=
 bif !decide (absP (zs.getD a.toNat 0)=1)then decide (pr=0)&&decide (uand (ushr (bO f r (absP (zs.getD a.toNat 0)) a (occR f r zs)).1 b) 1=1)
 else decide (uand (ushr (uor (cH f r bl a (occR f r zs)).1 (bif decide (zs.getD b.toNat 0=0)&&!decide (b=pa)then 0 else(fN f r bl a).1)) b) 1=1)&&((!decide (pr=0))==decide (i64.wrap (b.tdiv f)=Kw r bl))
def chkB(f r:Int)(zs:List Int)(b:Bool):Bool:=!decide ((aZ f r zs b).1=0)
def de(at_ s k q bit:Int):Int:=bif decide (k=at_)||decide (q=at_)then u8or s bit else s
def AU(at_:Int):Int:=de at_ (de at_ (de at_ (de at_ 0 4 7 1) 4 0 2) 60 63 4) 60 56 8
theorem rM{at_ s k q bit:Int}(h:(decide (k=at_)||decide (q=at_))=true):de at_ s k q bit=u8or s bit:=by rw[de,h];rfl
theorem rf{at_ s k q bit:Int}(h:(decide (k=at_)||decide (q=at_))=false):de at_ s k q bit=s:=by rw[de,h];rfl
theorem nL{g:Bool}{b:Int}(h:0<=b):(!g||decide (0<=b))=true:=by simp[h]
theorem aL{zs:List Int}{b:Int}(h:0<=b)(h1:b<zs.length):(decide (0<=b)&&decide (b<zs.length))=true:=by simp[h,h1]
def yP:CF
 |[.agg [.int .i64 f,.int .i64 r,.sl 0 0 len none,.bool _bl,.int .u8 _ca,.int .i64 _pa,.int .i64 _ha,.int .i64 _fu]],[.ints false .i8 zs]=>some (decide (len=zs.length)&&decide (zs.length<=64),.int .u64 (occR f r zs),[])
 |_,_=>none
theorem uD:CtOk (GGx true kDb) PP (156,yP):=by
 refine aD Tryz.func156 (by kernel_rfl) rfl fun a0 h0 c0 v0 N0 e hc=>?_
 unfold yP at e
 split at e
 ·rename_i f r len bl ca pa ha fu zs
  cases e
  have hE:=aC (kCa:=true) (kDb:=kDb) (cts:=[(149,nM)]) (inl:=[]) ⟨jW,trivial⟩ trivial
  refine aq hE 2 Tryz.func156 rfl rfl ?_
  simp only[Bool.and_eq_true,decide_eq_true_eq]at hc
  obtain⟨rfl,hc2⟩:=hc
  repeat (first|(first|refine ah ?_|refine sat_nd ?_)|refine ag (aU hc2 rfl) ?_)
  refine ae (ai (.inr rfl) rfl rfl rfl (by
   show V.int .u64 (occR f r (tk zs))=_
   rw[aM]))
 ·cases e
def Cf:CF
 |[.agg [.int .i64 f,.int .i64 r,.sl 0 0 len none,.bool _bl,.int .u8 _ca,.int .i64 _pa,.int .i64 _ha,.int .i64 _fu],.bool b],[.ints false .i8 zs]=>some (decide (len=zs.length)&&decide (zs.length<=64),.bool (chkB f r zs b),[])
 |_,_=>none
theorem CR:CtOk (GGx true kDb) PP (118,Cf):=by
 refine aD Tryz.func118 (by kernel_rfl) rfl fun a0 h0 c0 v0 N0 e hc=>?_
 unfold Cf at e
 split at e
 ·rename_i f r len bl ca pa ha fu b zs
  cases e
  have hE:=aC (kCa:=true) (kDb:=kDb) (cts:=[(28,ej)]) (inl:=[]) ⟨dX,trivial⟩ trivial
  refine aq hE 2 Tryz.func118 rfl rfl ?_
  simp only[Bool.and_eq_true,decide_eq_true_eq]at hc
  obtain⟨rfl,hc2⟩:=hc
  repeat (first|(first|refine ah ?_|refine sat_nd ?_)|refine ag (aU hc2 rfl) ?_)
  refine ae (ai (.inr rfl) rfl rfl rfl (by
   show V.bool (chkB f r (tk zs) b)=_
   rw[aM]))
 ·cases e
def hY:CF
 |[.agg [.int .i64 f,.int .i64 r,.sl 0 0 len none,.bool bl,.int .u8 ca,.int .i64 _pa,.int .i64 _ha,.int .i64 _fu],.agg [.int .i64 a,.int .i64 b,.int .i8 _pr]],[.ints false .i8 zs]=>some (decide (len=zs.length)&&decide (zs.length<=64)&&(aH f r zs&&ak f r a&&ak f r b),.tup [.agg [.int .u8 (wBit (wayN zs bl ca a b)),Bb (wBl (wayN zs bl ca a b)),I (kV (wayN zs bl ca a b)),I (wTo (wayN zs bl ca a b)),I (wCor (wayN zs bl ca a b)),I (wCro (wayN zs bl ca a b))],Bb (wayB f r zs (wayN zs bl ca a b))],[])
 |_,_=>none
theorem oq:CtOk (GGx true kDb) PP (113,hY):=by
 refine aD Tryz.func113 (by kernel_rfl) rfl fun a0 h0 c0 v0 N0 e hc=>?_
 unfold hY at e
 split at e
 ·rename_i f r len bl ca pa ha fu a b pr zs
  cases e
  have hE:=aC (kCa:=true) (kDb:=kDb) (cts:=[(115,sP),(155,fW),(156,yP)]) (inl:=[]) ⟨mc,tx,uD,trivial⟩ trivial
  refine BI hE 2 Tryz.func113 rfl rfl ?_
  simp only[Bool.and_eq_true,decide_eq_true_eq]at hc
  obtain⟨⟨rfl,hc2⟩,⟨hbd,hva⟩,hvb⟩:=hc
  obtain⟨ha0,ha1⟩:=(cw hbd).1 hva
  obtain⟨hb0,hb1⟩:=(cw hbd).1 hvb
  repeat (first|(first|refine ah ?_|refine sat_nd ?_)|refine ag (aL ha0 ha1) ?_)
  refine ax (fun hk=>?_) (fun hk=>?_)
  ·have hk:(!decide (absP (zs.getD a.toNat 0)=6))=true:=hk
   have hn:wayN zs bl ca a b=4:=by rw[wayN,hk,cond_true]
   refine ae (vt (ai (.inr rfl) rfl rfl rfl rfl) ?_)
   rw[hn]
   exact fun _ _ h=>h
  have hk:(!decide (absP (zs.getD a.toNat 0)=6))=false:=hk
  refine ei hE 2 5 ?_
  refine rnd ?_
  refine da (by rfl) ?_
  repeat (first|refine ah ?_|refine sat_nd ?_)
  refine ax (fun h0=>?_) (fun h0=>?_)
  rotate_left
  ·have h0:aW bl ca a b false 1 4 6=false:=h0
   have hn:wayN zs bl ca a b=0:=by simp only[wayN,hk,h0,Bool.not_false,cond_true,cond_false]
   repeat (first|(first|refine ah ?_|refine sat_nd ?_)|refine ag (aU hc2 rfl) ?_)
   refine ae (ae (vt (ai (.inr rfl) rfl rfl rfl rfl) ?_))
   rw[hn]
   show Like (V.tup [.agg [.int .u8 1,.lit false,I 4,I 6,I 7,I 5],Bb (decide (uand (bF f r 4 7).1 (occR f r (tk zs))=0))]) _
   rw[aM]
   exact fun _ _ h=>h
  have h0:aW bl ca a b false 1 4 6=true:=h0
  refine ae ⟨[(2,.ptr 1 0 0),(3,.ptr 2 0 0),(4,.ptr 3 0 0),(19,.agg [.int .u8 1,.lit false,.int .i64 4,.int .i64 6,.int .i64 7,.int .i64 5,.int .u8 2,.lit false,.int .i64 4,.int .i64 2,.int .i64 0,.int .i64 3,.int .u8 4,.lit true,.int .i64 60,.int .i64 62,.int .i64 63,.int .i64 61,.int .u8 8,.lit true,.int .i64 60,.int .i64 58,.int .i64 56,.int .i64 59]),(20,I 1)],[.ints false .i8 zs,.cells true [I f,I r,.sl 0 0 zs.length none,Bb bl,.int .u8 ca,I pa,I ha,I fu],.cells true [I a,I b,.int .i8 pr],.cells true [.int .u8 0,.lit false,I 0,I 0,I 0,I 0]],Ent.ren [0,1,2,3] [2,3,4,19,20] rfl rfl rfl,?_⟩
  refine rnd ?_
  refine da (by rfl) ?_
  repeat (first|refine ah ?_|refine sat_nd ?_)
  refine ax (fun h1=>?_) (fun h1=>?_)
  rotate_left
  ·have h1:aW bl ca a b false 2 4 2=false:=h1
   have hn:wayN zs bl ca a b=1:=by simp only[wayN,hk,h0,h1,Bool.not_true,Bool.not_false,cond_true,cond_false]
   repeat (first|(first|refine ah ?_|refine sat_nd ?_)|refine ag (aU hc2 rfl) ?_)
   refine ae (ae (vt (ai (.inr rfl) rfl rfl rfl rfl) ?_))
   rw[hn]
   show Like (V.tup [.agg [.int .u8 2,.lit false,I 4,I 2,I 0,I 3],Bb (decide (uand (bF f r 4 0).1 (occR f r (tk zs))=0))]) _
   rw[aM]
   exact fun _ _ h=>h
  have h1:aW bl ca a b false 2 4 2=true:=h1
  refine ae ⟨[(2,.ptr 1 0 0),(3,.ptr 2 0 0),(4,.ptr 3 0 0),(19,.agg [.int .u8 1,.lit false,.int .i64 4,.int .i64 6,.int .i64 7,.int .i64 5,.int .u8 2,.lit false,.int .i64 4,.int .i64 2,.int .i64 0,.int .i64 3,.int .u8 4,.lit true,.int .i64 60,.int .i64 62,.int .i64 63,.int .i64 61,.int .u8 8,.lit true,.int .i64 60,.int .i64 58,.int .i64 56,.int .i64 59]),(20,I 2)],[.ints false .i8 zs,.cells true [I f,I r,.sl 0 0 zs.length none,Bb bl,.int .u8 ca,I pa,I ha,I fu],.cells true [I a,I b,.int .i8 pr],.cells true [.int .u8 0,.lit false,I 0,I 0,I 0,I 0]],Ent.ren [0,1,2,3] [2,3,4,19,20] rfl rfl rfl,?_⟩
  refine rnd ?_
  refine da (by rfl) ?_
  repeat (first|refine ah ?_|refine sat_nd ?_)
  refine ax (fun h2=>?_) (fun h2=>?_)
  rotate_left
  ·have h2:aW bl ca a b true 4 60 62=false:=h2
   have hn:wayN zs bl ca a b=2:=by simp only[wayN,hk,h0,h1,h2,Bool.not_true,Bool.not_false,cond_true,cond_false]
   repeat (first|(first|refine ah ?_|refine sat_nd ?_)|refine ag (aU hc2 rfl) ?_)
   refine ae (ae (vt (ai (.inr rfl) rfl rfl rfl rfl) ?_))
   rw[hn]
   show Like (V.tup [.agg [.int .u8 4,.lit true,I 60,I 62,I 63,I 61],Bb (decide (uand (bF f r 60 63).1 (occR f r (tk zs))=0))]) _
   rw[aM]
   exact fun _ _ h=>h
  have h2:aW bl ca a b true 4 60 62=true:=h2
  refine ae ⟨[(2,.ptr 1 0 0),(3,.ptr 2 0 0),(4,.ptr 3 0 0),(19,.agg [.int .u8 1,.lit false,.int .i64 4,.int .i64 6,.int .i64 7,.int .i64 5,.int .u8 2,.lit false,.int .i64 4,.int .i64 2,.int .i64 0,.int .i64 3,.int .u8 4,.lit true,.int .i64 60,.int .i64 62,.int .i64 63,.int .i64 61,.int .u8 8,.lit true,.int .i64 60,.int .i64 58,.int .i64 56,.int .i64 59]),(20,I 3)],[.ints false .i8 zs,.cells true [I f,I r,.sl 0 0 zs.length none,Bb bl,.int .u8 ca,I pa,I ha,I fu],.cells true [I a,I b,.int .i8 pr],.cells true [.int .u8 0,.lit false,I 0,I 0,I 0,I 0]],Ent.ren [0,1,2,3] [2,3,4,19,20] rfl rfl rfl,?_⟩
  refine rnd ?_
  refine da (by rfl) ?_
  repeat (first|refine ah ?_|refine sat_nd ?_)
  refine ax (fun h3=>?_) (fun h3=>?_)
  rotate_left
  ·have h3:aW bl ca a b true 8 60 58=false:=h3
   have hn:wayN zs bl ca a b=3:=by simp only[wayN,hk,h0,h1,h2,h3,Bool.not_true,Bool.not_false,cond_true,cond_false]
   repeat (first|(first|refine ah ?_|refine sat_nd ?_)|refine ag (aU hc2 rfl) ?_)
   refine ae (ae (vt (ai (.inr rfl) rfl rfl rfl rfl) ?_))
   rw[hn]
   show Like (V.tup [.agg [.int .u8 8,.lit true,I 60,I 58,I 56,I 59],Bb (decide (uand (bF f r 60 56).1 (occR f r (tk zs))=0))]) _
   rw[aM]
   exact fun _ _ h=>h
  have h3:aW bl ca a b true 8 60 58=true:=h3
  refine ae ⟨[(2,.ptr 1 0 0),(3,.ptr 2 0 0),(4,.ptr 3 0 0),(19,.agg [.int .u8 1,.lit false,.int .i64 4,.int .i64 6,.int .i64 7,.int .i64 5,.int .u8 2,.lit false,.int .i64 4,.int .i64 2,.int .i64 0,.int .i64 3,.int .u8 4,.lit true,.int .i64 60,.int .i64 62,.int .i64 63,.int .i64 61,.int .u8 8,.lit true,.int .i64 60,.int .i64 58,.int .i64 56,.int .i64 59]),(20,I 4)],[.ints false .i8 zs,.cells true [I f,I r,.sl 0 0 zs.length none,Bb bl,.int .u8 ca,I pa,I ha,I fu],.cells true [I a,I b,.int .i8 pr],.cells true [.int .u8 0,.lit false,I 0,I 0,I 0,I 0]],Ent.ren [0,1,2,3] [2,3,4,19,20] rfl rfl rfl,?_⟩
  refine rnd ?_
  refine xA (by rfl) ?_
  have hn:wayN zs bl ca a b=4:=by simp only[wayN,hk,h0,h1,h2,h3,Bool.not_true,cond_false]
  refine ae (ae (vt (ai (.inr rfl) rfl rfl rfl rfl) ?_))
  rw[hn]
  exact fun _ _ h=>h
 ·cases e
def vJ:CF
 |[.agg [.int .i64 f,.int .i64 r,.sl 0 0 len none,.bool bl,.int .u8 _ca,.int .i64 pa,.int .i64 _ha,.int .i64 _fu],.agg [.int .i64 a,.int .i64 b,.int .i8 pr]],[.ints false .i8 zs]=>some (decide (len=zs.length)&&decide (zs.length<=64)&&(aH f r zs&&ak f r a&&ak f r b),.bool (gU f r zs bl pa a b pr),[])
 |_,_=>none
theorem Ad:CtOk (GGx true kDb) PP (114,vJ):=by
 refine aD Tryz.func114 (by kernel_rfl) rfl fun a0 h0 c0 v0 N0 e hc=>?_
 unfold vJ at e
 split at e
 ·rename_i f r len bl ca pa ha fu a b pr zs
  cases e
  have hE:=aC (kCa:=true) (kDb:=kDb) (cts:=[(115,sP),(156,yP),(154,mG),(157,rK),(153,tC)]) (inl:=[]) ⟨mc,uD,ke,po,mm,trivial⟩ trivial
  refine aq hE 2 Tryz.func114 rfl rfl ?_
  simp only[Bool.and_eq_true,decide_eq_true_eq]at hc
  obtain⟨⟨rfl,hc2⟩,⟨hbd,hva⟩,hvb⟩:=hc
  obtain⟨ha0,ha1⟩:=(cw hbd).1 hva
  obtain⟨hb0,hb1⟩:=(cw hbd).1 hvb
  have hf0:f≠0:=by have:=dB (bL hbd).1;omega
  repeat (first|(first|refine ah ?_|refine sat_nd ?_)|refine ag (aL ha0 ha1) ?_)
  refine ax (fun hk=>?_) (fun hk=>?_)
  ·have hk:(!decide (absP (zs.getD a.toNat 0)=1))=true:=hk
   repeat (first|(first|refine ah ?_|refine sat_nd ?_)|refine ag (aU hc2 rfl) ?_|refine ag (nL hb0) ?_)
   exact ae (ai (.inr rfl) rfl rfl rfl (congrArg V.bool (by
    show (decide (pr=0)&&decide (uand (ushr (bO f r (absP (zs.getD a.toNat 0)) a (occR f r (tk zs))).1 b) 1=1))=_
    rw[aM,gU,hk];rfl)))
  have hk:(!decide (absP (zs.getD a.toNat 0)=1))=false:=hk
  repeat (first|refine ah ?_|refine sat_nd ?_)
  refine ax (fun hb=>?_) (fun hb=>?_)
  ·subst hb
   repeat (first|(first|refine ah ?_|refine sat_nd ?_)|refine ag (aU hc2 rfl) ?_|refine ag (aL ha0 ha1) ?_|refine ag (aL hb0 hb1) ?_|refine ag (nL hb0) ?_|refine ag (gd hf0) ?_)
   refine ax (fun hz=>?_) (fun hz=>?_)
   ·have hz:(decide (zs.getD b.toNat 0=0)&&!decide (b=pa))=true:=hz
    repeat (first|(first|refine ah ?_|refine sat_nd ?_)|refine ag (aU hc2 rfl) ?_|refine ag (aL ha0 ha1) ?_|refine ag (aL hb0 hb1) ?_|refine ag (nL hb0) ?_|refine ag (gd hf0) ?_)
    exact ae (ai (.inr rfl) rfl rfl rfl (congrArg V.bool (by
     show (decide (uand (ushr (uor (cH f r true a (occR f r (tk zs))).1 (0)) b) 1=1)&&((!decide (pr=0))==decide (i64.wrap (b.tdiv f)=0)))=_
     rw[aM,gU,hk,cond_false,hz];rfl)))
   ·have hz:(decide (zs.getD b.toNat 0=0)&&!decide (b=pa))=false:=hz
    repeat (first|(first|refine ah ?_|refine sat_nd ?_)|refine ag (aU hc2 rfl) ?_|refine ag (aL ha0 ha1) ?_|refine ag (aL hb0 hb1) ?_|refine ag (nL hb0) ?_|refine ag (gd hf0) ?_)
    exact ae (ai (.inr rfl) rfl rfl rfl (congrArg V.bool (by
     show (decide (uand (ushr (uor (cH f r true a (occR f r (tk zs))).1 ((fN f r true a).1)) b) 1=1)&&((!decide (pr=0))==decide (i64.wrap (b.tdiv f)=0)))=_
     rw[aM,gU,hk,cond_false,hz];rfl)))
  ·subst hb
   repeat (first|(first|refine ah ?_|refine sat_nd ?_)|refine ag (aU hc2 rfl) ?_|refine ag (aL ha0 ha1) ?_|refine ag (aL hb0 hb1) ?_|refine ag (nL hb0) ?_|refine ag (gd hf0) ?_)
   refine ax (fun hz=>?_) (fun hz=>?_)
   ·have hz:(decide (zs.getD b.toNat 0=0)&&!decide (b=pa))=true:=hz
    repeat (first|(first|refine ah ?_|refine sat_nd ?_)|refine ag (aU hc2 rfl) ?_|refine ag (aL ha0 ha1) ?_|refine ag (aL hb0 hb1) ?_|refine ag (nL hb0) ?_|refine ag (gd hf0) ?_)
    exact ae (ai (.inr rfl) rfl rfl rfl (congrArg V.bool (by
     show (decide (uand (ushr (uor (cH f r false a (occR f r (tk zs))).1 (0)) b) 1=1)&&((!decide (pr=0))==decide (i64.wrap (b.tdiv f)=i64.wrap (r-1))))=_
     rw[aM,gU,hk,cond_false,hz];rfl)))
   ·have hz:(decide (zs.getD b.toNat 0=0)&&!decide (b=pa))=false:=hz
    repeat (first|(first|refine ah ?_|refine sat_nd ?_)|refine ag (aU hc2 rfl) ?_|refine ag (aL ha0 ha1) ?_|refine ag (aL hb0 hb1) ?_|refine ag (nL hb0) ?_|refine ag (gd hf0) ?_)
    exact ae (ai (.inr rfl) rfl rfl rfl (congrArg V.bool (by
     show (decide (uand (ushr (uor (cH f r false a (occR f r (tk zs))).1 ((fN f r false a).1)) b) 1=1)&&((!decide (pr=0))==decide (i64.wrap (b.tdiv f)=i64.wrap (r-1))))=_
     rw[aM,gU,hk,cond_false,hz];rfl)))
 ·cases e
def vl:CF
 |[.int .i64 at_],[]=>some (true,.int .u8 (AU at_),[])
 |_,_=>none
theorem Az:CtOk (GGx true kDb) PP (116,vl):=by
 refine aD Tryz.func116 (by kernel_rfl) rfl fun a0 h0 c0 v0 N0 e hc=>?_
 unfold vl at e
 split at e
 ·rename_i at_
  cases e
  have hE:=cutE (aC (kCa:=true) (kDb:=kDb) (cts:=[]) (inl:=[]) trivial trivial)
  refine aq hE 2 Tryz.func116 rfl rfl ?_
  repeat (first|refine ah ?_|refine sat_nd ?_)
  refine ei hE 2 5 ?_
  refine rnd ?_
  refine bP hE 2 rfl (fun _=>?_) (fun h=>absurd h (by decide))
  repeat (first|refine ah ?_|refine sat_nd ?_)
  refine cL hE 2 (fun e tm hp=>e=.normal/\tm=[(0,I at_),(3,.int .u8 (de at_ 0 4 7 1)),(6,.agg [.int .u8 1,.lit false,.int .i64 4,.int .i64 6,.int .i64 7,.int .i64 5,.int .u8 2,.lit false,.int .i64 4,.int .i64 2,.int .i64 0,.int .i64 3,.int .u8 4,.lit true,.int .i64 60,.int .i64 62,.int .i64 63,.int .i64 61,.int .u8 8,.lit true,.int .i64 60,.int .i64 58,.int .i64 56,.int .i64 59]),(7,I 0)]/\hp=[]) rfl (fun h=>?_) (fun h=>?_) ?_
  ·have h:(decide (4=at_)||decide (7=at_))=true:=h
   exact ae ⟨_,_,Ent.ren [] [0,3,6,7] rfl rfl rfl,rfl,by rw[rM h],rfl⟩
  ·have h:(decide (4=at_)||decide (7=at_))=false:=h
   exact ae ⟨_,_,Ent.ren [] [0,3,6,7] rfl rfl rfl,rfl,by rw[rf h],rfl⟩
  rintro e tm hp ⟨rfl,rfl,rfl⟩
  refine ae ⟨[(0,I at_),(3,.int .u8 (de at_ 0 4 7 1)),(6,.agg [.int .u8 1,.lit false,.int .i64 4,.int .i64 6,.int .i64 7,.int .i64 5,.int .u8 2,.lit false,.int .i64 4,.int .i64 2,.int .i64 0,.int .i64 3,.int .u8 4,.lit true,.int .i64 60,.int .i64 62,.int .i64 63,.int .i64 61,.int .u8 8,.lit true,.int .i64 60,.int .i64 58,.int .i64 56,.int .i64 59]),(7,I 1)],[],Ent.ren [] [0,3,6,7] rfl rfl rfl,?_⟩
  refine rnd ?_
  refine bP hE 2 rfl (fun _=>?_) (fun h=>absurd h (by decide))
  repeat (first|refine ah ?_|refine sat_nd ?_)
  refine cL hE 2 (fun e tm hp=>e=.normal/\tm=[(0,I at_),(3,.int .u8 (de at_ (de at_ 0 4 7 1) 4 0 2)),(6,.agg [.int .u8 1,.lit false,.int .i64 4,.int .i64 6,.int .i64 7,.int .i64 5,.int .u8 2,.lit false,.int .i64 4,.int .i64 2,.int .i64 0,.int .i64 3,.int .u8 4,.lit true,.int .i64 60,.int .i64 62,.int .i64 63,.int .i64 61,.int .u8 8,.lit true,.int .i64 60,.int .i64 58,.int .i64 56,.int .i64 59]),(7,I 1)]/\hp=[]) rfl (fun h=>?_) (fun h=>?_) ?_
  ·have h:(decide (4=at_)||decide (0=at_))=true:=h
   exact ae ⟨_,_,Ent.ren [] [0,3,6,7] rfl rfl rfl,rfl,by rw[rM h],rfl⟩
  ·have h:(decide (4=at_)||decide (0=at_))=false:=h
   exact ae ⟨_,_,Ent.ren [] [0,3,6,7] rfl rfl rfl,rfl,by rw[rf h],rfl⟩
  rintro e tm hp ⟨rfl,rfl,rfl⟩
  refine ae ⟨[(0,I at_),(3,.int .u8 (de at_ (de at_ 0 4 7 1) 4 0 2)),(6,.agg [.int .u8 1,.lit false,.int .i64 4,.int .i64 6,.int .i64 7,.int .i64 5,.int .u8 2,.lit false,.int .i64 4,.int .i64 2,.int .i64 0,.int .i64 3,.int .u8 4,.lit true,.int .i64 60,.int .i64 62,.int .i64 63,.int .i64 61,.int .u8 8,.lit true,.int .i64 60,.int .i64 58,.int .i64 56,.int .i64 59]),(7,I 2)],[],Ent.ren [] [0,3,6,7] rfl rfl rfl,?_⟩
  refine rnd ?_
  refine bP hE 2 rfl (fun _=>?_) (fun h=>absurd h (by decide))
  repeat (first|refine ah ?_|refine sat_nd ?_)
  refine cL hE 2 (fun e tm hp=>e=.normal/\tm=[(0,I at_),(3,.int .u8 (de at_ (de at_ (de at_ 0 4 7 1) 4 0 2) 60 63 4)),(6,.agg [.int .u8 1,.lit false,.int .i64 4,.int .i64 6,.int .i64 7,.int .i64 5,.int .u8 2,.lit false,.int .i64 4,.int .i64 2,.int .i64 0,.int .i64 3,.int .u8 4,.lit true,.int .i64 60,.int .i64 62,.int .i64 63,.int .i64 61,.int .u8 8,.lit true,.int .i64 60,.int .i64 58,.int .i64 56,.int .i64 59]),(7,I 2)]/\hp=[]) rfl (fun h=>?_) (fun h=>?_) ?_
  ·have h:(decide (60=at_)||decide (63=at_))=true:=h
   exact ae ⟨_,_,Ent.ren [] [0,3,6,7] rfl rfl rfl,rfl,by rw[rM h],rfl⟩
  ·have h:(decide (60=at_)||decide (63=at_))=false:=h
   exact ae ⟨_,_,Ent.ren [] [0,3,6,7] rfl rfl rfl,rfl,by rw[rf h],rfl⟩
  rintro e tm hp ⟨rfl,rfl,rfl⟩
  refine ae ⟨[(0,I at_),(3,.int .u8 (de at_ (de at_ (de at_ 0 4 7 1) 4 0 2) 60 63 4)),(6,.agg [.int .u8 1,.lit false,.int .i64 4,.int .i64 6,.int .i64 7,.int .i64 5,.int .u8 2,.lit false,.int .i64 4,.int .i64 2,.int .i64 0,.int .i64 3,.int .u8 4,.lit true,.int .i64 60,.int .i64 62,.int .i64 63,.int .i64 61,.int .u8 8,.lit true,.int .i64 60,.int .i64 58,.int .i64 56,.int .i64 59]),(7,I 3)],[],Ent.ren [] [0,3,6,7] rfl rfl rfl,?_⟩
  refine rnd ?_
  refine bP hE 2 rfl (fun _=>?_) (fun h=>absurd h (by decide))
  repeat (first|refine ah ?_|refine sat_nd ?_)
  refine cL hE 2 (fun e tm hp=>e=.normal/\tm=[(0,I at_),(3,.int .u8 (de at_ (de at_ (de at_ (de at_ 0 4 7 1) 4 0 2) 60 63 4) 60 56 8)),(6,.agg [.int .u8 1,.lit false,.int .i64 4,.int .i64 6,.int .i64 7,.int .i64 5,.int .u8 2,.lit false,.int .i64 4,.int .i64 2,.int .i64 0,.int .i64 3,.int .u8 4,.lit true,.int .i64 60,.int .i64 62,.int .i64 63,.int .i64 61,.int .u8 8,.lit true,.int .i64 60,.int .i64 58,.int .i64 56,.int .i64 59]),(7,I 3)]/\hp=[]) rfl (fun h=>?_) (fun h=>?_) ?_
  ·have h:(decide (60=at_)||decide (56=at_))=true:=h
   exact ae ⟨_,_,Ent.ren [] [0,3,6,7] rfl rfl rfl,rfl,by rw[rM h],rfl⟩
  ·have h:(decide (60=at_)||decide (56=at_))=false:=h
   exact ae ⟨_,_,Ent.ren [] [0,3,6,7] rfl rfl rfl,rfl,by rw[rf h],rfl⟩
  rintro e tm hp ⟨rfl,rfl,rfl⟩
  refine ae ⟨[(0,I at_),(3,.int .u8 (de at_ (de at_ (de at_ (de at_ 0 4 7 1) 4 0 2) 60 63 4) 60 56 8)),(6,.agg [.int .u8 1,.lit false,.int .i64 4,.int .i64 6,.int .i64 7,.int .i64 5,.int .u8 2,.lit false,.int .i64 4,.int .i64 2,.int .i64 0,.int .i64 3,.int .u8 4,.lit true,.int .i64 60,.int .i64 62,.int .i64 63,.int .i64 61,.int .u8 8,.lit true,.int .i64 60,.int .i64 58,.int .i64 56,.int .i64 59]),(7,I 4)],[],Ent.ren [] [0,3,6,7] rfl rfl rfl,?_⟩
  refine rnd ?_
  refine bP hE 2 rfl (fun h=>absurd h (by decide)) (fun _=>?_)
  exact ae (ae (ai (.inr rfl) rfl rfl rfl rfl))
 ·cases e
end
end Go.Ab
namespace Go.Ab
open Go.Proofs
section
variable{kCa kDb:Bool}
end
section
variable{kCa kDb:Bool}
def rowN(bit:Int)(i:Nat):List UInt8:=bif decide (bit=1) then([[101,49],[103,49],[104,49],[102,49]]:List (List UInt8)).getD i []else bif decide (bit=2) then([[101,49],[99,49],[97,49],[100,49]]:List (List UInt8)).getD i []else bif decide (bit=4) then([[101,56],[103,56],[104,56],[102,56]]:List (List UInt8)).getD i [] else([[101,56],[99,56],[97,56],[100,56]]:List (List UInt8)).getD i []
def sqW(bit:Int)(i:Nat):Int:=bU 8 8 (rowN bit i)
def gY(zs l:List Int):Bool:=l.all fun i=>decide (zs.getD i.toNat 0=0)
end
section
variable{kCa kDb:Bool}
def cgS(f r:Int)(zs:List Int)(bl:Bool)(ca a b bit:Int):Bool:=decide ((IntKind.u8.wrap (ca.tdiv bit)).tmod 2=1)&&(decide (2<bit)==bl)&&decide (a=sqW bit 0)&&decide (b=sqW bit 1)&&gY zs (cF f r (sqW bit 0) (sqW bit 2))
def cgL(f r:Int)(zs:List Int)(bl:Bool)(ca a b pr:Int):Int:=bif !decide (be (zs.getD a.toNat 0)=6)||!decide (pr=0)then 0 else bif cgS f r zs bl ca a b 1 then 1 else bif cgS f r zs bl ca a b 2 then 2 else bif cgS f r zs bl ca a b 4 then 4 else bif cgS f r zs bl ca a b 8 then 8 else 0
def pnL(f r:Int)(zs:List Int)(bl:Bool)(pa a b pr:Int):Bool:=bif !(decide (IntKind.i64.wrap (b.tdiv f)=fE r bl)==!decide (pr=0))then false else bif hasL b (cT (dW f r bl a (occL zs)) id ((f*r).toNat))then true else hasL b (cT (er f bl a) id ((f*r).toNat))&&(!decide (zs.getD b.toNat 0=0)||decide (b=pa))
def capL(f r:Int)(zs:List Int)(pa a b:Int):Int:=bif decide (be (zs.getD a.toNat 0)=1)&&decide (b=pa)then numR f r (b.tmod f) (IntKind.i64.wrap (a.tdiv f))else bif !decide (zs.getD b.toNat 0=0)then b else -1
end
end Go.Ab
namespace Go.Ab
open Go.Proofs Go.RowKit
section
variable{kCa kDb:Bool}
theorem CC(b:Bool)(k:IntKind)(e:Int):jD PP 110 [.bool b,.int k e] b (.iface 30 (.int k e)):=by
 refine⟨fun us w=>?_,fun ρ us w n hus=>?_⟩
 ·simp only[invoke]
  simp
 ·obtain⟨u1,r1,rfl,h1,u2,r2,rfl,h2,rfl⟩:=hus
  have h1:u1=.bool b:=h1
  have h2:u2=.int k e:=h2
  subst h1;subst h2
  refine callsIn_of_wp_marks Tryz.func110 rfl trivial ?_
  refine wpIn_seq (wpIn_region ?_)
  have hr:(Fr none).round=none:=rfl
  cases b with
  |false=>
   simp[wpOpsIn,go_sem,Exit.then,hr,Oper.semAt_none,Oper.uponIn]
   refine wpIn_cond_false (by simp[Act.eval,Array.replicate]) (wpIn_skip ?_)
   exact⟨_,by simp[results,Tryz.results110],Below.refl _ w,_,rfl,fun ρ=>⟨[],rfl,rfl⟩⟩
  |true=>
   simp[wpOpsIn,go_sem,Exit.then,hr,Oper.semAt_none,Oper.uponIn]
   refine wpIn_cond_true (by simp[Act.eval,Array.replicate]) (wpIn_region ?_)
   simp[wpOpsIn,go_sem,hr,Oper.semAt_none,Oper.uponIn,Instr.panic]
   exact⟨Below.refl _ w,rfl⟩
theorem sZ(b:Nat)(hp:List O)(k:Nat):lf (GGx kCa kDb) PP ⟨109,[],[.ptr b 0 k]⟩ .returning .returning hp fun hp'=>hp'=hp:=by
 refine⟨ent Tryz.func109 (by kernel_rfl) rfl,fun B w0 gs ρ w us n hh hbel hB hgs hus=>?_⟩
 obtain⟨u1,r1,rfl,h1,rfl⟩:=hus
 refine callsDIn_of_wpSIn Tryz.func109 rfl trivial fun c₀ cs hu=>?_
 apply wpSIn_seq
 apply wpSIn_region
 simp[wpOpsSIn,go_sem,recoverD,hu,Exit.thenS]
 have hr:(Fr none).round=none:=rfl
 refine wpSIn_of_wpIn rfl (wpIn_seq (wpIn_region ?_))
 simp[wpOpsIn,go_sem,Exit.then,hr,Oper.semAt_none,Oper.uponIn]
 refine wpIn_block (wpIn_seq (wpIn_region ?_))
 simp[wpOpsIn,go_sem,Exit.then,hr,Oper.semAt_none,Oper.uponIn]
 refine wpIn_cond_true (by simp[Act.eval,Array.replicate]) (wpIn_skip ?_)
 have hc:c₀={ c₀ with mode:=.returning }:=by cases c₀;simp_all
 refine⟨rfl,.returning,?_,.tuple #[],by simp[results,Tryz.results109],rfl,⟨_,rfl⟩,hp,ρ,hh,Ren.le_refl _,hbel,hgs,rfl⟩
 rw[<-hc]
theorem Am{hp:List O}{b:Nat}{v0:V}{n:Int}{ρ:Ren}{B:Nat}{w:World}(hh:HR (GGx kCa kDb) B ρ hp w)(hb:hp.getD b .gone=.cells true [v0]){u:Value}(hu:VR ρ (.ptr b 0 0) u) :
  ∃ w',(Instr.storeAt 30 u (.int .i64 n)).run PP w=.ok () w'/\HR (GGx kCa kDb) B ρ (hp.set b (.cells true [.int .i64 n])) w'/\Below B w w'/\KeepsOthers w w':=by
 have hE:=aC (kCa:=kCa) (kDb:=kDb) (cts:=[]) (inl:=[]) trivial trivial
 have hlt:b<av:=by
  have:=nj (l:=hp) (b:=b) (by rw[hb];simp)
  have:=hh.small
  omega
 have hble:Nat.ble av b=false:=by
  cases h:Nat.ble av b with
  |false=>rfl
  |true=>have:=Nat.le_of_ble_eq_true h;omega
 have ht:TR ρ [(0,.ptr b 0 0),(1,.int .i64 n)] { tmps:=#[u,.int .i64 n],defers:=[] }:=by
  intro t
  rw[bg]
  by_cases h0:0=t
  ·subst h0;simpa using hu
  ·rw[if_neg h0,bg]
   by_cases h1:1=t
   ·subst h1;rw[if_pos rfl];exact rfl
   ·rw[if_neg h1];trivial
 have he:evOp (EE kCa kDb [] []) [(0,.ptr b 0 0),(1,.int .i64 n)] hp (.store 30 (.tmp 0) (.tmp 1))=.store b (.cells true [.int .i64 n]):=by
  show (match Nat.ble av b with|true=>R.bad|false=>match stO (hp.getD b .gone) 0 0 (.int .i64 n) 1 with|some o=>R.store b o|none=>R.bad)=_
  rw[hble,hb]
  rfl
 obtain⟨w',h1,h2,h3,h4⟩:=gO (P:=PP) (o:=⟨none,.store 30 (.tmp 0) (.tmp 1),0, "",#[],none⟩) hE.ok hh ht he
 refine⟨w',?_,h2,h3,h4⟩
 have h1:(do Instr.storeAt 30 u (.int .i64 n);pure Next.skip:Sem Next).run PP w=.ok .skip w':=h1
 simp only[Sem.run_bind]at h1
 cases hx:(Instr.storeAt 30 u (.int .i64 n)).run PP w with
 |ok a w2=>rw[hx]at h1;simp at h1;rw[h1]
 |halt s w2=>rw[hx]at h1;simp[Result.andThen]at h1
theorem Fw(v:Value)(w:World):(Instr.typeAssert (.iface 30 v) 20 30 true).run PP w=.ok (.tuple #[v,.bool true]) w:=by kernel_rfl
theorem iR{b:Nat}{hp:List O}{v0:V}{n0:Int}(hb:hp.getD b .gone=.cells true [v0]):lf (GGx kCa kDb) PP ⟨109,[],[.ptr b 0 0]⟩ (.panicking [{ v:=.iface 30 (.int .i64 n0),recovered:=false }]) (.panicking [{ v:=.iface 30 (.int .i64 n0),recovered:=true }]) hp fun hp'=>hp'=hp.set b (.cells true [.int .i64 n0]):=by
 refine⟨ent Tryz.func109 (by kernel_rfl) rfl,fun B w0 gs ρ w us n hh hbel hB hgs hus=>?_⟩
 obtain⟨u1,r1,rfl,h1,rfl⟩:=hus
 have hu1:=h1
 obtain⟨w',hrun,h2,h3,h4⟩:=Am (n:=n0) hh hb h1
 obtain⟨rg,_,_,_,rfl⟩:=h1
 refine callsDIn_of_wpSIn Tryz.func109 rfl trivial fun c₀ cs hu=>?_
 apply wpSIn_seq
 apply wpSIn_region
 simp[wpOpsSIn,go_sem,recoverD,hu,Exit.thenS]
 have hr:(Fr none).round=none:=rfl
 refine wpSIn_of_wpIn rfl (wpIn_seq (wpIn_region ?_))
 simp[wpOpsIn,go_sem,Exit.then,hr,Oper.semAt_none,Oper.uponIn]
 refine wpIn_block (wpIn_seq (wpIn_region ?_))
 simp[wpOpsIn,go_sem,Exit.then,hr,Oper.semAt_none,Oper.uponIn]
 refine wpIn_cond_false (by simp[Act.eval,Array.replicate]) (wpIn_seq (wpIn_region ?_))
 simp[wpOpsIn,go_sem,Exit.then,hr,Oper.semAt_none,Oper.uponIn,Fw]
 refine wpIn_seq (wpIn_seq (wpIn_region ?_))
 simp[wpOpsIn,go_sem,Exit.then,hr,Oper.semAt_none,Oper.uponIn]
 refine wpIn_cond_false (by simp[Act.eval,Array.replicate]) (wpIn_skip ?_)
 refine wpIn_region ?_
 simp[go_sem]at hrun
 simp[wpOpsIn,go_sem,hr,Oper.semAt_none,Oper.uponIn,hrun]
 exact⟨rfl,.panicking [{ v:=.iface 30 (.int .i64 n0),recovered:=true }],rfl,.tuple #[],by simp[results,Tryz.results109],rfl,⟨_,rfl⟩,_,ρ,h2,Ren.le_refl _,hbel.trans h3,hgs.keeps h4,rfl⟩
end
end Go.Ab
namespace Go.Ab
open Go.Proofs
open Go.Proofs
end Go.Ab
namespace Go.Ab
open Go.Proofs
theorem xP(c:Int->Bool)(n:Nat)(hn:n<=64):Uk (iK (fun s i=>bif c i then uor s (ushl 1 i)else s) 0 n)/\∀ m:Nat,bt (iK (fun s i=>bif c i then uor s (ushl 1 i)else s) 0 n) m=(decide (m<n)&&c m):=by
 induction n with
 |zero=>exact⟨uk_0,fun m=>by simp[iK,bt_0]⟩
 |succ n ih=>
  obtain⟨h1,h2⟩:=ih (by omega)
  simp only[iK]
  cases hc:c n with
  |false=>
   refine⟨h1,fun m=>?_⟩
   rw[cond_false,h2]
   by_cases e:m=n
   ·subst e;simp[hc]
   ·congr 1
    simp;omega
  |true=>
   refine⟨fY _ _,fun m=>?_⟩
   rw[cond_true,eO h1 (hO _ _),hH (by omega) (by omega),h2]
   by_cases e:m=n
   ·subst e;simp[hc]
   ·have e2:¬ ((n:Int)=m):=by omega
    have e3:decide (m<n)=decide (m<n+1):=by congr 1;exact propext ⟨fun h=>by omega,fun h=>by omega⟩
    simp[e2,e3]
theorem xk{zs:List Int}{i:Nat}(h:i<zs.length):zs.getD i 0∈zs:=by simp[List.getD,h]
theorem lM(p:Int->Bool){zs:List Int}(h:zs.length<=64):Uk (eS p zs)/\∀ m:Nat,bt (eS p zs) m=(decide (m<zs.length)&&p (zs.getD m 0)):=by
 have:=xP (fun i=>p (zs.getD i.toNat 0)) zs.length h
 exact this
theorem iQ{f r:Int}{zs:List Int}(h:aH f r zs=true)(hl:zs.length<=64):Uk (occR f r zs)/\∀ m:Nat,bt (occR f r zs) m=(decide (m<zs.length)&&!decide (zs.getD m 0=0)):=by
 obtain⟨h1,h2⟩:=lM posP hl
 obtain⟨h3,h4⟩:=lM negP hl
 unfold occR eA
 rw[h]
 refine⟨fY _ _,fun m=>?_⟩
 show bt (uor (eS posP zs) (eS negP zs)) m=_
 rw[eO h1 h3,h2,h4,<-Bool.and_or_distrib_left]
 congr 1
 unfold posP negP
 rw[Bool.eq_iff_iff]
 simp only[Bool.or_eq_true,decide_eq_true_eq,Bool.not_eq_true',decide_eq_false_iff_not]
 omega
theorem Da{p:Int}:sgn p=1↔0<p:=by have:=iZ p;omega
theorem Cw{p:Int}:sgn p=-1↔p<0:=by have:=iZ p;omega
theorem mj{f r:Int}{zs:List Int}(h:aH f r zs=true)(hl:zs.length<=64):occL zs=occR f r zs:=by
 obtain⟨h1,h2⟩:=iQ h hl
 have hb:∀ x∈cg zs 1++cg zs (-1),0<=x/\x<64:=by
  intro x hx
  rcases List.mem_append.1 hx with hx|hx<;>(have:=gw.1 hx;omega)
 obtain⟨h3,h4⟩:=sr _ 0 hb uk_0
 refine yx h3 h1 fun m hm=>?_
 show bt (ofL (cg zs 1++cg zs (-1)) 0) m=_
 rw[h4,h2,bt_0,Bool.false_or,Bool.eq_iff_iff]
 simp only[decide_eq_true_eq,List.mem_append,gw,Da,Cw,Int.toNat_natCast,Bool.and_eq_true,Bool.not_eq_true',decide_eq_false_iff_not]
 omega
theorem xo{f r:Int}{zs:List Int}(h:aO f r zs=true)(hl:zs.length<=64):OnS f r (occR f r zs):=fun m _ hb=>by
 rw[(iQ (bj h).2.2.1 hl).2,Bool.and_eq_true,decide_eq_true_eq]at hb
 exact(AY h).2 ⟨by omega,by omega⟩
theorem lq{f r:Int}{zs:List Int}(h:aO f r zs=true){i:Int}(h0:0<=i)(h1:i<zs.length):-6<=zs.getD i.toNat 0/\zs.getD i.toNat 0<=6:=(bj h).2.2.2 _ (xk (by omega))
theorem gB{p:Int}(h:-6<=p/\p<=6):be p=p.natAbs:=by
 have hw:∀ q:_root_.Fin 13,be ((q.val:Int)-6)=(((q.val:Int)-6).natAbs:Int):=by decide +kernel
 have h2:=hw ⟨(p+6).toNat,by omega⟩
 simp only at h2
 rwa [show (((p+6).toNat:Int)-6)=p by omega]at h2
theorem tZ{f r kd a occ:Int}(ha:ak f r a=true)(hk:nB kd):bG f r kd a a occ=false:=by
 obtain⟨e1,e2⟩:=gX ha ha
 have hl:(bq f a a).2.2=false:=by
  rcases uh ha ha with⟨e,_⟩|⟨_,h⟩
  ·rw[e]
  ·unfold kJ at h;omega
 have hd:gS f a a=0:=by rw[Hv ha ha,show px f a-px f a=0 by omega,show py f a-py f a=0 by omega];rfl
 unfold bG
 rw[e1,e2,hl,hd,show px f a-px f a=0 by omega,show py f a-py f a=0 by omega]
 rcases hk with rfl|rfl|rfl|rfl|rfl<;>rfl
theorem Kv{f r:Int}{zs:List Int}{occ:Int}(h:aO f r zs=true)(hu:Uk occ)(hon:OnS f r occ){i:Int}(h0:0<=i)(h1:i<zs.length)(hp:zs.getD i.toNat 0≠0) :
  Uk (ofR f r zs i occ)/\OnS f r (ofR f r zs i occ)/\∀ b,ak f r b=true->bt (ofR f r zs i occ) b.toNat=sD f r zs i b occ:=by
 have hi:=(AY h).2 ⟨h0,h1⟩
 have hb:=lq h h0 h1
 obtain⟨hv,hn,_⟩:=bj h
 unfold ofR sD
 rw[Gq hb,gB hb]
 by_cases hk:zs.getD i.toNat 0=1\/zs.getD i.toNat 0=-1
 ·rw[show (decide (zs.getD i.toNat 0=1)||decide (zs.getD i.toNat 0=-1))=true by simpa using hk,show decide (((zs.getD i.toNat 0).natAbs:Int)=1)=true by rw[decide_eq_true_eq];omega,cond_true]
  obtain⟨_,p1,p2,p3⟩:=wC (bl:=decide (zs.getD i.toNat 0<0)) hi
  refine⟨p1,p2,fun b hbv=>?_⟩
  rw[p3 b hbv,cond_true,Bool.eq_iff_iff,jL,dK]
  have:=aE hbv
  exact⟨fun h=>⟨this.1,by omega,h⟩,fun h=>h.2.2⟩
 ·have hk':(decide (zs.getD i.toNat 0=1)||decide (zs.getD i.toNat 0=-1))=false:=by simpa using hk
  rw[hk',show decide (((zs.getD i.toNat 0).natAbs:Int)=1)=false by rw[decide_eq_false_iff_not];omega,cond_false]
  have hr:=(jy hu).2 ⟨hi,hon⟩
  have h5:nB ((zs.getD i.toNat 0).natAbs:Int):=by unfold nB;omega
  obtain⟨p1,p2,p3⟩:=qA hr hu h5
  refine⟨p1,p2,fun b hbv=>?_⟩
  show bt (oF f r _ i occ) b.toNat=_
  rw[p3 b hbv,cond_false]
  by_cases e:i=b
  ·subst e;rw[tZ hi h5];simp
  ·simp[e]
theorem uX(p:Int)(bl:Bool):isP p bl=decide (sgn p=sdI bl):=by
 unfold isP sdI
 rw[Bool.eq_iff_iff]
 cases bl<;>simp[Da,Cw]
theorem xm{p:Int}{bl:Bool}(h:isP p bl=true):p≠0:=by
 rintro rfl;cases bl<;>cases h
theorem lK{f r:Int}{zs:List Int}{to:Int}{bl:Bool}{i:Int}:i∈attL f r zs to bl↔0<=i/\i<zs.length/\isP (zs.getD i.toNat 0) bl=true/\sD f r zs i to (occL zs)=true:=by
 unfold attL
 rw[List.mem_filter,gw,uX,decide_eq_true_eq]
 simp only[zU,and_assoc]
theorem Bp{f r:Int}{zs:List Int}{to:Int}{bl:Bool}(h:aO f r zs=true)(hl:zs.length<=64)(ht:ak f r to=true){i:Int}(h0:0<=i)(h1:i<zs.length):attB f r zs to bl (occR f r zs) i=true↔i∈attL f r zs to bl:=by
 rw[lK]
 unfold attB
 rw[Bool.and_eq_true]
 have ho:=iQ (bj h).2.2.1 hl
 have hv:=aE ht
 constructor
 ·rintro⟨h2,h3⟩
  obtain⟨p1,p2,p3⟩:=Kv h ho.1 (xo h hl) h0 h1 (xm h2)
  rw[oO p1 hv.1 hv.2.2,p3 to ht,<-mj (bj h).2.2.1 hl]at h3
  exact⟨h0,h1,h2,h3⟩
 ·rintro⟨_,_,h2,h3⟩
  obtain⟨p1,p2,p3⟩:=Kv h ho.1 (xo h hl) h0 h1 (xm h2)
  rw[oO p1 hv.1 hv.2.2,p3 to ht,<-mj (bj h).2.2.1 hl]
  exact⟨h2,h3⟩
theorem Cl{f r:Int}{zs:List Int}{to:Int}{bl:Bool}(h:aO f r zs=true)(hl:zs.length<=64)(ht:ak f r to=true):Uk (attR f r zs to bl)/\∀ m:Nat,bt (attR f r zs to bl) m=decide ((m:Int)∈attL f r zs to bl):=by
 obtain⟨h1,h2⟩:=xP (attB f r zs to bl (occR f r zs)) zs.length hl
 refine⟨h1,fun m=>?_⟩
 show bt (iK (fun s i=>bif attB f r zs to bl (occR f r zs) i then uor s (ushl 1 i)else s) 0 zs.length) m=_
 rw[h2,Bool.eq_iff_iff,Bool.and_eq_true,decide_eq_true_eq,decide_eq_true_eq]
 constructor
 ·rintro⟨h3,h4⟩;exact(Bp h hl ht (by omega) (by omega)).1 h4
 ·intro h3
  have:=lK.1 h3
  exact⟨by omega,(Bp h hl ht (by omega) (by omega)).2 h3⟩
end Go.Ab
namespace Go.Ab
open Go.Proofs Go.RowKit
section
variable{kDb:Bool}
theorem uI{E:Env}{P:Program}{N:Nat}{tm:Tm}{hp:List O}{n:Nat}{B:Nat}{w0:World}{S:Nat}{D:List Deferred}{gs:List (Nat×Obj)}{ρ:Ren}{a:Act}{w:World}(hE:E.Fn P)(m:Nat){id:Nat}{ops:Array Oper}(hq:ops.toList.all (fun o=>kr o.op)=true){Q2:Tm->List O->Prop}{K:Act->World->Prop}
  (hs:sat E.G P (fun _ tm hp=>Q2 tm hp) (cj E (hdl E m) N ops.toList ops.toList tm hp (.ret .normal) noX)) (h:Rel E.G B w0 S N D gs ρ tm hp a w) (hd:a.defers=D)
  (hK:∀ a' w' tm' hp' ρ',Rel E.G B w0 S N D gs ρ' tm' hp' a' w'->a'.defers=D->ρ.le ρ'->Q2 tm' hp'->K a' w'):(Code.region id ops false).wpIn (Fr none) n P (fun e a' w'=>e=.normal/\K a' w') a w:=by
 refine wpIn_region ?_
 have h1:=dQ (n:=n) (ro:=none) (ρ0:=ρ) (tl:=[]) (suf:=[]) (Qx:=fun e a' w'=>e=.normal/\∃ tm1 hp1 ρ1,Rel E.G B w0 S N D gs ρ1 tm1 hp1 a' w'/\ρ.le ρ1/\Q2 tm1 hp1) hE.ok (cU hE) (bI hE m) (ops:=ops)
  (fun a' w' ⟨tm1,hp1,ρ1,r1,r2,r3⟩=>⟨rfl,tm1,hp1,ρ1,r1,r2,r3⟩) (fun e a2 w2 ⟨_,_,_,_,_,q⟩=>q.elim) ops.toList [] tm hp ρ a w (by simp) hs h (Ren.le_refl ρ)
 rw[List.append_nil,List.length_nil,Array.length_toList,<-List.range_eq_range']at h1
 rw[<-List.append_nil (List.range ops.size)]
 refine gl (fun e a w he hq=>absurd hq.1 he) _ a w (fun i _ o ho=>?_) h1 ?_
 ·rw[<-Array.getElem?_toList]at ho
  exact List.all_eq_true.1 hq o (List.mem_of_getElem? ho)
 ·rintro a1 w1 hd1 ⟨_,tm1,hp1,ρ1,r1,r2,r3⟩
  exact⟨rfl,hK a1 w1 tm1 hp1 ρ1 r1 (hd1.trans hd) r2 r3⟩
abbrev iO(a b:Int):Int:=band .andNot .u8 a b
def epB(zs:List Int)(pa a b:Int):Bool:=decide (absP (zs.getD a.toNat 0)=1)&&decide (b=pa)
def at1R(f:Int)(zs:List Int)(pa a b:Int):Int:=bif epB zs pa a b then IntKind.i64.wrap (IntKind.i64.wrap (a-a.tmod f)+b.tmod f)else b
def capR(f:Int)(zs:List Int)(pa a b:Int):Int:=zs.getD (at1R f zs pa a b).toNat 0
def at2R(f:Int)(zs:List Int)(pa a b:Int):Int:=bif decide (capR f zs pa a b=0)then -1 else at1R f zs pa a b
def zs1R(f:Int)(zs:List Int)(pa a b:Int):List Int:=bif decide (0<=at2R f zs pa a b)then zs.set (at2R f zs pa a b).toNat 0 else zs
def zs2R(f:Int)(zs:List Int)(pa a b:Int):List Int:=((zs1R f zs pa a b).set a.toNat 0).set b.toNat (zs.getD a.toNat 0)
def cstR(f r:Int)(zs:List Int)(bl:Bool)(ca pa a b pr:Int):Bool:=wayB f r zs (wayN zs bl ca a b)&&!gU f r zs bl pa a b pr
def putR(l:List Int)(bl:Bool)(b pr:Int)(c:Bool)(n:Nat):List Int:=bif !decide (pr=0)&&bl then l.set b.toNat (w8 (0-pr))else bif !decide (pr=0)then l.set b.toNat pr else bif c then(l.set (wCro n).toNat (l.getD (wCor n).toNat 0)).set (wCor n).toNat 0 else l
def zs3R(f r:Int)(zs:List Int)(bl:Bool)(ca pa a b pr:Int):List Int:=putR (zs2R f zs pa a b) bl b pr (cstR f r zs bl ca pa a b pr) (wayN zs bl ca a b)
def caR(ca a b:Int):Int:=iO ca (u8or (AU a) (AU b))
def twoB(f:Int)(zs:List Int)(a b:Int):Bool:=decide (absP (zs.getD a.toNat 0)=1)&&(decide (IntKind.i64.wrap (b-a)=IntKind.i64.wrap (2*f))||decide (IntKind.i64.wrap (b-a)=IntKind.i64.wrap (-2*f)))
def paR(f:Int)(zs:List Int)(a b:Int):Int:=bif twoB f zs a b then IntKind.i64.wrap (a+IntKind.i64.wrap ((IntKind.i64.wrap (b-a)).tdiv 2))else -1
def haR(f:Int)(zs:List Int)(pa ha a b:Int):Int:=bif decide (absP (zs.getD a.toNat 0)=1)||!decide (capR f zs pa a b=0)then 0 else IntKind.i64.wrap (ha+1)
def fuR(bl:Bool)(fu:Int):Int:=bif bl then IntKind.i64.wrap (fu+1)else fu
def err1(p:Psn)(m:Mov):Bool:=!p.ok||!mvB p.f p.r m.a m.b m.p
def err3(p:Psn)(m:Mov):Bool:=isP (p.zs.getD m.b.toNat 0) p.bl||(!gU p.f p.r p.zs p.bl p.pa m.a m.b m.p&&(!wayB p.f p.r p.zs (wayN p.zs p.bl p.ca m.a m.b)||!decide (m.p=0)))
def err4(p:Psn)(m:Mov):Bool:=chkB p.f p.r (zs3R p.f p.r p.zs p.bl p.ca p.pa m.a m.b m.p) p.bl||(cstR p.f p.r p.zs p.bl p.ca p.pa m.a m.b m.p&&(chkB p.f p.r p.zs p.bl||!decide ((dw p.f p.r p.zs (wCro (wayN p.zs p.bl p.ca m.a m.b)) (!p.bl)).1=0)))
def err5(p:Psn)(m:Mov):Bool:=decide (10000<haR p.f p.zs p.pa p.ha m.a m.b)||decide (10000<fuR p.bl p.fu)
def mkE5(p:Psn)(m:Mov):Int:=bif err1 p m then 2 else bif !isP (p.zs.getD m.a.toNat 0) p.bl then 9 else bif err3 p m then 10 else bif err4 p m then 90 else bif err5 p m then 7 else 0
def mkP(p:Psn)(m:Mov):Psn:=bif decide (mkE5 p m=0) then⟨p.f,p.r,zs3R p.f p.r p.zs p.bl p.ca p.pa m.a m.b m.p,!p.bl,caR p.ca m.a m.b,paR p.f p.zs m.a m.b,haR p.f p.zs p.pa p.ha m.a m.b,fuR p.bl p.fu⟩ else⟨0,0,[],false,0,0,0,0⟩
def mkU(p:Psn)(m:Mov):Und:=bif decide (mkE5 p m=0) then⟨m,capR p.f p.zs p.pa m.a m.b,at2R p.f p.zs p.pa m.a m.b,p.ca,p.pa,p.ha,p.fu⟩ else⟨⟨0,0,0⟩,0,0,0,0,0,0⟩
abbrev psV(b:Nat)(p:Psn):V:=.agg [I p.f,I p.r,.sl b 0 p.zs.length none,Bb p.bl,.int .u8 p.ca,I p.pa,I p.ha,I p.fu]
abbrev unV(u:Und):V:=.agg [I u.m.a,I u.m.b,.int .i8 u.m.p,.int .i8 u.c,I u.at_,.int .u8 u.ca,I u.pa,I u.ha,I u.fu]
theorem LB:∀ a b v,pT 30 a=some (b,v)->jD PP 110 a b v:=by
 intro a b v h
 unfold pT at h
 split at h
 ·cases h;exact CC _ _ _
 ·cases h
def fS:Code->Code
 |.seq _ y=>y
 |c=>c
noncomputable abbrev EM (kDb:Bool):Env:={ mkEP tyT (GGx true kDb) [(33,dF),(111,qE),(112,c_is),(115,sP),(113,hY),(114,vJ),(60,jH),(116,vl),(117,iq),(118,Cf)] [] [(110,pT 30)]with cut:=true }
theorem tU{kDb:Bool}:(EM kDb).Fn PP:=cutE (IP Ba tyOk ⟨cm,vT,HP,mc,oq,Ad,gJ,Az,og,CR,trivial⟩ trivial ⟨LB,trivial⟩)
theorem Lf{kDb:Bool}{zs:List Int}{B1 B2:O}(n:Int)(hn:(!decide (n=0))=true)(o1 o2 o3 o4 o5 o6 o7 o8 u1 u2 u3 u4 u5 u6 u7 u8 u9:V) :
  Lv (EM kDb) PP (fun tm hp=>FinL (EM kDb) Tryz.f63 1 (.tup [psV 1 ⟨0,0,[],false,0,0,0,0⟩,unV ⟨⟨0,0,0⟩,0,0,0,0,0,0⟩,I n]) [.ints true .i8 []] .ret tm hp) [⟨109,[],[.ptr 5 0 0]⟩,⟨108,[.ptr 5 0 0,.ptr 3 0 0,.ptr 4 0 0],[]⟩]
   (.panicking [{ v:=.iface 30 (.int .i64 n),recovered:=false }]) [(4,.ptr 3 0 0),(5,.ptr 4 0 0),(6,.ptr 5 0 0)] [.ints false .i8 zs,B1,B2,.cells true [o1,o2,o3,o4,o5,o6,o7,o8],.cells true [u1,u2,u3,u4,u5,u6,u7,u8,u9],.cells true [I 0]]:=by
 have hE:=tU (kDb:=kDb)
 refine⟨by simp,_,_,iR (kCa:=true) (kDb:=kDb) (b:=5) (v0:=I 0) rfl,?_⟩
 rintro _ rfl
 refine⟨by simp[Go.settle],_,fun hp'=>hp'=[.ints false .i8 zs,B1,B2,.cells true [I 0,I 0,.nils,.lit false,.int .u8 0,I 0,I 0,I 0],.cells true [I 0,I 0,.int .i8 0,.int .i8 0,I 0,.int .u8 0,I 0,I 0,I 0],.cells true [I n]],wm hE 2 Tryz.func108 (by kernel_rfl) rfl rfl ?_,?_⟩
 ·refine bP hE 2 rfl (fun _=>?_) (fun h=>absurd (hn.symm.trans h) (by simp))
  exact ae ⟨.inl rfl,[],rfl,rfl⟩
 ·rintro _ rfl
  refine⟨rfl,?_⟩
  refine GW (Ent.phan (b:=3) (j:=2) (ww:=true) (o:=.ints true .i8 []) rfl rfl ⟨by simp,by simp,trivial,rfl⟩ (aB rfl)) (cP 6 (.inr rfl) rfl rfl rfl rfl rfl rfl) (fun _ _ h=>h)
theorem IY{kDb:Bool}{zs:List Int}{B1 B2:O}(lx:List Int)(n:Int)(hn:(!decide (n=0))=true)(o1 o2 o3 o4 o5 o6 o7 o8 u1 u2 u3 u4 u5 u6 u7 u8 u9:V) :
  Lv (EM kDb) PP (fun tm hp=>FinL (EM kDb) Tryz.f63 1 (.tup [psV 1 ⟨0,0,[],false,0,0,0,0⟩,unV ⟨⟨0,0,0⟩,0,0,0,0,0,0⟩,I n]) [.ints true .i8 []] .ret tm hp) [⟨109,[],[.ptr 5 0 0]⟩,⟨108,[.ptr 5 0 0,.ptr 3 0 0,.ptr 4 0 0],[]⟩]
   (.panicking [{ v:=.iface 30 (.int .i64 n),recovered:=false }]) [(4,.ptr 3 0 0),(5,.ptr 4 0 0),(6,.ptr 5 0 0)] [.ints false .i8 zs,B1,B2,.cells true [o1,o2,o3,o4,o5,o6,o7,o8],.cells true [u1,u2,u3,u4,u5,u6,u7,u8,u9],.cells true [I 0],.ints true .i8 lx]:=by
 have hE:=tU (kDb:=kDb)
 refine⟨by simp,_,_,iR (kCa:=true) (kDb:=kDb) (b:=5) (v0:=I 0) rfl,?_⟩
 rintro _ rfl
 refine⟨by simp[Go.settle],_,fun hp'=>hp'=[.ints false .i8 zs,B1,B2,.cells true [I 0,I 0,.nils,.lit false,.int .u8 0,I 0,I 0,I 0],.cells true [I 0,I 0,.int .i8 0,.int .i8 0,I 0,.int .u8 0,I 0,I 0,I 0],.cells true [I n],.ints true .i8 lx],wm hE 2 Tryz.func108 (by kernel_rfl) rfl rfl ?_,?_⟩
 ·refine bP hE 2 rfl (fun _=>?_) (fun h=>absurd (hn.symm.trans h) (by simp))
  exact ae ⟨.inl rfl,[],rfl,rfl⟩
 ·rintro _ rfl
  refine⟨rfl,?_⟩
  refine GW (Ent.phan (b:=3) (j:=2) (ww:=true) (o:=.ints true .i8 []) rfl rfl ⟨by simp,by simp,trivial,rfl⟩ (aB rfl)) (cP 7 (.inr rfl) rfl rfl rfl rfl rfl rfl) (fun _ _ h=>h)
theorem KI{kDb:Bool}{zs:List Int}{B1 B2:O}(q:Psn)(x:Und)(hq:q.zs.length=zs.length) :
  Lv (EM kDb) PP (fun tm hp=>FinL (EM kDb) Tryz.f63 1 (.tup [psV 1 q,unV x,I 0]) [.ints true .i8 q.zs] .ret tm hp) [⟨109,[],[.ptr 5 0 0]⟩,⟨108,[.ptr 5 0 0,.ptr 3 0 0,.ptr 4 0 0],[]⟩]
   .returning [(4,.ptr 3 0 0),(5,.ptr 4 0 0),(6,.ptr 5 0 0)] [.ints false .i8 zs,B1,B2,.cells true [I q.f,I q.r,.sl 6 0 zs.length none,Bb q.bl,.int .u8 q.ca,I q.pa,I q.ha,I q.fu],.cells true [I x.m.a,I x.m.b,.int .i8 x.m.p,.int .i8 x.c,I x.at_,.int .u8 x.ca,I x.pa,I x.ha,I x.fu],.cells true [I 0],.ints true .i8 q.zs]:=by
 have hE:=tU (kDb:=kDb)
 refine⟨by simp,_,_,sZ (kCa:=true) (kDb:=kDb) 5 _ 0,?_⟩
 rintro _ rfl
 refine⟨by simp[Go.settle],_,fun hp'=>hp'=[.ints false .i8 zs,B1,B2,.cells true [I q.f,I q.r,.sl 6 0 zs.length none,Bb q.bl,.int .u8 q.ca,I q.pa,I q.ha,I q.fu],.cells true [I x.m.a,I x.m.b,.int .i8 x.m.p,.int .i8 x.c,I x.at_,.int .u8 x.ca,I x.pa,I x.ha,I x.fu],.cells true [I 0],.ints true .i8 q.zs],wm hE 2 Tryz.func108 (by kernel_rfl) rfl rfl ?_,?_⟩
 ·refine bP hE 2 rfl (fun h=>absurd h (by simp)) (fun _=>?_)
  exact ae ⟨.inl rfl,[],rfl,rfl⟩
 ·rintro _ rfl
  refine⟨rfl,?_⟩
  rw[<-hq]
  exact KD (cP 6 (.inr rfl) rfl rfl rfl rfl rfl rfl)
theorem HK{p:Psn}{m:Mov}{n:Int}(h:mkE5 p m=n)(hn:(!decide (n=0))=true):mkP p m=⟨0,0,[],false,0,0,0,0⟩/\mkU p m=⟨⟨0,0,0⟩,0,0,0,0,0,0⟩:=by
 have h0:decide (mkE5 p m=0)=false:=by rw[h];simpa using hn
 exact⟨by rw[mkP,h0];rfl,by rw[mkU,h0];rfl⟩
theorem ql{kDb:Bool}{zs:List Int}{B1 B2:O}{p:Psn}{m:Mov}{n:Int}{tm:Tm}{hp:List O}{o1 o2 o3 o4 o5 o6 o7 o8 u1 u2 u3 u4 u5 u6 u7 u8 u9:V}(he:mkE5 p m=n)(hn:(!decide (n=0))=true)(hent:Ent (GGx true kDb) 6 tm hp [(4,.ptr 3 0 0),(5,.ptr 4 0 0),(6,.ptr 5 0 0)] [.ints false .i8 zs,B1,B2,.cells true [o1,o2,o3,o4,o5,o6,o7,o8],.cells true [u1,u2,u3,u4,u5,u6,u7,u8,u9],.cells true [I 0]]) :
  Gw (EM kDb) PP Tryz.f63 6 1 (.tup [psV 1 (mkP p m),unV (mkU p m),I (mkE5 p m)]) [.ints true .i8 (mkP p m).zs] [⟨109,[],[.ptr 5 0 0]⟩,⟨108,[.ptr 5 0 0,.ptr 3 0 0,.ptr 4 0 0],[]⟩] (.panic [{ v:=.iface 30 (.int .i64 n),recovered:=false }]) tm hp:=by
 obtain⟨h1,h2⟩:=HK he hn
 rw[h1,h2,he]
 exact⟨_,_,_,rfl,hent,Lf n hn o1 o2 o3 o4 o5 o6 o7 o8 u1 u2 u3 u4 u5 u6 u7 u8 u9⟩
theorem sE{kDb:Bool}{zs:List Int}{B1 B2:O}{lx:List Int}{p:Psn}{m:Mov}{n:Int}{tm:Tm}{hp:List O}{o1 o2 o3 o4 o5 o6 o7 o8 u1 u2 u3 u4 u5 u6 u7 u8 u9:V}(he:mkE5 p m=n)(hn:(!decide (n=0))=true)(hent:Ent (GGx true kDb) 6 tm hp [(4,.ptr 3 0 0),(5,.ptr 4 0 0),(6,.ptr 5 0 0)] [.ints false .i8 zs,B1,B2,.cells true [o1,o2,o3,o4,o5,o6,o7,o8],.cells true [u1,u2,u3,u4,u5,u6,u7,u8,u9],.cells true [I 0],.ints true .i8 lx]) :
  Gw (EM kDb) PP Tryz.f63 6 1 (.tup [psV 1 (mkP p m),unV (mkU p m),I (mkE5 p m)]) [.ints true .i8 (mkP p m).zs] [⟨109,[],[.ptr 5 0 0]⟩,⟨108,[.ptr 5 0 0,.ptr 3 0 0,.ptr 4 0 0],[]⟩] (.panic [{ v:=.iface 30 (.int .i64 n),recovered:=false }]) tm hp:=by
 obtain⟨h1,h2⟩:=HK he hn
 rw[h1,h2,he]
 exact⟨_,_,_,rfl,hent,IY lx n hn o1 o2 o3 o4 o5 o6 o7 o8 u1 u2 u3 u4 u5 u6 u7 u8 u9⟩
theorem GD{kDb:Bool}{zs:List Int}{B1 B2:O}{p:Psn}{m:Mov}{q:Psn}{x:Und}{tm:Tm}{hp:List O}(he:mkE5 p m=0)(h1:mkP p m=q)(h2:mkU p m=x)(hq:q.zs.length=zs.length)(hent:Ent (GGx true kDb) 6 tm hp [(4,.ptr 3 0 0),(5,.ptr 4 0 0),(6,.ptr 5 0 0)] [.ints false .i8 zs,B1,B2,.cells true [I q.f,I q.r,.sl 6 0 zs.length none,Bb q.bl,.int .u8 q.ca,I q.pa,I q.ha,I q.fu],.cells true [I x.m.a,I x.m.b,.int .i8 x.m.p,.int .i8 x.c,I x.at_,.int .u8 x.ca,I x.pa,I x.ha,I x.fu],.cells true [I 0],.ints true .i8 q.zs]) :
  Gw (EM kDb) PP Tryz.f63 6 1 (.tup [psV 1 (mkP p m),unV (mkU p m),I (mkE5 p m)]) [.ints true .i8 (mkP p m).zs] [⟨109,[],[.ptr 5 0 0]⟩,⟨108,[.ptr 5 0 0,.ptr 3 0 0,.ptr 4 0 0],[]⟩] .ret tm hp:=by
 rw[h1,h2,he]
 exact⟨_,_,_,rfl,hent,KI q x hq⟩
theorem cy{zs:List Int}(h:zs.length<=64){n:Nat}(hn:n=zs.length){g b:Bool}(hb:b=true):(!g||(decide (n=(tk zs).length)&&decide ((tk zs).length<=64)&&b))=true:=by
 rw[bh h hn hb];simp
theorem LO{p:Psn}(h:p.ok=true):aH p.f p.r p.zs=true/\ee p.f p.r p.zs p.ca=true:=by
 simp only[Psn.ok,Bool.and_eq_true]at h
 exact⟨h.1.1.1.1.1,h.1.1.2⟩
theorem Mk{f r a b p:Int}(h:mvB f r a b p=true):ak f r a=true/\ak f r b=true:=by
 simp only[mvB,Bool.and_eq_true]at h
 exact⟨h.1.1.1,h.1.1.2⟩
theorem Ko{f r a b:Int}(ha:ak f r a=true)(hb:ak f r b=true):ak f r (IntKind.i64.wrap (IntKind.i64.wrap (a-a.tmod f)+b.tmod f))=true/\IntKind.i64.wrap (IntKind.i64.wrap (a-a.tmod f)+b.tmod f)=px f b+py f a*f:=by
 obtain⟨_,a1,a2,a3,a4,a5,a6,a7,a8,a9⟩:=cV ha
 obtain⟨_,b1,b2,b3,b4,b5,_⟩:=cV hb
 have h1:=aE ha
 have h2:=aE hb
 have hv:=gF (X:=px f b) (Y:=py f a) (bz ha) (jm b1 b2 a3 a4)
 have h3:=aE hv.1
 have e1:IntKind.i64.wrap (a-a.tmod f)=py f a*f:=by
  have:a-a.tmod f=py f a*f:=by have:a.tmod f=px f a:=rfl;omega
  rw[this];exact ay (by omega) (by omega)
 have e2:IntKind.i64.wrap (IntKind.i64.wrap (a-a.tmod f)+b.tmod f)=px f b+py f a*f:=by
  rw[e1,show py f a*f+b.tmod f=px f b+py f a*f by have:b.tmod f=px f b:=rfl;omega]
  exact ay (by omega) (by omega)
 exact⟨by rw[e2];exact hv.1,e2⟩
theorem Lh{f r:Int}{zs:List Int}{pa a b:Int}(ha:ak f r a=true)(hb:ak f r b=true):ak f r (at1R f zs pa a b)=true:=by
 unfold at1R
 cases epB zs pa a b
 ·exact hb
 ·exact(Ko ha hb).1
theorem KU{f r:Int}{zs:List Int}{pa a b:Int}(hbd:aH f r zs=true)(ha:ak f r a=true)(hb:ak f r b=true)(h0:0<=at2R f zs pa a b):at2R f zs pa a b<zs.length:=by
 unfold at2R at h0 ⊢
 cases h:decide (capR f zs pa a b=0) with
 |true=>rw[h]at h0;simp at h0
 |false=>exact((cw hbd).1 (Lh ha hb)).2
theorem AN{f:Int}{zs:List Int}{pa a b:Int}:(zs1R f zs pa a b).length=zs.length:=by
 unfold zs1R;cases decide (0<=at2R f zs pa a b)<;>simp
theorem pX{f:Int}{zs:List Int}{pa a b:Int}:(zs2R f zs pa a b).length=zs.length:=by
 simp[zs2R,AN]
theorem JO{l:List Int}{bl:Bool}{b pr:Int}{c:Bool}{n:Nat}:(putR l bl b pr c n).length=l.length:=by
 unfold putR
 cases(!decide (pr=0)&&bl)<;>cases(!decide (pr=0))<;>cases c<;>simp
theorem qW{f r:Int}{zs:List Int}{bl:Bool}{ca pa a b pr:Int}:(zs3R f r zs bl ca pa a b pr).length=zs.length:=by
 rw[zs3R,JO,pX]
theorem kZ{l:List Int}{n:Nat}(h1:n=l.length)(h2:n<=64):(decide (n=((l.drop 0).take n).length)&&decide (((l.drop 0).take n).length<=64))=true:=by
 subst h1;simp[h2]
theorem mH{l:List Int}{n:Nat}{g:Bool}(h1:n=l.length)(h2:n<=64):(!g||(decide (n=((l.drop 0).take n).length)&&decide (((l.drop 0).take n).length<=64)))=true:=by
 rw[kZ h1 h2];simp
theorem EW{zs:List Int}{b:Int}(h:0<=b)(h1:b<zs.length):(decide (0<=b)&&decide (b<(tk zs).length))=true:=by rw[aM];simp[h,h1]
theorem tk_n{l:List Int}{n:Nat}(h1:n=l.length):(l.drop 0).take n=l:=by subst h1;simp
theorem mL{f r:Int}{zs:List Int}{bl:Bool}{ca a b:Int}(hbd:aH f r zs=true)(hc:ee f r zs ca=true)(hn:¬ wayN zs bl ca a b=4):is88 f r=true/\zs.length=64/\0<=wCor (wayN zs bl ca a b)/\wCor (wayN zs bl ca a b)<64/\0<=wCro (wayN zs bl ca a b)/\wCro (wayN zs bl ca a b)<64:=by
 have key:is88 f r=true:=by
  unfold wayN at hn
  simp only[ee,rtX,Bool.and_eq_true,Bool.not_eq_true']at hc
  obtain⟨⟨⟨⟨c1,c2⟩,c3⟩,c4⟩,_⟩:=hc
  cases hk:(!decide (absP (zs.getD a.toNat 0)=6)) with
  |true=>rw[hk]at hn;exact absurd rfl hn
  |false=>
   rw[hk,cond_false]at hn
   have go:∀ {bit:Int} {c:Bool} {k to:Int} {X Y:Bool},aW bl ca a b c bit k to=false->((!decide (bQ ca bit=0))&&((!is88 f r||X)||Y))=false->is88 f r=true:=by
    intro bit c k to X Y h1 h2
    simp only[aW,Bool.or_eq_false_iff]at h1
    rw[h1.1.1.2]at h2
    cases h8:is88 f r with
    |true=>rfl
    |false=>rw[h8]at h2;simp at h2
   cases h1:aW bl ca a b false 1 4 6 with
   |false=>exact go h1 c1
   |true=>
    rw[h1]at hn
    cases h2:aW bl ca a b false 2 4 2 with
    |false=>exact go h2 c2
    |true=>
     rw[h2]at hn
     cases h3:aW bl ca a b true 4 60 62 with
     |false=>exact go h3 c3
     |true=>
      rw[h3]at hn
      cases h4:aW bl ca a b true 8 60 58 with
      |false=>exact go h4 c4
      |true=>rw[h4]at hn;exact absurd rfl hn
 have h4:wayN zs bl ca a b<=4:=by
  unfold wayN
  cases(!decide (absP (zs.getD a.toNat 0)=6))<;>cases(!aW bl ca a b false 1 4 6)<;>cases(!aW bl ca a b false 2 4 2)<;>cases(!aW bl ca a b true 4 60 62)<;>cases(!aW bl ca a b true 8 60 58)<;>simp
 refine⟨key,uY hbd key,?_⟩
 generalize wayN zs bl ca a b=n at h4 hn ⊢
 have:n=0\/n=1\/n=2\/n=3:=by omega
 rcases this with rfl|rfl|rfl|rfl<;>decide
theorem Ga{kDb:Bool}{f r:Int}{zs:List Int}{bl:Bool}{ca pa ha fu a b pr:Int}(hc2:zs.length<=64):aG (GGx true kDb) PP 63 [.agg [I f,I r,.sl 0 0 zs.length none,Bb bl,.int .u8 ca,I pa,I ha,I fu],.agg [I a,I b,.int .i8 pr]] [.ints false .i8 zs] (.tup [psV 1 (mkP ⟨f,r,zs,bl,ca,pa,ha,fu⟩ ⟨a,b,pr⟩),unV (mkU ⟨f,r,zs,bl,ca,pa,ha,fu⟩ ⟨a,b,pr⟩),I (mkE5 ⟨f,r,zs,bl,ca,pa,ha,fu⟩ ⟨a,b,pr⟩)]) [.ints true .i8 (mkP ⟨f,r,zs,bl,ca,pa,ha,fu⟩ ⟨a,b,pr⟩).zs]:=by
 refine Ay (rest:=fS (fS (fS (Tryz.f63.body.getD .skip)))) (tU (kDb:=kDb)) 2 Tryz.func63 rfl rfl [⟨109,[],[.ptr 5 0 0]⟩,⟨108,[.ptr 5 0 0,.ptr 3 0 0,.ptr 4 0 0],[]⟩] (Q1:=fun tm hp=>tm=(13,.fn 108 [.ptr 5 0 0,.ptr 3 0 0,.ptr 4 0 0])::[(6,.ptr 5 0 0),(5,.ptr 4 0 0),(4,.ptr 3 0 0),(3,.ptr 2 0 0),(2,.ptr 1 0 0),(0,.agg [I f,I r,.sl 0 0 zs.length none,Bb bl,.int .u8 ca,I pa,I ha,I fu]),(1,.agg [I a,I b,.int .i8 pr])]/\hp=[.ints false .i8 zs,.cells true [I f,I r,.sl 0 0 zs.length none,Bb bl,.int .u8 ca,I pa,I ha,I fu],.cells true [I a,I b,.int .i8 pr],.cells true [I 0,I 0,.nils,.lit false,.int .u8 0,I 0,I 0,I 0],.cells true [I 0,I 0,.int .i8 0,.int .i8 0,I 0,.int .u8 0,I 0,I 0,I 0],.cells true [I 0]]) ?_ ?_
 ·intro B w0 S ρ aa w k Q hrel hd hrest
  refine wpIn_seq (wpIn_mono (uI (K:=(fS (Tryz.f63.body.getD .skip)).wpIn (Fr none) k PP Q) tU 2 rfl (Q2:=fun tm hp=>tm=[(6,.ptr 5 0 0),(5,.ptr 4 0 0),(4,.ptr 3 0 0),(3,.ptr 2 0 0),(2,.ptr 1 0 0),(0,.agg [I f,I r,.sl 0 0 zs.length none,Bb bl,.int .u8 ca,I pa,I ha,I fu]),(1,.agg [I a,I b,.int .i8 pr])]/\hp=[.ints false .i8 zs,.cells true [I f,I r,.sl 0 0 zs.length none,Bb bl,.int .u8 ca,I pa,I ha,I fu],.cells true [I a,I b,.int .i8 pr],.cells true [I 0,I 0,.nils,.lit false,.int .u8 0,I 0,I 0,I 0],.cells true [I 0,I 0,.int .i8 0,.int .i8 0,I 0,.int .u8 0,I 0,I 0,I 0],.cells true [I 0]]) (ae ⟨rfl,rfl⟩) hrel hd ?_) ?_)
  rotate_left
  ·rintro e a' w' ⟨rfl,h⟩;exact h
  rintro a1 w1 tm1 hp1 ρ1 r1 hd1 l1 ⟨rfl,rfl⟩
  refine wpIn_seq (wpIn_mono (oQ (K:=(fS (fS (Tryz.f63.body.getD .skip))).wpIn (Fr none) k PP Q) tU 2 [_] _ [] rfl rfl rfl rfl rfl rfl (f:=108) (caps:=[.ptr 5 0 0,.ptr 3 0 0,.ptr 4 0 0]) (args:=[]) (Q2:=fun tm hp=>tm=(13,.fn 108 [.ptr 5 0 0,.ptr 3 0 0,.ptr 4 0 0])::[(6,.ptr 5 0 0),(5,.ptr 4 0 0),(4,.ptr 3 0 0),(3,.ptr 2 0 0),(2,.ptr 1 0 0),(0,.agg [I f,I r,.sl 0 0 zs.length none,Bb bl,.int .u8 ca,I pa,I ha,I fu]),(1,.agg [I a,I b,.int .i8 pr])]/\hp=[.ints false .i8 zs,.cells true [I f,I r,.sl 0 0 zs.length none,Bb bl,.int .u8 ca,I pa,I ha,I fu],.cells true [I a,I b,.int .i8 pr],.cells true [I 0,I 0,.nils,.lit false,.int .u8 0,I 0,I 0,I 0],.cells true [I 0,I 0,.int .i8 0,.int .i8 0,I 0,.int .u8 0,I 0,I 0,I 0],.cells true [I 0]]) (ae ⟨rfl,rfl,ae ⟨rfl,rfl⟩⟩) r1 hd1 ?_) ?_)
  rotate_left
  ·rintro e a' w' ⟨rfl,h⟩;exact h
  rintro a2 w2 tm2 hp2 ρ2 cus1 us1 r2 hd2 l2 hc1 hu1 ⟨rfl,rfl⟩
  refine wpIn_seq (wpIn_mono (oQ (K:=(fS (fS (fS (Tryz.f63.body.getD .skip)))).wpIn (Fr none) k PP Q) tU 2 [] _ [] rfl rfl rfl rfl rfl rfl (f:=109) (caps:=[]) (args:=[.ptr 5 0 0]) (Q2:=fun tm hp=>tm=(13,.fn 108 [.ptr 5 0 0,.ptr 3 0 0,.ptr 4 0 0])::[(6,.ptr 5 0 0),(5,.ptr 4 0 0),(4,.ptr 3 0 0),(3,.ptr 2 0 0),(2,.ptr 1 0 0),(0,.agg [I f,I r,.sl 0 0 zs.length none,Bb bl,.int .u8 ca,I pa,I ha,I fu]),(1,.agg [I a,I b,.int .i8 pr])]/\hp=[.ints false .i8 zs,.cells true [I f,I r,.sl 0 0 zs.length none,Bb bl,.int .u8 ca,I pa,I ha,I fu],.cells true [I a,I b,.int .i8 pr],.cells true [I 0,I 0,.nils,.lit false,.int .u8 0,I 0,I 0,I 0],.cells true [I 0,I 0,.int .i8 0,.int .i8 0,I 0,.int .u8 0,I 0,I 0,I 0],.cells true [I 0]]) (ae ⟨rfl,rfl,ae ⟨rfl,rfl⟩⟩) r2 hd2 ?_) ?_)
  rotate_left
  ·rintro e a' w' ⟨rfl,h⟩;exact h
  rintro a3 w3 tm3 hp3 ρ3 cus2 us2 r3 hd3 l3 hc3 hu3 ⟨rfl,rfl⟩
  exact hrest _ _ _ _ _ _ r3 (Ren.le_trans l1 (Ren.le_trans l2 l3)) ⟨cus2,us2,_,rfl,hc3,hu3,cus1,us1,[],rfl,VRL.mono l3 _ _ hc1,VRL.mono l3 _ _ hu1,rfl⟩ ⟨rfl,rfl⟩
 rintro tm1 hp1 ⟨rfl,rfl⟩
 refine⟨by simp,?_⟩
 have hE:=tU (kDb:=kDb)
 repeat (first|(first|refine ah ?_|refine sat_nd ?_)|refine ag (aL ha0 ha1) ?_|refine ag (aL hb0 hb1) ?_|refine ag (bh hc2 rfl hv3) ?_|refine ag (cy hc2 rfl hv3) ?_|refine ag (aU hc2 rfl) ?_)
 refine ax (fun h=>?_) (fun h=>?_)
 ·have h:(!(Psn.ok ⟨f,r,tk zs,bl,ca,pa,ha,fu⟩)||!mvB f r a b pr)=true:=h
  rw[aM]at h
  have h:err1 ⟨f,r,zs,bl,ca,pa,ha,fu⟩ ⟨a,b,pr⟩=true:=h
  exact ae (ql (by simp only[mkE5,h,cond_true]) rfl (Ent.ren [0,1,2,3,4,5] [4,5,6] rfl rfl rfl))
 have h:(!(Psn.ok ⟨f,r,tk zs,bl,ca,pa,ha,fu⟩)||!mvB f r a b pr)=false:=h
 rw[aM]at h
 have e1:err1 ⟨f,r,zs,bl,ca,pa,ha,fu⟩ ⟨a,b,pr⟩=false:=h
 simp only[Bool.or_eq_false_iff,Bool.not_eq_false']at h
 obtain⟨hbd,hcas⟩:=LO h.1
 obtain⟨hva,hvb⟩:=Mk h.2
 dsimp only at hbd hcas
 obtain⟨ha0,ha1⟩:=(cw hbd).1 hva
 obtain⟨hb0,hb1⟩:=(cw hbd).1 hvb
 have hv3:(aH f r (tk zs)&&ak f r a&&ak f r b)=true:=by rw[aM,hbd,hva,hvb];rfl
 have hf0:(!decide (f=0))=true:=by have:=dB (bL hbd).1;simp;omega
 clear h
 repeat (first|(first|refine ah ?_|refine sat_nd ?_)|refine ag (aL ha0 ha1) ?_|refine ag (aL hb0 hb1) ?_|refine ag (bh hc2 rfl hv3) ?_|refine ag (cy hc2 rfl hv3) ?_|refine ag (aU hc2 rfl) ?_|refine ag hf0 ?_)
 refine ax (fun h=>?_) (fun h=>?_)
 ·have h:(!isP (zs.getD a.toNat 0) bl)=true:=h
  exact ae (ql (by simp only[mkE5,e1,h,cond_true,cond_false]) rfl (Ent.ren [0,1,2,3,4,5] [4,5,6] rfl rfl rfl))
 have e2:(!isP (zs.getD a.toNat 0) bl)=false:=h
 repeat (first|(first|refine ah ?_|refine sat_nd ?_)|refine ag (aL ha0 ha1) ?_|refine ag (aL hb0 hb1) ?_|refine ag (bh hc2 rfl hv3) ?_|refine ag (cy hc2 rfl hv3) ?_|refine ag (aU hc2 rfl) ?_|refine ag hf0 ?_)
 refine ax (fun h=>?_) (fun h=>?_)
 ·have h:(isP (zs.getD b.toNat 0) bl||(!gU f r (tk zs) bl pa a b pr&&(!wayB f r (tk zs) (wayN (tk zs) bl ca a b)||!decide (pr=0))))=true:=h
  rw[aM]at h
  have h:err3 ⟨f,r,zs,bl,ca,pa,ha,fu⟩ ⟨a,b,pr⟩=true:=h
  exact ae (ql (by simp only[mkE5,e1,e2,h,cond_true,cond_false]) rfl (Ent.ren [0,1,2,3,4,5] [4,5,6] rfl rfl rfl))
 have h:(isP (zs.getD b.toNat 0) bl||(!gU f r (tk zs) bl pa a b pr&&(!wayB f r (tk zs) (wayN (tk zs) bl ca a b)||!decide (pr=0))))=false:=h
 rw[aM]at h
 have e3:err3 ⟨f,r,zs,bl,ca,pa,ha,fu⟩ ⟨a,b,pr⟩=false:=h
 clear h
 repeat (first|(first|refine ah ?_|refine sat_nd ?_)|refine ag (aL ha0 ha1) ?_|refine ag (aL hb0 hb1) ?_|refine ag (bh hc2 rfl hv3) ?_|refine ag (cy hc2 rfl hv3) ?_|refine ag (aU hc2 rfl) ?_|refine ag hf0 ?_)
 refine cL hE 2 (fun e tm hp=>e=.normal/\∃ (n:Nat) (c:Bool) (at_ cap:Int),n=wayN zs bl ca a b/\c=cstR f r zs bl ca pa a b pr/\at_=at1R f zs pa a b/\cap=capR f zs pa a b/\tm=[(2,.ptr 1 0 0),(3,.ptr 2 0 0),(4,.ptr 3 0 0),(5,.ptr 4 0 0),(6,.ptr 5 0 0),(7,.int .i8 (zs.getD a.toNat 0)),(8,.ptr 6 0 0),(9,Bb c)]/\hp=[.ints false .i8 zs,.cells true [I f,I r,.sl 0 0 zs.length none,Bb bl,.int .u8 ca,I pa,I ha,I fu],.cells true [I a,I b,.int .i8 pr],.cells true [I 0,I 0,.nils,.lit false,.int .u8 0,I 0,I 0,I 0],.cells true [I a,I b,.int .i8 pr,.int .i8 cap,I at_,.int .u8 ca,I pa,I ha,I fu],.cells true [I 0],.cells true [.int .u8 (wBit n),Bb (wBl n),I (kV n),I (wTo n),I (wCor n),I (wCro n)]]) rfl (fun h=>?_) (fun h=>?_) ?_
 ·have hep:epB zs pa a b=true:=h
  have hx:=(cw hbd).1 (Ko hva hvb).1
  repeat (first|(first|refine ah ?_|refine sat_nd ?_)|refine ag hf0 ?_|refine ag (aL hx.1 hx.2) ?_)
  refine ae ⟨_,_,Ent.ren [0,1,2,3,4,5,6] [2,3,4,5,6,7,8,9] rfl rfl rfl,rfl,wayN (tk zs) bl ca a b,wayB f r (tk zs) (wayN (tk zs) bl ca a b)&&!gU f r (tk zs) bl pa a b pr,_,_,by rw[aM],by rw[aM];rfl,?_,?_,rfl,rfl⟩
  ·rw[at1R,hep];rfl
  ·rw[capR,at1R,hep];rfl
 ·have hep:epB zs pa a b=false:=h
  refine ae ⟨_,_,Ent.ren [0,1,2,3,4,5,6] [2,3,4,5,6,7,8,9] rfl rfl rfl,rfl,wayN (tk zs) bl ca a b,wayB f r (tk zs) (wayN (tk zs) bl ca a b)&&!gU f r (tk zs) bl pa a b pr,_,_,by rw[aM],by rw[aM];rfl,?_,?_,rfl,rfl⟩
  ·rw[at1R,hep];rfl
  ·rw[capR,at1R,hep];rfl
 rintro e tm hp ⟨rfl,n,c,at_,cap,hn,hcs,hat,hcap,rfl,rfl⟩
 repeat (first|(first|refine ah ?_|refine sat_nd ?_)|refine ag (aL ha0 ha1) ?_|refine ag (aL hb0 hb1) ?_|refine ag (bh hc2 rfl hv3) ?_|refine ag (cy hc2 rfl hv3) ?_|refine ag (aU hc2 rfl) ?_|refine ag hf0 ?_)
 refine cL hE 2 (fun e tm hp=>e=.normal/\∃ at2:Int,at2=at2R f zs pa a b/\tm=[(2,.ptr 1 0 0),(3,.ptr 2 0 0),(4,.ptr 3 0 0),(5,.ptr 4 0 0),(6,.ptr 5 0 0),(7,.int .i8 (zs.getD a.toNat 0)),(8,.ptr 6 0 0),(9,Bb c)]/\hp=[.ints false .i8 zs,.cells true [I f,I r,.sl 0 0 zs.length none,Bb bl,.int .u8 ca,I pa,I ha,I fu],.cells true [I a,I b,.int .i8 pr],.cells true [I 0,I 0,.nils,.lit false,.int .u8 0,I 0,I 0,I 0],.cells true [I a,I b,.int .i8 pr,.int .i8 cap,I at2,.int .u8 ca,I pa,I ha,I fu],.cells true [I 0],.cells true [.int .u8 (wBit n),Bb (wBl n),I (kV n),I (wTo n),I (wCor n),I (wCro n)]]) rfl (fun h=>?_) (fun h=>?_) ?_
 ·have h:decide (cap=0)=true:=h
  refine ae ⟨_,_,Ent.ren [0,1,2,3,4,5,6] [2,3,4,5,6,7,8,9] rfl rfl rfl,rfl,_,?_,rfl,rfl⟩
  rw[at2R,<-hcap,h];rfl
 ·have h:decide (cap=0)=false:=h
  refine ae ⟨_,_,Ent.ren [0,1,2,3,4,5,6] [2,3,4,5,6,7,8,9] rfl rfl rfl,rfl,_,?_,rfl,rfl⟩
  rw[at2R,<-hcap,h,<-hat];rfl
 rintro e tm hp ⟨rfl,at2,hat2,rfl,rfl⟩
 clear hat
 repeat (first|(first|refine ah ?_|refine sat_nd ?_)|refine ag (aL ha0 ha1) ?_|refine ag (aL hb0 hb1) ?_|refine ag (bh hc2 rfl hv3) ?_|refine ag (cy hc2 rfl hv3) ?_|refine ag (aU hc2 rfl) ?_|refine ag hf0 ?_)
 refine cL hE 2 (fun e tm hp=>e=.normal/\∃ (l:List Int) (len:Nat),l=zs1R f zs pa a b/\len=zs.length/\tm=[(2,.ptr 1 0 0),(3,.ptr 2 0 0),(4,.ptr 3 0 0),(5,.ptr 4 0 0),(6,.ptr 5 0 0),(7,.int .i8 (zs.getD a.toNat 0)),(8,.ptr 6 0 0),(9,Bb c)]/\hp=[.ints false .i8 zs,.cells true [I f,I r,.sl 0 0 zs.length none,Bb bl,.int .u8 ca,I pa,I ha,I fu],.cells true [I a,I b,.int .i8 pr],.cells true [I f,I r,.sl 7 0 len none,Bb bl,.int .u8 ca,I pa,I ha,I fu],.cells true [I a,I b,.int .i8 pr,.int .i8 cap,I at2,.int .u8 ca,I pa,I ha,I fu],.cells true [I 0],.cells true [.int .u8 (wBit n),Bb (wBl n),I (kV n),I (wTo n),I (wCor n),I (wCro n)],.ints true .i8 l]) rfl (fun h=>?_) (fun h=>?_) ?_
 ·have h:decide (0<=at2)=true:=h
  have hx:at2<zs.length:=by rw[hat2];exact KU hbd hva hvb (by rw[<-hat2];exact of_decide_eq_true h)
  repeat (first|(first|refine ah ?_|refine sat_nd ?_)|refine ag (EW (of_decide_eq_true h) hx) ?_)
  refine ae ⟨_,_,Ent.ren [0,1,2,3,4,5,6,7] [2,3,4,5,6,7,8,9] rfl rfl rfl,rfl,(tk zs).set at2.toNat 0,(tk zs).length,?_,by rw[aM],rfl,rfl⟩
  rw[aM,zs1R,<-hat2,h];rfl
 ·have h:decide (0<=at2)=false:=h
  refine ae ⟨_,_,Ent.ren [0,1,2,3,4,5,6,7] [2,3,4,5,6,7,8,9] rfl rfl rfl,rfl,tk zs,(tk zs).length,?_,by rw[aM],rfl,rfl⟩
  rw[aM,zs1R,<-hat2,h];rfl
 rintro e tm hp ⟨rfl,l,len,hl,hlen,rfl,rfl⟩
 have ha1:a<len:=by rw[hlen];exact ha1
 have hb1:b<len:=by rw[hlen];exact hb1
 repeat (first|(first|refine ah ?_|refine sat_nd ?_)|refine ag (aL ha0 ha1) ?_|refine ag (aL hb0 hb1) ?_|refine ag (bh hc2 rfl hv3) ?_|refine ag (cy hc2 rfl hv3) ?_|refine ag (aU hc2 rfl) ?_|refine ag hf0 ?_)
 refine cL hE 2 (fun e tm hp=>e=.normal/\∃ l3:List Int,l3=zs3R f r zs bl ca pa a b pr/\tm=[(2,.ptr 1 0 0),(3,.ptr 2 0 0),(4,.ptr 3 0 0),(5,.ptr 4 0 0),(6,.ptr 5 0 0),(7,.int .i8 (zs.getD a.toNat 0)),(8,.ptr 6 0 0),(9,Bb c)]/\hp=[.ints false .i8 zs,.cells true [I f,I r,.sl 0 0 zs.length none,Bb bl,.int .u8 ca,I pa,I ha,I fu],.cells true [I a,I b,.int .i8 pr],.cells true [I f,I r,.sl 7 0 len none,Bb bl,.int .u8 ca,I pa,I ha,I fu],.cells true [I a,I b,.int .i8 pr,.int .i8 cap,I at2,.int .u8 ca,I pa,I ha,I fu],.cells true [I 0],.cells true [.int .u8 (wBit n),Bb (wBl n),I (kV n),I (wTo n),I (wCor n),I (wCro n)],.ints true .i8 l3]) rfl (fun h=>?_) (fun h=>?_) ?_
 ·have h:(!decide (pr=0)&&bl)=true:=h
  repeat (first|(first|refine ah ?_|refine sat_nd ?_)|refine ag (aL ha0 ha1) ?_|refine ag (aL hb0 hb1) ?_|refine ag (bh hc2 rfl hv3) ?_|refine ag (cy hc2 rfl hv3) ?_|refine ag (aU hc2 rfl) ?_|refine ag hf0 ?_)
  refine ae ⟨_,_,Ent.ren [0,1,2,3,4,5,6,7] [2,3,4,5,6,7,8,9] rfl rfl rfl,rfl,_,?_,rfl,rfl⟩
  rw[zs3R,putR,zs2R,<-hl,h];rfl
 ·have h:(!decide (pr=0)&&bl)=false:=h
  refine bP hE 2 rfl (fun h2=>?_) (fun h2=>?_)
  ·have h2:(!decide (pr=0))=true:=h2
   repeat (first|(first|refine ah ?_|refine sat_nd ?_)|refine ag (aL ha0 ha1) ?_|refine ag (aL hb0 hb1) ?_|refine ag (bh hc2 rfl hv3) ?_|refine ag (cy hc2 rfl hv3) ?_|refine ag (aU hc2 rfl) ?_|refine ag hf0 ?_)
   refine ae ⟨_,_,Ent.ren [0,1,2,3,4,5,6,7] [2,3,4,5,6,7,8,9] rfl rfl rfl,rfl,_,?_,rfl,rfl⟩
   rw[zs3R,putR,zs2R,<-hl,h,h2];rfl
  ·have h2:(!decide (pr=0))=false:=h2
   refine bP hE 2 rfl (fun h3=>?_) (fun h3=>?_)
   ·have h3:c=true:=h3
    have hw:¬ n=4:=by
     intro h4
     rw[cstR,<-hn,h4]at hcs
     rw[h3]at hcs
     exact absurd hcs (by simp[wayB])
    obtain⟨_,h64,w1,w2,w3,w4⟩:=mL (a:=a) (b:=b) (bl:=bl) hbd hcas (by rw[<-hn];exact hw)
    rw[<-hn]at w1 w2 w3 w4
    have w2:wCor n<len:=by rw[hlen,h64];exact w2
    have w4:wCro n<len:=by rw[hlen,h64];exact w4
    repeat (first|(first|refine ah ?_|refine sat_nd ?_)|refine ag (aL ha0 ha1) ?_|refine ag (aL hb0 hb1) ?_|refine ag (bh hc2 rfl hv3) ?_|refine ag (cy hc2 rfl hv3) ?_|refine ag (aU hc2 rfl) ?_|refine ag hf0 ?_)
    refine ae ⟨_,_,Ent.ren [0,1,2,3,4,5,6,7] [2,3,4,5,6,7,8,9] rfl rfl rfl,rfl,_,?_,rfl,rfl⟩
    rw[zs3R,putR,zs2R,<-hl,h,h2,<-hcs,h3,<-hn];rfl
   ·have h3:c=false:=h3
    refine ae ⟨_,_,Ent.ren [0,1,2,3,4,5,6,7] [2,3,4,5,6,7,8,9] rfl rfl rfl,rfl,_,?_,rfl,rfl⟩
    rw[zs3R,putR,zs2R,<-hl,h,h2,<-hcs,h3];rfl
 clear hl
 rintro e tm hp ⟨rfl,l3,hl3,rfl,rfl⟩
 repeat (first|(first|refine ah ?_|refine sat_nd ?_)|refine ag (aL ha0 ha1) ?_|refine ag (aL hb0 hb1) ?_|refine ag (bh hc2 rfl hv3) ?_|refine ag (cy hc2 rfl hv3) ?_|refine ag (aU hc2 rfl) ?_|refine ag hf0 ?_)
 refine cL hE 2 (fun e tm hp=>e=.normal/\∃ ca2 pa2:Int,ca2=caR ca a b/\pa2=paR f zs a b/\tm=[(2,.ptr 1 0 0),(3,.ptr 2 0 0),(4,.ptr 3 0 0),(5,.ptr 4 0 0),(6,.ptr 5 0 0),(7,.int .i8 (zs.getD a.toNat 0)),(8,.ptr 6 0 0),(9,Bb c)]/\hp=[.ints false .i8 zs,.cells true [I f,I r,.sl 0 0 zs.length none,Bb bl,.int .u8 ca,I pa,I ha,I fu],.cells true [I a,I b,.int .i8 pr],.cells true [I f,I r,.sl 7 0 len none,Bb bl,.int .u8 ca2,I pa2,I ha,I fu],.cells true [I a,I b,.int .i8 pr,.int .i8 cap,I at2,.int .u8 ca,I pa,I ha,I fu],.cells true [I 0],.cells true [.int .u8 (wBit n),Bb (wBl n),I (kV n),I (wTo n),I (wCor n),I (wCro n)],.ints true .i8 l3]) rfl (fun h=>?_) (fun h=>?_) ?_
 ·have h:twoB f zs a b=true:=h
  repeat (first|(first|refine ah ?_|refine sat_nd ?_)|refine ag (aL ha0 ha1) ?_|refine ag (aL hb0 hb1) ?_|refine ag (bh hc2 rfl hv3) ?_|refine ag (cy hc2 rfl hv3) ?_|refine ag (aU hc2 rfl) ?_|refine ag hf0 ?_)
  refine ae ⟨_,_,Ent.ren [0,1,2,3,4,5,6,7] [2,3,4,5,6,7,8,9] rfl rfl rfl,rfl,_,_,rfl,?_,rfl,rfl⟩
  rw[paR,h];rfl
 ·have h:twoB f zs a b=false:=h
  refine ae ⟨_,_,Ent.ren [0,1,2,3,4,5,6,7] [2,3,4,5,6,7,8,9] rfl rfl rfl,rfl,_,_,rfl,?_,rfl,rfl⟩
  rw[paR,h];rfl
 rintro e tm hp ⟨rfl,ca2,pa2,hca2,hpa2,rfl,rfl⟩
 repeat (first|(first|refine ah ?_|refine sat_nd ?_)|refine ag (aL ha0 ha1) ?_|refine ag (aL hb0 hb1) ?_|refine ag (bh hc2 rfl hv3) ?_|refine ag (cy hc2 rfl hv3) ?_|refine ag (aU hc2 rfl) ?_|refine ag hf0 ?_)
 refine cL hE 2 (fun e tm hp=>e=.normal/\∃ ha2:Int,ha2=haR f zs pa ha a b/\tm=[(2,.ptr 1 0 0),(3,.ptr 2 0 0),(4,.ptr 3 0 0),(5,.ptr 4 0 0),(6,.ptr 5 0 0),(7,.int .i8 (zs.getD a.toNat 0)),(8,.ptr 6 0 0),(9,Bb c)]/\hp=[.ints false .i8 zs,.cells true [I f,I r,.sl 0 0 zs.length none,Bb bl,.int .u8 ca,I pa,I ha,I fu],.cells true [I a,I b,.int .i8 pr],.cells true [I f,I r,.sl 7 0 len none,Bb bl,.int .u8 ca2,I pa2,I ha2,I fu],.cells true [I a,I b,.int .i8 pr,.int .i8 cap,I at2,.int .u8 ca,I pa,I ha,I fu],.cells true [I 0],.cells true [.int .u8 (wBit n),Bb (wBl n),I (kV n),I (wTo n),I (wCor n),I (wCro n)],.ints true .i8 l3]) rfl (fun h=>?_) (fun h=>?_) ?_
 ·have h:(decide (absP (zs.getD a.toNat 0)=1)||!decide (cap=0))=true:=h
  refine ae ⟨_,_,Ent.ren [0,1,2,3,4,5,6,7] [2,3,4,5,6,7,8,9] rfl rfl rfl,rfl,_,?_,rfl,rfl⟩
  rw[haR,<-hcap,h];rfl
 ·have h:(decide (absP (zs.getD a.toNat 0)=1)||!decide (cap=0))=false:=h
  refine ae ⟨_,_,Ent.ren [0,1,2,3,4,5,6,7] [2,3,4,5,6,7,8,9] rfl rfl rfl,rfl,_,?_,rfl,rfl⟩
  rw[haR,<-hcap,h];rfl
 rintro e tm hp ⟨rfl,ha2,hha2,rfl,rfl⟩
 repeat (first|(first|refine ah ?_|refine sat_nd ?_)|refine ag (aL ha0 ha1) ?_|refine ag (aL hb0 hb1) ?_|refine ag (bh hc2 rfl hv3) ?_|refine ag (cy hc2 rfl hv3) ?_|refine ag (aU hc2 rfl) ?_|refine ag hf0 ?_)
 refine cL hE 2 (fun e tm hp=>e=.normal/\∃ fu2:Int,fu2=fuR bl fu/\tm=[(2,.ptr 1 0 0),(3,.ptr 2 0 0),(4,.ptr 3 0 0),(5,.ptr 4 0 0),(6,.ptr 5 0 0),(7,.int .i8 (zs.getD a.toNat 0)),(8,.ptr 6 0 0),(9,Bb c)]/\hp=[.ints false .i8 zs,.cells true [I f,I r,.sl 0 0 zs.length none,Bb bl,.int .u8 ca,I pa,I ha,I fu],.cells true [I a,I b,.int .i8 pr],.cells true [I f,I r,.sl 7 0 len none,Bb bl,.int .u8 ca2,I pa2,I ha2,I fu2],.cells true [I a,I b,.int .i8 pr,.int .i8 cap,I at2,.int .u8 ca,I pa,I ha,I fu],.cells true [I 0],.cells true [.int .u8 (wBit n),Bb (wBl n),I (kV n),I (wTo n),I (wCor n),I (wCro n)],.ints true .i8 l3]) rfl (fun h=>?_) (fun h=>?_) ?_
 ·have h:bl=true:=h
  refine ae ⟨_,_,Ent.ren [0,1,2,3,4,5,6,7] [2,3,4,5,6,7,8,9] rfl rfl rfl,rfl,_,?_,rfl,rfl⟩
  rw[fuR,h];rfl
 ·have h:bl=false:=h
  refine ae ⟨_,_,Ent.ren [0,1,2,3,4,5,6,7] [2,3,4,5,6,7,8,9] rfl rfl rfl,rfl,_,?_,rfl,rfl⟩
  rw[fuR,h];rfl
 rintro e tm hp ⟨rfl,fu2,hfu2,rfl,rfl⟩
 have hl3n:len=l3.length:=by rw[hl3,qW,hlen]
 have hl64:len<=64:=by rw[hlen];exact hc2
 repeat (first|(first|refine ah ?_|refine sat_nd ?_)|refine ag (aL ha0 ha1) ?_|refine ag (aL hb0 hb1) ?_|refine ag (bh hc2 rfl hv3) ?_|refine ag (cy hc2 rfl hv3) ?_|refine ag (aU hc2 rfl) ?_|refine ag hf0 ?_|refine ag (kZ hl3n hl64) ?_|refine ag (mH hl3n hl64) ?_)
 refine ax (fun h=>?_) (fun h=>?_)
 ·have h:(chkB f r ((l3.drop 0).take len) bl||(c&&(chkB f r (tk zs) bl||!decide ((dw f r (tk zs) (wCro n) (!bl)).1=0))))=true:=h
  rw[aM,tk_n hl3n,hl3,hcs,hn]at h
  have h:err4 ⟨f,r,zs,bl,ca,pa,ha,fu⟩ ⟨a,b,pr⟩=true:=h
  exact ae (sE (by simp only[mkE5,e1,e2,e3,h,cond_true,cond_false]) rfl (Ent.ren [0,1,2,3,4,5,7] [4,5,6] rfl rfl rfl))
 have h:(chkB f r ((l3.drop 0).take len) bl||(c&&(chkB f r (tk zs) bl||!decide ((dw f r (tk zs) (wCro n) (!bl)).1=0))))=false:=h
 rw[aM,tk_n hl3n,hl3,hcs,hn]at h
 have e4:err4 ⟨f,r,zs,bl,ca,pa,ha,fu⟩ ⟨a,b,pr⟩=false:=h
 clear h
 repeat (first|(first|refine ah ?_|refine sat_nd ?_)|refine ag (aL ha0 ha1) ?_|refine ag (aL hb0 hb1) ?_|refine ag (bh hc2 rfl hv3) ?_|refine ag (cy hc2 rfl hv3) ?_|refine ag (aU hc2 rfl) ?_|refine ag hf0 ?_|refine ag (kZ hl3n hl64) ?_|refine ag (mH hl3n hl64) ?_)
 refine ax (fun h=>?_) (fun h=>?_)
 ·have h:(decide (10000<ha2)||decide (10000<fu2))=true:=h
  rw[hha2,hfu2]at h
  have h:err5 ⟨f,r,zs,bl,ca,pa,ha,fu⟩ ⟨a,b,pr⟩=true:=h
  exact ae (sE (by simp only[mkE5,e1,e2,e3,e4,h,cond_true,cond_false]) rfl (Ent.ren [0,1,2,3,4,5,7] [4,5,6] rfl rfl rfl))
 have h:(decide (10000<ha2)||decide (10000<fu2))=false:=h
 rw[hha2,hfu2]at h
 have e5:err5 ⟨f,r,zs,bl,ca,pa,ha,fu⟩ ⟨a,b,pr⟩=false:=h
 clear h
 repeat (first|(first|refine ah ?_|refine sat_nd ?_)|refine ag (aL ha0 ha1) ?_|refine ag (aL hb0 hb1) ?_|refine ag (bh hc2 rfl hv3) ?_|refine ag (cy hc2 rfl hv3) ?_|refine ag (aU hc2 rfl) ?_|refine ag hf0 ?_|refine ag (kZ hl3n hl64) ?_|refine ag (mH hl3n hl64) ?_)
 have he:mkE5 ⟨f,r,zs,bl,ca,pa,ha,fu⟩ ⟨a,b,pr⟩=0:=by simp only[mkE5,e1,e2,e3,e4,e5,cond_false]
 subst hlen
 exact ae (GD (q:=⟨f,r,l3,!bl,ca2,pa2,ha2,fu2⟩) (x:=⟨⟨a,b,pr⟩,cap,at2,ca,pa,ha,fu⟩) he (by rw[mkP,he,hl3,hca2,hpa2,hha2,hfu2];rfl) (by rw[mkU,he,hcap,hat2];rfl) hl3n.symm (Ent.ren [0,1,2,3,4,5,7] [4,5,6] rfl rfl rfl))
def yS:CF
 |[.agg [.int .i64 f,.int .i64 r,.sl 0 0 len none,.bool bl,.int .u8 ca,.int .i64 pa,.int .i64 ha,.int .i64 fu],.agg [.int .i64 a,.int .i64 b,.int .i8 pr]],[.ints false .i8 zs]=>some (decide (len=zs.length)&&decide (zs.length<=64),.tup [psV 1 (mkP ⟨f,r,zs,bl,ca,pa,ha,fu⟩ ⟨a,b,pr⟩),unV (mkU ⟨f,r,zs,bl,ca,pa,ha,fu⟩ ⟨a,b,pr⟩),I (mkE5 ⟨f,r,zs,bl,ca,pa,ha,fu⟩ ⟨a,b,pr⟩)],[.ints true .i8 (mkP ⟨f,r,zs,bl,ca,pa,ha,fu⟩ ⟨a,b,pr⟩).zs])
 |_,_=>none
theorem ud:CtOk (GGx true kDb) PP (63,yS):=by
 refine aD Tryz.func63 (by kernel_rfl) rfl fun a0 h0 c0 v0 N0 e hc=>?_
 unfold yS at e
 split at e
 ·rename_i f r len bl ca pa ha fu a b pr zs
  cases e
  simp only[Bool.and_eq_true,decide_eq_true_eq]at hc
  obtain⟨rfl,hc2⟩:=hc
  exact Ga hc2
 ·cases e
end
end Go.Ab
