/- Contracts of the functions that the laws reach, and plain laws of what they compute (text G9); no condition. -/
import Derived.Test.YtcmhemipmmckoaaGreatDoorG8
import Derived.Test.YtcmhemipmmckoaaGreatDoorG4
import Derived.Test.YtcmhemipmmckoaaGreatDoorG6
set_option maxRecDepth 100000
namespace Go.Ab
open Go.Proofs
theorem GL{p:Int}(h:-6<=p/\p<=6):absP p=p.natAbs:=by
 have hw:w8 (0-p)=-p:=by
  have hb:IntKind.i8.bits=8:=rfl
  have:∀ q:_root_.Fin 13,w8 (0-((q.val:Int)-6))=-((q.val:Int)-6):=by decide +kernel
  have h2:=this ⟨(p+6).toNat,by omega⟩
  simp only at h2
  rwa [show (((p+6).toNat:Int)-6)=p by omega]at h2
 unfold absP
 rw[hw]
 unfold imax
 by_cases h1:p < -p<;>simp[h1]<;>omega
end Go.Ab
namespace Go.Ab
open IntKind
open Go.Proofs
section
variable{kCa kDb:Bool}
theorem FT{C:Int->Bool}{l:List Int}{j:Nat}(h:j<l.length):(bif C (l.getD j 0) then(l.take j).filter C++[l.getD j 0] else(l.take j).filter C)=(l.take (j+1)).filter C:=by
 have e:l.getD j 0=l[j]:=by simp[List.getD,h]
 rw[e,List.take_succ_eq_append_getElem h,List.filter_append]
 cases hc:C l[j]<;>simp[hc]
def aW(p:Int):Int:=bif decide (p<0)then w8 (0-p)else p
def sdI(bl:Bool):Int:=bif bl then -1 else 1
def xE(zs:List Int)(s i:Int):Bool:=decide (sgn (zs.getD i.toNat 0)=s)
def cK(zs:List Int)(s:Int):List Int:=cB (xE zs s) id zs.length
def occL(zs:List Int):Int:=ofL (cK zs 1++cK zs (-1)) 0
def kR(zs:List Int)(p i:Int):Bool:=decide (zs.getD i.toNat 0=p)
def iu(zs:List Int)(p:Int):List Int:=cB (kR zs p) id zs.length
def tM(f r:Int)(zs:List Int)(i to occ:Int):Bool:=bif decide (aW (zs.getD i.toNat 0)=1)then hasL to (cB (dK f (decide (zs.getD i.toNat 0<0)) i) id (f*r).toNat)else !decide (i=to)&&bL f r (aW (zs.getD i.toNat 0)) i to occ
def AH(f r:Int)(zs:List Int)(to occ i:Int):Bool:=tM f r zs i to occ
def attL(f r:Int)(zs:List Int)(to:Int)(bl:Bool):List Int:=(cK zs (sdI bl)).filter (AH f r zs to (occL zs))
def bp(zs:List Int)(bl:Bool):Int:=bif decide (((iu zs (w8 (i64.wrap (6*sdI bl)))).length:Int)=1) then(iu zs (w8 (i64.wrap (6*sdI bl)))).getD 0 0 else -1
theorem gP(zs:List Int)(s:Int):(cK zs s).length<=zs.length:=dk _ _ _
theorem gE{zs:List Int}{s x:Int}:x∈cK zs s↔0<=x/\x<zs.length/\sgn (zs.getD x.toNat 0)=s:=by
 unfold cK
 rw[ey]
 simp[xE]
theorem qS{f r:Int}{zs:List Int}:(vsB f r&&decide ((zs.length:Int)=i64.wrap (f*r))&&zs.all okP)=aC f r zs:=by
 unfold aC cntR
 cases vsB f r
 ·simp
 ·simp[badP,List.any_eq_not_all_not]
theorem xX{f r:Int}{zs:List Int}:(aC f r zs&&zs.all (fun p=>!norP p))=aV f r zs:=by
 unfold aV
 simp[List.any_eq_not_all_not]
def xz:CF
 |[.int .i8 p],[]=>some (true,.bool (okP p),[])
 |_,_=>none
theorem Cf:CtOk (GGx kCa kDb) PP (133,xz):=by
 refine aD Tryz.func133 (by kernel_rfl) rfl fun a0 h0 c0 v0 N0 e hc=>?_
 unfold xz at e
 split at e
 ·rename_i p
  cases e
  have hE:=aB (kCa:=kCa) (kDb:=kDb) (cts:=[]) (inl:=[]) trivial trivial
  refine ak hE 2 Tryz.func133 rfl rfl ?_
  repeat' first|(first|refine ah ?_|refine sat_nd ?_)|refine aq (fun h=>?_) (fun h=>?_)
  all_goals exact ag (ai (.inr rfl) rfl rfl rfl (by first|rfl|(simp only[*,cond_true,cond_false];done)|(simp only[*,cond_true,cond_false,Bool.not_true,Bool.not_false,Bool.and_true,Bool.true_and,Bool.and_false,Bool.false_and,Bool.or_true,Bool.true_or,Bool.or_false,Bool.false_or];done)|simp_all []))
 ·cases e
def qI:CF
 |[.int .i8 p],[]=>some (true,.bool (orP p),[])
 |_,_=>none
theorem wW:CtOk (GGx kCa kDb) PP (79,qI):=by
 refine aD Tryz.func79 (by kernel_rfl) rfl fun a0 h0 c0 v0 N0 e hc=>?_
 unfold qI at e
 split at e
 ·rename_i p
  cases e
  have hE:=aB (kCa:=kCa) (kDb:=kDb) (cts:=[]) (inl:=[]) trivial trivial
  refine ak hE 2 Tryz.func79 rfl rfl ?_
  repeat' first|(first|refine ah ?_|refine sat_nd ?_)|refine aq (fun h=>?_) (fun h=>?_)
  all_goals exact ag (ai (.inr rfl) rfl rfl rfl (by first|rfl|(simp only[*,cond_true,cond_false];done)|(simp only[*,cond_true,cond_false,Bool.not_true,Bool.not_false,Bool.and_true,Bool.true_and,Bool.and_false,Bool.false_and,Bool.or_true,Bool.true_or,Bool.or_false,Bool.false_or];done)|simp_all []))
 ·cases e
def mC:CF
 |[.int .i8 p],[]=>some (true,.int .i64 (sgn p),[])
 |_,_=>none
theorem nY:CtOk (GGx kCa kDb) PP (139,mC):=by
 refine aD Tryz.func139 (by kernel_rfl) rfl fun a0 h0 c0 v0 N0 e hc=>?_
 unfold mC at e
 split at e
 ·rename_i p
  cases e
  have hE:=aB (kCa:=kCa) (kDb:=kDb) (cts:=[]) (inl:=[]) trivial trivial
  refine ak hE 2 Tryz.func139 rfl rfl ?_
  repeat' first|(first|refine ah ?_|refine sat_nd ?_)|refine aq (fun h=>?_) (fun h=>?_)
  all_goals exact ag (ai (.inr rfl) rfl rfl rfl (by first|rfl|(simp only[sgn, *,cond_true,cond_false];done)|(simp only[sgn, *,cond_true,cond_false,Bool.not_true,Bool.not_false,Bool.and_true,Bool.true_and,Bool.and_false,Bool.false_and,Bool.or_true,Bool.true_or,Bool.or_false,Bool.false_or];done)|simp_all [sgn]))
 ·cases e
def fx:CF
 |[.int .i8 p],[]=>some (true,.int .i8 (aW p),[])
 |_,_=>none
theorem dZ:CtOk (GGx kCa kDb) PP (38,fx):=by
 refine aD Tryz.func38 (by kernel_rfl) rfl fun a0 h0 c0 v0 N0 e hc=>?_
 unfold fx at e
 split at e
 ·rename_i p
  cases e
  have hE:=aB (kCa:=kCa) (kDb:=kDb) (cts:=[]) (inl:=[]) trivial trivial
  refine ak hE 2 Tryz.func38 rfl rfl ?_
  repeat' first|(first|refine ah ?_|refine sat_nd ?_)|refine aq (fun h=>?_) (fun h=>?_)
  all_goals exact ag (ai (.inr rfl) rfl rfl rfl (by first|rfl|(simp only[aW, *,cond_true,cond_false];done)|(simp only[aW, *,cond_true,cond_false,Bool.not_true,Bool.not_false,Bool.and_true,Bool.true_and,Bool.and_false,Bool.false_and,Bool.or_true,Bool.true_or,Bool.or_false,Bool.false_or];done)|simp_all [aW]))
 ·cases e
def sS:CF
 |[.bool bl],[]=>some (true,.int .i64 (sdI bl),[])
 |_,_=>none
theorem pU:CtOk (GGx kCa kDb) PP (81,sS):=by
 refine aD Tryz.func81 (by kernel_rfl) rfl fun a0 h0 c0 v0 N0 e hc=>?_
 unfold sS at e
 split at e
 ·rename_i bl
  cases e
  have hE:=aB (kCa:=kCa) (kDb:=kDb) (cts:=[]) (inl:=[]) trivial trivial
  refine ak hE 2 Tryz.func81 rfl rfl ?_
  repeat' first|(first|refine ah ?_|refine sat_nd ?_)|refine aq (fun h=>?_) (fun h=>?_)
  all_goals exact ag (ai (.inr rfl) rfl rfl rfl (by first|rfl|(simp only[sdI, *,cond_true,cond_false];done)|(simp only[sdI, *,cond_true,cond_false,Bool.not_true,Bool.not_false,Bool.and_true,Bool.true_and,Bool.and_false,Bool.false_and,Bool.or_true,Bool.true_or,Bool.or_false,Bool.false_or];done)|simp_all [sdI]))
 ·cases e
def Cs:CF
 |[.sl 0 0 len none,.int .i64 n],[.ints false .i64 zs]=>some (decide (len=zs.length)&&decide (zs.length<=1000000),.bool (hasL n zs),[])
 |_,_=>none
theorem Df:CtOk (GGx kCa kDb) PP (160,Cs):=by
 refine aD Tryz.func160 (by kernel_rfl) rfl fun a0 h0 c0 v0 N0 e hc=>?_
 unfold Cs at e
 split at e
 ·rename_i len n zs
  cases e
  have hE:=aB (kCa:=kCa) (kDb:=kDb) (cts:=[]) (inl:=[]) trivial trivial
  refine ak hE 2 Tryz.func160 rfl rfl ?_
  simp only[Bool.and_eq_true,decide_eq_true_eq]at hc
  obtain⟨rfl,hc2⟩:=hc
  refine cx hE 2 (fun i (_:Unit)=>([(0,.sl 0 0 zs.length none),(1,I n),(5,I i)],[.ints false .i64 zs])) zs.length (fun j _=>hasL n (zs.drop j)=hasL n zs) () (by omega) (Ent.ren [0] [0,1,5] rfl rfl rfl) rfl ?_
  intro j i _ hij hj hz
  refine aq (fun hlt=>?_) (fun hlt=>?_)
  ·have hlt':j<zs.length:=by simp at hlt;omega
   rw[vL hlt',show j=i.toNat by omega]at hz
   refine ae (by simp;omega) ?_
   repeat (first|refine ah ?_|refine sat_nd ?_)
   refine aq (fun hon=>?_) (fun hon=>?_)
   ·have hon:decide (zs.getD i.toNat 0=n)=true:=hon
    rw[hon]at hz
    exact ag (ag (ai (.inr rfl) rfl rfl rfl (by rw[<-hz];rfl)))
   ·have hon:decide (zs.getD i.toNat 0=n)=false:=hon
    rw[hon]at hz
    exact ag ⟨hlt',(),by rw[<-hz,show i.toNat=j by omega];rfl,Ent.ren [0] [0,1,5] rfl rfl rfl⟩
  ·obtain rfl:j=zs.length:=by simp at hlt;omega
   rw[List.drop_length]at hz
   exact ag (ag (ai (.inr rfl) rfl rfl rfl (by rw[<-hz];rfl)))
 ·cases e
def nnP(p:Int):Bool:=!norP p
def oh:CF
 |[.agg [.int .i64 f,.int .i64 r,.sl 0 0 len none]],[.ints false .i8 zs]=>some (decide (len=zs.length)&&decide (zs.length<=64),.bool (aC f r zs),[])
 |_,_=>none
theorem uA:CtOk (GGx kCa kDb) PP (78,oh):=by
 refine aD Tryz.func78 (by kernel_rfl) rfl fun a0 h0 c0 v0 N0 e hc=>?_
 unfold oh at e
 split at e
 ·rename_i f r len zs
  cases e
  have hE:=aB (kCa:=kCa) (kDb:=kDb) (cts:=[(132,zV),(133,xz)]) (inl:=[]) ⟨uo,Cf,trivial⟩ trivial
  refine ak hE 2 Tryz.func78 rfl rfl ?_
  simp only[Bool.and_eq_true,decide_eq_true_eq]at hc
  obtain⟨rfl,hc2⟩:=hc
  repeat (first|refine ah ?_|refine sat_nd ?_)
  refine aq (fun h=>?_) (fun h=>?_)
  ·have h:(vsB f r&&decide ((zs.length:Int)=i64.wrap (f*r)))=false:=by
    have h:(!vsB f r||!decide ((zs.length:Int)=i64.wrap (f*r)))=true:=h
    cases h1:vsB f r<;>cases h2:decide ((zs.length:Int)=i64.wrap (f*r))<;>simp_all
   exact ag (ai (.inr rfl) rfl rfl rfl (by rw[<-qS,h];rfl))
  have h:(vsB f r&&decide ((zs.length:Int)=i64.wrap (f*r)))=true:=by
   have h:(!vsB f r||!decide ((zs.length:Int)=i64.wrap (f*r)))=false:=h
   cases h1:vsB f r<;>cases h2:decide ((zs.length:Int)=i64.wrap (f*r))<;>simp_all
  refine cx hE 2 (fun i (_:Unit)=>([(1,.ptr 1 0 0),(3,I i)],[.ints false .i8 zs,.cells true [I f,I r,.sl 0 0 zs.length none]])) zs.length (fun j _=>(zs.drop j).all okP=zs.all okP) () (by omega) (Ent.ren [0,1] [1,3] rfl rfl rfl) rfl ?_
  intro j i _ hij hj hz
  refine aq (fun hlt=>?_) (fun hlt=>?_)
  ·have hlt':j<zs.length:=by simp at hlt;omega
   rw[zy hlt',show j=i.toNat by omega]at hz
   refine ae (by simp;omega) ?_
   repeat (first|(first|refine ah ?_|refine sat_nd ?_)|refine ae (by simp;omega) ?_)
   refine aq (fun hon=>?_) (fun hon=>?_)
   ·have hon:(!okP (zs.getD i.toNat 0))=true:=hon
    have hon:okP (zs.getD i.toNat 0)=false:=by simpa using hon
    rw[hon]at hz
    exact ag (ag (ai (.inr rfl) rfl rfl rfl (by rw[<-qS,h,<-hz];rfl)))
   ·have hon:(!okP (zs.getD i.toNat 0))=false:=hon
    have hon:okP (zs.getD i.toNat 0)=true:=by simpa using hon
    rw[hon]at hz
    exact ag ⟨hlt',(),by rw[<-hz,show i.toNat=j by omega];rfl,Ent.ren [0,1] [1,3] rfl rfl rfl⟩
  ·obtain rfl:j=zs.length:=by simp at hlt;omega
   rw[List.drop_length]at hz
   have hz:zs.all okP=true:=hz.symm
   exact ag (ag (ai (.inr rfl) rfl rfl rfl (by rw[<-qS,h,hz];rfl)))
 ·cases e
def xe:CF
 |[.agg [.int .i64 f,.int .i64 r,.sl 0 0 len none]],[.ints false .i8 zs]=>some (decide (len=zs.length)&&decide (zs.length<=64),.bool (aV f r zs),[])
 |_,_=>none
theorem Bd:CtOk (GGx kCa kDb) PP (35,xe):=by
 refine aD Tryz.func35 (by kernel_rfl) rfl fun a0 h0 c0 v0 N0 e hc=>?_
 unfold xe at e
 split at e
 ·rename_i f r len zs
  cases e
  have hE:=aB (kCa:=kCa) (kDb:=kDb) (cts:=[(78,oh),(79,qI)]) (inl:=[]) ⟨uA,wW,trivial⟩ trivial
  refine ak hE 2 Tryz.func35 rfl rfl ?_
  simp only[Bool.and_eq_true,decide_eq_true_eq]at hc
  obtain⟨rfl,hc2⟩:=hc
  repeat (first|refine ah ?_|refine sat_nd ?_)
  refine aq (fun h=>?_) (fun h=>?_)
  ·have h:aC f r zs=false:=by simpa using h
   exact ag (ai (.inr rfl) rfl rfl rfl (by rw[<-xX,h];rfl))
  have h:aC f r zs=true:=by simpa using h
  refine cx hE 2 (fun i (_:Unit)=>([(1,.ptr 1 0 0),(3,I i)],[.ints false .i8 zs,.cells true [I f,I r,.sl 0 0 zs.length none]])) zs.length (fun j _=>(zs.drop j).all nnP=zs.all nnP) () (by omega) (Ent.ren [0,1] [1,3] rfl rfl rfl) rfl ?_
  intro j i _ hij hj hz
  refine aq (fun hlt=>?_) (fun hlt=>?_)
  ·have hlt':j<zs.length:=by simp at hlt;omega
   rw[zy hlt',show j=i.toNat by omega]at hz
   refine ae (by simp;omega) ?_
   repeat (first|(first|refine ah ?_|refine sat_nd ?_)|refine ae (by simp;omega) ?_)
   refine aq (fun hon=>?_) (fun hon=>?_)
   ·have hon:(!nnP (zs.getD i.toNat 0))=true:=(Bool.not_not _).trans hon
    have hon:nnP (zs.getD i.toNat 0)=false:=by simpa using hon
    rw[hon]at hz
    exact ag (ag (ai (.inr rfl) rfl rfl rfl (by rw[<-xX,h,show zs.all (fun p=>!norP p)=zs.all nnP from rfl,<-hz];rfl)))
   ·have hon:(!nnP (zs.getD i.toNat 0))=false:=(Bool.not_not _).trans hon
    have hon:nnP (zs.getD i.toNat 0)=true:=by simpa using hon
    rw[hon]at hz
    exact ag ⟨hlt',(),by rw[<-hz,show i.toNat=j by omega];rfl,Ent.ren [0,1] [1,3] rfl rfl rfl⟩
  ·obtain rfl:j=zs.length:=by simp at hlt;omega
   rw[List.drop_length]at hz
   have hz:zs.all nnP=true:=hz.symm
   exact ag (ag (ai (.inr rfl) rfl rfl rfl (by rw[<-xX,h,show zs.all (fun p=>!norP p)=zs.all nnP from rfl,hz];rfl)))
 ·cases e
def zO:CF
 |[.agg [.int .i64 _f,.int .i64 _r,.sl 0 0 len none],.int .i64 s],[.ints false .i8 zs]=>some (decide (len=zs.length)&&decide (zs.length<=64),.sl 1 0 (cK zs s).length none,[.ints true .i64 (cK zs s)])
 |_,_=>none
theorem uw:CtOk (GGx kCa kDb) PP (134,zO):=by
 refine aD Tryz.func134 (by kernel_rfl) rfl fun a0 h0 c0 v0 N0 e hc=>?_
 unfold zO at e
 split at e
 ·rename_i f r len s zs
  cases e
  have hE:=aB (kCa:=kCa) (kDb:=kDb) (cts:=[(139,mC)]) (inl:=[]) ⟨nY,trivial⟩ trivial
  refine ak hE 2 Tryz.func134 rfl rfl ?_
  simp only[Bool.and_eq_true,decide_eq_true_eq]at hc
  obtain⟨rfl,hc2⟩:=hc
  refine cx hE 2 (fun(i:Int) (ys:List Int)=>([(1,I s),(2,.ptr 1 0 0),(5,.sl 2 0 ys.length none),(6,I i)],[.ints false .i8 zs,.cells true [I f,I r,.sl 0 0 zs.length none],.ints true .i64 ys])) (zs.length) (fun j ys=>ys=cB (xE zs s) id j) [] (by omega) ((Ent.phanT (t:=5) (o:=.ints true .i64 []) rfl ⟨by simp,by simp,trivial,rfl⟩ (aH rfl)).trans (Ent.ren [0,1,2] [1,2,5,6] rfl rfl rfl)) rfl ?_
  intro j i ys hij hj hz
  have hb:=dk (xE zs s) id j
  rw[<-hz]at hb
  refine aq (fun hlt=>?_) (fun hlt=>?_)
  ·have hlt':j<zs.length:=by simp only[decide_eq_true_eq]at hlt;omega
   have hs:=eJ (xE zs s) id j
   rw[<-hz,<-hij]at hs
   repeat (first|(first|refine ah ?_|refine sat_nd ?_)|refine ae (by simp;omega) ?_)
   refine aq (fun hon=>?_) (fun hon=>?_)
   ·skip
    have hon:xE zs s i=true:=hon
    rw[hon,cond_true]at hs
    refine ae (b:=decide (ys.length=ys.length)&&decide ((ys.length+1)*8<=140737488355328)&&true) (by simp;omega) ?_
    exact ag ⟨hlt',ys++[id i],hs.symm,Ent.ren [0,1,4] [1,2,5,6] rfl rfl rfl⟩
   ·skip
    have hon:xE zs s i=false:=hon
    rw[hon,cond_false]at hs
    exact ag ⟨hlt',ys,hs.symm,Ent.ren [0,1,2] [1,2,5,6] rfl rfl rfl⟩
  ·obtain rfl:j=zs.length:=by simp only[decide_eq_false_iff_not]at hlt;omega
   subst hz
   refine ag (ag ((bW 2 (.inr rfl) rfl rfl rfl rfl rfl rfl)))
 ·cases e
def xp:CF
 |[.agg [.int .i64 _f,.int .i64 _r,.sl 0 0 len none],.int .i8 p],[.ints false .i8 zs]=>some (decide (len=zs.length)&&decide (zs.length<=64),.sl 1 0 (iu zs p).length none,[.ints true .i64 (iu zs p)])
 |_,_=>none
theorem BJ:CtOk (GGx kCa kDb) PP (80,xp):=by
 refine aD Tryz.func80 (by kernel_rfl) rfl fun a0 h0 c0 v0 N0 e hc=>?_
 unfold xp at e
 split at e
 ·rename_i f r len p zs
  cases e
  have hE:=aB (kCa:=kCa) (kDb:=kDb) (cts:=[]) (inl:=[]) trivial trivial
  refine ak hE 2 Tryz.func80 rfl rfl ?_
  simp only[Bool.and_eq_true,decide_eq_true_eq]at hc
  obtain⟨rfl,hc2⟩:=hc
  refine cx hE 2 (fun(i:Int) (ys:List Int)=>([(1,.int .i8 p),(2,.ptr 1 0 0),(5,.sl 2 0 ys.length none),(6,I i)],[.ints false .i8 zs,.cells true [I f,I r,.sl 0 0 zs.length none],.ints true .i64 ys])) (zs.length) (fun j ys=>ys=cB (kR zs p) id j) [] (by omega) ((Ent.phanT (t:=5) (o:=.ints true .i64 []) rfl ⟨by simp,by simp,trivial,rfl⟩ (aH rfl)).trans (Ent.ren [0,1,2] [1,2,5,6] rfl rfl rfl)) rfl ?_
  intro j i ys hij hj hz
  have hb:=dk (kR zs p) id j
  rw[<-hz]at hb
  refine aq (fun hlt=>?_) (fun hlt=>?_)
  ·have hlt':j<zs.length:=by simp only[decide_eq_true_eq]at hlt;omega
   have hs:=eJ (kR zs p) id j
   rw[<-hz,<-hij]at hs
   repeat (first|(first|refine ah ?_|refine sat_nd ?_)|refine ae (by simp;omega) ?_)
   refine aq (fun hon=>?_) (fun hon=>?_)
   ·skip
    have hon:kR zs p i=true:=hon
    rw[hon,cond_true]at hs
    refine ae (b:=decide (ys.length=ys.length)&&decide ((ys.length+1)*8<=140737488355328)&&true) (by simp;omega) ?_
    exact ag ⟨hlt',ys++[id i],hs.symm,Ent.ren [0,1,4] [1,2,5,6] rfl rfl rfl⟩
   ·skip
    have hon:kR zs p i=false:=hon
    rw[hon,cond_false]at hs
    exact ag ⟨hlt',ys,hs.symm,Ent.ren [0,1,2] [1,2,5,6] rfl rfl rfl⟩
  ·obtain rfl:j=zs.length:=by simp only[decide_eq_false_iff_not]at hlt;omega
   subst hz
   refine ag (ag ((bW 2 (.inr rfl) rfl rfl rfl rfl rfl rfl)))
 ·cases e
end
end Go.Ab
namespace Go.Ab
open Go.Proofs
section
variable{kCa kDb:Bool}
theorem fP(l:List Int):(tk l).length=l.length:=by rw[aF]
theorem Fs(l m:List Int)(h:l.length<=1000000)(h2:m.length<=1000000)(b:Bool)(hb:b=true):(decide ((tk l).length=(tk l).length)&&decide (((tk l).length+m.length)*8<=140737488355328)&&b)=true:=by rw[fP,hb];simp;omega
theorem Gy(zs:List Int)(h:zs.length<=64){L:List Int}{n:Nat}(hL:L=cK zs 1++cK zs (-1))(hn:n=L.length):(decide (n=((L.drop 0).take n).length)&&decide (((L.drop 0).take n).length<=1000000)&&((L.drop 0).take n).all fun x=>decide (0<=x))=true:=by
 subst hn
 have e:(L.drop 0).take L.length=L:=by simp
 rw[e]
 have h1:=gP zs 1
 have h2:=gP zs (-1)
 have h3:L.length<=1000000:=by rw[hL,List.length_append];omega
 simp only[decide_true,Bool.true_and,Bool.and_eq_true,decide_eq_true_eq,List.all_eq_true]
 refine⟨h3,fun x hx=>?_⟩
 rw[hL]at hx
 rcases List.mem_append.1 hx with hx|hx<;>exact(gE.1 hx).1
def DQ:CF
 |[.agg [.int .i64 _f,.int .i64 _r,.sl 0 0 len none]],[.ints false .i8 zs]=>some (decide (len=zs.length)&&decide (zs.length<=64),.int .u64 (occL zs),[])
 |_,_=>none
theorem sP:CtOk (GGx kCa kDb) PP (135,DQ):=by
 refine aD Tryz.func135 (by kernel_rfl) rfl fun a0 h0 c0 v0 N0 e hc=>?_
 unfold DQ at e
 split at e
 ·rename_i f r len zs
  cases e
  have hE:=aB (kCa:=kCa) (kDb:=kDb) (cts:=[(134,zO),(22,c_Of)]) (inl:=[]) ⟨uw,Kk,trivial⟩ trivial
  refine ak hE 2 Tryz.func135 rfl rfl ?_
  simp only[Bool.and_eq_true,decide_eq_true_eq]at hc
  obtain⟨rfl,hc2⟩:=hc
  have l1:=gP zs 1
  have l2:=gP zs (-1)
  repeat (first|refine ah ?_|refine sat_nd ?_)
  refine ae (by
   refine Fs (cK (tk zs) 1) (cK (tk zs) (-1)) ?_ ?_ _ rfl<;>simp only[aF]<;>omega) ?_
  refine ae (by
   refine Gy zs hc2 (L:=tk (cK (tk zs) 1)++tk (cK (tk zs) (-1))) ?_ rfl
   simp only[aF]) ?_
  refine ag (ai (.inr rfl) rfl rfl rfl ?_)
  show U (ofL (tk (tk (cK (tk zs) 1)++tk (cK (tk zs) (-1)))) 0)=_
  simp only[aF]
  rfl
 ·cases e
end
section
variable{kCa kDb:Bool}
theorem Hj{c:Int->Bool}{n m:Nat}(h:n<=1000000)(hm:m=(cB c id n).length):(decide (m=(((cB c id n).drop 0).take m).length)&&decide ((((cB c id n).drop 0).take m).length<=1000000))=true:=by
 subst hm
 have:=dk c id n
 have e:((cB c id n).drop 0).take (cB c id n).length=cB c id n:=by simp
 rw[e];simp;omega
theorem GC{zs:List Int}{s:Int}{i:Nat}(h:i<(cK (tk zs) s).length):0<=(cK (tk zs) s).getD i 0/\(cK (tk zs) s).getD i 0<zs.length:=by
 rw[aF]at h ⊢
 have hm:(cK zs s).getD i 0∈cK zs s:=by simp[List.getD,h]
 have:=gE.1 hm
 exact⟨this.1,this.2.1⟩
def ny:CF
 |[.agg [.int .i64 f,.int .i64 r,.sl 0 0 len none],.int .i64 i,.int .i64 to,.int .u64 occ],[.ints false .i8 zs]=>some (decide (len=zs.length)&&decide (zs.length<=64)&&decide (0<=i)&&decide (i<zs.length)&&vsB f r,.bool (tM f r zs i to occ),[])
 |_,_=>none
theorem tF:CtOk (GGx kCa kDb) PP (136,ny):=by
 refine aD Tryz.func136 (by kernel_rfl) rfl fun a0 h0 c0 v0 N0 e hc=>?_
 unfold ny at e
 split at e
 ·rename_i f r len i to occ zs
  cases e
  have hE:=aB (kCa:=kCa) (kDb:=kDb) (cts:=[(38,fx),(161,jA),(160,Cs),(162,jO)]) (inl:=[]) ⟨dZ,lR,Df,lM,trivial⟩ trivial
  refine ak hE 2 Tryz.func136 rfl rfl ?_
  simp only[Bool.and_eq_true,decide_eq_true_eq]at hc
  obtain⟨⟨⟨⟨rfl,hc2⟩,hi1⟩,hi2⟩,hv⟩:=hc
  have hf:=de hv
  have hm:=gu hv
  have hf0:(!decide (f=0))=true:=by simp;omega
  repeat (first|(first|refine ah ?_|refine sat_nd ?_)|refine ae (by simp;omega) ?_)
  refine aq (fun h=>?_) (fun h=>?_)
  ·have h:decide (aW (zs.getD i.toNat 0)=1)=true:=h
   refine ae hv ?_
   repeat (first|refine ah ?_|refine sat_nd ?_)
   refine ae (Hj (by omega) rfl) ?_
   refine ag (ai (.inr rfl) rfl rfl rfl ?_)
   show V.bool (hasL to (tk (cB (dK f (decide (zs.getD i.toNat 0<0)) i) id (f*r).toNat)))=_
   rw[aF,tM,h];rfl
  ·have h:decide (aW (zs.getD i.toNat 0)=1)=false:=h
   repeat (first|(first|refine ah ?_|refine sat_nd ?_)|refine ae (by rw[hf0];exact Bool.or_true _) ?_)
   exact ag (ai (.inr rfl) rfl rfl rfl (by rw[tM,h];rfl))
 ·cases e
def ec:CF
 |[.agg [.int .i64 f,.int .i64 r,.sl 0 0 len none],.int .i64 to,.bool bl],[.ints false .i8 zs]=>some (decide (len=zs.length)&&decide (zs.length<=64)&&vsB f r,.sl 1 0 (attL f r zs to bl).length none,[.ints true .i64 (attL f r zs to bl)])
 |_,_=>none
theorem fT:CtOk (GGx kCa kDb) PP (82,ec):=by
 refine aD Tryz.func82 (by kernel_rfl) rfl fun a0 h0 c0 v0 N0 e hc=>?_
 unfold ec at e
 split at e
 ·rename_i f r len to bl zs
  cases e
  have hE:=aB (kCa:=kCa) (kDb:=kDb) (cts:=[(81,sS),(134,zO),(135,DQ),(136,ny)]) (inl:=[]) ⟨pU,uw,sP,tF,trivial⟩ trivial
  refine ak hE 2 Tryz.func82 rfl rfl ?_
  simp only[Bool.and_eq_true,decide_eq_true_eq]at hc
  obtain⟨⟨rfl,hc2⟩,hv⟩:=hc
  have hsl:(cK (tk zs) (sdI bl)).length<=zs.length:=by rw[aF];exact gP zs (sdI bl)
  repeat (first|refine ah ?_|refine sat_nd ?_)
  refine cx hE 2 (fun(i:Int) (ys:List Int)=>([(1,I to),(3,.ptr 1 0 0),(7,.sl 3 0 ys.length none),(8,.sl 2 0 (cK (tk zs) (sdI bl)).length none),(9,U (occL (tk zs))),(10,I i)],[.ints false .i8 zs,.cells true [I f,I r,.sl 0 0 zs.length none],.ints true .i64 (cK (tk zs) (sdI bl)),.ints true .i64 ys])) (cK (tk zs) (sdI bl)).length (fun j ys=>ys=((cK (tk zs) (sdI bl)).take j).filter (AH f r (tk zs) to (occL (tk zs)))) [] (by omega) ((Ent.phanT (t:=7) (o:=.ints true .i64 []) rfl ⟨by simp,by simp,trivial,rfl⟩ (aH rfl)).trans (Ent.ren [0,1,2,3] [1,3,7,8,9,10] rfl rfl rfl)) rfl ?_
  intro j i ys hij hj hz
  have hb:ys.length<=j:=by rw[hz];exact Nat.le_trans (List.length_filter_le _ _) (by rw[List.length_take];omega)
  refine aq (fun hlt=>?_) (fun hlt=>?_)
  ·have hlt':j<(cK (tk zs) (sdI bl)).length:=by simp only[decide_eq_true_eq]at hlt;omega
   have hs:=FT (C:=AH f r (tk zs) to (occL (tk zs))) hlt'
   have hgl:=GC (zs:=zs) (s:=sdI bl) (i:=i.toNat) (by omega)
   have hil:(decide (0<=i)&&decide (i<((cK (tk zs) (sdI bl)).length:Int)))=true:=by simp only[Bool.and_eq_true,decide_eq_true_eq];omega
   rw[<-hz,show j=i.toNat by omega]at hs
   repeat (first|(first|refine ah ?_|refine sat_nd ?_)|refine ae hil ?_)
   refine ae (by
    simp only[Bool.and_eq_true,decide_eq_true_eq]
    rw[fP]
    exact⟨⟨⟨⟨by first|rfl|trivial,hc2⟩,hgl.1⟩,hgl.2⟩,hv⟩) ?_
   refine aq (fun hon=>?_) (fun hon=>?_)
   ·skip
    have hon:AH f r (tk zs) to (occL (tk zs)) ((cK (tk zs) (sdI bl)).getD i.toNat 0)=true:=hon
    rw[hon,cond_true]at hs
    refine ae (by simp;omega) ?_
    refine ae (b:=decide (ys.length=ys.length)&&decide ((ys.length+1)*8<=140737488355328)&&true) (by simp;omega) ?_
    exact ag ⟨hlt',ys++[(cK (tk zs) (sdI bl)).getD i.toNat 0],by rw[show j+1=i.toNat+1 by omega];exact hs,Ent.ren [0,1,2,5] [1,3,7,8,9,10] rfl rfl rfl⟩
   ·skip
    have hon:AH f r (tk zs) to (occL (tk zs)) ((cK (tk zs) (sdI bl)).getD i.toNat 0)=false:=hon
    rw[hon,cond_false]at hs
    exact ag ⟨hlt',ys,by rw[show j+1=i.toNat+1 by omega];exact hs,Ent.ren [0,1,2,3] [1,3,7,8,9,10] rfl rfl rfl⟩
  ·obtain rfl:j=(cK (tk zs) (sdI bl)).length:=by simp only[decide_eq_false_iff_not]at hlt;omega
   rw[List.take_length]at hz
   subst hz
   refine ag (ag (bW 3 (.inr rfl) rfl rfl rfl rfl (by simp only[aF];rfl) (by simp only[aF];rfl)))
 ·cases e
end
end Go.Ab
namespace Go.Ab
open IntKind
open Go.Proofs
section
variable{kCa kDb:Bool}
theorem aG{zs:List Int}(h:zs.length<=64){n:Nat}(hn:n=zs.length):(decide (n=(tk zs).length)&&decide ((tk zs).length<=64))=true:=by rw[fP,hn];simp;omega
theorem aI{zs:List Int}(h:zs.length<=64){n:Nat}(hn:n=zs.length){b:Bool}(hb:b=true):(decide (n=(tk zs).length)&&decide ((tk zs).length<=64)&&b)=true:=by rw[fP,hn,hb];simp;omega
def jW:CF
 |[.agg [.int .i64 _f,.int .i64 _r,.sl 0 0 len none],.bool bl],[.ints false .i8 zs]=>some (decide (len=zs.length)&&decide (zs.length<=64),.int .i64 (bp zs bl),[])
 |_,_=>none
theorem lI:CtOk (GGx kCa kDb) PP (36,jW):=by
 refine aD Tryz.func36 (by kernel_rfl) rfl fun a0 h0 c0 v0 N0 e hc=>?_
 unfold jW at e
 split at e
 ·rename_i f r len bl zs
  cases e
  have hE:=aB (kCa:=kCa) (kDb:=kDb) (cts:=[(81,sS),(80,xp)]) (inl:=[]) ⟨pU,BJ,trivial⟩ trivial
  refine ak hE 2 Tryz.func36 rfl rfl ?_
  simp only[Bool.and_eq_true,decide_eq_true_eq]at hc
  obtain⟨rfl,hc2⟩:=hc
  repeat (first|refine ah ?_|refine sat_nd ?_)
  refine aq (fun h=>?_) (fun h=>?_)
  ·have h:(!decide (((iu (tk zs) (w8 (i64.wrap (6*sdI bl)))).length:Int)=1))=true:=h
   rw[aF,Bool.not_eq_true']at h
   exact ag (ai (.inr rfl) rfl rfl rfl (by rw[bp,h];rfl))
  ·have h:(!decide (((iu (tk zs) (w8 (i64.wrap (6*sdI bl)))).length:Int)=1))=false:=h
   rw[aF,Bool.not_eq_false']at h
   have hl:((iu (tk zs) (w8 (i64.wrap (6*sdI bl)))).length:Int)=1:=by rw[aF];exact of_decide_eq_true h
   refine ae (by
    show (decide ((0:Int)<=0)&&decide ((0:Int)<((iu (tk zs) (w8 (i64.wrap (6*sdI bl)))).length:Int)))=true
    rw[hl];rfl) ?_
   exact ag (ai (.inr rfl) rfl rfl rfl (by
    show I ((iu (tk zs) (w8 (i64.wrap (6*sdI bl)))).getD 0 0)=_
    rw[aF,bp,h];rfl))
 ·cases e
end
end Go.Ab
set_option maxHeartbeats 4000000
namespace Go.Ab
open IntKind
open Go.Proofs
section
variable{kCa kDb:Bool}
theorem dM{f r n:Int}(h:aj f r n=true):i64.wrap (n.tdiv f)=py f n/\0<=px f n/\px f n<f/\0<=py f n/\py f n<r/\px f n+py f n*f=n/\3<=f/\f<=8/\3<=r/\r<=8:=by
 have:=eZ h
 have h2:=BD h
 exact⟨this.2.2.2.2.1,this.1,this.2.1,this.2.2.1,this.2.2.2.1,h2,this.2.2.2.2.2⟩
theorem tu{f r:Int}{zs:List Int}{pa:Int}{bl g1 g2:Bool}(h:aC f r zs=true):(!(g1&&g2&&aj f r pa&&decide (i64.wrap (pa.tdiv f)=rkP r bl))||(decide (0<=pa)&&decide (pa<zs.length)))=true:=by
 cases hv:aj f r pa with
 |false=>simp
 |true=>have:=(bN h).1 hv;simp[this.1,this.2]
theorem jH{f r:Int}{zs:List Int}{pa:Int}{bl:Bool}(h:aC f r zs=true)(hr:6<=r)(hv:aj f r pa=true)(hk:i64.wrap (pa.tdiv f)=rkP r bl):0<=pa-f/\pa+f<zs.length/\i64.wrap (pa-f)=pa-f/\i64.wrap (pa+f)=pa+f/\i64.wrap (0-f)=-f/\i64.wrap (pa - -f)=pa+f/\i64.wrap (pa+-f)=pa-f:=by
 obtain⟨h1,h2,h3,h4,h5,h6,h7⟩:=dM hv
 have hl:=(bg h).2
 rw[h1]at hk
 have hw:i64.wrap (r-3)=r-3:=ay (by omega) (by omega)
 have hpy:1<=py f pa/\py f pa+1<r:=by
  cases bl
  ·simp only[rkP,cond_false,hw]at hk;omega
  ·simp only[rkP,cond_true]at hk;omega
 have a1:1*f<=py f pa*f:=Int.mul_le_mul_of_nonneg_right hpy.1 (by omega)
 have a2:(py f pa+1+1)*f<=r*f:=Int.mul_le_mul_of_nonneg_right (by omega) (by omega)
 rw[Int.add_mul,Int.add_mul,Int.mul_comm r f]at a2
 have hlt:=(aL hv)
 exact⟨by omega,by omega,ay (by omega) (by omega),ay (by omega) (by omega),by rw[Int.zero_sub];exact ay (by omega) (by omega),by rw[Int.sub_neg];exact ay (by omega) (by omega),by rw[<-Int.sub_eq_add_neg];exact ay (by omega) (by omega)⟩
theorem gR{f:Int}{g:Bool}(h:f≠0):(!g||!decide (f=0))=true:=by simp[h]
theorem NN{f r:Int}{zs:List Int}{pa ha:Int}{bl x:Bool}(h:aC f r zs=true):(!(decide (6<=r)&&decide (ha=0)&&aj f r pa&&decide (i64.wrap (pa.tdiv f)=rkP r bl)&&x)||(decide (0<=i64.wrap (pa-upP f bl))&&decide (i64.wrap (pa-upP f bl)<zs.length)))=true:=by
 cases hg:(decide (6<=r)&&decide (ha=0)&&aj f r pa&&decide (i64.wrap (pa.tdiv f)=rkP r bl)) with
 |false=>simp
 |true=>
  simp only[Bool.and_eq_true,decide_eq_true_eq]at hg
  obtain⟨h1,h2,h3,h4,h5,h6,h7⟩:=jH (bl:=bl) h hg.1.1.1 hg.1.2 hg.2
  have hfr:=de (bg h).1
  cases bl
  ·rw[Bool.or_eq_true];right
   simp only[upP,cond_false,h5,h6,Bool.and_eq_true,decide_eq_true_eq];omega
  ·rw[Bool.or_eq_true];right
   simp only[upP,cond_true,h3,Bool.and_eq_true,decide_eq_true_eq];omega
theorem MF{f r:Int}{zs:List Int}{pa ha:Int}{bl x y:Bool}(h:aC f r zs=true):(!(decide (6<=r)&&decide (ha=0)&&aj f r pa&&decide (i64.wrap (pa.tdiv f)=rkP r bl)&&x&&y)||(decide (0<=i64.wrap (pa+upP f bl))&&decide (i64.wrap (pa+upP f bl)<zs.length)))=true:=by
 cases hg:(decide (6<=r)&&decide (ha=0)&&aj f r pa&&decide (i64.wrap (pa.tdiv f)=rkP r bl)) with
 |false=>simp
 |true=>
  simp only[Bool.and_eq_true,decide_eq_true_eq]at hg
  obtain⟨h1,h2,h3,h4,h5,h6,h7⟩:=jH (bl:=bl) h hg.1.1.1 hg.1.2 hg.2
  have hfr:=de (bg h).1
  cases bl
  ·rw[Bool.or_eq_true];right
   simp only[upP,cond_false,h5,h7,Bool.and_eq_true,decide_eq_true_eq];omega
  ·rw[Bool.or_eq_true];right
   simp only[upP,cond_true,h4,Bool.and_eq_true,decide_eq_true_eq];omega
def wS:CF
 |[.sl 0 0 len none],[.ints false .i8 zs]=>some (decide (len=zs.length)&&decide (zs.length<=64),.sl 1 0 zs.length none,[.ints true .i8 zs])
 |_,_=>none
theorem Bg:CtOk (GGx kCa kDb) PP (107,wS):=by
 refine aD Tryz.func107 (by kernel_rfl) rfl fun a0 h0 c0 v0 N0 e hc=>?_
 unfold wS at e
 split at e
 ·rename_i len zs
  cases e
  have hE:=aB (kCa:=kCa) (kDb:=kDb) (cts:=[]) (inl:=[]) trivial trivial
  refine oO hE 2 Tryz.func107 rfl rfl ?_
  simp only[Bool.and_eq_true,decide_eq_true_eq]at hc
  obtain⟨rfl,hc2⟩:=hc
  refine FZ (fun h0=>?_) ?_
  ·refine aq (fun _=>?_) (fun h=>(by cases h))
   have hz:zs=[]:=List.eq_nil_of_length_eq_zero h0
   subst hz
   exact ag (GK (Ent.phanT (t:=2) (o:=.ints true .i8 []) rfl ⟨by simp,by simp,trivial,rfl⟩ (aH rfl)) (bW 1 (.inr rfl) rfl rfl rfl rfl rfl rfl))
  ·refine aq (fun h=>(by cases h)) (fun _=>?_)
   refine ae (b:=?B) ?_ ?_
   ·show (decide (0=0)&&decide ((0+zs.length)*1<=140737488355328)&&true)=true
    simp;omega
   exact ag (GK (Ent.refl _ _ _) (bW 2 (.inr rfl) rfl rfl rfl rfl (by show [O.ints true .i8 (tk zs)]=_;rw[aF]) (by show V.sl 1 0 (tk zs).length none=_;rw[aF])))
 ·cases e
def oN:CF
 |[.agg [.int .i64 f,.int .i64 r,.sl 0 0 len none,.bool bl,.int .u8 ca,.int .i64 pa,.int .i64 ha,.int .i64 fu]],[.ints false .i8 zs]=>some (decide (len=zs.length)&&decide (zs.length<=64),.agg [I f,I r,.sl 1 0 zs.length none,Bb bl,.int .u8 ca,I pa,I ha,I fu],[.ints true .i8 zs])
 |_,_=>none
theorem lz:CtOk (GGx kCa kDb) PP (60,oN):=by
 refine aD Tryz.func60 (by kernel_rfl) rfl fun a0 h0 c0 v0 N0 e hc=>?_
 unfold oN at e
 split at e
 ·rename_i f r len bl ca pa ha fu zs
  cases e
  have hE:=aB (kCa:=kCa) (kDb:=kDb) (cts:=[(107,wS)]) (inl:=[]) ⟨Bg,trivial⟩ trivial
  refine ak hE 2 Tryz.func60 rfl rfl ?_
  simp only[Bool.and_eq_true,decide_eq_true_eq]at hc
  obtain⟨rfl,hc2⟩:=hc
  repeat (first|(first|refine ah ?_|refine sat_nd ?_)|refine ae (aG hc2 rfl) ?_)
  exact ag (bW 3 (.inr rfl) rfl rfl rfl rfl (by show [O.ints true .i8 (tk zs)]=_;rw[aF]) (by show V.agg [I f,I r,.sl 1 0 (tk zs).length none,Bb bl,.int .u8 ca,I pa,I ha,I fu]=_;rw[aF]))
 ·cases e
def xU:CF
 |[.agg [.int .i64 f,.int .i64 r,.sl 0 0 len none,.bool bl,.int .u8 _ca,.int .i64 pa,.int .i64 ha,.int .i64 _fu]],[.ints false .i8 zs]=>some (decide (len=zs.length)&&decide (zs.length<=64)&&aC f r zs,.bool (iQ f r zs bl pa ha),[])
 |_,_=>none
theorem BN:CtOk (GGx kCa kDb) PP (75,xU):=by
 refine aD Tryz.func75 (by kernel_rfl) rfl fun a0 h0 c0 v0 N0 e hc=>?_
 unfold xU at e
 split at e
 ·rename_i f r len bl ca pa ha fu zs
  cases e
  have hE:=aB (kCa:=kCa) (kDb:=kDb) (cts:=[(101,eN),(131,Jk)]) (inl:=[]) ⟨cW,Af,trivial⟩ trivial
  refine ak hE 2 Tryz.func75 rfl rfl ?_
  simp only[Bool.and_eq_true,decide_eq_true_eq]at hc
  obtain⟨⟨rfl,hc2⟩,hbd⟩:=hc
  refine aq (fun h=>?_) (fun h=>?_)
  ·have h:decide (pa=-1)=true:=h
   exact ag (ai (.inr rfl) rfl rfl rfl (by rw[iQ,h];rfl))
  have h:decide (pa=-1)=false:=h
  have hf:f≠0:=by have:=de (bg hbd).1;omega
  refine aq (fun h1=>?_) (fun h1=>?_)
  ·have h1:bl=false:=by simpa using h1
   subst h1
   repeat (first|(first|refine ah ?_|refine sat_nd ?_)|refine ae (gR hf) ?_|refine ae (tu (bl:=false) hbd) ?_|refine ae (NN (bl:=false) hbd) ?_|refine ae (MF (bl:=false) hbd) ?_)
   exact ag (ai (.inr rfl) rfl rfl rfl (by rw[iQ,h];rfl))
  ·have h1:bl=true:=by simpa using h1
   subst h1
   repeat (first|(first|refine ah ?_|refine sat_nd ?_)|refine ae (gR hf) ?_|refine ae (tu (bl:=true) hbd) ?_|refine ae (NN (bl:=true) hbd) ?_|refine ae (MF (bl:=true) hbd) ?_)
   exact ag (ai (.inr rfl) rfl rfl rfl (by rw[iQ,h];rfl))
 ·cases e
theorem Iw{f r:Int}{zs:List Int}{g:Bool}(h:aC f r zs=true)(_hz:zs.length<=64):(!g||(decide (0<=f)&&decide (f<=zs.length)&&decide ((zs.length:Int)<=zs.length)))=true:=by
 obtain⟨h1,h2⟩:=bg h
 have:=de h1
 have:1*f<=r*f:=Int.mul_le_mul_of_nonneg_right (by omega) (by omega)
 rw[Int.mul_comm r f]at this
 simp;omega
theorem JE{f r:Int}{zs:List Int}(h:aC f r zs=true)(hz:zs.length<=64):i64.wrap ((zs.length:Int)-f)=(zs.length:Int)-f/\0<=(zs.length:Int)-f/\3<=f:=by
 obtain⟨h1,h2⟩:=bg h
 have:=de h1
 have:1*f<=r*f:=Int.mul_le_mul_of_nonneg_right (by omega) (by omega)
 rw[Int.mul_comm r f]at this
 exact⟨ay (by omega) (by omega),by omega,by omega⟩
theorem FJ{f r:Int}{zs:List Int}(h:aC f r zs=true)(hz:zs.length<=64):(decide (0<=i64.wrap ((zs.length:Int)-f))&&decide (i64.wrap ((zs.length:Int)-f)<=zs.length)&&decide ((zs.length:Int)<=zs.length))=true:=by
 obtain⟨h1,h2,h3⟩:=JE h hz
 rw[h1]
 simp only[Bool.and_eq_true,decide_eq_true_eq]
 omega
theorem Ir{zs:List Int}{a m:Nat}(h:m=zs.length)(hz:zs.length<=64):(decide (m-a=((zs.drop a).take (m-a)).length)&&decide (((zs.drop a).take (m-a)).length<=1000000))=true:=by
 simp only[Bool.and_eq_true,decide_eq_true_eq,List.length_take,List.length_drop]
 omega
theorem Ht{zs:List Int}{b m:Nat}{g:Bool}(h:m<=zs.length)(hz:zs.length<=64):(!g||(decide (m-0=((zs.drop 0).take (m-0)).length)&&decide (((zs.drop 0).take (m-0)).length<=1000000)))=true/\b=b:=by
 rw[Bool.or_eq_true]
 refine⟨.inr ?_,rfl⟩
 simp only[Bool.and_eq_true,decide_eq_true_eq,List.length_take,List.length_drop]
 omega
def qE:CF
 |[.agg [.int .i64 f,.int .i64 r,.sl 0 0 len none,.bool _bl,.int .u8 _ca,.int .i64 _pa,.int .i64 _ha,.int .i64 _fu]],[.ints false .i8 zs]=>some (decide (len=zs.length)&&decide (zs.length<=64)&&aC f r zs,.bool (je f zs),[])
 |_,_=>none
theorem wE:CtOk (GGx kCa kDb) PP (71,qE):=by
 refine aD Tryz.func71 (by kernel_rfl) rfl fun a0 h0 c0 v0 N0 e hc=>?_
 unfold qE at e
 split at e
 ·rename_i f r len bl ca pa ha fu zs
  cases e
  have hE:=aB (kCa:=kCa) (kDb:=kDb) (cts:=[(92,gS)]) (inl:=[]) ⟨ja,trivial⟩ trivial
  refine ak hE 2 Tryz.func71 rfl rfl ?_
  simp only[Bool.and_eq_true,decide_eq_true_eq]at hc
  obtain⟨⟨rfl,hc2⟩,hbd⟩:=hc
  obtain⟨hw1,hw2,hw3⟩:=JE hbd hc2
  have hfl:f.toNat<=zs.length:=by omega
  repeat (first|(first|refine ah ?_|refine sat_nd ?_)|refine ae (Iw hbd hc2) ?_|refine ae (FJ hbd hc2) ?_|refine ae (Ir rfl hc2) ?_|refine ae (Ht (b:=0) hfl hc2).1 ?_)
  refine ag (ai (.inr rfl) rfl rfl rfl (congrArg V.bool ?_))
  show (!((zs.drop (i64.wrap ((zs.length:Int)-f)).toNat).take (zs.length-(i64.wrap ((zs.length:Int)-f)).toNat)).any (isV 1)&&!((zs.drop 0).take (f.toNat-0)).any (isV (-1)))=_
  rw[hw1,je,show ((zs.length:Int)-f).toNat=zs.length-f.toNat by omega,List.drop_zero,Nat.sub_zero,List.take_of_length_le (by simp)]
 ·cases e
def sC:CF
 |[.agg [.int .i64 f,.int .i64 r,.sl 0 0 len none,.bool bl,.int .u8 _ca,.int .i64 _pa,.int .i64 _ha,.int .i64 _fu]],[.ints false .i8 zs]=>some (decide (len=zs.length)&&decide (zs.length<=64),.bool (eF f r zs bl),[])
 |_,_=>none
theorem vU:CtOk (GGx kCa kDb) PP (69,sC):=by
 refine aD Tryz.func69 (by kernel_rfl) rfl fun a0 h0 c0 v0 N0 e hc=>?_
 unfold sC at e
 split at e
 ·rename_i f r len bl ca pa ha fu zs
  cases e
  have hE:=aB (kCa:=kCa) (kDb:=kDb) (cts:=[(49,vq),(28,fL)]) (inl:=[]) ⟨nB,gj,trivial⟩ trivial
  refine ak hE 2 Tryz.func69 rfl rfl ?_
  simp only[Bool.and_eq_true,decide_eq_true_eq]at hc
  obtain⟨rfl,hc2⟩:=hc
  repeat (first|(first|refine ah ?_|refine sat_nd ?_)|refine ae (aG hc2 rfl) ?_)
  refine ag (ai (.inr rfl) rfl rfl rfl (congrArg V.bool ?_))
  show (decide ((bT f r (tk zs) bl).2=0)&&decide ((bH f r (tk zs) (!bl)).2=0)&&decide ((bH f r (tk zs) (!bl)).1=0))=_
  rw[aF];rfl
 ·cases e
end
end Go.Ab
namespace Go.Ab
open Go.Proofs
section
variable{kCa kDb:Bool}
def ei:CF
 |[.agg [.int .i64 f,.int .i64 r,.sl 0 0 len none,.bool bl,.int .u8 ca,.int .i64 pa,.int .i64 ha,.int .i64 fu]],[.ints false .i8 zs]=>some (decide (len=zs.length)&&decide (zs.length<=64),.bool (Psn.ok ⟨f,r,zs,bl,ca,pa,ha,fu⟩),[])
 |_,_=>none
theorem cQ:CtOk (GGx kCa kDb) PP (33,ei):=by
 refine aD Tryz.func33 (by kernel_rfl) rfl fun a0 h0 c0 v0 N0 e hc=>?_
 unfold ei at e
 split at e
 ·rename_i f r len bl ca pa ha fu zs
  cases e
  have hE:=aB (kCa:=kCa) (kDb:=kDb) (cts:=[(67,jK),(69,sC),(71,qE),(73,ld),(75,xU)]) (inl:=[(66,Tryz.f66),(68,Tryz.f68),(70,Tryz.f70),(72,Tryz.f72),(74,Tryz.f74),(76,Tryz.f76)]) ⟨iS,vU,wE,qJ,BN,trivial⟩ ⟨⟨Tryz.func66,by kernel_rfl⟩,⟨Tryz.func68,by kernel_rfl⟩,⟨Tryz.func70,by kernel_rfl⟩,⟨Tryz.func72,by kernel_rfl⟩,⟨Tryz.func74,by kernel_rfl⟩,⟨Tryz.func76,by kernel_rfl⟩,trivial⟩
  refine ak hE 3 Tryz.func33 rfl rfl ?_
  simp only[Bool.and_eq_true,decide_eq_true_eq]at hc
  obtain⟨rfl,hc2⟩:=hc
  repeat (first|refine ah ?_|refine sat_nd ?_)
  refine dB hE 3 7 ?_
  refine rnd ?_
  refine cT (by rfl) ?_
  repeat (first|(first|refine ah ?_|refine sat_nd ?_)|refine ae (aG hc2 rfl) ?_)
  refine aq (fun h0=>?_) (fun h0=>?_)
  ·have h0:(!aC f r (tk zs))=true:=h0
   rw[aF,Bool.not_eq_true']at h0
   exact ag (ag (ai (.inr rfl) rfl rfl rfl (by simp[Psn.ok,h0])))
  have h0:(!aC f r (tk zs))=false:=h0
  have h0t:aC f r (tk zs)=true:=by simpa using h0
  rw[aF,Bool.not_eq_false']at h0
  refine ag ⟨[(1,.ptr 1 0 0),(13,.sl 2 0 6 none),(14,I 6),(15,I 1)],[.ints false .i8 zs,.cells true [I f,I r,.sl 0 0 zs.length none,Bb bl,.int .u8 ca,I pa,I ha,I fu],.vals true 1 [[.fn 66 [.ptr 1 0 0]],[.fn 68 [.ptr 1 0 0]],[.fn 70 [.ptr 1 0 0]],[.fn 72 [.ptr 1 0 0]],[.fn 74 [.ptr 1 0 0]],[.fn 76 [.ptr 1 0 0]]]],Ent.ren [0,1,2] [1,13,14,15] rfl rfl rfl,?_⟩
  refine rnd ?_
  refine cT (by rfl) ?_
  repeat (first|(first|refine ah ?_|refine sat_nd ?_)|refine ae (aG hc2 rfl) ?_|refine ae (aI hc2 rfl h0t) ?_)
  refine aq (fun h1=>?_) (fun h1=>?_)
  ·have h1:(!eF f r (tk zs) bl)=true:=h1
   rw[aF,Bool.not_eq_true']at h1
   exact ag (ag (ai (.inr rfl) rfl rfl rfl (by simp[Psn.ok,h0,h1])))
  have h1:(!eF f r (tk zs) bl)=false:=h1
  rw[aF,Bool.not_eq_false']at h1
  refine ag ⟨[(1,.ptr 1 0 0),(13,.sl 2 0 6 none),(14,I 6),(15,I 2)],[.ints false .i8 zs,.cells true [I f,I r,.sl 0 0 zs.length none,Bb bl,.int .u8 ca,I pa,I ha,I fu],.vals true 1 [[.fn 66 [.ptr 1 0 0]],[.fn 68 [.ptr 1 0 0]],[.fn 70 [.ptr 1 0 0]],[.fn 72 [.ptr 1 0 0]],[.fn 74 [.ptr 1 0 0]],[.fn 76 [.ptr 1 0 0]]]],Ent.ren [0,1,2] [1,13,14,15] rfl rfl rfl,?_⟩
  refine rnd ?_
  refine cT (by rfl) ?_
  repeat (first|(first|refine ah ?_|refine sat_nd ?_)|refine ae (aG hc2 rfl) ?_|refine ae (aI hc2 rfl h0t) ?_)
  refine aq (fun h2=>?_) (fun h2=>?_)
  ·have h2:(!je f (tk zs))=true:=h2
   rw[aF,Bool.not_eq_true']at h2
   exact ag (ag (ai (.inr rfl) rfl rfl rfl (by simp[Psn.ok,h0,h1,h2])))
  have h2:(!je f (tk zs))=false:=h2
  rw[aF,Bool.not_eq_false']at h2
  refine ag ⟨[(1,.ptr 1 0 0),(13,.sl 2 0 6 none),(14,I 6),(15,I 3)],[.ints false .i8 zs,.cells true [I f,I r,.sl 0 0 zs.length none,Bb bl,.int .u8 ca,I pa,I ha,I fu],.vals true 1 [[.fn 66 [.ptr 1 0 0]],[.fn 68 [.ptr 1 0 0]],[.fn 70 [.ptr 1 0 0]],[.fn 72 [.ptr 1 0 0]],[.fn 74 [.ptr 1 0 0]],[.fn 76 [.ptr 1 0 0]]]],Ent.ren [0,1,2] [1,13,14,15] rfl rfl rfl,?_⟩
  refine rnd ?_
  refine cT (by rfl) ?_
  repeat (first|(first|refine ah ?_|refine sat_nd ?_)|refine ae (aG hc2 rfl) ?_|refine ae (aI hc2 rfl h0t) ?_)
  refine aq (fun h3=>?_) (fun h3=>?_)
  ·have h3:(!eD f r (tk zs) ca)=true:=h3
   rw[aF,Bool.not_eq_true']at h3
   exact ag (ag (ai (.inr rfl) rfl rfl rfl (by simp[Psn.ok,h0,h1,h2,h3])))
  have h3:(!eD f r (tk zs) ca)=false:=h3
  rw[aF,Bool.not_eq_false']at h3
  refine ag ⟨[(1,.ptr 1 0 0),(13,.sl 2 0 6 none),(14,I 6),(15,I 4)],[.ints false .i8 zs,.cells true [I f,I r,.sl 0 0 zs.length none,Bb bl,.int .u8 ca,I pa,I ha,I fu],.vals true 1 [[.fn 66 [.ptr 1 0 0]],[.fn 68 [.ptr 1 0 0]],[.fn 70 [.ptr 1 0 0]],[.fn 72 [.ptr 1 0 0]],[.fn 74 [.ptr 1 0 0]],[.fn 76 [.ptr 1 0 0]]]],Ent.ren [0,1,2] [1,13,14,15] rfl rfl rfl,?_⟩
  refine rnd ?_
  refine cT (by rfl) ?_
  repeat (first|(first|refine ah ?_|refine sat_nd ?_)|refine ae (aG hc2 rfl) ?_|refine ae (aI hc2 rfl h0t) ?_)
  refine aq (fun h4=>?_) (fun h4=>?_)
  ·have h4:(!iQ f r (tk zs) bl pa ha)=true:=h4
   rw[aF,Bool.not_eq_true']at h4
   exact ag (ag (ai (.inr rfl) rfl rfl rfl (by simp[Psn.ok,h0,h1,h2,h3,h4])))
  have h4:(!iQ f r (tk zs) bl pa ha)=false:=h4
  rw[aF,Bool.not_eq_false']at h4
  refine ag ⟨[(1,.ptr 1 0 0),(13,.sl 2 0 6 none),(14,I 6),(15,I 5)],[.ints false .i8 zs,.cells true [I f,I r,.sl 0 0 zs.length none,Bb bl,.int .u8 ca,I pa,I ha,I fu],.vals true 1 [[.fn 66 [.ptr 1 0 0]],[.fn 68 [.ptr 1 0 0]],[.fn 70 [.ptr 1 0 0]],[.fn 72 [.ptr 1 0 0]],[.fn 74 [.ptr 1 0 0]],[.fn 76 [.ptr 1 0 0]]]],Ent.ren [0,1,2] [1,13,14,15] rfl rfl rfl,?_⟩
  refine rnd ?_
  refine cT (by rfl) ?_
  repeat (first|(first|refine ah ?_|refine sat_nd ?_)|refine ae (aG hc2 rfl) ?_|refine ae (aI hc2 rfl h0t) ?_)
  refine aq (fun h5=>?_) (fun h5=>?_)
  ·have h5:(!cntB ha fu)=true:=h5
   rw[Bool.not_eq_true']at h5
   exact ag (ag (ai (.inr rfl) rfl rfl rfl (by simp[Psn.ok,h0,h1,h2,h3,h4,h5])))
  have h5:(!cntB ha fu)=false:=h5
  rw[Bool.not_eq_false']at h5
  refine ag ⟨[(1,.ptr 1 0 0),(13,.sl 2 0 6 none),(14,I 6),(15,I 6)],[.ints false .i8 zs,.cells true [I f,I r,.sl 0 0 zs.length none,Bb bl,.int .u8 ca,I pa,I ha,I fu],.vals true 1 [[.fn 66 [.ptr 1 0 0]],[.fn 68 [.ptr 1 0 0]],[.fn 70 [.ptr 1 0 0]],[.fn 72 [.ptr 1 0 0]],[.fn 74 [.ptr 1 0 0]],[.fn 76 [.ptr 1 0 0]]]],Ent.ren [0,1,2] [1,13,14,15] rfl rfl rfl,?_⟩
  refine rnd ?_
  refine vy (by rfl) ?_
  refine ag (ag (ai (.inr rfl) rfl rfl rfl (by simp[Psn.ok,h0,h1,h2,h3,h4,h5])))
 ·cases e
end
section
variable{kCa kDb:Bool}
def ql(k:Int)(bl:Bool):Int:=bif bl then w8 (0-k)else k
def eI(r:Int)(bl:Bool)(n:Int):Int:=bif bl then IntKind.i64.wrap (r-n)else IntKind.i64.wrap (n-1)
def fa(r:Int)(bl:Bool):Int:=bif bl then 0 else IntKind.i64.wrap (r-1)
def chkL(f r:Int)(zs:List Int)(bl:Bool):Bool:=decide (0<((attL f r zs (bp zs bl) (!bl)).length:Int))
def iR(f r:Int)(zs:List Int)(bit:Int):Bool:=bif !decide (f=8)||!decide (r=8)then false else bif decide (bit=1)then decide (zs.getD 4 0=6)&&decide (zs.getD 7 0=4)else bif decide (bit=2)then decide (zs.getD 4 0=6)&&decide (zs.getD 0 0=4)else bif decide (bit=4)then decide (zs.getD 60 0=-6)&&decide (zs.getD 63 0=-4)else decide (zs.getD 60 0=-6)&&decide (zs.getD 56 0=-4)
theorem pB:cy 8 8 [101,49]=4:=by kernel_rfl
theorem sk:cy 8 8 [104,49]=7:=by kernel_rfl
theorem rX:cy 8 8 [97,49]=0:=by kernel_rfl
theorem oW:cy 8 8 [101,56]=60:=by kernel_rfl
theorem qX:cy 8 8 [104,56]=63:=by kernel_rfl
theorem qO:cy 8 8 [97,56]=56:=by kernel_rfl
def rC:CF
 |[.int .i8 k,.bool bl],[]=>some (true,.int .i8 (ql k bl),[])
 |_,_=>none
theorem yh:CtOk (GGx kCa kDb) PP (87,rC):=by
 refine aD Tryz.func87 (by kernel_rfl) rfl fun a0 h0 c0 v0 N0 e hc=>?_
 unfold rC at e
 split at e
 ·rename_i k bl
  cases e
  have hE:=aB (kCa:=kCa) (kDb:=kDb) (cts:=[]) (inl:=[]) trivial trivial
  refine ak hE 2 Tryz.func87 rfl rfl ?_
  repeat' first|(first|refine ah ?_|refine sat_nd ?_)|refine aq (fun h=>?_) (fun h=>?_)
  all_goals exact ag (ai (.inr rfl) rfl rfl rfl (by first|rfl|(simp only[ql, *,cond_true,cond_false];done)|(simp only[ql, *,cond_true,cond_false,Bool.not_true,Bool.not_false,Bool.and_true,Bool.true_and,Bool.and_false,Bool.false_and,Bool.or_true,Bool.true_or,Bool.or_false,Bool.false_or];done)|simp_all [ql]))
 ·cases e
def yq:CF
 |[.agg [.int .i64 _f,.int .i64 r],.bool bl,.int .i64 n],[]=>some (true,.int .i64 (eI r bl n),[])
 |_,_=>none
theorem BZ:CtOk (GGx kCa kDb) PP (85,yq):=by
 refine aD Tryz.func85 (by kernel_rfl) rfl fun a0 h0 c0 v0 N0 e hc=>?_
 unfold yq at e
 split at e
 ·rename_i f r bl n
  cases e
  have hE:=aB (kCa:=kCa) (kDb:=kDb) (cts:=[]) (inl:=[]) trivial trivial
  refine ak hE 2 Tryz.func85 rfl rfl ?_
  repeat' first|(first|refine ah ?_|refine sat_nd ?_)|refine aq (fun h=>?_) (fun h=>?_)
  all_goals exact ag (ai (.inr rfl) rfl rfl rfl (by first|rfl|(simp only[eI, *,cond_true,cond_false];done)|(simp only[eI, *,cond_true,cond_false,Bool.not_true,Bool.not_false,Bool.and_true,Bool.true_and,Bool.and_false,Bool.false_and,Bool.or_true,Bool.true_or,Bool.or_false,Bool.false_or];done)|simp_all [eI]))
 ·cases e
def sL:CF
 |[.agg [.int .i64 _f,.int .i64 r],.bool bl],[]=>some (true,.int .i64 (fa r bl),[])
 |_,_=>none
theorem pP:CtOk (GGx kCa kDb) PP (40,sL):=by
 refine aD Tryz.func40 (by kernel_rfl) rfl fun a0 h0 c0 v0 N0 e hc=>?_
 unfold sL at e
 split at e
 ·rename_i f r bl
  cases e
  have hE:=aB (kCa:=kCa) (kDb:=kDb) (cts:=[]) (inl:=[]) trivial trivial
  refine ak hE 2 Tryz.func40 rfl rfl ?_
  repeat' first|(first|refine ah ?_|refine sat_nd ?_)|refine aq (fun h=>?_) (fun h=>?_)
  all_goals exact ag (ai (.inr rfl) rfl rfl rfl (by first|rfl|(simp only[fa, *,cond_true,cond_false];done)|(simp only[fa, *,cond_true,cond_false,Bool.not_true,Bool.not_false,Bool.and_true,Bool.true_and,Bool.and_false,Bool.false_and,Bool.or_true,Bool.true_or,Bool.or_false,Bool.false_or];done)|simp_all [fa]))
 ·cases e
def uh:CF
 |[.agg [.int .i64 f,.int .i64 r,.sl 0 0 len none,.bool _bl,.int .u8 _ca,.int .i64 _pa,.int .i64 _ha,.int .i64 _fu]],[.ints false .i8 _zs]=>some (true,.agg [I f,I r,.sl 0 0 len none],[])
 |_,_=>none
theorem hU:CtOk (GGx kCa kDb) PP (29,uh):=by
 refine aD Tryz.func29 (by kernel_rfl) rfl fun a0 h0 c0 v0 N0 e hc=>?_
 unfold uh at e
 split at e
 ·rename_i f r len bl ca pa ha fu zs
  cases e
  have hE:=aB (kCa:=kCa) (kDb:=kDb) (cts:=[]) (inl:=[]) trivial trivial
  refine CU hE 2 Tryz.func29 rfl rfl ?_
  repeat (first|refine ah ?_|refine sat_nd ?_)
  exact ag ⟨.inr rfl,_,rfl,rfl,rfl⟩
 ·cases e
def jM:CF
 |[.agg [.int .i64 f,.int .i64 r,.sl 0 0 len none],.bool bl],[.ints false .i8 zs]=>some (decide (len=zs.length)&&decide (zs.length<=64)&&vsB f r,.bool (chkL f r zs bl),[])
 |_,_=>none
theorem iG:CtOk (GGx kCa kDb) PP (37,jM):=by
 refine aD Tryz.func37 (by kernel_rfl) rfl fun a0 h0 c0 v0 N0 e hc=>?_
 unfold jM at e
 split at e
 ·rename_i f r len bl zs
  cases e
  have hE:=aB (kCa:=kCa) (kDb:=kDb) (cts:=[(36,jW),(82,ec)]) (inl:=[]) ⟨lI,fT,trivial⟩ trivial
  refine ak hE 2 Tryz.func37 rfl rfl ?_
  simp only[Bool.and_eq_true,decide_eq_true_eq]at hc
  obtain⟨⟨rfl,hc2⟩,hv⟩:=hc
  repeat (first|(first|refine ah ?_|refine sat_nd ?_)|refine ae (aG hc2 rfl) ?_|refine ae (aI hc2 rfl hv) ?_)
  refine ag (ai (.inr rfl) rfl rfl rfl (by
   show V.bool (chkL f r (tk zs) bl)=_
   rw[aF]))
 ·cases e
def Lw:CF
 |[.agg [.int .i64 _f,.int .i64 _r,.sl 0 0 len none,.bool _bl,.int .u8 _ca,.int .i64 _pa,.int .i64 _ha,.int .i64 _fu],.str s],[.ints false .i8 zs]=>some (decide (len=zs.length)&&decide (zs.length<=64)&&decide (0<=cy 8 8 s)&&decide (cy 8 8 s<zs.length),.int .i8 (zs.getD (cy 8 8 s).toNat 0),[])
 |_,_=>none
theorem IG:CtOk (GGx kCa kDb) PP (137,Lw):=by
 refine aD Tryz.func137 (by kernel_rfl) rfl fun a0 h0 c0 v0 N0 e hc=>?_
 unfold Lw at e
 split at e
 ·rename_i f r len bl ca pa ha fu s zs
  cases e
  have hE:=aB (kCa:=kCa) (kDb:=kDb) (cts:=[(124,nv)]) (inl:=[]) ⟨kp,trivial⟩ trivial
  refine ak hE 2 Tryz.func137 rfl rfl ?_
  simp only[Bool.and_eq_true,decide_eq_true_eq]at hc
  obtain⟨⟨⟨rfl,hc2⟩,h0⟩,h1⟩:=hc
  repeat (first|(first|refine ah ?_|refine sat_nd ?_)|refine ae (by simp only[Bool.and_eq_true,decide_eq_true_eq];omega) ?_)
  exact ag (ai (.inr rfl) rfl rfl rfl rfl)
 ·cases e
theorem bq{zs:List Int}{s:List UInt8}{n:Nat}(h:cy 8 8 s=n)(h2:n<64)(h64:zs.length=64):(decide (zs.length=(tk zs).length)&&decide ((tk zs).length<=64)&&decide (0<=cy 8 8 s)&&decide (cy 8 8 s<(tk zs).length))=true:=by
 rw[fP,h,h64];simp;omega
theorem be{zs:List Int}{s:List UInt8}{n:Nat}{g:Bool}(h:cy 8 8 s=n)(h2:n<64)(h64:zs.length=64):(!g||(decide (zs.length=(tk zs).length)&&decide ((tk zs).length<=64)&&decide (0<=cy 8 8 s)&&decide (cy 8 8 s<(tk zs).length)))=true:=by
 rw[bq h h2 h64];simp
def vX:CF
 |[.agg [.int .i64 f,.int .i64 r,.sl 0 0 len none,.bool _bl,.int .u8 _ca,.int .i64 _pa,.int .i64 _ha,.int .i64 _fu],.int .u8 bit],[.ints false .i8 zs]=>some (decide (len=zs.length)&&decide (zs.length<=64)&&(!decide (f=8)||!decide (r=8)||decide (zs.length=64)),.bool (iR f r zs bit),[])
 |_,_=>none
theorem AO:CtOk (GGx kCa kDb) PP (83,vX):=by
 refine aD Tryz.func83 (by kernel_rfl) rfl fun a0 h0 c0 v0 N0 e hc=>?_
 unfold vX at e
 split at e
 ·rename_i f r len bl ca pa ha fu bit zs
  cases e
  have hE:=aB (kCa:=kCa) (kDb:=kDb) (cts:=[(137,Lw)]) (inl:=[]) ⟨IG,trivial⟩ trivial
  refine ak hE 2 Tryz.func83 rfl rfl ?_
  simp only[Bool.and_eq_true,decide_eq_true_eq]at hc
  obtain⟨⟨rfl,hc2⟩,hv⟩:=hc
  repeat (first|refine ah ?_|refine sat_nd ?_)
  refine aq (fun h=>?_) (fun h=>?_)
  ·have h:(!decide (f=8)||!decide (r=8))=true:=h
   exact ag (ai (.inr rfl) rfl rfl rfl (by rw[iR,h];rfl))
  have h:(!decide (f=8)||!decide (r=8))=false:=h
  have h64:zs.length=64:=by
   rw[h]at hv;simpa using hv
  refine aq (fun h1=>?_) (fun h1=>?_)
  ·have h1:decide (bit=1)=true:=h1
   repeat (first|(first|refine ah ?_|refine sat_nd ?_)|refine ae (bq (n:=4) pB (by decide) h64) ?_|refine ae (be (n:=4) pB (by decide) h64) ?_|refine ae (bq (n:=7) sk (by decide) h64) ?_|refine ae (be (n:=7) sk (by decide) h64) ?_|refine ae (bq (n:=0) rX (by decide) h64) ?_|refine ae (be (n:=0) rX (by decide) h64) ?_|refine ae (bq (n:=60) oW (by decide) h64) ?_|refine ae (be (n:=60) oW (by decide) h64) ?_|refine ae (bq (n:=63) qX (by decide) h64) ?_|refine ae (be (n:=63) qX (by decide) h64) ?_|refine ae (bq (n:=56) qO (by decide) h64) ?_|refine ae (be (n:=56) qO (by decide) h64) ?_)
   exact ag (ai (.inr rfl) rfl rfl rfl (congrArg V.bool (by
    show (decide ((tk zs).getD (cy 8 8 [101,49]).toNat 0=6)&&decide ((tk zs).getD (cy 8 8 [104,49]).toNat 0=4))=_
    rw[aF,pB,sk,iR,h,h1];rfl)))
  have h1:decide (bit=1)=false:=h1
  refine aq (fun h2=>?_) (fun h2=>?_)
  ·have h2:decide (bit=2)=true:=h2
   repeat (first|(first|refine ah ?_|refine sat_nd ?_)|refine ae (bq (n:=4) pB (by decide) h64) ?_|refine ae (be (n:=4) pB (by decide) h64) ?_|refine ae (bq (n:=7) sk (by decide) h64) ?_|refine ae (be (n:=7) sk (by decide) h64) ?_|refine ae (bq (n:=0) rX (by decide) h64) ?_|refine ae (be (n:=0) rX (by decide) h64) ?_|refine ae (bq (n:=60) oW (by decide) h64) ?_|refine ae (be (n:=60) oW (by decide) h64) ?_|refine ae (bq (n:=63) qX (by decide) h64) ?_|refine ae (be (n:=63) qX (by decide) h64) ?_|refine ae (bq (n:=56) qO (by decide) h64) ?_|refine ae (be (n:=56) qO (by decide) h64) ?_)
   exact ag (ai (.inr rfl) rfl rfl rfl (congrArg V.bool (by
    show (decide ((tk zs).getD (cy 8 8 [101,49]).toNat 0=6)&&decide ((tk zs).getD (cy 8 8 [97,49]).toNat 0=4))=_
    rw[aF,pB,rX,iR,h,h1,h2];rfl)))
  have h2:decide (bit=2)=false:=h2
  refine aq (fun h3=>?_) (fun h3=>?_)
  ·have h3:decide (bit=4)=true:=h3
   repeat (first|(first|refine ah ?_|refine sat_nd ?_)|refine ae (bq (n:=4) pB (by decide) h64) ?_|refine ae (be (n:=4) pB (by decide) h64) ?_|refine ae (bq (n:=7) sk (by decide) h64) ?_|refine ae (be (n:=7) sk (by decide) h64) ?_|refine ae (bq (n:=0) rX (by decide) h64) ?_|refine ae (be (n:=0) rX (by decide) h64) ?_|refine ae (bq (n:=60) oW (by decide) h64) ?_|refine ae (be (n:=60) oW (by decide) h64) ?_|refine ae (bq (n:=63) qX (by decide) h64) ?_|refine ae (be (n:=63) qX (by decide) h64) ?_|refine ae (bq (n:=56) qO (by decide) h64) ?_|refine ae (be (n:=56) qO (by decide) h64) ?_)
   exact ag (ai (.inr rfl) rfl rfl rfl (congrArg V.bool (by
    show (decide ((tk zs).getD (cy 8 8 [101,56]).toNat 0=-6)&&decide ((tk zs).getD (cy 8 8 [104,56]).toNat 0=-4))=_
    rw[aF,oW,qX,iR,h,h1,h2,h3];rfl)))
  have h3:decide (bit=4)=false:=h3
  repeat (first|(first|refine ah ?_|refine sat_nd ?_)|refine ae (bq (n:=4) pB (by decide) h64) ?_|refine ae (be (n:=4) pB (by decide) h64) ?_|refine ae (bq (n:=7) sk (by decide) h64) ?_|refine ae (be (n:=7) sk (by decide) h64) ?_|refine ae (bq (n:=0) rX (by decide) h64) ?_|refine ae (be (n:=0) rX (by decide) h64) ?_|refine ae (bq (n:=60) oW (by decide) h64) ?_|refine ae (be (n:=60) oW (by decide) h64) ?_|refine ae (bq (n:=63) qX (by decide) h64) ?_|refine ae (be (n:=63) qX (by decide) h64) ?_|refine ae (bq (n:=56) qO (by decide) h64) ?_|refine ae (be (n:=56) qO (by decide) h64) ?_)
  exact ag (ai (.inr rfl) rfl rfl rfl (congrArg V.bool (by
   show (decide ((tk zs).getD (cy 8 8 [101,56]).toNat 0=-6)&&decide ((tk zs).getD (cy 8 8 [97,56]).toNat 0=-4))=_
   rw[aF,oW,qO,iR,h,h1,h2,h3];rfl)))
 ·cases e
end
end Go.Ab
namespace Go.Ab
open IntKind
open Go.Proofs
section
variable{kCa kDb:Bool}
def rXL(f r:Int)(zs:List Int)(ca bit:Int):Bool:=decide ((u8.wrap (ca.tdiv bit)).tmod 2=1)&&!iR f r zs bit
def cJ(f r:Int)(zs:List Int)(ca:Int):Bool:=bif decide (15<ca)then false else !(rXL f r zs ca 1||rXL f r zs ca 2||rXL f r zs ca 4||rXL f r zs ca 8)
def pasL(f r:Int)(zs:List Int)(bl:Bool)(pa ha:Int):Bool:=bif decide (pa=-1)then true else bif decide (r<6)||!decide (ha=0)||!aj f r pa then false else bif !decide (i64.wrap (2*i64.wrap (pa.tdiv f))=i64.wrap (eI r (!bl) 2+eI r (!bl) 4))then false else decide (zs.getD pa.toNat 0=0)&&decide (zs.getD (numR f r (pa.tmod f) (eI r (!bl) 2)).toNat 0=0)&&decide (zs.getD (numR f r (pa.tmod f) (eI r (!bl) 4)).toNat 0=ql 1 (!bl))
def pwL(f r:Int)(zs:List Int)(i:Int):Bool:=decide (aW (zs.getD i.toNat 0)=1)&&decide (i64.wrap (i.tdiv f)=fa r (decide (zs.getD i.toNat 0<0)))
def tY(f r:Int)(zs:List Int):Bool:=(List.range zs.length).any fun i=>pwL f r zs i
def oK(p:Psn):Bool:=bif !aV p.f p.r p.zs||decide (bp p.zs false<0)||decide (bp p.zs true<0)||chkL p.f p.r p.zs (!p.bl)then false else bif tY p.f p.r p.zs then false else cJ p.f p.r p.zs p.ca&&pasL p.f p.r p.zs p.bl p.pa p.ha&&decide (0<=p.ha)&&decide (p.ha<=10000)&&decide (1<=p.fu)&&decide (p.fu<=10000)
theorem mm{f r:Int}{zs:List Int}{g:Bool}(hc2:zs.length<=64)(hv:(!decide (f=8)||!decide (r=8)||decide (zs.length=64))=true):(!g||(decide (zs.length=(tk zs).length)&&decide ((tk zs).length<=64)&&(!decide (f=8)||!decide (r=8)||decide ((tk zs).length=64))))=true:=by
 rw[fP,hv];simp[hc2]
theorem yI{f r x:Int}{zs:List Int}{bl:Bool}{n:Int}(hbd:aC f r zs=true)(hx:0<=x/\x<f)(hr:6<=r)(hn:n=2\/n=4):0<=numR f r x (eI r bl n)/\numR f r x (eI r bl n)<zs.length:=by
 have hv:=(bg hbd).1
 have hb:=de hv
 have hk:eI r bl n=(bif bl then r-n else n-1):=by
  unfold eI;cases bl
  ·exact ay (by omega) (by omega)
  ·exact ay (by omega) (by omega)
 have ho:onB f r x (eI r bl n)=true:=by
  rw[hk];cases bl
  ·exact jC hx.1 hx.2 (by simp only[cond_false];omega) (by simp only[cond_false];omega)
  ·exact jC hx.1 hx.2 (by simp only[cond_true];omega) (by simp only[cond_true];omega)
 rcases gC f r x (eI r bl n) hv with⟨_,h⟩|⟨h,_⟩
 ·exact(bN hbd).1 h
 ·rw[ho]at h;cases h
theorem cm{zs:List Int}(h:zs.length<=64){n:Nat}(hn:n=zs.length){g:Bool}:(!g||(decide (n=(tk zs).length)&&decide ((tk zs).length<=64)))=true:=by rw[aG h hn];simp
theorem gU{zs:List Int}(h:zs.length<=64){g b:Bool}(hb:b=true):(!g||(decide (zs.length=(tk zs).length)&&decide ((tk zs).length<=64)&&b))=true:=by rw[aI h rfl hb];simp
theorem xC{g:Bool}{x:Int}{n:Nat}(h:0<=x/\x<n):(!g||(decide (0<=x)&&decide (x<n)))=true:=by simp[h]
def oI:CF
 |[.agg [.int .i64 f,.int .i64 r,.sl 0 0 len none,.bool _bl,.int .u8 ca,.int .i64 _pa,.int .i64 _ha,.int .i64 _fu]],[.ints false .i8 zs]=>some (decide (len=zs.length)&&decide (zs.length<=64)&&(!decide (f=8)||!decide (r=8)||decide (zs.length=64)),.bool (cJ f r zs ca),[])
 |_,_=>none
theorem vh:CtOk (GGx kCa kDb) PP (41,oI):=by
 refine aD Tryz.func41 (by kernel_rfl) rfl fun a0 h0 c0 v0 N0 e hc=>?_
 unfold oI at e
 split at e
 ·rename_i f r len bl ca pa ha fu zs
  cases e
  have hE:=aB (kCa:=kCa) (kDb:=kDb) (cts:=[(83,vX)]) (inl:=[]) ⟨AO,trivial⟩ trivial
  refine ak hE 2 Tryz.func41 rfl rfl ?_
  simp only[Bool.and_eq_true,decide_eq_true_eq]at hc
  obtain⟨⟨rfl,hc2⟩,hv⟩:=hc
  refine aq (fun h=>?_) (fun h=>?_)
  ·have h:decide (15<ca)=true:=h
   exact ag (ai (.inr rfl) rfl rfl rfl (by rw[cJ,h];rfl))
  have h:decide (15<ca)=false:=h
  repeat (first|refine ah ?_|refine sat_nd ?_)
  refine dB hE 2 5 ?_
  refine rnd ?_
  refine cT (by rfl) ?_
  repeat (first|(first|refine ah ?_|refine sat_nd ?_)|refine ae (mm hc2 hv) ?_)
  refine aq (fun h0=>?_) (fun h0=>?_)
  ·have h0:rXL f r (tk zs) ca 1=true:=h0
   rw[aF]at h0
   exact ag (ag (ai (.inr rfl) rfl rfl rfl (by simp[cJ,h,h0])))
  have h0:rXL f r (tk zs) ca 1=false:=h0
  rw[aF]at h0
  refine ag ⟨[(1,.ptr 1 0 0),(8,.sl 2 0 4 none),(9,I 4),(10,I 1)],[.ints false .i8 zs,.cells true [I f,I r,.sl 0 0 zs.length none,Bb bl,.int .u8 ca,I pa,I ha,I fu],.ints true .u8 [1,2,4,8]],Ent.ren [0,1,2] [1,8,9,10] rfl rfl rfl,?_⟩
  refine rnd ?_
  refine cT (by rfl) ?_
  repeat (first|(first|refine ah ?_|refine sat_nd ?_)|refine ae (mm hc2 hv) ?_)
  refine aq (fun h1=>?_) (fun h1=>?_)
  ·have h1:rXL f r (tk zs) ca 2=true:=h1
   rw[aF]at h1
   exact ag (ag (ai (.inr rfl) rfl rfl rfl (by simp[cJ,h,h0,h1])))
  have h1:rXL f r (tk zs) ca 2=false:=h1
  rw[aF]at h1
  refine ag ⟨[(1,.ptr 1 0 0),(8,.sl 2 0 4 none),(9,I 4),(10,I 2)],[.ints false .i8 zs,.cells true [I f,I r,.sl 0 0 zs.length none,Bb bl,.int .u8 ca,I pa,I ha,I fu],.ints true .u8 [1,2,4,8]],Ent.ren [0,1,2] [1,8,9,10] rfl rfl rfl,?_⟩
  refine rnd ?_
  refine cT (by rfl) ?_
  repeat (first|(first|refine ah ?_|refine sat_nd ?_)|refine ae (mm hc2 hv) ?_)
  refine aq (fun h2=>?_) (fun h2=>?_)
  ·have h2:rXL f r (tk zs) ca 4=true:=h2
   rw[aF]at h2
   exact ag (ag (ai (.inr rfl) rfl rfl rfl (by simp[cJ,h,h0,h1,h2])))
  have h2:rXL f r (tk zs) ca 4=false:=h2
  rw[aF]at h2
  refine ag ⟨[(1,.ptr 1 0 0),(8,.sl 2 0 4 none),(9,I 4),(10,I 3)],[.ints false .i8 zs,.cells true [I f,I r,.sl 0 0 zs.length none,Bb bl,.int .u8 ca,I pa,I ha,I fu],.ints true .u8 [1,2,4,8]],Ent.ren [0,1,2] [1,8,9,10] rfl rfl rfl,?_⟩
  refine rnd ?_
  refine cT (by rfl) ?_
  repeat (first|(first|refine ah ?_|refine sat_nd ?_)|refine ae (mm hc2 hv) ?_)
  refine aq (fun h3=>?_) (fun h3=>?_)
  ·have h3:rXL f r (tk zs) ca 8=true:=h3
   rw[aF]at h3
   exact ag (ag (ai (.inr rfl) rfl rfl rfl (by simp[cJ,h,h0,h1,h2,h3])))
  have h3:rXL f r (tk zs) ca 8=false:=h3
  rw[aF]at h3
  refine ag ⟨[(1,.ptr 1 0 0),(8,.sl 2 0 4 none),(9,I 4),(10,I 4)],[.ints false .i8 zs,.cells true [I f,I r,.sl 0 0 zs.length none,Bb bl,.int .u8 ca,I pa,I ha,I fu],.ints true .u8 [1,2,4,8]],Ent.ren [0,1,2] [1,8,9,10] rfl rfl rfl,?_⟩
  refine rnd ?_
  refine vy (by rfl) ?_
  exact ag (ag (ai (.inr rfl) rfl rfl rfl (by simp[cJ,h,h0,h1,h2,h3])))
 ·cases e
def ko:CF
 |[.agg [.int .i64 f,.int .i64 r,.sl 0 0 len none,.bool bl,.int .u8 _ca,.int .i64 pa,.int .i64 ha,.int .i64 _fu]],[.ints false .i8 zs]=>some (decide (len=zs.length)&&decide (zs.length<=64)&&aC f r zs,.bool (pasL f r zs bl pa ha),[])
 |_,_=>none
theorem rK:CtOk (GGx kCa kDb) PP (42,ko):=by
 refine aD Tryz.func42 (by kernel_rfl) rfl fun a0 h0 c0 v0 N0 e hc=>?_
 unfold ko at e
 split at e
 ·rename_i f r len bl ca pa ha fu zs
  cases e
  have hE:=aB (kCa:=kCa) (kDb:=kDb) (cts:=[(84,nP),(39,dH),(85,yq),(86,gl),(87,rC)]) (inl:=[]) ⟨kI,bZ,BZ,eV,yh,trivial⟩ trivial
  refine ak hE 2 Tryz.func42 rfl rfl ?_
  simp only[Bool.and_eq_true,decide_eq_true_eq]at hc
  obtain⟨⟨rfl,hc2⟩,hv⟩:=hc
  refine aq (fun h=>?_) (fun h=>?_)
  ·have h:decide (pa=-1)=true:=h
   exact ag (ai (.inr rfl) rfl rfl rfl (by rw[pasL,h];rfl))
  have h:decide (pa=-1)=false:=h
  repeat (first|refine ah ?_|refine sat_nd ?_)
  refine aq (fun h1=>?_) (fun h1=>?_)
  ·have h1:(decide (r<6)||!decide (ha=0)||!aj f r pa)=true:=h1
   exact ag (ai (.inr rfl) rfl rfl rfl (by rw[pasL,h,h1];rfl))
  have h1:(decide (r<6)||!decide (ha=0)||!aj f r pa)=false:=h1
  have h1':=h1
  simp only[Bool.or_eq_false_iff,decide_eq_false_iff_not,Bool.not_eq_false']at h1'
  obtain⟨⟨hr,_⟩,hpv⟩:=h1'
  have hf0:(!decide (f=0))=true:=by have:=de (bg hv).1;simp;omega
  obtain⟨hp1,hp2⟩:=(bN hv).1 hpv
  obtain⟨_,hx1,hx2,_⟩:=dM hpv
  have n2:=yI (bl:=!bl) (n:=2) hv ⟨hx1,hx2⟩ (by omega) (.inl rfl)
  have n4:=yI (bl:=!bl) (n:=4) hv ⟨hx1,hx2⟩ (by omega) (.inr rfl)
  repeat (first|(first|refine ah ?_|refine sat_nd ?_)|refine ae hf0 ?_)
  refine aq (fun h2=>?_) (fun h2=>?_)
  ·have h2:(!decide (i64.wrap (2*i64.wrap (pa.tdiv f))=i64.wrap (eI r (!bl) 2+eI r (!bl) 4)))=true:=h2
   exact ag (ai (.inr rfl) rfl rfl rfl (by rw[pasL,h,h1,h2];rfl))
  have h2:(!decide (i64.wrap (2*i64.wrap (pa.tdiv f))=i64.wrap (eI r (!bl) 2+eI r (!bl) 4)))=false:=h2
  repeat (first|(first|refine ah ?_|refine sat_nd ?_)|refine ae (by simp only[Bool.and_eq_true,decide_eq_true_eq];exact⟨hp1,hp2⟩) ?_|refine ae (xC n2) ?_|refine ae (xC n4) ?_)
  exact ag (ai (.inr rfl) rfl rfl rfl (by rw[pasL,h,h1,h2];rfl))
 ·cases e
theorem Iz{f r:Int}{zs:List Int}{_bl:Bool}{x y:Bool}(hc2:zs.length<=64):(!(!(!aV f r (tk zs)||x||y))||(decide (zs.length=(tk zs).length)&&decide ((tk zs).length<=64)&&vsB f r))=true:=by
 cases h:aV f r (tk zs) with
 |false=>simp
 |true=>rw[fP,(bh h).1];simp[hc2]
theorem v88{f r:Int}{zs:List Int}(h:aC f r zs=true):(!decide (f=8)||!decide (r=8)||decide (zs.length=64))=true:=by
 cases h8:is88 f r with
 |false=>simp only[is88,Bool.and_eq_false_iff]at h8;rcases h8 with h8|h8<;>rw[h8]<;>simp
 |true=>rw[rN h h8];simp
def mw:CF
 |[.agg [.int .i64 f,.int .i64 r,.sl 0 0 len none,.bool bl,.int .u8 ca,.int .i64 pa,.int .i64 ha,.int .i64 fu]],[.ints false .i8 zs]=>some (decide (len=zs.length)&&decide (zs.length<=64),.bool (oK ⟨f,r,zs,bl,ca,pa,ha,fu⟩),[])
 |_,_=>none
theorem mV:CtOk (GGx kCa kDb) PP (12,mw):=by
 refine aD Tryz.func12 (by kernel_rfl) rfl fun a0 h0 c0 v0 N0 e hc=>?_
 unfold mw at e
 split at e
 ·rename_i f r len bl ca pa ha fu zs
  cases e
  have hE:=aB (kCa:=kCa) (kDb:=kDb) (cts:=[(35,xe),(36,jW),(37,jM),(38,fx),(39,dH),(40,sL),(41,oI),(42,ko)]) (inl:=[(29,Tryz.f29)]) ⟨Bd,lI,iG,dZ,bZ,pP,vh,rK,trivial⟩ ⟨⟨Tryz.func29,by kernel_rfl⟩,trivial⟩
  refine ak hE 2 Tryz.func12 rfl rfl ?_
  simp only[Bool.and_eq_true,decide_eq_true_eq]at hc
  obtain⟨rfl,hc2⟩:=hc
  repeat (first|(first|refine ah ?_|refine sat_nd ?_)|refine ae (aG hc2 rfl) ?_|refine ae (cm hc2 rfl) ?_|refine ae (Iz (_bl:=bl) hc2) ?_)
  refine aq (fun h=>?_) (fun h=>?_)
  ·have h:(!aV f r (tk zs)||decide (bp (tk zs) false<0)||decide (bp (tk zs) true<0)||chkL f r (tk zs) (!bl))=true:=h
   rw[aF]at h
   exact ag (ai (.inr rfl) rfl rfl rfl (by simp only[oK,h,cond_true]))
  have h:(!aV f r (tk zs)||decide (bp (tk zs) false<0)||decide (bp (tk zs) true<0)||chkL f r (tk zs) (!bl))=false:=h
  rw[aF]at h
  have h':=h
  simp only[Bool.or_eq_false_iff,Bool.not_eq_false']at h'
  obtain⟨hvs,_,hbd,_⟩:=bh h'.1.1.1
  have hf0:(!decide (f=0))=true:=by have:=de hvs;simp;omega
  have hf1:∀ g:Bool,(!g||!decide (f=0))=true:=fun g=>by rw[hf0];simp
  have h88:=v88 hbd
  have h88t:(!decide (f=8)||!decide (r=8)||decide ((tk zs).length=64))=true:=by rw[aF];exact h88
  have hbdt:aC f r (tk zs)=true:=by rw[aF];exact hbd
  refine cx hE 2 (fun i (_:Unit)=>([(1,.ptr 1 0 0),(4,I i)],[.ints false .i8 zs,.cells true [I f,I r,.sl 0 0 zs.length none,Bb bl,.int .u8 ca,I pa,I ha,I fu]])) zs.length (fun j _=>∀ k,k<j->pwL f r zs (k:Nat)=false) () (by omega) (Ent.ren [0,1] [1,4] rfl rfl rfl) (fun k hk=>absurd hk (by omega)) ?_
  intro j i _ hij hj hz
  refine aq (fun hlt=>?_) (fun hlt=>?_)
  ·have hlt':j<zs.length:=by simp at hlt;omega
   repeat (first|(first|refine ah ?_|refine sat_nd ?_)|refine ae (by simp only[Bool.and_eq_true,decide_eq_true_eq];omega) ?_|refine ae (hf1 _) ?_|refine ae (xC ⟨by omega,by omega⟩) ?_)
   refine aq (fun hon=>?_) (fun hon=>?_)
   ·have hon:pwL f r zs i=true:=hon
    have hpw:tY f r zs=true:=List.any_eq_true.2 ⟨j,List.mem_range.2 hlt',by rw[<-hij];exact hon⟩
    exact ag (ag (ai (.inr rfl) rfl rfl rfl (by simp only[oK,h,hpw,cond_true,cond_false])))
   ·have hon:pwL f r zs i=false:=hon
    refine ag ⟨hlt',(),fun k hk=>?_,Ent.ren [0,1] [1,4] rfl rfl rfl⟩
    rcases Nat.lt_or_ge k j with hk2|hk2
    ·exact hz k hk2
    ·obtain rfl:k=j:=by omega
     rw[<-hij];exact hon
  ·obtain rfl:j=zs.length:=by simp at hlt;omega
   have hpw:tY f r zs=false:=List.any_eq_false.2 fun k hk=>by rw[hz k (List.mem_range.1 hk)];simp
   refine ag ?_
   repeat (first|(first|refine ah ?_|refine sat_nd ?_)|refine ae (aG hc2 rfl) ?_|refine ae (aI hc2 rfl h88t) ?_|refine ae (gU hc2 hbdt) ?_|refine ae (gU hc2 h88t) ?_)
   exact ag (ai (.inr rfl) rfl rfl rfl (by
    show V.bool (cJ f r (tk zs) ca&&pasL f r (tk zs) bl pa ha&&decide (0<=ha)&&decide (ha<=10000)&&decide (1<=fu)&&decide (fu<=10000))=_
    rw[aF];simp only[oK,h,hpw,cond_false]))
 ·cases e
end
section
variable{kDb:Bool}
abbrev u8or(a b:Int):Int:=band .or .u8 a b
def aY(bl:Bool)(ca a b:Int)(c:Bool)(bit k to:Int):Bool:=!(c==bl)||decide (cw ca bit=0)||!decide (k=a)||!decide (to=b)
def wayN(zs:List Int)(bl:Bool)(ca a b:Int):Nat:=bif !decide (absP (zs.getD a.toNat 0)=6)then 4 else bif !aY bl ca a b false 1 4 6 then 0 else bif !aY bl ca a b false 2 4 2 then 1 else bif !aY bl ca a b true 4 60 62 then 2 else bif !aY bl ca a b true 8 60 58 then 3 else 4
def wBit(n:Nat):Int:=([1,2,4,8,0]:List Int).getD n 0
def wBl(n:Nat):Bool:=[false,false,true,true,false].getD n false
def lV(n:Nat):Int:=([4,4,60,60,0]:List Int).getD n 0
def wTo(n:Nat):Int:=([6,2,62,58,0]:List Int).getD n 0
def wCor(n:Nat):Int:=([7,0,63,56,0]:List Int).getD n 0
def wCro(n:Nat):Int:=([5,3,61,59,0]:List Int).getD n 0
def wayB(f r:Int)(zs:List Int)(n:Nat):Bool:=!decide (n=4)&&decide (uand (bS f r (lV n) (wCor n)).1 (occR f r zs)=0)
def MU(r:Int)(bl:Bool):Int:=bif bl then 0 else i64.wrap (r-1)
def iv(f r:Int)(zs:List Int)(bl:Bool)(pa a b pr:Int):Bool:=
 bif !decide (absP (zs.getD a.toNat 0)=1)then decide (pr=0)&&decide (uand (ushr (cq f r (absP (zs.getD a.toNat 0)) a (occR f r zs)).1 b) 1=1)
 else decide (uand (ushr (uor (dm f r bl a (occR f r zs)).1 (bif decide (zs.getD b.toNat 0=0)&&!decide (b=pa)then 0 else(gg f r bl a).1)) b) 1=1)&&((!decide (pr=0))==decide (i64.wrap (b.tdiv f)=MU r bl))
def chkB(f r:Int)(zs:List Int)(b:Bool):Bool:=!decide ((bH f r zs b).1=0)
def dL(at_ s k q bit:Int):Int:=bif decide (k=at_)||decide (q=at_)then u8or s bit else s
def DP(at_:Int):Int:=dL at_ (dL at_ (dL at_ (dL at_ 0 4 7 1) 4 0 2) 60 63 4) 60 56 8
theorem tc{at_ s k q bit:Int}(h:(decide (k=at_)||decide (q=at_))=true):dL at_ s k q bit=u8or s bit:=by rw[dL,h];rfl
theorem rH{at_ s k q bit:Int}(h:(decide (k=at_)||decide (q=at_))=false):dL at_ s k q bit=s:=by rw[dL,h];rfl
theorem oe{g:Bool}{b:Int}(h:0<=b):(!g||decide (0<=b))=true:=by simp[h]
theorem aE{zs:List Int}{b:Int}(h:0<=b)(h1:b<zs.length):(decide (0<=b)&&decide (b<zs.length))=true:=by simp[h,h1]
def zf:CF
 |[.agg [.int .i64 f,.int .i64 r,.sl 0 0 len none,.bool _bl,.int .u8 _ca,.int .i64 _pa,.int .i64 _ha,.int .i64 _fu]],[.ints false .i8 zs]=>some (decide (len=zs.length)&&decide (zs.length<=64),.int .u64 (occR f r zs),[])
 |_,_=>none
theorem uF:CtOk (GGx true kDb) PP (156,zf):=by
 refine aD Tryz.func156 (by kernel_rfl) rfl fun a0 h0 c0 v0 N0 e hc=>?_
 unfold zf at e
 split at e
 ·rename_i f r len bl ca pa ha fu zs
  cases e
  have hE:=aB (kCa:=true) (kDb:=kDb) (cts:=[(149,oT)]) (inl:=[]) ⟨kH,trivial⟩ trivial
  refine ak hE 2 Tryz.func156 rfl rfl ?_
  simp only[Bool.and_eq_true,decide_eq_true_eq]at hc
  obtain⟨rfl,hc2⟩:=hc
  repeat (first|(first|refine ah ?_|refine sat_nd ?_)|refine ae (aG hc2 rfl) ?_)
  refine ag (ai (.inr rfl) rfl rfl rfl (by
   show V.int .u64 (occR f r (tk zs))=_
   rw[aF]))
 ·cases e
def ER:CF
 |[.agg [.int .i64 f,.int .i64 r,.sl 0 0 len none,.bool _bl,.int .u8 _ca,.int .i64 _pa,.int .i64 _ha,.int .i64 _fu],.bool b],[.ints false .i8 zs]=>some (decide (len=zs.length)&&decide (zs.length<=64),.bool (chkB f r zs b),[])
 |_,_=>none
theorem Fq:CtOk (GGx true kDb) PP (118,ER):=by
 refine aD Tryz.func118 (by kernel_rfl) rfl fun a0 h0 c0 v0 N0 e hc=>?_
 unfold ER at e
 split at e
 ·rename_i f r len bl ca pa ha fu b zs
  cases e
  have hE:=aB (kCa:=true) (kDb:=kDb) (cts:=[(28,fL)]) (inl:=[]) ⟨gj,trivial⟩ trivial
  refine ak hE 2 Tryz.func118 rfl rfl ?_
  simp only[Bool.and_eq_true,decide_eq_true_eq]at hc
  obtain⟨rfl,hc2⟩:=hc
  repeat (first|(first|refine ah ?_|refine sat_nd ?_)|refine ae (aG hc2 rfl) ?_)
  refine ag (ai (.inr rfl) rfl rfl rfl (by
   show V.bool (chkB f r (tk zs) b)=_
   rw[aF]))
 ·cases e
def iJ:CF
 |[.agg [.int .i64 f,.int .i64 r,.sl 0 0 len none,.bool bl,.int .u8 ca,.int .i64 _pa,.int .i64 _ha,.int .i64 _fu],.agg [.int .i64 a,.int .i64 b,.int .i8 _pr]],[.ints false .i8 zs]=>some (decide (len=zs.length)&&decide (zs.length<=64)&&(aC f r zs&&aj f r a&&aj f r b),.tup [.agg [.int .u8 (wBit (wayN zs bl ca a b)),Bb (wBl (wayN zs bl ca a b)),I (lV (wayN zs bl ca a b)),I (wTo (wayN zs bl ca a b)),I (wCor (wayN zs bl ca a b)),I (wCro (wayN zs bl ca a b))],Bb (wayB f r zs (wayN zs bl ca a b))],[])
 |_,_=>none
theorem oV:CtOk (GGx true kDb) PP (113,iJ):=by
 refine aD Tryz.func113 (by kernel_rfl) rfl fun a0 h0 c0 v0 N0 e hc=>?_
 unfold iJ at e
 split at e
 ·rename_i f r len bl ca pa ha fu a b pr zs
  cases e
  have hE:=aB (kCa:=true) (kDb:=kDb) (cts:=[(115,uD),(155,gz),(156,zf)]) (inl:=[]) ⟨nQ,uE,uF,trivial⟩ trivial
  refine uV hE 2 Tryz.func113 rfl rfl ?_
  simp only[Bool.and_eq_true,decide_eq_true_eq]at hc
  obtain⟨⟨rfl,hc2⟩,⟨hbd,hva⟩,hvb⟩:=hc
  obtain⟨ha0,ha1⟩:=(bN hbd).1 hva
  obtain⟨hb0,hb1⟩:=(bN hbd).1 hvb
  repeat (first|(first|refine ah ?_|refine sat_nd ?_)|refine ae (aE ha0 ha1) ?_)
  refine aq (fun hk=>?_) (fun hk=>?_)
  ·have hk:(!decide (absP (zs.getD a.toNat 0)=6))=true:=hk
   have hn:wayN zs bl ca a b=4:=by rw[wayN,hk,cond_true]
   refine ag (wN (ai (.inr rfl) rfl rfl rfl rfl) ?_)
   rw[hn]
   exact fun _ _ h=>h
  have hk:(!decide (absP (zs.getD a.toNat 0)=6))=false:=hk
  refine dB hE 2 5 ?_
  refine rnd ?_
  refine cT (by rfl) ?_
  repeat (first|refine ah ?_|refine sat_nd ?_)
  refine aq (fun h0=>?_) (fun h0=>?_)
  rotate_left
  ·have h0:aY bl ca a b false 1 4 6=false:=h0
   have hn:wayN zs bl ca a b=0:=by simp only[wayN,hk,h0,Bool.not_false,cond_true,cond_false]
   repeat (first|(first|refine ah ?_|refine sat_nd ?_)|refine ae (aG hc2 rfl) ?_)
   refine ag (ag (wN (ai (.inr rfl) rfl rfl rfl rfl) ?_))
   rw[hn]
   show Like (V.tup [.agg [.int .u8 1,.lit false,I 4,I 6,I 7,I 5],Bb (decide (uand (bS f r 4 7).1 (occR f r (tk zs))=0))]) _
   rw[aF]
   exact fun _ _ h=>h
  have h0:aY bl ca a b false 1 4 6=true:=h0
  refine ag ⟨[(2,.ptr 1 0 0),(3,.ptr 2 0 0),(4,.ptr 3 0 0),(19,.agg [.int .u8 1,.lit false,.int .i64 4,.int .i64 6,.int .i64 7,.int .i64 5,.int .u8 2,.lit false,.int .i64 4,.int .i64 2,.int .i64 0,.int .i64 3,.int .u8 4,.lit true,.int .i64 60,.int .i64 62,.int .i64 63,.int .i64 61,.int .u8 8,.lit true,.int .i64 60,.int .i64 58,.int .i64 56,.int .i64 59]),(20,I 1)],[.ints false .i8 zs,.cells true [I f,I r,.sl 0 0 zs.length none,Bb bl,.int .u8 ca,I pa,I ha,I fu],.cells true [I a,I b,.int .i8 pr],.cells true [.int .u8 0,.lit false,I 0,I 0,I 0,I 0]],Ent.ren [0,1,2,3] [2,3,4,19,20] rfl rfl rfl,?_⟩
  refine rnd ?_
  refine cT (by rfl) ?_
  repeat (first|refine ah ?_|refine sat_nd ?_)
  refine aq (fun h1=>?_) (fun h1=>?_)
  rotate_left
  ·have h1:aY bl ca a b false 2 4 2=false:=h1
   have hn:wayN zs bl ca a b=1:=by simp only[wayN,hk,h0,h1,Bool.not_true,Bool.not_false,cond_true,cond_false]
   repeat (first|(first|refine ah ?_|refine sat_nd ?_)|refine ae (aG hc2 rfl) ?_)
   refine ag (ag (wN (ai (.inr rfl) rfl rfl rfl rfl) ?_))
   rw[hn]
   show Like (V.tup [.agg [.int .u8 2,.lit false,I 4,I 2,I 0,I 3],Bb (decide (uand (bS f r 4 0).1 (occR f r (tk zs))=0))]) _
   rw[aF]
   exact fun _ _ h=>h
  have h1:aY bl ca a b false 2 4 2=true:=h1
  refine ag ⟨[(2,.ptr 1 0 0),(3,.ptr 2 0 0),(4,.ptr 3 0 0),(19,.agg [.int .u8 1,.lit false,.int .i64 4,.int .i64 6,.int .i64 7,.int .i64 5,.int .u8 2,.lit false,.int .i64 4,.int .i64 2,.int .i64 0,.int .i64 3,.int .u8 4,.lit true,.int .i64 60,.int .i64 62,.int .i64 63,.int .i64 61,.int .u8 8,.lit true,.int .i64 60,.int .i64 58,.int .i64 56,.int .i64 59]),(20,I 2)],[.ints false .i8 zs,.cells true [I f,I r,.sl 0 0 zs.length none,Bb bl,.int .u8 ca,I pa,I ha,I fu],.cells true [I a,I b,.int .i8 pr],.cells true [.int .u8 0,.lit false,I 0,I 0,I 0,I 0]],Ent.ren [0,1,2,3] [2,3,4,19,20] rfl rfl rfl,?_⟩
  refine rnd ?_
  refine cT (by rfl) ?_
  repeat (first|refine ah ?_|refine sat_nd ?_)
  refine aq (fun h2=>?_) (fun h2=>?_)
  rotate_left
  ·have h2:aY bl ca a b true 4 60 62=false:=h2
   have hn:wayN zs bl ca a b=2:=by simp only[wayN,hk,h0,h1,h2,Bool.not_true,Bool.not_false,cond_true,cond_false]
   repeat (first|(first|refine ah ?_|refine sat_nd ?_)|refine ae (aG hc2 rfl) ?_)
   refine ag (ag (wN (ai (.inr rfl) rfl rfl rfl rfl) ?_))
   rw[hn]
   show Like (V.tup [.agg [.int .u8 4,.lit true,I 60,I 62,I 63,I 61],Bb (decide (uand (bS f r 60 63).1 (occR f r (tk zs))=0))]) _
   rw[aF]
   exact fun _ _ h=>h
  have h2:aY bl ca a b true 4 60 62=true:=h2
  refine ag ⟨[(2,.ptr 1 0 0),(3,.ptr 2 0 0),(4,.ptr 3 0 0),(19,.agg [.int .u8 1,.lit false,.int .i64 4,.int .i64 6,.int .i64 7,.int .i64 5,.int .u8 2,.lit false,.int .i64 4,.int .i64 2,.int .i64 0,.int .i64 3,.int .u8 4,.lit true,.int .i64 60,.int .i64 62,.int .i64 63,.int .i64 61,.int .u8 8,.lit true,.int .i64 60,.int .i64 58,.int .i64 56,.int .i64 59]),(20,I 3)],[.ints false .i8 zs,.cells true [I f,I r,.sl 0 0 zs.length none,Bb bl,.int .u8 ca,I pa,I ha,I fu],.cells true [I a,I b,.int .i8 pr],.cells true [.int .u8 0,.lit false,I 0,I 0,I 0,I 0]],Ent.ren [0,1,2,3] [2,3,4,19,20] rfl rfl rfl,?_⟩
  refine rnd ?_
  refine cT (by rfl) ?_
  repeat (first|refine ah ?_|refine sat_nd ?_)
  refine aq (fun h3=>?_) (fun h3=>?_)
  rotate_left
  ·have h3:aY bl ca a b true 8 60 58=false:=h3
   have hn:wayN zs bl ca a b=3:=by simp only[wayN,hk,h0,h1,h2,h3,Bool.not_true,Bool.not_false,cond_true,cond_false]
   repeat (first|(first|refine ah ?_|refine sat_nd ?_)|refine ae (aG hc2 rfl) ?_)
   refine ag (ag (wN (ai (.inr rfl) rfl rfl rfl rfl) ?_))
   rw[hn]
   show Like (V.tup [.agg [.int .u8 8,.lit true,I 60,I 58,I 56,I 59],Bb (decide (uand (bS f r 60 56).1 (occR f r (tk zs))=0))]) _
   rw[aF]
   exact fun _ _ h=>h
  have h3:aY bl ca a b true 8 60 58=true:=h3
  refine ag ⟨[(2,.ptr 1 0 0),(3,.ptr 2 0 0),(4,.ptr 3 0 0),(19,.agg [.int .u8 1,.lit false,.int .i64 4,.int .i64 6,.int .i64 7,.int .i64 5,.int .u8 2,.lit false,.int .i64 4,.int .i64 2,.int .i64 0,.int .i64 3,.int .u8 4,.lit true,.int .i64 60,.int .i64 62,.int .i64 63,.int .i64 61,.int .u8 8,.lit true,.int .i64 60,.int .i64 58,.int .i64 56,.int .i64 59]),(20,I 4)],[.ints false .i8 zs,.cells true [I f,I r,.sl 0 0 zs.length none,Bb bl,.int .u8 ca,I pa,I ha,I fu],.cells true [I a,I b,.int .i8 pr],.cells true [.int .u8 0,.lit false,I 0,I 0,I 0,I 0]],Ent.ren [0,1,2,3] [2,3,4,19,20] rfl rfl rfl,?_⟩
  refine rnd ?_
  refine vy (by rfl) ?_
  have hn:wayN zs bl ca a b=4:=by simp only[wayN,hk,h0,h1,h2,h3,Bool.not_true,cond_false]
  refine ag (ag (wN (ai (.inr rfl) rfl rfl rfl rfl) ?_))
  rw[hn]
  exact fun _ _ h=>h
 ·cases e
def xO:CF
 |[.agg [.int .i64 f,.int .i64 r,.sl 0 0 len none,.bool bl,.int .u8 _ca,.int .i64 pa,.int .i64 _ha,.int .i64 _fu],.agg [.int .i64 a,.int .i64 b,.int .i8 pr]],[.ints false .i8 zs]=>some (decide (len=zs.length)&&decide (zs.length<=64)&&(aC f r zs&&aj f r a&&aj f r b),.bool (iv f r zs bl pa a b pr),[])
 |_,_=>none
theorem BX:CtOk (GGx true kDb) PP (114,xO):=by
 refine aD Tryz.func114 (by kernel_rfl) rfl fun a0 h0 c0 v0 N0 e hc=>?_
 unfold xO at e
 split at e
 ·rename_i f r len bl ca pa ha fu a b pr zs
  cases e
  have hE:=aB (kCa:=true) (kDb:=kDb) (cts:=[(115,uD),(156,zf),(154,oH),(157,rj),(153,vx)]) (inl:=[]) ⟨nQ,uF,kN,pF,mR,trivial⟩ trivial
  refine ak hE 2 Tryz.func114 rfl rfl ?_
  simp only[Bool.and_eq_true,decide_eq_true_eq]at hc
  obtain⟨⟨rfl,hc2⟩,⟨hbd,hva⟩,hvb⟩:=hc
  obtain⟨ha0,ha1⟩:=(bN hbd).1 hva
  obtain⟨hb0,hb1⟩:=(bN hbd).1 hvb
  have hf0:f≠0:=by have:=de (bg hbd).1;omega
  repeat (first|(first|refine ah ?_|refine sat_nd ?_)|refine ae (aE ha0 ha1) ?_)
  refine aq (fun hk=>?_) (fun hk=>?_)
  ·have hk:(!decide (absP (zs.getD a.toNat 0)=1))=true:=hk
   repeat (first|(first|refine ah ?_|refine sat_nd ?_)|refine ae (aG hc2 rfl) ?_|refine ae (oe hb0) ?_)
   exact ag (ai (.inr rfl) rfl rfl rfl (congrArg V.bool (by
    show (decide (pr=0)&&decide (uand (ushr (cq f r (absP (zs.getD a.toNat 0)) a (occR f r (tk zs))).1 b) 1=1))=_
    rw[aF,iv,hk];rfl)))
  have hk:(!decide (absP (zs.getD a.toNat 0)=1))=false:=hk
  repeat (first|refine ah ?_|refine sat_nd ?_)
  refine aq (fun hb=>?_) (fun hb=>?_)
  ·subst hb
   repeat (first|(first|refine ah ?_|refine sat_nd ?_)|refine ae (aG hc2 rfl) ?_|refine ae (aE ha0 ha1) ?_|refine ae (aE hb0 hb1) ?_|refine ae (oe hb0) ?_|refine ae (gR hf0) ?_)
   refine aq (fun hz=>?_) (fun hz=>?_)
   ·have hz:(decide (zs.getD b.toNat 0=0)&&!decide (b=pa))=true:=hz
    repeat (first|(first|refine ah ?_|refine sat_nd ?_)|refine ae (aG hc2 rfl) ?_|refine ae (aE ha0 ha1) ?_|refine ae (aE hb0 hb1) ?_|refine ae (oe hb0) ?_|refine ae (gR hf0) ?_)
    exact ag (ai (.inr rfl) rfl rfl rfl (congrArg V.bool (by
     show (decide (uand (ushr (uor (dm f r true a (occR f r (tk zs))).1 (0)) b) 1=1)&&((!decide (pr=0))==decide (i64.wrap (b.tdiv f)=0)))=_
     rw[aF,iv,hk,cond_false,hz];rfl)))
   ·have hz:(decide (zs.getD b.toNat 0=0)&&!decide (b=pa))=false:=hz
    repeat (first|(first|refine ah ?_|refine sat_nd ?_)|refine ae (aG hc2 rfl) ?_|refine ae (aE ha0 ha1) ?_|refine ae (aE hb0 hb1) ?_|refine ae (oe hb0) ?_|refine ae (gR hf0) ?_)
    exact ag (ai (.inr rfl) rfl rfl rfl (congrArg V.bool (by
     show (decide (uand (ushr (uor (dm f r true a (occR f r (tk zs))).1 ((gg f r true a).1)) b) 1=1)&&((!decide (pr=0))==decide (i64.wrap (b.tdiv f)=0)))=_
     rw[aF,iv,hk,cond_false,hz];rfl)))
  ·subst hb
   repeat (first|(first|refine ah ?_|refine sat_nd ?_)|refine ae (aG hc2 rfl) ?_|refine ae (aE ha0 ha1) ?_|refine ae (aE hb0 hb1) ?_|refine ae (oe hb0) ?_|refine ae (gR hf0) ?_)
   refine aq (fun hz=>?_) (fun hz=>?_)
   ·have hz:(decide (zs.getD b.toNat 0=0)&&!decide (b=pa))=true:=hz
    repeat (first|(first|refine ah ?_|refine sat_nd ?_)|refine ae (aG hc2 rfl) ?_|refine ae (aE ha0 ha1) ?_|refine ae (aE hb0 hb1) ?_|refine ae (oe hb0) ?_|refine ae (gR hf0) ?_)
    exact ag (ai (.inr rfl) rfl rfl rfl (congrArg V.bool (by
     show (decide (uand (ushr (uor (dm f r false a (occR f r (tk zs))).1 (0)) b) 1=1)&&((!decide (pr=0))==decide (i64.wrap (b.tdiv f)=i64.wrap (r-1))))=_
     rw[aF,iv,hk,cond_false,hz];rfl)))
   ·have hz:(decide (zs.getD b.toNat 0=0)&&!decide (b=pa))=false:=hz
    repeat (first|(first|refine ah ?_|refine sat_nd ?_)|refine ae (aG hc2 rfl) ?_|refine ae (aE ha0 ha1) ?_|refine ae (aE hb0 hb1) ?_|refine ae (oe hb0) ?_|refine ae (gR hf0) ?_)
    exact ag (ai (.inr rfl) rfl rfl rfl (congrArg V.bool (by
     show (decide (uand (ushr (uor (dm f r false a (occR f r (tk zs))).1 ((gg f r false a).1)) b) 1=1)&&((!decide (pr=0))==decide (i64.wrap (b.tdiv f)=i64.wrap (r-1))))=_
     rw[aF,iv,hk,cond_false,hz];rfl)))
 ·cases e
def xA:CF
 |[.int .i64 at_],[]=>some (true,.int .u8 (DP at_),[])
 |_,_=>none
theorem Bi:CtOk (GGx true kDb) PP (116,xA):=by
 refine aD Tryz.func116 (by kernel_rfl) rfl fun a0 h0 c0 v0 N0 e hc=>?_
 unfold xA at e
 split at e
 ·rename_i at_
  cases e
  have hE:=cutE (aB (kCa:=true) (kDb:=kDb) (cts:=[]) (inl:=[]) trivial trivial)
  refine ak hE 2 Tryz.func116 rfl rfl ?_
  repeat (first|refine ah ?_|refine sat_nd ?_)
  refine dB hE 2 5 ?_
  refine rnd ?_
  refine bG hE 2 rfl (fun _=>?_) (fun h=>absurd h (by decide))
  repeat (first|refine ah ?_|refine sat_nd ?_)
  refine bE hE 2 (fun e tm hp=>e=.normal/\tm=[(0,I at_),(3,.int .u8 (dL at_ 0 4 7 1)),(6,.agg [.int .u8 1,.lit false,.int .i64 4,.int .i64 6,.int .i64 7,.int .i64 5,.int .u8 2,.lit false,.int .i64 4,.int .i64 2,.int .i64 0,.int .i64 3,.int .u8 4,.lit true,.int .i64 60,.int .i64 62,.int .i64 63,.int .i64 61,.int .u8 8,.lit true,.int .i64 60,.int .i64 58,.int .i64 56,.int .i64 59]),(7,I 0)]/\hp=[]) rfl (fun h=>?_) (fun h=>?_) ?_
  ·have h:(decide (4=at_)||decide (7=at_))=true:=h
   exact ag ⟨_,_,Ent.ren [] [0,3,6,7] rfl rfl rfl,rfl,by rw[tc h],rfl⟩
  ·have h:(decide (4=at_)||decide (7=at_))=false:=h
   exact ag ⟨_,_,Ent.ren [] [0,3,6,7] rfl rfl rfl,rfl,by rw[rH h],rfl⟩
  rintro e tm hp ⟨rfl,rfl,rfl⟩
  refine ag ⟨[(0,I at_),(3,.int .u8 (dL at_ 0 4 7 1)),(6,.agg [.int .u8 1,.lit false,.int .i64 4,.int .i64 6,.int .i64 7,.int .i64 5,.int .u8 2,.lit false,.int .i64 4,.int .i64 2,.int .i64 0,.int .i64 3,.int .u8 4,.lit true,.int .i64 60,.int .i64 62,.int .i64 63,.int .i64 61,.int .u8 8,.lit true,.int .i64 60,.int .i64 58,.int .i64 56,.int .i64 59]),(7,I 1)],[],Ent.ren [] [0,3,6,7] rfl rfl rfl,?_⟩
  refine rnd ?_
  refine bG hE 2 rfl (fun _=>?_) (fun h=>absurd h (by decide))
  repeat (first|refine ah ?_|refine sat_nd ?_)
  refine bE hE 2 (fun e tm hp=>e=.normal/\tm=[(0,I at_),(3,.int .u8 (dL at_ (dL at_ 0 4 7 1) 4 0 2)),(6,.agg [.int .u8 1,.lit false,.int .i64 4,.int .i64 6,.int .i64 7,.int .i64 5,.int .u8 2,.lit false,.int .i64 4,.int .i64 2,.int .i64 0,.int .i64 3,.int .u8 4,.lit true,.int .i64 60,.int .i64 62,.int .i64 63,.int .i64 61,.int .u8 8,.lit true,.int .i64 60,.int .i64 58,.int .i64 56,.int .i64 59]),(7,I 1)]/\hp=[]) rfl (fun h=>?_) (fun h=>?_) ?_
  ·have h:(decide (4=at_)||decide (0=at_))=true:=h
   exact ag ⟨_,_,Ent.ren [] [0,3,6,7] rfl rfl rfl,rfl,by rw[tc h],rfl⟩
  ·have h:(decide (4=at_)||decide (0=at_))=false:=h
   exact ag ⟨_,_,Ent.ren [] [0,3,6,7] rfl rfl rfl,rfl,by rw[rH h],rfl⟩
  rintro e tm hp ⟨rfl,rfl,rfl⟩
  refine ag ⟨[(0,I at_),(3,.int .u8 (dL at_ (dL at_ 0 4 7 1) 4 0 2)),(6,.agg [.int .u8 1,.lit false,.int .i64 4,.int .i64 6,.int .i64 7,.int .i64 5,.int .u8 2,.lit false,.int .i64 4,.int .i64 2,.int .i64 0,.int .i64 3,.int .u8 4,.lit true,.int .i64 60,.int .i64 62,.int .i64 63,.int .i64 61,.int .u8 8,.lit true,.int .i64 60,.int .i64 58,.int .i64 56,.int .i64 59]),(7,I 2)],[],Ent.ren [] [0,3,6,7] rfl rfl rfl,?_⟩
  refine rnd ?_
  refine bG hE 2 rfl (fun _=>?_) (fun h=>absurd h (by decide))
  repeat (first|refine ah ?_|refine sat_nd ?_)
  refine bE hE 2 (fun e tm hp=>e=.normal/\tm=[(0,I at_),(3,.int .u8 (dL at_ (dL at_ (dL at_ 0 4 7 1) 4 0 2) 60 63 4)),(6,.agg [.int .u8 1,.lit false,.int .i64 4,.int .i64 6,.int .i64 7,.int .i64 5,.int .u8 2,.lit false,.int .i64 4,.int .i64 2,.int .i64 0,.int .i64 3,.int .u8 4,.lit true,.int .i64 60,.int .i64 62,.int .i64 63,.int .i64 61,.int .u8 8,.lit true,.int .i64 60,.int .i64 58,.int .i64 56,.int .i64 59]),(7,I 2)]/\hp=[]) rfl (fun h=>?_) (fun h=>?_) ?_
  ·have h:(decide (60=at_)||decide (63=at_))=true:=h
   exact ag ⟨_,_,Ent.ren [] [0,3,6,7] rfl rfl rfl,rfl,by rw[tc h],rfl⟩
  ·have h:(decide (60=at_)||decide (63=at_))=false:=h
   exact ag ⟨_,_,Ent.ren [] [0,3,6,7] rfl rfl rfl,rfl,by rw[rH h],rfl⟩
  rintro e tm hp ⟨rfl,rfl,rfl⟩
  refine ag ⟨[(0,I at_),(3,.int .u8 (dL at_ (dL at_ (dL at_ 0 4 7 1) 4 0 2) 60 63 4)),(6,.agg [.int .u8 1,.lit false,.int .i64 4,.int .i64 6,.int .i64 7,.int .i64 5,.int .u8 2,.lit false,.int .i64 4,.int .i64 2,.int .i64 0,.int .i64 3,.int .u8 4,.lit true,.int .i64 60,.int .i64 62,.int .i64 63,.int .i64 61,.int .u8 8,.lit true,.int .i64 60,.int .i64 58,.int .i64 56,.int .i64 59]),(7,I 3)],[],Ent.ren [] [0,3,6,7] rfl rfl rfl,?_⟩
  refine rnd ?_
  refine bG hE 2 rfl (fun _=>?_) (fun h=>absurd h (by decide))
  repeat (first|refine ah ?_|refine sat_nd ?_)
  refine bE hE 2 (fun e tm hp=>e=.normal/\tm=[(0,I at_),(3,.int .u8 (dL at_ (dL at_ (dL at_ (dL at_ 0 4 7 1) 4 0 2) 60 63 4) 60 56 8)),(6,.agg [.int .u8 1,.lit false,.int .i64 4,.int .i64 6,.int .i64 7,.int .i64 5,.int .u8 2,.lit false,.int .i64 4,.int .i64 2,.int .i64 0,.int .i64 3,.int .u8 4,.lit true,.int .i64 60,.int .i64 62,.int .i64 63,.int .i64 61,.int .u8 8,.lit true,.int .i64 60,.int .i64 58,.int .i64 56,.int .i64 59]),(7,I 3)]/\hp=[]) rfl (fun h=>?_) (fun h=>?_) ?_
  ·have h:(decide (60=at_)||decide (56=at_))=true:=h
   exact ag ⟨_,_,Ent.ren [] [0,3,6,7] rfl rfl rfl,rfl,by rw[tc h],rfl⟩
  ·have h:(decide (60=at_)||decide (56=at_))=false:=h
   exact ag ⟨_,_,Ent.ren [] [0,3,6,7] rfl rfl rfl,rfl,by rw[rH h],rfl⟩
  rintro e tm hp ⟨rfl,rfl,rfl⟩
  refine ag ⟨[(0,I at_),(3,.int .u8 (dL at_ (dL at_ (dL at_ (dL at_ 0 4 7 1) 4 0 2) 60 63 4) 60 56 8)),(6,.agg [.int .u8 1,.lit false,.int .i64 4,.int .i64 6,.int .i64 7,.int .i64 5,.int .u8 2,.lit false,.int .i64 4,.int .i64 2,.int .i64 0,.int .i64 3,.int .u8 4,.lit true,.int .i64 60,.int .i64 62,.int .i64 63,.int .i64 61,.int .u8 8,.lit true,.int .i64 60,.int .i64 58,.int .i64 56,.int .i64 59]),(7,I 4)],[],Ent.ren [] [0,3,6,7] rfl rfl rfl,?_⟩
  refine rnd ?_
  refine bG hE 2 rfl (fun h=>absurd h (by decide)) (fun _=>?_)
  exact ag (ag (ai (.inr rfl) rfl rfl rfl rfl))
 ·cases e
end
end Go.Ab
namespace Go.Ab
open Go.Proofs
section
variable{kCa kDb:Bool}
theorem OB{z w:List Int}{i:Nat}(h:i<z.length)(h2:i<w.length):decide (z.drop i=w.drop i)=(decide (z.getD i 0=w.getD i 0)&&decide (z.drop (i+1)=w.drop (i+1))):=by
 rw[List.drop_eq_getElem_cons h,List.drop_eq_getElem_cons h2];simp only[List.cons.injEq,Bool.decide_and,List.getD_eq_getElem?_getD,List.getElem?_eq_getElem h,List.getElem?_eq_getElem h2,Option.getD_some]
def GA(p q:Psn):Bool:=decide (p.f=q.f)&&decide (p.r=q.r)&&decide (p.zs=q.zs)&&(p.bl==q.bl)&&decide (p.ca=q.ca)&&decide (p.pa=q.pa)
def yY(p q:Psn):Bool:=GA p q&&decide (p.ha=q.ha)&&decide (p.fu=q.fu)
theorem Gm{zs ws:List Int}{g:Bool}(h1:zs.length<=64)(h2:ws.length<=64):(!g||(decide (zs.length=(tk zs).length)&&decide ((tk zs).length<=64)&&decide (ws.length=(tk ws).length)&&decide ((tk ws).length<=64)))=true:=by
 rw[fP,fP];simp[h1,h2]
theorem zw{zs ws:List Int}(h1:zs.length<=64)(h2:ws.length<=64):(decide (zs.length=(tk zs).length)&&decide ((tk zs).length<=64)&&decide (ws.length=(tk ws).length)&&decide ((tk ws).length<=64))=true:=by
 rw[fP,fP];simp[h1,h2]
end
section
variable{kCa kDb:Bool}
def AE(f r:Int)(zs:List Int)(f2 r2:Int)(ws:List Int):Bool:=decide (f=f2)&&decide (r=r2)&&decide (zs=ws)
def ownL(p:Int)(bl:Bool):Bool:=!decide (p=0)&&(decide (p<0)==bl)
def rowN(bit:Int)(i:Nat):List UInt8:=bif decide (bit=1) then([[101,49],[103,49],[104,49],[102,49]]:List (List UInt8)).getD i []else bif decide (bit=2) then([[101,49],[99,49],[97,49],[100,49]]:List (List UInt8)).getD i []else bif decide (bit=4) then([[101,56],[103,56],[104,56],[102,56]]:List (List UInt8)).getD i [] else([[101,56],[99,56],[97,56],[100,56]]:List (List UInt8)).getD i []
def sqW(bit:Int)(i:Nat):Int:=cy 8 8 (rowN bit i)
theorem zE{bit:Int}{l:List (List UInt8)}(h:∀ i,rowN bit i=l.getD i []):[O.vals true 1 [[.str (rowN bit 0)],[.str (rowN bit 1)],[.str (rowN bit 2)],[.str (rowN bit 3)]]]=[O.vals true 1 [[.str (l.getD 0 [])],[.str (l.getD 1 [])],[.str (l.getD 2 [])],[.str (l.getD 3 [])]]]:=by rw[h,h,h,h]
def cG(zs l:List Int):Bool:=l.all fun i=>decide (zs.getD i.toNat 0=0)
def xd:CF
 |[.agg [.int .i64 f,.int .i64 r,.sl 0 0 len none],.agg [.int .i64 f2,.int .i64 r2,.sl 1 0 len2 none]],[.ints false .i8 zs,.ints false .i8 ws]=>some (decide (len=zs.length)&&decide (zs.length<=64)&&decide (len2=ws.length)&&decide (ws.length<=64),.bool (AE f r zs f2 r2 ws),[])
 |_,_=>none
theorem Cc:CtOk (GGx kCa kDb) PP (88,xd):=by
 refine aD Tryz.func88 (by kernel_rfl) rfl fun a0 h0 c0 v0 N0 e hc=>?_
 unfold xd at e
 split at e
 ·rename_i f r len f2 r2 len2 zs ws
  cases e
  have hE:=aB (kCa:=kCa) (kDb:=kDb) (cts:=[]) (inl:=[]) trivial trivial
  refine ak hE 2 Tryz.func88 rfl rfl ?_
  simp only[Bool.and_eq_true,decide_eq_true_eq]at hc
  obtain⟨⟨⟨rfl,hz64⟩,rfl⟩,hw64⟩:=hc
  repeat (first|refine ah ?_|refine sat_nd ?_)
  refine aq (fun h=>?_) (fun h=>?_)
  ·have h:(!(decide (f=f2)&&decide (r=r2))||!decide ((zs.length:Int)=ws.length))=true:=h
   exact ag (ai (.inr rfl) rfl rfl rfl (congrArg V.bool (by
    rw[Bool.or_eq_true]at h
    rcases h with h|h
    ·rw[Bool.not_eq_true']at h;rw[AE,h];rfl
    ·have hne:¬ zs=ws:=by intro h2;subst h2;simp at h
     simp[AE,hne])))
  have h:(!(decide (f=f2)&&decide (r=r2))||!decide ((zs.length:Int)=ws.length))=false:=h
  simp only[Bool.or_eq_false_iff,Bool.not_eq_false',decide_eq_true_eq]at h
  obtain⟨hfr,hl⟩:=h
  have hl:zs.length=ws.length:=by omega
  refine cx hE 2 (fun i (_:Unit)=>([(2,.ptr 2 0 0),(3,.ptr 3 0 0),(5,I i)],[.ints false .i8 zs,.ints false .i8 ws,.cells true [I f,I r,.sl 0 0 zs.length none],.cells true [I f2,I r2,.sl 1 0 ws.length none]])) zs.length (fun j _=>decide (zs.drop j=ws.drop j)=decide (zs=ws)) () (by omega) (Ent.ren [0,1,2,3] [2,3,5] rfl rfl rfl) rfl ?_
  intro j i _ hij hj hz
  refine aq (fun hlt=>?_) (fun hlt=>?_)
  ·have hlt':j<zs.length:=by simp at hlt;omega
   rw[OB hlt' (by omega),show j=i.toNat by omega]at hz
   repeat (first|(first|refine ah ?_|refine sat_nd ?_)|refine ae (by simp only[Bool.and_eq_true,decide_eq_true_eq];omega) ?_)
   refine aq (fun hon=>?_) (fun hon=>?_)
   ·have hon:(!decide (zs.getD i.toNat 0=ws.getD i.toNat 0))=true:=hon
    rw[Bool.not_eq_true']at hon
    rw[hon,Bool.false_and]at hz
    exact ag (ag (ai (.inr rfl) rfl rfl rfl (by rw[AE,<-hz];simp)))
   ·have hon:(!decide (zs.getD i.toNat 0=ws.getD i.toNat 0))=false:=hon
    rw[Bool.not_eq_false']at hon
    rw[hon,Bool.true_and]at hz
    exact ag ⟨hlt',(),by rw[<-hz,show i.toNat=j by omega],Ent.ren [0,1,2,3] [2,3,5] rfl rfl rfl⟩
  ·obtain rfl:j=zs.length:=by simp at hlt;omega
   rw[List.drop_length,hl,List.drop_length]at hz
   exact ag (ag (ai (.inr rfl) rfl rfl rfl (by rw[AE,hfr,<-hz];simp)))
 ·cases e
def wH:CF
 |[.agg [.int .i64 f,.int .i64 r,.sl 0 0 len none,.bool bl,.int .u8 ca,.int .i64 pa,.int .i64 ha,.int .i64 fu],.agg [.int .i64 f2,.int .i64 r2,.sl 1 0 len2 none,.bool bl2,.int .u8 ca2,.int .i64 pa2,.int .i64 ha2,.int .i64 fu2]],[.ints false .i8 zs,.ints false .i8 ws]=>some (decide (len=zs.length)&&decide (zs.length<=64)&&decide (len2=ws.length)&&decide (ws.length<=64),.bool (GA ⟨f,r,zs,bl,ca,pa,ha,fu⟩ ⟨f2,r2,ws,bl2,ca2,pa2,ha2,fu2⟩),[])
 |_,_=>none
theorem Ba:CtOk (GGx kCa kDb) PP (46,wH):=by
 refine aD Tryz.func46 (by kernel_rfl) rfl fun a0 h0 c0 v0 N0 e hc=>?_
 unfold wH at e
 split at e
 ·rename_i f r len bl ca pa ha fu f2 r2 len2 bl2 ca2 pa2 ha2 fu2 zs ws
  cases e
  have hE:=aB (kCa:=kCa) (kDb:=kDb) (cts:=[(29,uh),(88,xd)]) (inl:=[]) ⟨hU,Cc,trivial⟩ trivial
  refine ak hE 2 Tryz.func46 rfl rfl ?_
  simp only[Bool.and_eq_true,decide_eq_true_eq]at hc
  obtain⟨⟨⟨rfl,hz64⟩,rfl⟩,hw64⟩:=hc
  repeat (first|(first|refine ah ?_|refine sat_nd ?_)|refine ae (Gm hz64 hw64) ?_|refine ae (zw hz64 hw64) ?_)
  exact ag (ai (.inr rfl) rfl rfl rfl (congrArg V.bool (by
   show (AE f r (tk zs) f2 r2 (tk ws)&&(bl==bl2)&&decide (ca=ca2)&&decide (pa=pa2))=_
   rw[aF,aF];rfl)))
 ·cases e
def qW:CF
 |[.agg [.int .i64 f,.int .i64 r,.sl 0 0 len none,.bool bl,.int .u8 ca,.int .i64 pa,.int .i64 ha,.int .i64 fu],.agg [.int .i64 f2,.int .i64 r2,.sl 1 0 len2 none,.bool bl2,.int .u8 ca2,.int .i64 pa2,.int .i64 ha2,.int .i64 fu2]],[.ints false .i8 zs,.ints false .i8 ws]=>some (decide (len=zs.length)&&decide (zs.length<=64)&&decide (len2=ws.length)&&decide (ws.length<=64),.bool (yY ⟨f,r,zs,bl,ca,pa,ha,fu⟩ ⟨f2,r2,ws,bl2,ca2,pa2,ha2,fu2⟩),[])
 |_,_=>none
theorem xS:CtOk (GGx kCa kDb) PP (18,qW):=by
 refine aD Tryz.func18 (by kernel_rfl) rfl fun a0 h0 c0 v0 N0 e hc=>?_
 unfold qW at e
 split at e
 ·rename_i f r len bl ca pa ha fu f2 r2 len2 bl2 ca2 pa2 ha2 fu2 zs ws
  cases e
  have hE:=aB (kCa:=kCa) (kDb:=kDb) (cts:=[(46,wH)]) (inl:=[]) ⟨Ba,trivial⟩ trivial
  refine ak hE 2 Tryz.func18 rfl rfl ?_
  simp only[Bool.and_eq_true,decide_eq_true_eq]at hc
  obtain⟨⟨⟨rfl,hz64⟩,rfl⟩,hw64⟩:=hc
  repeat (first|(first|refine ah ?_|refine sat_nd ?_)|refine ae (Gm hz64 hw64) ?_|refine ae (zw hz64 hw64) ?_)
  exact ag (ai (.inr rfl) rfl rfl rfl (congrArg V.bool (by
   show (GA ⟨f,r,tk zs,bl,ca,pa,ha,fu⟩ ⟨f2,r2,tk ws,bl2,ca2,pa2,ha2,fu2⟩&&decide (ha=ha2)&&decide (fu=fu2))=_
   rw[aF,aF];rfl)))
 ·cases e
def sI:CF
 |[.agg [.int .i64 f,.int .i64 r,.sl 0 0 len none,.bool bl,.int .u8 ca,.int .i64 pa,.int .i64 ha,.int .i64 fu]],[.ints false .i8 zs]=>some (decide (len=zs.length)&&decide (zs.length<=64),.agg [I f,I r,.sl 1 0 zs.length none,Bb bl,.int .u8 ca,I pa,I ha,I fu],[.ints true .i8 zs])
 |_,_=>none
theorem pQ:CtOk (GGx kCa kDb) PP (15,sI):=by
 refine aD Tryz.func15 (by kernel_rfl) rfl fun a0 h0 c0 v0 N0 e hc=>?_
 unfold sI at e
 split at e
 ·rename_i f r len bl ca pa ha fu zs
  cases e
  have hE:=aB (kCa:=kCa) (kDb:=kDb) (cts:=[]) (inl:=[]) trivial trivial
  refine ak hE 2 Tryz.func15 rfl rfl ?_
  simp only[Bool.and_eq_true,decide_eq_true_eq]at hc
  obtain⟨rfl,hc2⟩:=hc
  repeat (first|(first|refine ah ?_|refine sat_nd ?_)|refine ae (aG hc2 rfl) ?_|refine ae (by simp;omega) ?_)
  exact ag (bW 3 (.inr rfl) rfl rfl rfl rfl (by show [O.ints true .i8 (tk zs)]=_;rw[aF]) (by show V.agg [I f,I r,.sl 1 0 (tk zs).length none,Bb bl,.int .u8 ca,I pa,I ha,I fu]=_;rw[aF]))
 ·cases e
def nT:CF
 |[.agg [.int .i64 f,.int .i64 r],.agg [.int .i64 a,.int .i64 b,.int .i8 pr]],[]=>some (true,.bool (mvB f r a b pr),[])
 |_,_=>none
theorem vo:CtOk (GGx kCa kDb) PP (147,nT):=by
 refine aD Tryz.func147 (by kernel_rfl) rfl fun a0 h0 c0 v0 N0 e hc=>?_
 unfold nT at e
 split at e
 ·rename_i f r a b pr
  cases e
  have hE:=aB (kCa:=kCa) (kDb:=kDb) (cts:=[(84,nP)]) (inl:=[]) ⟨kI,trivial⟩ trivial
  refine ak hE 2 Tryz.func147 rfl rfl ?_
  repeat (first|refine ah ?_|refine sat_nd ?_)
  exact ag (ai (.inr rfl) rfl rfl rfl rfl)
 ·cases e
def CP:CF
 |[.int .i8 p,.bool bl],[]=>some (true,.bool (ownL p bl),[])
 |_,_=>none
theorem CJ:CtOk (GGx kCa kDb) PP (183,CP):=by
 refine aD Tryz.func183 (by kernel_rfl) rfl fun a0 h0 c0 v0 N0 e hc=>?_
 unfold CP at e
 split at e
 ·rename_i p bl
  cases e
  have hE:=aB (kCa:=kCa) (kDb:=kDb) (cts:=[]) (inl:=[]) trivial trivial
  refine ak hE 2 Tryz.func183 rfl rfl ?_
  repeat (first|refine ah ?_|refine sat_nd ?_)
  exact ag (ai (.inr rfl) rfl rfl rfl rfl)
 ·cases e
def gD:CF
 |[.str s],[]=>some (true,.int .i64 (cy 8 8 s),[])
 |_,_=>none
theorem gO:CtOk (GGx kCa kDb) PP (142,gD):=by
 refine aD Tryz.func142 (by kernel_rfl) rfl fun a0 h0 c0 v0 N0 e hc=>?_
 unfold gD at e
 split at e
 ·rename_i s
  cases e
  have hE:=aB (kCa:=kCa) (kDb:=kDb) (cts:=[(124,nv)]) (inl:=[]) ⟨kp,trivial⟩ trivial
  refine ak hE 2 Tryz.func142 rfl rfl ?_
  repeat (first|refine ah ?_|refine sat_nd ?_)
  exact ag (ai (.inr rfl) rfl rfl rfl rfl)
 ·cases e
def vr:CF
 |[.int .u8 bit],[]=>some (true,.sl 0 0 4 none,[.vals true 1 [[.str (rowN bit 0)],[.str (rowN bit 1)],[.str (rowN bit 2)],[.str (rowN bit 3)]]])
 |_,_=>none
theorem mZ:CtOk (GGx kCa kDb) PP (141,vr):=by
 refine aD Tryz.func141 (by kernel_rfl) rfl fun a0 h0 c0 v0 N0 e hc=>?_
 unfold vr at e
 split at e
 ·rename_i bit
  cases e
  have hE:=aB (kCa:=kCa) (kDb:=kDb) (cts:=[]) (inl:=[]) trivial trivial
  refine ak hE 2 Tryz.func141 rfl rfl ?_
  repeat (first|refine ah ?_|refine sat_nd ?_)
  refine aq (fun h1=>?_) (fun h1=>?_)
  ·have h1:decide (bit=1)=true:=h1
   repeat (first|refine ah ?_|refine sat_nd ?_)
   exact ag (bW 0 (.inr rfl) rfl rfl rfl rfl (by rw[zE (l:=[[101,49],[103,49],[104,49],[102,49]]) (fun i=>by simp only[rowN,h1,cond_true])];rfl) rfl)
  have h1:decide (bit=1)=false:=h1
  refine aq (fun h2=>?_) (fun h2=>?_)
  ·have h2:decide (bit=2)=true:=h2
   exact ag (bW 0 (.inr rfl) rfl rfl rfl rfl (by rw[zE (l:=[[101,49],[99,49],[97,49],[100,49]]) (fun i=>by simp only[rowN,h1,h2,cond_true,cond_false])];rfl) rfl)
  have h2:decide (bit=2)=false:=h2
  refine aq (fun h3=>?_) (fun h3=>?_)
  ·have h3:decide (bit=4)=true:=h3
   exact ag (bW 0 (.inr rfl) rfl rfl rfl rfl (by rw[zE (l:=[[101,56],[103,56],[104,56],[102,56]]) (fun i=>by simp only[rowN,h1,h2,h3,cond_true,cond_false])];rfl) rfl)
  have h3:decide (bit=4)=false:=h3
  exact ag (bW 0 (.inr rfl) rfl rfl rfl rfl (by rw[zE (l:=[[101,56],[99,56],[97,56],[100,56]]) (fun i=>by simp only[rowN,h1,h2,h3,cond_false])];rfl) rfl)
 ·cases e
end
end Go.Ab
namespace Go.Ab
open IntKind
open Go.Proofs
section
variable{kCa kDb:Bool}
def vJ(zs:List Int)(i:Int):Bool:=decide (0<=i)&&decide (i<zs.length)
def cgS(f r:Int)(zs:List Int)(bl:Bool)(ca a b bit:Int):Bool:=decide ((u8.wrap (ca.tdiv bit)).tmod 2=1)&&(decide (2<bit)==bl)&&decide (a=sqW bit 0)&&decide (b=sqW bit 1)&&cG zs (bU f r (sqW bit 0) (sqW bit 2))
def cgL(f r:Int)(zs:List Int)(bl:Bool)(ca a b pr:Int):Int:=bif !decide (aW (zs.getD a.toNat 0)=6)||!decide (pr=0)then 0 else bif cgS f r zs bl ca a b 1 then 1 else bif cgS f r zs bl ca a b 2 then 2 else bif cgS f r zs bl ca a b 4 then 4 else bif cgS f r zs bl ca a b 8 then 8 else 0
def pnL(f r:Int)(zs:List Int)(bl:Bool)(pa a b pr:Int):Bool:=bif !(decide (i64.wrap (b.tdiv f)=fa r bl)==!decide (pr=0))then false else bif hasL b (cB (cj f r bl a (occL zs)) id ((f*r).toNat))then true else hasL b (cB (dK f bl a) id ((f*r).toNat))&&(!decide (zs.getD b.toNat 0=0)||decide (b=pa))
def soL(f r:Int)(zs:List Int)(bl:Bool)(ca pa a b pr:Int):Bool:=bif ownL (zs.getD b.toNat 0) bl then false else bif decide (aW (zs.getD a.toNat 0)=1)then pnL f r zs bl pa a b pr else bif !decide (cgL f r zs bl ca a b pr=0)then true else decide (pr=0)&&bL f r (aW (zs.getD a.toNat 0)) a b (occL zs)
def capL(f r:Int)(zs:List Int)(pa a b:Int):Int:=bif decide (aW (zs.getD a.toNat 0)=1)&&decide (b=pa)then numR f r (b.tmod f) (i64.wrap (a.tdiv f))else bif !decide (zs.getD b.toNat 0=0)then b else -1
theorem bO{zs:List Int}{b:Int}{g:Bool}(h:0<=b)(h1:b<zs.length):(!g||(decide (0<=b)&&decide (b<zs.length)))=true:=by simp[h,h1]
theorem bQ{zs:List Int}{b:Int}(h:0<=b)(h1:b<zs.length):(decide (0<=b)&&decide (b<zs.length))=true:=by simp[h,h1]
theorem bD{zs:List Int}{b:Int}(h:0<=b)(h1:b<zs.length):(decide (0<=b)&&decide (b<(tk zs).length))=true:=by rw[fP];simp[h,h1]
theorem vi{f r:Int}{zs:List Int}{ca bit:Int}(h:cJ f r zs ca=true)(hb:bit=1\/bit=2\/bit=4\/bit=8)(h1:decide ((u8.wrap (ca.tdiv bit)).tmod 2=1)=true):iR f r zs bit=true:=by
 unfold cJ at h
 cases h15:decide (15<ca) with
 |true=>rw[h15]at h;cases h
 |false=>
  rw[h15,cond_false]at h
  simp only[Bool.not_eq_true',Bool.or_eq_false_iff,rXL,Bool.and_eq_false_iff,Bool.not_eq_false']at h
  obtain⟨⟨⟨c1,c2⟩,c3⟩,c4⟩:=h
  rcases hb with rfl|rfl|rfl|rfl
  ·exact c1.resolve_left (by rw[h1];simp)
  ·exact c2.resolve_left (by rw[h1];simp)
  ·exact c3.resolve_left (by rw[h1];simp)
  ·exact c4.resolve_left (by rw[h1];simp)
theorem CQ{f r:Int}{zs:List Int}{bit:Int}(h:iR f r zs bit=true):f=8/\r=8:=by
 unfold iR at h
 cases h8:(!decide (f=8)||!decide (r=8)) with
 |true=>rw[h8]at h;cases h
 |false=>simpa using h8
theorem bt_1:bU 8 8 (sqW 1 0) (sqW 1 2)=[5,6]:=by kernel_rfl
theorem bt_2:bU 8 8 (sqW 2 0) (sqW 2 2)=[3,2,1]:=by kernel_rfl
theorem bt_4:bU 8 8 (sqW 4 0) (sqW 4 2)=[61,62]:=by kernel_rfl
theorem bt_8:bU 8 8 (sqW 8 0) (sqW 8 2)=[59,58,57]:=by kernel_rfl
theorem mN{f r:Int}{zs:List Int}{ca bit:Int}{x y z:Bool}(_hc2:zs.length<=64)(hbd:aC f r zs=true)(h:cJ f r zs ca=true)(hb:bit=1\/bit=2\/bit=4\/bit=8):(!(decide ((u8.wrap (ca.tdiv bit)).tmod 2=1)&&x&&y&&z)||(decide (zs.length=(tk zs).length)&&decide ((tk zs).length<=64)&&decide ((bU f r (sqW bit 0) (sqW bit 2)).length=(((fY f r (sqW bit 0) (sqW bit 2)).drop 0).take (bU f r (sqW bit 0) (sqW bit 2)).length).length)&&decide ((((fY f r (sqW bit 0) (sqW bit 2)).drop 0).take (bU f r (sqW bit 0) (sqW bit 2)).length).length<=1000)&&(((fY f r (sqW bit 0) (sqW bit 2)).drop 0).take (bU f r (sqW bit 0) (sqW bit 2)).length).all (vJ (tk zs))))=true:=by
 rw[cz,aF]
 cases h1:decide ((u8.wrap (ca.tdiv bit)).tmod 2=1) with
 |false=>simp
 |true=>
  obtain⟨rfl,rfl⟩:=CQ (vi h hb h1)
  have h64:=rN hbd rfl
  rcases hb with rfl|rfl|rfl|rfl
  ·rw[bt_1];simp[vJ,h64]
  ·rw[bt_2];simp[vJ,h64]
  ·rw[bt_4];simp[vJ,h64]
  ·rw[bt_8];simp[vJ,h64]
theorem MM{zs l:List Int}{j:Nat}(h:j<l.length):cG zs (l.drop j)=(decide (zs.getD (l.getD j 0).toNat 0=0)&&cG zs (l.drop (j+1))):=by
 rw[List.drop_eq_getElem_cons h,cG,List.all_cons]
 simp only[List.getD_eq_getElem?_getD,List.getElem?_eq_getElem h,Option.getD_some]
 rfl
def Fy:CF
 |[.agg [.int .i64 _f,.int .i64 _r,.sl 0 0 len none,.bool _bl,.int .u8 _ca,.int .i64 _pa,.int .i64 _ha,.int .i64 _fu],.sl 1 0 ll none],[.ints false .i8 zs,.ints false .i64 l]=>some (decide (len=zs.length)&&decide (zs.length<=64)&&decide (ll=l.length)&&decide (l.length<=1000)&&l.all (vJ zs),.bool (cG zs l),[])
 |_,_=>none
theorem FY:CtOk (GGx kCa kDb) PP (163,Fy):=by
 refine aD Tryz.func163 (by kernel_rfl) rfl fun a0 h0 c0 v0 N0 e hc=>?_
 unfold Fy at e
 split at e
 ·rename_i f r len bl ca pa ha fu ll zs l
  cases e
  have hE:=aB (kCa:=kCa) (kDb:=kDb) (cts:=[]) (inl:=[]) trivial trivial
  refine ak hE 2 Tryz.func163 rfl rfl ?_
  simp only[Bool.and_eq_true,decide_eq_true_eq]at hc
  obtain⟨⟨⟨⟨rfl,hc2⟩,rfl⟩,hl⟩,hal⟩:=hc
  refine cx hE 2 (fun i (_:Unit)=>([(1,.sl 1 0 l.length none),(2,.ptr 2 0 0),(5,I i)],[.ints false .i8 zs,.ints false .i64 l,.cells true [I f,I r,.sl 0 0 zs.length none,Bb bl,.int .u8 ca,I pa,I ha,I fu]])) l.length (fun j _=>cG zs (l.drop j)=cG zs l) () (by omega) (Ent.ren [0,1,2] [1,2,5] rfl rfl rfl) rfl ?_
  intro j i _ hij hj hz
  refine aq (fun hlt=>?_) (fun hlt=>?_)
  ·have hlt':j<l.length:=by simp at hlt;omega
   have hx:vJ zs (l.getD i.toNat 0)=true:=by
    have:=List.all_eq_true.1 hal (l[j]) (List.getElem_mem hlt')
    rw[show i.toNat=j by omega,List.getD_eq_getElem?_getD,List.getElem?_eq_getElem hlt',Option.getD_some];exact this
   rw[MM hlt',show j=i.toNat by omega]at hz
   repeat (first|(first|refine ah ?_|refine sat_nd ?_)|refine ae (by simp only[Bool.and_eq_true,decide_eq_true_eq];omega) ?_|refine ae hx ?_)
   refine aq (fun hon=>?_) (fun hon=>?_)
   ·have hon:(!decide (zs.getD (l.getD i.toNat 0).toNat 0=0))=true:=hon
    rw[Bool.not_eq_true']at hon
    rw[hon,Bool.false_and]at hz
    exact ag (ag (ai (.inr rfl) rfl rfl rfl (by rw[<-hz])))
   ·have hon:(!decide (zs.getD (l.getD i.toNat 0).toNat 0=0))=false:=hon
    rw[Bool.not_eq_false']at hon
    rw[hon,Bool.true_and]at hz
    exact ag ⟨hlt',(),by rw[<-hz,show i.toNat=j by omega],Ent.ren [0,1,2] [1,2,5] rfl rfl rfl⟩
  ·obtain rfl:j=l.length:=by simp at hlt;omega
   rw[List.drop_length]at hz
   exact ag (ag (ai (.inr rfl) rfl rfl rfl (by rw[<-hz];rfl)))
 ·cases e
def vw:CF
 |[.agg [.int .i64 f,.int .i64 r,.sl 0 0 len none,.bool bl,.int .u8 ca,.int .i64 _pa,.int .i64 _ha,.int .i64 _fu],.agg [.int .i64 a,.int .i64 b,.int .i8 pr]],[.ints false .i8 zs]=>some (decide (len=zs.length)&&decide (zs.length<=64)&&(aC f r zs&&cJ f r zs ca&&aj f r a&&aj f r b),.int .u8 (cgL f r zs bl ca a b pr),[])
 |_,_=>none
theorem oG:CtOk (GGx kCa kDb) PP (140,vw):=by
 refine aD Tryz.func140 (by kernel_rfl) rfl fun a0 h0 c0 v0 N0 e hc=>?_
 unfold vw at e
 split at e
 ·rename_i f r len bl ca pa ha fu a b pr zs
  cases e
  have hE:=aB (kCa:=kCa) (kDb:=kDb) (cts:=[(38,fx),(141,vr),(142,gD),(164,jL),(163,Fy)]) (inl:=[]) ⟨dZ,mZ,gO,lO,FY,trivial⟩ trivial
  refine ak hE 2 Tryz.func140 rfl rfl ?_
  simp only[Bool.and_eq_true,decide_eq_true_eq]at hc
  obtain⟨⟨rfl,hc2⟩,⟨⟨hbd,hcs⟩,hva⟩,hvb⟩:=hc
  have hvs:=(bg hbd).1
  obtain⟨ha0,ha1⟩:=(bN hbd).1 hva
  obtain⟨hb0,hb1⟩:=(bN hbd).1 hvb
  have hf0:(!decide (f=0))=true:=by have:=de hvs;simp;omega
  have hf1:∀ g:Bool,(!g||!decide (f=0))=true:=fun g=>by rw[hf0];simp
  repeat (first|(first|refine ah ?_|refine sat_nd ?_)|refine ae (bQ ha0 ha1) ?_|refine ae (bQ hb0 hb1) ?_|refine ae (bO ha0 ha1) ?_|refine ae (bO hb0 hb1) ?_|refine ae hf0 ?_|refine ae (hf1 _) ?_|refine ae (aG hc2 rfl) ?_|refine ae (cm hc2 rfl) ?_)
  refine aq (fun h=>?_) (fun h=>?_)
  ·have h:(!decide (aW (zs.getD a.toNat 0)=6)||!decide (pr=0))=true:=h
   exact ag (ai (.inr rfl) rfl rfl rfl (by rw[cgL,h];rfl))
  have h:(!decide (aW (zs.getD a.toNat 0)=6)||!decide (pr=0))=false:=h
  repeat (first|refine ah ?_|refine sat_nd ?_)
  refine dB hE 2 5 ?_
  refine rnd ?_
  refine cT (by rfl) ?_
  repeat (first|(first|refine ah ?_|refine sat_nd ?_)|refine ae (hf1 _) ?_|refine ae (mN (bit:=1) hc2 hbd hcs (by simp)) ?_)
  refine aq (fun h0=>?_) (fun h0=>?_)
  ·have h0:(decide ((u8.wrap (ca.tdiv 1)).tmod 2=1)&&(decide (2<(1:Int))==bl)&&decide (a=sqW 1 0)&&decide (b=sqW 1 1)&&cG (tk zs) (((fY f r (sqW 1 0) (sqW 1 2)).drop 0).take (bU f r (sqW 1 0) (sqW 1 2)).length))=true:=h0
   rw[aF,cz]at h0
   have h0:cgS f r zs bl ca a b 1=true:=h0
   exact ag (ag (ai (.inr rfl) rfl rfl rfl (by simp only[cgL,h,h0,cond_true,cond_false];rfl)))
  have h0:(decide ((u8.wrap (ca.tdiv 1)).tmod 2=1)&&(decide (2<(1:Int))==bl)&&decide (a=sqW 1 0)&&decide (b=sqW 1 1)&&cG (tk zs) (((fY f r (sqW 1 0) (sqW 1 2)).drop 0).take (bU f r (sqW 1 0) (sqW 1 2)).length))=false:=h0
  rw[aF,cz]at h0
  have h0:cgS f r zs bl ca a b 1=false:=h0
  refine ag ⟨[(2,.ptr 1 0 0),(3,.ptr 2 0 0),(21,.sl 3 0 4 none),(22,I 4),(23,I 1)],[.ints false .i8 zs,.cells true [I f,I r,.sl 0 0 zs.length none,Bb bl,.int .u8 ca,I pa,I ha,I fu],.cells true [I a,I b,.int .i8 pr],.ints true .u8 [1,2,4,8]],Ent.ren [0,1,2,3] [2,3,21,22,23] rfl rfl rfl,?_⟩
  refine rnd ?_
  refine cT (by rfl) ?_
  repeat (first|(first|refine ah ?_|refine sat_nd ?_)|refine ae (hf1 _) ?_|refine ae (mN (bit:=2) hc2 hbd hcs (by simp)) ?_)
  refine aq (fun h1=>?_) (fun h1=>?_)
  ·have h1:(decide ((u8.wrap (ca.tdiv 2)).tmod 2=1)&&(decide (2<(2:Int))==bl)&&decide (a=sqW 2 0)&&decide (b=sqW 2 1)&&cG (tk zs) (((fY f r (sqW 2 0) (sqW 2 2)).drop 0).take (bU f r (sqW 2 0) (sqW 2 2)).length))=true:=h1
   rw[aF,cz]at h1
   have h1:cgS f r zs bl ca a b 2=true:=h1
   exact ag (ag (ai (.inr rfl) rfl rfl rfl (by simp only[cgL,h,h0,h1,cond_true,cond_false];rfl)))
  have h1:(decide ((u8.wrap (ca.tdiv 2)).tmod 2=1)&&(decide (2<(2:Int))==bl)&&decide (a=sqW 2 0)&&decide (b=sqW 2 1)&&cG (tk zs) (((fY f r (sqW 2 0) (sqW 2 2)).drop 0).take (bU f r (sqW 2 0) (sqW 2 2)).length))=false:=h1
  rw[aF,cz]at h1
  have h1:cgS f r zs bl ca a b 2=false:=h1
  refine ag ⟨[(2,.ptr 1 0 0),(3,.ptr 2 0 0),(21,.sl 3 0 4 none),(22,I 4),(23,I 2)],[.ints false .i8 zs,.cells true [I f,I r,.sl 0 0 zs.length none,Bb bl,.int .u8 ca,I pa,I ha,I fu],.cells true [I a,I b,.int .i8 pr],.ints true .u8 [1,2,4,8]],Ent.ren [0,1,2,3] [2,3,21,22,23] rfl rfl rfl,?_⟩
  refine rnd ?_
  refine cT (by rfl) ?_
  repeat (first|(first|refine ah ?_|refine sat_nd ?_)|refine ae (hf1 _) ?_|refine ae (mN (bit:=4) hc2 hbd hcs (by simp)) ?_)
  refine aq (fun h2=>?_) (fun h2=>?_)
  ·have h2:(decide ((u8.wrap (ca.tdiv 4)).tmod 2=1)&&(decide (2<(4:Int))==bl)&&decide (a=sqW 4 0)&&decide (b=sqW 4 1)&&cG (tk zs) (((fY f r (sqW 4 0) (sqW 4 2)).drop 0).take (bU f r (sqW 4 0) (sqW 4 2)).length))=true:=h2
   rw[aF,cz]at h2
   have h2:cgS f r zs bl ca a b 4=true:=h2
   exact ag (ag (ai (.inr rfl) rfl rfl rfl (by simp only[cgL,h,h0,h1,h2,cond_true,cond_false];rfl)))
  have h2:(decide ((u8.wrap (ca.tdiv 4)).tmod 2=1)&&(decide (2<(4:Int))==bl)&&decide (a=sqW 4 0)&&decide (b=sqW 4 1)&&cG (tk zs) (((fY f r (sqW 4 0) (sqW 4 2)).drop 0).take (bU f r (sqW 4 0) (sqW 4 2)).length))=false:=h2
  rw[aF,cz]at h2
  have h2:cgS f r zs bl ca a b 4=false:=h2
  refine ag ⟨[(2,.ptr 1 0 0),(3,.ptr 2 0 0),(21,.sl 3 0 4 none),(22,I 4),(23,I 3)],[.ints false .i8 zs,.cells true [I f,I r,.sl 0 0 zs.length none,Bb bl,.int .u8 ca,I pa,I ha,I fu],.cells true [I a,I b,.int .i8 pr],.ints true .u8 [1,2,4,8]],Ent.ren [0,1,2,3] [2,3,21,22,23] rfl rfl rfl,?_⟩
  refine rnd ?_
  refine cT (by rfl) ?_
  repeat (first|(first|refine ah ?_|refine sat_nd ?_)|refine ae (hf1 _) ?_|refine ae (mN (bit:=8) hc2 hbd hcs (by simp)) ?_)
  refine aq (fun h3=>?_) (fun h3=>?_)
  ·have h3:(decide ((u8.wrap (ca.tdiv 8)).tmod 2=1)&&(decide (2<(8:Int))==bl)&&decide (a=sqW 8 0)&&decide (b=sqW 8 1)&&cG (tk zs) (((fY f r (sqW 8 0) (sqW 8 2)).drop 0).take (bU f r (sqW 8 0) (sqW 8 2)).length))=true:=h3
   rw[aF,cz]at h3
   have h3:cgS f r zs bl ca a b 8=true:=h3
   exact ag (ag (ai (.inr rfl) rfl rfl rfl (by simp only[cgL,h,h0,h1,h2,h3,cond_true,cond_false];rfl)))
  have h3:(decide ((u8.wrap (ca.tdiv 8)).tmod 2=1)&&(decide (2<(8:Int))==bl)&&decide (a=sqW 8 0)&&decide (b=sqW 8 1)&&cG (tk zs) (((fY f r (sqW 8 0) (sqW 8 2)).drop 0).take (bU f r (sqW 8 0) (sqW 8 2)).length))=false:=h3
  rw[aF,cz]at h3
  have h3:cgS f r zs bl ca a b 8=false:=h3
  refine ag ⟨[(2,.ptr 1 0 0),(3,.ptr 2 0 0),(21,.sl 3 0 4 none),(22,I 4),(23,I 4)],[.ints false .i8 zs,.cells true [I f,I r,.sl 0 0 zs.length none,Bb bl,.int .u8 ca,I pa,I ha,I fu],.cells true [I a,I b,.int .i8 pr],.ints true .u8 [1,2,4,8]],Ent.ren [0,1,2,3] [2,3,21,22,23] rfl rfl rfl,?_⟩
  refine rnd ?_
  refine vy (by rfl) ?_
  exact ag (ag (ai (.inr rfl) rfl rfl rfl (by simp only[cgL,h,h0,h1,h2,h3,cond_false])))
 ·cases e
def FK:CF
 |[.agg [.int .i64 f,.int .i64 r,.sl 0 0 len none,.bool _bl,.int .u8 ca,.int .i64 pa,.int .i64 _ha,.int .i64 _fu],.agg [.int .i64 a,.int .i64 b,.int .i8 _pr]],[.ints false .i8 zs]=>some (decide (len=zs.length)&&decide (zs.length<=64)&&(aC f r zs&&cJ f r zs ca&&aj f r a&&aj f r b),.int .i64 (capL f r zs pa a b),[])
 |_,_=>none
theorem Et:CtOk (GGx kCa kDb) PP (138,FK):=by
 refine aD Tryz.func138 (by kernel_rfl) rfl fun a0 h0 c0 v0 N0 e hc=>?_
 unfold FK at e
 split at e
 ·rename_i f r len bl ca pa ha fu a b pr zs
  cases e
  have hE:=aB (kCa:=kCa) (kDb:=kDb) (cts:=[(38,fx),(39,dH),(86,gl)]) (inl:=[]) ⟨dZ,bZ,eV,trivial⟩ trivial
  refine ak hE 2 Tryz.func138 rfl rfl ?_
  simp only[Bool.and_eq_true,decide_eq_true_eq]at hc
  obtain⟨⟨rfl,hc2⟩,⟨⟨hbd,hcs⟩,hva⟩,hvb⟩:=hc
  have hvs:=(bg hbd).1
  obtain⟨ha0,ha1⟩:=(bN hbd).1 hva
  obtain⟨hb0,hb1⟩:=(bN hbd).1 hvb
  have hf0:(!decide (f=0))=true:=by have:=de hvs;simp;omega
  have hf1:∀ g:Bool,(!g||!decide (f=0))=true:=fun g=>by rw[hf0];simp
  repeat (first|(first|refine ah ?_|refine sat_nd ?_)|refine ae (bQ ha0 ha1) ?_|refine ae (bQ hb0 hb1) ?_|refine ae (bO ha0 ha1) ?_|refine ae (bO hb0 hb1) ?_|refine ae hf0 ?_|refine ae (hf1 _) ?_|refine ae (aG hc2 rfl) ?_|refine ae (cm hc2 rfl) ?_)
  refine aq (fun h=>?_) (fun h=>?_)
  ·have h:(decide (aW (zs.getD a.toNat 0)=1)&&decide (b=pa))=true:=h
   repeat (first|(first|refine ah ?_|refine sat_nd ?_)|refine ae (bQ ha0 ha1) ?_|refine ae (bQ hb0 hb1) ?_|refine ae (bO ha0 ha1) ?_|refine ae (bO hb0 hb1) ?_|refine ae hf0 ?_|refine ae (hf1 _) ?_|refine ae (aG hc2 rfl) ?_|refine ae (cm hc2 rfl) ?_)
   exact ag (ai (.inr rfl) rfl rfl rfl (by rw[capL,h];rfl))
  have h:(decide (aW (zs.getD a.toNat 0)=1)&&decide (b=pa))=false:=h
  repeat (first|(first|refine ah ?_|refine sat_nd ?_)|refine ae (bQ ha0 ha1) ?_|refine ae (bQ hb0 hb1) ?_|refine ae (bO ha0 ha1) ?_|refine ae (bO hb0 hb1) ?_|refine ae hf0 ?_|refine ae (hf1 _) ?_|refine ae (aG hc2 rfl) ?_|refine ae (cm hc2 rfl) ?_)
  refine aq (fun h2=>?_) (fun h2=>?_)
  ·have h2:(!decide (zs.getD b.toNat 0=0))=true:=h2
   exact ag (ai (.inr rfl) rfl rfl rfl (by rw[capL,h,h2];rfl))
  ·have h2:(!decide (zs.getD b.toNat 0=0))=false:=h2
   exact ag (ai (.inr rfl) rfl rfl rfl (by rw[capL,h,h2];rfl))
 ·cases e
end
end Go.Ab
namespace Go.Ab
open Go.Proofs Go.RowKit
section
variable{kCa kDb:Bool}
theorem CS(b:Bool)(k:IntKind)(e:Int):lu PP 110 [.bool b,.int k e] b (.iface 30 (.int k e)):=by
 refine⟨fun us w=>?_,fun ρ us w n hus=>?_⟩
 ·simp only[invoke]
  simp
 ·obtain⟨u1,r1,rfl,h1,u2,r2,rfl,h2,rfl⟩:=hus
  have h1:u1=.bool b:=h1
  have h2:u2=.int k e:=h2
  subst h1;subst h2
  refine callsIn_of_wp_marks Tryz.func110 rfl trivial ?_
  refine wpIn_seq (wpIn_region ?_)
  have hr:(Fr none).round=none:=rfl
  cases b with
  |false=>
   simp[wpOpsIn,go_sem,Exit.then,hr,Oper.semAt_none,Oper.uponIn]
   refine wpIn_cond_false (by simp[Act.eval,Array.replicate]) (wpIn_skip ?_)
   exact⟨_,by simp[results,Tryz.results110],Below.refl _ w,_,rfl,fun ρ=>⟨[],rfl,rfl⟩⟩
  |true=>
   simp[wpOpsIn,go_sem,Exit.then,hr,Oper.semAt_none,Oper.uponIn]
   refine wpIn_cond_true (by simp[Act.eval,Array.replicate]) (wpIn_region ?_)
   simp[wpOpsIn,go_sem,hr,Oper.semAt_none,Oper.uponIn,Instr.panic]
   exact⟨Below.refl _ w,rfl⟩
theorem uU(b:Nat)(hp:List O)(k:Nat):mF (GGx kCa kDb) PP ⟨109,[],[.ptr b 0 k]⟩ .returning .returning hp fun hp'=>hp'=hp:=by
 refine⟨ent Tryz.func109 (by kernel_rfl) rfl,fun B w0 gs ρ w us n hh hbel hB hgs hus=>?_⟩
 obtain⟨u1,r1,rfl,h1,rfl⟩:=hus
 refine callsDIn_of_wpSIn Tryz.func109 rfl trivial fun c₀ cs hu=>?_
 apply wpSIn_seq
 apply wpSIn_region
 simp[wpOpsSIn,go_sem,recoverD,hu,Exit.thenS]
 have hr:(Fr none).round=none:=rfl
 refine wpSIn_of_wpIn rfl (wpIn_seq (wpIn_region ?_))
 simp[wpOpsIn,go_sem,Exit.then,hr,Oper.semAt_none,Oper.uponIn]
 refine wpIn_block (wpIn_seq (wpIn_region ?_))
 simp[wpOpsIn,go_sem,Exit.then,hr,Oper.semAt_none,Oper.uponIn]
 refine wpIn_cond_true (by simp[Act.eval,Array.replicate]) (wpIn_skip ?_)
 have hc:c₀={ c₀ with mode:=.returning }:=by cases c₀;simp_all
 refine⟨rfl,.returning,?_,.tuple #[],by simp[results,Tryz.results109],rfl,⟨_,rfl⟩,hp,ρ,hh,Ren.le_refl _,hbel,hgs,rfl⟩
 rw[<-hc]
theorem AI{hp:List O}{b:Nat}{v0:V}{n:Int}{ρ:Ren}{B:Nat}{w:World}(hh:HR (GGx kCa kDb) B ρ hp w)(hb:hp.getD b .gone=.cells true [v0]){u:Value}(hu:VR ρ (.ptr b 0 0) u) :
  ∃ w',(Instr.storeAt 30 u (.int .i64 n)).run PP w=.ok () w'/\HR (GGx kCa kDb) B ρ (hp.set b (.cells true [.int .i64 n])) w'/\Below B w w'/\KeepsOthers w w':=by
 have hE:=aB (kCa:=kCa) (kDb:=kDb) (cts:=[]) (inl:=[]) trivial trivial
 have hlt:b<ax:=by
  have:=mS (l:=hp) (b:=b) (by rw[hb];simp)
  have:=hh.small
  omega
 have hble:Nat.ble ax b=false:=by
  cases h:Nat.ble ax b with
  |false=>rfl
  |true=>have:=Nat.le_of_ble_eq_true h;omega
 have ht:TR ρ [(0,.ptr b 0 0),(1,.int .i64 n)] { tmps:=#[u,.int .i64 n],defers:=[] }:=by
  intro t
  rw[bj]
  by_cases h0:0=t
  ·subst h0;simpa using hu
  ·rw[if_neg h0,bj]
   by_cases h1:1=t
   ·subst h1;rw[if_pos rfl];exact rfl
   ·rw[if_neg h1];trivial
 have he:evOp (EE kCa kDb [] []) [(0,.ptr b 0 0),(1,.int .i64 n)] hp (.store 30 (.tmp 0) (.tmp 1))=.store b (.cells true [.int .i64 n]):=by
  show (match Nat.ble ax b with|true=>R.bad|false=>match stO (hp.getD b .gone) 0 0 (.int .i64 n) 1 with|some o=>R.store b o|none=>R.bad)=_
  rw[hble,hb]
  rfl
 obtain⟨w',h1,h2,h3,h4⟩:=hY (P:=PP) (o:=⟨none,.store 30 (.tmp 0) (.tmp 1),0, "",#[],none⟩) hE.ok hh ht he
 refine⟨w',?_,h2,h3,h4⟩
 have h1:(do Instr.storeAt 30 u (.int .i64 n);pure Next.skip:Sem Next).run PP w=.ok .skip w':=h1
 simp only[Sem.run_bind]at h1
 cases hx:(Instr.storeAt 30 u (.int .i64 n)).run PP w with
 |ok a w2=>rw[hx]at h1;simp at h1;rw[h1]
 |halt s w2=>rw[hx]at h1;simp[Result.andThen]at h1
theorem Ig(v:Value)(w:World):(Instr.typeAssert (.iface 30 v) 20 30 true).run PP w=.ok (.tuple #[v,.bool true]) w:=by kernel_rfl
theorem jl{b:Nat}{hp:List O}{v0:V}{n0:Int}(hb:hp.getD b .gone=.cells true [v0]):mF (GGx kCa kDb) PP ⟨109,[],[.ptr b 0 0]⟩ (.panicking [{ v:=.iface 30 (.int .i64 n0),recovered:=false }]) (.panicking [{ v:=.iface 30 (.int .i64 n0),recovered:=true }]) hp fun hp'=>hp'=hp.set b (.cells true [.int .i64 n0]):=by
 refine⟨ent Tryz.func109 (by kernel_rfl) rfl,fun B w0 gs ρ w us n hh hbel hB hgs hus=>?_⟩
 obtain⟨u1,r1,rfl,h1,rfl⟩:=hus
 have hu1:=h1
 obtain⟨w',hrun,h2,h3,h4⟩:=AI (n:=n0) hh hb h1
 obtain⟨rg,_,_,_,rfl⟩:=h1
 refine callsDIn_of_wpSIn Tryz.func109 rfl trivial fun c₀ cs hu=>?_
 apply wpSIn_seq
 apply wpSIn_region
 simp[wpOpsSIn,go_sem,recoverD,hu,Exit.thenS]
 have hr:(Fr none).round=none:=rfl
 refine wpSIn_of_wpIn rfl (wpIn_seq (wpIn_region ?_))
 simp[wpOpsIn,go_sem,Exit.then,hr,Oper.semAt_none,Oper.uponIn]
 refine wpIn_block (wpIn_seq (wpIn_region ?_))
 simp[wpOpsIn,go_sem,Exit.then,hr,Oper.semAt_none,Oper.uponIn]
 refine wpIn_cond_false (by simp[Act.eval,Array.replicate]) (wpIn_seq (wpIn_region ?_))
 simp[wpOpsIn,go_sem,Exit.then,hr,Oper.semAt_none,Oper.uponIn,Ig]
 refine wpIn_seq (wpIn_seq (wpIn_region ?_))
 simp[wpOpsIn,go_sem,Exit.then,hr,Oper.semAt_none,Oper.uponIn]
 refine wpIn_cond_false (by simp[Act.eval,Array.replicate]) (wpIn_skip ?_)
 refine wpIn_region ?_
 simp[go_sem]at hrun
 simp[wpOpsIn,go_sem,hr,Oper.semAt_none,Oper.uponIn,hrun]
 exact⟨rfl,.panicking [{ v:=.iface 30 (.int .i64 n0),recovered:=true }],rfl,.tuple #[],by simp[results,Tryz.results109],rfl,⟨_,rfl⟩,_,ρ,h2,Ren.le_refl _,hbel.trans h3,hgs.keeps h4,rfl⟩
end
end Go.Ab
namespace Go.Ab
open Go.Proofs
open Go.Proofs
end Go.Ab
namespace Go.Ab
open Go.Proofs
theorem zJ(c:Int->Bool)(n:Nat)(hn:n<=64):Uk (jN (fun s i=>bif c i then uor s (ushl 1 i)else s) 0 n)/\∀ m:Nat,bt (jN (fun s i=>bif c i then uor s (ushl 1 i)else s) 0 n) m=(decide (m<n)&&c m):=by
 induction n with
 |zero=>exact⟨uk_0,fun m=>by simp[jN,bt_0]⟩
 |succ n ih=>
  obtain⟨h1,h2⟩:=ih (by omega)
  simp only[jN]
  cases hc:c n with
  |false=>
   refine⟨h1,fun m=>?_⟩
   rw[cond_false,h2]
   by_cases e:m=n
   ·subst e;simp[hc]
   ·congr 1
    simp;omega
  |true=>
   refine⟨iy _ _,fun m=>?_⟩
   rw[cond_true,fE h1 (jc _ _),jz (by omega) (by omega),h2]
   by_cases e:m=n
   ·subst e;simp[hc]
   ·have e2:¬ ((n:Int)=m):=by omega
    have e3:decide (m<n)=decide (m<n+1):=by congr 1;exact propext ⟨fun h=>by omega,fun h=>by omega⟩
    simp[e2,e3]
theorem Ae{zs:List Int}{i:Nat}(h:i<zs.length):zs.getD i 0∈zs:=by simp[List.getD,h]
theorem me(p:Int->Bool){zs:List Int}(h:zs.length<=64):Uk (fo p zs)/\∀ m:Nat,bt (fo p zs) m=(decide (m<zs.length)&&p (zs.getD m 0)):=by
 have:=zJ (fun i=>p (zs.getD i.toNat 0)) zs.length h
 exact this
theorem jS{f r:Int}{zs:List Int}(h:aC f r zs=true)(hl:zs.length<=64):Uk (occR f r zs)/\∀ m:Nat,bt (occR f r zs) m=(decide (m<zs.length)&&!decide (zs.getD m 0=0)):=by
 obtain⟨h1,h2⟩:=me posP hl
 obtain⟨h3,h4⟩:=me negP hl
 unfold occR eY
 rw[h]
 refine⟨iy _ _,fun m=>?_⟩
 show bt (uor (fo posP zs) (fo negP zs)) m=_
 rw[fE h1 h3,h2,h4,<-Bool.and_or_distrib_left]
 congr 1
 unfold posP negP
 rw[Bool.eq_iff_iff]
 simp only[Bool.or_eq_true,decide_eq_true_eq,Bool.not_eq_true',decide_eq_false_iff_not]
 omega
theorem DK{p:Int}:sgn p=1↔0<p:=by have:=jR p;omega
theorem Eh{p:Int}:sgn p=-1↔p<0:=by have:=jR p;omega
theorem nR{f r:Int}{zs:List Int}(h:aC f r zs=true)(hl:zs.length<=64):occL zs=occR f r zs:=by
 obtain⟨h1,h2⟩:=jS h hl
 have hb:∀ x∈cK zs 1++cK zs (-1),0<=x/\x<64:=by
  intro x hx
  rcases List.mem_append.1 hx with hx|hx<;>(have:=gE.1 hx;omega)
 obtain⟨h3,h4⟩:=uM _ 0 hb uk_0
 refine zm h3 h1 fun m hm=>?_
 show bt (ofL (cK zs 1++cK zs (-1)) 0) m=_
 rw[h4,h2,bt_0,Bool.false_or,Bool.eq_iff_iff]
 simp only[decide_eq_true_eq,List.mem_append,gE,DK,Eh,Int.toNat_natCast,Bool.and_eq_true,Bool.not_eq_true',decide_eq_false_iff_not]
 omega
theorem zg{f r:Int}{zs:List Int}(h:aV f r zs=true)(hl:zs.length<=64):OnS f r (occR f r zs):=fun m _ hb=>by
 rw[(jS (bh h).2.2.1 hl).2,Bool.and_eq_true,decide_eq_true_eq]at hb
 exact(FR h).2 ⟨by omega,by omega⟩
theorem mP{f r:Int}{zs:List Int}(h:aV f r zs=true){i:Int}(h0:0<=i)(h1:i<zs.length):-6<=zs.getD i.toNat 0/\zs.getD i.toNat 0<=6:=(bh h).2.2.2 _ (Ae (by omega))
theorem gX{p:Int}(h:-6<=p/\p<=6):aW p=p.natAbs:=by
 have hw:∀ q:_root_.Fin 13,aW ((q.val:Int)-6)=(((q.val:Int)-6).natAbs:Int):=by decide +kernel
 have h2:=hw ⟨(p+6).toNat,by omega⟩
 simp only at h2
 rwa [show (((p+6).toNat:Int)-6)=p by omega]at h2
theorem uv{f r kd a occ:Int}(ha:aj f r a=true)(hk:nI kd):bL f r kd a a occ=false:=by
 obtain⟨e1,e2⟩:=iz ha ha
 have hl:(bx f a a).2.2=false:=by
  rcases uO ha ha with⟨e,_⟩|⟨_,h⟩
  ·rw[e]
  ·unfold lN at h;omega
 have hd:pC f a a=0:=by rw[Jv ha ha,show px f a-px f a=0 by omega,show py f a-py f a=0 by omega];rfl
 unfold bL
 rw[e1,e2,hl,hd,show px f a-px f a=0 by omega,show py f a-py f a=0 by omega]
 rcases hk with rfl|rfl|rfl|rfl|rfl<;>rfl
theorem Nc{f r:Int}{zs:List Int}{occ:Int}(h:aV f r zs=true)(hu:Uk occ)(hon:OnS f r occ){i:Int}(h0:0<=i)(h1:i<zs.length)(hp:zs.getD i.toNat 0≠0) :
  Uk (ofR f r zs i occ)/\OnS f r (ofR f r zs i occ)/\∀ b,aj f r b=true->bt (ofR f r zs i occ) b.toNat=tM f r zs i b occ:=by
 have hi:=(FR h).2 ⟨h0,h1⟩
 have hb:=mP h h0 h1
 obtain⟨hv,hn,_⟩:=bh h
 unfold ofR tM
 rw[GL hb,gX hb]
 by_cases hk:zs.getD i.toNat 0=1\/zs.getD i.toNat 0=-1
 ·rw[show (decide (zs.getD i.toNat 0=1)||decide (zs.getD i.toNat 0=-1))=true by simpa using hk,show decide (((zs.getD i.toNat 0).natAbs:Int)=1)=true by rw[decide_eq_true_eq];omega,cond_true]
  obtain⟨_,p1,p2,p3⟩:=wT (bl:=decide (zs.getD i.toNat 0<0)) hi
  refine⟨p1,p2,fun b hbv=>?_⟩
  rw[p3 b hbv,cond_true,Bool.eq_iff_iff,kS,ey]
  have:=aL hbv
  exact⟨fun h=>⟨this.1,by omega,h⟩,fun h=>h.2.2⟩
 ·have hk':(decide (zs.getD i.toNat 0=1)||decide (zs.getD i.toNat 0=-1))=false:=by simpa using hk
  rw[hk',show decide (((zs.getD i.toNat 0).natAbs:Int)=1)=false by rw[decide_eq_false_iff_not];omega,cond_false]
  have hr:=(kf hu).2 ⟨hi,hon⟩
  have h5:nI ((zs.getD i.toNat 0).natAbs:Int):=by unfold nI;omega
  obtain⟨p1,p2,p3⟩:=ru hr hu h5
  refine⟨p1,p2,fun b hbv=>?_⟩
  show bt (pV f r _ i occ) b.toNat=_
  rw[p3 b hbv,cond_false]
  by_cases e:i=b
  ·subst e;rw[uv hi h5];simp
  ·simp[e]
theorem wu(p:Int)(bl:Bool):isP p bl=decide (sgn p=sdI bl):=by
 unfold isP sdI
 rw[Bool.eq_iff_iff]
 cases bl<;>simp[DK,Eh]
theorem yP{p:Int}{bl:Bool}(h:isP p bl=true):p≠0:=by
 rintro rfl;cases bl<;>cases h
theorem mu{f r:Int}{zs:List Int}{to:Int}{bl:Bool}{i:Int}:i∈attL f r zs to bl↔0<=i/\i<zs.length/\isP (zs.getD i.toNat 0) bl=true/\tM f r zs i to (occL zs)=true:=by
 unfold attL
 rw[List.mem_filter,gE,wu,decide_eq_true_eq]
 simp only[AH,and_assoc]
theorem Dt{f r:Int}{zs:List Int}{to:Int}{bl:Bool}(h:aV f r zs=true)(hl:zs.length<=64)(ht:aj f r to=true){i:Int}(h0:0<=i)(h1:i<zs.length):attB f r zs to bl (occR f r zs) i=true↔i∈attL f r zs to bl:=by
 rw[mu]
 unfold attB
 rw[Bool.and_eq_true]
 have ho:=jS (bh h).2.2.1 hl
 have hv:=aL ht
 constructor
 ·rintro⟨h2,h3⟩
  obtain⟨p1,p2,p3⟩:=Nc h ho.1 (zg h hl) h0 h1 (yP h2)
  rw[pN p1 hv.1 hv.2.2,p3 to ht,<-nR (bh h).2.2.1 hl]at h3
  exact⟨h0,h1,h2,h3⟩
 ·rintro⟨_,_,h2,h3⟩
  obtain⟨p1,p2,p3⟩:=Nc h ho.1 (zg h hl) h0 h1 (yP h2)
  rw[pN p1 hv.1 hv.2.2,p3 to ht,<-nR (bh h).2.2.1 hl]
  exact⟨h2,h3⟩
theorem CZ{f r:Int}{zs:List Int}{to:Int}{bl:Bool}(h:aV f r zs=true)(hl:zs.length<=64)(ht:aj f r to=true):Uk (attR f r zs to bl)/\∀ m:Nat,bt (attR f r zs to bl) m=decide ((m:Int)∈attL f r zs to bl):=by
 obtain⟨h1,h2⟩:=zJ (attB f r zs to bl (occR f r zs)) zs.length hl
 refine⟨h1,fun m=>?_⟩
 show bt (jN (fun s i=>bif attB f r zs to bl (occR f r zs) i then uor s (ushl 1 i)else s) 0 zs.length) m=_
 rw[h2,Bool.eq_iff_iff,Bool.and_eq_true,decide_eq_true_eq,decide_eq_true_eq]
 constructor
 ·rintro⟨h3,h4⟩;exact(Dt h hl ht (by omega) (by omega)).1 h4
 ·intro h3
  have:=mu.1 h3
  exact⟨by omega,(Dt h hl ht (by omega) (by omega)).2 h3⟩
end Go.Ab
namespace Go.Ab
open Go.Proofs Go.RowKit
section
variable{kDb:Bool}
theorem uH{E:Env}{P:Program}{N:Nat}{tm:Tm}{hp:List O}{n:Nat}{B:Nat}{w0:World}{S:Nat}{D:List Deferred}{gs:List (Nat×Obj)}{ρ:Ren}{a:Act}{w:World}(hE:E.Fn P)(m:Nat){id:Nat}{ops:Array Oper}(hq:ops.toList.all (fun o=>kL o.op)=true){Q2:Tm->List O->Prop}{K:Act->World->Prop}
  (hs:sat E.G P (fun _ tm hp=>Q2 tm hp) (cI E (hdl E m) N ops.toList ops.toList tm hp (.ret .normal) noX)) (h:Rel E.G B w0 S N D gs ρ tm hp a w) (hd:a.defers=D)
  (hK:∀ a' w' tm' hp' ρ',Rel E.G B w0 S N D gs ρ' tm' hp' a' w'->a'.defers=D->ρ.le ρ'->Q2 tm' hp'->K a' w'):(Code.region id ops false).wpIn (Fr none) n P (fun e a' w'=>e=.normal/\K a' w') a w:=by
 refine wpIn_region ?_
 have h1:=er (n:=n) (ro:=none) (ρ0:=ρ) (tl:=[]) (suf:=[]) (Qx:=fun e a' w'=>e=.normal/\∃ tm1 hp1 ρ1,Rel E.G B w0 S N D gs ρ1 tm1 hp1 a' w'/\ρ.le ρ1/\Q2 tm1 hp1) hE.ok (dD hE) (bV hE m) (ops:=ops)
  (fun a' w' ⟨tm1,hp1,ρ1,r1,r2,r3⟩=>⟨rfl,tm1,hp1,ρ1,r1,r2,r3⟩) (fun e a2 w2 ⟨_,_,_,_,_,q⟩=>q.elim) ops.toList [] tm hp ρ a w (by simp) hs h (Ren.le_refl ρ)
 rw[List.append_nil,List.length_nil,Array.length_toList,<-List.range_eq_range']at h1
 rw[<-List.append_nil (List.range ops.size)]
 refine gG (fun e a w he hq=>absurd hq.1 he) _ a w (fun i _ o ho=>?_) h1 ?_
 ·rw[<-Array.getElem?_toList]at ho
  exact List.all_eq_true.1 hq o (List.mem_of_getElem? ho)
 ·rintro a1 w1 hd1 ⟨_,tm1,hp1,ρ1,r1,r2,r3⟩
  exact⟨rfl,hK a1 w1 tm1 hp1 ρ1 r1 (hd1.trans hd) r2 r3⟩
abbrev jD(a b:Int):Int:=band .andNot .u8 a b
def epB(zs:List Int)(pa a b:Int):Bool:=decide (absP (zs.getD a.toNat 0)=1)&&decide (b=pa)
def at1R(f:Int)(zs:List Int)(pa a b:Int):Int:=bif epB zs pa a b then IntKind.i64.wrap (IntKind.i64.wrap (a-a.tmod f)+b.tmod f)else b
def capR(f:Int)(zs:List Int)(pa a b:Int):Int:=zs.getD (at1R f zs pa a b).toNat 0
def at2R(f:Int)(zs:List Int)(pa a b:Int):Int:=bif decide (capR f zs pa a b=0)then -1 else at1R f zs pa a b
def zs1R(f:Int)(zs:List Int)(pa a b:Int):List Int:=bif decide (0<=at2R f zs pa a b)then zs.set (at2R f zs pa a b).toNat 0 else zs
def zs2R(f:Int)(zs:List Int)(pa a b:Int):List Int:=((zs1R f zs pa a b).set a.toNat 0).set b.toNat (zs.getD a.toNat 0)
def cstR(f r:Int)(zs:List Int)(bl:Bool)(ca pa a b pr:Int):Bool:=wayB f r zs (wayN zs bl ca a b)&&!iv f r zs bl pa a b pr
def putR(l:List Int)(bl:Bool)(b pr:Int)(c:Bool)(n:Nat):List Int:=bif !decide (pr=0)&&bl then l.set b.toNat (w8 (0-pr))else bif !decide (pr=0)then l.set b.toNat pr else bif c then(l.set (wCro n).toNat (l.getD (wCor n).toNat 0)).set (wCor n).toNat 0 else l
def zs3R(f r:Int)(zs:List Int)(bl:Bool)(ca pa a b pr:Int):List Int:=putR (zs2R f zs pa a b) bl b pr (cstR f r zs bl ca pa a b pr) (wayN zs bl ca a b)
def caR(ca a b:Int):Int:=jD ca (u8or (DP a) (DP b))
def twoB(f:Int)(zs:List Int)(a b:Int):Bool:=decide (absP (zs.getD a.toNat 0)=1)&&(decide (IntKind.i64.wrap (b-a)=IntKind.i64.wrap (2*f))||decide (IntKind.i64.wrap (b-a)=IntKind.i64.wrap (-2*f)))
def paR(f:Int)(zs:List Int)(a b:Int):Int:=bif twoB f zs a b then IntKind.i64.wrap (a+IntKind.i64.wrap ((IntKind.i64.wrap (b-a)).tdiv 2))else -1
def haR(f:Int)(zs:List Int)(pa ha a b:Int):Int:=bif decide (absP (zs.getD a.toNat 0)=1)||!decide (capR f zs pa a b=0)then 0 else IntKind.i64.wrap (ha+1)
def fuR(bl:Bool)(fu:Int):Int:=bif bl then IntKind.i64.wrap (fu+1)else fu
def err1(p:Psn)(m:Mov):Bool:=!p.ok||!mvB p.f p.r m.a m.b m.p
def err3(p:Psn)(m:Mov):Bool:=isP (p.zs.getD m.b.toNat 0) p.bl||(!iv p.f p.r p.zs p.bl p.pa m.a m.b m.p&&(!wayB p.f p.r p.zs (wayN p.zs p.bl p.ca m.a m.b)||!decide (m.p=0)))
def err4(p:Psn)(m:Mov):Bool:=chkB p.f p.r (zs3R p.f p.r p.zs p.bl p.ca p.pa m.a m.b m.p) p.bl||(cstR p.f p.r p.zs p.bl p.ca p.pa m.a m.b m.p&&(chkB p.f p.r p.zs p.bl||!decide ((dA p.f p.r p.zs (wCro (wayN p.zs p.bl p.ca m.a m.b)) (!p.bl)).1=0)))
def err5(p:Psn)(m:Mov):Bool:=decide (10000<haR p.f p.zs p.pa p.ha m.a m.b)||decide (10000<fuR p.bl p.fu)
def mkE5(p:Psn)(m:Mov):Int:=bif err1 p m then 2 else bif !isP (p.zs.getD m.a.toNat 0) p.bl then 9 else bif err3 p m then 10 else bif err4 p m then 90 else bif err5 p m then 7 else 0
def mkP(p:Psn)(m:Mov):Psn:=bif decide (mkE5 p m=0) then⟨p.f,p.r,zs3R p.f p.r p.zs p.bl p.ca p.pa m.a m.b m.p,!p.bl,caR p.ca m.a m.b,paR p.f p.zs m.a m.b,haR p.f p.zs p.pa p.ha m.a m.b,fuR p.bl p.fu⟩ else⟨0,0,[],false,0,0,0,0⟩
def mkU(p:Psn)(m:Mov):Und:=bif decide (mkE5 p m=0) then⟨m,capR p.f p.zs p.pa m.a m.b,at2R p.f p.zs p.pa m.a m.b,p.ca,p.pa,p.ha,p.fu⟩ else⟨⟨0,0,0⟩,0,0,0,0,0,0⟩
abbrev psV(b:Nat)(p:Psn):V:=.agg [I p.f,I p.r,.sl b 0 p.zs.length none,Bb p.bl,.int .u8 p.ca,I p.pa,I p.ha,I p.fu]
abbrev unV(u:Und):V:=.agg [I u.m.a,I u.m.b,.int .i8 u.m.p,.int .i8 u.c,I u.at_,.int .u8 u.ca,I u.pa,I u.ha,I u.fu]
theorem Nn:∀ a b v,sX 30 a=some (b,v)->lu PP 110 a b v:=by
 intro a b v h
 unfold sX at h
 split at h
 ·cases h;exact CS _ _ _
 ·cases h
def gq:Code->Code
 |.seq _ y=>y
 |c=>c
noncomputable abbrev EM (kDb:Bool):Env:={ mkEP tyT (GGx true kDb) [(33,ei),(111,rh),(112,c_is),(115,uD),(113,iJ),(114,xO),(60,oN),(116,xA),(117,iI),(118,ER)] [] [(110,sX 30)]with cut:=true }
theorem uG{kDb:Bool}:(EM kDb).Fn PP:=cutE (KR FO tyOk ⟨cQ,vY,Kn,nQ,oV,BX,lz,Bi,oX,Fq,trivial⟩ trivial ⟨Nn,trivial⟩)
theorem NF{kDb:Bool}{zs:List Int}{B1 B2:O}(n:Int)(hn:(!decide (n=0))=true)(o1 o2 o3 o4 o5 o6 o7 o8 u1 u2 u3 u4 u5 u6 u7 u8 u9:V) :
  Lv (EM kDb) PP (fun tm hp=>FinL (EM kDb) Tryz.f63 1 (.tup [psV 1 ⟨0,0,[],false,0,0,0,0⟩,unV ⟨⟨0,0,0⟩,0,0,0,0,0,0⟩,I n]) [.ints true .i8 []] .ret tm hp) [⟨109,[],[.ptr 5 0 0]⟩,⟨108,[.ptr 5 0 0,.ptr 3 0 0,.ptr 4 0 0],[]⟩]
   (.panicking [{ v:=.iface 30 (.int .i64 n),recovered:=false }]) [(4,.ptr 3 0 0),(5,.ptr 4 0 0),(6,.ptr 5 0 0)] [.ints false .i8 zs,B1,B2,.cells true [o1,o2,o3,o4,o5,o6,o7,o8],.cells true [u1,u2,u3,u4,u5,u6,u7,u8,u9],.cells true [I 0]]:=by
 have hE:=uG (kDb:=kDb)
 refine⟨by simp,_,_,jl (kCa:=true) (kDb:=kDb) (b:=5) (v0:=I 0) rfl,?_⟩
 rintro _ rfl
 refine⟨by simp[Go.settle],_,fun hp'=>hp'=[.ints false .i8 zs,B1,B2,.cells true [I 0,I 0,.nils,.lit false,.int .u8 0,I 0,I 0,I 0],.cells true [I 0,I 0,.int .i8 0,.int .i8 0,I 0,.int .u8 0,I 0,I 0,I 0],.cells true [I n]],yj hE 2 Tryz.func108 (by kernel_rfl) rfl rfl ?_,?_⟩
 ·refine bG hE 2 rfl (fun _=>?_) (fun h=>absurd (hn.symm.trans h) (by simp))
  exact ag ⟨.inl rfl,[],rfl,rfl⟩
 ·rintro _ rfl
  refine⟨rfl,?_⟩
  refine JY (Ent.phan (b:=3) (j:=2) (ww:=true) (o:=.ints true .i8 []) rfl rfl ⟨by simp,by simp,trivial,rfl⟩ (aH rfl)) (bW 6 (.inr rfl) rfl rfl rfl rfl rfl rfl) (fun _ _ h=>h)
theorem KD{kDb:Bool}{zs:List Int}{B1 B2:O}(lx:List Int)(n:Int)(hn:(!decide (n=0))=true)(o1 o2 o3 o4 o5 o6 o7 o8 u1 u2 u3 u4 u5 u6 u7 u8 u9:V) :
  Lv (EM kDb) PP (fun tm hp=>FinL (EM kDb) Tryz.f63 1 (.tup [psV 1 ⟨0,0,[],false,0,0,0,0⟩,unV ⟨⟨0,0,0⟩,0,0,0,0,0,0⟩,I n]) [.ints true .i8 []] .ret tm hp) [⟨109,[],[.ptr 5 0 0]⟩,⟨108,[.ptr 5 0 0,.ptr 3 0 0,.ptr 4 0 0],[]⟩]
   (.panicking [{ v:=.iface 30 (.int .i64 n),recovered:=false }]) [(4,.ptr 3 0 0),(5,.ptr 4 0 0),(6,.ptr 5 0 0)] [.ints false .i8 zs,B1,B2,.cells true [o1,o2,o3,o4,o5,o6,o7,o8],.cells true [u1,u2,u3,u4,u5,u6,u7,u8,u9],.cells true [I 0],.ints true .i8 lx]:=by
 have hE:=uG (kDb:=kDb)
 refine⟨by simp,_,_,jl (kCa:=true) (kDb:=kDb) (b:=5) (v0:=I 0) rfl,?_⟩
 rintro _ rfl
 refine⟨by simp[Go.settle],_,fun hp'=>hp'=[.ints false .i8 zs,B1,B2,.cells true [I 0,I 0,.nils,.lit false,.int .u8 0,I 0,I 0,I 0],.cells true [I 0,I 0,.int .i8 0,.int .i8 0,I 0,.int .u8 0,I 0,I 0,I 0],.cells true [I n],.ints true .i8 lx],yj hE 2 Tryz.func108 (by kernel_rfl) rfl rfl ?_,?_⟩
 ·refine bG hE 2 rfl (fun _=>?_) (fun h=>absurd (hn.symm.trans h) (by simp))
  exact ag ⟨.inl rfl,[],rfl,rfl⟩
 ·rintro _ rfl
  refine⟨rfl,?_⟩
  refine JY (Ent.phan (b:=3) (j:=2) (ww:=true) (o:=.ints true .i8 []) rfl rfl ⟨by simp,by simp,trivial,rfl⟩ (aH rfl)) (bW 7 (.inr rfl) rfl rfl rfl rfl rfl rfl) (fun _ _ h=>h)
theorem NB{kDb:Bool}{zs:List Int}{B1 B2:O}(q:Psn)(x:Und)(hq:q.zs.length=zs.length) :
  Lv (EM kDb) PP (fun tm hp=>FinL (EM kDb) Tryz.f63 1 (.tup [psV 1 q,unV x,I 0]) [.ints true .i8 q.zs] .ret tm hp) [⟨109,[],[.ptr 5 0 0]⟩,⟨108,[.ptr 5 0 0,.ptr 3 0 0,.ptr 4 0 0],[]⟩]
   .returning [(4,.ptr 3 0 0),(5,.ptr 4 0 0),(6,.ptr 5 0 0)] [.ints false .i8 zs,B1,B2,.cells true [I q.f,I q.r,.sl 6 0 zs.length none,Bb q.bl,.int .u8 q.ca,I q.pa,I q.ha,I q.fu],.cells true [I x.m.a,I x.m.b,.int .i8 x.m.p,.int .i8 x.c,I x.at_,.int .u8 x.ca,I x.pa,I x.ha,I x.fu],.cells true [I 0],.ints true .i8 q.zs]:=by
 have hE:=uG (kDb:=kDb)
 refine⟨by simp,_,_,uU (kCa:=true) (kDb:=kDb) 5 _ 0,?_⟩
 rintro _ rfl
 refine⟨by simp[Go.settle],_,fun hp'=>hp'=[.ints false .i8 zs,B1,B2,.cells true [I q.f,I q.r,.sl 6 0 zs.length none,Bb q.bl,.int .u8 q.ca,I q.pa,I q.ha,I q.fu],.cells true [I x.m.a,I x.m.b,.int .i8 x.m.p,.int .i8 x.c,I x.at_,.int .u8 x.ca,I x.pa,I x.ha,I x.fu],.cells true [I 0],.ints true .i8 q.zs],yj hE 2 Tryz.func108 (by kernel_rfl) rfl rfl ?_,?_⟩
 ·refine bG hE 2 rfl (fun h=>absurd h (by simp)) (fun _=>?_)
  exact ag ⟨.inl rfl,[],rfl,rfl⟩
 ·rintro _ rfl
  refine⟨rfl,?_⟩
  rw[<-hq]
  exact JZ (bW 6 (.inr rfl) rfl rfl rfl rfl rfl rfl)
theorem Jy{p:Psn}{m:Mov}{n:Int}(h:mkE5 p m=n)(hn:(!decide (n=0))=true):mkP p m=⟨0,0,[],false,0,0,0,0⟩/\mkU p m=⟨⟨0,0,0⟩,0,0,0,0,0,0⟩:=by
 have h0:decide (mkE5 p m=0)=false:=by rw[h];simpa using hn
 exact⟨by rw[mkP,h0];rfl,by rw[mkU,h0];rfl⟩
theorem qF{kDb:Bool}{zs:List Int}{B1 B2:O}{p:Psn}{m:Mov}{n:Int}{tm:Tm}{hp:List O}{o1 o2 o3 o4 o5 o6 o7 o8 u1 u2 u3 u4 u5 u6 u7 u8 u9:V}(he:mkE5 p m=n)(hn:(!decide (n=0))=true)(hent:Ent (GGx true kDb) 6 tm hp [(4,.ptr 3 0 0),(5,.ptr 4 0 0),(6,.ptr 5 0 0)] [.ints false .i8 zs,B1,B2,.cells true [o1,o2,o3,o4,o5,o6,o7,o8],.cells true [u1,u2,u3,u4,u5,u6,u7,u8,u9],.cells true [I 0]]) :
  HE (EM kDb) PP Tryz.f63 6 1 (.tup [psV 1 (mkP p m),unV (mkU p m),I (mkE5 p m)]) [.ints true .i8 (mkP p m).zs] [⟨109,[],[.ptr 5 0 0]⟩,⟨108,[.ptr 5 0 0,.ptr 3 0 0,.ptr 4 0 0],[]⟩] (.panic [{ v:=.iface 30 (.int .i64 n),recovered:=false }]) tm hp:=by
 obtain⟨h1,h2⟩:=Jy he hn
 rw[h1,h2,he]
 exact⟨_,_,_,rfl,hent,NF n hn o1 o2 o3 o4 o5 o6 o7 o8 u1 u2 u3 u4 u5 u6 u7 u8 u9⟩
theorem uZ{kDb:Bool}{zs:List Int}{B1 B2:O}{lx:List Int}{p:Psn}{m:Mov}{n:Int}{tm:Tm}{hp:List O}{o1 o2 o3 o4 o5 o6 o7 o8 u1 u2 u3 u4 u5 u6 u7 u8 u9:V}(he:mkE5 p m=n)(hn:(!decide (n=0))=true)(hent:Ent (GGx true kDb) 6 tm hp [(4,.ptr 3 0 0),(5,.ptr 4 0 0),(6,.ptr 5 0 0)] [.ints false .i8 zs,B1,B2,.cells true [o1,o2,o3,o4,o5,o6,o7,o8],.cells true [u1,u2,u3,u4,u5,u6,u7,u8,u9],.cells true [I 0],.ints true .i8 lx]) :
  HE (EM kDb) PP Tryz.f63 6 1 (.tup [psV 1 (mkP p m),unV (mkU p m),I (mkE5 p m)]) [.ints true .i8 (mkP p m).zs] [⟨109,[],[.ptr 5 0 0]⟩,⟨108,[.ptr 5 0 0,.ptr 3 0 0,.ptr 4 0 0],[]⟩] (.panic [{ v:=.iface 30 (.int .i64 n),recovered:=false }]) tm hp:=by
 obtain⟨h1,h2⟩:=Jy he hn
 rw[h1,h2,he]
 exact⟨_,_,_,rfl,hent,KD lx n hn o1 o2 o3 o4 o5 o6 o7 o8 u1 u2 u3 u4 u5 u6 u7 u8 u9⟩
theorem GY{kDb:Bool}{zs:List Int}{B1 B2:O}{p:Psn}{m:Mov}{q:Psn}{x:Und}{tm:Tm}{hp:List O}(he:mkE5 p m=0)(h1:mkP p m=q)(h2:mkU p m=x)(hq:q.zs.length=zs.length)(hent:Ent (GGx true kDb) 6 tm hp [(4,.ptr 3 0 0),(5,.ptr 4 0 0),(6,.ptr 5 0 0)] [.ints false .i8 zs,B1,B2,.cells true [I q.f,I q.r,.sl 6 0 zs.length none,Bb q.bl,.int .u8 q.ca,I q.pa,I q.ha,I q.fu],.cells true [I x.m.a,I x.m.b,.int .i8 x.m.p,.int .i8 x.c,I x.at_,.int .u8 x.ca,I x.pa,I x.ha,I x.fu],.cells true [I 0],.ints true .i8 q.zs]) :
  HE (EM kDb) PP Tryz.f63 6 1 (.tup [psV 1 (mkP p m),unV (mkU p m),I (mkE5 p m)]) [.ints true .i8 (mkP p m).zs] [⟨109,[],[.ptr 5 0 0]⟩,⟨108,[.ptr 5 0 0,.ptr 3 0 0,.ptr 4 0 0],[]⟩] .ret tm hp:=by
 rw[h1,h2,he]
 exact⟨_,_,_,rfl,hent,NB q x hq⟩
theorem cL{zs:List Int}(h:zs.length<=64){n:Nat}(hn:n=zs.length){g b:Bool}(hb:b=true):(!g||(decide (n=(tk zs).length)&&decide ((tk zs).length<=64)&&b))=true:=by
 rw[aI h hn hb];simp
theorem Ou{p:Psn}(h:p.ok=true):aC p.f p.r p.zs=true/\eD p.f p.r p.zs p.ca=true:=by
 simp only[Psn.ok,Bool.and_eq_true]at h
 exact⟨h.1.1.1.1.1,h.1.1.2⟩
theorem Oy{f r a b p:Int}(h:mvB f r a b p=true):aj f r a=true/\aj f r b=true:=by
 simp only[mvB,Bool.and_eq_true]at h
 exact⟨h.1.1.1,h.1.1.2⟩
theorem Ob{f r a b:Int}(ha:aj f r a=true)(hb:aj f r b=true):aj f r (IntKind.i64.wrap (IntKind.i64.wrap (a-a.tmod f)+b.tmod f))=true/\IntKind.i64.wrap (IntKind.i64.wrap (a-a.tmod f)+b.tmod f)=px f b+py f a*f:=by
 obtain⟨_,a1,a2,a3,a4,a5,a6,a7,a8,a9⟩:=dM ha
 obtain⟨_,b1,b2,b3,b4,b5,_⟩:=dM hb
 have h1:=aL ha
 have h2:=aL hb
 have hv:=ig (X:=px f b) (Y:=py f a) (bM ha) (jC b1 b2 a3 a4)
 have h3:=aL hv.1
 have e1:IntKind.i64.wrap (a-a.tmod f)=py f a*f:=by
  have:a-a.tmod f=py f a*f:=by have:a.tmod f=px f a:=rfl;omega
  rw[this];exact ay (by omega) (by omega)
 have e2:IntKind.i64.wrap (IntKind.i64.wrap (a-a.tmod f)+b.tmod f)=px f b+py f a*f:=by
  rw[e1,show py f a*f+b.tmod f=px f b+py f a*f by have:b.tmod f=px f b:=rfl;omega]
  exact ay (by omega) (by omega)
 exact⟨by rw[e2];exact hv.1,e2⟩
theorem Ni{f r:Int}{zs:List Int}{pa a b:Int}(ha:aj f r a=true)(hb:aj f r b=true):aj f r (at1R f zs pa a b)=true:=by
 unfold at1R
 cases epB zs pa a b
 ·exact hb
 ·exact(Ob ha hb).1
theorem Nu{f r:Int}{zs:List Int}{pa a b:Int}(hbd:aC f r zs=true)(ha:aj f r a=true)(hb:aj f r b=true)(h0:0<=at2R f zs pa a b):at2R f zs pa a b<zs.length:=by
 unfold at2R at h0 ⊢
 cases h:decide (capR f zs pa a b=0) with
 |true=>rw[h]at h0;simp at h0
 |false=>exact((bN hbd).1 (Ni ha hb)).2
theorem EO{f:Int}{zs:List Int}{pa a b:Int}:(zs1R f zs pa a b).length=zs.length:=by
 unfold zs1R;cases decide (0<=at2R f zs pa a b)<;>simp
theorem sU{f:Int}{zs:List Int}{pa a b:Int}:(zs2R f zs pa a b).length=zs.length:=by
 simp[zs2R,EO]
theorem LQ{l:List Int}{bl:Bool}{b pr:Int}{c:Bool}{n:Nat}:(putR l bl b pr c n).length=l.length:=by
 unfold putR
 cases(!decide (pr=0)&&bl)<;>cases(!decide (pr=0))<;>cases c<;>simp
theorem nc{f r:Int}{zs:List Int}{bl:Bool}{ca pa a b pr:Int}:(zs3R f r zs bl ca pa a b pr).length=zs.length:=by
 rw[zs3R,LQ,sU]
theorem mL{l:List Int}{n:Nat}(h1:n=l.length)(h2:n<=64):(decide (n=((l.drop 0).take n).length)&&decide (((l.drop 0).take n).length<=64))=true:=by
 subst h1;simp[h2]
theorem oM{l:List Int}{n:Nat}{g:Bool}(h1:n=l.length)(h2:n<=64):(!g||(decide (n=((l.drop 0).take n).length)&&decide (((l.drop 0).take n).length<=64)))=true:=by
 rw[mL h1 h2];simp
theorem Gx{zs:List Int}{b:Int}(h:0<=b)(h1:b<zs.length):(decide (0<=b)&&decide (b<(tk zs).length))=true:=by rw[aF];simp[h,h1]
theorem tk_n{l:List Int}{n:Nat}(h1:n=l.length):(l.drop 0).take n=l:=by subst h1;simp
theorem kW{f r:Int}{zs:List Int}{bl:Bool}{ca a b:Int}(hbd:aC f r zs=true)(hc:eD f r zs ca=true)(hn:¬ wayN zs bl ca a b=4):is88 f r=true/\zs.length=64/\0<=wCor (wayN zs bl ca a b)/\wCor (wayN zs bl ca a b)<64/\0<=wCro (wayN zs bl ca a b)/\wCro (wayN zs bl ca a b)<64:=by
 have key:is88 f r=true:=by
  unfold wayN at hn
  simp only[eD,rtX,Bool.and_eq_true,Bool.not_eq_true']at hc
  obtain⟨⟨⟨⟨c1,c2⟩,c3⟩,c4⟩,_⟩:=hc
  cases hk:(!decide (absP (zs.getD a.toNat 0)=6)) with
  |true=>rw[hk]at hn;exact absurd rfl hn
  |false=>
   rw[hk,cond_false]at hn
   have go:∀ {bit:Int} {c:Bool} {k to:Int} {X Y:Bool},aY bl ca a b c bit k to=false->((!decide (cw ca bit=0))&&((!is88 f r||X)||Y))=false->is88 f r=true:=by
    intro bit c k to X Y h1 h2
    simp only[aY,Bool.or_eq_false_iff]at h1
    rw[h1.1.1.2]at h2
    cases h8:is88 f r with
    |true=>rfl
    |false=>rw[h8]at h2;simp at h2
   cases h1:aY bl ca a b false 1 4 6 with
   |false=>exact go h1 c1
   |true=>
    rw[h1]at hn
    cases h2:aY bl ca a b false 2 4 2 with
    |false=>exact go h2 c2
    |true=>
     rw[h2]at hn
     cases h3:aY bl ca a b true 4 60 62 with
     |false=>exact go h3 c3
     |true=>
      rw[h3]at hn
      cases h4:aY bl ca a b true 8 60 58 with
      |false=>exact go h4 c4
      |true=>rw[h4]at hn;exact absurd rfl hn
 have h4:wayN zs bl ca a b<=4:=by
  unfold wayN
  cases(!decide (absP (zs.getD a.toNat 0)=6))<;>cases(!aY bl ca a b false 1 4 6)<;>cases(!aY bl ca a b false 2 4 2)<;>cases(!aY bl ca a b true 4 60 62)<;>cases(!aY bl ca a b true 8 60 58)<;>simp
 refine⟨key,rN hbd key,?_⟩
 generalize wayN zs bl ca a b=n at h4 hn ⊢
 have:n=0\/n=1\/n=2\/n=3:=by omega
 rcases this with rfl|rfl|rfl|rfl<;>decide
theorem Io{kDb:Bool}{f r:Int}{zs:List Int}{bl:Bool}{ca pa ha fu a b pr:Int}(hc2:zs.length<=64):aJ (GGx true kDb) PP 63 [.agg [I f,I r,.sl 0 0 zs.length none,Bb bl,.int .u8 ca,I pa,I ha,I fu],.agg [I a,I b,.int .i8 pr]] [.ints false .i8 zs] (.tup [psV 1 (mkP ⟨f,r,zs,bl,ca,pa,ha,fu⟩ ⟨a,b,pr⟩),unV (mkU ⟨f,r,zs,bl,ca,pa,ha,fu⟩ ⟨a,b,pr⟩),I (mkE5 ⟨f,r,zs,bl,ca,pa,ha,fu⟩ ⟨a,b,pr⟩)]) [.ints true .i8 (mkP ⟨f,r,zs,bl,ca,pa,ha,fu⟩ ⟨a,b,pr⟩).zs]:=by
 refine BP (rest:=gq (gq (gq (Tryz.f63.body.getD .skip)))) (uG (kDb:=kDb)) 2 Tryz.func63 rfl rfl [⟨109,[],[.ptr 5 0 0]⟩,⟨108,[.ptr 5 0 0,.ptr 3 0 0,.ptr 4 0 0],[]⟩] (Q1:=fun tm hp=>tm=(13,.fn 108 [.ptr 5 0 0,.ptr 3 0 0,.ptr 4 0 0])::[(6,.ptr 5 0 0),(5,.ptr 4 0 0),(4,.ptr 3 0 0),(3,.ptr 2 0 0),(2,.ptr 1 0 0),(0,.agg [I f,I r,.sl 0 0 zs.length none,Bb bl,.int .u8 ca,I pa,I ha,I fu]),(1,.agg [I a,I b,.int .i8 pr])]/\hp=[.ints false .i8 zs,.cells true [I f,I r,.sl 0 0 zs.length none,Bb bl,.int .u8 ca,I pa,I ha,I fu],.cells true [I a,I b,.int .i8 pr],.cells true [I 0,I 0,.nils,.lit false,.int .u8 0,I 0,I 0,I 0],.cells true [I 0,I 0,.int .i8 0,.int .i8 0,I 0,.int .u8 0,I 0,I 0,I 0],.cells true [I 0]]) ?_ ?_
 ·intro B w0 S ρ aa w k Q hrel hd hrest
  refine wpIn_seq (wpIn_mono (uH (K:=(gq (Tryz.f63.body.getD .skip)).wpIn (Fr none) k PP Q) uG 2 rfl (Q2:=fun tm hp=>tm=[(6,.ptr 5 0 0),(5,.ptr 4 0 0),(4,.ptr 3 0 0),(3,.ptr 2 0 0),(2,.ptr 1 0 0),(0,.agg [I f,I r,.sl 0 0 zs.length none,Bb bl,.int .u8 ca,I pa,I ha,I fu]),(1,.agg [I a,I b,.int .i8 pr])]/\hp=[.ints false .i8 zs,.cells true [I f,I r,.sl 0 0 zs.length none,Bb bl,.int .u8 ca,I pa,I ha,I fu],.cells true [I a,I b,.int .i8 pr],.cells true [I 0,I 0,.nils,.lit false,.int .u8 0,I 0,I 0,I 0],.cells true [I 0,I 0,.int .i8 0,.int .i8 0,I 0,.int .u8 0,I 0,I 0,I 0],.cells true [I 0]]) (ag ⟨rfl,rfl⟩) hrel hd ?_) ?_)
  rotate_left
  ·rintro e a' w' ⟨rfl,h⟩;exact h
  rintro a1 w1 tm1 hp1 ρ1 r1 hd1 l1 ⟨rfl,rfl⟩
  refine wpIn_seq (wpIn_mono (qb (K:=(gq (gq (Tryz.f63.body.getD .skip))).wpIn (Fr none) k PP Q) uG 2 [_] _ [] rfl rfl rfl rfl rfl rfl (f:=108) (caps:=[.ptr 5 0 0,.ptr 3 0 0,.ptr 4 0 0]) (args:=[]) (Q2:=fun tm hp=>tm=(13,.fn 108 [.ptr 5 0 0,.ptr 3 0 0,.ptr 4 0 0])::[(6,.ptr 5 0 0),(5,.ptr 4 0 0),(4,.ptr 3 0 0),(3,.ptr 2 0 0),(2,.ptr 1 0 0),(0,.agg [I f,I r,.sl 0 0 zs.length none,Bb bl,.int .u8 ca,I pa,I ha,I fu]),(1,.agg [I a,I b,.int .i8 pr])]/\hp=[.ints false .i8 zs,.cells true [I f,I r,.sl 0 0 zs.length none,Bb bl,.int .u8 ca,I pa,I ha,I fu],.cells true [I a,I b,.int .i8 pr],.cells true [I 0,I 0,.nils,.lit false,.int .u8 0,I 0,I 0,I 0],.cells true [I 0,I 0,.int .i8 0,.int .i8 0,I 0,.int .u8 0,I 0,I 0,I 0],.cells true [I 0]]) (ag ⟨rfl,rfl,ag ⟨rfl,rfl⟩⟩) r1 hd1 ?_) ?_)
  rotate_left
  ·rintro e a' w' ⟨rfl,h⟩;exact h
  rintro a2 w2 tm2 hp2 ρ2 cus1 us1 r2 hd2 l2 hc1 hu1 ⟨rfl,rfl⟩
  refine wpIn_seq (wpIn_mono (qb (K:=(gq (gq (gq (Tryz.f63.body.getD .skip)))).wpIn (Fr none) k PP Q) uG 2 [] _ [] rfl rfl rfl rfl rfl rfl (f:=109) (caps:=[]) (args:=[.ptr 5 0 0]) (Q2:=fun tm hp=>tm=(13,.fn 108 [.ptr 5 0 0,.ptr 3 0 0,.ptr 4 0 0])::[(6,.ptr 5 0 0),(5,.ptr 4 0 0),(4,.ptr 3 0 0),(3,.ptr 2 0 0),(2,.ptr 1 0 0),(0,.agg [I f,I r,.sl 0 0 zs.length none,Bb bl,.int .u8 ca,I pa,I ha,I fu]),(1,.agg [I a,I b,.int .i8 pr])]/\hp=[.ints false .i8 zs,.cells true [I f,I r,.sl 0 0 zs.length none,Bb bl,.int .u8 ca,I pa,I ha,I fu],.cells true [I a,I b,.int .i8 pr],.cells true [I 0,I 0,.nils,.lit false,.int .u8 0,I 0,I 0,I 0],.cells true [I 0,I 0,.int .i8 0,.int .i8 0,I 0,.int .u8 0,I 0,I 0,I 0],.cells true [I 0]]) (ag ⟨rfl,rfl,ag ⟨rfl,rfl⟩⟩) r2 hd2 ?_) ?_)
  rotate_left
  ·rintro e a' w' ⟨rfl,h⟩;exact h
  rintro a3 w3 tm3 hp3 ρ3 cus2 us2 r3 hd3 l3 hc3 hu3 ⟨rfl,rfl⟩
  exact hrest _ _ _ _ _ _ r3 (Ren.le_trans l1 (Ren.le_trans l2 l3)) ⟨cus2,us2,_,rfl,hc3,hu3,cus1,us1,[],rfl,VRL.mono l3 _ _ hc1,VRL.mono l3 _ _ hu1,rfl⟩ ⟨rfl,rfl⟩
 rintro tm1 hp1 ⟨rfl,rfl⟩
 refine⟨by simp,?_⟩
 have hE:=uG (kDb:=kDb)
 repeat (first|(first|refine ah ?_|refine sat_nd ?_)|refine ae (aE ha0 ha1) ?_|refine ae (aE hb0 hb1) ?_|refine ae (aI hc2 rfl hv3) ?_|refine ae (cL hc2 rfl hv3) ?_|refine ae (aG hc2 rfl) ?_)
 refine aq (fun h=>?_) (fun h=>?_)
 ·have h:(!(Psn.ok ⟨f,r,tk zs,bl,ca,pa,ha,fu⟩)||!mvB f r a b pr)=true:=h
  rw[aF]at h
  have h:err1 ⟨f,r,zs,bl,ca,pa,ha,fu⟩ ⟨a,b,pr⟩=true:=h
  exact ag (qF (by simp only[mkE5,h,cond_true]) rfl (Ent.ren [0,1,2,3,4,5] [4,5,6] rfl rfl rfl))
 have h:(!(Psn.ok ⟨f,r,tk zs,bl,ca,pa,ha,fu⟩)||!mvB f r a b pr)=false:=h
 rw[aF]at h
 have e1:err1 ⟨f,r,zs,bl,ca,pa,ha,fu⟩ ⟨a,b,pr⟩=false:=h
 simp only[Bool.or_eq_false_iff,Bool.not_eq_false']at h
 obtain⟨hbd,hcas⟩:=Ou h.1
 obtain⟨hva,hvb⟩:=Oy h.2
 dsimp only at hbd hcas
 obtain⟨ha0,ha1⟩:=(bN hbd).1 hva
 obtain⟨hb0,hb1⟩:=(bN hbd).1 hvb
 have hv3:(aC f r (tk zs)&&aj f r a&&aj f r b)=true:=by rw[aF,hbd,hva,hvb];rfl
 have hf0:(!decide (f=0))=true:=by have:=de (bg hbd).1;simp;omega
 clear h
 repeat (first|(first|refine ah ?_|refine sat_nd ?_)|refine ae (aE ha0 ha1) ?_|refine ae (aE hb0 hb1) ?_|refine ae (aI hc2 rfl hv3) ?_|refine ae (cL hc2 rfl hv3) ?_|refine ae (aG hc2 rfl) ?_|refine ae hf0 ?_)
 refine aq (fun h=>?_) (fun h=>?_)
 ·have h:(!isP (zs.getD a.toNat 0) bl)=true:=h
  exact ag (qF (by simp only[mkE5,e1,h,cond_true,cond_false]) rfl (Ent.ren [0,1,2,3,4,5] [4,5,6] rfl rfl rfl))
 have e2:(!isP (zs.getD a.toNat 0) bl)=false:=h
 repeat (first|(first|refine ah ?_|refine sat_nd ?_)|refine ae (aE ha0 ha1) ?_|refine ae (aE hb0 hb1) ?_|refine ae (aI hc2 rfl hv3) ?_|refine ae (cL hc2 rfl hv3) ?_|refine ae (aG hc2 rfl) ?_|refine ae hf0 ?_)
 refine aq (fun h=>?_) (fun h=>?_)
 ·have h:(isP (zs.getD b.toNat 0) bl||(!iv f r (tk zs) bl pa a b pr&&(!wayB f r (tk zs) (wayN (tk zs) bl ca a b)||!decide (pr=0))))=true:=h
  rw[aF]at h
  have h:err3 ⟨f,r,zs,bl,ca,pa,ha,fu⟩ ⟨a,b,pr⟩=true:=h
  exact ag (qF (by simp only[mkE5,e1,e2,h,cond_true,cond_false]) rfl (Ent.ren [0,1,2,3,4,5] [4,5,6] rfl rfl rfl))
 have h:(isP (zs.getD b.toNat 0) bl||(!iv f r (tk zs) bl pa a b pr&&(!wayB f r (tk zs) (wayN (tk zs) bl ca a b)||!decide (pr=0))))=false:=h
 rw[aF]at h
 have e3:err3 ⟨f,r,zs,bl,ca,pa,ha,fu⟩ ⟨a,b,pr⟩=false:=h
 clear h
 repeat (first|(first|refine ah ?_|refine sat_nd ?_)|refine ae (aE ha0 ha1) ?_|refine ae (aE hb0 hb1) ?_|refine ae (aI hc2 rfl hv3) ?_|refine ae (cL hc2 rfl hv3) ?_|refine ae (aG hc2 rfl) ?_|refine ae hf0 ?_)
 refine bE hE 2 (fun e tm hp=>e=.normal/\∃ (n:Nat) (c:Bool) (at_ cap:Int),n=wayN zs bl ca a b/\c=cstR f r zs bl ca pa a b pr/\at_=at1R f zs pa a b/\cap=capR f zs pa a b/\tm=[(2,.ptr 1 0 0),(3,.ptr 2 0 0),(4,.ptr 3 0 0),(5,.ptr 4 0 0),(6,.ptr 5 0 0),(7,.int .i8 (zs.getD a.toNat 0)),(8,.ptr 6 0 0),(9,Bb c)]/\hp=[.ints false .i8 zs,.cells true [I f,I r,.sl 0 0 zs.length none,Bb bl,.int .u8 ca,I pa,I ha,I fu],.cells true [I a,I b,.int .i8 pr],.cells true [I 0,I 0,.nils,.lit false,.int .u8 0,I 0,I 0,I 0],.cells true [I a,I b,.int .i8 pr,.int .i8 cap,I at_,.int .u8 ca,I pa,I ha,I fu],.cells true [I 0],.cells true [.int .u8 (wBit n),Bb (wBl n),I (lV n),I (wTo n),I (wCor n),I (wCro n)]]) rfl (fun h=>?_) (fun h=>?_) ?_
 ·have hep:epB zs pa a b=true:=h
  have hx:=(bN hbd).1 (Ob hva hvb).1
  repeat (first|(first|refine ah ?_|refine sat_nd ?_)|refine ae hf0 ?_|refine ae (aE hx.1 hx.2) ?_)
  refine ag ⟨_,_,Ent.ren [0,1,2,3,4,5,6] [2,3,4,5,6,7,8,9] rfl rfl rfl,rfl,wayN (tk zs) bl ca a b,wayB f r (tk zs) (wayN (tk zs) bl ca a b)&&!iv f r (tk zs) bl pa a b pr,_,_,by rw[aF],by rw[aF];rfl,?_,?_,rfl,rfl⟩
  ·rw[at1R,hep];rfl
  ·rw[capR,at1R,hep];rfl
 ·have hep:epB zs pa a b=false:=h
  refine ag ⟨_,_,Ent.ren [0,1,2,3,4,5,6] [2,3,4,5,6,7,8,9] rfl rfl rfl,rfl,wayN (tk zs) bl ca a b,wayB f r (tk zs) (wayN (tk zs) bl ca a b)&&!iv f r (tk zs) bl pa a b pr,_,_,by rw[aF],by rw[aF];rfl,?_,?_,rfl,rfl⟩
  ·rw[at1R,hep];rfl
  ·rw[capR,at1R,hep];rfl
 rintro e tm hp ⟨rfl,n,c,at_,cap,hn,hcs,hat,hcap,rfl,rfl⟩
 repeat (first|(first|refine ah ?_|refine sat_nd ?_)|refine ae (aE ha0 ha1) ?_|refine ae (aE hb0 hb1) ?_|refine ae (aI hc2 rfl hv3) ?_|refine ae (cL hc2 rfl hv3) ?_|refine ae (aG hc2 rfl) ?_|refine ae hf0 ?_)
 refine bE hE 2 (fun e tm hp=>e=.normal/\∃ at2:Int,at2=at2R f zs pa a b/\tm=[(2,.ptr 1 0 0),(3,.ptr 2 0 0),(4,.ptr 3 0 0),(5,.ptr 4 0 0),(6,.ptr 5 0 0),(7,.int .i8 (zs.getD a.toNat 0)),(8,.ptr 6 0 0),(9,Bb c)]/\hp=[.ints false .i8 zs,.cells true [I f,I r,.sl 0 0 zs.length none,Bb bl,.int .u8 ca,I pa,I ha,I fu],.cells true [I a,I b,.int .i8 pr],.cells true [I 0,I 0,.nils,.lit false,.int .u8 0,I 0,I 0,I 0],.cells true [I a,I b,.int .i8 pr,.int .i8 cap,I at2,.int .u8 ca,I pa,I ha,I fu],.cells true [I 0],.cells true [.int .u8 (wBit n),Bb (wBl n),I (lV n),I (wTo n),I (wCor n),I (wCro n)]]) rfl (fun h=>?_) (fun h=>?_) ?_
 ·have h:decide (cap=0)=true:=h
  refine ag ⟨_,_,Ent.ren [0,1,2,3,4,5,6] [2,3,4,5,6,7,8,9] rfl rfl rfl,rfl,_,?_,rfl,rfl⟩
  rw[at2R,<-hcap,h];rfl
 ·have h:decide (cap=0)=false:=h
  refine ag ⟨_,_,Ent.ren [0,1,2,3,4,5,6] [2,3,4,5,6,7,8,9] rfl rfl rfl,rfl,_,?_,rfl,rfl⟩
  rw[at2R,<-hcap,h,<-hat];rfl
 rintro e tm hp ⟨rfl,at2,hat2,rfl,rfl⟩
 clear hat
 repeat (first|(first|refine ah ?_|refine sat_nd ?_)|refine ae (aE ha0 ha1) ?_|refine ae (aE hb0 hb1) ?_|refine ae (aI hc2 rfl hv3) ?_|refine ae (cL hc2 rfl hv3) ?_|refine ae (aG hc2 rfl) ?_|refine ae hf0 ?_)
 refine bE hE 2 (fun e tm hp=>e=.normal/\∃ (l:List Int) (len:Nat),l=zs1R f zs pa a b/\len=zs.length/\tm=[(2,.ptr 1 0 0),(3,.ptr 2 0 0),(4,.ptr 3 0 0),(5,.ptr 4 0 0),(6,.ptr 5 0 0),(7,.int .i8 (zs.getD a.toNat 0)),(8,.ptr 6 0 0),(9,Bb c)]/\hp=[.ints false .i8 zs,.cells true [I f,I r,.sl 0 0 zs.length none,Bb bl,.int .u8 ca,I pa,I ha,I fu],.cells true [I a,I b,.int .i8 pr],.cells true [I f,I r,.sl 7 0 len none,Bb bl,.int .u8 ca,I pa,I ha,I fu],.cells true [I a,I b,.int .i8 pr,.int .i8 cap,I at2,.int .u8 ca,I pa,I ha,I fu],.cells true [I 0],.cells true [.int .u8 (wBit n),Bb (wBl n),I (lV n),I (wTo n),I (wCor n),I (wCro n)],.ints true .i8 l]) rfl (fun h=>?_) (fun h=>?_) ?_
 ·have h:decide (0<=at2)=true:=h
  have hx:at2<zs.length:=by rw[hat2];exact Nu hbd hva hvb (by rw[<-hat2];exact of_decide_eq_true h)
  repeat (first|(first|refine ah ?_|refine sat_nd ?_)|refine ae (Gx (of_decide_eq_true h) hx) ?_)
  refine ag ⟨_,_,Ent.ren [0,1,2,3,4,5,6,7] [2,3,4,5,6,7,8,9] rfl rfl rfl,rfl,(tk zs).set at2.toNat 0,(tk zs).length,?_,by rw[aF],rfl,rfl⟩
  rw[aF,zs1R,<-hat2,h];rfl
 ·have h:decide (0<=at2)=false:=h
  refine ag ⟨_,_,Ent.ren [0,1,2,3,4,5,6,7] [2,3,4,5,6,7,8,9] rfl rfl rfl,rfl,tk zs,(tk zs).length,?_,by rw[aF],rfl,rfl⟩
  rw[aF,zs1R,<-hat2,h];rfl
 rintro e tm hp ⟨rfl,l,len,hl,hlen,rfl,rfl⟩
 have ha1:a<len:=by rw[hlen];exact ha1
 have hb1:b<len:=by rw[hlen];exact hb1
 repeat (first|(first|refine ah ?_|refine sat_nd ?_)|refine ae (aE ha0 ha1) ?_|refine ae (aE hb0 hb1) ?_|refine ae (aI hc2 rfl hv3) ?_|refine ae (cL hc2 rfl hv3) ?_|refine ae (aG hc2 rfl) ?_|refine ae hf0 ?_)
 refine bE hE 2 (fun e tm hp=>e=.normal/\∃ l3:List Int,l3=zs3R f r zs bl ca pa a b pr/\tm=[(2,.ptr 1 0 0),(3,.ptr 2 0 0),(4,.ptr 3 0 0),(5,.ptr 4 0 0),(6,.ptr 5 0 0),(7,.int .i8 (zs.getD a.toNat 0)),(8,.ptr 6 0 0),(9,Bb c)]/\hp=[.ints false .i8 zs,.cells true [I f,I r,.sl 0 0 zs.length none,Bb bl,.int .u8 ca,I pa,I ha,I fu],.cells true [I a,I b,.int .i8 pr],.cells true [I f,I r,.sl 7 0 len none,Bb bl,.int .u8 ca,I pa,I ha,I fu],.cells true [I a,I b,.int .i8 pr,.int .i8 cap,I at2,.int .u8 ca,I pa,I ha,I fu],.cells true [I 0],.cells true [.int .u8 (wBit n),Bb (wBl n),I (lV n),I (wTo n),I (wCor n),I (wCro n)],.ints true .i8 l3]) rfl (fun h=>?_) (fun h=>?_) ?_
 ·have h:(!decide (pr=0)&&bl)=true:=h
  repeat (first|(first|refine ah ?_|refine sat_nd ?_)|refine ae (aE ha0 ha1) ?_|refine ae (aE hb0 hb1) ?_|refine ae (aI hc2 rfl hv3) ?_|refine ae (cL hc2 rfl hv3) ?_|refine ae (aG hc2 rfl) ?_|refine ae hf0 ?_)
  refine ag ⟨_,_,Ent.ren [0,1,2,3,4,5,6,7] [2,3,4,5,6,7,8,9] rfl rfl rfl,rfl,_,?_,rfl,rfl⟩
  rw[zs3R,putR,zs2R,<-hl,h];rfl
 ·have h:(!decide (pr=0)&&bl)=false:=h
  refine bG hE 2 rfl (fun h2=>?_) (fun h2=>?_)
  ·have h2:(!decide (pr=0))=true:=h2
   repeat (first|(first|refine ah ?_|refine sat_nd ?_)|refine ae (aE ha0 ha1) ?_|refine ae (aE hb0 hb1) ?_|refine ae (aI hc2 rfl hv3) ?_|refine ae (cL hc2 rfl hv3) ?_|refine ae (aG hc2 rfl) ?_|refine ae hf0 ?_)
   refine ag ⟨_,_,Ent.ren [0,1,2,3,4,5,6,7] [2,3,4,5,6,7,8,9] rfl rfl rfl,rfl,_,?_,rfl,rfl⟩
   rw[zs3R,putR,zs2R,<-hl,h,h2];rfl
  ·have h2:(!decide (pr=0))=false:=h2
   refine bG hE 2 rfl (fun h3=>?_) (fun h3=>?_)
   ·have h3:c=true:=h3
    have hw:¬ n=4:=by
     intro h4
     rw[cstR,<-hn,h4]at hcs
     rw[h3]at hcs
     exact absurd hcs (by simp[wayB])
    obtain⟨_,h64,w1,w2,w3,w4⟩:=kW (a:=a) (b:=b) (bl:=bl) hbd hcas (by rw[<-hn];exact hw)
    rw[<-hn]at w1 w2 w3 w4
    have w2:wCor n<len:=by rw[hlen,h64];exact w2
    have w4:wCro n<len:=by rw[hlen,h64];exact w4
    repeat (first|(first|refine ah ?_|refine sat_nd ?_)|refine ae (aE ha0 ha1) ?_|refine ae (aE hb0 hb1) ?_|refine ae (aI hc2 rfl hv3) ?_|refine ae (cL hc2 rfl hv3) ?_|refine ae (aG hc2 rfl) ?_|refine ae hf0 ?_)
    refine ag ⟨_,_,Ent.ren [0,1,2,3,4,5,6,7] [2,3,4,5,6,7,8,9] rfl rfl rfl,rfl,_,?_,rfl,rfl⟩
    rw[zs3R,putR,zs2R,<-hl,h,h2,<-hcs,h3,<-hn];rfl
   ·have h3:c=false:=h3
    refine ag ⟨_,_,Ent.ren [0,1,2,3,4,5,6,7] [2,3,4,5,6,7,8,9] rfl rfl rfl,rfl,_,?_,rfl,rfl⟩
    rw[zs3R,putR,zs2R,<-hl,h,h2,<-hcs,h3];rfl
 clear hl
 rintro e tm hp ⟨rfl,l3,hl3,rfl,rfl⟩
 repeat (first|(first|refine ah ?_|refine sat_nd ?_)|refine ae (aE ha0 ha1) ?_|refine ae (aE hb0 hb1) ?_|refine ae (aI hc2 rfl hv3) ?_|refine ae (cL hc2 rfl hv3) ?_|refine ae (aG hc2 rfl) ?_|refine ae hf0 ?_)
 refine bE hE 2 (fun e tm hp=>e=.normal/\∃ ca2 pa2:Int,ca2=caR ca a b/\pa2=paR f zs a b/\tm=[(2,.ptr 1 0 0),(3,.ptr 2 0 0),(4,.ptr 3 0 0),(5,.ptr 4 0 0),(6,.ptr 5 0 0),(7,.int .i8 (zs.getD a.toNat 0)),(8,.ptr 6 0 0),(9,Bb c)]/\hp=[.ints false .i8 zs,.cells true [I f,I r,.sl 0 0 zs.length none,Bb bl,.int .u8 ca,I pa,I ha,I fu],.cells true [I a,I b,.int .i8 pr],.cells true [I f,I r,.sl 7 0 len none,Bb bl,.int .u8 ca2,I pa2,I ha,I fu],.cells true [I a,I b,.int .i8 pr,.int .i8 cap,I at2,.int .u8 ca,I pa,I ha,I fu],.cells true [I 0],.cells true [.int .u8 (wBit n),Bb (wBl n),I (lV n),I (wTo n),I (wCor n),I (wCro n)],.ints true .i8 l3]) rfl (fun h=>?_) (fun h=>?_) ?_
 ·have h:twoB f zs a b=true:=h
  repeat (first|(first|refine ah ?_|refine sat_nd ?_)|refine ae (aE ha0 ha1) ?_|refine ae (aE hb0 hb1) ?_|refine ae (aI hc2 rfl hv3) ?_|refine ae (cL hc2 rfl hv3) ?_|refine ae (aG hc2 rfl) ?_|refine ae hf0 ?_)
  refine ag ⟨_,_,Ent.ren [0,1,2,3,4,5,6,7] [2,3,4,5,6,7,8,9] rfl rfl rfl,rfl,_,_,rfl,?_,rfl,rfl⟩
  rw[paR,h];rfl
 ·have h:twoB f zs a b=false:=h
  refine ag ⟨_,_,Ent.ren [0,1,2,3,4,5,6,7] [2,3,4,5,6,7,8,9] rfl rfl rfl,rfl,_,_,rfl,?_,rfl,rfl⟩
  rw[paR,h];rfl
 rintro e tm hp ⟨rfl,ca2,pa2,hca2,hpa2,rfl,rfl⟩
 repeat (first|(first|refine ah ?_|refine sat_nd ?_)|refine ae (aE ha0 ha1) ?_|refine ae (aE hb0 hb1) ?_|refine ae (aI hc2 rfl hv3) ?_|refine ae (cL hc2 rfl hv3) ?_|refine ae (aG hc2 rfl) ?_|refine ae hf0 ?_)
 refine bE hE 2 (fun e tm hp=>e=.normal/\∃ ha2:Int,ha2=haR f zs pa ha a b/\tm=[(2,.ptr 1 0 0),(3,.ptr 2 0 0),(4,.ptr 3 0 0),(5,.ptr 4 0 0),(6,.ptr 5 0 0),(7,.int .i8 (zs.getD a.toNat 0)),(8,.ptr 6 0 0),(9,Bb c)]/\hp=[.ints false .i8 zs,.cells true [I f,I r,.sl 0 0 zs.length none,Bb bl,.int .u8 ca,I pa,I ha,I fu],.cells true [I a,I b,.int .i8 pr],.cells true [I f,I r,.sl 7 0 len none,Bb bl,.int .u8 ca2,I pa2,I ha2,I fu],.cells true [I a,I b,.int .i8 pr,.int .i8 cap,I at2,.int .u8 ca,I pa,I ha,I fu],.cells true [I 0],.cells true [.int .u8 (wBit n),Bb (wBl n),I (lV n),I (wTo n),I (wCor n),I (wCro n)],.ints true .i8 l3]) rfl (fun h=>?_) (fun h=>?_) ?_
 ·have h:(decide (absP (zs.getD a.toNat 0)=1)||!decide (cap=0))=true:=h
  refine ag ⟨_,_,Ent.ren [0,1,2,3,4,5,6,7] [2,3,4,5,6,7,8,9] rfl rfl rfl,rfl,_,?_,rfl,rfl⟩
  rw[haR,<-hcap,h];rfl
 ·have h:(decide (absP (zs.getD a.toNat 0)=1)||!decide (cap=0))=false:=h
  refine ag ⟨_,_,Ent.ren [0,1,2,3,4,5,6,7] [2,3,4,5,6,7,8,9] rfl rfl rfl,rfl,_,?_,rfl,rfl⟩
  rw[haR,<-hcap,h];rfl
 rintro e tm hp ⟨rfl,ha2,hha2,rfl,rfl⟩
 repeat (first|(first|refine ah ?_|refine sat_nd ?_)|refine ae (aE ha0 ha1) ?_|refine ae (aE hb0 hb1) ?_|refine ae (aI hc2 rfl hv3) ?_|refine ae (cL hc2 rfl hv3) ?_|refine ae (aG hc2 rfl) ?_|refine ae hf0 ?_)
 refine bE hE 2 (fun e tm hp=>e=.normal/\∃ fu2:Int,fu2=fuR bl fu/\tm=[(2,.ptr 1 0 0),(3,.ptr 2 0 0),(4,.ptr 3 0 0),(5,.ptr 4 0 0),(6,.ptr 5 0 0),(7,.int .i8 (zs.getD a.toNat 0)),(8,.ptr 6 0 0),(9,Bb c)]/\hp=[.ints false .i8 zs,.cells true [I f,I r,.sl 0 0 zs.length none,Bb bl,.int .u8 ca,I pa,I ha,I fu],.cells true [I a,I b,.int .i8 pr],.cells true [I f,I r,.sl 7 0 len none,Bb bl,.int .u8 ca2,I pa2,I ha2,I fu2],.cells true [I a,I b,.int .i8 pr,.int .i8 cap,I at2,.int .u8 ca,I pa,I ha,I fu],.cells true [I 0],.cells true [.int .u8 (wBit n),Bb (wBl n),I (lV n),I (wTo n),I (wCor n),I (wCro n)],.ints true .i8 l3]) rfl (fun h=>?_) (fun h=>?_) ?_
 ·have h:bl=true:=h
  refine ag ⟨_,_,Ent.ren [0,1,2,3,4,5,6,7] [2,3,4,5,6,7,8,9] rfl rfl rfl,rfl,_,?_,rfl,rfl⟩
  rw[fuR,h];rfl
 ·have h:bl=false:=h
  refine ag ⟨_,_,Ent.ren [0,1,2,3,4,5,6,7] [2,3,4,5,6,7,8,9] rfl rfl rfl,rfl,_,?_,rfl,rfl⟩
  rw[fuR,h];rfl
 rintro e tm hp ⟨rfl,fu2,hfu2,rfl,rfl⟩
 have hl3n:len=l3.length:=by rw[hl3,nc,hlen]
 have hl64:len<=64:=by rw[hlen];exact hc2
 repeat (first|(first|refine ah ?_|refine sat_nd ?_)|refine ae (aE ha0 ha1) ?_|refine ae (aE hb0 hb1) ?_|refine ae (aI hc2 rfl hv3) ?_|refine ae (cL hc2 rfl hv3) ?_|refine ae (aG hc2 rfl) ?_|refine ae hf0 ?_|refine ae (mL hl3n hl64) ?_|refine ae (oM hl3n hl64) ?_)
 refine aq (fun h=>?_) (fun h=>?_)
 ·have h:(chkB f r ((l3.drop 0).take len) bl||(c&&(chkB f r (tk zs) bl||!decide ((dA f r (tk zs) (wCro n) (!bl)).1=0))))=true:=h
  rw[aF,tk_n hl3n,hl3,hcs,hn]at h
  have h:err4 ⟨f,r,zs,bl,ca,pa,ha,fu⟩ ⟨a,b,pr⟩=true:=h
  exact ag (uZ (by simp only[mkE5,e1,e2,e3,h,cond_true,cond_false]) rfl (Ent.ren [0,1,2,3,4,5,7] [4,5,6] rfl rfl rfl))
 have h:(chkB f r ((l3.drop 0).take len) bl||(c&&(chkB f r (tk zs) bl||!decide ((dA f r (tk zs) (wCro n) (!bl)).1=0))))=false:=h
 rw[aF,tk_n hl3n,hl3,hcs,hn]at h
 have e4:err4 ⟨f,r,zs,bl,ca,pa,ha,fu⟩ ⟨a,b,pr⟩=false:=h
 clear h
 repeat (first|(first|refine ah ?_|refine sat_nd ?_)|refine ae (aE ha0 ha1) ?_|refine ae (aE hb0 hb1) ?_|refine ae (aI hc2 rfl hv3) ?_|refine ae (cL hc2 rfl hv3) ?_|refine ae (aG hc2 rfl) ?_|refine ae hf0 ?_|refine ae (mL hl3n hl64) ?_|refine ae (oM hl3n hl64) ?_)
 refine aq (fun h=>?_) (fun h=>?_)
 ·have h:(decide (10000<ha2)||decide (10000<fu2))=true:=h
  rw[hha2,hfu2]at h
  have h:err5 ⟨f,r,zs,bl,ca,pa,ha,fu⟩ ⟨a,b,pr⟩=true:=h
  exact ag (uZ (by simp only[mkE5,e1,e2,e3,e4,h,cond_true,cond_false]) rfl (Ent.ren [0,1,2,3,4,5,7] [4,5,6] rfl rfl rfl))
 have h:(decide (10000<ha2)||decide (10000<fu2))=false:=h
 rw[hha2,hfu2]at h
 have e5:err5 ⟨f,r,zs,bl,ca,pa,ha,fu⟩ ⟨a,b,pr⟩=false:=h
 clear h
 repeat (first|(first|refine ah ?_|refine sat_nd ?_)|refine ae (aE ha0 ha1) ?_|refine ae (aE hb0 hb1) ?_|refine ae (aI hc2 rfl hv3) ?_|refine ae (cL hc2 rfl hv3) ?_|refine ae (aG hc2 rfl) ?_|refine ae hf0 ?_|refine ae (mL hl3n hl64) ?_|refine ae (oM hl3n hl64) ?_)
 have he:mkE5 ⟨f,r,zs,bl,ca,pa,ha,fu⟩ ⟨a,b,pr⟩=0:=by simp only[mkE5,e1,e2,e3,e4,e5,cond_false]
 subst hlen
 exact ag (GY (q:=⟨f,r,l3,!bl,ca2,pa2,ha2,fu2⟩) (x:=⟨⟨a,b,pr⟩,cap,at2,ca,pa,ha,fu⟩) he (by rw[mkP,he,hl3,hca2,hpa2,hha2,hfu2];rfl) (by rw[mkU,he,hcap,hat2];rfl) hl3n.symm (Ent.ren [0,1,2,3,4,5,7] [4,5,6] rfl rfl rfl))
def zP:CF
 |[.agg [.int .i64 f,.int .i64 r,.sl 0 0 len none,.bool bl,.int .u8 ca,.int .i64 pa,.int .i64 ha,.int .i64 fu],.agg [.int .i64 a,.int .i64 b,.int .i8 pr]],[.ints false .i8 zs]=>some (decide (len=zs.length)&&decide (zs.length<=64),.tup [psV 1 (mkP ⟨f,r,zs,bl,ca,pa,ha,fu⟩ ⟨a,b,pr⟩),unV (mkU ⟨f,r,zs,bl,ca,pa,ha,fu⟩ ⟨a,b,pr⟩),I (mkE5 ⟨f,r,zs,bl,ca,pa,ha,fu⟩ ⟨a,b,pr⟩)],[.ints true .i8 (mkP ⟨f,r,zs,bl,ca,pa,ha,fu⟩ ⟨a,b,pr⟩).zs])
 |_,_=>none
theorem uP:CtOk (GGx true kDb) PP (63,zP):=by
 refine aD Tryz.func63 (by kernel_rfl) rfl fun a0 h0 c0 v0 N0 e hc=>?_
 unfold zP at e
 split at e
 ·rename_i f r len bl ca pa ha fu a b pr zs
  cases e
  simp only[Bool.and_eq_true,decide_eq_true_eq]at hc
  obtain⟨rfl,hc2⟩:=hc
  exact Io hc2
 ·cases e
end
end Go.Ab
