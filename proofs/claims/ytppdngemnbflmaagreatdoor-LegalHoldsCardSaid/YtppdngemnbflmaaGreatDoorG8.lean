/- Contracts of the functions that the laws reach, and plain laws of what they compute (text G8); no condition. -/
import Derived.Test.YtppdngemnbflmaaGreatDoorG7
import Derived.Test.YtppdngemnbflmaaGreatDoorG4
import Derived.Test.YtppdngemnbflmaaGreatDoorG5
set_option maxRecDepth 100000
namespace Go.Ab
open IntKind
open Go.Proofs
section
variable{kCa kDb:Bool}
theorem AA{C:Int->Bool}{l:List Int}{j:Nat}(h:j<l.length):(bif C (l.getD j 0) then(l.take j).filter C++[l.getD j 0] else(l.take j).filter C)=(l.take (j+1)).filter C:=by
 have e:l.getD j 0=l[j]:=by simp[List.getD,h]
 rw[e,List.take_succ_eq_append_getElem h,List.filter_append]
 cases hc:C l[j]<;>simp[hc]
def aU(p:Int):Int:=bif decide (p<0)then w8 (0-p)else p
def sdI(bl:Bool):Int:=bif bl then -1 else 1
def wq(zs:List Int)(s i:Int):Bool:=decide (sgn (zs.getD i.toNat 0)=s)
def cm(zs:List Int)(s:Int):List Int:=cn (wq zs s) id zs.length
def occL(zs:List Int):Int:=ofL (cm zs 1++cm zs (-1)) 0
def iM(zs:List Int)(p i:Int):Bool:=decide (zs.getD i.toNat 0=p)
def gQ(zs:List Int)(p:Int):List Int:=cn (iM zs p) id zs.length
def dW(f r:Int)(zs:List Int)(i to occ:Int):Bool:=bif decide (aU (zs.getD i.toNat 0)=1)then hasL to (cn (dU f (decide (zs.getD i.toNat 0<0)) i) id (f*r).toNat)else !decide (i=to)&&aQ f r (aU (zs.getD i.toNat 0)) i to occ
def zl(f r:Int)(zs:List Int)(to occ i:Int):Bool:=dW f r zs i to occ
def attL(f r:Int)(zs:List Int)(to:Int)(bl:Bool):List Int:=(cm zs (sdI bl)).filter (zl f r zs to (occL zs))
def aH(zs:List Int)(bl:Bool):Int:=bif decide (((gQ zs (w8 (i64.wrap (6*sdI bl)))).length:Int)=1) then(gQ zs (w8 (i64.wrap (6*sdI bl)))).getD 0 0 else -1
theorem gL(zs:List Int)(s:Int):(cm zs s).length<=zs.length:=gG _ _ _
theorem cU{zs:List Int}{s x:Int}:x∈cm zs s↔0<=x/\x<zs.length/\sgn (zs.getD x.toNat 0)=s:=by
 unfold cm
 rw[bI]
 simp[wq]
theorem qg{f r:Int}{zs:List Int}:(vsB f r&&decide ((zs.length:Int)=i64.wrap (f*r))&&zs.all okP)=aI f r zs:=by
 unfold aI cntR
 cases vsB f r
 ·simp
 ·simp[badP,List.any_eq_not_all_not]
theorem wL{f r:Int}{zs:List Int}:(aI f r zs&&zs.all (fun p=>!norP p))=aD f r zs:=by
 unfold aD
 simp[List.any_eq_not_all_not]
def wu:CF
 |[.int .i8 p],[]=>some (true,.bool (okP p),[])
 |_,_=>none
theorem zL:CtOk (GGx kCa kDb) PP (90,wu):=by
 refine aE Tryz.func90 (by kernel_rfl) rfl fun a0 h0 c0 v0 N0 e hc=>?_
 unfold wu at e
 split at e
 ·rename_i p
  cases e
  have hE:=aC (kCa:=kCa) (kDb:=kDb) (cts:=[]) (inl:=[]) trivial trivial
  refine av hE 2 Tryz.func90 rfl rfl ?_
  repeat' first|(first|refine ah ?_|refine sat_nd ?_)|refine aq (fun h=>?_) (fun h=>?_)
  all_goals exact ae (aj (.inr rfl) rfl rfl rfl (by first|rfl|(simp only[*,cond_true,cond_false];done)|(simp only[*,cond_true,cond_false,Bool.not_true,Bool.not_false,Bool.and_true,Bool.true_and,Bool.and_false,Bool.false_and,Bool.or_true,Bool.true_or,Bool.or_false,Bool.false_or];done)|simp_all []))
 ·cases e
def qs:CF
 |[.int .i8 p],[]=>some (true,.bool (orP p),[])
 |_,_=>none
theorem vh:CtOk (GGx kCa kDb) PP (47,qs):=by
 refine aE Tryz.func47 (by kernel_rfl) rfl fun a0 h0 c0 v0 N0 e hc=>?_
 unfold qs at e
 split at e
 ·rename_i p
  cases e
  have hE:=aC (kCa:=kCa) (kDb:=kDb) (cts:=[]) (inl:=[]) trivial trivial
  refine av hE 2 Tryz.func47 rfl rfl ?_
  repeat' first|(first|refine ah ?_|refine sat_nd ?_)|refine aq (fun h=>?_) (fun h=>?_)
  all_goals exact ae (aj (.inr rfl) rfl rfl rfl (by first|rfl|(simp only[*,cond_true,cond_false];done)|(simp only[*,cond_true,cond_false,Bool.not_true,Bool.not_false,Bool.and_true,Bool.true_and,Bool.and_false,Bool.false_and,Bool.or_true,Bool.true_or,Bool.or_false,Bool.false_or];done)|simp_all []))
 ·cases e
def qS:CF
 |[.int .i8 p],[]=>some (true,.int .i64 (sgn p),[])
 |_,_=>none
theorem vV:CtOk (GGx kCa kDb) PP (131,qS):=by
 refine aE Tryz.func131 (by kernel_rfl) rfl fun a0 h0 c0 v0 N0 e hc=>?_
 unfold qS at e
 split at e
 ·rename_i p
  cases e
  have hE:=aC (kCa:=kCa) (kDb:=kDb) (cts:=[]) (inl:=[]) trivial trivial
  refine av hE 2 Tryz.func131 rfl rfl ?_
  repeat' first|(first|refine ah ?_|refine sat_nd ?_)|refine aq (fun h=>?_) (fun h=>?_)
  all_goals exact ae (aj (.inr rfl) rfl rfl rfl (by first|rfl|(simp only[sgn, *,cond_true,cond_false];done)|(simp only[sgn, *,cond_true,cond_false,Bool.not_true,Bool.not_false,Bool.and_true,Bool.true_and,Bool.and_false,Bool.false_and,Bool.or_true,Bool.true_or,Bool.or_false,Bool.false_or];done)|simp_all [sgn]))
 ·cases e
def mA:CF
 |[.int .i8 p],[]=>some (true,.int .i8 (aU p),[])
 |_,_=>none
theorem nF:CtOk (GGx kCa kDb) PP (21,mA):=by
 refine aE Tryz.func21 (by kernel_rfl) rfl fun a0 h0 c0 v0 N0 e hc=>?_
 unfold mA at e
 split at e
 ·rename_i p
  cases e
  have hE:=aC (kCa:=kCa) (kDb:=kDb) (cts:=[]) (inl:=[]) trivial trivial
  refine av hE 2 Tryz.func21 rfl rfl ?_
  repeat' first|(first|refine ah ?_|refine sat_nd ?_)|refine aq (fun h=>?_) (fun h=>?_)
  all_goals exact ae (aj (.inr rfl) rfl rfl rfl (by first|rfl|(simp only[aU, *,cond_true,cond_false];done)|(simp only[aU, *,cond_true,cond_false,Bool.not_true,Bool.not_false,Bool.and_true,Bool.true_and,Bool.and_false,Bool.false_and,Bool.or_true,Bool.true_or,Bool.or_false,Bool.false_or];done)|simp_all [aU]))
 ·cases e
def qo:CF
 |[.bool bl],[]=>some (true,.int .i64 (sdI bl),[])
 |_,_=>none
theorem qf:CtOk (GGx kCa kDb) PP (49,qo):=by
 refine aE Tryz.func49 (by kernel_rfl) rfl fun a0 h0 c0 v0 N0 e hc=>?_
 unfold qo at e
 split at e
 ·rename_i bl
  cases e
  have hE:=aC (kCa:=kCa) (kDb:=kDb) (cts:=[]) (inl:=[]) trivial trivial
  refine av hE 2 Tryz.func49 rfl rfl ?_
  repeat' first|(first|refine ah ?_|refine sat_nd ?_)|refine aq (fun h=>?_) (fun h=>?_)
  all_goals exact ae (aj (.inr rfl) rfl rfl rfl (by first|rfl|(simp only[sdI, *,cond_true,cond_false];done)|(simp only[sdI, *,cond_true,cond_false,Bool.not_true,Bool.not_false,Bool.and_true,Bool.true_and,Bool.and_false,Bool.false_and,Bool.or_true,Bool.true_or,Bool.or_false,Bool.false_or];done)|simp_all [sdI]))
 ·cases e
def CA:CF
 |[.sl 0 0 len none,.int .i64 n],[.ints false .i64 zs]=>some (decide (len=zs.length)&&decide (zs.length<=1000000),.bool (hasL n zs),[])
 |_,_=>none
theorem Dy:CtOk (GGx kCa kDb) PP (133,CA):=by
 refine aE Tryz.func133 (by kernel_rfl) rfl fun a0 h0 c0 v0 N0 e hc=>?_
 unfold CA at e
 split at e
 ·rename_i len n zs
  cases e
  have hE:=aC (kCa:=kCa) (kDb:=kDb) (cts:=[]) (inl:=[]) trivial trivial
  refine av hE 2 Tryz.func133 rfl rfl ?_
  simp only[Bool.and_eq_true,decide_eq_true_eq]at hc
  obtain⟨rfl,hc2⟩:=hc
  refine bU hE 2 (fun i (_:Unit)=>([(0,.sl 0 0 zs.length none),(1,I n),(5,I i)],[.ints false .i64 zs])) zs.length (fun j _=>hasL n (zs.drop j)=hasL n zs) () (by omega) (Ent.ren [0] [0,1,5] rfl rfl rfl) rfl ?_
  intro j i _ hij hj hz
  refine aq (fun hlt=>?_) (fun hlt=>?_)
  ·have hlt':j<zs.length:=by simp at hlt;omega
   rw[Cf hlt',show j=i.toNat by omega]at hz
   refine ag (by simp;omega) ?_
   repeat (first|refine ah ?_|refine sat_nd ?_)
   refine aq (fun hon=>?_) (fun hon=>?_)
   ·have hon:decide (zs.getD i.toNat 0=n)=true:=hon
    rw[hon]at hz
    exact ae (ae (aj (.inr rfl) rfl rfl rfl (by rw[<-hz];rfl)))
   ·have hon:decide (zs.getD i.toNat 0=n)=false:=hon
    rw[hon]at hz
    exact ae ⟨hlt',(),by rw[<-hz,show i.toNat=j by omega];rfl,Ent.ren [0] [0,1,5] rfl rfl rfl⟩
  ·obtain rfl:j=zs.length:=by simp at hlt;omega
   rw[List.drop_length]at hz
   exact ae (ae (aj (.inr rfl) rfl rfl rfl (by rw[<-hz];rfl)))
 ·cases e
def nnP(p:Int):Bool:=!norP p
def nC:CF
 |[.agg [.int .i64 f,.int .i64 r,.sl 0 0 len none]],[.ints false .i8 zs]=>some (decide (len=zs.length)&&decide (zs.length<=64),.bool (aI f r zs),[])
 |_,_=>none
theorem uH:CtOk (GGx kCa kDb) PP (46,nC):=by
 refine aE Tryz.func46 (by kernel_rfl) rfl fun a0 h0 c0 v0 N0 e hc=>?_
 unfold nC at e
 split at e
 ·rename_i f r len zs
  cases e
  have hE:=aC (kCa:=kCa) (kDb:=kDb) (cts:=[(89,xJ),(90,wu)]) (inl:=[]) ⟨uF,zL,trivial⟩ trivial
  refine av hE 2 Tryz.func46 rfl rfl ?_
  simp only[Bool.and_eq_true,decide_eq_true_eq]at hc
  obtain⟨rfl,hc2⟩:=hc
  repeat (first|refine ah ?_|refine sat_nd ?_)
  refine aq (fun h=>?_) (fun h=>?_)
  ·have h:(vsB f r&&decide ((zs.length:Int)=i64.wrap (f*r)))=false:=by
    have h:(!vsB f r||!decide ((zs.length:Int)=i64.wrap (f*r)))=true:=h
    cases h1:vsB f r<;>cases h2:decide ((zs.length:Int)=i64.wrap (f*r))<;>simp_all
   exact ae (aj (.inr rfl) rfl rfl rfl (by rw[<-qg,h];rfl))
  have h:(vsB f r&&decide ((zs.length:Int)=i64.wrap (f*r)))=true:=by
   have h:(!vsB f r||!decide ((zs.length:Int)=i64.wrap (f*r)))=false:=h
   cases h1:vsB f r<;>cases h2:decide ((zs.length:Int)=i64.wrap (f*r))<;>simp_all
  refine bU hE 2 (fun i (_:Unit)=>([(1,.ptr 1 0 0),(3,I i)],[.ints false .i8 zs,.cells true [I f,I r,.sl 0 0 zs.length none]])) zs.length (fun j _=>(zs.drop j).all okP=zs.all okP) () (by omega) (Ent.ren [0,1] [1,3] rfl rfl rfl) rfl ?_
  intro j i _ hij hj hz
  refine aq (fun hlt=>?_) (fun hlt=>?_)
  ·have hlt':j<zs.length:=by simp at hlt;omega
   rw[xZ hlt',show j=i.toNat by omega]at hz
   refine ag (by simp;omega) ?_
   repeat (first|(first|refine ah ?_|refine sat_nd ?_)|refine ag (by simp;omega) ?_)
   refine aq (fun hon=>?_) (fun hon=>?_)
   ·have hon:(!okP (zs.getD i.toNat 0))=true:=hon
    have hon:okP (zs.getD i.toNat 0)=false:=by simpa using hon
    rw[hon]at hz
    exact ae (ae (aj (.inr rfl) rfl rfl rfl (by rw[<-qg,h,<-hz];rfl)))
   ·have hon:(!okP (zs.getD i.toNat 0))=false:=hon
    have hon:okP (zs.getD i.toNat 0)=true:=by simpa using hon
    rw[hon]at hz
    exact ae ⟨hlt',(),by rw[<-hz,show i.toNat=j by omega];rfl,Ent.ren [0,1] [1,3] rfl rfl rfl⟩
  ·obtain rfl:j=zs.length:=by simp at hlt;omega
   rw[List.drop_length]at hz
   have hz:zs.all okP=true:=hz.symm
   exact ae (ae (aj (.inr rfl) rfl rfl rfl (by rw[<-qg,h,hz];rfl)))
 ·cases e
def ve:CF
 |[.agg [.int .i64 f,.int .i64 r,.sl 0 0 len none]],[.ints false .i8 zs]=>some (decide (len=zs.length)&&decide (zs.length<=64),.bool (aD f r zs),[])
 |_,_=>none
theorem zJ:CtOk (GGx kCa kDb) PP (18,ve):=by
 refine aE Tryz.func18 (by kernel_rfl) rfl fun a0 h0 c0 v0 N0 e hc=>?_
 unfold ve at e
 split at e
 ·rename_i f r len zs
  cases e
  have hE:=aC (kCa:=kCa) (kDb:=kDb) (cts:=[(46,nC),(47,qs)]) (inl:=[]) ⟨uH,vh,trivial⟩ trivial
  refine av hE 2 Tryz.func18 rfl rfl ?_
  simp only[Bool.and_eq_true,decide_eq_true_eq]at hc
  obtain⟨rfl,hc2⟩:=hc
  repeat (first|refine ah ?_|refine sat_nd ?_)
  refine aq (fun h=>?_) (fun h=>?_)
  ·have h:aI f r zs=false:=by simpa using h
   exact ae (aj (.inr rfl) rfl rfl rfl (by rw[<-wL,h];rfl))
  have h:aI f r zs=true:=by simpa using h
  refine bU hE 2 (fun i (_:Unit)=>([(1,.ptr 1 0 0),(3,I i)],[.ints false .i8 zs,.cells true [I f,I r,.sl 0 0 zs.length none]])) zs.length (fun j _=>(zs.drop j).all nnP=zs.all nnP) () (by omega) (Ent.ren [0,1] [1,3] rfl rfl rfl) rfl ?_
  intro j i _ hij hj hz
  refine aq (fun hlt=>?_) (fun hlt=>?_)
  ·have hlt':j<zs.length:=by simp at hlt;omega
   rw[xZ hlt',show j=i.toNat by omega]at hz
   refine ag (by simp;omega) ?_
   repeat (first|(first|refine ah ?_|refine sat_nd ?_)|refine ag (by simp;omega) ?_)
   refine aq (fun hon=>?_) (fun hon=>?_)
   ·have hon:(!nnP (zs.getD i.toNat 0))=true:=(Bool.not_not _).trans hon
    have hon:nnP (zs.getD i.toNat 0)=false:=by simpa using hon
    rw[hon]at hz
    exact ae (ae (aj (.inr rfl) rfl rfl rfl (by rw[<-wL,h,show zs.all (fun p=>!norP p)=zs.all nnP from rfl,<-hz];rfl)))
   ·have hon:(!nnP (zs.getD i.toNat 0))=false:=(Bool.not_not _).trans hon
    have hon:nnP (zs.getD i.toNat 0)=true:=by simpa using hon
    rw[hon]at hz
    exact ae ⟨hlt',(),by rw[<-hz,show i.toNat=j by omega];rfl,Ent.ren [0,1] [1,3] rfl rfl rfl⟩
  ·obtain rfl:j=zs.length:=by simp at hlt;omega
   rw[List.drop_length]at hz
   have hz:zs.all nnP=true:=hz.symm
   exact ae (ae (aj (.inr rfl) rfl rfl rfl (by rw[<-wL,h,show zs.all (fun p=>!norP p)=zs.all nnP from rfl,hz];rfl)))
 ·cases e
def yy:CF
 |[.agg [.int .i64 _f,.int .i64 _r,.sl 0 0 len none],.int .i64 s],[.ints false .i8 zs]=>some (decide (len=zs.length)&&decide (zs.length<=64),.sl 1 0 (cm zs s).length none,[.ints true .i64 (cm zs s)])
 |_,_=>none
theorem tQ:CtOk (GGx kCa kDb) PP (91,yy):=by
 refine aE Tryz.func91 (by kernel_rfl) rfl fun a0 h0 c0 v0 N0 e hc=>?_
 unfold yy at e
 split at e
 ·rename_i f r len s zs
  cases e
  have hE:=aC (kCa:=kCa) (kDb:=kDb) (cts:=[(131,qS)]) (inl:=[]) ⟨vV,trivial⟩ trivial
  refine av hE 2 Tryz.func91 rfl rfl ?_
  simp only[Bool.and_eq_true,decide_eq_true_eq]at hc
  obtain⟨rfl,hc2⟩:=hc
  refine bU hE 2 (fun(i:Int) (ys:List Int)=>([(1,I s),(2,.ptr 1 0 0),(5,.sl 2 0 ys.length none),(6,I i)],[.ints false .i8 zs,.cells true [I f,I r,.sl 0 0 zs.length none],.ints true .i64 ys])) (zs.length) (fun j ys=>ys=cn (wq zs s) id j) [] (by omega) ((Ent.phanT (t:=5) (o:=.ints true .i64 []) rfl ⟨by simp,by simp,trivial,rfl⟩ (aG rfl)).trans (Ent.ren [0,1,2] [1,2,5,6] rfl rfl rfl)) rfl ?_
  intro j i ys hij hj hz
  have hb:=gG (wq zs s) id j
  rw[<-hz]at hb
  refine aq (fun hlt=>?_) (fun hlt=>?_)
  ·have hlt':j<zs.length:=by simp only[decide_eq_true_eq]at hlt;omega
   have hs:=fG (wq zs s) id j
   rw[<-hz,<-hij]at hs
   repeat (first|(first|refine ah ?_|refine sat_nd ?_)|refine ag (by simp;omega) ?_)
   refine aq (fun hon=>?_) (fun hon=>?_)
   ·skip
    have hon:wq zs s i=true:=hon
    rw[hon,cond_true]at hs
    refine ag (b:=decide (ys.length=ys.length)&&decide ((ys.length+1)*8<=140737488355328)&&true) (by simp;omega) ?_
    exact ae ⟨hlt',ys++[id i],hs.symm,Ent.ren [0,1,4] [1,2,5,6] rfl rfl rfl⟩
   ·skip
    have hon:wq zs s i=false:=hon
    rw[hon,cond_false]at hs
    exact ae ⟨hlt',ys,hs.symm,Ent.ren [0,1,2] [1,2,5,6] rfl rfl rfl⟩
  ·obtain rfl:j=zs.length:=by simp only[decide_eq_false_iff_not]at hlt;omega
   subst hz
   refine ae (ae ((cC 2 (.inr rfl) rfl rfl rfl rfl rfl rfl)))
 ·cases e
def vY:CF
 |[.agg [.int .i64 _f,.int .i64 _r,.sl 0 0 len none],.int .i8 p],[.ints false .i8 zs]=>some (decide (len=zs.length)&&decide (zs.length<=64),.sl 1 0 (gQ zs p).length none,[.ints true .i64 (gQ zs p)])
 |_,_=>none
theorem za:CtOk (GGx kCa kDb) PP (48,vY):=by
 refine aE Tryz.func48 (by kernel_rfl) rfl fun a0 h0 c0 v0 N0 e hc=>?_
 unfold vY at e
 split at e
 ·rename_i f r len p zs
  cases e
  have hE:=aC (kCa:=kCa) (kDb:=kDb) (cts:=[]) (inl:=[]) trivial trivial
  refine av hE 2 Tryz.func48 rfl rfl ?_
  simp only[Bool.and_eq_true,decide_eq_true_eq]at hc
  obtain⟨rfl,hc2⟩:=hc
  refine bU hE 2 (fun(i:Int) (ys:List Int)=>([(1,.int .i8 p),(2,.ptr 1 0 0),(5,.sl 2 0 ys.length none),(6,I i)],[.ints false .i8 zs,.cells true [I f,I r,.sl 0 0 zs.length none],.ints true .i64 ys])) (zs.length) (fun j ys=>ys=cn (iM zs p) id j) [] (by omega) ((Ent.phanT (t:=5) (o:=.ints true .i64 []) rfl ⟨by simp,by simp,trivial,rfl⟩ (aG rfl)).trans (Ent.ren [0,1,2] [1,2,5,6] rfl rfl rfl)) rfl ?_
  intro j i ys hij hj hz
  have hb:=gG (iM zs p) id j
  rw[<-hz]at hb
  refine aq (fun hlt=>?_) (fun hlt=>?_)
  ·have hlt':j<zs.length:=by simp only[decide_eq_true_eq]at hlt;omega
   have hs:=fG (iM zs p) id j
   rw[<-hz,<-hij]at hs
   repeat (first|(first|refine ah ?_|refine sat_nd ?_)|refine ag (by simp;omega) ?_)
   refine aq (fun hon=>?_) (fun hon=>?_)
   ·skip
    have hon:iM zs p i=true:=hon
    rw[hon,cond_true]at hs
    refine ag (b:=decide (ys.length=ys.length)&&decide ((ys.length+1)*8<=140737488355328)&&true) (by simp;omega) ?_
    exact ae ⟨hlt',ys++[id i],hs.symm,Ent.ren [0,1,4] [1,2,5,6] rfl rfl rfl⟩
   ·skip
    have hon:iM zs p i=false:=hon
    rw[hon,cond_false]at hs
    exact ae ⟨hlt',ys,hs.symm,Ent.ren [0,1,2] [1,2,5,6] rfl rfl rfl⟩
  ·obtain rfl:j=zs.length:=by simp only[decide_eq_false_iff_not]at hlt;omega
   subst hz
   refine ae (ae ((cC 2 (.inr rfl) rfl rfl rfl rfl rfl rfl)))
 ·cases e
end
end Go.Ab
namespace Go.Ab
open Go.Proofs
section
variable{kCa kDb:Bool}
theorem nf(l:List Int):(tk l).length=l.length:=by rw[aL]
theorem CM(l m:List Int)(h:l.length<=1000000)(h2:m.length<=1000000)(b:Bool)(hb:b=true):(decide ((tk l).length=(tk l).length)&&decide (((tk l).length+m.length)*8<=140737488355328)&&b)=true:=by rw[nf,hb];simp;omega
theorem FV(zs:List Int)(h:zs.length<=64){L:List Int}{n:Nat}(hL:L=cm zs 1++cm zs (-1))(hn:n=L.length):(decide (n=((L.drop 0).take n).length)&&decide (((L.drop 0).take n).length<=1000000)&&((L.drop 0).take n).all fun x=>decide (0<=x))=true:=by
 subst hn
 have e:(L.drop 0).take L.length=L:=by simp
 rw[e]
 have h1:=gL zs 1
 have h2:=gL zs (-1)
 have h3:L.length<=1000000:=by rw[hL,List.length_append];omega
 simp only[decide_true,Bool.true_and,Bool.and_eq_true,decide_eq_true_eq,List.all_eq_true]
 refine⟨h3,fun x hx=>?_⟩
 rw[hL]at hx
 rcases List.mem_append.1 hx with hx|hx<;>exact(cU.1 hx).1
def Ib:CF
 |[.agg [.int .i64 _f,.int .i64 _r,.sl 0 0 len none]],[.ints false .i8 zs]=>some (decide (len=zs.length)&&decide (zs.length<=64),.int .u64 (occL zs),[])
 |_,_=>none
theorem Ek:CtOk (GGx kCa kDb) PP (92,Ib):=by
 refine aE Tryz.func92 (by kernel_rfl) rfl fun a0 h0 c0 v0 N0 e hc=>?_
 unfold Ib at e
 split at e
 ·rename_i f r len zs
  cases e
  have hE:=aC (kCa:=kCa) (kDb:=kDb) (cts:=[(91,yy),(132,c_Of)]) (inl:=[]) ⟨tQ,HK,trivial⟩ trivial
  refine av hE 2 Tryz.func92 rfl rfl ?_
  simp only[Bool.and_eq_true,decide_eq_true_eq]at hc
  obtain⟨rfl,hc2⟩:=hc
  have l1:=gL zs 1
  have l2:=gL zs (-1)
  repeat (first|refine ah ?_|refine sat_nd ?_)
  refine ag (by
   refine CM (cm (tk zs) 1) (cm (tk zs) (-1)) ?_ ?_ _ rfl<;>simp only[aL]<;>omega) ?_
  refine ag (by
   refine FV zs hc2 (L:=tk (cm (tk zs) 1)++tk (cm (tk zs) (-1))) ?_ rfl
   simp only[aL]) ?_
  refine ae (aj (.inr rfl) rfl rfl rfl ?_)
  show U (ofL (tk (tk (cm (tk zs) 1)++tk (cm (tk zs) (-1)))) 0)=_
  simp only[aL]
  rfl
 ·cases e
end
section
variable{kCa kDb:Bool}
theorem Ez{c:Int->Bool}{n m:Nat}(h:n<=1000000)(hm:m=(cn c id n).length):(decide (m=(((cn c id n).drop 0).take m).length)&&decide ((((cn c id n).drop 0).take m).length<=1000000))=true:=by
 subst hm
 have:=gG c id n
 have e:((cn c id n).drop 0).take (cn c id n).length=cn c id n:=by simp
 rw[e];simp;omega
theorem EI{zs:List Int}{s:Int}{i:Nat}(h:i<(cm (tk zs) s).length):0<=(cm (tk zs) s).getD i 0/\(cm (tk zs) s).getD i 0<zs.length:=by
 rw[aL]at h ⊢
 have hm:(cm zs s).getD i 0∈cm zs s:=by simp[List.getD,h]
 have:=cU.1 hm
 exact⟨this.1,this.2.1⟩
def oM:CF
 |[.agg [.int .i64 f,.int .i64 r,.sl 0 0 len none],.int .i64 i,.int .i64 to,.int .u64 occ],[.ints false .i8 zs]=>some (decide (len=zs.length)&&decide (zs.length<=64)&&decide (0<=i)&&decide (i<zs.length)&&vsB f r,.bool (dW f r zs i to occ),[])
 |_,_=>none
theorem uw:CtOk (GGx kCa kDb) PP (93,oM):=by
 refine aE Tryz.func93 (by kernel_rfl) rfl fun a0 h0 c0 v0 N0 e hc=>?_
 unfold oM at e
 split at e
 ·rename_i f r len i to occ zs
  cases e
  have hE:=aC (kCa:=kCa) (kDb:=kDb) (cts:=[(21,mA),(134,nR),(133,CA),(135,oH)]) (inl:=[]) ⟨nF,tM,Dy,tZ,trivial⟩ trivial
  refine av hE 2 Tryz.func93 rfl rfl ?_
  simp only[Bool.and_eq_true,decide_eq_true_eq]at hc
  obtain⟨⟨⟨⟨rfl,hc2⟩,hi1⟩,hi2⟩,hv⟩:=hc
  have hf:=dh hv
  have hm:=gB hv
  have hf0:(!decide (f=0))=true:=by simp;omega
  repeat (first|(first|refine ah ?_|refine sat_nd ?_)|refine ag (by simp;omega) ?_)
  refine aq (fun h=>?_) (fun h=>?_)
  ·have h:decide (aU (zs.getD i.toNat 0)=1)=true:=h
   refine ag hv ?_
   repeat (first|refine ah ?_|refine sat_nd ?_)
   refine ag (Ez (by omega) rfl) ?_
   refine ae (aj (.inr rfl) rfl rfl rfl ?_)
   show V.bool (hasL to (tk (cn (dU f (decide (zs.getD i.toNat 0<0)) i) id (f*r).toNat)))=_
   rw[aL,dW,h];rfl
  ·have h:decide (aU (zs.getD i.toNat 0)=1)=false:=h
   repeat (first|(first|refine ah ?_|refine sat_nd ?_)|refine ag (by rw[hf0];exact Bool.or_true _) ?_)
   exact ae (aj (.inr rfl) rfl rfl rfl (by rw[dW,h];rfl))
 ·cases e
def fq:CF
 |[.agg [.int .i64 f,.int .i64 r,.sl 0 0 len none],.int .i64 to,.bool bl],[.ints false .i8 zs]=>some (decide (len=zs.length)&&decide (zs.length<=64)&&vsB f r,.sl 1 0 (attL f r zs to bl).length none,[.ints true .i64 (attL f r zs to bl)])
 |_,_=>none
theorem kA:CtOk (GGx kCa kDb) PP (50,fq):=by
 refine aE Tryz.func50 (by kernel_rfl) rfl fun a0 h0 c0 v0 N0 e hc=>?_
 unfold fq at e
 split at e
 ·rename_i f r len to bl zs
  cases e
  have hE:=aC (kCa:=kCa) (kDb:=kDb) (cts:=[(49,qo),(91,yy),(92,Ib),(93,oM)]) (inl:=[]) ⟨qf,tQ,Ek,uw,trivial⟩ trivial
  refine av hE 2 Tryz.func50 rfl rfl ?_
  simp only[Bool.and_eq_true,decide_eq_true_eq]at hc
  obtain⟨⟨rfl,hc2⟩,hv⟩:=hc
  have hsl:(cm (tk zs) (sdI bl)).length<=zs.length:=by rw[aL];exact gL zs (sdI bl)
  repeat (first|refine ah ?_|refine sat_nd ?_)
  refine bU hE 2 (fun(i:Int) (ys:List Int)=>([(1,I to),(3,.ptr 1 0 0),(7,.sl 3 0 ys.length none),(8,.sl 2 0 (cm (tk zs) (sdI bl)).length none),(9,U (occL (tk zs))),(10,I i)],[.ints false .i8 zs,.cells true [I f,I r,.sl 0 0 zs.length none],.ints true .i64 (cm (tk zs) (sdI bl)),.ints true .i64 ys])) (cm (tk zs) (sdI bl)).length (fun j ys=>ys=((cm (tk zs) (sdI bl)).take j).filter (zl f r (tk zs) to (occL (tk zs)))) [] (by omega) ((Ent.phanT (t:=7) (o:=.ints true .i64 []) rfl ⟨by simp,by simp,trivial,rfl⟩ (aG rfl)).trans (Ent.ren [0,1,2,3] [1,3,7,8,9,10] rfl rfl rfl)) rfl ?_
  intro j i ys hij hj hz
  have hb:ys.length<=j:=by rw[hz];exact Nat.le_trans (List.length_filter_le _ _) (by rw[List.length_take];omega)
  refine aq (fun hlt=>?_) (fun hlt=>?_)
  ·have hlt':j<(cm (tk zs) (sdI bl)).length:=by simp only[decide_eq_true_eq]at hlt;omega
   have hs:=AA (C:=zl f r (tk zs) to (occL (tk zs))) hlt'
   have hgl:=EI (zs:=zs) (s:=sdI bl) (i:=i.toNat) (by omega)
   have hil:(decide (0<=i)&&decide (i<((cm (tk zs) (sdI bl)).length:Int)))=true:=by simp only[Bool.and_eq_true,decide_eq_true_eq];omega
   rw[<-hz,show j=i.toNat by omega]at hs
   repeat (first|(first|refine ah ?_|refine sat_nd ?_)|refine ag hil ?_)
   refine ag (by
    simp only[Bool.and_eq_true,decide_eq_true_eq]
    rw[nf]
    exact⟨⟨⟨⟨by first|rfl|trivial,hc2⟩,hgl.1⟩,hgl.2⟩,hv⟩) ?_
   refine aq (fun hon=>?_) (fun hon=>?_)
   ·skip
    have hon:zl f r (tk zs) to (occL (tk zs)) ((cm (tk zs) (sdI bl)).getD i.toNat 0)=true:=hon
    rw[hon,cond_true]at hs
    refine ag (by simp;omega) ?_
    refine ag (b:=decide (ys.length=ys.length)&&decide ((ys.length+1)*8<=140737488355328)&&true) (by simp;omega) ?_
    exact ae ⟨hlt',ys++[(cm (tk zs) (sdI bl)).getD i.toNat 0],by rw[show j+1=i.toNat+1 by omega];exact hs,Ent.ren [0,1,2,5] [1,3,7,8,9,10] rfl rfl rfl⟩
   ·skip
    have hon:zl f r (tk zs) to (occL (tk zs)) ((cm (tk zs) (sdI bl)).getD i.toNat 0)=false:=hon
    rw[hon,cond_false]at hs
    exact ae ⟨hlt',ys,by rw[show j+1=i.toNat+1 by omega];exact hs,Ent.ren [0,1,2,3] [1,3,7,8,9,10] rfl rfl rfl⟩
  ·obtain rfl:j=(cm (tk zs) (sdI bl)).length:=by simp only[decide_eq_false_iff_not]at hlt;omega
   rw[List.take_length]at hz
   subst hz
   refine ae (ae (cC 3 (.inr rfl) rfl rfl rfl rfl (by simp only[aL];rfl) (by simp only[aL];rfl)))
 ·cases e
end
end Go.Ab
namespace Go.Ab
open IntKind
open Go.Proofs
section
variable{kCa kDb:Bool}
theorem aR{zs:List Int}(h:zs.length<=64){n:Nat}(hn:n=zs.length):(decide (n=(tk zs).length)&&decide ((tk zs).length<=64))=true:=by rw[nf,hn];simp;omega
theorem bh{zs:List Int}(h:zs.length<=64){n:Nat}(hn:n=zs.length){b:Bool}(hb:b=true):(decide (n=(tk zs).length)&&decide ((tk zs).length<=64)&&b)=true:=by rw[nf,hn,hb];simp;omega
def jV:CF
 |[.agg [.int .i64 _f,.int .i64 _r,.sl 0 0 len none],.bool bl],[.ints false .i8 zs]=>some (decide (len=zs.length)&&decide (zs.length<=64),.int .i64 (aH zs bl),[])
 |_,_=>none
theorem lE:CtOk (GGx kCa kDb) PP (19,jV):=by
 refine aE Tryz.func19 (by kernel_rfl) rfl fun a0 h0 c0 v0 N0 e hc=>?_
 unfold jV at e
 split at e
 ·rename_i f r len bl zs
  cases e
  have hE:=aC (kCa:=kCa) (kDb:=kDb) (cts:=[(49,qo),(48,vY)]) (inl:=[]) ⟨qf,za,trivial⟩ trivial
  refine av hE 2 Tryz.func19 rfl rfl ?_
  simp only[Bool.and_eq_true,decide_eq_true_eq]at hc
  obtain⟨rfl,hc2⟩:=hc
  repeat (first|refine ah ?_|refine sat_nd ?_)
  refine aq (fun h=>?_) (fun h=>?_)
  ·have h:(!decide (((gQ (tk zs) (w8 (i64.wrap (6*sdI bl)))).length:Int)=1))=true:=h
   rw[aL,Bool.not_eq_true']at h
   exact ae (aj (.inr rfl) rfl rfl rfl (by rw[aH,h];rfl))
  ·have h:(!decide (((gQ (tk zs) (w8 (i64.wrap (6*sdI bl)))).length:Int)=1))=false:=h
   rw[aL,Bool.not_eq_false']at h
   have hl:((gQ (tk zs) (w8 (i64.wrap (6*sdI bl)))).length:Int)=1:=by rw[aL];exact of_decide_eq_true h
   refine ag (by
    show (decide ((0:Int)<=0)&&decide ((0:Int)<((gQ (tk zs) (w8 (i64.wrap (6*sdI bl)))).length:Int)))=true
    rw[hl];rfl) ?_
   exact ae (aj (.inr rfl) rfl rfl rfl (by
    show I ((gQ (tk zs) (w8 (i64.wrap (6*sdI bl)))).getD 0 0)=_
    rw[aL,aH,h];rfl))
 ·cases e
end
end Go.Ab
set_option maxHeartbeats 4000000
namespace Go.Ab
open IntKind
open Go.Proofs
section
variable{kCa kDb:Bool}
theorem de{f r n:Int}(h:ai f r n=true):i64.wrap (n.tdiv f)=py f n/\0<=px f n/\px f n<f/\0<=py f n/\py f n<r/\px f n+py f n*f=n/\3<=f/\f<=8/\3<=r/\r<=8:=by
 have:=dR h
 have h2:=tP h
 exact⟨this.2.2.2.2.1,this.1,this.2.1,this.2.2.1,this.2.2.2.1,h2,this.2.2.2.2.2⟩
theorem uE{f r:Int}{zs:List Int}{pa:Int}{bl g1 g2:Bool}(h:aI f r zs=true):(!(g1&&g2&&ai f r pa&&decide (i64.wrap (pa.tdiv f)=rkP r bl))||(decide (0<=pa)&&decide (pa<zs.length)))=true:=by
 cases hv:ai f r pa with
 |false=>simp
 |true=>have:=(cG h).1 hv;simp[this.1,this.2]
theorem ja{f r:Int}{zs:List Int}{pa:Int}{bl:Bool}(h:aI f r zs=true)(hr:6<=r)(hv:ai f r pa=true)(hk:i64.wrap (pa.tdiv f)=rkP r bl):0<=pa-f/\pa+f<zs.length/\i64.wrap (pa-f)=pa-f/\i64.wrap (pa+f)=pa+f/\i64.wrap (0-f)=-f/\i64.wrap (pa - -f)=pa+f/\i64.wrap (pa+-f)=pa-f:=by
 obtain⟨h1,h2,h3,h4,h5,h6,h7⟩:=de hv
 have hl:=(bR h).2
 rw[h1]at hk
 have hw:i64.wrap (r-3)=r-3:=az (by omega) (by omega)
 have hpy:1<=py f pa/\py f pa+1<r:=by
  cases bl
  ·simp only[rkP,cond_false,hw]at hk;omega
  ·simp only[rkP,cond_true]at hk;omega
 have a1:1*f<=py f pa*f:=Int.mul_le_mul_of_nonneg_right hpy.1 (by omega)
 have a2:(py f pa+1+1)*f<=r*f:=Int.mul_le_mul_of_nonneg_right (by omega) (by omega)
 rw[Int.add_mul,Int.add_mul,Int.mul_comm r f]at a2
 have hlt:=(aB hv)
 exact⟨by omega,by omega,az (by omega) (by omega),az (by omega) (by omega),by rw[Int.zero_sub];exact az (by omega) (by omega),by rw[Int.sub_neg];exact az (by omega) (by omega),by rw[<-Int.sub_eq_add_neg];exact az (by omega) (by omega)⟩
theorem gC{f:Int}{g:Bool}(h:f≠0):(!g||!decide (f=0))=true:=by simp[h]
theorem KN{f r:Int}{zs:List Int}{pa ha:Int}{bl x:Bool}(h:aI f r zs=true):(!(decide (6<=r)&&decide (ha=0)&&ai f r pa&&decide (i64.wrap (pa.tdiv f)=rkP r bl)&&x)||(decide (0<=i64.wrap (pa-upP f bl))&&decide (i64.wrap (pa-upP f bl)<zs.length)))=true:=by
 cases hg:(decide (6<=r)&&decide (ha=0)&&ai f r pa&&decide (i64.wrap (pa.tdiv f)=rkP r bl)) with
 |false=>simp
 |true=>
  simp only[Bool.and_eq_true,decide_eq_true_eq]at hg
  obtain⟨h1,h2,h3,h4,h5,h6,h7⟩:=ja (bl:=bl) h hg.1.1.1 hg.1.2 hg.2
  have hfr:=dh (bR h).1
  cases bl
  ·rw[Bool.or_eq_true];right
   simp only[upP,cond_false,h5,h6,Bool.and_eq_true,decide_eq_true_eq];omega
  ·rw[Bool.or_eq_true];right
   simp only[upP,cond_true,h3,Bool.and_eq_true,decide_eq_true_eq];omega
theorem Kw{f r:Int}{zs:List Int}{pa ha:Int}{bl x y:Bool}(h:aI f r zs=true):(!(decide (6<=r)&&decide (ha=0)&&ai f r pa&&decide (i64.wrap (pa.tdiv f)=rkP r bl)&&x&&y)||(decide (0<=i64.wrap (pa+upP f bl))&&decide (i64.wrap (pa+upP f bl)<zs.length)))=true:=by
 cases hg:(decide (6<=r)&&decide (ha=0)&&ai f r pa&&decide (i64.wrap (pa.tdiv f)=rkP r bl)) with
 |false=>simp
 |true=>
  simp only[Bool.and_eq_true,decide_eq_true_eq]at hg
  obtain⟨h1,h2,h3,h4,h5,h6,h7⟩:=ja (bl:=bl) h hg.1.1.1 hg.1.2 hg.2
  have hfr:=dh (bR h).1
  cases bl
  ·rw[Bool.or_eq_true];right
   simp only[upP,cond_false,h5,h7,Bool.and_eq_true,decide_eq_true_eq];omega
  ·rw[Bool.or_eq_true];right
   simp only[upP,cond_true,h4,Bool.and_eq_true,decide_eq_true_eq];omega
def vM:CF
 |[.sl 0 0 len none],[.ints false .i8 zs]=>some (decide (len=zs.length)&&decide (zs.length<=64),.sl 1 0 zs.length none,[.ints true .i8 zs])
 |_,_=>none
theorem zy:CtOk (GGx kCa kDb) PP (74,vM):=by
 refine aE Tryz.func74 (by kernel_rfl) rfl fun a0 h0 c0 v0 N0 e hc=>?_
 unfold vM at e
 split at e
 ·rename_i len zs
  cases e
  have hE:=aC (kCa:=kCa) (kDb:=kDb) (cts:=[]) (inl:=[]) trivial trivial
  refine mR hE 2 Tryz.func74 rfl rfl ?_
  simp only[Bool.and_eq_true,decide_eq_true_eq]at hc
  obtain⟨rfl,hc2⟩:=hc
  refine BD (fun h0=>?_) ?_
  ·refine aq (fun _=>?_) (fun h=>(by cases h))
   have hz:zs=[]:=List.eq_nil_of_length_eq_zero h0
   subst hz
   exact ae (Eg (Ent.phanT (t:=2) (o:=.ints true .i8 []) rfl ⟨by simp,by simp,trivial,rfl⟩ (aG rfl)) (cC 1 (.inr rfl) rfl rfl rfl rfl rfl rfl))
  ·refine aq (fun h=>(by cases h)) (fun _=>?_)
   refine ag (b:=?B) ?_ ?_
   ·show (decide (0=0)&&decide ((0+zs.length)*1<=140737488355328)&&true)=true
    simp;omega
   exact ae (Eg (Ent.refl _ _ _) (cC 2 (.inr rfl) rfl rfl rfl rfl (by show [O.ints true .i8 (tk zs)]=_;rw[aL]) (by show V.sl 1 0 (tk zs).length none=_;rw[aL])))
 ·cases e
def rL:CF
 |[.agg [.int .i64 f,.int .i64 r,.sl 0 0 len none,.bool bl,.int .u8 ca,.int .i64 pa,.int .i64 ha,.int .i64 fu]],[.ints false .i8 zs]=>some (decide (len=zs.length)&&decide (zs.length<=64),.agg [I f,I r,.sl 1 0 zs.length none,Bb bl,.int .u8 ca,I pa,I ha,I fu],[.ints true .i8 zs])
 |_,_=>none
theorem pI:CtOk (GGx kCa kDb) PP (38,rL):=by
 refine aE Tryz.func38 (by kernel_rfl) rfl fun a0 h0 c0 v0 N0 e hc=>?_
 unfold rL at e
 split at e
 ·rename_i f r len bl ca pa ha fu zs
  cases e
  have hE:=aC (kCa:=kCa) (kDb:=kDb) (cts:=[(74,vM)]) (inl:=[]) ⟨zy,trivial⟩ trivial
  refine av hE 2 Tryz.func38 rfl rfl ?_
  simp only[Bool.and_eq_true,decide_eq_true_eq]at hc
  obtain⟨rfl,hc2⟩:=hc
  repeat (first|(first|refine ah ?_|refine sat_nd ?_)|refine ag (aR hc2 rfl) ?_)
  exact ae (cC 3 (.inr rfl) rfl rfl rfl rfl (by show [O.ints true .i8 (tk zs)]=_;rw[aL]) (by show V.agg [I f,I r,.sl 1 0 (tk zs).length none,Bb bl,.int .u8 ca,I pa,I ha,I fu]=_;rw[aL]))
 ·cases e
def vH:CF
 |[.agg [.int .i64 f,.int .i64 r,.sl 0 0 len none,.bool bl,.int .u8 _ca,.int .i64 pa,.int .i64 ha,.int .i64 _fu]],[.ints false .i8 zs]=>some (decide (len=zs.length)&&decide (zs.length<=64)&&aI f r zs,.bool (iQ f r zs bl pa ha),[])
 |_,_=>none
theorem zT:CtOk (GGx kCa kDb) PP (110,vH):=by
 refine aE Tryz.func110 (by kernel_rfl) rfl fun a0 h0 c0 v0 N0 e hc=>?_
 unfold vH at e
 split at e
 ·rename_i f r len bl ca pa ha fu zs
  cases e
  have hE:=aC (kCa:=kCa) (kDb:=kDb) (cts:=[(44,eD),(138,Ei)]) (inl:=[]) ⟨cz,yJ,trivial⟩ trivial
  refine av hE 2 Tryz.func110 rfl rfl ?_
  simp only[Bool.and_eq_true,decide_eq_true_eq]at hc
  obtain⟨⟨rfl,hc2⟩,hbd⟩:=hc
  refine aq (fun h=>?_) (fun h=>?_)
  ·have h:decide (pa=-1)=true:=h
   exact ae (aj (.inr rfl) rfl rfl rfl (by rw[iQ,h];rfl))
  have h:decide (pa=-1)=false:=h
  have hf:f≠0:=by have:=dh (bR hbd).1;omega
  refine aq (fun h1=>?_) (fun h1=>?_)
  ·have h1:bl=false:=by simpa using h1
   subst h1
   repeat (first|(first|refine ah ?_|refine sat_nd ?_)|refine ag (gC hf) ?_|refine ag (uE (bl:=false) hbd) ?_|refine ag (KN (bl:=false) hbd) ?_|refine ag (Kw (bl:=false) hbd) ?_)
   exact ae (aj (.inr rfl) rfl rfl rfl (by rw[iQ,h];rfl))
  ·have h1:bl=true:=by simpa using h1
   subst h1
   repeat (first|(first|refine ah ?_|refine sat_nd ?_)|refine ag (gC hf) ?_|refine ag (uE (bl:=true) hbd) ?_|refine ag (KN (bl:=true) hbd) ?_|refine ag (Kw (bl:=true) hbd) ?_)
   exact ae (aj (.inr rfl) rfl rfl rfl (by rw[iQ,h];rfl))
 ·cases e
theorem EK{f r:Int}{zs:List Int}{g:Bool}(h:aI f r zs=true)(_hz:zs.length<=64):(!g||(decide (0<=f)&&decide (f<=zs.length)&&decide ((zs.length:Int)<=zs.length)))=true:=by
 obtain⟨h1,h2⟩:=bR h
 have:=dh h1
 have:1*f<=r*f:=Int.mul_le_mul_of_nonneg_right (by omega) (by omega)
 rw[Int.mul_comm r f]at this
 simp;omega
theorem GH{f r:Int}{zs:List Int}(h:aI f r zs=true)(hz:zs.length<=64):i64.wrap ((zs.length:Int)-f)=(zs.length:Int)-f/\0<=(zs.length:Int)-f/\3<=f:=by
 obtain⟨h1,h2⟩:=bR h
 have:=dh h1
 have:1*f<=r*f:=Int.mul_le_mul_of_nonneg_right (by omega) (by omega)
 rw[Int.mul_comm r f]at this
 exact⟨az (by omega) (by omega),by omega,by omega⟩
theorem CR{f r:Int}{zs:List Int}(h:aI f r zs=true)(hz:zs.length<=64):(decide (0<=i64.wrap ((zs.length:Int)-f))&&decide (i64.wrap ((zs.length:Int)-f)<=zs.length)&&decide ((zs.length:Int)<=zs.length))=true:=by
 obtain⟨h1,h2,h3⟩:=GH h hz
 rw[h1]
 simp only[Bool.and_eq_true,decide_eq_true_eq]
 omega
theorem FJ{zs:List Int}{a m:Nat}(h:m=zs.length)(hz:zs.length<=64):(decide (m-a=((zs.drop a).take (m-a)).length)&&decide (((zs.drop a).take (m-a)).length<=1000000))=true:=by
 simp only[Bool.and_eq_true,decide_eq_true_eq,List.length_take,List.length_drop]
 omega
theorem Em{zs:List Int}{b m:Nat}{g:Bool}(h:m<=zs.length)(hz:zs.length<=64):(!g||(decide (m-0=((zs.drop 0).take (m-0)).length)&&decide (((zs.drop 0).take (m-0)).length<=1000000)))=true/\b=b:=by
 rw[Bool.or_eq_true]
 refine⟨.inr ?_,rfl⟩
 simp only[Bool.and_eq_true,decide_eq_true_eq,List.length_take,List.length_drop]
 omega
def sk:CF
 |[.agg [.int .i64 f,.int .i64 r,.sl 0 0 len none,.bool _bl,.int .u8 _ca,.int .i64 _pa,.int .i64 _ha,.int .i64 _fu]],[.ints false .i8 zs]=>some (decide (len=zs.length)&&decide (zs.length<=64)&&aI f r zs,.bool (iV f zs),[])
 |_,_=>none
theorem wT:CtOk (GGx kCa kDb) PP (106,sk):=by
 refine aE Tryz.func106 (by kernel_rfl) rfl fun a0 h0 c0 v0 N0 e hc=>?_
 unfold sk at e
 split at e
 ·rename_i f r len bl ca pa ha fu zs
  cases e
  have hE:=aC (kCa:=kCa) (kDb:=kDb) (cts:=[(34,gY)]) (inl:=[]) ⟨jh,trivial⟩ trivial
  refine av hE 2 Tryz.func106 rfl rfl ?_
  simp only[Bool.and_eq_true,decide_eq_true_eq]at hc
  obtain⟨⟨rfl,hc2⟩,hbd⟩:=hc
  obtain⟨hw1,hw2,hw3⟩:=GH hbd hc2
  have hfl:f.toNat<=zs.length:=by omega
  repeat (first|(first|refine ah ?_|refine sat_nd ?_)|refine ag (EK hbd hc2) ?_|refine ag (CR hbd hc2) ?_|refine ag (FJ rfl hc2) ?_|refine ag (Em (b:=0) hfl hc2).1 ?_)
  refine ae (aj (.inr rfl) rfl rfl rfl (congrArg V.bool ?_))
  show (!((zs.drop (i64.wrap ((zs.length:Int)-f)).toNat).take (zs.length-(i64.wrap ((zs.length:Int)-f)).toNat)).any (isV 1)&&!((zs.drop 0).take (f.toNat-0)).any (isV (-1)))=_
  rw[hw1,iV,show ((zs.length:Int)-f).toNat=zs.length-f.toNat by omega,List.drop_zero,Nat.sub_zero,List.take_of_length_le (by simp)]
 ·cases e
def rK:CF
 |[.agg [.int .i64 f,.int .i64 r,.sl 0 0 len none,.bool bl,.int .u8 _ca,.int .i64 _pa,.int .i64 _ha,.int .i64 _fu]],[.ints false .i8 zs]=>some (decide (len=zs.length)&&decide (zs.length<=64),.bool (ei f r zs bl),[])
 |_,_=>none
theorem vL:CtOk (GGx kCa kDb) PP (104,rK):=by
 refine aE Tryz.func104 (by kernel_rfl) rfl fun a0 h0 c0 v0 N0 e hc=>?_
 unfold rK at e
 split at e
 ·rename_i f r len bl ca pa ha fu zs
  cases e
  have hE:=aC (kCa:=kCa) (kDb:=kDb) (cts:=[(9,mH),(10,fP)]) (inl:=[]) ⟨gM,fW,trivial⟩ trivial
  refine av hE 2 Tryz.func104 rfl rfl ?_
  simp only[Bool.and_eq_true,decide_eq_true_eq]at hc
  obtain⟨rfl,hc2⟩:=hc
  repeat (first|(first|refine ah ?_|refine sat_nd ?_)|refine ag (aR hc2 rfl) ?_)
  refine ae (aj (.inr rfl) rfl rfl rfl (congrArg V.bool ?_))
  show (decide ((aK f r (tk zs) bl).2=0)&&decide ((aM f r (tk zs) (!bl)).2=0)&&decide ((aM f r (tk zs) (!bl)).1=0))=_
  rw[aL];rfl
 ·cases e
end
end Go.Ab
namespace Go.Ab
open Go.Proofs
section
variable{kCa kDb:Bool}
def hO:CF
 |[.agg [.int .i64 f,.int .i64 r,.sl 0 0 len none,.bool bl,.int .u8 ca,.int .i64 pa,.int .i64 ha,.int .i64 fu]],[.ints false .i8 zs]=>some (decide (len=zs.length)&&decide (zs.length<=64),.bool (Psn.ok ⟨f,r,zs,bl,ca,pa,ha,fu⟩),[])
 |_,_=>none
theorem gm:CtOk (GGx kCa kDb) PP (60,hO):=by
 refine aE Tryz.func60 (by kernel_rfl) rfl fun a0 h0 c0 v0 N0 e hc=>?_
 unfold hO at e
 split at e
 ·rename_i f r len bl ca pa ha fu zs
  cases e
  have hE:=aC (kCa:=kCa) (kDb:=kDb) (cts:=[(65,jO),(104,rK),(106,sk),(108,kg),(110,vH)]) (inl:=[(102,Tryz.f102),(103,Tryz.f103),(105,Tryz.f105),(107,Tryz.f107),(109,Tryz.f109),(111,Tryz.f111)]) ⟨iO,vL,wT,qW,zT,trivial⟩ ⟨⟨Tryz.func102,by kernel_rfl⟩,⟨Tryz.func103,by kernel_rfl⟩,⟨Tryz.func105,by kernel_rfl⟩,⟨Tryz.func107,by kernel_rfl⟩,⟨Tryz.func109,by kernel_rfl⟩,⟨Tryz.func111,by kernel_rfl⟩,trivial⟩
  refine av hE 3 Tryz.func60 rfl rfl ?_
  simp only[Bool.and_eq_true,decide_eq_true_eq]at hc
  obtain⟨rfl,hc2⟩:=hc
  repeat (first|refine ah ?_|refine sat_nd ?_)
  refine eA hE 3 7 ?_
  refine rnd ?_
  refine dc (by rfl) ?_
  repeat (first|(first|refine ah ?_|refine sat_nd ?_)|refine ag (aR hc2 rfl) ?_)
  refine aq (fun h0=>?_) (fun h0=>?_)
  ·have h0:(!aI f r (tk zs))=true:=h0
   rw[aL,Bool.not_eq_true']at h0
   exact ae (ae (aj (.inr rfl) rfl rfl rfl (by simp[Psn.ok,h0])))
  have h0:(!aI f r (tk zs))=false:=h0
  have h0t:aI f r (tk zs)=true:=by simpa using h0
  rw[aL,Bool.not_eq_false']at h0
  refine ae ⟨[(1,.ptr 1 0 0),(13,.sl 2 0 6 none),(14,I 6),(15,I 1)],[.ints false .i8 zs,.cells true [I f,I r,.sl 0 0 zs.length none,Bb bl,.int .u8 ca,I pa,I ha,I fu],.vals true 1 [[.fn 102 [.ptr 1 0 0]],[.fn 103 [.ptr 1 0 0]],[.fn 105 [.ptr 1 0 0]],[.fn 107 [.ptr 1 0 0]],[.fn 109 [.ptr 1 0 0]],[.fn 111 [.ptr 1 0 0]]]],Ent.ren [0,1,2] [1,13,14,15] rfl rfl rfl,?_⟩
  refine rnd ?_
  refine dc (by rfl) ?_
  repeat (first|(first|refine ah ?_|refine sat_nd ?_)|refine ag (aR hc2 rfl) ?_|refine ag (bh hc2 rfl h0t) ?_)
  refine aq (fun h1=>?_) (fun h1=>?_)
  ·have h1:(!ei f r (tk zs) bl)=true:=h1
   rw[aL,Bool.not_eq_true']at h1
   exact ae (ae (aj (.inr rfl) rfl rfl rfl (by simp[Psn.ok,h0,h1])))
  have h1:(!ei f r (tk zs) bl)=false:=h1
  rw[aL,Bool.not_eq_false']at h1
  refine ae ⟨[(1,.ptr 1 0 0),(13,.sl 2 0 6 none),(14,I 6),(15,I 2)],[.ints false .i8 zs,.cells true [I f,I r,.sl 0 0 zs.length none,Bb bl,.int .u8 ca,I pa,I ha,I fu],.vals true 1 [[.fn 102 [.ptr 1 0 0]],[.fn 103 [.ptr 1 0 0]],[.fn 105 [.ptr 1 0 0]],[.fn 107 [.ptr 1 0 0]],[.fn 109 [.ptr 1 0 0]],[.fn 111 [.ptr 1 0 0]]]],Ent.ren [0,1,2] [1,13,14,15] rfl rfl rfl,?_⟩
  refine rnd ?_
  refine dc (by rfl) ?_
  repeat (first|(first|refine ah ?_|refine sat_nd ?_)|refine ag (aR hc2 rfl) ?_|refine ag (bh hc2 rfl h0t) ?_)
  refine aq (fun h2=>?_) (fun h2=>?_)
  ·have h2:(!iV f (tk zs))=true:=h2
   rw[aL,Bool.not_eq_true']at h2
   exact ae (ae (aj (.inr rfl) rfl rfl rfl (by simp[Psn.ok,h0,h1,h2])))
  have h2:(!iV f (tk zs))=false:=h2
  rw[aL,Bool.not_eq_false']at h2
  refine ae ⟨[(1,.ptr 1 0 0),(13,.sl 2 0 6 none),(14,I 6),(15,I 3)],[.ints false .i8 zs,.cells true [I f,I r,.sl 0 0 zs.length none,Bb bl,.int .u8 ca,I pa,I ha,I fu],.vals true 1 [[.fn 102 [.ptr 1 0 0]],[.fn 103 [.ptr 1 0 0]],[.fn 105 [.ptr 1 0 0]],[.fn 107 [.ptr 1 0 0]],[.fn 109 [.ptr 1 0 0]],[.fn 111 [.ptr 1 0 0]]]],Ent.ren [0,1,2] [1,13,14,15] rfl rfl rfl,?_⟩
  refine rnd ?_
  refine dc (by rfl) ?_
  repeat (first|(first|refine ah ?_|refine sat_nd ?_)|refine ag (aR hc2 rfl) ?_|refine ag (bh hc2 rfl h0t) ?_)
  refine aq (fun h3=>?_) (fun h3=>?_)
  ·have h3:(!er f r (tk zs) ca)=true:=h3
   rw[aL,Bool.not_eq_true']at h3
   exact ae (ae (aj (.inr rfl) rfl rfl rfl (by simp[Psn.ok,h0,h1,h2,h3])))
  have h3:(!er f r (tk zs) ca)=false:=h3
  rw[aL,Bool.not_eq_false']at h3
  refine ae ⟨[(1,.ptr 1 0 0),(13,.sl 2 0 6 none),(14,I 6),(15,I 4)],[.ints false .i8 zs,.cells true [I f,I r,.sl 0 0 zs.length none,Bb bl,.int .u8 ca,I pa,I ha,I fu],.vals true 1 [[.fn 102 [.ptr 1 0 0]],[.fn 103 [.ptr 1 0 0]],[.fn 105 [.ptr 1 0 0]],[.fn 107 [.ptr 1 0 0]],[.fn 109 [.ptr 1 0 0]],[.fn 111 [.ptr 1 0 0]]]],Ent.ren [0,1,2] [1,13,14,15] rfl rfl rfl,?_⟩
  refine rnd ?_
  refine dc (by rfl) ?_
  repeat (first|(first|refine ah ?_|refine sat_nd ?_)|refine ag (aR hc2 rfl) ?_|refine ag (bh hc2 rfl h0t) ?_)
  refine aq (fun h4=>?_) (fun h4=>?_)
  ·have h4:(!iQ f r (tk zs) bl pa ha)=true:=h4
   rw[aL,Bool.not_eq_true']at h4
   exact ae (ae (aj (.inr rfl) rfl rfl rfl (by simp[Psn.ok,h0,h1,h2,h3,h4])))
  have h4:(!iQ f r (tk zs) bl pa ha)=false:=h4
  rw[aL,Bool.not_eq_false']at h4
  refine ae ⟨[(1,.ptr 1 0 0),(13,.sl 2 0 6 none),(14,I 6),(15,I 5)],[.ints false .i8 zs,.cells true [I f,I r,.sl 0 0 zs.length none,Bb bl,.int .u8 ca,I pa,I ha,I fu],.vals true 1 [[.fn 102 [.ptr 1 0 0]],[.fn 103 [.ptr 1 0 0]],[.fn 105 [.ptr 1 0 0]],[.fn 107 [.ptr 1 0 0]],[.fn 109 [.ptr 1 0 0]],[.fn 111 [.ptr 1 0 0]]]],Ent.ren [0,1,2] [1,13,14,15] rfl rfl rfl,?_⟩
  refine rnd ?_
  refine dc (by rfl) ?_
  repeat (first|(first|refine ah ?_|refine sat_nd ?_)|refine ag (aR hc2 rfl) ?_|refine ag (bh hc2 rfl h0t) ?_)
  refine aq (fun h5=>?_) (fun h5=>?_)
  ·have h5:(!cntB ha fu)=true:=h5
   rw[Bool.not_eq_true']at h5
   exact ae (ae (aj (.inr rfl) rfl rfl rfl (by simp[Psn.ok,h0,h1,h2,h3,h4,h5])))
  have h5:(!cntB ha fu)=false:=h5
  rw[Bool.not_eq_false']at h5
  refine ae ⟨[(1,.ptr 1 0 0),(13,.sl 2 0 6 none),(14,I 6),(15,I 6)],[.ints false .i8 zs,.cells true [I f,I r,.sl 0 0 zs.length none,Bb bl,.int .u8 ca,I pa,I ha,I fu],.vals true 1 [[.fn 102 [.ptr 1 0 0]],[.fn 103 [.ptr 1 0 0]],[.fn 105 [.ptr 1 0 0]],[.fn 107 [.ptr 1 0 0]],[.fn 109 [.ptr 1 0 0]],[.fn 111 [.ptr 1 0 0]]]],Ent.ren [0,1,2] [1,13,14,15] rfl rfl rfl,?_⟩
  refine rnd ?_
  refine th (by rfl) ?_
  refine ae (ae (aj (.inr rfl) rfl rfl rfl (by simp[Psn.ok,h0,h1,h2,h3,h4,h5])))
 ·cases e
end
section
variable{kCa kDb:Bool}
def qd(k:Int)(bl:Bool):Int:=bif bl then w8 (0-k)else k
def eo(r:Int)(bl:Bool)(n:Int):Int:=bif bl then IntKind.i64.wrap (r-n)else IntKind.i64.wrap (n-1)
def fM(r:Int)(bl:Bool):Int:=bif bl then 0 else IntKind.i64.wrap (r-1)
def chkL(f r:Int)(zs:List Int)(bl:Bool):Bool:=decide (0<((attL f r zs (aH zs bl) (!bl)).length:Int))
def lN(f r:Int)(zs:List Int)(bit:Int):Bool:=bif !decide (f=8)||!decide (r=8)then false else bif decide (bit=1)then decide (zs.getD 4 0=6)&&decide (zs.getD 7 0=4)else bif decide (bit=2)then decide (zs.getD 4 0=6)&&decide (zs.getD 0 0=4)else bif decide (bit=4)then decide (zs.getD 60 0=-6)&&decide (zs.getD 63 0=-4)else decide (zs.getD 60 0=-6)&&decide (zs.getD 56 0=-4)
theorem oX:bX 8 8 [101,49]=4:=by kernel_rfl
theorem qm:bX 8 8 [104,49]=7:=by kernel_rfl
theorem qO:bX 8 8 [97,49]=0:=by kernel_rfl
theorem pq:bX 8 8 [101,56]=60:=by kernel_rfl
theorem qJ:bX 8 8 [104,56]=63:=by kernel_rfl
theorem qH:bX 8 8 [97,56]=56:=by kernel_rfl
def rD:CF
 |[.int .i8 k,.bool bl],[]=>some (true,.int .i8 (qd k bl),[])
 |_,_=>none
theorem wD:CtOk (GGx kCa kDb) PP (55,rD):=by
 refine aE Tryz.func55 (by kernel_rfl) rfl fun a0 h0 c0 v0 N0 e hc=>?_
 unfold rD at e
 split at e
 ·rename_i k bl
  cases e
  have hE:=aC (kCa:=kCa) (kDb:=kDb) (cts:=[]) (inl:=[]) trivial trivial
  refine av hE 2 Tryz.func55 rfl rfl ?_
  repeat' first|(first|refine ah ?_|refine sat_nd ?_)|refine aq (fun h=>?_) (fun h=>?_)
  all_goals exact ae (aj (.inr rfl) rfl rfl rfl (by first|rfl|(simp only[qd, *,cond_true,cond_false];done)|(simp only[qd, *,cond_true,cond_false,Bool.not_true,Bool.not_false,Bool.and_true,Bool.true_and,Bool.and_false,Bool.false_and,Bool.or_true,Bool.true_or,Bool.or_false,Bool.false_or];done)|simp_all [qd]))
 ·cases e
def uP:CF
 |[.agg [.int .i64 _f,.int .i64 r],.bool bl,.int .i64 n],[]=>some (true,.int .i64 (eo r bl n),[])
 |_,_=>none
theorem zf:CtOk (GGx kCa kDb) PP (53,uP):=by
 refine aE Tryz.func53 (by kernel_rfl) rfl fun a0 h0 c0 v0 N0 e hc=>?_
 unfold uP at e
 split at e
 ·rename_i f r bl n
  cases e
  have hE:=aC (kCa:=kCa) (kDb:=kDb) (cts:=[]) (inl:=[]) trivial trivial
  refine av hE 2 Tryz.func53 rfl rfl ?_
  repeat' first|(first|refine ah ?_|refine sat_nd ?_)|refine aq (fun h=>?_) (fun h=>?_)
  all_goals exact ae (aj (.inr rfl) rfl rfl rfl (by first|rfl|(simp only[eo, *,cond_true,cond_false];done)|(simp only[eo, *,cond_true,cond_false,Bool.not_true,Bool.not_false,Bool.and_true,Bool.true_and,Bool.and_false,Bool.false_and,Bool.or_true,Bool.true_or,Bool.or_false,Bool.false_or];done)|simp_all [eo]))
 ·cases e
def vR:CF
 |[.agg [.int .i64 _f,.int .i64 r],.bool bl],[]=>some (true,.int .i64 (fM r bl),[])
 |_,_=>none
theorem zb:CtOk (GGx kCa kDb) PP (23,vR):=by
 refine aE Tryz.func23 (by kernel_rfl) rfl fun a0 h0 c0 v0 N0 e hc=>?_
 unfold vR at e
 split at e
 ·rename_i f r bl
  cases e
  have hE:=aC (kCa:=kCa) (kDb:=kDb) (cts:=[]) (inl:=[]) trivial trivial
  refine av hE 2 Tryz.func23 rfl rfl ?_
  repeat' first|(first|refine ah ?_|refine sat_nd ?_)|refine aq (fun h=>?_) (fun h=>?_)
  all_goals exact ae (aj (.inr rfl) rfl rfl rfl (by first|rfl|(simp only[fM, *,cond_true,cond_false];done)|(simp only[fM, *,cond_true,cond_false,Bool.not_true,Bool.not_false,Bool.and_true,Bool.true_and,Bool.and_false,Bool.false_and,Bool.or_true,Bool.true_or,Bool.or_false,Bool.false_or];done)|simp_all [fM]))
 ·cases e
def Gb:CF
 |[.agg [.int .i64 f,.int .i64 r,.sl 0 0 len none,.bool _bl,.int .u8 _ca,.int .i64 _pa,.int .i64 _ha,.int .i64 _fu]],[.ints false .i8 _zs]=>some (true,.agg [I f,I r,.sl 0 0 len none],[])
 |_,_=>none
theorem yD:CtOk (GGx kCa kDb) PP (7,Gb):=by
 refine aE Tryz.func7 (by kernel_rfl) rfl fun a0 h0 c0 v0 N0 e hc=>?_
 unfold Gb at e
 split at e
 ·rename_i f r len bl ca pa ha fu zs
  cases e
  have hE:=aC (kCa:=kCa) (kDb:=kDb) (cts:=[]) (inl:=[]) trivial trivial
  refine CK hE 2 Tryz.func7 rfl rfl ?_
  repeat (first|refine ah ?_|refine sat_nd ?_)
  exact ae ⟨.inr rfl,_,rfl,rfl,rfl⟩
 ·cases e
def rz:CF
 |[.agg [.int .i64 f,.int .i64 r,.sl 0 0 len none],.bool bl],[.ints false .i8 zs]=>some (decide (len=zs.length)&&decide (zs.length<=64)&&vsB f r,.bool (chkL f r zs bl),[])
 |_,_=>none
theorem vI:CtOk (GGx kCa kDb) PP (20,rz):=by
 refine aE Tryz.func20 (by kernel_rfl) rfl fun a0 h0 c0 v0 N0 e hc=>?_
 unfold rz at e
 split at e
 ·rename_i f r len bl zs
  cases e
  have hE:=aC (kCa:=kCa) (kDb:=kDb) (cts:=[(19,jV),(50,fq)]) (inl:=[]) ⟨lE,kA,trivial⟩ trivial
  refine av hE 2 Tryz.func20 rfl rfl ?_
  simp only[Bool.and_eq_true,decide_eq_true_eq]at hc
  obtain⟨⟨rfl,hc2⟩,hv⟩:=hc
  repeat (first|(first|refine ah ?_|refine sat_nd ?_)|refine ag (aR hc2 rfl) ?_|refine ag (bh hc2 rfl hv) ?_)
  refine ae (aj (.inr rfl) rfl rfl rfl (by
   show V.bool (chkL f r (tk zs) bl)=_
   rw[aL]))
 ·cases e
def IA:CF
 |[.agg [.int .i64 _f,.int .i64 _r,.sl 0 0 len none,.bool _bl,.int .u8 _ca,.int .i64 _pa,.int .i64 _ha,.int .i64 _fu],.str s],[.ints false .i8 zs]=>some (decide (len=zs.length)&&decide (zs.length<=64)&&decide (0<=bX 8 8 s)&&decide (bX 8 8 s<zs.length),.int .i8 (zs.getD (bX 8 8 s).toNat 0),[])
 |_,_=>none
theorem ER:CtOk (GGx kCa kDb) PP (94,IA):=by
 refine aE Tryz.func94 (by kernel_rfl) rfl fun a0 h0 c0 v0 N0 e hc=>?_
 unfold IA at e
 split at e
 ·rename_i f r len bl ca pa ha fu s zs
  cases e
  have hE:=aC (kCa:=kCa) (kDb:=kDb) (cts:=[(100,rM)]) (inl:=[]) ⟨pO,trivial⟩ trivial
  refine av hE 2 Tryz.func94 rfl rfl ?_
  simp only[Bool.and_eq_true,decide_eq_true_eq]at hc
  obtain⟨⟨⟨rfl,hc2⟩,h0⟩,h1⟩:=hc
  repeat (first|(first|refine ah ?_|refine sat_nd ?_)|refine ag (by simp only[Bool.and_eq_true,decide_eq_true_eq];omega) ?_)
  exact ae (aj (.inr rfl) rfl rfl rfl rfl)
 ·cases e
theorem bn{zs:List Int}{s:List UInt8}{n:Nat}(h:bX 8 8 s=n)(h2:n<64)(h64:zs.length=64):(decide (zs.length=(tk zs).length)&&decide ((tk zs).length<=64)&&decide (0<=bX 8 8 s)&&decide (bX 8 8 s<(tk zs).length))=true:=by
 rw[nf,h,h64];simp;omega
theorem aX{zs:List Int}{s:List UInt8}{n:Nat}{g:Bool}(h:bX 8 8 s=n)(h2:n<64)(h64:zs.length=64):(!g||(decide (zs.length=(tk zs).length)&&decide ((tk zs).length<=64)&&decide (0<=bX 8 8 s)&&decide (bX 8 8 s<(tk zs).length)))=true:=by
 rw[bn h h2 h64];simp
def wH:CF
 |[.agg [.int .i64 f,.int .i64 r,.sl 0 0 len none,.bool _bl,.int .u8 _ca,.int .i64 _pa,.int .i64 _ha,.int .i64 _fu],.int .u8 bit],[.ints false .i8 zs]=>some (decide (len=zs.length)&&decide (zs.length<=64)&&(!decide (f=8)||!decide (r=8)||decide (zs.length=64)),.bool (lN f r zs bit),[])
 |_,_=>none
theorem zY:CtOk (GGx kCa kDb) PP (51,wH):=by
 refine aE Tryz.func51 (by kernel_rfl) rfl fun a0 h0 c0 v0 N0 e hc=>?_
 unfold wH at e
 split at e
 ·rename_i f r len bl ca pa ha fu bit zs
  cases e
  have hE:=aC (kCa:=kCa) (kDb:=kDb) (cts:=[(94,IA)]) (inl:=[]) ⟨ER,trivial⟩ trivial
  refine av hE 2 Tryz.func51 rfl rfl ?_
  simp only[Bool.and_eq_true,decide_eq_true_eq]at hc
  obtain⟨⟨rfl,hc2⟩,hv⟩:=hc
  repeat (first|refine ah ?_|refine sat_nd ?_)
  refine aq (fun h=>?_) (fun h=>?_)
  ·have h:(!decide (f=8)||!decide (r=8))=true:=h
   exact ae (aj (.inr rfl) rfl rfl rfl (by rw[lN,h];rfl))
  have h:(!decide (f=8)||!decide (r=8))=false:=h
  have h64:zs.length=64:=by
   rw[h]at hv;simpa using hv
  refine aq (fun h1=>?_) (fun h1=>?_)
  ·have h1:decide (bit=1)=true:=h1
   repeat (first|(first|refine ah ?_|refine sat_nd ?_)|refine ag (bn (n:=4) oX (by decide) h64) ?_|refine ag (aX (n:=4) oX (by decide) h64) ?_|refine ag (bn (n:=7) qm (by decide) h64) ?_|refine ag (aX (n:=7) qm (by decide) h64) ?_|refine ag (bn (n:=0) qO (by decide) h64) ?_|refine ag (aX (n:=0) qO (by decide) h64) ?_|refine ag (bn (n:=60) pq (by decide) h64) ?_|refine ag (aX (n:=60) pq (by decide) h64) ?_|refine ag (bn (n:=63) qJ (by decide) h64) ?_|refine ag (aX (n:=63) qJ (by decide) h64) ?_|refine ag (bn (n:=56) qH (by decide) h64) ?_|refine ag (aX (n:=56) qH (by decide) h64) ?_)
   exact ae (aj (.inr rfl) rfl rfl rfl (congrArg V.bool (by
    show (decide ((tk zs).getD (bX 8 8 [101,49]).toNat 0=6)&&decide ((tk zs).getD (bX 8 8 [104,49]).toNat 0=4))=_
    rw[aL,oX,qm,lN,h,h1];rfl)))
  have h1:decide (bit=1)=false:=h1
  refine aq (fun h2=>?_) (fun h2=>?_)
  ·have h2:decide (bit=2)=true:=h2
   repeat (first|(first|refine ah ?_|refine sat_nd ?_)|refine ag (bn (n:=4) oX (by decide) h64) ?_|refine ag (aX (n:=4) oX (by decide) h64) ?_|refine ag (bn (n:=7) qm (by decide) h64) ?_|refine ag (aX (n:=7) qm (by decide) h64) ?_|refine ag (bn (n:=0) qO (by decide) h64) ?_|refine ag (aX (n:=0) qO (by decide) h64) ?_|refine ag (bn (n:=60) pq (by decide) h64) ?_|refine ag (aX (n:=60) pq (by decide) h64) ?_|refine ag (bn (n:=63) qJ (by decide) h64) ?_|refine ag (aX (n:=63) qJ (by decide) h64) ?_|refine ag (bn (n:=56) qH (by decide) h64) ?_|refine ag (aX (n:=56) qH (by decide) h64) ?_)
   exact ae (aj (.inr rfl) rfl rfl rfl (congrArg V.bool (by
    show (decide ((tk zs).getD (bX 8 8 [101,49]).toNat 0=6)&&decide ((tk zs).getD (bX 8 8 [97,49]).toNat 0=4))=_
    rw[aL,oX,qO,lN,h,h1,h2];rfl)))
  have h2:decide (bit=2)=false:=h2
  refine aq (fun h3=>?_) (fun h3=>?_)
  ·have h3:decide (bit=4)=true:=h3
   repeat (first|(first|refine ah ?_|refine sat_nd ?_)|refine ag (bn (n:=4) oX (by decide) h64) ?_|refine ag (aX (n:=4) oX (by decide) h64) ?_|refine ag (bn (n:=7) qm (by decide) h64) ?_|refine ag (aX (n:=7) qm (by decide) h64) ?_|refine ag (bn (n:=0) qO (by decide) h64) ?_|refine ag (aX (n:=0) qO (by decide) h64) ?_|refine ag (bn (n:=60) pq (by decide) h64) ?_|refine ag (aX (n:=60) pq (by decide) h64) ?_|refine ag (bn (n:=63) qJ (by decide) h64) ?_|refine ag (aX (n:=63) qJ (by decide) h64) ?_|refine ag (bn (n:=56) qH (by decide) h64) ?_|refine ag (aX (n:=56) qH (by decide) h64) ?_)
   exact ae (aj (.inr rfl) rfl rfl rfl (congrArg V.bool (by
    show (decide ((tk zs).getD (bX 8 8 [101,56]).toNat 0=-6)&&decide ((tk zs).getD (bX 8 8 [104,56]).toNat 0=-4))=_
    rw[aL,pq,qJ,lN,h,h1,h2,h3];rfl)))
  have h3:decide (bit=4)=false:=h3
  repeat (first|(first|refine ah ?_|refine sat_nd ?_)|refine ag (bn (n:=4) oX (by decide) h64) ?_|refine ag (aX (n:=4) oX (by decide) h64) ?_|refine ag (bn (n:=7) qm (by decide) h64) ?_|refine ag (aX (n:=7) qm (by decide) h64) ?_|refine ag (bn (n:=0) qO (by decide) h64) ?_|refine ag (aX (n:=0) qO (by decide) h64) ?_|refine ag (bn (n:=60) pq (by decide) h64) ?_|refine ag (aX (n:=60) pq (by decide) h64) ?_|refine ag (bn (n:=63) qJ (by decide) h64) ?_|refine ag (aX (n:=63) qJ (by decide) h64) ?_|refine ag (bn (n:=56) qH (by decide) h64) ?_|refine ag (aX (n:=56) qH (by decide) h64) ?_)
  exact ae (aj (.inr rfl) rfl rfl rfl (congrArg V.bool (by
   show (decide ((tk zs).getD (bX 8 8 [101,56]).toNat 0=-6)&&decide ((tk zs).getD (bX 8 8 [97,56]).toNat 0=-4))=_
   rw[aL,pq,qH,lN,h,h1,h2,h3];rfl)))
 ·cases e
end
end Go.Ab
namespace Go.Ab
open IntKind
open Go.Proofs
section
variable{kCa kDb:Bool}
def rXL(f r:Int)(zs:List Int)(ca bit:Int):Bool:=decide ((u8.wrap (ca.tdiv bit)).tmod 2=1)&&!lN f r zs bit
def oo(f r:Int)(zs:List Int)(ca:Int):Bool:=bif decide (15<ca)then false else !(rXL f r zs ca 1||rXL f r zs ca 2||rXL f r zs ca 4||rXL f r zs ca 8)
def pasL(f r:Int)(zs:List Int)(bl:Bool)(pa ha:Int):Bool:=bif decide (pa=-1)then true else bif decide (r<6)||!decide (ha=0)||!ai f r pa then false else bif !decide (i64.wrap (2*i64.wrap (pa.tdiv f))=i64.wrap (eo r (!bl) 2+eo r (!bl) 4))then false else decide (zs.getD pa.toNat 0=0)&&decide (zs.getD (numR f r (pa.tmod f) (eo r (!bl) 2)).toNat 0=0)&&decide (zs.getD (numR f r (pa.tmod f) (eo r (!bl) 4)).toNat 0=qd 1 (!bl))
def pwL(f r:Int)(zs:List Int)(i:Int):Bool:=decide (aU (zs.getD i.toNat 0)=1)&&decide (i64.wrap (i.tdiv f)=fM r (decide (zs.getD i.toNat 0<0)))
def uD(f r:Int)(zs:List Int):Bool:=(List.range zs.length).any fun i=>pwL f r zs i
def nQ(p:Psn):Bool:=bif !aD p.f p.r p.zs||decide (aH p.zs false<0)||decide (aH p.zs true<0)||chkL p.f p.r p.zs (!p.bl)then false else bif uD p.f p.r p.zs then false else oo p.f p.r p.zs p.ca&&pasL p.f p.r p.zs p.bl p.pa p.ha&&decide (0<=p.ha)&&decide (p.ha<=10000)&&decide (1<=p.fu)&&decide (p.fu<=10000)
theorem mm{f r:Int}{zs:List Int}{g:Bool}(hc2:zs.length<=64)(hv:(!decide (f=8)||!decide (r=8)||decide (zs.length=64))=true):(!g||(decide (zs.length=(tk zs).length)&&decide ((tk zs).length<=64)&&(!decide (f=8)||!decide (r=8)||decide ((tk zs).length=64))))=true:=by
 rw[nf,hv];simp[hc2]
theorem yF{f r x:Int}{zs:List Int}{bl:Bool}{n:Int}(hbd:aI f r zs=true)(hx:0<=x/\x<f)(hr:6<=r)(hn:n=2\/n=4):0<=numR f r x (eo r bl n)/\numR f r x (eo r bl n)<zs.length:=by
 have hv:=(bR hbd).1
 have hb:=dh hv
 have hk:eo r bl n=(bif bl then r-n else n-1):=by
  unfold eo;cases bl
  ·exact az (by omega) (by omega)
  ·exact az (by omega) (by omega)
 have ho:onB f r x (eo r bl n)=true:=by
  rw[hk];cases bl
  ·exact iv hx.1 hx.2 (by simp only[cond_false];omega) (by simp only[cond_false];omega)
  ·exact iv hx.1 hx.2 (by simp only[cond_true];omega) (by simp only[cond_true];omega)
 rcases jG f r x (eo r bl n) hv with⟨_,h⟩|⟨h,_⟩
 ·exact(cG hbd).1 h
 ·rw[ho]at h;cases h
theorem Fu{zs:List Int}(h:zs.length<=64){n:Nat}(hn:n=zs.length){g:Bool}:(!g||(decide (n=(tk zs).length)&&decide ((tk zs).length<=64)))=true:=by rw[aR h hn];simp
theorem xB{zs:List Int}(h:zs.length<=64){g b:Bool}(hb:b=true):(!g||(decide (zs.length=(tk zs).length)&&decide ((tk zs).length<=64)&&b))=true:=by rw[bh h rfl hb];simp
theorem wM{g:Bool}{x:Int}{n:Nat}(h:0<=x/\x<n):(!g||(decide (0<=x)&&decide (x<n)))=true:=by simp[h]
def nV:CF
 |[.agg [.int .i64 f,.int .i64 r,.sl 0 0 len none,.bool _bl,.int .u8 ca,.int .i64 _pa,.int .i64 _ha,.int .i64 _fu]],[.ints false .i8 zs]=>some (decide (len=zs.length)&&decide (zs.length<=64)&&(!decide (f=8)||!decide (r=8)||decide (zs.length=64)),.bool (oo f r zs ca),[])
 |_,_=>none
theorem sQ:CtOk (GGx kCa kDb) PP (24,nV):=by
 refine aE Tryz.func24 (by kernel_rfl) rfl fun a0 h0 c0 v0 N0 e hc=>?_
 unfold nV at e
 split at e
 ·rename_i f r len bl ca pa ha fu zs
  cases e
  have hE:=aC (kCa:=kCa) (kDb:=kDb) (cts:=[(51,wH)]) (inl:=[]) ⟨zY,trivial⟩ trivial
  refine av hE 2 Tryz.func24 rfl rfl ?_
  simp only[Bool.and_eq_true,decide_eq_true_eq]at hc
  obtain⟨⟨rfl,hc2⟩,hv⟩:=hc
  refine aq (fun h=>?_) (fun h=>?_)
  ·have h:decide (15<ca)=true:=h
   exact ae (aj (.inr rfl) rfl rfl rfl (by rw[oo,h];rfl))
  have h:decide (15<ca)=false:=h
  repeat (first|refine ah ?_|refine sat_nd ?_)
  refine eA hE 2 5 ?_
  refine rnd ?_
  refine dc (by rfl) ?_
  repeat (first|(first|refine ah ?_|refine sat_nd ?_)|refine ag (mm hc2 hv) ?_)
  refine aq (fun h0=>?_) (fun h0=>?_)
  ·have h0:rXL f r (tk zs) ca 1=true:=h0
   rw[aL]at h0
   exact ae (ae (aj (.inr rfl) rfl rfl rfl (by simp[oo,h,h0])))
  have h0:rXL f r (tk zs) ca 1=false:=h0
  rw[aL]at h0
  refine ae ⟨[(1,.ptr 1 0 0),(8,.sl 2 0 4 none),(9,I 4),(10,I 1)],[.ints false .i8 zs,.cells true [I f,I r,.sl 0 0 zs.length none,Bb bl,.int .u8 ca,I pa,I ha,I fu],.ints true .u8 [1,2,4,8]],Ent.ren [0,1,2] [1,8,9,10] rfl rfl rfl,?_⟩
  refine rnd ?_
  refine dc (by rfl) ?_
  repeat (first|(first|refine ah ?_|refine sat_nd ?_)|refine ag (mm hc2 hv) ?_)
  refine aq (fun h1=>?_) (fun h1=>?_)
  ·have h1:rXL f r (tk zs) ca 2=true:=h1
   rw[aL]at h1
   exact ae (ae (aj (.inr rfl) rfl rfl rfl (by simp[oo,h,h0,h1])))
  have h1:rXL f r (tk zs) ca 2=false:=h1
  rw[aL]at h1
  refine ae ⟨[(1,.ptr 1 0 0),(8,.sl 2 0 4 none),(9,I 4),(10,I 2)],[.ints false .i8 zs,.cells true [I f,I r,.sl 0 0 zs.length none,Bb bl,.int .u8 ca,I pa,I ha,I fu],.ints true .u8 [1,2,4,8]],Ent.ren [0,1,2] [1,8,9,10] rfl rfl rfl,?_⟩
  refine rnd ?_
  refine dc (by rfl) ?_
  repeat (first|(first|refine ah ?_|refine sat_nd ?_)|refine ag (mm hc2 hv) ?_)
  refine aq (fun h2=>?_) (fun h2=>?_)
  ·have h2:rXL f r (tk zs) ca 4=true:=h2
   rw[aL]at h2
   exact ae (ae (aj (.inr rfl) rfl rfl rfl (by simp[oo,h,h0,h1,h2])))
  have h2:rXL f r (tk zs) ca 4=false:=h2
  rw[aL]at h2
  refine ae ⟨[(1,.ptr 1 0 0),(8,.sl 2 0 4 none),(9,I 4),(10,I 3)],[.ints false .i8 zs,.cells true [I f,I r,.sl 0 0 zs.length none,Bb bl,.int .u8 ca,I pa,I ha,I fu],.ints true .u8 [1,2,4,8]],Ent.ren [0,1,2] [1,8,9,10] rfl rfl rfl,?_⟩
  refine rnd ?_
  refine dc (by rfl) ?_
  repeat (first|(first|refine ah ?_|refine sat_nd ?_)|refine ag (mm hc2 hv) ?_)
  refine aq (fun h3=>?_) (fun h3=>?_)
  ·have h3:rXL f r (tk zs) ca 8=true:=h3
   rw[aL]at h3
   exact ae (ae (aj (.inr rfl) rfl rfl rfl (by simp[oo,h,h0,h1,h2,h3])))
  have h3:rXL f r (tk zs) ca 8=false:=h3
  rw[aL]at h3
  refine ae ⟨[(1,.ptr 1 0 0),(8,.sl 2 0 4 none),(9,I 4),(10,I 4)],[.ints false .i8 zs,.cells true [I f,I r,.sl 0 0 zs.length none,Bb bl,.int .u8 ca,I pa,I ha,I fu],.ints true .u8 [1,2,4,8]],Ent.ren [0,1,2] [1,8,9,10] rfl rfl rfl,?_⟩
  refine rnd ?_
  refine th (by rfl) ?_
  exact ae (ae (aj (.inr rfl) rfl rfl rfl (by simp[oo,h,h0,h1,h2,h3])))
 ·cases e
def jY:CF
 |[.agg [.int .i64 f,.int .i64 r,.sl 0 0 len none,.bool bl,.int .u8 _ca,.int .i64 pa,.int .i64 ha,.int .i64 _fu]],[.ints false .i8 zs]=>some (decide (len=zs.length)&&decide (zs.length<=64)&&aI f r zs,.bool (pasL f r zs bl pa ha),[])
 |_,_=>none
theorem sG:CtOk (GGx kCa kDb) PP (25,jY):=by
 refine aE Tryz.func25 (by kernel_rfl) rfl fun a0 h0 c0 v0 N0 e hc=>?_
 unfold jY at e
 split at e
 ·rename_i f r len bl ca pa ha fu zs
  cases e
  have hE:=aC (kCa:=kCa) (kDb:=kDb) (cts:=[(52,sr),(22,fk),(53,uP),(54,mh),(55,rD)]) (inl:=[]) ⟨pE,cP,zf,oa,wD,trivial⟩ trivial
  refine av hE 2 Tryz.func25 rfl rfl ?_
  simp only[Bool.and_eq_true,decide_eq_true_eq]at hc
  obtain⟨⟨rfl,hc2⟩,hv⟩:=hc
  refine aq (fun h=>?_) (fun h=>?_)
  ·have h:decide (pa=-1)=true:=h
   exact ae (aj (.inr rfl) rfl rfl rfl (by rw[pasL,h];rfl))
  have h:decide (pa=-1)=false:=h
  repeat (first|refine ah ?_|refine sat_nd ?_)
  refine aq (fun h1=>?_) (fun h1=>?_)
  ·have h1:(decide (r<6)||!decide (ha=0)||!ai f r pa)=true:=h1
   exact ae (aj (.inr rfl) rfl rfl rfl (by rw[pasL,h,h1];rfl))
  have h1:(decide (r<6)||!decide (ha=0)||!ai f r pa)=false:=h1
  have h1':=h1
  simp only[Bool.or_eq_false_iff,decide_eq_false_iff_not,Bool.not_eq_false']at h1'
  obtain⟨⟨hr,_⟩,hpv⟩:=h1'
  have hf0:(!decide (f=0))=true:=by have:=dh (bR hv).1;simp;omega
  obtain⟨hp1,hp2⟩:=(cG hv).1 hpv
  obtain⟨_,hx1,hx2,_⟩:=de hpv
  have n2:=yF (bl:=!bl) (n:=2) hv ⟨hx1,hx2⟩ (by omega) (.inl rfl)
  have n4:=yF (bl:=!bl) (n:=4) hv ⟨hx1,hx2⟩ (by omega) (.inr rfl)
  repeat (first|(first|refine ah ?_|refine sat_nd ?_)|refine ag hf0 ?_)
  refine aq (fun h2=>?_) (fun h2=>?_)
  ·have h2:(!decide (i64.wrap (2*i64.wrap (pa.tdiv f))=i64.wrap (eo r (!bl) 2+eo r (!bl) 4)))=true:=h2
   exact ae (aj (.inr rfl) rfl rfl rfl (by rw[pasL,h,h1,h2];rfl))
  have h2:(!decide (i64.wrap (2*i64.wrap (pa.tdiv f))=i64.wrap (eo r (!bl) 2+eo r (!bl) 4)))=false:=h2
  repeat (first|(first|refine ah ?_|refine sat_nd ?_)|refine ag (by simp only[Bool.and_eq_true,decide_eq_true_eq];exact⟨hp1,hp2⟩) ?_|refine ag (wM n2) ?_|refine ag (wM n4) ?_)
  exact ae (aj (.inr rfl) rfl rfl rfl (by rw[pasL,h,h1,h2];rfl))
 ·cases e
theorem Ga{f r:Int}{zs:List Int}{_bl:Bool}{x y:Bool}(hc2:zs.length<=64):(!(!(!aD f r (tk zs)||x||y))||(decide (zs.length=(tk zs).length)&&decide ((tk zs).length<=64)&&vsB f r))=true:=by
 cases h:aD f r (tk zs) with
 |false=>simp
 |true=>rw[nf,(aJ h).1];simp[hc2]
theorem v88{f r:Int}{zs:List Int}(h:aI f r zs=true):(!decide (f=8)||!decide (r=8)||decide (zs.length=64))=true:=by
 cases h8:is88 f r with
 |false=>simp only[is88,Bool.and_eq_false_iff]at h8;rcases h8 with h8|h8<;>rw[h8]<;>simp
 |true=>rw[uS h h8];simp
def mE:CF
 |[.agg [.int .i64 f,.int .i64 r,.sl 0 0 len none,.bool bl,.int .u8 ca,.int .i64 pa,.int .i64 ha,.int .i64 fu]],[.ints false .i8 zs]=>some (decide (len=zs.length)&&decide (zs.length<=64),.bool (nQ ⟨f,r,zs,bl,ca,pa,ha,fu⟩),[])
 |_,_=>none
theorem nB:CtOk (GGx kCa kDb) PP (5,mE):=by
 refine aE Tryz.func5 (by kernel_rfl) rfl fun a0 h0 c0 v0 N0 e hc=>?_
 unfold mE at e
 split at e
 ·rename_i f r len bl ca pa ha fu zs
  cases e
  have hE:=aC (kCa:=kCa) (kDb:=kDb) (cts:=[(18,ve),(19,jV),(20,rz),(21,mA),(22,fk),(23,vR),(24,nV),(25,jY)]) (inl:=[(7,Tryz.f7)]) ⟨zJ,lE,vI,nF,cP,zb,sQ,sG,trivial⟩ ⟨⟨Tryz.func7,by kernel_rfl⟩,trivial⟩
  refine av hE 2 Tryz.func5 rfl rfl ?_
  simp only[Bool.and_eq_true,decide_eq_true_eq]at hc
  obtain⟨rfl,hc2⟩:=hc
  repeat (first|(first|refine ah ?_|refine sat_nd ?_)|refine ag (aR hc2 rfl) ?_|refine ag (Fu hc2 rfl) ?_|refine ag (Ga (_bl:=bl) hc2) ?_)
  refine aq (fun h=>?_) (fun h=>?_)
  ·have h:(!aD f r (tk zs)||decide (aH (tk zs) false<0)||decide (aH (tk zs) true<0)||chkL f r (tk zs) (!bl))=true:=h
   rw[aL]at h
   exact ae (aj (.inr rfl) rfl rfl rfl (by simp only[nQ,h,cond_true]))
  have h:(!aD f r (tk zs)||decide (aH (tk zs) false<0)||decide (aH (tk zs) true<0)||chkL f r (tk zs) (!bl))=false:=h
  rw[aL]at h
  have h':=h
  simp only[Bool.or_eq_false_iff,Bool.not_eq_false']at h'
  obtain⟨hvs,_,hbd,_⟩:=aJ h'.1.1.1
  have hf0:(!decide (f=0))=true:=by have:=dh hvs;simp;omega
  have hf1:∀ g:Bool,(!g||!decide (f=0))=true:=fun g=>by rw[hf0];simp
  have h88:=v88 hbd
  have h88t:(!decide (f=8)||!decide (r=8)||decide ((tk zs).length=64))=true:=by rw[aL];exact h88
  have hbdt:aI f r (tk zs)=true:=by rw[aL];exact hbd
  refine bU hE 2 (fun i (_:Unit)=>([(1,.ptr 1 0 0),(4,I i)],[.ints false .i8 zs,.cells true [I f,I r,.sl 0 0 zs.length none,Bb bl,.int .u8 ca,I pa,I ha,I fu]])) zs.length (fun j _=>∀ k,k<j->pwL f r zs (k:Nat)=false) () (by omega) (Ent.ren [0,1] [1,4] rfl rfl rfl) (fun k hk=>absurd hk (by omega)) ?_
  intro j i _ hij hj hz
  refine aq (fun hlt=>?_) (fun hlt=>?_)
  ·have hlt':j<zs.length:=by simp at hlt;omega
   repeat (first|(first|refine ah ?_|refine sat_nd ?_)|refine ag (by simp only[Bool.and_eq_true,decide_eq_true_eq];omega) ?_|refine ag (hf1 _) ?_|refine ag (wM ⟨by omega,by omega⟩) ?_)
   refine aq (fun hon=>?_) (fun hon=>?_)
   ·have hon:pwL f r zs i=true:=hon
    have hpw:uD f r zs=true:=List.any_eq_true.2 ⟨j,List.mem_range.2 hlt',by rw[<-hij];exact hon⟩
    exact ae (ae (aj (.inr rfl) rfl rfl rfl (by simp only[nQ,h,hpw,cond_true,cond_false])))
   ·have hon:pwL f r zs i=false:=hon
    refine ae ⟨hlt',(),fun k hk=>?_,Ent.ren [0,1] [1,4] rfl rfl rfl⟩
    rcases Nat.lt_or_ge k j with hk2|hk2
    ·exact hz k hk2
    ·obtain rfl:k=j:=by omega
     rw[<-hij];exact hon
  ·obtain rfl:j=zs.length:=by simp at hlt;omega
   have hpw:uD f r zs=false:=List.any_eq_false.2 fun k hk=>by rw[hz k (List.mem_range.1 hk)];simp
   refine ae ?_
   repeat (first|(first|refine ah ?_|refine sat_nd ?_)|refine ag (aR hc2 rfl) ?_|refine ag (bh hc2 rfl h88t) ?_|refine ag (xB hc2 hbdt) ?_|refine ag (xB hc2 h88t) ?_)
   exact ae (aj (.inr rfl) rfl rfl rfl (by
    show V.bool (oo f r (tk zs) ca&&pasL f r (tk zs) bl pa ha&&decide (0<=ha)&&decide (ha<=10000)&&decide (1<=fu)&&decide (fu<=10000))=_
    rw[aL];simp only[nQ,h,hpw,cond_false]))
 ·cases e
end
section
variable{kDb:Bool}
abbrev u8or(a b:Int):Int:=band .or .u8 a b
def aV(bl:Bool)(ca a b:Int)(c:Bool)(bit k to:Int):Bool:=!(c==bl)||decide (bS ca bit=0)||!decide (k=a)||!decide (to=b)
def wayN(zs:List Int)(bl:Bool)(ca a b:Int):Nat:=bif !decide (absP (zs.getD a.toNat 0)=6)then 4 else bif !aV bl ca a b false 1 4 6 then 0 else bif !aV bl ca a b false 2 4 2 then 1 else bif !aV bl ca a b true 4 60 62 then 2 else bif !aV bl ca a b true 8 60 58 then 3 else 4
def wBit(n:Nat):Int:=([1,2,4,8,0]:List Int).getD n 0
def wBl(n:Nat):Bool:=[false,false,true,true,false].getD n false
def lP(n:Nat):Int:=([4,4,60,60,0]:List Int).getD n 0
def wTo(n:Nat):Int:=([6,2,62,58,0]:List Int).getD n 0
def wCor(n:Nat):Int:=([7,0,63,56,0]:List Int).getD n 0
def wCro(n:Nat):Int:=([5,3,61,59,0]:List Int).getD n 0
def wayB(f r:Int)(zs:List Int)(n:Nat):Bool:=!decide (n=4)&&decide (uand (bC f r (lP n) (wCor n)).1 (occR f r zs)=0)
def KJ(r:Int)(bl:Bool):Int:=bif bl then 0 else i64.wrap (r-1)
def iy(f r:Int)(zs:List Int)(bl:Bool)(pa a b pr:Int):Bool:=
 bif !decide (absP (zs.getD a.toNat 0)=1)then decide (pr=0)&&decide (uand (ushr (bQ f r (absP (zs.getD a.toNat 0)) a (occR f r zs)).1 b) 1=1)
 else decide (uand (ushr (uor (cF f r bl a (occR f r zs)).1 (bif decide (zs.getD b.toNat 0=0)&&!decide (b=pa)then 0 else(gj f r bl a).1)) b) 1=1)&&((!decide (pr=0))==decide (i64.wrap (b.tdiv f)=KJ r bl))
def chkB(f r:Int)(zs:List Int)(b:Bool):Bool:=!decide ((aM f r zs b).1=0)
def di(at_ s k q bit:Int):Int:=bif decide (k=at_)||decide (q=at_)then u8or s bit else s
def DB(at_:Int):Int:=di at_ (di at_ (di at_ (di at_ 0 4 7 1) 4 0 2) 60 63 4) 60 56 8
theorem rm{at_ s k q bit:Int}(h:(decide (k=at_)||decide (q=at_))=true):di at_ s k q bit=u8or s bit:=by rw[di,h];rfl
theorem rO{at_ s k q bit:Int}(h:(decide (k=at_)||decide (q=at_))=false):di at_ s k q bit=s:=by rw[di,h];rfl
theorem ni{g:Bool}{b:Int}(h:0<=b):(!g||decide (0<=b))=true:=by simp[h]
theorem aN{zs:List Int}{b:Int}(h:0<=b)(h1:b<zs.length):(decide (0<=b)&&decide (b<zs.length))=true:=by simp[h,h1]
def yx:CF
 |[.agg [.int .i64 f,.int .i64 r,.sl 0 0 len none,.bool _bl,.int .u8 _ca,.int .i64 _pa,.int .i64 _ha,.int .i64 _fu]],[.ints false .i8 zs]=>some (decide (len=zs.length)&&decide (zs.length<=64),.int .u64 (occR f r zs),[])
 |_,_=>none
theorem uA:CtOk (GGx true kDb) PP (128,yx):=by
 refine aE Tryz.func128 (by kernel_rfl) rfl fun a0 h0 c0 v0 N0 e hc=>?_
 unfold yx at e
 split at e
 ·rename_i f r len bl ca pa ha fu zs
  cases e
  have hE:=aC (kCa:=true) (kDb:=kDb) (cts:=[(112,nr)]) (inl:=[]) ⟨kN,trivial⟩ trivial
  refine av hE 2 Tryz.func128 rfl rfl ?_
  simp only[Bool.and_eq_true,decide_eq_true_eq]at hc
  obtain⟨rfl,hc2⟩:=hc
  repeat (first|(first|refine ah ?_|refine sat_nd ?_)|refine ag (aR hc2 rfl) ?_)
  refine ae (aj (.inr rfl) rfl rfl rfl (by
   show V.int .u64 (occR f r (tk zs))=_
   rw[aL]))
 ·cases e
def BJ:CF
 |[.agg [.int .i64 f,.int .i64 r,.sl 0 0 len none,.bool _bl,.int .u8 _ca,.int .i64 _pa,.int .i64 _ha,.int .i64 _fu],.bool b],[.ints false .i8 zs]=>some (decide (len=zs.length)&&decide (zs.length<=64),.bool (chkB f r zs b),[])
 |_,_=>none
theorem AF:CtOk (GGx true kDb) PP (85,BJ):=by
 refine aE Tryz.func85 (by kernel_rfl) rfl fun a0 h0 c0 v0 N0 e hc=>?_
 unfold BJ at e
 split at e
 ·rename_i f r len bl ca pa ha fu b zs
  cases e
  have hE:=aC (kCa:=true) (kDb:=kDb) (cts:=[(10,fP)]) (inl:=[]) ⟨fW,trivial⟩ trivial
  refine av hE 2 Tryz.func85 rfl rfl ?_
  simp only[Bool.and_eq_true,decide_eq_true_eq]at hc
  obtain⟨rfl,hc2⟩:=hc
  repeat (first|(first|refine ah ?_|refine sat_nd ?_)|refine ag (aR hc2 rfl) ?_)
  refine ae (aj (.inr rfl) rfl rfl rfl (by
   show V.bool (chkB f r (tk zs) b)=_
   rw[aL]))
 ·cases e
def iE:CF
 |[.agg [.int .i64 f,.int .i64 r,.sl 0 0 len none,.bool bl,.int .u8 ca,.int .i64 _pa,.int .i64 _ha,.int .i64 _fu],.agg [.int .i64 a,.int .i64 b,.int .i8 _pr]],[.ints false .i8 zs]=>some (decide (len=zs.length)&&decide (zs.length<=64)&&(aI f r zs&&ai f r a&&ai f r b),.tup [.agg [.int .u8 (wBit (wayN zs bl ca a b)),Bb (wBl (wayN zs bl ca a b)),I (lP (wayN zs bl ca a b)),I (wTo (wayN zs bl ca a b)),I (wCor (wayN zs bl ca a b)),I (wCro (wayN zs bl ca a b))],Bb (wayB f r zs (wayN zs bl ca a b))],[])
 |_,_=>none
theorem oV:CtOk (GGx true kDb) PP (80,iE):=by
 refine aE Tryz.func80 (by kernel_rfl) rfl fun a0 h0 c0 v0 N0 e hc=>?_
 unfold iE at e
 split at e
 ·rename_i f r len bl ca pa ha fu a b pr zs
  cases e
  have hE:=aC (kCa:=true) (kDb:=kDb) (cts:=[(82,tU),(72,eW),(128,yx)]) (inl:=[]) ⟨oL,jP,uA,trivial⟩ trivial
  refine Dn hE 2 Tryz.func80 rfl rfl ?_
  simp only[Bool.and_eq_true,decide_eq_true_eq]at hc
  obtain⟨⟨rfl,hc2⟩,⟨hbd,hva⟩,hvb⟩:=hc
  obtain⟨ha0,ha1⟩:=(cG hbd).1 hva
  obtain⟨hb0,hb1⟩:=(cG hbd).1 hvb
  repeat (first|(first|refine ah ?_|refine sat_nd ?_)|refine ag (aN ha0 ha1) ?_)
  refine aq (fun hk=>?_) (fun hk=>?_)
  ·have hk:(!decide (absP (zs.getD a.toNat 0)=6))=true:=hk
   have hn:wayN zs bl ca a b=4:=by rw[wayN,hk,cond_true]
   refine ae (vC (aj (.inr rfl) rfl rfl rfl rfl) ?_)
   rw[hn]
   exact fun _ _ h=>h
  have hk:(!decide (absP (zs.getD a.toNat 0)=6))=false:=hk
  refine eA hE 2 5 ?_
  refine rnd ?_
  refine dc (by rfl) ?_
  repeat (first|refine ah ?_|refine sat_nd ?_)
  refine aq (fun h0=>?_) (fun h0=>?_)
  rotate_left
  ·have h0:aV bl ca a b false 1 4 6=false:=h0
   have hn:wayN zs bl ca a b=0:=by simp only[wayN,hk,h0,Bool.not_false,cond_true,cond_false]
   repeat (first|(first|refine ah ?_|refine sat_nd ?_)|refine ag (aR hc2 rfl) ?_)
   refine ae (ae (vC (aj (.inr rfl) rfl rfl rfl rfl) ?_))
   rw[hn]
   show Like (V.tup [.agg [.int .u8 1,.lit false,I 4,I 6,I 7,I 5],Bb (decide (uand (bC f r 4 7).1 (occR f r (tk zs))=0))]) _
   rw[aL]
   exact fun _ _ h=>h
  have h0:aV bl ca a b false 1 4 6=true:=h0
  refine ae ⟨[(2,.ptr 1 0 0),(3,.ptr 2 0 0),(4,.ptr 3 0 0),(19,.agg [.int .u8 1,.lit false,.int .i64 4,.int .i64 6,.int .i64 7,.int .i64 5,.int .u8 2,.lit false,.int .i64 4,.int .i64 2,.int .i64 0,.int .i64 3,.int .u8 4,.lit true,.int .i64 60,.int .i64 62,.int .i64 63,.int .i64 61,.int .u8 8,.lit true,.int .i64 60,.int .i64 58,.int .i64 56,.int .i64 59]),(20,I 1)],[.ints false .i8 zs,.cells true [I f,I r,.sl 0 0 zs.length none,Bb bl,.int .u8 ca,I pa,I ha,I fu],.cells true [I a,I b,.int .i8 pr],.cells true [.int .u8 0,.lit false,I 0,I 0,I 0,I 0]],Ent.ren [0,1,2,3] [2,3,4,19,20] rfl rfl rfl,?_⟩
  refine rnd ?_
  refine dc (by rfl) ?_
  repeat (first|refine ah ?_|refine sat_nd ?_)
  refine aq (fun h1=>?_) (fun h1=>?_)
  rotate_left
  ·have h1:aV bl ca a b false 2 4 2=false:=h1
   have hn:wayN zs bl ca a b=1:=by simp only[wayN,hk,h0,h1,Bool.not_true,Bool.not_false,cond_true,cond_false]
   repeat (first|(first|refine ah ?_|refine sat_nd ?_)|refine ag (aR hc2 rfl) ?_)
   refine ae (ae (vC (aj (.inr rfl) rfl rfl rfl rfl) ?_))
   rw[hn]
   show Like (V.tup [.agg [.int .u8 2,.lit false,I 4,I 2,I 0,I 3],Bb (decide (uand (bC f r 4 0).1 (occR f r (tk zs))=0))]) _
   rw[aL]
   exact fun _ _ h=>h
  have h1:aV bl ca a b false 2 4 2=true:=h1
  refine ae ⟨[(2,.ptr 1 0 0),(3,.ptr 2 0 0),(4,.ptr 3 0 0),(19,.agg [.int .u8 1,.lit false,.int .i64 4,.int .i64 6,.int .i64 7,.int .i64 5,.int .u8 2,.lit false,.int .i64 4,.int .i64 2,.int .i64 0,.int .i64 3,.int .u8 4,.lit true,.int .i64 60,.int .i64 62,.int .i64 63,.int .i64 61,.int .u8 8,.lit true,.int .i64 60,.int .i64 58,.int .i64 56,.int .i64 59]),(20,I 2)],[.ints false .i8 zs,.cells true [I f,I r,.sl 0 0 zs.length none,Bb bl,.int .u8 ca,I pa,I ha,I fu],.cells true [I a,I b,.int .i8 pr],.cells true [.int .u8 0,.lit false,I 0,I 0,I 0,I 0]],Ent.ren [0,1,2,3] [2,3,4,19,20] rfl rfl rfl,?_⟩
  refine rnd ?_
  refine dc (by rfl) ?_
  repeat (first|refine ah ?_|refine sat_nd ?_)
  refine aq (fun h2=>?_) (fun h2=>?_)
  rotate_left
  ·have h2:aV bl ca a b true 4 60 62=false:=h2
   have hn:wayN zs bl ca a b=2:=by simp only[wayN,hk,h0,h1,h2,Bool.not_true,Bool.not_false,cond_true,cond_false]
   repeat (first|(first|refine ah ?_|refine sat_nd ?_)|refine ag (aR hc2 rfl) ?_)
   refine ae (ae (vC (aj (.inr rfl) rfl rfl rfl rfl) ?_))
   rw[hn]
   show Like (V.tup [.agg [.int .u8 4,.lit true,I 60,I 62,I 63,I 61],Bb (decide (uand (bC f r 60 63).1 (occR f r (tk zs))=0))]) _
   rw[aL]
   exact fun _ _ h=>h
  have h2:aV bl ca a b true 4 60 62=true:=h2
  refine ae ⟨[(2,.ptr 1 0 0),(3,.ptr 2 0 0),(4,.ptr 3 0 0),(19,.agg [.int .u8 1,.lit false,.int .i64 4,.int .i64 6,.int .i64 7,.int .i64 5,.int .u8 2,.lit false,.int .i64 4,.int .i64 2,.int .i64 0,.int .i64 3,.int .u8 4,.lit true,.int .i64 60,.int .i64 62,.int .i64 63,.int .i64 61,.int .u8 8,.lit true,.int .i64 60,.int .i64 58,.int .i64 56,.int .i64 59]),(20,I 3)],[.ints false .i8 zs,.cells true [I f,I r,.sl 0 0 zs.length none,Bb bl,.int .u8 ca,I pa,I ha,I fu],.cells true [I a,I b,.int .i8 pr],.cells true [.int .u8 0,.lit false,I 0,I 0,I 0,I 0]],Ent.ren [0,1,2,3] [2,3,4,19,20] rfl rfl rfl,?_⟩
  refine rnd ?_
  refine dc (by rfl) ?_
  repeat (first|refine ah ?_|refine sat_nd ?_)
  refine aq (fun h3=>?_) (fun h3=>?_)
  rotate_left
  ·have h3:aV bl ca a b true 8 60 58=false:=h3
   have hn:wayN zs bl ca a b=3:=by simp only[wayN,hk,h0,h1,h2,h3,Bool.not_true,Bool.not_false,cond_true,cond_false]
   repeat (first|(first|refine ah ?_|refine sat_nd ?_)|refine ag (aR hc2 rfl) ?_)
   refine ae (ae (vC (aj (.inr rfl) rfl rfl rfl rfl) ?_))
   rw[hn]
   show Like (V.tup [.agg [.int .u8 8,.lit true,I 60,I 58,I 56,I 59],Bb (decide (uand (bC f r 60 56).1 (occR f r (tk zs))=0))]) _
   rw[aL]
   exact fun _ _ h=>h
  have h3:aV bl ca a b true 8 60 58=true:=h3
  refine ae ⟨[(2,.ptr 1 0 0),(3,.ptr 2 0 0),(4,.ptr 3 0 0),(19,.agg [.int .u8 1,.lit false,.int .i64 4,.int .i64 6,.int .i64 7,.int .i64 5,.int .u8 2,.lit false,.int .i64 4,.int .i64 2,.int .i64 0,.int .i64 3,.int .u8 4,.lit true,.int .i64 60,.int .i64 62,.int .i64 63,.int .i64 61,.int .u8 8,.lit true,.int .i64 60,.int .i64 58,.int .i64 56,.int .i64 59]),(20,I 4)],[.ints false .i8 zs,.cells true [I f,I r,.sl 0 0 zs.length none,Bb bl,.int .u8 ca,I pa,I ha,I fu],.cells true [I a,I b,.int .i8 pr],.cells true [.int .u8 0,.lit false,I 0,I 0,I 0,I 0]],Ent.ren [0,1,2,3] [2,3,4,19,20] rfl rfl rfl,?_⟩
  refine rnd ?_
  refine th (by rfl) ?_
  have hn:wayN zs bl ca a b=4:=by simp only[wayN,hk,h0,h1,h2,h3,Bool.not_true,cond_false]
  refine ae (ae (vC (aj (.inr rfl) rfl rfl rfl rfl) ?_))
  rw[hn]
  exact fun _ _ h=>h
 ·cases e
def wK:CF
 |[.agg [.int .i64 f,.int .i64 r,.sl 0 0 len none,.bool bl,.int .u8 _ca,.int .i64 pa,.int .i64 _ha,.int .i64 _fu],.agg [.int .i64 a,.int .i64 b,.int .i8 pr]],[.ints false .i8 zs]=>some (decide (len=zs.length)&&decide (zs.length<=64)&&(aI f r zs&&ai f r a&&ai f r b),.bool (iy f r zs bl pa a b pr),[])
 |_,_=>none
theorem Ap:CtOk (GGx true kDb) PP (81,wK):=by
 refine aE Tryz.func81 (by kernel_rfl) rfl fun a0 h0 c0 v0 N0 e hc=>?_
 unfold wK at e
 split at e
 ·rename_i f r len bl ca pa ha fu a b pr zs
  cases e
  have hE:=aC (kCa:=true) (kDb:=kDb) (cts:=[(82,tU),(128,yx),(73,iJ),(129,qK),(122,sL)]) (inl:=[]) ⟨oL,uA,fQ,pz,oO,trivial⟩ trivial
  refine av hE 2 Tryz.func81 rfl rfl ?_
  simp only[Bool.and_eq_true,decide_eq_true_eq]at hc
  obtain⟨⟨rfl,hc2⟩,⟨hbd,hva⟩,hvb⟩:=hc
  obtain⟨ha0,ha1⟩:=(cG hbd).1 hva
  obtain⟨hb0,hb1⟩:=(cG hbd).1 hvb
  have hf0:f≠0:=by have:=dh (bR hbd).1;omega
  repeat (first|(first|refine ah ?_|refine sat_nd ?_)|refine ag (aN ha0 ha1) ?_)
  refine aq (fun hk=>?_) (fun hk=>?_)
  ·have hk:(!decide (absP (zs.getD a.toNat 0)=1))=true:=hk
   repeat (first|(first|refine ah ?_|refine sat_nd ?_)|refine ag (aR hc2 rfl) ?_|refine ag (ni hb0) ?_)
   exact ae (aj (.inr rfl) rfl rfl rfl (congrArg V.bool (by
    show (decide (pr=0)&&decide (uand (ushr (bQ f r (absP (zs.getD a.toNat 0)) a (occR f r (tk zs))).1 b) 1=1))=_
    rw[aL,iy,hk];rfl)))
  have hk:(!decide (absP (zs.getD a.toNat 0)=1))=false:=hk
  repeat (first|refine ah ?_|refine sat_nd ?_)
  refine aq (fun hb=>?_) (fun hb=>?_)
  ·subst hb
   repeat (first|(first|refine ah ?_|refine sat_nd ?_)|refine ag (aR hc2 rfl) ?_|refine ag (aN ha0 ha1) ?_|refine ag (aN hb0 hb1) ?_|refine ag (ni hb0) ?_|refine ag (gC hf0) ?_)
   refine aq (fun hz=>?_) (fun hz=>?_)
   ·have hz:(decide (zs.getD b.toNat 0=0)&&!decide (b=pa))=true:=hz
    repeat (first|(first|refine ah ?_|refine sat_nd ?_)|refine ag (aR hc2 rfl) ?_|refine ag (aN ha0 ha1) ?_|refine ag (aN hb0 hb1) ?_|refine ag (ni hb0) ?_|refine ag (gC hf0) ?_)
    exact ae (aj (.inr rfl) rfl rfl rfl (congrArg V.bool (by
     show (decide (uand (ushr (uor (cF f r true a (occR f r (tk zs))).1 (0)) b) 1=1)&&((!decide (pr=0))==decide (i64.wrap (b.tdiv f)=0)))=_
     rw[aL,iy,hk,cond_false,hz];rfl)))
   ·have hz:(decide (zs.getD b.toNat 0=0)&&!decide (b=pa))=false:=hz
    repeat (first|(first|refine ah ?_|refine sat_nd ?_)|refine ag (aR hc2 rfl) ?_|refine ag (aN ha0 ha1) ?_|refine ag (aN hb0 hb1) ?_|refine ag (ni hb0) ?_|refine ag (gC hf0) ?_)
    exact ae (aj (.inr rfl) rfl rfl rfl (congrArg V.bool (by
     show (decide (uand (ushr (uor (cF f r true a (occR f r (tk zs))).1 ((gj f r true a).1)) b) 1=1)&&((!decide (pr=0))==decide (i64.wrap (b.tdiv f)=0)))=_
     rw[aL,iy,hk,cond_false,hz];rfl)))
  ·subst hb
   repeat (first|(first|refine ah ?_|refine sat_nd ?_)|refine ag (aR hc2 rfl) ?_|refine ag (aN ha0 ha1) ?_|refine ag (aN hb0 hb1) ?_|refine ag (ni hb0) ?_|refine ag (gC hf0) ?_)
   refine aq (fun hz=>?_) (fun hz=>?_)
   ·have hz:(decide (zs.getD b.toNat 0=0)&&!decide (b=pa))=true:=hz
    repeat (first|(first|refine ah ?_|refine sat_nd ?_)|refine ag (aR hc2 rfl) ?_|refine ag (aN ha0 ha1) ?_|refine ag (aN hb0 hb1) ?_|refine ag (ni hb0) ?_|refine ag (gC hf0) ?_)
    exact ae (aj (.inr rfl) rfl rfl rfl (congrArg V.bool (by
     show (decide (uand (ushr (uor (cF f r false a (occR f r (tk zs))).1 (0)) b) 1=1)&&((!decide (pr=0))==decide (i64.wrap (b.tdiv f)=i64.wrap (r-1))))=_
     rw[aL,iy,hk,cond_false,hz];rfl)))
   ·have hz:(decide (zs.getD b.toNat 0=0)&&!decide (b=pa))=false:=hz
    repeat (first|(first|refine ah ?_|refine sat_nd ?_)|refine ag (aR hc2 rfl) ?_|refine ag (aN ha0 ha1) ?_|refine ag (aN hb0 hb1) ?_|refine ag (ni hb0) ?_|refine ag (gC hf0) ?_)
    exact ae (aj (.inr rfl) rfl rfl rfl (congrArg V.bool (by
     show (decide (uand (ushr (uor (cF f r false a (occR f r (tk zs))).1 ((gj f r false a).1)) b) 1=1)&&((!decide (pr=0))==decide (i64.wrap (b.tdiv f)=i64.wrap (r-1))))=_
     rw[aL,iy,hk,cond_false,hz];rfl)))
 ·cases e
def uQ:CF
 |[.int .i64 at_],[]=>some (true,.int .u8 (DB at_),[])
 |_,_=>none
theorem Ao:CtOk (GGx true kDb) PP (83,uQ):=by
 refine aE Tryz.func83 (by kernel_rfl) rfl fun a0 h0 c0 v0 N0 e hc=>?_
 unfold uQ at e
 split at e
 ·rename_i at_
  cases e
  have hE:=cutE (aC (kCa:=true) (kDb:=kDb) (cts:=[]) (inl:=[]) trivial trivial)
  refine av hE 2 Tryz.func83 rfl rfl ?_
  repeat (first|refine ah ?_|refine sat_nd ?_)
  refine eA hE 2 5 ?_
  refine rnd ?_
  refine bT hE 2 rfl (fun _=>?_) (fun h=>absurd h (by decide))
  repeat (first|refine ah ?_|refine sat_nd ?_)
  refine cJ hE 2 (fun e tm hp=>e=.normal/\tm=[(0,I at_),(3,.int .u8 (di at_ 0 4 7 1)),(6,.agg [.int .u8 1,.lit false,.int .i64 4,.int .i64 6,.int .i64 7,.int .i64 5,.int .u8 2,.lit false,.int .i64 4,.int .i64 2,.int .i64 0,.int .i64 3,.int .u8 4,.lit true,.int .i64 60,.int .i64 62,.int .i64 63,.int .i64 61,.int .u8 8,.lit true,.int .i64 60,.int .i64 58,.int .i64 56,.int .i64 59]),(7,I 0)]/\hp=[]) rfl (fun h=>?_) (fun h=>?_) ?_
  ·have h:(decide (4=at_)||decide (7=at_))=true:=h
   exact ae ⟨_,_,Ent.ren [] [0,3,6,7] rfl rfl rfl,rfl,by rw[rm h],rfl⟩
  ·have h:(decide (4=at_)||decide (7=at_))=false:=h
   exact ae ⟨_,_,Ent.ren [] [0,3,6,7] rfl rfl rfl,rfl,by rw[rO h],rfl⟩
  rintro e tm hp ⟨rfl,rfl,rfl⟩
  refine ae ⟨[(0,I at_),(3,.int .u8 (di at_ 0 4 7 1)),(6,.agg [.int .u8 1,.lit false,.int .i64 4,.int .i64 6,.int .i64 7,.int .i64 5,.int .u8 2,.lit false,.int .i64 4,.int .i64 2,.int .i64 0,.int .i64 3,.int .u8 4,.lit true,.int .i64 60,.int .i64 62,.int .i64 63,.int .i64 61,.int .u8 8,.lit true,.int .i64 60,.int .i64 58,.int .i64 56,.int .i64 59]),(7,I 1)],[],Ent.ren [] [0,3,6,7] rfl rfl rfl,?_⟩
  refine rnd ?_
  refine bT hE 2 rfl (fun _=>?_) (fun h=>absurd h (by decide))
  repeat (first|refine ah ?_|refine sat_nd ?_)
  refine cJ hE 2 (fun e tm hp=>e=.normal/\tm=[(0,I at_),(3,.int .u8 (di at_ (di at_ 0 4 7 1) 4 0 2)),(6,.agg [.int .u8 1,.lit false,.int .i64 4,.int .i64 6,.int .i64 7,.int .i64 5,.int .u8 2,.lit false,.int .i64 4,.int .i64 2,.int .i64 0,.int .i64 3,.int .u8 4,.lit true,.int .i64 60,.int .i64 62,.int .i64 63,.int .i64 61,.int .u8 8,.lit true,.int .i64 60,.int .i64 58,.int .i64 56,.int .i64 59]),(7,I 1)]/\hp=[]) rfl (fun h=>?_) (fun h=>?_) ?_
  ·have h:(decide (4=at_)||decide (0=at_))=true:=h
   exact ae ⟨_,_,Ent.ren [] [0,3,6,7] rfl rfl rfl,rfl,by rw[rm h],rfl⟩
  ·have h:(decide (4=at_)||decide (0=at_))=false:=h
   exact ae ⟨_,_,Ent.ren [] [0,3,6,7] rfl rfl rfl,rfl,by rw[rO h],rfl⟩
  rintro e tm hp ⟨rfl,rfl,rfl⟩
  refine ae ⟨[(0,I at_),(3,.int .u8 (di at_ (di at_ 0 4 7 1) 4 0 2)),(6,.agg [.int .u8 1,.lit false,.int .i64 4,.int .i64 6,.int .i64 7,.int .i64 5,.int .u8 2,.lit false,.int .i64 4,.int .i64 2,.int .i64 0,.int .i64 3,.int .u8 4,.lit true,.int .i64 60,.int .i64 62,.int .i64 63,.int .i64 61,.int .u8 8,.lit true,.int .i64 60,.int .i64 58,.int .i64 56,.int .i64 59]),(7,I 2)],[],Ent.ren [] [0,3,6,7] rfl rfl rfl,?_⟩
  refine rnd ?_
  refine bT hE 2 rfl (fun _=>?_) (fun h=>absurd h (by decide))
  repeat (first|refine ah ?_|refine sat_nd ?_)
  refine cJ hE 2 (fun e tm hp=>e=.normal/\tm=[(0,I at_),(3,.int .u8 (di at_ (di at_ (di at_ 0 4 7 1) 4 0 2) 60 63 4)),(6,.agg [.int .u8 1,.lit false,.int .i64 4,.int .i64 6,.int .i64 7,.int .i64 5,.int .u8 2,.lit false,.int .i64 4,.int .i64 2,.int .i64 0,.int .i64 3,.int .u8 4,.lit true,.int .i64 60,.int .i64 62,.int .i64 63,.int .i64 61,.int .u8 8,.lit true,.int .i64 60,.int .i64 58,.int .i64 56,.int .i64 59]),(7,I 2)]/\hp=[]) rfl (fun h=>?_) (fun h=>?_) ?_
  ·have h:(decide (60=at_)||decide (63=at_))=true:=h
   exact ae ⟨_,_,Ent.ren [] [0,3,6,7] rfl rfl rfl,rfl,by rw[rm h],rfl⟩
  ·have h:(decide (60=at_)||decide (63=at_))=false:=h
   exact ae ⟨_,_,Ent.ren [] [0,3,6,7] rfl rfl rfl,rfl,by rw[rO h],rfl⟩
  rintro e tm hp ⟨rfl,rfl,rfl⟩
  refine ae ⟨[(0,I at_),(3,.int .u8 (di at_ (di at_ (di at_ 0 4 7 1) 4 0 2) 60 63 4)),(6,.agg [.int .u8 1,.lit false,.int .i64 4,.int .i64 6,.int .i64 7,.int .i64 5,.int .u8 2,.lit false,.int .i64 4,.int .i64 2,.int .i64 0,.int .i64 3,.int .u8 4,.lit true,.int .i64 60,.int .i64 62,.int .i64 63,.int .i64 61,.int .u8 8,.lit true,.int .i64 60,.int .i64 58,.int .i64 56,.int .i64 59]),(7,I 3)],[],Ent.ren [] [0,3,6,7] rfl rfl rfl,?_⟩
  refine rnd ?_
  refine bT hE 2 rfl (fun _=>?_) (fun h=>absurd h (by decide))
  repeat (first|refine ah ?_|refine sat_nd ?_)
  refine cJ hE 2 (fun e tm hp=>e=.normal/\tm=[(0,I at_),(3,.int .u8 (di at_ (di at_ (di at_ (di at_ 0 4 7 1) 4 0 2) 60 63 4) 60 56 8)),(6,.agg [.int .u8 1,.lit false,.int .i64 4,.int .i64 6,.int .i64 7,.int .i64 5,.int .u8 2,.lit false,.int .i64 4,.int .i64 2,.int .i64 0,.int .i64 3,.int .u8 4,.lit true,.int .i64 60,.int .i64 62,.int .i64 63,.int .i64 61,.int .u8 8,.lit true,.int .i64 60,.int .i64 58,.int .i64 56,.int .i64 59]),(7,I 3)]/\hp=[]) rfl (fun h=>?_) (fun h=>?_) ?_
  ·have h:(decide (60=at_)||decide (56=at_))=true:=h
   exact ae ⟨_,_,Ent.ren [] [0,3,6,7] rfl rfl rfl,rfl,by rw[rm h],rfl⟩
  ·have h:(decide (60=at_)||decide (56=at_))=false:=h
   exact ae ⟨_,_,Ent.ren [] [0,3,6,7] rfl rfl rfl,rfl,by rw[rO h],rfl⟩
  rintro e tm hp ⟨rfl,rfl,rfl⟩
  refine ae ⟨[(0,I at_),(3,.int .u8 (di at_ (di at_ (di at_ (di at_ 0 4 7 1) 4 0 2) 60 63 4) 60 56 8)),(6,.agg [.int .u8 1,.lit false,.int .i64 4,.int .i64 6,.int .i64 7,.int .i64 5,.int .u8 2,.lit false,.int .i64 4,.int .i64 2,.int .i64 0,.int .i64 3,.int .u8 4,.lit true,.int .i64 60,.int .i64 62,.int .i64 63,.int .i64 61,.int .u8 8,.lit true,.int .i64 60,.int .i64 58,.int .i64 56,.int .i64 59]),(7,I 4)],[],Ent.ren [] [0,3,6,7] rfl rfl rfl,?_⟩
  refine rnd ?_
  refine bT hE 2 rfl (fun h=>absurd h (by decide)) (fun _=>?_)
  exact ae (ae (aj (.inr rfl) rfl rfl rfl rfl))
 ·cases e
end
end Go.Ab
namespace Go.Ab
open Go.Proofs
section
variable{kCa kDb:Bool}
def Kt(p q:Psn):Bool:=decide (p.f=q.f)&&decide (p.r=q.r)&&decide (p.zs=q.zs)&&(p.bl==q.bl)&&decide (p.ca=q.ca)&&decide (p.pa=q.pa)
def gq(p q:Psn):Bool:=Kt p q&&decide (p.ha=q.ha)&&decide (p.fu=q.fu)
end
section
variable{kCa kDb:Bool}
def rowN(bit:Int)(i:Nat):List UInt8:=bif decide (bit=1) then([[101,49],[103,49],[104,49],[102,49]]:List (List UInt8)).getD i []else bif decide (bit=2) then([[101,49],[99,49],[97,49],[100,49]]:List (List UInt8)).getD i []else bif decide (bit=4) then([[101,56],[103,56],[104,56],[102,56]]:List (List UInt8)).getD i [] else([[101,56],[99,56],[97,56],[100,56]]:List (List UInt8)).getD i []
def sqW(bit:Int)(i:Nat):Int:=bX 8 8 (rowN bit i)
def iC(zs l:List Int):Bool:=l.all fun i=>decide (zs.getD i.toNat 0=0)
end
section
variable{kCa kDb:Bool}
def cgS(f r:Int)(zs:List Int)(bl:Bool)(ca a b bit:Int):Bool:=decide ((IntKind.u8.wrap (ca.tdiv bit)).tmod 2=1)&&(decide (2<bit)==bl)&&decide (a=sqW bit 0)&&decide (b=sqW bit 1)&&iC zs (aW f r (sqW bit 0) (sqW bit 2))
def cgL(f r:Int)(zs:List Int)(bl:Bool)(ca a b pr:Int):Int:=bif !decide (aU (zs.getD a.toNat 0)=6)||!decide (pr=0)then 0 else bif cgS f r zs bl ca a b 1 then 1 else bif cgS f r zs bl ca a b 2 then 2 else bif cgS f r zs bl ca a b 4 then 4 else bif cgS f r zs bl ca a b 8 then 8 else 0
def pnL(f r:Int)(zs:List Int)(bl:Bool)(pa a b pr:Int):Bool:=bif !(decide (IntKind.i64.wrap (b.tdiv f)=fM r bl)==!decide (pr=0))then false else bif hasL b (cn (ee f r bl a (occL zs)) id ((f*r).toNat))then true else hasL b (cn (dU f bl a) id ((f*r).toNat))&&(!decide (zs.getD b.toNat 0=0)||decide (b=pa))
def capL(f r:Int)(zs:List Int)(pa a b:Int):Int:=bif decide (aU (zs.getD a.toNat 0)=1)&&decide (b=pa)then numR f r (b.tmod f) (IntKind.i64.wrap (a.tdiv f))else bif !decide (zs.getD b.toNat 0=0)then b else -1
end
end Go.Ab
namespace Go.Ab
open Go.Proofs Go.RowKit
section
variable{kCa kDb:Bool}
theorem DJ(b:Bool)(k:IntKind)(e:Int):kK PP 77 [.bool b,.int k e] b (.iface 33 (.int k e)):=by
 refine⟨fun us w=>?_,fun ρ us w n hus=>?_⟩
 ·simp only[invoke]
  simp
 ·obtain⟨u1,r1,rfl,h1,u2,r2,rfl,h2,rfl⟩:=hus
  have h1:u1=.bool b:=h1
  have h2:u2=.int k e:=h2
  subst h1;subst h2
  refine callsIn_of_wp_marks Tryz.func77 rfl trivial ?_
  refine wpIn_seq (wpIn_region ?_)
  have hr:(Fr none).round=none:=rfl
  cases b with
  |false=>
   simp[wpOpsIn,go_sem,Exit.then,hr,Oper.semAt_none,Oper.uponIn]
   refine wpIn_cond_false (by simp[Act.eval,Array.replicate]) (wpIn_skip ?_)
   exact⟨_,by simp[results,Tryz.results77],Below.refl _ w,_,rfl,fun ρ=>⟨[],rfl,rfl⟩⟩
  |true=>
   simp[wpOpsIn,go_sem,Exit.then,hr,Oper.semAt_none,Oper.uponIn]
   refine wpIn_cond_true (by simp[Act.eval,Array.replicate]) (wpIn_region ?_)
   simp[wpOpsIn,go_sem,hr,Oper.semAt_none,Oper.uponIn,Instr.panic]
   exact⟨Below.refl _ w,rfl⟩
theorem sM(b:Nat)(hp:List O)(k:Nat):lT (GGx kCa kDb) PP ⟨76,[],[.ptr b 0 k]⟩ .returning .returning hp fun hp'=>hp'=hp:=by
 refine⟨ent Tryz.func76 (by kernel_rfl) rfl,fun B w0 gs ρ w us n hh hbel hB hgs hus=>?_⟩
 obtain⟨u1,r1,rfl,h1,rfl⟩:=hus
 refine callsDIn_of_wpSIn Tryz.func76 rfl trivial fun c₀ cs hu=>?_
 apply wpSIn_seq
 apply wpSIn_region
 simp[wpOpsSIn,go_sem,recoverD,hu,Exit.thenS]
 have hr:(Fr none).round=none:=rfl
 refine wpSIn_of_wpIn rfl (wpIn_seq (wpIn_region ?_))
 simp[wpOpsIn,go_sem,Exit.then,hr,Oper.semAt_none,Oper.uponIn]
 refine wpIn_block (wpIn_seq (wpIn_region ?_))
 simp[wpOpsIn,go_sem,Exit.then,hr,Oper.semAt_none,Oper.uponIn]
 refine wpIn_cond_true (by simp[Act.eval,Array.replicate]) (wpIn_skip ?_)
 have hc:c₀={ c₀ with mode:=.returning }:=by cases c₀;simp_all
 refine⟨rfl,.returning,?_,.tuple #[],by simp[results,Tryz.results76],rfl,⟨_,rfl⟩,hp,ρ,hh,Ren.le_refl _,hbel,hgs,rfl⟩
 rw[<-hc]
theorem yS{hp:List O}{b:Nat}{v0:V}{n:Int}{ρ:Ren}{B:Nat}{w:World}(hh:HR (GGx kCa kDb) B ρ hp w)(hb:hp.getD b .gone=.cells true [v0]){u:Value}(hu:VR ρ (.ptr b 0 0) u) :
  ∃ w',(Instr.storeAt 33 u (.int .i64 n)).run PP w=.ok () w'/\HR (GGx kCa kDb) B ρ (hp.set b (.cells true [.int .i64 n])) w'/\Below B w w'/\KeepsOthers w w':=by
 have hE:=aC (kCa:=kCa) (kDb:=kDb) (cts:=[]) (inl:=[]) trivial trivial
 have hlt:b<ax:=by
  have:=nD (l:=hp) (b:=b) (by rw[hb];simp)
  have:=hh.small
  omega
 have hble:Nat.ble ax b=false:=by
  cases h:Nat.ble ax b with
  |false=>rfl
  |true=>have:=Nat.le_of_ble_eq_true h;omega
 have ht:TR ρ [(0,.ptr b 0 0),(1,.int .i64 n)] { tmps:=#[u,.int .i64 n],defers:=[] }:=by
  intro t
  rw[aZ]
  by_cases h0:0=t
  ·subst h0;simpa using hu
  ·rw[if_neg h0,aZ]
   by_cases h1:1=t
   ·subst h1;rw[if_pos rfl];exact rfl
   ·rw[if_neg h1];trivial
 have he:evOp (EE kCa kDb [] []) [(0,.ptr b 0 0),(1,.int .i64 n)] hp (.store 33 (.tmp 0) (.tmp 1))=.store b (.cells true [.int .i64 n]):=by
  show (match Nat.ble ax b with|true=>R.bad|false=>match stO (hp.getD b .gone) 0 0 (.int .i64 n) 1 with|some o=>R.store b o|none=>R.bad)=_
  rw[hble,hb]
  rfl
 obtain⟨w',h1,h2,h3,h4⟩:=hU (P:=PP) (o:=⟨none,.store 33 (.tmp 0) (.tmp 1),0, "",#[],none⟩) hE.ok hh ht he
 refine⟨w',?_,h2,h3,h4⟩
 have h1:(do Instr.storeAt 33 u (.int .i64 n);pure Next.skip:Sem Next).run PP w=.ok .skip w':=h1
 simp only[Sem.run_bind]at h1
 cases hx:(Instr.storeAt 33 u (.int .i64 n)).run PP w with
 |ok a w2=>rw[hx]at h1;simp at h1;rw[h1]
 |halt s w2=>rw[hx]at h1;simp[Result.andThen]at h1
theorem FF(v:Value)(w:World):(Instr.typeAssert (.iface 33 v) 20 33 true).run PP w=.ok (.tuple #[v,.bool true]) w:=by kernel_rfl
theorem jl{b:Nat}{hp:List O}{v0:V}{n0:Int}(hb:hp.getD b .gone=.cells true [v0]):lT (GGx kCa kDb) PP ⟨76,[],[.ptr b 0 0]⟩ (.panicking [{ v:=.iface 33 (.int .i64 n0),recovered:=false }]) (.panicking [{ v:=.iface 33 (.int .i64 n0),recovered:=true }]) hp fun hp'=>hp'=hp.set b (.cells true [.int .i64 n0]):=by
 refine⟨ent Tryz.func76 (by kernel_rfl) rfl,fun B w0 gs ρ w us n hh hbel hB hgs hus=>?_⟩
 obtain⟨u1,r1,rfl,h1,rfl⟩:=hus
 have hu1:=h1
 obtain⟨w',hrun,h2,h3,h4⟩:=yS (n:=n0) hh hb h1
 obtain⟨rg,_,_,_,rfl⟩:=h1
 refine callsDIn_of_wpSIn Tryz.func76 rfl trivial fun c₀ cs hu=>?_
 apply wpSIn_seq
 apply wpSIn_region
 simp[wpOpsSIn,go_sem,recoverD,hu,Exit.thenS]
 have hr:(Fr none).round=none:=rfl
 refine wpSIn_of_wpIn rfl (wpIn_seq (wpIn_region ?_))
 simp[wpOpsIn,go_sem,Exit.then,hr,Oper.semAt_none,Oper.uponIn]
 refine wpIn_block (wpIn_seq (wpIn_region ?_))
 simp[wpOpsIn,go_sem,Exit.then,hr,Oper.semAt_none,Oper.uponIn]
 refine wpIn_cond_false (by simp[Act.eval,Array.replicate]) (wpIn_seq (wpIn_region ?_))
 simp[wpOpsIn,go_sem,Exit.then,hr,Oper.semAt_none,Oper.uponIn,FF]
 refine wpIn_seq (wpIn_seq (wpIn_region ?_))
 simp[wpOpsIn,go_sem,Exit.then,hr,Oper.semAt_none,Oper.uponIn]
 refine wpIn_cond_false (by simp[Act.eval,Array.replicate]) (wpIn_skip ?_)
 refine wpIn_region ?_
 simp[go_sem]at hrun
 simp[wpOpsIn,go_sem,hr,Oper.semAt_none,Oper.uponIn,hrun]
 exact⟨rfl,.panicking [{ v:=.iface 33 (.int .i64 n0),recovered:=true }],rfl,.tuple #[],by simp[results,Tryz.results76],rfl,⟨_,rfl⟩,_,ρ,h2,Ren.le_refl _,hbel.trans h3,hgs.keeps h4,rfl⟩
end
end Go.Ab
namespace Go.Ab
open Go.Proofs
def ir(before:List Int):List Int->Int
 |[]=>-1
 |x::l=>bif !hasL x before then x else ir before l
def fx(zs:List Int)(at_:Int):Int:=aH zs (decide (zs.getD at_.toNat 0<0))
def bq(f r:Int)(zs:List Int)(at_:Int):Int:=bif decide (zs.getD at_.toNat 0=0)||decide (at_=fx zs at_)then -1
 else ir (attL f r zs (fx zs at_) (decide (0<zs.getD at_.toNat 0))) (attL f r (zs.set at_.toNat 0) (fx zs at_) (decide (0<zs.getD at_.toNat 0)))
def IZ(f r:Int)(zs:List Int)(i:Int):Bool:=decide (0<=bq f r zs i)
def oI(f r:Int)(zs:List Int)(bl:Bool):List Int:=(cm zs (sdI bl)).filter (IZ f r zs)
def FE(f r:Int)(zs:List Int)(at_ i:Int):Bool:=decide (i=bq f r zs at_)||(hasL i (aW f r (fx zs at_) (bq f r zs at_))&&!decide (i=at_))
def pc(f r:Int)(zs:List Int)(at_:Int):List Int:=cn (FE f r zs at_) id zs.length
theorem yC(c:Int->Bool)(n:Nat)(hn:n<=64):Uk (bV (fun s i=>bif c i then uor s (ushl 1 i)else s) 0 n)/\∀ m:Nat,bt (bV (fun s i=>bif c i then uor s (ushl 1 i)else s) 0 n) m=(decide (m<n)&&c m):=by
 induction n with
 |zero=>exact⟨uk_0,fun m=>by simp[bV,bt_0]⟩
 |succ n ih=>
  obtain⟨h1,h2⟩:=ih (by omega)
  simp only[bV]
  cases hc:c n with
  |false=>
   refine⟨h1,fun m=>?_⟩
   rw[cond_false,h2]
   by_cases e:m=n
   ·subst e;simp[hc]
   ·congr 1
    simp;omega
  |true=>
   refine⟨gi _ _,fun m=>?_⟩
   rw[cond_true,eI h1 (eM _ _),dS (by omega) (by omega),h2]
   by_cases e:m=n
   ·subst e;simp[hc]
   ·have e2:¬ ((n:Int)=m):=by omega
    have e3:decide (m<n)=decide (m<n+1):=by congr 1;exact propext ⟨fun h=>by omega,fun h=>by omega⟩
    simp[e2,e3]
theorem ye{zs:List Int}{i:Nat}(h:i<zs.length):zs.getD i 0∈zs:=by simp[List.getD,h]
theorem my(p:Int->Bool){zs:List Int}(h:zs.length<=64):Uk (fc p zs)/\∀ m:Nat,bt (fc p zs) m=(decide (m<zs.length)&&p (zs.getD m 0)):=by
 have:=yC (fun i=>p (zs.getD i.toNat 0)) zs.length h
 exact this
theorem eB{f r:Int}{zs:List Int}(h:aI f r zs=true)(hl:zs.length<=64):Uk (occR f r zs)/\∀ m:Nat,bt (occR f r zs) m=(decide (m<zs.length)&&!decide (zs.getD m 0=0)):=by
 obtain⟨h1,h2⟩:=my posP hl
 obtain⟨h3,h4⟩:=my negP hl
 unfold occR eP
 rw[h]
 refine⟨gi _ _,fun m=>?_⟩
 show bt (uor (fc posP zs) (fc negP zs)) m=_
 rw[eI h1 h3,h2,h4,<-Bool.and_or_distrib_left]
 congr 1
 unfold posP negP
 rw[Bool.eq_iff_iff]
 simp only[Bool.or_eq_true,decide_eq_true_eq,Bool.not_eq_true',decide_eq_false_iff_not]
 omega
theorem Du{p:Int}:sgn p=1↔0<p:=by have:=jt p;omega
theorem Bd{p:Int}:sgn p=-1↔p<0:=by have:=jt p;omega
theorem gw{f r:Int}{zs:List Int}(h:aI f r zs=true)(hl:zs.length<=64):occL zs=occR f r zs:=by
 obtain⟨h1,h2⟩:=eB h hl
 have hb:∀ x∈cm zs 1++cm zs (-1),0<=x/\x<64:=by
  intro x hx
  rcases List.mem_append.1 hx with hx|hx<;>(have:=cU.1 hx;omega)
 obtain⟨h3,h4⟩:=iB _ 0 hb uk_0
 refine lj h3 h1 fun m hm=>?_
 show bt (ofL (cm zs 1++cm zs (-1)) 0) m=_
 rw[h4,h2,bt_0,Bool.false_or,Bool.eq_iff_iff]
 simp only[decide_eq_true_eq,List.mem_append,cU,Du,Bd,Int.toNat_natCast,Bool.and_eq_true,Bool.not_eq_true',decide_eq_false_iff_not]
 omega
theorem xA{f r:Int}{zs:List Int}(h:aD f r zs=true)(hl:zs.length<=64):OnS f r (occR f r zs):=fun m _ hb=>by
 rw[(eB (aJ h).2.2.1 hl).2,Bool.and_eq_true,decide_eq_true_eq]at hb
 exact(bM h).2 ⟨by omega,by omega⟩
theorem cK{f r:Int}{zs:List Int}(h:aD f r zs=true){i:Int}(h0:0<=i)(h1:i<zs.length):-6<=zs.getD i.toNat 0/\zs.getD i.toNat 0<=6:=(aJ h).2.2.2 _ (ye (by omega))
theorem dD{p:Int}(h:-6<=p/\p<=6):aU p=p.natAbs:=by
 have hw:∀ q:_root_.Fin 13,aU ((q.val:Int)-6)=(((q.val:Int)-6).natAbs:Int):=by decide +kernel
 have h2:=hw ⟨(p+6).toNat,by omega⟩
 simp only at h2
 rwa [show (((p+6).toNat:Int)-6)=p by omega]at h2
theorem lu{f r kd a occ:Int}(ha:ai f r a=true)(hk:gr kd):aQ f r kd a a occ=false:=by
 obtain⟨e1,e2⟩:=gu ha ha
 have hl:(bg f a a).2.2=false:=by
  rcases lz ha ha with⟨e,_⟩|⟨_,h⟩
  ·rw[e]
  ·unfold onLine at h;omega
 have hd:oQ f a a=0:=by rw[Gw ha ha,show px f a-px f a=0 by omega,show py f a-py f a=0 by omega];rfl
 unfold aQ
 rw[e1,e2,hl,hd,show px f a-px f a=0 by omega,show py f a-py f a=0 by omega]
 rcases hk with rfl|rfl|rfl|rfl|rfl<;>rfl
theorem JM{f r:Int}{zs:List Int}{occ:Int}(h:aD f r zs=true)(hu:Uk occ)(hon:OnS f r occ){i:Int}(h0:0<=i)(h1:i<zs.length)(hp:zs.getD i.toNat 0≠0) :
  Uk (ofR f r zs i occ)/\OnS f r (ofR f r zs i occ)/\∀ b,ai f r b=true->bt (ofR f r zs i occ) b.toNat=dW f r zs i b occ:=by
 have hi:=(bM h).2 ⟨h0,h1⟩
 have hb:=cK h h0 h1
 obtain⟨hv,hn,_⟩:=aJ h
 unfold ofR dW
 rw[xd hb,dD hb]
 by_cases hk:zs.getD i.toNat 0=1\/zs.getD i.toNat 0=-1
 ·rw[show (decide (zs.getD i.toNat 0=1)||decide (zs.getD i.toNat 0=-1))=true by simpa using hk,show decide (((zs.getD i.toNat 0).natAbs:Int)=1)=true by rw[decide_eq_true_eq];omega,cond_true]
  obtain⟨_,p1,p2,p3⟩:=va (bl:=decide (zs.getD i.toNat 0<0)) hi
  refine⟨p1,p2,fun b hbv=>?_⟩
  rw[p3 b hbv,cond_true,Bool.eq_iff_iff,eR,bI]
  have:=aB hbv
  exact⟨fun h=>⟨this.1,by omega,h⟩,fun h=>h.2.2⟩
 ·have hk':(decide (zs.getD i.toNat 0=1)||decide (zs.getD i.toNat 0=-1))=false:=by simpa using hk
  rw[hk',show decide (((zs.getD i.toNat 0).natAbs:Int)=1)=false by rw[decide_eq_false_iff_not];omega,cond_false]
  have hr:=(gJ hu).2 ⟨hi,hon⟩
  have h5:gr ((zs.getD i.toNat 0).natAbs:Int):=by unfold gr;omega
  obtain⟨p1,p2,p3⟩:=jg hr hu h5
  refine⟨p1,p2,fun b hbv=>?_⟩
  show bt (lH f r _ i occ) b.toNat=_
  rw[p3 b hbv,cond_false]
  by_cases e:i=b
  ·subst e;rw[lu hi h5];simp
  ·simp[e]
theorem fX(p:Int)(bl:Bool):isP p bl=decide (sgn p=sdI bl):=by
 unfold isP sdI
 rw[Bool.eq_iff_iff]
 cases bl<;>simp[Du,Bd]
theorem fh{p:Int}{bl:Bool}(h:isP p bl=true):p≠0:=by
 rintro rfl;cases bl<;>cases h
theorem ej{f r:Int}{zs:List Int}{to:Int}{bl:Bool}{i:Int}:i∈attL f r zs to bl↔0<=i/\i<zs.length/\isP (zs.getD i.toNat 0) bl=true/\dW f r zs i to (occL zs)=true:=by
 unfold attL
 rw[List.mem_filter,cU,fX,decide_eq_true_eq]
 simp only[zl,and_assoc]
theorem AV{f r:Int}{zs:List Int}{to:Int}{bl:Bool}(h:aD f r zs=true)(hl:zs.length<=64)(ht:ai f r to=true){i:Int}(h0:0<=i)(h1:i<zs.length):attB f r zs to bl (occR f r zs) i=true↔i∈attL f r zs to bl:=by
 rw[ej]
 unfold attB
 rw[Bool.and_eq_true]
 have ho:=eB (aJ h).2.2.1 hl
 have hv:=aB ht
 constructor
 ·rintro⟨h2,h3⟩
  obtain⟨p1,p2,p3⟩:=JM h ho.1 (xA h hl) h0 h1 (fh h2)
  rw[pX p1 hv.1 hv.2.2,p3 to ht,<-gw (aJ h).2.2.1 hl]at h3
  exact⟨h0,h1,h2,h3⟩
 ·rintro⟨_,_,h2,h3⟩
  obtain⟨p1,p2,p3⟩:=JM h ho.1 (xA h hl) h0 h1 (fh h2)
  rw[pX p1 hv.1 hv.2.2,p3 to ht,<-gw (aJ h).2.2.1 hl]
  exact⟨h2,h3⟩
theorem kW{f r:Int}{zs:List Int}{to:Int}{bl:Bool}(h:aD f r zs=true)(hl:zs.length<=64)(ht:ai f r to=true):Uk (attR f r zs to bl)/\∀ m:Nat,bt (attR f r zs to bl) m=decide ((m:Int)∈attL f r zs to bl):=by
 obtain⟨h1,h2⟩:=yC (attB f r zs to bl (occR f r zs)) zs.length hl
 refine⟨h1,fun m=>?_⟩
 show bt (bV (fun s i=>bif attB f r zs to bl (occR f r zs) i then uor s (ushl 1 i)else s) 0 zs.length) m=_
 rw[h2,Bool.eq_iff_iff,Bool.and_eq_true,decide_eq_true_eq,decide_eq_true_eq]
 constructor
 ·rintro⟨h3,h4⟩;exact(AV h hl ht (by omega) (by omega)).1 h4
 ·intro h3
  have:=ej.1 h3
  exact⟨by omega,(AV h hl ht (by omega) (by omega)).2 h3⟩
theorem Jt{f r:Int}{zs:List Int}{to:Int}{bl:Bool}(hl:zs.length<=64):∀ x∈attL f r zs to bl,0<=x/\x<64:=fun x hx=>by have:=ej.1 hx;omega
end Go.Ab
namespace Go.Ab
open Go.Proofs Go.RowKit
section
variable{kDb:Bool}
theorem uK{E:Env}{P:Program}{N:Nat}{tm:Tm}{hp:List O}{n:Nat}{B:Nat}{w0:World}{S:Nat}{D:List Deferred}{gs:List (Nat×Obj)}{ρ:Ren}{a:Act}{w:World}(hE:E.Fn P)(m:Nat){id:Nat}{ops:Array Oper}(hq:ops.toList.all (fun o=>kM o.op)=true){Q2:Tm->List O->Prop}{K:Act->World->Prop}
  (hs:sat E.G P (fun _ tm hp=>Q2 tm hp) (cy E (hdl E m) N ops.toList ops.toList tm hp (.ret .normal) noX)) (h:Rel E.G B w0 S N D gs ρ tm hp a w) (hd:a.defers=D)
  (hK:∀ a' w' tm' hp' ρ',Rel E.G B w0 S N D gs ρ' tm' hp' a' w'->a'.defers=D->ρ.le ρ'->Q2 tm' hp'->K a' w'):(Code.region id ops false).wpIn (Fr none) n P (fun e a' w'=>e=.normal/\K a' w') a w:=by
 refine wpIn_region ?_
 have h1:=fU (n:=n) (ro:=none) (ρ0:=ρ) (tl:=[]) (suf:=[]) (Qx:=fun e a' w'=>e=.normal/\∃ tm1 hp1 ρ1,Rel E.G B w0 S N D gs ρ1 tm1 hp1 a' w'/\ρ.le ρ1/\Q2 tm1 hp1) hE.ok (dQ hE) (bZ hE m) (ops:=ops)
  (fun a' w' ⟨tm1,hp1,ρ1,r1,r2,r3⟩=>⟨rfl,tm1,hp1,ρ1,r1,r2,r3⟩) (fun e a2 w2 ⟨_,_,_,_,_,q⟩=>q.elim) ops.toList [] tm hp ρ a w (by simp) hs h (Ren.le_refl ρ)
 rw[List.append_nil,List.length_nil,Array.length_toList,<-List.range_eq_range']at h1
 rw[<-List.append_nil (List.range ops.size)]
 refine gH (fun e a w he hq=>absurd hq.1 he) _ a w (fun i _ o ho=>?_) h1 ?_
 ·rw[<-Array.getElem?_toList]at ho
  exact List.all_eq_true.1 hq o (List.mem_of_getElem? ho)
 ·rintro a1 w1 hd1 ⟨_,tm1,hp1,ρ1,r1,r2,r3⟩
  exact⟨rfl,hK a1 w1 tm1 hp1 ρ1 r1 (hd1.trans hd) r2 r3⟩
abbrev nO(a b:Int):Int:=band .andNot .u8 a b
def epB(zs:List Int)(pa a b:Int):Bool:=decide (absP (zs.getD a.toNat 0)=1)&&decide (b=pa)
def at1R(f:Int)(zs:List Int)(pa a b:Int):Int:=bif epB zs pa a b then IntKind.i64.wrap (IntKind.i64.wrap (a-a.tmod f)+b.tmod f)else b
def capR(f:Int)(zs:List Int)(pa a b:Int):Int:=zs.getD (at1R f zs pa a b).toNat 0
def at2R(f:Int)(zs:List Int)(pa a b:Int):Int:=bif decide (capR f zs pa a b=0)then -1 else at1R f zs pa a b
def zs1R(f:Int)(zs:List Int)(pa a b:Int):List Int:=bif decide (0<=at2R f zs pa a b)then zs.set (at2R f zs pa a b).toNat 0 else zs
def zs2R(f:Int)(zs:List Int)(pa a b:Int):List Int:=((zs1R f zs pa a b).set a.toNat 0).set b.toNat (zs.getD a.toNat 0)
def cstR(f r:Int)(zs:List Int)(bl:Bool)(ca pa a b pr:Int):Bool:=wayB f r zs (wayN zs bl ca a b)&&!iy f r zs bl pa a b pr
def putR(l:List Int)(bl:Bool)(b pr:Int)(c:Bool)(n:Nat):List Int:=bif !decide (pr=0)&&bl then l.set b.toNat (w8 (0-pr))else bif !decide (pr=0)then l.set b.toNat pr else bif c then(l.set (wCro n).toNat (l.getD (wCor n).toNat 0)).set (wCor n).toNat 0 else l
def zs3R(f r:Int)(zs:List Int)(bl:Bool)(ca pa a b pr:Int):List Int:=putR (zs2R f zs pa a b) bl b pr (cstR f r zs bl ca pa a b pr) (wayN zs bl ca a b)
def caR(ca a b:Int):Int:=nO ca (u8or (DB a) (DB b))
def twoB(f:Int)(zs:List Int)(a b:Int):Bool:=decide (absP (zs.getD a.toNat 0)=1)&&(decide (IntKind.i64.wrap (b-a)=IntKind.i64.wrap (2*f))||decide (IntKind.i64.wrap (b-a)=IntKind.i64.wrap (-2*f)))
def paR(f:Int)(zs:List Int)(a b:Int):Int:=bif twoB f zs a b then IntKind.i64.wrap (a+IntKind.i64.wrap ((IntKind.i64.wrap (b-a)).tdiv 2))else -1
def haR(f:Int)(zs:List Int)(pa ha a b:Int):Int:=bif decide (absP (zs.getD a.toNat 0)=1)||!decide (capR f zs pa a b=0)then 0 else IntKind.i64.wrap (ha+1)
def fuR(bl:Bool)(fu:Int):Int:=bif bl then IntKind.i64.wrap (fu+1)else fu
def err1(p:Psn)(m:Mov):Bool:=!p.ok||!mvB p.f p.r m.a m.b m.p
def err3(p:Psn)(m:Mov):Bool:=isP (p.zs.getD m.b.toNat 0) p.bl||(!iy p.f p.r p.zs p.bl p.pa m.a m.b m.p&&(!wayB p.f p.r p.zs (wayN p.zs p.bl p.ca m.a m.b)||!decide (m.p=0)))
def err4(p:Psn)(m:Mov):Bool:=chkB p.f p.r (zs3R p.f p.r p.zs p.bl p.ca p.pa m.a m.b m.p) p.bl||(cstR p.f p.r p.zs p.bl p.ca p.pa m.a m.b m.p&&(chkB p.f p.r p.zs p.bl||!decide ((dn p.f p.r p.zs (wCro (wayN p.zs p.bl p.ca m.a m.b)) (!p.bl)).1=0)))
def err5(p:Psn)(m:Mov):Bool:=decide (10000<haR p.f p.zs p.pa p.ha m.a m.b)||decide (10000<fuR p.bl p.fu)
def mkE5(p:Psn)(m:Mov):Int:=bif err1 p m then 2 else bif !isP (p.zs.getD m.a.toNat 0) p.bl then 9 else bif err3 p m then 10 else bif err4 p m then 90 else bif err5 p m then 7 else 0
def mkP(p:Psn)(m:Mov):Psn:=bif decide (mkE5 p m=0) then⟨p.f,p.r,zs3R p.f p.r p.zs p.bl p.ca p.pa m.a m.b m.p,!p.bl,caR p.ca m.a m.b,paR p.f p.zs m.a m.b,haR p.f p.zs p.pa p.ha m.a m.b,fuR p.bl p.fu⟩ else⟨0,0,[],false,0,0,0,0⟩
def mkU(p:Psn)(m:Mov):Und:=bif decide (mkE5 p m=0) then⟨m,capR p.f p.zs p.pa m.a m.b,at2R p.f p.zs p.pa m.a m.b,p.ca,p.pa,p.ha,p.fu⟩ else⟨⟨0,0,0⟩,0,0,0,0,0,0⟩
abbrev psV(b:Nat)(p:Psn):V:=.agg [I p.f,I p.r,.sl b 0 p.zs.length none,Bb p.bl,.int .u8 p.ca,I p.pa,I p.ha,I p.fu]
abbrev unV(u:Und):V:=.agg [I u.m.a,I u.m.b,.int .i8 u.m.p,.int .i8 u.c,I u.at_,.int .u8 u.ca,I u.pa,I u.ha,I u.fu]
theorem KF:∀ a b v,rU 33 a=some (b,v)->kK PP 77 a b v:=by
 intro a b v h
 unfold rU at h
 split at h
 ·cases h;exact DJ _ _ _
 ·cases h
def ga:Code->Code
 |.seq _ y=>y
 |c=>c
noncomputable abbrev EM (kDb:Bool):Env:={ mkEP tyT (GGx true kDb) [(60,hO),(78,qI),(79,c_is),(82,tU),(80,iE),(81,wK),(38,rL),(83,uQ),(84,iP),(85,BJ)] [] [(77,rU 33)]with cut:=true }
theorem uq{kDb:Bool}:(EM kDb).Fn PP:=cutE (IQ Di tyOk ⟨gm,vw,IW,oL,oV,Ap,pI,Ao,oU,AF,trivial⟩ trivial ⟨KF,trivial⟩)
theorem KW{kDb:Bool}{zs:List Int}{B1 B2:O}(n:Int)(hn:(!decide (n=0))=true)(o1 o2 o3 o4 o5 o6 o7 o8 u1 u2 u3 u4 u5 u6 u7 u8 u9:V) :
  Lv (EM kDb) PP (fun tm hp=>FinL (EM kDb) Tryz.f40 1 (.tup [psV 1 ⟨0,0,[],false,0,0,0,0⟩,unV ⟨⟨0,0,0⟩,0,0,0,0,0,0⟩,I n]) [.ints true .i8 []] .ret tm hp) [⟨76,[],[.ptr 5 0 0]⟩,⟨75,[.ptr 5 0 0,.ptr 3 0 0,.ptr 4 0 0],[]⟩]
   (.panicking [{ v:=.iface 33 (.int .i64 n),recovered:=false }]) [(4,.ptr 3 0 0),(5,.ptr 4 0 0),(6,.ptr 5 0 0)] [.ints false .i8 zs,B1,B2,.cells true [o1,o2,o3,o4,o5,o6,o7,o8],.cells true [u1,u2,u3,u4,u5,u6,u7,u8,u9],.cells true [I 0]]:=by
 have hE:=uq (kDb:=kDb)
 refine⟨by simp,_,_,jl (kCa:=true) (kDb:=kDb) (b:=5) (v0:=I 0) rfl,?_⟩
 rintro _ rfl
 refine⟨by simp[Go.settle],_,fun hp'=>hp'=[.ints false .i8 zs,B1,B2,.cells true [I 0,I 0,.nils,.lit false,.int .u8 0,I 0,I 0,I 0],.cells true [I 0,I 0,.int .i8 0,.int .i8 0,I 0,.int .u8 0,I 0,I 0,I 0],.cells true [I n]],uZ hE 2 Tryz.func75 (by kernel_rfl) rfl rfl ?_,?_⟩
 ·refine bT hE 2 rfl (fun _=>?_) (fun h=>absurd (hn.symm.trans h) (by simp))
  exact ae ⟨.inl rfl,[],rfl,rfl⟩
 ·rintro _ rfl
  refine⟨rfl,?_⟩
  refine Hf (Ent.phan (b:=3) (j:=2) (ww:=true) (o:=.ints true .i8 []) rfl rfl ⟨by simp,by simp,trivial,rfl⟩ (aG rfl)) (cC 6 (.inr rfl) rfl rfl rfl rfl rfl rfl) (fun _ _ h=>h)
theorem Ju{kDb:Bool}{zs:List Int}{B1 B2:O}(lx:List Int)(n:Int)(hn:(!decide (n=0))=true)(o1 o2 o3 o4 o5 o6 o7 o8 u1 u2 u3 u4 u5 u6 u7 u8 u9:V) :
  Lv (EM kDb) PP (fun tm hp=>FinL (EM kDb) Tryz.f40 1 (.tup [psV 1 ⟨0,0,[],false,0,0,0,0⟩,unV ⟨⟨0,0,0⟩,0,0,0,0,0,0⟩,I n]) [.ints true .i8 []] .ret tm hp) [⟨76,[],[.ptr 5 0 0]⟩,⟨75,[.ptr 5 0 0,.ptr 3 0 0,.ptr 4 0 0],[]⟩]
   (.panicking [{ v:=.iface 33 (.int .i64 n),recovered:=false }]) [(4,.ptr 3 0 0),(5,.ptr 4 0 0),(6,.ptr 5 0 0)] [.ints false .i8 zs,B1,B2,.cells true [o1,o2,o3,o4,o5,o6,o7,o8],.cells true [u1,u2,u3,u4,u5,u6,u7,u8,u9],.cells true [I 0],.ints true .i8 lx]:=by
 have hE:=uq (kDb:=kDb)
 refine⟨by simp,_,_,jl (kCa:=true) (kDb:=kDb) (b:=5) (v0:=I 0) rfl,?_⟩
 rintro _ rfl
 refine⟨by simp[Go.settle],_,fun hp'=>hp'=[.ints false .i8 zs,B1,B2,.cells true [I 0,I 0,.nils,.lit false,.int .u8 0,I 0,I 0,I 0],.cells true [I 0,I 0,.int .i8 0,.int .i8 0,I 0,.int .u8 0,I 0,I 0,I 0],.cells true [I n],.ints true .i8 lx],uZ hE 2 Tryz.func75 (by kernel_rfl) rfl rfl ?_,?_⟩
 ·refine bT hE 2 rfl (fun _=>?_) (fun h=>absurd (hn.symm.trans h) (by simp))
  exact ae ⟨.inl rfl,[],rfl,rfl⟩
 ·rintro _ rfl
  refine⟨rfl,?_⟩
  refine Hf (Ent.phan (b:=3) (j:=2) (ww:=true) (o:=.ints true .i8 []) rfl rfl ⟨by simp,by simp,trivial,rfl⟩ (aG rfl)) (cC 7 (.inr rfl) rfl rfl rfl rfl rfl rfl) (fun _ _ h=>h)
theorem Kr{kDb:Bool}{zs:List Int}{B1 B2:O}(q:Psn)(x:Und)(hq:q.zs.length=zs.length) :
  Lv (EM kDb) PP (fun tm hp=>FinL (EM kDb) Tryz.f40 1 (.tup [psV 1 q,unV x,I 0]) [.ints true .i8 q.zs] .ret tm hp) [⟨76,[],[.ptr 5 0 0]⟩,⟨75,[.ptr 5 0 0,.ptr 3 0 0,.ptr 4 0 0],[]⟩]
   .returning [(4,.ptr 3 0 0),(5,.ptr 4 0 0),(6,.ptr 5 0 0)] [.ints false .i8 zs,B1,B2,.cells true [I q.f,I q.r,.sl 6 0 zs.length none,Bb q.bl,.int .u8 q.ca,I q.pa,I q.ha,I q.fu],.cells true [I x.m.a,I x.m.b,.int .i8 x.m.p,.int .i8 x.c,I x.at_,.int .u8 x.ca,I x.pa,I x.ha,I x.fu],.cells true [I 0],.ints true .i8 q.zs]:=by
 have hE:=uq (kDb:=kDb)
 refine⟨by simp,_,_,sM (kCa:=true) (kDb:=kDb) 5 _ 0,?_⟩
 rintro _ rfl
 refine⟨by simp[Go.settle],_,fun hp'=>hp'=[.ints false .i8 zs,B1,B2,.cells true [I q.f,I q.r,.sl 6 0 zs.length none,Bb q.bl,.int .u8 q.ca,I q.pa,I q.ha,I q.fu],.cells true [I x.m.a,I x.m.b,.int .i8 x.m.p,.int .i8 x.c,I x.at_,.int .u8 x.ca,I x.pa,I x.ha,I x.fu],.cells true [I 0],.ints true .i8 q.zs],uZ hE 2 Tryz.func75 (by kernel_rfl) rfl rfl ?_,?_⟩
 ·refine bT hE 2 rfl (fun h=>absurd h (by simp)) (fun _=>?_)
  exact ae ⟨.inl rfl,[],rfl,rfl⟩
 ·rintro _ rfl
  refine⟨rfl,?_⟩
  rw[<-hq]
  exact JN (cC 6 (.inr rfl) rfl rfl rfl rfl rfl rfl)
theorem GB{p:Psn}{m:Mov}{n:Int}(h:mkE5 p m=n)(hn:(!decide (n=0))=true):mkP p m=⟨0,0,[],false,0,0,0,0⟩/\mkU p m=⟨⟨0,0,0⟩,0,0,0,0,0,0⟩:=by
 have h0:decide (mkE5 p m=0)=false:=by rw[h];simpa using hn
 exact⟨by rw[mkP,h0];rfl,by rw[mkU,h0];rfl⟩
theorem qj{kDb:Bool}{zs:List Int}{B1 B2:O}{p:Psn}{m:Mov}{n:Int}{tm:Tm}{hp:List O}{o1 o2 o3 o4 o5 o6 o7 o8 u1 u2 u3 u4 u5 u6 u7 u8 u9:V}(he:mkE5 p m=n)(hn:(!decide (n=0))=true)(hent:Ent (GGx true kDb) 6 tm hp [(4,.ptr 3 0 0),(5,.ptr 4 0 0),(6,.ptr 5 0 0)] [.ints false .i8 zs,B1,B2,.cells true [o1,o2,o3,o4,o5,o6,o7,o8],.cells true [u1,u2,u3,u4,u5,u6,u7,u8,u9],.cells true [I 0]]) :
  En (EM kDb) PP Tryz.f40 6 1 (.tup [psV 1 (mkP p m),unV (mkU p m),I (mkE5 p m)]) [.ints true .i8 (mkP p m).zs] [⟨76,[],[.ptr 5 0 0]⟩,⟨75,[.ptr 5 0 0,.ptr 3 0 0,.ptr 4 0 0],[]⟩] (.panic [{ v:=.iface 33 (.int .i64 n),recovered:=false }]) tm hp:=by
 obtain⟨h1,h2⟩:=GB he hn
 rw[h1,h2,he]
 exact⟨_,_,_,rfl,hent,KW n hn o1 o2 o3 o4 o5 o6 o7 o8 u1 u2 u3 u4 u5 u6 u7 u8 u9⟩
theorem uz{kDb:Bool}{zs:List Int}{B1 B2:O}{lx:List Int}{p:Psn}{m:Mov}{n:Int}{tm:Tm}{hp:List O}{o1 o2 o3 o4 o5 o6 o7 o8 u1 u2 u3 u4 u5 u6 u7 u8 u9:V}(he:mkE5 p m=n)(hn:(!decide (n=0))=true)(hent:Ent (GGx true kDb) 6 tm hp [(4,.ptr 3 0 0),(5,.ptr 4 0 0),(6,.ptr 5 0 0)] [.ints false .i8 zs,B1,B2,.cells true [o1,o2,o3,o4,o5,o6,o7,o8],.cells true [u1,u2,u3,u4,u5,u6,u7,u8,u9],.cells true [I 0],.ints true .i8 lx]) :
  En (EM kDb) PP Tryz.f40 6 1 (.tup [psV 1 (mkP p m),unV (mkU p m),I (mkE5 p m)]) [.ints true .i8 (mkP p m).zs] [⟨76,[],[.ptr 5 0 0]⟩,⟨75,[.ptr 5 0 0,.ptr 3 0 0,.ptr 4 0 0],[]⟩] (.panic [{ v:=.iface 33 (.int .i64 n),recovered:=false }]) tm hp:=by
 obtain⟨h1,h2⟩:=GB he hn
 rw[h1,h2,he]
 exact⟨_,_,_,rfl,hent,Ju lx n hn o1 o2 o3 o4 o5 o6 o7 o8 u1 u2 u3 u4 u5 u6 u7 u8 u9⟩
theorem Fq{kDb:Bool}{zs:List Int}{B1 B2:O}{p:Psn}{m:Mov}{q:Psn}{x:Und}{tm:Tm}{hp:List O}(he:mkE5 p m=0)(h1:mkP p m=q)(h2:mkU p m=x)(hq:q.zs.length=zs.length)(hent:Ent (GGx true kDb) 6 tm hp [(4,.ptr 3 0 0),(5,.ptr 4 0 0),(6,.ptr 5 0 0)] [.ints false .i8 zs,B1,B2,.cells true [I q.f,I q.r,.sl 6 0 zs.length none,Bb q.bl,.int .u8 q.ca,I q.pa,I q.ha,I q.fu],.cells true [I x.m.a,I x.m.b,.int .i8 x.m.p,.int .i8 x.c,I x.at_,.int .u8 x.ca,I x.pa,I x.ha,I x.fu],.cells true [I 0],.ints true .i8 q.zs]) :
  En (EM kDb) PP Tryz.f40 6 1 (.tup [psV 1 (mkP p m),unV (mkU p m),I (mkE5 p m)]) [.ints true .i8 (mkP p m).zs] [⟨76,[],[.ptr 5 0 0]⟩,⟨75,[.ptr 5 0 0,.ptr 3 0 0,.ptr 4 0 0],[]⟩] .ret tm hp:=by
 rw[h1,h2,he]
 exact⟨_,_,_,rfl,hent,Kr q x hq⟩
theorem cr{zs:List Int}(h:zs.length<=64){n:Nat}(hn:n=zs.length){g b:Bool}(hb:b=true):(!g||(decide (n=(tk zs).length)&&decide ((tk zs).length<=64)&&b))=true:=by
 rw[bh h hn hb];simp
theorem LC{p:Psn}(h:p.ok=true):aI p.f p.r p.zs=true/\er p.f p.r p.zs p.ca=true:=by
 simp only[Psn.ok,Bool.and_eq_true]at h
 exact⟨h.1.1.1.1.1,h.1.1.2⟩
theorem Ls{f r a b p:Int}(h:mvB f r a b p=true):ai f r a=true/\ai f r b=true:=by
 simp only[mvB,Bool.and_eq_true]at h
 exact⟨h.1.1.1,h.1.1.2⟩
theorem JQ{f r a b:Int}(ha:ai f r a=true)(hb:ai f r b=true):ai f r (IntKind.i64.wrap (IntKind.i64.wrap (a-a.tmod f)+b.tmod f))=true/\IntKind.i64.wrap (IntKind.i64.wrap (a-a.tmod f)+b.tmod f)=px f b+py f a*f:=by
 obtain⟨_,a1,a2,a3,a4,a5,a6,a7,a8,a9⟩:=de ha
 obtain⟨_,b1,b2,b3,b4,b5,_⟩:=de hb
 have h1:=aB ha
 have h2:=aB hb
 have hv:=hH (X:=px f b) (Y:=py f a) (bD ha) (iv b1 b2 a3 a4)
 have h3:=aB hv.1
 have e1:IntKind.i64.wrap (a-a.tmod f)=py f a*f:=by
  have:a-a.tmod f=py f a*f:=by have:a.tmod f=px f a:=rfl;omega
  rw[this];exact az (by omega) (by omega)
 have e2:IntKind.i64.wrap (IntKind.i64.wrap (a-a.tmod f)+b.tmod f)=px f b+py f a*f:=by
  rw[e1,show py f a*f+b.tmod f=px f b+py f a*f by have:b.tmod f=px f b:=rfl;omega]
  exact az (by omega) (by omega)
 exact⟨by rw[e2];exact hv.1,e2⟩
theorem Ks{f r:Int}{zs:List Int}{pa a b:Int}(ha:ai f r a=true)(hb:ai f r b=true):ai f r (at1R f zs pa a b)=true:=by
 unfold at1R
 cases epB zs pa a b
 ·exact hb
 ·exact(JQ ha hb).1
theorem JZ{f r:Int}{zs:List Int}{pa a b:Int}(hbd:aI f r zs=true)(ha:ai f r a=true)(hb:ai f r b=true)(h0:0<=at2R f zs pa a b):at2R f zs pa a b<zs.length:=by
 unfold at2R at h0 ⊢
 cases h:decide (capR f zs pa a b=0) with
 |true=>rw[h]at h0;simp at h0
 |false=>exact((cG hbd).1 (Ks ha hb)).2
theorem Bn{f:Int}{zs:List Int}{pa a b:Int}:(zs1R f zs pa a b).length=zs.length:=by
 unfold zs1R;cases decide (0<=at2R f zs pa a b)<;>simp
theorem rN{f:Int}{zs:List Int}{pa a b:Int}:(zs2R f zs pa a b).length=zs.length:=by
 simp[zs2R,Bn]
theorem HE{l:List Int}{bl:Bool}{b pr:Int}{c:Bool}{n:Nat}:(putR l bl b pr c n).length=l.length:=by
 unfold putR
 cases(!decide (pr=0)&&bl)<;>cases(!decide (pr=0))<;>cases c<;>simp
theorem fA{f r:Int}{zs:List Int}{bl:Bool}{ca pa a b pr:Int}:(zs3R f r zs bl ca pa a b pr).length=zs.length:=by
 rw[zs3R,HE,rN]
theorem mu{l:List Int}{n:Nat}(h1:n=l.length)(h2:n<=64):(decide (n=((l.drop 0).take n).length)&&decide (((l.drop 0).take n).length<=64))=true:=by
 subst h1;simp[h2]
theorem nH{l:List Int}{n:Nat}{g:Bool}(h1:n=l.length)(h2:n<=64):(!g||(decide (n=((l.drop 0).take n).length)&&decide (((l.drop 0).take n).length<=64)))=true:=by
 rw[mu h1 h2];simp
theorem Fy{zs:List Int}{b:Int}(h:0<=b)(h1:b<zs.length):(decide (0<=b)&&decide (b<(tk zs).length))=true:=by rw[aL];simp[h,h1]
theorem tk_n{l:List Int}{n:Nat}(h1:n=l.length):(l.drop 0).take n=l:=by subst h1;simp
theorem ov{f r:Int}{zs:List Int}{bl:Bool}{ca a b:Int}(hbd:aI f r zs=true)(hc:er f r zs ca=true)(hn:¬ wayN zs bl ca a b=4):is88 f r=true/\zs.length=64/\0<=wCor (wayN zs bl ca a b)/\wCor (wayN zs bl ca a b)<64/\0<=wCro (wayN zs bl ca a b)/\wCro (wayN zs bl ca a b)<64:=by
 have key:is88 f r=true:=by
  unfold wayN at hn
  simp only[er,rtX,Bool.and_eq_true,Bool.not_eq_true']at hc
  obtain⟨⟨⟨⟨c1,c2⟩,c3⟩,c4⟩,_⟩:=hc
  cases hk:(!decide (absP (zs.getD a.toNat 0)=6)) with
  |true=>rw[hk]at hn;exact absurd rfl hn
  |false=>
   rw[hk,cond_false]at hn
   have go:∀ {bit:Int} {c:Bool} {k to:Int} {X Y:Bool},aV bl ca a b c bit k to=false->((!decide (bS ca bit=0))&&((!is88 f r||X)||Y))=false->is88 f r=true:=by
    intro bit c k to X Y h1 h2
    simp only[aV,Bool.or_eq_false_iff]at h1
    rw[h1.1.1.2]at h2
    cases h8:is88 f r with
    |true=>rfl
    |false=>rw[h8]at h2;simp at h2
   cases h1:aV bl ca a b false 1 4 6 with
   |false=>exact go h1 c1
   |true=>
    rw[h1]at hn
    cases h2:aV bl ca a b false 2 4 2 with
    |false=>exact go h2 c2
    |true=>
     rw[h2]at hn
     cases h3:aV bl ca a b true 4 60 62 with
     |false=>exact go h3 c3
     |true=>
      rw[h3]at hn
      cases h4:aV bl ca a b true 8 60 58 with
      |false=>exact go h4 c4
      |true=>rw[h4]at hn;exact absurd rfl hn
 have h4:wayN zs bl ca a b<=4:=by
  unfold wayN
  cases(!decide (absP (zs.getD a.toNat 0)=6))<;>cases(!aV bl ca a b false 1 4 6)<;>cases(!aV bl ca a b false 2 4 2)<;>cases(!aV bl ca a b true 4 60 62)<;>cases(!aV bl ca a b true 8 60 58)<;>simp
 refine⟨key,uS hbd key,?_⟩
 generalize wayN zs bl ca a b=n at h4 hn ⊢
 have:n=0\/n=1\/n=2\/n=3:=by omega
 rcases this with rfl|rfl|rfl|rfl<;>decide
theorem Ed{kDb:Bool}{f r:Int}{zs:List Int}{bl:Bool}{ca pa ha fu a b pr:Int}(hc2:zs.length<=64):aS (GGx true kDb) PP 40 [.agg [I f,I r,.sl 0 0 zs.length none,Bb bl,.int .u8 ca,I pa,I ha,I fu],.agg [I a,I b,.int .i8 pr]] [.ints false .i8 zs] (.tup [psV 1 (mkP ⟨f,r,zs,bl,ca,pa,ha,fu⟩ ⟨a,b,pr⟩),unV (mkU ⟨f,r,zs,bl,ca,pa,ha,fu⟩ ⟨a,b,pr⟩),I (mkE5 ⟨f,r,zs,bl,ca,pa,ha,fu⟩ ⟨a,b,pr⟩)]) [.ints true .i8 (mkP ⟨f,r,zs,bl,ca,pa,ha,fu⟩ ⟨a,b,pr⟩).zs]:=by
 refine zX (rest:=ga (ga (ga (Tryz.f40.body.getD .skip)))) (uq (kDb:=kDb)) 2 Tryz.func40 rfl rfl [⟨76,[],[.ptr 5 0 0]⟩,⟨75,[.ptr 5 0 0,.ptr 3 0 0,.ptr 4 0 0],[]⟩] (Q1:=fun tm hp=>tm=(13,.fn 75 [.ptr 5 0 0,.ptr 3 0 0,.ptr 4 0 0])::[(6,.ptr 5 0 0),(5,.ptr 4 0 0),(4,.ptr 3 0 0),(3,.ptr 2 0 0),(2,.ptr 1 0 0),(0,.agg [I f,I r,.sl 0 0 zs.length none,Bb bl,.int .u8 ca,I pa,I ha,I fu]),(1,.agg [I a,I b,.int .i8 pr])]/\hp=[.ints false .i8 zs,.cells true [I f,I r,.sl 0 0 zs.length none,Bb bl,.int .u8 ca,I pa,I ha,I fu],.cells true [I a,I b,.int .i8 pr],.cells true [I 0,I 0,.nils,.lit false,.int .u8 0,I 0,I 0,I 0],.cells true [I 0,I 0,.int .i8 0,.int .i8 0,I 0,.int .u8 0,I 0,I 0,I 0],.cells true [I 0]]) ?_ ?_
 ·intro B w0 S ρ aa w k Q hrel hd hrest
  refine wpIn_seq (wpIn_mono (uK (K:=(ga (Tryz.f40.body.getD .skip)).wpIn (Fr none) k PP Q) uq 2 rfl (Q2:=fun tm hp=>tm=[(6,.ptr 5 0 0),(5,.ptr 4 0 0),(4,.ptr 3 0 0),(3,.ptr 2 0 0),(2,.ptr 1 0 0),(0,.agg [I f,I r,.sl 0 0 zs.length none,Bb bl,.int .u8 ca,I pa,I ha,I fu]),(1,.agg [I a,I b,.int .i8 pr])]/\hp=[.ints false .i8 zs,.cells true [I f,I r,.sl 0 0 zs.length none,Bb bl,.int .u8 ca,I pa,I ha,I fu],.cells true [I a,I b,.int .i8 pr],.cells true [I 0,I 0,.nils,.lit false,.int .u8 0,I 0,I 0,I 0],.cells true [I 0,I 0,.int .i8 0,.int .i8 0,I 0,.int .u8 0,I 0,I 0,I 0],.cells true [I 0]]) (ae ⟨rfl,rfl⟩) hrel hd ?_) ?_)
  rotate_left
  ·rintro e a' w' ⟨rfl,h⟩;exact h
  rintro a1 w1 tm1 hp1 ρ1 r1 hd1 l1 ⟨rfl,rfl⟩
  refine wpIn_seq (wpIn_mono (pR (K:=(ga (ga (Tryz.f40.body.getD .skip))).wpIn (Fr none) k PP Q) uq 2 [_] _ [] rfl rfl rfl rfl rfl rfl (f:=75) (caps:=[.ptr 5 0 0,.ptr 3 0 0,.ptr 4 0 0]) (args:=[]) (Q2:=fun tm hp=>tm=(13,.fn 75 [.ptr 5 0 0,.ptr 3 0 0,.ptr 4 0 0])::[(6,.ptr 5 0 0),(5,.ptr 4 0 0),(4,.ptr 3 0 0),(3,.ptr 2 0 0),(2,.ptr 1 0 0),(0,.agg [I f,I r,.sl 0 0 zs.length none,Bb bl,.int .u8 ca,I pa,I ha,I fu]),(1,.agg [I a,I b,.int .i8 pr])]/\hp=[.ints false .i8 zs,.cells true [I f,I r,.sl 0 0 zs.length none,Bb bl,.int .u8 ca,I pa,I ha,I fu],.cells true [I a,I b,.int .i8 pr],.cells true [I 0,I 0,.nils,.lit false,.int .u8 0,I 0,I 0,I 0],.cells true [I 0,I 0,.int .i8 0,.int .i8 0,I 0,.int .u8 0,I 0,I 0,I 0],.cells true [I 0]]) (ae ⟨rfl,rfl,ae ⟨rfl,rfl⟩⟩) r1 hd1 ?_) ?_)
  rotate_left
  ·rintro e a' w' ⟨rfl,h⟩;exact h
  rintro a2 w2 tm2 hp2 ρ2 cus1 us1 r2 hd2 l2 hc1 hu1 ⟨rfl,rfl⟩
  refine wpIn_seq (wpIn_mono (pR (K:=(ga (ga (ga (Tryz.f40.body.getD .skip)))).wpIn (Fr none) k PP Q) uq 2 [] _ [] rfl rfl rfl rfl rfl rfl (f:=76) (caps:=[]) (args:=[.ptr 5 0 0]) (Q2:=fun tm hp=>tm=(13,.fn 75 [.ptr 5 0 0,.ptr 3 0 0,.ptr 4 0 0])::[(6,.ptr 5 0 0),(5,.ptr 4 0 0),(4,.ptr 3 0 0),(3,.ptr 2 0 0),(2,.ptr 1 0 0),(0,.agg [I f,I r,.sl 0 0 zs.length none,Bb bl,.int .u8 ca,I pa,I ha,I fu]),(1,.agg [I a,I b,.int .i8 pr])]/\hp=[.ints false .i8 zs,.cells true [I f,I r,.sl 0 0 zs.length none,Bb bl,.int .u8 ca,I pa,I ha,I fu],.cells true [I a,I b,.int .i8 pr],.cells true [I 0,I 0,.nils,.lit false,.int .u8 0,I 0,I 0,I 0],.cells true [I 0,I 0,.int .i8 0,.int .i8 0,I 0,.int .u8 0,I 0,I 0,I 0],.cells true [I 0]]) (ae ⟨rfl,rfl,ae ⟨rfl,rfl⟩⟩) r2 hd2 ?_) ?_)
  rotate_left
  ·rintro e a' w' ⟨rfl,h⟩;exact h
  rintro a3 w3 tm3 hp3 ρ3 cus2 us2 r3 hd3 l3 hc3 hu3 ⟨rfl,rfl⟩
  exact hrest _ _ _ _ _ _ r3 (Ren.le_trans l1 (Ren.le_trans l2 l3)) ⟨cus2,us2,_,rfl,hc3,hu3,cus1,us1,[],rfl,VRL.mono l3 _ _ hc1,VRL.mono l3 _ _ hu1,rfl⟩ ⟨rfl,rfl⟩
 rintro tm1 hp1 ⟨rfl,rfl⟩
 refine⟨by simp,?_⟩
 have hE:=uq (kDb:=kDb)
 repeat (first|(first|refine ah ?_|refine sat_nd ?_)|refine ag (aN ha0 ha1) ?_|refine ag (aN hb0 hb1) ?_|refine ag (bh hc2 rfl hv3) ?_|refine ag (cr hc2 rfl hv3) ?_|refine ag (aR hc2 rfl) ?_)
 refine aq (fun h=>?_) (fun h=>?_)
 ·have h:(!(Psn.ok ⟨f,r,tk zs,bl,ca,pa,ha,fu⟩)||!mvB f r a b pr)=true:=h
  rw[aL]at h
  have h:err1 ⟨f,r,zs,bl,ca,pa,ha,fu⟩ ⟨a,b,pr⟩=true:=h
  exact ae (qj (by simp only[mkE5,h,cond_true]) rfl (Ent.ren [0,1,2,3,4,5] [4,5,6] rfl rfl rfl))
 have h:(!(Psn.ok ⟨f,r,tk zs,bl,ca,pa,ha,fu⟩)||!mvB f r a b pr)=false:=h
 rw[aL]at h
 have e1:err1 ⟨f,r,zs,bl,ca,pa,ha,fu⟩ ⟨a,b,pr⟩=false:=h
 simp only[Bool.or_eq_false_iff,Bool.not_eq_false']at h
 obtain⟨hbd,hcas⟩:=LC h.1
 obtain⟨hva,hvb⟩:=Ls h.2
 dsimp only at hbd hcas
 obtain⟨ha0,ha1⟩:=(cG hbd).1 hva
 obtain⟨hb0,hb1⟩:=(cG hbd).1 hvb
 have hv3:(aI f r (tk zs)&&ai f r a&&ai f r b)=true:=by rw[aL,hbd,hva,hvb];rfl
 have hf0:(!decide (f=0))=true:=by have:=dh (bR hbd).1;simp;omega
 clear h
 repeat (first|(first|refine ah ?_|refine sat_nd ?_)|refine ag (aN ha0 ha1) ?_|refine ag (aN hb0 hb1) ?_|refine ag (bh hc2 rfl hv3) ?_|refine ag (cr hc2 rfl hv3) ?_|refine ag (aR hc2 rfl) ?_|refine ag hf0 ?_)
 refine aq (fun h=>?_) (fun h=>?_)
 ·have h:(!isP (zs.getD a.toNat 0) bl)=true:=h
  exact ae (qj (by simp only[mkE5,e1,h,cond_true,cond_false]) rfl (Ent.ren [0,1,2,3,4,5] [4,5,6] rfl rfl rfl))
 have e2:(!isP (zs.getD a.toNat 0) bl)=false:=h
 repeat (first|(first|refine ah ?_|refine sat_nd ?_)|refine ag (aN ha0 ha1) ?_|refine ag (aN hb0 hb1) ?_|refine ag (bh hc2 rfl hv3) ?_|refine ag (cr hc2 rfl hv3) ?_|refine ag (aR hc2 rfl) ?_|refine ag hf0 ?_)
 refine aq (fun h=>?_) (fun h=>?_)
 ·have h:(isP (zs.getD b.toNat 0) bl||(!iy f r (tk zs) bl pa a b pr&&(!wayB f r (tk zs) (wayN (tk zs) bl ca a b)||!decide (pr=0))))=true:=h
  rw[aL]at h
  have h:err3 ⟨f,r,zs,bl,ca,pa,ha,fu⟩ ⟨a,b,pr⟩=true:=h
  exact ae (qj (by simp only[mkE5,e1,e2,h,cond_true,cond_false]) rfl (Ent.ren [0,1,2,3,4,5] [4,5,6] rfl rfl rfl))
 have h:(isP (zs.getD b.toNat 0) bl||(!iy f r (tk zs) bl pa a b pr&&(!wayB f r (tk zs) (wayN (tk zs) bl ca a b)||!decide (pr=0))))=false:=h
 rw[aL]at h
 have e3:err3 ⟨f,r,zs,bl,ca,pa,ha,fu⟩ ⟨a,b,pr⟩=false:=h
 clear h
 repeat (first|(first|refine ah ?_|refine sat_nd ?_)|refine ag (aN ha0 ha1) ?_|refine ag (aN hb0 hb1) ?_|refine ag (bh hc2 rfl hv3) ?_|refine ag (cr hc2 rfl hv3) ?_|refine ag (aR hc2 rfl) ?_|refine ag hf0 ?_)
 refine cJ hE 2 (fun e tm hp=>e=.normal/\∃ (n:Nat) (c:Bool) (at_ cap:Int),n=wayN zs bl ca a b/\c=cstR f r zs bl ca pa a b pr/\at_=at1R f zs pa a b/\cap=capR f zs pa a b/\tm=[(2,.ptr 1 0 0),(3,.ptr 2 0 0),(4,.ptr 3 0 0),(5,.ptr 4 0 0),(6,.ptr 5 0 0),(7,.int .i8 (zs.getD a.toNat 0)),(8,.ptr 6 0 0),(9,Bb c)]/\hp=[.ints false .i8 zs,.cells true [I f,I r,.sl 0 0 zs.length none,Bb bl,.int .u8 ca,I pa,I ha,I fu],.cells true [I a,I b,.int .i8 pr],.cells true [I 0,I 0,.nils,.lit false,.int .u8 0,I 0,I 0,I 0],.cells true [I a,I b,.int .i8 pr,.int .i8 cap,I at_,.int .u8 ca,I pa,I ha,I fu],.cells true [I 0],.cells true [.int .u8 (wBit n),Bb (wBl n),I (lP n),I (wTo n),I (wCor n),I (wCro n)]]) rfl (fun h=>?_) (fun h=>?_) ?_
 ·have hep:epB zs pa a b=true:=h
  have hx:=(cG hbd).1 (JQ hva hvb).1
  repeat (first|(first|refine ah ?_|refine sat_nd ?_)|refine ag hf0 ?_|refine ag (aN hx.1 hx.2) ?_)
  refine ae ⟨_,_,Ent.ren [0,1,2,3,4,5,6] [2,3,4,5,6,7,8,9] rfl rfl rfl,rfl,wayN (tk zs) bl ca a b,wayB f r (tk zs) (wayN (tk zs) bl ca a b)&&!iy f r (tk zs) bl pa a b pr,_,_,by rw[aL],by rw[aL];rfl,?_,?_,rfl,rfl⟩
  ·rw[at1R,hep];rfl
  ·rw[capR,at1R,hep];rfl
 ·have hep:epB zs pa a b=false:=h
  refine ae ⟨_,_,Ent.ren [0,1,2,3,4,5,6] [2,3,4,5,6,7,8,9] rfl rfl rfl,rfl,wayN (tk zs) bl ca a b,wayB f r (tk zs) (wayN (tk zs) bl ca a b)&&!iy f r (tk zs) bl pa a b pr,_,_,by rw[aL],by rw[aL];rfl,?_,?_,rfl,rfl⟩
  ·rw[at1R,hep];rfl
  ·rw[capR,at1R,hep];rfl
 rintro e tm hp ⟨rfl,n,c,at_,cap,hn,hcs,hat,hcap,rfl,rfl⟩
 repeat (first|(first|refine ah ?_|refine sat_nd ?_)|refine ag (aN ha0 ha1) ?_|refine ag (aN hb0 hb1) ?_|refine ag (bh hc2 rfl hv3) ?_|refine ag (cr hc2 rfl hv3) ?_|refine ag (aR hc2 rfl) ?_|refine ag hf0 ?_)
 refine cJ hE 2 (fun e tm hp=>e=.normal/\∃ at2:Int,at2=at2R f zs pa a b/\tm=[(2,.ptr 1 0 0),(3,.ptr 2 0 0),(4,.ptr 3 0 0),(5,.ptr 4 0 0),(6,.ptr 5 0 0),(7,.int .i8 (zs.getD a.toNat 0)),(8,.ptr 6 0 0),(9,Bb c)]/\hp=[.ints false .i8 zs,.cells true [I f,I r,.sl 0 0 zs.length none,Bb bl,.int .u8 ca,I pa,I ha,I fu],.cells true [I a,I b,.int .i8 pr],.cells true [I 0,I 0,.nils,.lit false,.int .u8 0,I 0,I 0,I 0],.cells true [I a,I b,.int .i8 pr,.int .i8 cap,I at2,.int .u8 ca,I pa,I ha,I fu],.cells true [I 0],.cells true [.int .u8 (wBit n),Bb (wBl n),I (lP n),I (wTo n),I (wCor n),I (wCro n)]]) rfl (fun h=>?_) (fun h=>?_) ?_
 ·have h:decide (cap=0)=true:=h
  refine ae ⟨_,_,Ent.ren [0,1,2,3,4,5,6] [2,3,4,5,6,7,8,9] rfl rfl rfl,rfl,_,?_,rfl,rfl⟩
  rw[at2R,<-hcap,h];rfl
 ·have h:decide (cap=0)=false:=h
  refine ae ⟨_,_,Ent.ren [0,1,2,3,4,5,6] [2,3,4,5,6,7,8,9] rfl rfl rfl,rfl,_,?_,rfl,rfl⟩
  rw[at2R,<-hcap,h,<-hat];rfl
 rintro e tm hp ⟨rfl,at2,hat2,rfl,rfl⟩
 clear hat
 repeat (first|(first|refine ah ?_|refine sat_nd ?_)|refine ag (aN ha0 ha1) ?_|refine ag (aN hb0 hb1) ?_|refine ag (bh hc2 rfl hv3) ?_|refine ag (cr hc2 rfl hv3) ?_|refine ag (aR hc2 rfl) ?_|refine ag hf0 ?_)
 refine cJ hE 2 (fun e tm hp=>e=.normal/\∃ (l:List Int) (len:Nat),l=zs1R f zs pa a b/\len=zs.length/\tm=[(2,.ptr 1 0 0),(3,.ptr 2 0 0),(4,.ptr 3 0 0),(5,.ptr 4 0 0),(6,.ptr 5 0 0),(7,.int .i8 (zs.getD a.toNat 0)),(8,.ptr 6 0 0),(9,Bb c)]/\hp=[.ints false .i8 zs,.cells true [I f,I r,.sl 0 0 zs.length none,Bb bl,.int .u8 ca,I pa,I ha,I fu],.cells true [I a,I b,.int .i8 pr],.cells true [I f,I r,.sl 7 0 len none,Bb bl,.int .u8 ca,I pa,I ha,I fu],.cells true [I a,I b,.int .i8 pr,.int .i8 cap,I at2,.int .u8 ca,I pa,I ha,I fu],.cells true [I 0],.cells true [.int .u8 (wBit n),Bb (wBl n),I (lP n),I (wTo n),I (wCor n),I (wCro n)],.ints true .i8 l]) rfl (fun h=>?_) (fun h=>?_) ?_
 ·have h:decide (0<=at2)=true:=h
  have hx:at2<zs.length:=by rw[hat2];exact JZ hbd hva hvb (by rw[<-hat2];exact of_decide_eq_true h)
  repeat (first|(first|refine ah ?_|refine sat_nd ?_)|refine ag (Fy (of_decide_eq_true h) hx) ?_)
  refine ae ⟨_,_,Ent.ren [0,1,2,3,4,5,6,7] [2,3,4,5,6,7,8,9] rfl rfl rfl,rfl,(tk zs).set at2.toNat 0,(tk zs).length,?_,by rw[aL],rfl,rfl⟩
  rw[aL,zs1R,<-hat2,h];rfl
 ·have h:decide (0<=at2)=false:=h
  refine ae ⟨_,_,Ent.ren [0,1,2,3,4,5,6,7] [2,3,4,5,6,7,8,9] rfl rfl rfl,rfl,tk zs,(tk zs).length,?_,by rw[aL],rfl,rfl⟩
  rw[aL,zs1R,<-hat2,h];rfl
 rintro e tm hp ⟨rfl,l,len,hl,hlen,rfl,rfl⟩
 have ha1:a<len:=by rw[hlen];exact ha1
 have hb1:b<len:=by rw[hlen];exact hb1
 repeat (first|(first|refine ah ?_|refine sat_nd ?_)|refine ag (aN ha0 ha1) ?_|refine ag (aN hb0 hb1) ?_|refine ag (bh hc2 rfl hv3) ?_|refine ag (cr hc2 rfl hv3) ?_|refine ag (aR hc2 rfl) ?_|refine ag hf0 ?_)
 refine cJ hE 2 (fun e tm hp=>e=.normal/\∃ l3:List Int,l3=zs3R f r zs bl ca pa a b pr/\tm=[(2,.ptr 1 0 0),(3,.ptr 2 0 0),(4,.ptr 3 0 0),(5,.ptr 4 0 0),(6,.ptr 5 0 0),(7,.int .i8 (zs.getD a.toNat 0)),(8,.ptr 6 0 0),(9,Bb c)]/\hp=[.ints false .i8 zs,.cells true [I f,I r,.sl 0 0 zs.length none,Bb bl,.int .u8 ca,I pa,I ha,I fu],.cells true [I a,I b,.int .i8 pr],.cells true [I f,I r,.sl 7 0 len none,Bb bl,.int .u8 ca,I pa,I ha,I fu],.cells true [I a,I b,.int .i8 pr,.int .i8 cap,I at2,.int .u8 ca,I pa,I ha,I fu],.cells true [I 0],.cells true [.int .u8 (wBit n),Bb (wBl n),I (lP n),I (wTo n),I (wCor n),I (wCro n)],.ints true .i8 l3]) rfl (fun h=>?_) (fun h=>?_) ?_
 ·have h:(!decide (pr=0)&&bl)=true:=h
  repeat (first|(first|refine ah ?_|refine sat_nd ?_)|refine ag (aN ha0 ha1) ?_|refine ag (aN hb0 hb1) ?_|refine ag (bh hc2 rfl hv3) ?_|refine ag (cr hc2 rfl hv3) ?_|refine ag (aR hc2 rfl) ?_|refine ag hf0 ?_)
  refine ae ⟨_,_,Ent.ren [0,1,2,3,4,5,6,7] [2,3,4,5,6,7,8,9] rfl rfl rfl,rfl,_,?_,rfl,rfl⟩
  rw[zs3R,putR,zs2R,<-hl,h];rfl
 ·have h:(!decide (pr=0)&&bl)=false:=h
  refine bT hE 2 rfl (fun h2=>?_) (fun h2=>?_)
  ·have h2:(!decide (pr=0))=true:=h2
   repeat (first|(first|refine ah ?_|refine sat_nd ?_)|refine ag (aN ha0 ha1) ?_|refine ag (aN hb0 hb1) ?_|refine ag (bh hc2 rfl hv3) ?_|refine ag (cr hc2 rfl hv3) ?_|refine ag (aR hc2 rfl) ?_|refine ag hf0 ?_)
   refine ae ⟨_,_,Ent.ren [0,1,2,3,4,5,6,7] [2,3,4,5,6,7,8,9] rfl rfl rfl,rfl,_,?_,rfl,rfl⟩
   rw[zs3R,putR,zs2R,<-hl,h,h2];rfl
  ·have h2:(!decide (pr=0))=false:=h2
   refine bT hE 2 rfl (fun h3=>?_) (fun h3=>?_)
   ·have h3:c=true:=h3
    have hw:¬ n=4:=by
     intro h4
     rw[cstR,<-hn,h4]at hcs
     rw[h3]at hcs
     exact absurd hcs (by simp[wayB])
    obtain⟨_,h64,w1,w2,w3,w4⟩:=ov (a:=a) (b:=b) (bl:=bl) hbd hcas (by rw[<-hn];exact hw)
    rw[<-hn]at w1 w2 w3 w4
    have w2:wCor n<len:=by rw[hlen,h64];exact w2
    have w4:wCro n<len:=by rw[hlen,h64];exact w4
    repeat (first|(first|refine ah ?_|refine sat_nd ?_)|refine ag (aN ha0 ha1) ?_|refine ag (aN hb0 hb1) ?_|refine ag (bh hc2 rfl hv3) ?_|refine ag (cr hc2 rfl hv3) ?_|refine ag (aR hc2 rfl) ?_|refine ag hf0 ?_)
    refine ae ⟨_,_,Ent.ren [0,1,2,3,4,5,6,7] [2,3,4,5,6,7,8,9] rfl rfl rfl,rfl,_,?_,rfl,rfl⟩
    rw[zs3R,putR,zs2R,<-hl,h,h2,<-hcs,h3,<-hn];rfl
   ·have h3:c=false:=h3
    refine ae ⟨_,_,Ent.ren [0,1,2,3,4,5,6,7] [2,3,4,5,6,7,8,9] rfl rfl rfl,rfl,_,?_,rfl,rfl⟩
    rw[zs3R,putR,zs2R,<-hl,h,h2,<-hcs,h3];rfl
 clear hl
 rintro e tm hp ⟨rfl,l3,hl3,rfl,rfl⟩
 repeat (first|(first|refine ah ?_|refine sat_nd ?_)|refine ag (aN ha0 ha1) ?_|refine ag (aN hb0 hb1) ?_|refine ag (bh hc2 rfl hv3) ?_|refine ag (cr hc2 rfl hv3) ?_|refine ag (aR hc2 rfl) ?_|refine ag hf0 ?_)
 refine cJ hE 2 (fun e tm hp=>e=.normal/\∃ ca2 pa2:Int,ca2=caR ca a b/\pa2=paR f zs a b/\tm=[(2,.ptr 1 0 0),(3,.ptr 2 0 0),(4,.ptr 3 0 0),(5,.ptr 4 0 0),(6,.ptr 5 0 0),(7,.int .i8 (zs.getD a.toNat 0)),(8,.ptr 6 0 0),(9,Bb c)]/\hp=[.ints false .i8 zs,.cells true [I f,I r,.sl 0 0 zs.length none,Bb bl,.int .u8 ca,I pa,I ha,I fu],.cells true [I a,I b,.int .i8 pr],.cells true [I f,I r,.sl 7 0 len none,Bb bl,.int .u8 ca2,I pa2,I ha,I fu],.cells true [I a,I b,.int .i8 pr,.int .i8 cap,I at2,.int .u8 ca,I pa,I ha,I fu],.cells true [I 0],.cells true [.int .u8 (wBit n),Bb (wBl n),I (lP n),I (wTo n),I (wCor n),I (wCro n)],.ints true .i8 l3]) rfl (fun h=>?_) (fun h=>?_) ?_
 ·have h:twoB f zs a b=true:=h
  repeat (first|(first|refine ah ?_|refine sat_nd ?_)|refine ag (aN ha0 ha1) ?_|refine ag (aN hb0 hb1) ?_|refine ag (bh hc2 rfl hv3) ?_|refine ag (cr hc2 rfl hv3) ?_|refine ag (aR hc2 rfl) ?_|refine ag hf0 ?_)
  refine ae ⟨_,_,Ent.ren [0,1,2,3,4,5,6,7] [2,3,4,5,6,7,8,9] rfl rfl rfl,rfl,_,_,rfl,?_,rfl,rfl⟩
  rw[paR,h];rfl
 ·have h:twoB f zs a b=false:=h
  refine ae ⟨_,_,Ent.ren [0,1,2,3,4,5,6,7] [2,3,4,5,6,7,8,9] rfl rfl rfl,rfl,_,_,rfl,?_,rfl,rfl⟩
  rw[paR,h];rfl
 rintro e tm hp ⟨rfl,ca2,pa2,hca2,hpa2,rfl,rfl⟩
 repeat (first|(first|refine ah ?_|refine sat_nd ?_)|refine ag (aN ha0 ha1) ?_|refine ag (aN hb0 hb1) ?_|refine ag (bh hc2 rfl hv3) ?_|refine ag (cr hc2 rfl hv3) ?_|refine ag (aR hc2 rfl) ?_|refine ag hf0 ?_)
 refine cJ hE 2 (fun e tm hp=>e=.normal/\∃ ha2:Int,ha2=haR f zs pa ha a b/\tm=[(2,.ptr 1 0 0),(3,.ptr 2 0 0),(4,.ptr 3 0 0),(5,.ptr 4 0 0),(6,.ptr 5 0 0),(7,.int .i8 (zs.getD a.toNat 0)),(8,.ptr 6 0 0),(9,Bb c)]/\hp=[.ints false .i8 zs,.cells true [I f,I r,.sl 0 0 zs.length none,Bb bl,.int .u8 ca,I pa,I ha,I fu],.cells true [I a,I b,.int .i8 pr],.cells true [I f,I r,.sl 7 0 len none,Bb bl,.int .u8 ca2,I pa2,I ha2,I fu],.cells true [I a,I b,.int .i8 pr,.int .i8 cap,I at2,.int .u8 ca,I pa,I ha,I fu],.cells true [I 0],.cells true [.int .u8 (wBit n),Bb (wBl n),I (lP n),I (wTo n),I (wCor n),I (wCro n)],.ints true .i8 l3]) rfl (fun h=>?_) (fun h=>?_) ?_
 ·have h:(decide (absP (zs.getD a.toNat 0)=1)||!decide (cap=0))=true:=h
  refine ae ⟨_,_,Ent.ren [0,1,2,3,4,5,6,7] [2,3,4,5,6,7,8,9] rfl rfl rfl,rfl,_,?_,rfl,rfl⟩
  rw[haR,<-hcap,h];rfl
 ·have h:(decide (absP (zs.getD a.toNat 0)=1)||!decide (cap=0))=false:=h
  refine ae ⟨_,_,Ent.ren [0,1,2,3,4,5,6,7] [2,3,4,5,6,7,8,9] rfl rfl rfl,rfl,_,?_,rfl,rfl⟩
  rw[haR,<-hcap,h];rfl
 rintro e tm hp ⟨rfl,ha2,hha2,rfl,rfl⟩
 repeat (first|(first|refine ah ?_|refine sat_nd ?_)|refine ag (aN ha0 ha1) ?_|refine ag (aN hb0 hb1) ?_|refine ag (bh hc2 rfl hv3) ?_|refine ag (cr hc2 rfl hv3) ?_|refine ag (aR hc2 rfl) ?_|refine ag hf0 ?_)
 refine cJ hE 2 (fun e tm hp=>e=.normal/\∃ fu2:Int,fu2=fuR bl fu/\tm=[(2,.ptr 1 0 0),(3,.ptr 2 0 0),(4,.ptr 3 0 0),(5,.ptr 4 0 0),(6,.ptr 5 0 0),(7,.int .i8 (zs.getD a.toNat 0)),(8,.ptr 6 0 0),(9,Bb c)]/\hp=[.ints false .i8 zs,.cells true [I f,I r,.sl 0 0 zs.length none,Bb bl,.int .u8 ca,I pa,I ha,I fu],.cells true [I a,I b,.int .i8 pr],.cells true [I f,I r,.sl 7 0 len none,Bb bl,.int .u8 ca2,I pa2,I ha2,I fu2],.cells true [I a,I b,.int .i8 pr,.int .i8 cap,I at2,.int .u8 ca,I pa,I ha,I fu],.cells true [I 0],.cells true [.int .u8 (wBit n),Bb (wBl n),I (lP n),I (wTo n),I (wCor n),I (wCro n)],.ints true .i8 l3]) rfl (fun h=>?_) (fun h=>?_) ?_
 ·have h:bl=true:=h
  refine ae ⟨_,_,Ent.ren [0,1,2,3,4,5,6,7] [2,3,4,5,6,7,8,9] rfl rfl rfl,rfl,_,?_,rfl,rfl⟩
  rw[fuR,h];rfl
 ·have h:bl=false:=h
  refine ae ⟨_,_,Ent.ren [0,1,2,3,4,5,6,7] [2,3,4,5,6,7,8,9] rfl rfl rfl,rfl,_,?_,rfl,rfl⟩
  rw[fuR,h];rfl
 rintro e tm hp ⟨rfl,fu2,hfu2,rfl,rfl⟩
 have hl3n:len=l3.length:=by rw[hl3,fA,hlen]
 have hl64:len<=64:=by rw[hlen];exact hc2
 repeat (first|(first|refine ah ?_|refine sat_nd ?_)|refine ag (aN ha0 ha1) ?_|refine ag (aN hb0 hb1) ?_|refine ag (bh hc2 rfl hv3) ?_|refine ag (cr hc2 rfl hv3) ?_|refine ag (aR hc2 rfl) ?_|refine ag hf0 ?_|refine ag (mu hl3n hl64) ?_|refine ag (nH hl3n hl64) ?_)
 refine aq (fun h=>?_) (fun h=>?_)
 ·have h:(chkB f r ((l3.drop 0).take len) bl||(c&&(chkB f r (tk zs) bl||!decide ((dn f r (tk zs) (wCro n) (!bl)).1=0))))=true:=h
  rw[aL,tk_n hl3n,hl3,hcs,hn]at h
  have h:err4 ⟨f,r,zs,bl,ca,pa,ha,fu⟩ ⟨a,b,pr⟩=true:=h
  exact ae (uz (by simp only[mkE5,e1,e2,e3,h,cond_true,cond_false]) rfl (Ent.ren [0,1,2,3,4,5,7] [4,5,6] rfl rfl rfl))
 have h:(chkB f r ((l3.drop 0).take len) bl||(c&&(chkB f r (tk zs) bl||!decide ((dn f r (tk zs) (wCro n) (!bl)).1=0))))=false:=h
 rw[aL,tk_n hl3n,hl3,hcs,hn]at h
 have e4:err4 ⟨f,r,zs,bl,ca,pa,ha,fu⟩ ⟨a,b,pr⟩=false:=h
 clear h
 repeat (first|(first|refine ah ?_|refine sat_nd ?_)|refine ag (aN ha0 ha1) ?_|refine ag (aN hb0 hb1) ?_|refine ag (bh hc2 rfl hv3) ?_|refine ag (cr hc2 rfl hv3) ?_|refine ag (aR hc2 rfl) ?_|refine ag hf0 ?_|refine ag (mu hl3n hl64) ?_|refine ag (nH hl3n hl64) ?_)
 refine aq (fun h=>?_) (fun h=>?_)
 ·have h:(decide (10000<ha2)||decide (10000<fu2))=true:=h
  rw[hha2,hfu2]at h
  have h:err5 ⟨f,r,zs,bl,ca,pa,ha,fu⟩ ⟨a,b,pr⟩=true:=h
  exact ae (uz (by simp only[mkE5,e1,e2,e3,e4,h,cond_true,cond_false]) rfl (Ent.ren [0,1,2,3,4,5,7] [4,5,6] rfl rfl rfl))
 have h:(decide (10000<ha2)||decide (10000<fu2))=false:=h
 rw[hha2,hfu2]at h
 have e5:err5 ⟨f,r,zs,bl,ca,pa,ha,fu⟩ ⟨a,b,pr⟩=false:=h
 clear h
 repeat (first|(first|refine ah ?_|refine sat_nd ?_)|refine ag (aN ha0 ha1) ?_|refine ag (aN hb0 hb1) ?_|refine ag (bh hc2 rfl hv3) ?_|refine ag (cr hc2 rfl hv3) ?_|refine ag (aR hc2 rfl) ?_|refine ag hf0 ?_|refine ag (mu hl3n hl64) ?_|refine ag (nH hl3n hl64) ?_)
 have he:mkE5 ⟨f,r,zs,bl,ca,pa,ha,fu⟩ ⟨a,b,pr⟩=0:=by simp only[mkE5,e1,e2,e3,e4,e5,cond_false]
 subst hlen
 exact ae (Fq (q:=⟨f,r,l3,!bl,ca2,pa2,ha2,fu2⟩) (x:=⟨⟨a,b,pr⟩,cap,at2,ca,pa,ha,fu⟩) he (by rw[mkP,he,hl3,hca2,hpa2,hha2,hfu2];rfl) (by rw[mkU,he,hcap,hat2];rfl) hl3n.symm (Ent.ren [0,1,2,3,4,5,7] [4,5,6] rfl rfl rfl))
def xW:CF
 |[.agg [.int .i64 f,.int .i64 r,.sl 0 0 len none,.bool bl,.int .u8 ca,.int .i64 pa,.int .i64 ha,.int .i64 fu],.agg [.int .i64 a,.int .i64 b,.int .i8 pr]],[.ints false .i8 zs]=>some (decide (len=zs.length)&&decide (zs.length<=64),.tup [psV 1 (mkP ⟨f,r,zs,bl,ca,pa,ha,fu⟩ ⟨a,b,pr⟩),unV (mkU ⟨f,r,zs,bl,ca,pa,ha,fu⟩ ⟨a,b,pr⟩),I (mkE5 ⟨f,r,zs,bl,ca,pa,ha,fu⟩ ⟨a,b,pr⟩)],[.ints true .i8 (mkP ⟨f,r,zs,bl,ca,pa,ha,fu⟩ ⟨a,b,pr⟩).zs])
 |_,_=>none
theorem uI:CtOk (GGx true kDb) PP (40,xW):=by
 refine aE Tryz.func40 (by kernel_rfl) rfl fun a0 h0 c0 v0 N0 e hc=>?_
 unfold xW at e
 split at e
 ·rename_i f r len bl ca pa ha fu a b pr zs
  cases e
  simp only[Bool.and_eq_true,decide_eq_true_eq]at hc
  obtain⟨rfl,hc2⟩:=hc
  exact Ed hc2
 ·cases e
end
end Go.Ab
namespace Go.Ab
open IntKind
open Go.Proofs
section
variable{kCa kDb:Bool}
def afZ1(f r:Int)(zs:List Int)(pa a b:Int):List Int:=bif decide (0<=capL f r zs pa a b)then zs.set (capL f r zs pa a b).toNat 0 else zs
def afZ2(f r:Int)(zs:List Int)(pa a b:Int):List Int:=((afZ1 f r zs pa a b).set a.toNat 0).set b.toNat (zs.getD a.toNat 0)
def afZ3(f r:Int)(zs:List Int)(pa a b pr:Int):List Int:=bif !decide (pr=0) then(afZ2 f r zs pa a b).set b.toNat (w8 (pr*w8 (sgn (zs.getD a.toNat 0))))else afZ2 f r zs pa a b
def afZ4(l:List Int)(c:Int):List Int:=bif !decide (c=0) then(l.set (sqW c 3).toNat (l.getD (sqW c 2).toNat 0)).set (sqW c 2).toNat 0 else l
def afZ(f r:Int)(zs:List Int)(bl:Bool)(ca pa a b pr:Int):List Int:=afZ4 (afZ3 f r zs pa a b pr) (cgL f r zs bl ca a b pr)
def afS(ca a b bit:Int):Int:=bif decide ((u8.wrap (ca.tdiv bit)).tmod 2=1)&&(hasL a [sqW bit 0,sqW bit 2]||hasL b [sqW bit 0,sqW bit 2])then u8.wrap (ca-bit)else ca
def afC(ca a b:Int):Int:=afS (afS (afS (afS ca a b 1) a b 2) a b 4) a b 8
def afPa(f r:Int)(zs:List Int)(a b:Int):Int:=bif decide (aU (zs.getD a.toNat 0)=1)&&(decide (i64.wrap (i64.wrap (a.tdiv f)-i64.wrap (b.tdiv f))=2)||decide (i64.wrap (i64.wrap (b.tdiv f)-i64.wrap (a.tdiv f))=2))then numR f r (a.tmod f) (i64.wrap ((i64.wrap (i64.wrap (a.tdiv f)+i64.wrap (b.tdiv f))).tdiv 2))else -1
def afHa(f r:Int)(zs:List Int)(pa ha a b:Int):Int:=bif decide (aU (zs.getD a.toNat 0)=1)||decide (0<=capL f r zs pa a b)then 0 else i64.wrap (ha+1)
def afP(p:Psn)(m:Mov):Psn:=⟨p.f,p.r,afZ p.f p.r p.zs p.bl p.ca p.pa m.a m.b m.p,!p.bl,afC p.ca m.a m.b,afPa p.f p.r p.zs m.a m.b,afHa p.f p.r p.zs p.pa p.ha m.a m.b,fuR p.bl p.fu⟩
theorem ET{f r:Int}{zs:List Int}{pa a b:Int}:(afZ1 f r zs pa a b).length=zs.length:=by unfold afZ1;cases decide (0<=capL f r zs pa a b)<;>simp
theorem Gf{f r:Int}{zs:List Int}{pa a b pr:Int}:(afZ3 f r zs pa a b pr).length=zs.length:=by unfold afZ3 afZ2;cases(!decide (pr=0))<;>simp[ET]
theorem Jl{f r:Int}{zs:List Int}{bl:Bool}{ca pa a b pr:Int}:(afZ f r zs bl ca pa a b pr).length=zs.length:=by unfold afZ afZ4;cases(!decide (cgL f r zs bl ca a b pr=0))<;>simp[Gf]
theorem sqs:sqW 1 2=7/\sqW 1 3=5/\sqW 2 2=0/\sqW 2 3=3/\sqW 4 2=63/\sqW 4 3=61/\sqW 8 2=56/\sqW 8 3=59:=⟨by kernel_rfl,by kernel_rfl,by kernel_rfl,by kernel_rfl,by kernel_rfl,by kernel_rfl,by kernel_rfl,by kernel_rfl⟩
end
end Go.Ab
namespace Go.Ab
open Go.Proofs
section
variable{kCa kDb:Bool}
end
section
variable{kCa kDb:Bool}
end
theorem sV{ca:Int}(h:0<=ca/\ca<=15){bit:Int}(hb:bit=1\/bit=2\/bit=4\/bit=8):decide ((IntKind.u8.wrap (ca.tdiv bit)).tmod 2=1)=!decide (bS ca bit=0):=by
 obtain⟨h1,h2⟩:=h
 have:ca=0\/ca=1\/ca=2\/ca=3\/ca=4\/ca=5\/ca=6\/ca=7\/ca=8\/ca=9\/ca=10\/ca=11\/ca=12\/ca=13\/ca=14\/ca=15:=by omega
 rcases hb with rfl|rfl|rfl|rfl<;>rcases this with rfl|rfl|rfl|rfl|rfl|rfl|rfl|rfl|rfl|rfl|rfl|rfl|rfl|rfl|rfl|rfl<;>decide
theorem Ie{f r:Int}{zs:List Int}:(lN f r zs 1=!((!is88 f r||!decide (zs.getD 4 0=ofP 6 false))||!decide (zs.getD 7 0=ofP 4 false)))/\(lN f r zs 2=!((!is88 f r||!decide (zs.getD 4 0=ofP 6 false))||!decide (zs.getD 0 0=ofP 4 false)))/\(lN f r zs 4=!((!is88 f r||!decide (zs.getD 60 0=ofP 6 true))||!decide (zs.getD 63 0=ofP 4 true)))/\(lN f r zs 8=!((!is88 f r||!decide (zs.getD 60 0=ofP 6 true))||!decide (zs.getD 56 0=ofP 4 true))):=by
 have e1:ofP 6 false=6:=by decide
 have e2:ofP 4 false=4:=by decide
 have e3:ofP 6 true=-6:=by decide
 have e4:ofP 4 true=-4:=by decide
 rw[e1,e2,e3,e4]
 unfold lN is88
 cases decide (f=8)<;>cases decide (r=8)<;>simp
theorem cast_eq{f r:Int}{zs:List Int}{ca:Int}(h0:0<=ca):oo f r zs ca=er f r zs ca:=by
 unfold oo er
 rcases Int.lt_or_le 15 ca with h|h
 ·have h2:¬ ca<16:=by omega
  simp[h,h2]
 ·have h2:ca<16:=by omega
  have h1:¬ 15<ca:=by omega
  obtain⟨a1,a2,a3,a4⟩:=Ie (f:=f) (r:=r) (zs:=zs)
  have hx:0<=ca/\ca<=15:=⟨h0,h⟩
  simp only[rXL,rtX,sV hx (.inl rfl),sV hx (.inr (.inl rfl)),sV hx (.inr (.inr (.inl rfl))),sV hx (.inr (.inr (.inr rfl))),a1,a2,a3,a4,Bool.not_not,decide_eq_true h2,decide_eq_false h1,cond_false,Bool.and_true,Bool.not_or,Bool.not_and]
theorem pZ(p:Int->Bool):∀ (l:List Int) (k:Int),(cx p l k=-1/\∀ i,i<l.length->p (l.getD i 0)=false)\/(∃ j,j<l.length/\cx p l k=k+(j:Nat)/\p (l.getD j 0)=true/\∀ i,i<j->p (l.getD i 0)=false)
 |[],k=>.inl ⟨rfl,fun i h=>by simp at h⟩
 |x::l,k=>by
  rw[cx]
  cases hx:p x with
  |true=>right;exact⟨0,by simp,by simp,by simpa using hx,fun i h=>by omega⟩
  |false=>
   rw[cond_false]
   rcases pZ p l (k+1) with⟨h1,h2⟩|⟨j,h1,h2,h3,h4⟩
   ·left
    refine⟨h1,fun i hi=>?_⟩
    cases i with
    |zero=>simpa using hx
    |succ i=>have:=h2 i (by simpa using hi);simpa using this
   ·right
    refine⟨j+1,by simpa using h1,by rw[h2];push_cast;omega,by simpa using h3,fun i hi=>?_⟩
    cases i with
    |zero=>simpa using hx
    |succ i=>have:=h4 i (by omega);simpa using this
theorem je{c:Int->Bool}:∀ (n:Nat),(∀ i:Nat,i<n->c i=false)->cn c id n=[]
 |0,_=>rfl
 |n+1,h=>by rw[fG,h n (by omega),cond_false];exact je n fun i hi=>h i (by omega)
theorem jQ{c:Int->Bool}{a:Nat}(ha:c a=true):∀ (n:Nat),a<n->(∀ i:Nat,i<n->c i=true->i=a)->cn c id n=[(a:Int)]
 |0,h,_=>by omega
 |n+1,h,hu=>by
  rw[fG]
  by_cases e:n=a
  ·subst e
   rw[ha,cond_true,je n fun i hi=>?_]
   ·rfl
   ·cases hc:c i with
    |false=>rfl
    |true=>have:=hu i (by omega) hc;omega
  ·have:c n=false:=by
    cases hc:c n with
    |false=>rfl
    |true=>exact absurd (hu n (by omega) hc) e
   rw[this,cond_false]
   exact jQ ha n (by omega) fun i hi=>hu i (by omega)
theorem Ja(bl:Bool):w8 (IntKind.i64.wrap (6*sdI bl))=kgP bl:=by cases bl<;>decide
theorem ic{zs:List Int}{p:Int->Bool}{k:Nat}:(zs.drop k).any p=true↔∃ i,k<=i/\i<zs.length/\p (zs.getD i 0)=true:=by
 rw[List.any_eq_true]
 constructor
 ·rintro⟨x,hx,hp⟩
  obtain⟨i,hi,rfl⟩:=List.mem_iff_getElem.1 hx
  rw[List.getElem_drop]at hp
  rw[List.length_drop]at hi
  exact⟨k+i,by omega,by omega,by simpa[List.getD,show k+i<zs.length by omega]using hp⟩
 ·rintro⟨i,h1,h2,h3⟩
  refine⟨zs.getD i 0,?_,h3⟩
  rw[List.mem_iff_getElem]
  refine⟨i-k,by rw[List.length_drop];omega,?_⟩
  rw[List.getElem_drop]
  simp[List.getD,h2,show k+(i-k)=i by omega]
theorem yE(zs:List Int)(bl:Bool)(hl:zs.length<=64):(og zs bl=true/\aH zs bl=-1)\/(og zs bl=false/\aH zs bl=gz zs bl/\0<=gz zs bl/\gz zs bl<zs.length/\zs.getD (gz zs bl).toNat 0=kgP bl/\∀ i:Nat,i<zs.length->zs.getD i 0=kgP bl->(i:Int)=gz zs bl):=by
 unfold aH og
 rw[Ja]
 rcases pZ (isV (kgP bl)) zs 0 with⟨h1,h2⟩|⟨j,h1,h2,h3,h4⟩
 ·left
  have hn:gQ zs (kgP bl)=[]:=je _ fun i hi=>by
   have:=h2 i hi
   simp only[isV,decide_eq_false_iff_not]at this
   simp only[iM,Int.toNat_natCast,decide_eq_false_iff_not]
   exact fun e=>this e.symm
  rw[hn]
  refine⟨?_,rfl⟩
  rw[show gz zs bl=-1 from h1];rfl
 ·have hK:gz zs bl=(j:Int):=by unfold gz;rw[h2];omega
  simp only[isV,decide_eq_true_eq]at h3
  rw[hK,show IntKind.i64.wrap ((j:Int)+1)=((j+1:Nat):Int) by rw[az (by omega) (by omega)];omega,Int.toNat_natCast,show decide ((j:Int)<0)=false by simp,Bool.false_or]
  cases ha:(zs.drop (j+1)).any (isV (kgP bl)) with
  |true=>
   left
   refine⟨rfl,?_⟩
   obtain⟨i,g1,g2,g3⟩:=ic.1 ha
   simp only[isV,decide_eq_true_eq]at g3
   have m1:(j:Int)∈gQ zs (kgP bl):=bI.2 ⟨by omega,by omega,by simp[iM,h3]⟩
   have m2:(i:Int)∈gQ zs (kgP bl):=bI.2 ⟨by omega,by omega,by simp[iM,g3]⟩
   cases hd:decide (((gQ zs (kgP bl)).length:Int)=1) with
   |false=>rfl
   |true=>
    have:(gQ zs (kgP bl)).length=1:=by have:=of_decide_eq_true hd;omega
    obtain⟨x,hx⟩:=List.length_eq_one_iff.1 this
    rw[hx]at m1 m2
    simp at m1 m2
    omega
  |false=>
   right
   have hno:∀ i:Nat,i<zs.length->zs.getD i 0=kgP bl->i=j:=by
    intro i hi he
    rcases Nat.lt_trichotomy i j with g|g|g
    ·have:=h4 i g
     simp only[isV,decide_eq_false_iff_not]at this
     exact absurd he.symm this
    ·exact g
    ·have:(zs.drop (j+1)).any (isV (kgP bl))=true:=ic.2 ⟨i,by omega,hi,by simp only[isV,decide_eq_true_eq];exact he.symm⟩
     rw[ha]at this;cases this
   have hone:gQ zs (kgP bl)=[(j:Int)]:=jQ (by simp[iM,h3]) _ h1 fun i hi hc=>hno i hi (by simpa[iM]using hc)
   refine⟨rfl,by rw[hone];rfl,by omega,by omega,by rw[h3,Int.toNat_natCast],fun i hi he=>by rw[hno i hi he]⟩
theorem gl{f r:Int}{zs:List Int}{bl:Bool}(h:aD f r zs=true)(hl:zs.length<=64):(aH zs bl<0/\aK f r zs bl=(0,9))\/(aK f r zs bl=(aH zs bl,0)/\ai f r (aH zs bl)=true/\aH zs bl=gz zs bl):=by
 rcases yE zs bl hl with⟨h1,h2⟩|⟨h1,h2,h3,h4,_⟩
 ·left;exact⟨by rw[h2];decide,by unfold aK;rw[h,h1];rfl⟩
 ·right;exact⟨by unfold aK;rw[h,h1,h2];rfl,(bM h).2 (by rw[h2];exact⟨h3,h4⟩),h2⟩
end Go.Ab
namespace Go.Ab
open IntKind
open Go.Proofs
theorem FG{f r:Int}{zs:List Int}{to:Int}{bl:Bool}(h:aD f r zs=true)(hl:zs.length<=64)(ht:ai f r to=true):decide (attR f r zs to bl=0)=decide (((attL f r zs to bl).length:Int)=0):=by
 obtain⟨hu,hb⟩:=kW (bl:=bl) h hl ht
 rw[decide_eq_decide,nw hu]
 constructor
 ·intro h0
  have:attL f r zs to bl=[]:=List.eq_nil_iff_forall_not_mem.2 fun x hx=>by
   have hx':=ej.1 hx
   have:=h0 x.toNat (by omega)
   rw[hb,show ((x.toNat:Nat):Int)=x by omega]at this
   simp[hx]at this
  rw[this];rfl
 ·intro h0 n _
  have:attL f r zs to bl=[]:=List.eq_nil_of_length_eq_zero (by omega)
  rw[hb,this];simp
theorem KM{f r:Int}{zs:List Int}{bl:Bool}(h:aD f r zs=true)(hl:zs.length<=64)(hk:(aK f r zs bl).2=0):chkL f r zs bl=chkB f r zs bl:=by
 rcases gl (bl:=bl) h hl with⟨_,h2⟩|⟨h1,h2,_⟩
 ·rw[h2]at hk;cases hk
 ·unfold chkL chkB aM
  rw[h1]
  simp only[decide_true,cond_true]
  rw[FG h hl h2]
  have:(0:Int)<=((attL f r zs (aH zs bl) (!bl)).length:Int):=Int.natCast_nonneg _
  by_cases h0:((attL f r zs (aH zs bl) (!bl)).length:Int)=0
  ·simp[h0]
  ·have:0<((attL f r zs (aH zs bl) (!bl)).length:Int):=by omega
   rw[decide_eq_false h0,decide_eq_true this];rfl
theorem EP{f r:Int}{zs:List Int}{bl:Bool}(hl:zs.length<=64):(aI f r zs&&ei f r zs bl)=(aD f r zs&&!decide (aH zs false<0)&&!decide (aH zs true<0)&&!chkL f r zs (!bl)):=by
 cases ho:aD f r zs with
 |false=>
  have:ei f r zs bl=false:=by unfold ei aK;rw[ho];simp
  rw[this];simp
 |true=>
  have hv:=(aJ ho).2.2.1
  rw[hv]
  simp only[Bool.true_and]
  have key:∀ b,decide (aH zs b<0)=!decide ((aK f r zs b).2=0):=fun b=>by
   rcases gl (bl:=b) ho hl with⟨h1,h2⟩|⟨h1,h2,_⟩
   ·rw[h2];simp[h1]
   ·rw[h1];have:=(aB h2).1;simp;omega
  rw[key,key]
  unfold ei
  have hch:∀ b,(aM f r zs b).2=0↔(aK f r zs b).2=0:=fun b=>by
   unfold aM
   by_cases h:(aK f r zs b).2=0
   ·simp[h]
   ·simp[h]
  cases hk1:decide ((aK f r zs bl).2=0) with
  |false=>cases bl<;>rw[hk1]<;>simp
  |true=>
   cases hk2:decide ((aK f r zs (!bl)).2=0) with
   |false=>
    have:decide ((aM f r zs (!bl)).2=0)=false:=by rw[decide_eq_false_iff_not,hch];exact of_decide_eq_false hk2
    rw[this]
    cases bl<;>simp only[Bool.not_true,Bool.not_false]at hk2 ⊢<;>rw[hk2]<;>simp
   |true=>
    have h1:decide ((aM f r zs (!bl)).2=0)=true:=by rw[decide_eq_true_eq,hch];exact of_decide_eq_true hk2
    rw[h1,KM ho hl (of_decide_eq_true hk2)]
    unfold chkB
    cases bl<;>simp only[Bool.not_true,Bool.not_false]at hk2 ⊢<;>rw[hk1,hk2]<;>simp
theorem EF{zs:List Int}{p:Int->Bool}:zs.any p=true↔∃ i,i<zs.length/\p (zs.getD i 0)=true:=by
 have:=ic (zs:=zs) (p:=p) (k:=0)
 rw[List.drop_zero]at this
 rw[this];exact⟨fun⟨i,_,h⟩=>⟨i,h⟩,fun⟨i,h⟩=>⟨i,by omega,h⟩⟩
theorem qt{zs:List Int}{p:Int->Bool}{k:Nat}:(zs.take k).any p=true↔∃ i,i<k/\i<zs.length/\p (zs.getD i 0)=true:=by
 rw[EF]
 constructor
 ·rintro⟨i,h1,h2⟩
  rw[List.length_take]at h1
  exact⟨i,by omega,by omega,by simpa[List.getD,List.getElem?_take,show i<k by omega]using h2⟩
 ·rintro⟨i,h1,h2,h3⟩
  exact⟨i,by rw[List.length_take];omega,by simpa[List.getD,List.getElem?_take,h1]using h3⟩
theorem Ft{f r:Int}{zs:List Int}(h:aD f r zs=true)(_hl:zs.length<=64):iV f zs=!uD f r zs:=by
 obtain⟨hv,hn,hbd,hp⟩:=aJ h
 have hb:=dh hv
 have hpw:∀ i:Nat,i<zs.length->(pwL f r zs i=true↔(zs.getD i 0=1/\zs.length-f.toNat<=i)\/(zs.getD i 0=-1/\i<f.toNat)):=by
  intro i hi
  have hvi:ai f r (i:Int)=true:=(cG hbd).2 ⟨by omega,by omega⟩
  obtain⟨hd,x0,x1,y0,y1,he,_⟩:=de hvi
  have hpc:=cK h (i:=(i:Int)) (by omega) (by omega)
  have hl0:fM r (decide ((1:Int)<0))=r-1:=az (by omega) (by omega)
  have hl1:fM r (decide ((-1:Int)<0))=0:=rfl
  have hmul:f*r=(r-1)*f+f:=by rw[Int.sub_mul,Int.mul_comm r f];omega
  rw[Int.toNat_natCast]at hpc
  unfold pwL
  rw[hd,Int.toNat_natCast,dD hpc]
  simp only[Bool.and_eq_true,decide_eq_true_eq]
  constructor
  ·rintro⟨h1,h2⟩
   have:zs.getD i 0=1\/zs.getD i 0=-1:=by omega
   rcases this with e|e
   ·left
    rw[e,hl0]at h2
    rw[h2]at he
    exact⟨e,by omega⟩
   ·right
    rw[e,hl1]at h2
    rw[h2]at he
    exact⟨e,by omega⟩
  ·rintro(⟨e,h2⟩|⟨e,h2⟩)
   ·rw[e,hl0]
    refine⟨by decide,?_⟩
    have h5:¬ py f i<r-1:=by
     intro h6
     have:(py f i+1)*f<=(r-1)*f:=Int.mul_le_mul_of_nonneg_right (by omega) (by omega)
     rw[Int.add_mul]at this
     omega
    omega
   ·rw[e,hl1]
    refine⟨by decide,?_⟩
    have h5:¬ 1<=py f i:=by
     intro h6
     have:1*f<=py f i*f:=Int.mul_le_mul_of_nonneg_right h6 (by omega)
     omega
    omega
 have hiff:uD f r zs=true↔((zs.drop (zs.length-f.toNat)).any (isV 1)=true\/(zs.take f.toNat).any (isV (-1))=true):=by
  rw[ic,qt]
  unfold uD
  rw[List.any_eq_true]
  constructor
  ·rintro⟨i,hi,hp⟩
   have hi:=List.mem_range.1 hi
   rcases(hpw i hi).1 hp with⟨e,g⟩|⟨e,g⟩
   ·left;exact⟨i,g,hi,by rw[e];rfl⟩
   ·right;exact⟨i,g,hi,by rw[e];rfl⟩
  ·rintro(⟨i,g1,g2,g3⟩|⟨i,g1,g2,g3⟩)
   ·simp only[isV,decide_eq_true_eq]at g3
    exact⟨i,List.mem_range.2 g2,(hpw i g2).2 (.inl ⟨g3.symm,g1⟩)⟩
   ·simp only[isV,decide_eq_true_eq]at g3
    exact⟨i,List.mem_range.2 g2,(hpw i g2).2 (.inr ⟨g3.symm,g1⟩)⟩
 unfold iV
 cases h1:(zs.drop (zs.length-f.toNat)).any (isV 1)<;>cases h2:(zs.take f.toNat).any (isV (-1))<;>rw[h1,h2]at hiff<;>cases h3:uD f r zs<;>rw[h3]at hiff<;>simp at hiff ⊢
theorem Lz{f r n k:Int}{zs:List Int}(hbd:aI f r zs=true)(hn:ai f r n=true)(_hk:k=1\/k=-1)(hb:ai f r (n+k*f)=true):px f (n+k*f)=px f n/\py f (n+k*f)=py f n+k:=by
 obtain⟨_,a1,a2,a3,a4,a5,a6⟩:=de hn
 obtain⟨_,b1,b2,b3,b4,b5,_⟩:=de hb
 have:=hbd
 refine kB (f:=f) (by omega) b1 b2 a1 a2 ?_
 rw[b5,Int.add_mul];omega
theorem Ir{f r:Int}{zs:List Int}{bl:Bool}{pa ha:Int}(hbd:aI f r zs=true):pasL f r zs bl pa ha=iQ f r zs bl pa ha:=by
 unfold pasL iQ
 cases h1:decide (pa=-1) with
 |true=>rfl
 |false=>
  rw[cond_false,Bool.false_or]
  by_cases h2:6<=r
  ·have e2:decide (r<6)=false:=by simp;omega
   rw[e2,decide_eq_true h2]
   cases h3:decide (ha=0) with
   |false=>simp
   |true=>
    cases h4:ai f r pa with
    |false=>simp
    |true=>
     have hv:=(bR hbd).1
     have hb:=dh hv
     obtain⟨hd,x0,x1,y0,y1,he,_⟩:=de h4
     have hm:pa.tmod f=px f pa:=rfl
     have hr2:eo r (!bl) 2=(bif bl then 1 else r-2):=by
      unfold eo;cases bl
      ·exact az (by omega) (by omega)
      ·rfl
     have hr4:eo r (!bl) 4=(bif bl then 3 else r-4):=by
      unfold eo;cases bl
      ·exact az (by omega) (by omega)
      ·rfl
     have hk:decide (i64.wrap (2*i64.wrap (pa.tdiv f))=i64.wrap (eo r (!bl) 2+eo r (!bl) 4))=decide (i64.wrap (pa.tdiv f)=rkP r bl):=by
      rw[hd,hr2,hr4,decide_eq_decide]
      rw[az (n:=2*py f pa) (by omega) (by omega)]
      unfold rkP
      cases bl
      ·simp only[cond_false]
       rw[az (by omega) (by omega),az (by omega) (by omega)];omega
      ·simp only[cond_true]
       rw[az (by omega) (by omega)];omega
     rw[hk]
     cases h5:decide (i64.wrap (pa.tdiv f)=rkP r bl) with
     |false=>simp
     |true=>
      obtain⟨n1,n2,n3,n4,n5,n6,n7⟩:=ja (bl:=bl) hbd h2 h4 (of_decide_eq_true h5)
      have hlt:=(cG hbd).1 h4
      have hm1:ai f r (pa+-1*f)=true:=(cG hbd).2 ⟨by omega,by omega⟩
      have hp1:ai f r (pa+1*f)=true:=(cG hbd).2 ⟨by omega,by omega⟩
      have hy:py f pa=(bif bl then 2 else r-3):=by
       have:=of_decide_eq_true h5
       rw[hd]at this
       rw[this];unfold rkP;cases bl
       ·exact az (by omega) (by omega)
       ·rfl
      have hnum:∀ {k R:Int},(k=1\/k=-1)->R=py f pa+k->ai f r (pa+k*f)=true->numR f r (pa.tmod f) R=pa+k*f:=by
       intro k R hk hR hvk
       obtain⟨p1,p2⟩:=Lz hbd h4 hk hvk
       have ho:onB f r (pa.tmod f) R=true:=by
        obtain⟨_,_,_,q3,q4,_⟩:=de hvk
        rw[p2,<-hR]at q3 q4
        exact iv (by rw[hm];exact x0) (by rw[hm];exact x1) q3 q4
       exact(gk hv ho hvk).2 ⟨by rw[p1,hm],by rw[p2,hR]⟩
      have hpc:qd 1 (!bl)=ofP 1 (!bl):=rfl
      rw[hr2,hr4,hpc]
      cases bl
      ·simp only[cond_false]at hy ⊢
       have q1:=hnum (k:=1) (R:=r-2) (.inl rfl) (by omega) hp1
       have q2:=hnum (k:=-1) (R:=r-4) (.inr rfl) (by omega) hm1
       simp only[q1,q2,upP,cond_false,n5,n6,n7]
       have z1:pa+1*f=pa+f:=by omega
       have z2:pa+-1*f=pa-f:=by omega
       simp only[z1,z2]
       simp[Bool.and_assoc]
      ·simp only[cond_true]at hy ⊢
       have q1:=hnum (k:=-1) (R:=1) (.inr rfl) (by omega) hm1
       have q2:=hnum (k:=1) (R:=3) (.inl rfl) (by omega) hp1
       simp only[q1,q2,upP,cond_true,n3,n4]
       have z1:pa+1*f=pa+f:=by omega
       have z2:pa+-1*f=pa-f:=by omega
       simp only[z1,z2]
       simp[Bool.and_assoc]
  ·have e2:decide (r<6)=true:=by simp;omega
   rw[e2,decide_eq_false h2];simp
theorem CE{p:Psn}(hl:p.zs.length<=64)(hca:0<=p.ca):nQ p=p.ok:=by
 have hk:=EP (f:=p.f) (r:=p.r) (bl:=p.bl) hl
 unfold nQ Psn.ok
 cases ho:aD p.f p.r p.zs with
 |false=>
  rw[ho]at hk
  rw[hk];simp
 |true=>
  rw[ho]at hk
  rw[hk,Ft ho hl,cast_eq hca,Ir (aJ ho).2.2.1]
  cases decide (aH p.zs false<0)<;>cases decide (aH p.zs true<0)<;>cases chkL p.f p.r p.zs (!p.bl)<;>cases uD p.f p.r p.zs<;>simp[cntB,Bool.and_assoc]
end Go.Ab
