/- Contracts of the functions that the laws reach, and plain laws of what they compute (text G8); no condition. -/
import Derived.Test.YtlannahgjgpfcaaGreatDoorG7
import Derived.Test.YtlannahgjgpfcaaGreatDoorG4
import Derived.Test.YtlannahgjgpfcaaGreatDoorG5
set_option maxRecDepth 100000
namespace Go.Ab
open IntKind
open Go.Proofs
section
variable{kCa kDb:Bool}
theorem Cy{C:Int->Bool}{l:List Int}{j:Nat}(h:j<l.length):(bif C (l.getD j 0) then(l.take j).filter C++[l.getD j 0] else(l.take j).filter C)=(l.take (j+1)).filter C:=by
 have e:l.getD j 0=l[j]:=by simp[List.getD,h]
 rw[e,List.take_succ_eq_append_getElem h,List.filter_append]
 cases hc:C l[j]<;>simp[hc]
def cw(p:Int):Int:=bif decide (p<0)then w8 (0-p)else p
def sdI(bl:Bool):Int:=bif bl then -1 else 1
def uX(zs:List Int)(s i:Int):Bool:=decide (sgn (zs.getD i.toNat 0)=s)
def ct(zs:List Int)(s:Int):List Int:=cz (uX zs s) id zs.length
def occL(zs:List Int):Int:=ofL (ct zs 1++ct zs (-1)) 0
def iM(zs:List Int)(p i:Int):Bool:=decide (zs.getD i.toNat 0=p)
def gr(zs:List Int)(p:Int):List Int:=cz (iM zs p) id zs.length
def gk(f r:Int)(zs:List Int)(i to occ:Int):Bool:=bif decide (cw (zs.getD i.toNat 0)=1)then hasL to (cz (eL f (decide (zs.getD i.toNat 0<0)) i) id (f*r).toNat)else !decide (i=to)&&bh f r (cw (zs.getD i.toNat 0)) i to occ
def Af(f r:Int)(zs:List Int)(to occ i:Int):Bool:=gk f r zs i to occ
def attL(f r:Int)(zs:List Int)(to:Int)(bl:Bool):List Int:=(ct zs (sdI bl)).filter (Af f r zs to (occL zs))
def aG(zs:List Int)(bl:Bool):Int:=bif decide (((gr zs (w8 (i64.wrap (6*sdI bl)))).length:Int)=1) then(gr zs (w8 (i64.wrap (6*sdI bl)))).getD 0 0 else -1
theorem gL(zs:List Int)(s:Int):(ct zs s).length<=zs.length:=gB _ _ _
theorem dj{zs:List Int}{s x:Int}:x∈ct zs s↔0<=x/\x<zs.length/\sgn (zs.getD x.toNat 0)=s:=by
 unfold ct
 rw[bS]
 simp[uX]
theorem gV{f r:Int}{zs:List Int}:(vsB f r&&decide ((zs.length:Int)=i64.wrap (f*r))&&zs.all okP)=aL f r zs:=by
 unfold aL cntR
 cases vsB f r
 ·simp
 ·simp[badP,List.any_eq_not_all_not]
theorem ki{f r:Int}{zs:List Int}:(aL f r zs&&zs.all (fun p=>!norP p))=aO f r zs:=by
 unfold aO
 simp[List.any_eq_not_all_not]
def qs:CF
 |[.int .i8 p],[]=>some (true,.bool (okP p),[])
 |_,_=>none
theorem pP:CtOk (GGx kCa kDb) PP (143,qs):=by
 refine aF Tryz.func143 (by kernel_rfl) rfl fun a0 h0 c0 v0 N0 e hc=>?_
 unfold qs at e
 split at e
 ·rename_i p
  cases e
  have hE:=aD (kCa:=kCa) (kDb:=kDb) (cts:=[]) (inl:=[]) trivial trivial
  refine av hE 2 Tryz.func143 rfl rfl ?_
  repeat' first|(first|refine ai ?_|refine sat_nd ?_)|refine aq (fun h=>?_) (fun h=>?_)
  all_goals exact af (aj (.inr rfl) rfl rfl rfl (by first|rfl|(simp only[*,cond_true,cond_false];done)|(simp only[*,cond_true,cond_false,Bool.not_true,Bool.not_false,Bool.and_true,Bool.true_and,Bool.and_false,Bool.false_and,Bool.or_true,Bool.true_or,Bool.or_false,Bool.false_or];done)|simp_all []))
 ·cases e
def mj:CF
 |[.int .i8 p],[]=>some (true,.bool (orP p),[])
 |_,_=>none
theorem nW:CtOk (GGx kCa kDb) PP (108,mj):=by
 refine aF Tryz.func108 (by kernel_rfl) rfl fun a0 h0 c0 v0 N0 e hc=>?_
 unfold mj at e
 split at e
 ·rename_i p
  cases e
  have hE:=aD (kCa:=kCa) (kDb:=kDb) (cts:=[]) (inl:=[]) trivial trivial
  refine av hE 2 Tryz.func108 rfl rfl ?_
  repeat' first|(first|refine ai ?_|refine sat_nd ?_)|refine aq (fun h=>?_) (fun h=>?_)
  all_goals exact af (aj (.inr rfl) rfl rfl rfl (by first|rfl|(simp only[*,cond_true,cond_false];done)|(simp only[*,cond_true,cond_false,Bool.not_true,Bool.not_false,Bool.and_true,Bool.true_and,Bool.and_false,Bool.false_and,Bool.or_true,Bool.true_or,Bool.or_false,Bool.false_or];done)|simp_all []))
 ·cases e
def rP:CF
 |[.int .i8 p],[]=>some (true,.int .i64 (sgn p),[])
 |_,_=>none
theorem vL:CtOk (GGx kCa kDb) PP (167,rP):=by
 refine aF Tryz.func167 (by kernel_rfl) rfl fun a0 h0 c0 v0 N0 e hc=>?_
 unfold rP at e
 split at e
 ·rename_i p
  cases e
  have hE:=aD (kCa:=kCa) (kDb:=kDb) (cts:=[]) (inl:=[]) trivial trivial
  refine av hE 2 Tryz.func167 rfl rfl ?_
  repeat' first|(first|refine ai ?_|refine sat_nd ?_)|refine aq (fun h=>?_) (fun h=>?_)
  all_goals exact af (aj (.inr rfl) rfl rfl rfl (by first|rfl|(simp only[sgn, *,cond_true,cond_false];done)|(simp only[sgn, *,cond_true,cond_false,Bool.not_true,Bool.not_false,Bool.and_true,Bool.true_and,Bool.and_false,Bool.false_and,Bool.or_true,Bool.true_or,Bool.or_false,Bool.false_or];done)|simp_all [sgn]))
 ·cases e
def iV:CF
 |[.int .i8 p],[]=>some (true,.int .i8 (cw p),[])
 |_,_=>none
theorem iI:CtOk (GGx kCa kDb) PP (57,iV):=by
 refine aF Tryz.func57 (by kernel_rfl) rfl fun a0 h0 c0 v0 N0 e hc=>?_
 unfold iV at e
 split at e
 ·rename_i p
  cases e
  have hE:=aD (kCa:=kCa) (kDb:=kDb) (cts:=[]) (inl:=[]) trivial trivial
  refine av hE 2 Tryz.func57 rfl rfl ?_
  repeat' first|(first|refine ai ?_|refine sat_nd ?_)|refine aq (fun h=>?_) (fun h=>?_)
  all_goals exact af (aj (.inr rfl) rfl rfl rfl (by first|rfl|(simp only[cw, *,cond_true,cond_false];done)|(simp only[cw, *,cond_true,cond_false,Bool.not_true,Bool.not_false,Bool.and_true,Bool.true_and,Bool.and_false,Bool.false_and,Bool.or_true,Bool.true_or,Bool.or_false,Bool.false_or];done)|simp_all [cw]))
 ·cases e
def qA:CF
 |[.bool bl],[]=>some (true,.int .i64 (sdI bl),[])
 |_,_=>none
theorem pI:CtOk (GGx kCa kDb) PP (110,qA):=by
 refine aF Tryz.func110 (by kernel_rfl) rfl fun a0 h0 c0 v0 N0 e hc=>?_
 unfold qA at e
 split at e
 ·rename_i bl
  cases e
  have hE:=aD (kCa:=kCa) (kDb:=kDb) (cts:=[]) (inl:=[]) trivial trivial
  refine av hE 2 Tryz.func110 rfl rfl ?_
  repeat' first|(first|refine ai ?_|refine sat_nd ?_)|refine aq (fun h=>?_) (fun h=>?_)
  all_goals exact af (aj (.inr rfl) rfl rfl rfl (by first|rfl|(simp only[sdI, *,cond_true,cond_false];done)|(simp only[sdI, *,cond_true,cond_false,Bool.not_true,Bool.not_false,Bool.and_true,Bool.true_and,Bool.and_false,Bool.false_and,Bool.or_true,Bool.true_or,Bool.or_false,Bool.false_or];done)|simp_all [sdI]))
 ·cases e
def CU:CF
 |[.sl 0 0 len none,.int .i64 n],[.ints false .i64 zs]=>some (decide (len=zs.length)&&decide (zs.length<=1000000),.bool (hasL n zs),[])
 |_,_=>none
theorem AQ:CtOk (GGx kCa kDb) PP (169,CU):=by
 refine aF Tryz.func169 (by kernel_rfl) rfl fun a0 h0 c0 v0 N0 e hc=>?_
 unfold CU at e
 split at e
 ·rename_i len n zs
  cases e
  have hE:=aD (kCa:=kCa) (kDb:=kDb) (cts:=[]) (inl:=[]) trivial trivial
  refine av hE 2 Tryz.func169 rfl rfl ?_
  simp only[Bool.and_eq_true,decide_eq_true_eq]at hc
  obtain⟨rfl,hc2⟩:=hc
  refine bX hE 2 (fun i (_:Unit)=>([(0,.sl 0 0 zs.length none),(1,I n),(5,I i)],[.ints false .i64 zs])) zs.length (fun j _=>hasL n (zs.drop j)=hasL n zs) () (by omega) (Ent.ren [0] [0,1,5] rfl rfl rfl) rfl ?_
  intro j i _ hij hj hz
  refine aq (fun hlt=>?_) (fun hlt=>?_)
  ·have hlt':j<zs.length:=by simp at hlt;omega
   rw[Bs hlt',show j=i.toNat by omega]at hz
   refine ag (by simp;omega) ?_
   repeat (first|refine ai ?_|refine sat_nd ?_)
   refine aq (fun hon=>?_) (fun hon=>?_)
   ·have hon:decide (zs.getD i.toNat 0=n)=true:=hon
    rw[hon]at hz
    exact af (af (aj (.inr rfl) rfl rfl rfl (by rw[<-hz];rfl)))
   ·have hon:decide (zs.getD i.toNat 0=n)=false:=hon
    rw[hon]at hz
    exact af ⟨hlt',(),by rw[<-hz,show i.toNat=j by omega];rfl,Ent.ren [0] [0,1,5] rfl rfl rfl⟩
  ·obtain rfl:j=zs.length:=by simp at hlt;omega
   rw[List.drop_length]at hz
   exact af (af (aj (.inr rfl) rfl rfl rfl (by rw[<-hz];rfl)))
 ·cases e
def nnP(p:Int):Bool:=!norP p
def nU:CF
 |[.agg [.int .i64 f,.int .i64 r,.sl 0 0 len none]],[.ints false .i8 zs]=>some (decide (len=zs.length)&&decide (zs.length<=64),.bool (aL f r zs),[])
 |_,_=>none
theorem tq:CtOk (GGx kCa kDb) PP (107,nU):=by
 refine aF Tryz.func107 (by kernel_rfl) rfl fun a0 h0 c0 v0 N0 e hc=>?_
 unfold nU at e
 split at e
 ·rename_i f r len zs
  cases e
  have hE:=aD (kCa:=kCa) (kDb:=kDb) (cts:=[(33,tH),(143,qs)]) (inl:=[]) ⟨nR,pP,trivial⟩ trivial
  refine av hE 2 Tryz.func107 rfl rfl ?_
  simp only[Bool.and_eq_true,decide_eq_true_eq]at hc
  obtain⟨rfl,hc2⟩:=hc
  repeat (first|refine ai ?_|refine sat_nd ?_)
  refine aq (fun h=>?_) (fun h=>?_)
  ·have h:(vsB f r&&decide ((zs.length:Int)=i64.wrap (f*r)))=false:=by
    have h:(!vsB f r||!decide ((zs.length:Int)=i64.wrap (f*r)))=true:=h
    cases h1:vsB f r<;>cases h2:decide ((zs.length:Int)=i64.wrap (f*r))<;>simp_all
   exact af (aj (.inr rfl) rfl rfl rfl (by rw[<-gV,h];rfl))
  have h:(vsB f r&&decide ((zs.length:Int)=i64.wrap (f*r)))=true:=by
   have h:(!vsB f r||!decide ((zs.length:Int)=i64.wrap (f*r)))=false:=h
   cases h1:vsB f r<;>cases h2:decide ((zs.length:Int)=i64.wrap (f*r))<;>simp_all
  refine bX hE 2 (fun i (_:Unit)=>([(1,.ptr 1 0 0),(3,I i)],[.ints false .i8 zs,.cells true [I f,I r,.sl 0 0 zs.length none]])) zs.length (fun j _=>(zs.drop j).all okP=zs.all okP) () (by omega) (Ent.ren [0,1] [1,3] rfl rfl rfl) rfl ?_
  intro j i _ hij hj hz
  refine aq (fun hlt=>?_) (fun hlt=>?_)
  ·have hlt':j<zs.length:=by simp at hlt;omega
   rw[mA hlt',show j=i.toNat by omega]at hz
   refine ag (by simp;omega) ?_
   repeat (first|(first|refine ai ?_|refine sat_nd ?_)|refine ag (by simp;omega) ?_)
   refine aq (fun hon=>?_) (fun hon=>?_)
   ·have hon:(!okP (zs.getD i.toNat 0))=true:=hon
    have hon:okP (zs.getD i.toNat 0)=false:=by simpa using hon
    rw[hon]at hz
    exact af (af (aj (.inr rfl) rfl rfl rfl (by rw[<-gV,h,<-hz];rfl)))
   ·have hon:(!okP (zs.getD i.toNat 0))=false:=hon
    have hon:okP (zs.getD i.toNat 0)=true:=by simpa using hon
    rw[hon]at hz
    exact af ⟨hlt',(),by rw[<-hz,show i.toNat=j by omega];rfl,Ent.ren [0,1] [1,3] rfl rfl rfl⟩
  ·obtain rfl:j=zs.length:=by simp at hlt;omega
   rw[List.drop_length]at hz
   have hz:zs.all okP=true:=hz.symm
   exact af (af (aj (.inr rfl) rfl rfl rfl (by rw[<-gV,h,hz];rfl)))
 ·cases e
def wO:CF
 |[.agg [.int .i64 f,.int .i64 r,.sl 0 0 len none]],[.ints false .i8 zs]=>some (decide (len=zs.length)&&decide (zs.length<=64),.bool (aO f r zs),[])
 |_,_=>none
theorem Ae:CtOk (GGx kCa kDb) PP (54,wO):=by
 refine aF Tryz.func54 (by kernel_rfl) rfl fun a0 h0 c0 v0 N0 e hc=>?_
 unfold wO at e
 split at e
 ·rename_i f r len zs
  cases e
  have hE:=aD (kCa:=kCa) (kDb:=kDb) (cts:=[(107,nU),(108,mj)]) (inl:=[]) ⟨tq,nW,trivial⟩ trivial
  refine av hE 2 Tryz.func54 rfl rfl ?_
  simp only[Bool.and_eq_true,decide_eq_true_eq]at hc
  obtain⟨rfl,hc2⟩:=hc
  repeat (first|refine ai ?_|refine sat_nd ?_)
  refine aq (fun h=>?_) (fun h=>?_)
  ·have h:aL f r zs=false:=by simpa using h
   exact af (aj (.inr rfl) rfl rfl rfl (by rw[<-ki,h];rfl))
  have h:aL f r zs=true:=by simpa using h
  refine bX hE 2 (fun i (_:Unit)=>([(1,.ptr 1 0 0),(3,I i)],[.ints false .i8 zs,.cells true [I f,I r,.sl 0 0 zs.length none]])) zs.length (fun j _=>(zs.drop j).all nnP=zs.all nnP) () (by omega) (Ent.ren [0,1] [1,3] rfl rfl rfl) rfl ?_
  intro j i _ hij hj hz
  refine aq (fun hlt=>?_) (fun hlt=>?_)
  ·have hlt':j<zs.length:=by simp at hlt;omega
   rw[mA hlt',show j=i.toNat by omega]at hz
   refine ag (by simp;omega) ?_
   repeat (first|(first|refine ai ?_|refine sat_nd ?_)|refine ag (by simp;omega) ?_)
   refine aq (fun hon=>?_) (fun hon=>?_)
   ·have hon:(!nnP (zs.getD i.toNat 0))=true:=(Bool.not_not _).trans hon
    have hon:nnP (zs.getD i.toNat 0)=false:=by simpa using hon
    rw[hon]at hz
    exact af (af (aj (.inr rfl) rfl rfl rfl (by rw[<-ki,h,show zs.all (fun p=>!norP p)=zs.all nnP from rfl,<-hz];rfl)))
   ·have hon:(!nnP (zs.getD i.toNat 0))=false:=(Bool.not_not _).trans hon
    have hon:nnP (zs.getD i.toNat 0)=true:=by simpa using hon
    rw[hon]at hz
    exact af ⟨hlt',(),by rw[<-hz,show i.toNat=j by omega];rfl,Ent.ren [0,1] [1,3] rfl rfl rfl⟩
  ·obtain rfl:j=zs.length:=by simp at hlt;omega
   rw[List.drop_length]at hz
   have hz:zs.all nnP=true:=hz.symm
   exact af (af (aj (.inr rfl) rfl rfl rfl (by rw[<-ki,h,show zs.all (fun p=>!norP p)=zs.all nnP from rfl,hz];rfl)))
 ·cases e
def yh:CF
 |[.agg [.int .i64 _f,.int .i64 _r,.sl 0 0 len none],.int .i64 s],[.ints false .i8 zs]=>some (decide (len=zs.length)&&decide (zs.length<=64),.sl 1 0 (ct zs s).length none,[.ints true .i64 (ct zs s)])
 |_,_=>none
theorem tw:CtOk (GGx kCa kDb) PP (144,yh):=by
 refine aF Tryz.func144 (by kernel_rfl) rfl fun a0 h0 c0 v0 N0 e hc=>?_
 unfold yh at e
 split at e
 ·rename_i f r len s zs
  cases e
  have hE:=aD (kCa:=kCa) (kDb:=kDb) (cts:=[(167,rP)]) (inl:=[]) ⟨vL,trivial⟩ trivial
  refine av hE 2 Tryz.func144 rfl rfl ?_
  simp only[Bool.and_eq_true,decide_eq_true_eq]at hc
  obtain⟨rfl,hc2⟩:=hc
  refine bX hE 2 (fun(i:Int) (ys:List Int)=>([(1,I s),(2,.ptr 1 0 0),(5,.sl 2 0 ys.length none),(6,I i)],[.ints false .i8 zs,.cells true [I f,I r,.sl 0 0 zs.length none],.ints true .i64 ys])) (zs.length) (fun j ys=>ys=cz (uX zs s) id j) [] (by omega) ((Ent.phanT (t:=5) (o:=.ints true .i64 []) rfl ⟨by simp,by simp,trivial,rfl⟩ (aM rfl)).trans (Ent.ren [0,1,2] [1,2,5,6] rfl rfl rfl)) rfl ?_
  intro j i ys hij hj hz
  have hb:=gB (uX zs s) id j
  rw[<-hz]at hb
  refine aq (fun hlt=>?_) (fun hlt=>?_)
  ·have hlt':j<zs.length:=by simp only[decide_eq_true_eq]at hlt;omega
   have hs:=fK (uX zs s) id j
   rw[<-hz,<-hij]at hs
   repeat (first|(first|refine ai ?_|refine sat_nd ?_)|refine ag (by simp;omega) ?_)
   refine aq (fun hon=>?_) (fun hon=>?_)
   ·skip
    have hon:uX zs s i=true:=hon
    rw[hon,cond_true]at hs
    refine ag (b:=decide (ys.length=ys.length)&&decide ((ys.length+1)*8<=140737488355328)&&true) (by simp;omega) ?_
    exact af ⟨hlt',ys++[id i],hs.symm,Ent.ren [0,1,4] [1,2,5,6] rfl rfl rfl⟩
   ·skip
    have hon:uX zs s i=false:=hon
    rw[hon,cond_false]at hs
    exact af ⟨hlt',ys,hs.symm,Ent.ren [0,1,2] [1,2,5,6] rfl rfl rfl⟩
  ·obtain rfl:j=zs.length:=by simp only[decide_eq_false_iff_not]at hlt;omega
   subst hz
   refine af (af ((dW 2 (.inr rfl) rfl rfl rfl rfl rfl rfl)))
 ·cases e
def uK:CF
 |[.agg [.int .i64 _f,.int .i64 _r,.sl 0 0 len none],.int .i8 p],[.ints false .i8 zs]=>some (decide (len=zs.length)&&decide (zs.length<=64),.sl 1 0 (gr zs p).length none,[.ints true .i64 (gr zs p)])
 |_,_=>none
theorem ze:CtOk (GGx kCa kDb) PP (109,uK):=by
 refine aF Tryz.func109 (by kernel_rfl) rfl fun a0 h0 c0 v0 N0 e hc=>?_
 unfold uK at e
 split at e
 ·rename_i f r len p zs
  cases e
  have hE:=aD (kCa:=kCa) (kDb:=kDb) (cts:=[]) (inl:=[]) trivial trivial
  refine av hE 2 Tryz.func109 rfl rfl ?_
  simp only[Bool.and_eq_true,decide_eq_true_eq]at hc
  obtain⟨rfl,hc2⟩:=hc
  refine bX hE 2 (fun(i:Int) (ys:List Int)=>([(1,.int .i8 p),(2,.ptr 1 0 0),(5,.sl 2 0 ys.length none),(6,I i)],[.ints false .i8 zs,.cells true [I f,I r,.sl 0 0 zs.length none],.ints true .i64 ys])) (zs.length) (fun j ys=>ys=cz (iM zs p) id j) [] (by omega) ((Ent.phanT (t:=5) (o:=.ints true .i64 []) rfl ⟨by simp,by simp,trivial,rfl⟩ (aM rfl)).trans (Ent.ren [0,1,2] [1,2,5,6] rfl rfl rfl)) rfl ?_
  intro j i ys hij hj hz
  have hb:=gB (iM zs p) id j
  rw[<-hz]at hb
  refine aq (fun hlt=>?_) (fun hlt=>?_)
  ·have hlt':j<zs.length:=by simp only[decide_eq_true_eq]at hlt;omega
   have hs:=fK (iM zs p) id j
   rw[<-hz,<-hij]at hs
   repeat (first|(first|refine ai ?_|refine sat_nd ?_)|refine ag (by simp;omega) ?_)
   refine aq (fun hon=>?_) (fun hon=>?_)
   ·skip
    have hon:iM zs p i=true:=hon
    rw[hon,cond_true]at hs
    refine ag (b:=decide (ys.length=ys.length)&&decide ((ys.length+1)*8<=140737488355328)&&true) (by simp;omega) ?_
    exact af ⟨hlt',ys++[id i],hs.symm,Ent.ren [0,1,4] [1,2,5,6] rfl rfl rfl⟩
   ·skip
    have hon:iM zs p i=false:=hon
    rw[hon,cond_false]at hs
    exact af ⟨hlt',ys,hs.symm,Ent.ren [0,1,2] [1,2,5,6] rfl rfl rfl⟩
  ·obtain rfl:j=zs.length:=by simp only[decide_eq_false_iff_not]at hlt;omega
   subst hz
   refine af (af ((dW 2 (.inr rfl) rfl rfl rfl rfl rfl rfl)))
 ·cases e
end
end Go.Ab
namespace Go.Ab
open Go.Proofs
section
variable{kCa kDb:Bool}
theorem eD(l:List Int):(tk l).length=l.length:=by rw[aX]
theorem AH(l m:List Int)(h:l.length<=1000000)(h2:m.length<=1000000)(b:Bool)(hb:b=true):(decide ((tk l).length=(tk l).length)&&decide (((tk l).length+m.length)*8<=140737488355328)&&b)=true:=by rw[eD,hb];simp;omega
theorem Gq(zs:List Int)(h:zs.length<=64){L:List Int}{n:Nat}(hL:L=ct zs 1++ct zs (-1))(hn:n=L.length):(decide (n=((L.drop 0).take n).length)&&decide (((L.drop 0).take n).length<=1000000)&&((L.drop 0).take n).all fun x=>decide (0<=x))=true:=by
 subst hn
 have e:(L.drop 0).take L.length=L:=by simp
 rw[e]
 have h1:=gL zs 1
 have h2:=gL zs (-1)
 have h3:L.length<=1000000:=by rw[hL,List.length_append];omega
 simp only[decide_true,Bool.true_and,Bool.and_eq_true,decide_eq_true_eq,List.all_eq_true]
 refine⟨h3,fun x hx=>?_⟩
 rw[hL]at hx
 rcases List.mem_append.1 hx with hx|hx<;>exact(dj.1 hx).1
def Jq:CF
 |[.agg [.int .i64 _f,.int .i64 _r,.sl 0 0 len none]],[.ints false .i8 zs]=>some (decide (len=zs.length)&&decide (zs.length<=64),.int .u64 (occL zs),[])
 |_,_=>none
theorem GS:CtOk (GGx kCa kDb) PP (145,Jq):=by
 refine aF Tryz.func145 (by kernel_rfl) rfl fun a0 h0 c0 v0 N0 e hc=>?_
 unfold Jq at e
 split at e
 ·rename_i f r len zs
  cases e
  have hE:=aD (kCa:=kCa) (kDb:=kDb) (cts:=[(144,yh),(168,c_Of)]) (inl:=[]) ⟨tw,IX,trivial⟩ trivial
  refine av hE 2 Tryz.func145 rfl rfl ?_
  simp only[Bool.and_eq_true,decide_eq_true_eq]at hc
  obtain⟨rfl,hc2⟩:=hc
  have l1:=gL zs 1
  have l2:=gL zs (-1)
  repeat (first|refine ai ?_|refine sat_nd ?_)
  refine ag (by
   refine AH (ct (tk zs) 1) (ct (tk zs) (-1)) ?_ ?_ _ rfl<;>simp only[aX]<;>omega) ?_
  refine ag (by
   refine Gq zs hc2 (L:=tk (ct (tk zs) 1)++tk (ct (tk zs) (-1))) ?_ rfl
   simp only[aX]) ?_
  refine af (aj (.inr rfl) rfl rfl rfl ?_)
  show U (ofL (tk (tk (ct (tk zs) 1)++tk (ct (tk zs) (-1)))) 0)=_
  simp only[aX]
  rfl
 ·cases e
end
section
variable{kCa kDb:Bool}
theorem FV{c:Int->Bool}{n m:Nat}(h:n<=1000000)(hm:m=(cz c id n).length):(decide (m=(((cz c id n).drop 0).take m).length)&&decide ((((cz c id n).drop 0).take m).length<=1000000))=true:=by
 subst hm
 have:=gB c id n
 have e:((cz c id n).drop 0).take (cz c id n).length=cz c id n:=by simp
 rw[e];simp;omega
theorem Gm{zs:List Int}{s:Int}{i:Nat}(h:i<(ct (tk zs) s).length):0<=(ct (tk zs) s).getD i 0/\(ct (tk zs) s).getD i 0<zs.length:=by
 rw[aX]at h ⊢
 have hm:(ct zs s).getD i 0∈ct zs s:=by simp[List.getD,h]
 have:=dj.1 hm
 exact⟨this.1,this.2.1⟩
def nN:CF
 |[.agg [.int .i64 f,.int .i64 r,.sl 0 0 len none],.int .i64 i,.int .i64 to,.int .u64 occ],[.ints false .i8 zs]=>some (decide (len=zs.length)&&decide (zs.length<=64)&&decide (0<=i)&&decide (i<zs.length)&&vsB f r,.bool (gk f r zs i to occ),[])
 |_,_=>none
theorem sA:CtOk (GGx kCa kDb) PP (146,nN):=by
 refine aF Tryz.func146 (by kernel_rfl) rfl fun a0 h0 c0 v0 N0 e hc=>?_
 unfold nN at e
 split at e
 ·rename_i f r len i to occ zs
  cases e
  have hE:=aD (kCa:=kCa) (kDb:=kDb) (cts:=[(57,iV),(170,mM),(169,CU),(171,mY)]) (inl:=[]) ⟨iI,tK,AQ,uj,trivial⟩ trivial
  refine av hE 2 Tryz.func146 rfl rfl ?_
  simp only[Bool.and_eq_true,decide_eq_true_eq]at hc
  obtain⟨⟨⟨⟨rfl,hc2⟩,hi1⟩,hi2⟩,hv⟩:=hc
  have hf:=cY hv
  have hm:=cV hv
  have hf0:(!decide (f=0))=true:=by simp;omega
  repeat (first|(first|refine ai ?_|refine sat_nd ?_)|refine ag (by simp;omega) ?_)
  refine aq (fun h=>?_) (fun h=>?_)
  ·have h:decide (cw (zs.getD i.toNat 0)=1)=true:=h
   refine ag hv ?_
   repeat (first|refine ai ?_|refine sat_nd ?_)
   refine ag (FV (by omega) rfl) ?_
   refine af (aj (.inr rfl) rfl rfl rfl ?_)
   show V.bool (hasL to (tk (cz (eL f (decide (zs.getD i.toNat 0<0)) i) id (f*r).toNat)))=_
   rw[aX,gk,h];rfl
  ·have h:decide (cw (zs.getD i.toNat 0)=1)=false:=h
   repeat (first|(first|refine ai ?_|refine sat_nd ?_)|refine ag (by rw[hf0];exact Bool.or_true _) ?_)
   exact af (aj (.inr rfl) rfl rfl rfl (by rw[gk,h];rfl))
 ·cases e
def fe:CF
 |[.agg [.int .i64 f,.int .i64 r,.sl 0 0 len none],.int .i64 to,.bool bl],[.ints false .i8 zs]=>some (decide (len=zs.length)&&decide (zs.length<=64)&&vsB f r,.sl 1 0 (attL f r zs to bl).length none,[.ints true .i64 (attL f r zs to bl)])
 |_,_=>none
theorem kL:CtOk (GGx kCa kDb) PP (111,fe):=by
 refine aF Tryz.func111 (by kernel_rfl) rfl fun a0 h0 c0 v0 N0 e hc=>?_
 unfold fe at e
 split at e
 ·rename_i f r len to bl zs
  cases e
  have hE:=aD (kCa:=kCa) (kDb:=kDb) (cts:=[(110,qA),(144,yh),(145,Jq),(146,nN)]) (inl:=[]) ⟨pI,tw,GS,sA,trivial⟩ trivial
  refine av hE 2 Tryz.func111 rfl rfl ?_
  simp only[Bool.and_eq_true,decide_eq_true_eq]at hc
  obtain⟨⟨rfl,hc2⟩,hv⟩:=hc
  have hsl:(ct (tk zs) (sdI bl)).length<=zs.length:=by rw[aX];exact gL zs (sdI bl)
  repeat (first|refine ai ?_|refine sat_nd ?_)
  refine bX hE 2 (fun(i:Int) (ys:List Int)=>([(1,I to),(3,.ptr 1 0 0),(7,.sl 3 0 ys.length none),(8,.sl 2 0 (ct (tk zs) (sdI bl)).length none),(9,U (occL (tk zs))),(10,I i)],[.ints false .i8 zs,.cells true [I f,I r,.sl 0 0 zs.length none],.ints true .i64 (ct (tk zs) (sdI bl)),.ints true .i64 ys])) (ct (tk zs) (sdI bl)).length (fun j ys=>ys=((ct (tk zs) (sdI bl)).take j).filter (Af f r (tk zs) to (occL (tk zs)))) [] (by omega) ((Ent.phanT (t:=7) (o:=.ints true .i64 []) rfl ⟨by simp,by simp,trivial,rfl⟩ (aM rfl)).trans (Ent.ren [0,1,2,3] [1,3,7,8,9,10] rfl rfl rfl)) rfl ?_
  intro j i ys hij hj hz
  have hb:ys.length<=j:=by rw[hz];exact Nat.le_trans (List.length_filter_le _ _) (by rw[List.length_take];omega)
  refine aq (fun hlt=>?_) (fun hlt=>?_)
  ·have hlt':j<(ct (tk zs) (sdI bl)).length:=by simp only[decide_eq_true_eq]at hlt;omega
   have hs:=Cy (C:=Af f r (tk zs) to (occL (tk zs))) hlt'
   have hgl:=Gm (zs:=zs) (s:=sdI bl) (i:=i.toNat) (by omega)
   have hil:(decide (0<=i)&&decide (i<((ct (tk zs) (sdI bl)).length:Int)))=true:=by simp only[Bool.and_eq_true,decide_eq_true_eq];omega
   rw[<-hz,show j=i.toNat by omega]at hs
   repeat (first|(first|refine ai ?_|refine sat_nd ?_)|refine ag hil ?_)
   refine ag (by
    simp only[Bool.and_eq_true,decide_eq_true_eq]
    rw[eD]
    exact⟨⟨⟨⟨by first|rfl|trivial,hc2⟩,hgl.1⟩,hgl.2⟩,hv⟩) ?_
   refine aq (fun hon=>?_) (fun hon=>?_)
   ·skip
    have hon:Af f r (tk zs) to (occL (tk zs)) ((ct (tk zs) (sdI bl)).getD i.toNat 0)=true:=hon
    rw[hon,cond_true]at hs
    refine ag (by simp;omega) ?_
    refine ag (b:=decide (ys.length=ys.length)&&decide ((ys.length+1)*8<=140737488355328)&&true) (by simp;omega) ?_
    exact af ⟨hlt',ys++[(ct (tk zs) (sdI bl)).getD i.toNat 0],by rw[show j+1=i.toNat+1 by omega];exact hs,Ent.ren [0,1,2,5] [1,3,7,8,9,10] rfl rfl rfl⟩
   ·skip
    have hon:Af f r (tk zs) to (occL (tk zs)) ((ct (tk zs) (sdI bl)).getD i.toNat 0)=false:=hon
    rw[hon,cond_false]at hs
    exact af ⟨hlt',ys,by rw[show j+1=i.toNat+1 by omega];exact hs,Ent.ren [0,1,2,3] [1,3,7,8,9,10] rfl rfl rfl⟩
  ·obtain rfl:j=(ct (tk zs) (sdI bl)).length:=by simp only[decide_eq_false_iff_not]at hlt;omega
   rw[List.take_length]at hz
   subst hz
   refine af (af (dW 3 (.inr rfl) rfl rfl rfl rfl (by simp only[aX];rfl) (by simp only[aX];rfl)))
 ·cases e
end
end Go.Ab
namespace Go.Ab
open IntKind
open Go.Proofs
section
variable{kCa kDb:Bool}
theorem ck{zs:List Int}(h:zs.length<=64){n:Nat}(hn:n=zs.length):(decide (n=(tk zs).length)&&decide ((tk zs).length<=64))=true:=by rw[eD,hn];simp;omega
theorem cx{zs:List Int}(h:zs.length<=64){n:Nat}(hn:n=zs.length){b:Bool}(hb:b=true):(decide (n=(tk zs).length)&&decide ((tk zs).length<=64)&&b)=true:=by rw[eD,hn,hb];simp;omega
def gA:CF
 |[.agg [.int .i64 _f,.int .i64 _r,.sl 0 0 len none],.bool bl],[.ints false .i8 zs]=>some (decide (len=zs.length)&&decide (zs.length<=64),.int .i64 (aG zs bl),[])
 |_,_=>none
theorem gz:CtOk (GGx kCa kDb) PP (55,gA):=by
 refine aF Tryz.func55 (by kernel_rfl) rfl fun a0 h0 c0 v0 N0 e hc=>?_
 unfold gA at e
 split at e
 ·rename_i f r len bl zs
  cases e
  have hE:=aD (kCa:=kCa) (kDb:=kDb) (cts:=[(110,qA),(109,uK)]) (inl:=[]) ⟨pI,ze,trivial⟩ trivial
  refine av hE 2 Tryz.func55 rfl rfl ?_
  simp only[Bool.and_eq_true,decide_eq_true_eq]at hc
  obtain⟨rfl,hc2⟩:=hc
  repeat (first|refine ai ?_|refine sat_nd ?_)
  refine aq (fun h=>?_) (fun h=>?_)
  ·have h:(!decide (((gr (tk zs) (w8 (i64.wrap (6*sdI bl)))).length:Int)=1))=true:=h
   rw[aX,Bool.not_eq_true']at h
   exact af (aj (.inr rfl) rfl rfl rfl (by rw[aG,h];rfl))
  ·have h:(!decide (((gr (tk zs) (w8 (i64.wrap (6*sdI bl)))).length:Int)=1))=false:=h
   rw[aX,Bool.not_eq_false']at h
   have hl:((gr (tk zs) (w8 (i64.wrap (6*sdI bl)))).length:Int)=1:=by rw[aX];exact of_decide_eq_true h
   refine ag (by
    show (decide ((0:Int)<=0)&&decide ((0:Int)<((gr (tk zs) (w8 (i64.wrap (6*sdI bl)))).length:Int)))=true
    rw[hl];rfl) ?_
   exact af (aj (.inr rfl) rfl rfl rfl (by
    show I ((gr (tk zs) (w8 (i64.wrap (6*sdI bl)))).getD 0 0)=_
    rw[aX,aG,h];rfl))
 ·cases e
end
end Go.Ab
set_option maxHeartbeats 4000000
namespace Go.Ab
open IntKind
open Go.Proofs
section
variable{kCa kDb:Bool}
theorem lE{f r n:Int}(h:ak f r n=true):i64.wrap (n.tdiv f)=py f n/\0<=px f n/\px f n<f/\0<=py f n/\py f n<r/\px f n+py f n*f=n/\3<=f/\f<=8/\3<=r/\r<=8:=by
 have:=cO h
 have h2:=iQ h
 exact⟨this.2.2.2.2.1,this.1,this.2.1,this.2.2.1,this.2.2.2.1,h2,this.2.2.2.2.2⟩
theorem tW{f r:Int}{zs:List Int}{pa:Int}{bl g1 g2:Bool}(h:aL f r zs=true):(!(g1&&g2&&ak f r pa&&decide (i64.wrap (pa.tdiv f)=rkP r bl))||(decide (0<=pa)&&decide (pa<zs.length)))=true:=by
 cases hv:ak f r pa with
 |false=>simp
 |true=>have:=(iX h).1 hv;simp[this.1,this.2]
theorem jh{f r:Int}{zs:List Int}{pa:Int}{bl:Bool}(h:aL f r zs=true)(hr:6<=r)(hv:ak f r pa=true)(hk:i64.wrap (pa.tdiv f)=rkP r bl):0<=pa-f/\pa+f<zs.length/\i64.wrap (pa-f)=pa-f/\i64.wrap (pa+f)=pa+f/\i64.wrap (0-f)=-f/\i64.wrap (pa - -f)=pa+f/\i64.wrap (pa+-f)=pa-f:=by
 obtain⟨h1,h2,h3,h4,h5,h6,h7⟩:=lE hv
 have hl:=(bT h).2
 rw[h1]at hk
 have hw:i64.wrap (r-3)=r-3:=aC (by omega) (by omega)
 have hpy:1<=py f pa/\py f pa+1<r:=by
  cases bl
  ·simp only[rkP,cond_false,hw]at hk;omega
  ·simp only[rkP,cond_true]at hk;omega
 have a1:1*f<=py f pa*f:=Int.mul_le_mul_of_nonneg_right hpy.1 (by omega)
 have a2:(py f pa+1+1)*f<=r*f:=Int.mul_le_mul_of_nonneg_right (by omega) (by omega)
 rw[Int.add_mul,Int.add_mul,Int.mul_comm r f]at a2
 have hlt:=(aS hv)
 exact⟨by omega,by omega,aC (by omega) (by omega),aC (by omega) (by omega),by rw[Int.zero_sub];exact aC (by omega) (by omega),by rw[Int.sub_neg];exact aC (by omega) (by omega),by rw[<-Int.sub_eq_add_neg];exact aC (by omega) (by omega)⟩
theorem CW{f:Int}{g:Bool}(h:f≠0):(!g||!decide (f=0))=true:=by simp[h]
theorem MJ{f r:Int}{zs:List Int}{pa ha:Int}{bl x:Bool}(h:aL f r zs=true):(!(decide (6<=r)&&decide (ha=0)&&ak f r pa&&decide (i64.wrap (pa.tdiv f)=rkP r bl)&&x)||(decide (0<=i64.wrap (pa-upP f bl))&&decide (i64.wrap (pa-upP f bl)<zs.length)))=true:=by
 cases hg:(decide (6<=r)&&decide (ha=0)&&ak f r pa&&decide (i64.wrap (pa.tdiv f)=rkP r bl)) with
 |false=>simp
 |true=>
  simp only[Bool.and_eq_true,decide_eq_true_eq]at hg
  obtain⟨h1,h2,h3,h4,h5,h6,h7⟩:=jh (bl:=bl) h hg.1.1.1 hg.1.2 hg.2
  have hfr:=cY (bT h).1
  cases bl
  ·rw[Bool.or_eq_true];right
   simp only[upP,cond_false,h5,h6,Bool.and_eq_true,decide_eq_true_eq];omega
  ·rw[Bool.or_eq_true];right
   simp only[upP,cond_true,h3,Bool.and_eq_true,decide_eq_true_eq];omega
theorem NR{f r:Int}{zs:List Int}{pa ha:Int}{bl x y:Bool}(h:aL f r zs=true):(!(decide (6<=r)&&decide (ha=0)&&ak f r pa&&decide (i64.wrap (pa.tdiv f)=rkP r bl)&&x&&y)||(decide (0<=i64.wrap (pa+upP f bl))&&decide (i64.wrap (pa+upP f bl)<zs.length)))=true:=by
 cases hg:(decide (6<=r)&&decide (ha=0)&&ak f r pa&&decide (i64.wrap (pa.tdiv f)=rkP r bl)) with
 |false=>simp
 |true=>
  simp only[Bool.and_eq_true,decide_eq_true_eq]at hg
  obtain⟨h1,h2,h3,h4,h5,h6,h7⟩:=jh (bl:=bl) h hg.1.1.1 hg.1.2 hg.2
  have hfr:=cY (bT h).1
  cases bl
  ·rw[Bool.or_eq_true];right
   simp only[upP,cond_false,h5,h7,Bool.and_eq_true,decide_eq_true_eq];omega
  ·rw[Bool.or_eq_true];right
   simp only[upP,cond_true,h4,Bool.and_eq_true,decide_eq_true_eq];omega
def wP:CF
 |[.sl 0 0 len none],[.ints false .i8 zs]=>some (decide (len=zs.length)&&decide (zs.length<=64),.sl 1 0 zs.length none,[.ints true .i8 zs])
 |_,_=>none
theorem zB:CtOk (GGx kCa kDb) PP (150,wP):=by
 refine aF Tryz.func150 (by kernel_rfl) rfl fun a0 h0 c0 v0 N0 e hc=>?_
 unfold wP at e
 split at e
 ·rename_i len zs
  cases e
  have hE:=aD (kCa:=kCa) (kDb:=kDb) (cts:=[]) (inl:=[]) trivial trivial
  refine nx hE 2 Tryz.func150 rfl rfl ?_
  simp only[Bool.and_eq_true,decide_eq_true_eq]at hc
  obtain⟨rfl,hc2⟩:=hc
  refine AJ (fun h0=>?_) ?_
  ·refine aq (fun _=>?_) (fun h=>(by cases h))
   have hz:zs=[]:=List.eq_nil_of_length_eq_zero h0
   subst hz
   exact af (Ig (Ent.phanT (t:=2) (o:=.ints true .i8 []) rfl ⟨by simp,by simp,trivial,rfl⟩ (aM rfl)) (dW 1 (.inr rfl) rfl rfl rfl rfl rfl rfl))
  ·refine aq (fun h=>(by cases h)) (fun _=>?_)
   refine ag (b:=?B) ?_ ?_
   ·show (decide (0=0)&&decide ((0+zs.length)*1<=140737488355328)&&true)=true
    simp;omega
   exact af (Ig (Ent.refl _ _ _) (dW 2 (.inr rfl) rfl rfl rfl rfl (by show [O.ints true .i8 (tk zs)]=_;rw[aX]) (by show V.sl 1 0 (tk zs).length none=_;rw[aX])))
 ·cases e
def vz:CF
 |[.agg [.int .i64 f,.int .i64 r,.sl 0 0 len none,.bool bl,.int .u8 ca,.int .i64 pa,.int .i64 ha,.int .i64 fu]],[.ints false .i8 zs]=>some (decide (len=zs.length)&&decide (zs.length<=64),.agg [I f,I r,.sl 1 0 zs.length none,Bb bl,.int .u8 ca,I pa,I ha,I fu],[.ints true .i8 zs])
 |_,_=>none
theorem Ao:CtOk (GGx kCa kDb) PP (122,vz):=by
 refine aF Tryz.func122 (by kernel_rfl) rfl fun a0 h0 c0 v0 N0 e hc=>?_
 unfold vz at e
 split at e
 ·rename_i f r len bl ca pa ha fu zs
  cases e
  have hE:=aD (kCa:=kCa) (kDb:=kDb) (cts:=[(150,wP)]) (inl:=[]) ⟨zB,trivial⟩ trivial
  refine av hE 2 Tryz.func122 rfl rfl ?_
  simp only[Bool.and_eq_true,decide_eq_true_eq]at hc
  obtain⟨rfl,hc2⟩:=hc
  repeat (first|(first|refine ai ?_|refine sat_nd ?_)|refine ag (ck hc2 rfl) ?_)
  exact af (dW 3 (.inr rfl) rfl rfl rfl rfl (by show [O.ints true .i8 (tk zs)]=_;rw[aX]) (by show V.agg [I f,I r,.sl 1 0 (tk zs).length none,Bb bl,.int .u8 ca,I pa,I ha,I fu]=_;rw[aX]))
 ·cases e
def rV:CF
 |[.agg [.int .i64 f,.int .i64 r,.sl 0 0 len none,.bool bl,.int .u8 _ca,.int .i64 pa,.int .i64 ha,.int .i64 _fu]],[.ints false .i8 zs]=>some (decide (len=zs.length)&&decide (zs.length<=64)&&aL f r zs,.bool (fo f r zs bl pa ha),[])
 |_,_=>none
theorem pO:CtOk (GGx kCa kDb) PP (91,rV):=by
 refine aF Tryz.func91 (by kernel_rfl) rfl fun a0 h0 c0 v0 N0 e hc=>?_
 unfold rV at e
 split at e
 ·rename_i f r len bl ca pa ha fu zs
  cases e
  have hE:=aD (kCa:=kCa) (kDb:=kDb) (cts:=[(75,iJ),(136,GU)]) (inl:=[]) ⟨fy,yM,trivial⟩ trivial
  refine av hE 2 Tryz.func91 rfl rfl ?_
  simp only[Bool.and_eq_true,decide_eq_true_eq]at hc
  obtain⟨⟨rfl,hc2⟩,hbd⟩:=hc
  refine aq (fun h=>?_) (fun h=>?_)
  ·have h:decide (pa=-1)=true:=h
   exact af (aj (.inr rfl) rfl rfl rfl (by rw[fo,h];rfl))
  have h:decide (pa=-1)=false:=h
  have hf:f≠0:=by have:=cY (bT hbd).1;omega
  refine aq (fun h1=>?_) (fun h1=>?_)
  ·have h1:bl=false:=by simpa using h1
   subst h1
   repeat (first|(first|refine ai ?_|refine sat_nd ?_)|refine ag (CW hf) ?_|refine ag (tW (bl:=false) hbd) ?_|refine ag (MJ (bl:=false) hbd) ?_|refine ag (NR (bl:=false) hbd) ?_)
   exact af (aj (.inr rfl) rfl rfl rfl (by rw[fo,h];rfl))
  ·have h1:bl=true:=by simpa using h1
   subst h1
   repeat (first|(first|refine ai ?_|refine sat_nd ?_)|refine ag (CW hf) ?_|refine ag (tW (bl:=true) hbd) ?_|refine ag (MJ (bl:=true) hbd) ?_|refine ag (NR (bl:=true) hbd) ?_)
   exact af (aj (.inr rfl) rfl rfl rfl (by rw[fo,h];rfl))
 ·cases e
theorem HY{f r:Int}{zs:List Int}{g:Bool}(h:aL f r zs=true)(_hz:zs.length<=64):(!g||(decide (0<=f)&&decide (f<=zs.length)&&decide ((zs.length:Int)<=zs.length)))=true:=by
 obtain⟨h1,h2⟩:=bT h
 have:=cY h1
 have:1*f<=r*f:=Int.mul_le_mul_of_nonneg_right (by omega) (by omega)
 rw[Int.mul_comm r f]at this
 simp;omega
theorem Il{f r:Int}{zs:List Int}(h:aL f r zs=true)(hz:zs.length<=64):i64.wrap ((zs.length:Int)-f)=(zs.length:Int)-f/\0<=(zs.length:Int)-f/\3<=f:=by
 obtain⟨h1,h2⟩:=bT h
 have:=cY h1
 have:1*f<=r*f:=Int.mul_le_mul_of_nonneg_right (by omega) (by omega)
 rw[Int.mul_comm r f]at this
 exact⟨aC (by omega) (by omega),by omega,by omega⟩
theorem Ck{f r:Int}{zs:List Int}(h:aL f r zs=true)(hz:zs.length<=64):(decide (0<=i64.wrap ((zs.length:Int)-f))&&decide (i64.wrap ((zs.length:Int)-f)<=zs.length)&&decide ((zs.length:Int)<=zs.length))=true:=by
 obtain⟨h1,h2,h3⟩:=Il h hz
 rw[h1]
 simp only[Bool.and_eq_true,decide_eq_true_eq]
 omega
theorem FF{zs:List Int}{a m:Nat}(h:m=zs.length)(hz:zs.length<=64):(decide (m-a=((zs.drop a).take (m-a)).length)&&decide (((zs.drop a).take (m-a)).length<=1000000))=true:=by
 simp only[Bool.and_eq_true,decide_eq_true_eq,List.length_take,List.length_drop]
 omega
theorem FQ{zs:List Int}{b m:Nat}{g:Bool}(h:m<=zs.length)(hz:zs.length<=64):(!g||(decide (m-0=((zs.drop 0).take (m-0)).length)&&decide (((zs.drop 0).take (m-0)).length<=1000000)))=true/\b=b:=by
 rw[Bool.or_eq_true]
 refine⟨.inr ?_,rfl⟩
 simp only[Bool.and_eq_true,decide_eq_true_eq,List.length_take,List.length_drop]
 omega
def lP:CF
 |[.agg [.int .i64 f,.int .i64 r,.sl 0 0 len none,.bool _bl,.int .u8 _ca,.int .i64 _pa,.int .i64 _ha,.int .i64 _fu]],[.ints false .i8 zs]=>some (decide (len=zs.length)&&decide (zs.length<=64)&&aL f r zs,.bool (fC f zs),[])
 |_,_=>none
theorem nv:CtOk (GGx kCa kDb) PP (87,lP):=by
 refine aF Tryz.func87 (by kernel_rfl) rfl fun a0 h0 c0 v0 N0 e hc=>?_
 unfold lP at e
 split at e
 ·rename_i f r len bl ca pa ha fu zs
  cases e
  have hE:=aD (kCa:=kCa) (kDb:=kDb) (cts:=[(134,gO)]) (inl:=[]) ⟨jK,trivial⟩ trivial
  refine av hE 2 Tryz.func87 rfl rfl ?_
  simp only[Bool.and_eq_true,decide_eq_true_eq]at hc
  obtain⟨⟨rfl,hc2⟩,hbd⟩:=hc
  obtain⟨hw1,hw2,hw3⟩:=Il hbd hc2
  have hfl:f.toNat<=zs.length:=by omega
  repeat (first|(first|refine ai ?_|refine sat_nd ?_)|refine ag (HY hbd hc2) ?_|refine ag (Ck hbd hc2) ?_|refine ag (FF rfl hc2) ?_|refine ag (FQ (b:=0) hfl hc2).1 ?_)
  refine af (aj (.inr rfl) rfl rfl rfl (congrArg V.bool ?_))
  show (!((zs.drop (i64.wrap ((zs.length:Int)-f)).toNat).take (zs.length-(i64.wrap ((zs.length:Int)-f)).toNat)).any (isV 1)&&!((zs.drop 0).take (f.toNat-0)).any (isV (-1)))=_
  rw[hw1,fC,show ((zs.length:Int)-f).toNat=zs.length-f.toNat by omega,List.drop_zero,Nat.sub_zero,List.take_of_length_le (by simp)]
 ·cases e
def mu:CF
 |[.agg [.int .i64 f,.int .i64 r,.sl 0 0 len none,.bool bl,.int .u8 _ca,.int .i64 _pa,.int .i64 _ha,.int .i64 _fu]],[.ints false .i8 zs]=>some (decide (len=zs.length)&&decide (zs.length<=64),.bool (eJ f r zs bl),[])
 |_,_=>none
theorem ng:CtOk (GGx kCa kDb) PP (85,mu):=by
 refine aF Tryz.func85 (by kernel_rfl) rfl fun a0 h0 c0 v0 N0 e hc=>?_
 unfold mu at e
 split at e
 ·rename_i f r len bl ca pa ha fu zs
  cases e
  have hE:=aD (kCa:=kCa) (kDb:=kDb) (cts:=[(132,xI),(133,kA)]) (inl:=[]) ⟨tI,rq,trivial⟩ trivial
  refine av hE 2 Tryz.func85 rfl rfl ?_
  simp only[Bool.and_eq_true,decide_eq_true_eq]at hc
  obtain⟨rfl,hc2⟩:=hc
  repeat (first|(first|refine ai ?_|refine sat_nd ?_)|refine ag (ck hc2 rfl) ?_)
  refine af (aj (.inr rfl) rfl rfl rfl (congrArg V.bool ?_))
  show (decide ((bK f r (tk zs) bl).2=0)&&decide ((bH f r (tk zs) (!bl)).2=0)&&decide ((bH f r (tk zs) (!bl)).1=0))=_
  rw[aX];rfl
 ·cases e
end
end Go.Ab
namespace Go.Ab
open Go.Proofs
section
variable{kCa kDb:Bool}
def dH:CF
 |[.agg [.int .i64 f,.int .i64 r,.sl 0 0 len none,.bool bl,.int .u8 ca,.int .i64 pa,.int .i64 ha,.int .i64 fu]],[.ints false .i8 zs]=>some (decide (len=zs.length)&&decide (zs.length<=64),.bool (Psn.ok ⟨f,r,zs,bl,ca,pa,ha,fu⟩),[])
 |_,_=>none
theorem cP:CtOk (GGx kCa kDb) PP (37,dH):=by
 refine aF Tryz.func37 (by kernel_rfl) rfl fun a0 h0 c0 v0 N0 e hc=>?_
 unfold dH at e
 split at e
 ·rename_i f r len bl ca pa ha fu zs
  cases e
  have hE:=aD (kCa:=kCa) (kDb:=kDb) (cts:=[(83,fU),(85,mu),(87,lP),(89,gZ),(91,rV)]) (inl:=[(82,Tryz.f82),(84,Tryz.f84),(86,Tryz.f86),(88,Tryz.f88),(90,Tryz.f90),(92,Tryz.f92)]) ⟨eK,ng,nv,js,pO,trivial⟩ ⟨⟨Tryz.func82,by kernel_rfl⟩,⟨Tryz.func84,by kernel_rfl⟩,⟨Tryz.func86,by kernel_rfl⟩,⟨Tryz.func88,by kernel_rfl⟩,⟨Tryz.func90,by kernel_rfl⟩,⟨Tryz.func92,by kernel_rfl⟩,trivial⟩
  refine av hE 3 Tryz.func37 rfl rfl ?_
  simp only[Bool.and_eq_true,decide_eq_true_eq]at hc
  obtain⟨rfl,hc2⟩:=hc
  repeat (first|refine ai ?_|refine sat_nd ?_)
  refine bW hE 3 7 ?_
  refine rnd ?_
  refine cL (by rfl) ?_
  repeat (first|(first|refine ai ?_|refine sat_nd ?_)|refine ag (ck hc2 rfl) ?_)
  refine aq (fun h0=>?_) (fun h0=>?_)
  ·have h0:(!aL f r (tk zs))=true:=h0
   rw[aX,Bool.not_eq_true']at h0
   exact af (af (aj (.inr rfl) rfl rfl rfl (by simp[Psn.ok,h0])))
  have h0:(!aL f r (tk zs))=false:=h0
  have h0t:aL f r (tk zs)=true:=by simpa using h0
  rw[aX,Bool.not_eq_false']at h0
  refine af ⟨[(1,.ptr 1 0 0),(13,.sl 2 0 6 none),(14,I 6),(15,I 1)],[.ints false .i8 zs,.cells true [I f,I r,.sl 0 0 zs.length none,Bb bl,.int .u8 ca,I pa,I ha,I fu],.vals true 1 [[.fn 82 [.ptr 1 0 0]],[.fn 84 [.ptr 1 0 0]],[.fn 86 [.ptr 1 0 0]],[.fn 88 [.ptr 1 0 0]],[.fn 90 [.ptr 1 0 0]],[.fn 92 [.ptr 1 0 0]]]],Ent.ren [0,1,2] [1,13,14,15] rfl rfl rfl,?_⟩
  refine rnd ?_
  refine cL (by rfl) ?_
  repeat (first|(first|refine ai ?_|refine sat_nd ?_)|refine ag (ck hc2 rfl) ?_|refine ag (cx hc2 rfl h0t) ?_)
  refine aq (fun h1=>?_) (fun h1=>?_)
  ·have h1:(!eJ f r (tk zs) bl)=true:=h1
   rw[aX,Bool.not_eq_true']at h1
   exact af (af (aj (.inr rfl) rfl rfl rfl (by simp[Psn.ok,h0,h1])))
  have h1:(!eJ f r (tk zs) bl)=false:=h1
  rw[aX,Bool.not_eq_false']at h1
  refine af ⟨[(1,.ptr 1 0 0),(13,.sl 2 0 6 none),(14,I 6),(15,I 2)],[.ints false .i8 zs,.cells true [I f,I r,.sl 0 0 zs.length none,Bb bl,.int .u8 ca,I pa,I ha,I fu],.vals true 1 [[.fn 82 [.ptr 1 0 0]],[.fn 84 [.ptr 1 0 0]],[.fn 86 [.ptr 1 0 0]],[.fn 88 [.ptr 1 0 0]],[.fn 90 [.ptr 1 0 0]],[.fn 92 [.ptr 1 0 0]]]],Ent.ren [0,1,2] [1,13,14,15] rfl rfl rfl,?_⟩
  refine rnd ?_
  refine cL (by rfl) ?_
  repeat (first|(first|refine ai ?_|refine sat_nd ?_)|refine ag (ck hc2 rfl) ?_|refine ag (cx hc2 rfl h0t) ?_)
  refine aq (fun h2=>?_) (fun h2=>?_)
  ·have h2:(!fC f (tk zs))=true:=h2
   rw[aX,Bool.not_eq_true']at h2
   exact af (af (aj (.inr rfl) rfl rfl rfl (by simp[Psn.ok,h0,h1,h2])))
  have h2:(!fC f (tk zs))=false:=h2
  rw[aX,Bool.not_eq_false']at h2
  refine af ⟨[(1,.ptr 1 0 0),(13,.sl 2 0 6 none),(14,I 6),(15,I 3)],[.ints false .i8 zs,.cells true [I f,I r,.sl 0 0 zs.length none,Bb bl,.int .u8 ca,I pa,I ha,I fu],.vals true 1 [[.fn 82 [.ptr 1 0 0]],[.fn 84 [.ptr 1 0 0]],[.fn 86 [.ptr 1 0 0]],[.fn 88 [.ptr 1 0 0]],[.fn 90 [.ptr 1 0 0]],[.fn 92 [.ptr 1 0 0]]]],Ent.ren [0,1,2] [1,13,14,15] rfl rfl rfl,?_⟩
  refine rnd ?_
  refine cL (by rfl) ?_
  repeat (first|(first|refine ai ?_|refine sat_nd ?_)|refine ag (ck hc2 rfl) ?_|refine ag (cx hc2 rfl h0t) ?_)
  refine aq (fun h3=>?_) (fun h3=>?_)
  ·have h3:(!gw f r (tk zs) ca)=true:=h3
   rw[aX,Bool.not_eq_true']at h3
   exact af (af (aj (.inr rfl) rfl rfl rfl (by simp[Psn.ok,h0,h1,h2,h3])))
  have h3:(!gw f r (tk zs) ca)=false:=h3
  rw[aX,Bool.not_eq_false']at h3
  refine af ⟨[(1,.ptr 1 0 0),(13,.sl 2 0 6 none),(14,I 6),(15,I 4)],[.ints false .i8 zs,.cells true [I f,I r,.sl 0 0 zs.length none,Bb bl,.int .u8 ca,I pa,I ha,I fu],.vals true 1 [[.fn 82 [.ptr 1 0 0]],[.fn 84 [.ptr 1 0 0]],[.fn 86 [.ptr 1 0 0]],[.fn 88 [.ptr 1 0 0]],[.fn 90 [.ptr 1 0 0]],[.fn 92 [.ptr 1 0 0]]]],Ent.ren [0,1,2] [1,13,14,15] rfl rfl rfl,?_⟩
  refine rnd ?_
  refine cL (by rfl) ?_
  repeat (first|(first|refine ai ?_|refine sat_nd ?_)|refine ag (ck hc2 rfl) ?_|refine ag (cx hc2 rfl h0t) ?_)
  refine aq (fun h4=>?_) (fun h4=>?_)
  ·have h4:(!fo f r (tk zs) bl pa ha)=true:=h4
   rw[aX,Bool.not_eq_true']at h4
   exact af (af (aj (.inr rfl) rfl rfl rfl (by simp[Psn.ok,h0,h1,h2,h3,h4])))
  have h4:(!fo f r (tk zs) bl pa ha)=false:=h4
  rw[aX,Bool.not_eq_false']at h4
  refine af ⟨[(1,.ptr 1 0 0),(13,.sl 2 0 6 none),(14,I 6),(15,I 5)],[.ints false .i8 zs,.cells true [I f,I r,.sl 0 0 zs.length none,Bb bl,.int .u8 ca,I pa,I ha,I fu],.vals true 1 [[.fn 82 [.ptr 1 0 0]],[.fn 84 [.ptr 1 0 0]],[.fn 86 [.ptr 1 0 0]],[.fn 88 [.ptr 1 0 0]],[.fn 90 [.ptr 1 0 0]],[.fn 92 [.ptr 1 0 0]]]],Ent.ren [0,1,2] [1,13,14,15] rfl rfl rfl,?_⟩
  refine rnd ?_
  refine cL (by rfl) ?_
  repeat (first|(first|refine ai ?_|refine sat_nd ?_)|refine ag (ck hc2 rfl) ?_|refine ag (cx hc2 rfl h0t) ?_)
  refine aq (fun h5=>?_) (fun h5=>?_)
  ·have h5:(!cntB ha fu)=true:=h5
   rw[Bool.not_eq_true']at h5
   exact af (af (aj (.inr rfl) rfl rfl rfl (by simp[Psn.ok,h0,h1,h2,h3,h4,h5])))
  have h5:(!cntB ha fu)=false:=h5
  rw[Bool.not_eq_false']at h5
  refine af ⟨[(1,.ptr 1 0 0),(13,.sl 2 0 6 none),(14,I 6),(15,I 6)],[.ints false .i8 zs,.cells true [I f,I r,.sl 0 0 zs.length none,Bb bl,.int .u8 ca,I pa,I ha,I fu],.vals true 1 [[.fn 82 [.ptr 1 0 0]],[.fn 84 [.ptr 1 0 0]],[.fn 86 [.ptr 1 0 0]],[.fn 88 [.ptr 1 0 0]],[.fn 90 [.ptr 1 0 0]],[.fn 92 [.ptr 1 0 0]]]],Ent.ren [0,1,2] [1,13,14,15] rfl rfl rfl,?_⟩
  refine rnd ?_
  refine xl (by rfl) ?_
  refine af (af (aj (.inr rfl) rfl rfl rfl (by simp[Psn.ok,h0,h1,h2,h3,h4,h5])))
 ·cases e
end
section
variable{kCa kDb:Bool}
def pc(k:Int)(bl:Bool):Int:=bif bl then w8 (0-k)else k
def ej(r:Int)(bl:Bool)(n:Int):Int:=bif bl then IntKind.i64.wrap (r-n)else IntKind.i64.wrap (n-1)
def kF(r:Int)(bl:Bool):Int:=bif bl then 0 else IntKind.i64.wrap (r-1)
def chkL(f r:Int)(zs:List Int)(bl:Bool):Bool:=decide (0<((attL f r zs (aG zs bl) (!bl)).length:Int))
def lI(f r:Int)(zs:List Int)(bit:Int):Bool:=bif !decide (f=8)||!decide (r=8)then false else bif decide (bit=1)then decide (zs.getD 4 0=6)&&decide (zs.getD 7 0=4)else bif decide (bit=2)then decide (zs.getD 4 0=6)&&decide (zs.getD 0 0=4)else bif decide (bit=4)then decide (zs.getD 60 0=-6)&&decide (zs.getD 63 0=-4)else decide (zs.getD 60 0=-6)&&decide (zs.getD 56 0=-4)
theorem oN:cq 8 8 [101,49]=4:=by kernel_rfl
theorem qw:cq 8 8 [104,49]=7:=by kernel_rfl
theorem qT:cq 8 8 [97,49]=0:=by kernel_rfl
theorem oI:cq 8 8 [101,56]=60:=by kernel_rfl
theorem qY:cq 8 8 [104,56]=63:=by kernel_rfl
theorem rA:cq 8 8 [97,56]=56:=by kernel_rfl
def qK:CF
 |[.int .i8 k,.bool bl],[]=>some (true,.int .i8 (pc k bl),[])
 |_,_=>none
theorem vS:CtOk (GGx kCa kDb) PP (115,qK):=by
 refine aF Tryz.func115 (by kernel_rfl) rfl fun a0 h0 c0 v0 N0 e hc=>?_
 unfold qK at e
 split at e
 ·rename_i k bl
  cases e
  have hE:=aD (kCa:=kCa) (kDb:=kDb) (cts:=[]) (inl:=[]) trivial trivial
  refine av hE 2 Tryz.func115 rfl rfl ?_
  repeat' first|(first|refine ai ?_|refine sat_nd ?_)|refine aq (fun h=>?_) (fun h=>?_)
  all_goals exact af (aj (.inr rfl) rfl rfl rfl (by first|rfl|(simp only[pc, *,cond_true,cond_false];done)|(simp only[pc, *,cond_true,cond_false,Bool.not_true,Bool.not_false,Bool.and_true,Bool.true_and,Bool.and_false,Bool.false_and,Bool.or_true,Bool.true_or,Bool.or_false,Bool.false_or];done)|simp_all [pc]))
 ·cases e
def uz:CF
 |[.agg [.int .i64 _f,.int .i64 r],.bool bl,.int .i64 n],[]=>some (true,.int .i64 (ej r bl n),[])
 |_,_=>none
theorem zY:CtOk (GGx kCa kDb) PP (113,uz):=by
 refine aF Tryz.func113 (by kernel_rfl) rfl fun a0 h0 c0 v0 N0 e hc=>?_
 unfold uz at e
 split at e
 ·rename_i f r bl n
  cases e
  have hE:=aD (kCa:=kCa) (kDb:=kDb) (cts:=[]) (inl:=[]) trivial trivial
  refine av hE 2 Tryz.func113 rfl rfl ?_
  repeat' first|(first|refine ai ?_|refine sat_nd ?_)|refine aq (fun h=>?_) (fun h=>?_)
  all_goals exact af (aj (.inr rfl) rfl rfl rfl (by first|rfl|(simp only[ej, *,cond_true,cond_false];done)|(simp only[ej, *,cond_true,cond_false,Bool.not_true,Bool.not_false,Bool.and_true,Bool.true_and,Bool.and_false,Bool.false_and,Bool.or_true,Bool.true_or,Bool.or_false,Bool.false_or];done)|simp_all [ej]))
 ·cases e
def qP:CF
 |[.agg [.int .i64 _f,.int .i64 r],.bool bl],[]=>some (true,.int .i64 (kF r bl),[])
 |_,_=>none
theorem pD:CtOk (GGx kCa kDb) PP (59,qP):=by
 refine aF Tryz.func59 (by kernel_rfl) rfl fun a0 h0 c0 v0 N0 e hc=>?_
 unfold qP at e
 split at e
 ·rename_i f r bl
  cases e
  have hE:=aD (kCa:=kCa) (kDb:=kDb) (cts:=[]) (inl:=[]) trivial trivial
  refine av hE 2 Tryz.func59 rfl rfl ?_
  repeat' first|(first|refine ai ?_|refine sat_nd ?_)|refine aq (fun h=>?_) (fun h=>?_)
  all_goals exact af (aj (.inr rfl) rfl rfl rfl (by first|rfl|(simp only[kF, *,cond_true,cond_false];done)|(simp only[kF, *,cond_true,cond_false,Bool.not_true,Bool.not_false,Bool.and_true,Bool.true_and,Bool.and_false,Bool.false_and,Bool.or_true,Bool.true_or,Bool.or_false,Bool.false_or];done)|simp_all [kF]))
 ·cases e
def za:CF
 |[.agg [.int .i64 f,.int .i64 r,.sl 0 0 len none,.bool _bl,.int .u8 _ca,.int .i64 _pa,.int .i64 _ha,.int .i64 _fu]],[.ints false .i8 _zs]=>some (true,.agg [I f,I r,.sl 0 0 len none],[])
 |_,_=>none
theorem mE:CtOk (GGx kCa kDb) PP (53,za):=by
 refine aF Tryz.func53 (by kernel_rfl) rfl fun a0 h0 c0 v0 N0 e hc=>?_
 unfold za at e
 split at e
 ·rename_i f r len bl ca pa ha fu zs
  cases e
  have hE:=aD (kCa:=kCa) (kDb:=kDb) (cts:=[]) (inl:=[]) trivial trivial
  refine Ca hE 2 Tryz.func53 rfl rfl ?_
  repeat (first|refine ai ?_|refine sat_nd ?_)
  exact af ⟨.inr rfl,_,rfl,rfl,rfl⟩
 ·cases e
def lO:CF
 |[.agg [.int .i64 f,.int .i64 r,.sl 0 0 len none],.bool bl],[.ints false .i8 zs]=>some (decide (len=zs.length)&&decide (zs.length<=64)&&vsB f r,.bool (chkL f r zs bl),[])
 |_,_=>none
theorem oh:CtOk (GGx kCa kDb) PP (56,lO):=by
 refine aF Tryz.func56 (by kernel_rfl) rfl fun a0 h0 c0 v0 N0 e hc=>?_
 unfold lO at e
 split at e
 ·rename_i f r len bl zs
  cases e
  have hE:=aD (kCa:=kCa) (kDb:=kDb) (cts:=[(55,gA),(111,fe)]) (inl:=[]) ⟨gz,kL,trivial⟩ trivial
  refine av hE 2 Tryz.func56 rfl rfl ?_
  simp only[Bool.and_eq_true,decide_eq_true_eq]at hc
  obtain⟨⟨rfl,hc2⟩,hv⟩:=hc
  repeat (first|(first|refine ai ?_|refine sat_nd ?_)|refine ag (ck hc2 rfl) ?_|refine ag (cx hc2 rfl hv) ?_)
  refine af (aj (.inr rfl) rfl rfl rfl (by
   show V.bool (chkL f r (tk zs) bl)=_
   rw[aX]))
 ·cases e
def Ku:CF
 |[.agg [.int .i64 _f,.int .i64 _r,.sl 0 0 len none,.bool _bl,.int .u8 _ca,.int .i64 _pa,.int .i64 _ha,.int .i64 _fu],.str s],[.ints false .i8 zs]=>some (decide (len=zs.length)&&decide (zs.length<=64)&&decide (0<=cq 8 8 s)&&decide (cq 8 8 s<zs.length),.int .i8 (zs.getD (cq 8 8 s).toNat 0),[])
 |_,_=>none
theorem Gx:CtOk (GGx kCa kDb) PP (147,Ku):=by
 refine aF Tryz.func147 (by kernel_rfl) rfl fun a0 h0 c0 v0 N0 e hc=>?_
 unfold Ku at e
 split at e
 ·rename_i f r len bl ca pa ha fu s zs
  cases e
  have hE:=aD (kCa:=kCa) (kDb:=kDb) (cts:=[(101,rI)]) (inl:=[]) ⟨pR,trivial⟩ trivial
  refine av hE 2 Tryz.func147 rfl rfl ?_
  simp only[Bool.and_eq_true,decide_eq_true_eq]at hc
  obtain⟨⟨⟨rfl,hc2⟩,h0⟩,h1⟩:=hc
  repeat (first|(first|refine ai ?_|refine sat_nd ?_)|refine ag (by simp only[Bool.and_eq_true,decide_eq_true_eq];omega) ?_)
  exact af (aj (.inr rfl) rfl rfl rfl rfl)
 ·cases e
theorem bq{zs:List Int}{s:List UInt8}{n:Nat}(h:cq 8 8 s=n)(h2:n<64)(h64:zs.length=64):(decide (zs.length=(tk zs).length)&&decide ((tk zs).length<=64)&&decide (0<=cq 8 8 s)&&decide (cq 8 8 s<(tk zs).length))=true:=by
 rw[eD,h,h64];simp;omega
theorem bg{zs:List Int}{s:List UInt8}{n:Nat}{g:Bool}(h:cq 8 8 s=n)(h2:n<64)(h64:zs.length=64):(!g||(decide (zs.length=(tk zs).length)&&decide ((tk zs).length<=64)&&decide (0<=cq 8 8 s)&&decide (cq 8 8 s<(tk zs).length)))=true:=by
 rw[bq h h2 h64];simp
def we:CF
 |[.agg [.int .i64 f,.int .i64 r,.sl 0 0 len none,.bool _bl,.int .u8 _ca,.int .i64 _pa,.int .i64 _ha,.int .i64 _fu],.int .u8 bit],[.ints false .i8 zs]=>some (decide (len=zs.length)&&decide (zs.length<=64)&&(!decide (f=8)||!decide (r=8)||decide (zs.length=64)),.bool (lI f r zs bit),[])
 |_,_=>none
theorem Ai:CtOk (GGx kCa kDb) PP (112,we):=by
 refine aF Tryz.func112 (by kernel_rfl) rfl fun a0 h0 c0 v0 N0 e hc=>?_
 unfold we at e
 split at e
 ·rename_i f r len bl ca pa ha fu bit zs
  cases e
  have hE:=aD (kCa:=kCa) (kDb:=kDb) (cts:=[(147,Ku)]) (inl:=[]) ⟨Gx,trivial⟩ trivial
  refine av hE 2 Tryz.func112 rfl rfl ?_
  simp only[Bool.and_eq_true,decide_eq_true_eq]at hc
  obtain⟨⟨rfl,hc2⟩,hv⟩:=hc
  repeat (first|refine ai ?_|refine sat_nd ?_)
  refine aq (fun h=>?_) (fun h=>?_)
  ·have h:(!decide (f=8)||!decide (r=8))=true:=h
   exact af (aj (.inr rfl) rfl rfl rfl (by rw[lI,h];rfl))
  have h:(!decide (f=8)||!decide (r=8))=false:=h
  have h64:zs.length=64:=by
   rw[h]at hv;simpa using hv
  refine aq (fun h1=>?_) (fun h1=>?_)
  ·have h1:decide (bit=1)=true:=h1
   repeat (first|(first|refine ai ?_|refine sat_nd ?_)|refine ag (bq (n:=4) oN (by decide) h64) ?_|refine ag (bg (n:=4) oN (by decide) h64) ?_|refine ag (bq (n:=7) qw (by decide) h64) ?_|refine ag (bg (n:=7) qw (by decide) h64) ?_|refine ag (bq (n:=0) qT (by decide) h64) ?_|refine ag (bg (n:=0) qT (by decide) h64) ?_|refine ag (bq (n:=60) oI (by decide) h64) ?_|refine ag (bg (n:=60) oI (by decide) h64) ?_|refine ag (bq (n:=63) qY (by decide) h64) ?_|refine ag (bg (n:=63) qY (by decide) h64) ?_|refine ag (bq (n:=56) rA (by decide) h64) ?_|refine ag (bg (n:=56) rA (by decide) h64) ?_)
   exact af (aj (.inr rfl) rfl rfl rfl (congrArg V.bool (by
    show (decide ((tk zs).getD (cq 8 8 [101,49]).toNat 0=6)&&decide ((tk zs).getD (cq 8 8 [104,49]).toNat 0=4))=_
    rw[aX,oN,qw,lI,h,h1];rfl)))
  have h1:decide (bit=1)=false:=h1
  refine aq (fun h2=>?_) (fun h2=>?_)
  ·have h2:decide (bit=2)=true:=h2
   repeat (first|(first|refine ai ?_|refine sat_nd ?_)|refine ag (bq (n:=4) oN (by decide) h64) ?_|refine ag (bg (n:=4) oN (by decide) h64) ?_|refine ag (bq (n:=7) qw (by decide) h64) ?_|refine ag (bg (n:=7) qw (by decide) h64) ?_|refine ag (bq (n:=0) qT (by decide) h64) ?_|refine ag (bg (n:=0) qT (by decide) h64) ?_|refine ag (bq (n:=60) oI (by decide) h64) ?_|refine ag (bg (n:=60) oI (by decide) h64) ?_|refine ag (bq (n:=63) qY (by decide) h64) ?_|refine ag (bg (n:=63) qY (by decide) h64) ?_|refine ag (bq (n:=56) rA (by decide) h64) ?_|refine ag (bg (n:=56) rA (by decide) h64) ?_)
   exact af (aj (.inr rfl) rfl rfl rfl (congrArg V.bool (by
    show (decide ((tk zs).getD (cq 8 8 [101,49]).toNat 0=6)&&decide ((tk zs).getD (cq 8 8 [97,49]).toNat 0=4))=_
    rw[aX,oN,qT,lI,h,h1,h2];rfl)))
  have h2:decide (bit=2)=false:=h2
  refine aq (fun h3=>?_) (fun h3=>?_)
  ·have h3:decide (bit=4)=true:=h3
   repeat (first|(first|refine ai ?_|refine sat_nd ?_)|refine ag (bq (n:=4) oN (by decide) h64) ?_|refine ag (bg (n:=4) oN (by decide) h64) ?_|refine ag (bq (n:=7) qw (by decide) h64) ?_|refine ag (bg (n:=7) qw (by decide) h64) ?_|refine ag (bq (n:=0) qT (by decide) h64) ?_|refine ag (bg (n:=0) qT (by decide) h64) ?_|refine ag (bq (n:=60) oI (by decide) h64) ?_|refine ag (bg (n:=60) oI (by decide) h64) ?_|refine ag (bq (n:=63) qY (by decide) h64) ?_|refine ag (bg (n:=63) qY (by decide) h64) ?_|refine ag (bq (n:=56) rA (by decide) h64) ?_|refine ag (bg (n:=56) rA (by decide) h64) ?_)
   exact af (aj (.inr rfl) rfl rfl rfl (congrArg V.bool (by
    show (decide ((tk zs).getD (cq 8 8 [101,56]).toNat 0=-6)&&decide ((tk zs).getD (cq 8 8 [104,56]).toNat 0=-4))=_
    rw[aX,oI,qY,lI,h,h1,h2,h3];rfl)))
  have h3:decide (bit=4)=false:=h3
  repeat (first|(first|refine ai ?_|refine sat_nd ?_)|refine ag (bq (n:=4) oN (by decide) h64) ?_|refine ag (bg (n:=4) oN (by decide) h64) ?_|refine ag (bq (n:=7) qw (by decide) h64) ?_|refine ag (bg (n:=7) qw (by decide) h64) ?_|refine ag (bq (n:=0) qT (by decide) h64) ?_|refine ag (bg (n:=0) qT (by decide) h64) ?_|refine ag (bq (n:=60) oI (by decide) h64) ?_|refine ag (bg (n:=60) oI (by decide) h64) ?_|refine ag (bq (n:=63) qY (by decide) h64) ?_|refine ag (bg (n:=63) qY (by decide) h64) ?_|refine ag (bq (n:=56) rA (by decide) h64) ?_|refine ag (bg (n:=56) rA (by decide) h64) ?_)
  exact af (aj (.inr rfl) rfl rfl rfl (congrArg V.bool (by
   show (decide ((tk zs).getD (cq 8 8 [101,56]).toNat 0=-6)&&decide ((tk zs).getD (cq 8 8 [97,56]).toNat 0=-4))=_
   rw[aX,oI,rA,lI,h,h1,h2,h3];rfl)))
 ·cases e
end
end Go.Ab
namespace Go.Ab
open IntKind
open Go.Proofs
section
variable{kCa kDb:Bool}
def rXL(f r:Int)(zs:List Int)(ca bit:Int):Bool:=decide ((u8.wrap (ca.tdiv bit)).tmod 2=1)&&!lI f r zs bit
def lG(f r:Int)(zs:List Int)(ca:Int):Bool:=bif decide (15<ca)then false else !(rXL f r zs ca 1||rXL f r zs ca 2||rXL f r zs ca 4||rXL f r zs ca 8)
def pasL(f r:Int)(zs:List Int)(bl:Bool)(pa ha:Int):Bool:=bif decide (pa=-1)then true else bif decide (r<6)||!decide (ha=0)||!ak f r pa then false else bif !decide (i64.wrap (2*i64.wrap (pa.tdiv f))=i64.wrap (ej r (!bl) 2+ej r (!bl) 4))then false else decide (zs.getD pa.toNat 0=0)&&decide (zs.getD (numR f r (pa.tmod f) (ej r (!bl) 2)).toNat 0=0)&&decide (zs.getD (numR f r (pa.tmod f) (ej r (!bl) 4)).toNat 0=pc 1 (!bl))
def pwL(f r:Int)(zs:List Int)(i:Int):Bool:=decide (cw (zs.getD i.toNat 0)=1)&&decide (i64.wrap (i.tdiv f)=kF r (decide (zs.getD i.toNat 0<0)))
def oJ(f r:Int)(zs:List Int):Bool:=(List.range zs.length).any fun i=>pwL f r zs i
def fA(p:Psn):Bool:=bif !aO p.f p.r p.zs||decide (aG p.zs false<0)||decide (aG p.zs true<0)||chkL p.f p.r p.zs (!p.bl)then false else bif oJ p.f p.r p.zs then false else lG p.f p.r p.zs p.ca&&pasL p.f p.r p.zs p.bl p.pa p.ha&&decide (0<=p.ha)&&decide (p.ha<=10000)&&decide (1<=p.fu)&&decide (p.fu<=10000)
theorem mB{f r:Int}{zs:List Int}{g:Bool}(hc2:zs.length<=64)(hv:(!decide (f=8)||!decide (r=8)||decide (zs.length=64))=true):(!g||(decide (zs.length=(tk zs).length)&&decide ((tk zs).length<=64)&&(!decide (f=8)||!decide (r=8)||decide ((tk zs).length=64))))=true:=by
 rw[eD,hv];simp[hc2]
theorem wW{f r x:Int}{zs:List Int}{bl:Bool}{n:Int}(hbd:aL f r zs=true)(hx:0<=x/\x<f)(hr:6<=r)(hn:n=2\/n=4):0<=numR f r x (ej r bl n)/\numR f r x (ej r bl n)<zs.length:=by
 have hv:=(bT hbd).1
 have hb:=cY hv
 have hk:ej r bl n=(bif bl then r-n else n-1):=by
  unfold ej;cases bl
  ·exact aC (by omega) (by omega)
  ·exact aC (by omega) (by omega)
 have ho:onB f r x (ej r bl n)=true:=by
  rw[hk];cases bl
  ·exact iH hx.1 hx.2 (by simp only[cond_false];omega) (by simp only[cond_false];omega)
  ·exact iH hx.1 hx.2 (by simp only[cond_true];omega) (by simp only[cond_true];omega)
 rcases jv f r x (ej r bl n) hv with⟨_,h⟩|⟨h,_⟩
 ·exact(iX hbd).1 h
 ·rw[ho]at h;cases h
theorem Gb{zs:List Int}(h:zs.length<=64){n:Nat}(hn:n=zs.length){g:Bool}:(!g||(decide (n=(tk zs).length)&&decide ((tk zs).length<=64)))=true:=by rw[ck h hn];simp
theorem mD{zs:List Int}(h:zs.length<=64){g b:Bool}(hb:b=true):(!g||(decide (zs.length=(tk zs).length)&&decide ((tk zs).length<=64)&&b))=true:=by rw[cx h rfl hb];simp
theorem pX{g:Bool}{x:Int}{n:Nat}(h:0<=x/\x<n):(!g||(decide (0<=x)&&decide (x<n)))=true:=by simp[h]
def ja:CF
 |[.agg [.int .i64 f,.int .i64 r,.sl 0 0 len none,.bool _bl,.int .u8 ca,.int .i64 _pa,.int .i64 _ha,.int .i64 _fu]],[.ints false .i8 zs]=>some (decide (len=zs.length)&&decide (zs.length<=64)&&(!decide (f=8)||!decide (r=8)||decide (zs.length=64)),.bool (lG f r zs ca),[])
 |_,_=>none
theorem kU:CtOk (GGx kCa kDb) PP (60,ja):=by
 refine aF Tryz.func60 (by kernel_rfl) rfl fun a0 h0 c0 v0 N0 e hc=>?_
 unfold ja at e
 split at e
 ·rename_i f r len bl ca pa ha fu zs
  cases e
  have hE:=aD (kCa:=kCa) (kDb:=kDb) (cts:=[(112,we)]) (inl:=[]) ⟨Ai,trivial⟩ trivial
  refine av hE 2 Tryz.func60 rfl rfl ?_
  simp only[Bool.and_eq_true,decide_eq_true_eq]at hc
  obtain⟨⟨rfl,hc2⟩,hv⟩:=hc
  refine aq (fun h=>?_) (fun h=>?_)
  ·have h:decide (15<ca)=true:=h
   exact af (aj (.inr rfl) rfl rfl rfl (by rw[lG,h];rfl))
  have h:decide (15<ca)=false:=h
  repeat (first|refine ai ?_|refine sat_nd ?_)
  refine bW hE 2 5 ?_
  refine rnd ?_
  refine cL (by rfl) ?_
  repeat (first|(first|refine ai ?_|refine sat_nd ?_)|refine ag (mB hc2 hv) ?_)
  refine aq (fun h0=>?_) (fun h0=>?_)
  ·have h0:rXL f r (tk zs) ca 1=true:=h0
   rw[aX]at h0
   exact af (af (aj (.inr rfl) rfl rfl rfl (by simp[lG,h,h0])))
  have h0:rXL f r (tk zs) ca 1=false:=h0
  rw[aX]at h0
  refine af ⟨[(1,.ptr 1 0 0),(8,.sl 2 0 4 none),(9,I 4),(10,I 1)],[.ints false .i8 zs,.cells true [I f,I r,.sl 0 0 zs.length none,Bb bl,.int .u8 ca,I pa,I ha,I fu],.ints true .u8 [1,2,4,8]],Ent.ren [0,1,2] [1,8,9,10] rfl rfl rfl,?_⟩
  refine rnd ?_
  refine cL (by rfl) ?_
  repeat (first|(first|refine ai ?_|refine sat_nd ?_)|refine ag (mB hc2 hv) ?_)
  refine aq (fun h1=>?_) (fun h1=>?_)
  ·have h1:rXL f r (tk zs) ca 2=true:=h1
   rw[aX]at h1
   exact af (af (aj (.inr rfl) rfl rfl rfl (by simp[lG,h,h0,h1])))
  have h1:rXL f r (tk zs) ca 2=false:=h1
  rw[aX]at h1
  refine af ⟨[(1,.ptr 1 0 0),(8,.sl 2 0 4 none),(9,I 4),(10,I 2)],[.ints false .i8 zs,.cells true [I f,I r,.sl 0 0 zs.length none,Bb bl,.int .u8 ca,I pa,I ha,I fu],.ints true .u8 [1,2,4,8]],Ent.ren [0,1,2] [1,8,9,10] rfl rfl rfl,?_⟩
  refine rnd ?_
  refine cL (by rfl) ?_
  repeat (first|(first|refine ai ?_|refine sat_nd ?_)|refine ag (mB hc2 hv) ?_)
  refine aq (fun h2=>?_) (fun h2=>?_)
  ·have h2:rXL f r (tk zs) ca 4=true:=h2
   rw[aX]at h2
   exact af (af (aj (.inr rfl) rfl rfl rfl (by simp[lG,h,h0,h1,h2])))
  have h2:rXL f r (tk zs) ca 4=false:=h2
  rw[aX]at h2
  refine af ⟨[(1,.ptr 1 0 0),(8,.sl 2 0 4 none),(9,I 4),(10,I 3)],[.ints false .i8 zs,.cells true [I f,I r,.sl 0 0 zs.length none,Bb bl,.int .u8 ca,I pa,I ha,I fu],.ints true .u8 [1,2,4,8]],Ent.ren [0,1,2] [1,8,9,10] rfl rfl rfl,?_⟩
  refine rnd ?_
  refine cL (by rfl) ?_
  repeat (first|(first|refine ai ?_|refine sat_nd ?_)|refine ag (mB hc2 hv) ?_)
  refine aq (fun h3=>?_) (fun h3=>?_)
  ·have h3:rXL f r (tk zs) ca 8=true:=h3
   rw[aX]at h3
   exact af (af (aj (.inr rfl) rfl rfl rfl (by simp[lG,h,h0,h1,h2,h3])))
  have h3:rXL f r (tk zs) ca 8=false:=h3
  rw[aX]at h3
  refine af ⟨[(1,.ptr 1 0 0),(8,.sl 2 0 4 none),(9,I 4),(10,I 4)],[.ints false .i8 zs,.cells true [I f,I r,.sl 0 0 zs.length none,Bb bl,.int .u8 ca,I pa,I ha,I fu],.ints true .u8 [1,2,4,8]],Ent.ren [0,1,2] [1,8,9,10] rfl rfl rfl,?_⟩
  refine rnd ?_
  refine xl (by rfl) ?_
  exact af (af (aj (.inr rfl) rfl rfl rfl (by simp[lG,h,h0,h1,h2,h3])))
 ·cases e
def ia:CF
 |[.agg [.int .i64 f,.int .i64 r,.sl 0 0 len none,.bool bl,.int .u8 _ca,.int .i64 pa,.int .i64 ha,.int .i64 _fu]],[.ints false .i8 zs]=>some (decide (len=zs.length)&&decide (zs.length<=64)&&aL f r zs,.bool (pasL f r zs bl pa ha),[])
 |_,_=>none
theorem jO:CtOk (GGx kCa kDb) PP (61,ia):=by
 refine aF Tryz.func61 (by kernel_rfl) rfl fun a0 h0 c0 v0 N0 e hc=>?_
 unfold ia at e
 split at e
 ·rename_i f r len bl ca pa ha fu zs
  cases e
  have hE:=aD (kCa:=kCa) (kDb:=kDb) (cts:=[(93,qt),(58,eF),(113,uz),(114,mz),(115,qK)]) (inl:=[]) ⟨pU,cD,zY,nC,vS,trivial⟩ trivial
  refine av hE 2 Tryz.func61 rfl rfl ?_
  simp only[Bool.and_eq_true,decide_eq_true_eq]at hc
  obtain⟨⟨rfl,hc2⟩,hv⟩:=hc
  refine aq (fun h=>?_) (fun h=>?_)
  ·have h:decide (pa=-1)=true:=h
   exact af (aj (.inr rfl) rfl rfl rfl (by rw[pasL,h];rfl))
  have h:decide (pa=-1)=false:=h
  repeat (first|refine ai ?_|refine sat_nd ?_)
  refine aq (fun h1=>?_) (fun h1=>?_)
  ·have h1:(decide (r<6)||!decide (ha=0)||!ak f r pa)=true:=h1
   exact af (aj (.inr rfl) rfl rfl rfl (by rw[pasL,h,h1];rfl))
  have h1:(decide (r<6)||!decide (ha=0)||!ak f r pa)=false:=h1
  have h1':=h1
  simp only[Bool.or_eq_false_iff,decide_eq_false_iff_not,Bool.not_eq_false']at h1'
  obtain⟨⟨hr,_⟩,hpv⟩:=h1'
  have hf0:(!decide (f=0))=true:=by have:=cY (bT hv).1;simp;omega
  obtain⟨hp1,hp2⟩:=(iX hv).1 hpv
  obtain⟨_,hx1,hx2,_⟩:=lE hpv
  have n2:=wW (bl:=!bl) (n:=2) hv ⟨hx1,hx2⟩ (by omega) (.inl rfl)
  have n4:=wW (bl:=!bl) (n:=4) hv ⟨hx1,hx2⟩ (by omega) (.inr rfl)
  repeat (first|(first|refine ai ?_|refine sat_nd ?_)|refine ag hf0 ?_)
  refine aq (fun h2=>?_) (fun h2=>?_)
  ·have h2:(!decide (i64.wrap (2*i64.wrap (pa.tdiv f))=i64.wrap (ej r (!bl) 2+ej r (!bl) 4)))=true:=h2
   exact af (aj (.inr rfl) rfl rfl rfl (by rw[pasL,h,h1,h2];rfl))
  have h2:(!decide (i64.wrap (2*i64.wrap (pa.tdiv f))=i64.wrap (ej r (!bl) 2+ej r (!bl) 4)))=false:=h2
  repeat (first|(first|refine ai ?_|refine sat_nd ?_)|refine ag (by simp only[Bool.and_eq_true,decide_eq_true_eq];exact⟨hp1,hp2⟩) ?_|refine ag (pX n2) ?_|refine ag (pX n4) ?_)
  exact af (aj (.inr rfl) rfl rfl rfl (by rw[pasL,h,h1,h2];rfl))
 ·cases e
theorem GH{f r:Int}{zs:List Int}{_bl:Bool}{x y:Bool}(hc2:zs.length<=64):(!(!(!aO f r (tk zs)||x||y))||(decide (zs.length=(tk zs).length)&&decide ((tk zs).length<=64)&&vsB f r))=true:=by
 cases h:aO f r (tk zs) with
 |false=>simp
 |true=>rw[eD,(aK h).1];simp[hc2]
theorem v88{f r:Int}{zs:List Int}(h:aL f r zs=true):(!decide (f=8)||!decide (r=8)||decide (zs.length=64))=true:=by
 cases h8:is88 f r with
 |false=>simp only[is88,Bool.and_eq_false_iff]at h8;rcases h8 with h8|h8<;>rw[h8]<;>simp
 |true=>rw[Ma h h8];simp
def lZ:CF
 |[.agg [.int .i64 f,.int .i64 r,.sl 0 0 len none,.bool bl,.int .u8 ca,.int .i64 pa,.int .i64 ha,.int .i64 fu]],[.ints false .i8 zs]=>some (decide (len=zs.length)&&decide (zs.length<=64),.bool (fA ⟨f,r,zs,bl,ca,pa,ha,fu⟩),[])
 |_,_=>none
theorem oz:CtOk (GGx kCa kDb) PP (15,lZ):=by
 refine aF Tryz.func15 (by kernel_rfl) rfl fun a0 h0 c0 v0 N0 e hc=>?_
 unfold lZ at e
 split at e
 ·rename_i f r len bl ca pa ha fu zs
  cases e
  have hE:=aD (kCa:=kCa) (kDb:=kDb) (cts:=[(54,wO),(55,gA),(56,lO),(57,iV),(58,eF),(59,qP),(60,ja),(61,ia)]) (inl:=[(53,Tryz.f53)]) ⟨Ae,gz,oh,iI,cD,pD,kU,jO,trivial⟩ ⟨⟨Tryz.func53,by kernel_rfl⟩,trivial⟩
  refine av hE 2 Tryz.func15 rfl rfl ?_
  simp only[Bool.and_eq_true,decide_eq_true_eq]at hc
  obtain⟨rfl,hc2⟩:=hc
  repeat (first|(first|refine ai ?_|refine sat_nd ?_)|refine ag (ck hc2 rfl) ?_|refine ag (Gb hc2 rfl) ?_|refine ag (GH (_bl:=bl) hc2) ?_)
  refine aq (fun h=>?_) (fun h=>?_)
  ·have h:(!aO f r (tk zs)||decide (aG (tk zs) false<0)||decide (aG (tk zs) true<0)||chkL f r (tk zs) (!bl))=true:=h
   rw[aX]at h
   exact af (aj (.inr rfl) rfl rfl rfl (by simp only[fA,h,cond_true]))
  have h:(!aO f r (tk zs)||decide (aG (tk zs) false<0)||decide (aG (tk zs) true<0)||chkL f r (tk zs) (!bl))=false:=h
  rw[aX]at h
  have h':=h
  simp only[Bool.or_eq_false_iff,Bool.not_eq_false']at h'
  obtain⟨hvs,_,hbd,_⟩:=aK h'.1.1.1
  have hf0:(!decide (f=0))=true:=by have:=cY hvs;simp;omega
  have hf1:∀ g:Bool,(!g||!decide (f=0))=true:=fun g=>by rw[hf0];simp
  have h88:=v88 hbd
  have h88t:(!decide (f=8)||!decide (r=8)||decide ((tk zs).length=64))=true:=by rw[aX];exact h88
  have hbdt:aL f r (tk zs)=true:=by rw[aX];exact hbd
  refine bX hE 2 (fun i (_:Unit)=>([(1,.ptr 1 0 0),(4,I i)],[.ints false .i8 zs,.cells true [I f,I r,.sl 0 0 zs.length none,Bb bl,.int .u8 ca,I pa,I ha,I fu]])) zs.length (fun j _=>∀ k,k<j->pwL f r zs (k:Nat)=false) () (by omega) (Ent.ren [0,1] [1,4] rfl rfl rfl) (fun k hk=>absurd hk (by omega)) ?_
  intro j i _ hij hj hz
  refine aq (fun hlt=>?_) (fun hlt=>?_)
  ·have hlt':j<zs.length:=by simp at hlt;omega
   repeat (first|(first|refine ai ?_|refine sat_nd ?_)|refine ag (by simp only[Bool.and_eq_true,decide_eq_true_eq];omega) ?_|refine ag (hf1 _) ?_|refine ag (pX ⟨by omega,by omega⟩) ?_)
   refine aq (fun hon=>?_) (fun hon=>?_)
   ·have hon:pwL f r zs i=true:=hon
    have hpw:oJ f r zs=true:=List.any_eq_true.2 ⟨j,List.mem_range.2 hlt',by rw[<-hij];exact hon⟩
    exact af (af (aj (.inr rfl) rfl rfl rfl (by simp only[fA,h,hpw,cond_true,cond_false])))
   ·have hon:pwL f r zs i=false:=hon
    refine af ⟨hlt',(),fun k hk=>?_,Ent.ren [0,1] [1,4] rfl rfl rfl⟩
    rcases Nat.lt_or_ge k j with hk2|hk2
    ·exact hz k hk2
    ·obtain rfl:k=j:=by omega
     rw[<-hij];exact hon
  ·obtain rfl:j=zs.length:=by simp at hlt;omega
   have hpw:oJ f r zs=false:=List.any_eq_false.2 fun k hk=>by rw[hz k (List.mem_range.1 hk)];simp
   refine af ?_
   repeat (first|(first|refine ai ?_|refine sat_nd ?_)|refine ag (ck hc2 rfl) ?_|refine ag (cx hc2 rfl h88t) ?_|refine ag (mD hc2 hbdt) ?_|refine ag (mD hc2 h88t) ?_)
   exact af (aj (.inr rfl) rfl rfl rfl (by
    show V.bool (lG f r (tk zs) ca&&pasL f r (tk zs) bl pa ha&&decide (0<=ha)&&decide (ha<=10000)&&decide (1<=fu)&&decide (fu<=10000))=_
    rw[aX];simp only[fA,h,hpw,cond_false]))
 ·cases e
end
end Go.Ab
namespace Go.Ab
open Go.Proofs
section
variable{kDb:Bool}
def wR(bl:Bool)(ca a b:Int)(c:Bool)(bit k to:Int):Bool:=!(c==bl)||decide (JI ca bit=0)||!decide (k=a)||!decide (to=b)
def wayN(zs:List Int)(bl:Bool)(ca a b:Int):Nat:=bif !decide (absP (zs.getD a.toNat 0)=6)then 4 else bif !wR bl ca a b false 1 4 6 then 0 else bif !wR bl ca a b false 2 4 2 then 1 else bif !wR bl ca a b true 4 60 62 then 2 else bif !wR bl ca a b true 8 60 58 then 3 else 4
def OA(n:Nat):Int:=([4,4,60,60,0]:List Int).getD n 0
def wCor(n:Nat):Int:=([7,0,63,56,0]:List Int).getD n 0
def wayB(f r:Int)(zs:List Int)(n:Nat):Bool:=!decide (n=4)&&decide (uand (oB f r (OA n) (wCor n)).1 (occR f r zs)=0)
def Na(r:Int)(bl:Bool):Int:=bif bl then 0 else IntKind.i64.wrap (r-1)
def Kz(f r:Int)(zs:List Int)(bl:Bool)(pa a b pr:Int):Bool:=
 bif !decide (absP (zs.getD a.toNat 0)=1)then decide (pr=0)&&decide (uand (ushr (dY f r (absP (zs.getD a.toNat 0)) a (occR f r zs)).1 b) 1=1)
 else decide (uand (ushr (uor (oT f r bl a (occR f r zs)).1 (bif decide (zs.getD b.toNat 0=0)&&!decide (b=pa)then 0 else(jV f r bl a).1)) b) 1=1)&&((!decide (pr=0))==decide (IntKind.i64.wrap (b.tdiv f)=Na r bl))
def chkB(f r:Int)(zs:List Int)(b:Bool):Bool:=!decide ((bH f r zs b).1=0)
end
section
variable{kCa kDb:Bool}
theorem Oo{z w:List Int}{i:Nat}(h:i<z.length)(h2:i<w.length):decide (z.drop i=w.drop i)=(decide (z.getD i 0=w.getD i 0)&&decide (z.drop (i+1)=w.drop (i+1))):=by
 rw[List.drop_eq_getElem_cons h,List.drop_eq_getElem_cons h2];simp only[List.cons.injEq,Bool.decide_and,List.getD_eq_getElem?_getD,List.getElem?_eq_getElem h,List.getElem?_eq_getElem h2,Option.getD_some]
def FB(p q:Psn):Bool:=decide (p.f=q.f)&&decide (p.r=q.r)&&decide (p.zs=q.zs)&&(p.bl==q.bl)&&decide (p.ca=q.ca)&&decide (p.pa=q.pa)
def pL(p q:Psn):Bool:=FB p q&&decide (p.ha=q.ha)&&decide (p.fu=q.fu)
end
section
variable{kCa kDb:Bool}
def zw(f r:Int)(zs:List Int)(f2 r2:Int)(ws:List Int):Bool:=decide (f=f2)&&decide (r=r2)&&decide (zs=ws)
end
section
variable{kCa kDb:Bool}
def pnL(f r:Int)(zs:List Int)(bl:Bool)(pa a b pr:Int):Bool:=bif !(decide (IntKind.i64.wrap (b.tdiv f)=kF r bl)==!decide (pr=0))then false else bif hasL b (cz (jA f r bl a (occL zs)) id ((f*r).toNat))then true else hasL b (cz (eL f bl a) id ((f*r).toNat))&&(!decide (zs.getD b.toNat 0=0)||decide (b=pa))
def capL(f r:Int)(zs:List Int)(pa a b:Int):Int:=bif decide (cw (zs.getD a.toNat 0)=1)&&decide (b=pa)then numR f r (b.tmod f) (IntKind.i64.wrap (a.tdiv f))else bif !decide (zs.getD b.toNat 0=0)then b else -1
end
end Go.Ab
namespace Go.Ab
open Go.Proofs Go.RowKit
section
variable{kCa kDb:Bool}
end
end Go.Ab
namespace Go.Ab
open Go.Proofs
def ig(before:List Int):List Int->Int
 |[]=>-1
 |x::l=>bif !hasL x before then x else ig before l
def fh(zs:List Int)(at_:Int):Int:=aG zs (decide (zs.getD at_.toNat 0<0))
def bC(f r:Int)(zs:List Int)(at_:Int):Int:=bif decide (zs.getD at_.toNat 0=0)||decide (at_=fh zs at_)then -1
 else ig (attL f r zs (fh zs at_) (decide (0<zs.getD at_.toNat 0))) (attL f r (zs.set at_.toNat 0) (fh zs at_) (decide (0<zs.getD at_.toNat 0)))
def Jg(f r:Int)(zs:List Int)(i:Int):Bool:=decide (0<=bC f r zs i)
def nf(f r:Int)(zs:List Int)(bl:Bool):List Int:=(ct zs (sdI bl)).filter (Jg f r zs)
def Hj(f r:Int)(zs:List Int)(at_ i:Int):Bool:=decide (i=bC f r zs at_)||(hasL i (bU f r (fh zs at_) (bC f r zs at_))&&!decide (i=at_))
def oE(f r:Int)(zs:List Int)(at_:Int):List Int:=cz (Hj f r zs at_) id zs.length
theorem xX(c:Int->Bool)(n:Nat)(hn:n<=64):Uk (cN (fun s i=>bif c i then uor s (ushl 1 i)else s) 0 n)/\∀ m:Nat,bt (cN (fun s i=>bif c i then uor s (ushl 1 i)else s) 0 n) m=(decide (m<n)&&c m):=by
 induction n with
 |zero=>exact⟨uk_0,fun m=>by simp[cN,bt_0]⟩
 |succ n ih=>
  obtain⟨h1,h2⟩:=ih (by omega)
  simp only[cN]
  cases hc:c n with
  |false=>
   refine⟨h1,fun m=>?_⟩
   rw[cond_false,h2]
   by_cases e:m=n
   ·subst e;simp[hc]
   ·congr 1
    simp;omega
  |true=>
   refine⟨jE _ _,fun m=>?_⟩
   rw[cond_true,iu h1 (gl _ _),fB (by omega) (by omega),h2]
   by_cases e:m=n
   ·subst e;simp[hc]
   ·have e2:¬ ((n:Int)=m):=by omega
    have e3:decide (m<n)=decide (m<n+1):=by congr 1;exact propext ⟨fun h=>by omega,fun h=>by omega⟩
    simp[e2,e3]
theorem fa{zs:List Int}{i:Nat}(h:i<zs.length):zs.getD i 0∈zs:=by simp[List.getD,h]
theorem wZ(p:Int->Bool){zs:List Int}(h:zs.length<=64):Uk (iB p zs)/\∀ m:Nat,bt (iB p zs) m=(decide (m<zs.length)&&p (zs.getD m 0)):=by
 have:=xX (fun i=>p (zs.getD i.toNat 0)) zs.length h
 exact this
theorem gC{f r:Int}{zs:List Int}(h:aL f r zs=true)(hl:zs.length<=64):Uk (occR f r zs)/\∀ m:Nat,bt (occR f r zs) m=(decide (m<zs.length)&&!decide (zs.getD m 0=0)):=by
 obtain⟨h1,h2⟩:=wZ posP hl
 obtain⟨h3,h4⟩:=wZ negP hl
 unfold occR kQ
 rw[h]
 refine⟨jE _ _,fun m=>?_⟩
 show bt (uor (iB posP zs) (iB negP zs)) m=_
 rw[iu h1 h3,h2,h4,<-Bool.and_or_distrib_left]
 congr 1
 unfold posP negP
 rw[Bool.eq_iff_iff]
 simp only[Bool.or_eq_true,decide_eq_true_eq,Bool.not_eq_true',decide_eq_false_iff_not]
 omega
theorem AV{p:Int}:sgn p=1↔0<p:=by have:=jw p;omega
theorem Bt{p:Int}:sgn p=-1↔p<0:=by have:=jw p;omega
theorem iA{f r:Int}{zs:List Int}(h:aL f r zs=true)(hl:zs.length<=64):occL zs=occR f r zs:=by
 obtain⟨h1,h2⟩:=gC h hl
 have hb:∀ x∈ct zs 1++ct zs (-1),0<=x/\x<64:=by
  intro x hx
  rcases List.mem_append.1 hx with hx|hx<;>(have:=dj.1 hx;omega)
 obtain⟨h3,h4⟩:=iC _ 0 hb uk_0
 refine nw h3 h1 fun m hm=>?_
 show bt (ofL (ct zs 1++ct zs (-1)) 0) m=_
 rw[h4,h2,bt_0,Bool.false_or,Bool.eq_iff_iff]
 simp only[decide_eq_true_eq,List.mem_append,dj,AV,Bt,Int.toNat_natCast,Bool.and_eq_true,Bool.not_eq_true',decide_eq_false_iff_not]
 omega
theorem Ed{f r:Int}{zs:List Int}(h:aO f r zs=true)(hl:zs.length<=64):OnS f r (occR f r zs):=fun m _ hb=>by
 rw[(gC (aK h).2.2.1 hl).2,Bool.and_eq_true,decide_eq_true_eq]at hb
 exact(cW h).2 ⟨by omega,by omega⟩
theorem dZ{f r:Int}{zs:List Int}(h:aO f r zs=true){i:Int}(h0:0<=i)(h1:i<zs.length):-6<=zs.getD i.toNat 0/\zs.getD i.toNat 0<=6:=(aK h).2.2.2 _ (fa (by omega))
theorem fQ{p:Int}(h:-6<=p/\p<=6):cw p=p.natAbs:=by
 have hw:∀ q:_root_.Fin 13,cw ((q.val:Int)-6)=(((q.val:Int)-6).natAbs:Int):=by decide +kernel
 have h2:=hw ⟨(p+6).toNat,by omega⟩
 simp only at h2
 rwa [show (((p+6).toNat:Int)-6)=p by omega]at h2
theorem ld{f r kd a occ:Int}(ha:ak f r a=true)(hk:ga kd):bh f r kd a a occ=false:=by
 obtain⟨e1,e2⟩:=fZ ha ha
 have hl:(bj f a a).2.2=false:=by
  rcases gF ha ha with⟨e,_⟩|⟨_,h⟩
  ·rw[e]
  ·unfold onLine at h;omega
 have hd:uC f a a=0:=by rw[DD ha ha,show px f a-px f a=0 by omega,show py f a-py f a=0 by omega];rfl
 unfold bh
 rw[e1,e2,hl,hd,show px f a-px f a=0 by omega,show py f a-py f a=0 by omega]
 rcases hk with rfl|rfl|rfl|rfl|rfl<;>rfl
theorem Nf{f r:Int}{zs:List Int}{occ:Int}(h:aO f r zs=true)(hu:Uk occ)(hon:OnS f r occ){i:Int}(h0:0<=i)(h1:i<zs.length)(hp:zs.getD i.toNat 0≠0) :
  Uk (ofR f r zs i occ)/\OnS f r (ofR f r zs i occ)/\∀ b,ak f r b=true->bt (ofR f r zs i occ) b.toNat=gk f r zs i b occ:=by
 have hi:=(cW h).2 ⟨h0,h1⟩
 have hb:=dZ h h0 h1
 obtain⟨hv,hn,_⟩:=aK h
 unfold ofR gk
 rw[xV hb,fQ hb]
 by_cases hk:zs.getD i.toNat 0=1\/zs.getD i.toNat 0=-1
 ·rw[show (decide (zs.getD i.toNat 0=1)||decide (zs.getD i.toNat 0=-1))=true by simpa using hk,show decide (((zs.getD i.toNat 0).natAbs:Int)=1)=true by rw[decide_eq_true_eq];omega,cond_true]
  obtain⟨_,p1,p2,p3⟩:=DL (bl:=decide (zs.getD i.toNat 0<0)) hi
  refine⟨p1,p2,fun b hbv=>?_⟩
  rw[p3 b hbv,cond_true,Bool.eq_iff_iff,fX,bS]
  have:=aS hbv
  exact⟨fun h=>⟨this.1,by omega,h⟩,fun h=>h.2.2⟩
 ·have hk':(decide (zs.getD i.toNat 0=1)||decide (zs.getD i.toNat 0=-1))=false:=by simpa using hk
  rw[hk',show decide (((zs.getD i.toNat 0).natAbs:Int)=1)=false by rw[decide_eq_false_iff_not];omega,cond_false]
  have hr:=(ju hu).2 ⟨hi,hon⟩
  have h5:ga ((zs.getD i.toNat 0).natAbs:Int):=by unfold ga;omega
  obtain⟨p1,p2,p3⟩:=mc hr hu h5
  refine⟨p1,p2,fun b hbv=>?_⟩
  show bt (lq f r _ i occ) b.toNat=_
  rw[p3 b hbv,cond_false]
  by_cases e:i=b
  ·subst e;rw[ld hi h5];simp
  ·simp[e]
theorem kj(p:Int)(bl:Bool):isP p bl=decide (sgn p=sdI bl):=by
 unfold isP sdI
 rw[Bool.eq_iff_iff]
 cases bl<;>simp[AV,Bt]
theorem iw{p:Int}{bl:Bool}(h:isP p bl=true):p≠0:=by
 rintro rfl;cases bl<;>cases h
theorem eS{f r:Int}{zs:List Int}{to:Int}{bl:Bool}{i:Int}:i∈attL f r zs to bl↔0<=i/\i<zs.length/\isP (zs.getD i.toNat 0) bl=true/\gk f r zs i to (occL zs)=true:=by
 unfold attL
 rw[List.mem_filter,dj,kj,decide_eq_true_eq]
 simp only[Af,and_assoc]
theorem CQ{f r:Int}{zs:List Int}{to:Int}{bl:Bool}(h:aO f r zs=true)(hl:zs.length<=64)(ht:ak f r to=true){i:Int}(h0:0<=i)(h1:i<zs.length):attB f r zs to bl (occR f r zs) i=true↔i∈attL f r zs to bl:=by
 rw[eS]
 unfold attB
 rw[Bool.and_eq_true]
 have ho:=gC (aK h).2.2.1 hl
 have hv:=aS ht
 constructor
 ·rintro⟨h2,h3⟩
  obtain⟨p1,p2,p3⟩:=Nf h ho.1 (Ed h hl) h0 h1 (iw h2)
  rw[pS p1 hv.1 hv.2.2,p3 to ht,<-iA (aK h).2.2.1 hl]at h3
  exact⟨h0,h1,h2,h3⟩
 ·rintro⟨_,_,h2,h3⟩
  obtain⟨p1,p2,p3⟩:=Nf h ho.1 (Ed h hl) h0 h1 (iw h2)
  rw[pS p1 hv.1 hv.2.2,p3 to ht,<-iA (aK h).2.2.1 hl]
  exact⟨h2,h3⟩
theorem nB{f r:Int}{zs:List Int}{to:Int}{bl:Bool}(h:aO f r zs=true)(hl:zs.length<=64)(ht:ak f r to=true):Uk (attR f r zs to bl)/\∀ m:Nat,bt (attR f r zs to bl) m=decide ((m:Int)∈attL f r zs to bl):=by
 obtain⟨h1,h2⟩:=xX (attB f r zs to bl (occR f r zs)) zs.length hl
 refine⟨h1,fun m=>?_⟩
 show bt (cN (fun s i=>bif attB f r zs to bl (occR f r zs) i then uor s (ushl 1 i)else s) 0 zs.length) m=_
 rw[h2,Bool.eq_iff_iff,Bool.and_eq_true,decide_eq_true_eq,decide_eq_true_eq]
 constructor
 ·rintro⟨h3,h4⟩;exact(CQ h hl ht (by omega) (by omega)).1 h4
 ·intro h3
  have:=eS.1 h3
  exact⟨by omega,(CQ h hl ht (by omega) (by omega)).2 h3⟩
end Go.Ab
namespace Go.Ab
open Go.Proofs Go.RowKit
section
variable{kDb:Bool}
def epB(zs:List Int)(pa a b:Int):Bool:=decide (absP (zs.getD a.toNat 0)=1)&&decide (b=pa)
def at1R(f:Int)(zs:List Int)(pa a b:Int):Int:=bif epB zs pa a b then IntKind.i64.wrap (IntKind.i64.wrap (a-a.tmod f)+b.tmod f)else b
def capR(f:Int)(zs:List Int)(pa a b:Int):Int:=zs.getD (at1R f zs pa a b).toNat 0
def at2R(f:Int)(zs:List Int)(pa a b:Int):Int:=bif decide (capR f zs pa a b=0)then -1 else at1R f zs pa a b
def err3(p:Psn)(m:Mov):Bool:=isP (p.zs.getD m.b.toNat 0) p.bl||(!Kz p.f p.r p.zs p.bl p.pa m.a m.b m.p&&(!wayB p.f p.r p.zs (wayN p.zs p.bl p.ca m.a m.b)||!decide (m.p=0)))
end
end Go.Ab
namespace Go.Ab
open Go.Proofs
section
variable{kCa kDb:Bool}
end
section
variable{kCa kDb:Bool}
end
section
variable{kCa kDb:Bool}
end
end Go.Ab
namespace Go.Ab
abbrev iL(l:List Int):List Int:=l
structure Bd where
 f:Int
 r:Int
 zs:List Int
structure Siz where
 f:Int
 r:Int
end Go.Ab
