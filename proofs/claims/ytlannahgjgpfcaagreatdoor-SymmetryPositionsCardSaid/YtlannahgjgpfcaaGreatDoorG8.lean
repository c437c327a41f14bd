/- Contracts of the functions that the laws reach, and plain laws of what they compute (text G8); no condition. -/
import Derived.Test.YtlannahgjgpfcaaGreatDoorG7
import Derived.Test.YtlannahgjgpfcaaGreatDoorG4
import Derived.Test.YtlannahgjgpfcaaGreatDoorG5
set_option maxRecDepth 100000
namespace Go.Ab
open IntKind
open Go.Proofs
section
variable{kCa kDb:Bool}
theorem zK{C:Int->Bool}{l:List Int}{j:Nat}(h:j<l.length):(bif C (l.getD j 0) then(l.take j).filter C++[l.getD j 0] else(l.take j).filter C)=(l.take (j+1)).filter C:=by
 have e:l.getD j 0=l[j]:=by simp[List.getD,h]
 rw[e,List.take_succ_eq_append_getElem h,List.filter_append]
 cases hc:C l[j]<;>simp[hc]
def kF(p:Int):Int:=bif decide (p<0)then w8 (0-p)else p
def sdI(bl:Bool):Int:=bif bl then -1 else 1
def rU(zs:List Int)(s i:Int):Bool:=decide (sgn (zs.getD i.toNat 0)=s)
def bX(zs:List Int)(s:Int):List Int:=da (rU zs s) id zs.length
def occL(zs:List Int):Int:=ofL (bX zs 1++bX zs (-1)) 0
def lT(zs:List Int)(p i:Int):Bool:=decide (zs.getD i.toNat 0=p)
def fZ(zs:List Int)(p:Int):List Int:=da (lT zs p) id zs.length
def tc(f r:Int)(zs:List Int)(i to occ:Int):Bool:=bif decide (kF (zs.getD i.toNat 0)=1)then hasL to (da (lF f (decide (zs.getD i.toNat 0<0)) i) id (f*r).toNat)else !decide (i=to)&&dm f r (kF (zs.getD i.toNat 0)) i to occ
def xR(f r:Int)(zs:List Int)(to occ i:Int):Bool:=tc f r zs i to occ
def attL(f r:Int)(zs:List Int)(to:Int)(bl:Bool):List Int:=(bX zs (sdI bl)).filter (xR f r zs to (occL zs))
def bj(zs:List Int)(bl:Bool):Int:=bif decide (((fZ zs (w8 (i64.wrap (6*sdI bl)))).length:Int)=1) then(fZ zs (w8 (i64.wrap (6*sdI bl)))).getD 0 0 else -1
theorem fE(zs:List Int)(s:Int):(bX zs s).length<=zs.length:=ff _ _ _
theorem fq{zs:List Int}{s x:Int}:x∈bX zs s↔0<=x/\x<zs.length/\sgn (zs.getD x.toNat 0)=s:=by
 unfold bX
 rw[gy]
 simp[rU]
theorem fR{f r:Int}{zs:List Int}:(vsB f r&&decide ((zs.length:Int)=i64.wrap (f*r))&&zs.all okP)=aL f r zs:=by
 unfold aL cntR
 cases vsB f r
 ·simp
 ·simp[badP,List.any_eq_not_all_not]
theorem iM{f r:Int}{zs:List Int}:(aL f r zs&&zs.all (fun p=>!norP p))=aZ f r zs:=by
 unfold aZ
 simp[List.any_eq_not_all_not]
def nP:CF
 |[.int .i8 p],[]=>some (true,.bool (okP p),[])
 |_,_=>none
theorem mP:CtOk (GGx kCa kDb) PP (143,nP):=by
 refine aG Tryz.func143 (by kernel_rfl) rfl fun a0 h0 c0 v0 N0 e hc=>?_
 unfold nP at e
 split at e
 ·rename_i p
  cases e
  have hE:=aF (kCa:=kCa) (kDb:=kDb) (cts:=[]) (inl:=[]) trivial trivial
  refine ak hE 2 Tryz.func143 rfl rfl ?_
  repeat' first|(first|refine ah ?_|refine sat_nd ?_)|refine ax (fun h=>?_) (fun h=>?_)
  all_goals exact ae (ai (.inr rfl) rfl rfl rfl (by first|rfl|(simp only[*,cond_true,cond_false];done)|(simp only[*,cond_true,cond_false,Bool.not_true,Bool.not_false,Bool.and_true,Bool.true_and,Bool.and_false,Bool.false_and,Bool.or_true,Bool.true_or,Bool.or_false,Bool.false_or];done)|simp_all []))
 ·cases e
def jF:CF
 |[.int .i8 p],[]=>some (true,.bool (orP p),[])
 |_,_=>none
theorem lJ:CtOk (GGx kCa kDb) PP (108,jF):=by
 refine aG Tryz.func108 (by kernel_rfl) rfl fun a0 h0 c0 v0 N0 e hc=>?_
 unfold jF at e
 split at e
 ·rename_i p
  cases e
  have hE:=aF (kCa:=kCa) (kDb:=kDb) (cts:=[]) (inl:=[]) trivial trivial
  refine ak hE 2 Tryz.func108 rfl rfl ?_
  repeat' first|(first|refine ah ?_|refine sat_nd ?_)|refine ax (fun h=>?_) (fun h=>?_)
  all_goals exact ae (ai (.inr rfl) rfl rfl rfl (by first|rfl|(simp only[*,cond_true,cond_false];done)|(simp only[*,cond_true,cond_false,Bool.not_true,Bool.not_false,Bool.and_true,Bool.true_and,Bool.and_false,Bool.false_and,Bool.or_true,Bool.true_or,Bool.or_false,Bool.false_or];done)|simp_all []))
 ·cases e
def nR:CF
 |[.int .i8 p],[]=>some (true,.int .i64 (sgn p),[])
 |_,_=>none
theorem uJ:CtOk (GGx kCa kDb) PP (167,nR):=by
 refine aG Tryz.func167 (by kernel_rfl) rfl fun a0 h0 c0 v0 N0 e hc=>?_
 unfold nR at e
 split at e
 ·rename_i p
  cases e
  have hE:=aF (kCa:=kCa) (kDb:=kDb) (cts:=[]) (inl:=[]) trivial trivial
  refine ak hE 2 Tryz.func167 rfl rfl ?_
  repeat' first|(first|refine ah ?_|refine sat_nd ?_)|refine ax (fun h=>?_) (fun h=>?_)
  all_goals exact ae (ai (.inr rfl) rfl rfl rfl (by first|rfl|(simp only[sgn, *,cond_true,cond_false];done)|(simp only[sgn, *,cond_true,cond_false,Bool.not_true,Bool.not_false,Bool.and_true,Bool.true_and,Bool.and_false,Bool.false_and,Bool.or_true,Bool.true_or,Bool.or_false,Bool.false_or];done)|simp_all [sgn]))
 ·cases e
def gG:CF
 |[.int .i8 p],[]=>some (true,.int .i8 (kF p),[])
 |_,_=>none
theorem gk:CtOk (GGx kCa kDb) PP (57,gG):=by
 refine aG Tryz.func57 (by kernel_rfl) rfl fun a0 h0 c0 v0 N0 e hc=>?_
 unfold gG at e
 split at e
 ·rename_i p
  cases e
  have hE:=aF (kCa:=kCa) (kDb:=kDb) (cts:=[]) (inl:=[]) trivial trivial
  refine ak hE 2 Tryz.func57 rfl rfl ?_
  repeat' first|(first|refine ah ?_|refine sat_nd ?_)|refine ax (fun h=>?_) (fun h=>?_)
  all_goals exact ae (ai (.inr rfl) rfl rfl rfl (by first|rfl|(simp only[kF, *,cond_true,cond_false];done)|(simp only[kF, *,cond_true,cond_false,Bool.not_true,Bool.not_false,Bool.and_true,Bool.true_and,Bool.and_false,Bool.false_and,Bool.or_true,Bool.true_or,Bool.or_false,Bool.false_or];done)|simp_all [kF]))
 ·cases e
def oo:CF
 |[.bool bl],[]=>some (true,.int .i64 (sdI bl),[])
 |_,_=>none
theorem mI:CtOk (GGx kCa kDb) PP (110,oo):=by
 refine aG Tryz.func110 (by kernel_rfl) rfl fun a0 h0 c0 v0 N0 e hc=>?_
 unfold oo at e
 split at e
 ·rename_i bl
  cases e
  have hE:=aF (kCa:=kCa) (kDb:=kDb) (cts:=[]) (inl:=[]) trivial trivial
  refine ak hE 2 Tryz.func110 rfl rfl ?_
  repeat' first|(first|refine ah ?_|refine sat_nd ?_)|refine ax (fun h=>?_) (fun h=>?_)
  all_goals exact ae (ai (.inr rfl) rfl rfl rfl (by first|rfl|(simp only[sdI, *,cond_true,cond_false];done)|(simp only[sdI, *,cond_true,cond_false,Bool.not_true,Bool.not_false,Bool.and_true,Bool.true_and,Bool.and_false,Bool.false_and,Bool.or_true,Bool.true_or,Bool.or_false,Bool.false_or];done)|simp_all [sdI]))
 ·cases e
def DJ:CF
 |[.sl 0 0 len none,.int .i64 n],[.ints false .i64 zs]=>some (decide (len=zs.length)&&decide (zs.length<=1000000),.bool (hasL n zs),[])
 |_,_=>none
theorem zA:CtOk (GGx kCa kDb) PP (169,DJ):=by
 refine aG Tryz.func169 (by kernel_rfl) rfl fun a0 h0 c0 v0 N0 e hc=>?_
 unfold DJ at e
 split at e
 ·rename_i len n zs
  cases e
  have hE:=aF (kCa:=kCa) (kDb:=kDb) (cts:=[]) (inl:=[]) trivial trivial
  refine ak hE 2 Tryz.func169 rfl rfl ?_
  simp only[Bool.and_eq_true,decide_eq_true_eq]at hc
  obtain⟨rfl,hc2⟩:=hc
  refine bK hE 2 (fun i (_:Unit)=>([(0,.sl 0 0 zs.length none),(1,I n),(5,I i)],[.ints false .i64 zs])) zs.length (fun j _=>hasL n (zs.drop j)=hasL n zs) () (by omega) (Ent.ren [0] [0,1,5] rfl rfl rfl) rfl ?_
  intro j i _ hij hj hz
  refine ax (fun hlt=>?_) (fun hlt=>?_)
  ·have hlt':j<zs.length:=by simp at hlt;omega
   rw[DM hlt',show j=i.toNat by omega]at hz
   refine ag (by simp;omega) ?_
   repeat (first|refine ah ?_|refine sat_nd ?_)
   refine ax (fun hon=>?_) (fun hon=>?_)
   ·have hon:decide (zs.getD i.toNat 0=n)=true:=hon
    rw[hon]at hz
    exact ae (ae (ai (.inr rfl) rfl rfl rfl (by rw[<-hz];rfl)))
   ·have hon:decide (zs.getD i.toNat 0=n)=false:=hon
    rw[hon]at hz
    exact ae ⟨hlt',(),by rw[<-hz,show i.toNat=j by omega];rfl,Ent.ren [0] [0,1,5] rfl rfl rfl⟩
  ·obtain rfl:j=zs.length:=by simp at hlt;omega
   rw[List.drop_length]at hz
   exact ae (ae (ai (.inr rfl) rfl rfl rfl (by rw[<-hz];rfl)))
 ·cases e
def nnP(p:Int):Bool:=!norP p
def lY:CF
 |[.agg [.int .i64 f,.int .i64 r,.sl 0 0 len none]],[.ints false .i8 zs]=>some (decide (len=zs.length)&&decide (zs.length<=64),.bool (aL f r zs),[])
 |_,_=>none
theorem qD:CtOk (GGx kCa kDb) PP (107,lY):=by
 refine aG Tryz.func107 (by kernel_rfl) rfl fun a0 h0 c0 v0 N0 e hc=>?_
 unfold lY at e
 split at e
 ·rename_i f r len zs
  cases e
  have hE:=aF (kCa:=kCa) (kDb:=kDb) (cts:=[(33,gC),(143,nP)]) (inl:=[]) ⟨dA,mP,trivial⟩ trivial
  refine ak hE 2 Tryz.func107 rfl rfl ?_
  simp only[Bool.and_eq_true,decide_eq_true_eq]at hc
  obtain⟨rfl,hc2⟩:=hc
  repeat (first|refine ah ?_|refine sat_nd ?_)
  refine ax (fun h=>?_) (fun h=>?_)
  ·have h:(vsB f r&&decide ((zs.length:Int)=i64.wrap (f*r)))=false:=by
    have h:(!vsB f r||!decide ((zs.length:Int)=i64.wrap (f*r)))=true:=h
    cases h1:vsB f r<;>cases h2:decide ((zs.length:Int)=i64.wrap (f*r))<;>simp_all
   exact ae (ai (.inr rfl) rfl rfl rfl (by rw[<-fR,h];rfl))
  have h:(vsB f r&&decide ((zs.length:Int)=i64.wrap (f*r)))=true:=by
   have h:(!vsB f r||!decide ((zs.length:Int)=i64.wrap (f*r)))=false:=h
   cases h1:vsB f r<;>cases h2:decide ((zs.length:Int)=i64.wrap (f*r))<;>simp_all
  refine bK hE 2 (fun i (_:Unit)=>([(1,.ptr 1 0 0),(3,I i)],[.ints false .i8 zs,.cells true [I f,I r,.sl 0 0 zs.length none]])) zs.length (fun j _=>(zs.drop j).all okP=zs.all okP) () (by omega) (Ent.ren [0,1] [1,3] rfl rfl rfl) rfl ?_
  intro j i _ hij hj hz
  refine ax (fun hlt=>?_) (fun hlt=>?_)
  ·have hlt':j<zs.length:=by simp at hlt;omega
   rw[jD hlt',show j=i.toNat by omega]at hz
   refine ag (by simp;omega) ?_
   repeat (first|(first|refine ah ?_|refine sat_nd ?_)|refine ag (by simp;omega) ?_)
   refine ax (fun hon=>?_) (fun hon=>?_)
   ·have hon:(!okP (zs.getD i.toNat 0))=true:=hon
    have hon:okP (zs.getD i.toNat 0)=false:=by simpa using hon
    rw[hon]at hz
    exact ae (ae (ai (.inr rfl) rfl rfl rfl (by rw[<-fR,h,<-hz];rfl)))
   ·have hon:(!okP (zs.getD i.toNat 0))=false:=hon
    have hon:okP (zs.getD i.toNat 0)=true:=by simpa using hon
    rw[hon]at hz
    exact ae ⟨hlt',(),by rw[<-hz,show i.toNat=j by omega];rfl,Ent.ren [0,1] [1,3] rfl rfl rfl⟩
  ·obtain rfl:j=zs.length:=by simp at hlt;omega
   rw[List.drop_length]at hz
   have hz:zs.all okP=true:=hz.symm
   exact ae (ae (ai (.inr rfl) rfl rfl rfl (by rw[<-fR,h,hz];rfl)))
 ·cases e
def vb:CF
 |[.agg [.int .i64 f,.int .i64 r,.sl 0 0 len none]],[.ints false .i8 zs]=>some (decide (len=zs.length)&&decide (zs.length<=64),.bool (aZ f r zs),[])
 |_,_=>none
theorem yC:CtOk (GGx kCa kDb) PP (54,vb):=by
 refine aG Tryz.func54 (by kernel_rfl) rfl fun a0 h0 c0 v0 N0 e hc=>?_
 unfold vb at e
 split at e
 ·rename_i f r len zs
  cases e
  have hE:=aF (kCa:=kCa) (kDb:=kDb) (cts:=[(107,lY),(108,jF)]) (inl:=[]) ⟨qD,lJ,trivial⟩ trivial
  refine ak hE 2 Tryz.func54 rfl rfl ?_
  simp only[Bool.and_eq_true,decide_eq_true_eq]at hc
  obtain⟨rfl,hc2⟩:=hc
  repeat (first|refine ah ?_|refine sat_nd ?_)
  refine ax (fun h=>?_) (fun h=>?_)
  ·have h:aL f r zs=false:=by simpa using h
   exact ae (ai (.inr rfl) rfl rfl rfl (by rw[<-iM,h];rfl))
  have h:aL f r zs=true:=by simpa using h
  refine bK hE 2 (fun i (_:Unit)=>([(1,.ptr 1 0 0),(3,I i)],[.ints false .i8 zs,.cells true [I f,I r,.sl 0 0 zs.length none]])) zs.length (fun j _=>(zs.drop j).all nnP=zs.all nnP) () (by omega) (Ent.ren [0,1] [1,3] rfl rfl rfl) rfl ?_
  intro j i _ hij hj hz
  refine ax (fun hlt=>?_) (fun hlt=>?_)
  ·have hlt':j<zs.length:=by simp at hlt;omega
   rw[jD hlt',show j=i.toNat by omega]at hz
   refine ag (by simp;omega) ?_
   repeat (first|(first|refine ah ?_|refine sat_nd ?_)|refine ag (by simp;omega) ?_)
   refine ax (fun hon=>?_) (fun hon=>?_)
   ·have hon:(!nnP (zs.getD i.toNat 0))=true:=(Bool.not_not _).trans hon
    have hon:nnP (zs.getD i.toNat 0)=false:=by simpa using hon
    rw[hon]at hz
    exact ae (ae (ai (.inr rfl) rfl rfl rfl (by rw[<-iM,h,show zs.all (fun p=>!norP p)=zs.all nnP from rfl,<-hz];rfl)))
   ·have hon:(!nnP (zs.getD i.toNat 0))=false:=(Bool.not_not _).trans hon
    have hon:nnP (zs.getD i.toNat 0)=true:=by simpa using hon
    rw[hon]at hz
    exact ae ⟨hlt',(),by rw[<-hz,show i.toNat=j by omega];rfl,Ent.ren [0,1] [1,3] rfl rfl rfl⟩
  ·obtain rfl:j=zs.length:=by simp at hlt;omega
   rw[List.drop_length]at hz
   have hz:zs.all nnP=true:=hz.symm
   exact ae (ae (ai (.inr rfl) rfl rfl rfl (by rw[<-iM,h,show zs.all (fun p=>!norP p)=zs.all nnP from rfl,hz];rfl)))
 ·cases e
def wq:CF
 |[.agg [.int .i64 _f,.int .i64 _r,.sl 0 0 len none],.int .i64 s],[.ints false .i8 zs]=>some (decide (len=zs.length)&&decide (zs.length<=64),.sl 1 0 (bX zs s).length none,[.ints true .i64 (bX zs s)])
 |_,_=>none
theorem rM:CtOk (GGx kCa kDb) PP (144,wq):=by
 refine aG Tryz.func144 (by kernel_rfl) rfl fun a0 h0 c0 v0 N0 e hc=>?_
 unfold wq at e
 split at e
 ·rename_i f r len s zs
  cases e
  have hE:=aF (kCa:=kCa) (kDb:=kDb) (cts:=[(167,nR)]) (inl:=[]) ⟨uJ,trivial⟩ trivial
  refine ak hE 2 Tryz.func144 rfl rfl ?_
  simp only[Bool.and_eq_true,decide_eq_true_eq]at hc
  obtain⟨rfl,hc2⟩:=hc
  refine bK hE 2 (fun(i:Int) (ys:List Int)=>([(1,I s),(2,.ptr 1 0 0),(5,.sl 2 0 ys.length none),(6,I i)],[.ints false .i8 zs,.cells true [I f,I r,.sl 0 0 zs.length none],.ints true .i64 ys])) (zs.length) (fun j ys=>ys=da (rU zs s) id j) [] (by omega) ((Ent.phanT (t:=5) (o:=.ints true .i64 []) rfl ⟨by simp,by simp,trivial,rfl⟩ (aJ rfl)).trans (Ent.ren [0,1,2] [1,2,5,6] rfl rfl rfl)) rfl ?_
  intro j i ys hij hj hz
  have hb:=ff (rU zs s) id j
  rw[<-hz]at hb
  refine ax (fun hlt=>?_) (fun hlt=>?_)
  ·have hlt':j<zs.length:=by simp only[decide_eq_true_eq]at hlt;omega
   have hs:=ew (rU zs s) id j
   rw[<-hz,<-hij]at hs
   repeat (first|(first|refine ah ?_|refine sat_nd ?_)|refine ag (by simp;omega) ?_)
   refine ax (fun hon=>?_) (fun hon=>?_)
   ·skip
    have hon:rU zs s i=true:=hon
    rw[hon,cond_true]at hs
    refine ag (b:=decide (ys.length=ys.length)&&decide ((ys.length+1)*8<=140737488355328)&&true) (by simp;omega) ?_
    exact ae ⟨hlt',ys++[id i],hs.symm,Ent.ren [0,1,4] [1,2,5,6] rfl rfl rfl⟩
   ·skip
    have hon:rU zs s i=false:=hon
    rw[hon,cond_false]at hs
    exact ae ⟨hlt',ys,hs.symm,Ent.ren [0,1,2] [1,2,5,6] rfl rfl rfl⟩
  ·obtain rfl:j=zs.length:=by simp only[decide_eq_false_iff_not]at hlt;omega
   subst hz
   refine ae (ae ((dc 2 (.inr rfl) rfl rfl rfl rfl rfl rfl)))
 ·cases e
def tV:CF
 |[.agg [.int .i64 _f,.int .i64 _r,.sl 0 0 len none],.int .i8 p],[.ints false .i8 zs]=>some (decide (len=zs.length)&&decide (zs.length<=64),.sl 1 0 (fZ zs p).length none,[.ints true .i64 (fZ zs p)])
 |_,_=>none
theorem yp:CtOk (GGx kCa kDb) PP (109,tV):=by
 refine aG Tryz.func109 (by kernel_rfl) rfl fun a0 h0 c0 v0 N0 e hc=>?_
 unfold tV at e
 split at e
 ·rename_i f r len p zs
  cases e
  have hE:=aF (kCa:=kCa) (kDb:=kDb) (cts:=[]) (inl:=[]) trivial trivial
  refine ak hE 2 Tryz.func109 rfl rfl ?_
  simp only[Bool.and_eq_true,decide_eq_true_eq]at hc
  obtain⟨rfl,hc2⟩:=hc
  refine bK hE 2 (fun(i:Int) (ys:List Int)=>([(1,.int .i8 p),(2,.ptr 1 0 0),(5,.sl 2 0 ys.length none),(6,I i)],[.ints false .i8 zs,.cells true [I f,I r,.sl 0 0 zs.length none],.ints true .i64 ys])) (zs.length) (fun j ys=>ys=da (lT zs p) id j) [] (by omega) ((Ent.phanT (t:=5) (o:=.ints true .i64 []) rfl ⟨by simp,by simp,trivial,rfl⟩ (aJ rfl)).trans (Ent.ren [0,1,2] [1,2,5,6] rfl rfl rfl)) rfl ?_
  intro j i ys hij hj hz
  have hb:=ff (lT zs p) id j
  rw[<-hz]at hb
  refine ax (fun hlt=>?_) (fun hlt=>?_)
  ·have hlt':j<zs.length:=by simp only[decide_eq_true_eq]at hlt;omega
   have hs:=ew (lT zs p) id j
   rw[<-hz,<-hij]at hs
   repeat (first|(first|refine ah ?_|refine sat_nd ?_)|refine ag (by simp;omega) ?_)
   refine ax (fun hon=>?_) (fun hon=>?_)
   ·skip
    have hon:lT zs p i=true:=hon
    rw[hon,cond_true]at hs
    refine ag (b:=decide (ys.length=ys.length)&&decide ((ys.length+1)*8<=140737488355328)&&true) (by simp;omega) ?_
    exact ae ⟨hlt',ys++[id i],hs.symm,Ent.ren [0,1,4] [1,2,5,6] rfl rfl rfl⟩
   ·skip
    have hon:lT zs p i=false:=hon
    rw[hon,cond_false]at hs
    exact ae ⟨hlt',ys,hs.symm,Ent.ren [0,1,2] [1,2,5,6] rfl rfl rfl⟩
  ·obtain rfl:j=zs.length:=by simp only[decide_eq_false_iff_not]at hlt;omega
   subst hz
   refine ae (ae ((dc 2 (.inr rfl) rfl rfl rfl rfl rfl rfl)))
 ·cases e
end
end Go.Ab
namespace Go.Ab
open Go.Proofs
section
variable{kCa kDb:Bool}
theorem dy(l:List Int):(tk l).length=l.length:=by rw[aS]
theorem DN(l m:List Int)(h:l.length<=1000000)(h2:m.length<=1000000)(b:Bool)(hb:b=true):(decide ((tk l).length=(tk l).length)&&decide (((tk l).length+m.length)*8<=140737488355328)&&b)=true:=by rw[dy,hb];simp;omega
theorem FQ(zs:List Int)(h:zs.length<=64){L:List Int}{n:Nat}(hL:L=bX zs 1++bX zs (-1))(hn:n=L.length):(decide (n=((L.drop 0).take n).length)&&decide (((L.drop 0).take n).length<=1000000)&&((L.drop 0).take n).all fun x=>decide (0<=x))=true:=by
 subst hn
 have e:(L.drop 0).take L.length=L:=by simp
 rw[e]
 have h1:=fE zs 1
 have h2:=fE zs (-1)
 have h3:L.length<=1000000:=by rw[hL,List.length_append];omega
 simp only[decide_true,Bool.true_and,Bool.and_eq_true,decide_eq_true_eq,List.all_eq_true]
 refine⟨h3,fun x hx=>?_⟩
 rw[hL]at hx
 rcases List.mem_append.1 hx with hx|hx<;>exact(fq.1 hx).1
def Kn:CF
 |[.agg [.int .i64 _f,.int .i64 _r,.sl 0 0 len none]],[.ints false .i8 zs]=>some (decide (len=zs.length)&&decide (zs.length<=64),.int .u64 (occL zs),[])
 |_,_=>none
theorem Ei:CtOk (GGx kCa kDb) PP (145,Kn):=by
 refine aG Tryz.func145 (by kernel_rfl) rfl fun a0 h0 c0 v0 N0 e hc=>?_
 unfold Kn at e
 split at e
 ·rename_i f r len zs
  cases e
  have hE:=aF (kCa:=kCa) (kDb:=kDb) (cts:=[(144,wq),(168,c_Of)]) (inl:=[]) ⟨rM,Ju,trivial⟩ trivial
  refine ak hE 2 Tryz.func145 rfl rfl ?_
  simp only[Bool.and_eq_true,decide_eq_true_eq]at hc
  obtain⟨rfl,hc2⟩:=hc
  have l1:=fE zs 1
  have l2:=fE zs (-1)
  repeat (first|refine ah ?_|refine sat_nd ?_)
  refine ag (by
   refine DN (bX (tk zs) 1) (bX (tk zs) (-1)) ?_ ?_ _ rfl<;>simp only[aS]<;>omega) ?_
  refine ag (by
   refine FQ zs hc2 (L:=tk (bX (tk zs) 1)++tk (bX (tk zs) (-1))) ?_ rfl
   simp only[aS]) ?_
  refine ae (ai (.inr rfl) rfl rfl rfl ?_)
  show U (ofL (tk (tk (bX (tk zs) 1)++tk (bX (tk zs) (-1)))) 0)=_
  simp only[aS]
  rfl
 ·cases e
end
section
variable{kCa kDb:Bool}
theorem ER{c:Int->Bool}{n m:Nat}(h:n<=1000000)(hm:m=(da c id n).length):(decide (m=(((da c id n).drop 0).take m).length)&&decide ((((da c id n).drop 0).take m).length<=1000000))=true:=by
 subst hm
 have:=ff c id n
 have e:((da c id n).drop 0).take (da c id n).length=da c id n:=by simp
 rw[e];simp;omega
theorem EI{zs:List Int}{s:Int}{i:Nat}(h:i<(bX (tk zs) s).length):0<=(bX (tk zs) s).getD i 0/\(bX (tk zs) s).getD i 0<zs.length:=by
 rw[aS]at h ⊢
 have hm:(bX zs s).getD i 0∈bX zs s:=by simp[List.getD,h]
 have:=fq.1 hm
 exact⟨this.1,this.2.1⟩
def lz:CF
 |[.agg [.int .i64 f,.int .i64 r,.sl 0 0 len none],.int .i64 i,.int .i64 to,.int .u64 occ],[.ints false .i8 zs]=>some (decide (len=zs.length)&&decide (zs.length<=64)&&decide (0<=i)&&decide (i<zs.length)&&vsB f r,.bool (tc f r zs i to occ),[])
 |_,_=>none
theorem qL:CtOk (GGx kCa kDb) PP (146,lz):=by
 refine aG Tryz.func146 (by kernel_rfl) rfl fun a0 h0 c0 v0 N0 e hc=>?_
 unfold lz at e
 split at e
 ·rename_i f r len i to occ zs
  cases e
  have hE:=aF (kCa:=kCa) (kDb:=kDb) (cts:=[(57,gG),(170,lA),(169,DJ),(171,ki)]) (inl:=[]) ⟨gk,rj,zA,rE,trivial⟩ trivial
  refine ak hE 2 Tryz.func146 rfl rfl ?_
  simp only[Bool.and_eq_true,decide_eq_true_eq]at hc
  obtain⟨⟨⟨⟨rfl,hc2⟩,hi1⟩,hi2⟩,hv⟩:=hc
  have hf:=cV hv
  have hm:=bF hv
  have hf0:(!decide (f=0))=true:=by simp;omega
  repeat (first|(first|refine ah ?_|refine sat_nd ?_)|refine ag (by simp;omega) ?_)
  refine ax (fun h=>?_) (fun h=>?_)
  ·have h:decide (kF (zs.getD i.toNat 0)=1)=true:=h
   refine ag hv ?_
   repeat (first|refine ah ?_|refine sat_nd ?_)
   refine ag (ER (by omega) rfl) ?_
   refine ae (ai (.inr rfl) rfl rfl rfl ?_)
   show V.bool (hasL to (tk (da (lF f (decide (zs.getD i.toNat 0<0)) i) id (f*r).toNat)))=_
   rw[aS,tc,h];rfl
  ·have h:decide (kF (zs.getD i.toNat 0)=1)=false:=h
   repeat (first|(first|refine ah ?_|refine sat_nd ?_)|refine ag (by rw[hf0];exact Bool.or_true _) ?_)
   exact ae (ai (.inr rfl) rfl rfl rfl (by rw[tc,h];rfl))
 ·cases e
def ee:CF
 |[.agg [.int .i64 f,.int .i64 r,.sl 0 0 len none],.int .i64 to,.bool bl],[.ints false .i8 zs]=>some (decide (len=zs.length)&&decide (zs.length<=64)&&vsB f r,.sl 1 0 (attL f r zs to bl).length none,[.ints true .i64 (attL f r zs to bl)])
 |_,_=>none
theorem iZ:CtOk (GGx kCa kDb) PP (111,ee):=by
 refine aG Tryz.func111 (by kernel_rfl) rfl fun a0 h0 c0 v0 N0 e hc=>?_
 unfold ee at e
 split at e
 ·rename_i f r len to bl zs
  cases e
  have hE:=aF (kCa:=kCa) (kDb:=kDb) (cts:=[(110,oo),(144,wq),(145,Kn),(146,lz)]) (inl:=[]) ⟨mI,rM,Ei,qL,trivial⟩ trivial
  refine ak hE 2 Tryz.func111 rfl rfl ?_
  simp only[Bool.and_eq_true,decide_eq_true_eq]at hc
  obtain⟨⟨rfl,hc2⟩,hv⟩:=hc
  have hsl:(bX (tk zs) (sdI bl)).length<=zs.length:=by rw[aS];exact fE zs (sdI bl)
  repeat (first|refine ah ?_|refine sat_nd ?_)
  refine bK hE 2 (fun(i:Int) (ys:List Int)=>([(1,I to),(3,.ptr 1 0 0),(7,.sl 3 0 ys.length none),(8,.sl 2 0 (bX (tk zs) (sdI bl)).length none),(9,U (occL (tk zs))),(10,I i)],[.ints false .i8 zs,.cells true [I f,I r,.sl 0 0 zs.length none],.ints true .i64 (bX (tk zs) (sdI bl)),.ints true .i64 ys])) (bX (tk zs) (sdI bl)).length (fun j ys=>ys=((bX (tk zs) (sdI bl)).take j).filter (xR f r (tk zs) to (occL (tk zs)))) [] (by omega) ((Ent.phanT (t:=7) (o:=.ints true .i64 []) rfl ⟨by simp,by simp,trivial,rfl⟩ (aJ rfl)).trans (Ent.ren [0,1,2,3] [1,3,7,8,9,10] rfl rfl rfl)) rfl ?_
  intro j i ys hij hj hz
  have hb:ys.length<=j:=by rw[hz];exact Nat.le_trans (List.length_filter_le _ _) (by rw[List.length_take];omega)
  refine ax (fun hlt=>?_) (fun hlt=>?_)
  ·have hlt':j<(bX (tk zs) (sdI bl)).length:=by simp only[decide_eq_true_eq]at hlt;omega
   have hs:=zK (C:=xR f r (tk zs) to (occL (tk zs))) hlt'
   have hgl:=EI (zs:=zs) (s:=sdI bl) (i:=i.toNat) (by omega)
   have hil:(decide (0<=i)&&decide (i<((bX (tk zs) (sdI bl)).length:Int)))=true:=by simp only[Bool.and_eq_true,decide_eq_true_eq];omega
   rw[<-hz,show j=i.toNat by omega]at hs
   repeat (first|(first|refine ah ?_|refine sat_nd ?_)|refine ag hil ?_)
   refine ag (by
    simp only[Bool.and_eq_true,decide_eq_true_eq]
    rw[dy]
    exact⟨⟨⟨⟨by first|rfl|trivial,hc2⟩,hgl.1⟩,hgl.2⟩,hv⟩) ?_
   refine ax (fun hon=>?_) (fun hon=>?_)
   ·skip
    have hon:xR f r (tk zs) to (occL (tk zs)) ((bX (tk zs) (sdI bl)).getD i.toNat 0)=true:=hon
    rw[hon,cond_true]at hs
    refine ag (by simp;omega) ?_
    refine ag (b:=decide (ys.length=ys.length)&&decide ((ys.length+1)*8<=140737488355328)&&true) (by simp;omega) ?_
    exact ae ⟨hlt',ys++[(bX (tk zs) (sdI bl)).getD i.toNat 0],by rw[show j+1=i.toNat+1 by omega];exact hs,Ent.ren [0,1,2,5] [1,3,7,8,9,10] rfl rfl rfl⟩
   ·skip
    have hon:xR f r (tk zs) to (occL (tk zs)) ((bX (tk zs) (sdI bl)).getD i.toNat 0)=false:=hon
    rw[hon,cond_false]at hs
    exact ae ⟨hlt',ys,by rw[show j+1=i.toNat+1 by omega];exact hs,Ent.ren [0,1,2,3] [1,3,7,8,9,10] rfl rfl rfl⟩
  ·obtain rfl:j=(bX (tk zs) (sdI bl)).length:=by simp only[decide_eq_false_iff_not]at hlt;omega
   rw[List.take_length]at hz
   subst hz
   refine ae (ae (dc 3 (.inr rfl) rfl rfl rfl rfl (by simp only[aS];rfl) (by simp only[aS];rfl)))
 ·cases e
end
end Go.Ab
namespace Go.Ab
open IntKind
open Go.Proofs
section
variable{kCa kDb:Bool}
theorem bM{zs:List Int}(h:zs.length<=64){n:Nat}(hn:n=zs.length):(decide (n=(tk zs).length)&&decide ((tk zs).length<=64))=true:=by rw[dy,hn];simp;omega
theorem bS{zs:List Int}(h:zs.length<=64){n:Nat}(hn:n=zs.length){b:Bool}(hb:b=true):(decide (n=(tk zs).length)&&decide ((tk zs).length<=64)&&b)=true:=by rw[dy,hn,hb];simp;omega
def fo:CF
 |[.agg [.int .i64 _f,.int .i64 _r,.sl 0 0 len none],.bool bl],[.ints false .i8 zs]=>some (decide (len=zs.length)&&decide (zs.length<=64),.int .i64 (bj zs bl),[])
 |_,_=>none
theorem fm:CtOk (GGx kCa kDb) PP (55,fo):=by
 refine aG Tryz.func55 (by kernel_rfl) rfl fun a0 h0 c0 v0 N0 e hc=>?_
 unfold fo at e
 split at e
 ·rename_i f r len bl zs
  cases e
  have hE:=aF (kCa:=kCa) (kDb:=kDb) (cts:=[(110,oo),(109,tV)]) (inl:=[]) ⟨mI,yp,trivial⟩ trivial
  refine ak hE 2 Tryz.func55 rfl rfl ?_
  simp only[Bool.and_eq_true,decide_eq_true_eq]at hc
  obtain⟨rfl,hc2⟩:=hc
  repeat (first|refine ah ?_|refine sat_nd ?_)
  refine ax (fun h=>?_) (fun h=>?_)
  ·have h:(!decide (((fZ (tk zs) (w8 (i64.wrap (6*sdI bl)))).length:Int)=1))=true:=h
   rw[aS,Bool.not_eq_true']at h
   exact ae (ai (.inr rfl) rfl rfl rfl (by rw[bj,h];rfl))
  ·have h:(!decide (((fZ (tk zs) (w8 (i64.wrap (6*sdI bl)))).length:Int)=1))=false:=h
   rw[aS,Bool.not_eq_false']at h
   have hl:((fZ (tk zs) (w8 (i64.wrap (6*sdI bl)))).length:Int)=1:=by rw[aS];exact of_decide_eq_true h
   refine ag (by
    show (decide ((0:Int)<=0)&&decide ((0:Int)<((fZ (tk zs) (w8 (i64.wrap (6*sdI bl)))).length:Int)))=true
    rw[hl];rfl) ?_
   exact ae (ai (.inr rfl) rfl rfl rfl (by
    show I ((fZ (tk zs) (w8 (i64.wrap (6*sdI bl)))).getD 0 0)=_
    rw[aS,bj,h];rfl))
 ·cases e
end
end Go.Ab
set_option maxHeartbeats 4000000
namespace Go.Ab
open IntKind
open Go.Proofs
section
variable{kCa kDb:Bool}
theorem sN{f r n:Int}(h:aB f r n=true):i64.wrap (n.tdiv f)=py f n/\0<=px f n/\px f n<f/\0<=py f n/\py f n<r/\px f n+py f n*f=n/\3<=f/\f<=8/\3<=r/\r<=8:=by
 have:=eW h
 have h2:=yB h
 exact⟨this.2.2.2.2.1,this.1,this.2.1,this.2.2.1,this.2.2.2.1,h2,this.2.2.2.2.2⟩
theorem rN{f r:Int}{zs:List Int}{pa:Int}{bl g1 g2:Bool}(h:aL f r zs=true):(!(g1&&g2&&aB f r pa&&decide (i64.wrap (pa.tdiv f)=rkP r bl))||(decide (0<=pa)&&decide (pa<zs.length)))=true:=by
 cases hv:aB f r pa with
 |false=>simp
 |true=>have:=(uH h).1 hv;simp[this.1,this.2]
theorem lZ{f r:Int}{zs:List Int}{pa:Int}{bl:Bool}(h:aL f r zs=true)(hr:6<=r)(hv:aB f r pa=true)(hk:i64.wrap (pa.tdiv f)=rkP r bl):0<=pa-f/\pa+f<zs.length/\i64.wrap (pa-f)=pa-f/\i64.wrap (pa+f)=pa+f/\i64.wrap (0-f)=-f/\i64.wrap (pa - -f)=pa+f/\i64.wrap (pa+-f)=pa-f:=by
 obtain⟨h1,h2,h3,h4,h5,h6,h7⟩:=sN hv
 have hl:=(bV h).2
 rw[h1]at hk
 have hw:i64.wrap (r-3)=r-3:=aK (by omega) (by omega)
 have hpy:1<=py f pa/\py f pa+1<r:=by
  cases bl
  ·simp only[rkP,cond_false,hw]at hk;omega
  ·simp only[rkP,cond_true]at hk;omega
 have a1:1*f<=py f pa*f:=Int.mul_le_mul_of_nonneg_right hpy.1 (by omega)
 have a2:(py f pa+1+1)*f<=r*f:=Int.mul_le_mul_of_nonneg_right (by omega) (by omega)
 rw[Int.add_mul,Int.add_mul,Int.mul_comm r f]at a2
 have hlt:=(bU hv)
 exact⟨by omega,by omega,aK (by omega) (by omega),aK (by omega) (by omega),by rw[Int.zero_sub];exact aK (by omega) (by omega),by rw[Int.sub_neg];exact aK (by omega) (by omega),by rw[<-Int.sub_eq_add_neg];exact aK (by omega) (by omega)⟩
theorem BZ{f:Int}{g:Bool}(h:f≠0):(!g||!decide (f=0))=true:=by simp[h]
theorem Mm{f r:Int}{zs:List Int}{pa ha:Int}{bl x:Bool}(h:aL f r zs=true):(!(decide (6<=r)&&decide (ha=0)&&aB f r pa&&decide (i64.wrap (pa.tdiv f)=rkP r bl)&&x)||(decide (0<=i64.wrap (pa-upP f bl))&&decide (i64.wrap (pa-upP f bl)<zs.length)))=true:=by
 cases hg:(decide (6<=r)&&decide (ha=0)&&aB f r pa&&decide (i64.wrap (pa.tdiv f)=rkP r bl)) with
 |false=>simp
 |true=>
  simp only[Bool.and_eq_true,decide_eq_true_eq]at hg
  obtain⟨h1,h2,h3,h4,h5,h6,h7⟩:=lZ (bl:=bl) h hg.1.1.1 hg.1.2 hg.2
  have hfr:=cV (bV h).1
  cases bl
  ·rw[Bool.or_eq_true];right
   simp only[upP,cond_false,h5,h6,Bool.and_eq_true,decide_eq_true_eq];omega
  ·rw[Bool.or_eq_true];right
   simp only[upP,cond_true,h3,Bool.and_eq_true,decide_eq_true_eq];omega
theorem KO{f r:Int}{zs:List Int}{pa ha:Int}{bl x y:Bool}(h:aL f r zs=true):(!(decide (6<=r)&&decide (ha=0)&&aB f r pa&&decide (i64.wrap (pa.tdiv f)=rkP r bl)&&x&&y)||(decide (0<=i64.wrap (pa+upP f bl))&&decide (i64.wrap (pa+upP f bl)<zs.length)))=true:=by
 cases hg:(decide (6<=r)&&decide (ha=0)&&aB f r pa&&decide (i64.wrap (pa.tdiv f)=rkP r bl)) with
 |false=>simp
 |true=>
  simp only[Bool.and_eq_true,decide_eq_true_eq]at hg
  obtain⟨h1,h2,h3,h4,h5,h6,h7⟩:=lZ (bl:=bl) h hg.1.1.1 hg.1.2 hg.2
  have hfr:=cV (bV h).1
  cases bl
  ·rw[Bool.or_eq_true];right
   simp only[upP,cond_false,h5,h7,Bool.and_eq_true,decide_eq_true_eq];omega
  ·rw[Bool.or_eq_true];right
   simp only[upP,cond_true,h4,Bool.and_eq_true,decide_eq_true_eq];omega
def tX:CF
 |[.sl 0 0 len none],[.ints false .i8 zs]=>some (decide (len=zs.length)&&decide (zs.length<=64),.sl 1 0 zs.length none,[.ints true .i8 zs])
 |_,_=>none
theorem xo:CtOk (GGx kCa kDb) PP (150,tX):=by
 refine aG Tryz.func150 (by kernel_rfl) rfl fun a0 h0 c0 v0 N0 e hc=>?_
 unfold tX at e
 split at e
 ·rename_i len zs
  cases e
  have hE:=aF (kCa:=kCa) (kDb:=kDb) (cts:=[]) (inl:=[]) trivial trivial
  refine lW hE 2 Tryz.func150 rfl rfl ?_
  simp only[Bool.and_eq_true,decide_eq_true_eq]at hc
  obtain⟨rfl,hc2⟩:=hc
  refine BK (fun h0=>?_) ?_
  ·refine ax (fun _=>?_) (fun h=>(by cases h))
   have hz:zs=[]:=List.eq_nil_of_length_eq_zero h0
   subst hz
   exact ae (EZ (Ent.phanT (t:=2) (o:=.ints true .i8 []) rfl ⟨by simp,by simp,trivial,rfl⟩ (aJ rfl)) (dc 1 (.inr rfl) rfl rfl rfl rfl rfl rfl))
  ·refine ax (fun h=>(by cases h)) (fun _=>?_)
   refine ag (b:=?B) ?_ ?_
   ·show (decide (0=0)&&decide ((0+zs.length)*1<=140737488355328)&&true)=true
    simp;omega
   exact ae (EZ (Ent.refl _ _ _) (dc 2 (.inr rfl) rfl rfl rfl rfl (by show [O.ints true .i8 (tk zs)]=_;rw[aS]) (by show V.sl 1 0 (tk zs).length none=_;rw[aS])))
 ·cases e
def tP:CF
 |[.agg [.int .i64 f,.int .i64 r,.sl 0 0 len none,.bool bl,.int .u8 ca,.int .i64 pa,.int .i64 ha,.int .i64 fu]],[.ints false .i8 zs]=>some (decide (len=zs.length)&&decide (zs.length<=64),.agg [I f,I r,.sl 1 0 zs.length none,Bb bl,.int .u8 ca,I pa,I ha,I fu],[.ints true .i8 zs])
 |_,_=>none
theorem yq:CtOk (GGx kCa kDb) PP (122,tP):=by
 refine aG Tryz.func122 (by kernel_rfl) rfl fun a0 h0 c0 v0 N0 e hc=>?_
 unfold tP at e
 split at e
 ·rename_i f r len bl ca pa ha fu zs
  cases e
  have hE:=aF (kCa:=kCa) (kDb:=kDb) (cts:=[(150,tX)]) (inl:=[]) ⟨xo,trivial⟩ trivial
  refine ak hE 2 Tryz.func122 rfl rfl ?_
  simp only[Bool.and_eq_true,decide_eq_true_eq]at hc
  obtain⟨rfl,hc2⟩:=hc
  repeat (first|(first|refine ah ?_|refine sat_nd ?_)|refine ag (bM hc2 rfl) ?_)
  exact ae (dc 3 (.inr rfl) rfl rfl rfl rfl (by show [O.ints true .i8 (tk zs)]=_;rw[aS]) (by show V.agg [I f,I r,.sl 1 0 (tk zs).length none,Bb bl,.int .u8 ca,I pa,I ha,I fu]=_;rw[aS]))
 ·cases e
def pD:CF
 |[.agg [.int .i64 f,.int .i64 r,.sl 0 0 len none,.bool bl,.int .u8 _ca,.int .i64 pa,.int .i64 ha,.int .i64 _fu]],[.ints false .i8 zs]=>some (decide (len=zs.length)&&decide (zs.length<=64)&&aL f r zs,.bool (jz f r zs bl pa ha),[])
 |_,_=>none
theorem mM:CtOk (GGx kCa kDb) PP (91,pD):=by
 refine aG Tryz.func91 (by kernel_rfl) rfl fun a0 h0 c0 v0 N0 e hc=>?_
 unfold pD at e
 split at e
 ·rename_i f r len bl ca pa ha fu zs
  cases e
  have hE:=aF (kCa:=kCa) (kDb:=kDb) (cts:=[(75,fa),(136,EF)]) (inl:=[]) ⟨dn,wE,trivial⟩ trivial
  refine ak hE 2 Tryz.func91 rfl rfl ?_
  simp only[Bool.and_eq_true,decide_eq_true_eq]at hc
  obtain⟨⟨rfl,hc2⟩,hbd⟩:=hc
  refine ax (fun h=>?_) (fun h=>?_)
  ·have h:decide (pa=-1)=true:=h
   exact ae (ai (.inr rfl) rfl rfl rfl (by rw[jz,h];rfl))
  have h:decide (pa=-1)=false:=h
  have hf:f≠0:=by have:=cV (bV hbd).1;omega
  refine ax (fun h1=>?_) (fun h1=>?_)
  ·have h1:bl=false:=by simpa using h1
   subst h1
   repeat (first|(first|refine ah ?_|refine sat_nd ?_)|refine ag (BZ hf) ?_|refine ag (rN (bl:=false) hbd) ?_|refine ag (Mm (bl:=false) hbd) ?_|refine ag (KO (bl:=false) hbd) ?_)
   exact ae (ai (.inr rfl) rfl rfl rfl (by rw[jz,h];rfl))
  ·have h1:bl=true:=by simpa using h1
   subst h1
   repeat (first|(first|refine ah ?_|refine sat_nd ?_)|refine ag (BZ hf) ?_|refine ag (rN (bl:=true) hbd) ?_|refine ag (Mm (bl:=true) hbd) ?_|refine ag (KO (bl:=true) hbd) ?_)
   exact ae (ai (.inr rfl) rfl rfl rfl (by rw[jz,h];rfl))
 ·cases e
theorem Gk{f r:Int}{zs:List Int}{g:Bool}(h:aL f r zs=true)(_hz:zs.length<=64):(!g||(decide (0<=f)&&decide (f<=zs.length)&&decide ((zs.length:Int)<=zs.length)))=true:=by
 obtain⟨h1,h2⟩:=bV h
 have:=cV h1
 have:1*f<=r*f:=Int.mul_le_mul_of_nonneg_right (by omega) (by omega)
 rw[Int.mul_comm r f]at this
 simp;omega
theorem Hh{f r:Int}{zs:List Int}(h:aL f r zs=true)(hz:zs.length<=64):i64.wrap ((zs.length:Int)-f)=(zs.length:Int)-f/\0<=(zs.length:Int)-f/\3<=f:=by
 obtain⟨h1,h2⟩:=bV h
 have:=cV h1
 have:1*f<=r*f:=Int.mul_le_mul_of_nonneg_right (by omega) (by omega)
 rw[Int.mul_comm r f]at this
 exact⟨aK (by omega) (by omega),by omega,by omega⟩
theorem Ap{f r:Int}{zs:List Int}(h:aL f r zs=true)(hz:zs.length<=64):(decide (0<=i64.wrap ((zs.length:Int)-f))&&decide (i64.wrap ((zs.length:Int)-f)<=zs.length)&&decide ((zs.length:Int)<=zs.length))=true:=by
 obtain⟨h1,h2,h3⟩:=Hh h hz
 rw[h1]
 simp only[Bool.and_eq_true,decide_eq_true_eq]
 omega
theorem Gm{zs:List Int}{a m:Nat}(h:m=zs.length)(hz:zs.length<=64):(decide (m-a=((zs.drop a).take (m-a)).length)&&decide (((zs.drop a).take (m-a)).length<=1000000))=true:=by
 simp only[Bool.and_eq_true,decide_eq_true_eq,List.length_take,List.length_drop]
 omega
theorem FF{zs:List Int}{b m:Nat}{g:Bool}(h:m<=zs.length)(hz:zs.length<=64):(!g||(decide (m-0=((zs.drop 0).take (m-0)).length)&&decide (((zs.drop 0).take (m-0)).length<=1000000)))=true/\b=b:=by
 rw[Bool.or_eq_true]
 refine⟨.inr ?_,rfl⟩
 simp only[Bool.and_eq_true,decide_eq_true_eq,List.length_take,List.length_drop]
 omega
def jH:CF
 |[.agg [.int .i64 f,.int .i64 r,.sl 0 0 len none,.bool _bl,.int .u8 _ca,.int .i64 _pa,.int .i64 _ha,.int .i64 _fu]],[.ints false .i8 zs]=>some (decide (len=zs.length)&&decide (zs.length<=64)&&aL f r zs,.bool (gO f zs),[])
 |_,_=>none
theorem kC:CtOk (GGx kCa kDb) PP (87,jH):=by
 refine aG Tryz.func87 (by kernel_rfl) rfl fun a0 h0 c0 v0 N0 e hc=>?_
 unfold jH at e
 split at e
 ·rename_i f r len bl ca pa ha fu zs
  cases e
  have hE:=aF (kCa:=kCa) (kDb:=kDb) (cts:=[(134,fH)]) (inl:=[]) ⟨hY,trivial⟩ trivial
  refine ak hE 2 Tryz.func87 rfl rfl ?_
  simp only[Bool.and_eq_true,decide_eq_true_eq]at hc
  obtain⟨⟨rfl,hc2⟩,hbd⟩:=hc
  obtain⟨hw1,hw2,hw3⟩:=Hh hbd hc2
  have hfl:f.toNat<=zs.length:=by omega
  repeat (first|(first|refine ah ?_|refine sat_nd ?_)|refine ag (Gk hbd hc2) ?_|refine ag (Ap hbd hc2) ?_|refine ag (Gm rfl hc2) ?_|refine ag (FF (b:=0) hfl hc2).1 ?_)
  refine ae (ai (.inr rfl) rfl rfl rfl (congrArg V.bool ?_))
  show (!((zs.drop (i64.wrap ((zs.length:Int)-f)).toNat).take (zs.length-(i64.wrap ((zs.length:Int)-f)).toNat)).any (isV 1)&&!((zs.drop 0).take (f.toNat-0)).any (isV (-1)))=_
  rw[hw1,gO,show ((zs.length:Int)-f).toNat=zs.length-f.toNat by omega,List.drop_zero,Nat.sub_zero,List.take_of_length_le (by simp)]
 ·cases e
def ke:CF
 |[.agg [.int .i64 f,.int .i64 r,.sl 0 0 len none,.bool bl,.int .u8 _ca,.int .i64 _pa,.int .i64 _ha,.int .i64 _fu]],[.ints false .i8 zs]=>some (decide (len=zs.length)&&decide (zs.length<=64),.bool (fV f r zs bl),[])
 |_,_=>none
theorem lV:CtOk (GGx kCa kDb) PP (85,ke):=by
 refine aG Tryz.func85 (by kernel_rfl) rfl fun a0 h0 c0 v0 N0 e hc=>?_
 unfold ke at e
 split at e
 ·rename_i f r len bl ca pa ha fu zs
  cases e
  have hE:=aF (kCa:=kCa) (kDb:=kDb) (cts:=[(132,vr),(133,iY)]) (inl:=[]) ⟨qG,oG,trivial⟩ trivial
  refine ak hE 2 Tryz.func85 rfl rfl ?_
  simp only[Bool.and_eq_true,decide_eq_true_eq]at hc
  obtain⟨rfl,hc2⟩:=hc
  repeat (first|(first|refine ah ?_|refine sat_nd ?_)|refine ag (bM hc2 rfl) ?_)
  refine ae (ai (.inr rfl) rfl rfl rfl (congrArg V.bool ?_))
  show (decide ((cw f r (tk zs) bl).2=0)&&decide ((bJ f r (tk zs) (!bl)).2=0)&&decide ((bJ f r (tk zs) (!bl)).1=0))=_
  rw[aS];rfl
 ·cases e
end
end Go.Ab
namespace Go.Ab
open Go.Proofs
section
variable{kCa kDb:Bool}
def eI:CF
 |[.agg [.int .i64 f,.int .i64 r,.sl 0 0 len none,.bool bl,.int .u8 ca,.int .i64 pa,.int .i64 ha,.int .i64 fu]],[.ints false .i8 zs]=>some (decide (len=zs.length)&&decide (zs.length<=64),.bool (Psn.ok ⟨f,r,zs,bl,ca,pa,ha,fu⟩),[])
 |_,_=>none
theorem eN:CtOk (GGx kCa kDb) PP (37,eI):=by
 refine aG Tryz.func37 (by kernel_rfl) rfl fun a0 h0 c0 v0 N0 e hc=>?_
 unfold eI at e
 split at e
 ·rename_i f r len bl ca pa ha fu zs
  cases e
  have hE:=aF (kCa:=kCa) (kDb:=kDb) (cts:=[(83,eO),(85,ke),(87,jH),(89,fJ),(91,pD)]) (inl:=[(82,Tryz.f82),(84,Tryz.f84),(86,Tryz.f86),(88,Tryz.f88),(90,Tryz.f90),(92,Tryz.f92)]) ⟨dz,lV,kC,gR,mM,trivial⟩ ⟨⟨Tryz.func82,by kernel_rfl⟩,⟨Tryz.func84,by kernel_rfl⟩,⟨Tryz.func86,by kernel_rfl⟩,⟨Tryz.func88,by kernel_rfl⟩,⟨Tryz.func90,by kernel_rfl⟩,⟨Tryz.func92,by kernel_rfl⟩,trivial⟩
  refine ak hE 3 Tryz.func37 rfl rfl ?_
  simp only[Bool.and_eq_true,decide_eq_true_eq]at hc
  obtain⟨rfl,hc2⟩:=hc
  repeat (first|refine ah ?_|refine sat_nd ?_)
  refine dx hE 3 7 ?_
  refine rnd ?_
  refine ck (by rfl) ?_
  repeat (first|(first|refine ah ?_|refine sat_nd ?_)|refine ag (bM hc2 rfl) ?_)
  refine ax (fun h0=>?_) (fun h0=>?_)
  ·have h0:(!aL f r (tk zs))=true:=h0
   rw[aS,Bool.not_eq_true']at h0
   exact ae (ae (ai (.inr rfl) rfl rfl rfl (by simp[Psn.ok,h0])))
  have h0:(!aL f r (tk zs))=false:=h0
  have h0t:aL f r (tk zs)=true:=by simpa using h0
  rw[aS,Bool.not_eq_false']at h0
  refine ae ⟨[(1,.ptr 1 0 0),(13,.sl 2 0 6 none),(14,I 6),(15,I 1)],[.ints false .i8 zs,.cells true [I f,I r,.sl 0 0 zs.length none,Bb bl,.int .u8 ca,I pa,I ha,I fu],.vals true 1 [[.fn 82 [.ptr 1 0 0]],[.fn 84 [.ptr 1 0 0]],[.fn 86 [.ptr 1 0 0]],[.fn 88 [.ptr 1 0 0]],[.fn 90 [.ptr 1 0 0]],[.fn 92 [.ptr 1 0 0]]]],Ent.ren [0,1,2] [1,13,14,15] rfl rfl rfl,?_⟩
  refine rnd ?_
  refine ck (by rfl) ?_
  repeat (first|(first|refine ah ?_|refine sat_nd ?_)|refine ag (bM hc2 rfl) ?_|refine ag (bS hc2 rfl h0t) ?_)
  refine ax (fun h1=>?_) (fun h1=>?_)
  ·have h1:(!fV f r (tk zs) bl)=true:=h1
   rw[aS,Bool.not_eq_true']at h1
   exact ae (ae (ai (.inr rfl) rfl rfl rfl (by simp[Psn.ok,h0,h1])))
  have h1:(!fV f r (tk zs) bl)=false:=h1
  rw[aS,Bool.not_eq_false']at h1
  refine ae ⟨[(1,.ptr 1 0 0),(13,.sl 2 0 6 none),(14,I 6),(15,I 2)],[.ints false .i8 zs,.cells true [I f,I r,.sl 0 0 zs.length none,Bb bl,.int .u8 ca,I pa,I ha,I fu],.vals true 1 [[.fn 82 [.ptr 1 0 0]],[.fn 84 [.ptr 1 0 0]],[.fn 86 [.ptr 1 0 0]],[.fn 88 [.ptr 1 0 0]],[.fn 90 [.ptr 1 0 0]],[.fn 92 [.ptr 1 0 0]]]],Ent.ren [0,1,2] [1,13,14,15] rfl rfl rfl,?_⟩
  refine rnd ?_
  refine ck (by rfl) ?_
  repeat (first|(first|refine ah ?_|refine sat_nd ?_)|refine ag (bM hc2 rfl) ?_|refine ag (bS hc2 rfl h0t) ?_)
  refine ax (fun h2=>?_) (fun h2=>?_)
  ·have h2:(!gO f (tk zs))=true:=h2
   rw[aS,Bool.not_eq_true']at h2
   exact ae (ae (ai (.inr rfl) rfl rfl rfl (by simp[Psn.ok,h0,h1,h2])))
  have h2:(!gO f (tk zs))=false:=h2
  rw[aS,Bool.not_eq_false']at h2
  refine ae ⟨[(1,.ptr 1 0 0),(13,.sl 2 0 6 none),(14,I 6),(15,I 3)],[.ints false .i8 zs,.cells true [I f,I r,.sl 0 0 zs.length none,Bb bl,.int .u8 ca,I pa,I ha,I fu],.vals true 1 [[.fn 82 [.ptr 1 0 0]],[.fn 84 [.ptr 1 0 0]],[.fn 86 [.ptr 1 0 0]],[.fn 88 [.ptr 1 0 0]],[.fn 90 [.ptr 1 0 0]],[.fn 92 [.ptr 1 0 0]]]],Ent.ren [0,1,2] [1,13,14,15] rfl rfl rfl,?_⟩
  refine rnd ?_
  refine ck (by rfl) ?_
  repeat (first|(first|refine ah ?_|refine sat_nd ?_)|refine ag (bM hc2 rfl) ?_|refine ag (bS hc2 rfl h0t) ?_)
  refine ax (fun h3=>?_) (fun h3=>?_)
  ·have h3:(!gl f r (tk zs) ca)=true:=h3
   rw[aS,Bool.not_eq_true']at h3
   exact ae (ae (ai (.inr rfl) rfl rfl rfl (by simp[Psn.ok,h0,h1,h2,h3])))
  have h3:(!gl f r (tk zs) ca)=false:=h3
  rw[aS,Bool.not_eq_false']at h3
  refine ae ⟨[(1,.ptr 1 0 0),(13,.sl 2 0 6 none),(14,I 6),(15,I 4)],[.ints false .i8 zs,.cells true [I f,I r,.sl 0 0 zs.length none,Bb bl,.int .u8 ca,I pa,I ha,I fu],.vals true 1 [[.fn 82 [.ptr 1 0 0]],[.fn 84 [.ptr 1 0 0]],[.fn 86 [.ptr 1 0 0]],[.fn 88 [.ptr 1 0 0]],[.fn 90 [.ptr 1 0 0]],[.fn 92 [.ptr 1 0 0]]]],Ent.ren [0,1,2] [1,13,14,15] rfl rfl rfl,?_⟩
  refine rnd ?_
  refine ck (by rfl) ?_
  repeat (first|(first|refine ah ?_|refine sat_nd ?_)|refine ag (bM hc2 rfl) ?_|refine ag (bS hc2 rfl h0t) ?_)
  refine ax (fun h4=>?_) (fun h4=>?_)
  ·have h4:(!jz f r (tk zs) bl pa ha)=true:=h4
   rw[aS,Bool.not_eq_true']at h4
   exact ae (ae (ai (.inr rfl) rfl rfl rfl (by simp[Psn.ok,h0,h1,h2,h3,h4])))
  have h4:(!jz f r (tk zs) bl pa ha)=false:=h4
  rw[aS,Bool.not_eq_false']at h4
  refine ae ⟨[(1,.ptr 1 0 0),(13,.sl 2 0 6 none),(14,I 6),(15,I 5)],[.ints false .i8 zs,.cells true [I f,I r,.sl 0 0 zs.length none,Bb bl,.int .u8 ca,I pa,I ha,I fu],.vals true 1 [[.fn 82 [.ptr 1 0 0]],[.fn 84 [.ptr 1 0 0]],[.fn 86 [.ptr 1 0 0]],[.fn 88 [.ptr 1 0 0]],[.fn 90 [.ptr 1 0 0]],[.fn 92 [.ptr 1 0 0]]]],Ent.ren [0,1,2] [1,13,14,15] rfl rfl rfl,?_⟩
  refine rnd ?_
  refine ck (by rfl) ?_
  repeat (first|(first|refine ah ?_|refine sat_nd ?_)|refine ag (bM hc2 rfl) ?_|refine ag (bS hc2 rfl h0t) ?_)
  refine ax (fun h5=>?_) (fun h5=>?_)
  ·have h5:(!cntB ha fu)=true:=h5
   rw[Bool.not_eq_true']at h5
   exact ae (ae (ai (.inr rfl) rfl rfl rfl (by simp[Psn.ok,h0,h1,h2,h3,h4,h5])))
  have h5:(!cntB ha fu)=false:=h5
  rw[Bool.not_eq_false']at h5
  refine ae ⟨[(1,.ptr 1 0 0),(13,.sl 2 0 6 none),(14,I 6),(15,I 6)],[.ints false .i8 zs,.cells true [I f,I r,.sl 0 0 zs.length none,Bb bl,.int .u8 ca,I pa,I ha,I fu],.vals true 1 [[.fn 82 [.ptr 1 0 0]],[.fn 84 [.ptr 1 0 0]],[.fn 86 [.ptr 1 0 0]],[.fn 88 [.ptr 1 0 0]],[.fn 90 [.ptr 1 0 0]],[.fn 92 [.ptr 1 0 0]]]],Ent.ren [0,1,2] [1,13,14,15] rfl rfl rfl,?_⟩
  refine rnd ?_
  refine wo (by rfl) ?_
  refine ae (ae (ai (.inr rfl) rfl rfl rfl (by simp[Psn.ok,h0,h1,h2,h3,h4,h5])))
 ·cases e
end
section
variable{kCa kDb:Bool}
def ng(k:Int)(bl:Bool):Int:=bif bl then w8 (0-k)else k
def di(r:Int)(bl:Bool)(n:Int):Int:=bif bl then IntKind.i64.wrap (r-n)else IntKind.i64.wrap (n-1)
def tj(r:Int)(bl:Bool):Int:=bif bl then 0 else IntKind.i64.wrap (r-1)
def chkL(f r:Int)(zs:List Int)(bl:Bool):Bool:=decide (0<((attL f r zs (bj zs bl) (!bl)).length:Int))
def jw(f r:Int)(zs:List Int)(bit:Int):Bool:=bif !decide (f=8)||!decide (r=8)then false else bif decide (bit=1)then decide (zs.getD 4 0=6)&&decide (zs.getD 7 0=4)else bif decide (bit=2)then decide (zs.getD 4 0=6)&&decide (zs.getD 0 0=4)else bif decide (bit=4)then decide (zs.getD 60 0=-6)&&decide (zs.getD 63 0=-4)else decide (zs.getD 60 0=-6)&&decide (zs.getD 56 0=-4)
theorem mg:bP 8 8 [101,49]=4:=by kernel_rfl
theorem oh:bP 8 8 [104,49]=7:=by kernel_rfl
theorem ny:bP 8 8 [97,49]=0:=by kernel_rfl
theorem mm:bP 8 8 [101,56]=60:=by kernel_rfl
theorem nF:bP 8 8 [104,56]=63:=by kernel_rfl
theorem oq:bP 8 8 [97,56]=56:=by kernel_rfl
def oN:CF
 |[.int .i8 k,.bool bl],[]=>some (true,.int .i8 (ng k bl),[])
 |_,_=>none
theorem rX:CtOk (GGx kCa kDb) PP (115,oN):=by
 refine aG Tryz.func115 (by kernel_rfl) rfl fun a0 h0 c0 v0 N0 e hc=>?_
 unfold oN at e
 split at e
 ·rename_i k bl
  cases e
  have hE:=aF (kCa:=kCa) (kDb:=kDb) (cts:=[]) (inl:=[]) trivial trivial
  refine ak hE 2 Tryz.func115 rfl rfl ?_
  repeat' first|(first|refine ah ?_|refine sat_nd ?_)|refine ax (fun h=>?_) (fun h=>?_)
  all_goals exact ae (ai (.inr rfl) rfl rfl rfl (by first|rfl|(simp only[ng, *,cond_true,cond_false];done)|(simp only[ng, *,cond_true,cond_false,Bool.not_true,Bool.not_false,Bool.and_true,Bool.true_and,Bool.and_false,Bool.false_and,Bool.or_true,Bool.true_or,Bool.or_false,Bool.false_or];done)|simp_all [ng]))
 ·cases e
def vh:CF
 |[.agg [.int .i64 _f,.int .i64 r],.bool bl,.int .i64 n],[]=>some (true,.int .i64 (di r bl n),[])
 |_,_=>none
theorem yP:CtOk (GGx kCa kDb) PP (113,vh):=by
 refine aG Tryz.func113 (by kernel_rfl) rfl fun a0 h0 c0 v0 N0 e hc=>?_
 unfold vh at e
 split at e
 ·rename_i f r bl n
  cases e
  have hE:=aF (kCa:=kCa) (kDb:=kDb) (cts:=[]) (inl:=[]) trivial trivial
  refine ak hE 2 Tryz.func113 rfl rfl ?_
  repeat' first|(first|refine ah ?_|refine sat_nd ?_)|refine ax (fun h=>?_) (fun h=>?_)
  all_goals exact ae (ai (.inr rfl) rfl rfl rfl (by first|rfl|(simp only[di, *,cond_true,cond_false];done)|(simp only[di, *,cond_true,cond_false,Bool.not_true,Bool.not_false,Bool.and_true,Bool.true_and,Bool.and_false,Bool.false_and,Bool.or_true,Bool.true_or,Bool.or_false,Bool.false_or];done)|simp_all [di]))
 ·cases e
def oK:CF
 |[.agg [.int .i64 _f,.int .i64 r],.bool bl],[]=>some (true,.int .i64 (tj r bl),[])
 |_,_=>none
theorem mH:CtOk (GGx kCa kDb) PP (59,oK):=by
 refine aG Tryz.func59 (by kernel_rfl) rfl fun a0 h0 c0 v0 N0 e hc=>?_
 unfold oK at e
 split at e
 ·rename_i f r bl
  cases e
  have hE:=aF (kCa:=kCa) (kDb:=kDb) (cts:=[]) (inl:=[]) trivial trivial
  refine ak hE 2 Tryz.func59 rfl rfl ?_
  repeat' first|(first|refine ah ?_|refine sat_nd ?_)|refine ax (fun h=>?_) (fun h=>?_)
  all_goals exact ae (ai (.inr rfl) rfl rfl rfl (by first|rfl|(simp only[tj, *,cond_true,cond_false];done)|(simp only[tj, *,cond_true,cond_false,Bool.not_true,Bool.not_false,Bool.and_true,Bool.true_and,Bool.and_false,Bool.false_and,Bool.or_true,Bool.true_or,Bool.or_false,Bool.false_or];done)|simp_all [tj]))
 ·cases e
def CG:CF
 |[.agg [.int .i64 f,.int .i64 r,.sl 0 0 len none,.bool _bl,.int .u8 _ca,.int .i64 _pa,.int .i64 _ha,.int .i64 _fu]],[.ints false .i8 _zs]=>some (true,.agg [I f,I r,.sl 0 0 len none],[])
 |_,_=>none
theorem oO:CtOk (GGx kCa kDb) PP (53,CG):=by
 refine aG Tryz.func53 (by kernel_rfl) rfl fun a0 h0 c0 v0 N0 e hc=>?_
 unfold CG at e
 split at e
 ·rename_i f r len bl ca pa ha fu zs
  cases e
  have hE:=aF (kCa:=kCa) (kDb:=kDb) (cts:=[]) (inl:=[]) trivial trivial
  refine CV hE 2 Tryz.func53 rfl rfl ?_
  repeat (first|refine ah ?_|refine sat_nd ?_)
  exact ae ⟨.inr rfl,_,rfl,rfl,rfl⟩
 ·cases e
def jZ:CF
 |[.agg [.int .i64 f,.int .i64 r,.sl 0 0 len none],.bool bl],[.ints false .i8 zs]=>some (decide (len=zs.length)&&decide (zs.length<=64)&&vsB f r,.bool (chkL f r zs bl),[])
 |_,_=>none
theorem kB:CtOk (GGx kCa kDb) PP (56,jZ):=by
 refine aG Tryz.func56 (by kernel_rfl) rfl fun a0 h0 c0 v0 N0 e hc=>?_
 unfold jZ at e
 split at e
 ·rename_i f r len bl zs
  cases e
  have hE:=aF (kCa:=kCa) (kDb:=kDb) (cts:=[(55,fo),(111,ee)]) (inl:=[]) ⟨fm,iZ,trivial⟩ trivial
  refine ak hE 2 Tryz.func56 rfl rfl ?_
  simp only[Bool.and_eq_true,decide_eq_true_eq]at hc
  obtain⟨⟨rfl,hc2⟩,hv⟩:=hc
  repeat (first|(first|refine ah ?_|refine sat_nd ?_)|refine ag (bM hc2 rfl) ?_|refine ag (bS hc2 rfl hv) ?_)
  refine ae (ai (.inr rfl) rfl rfl rfl (by
   show V.bool (chkL f r (tk zs) bl)=_
   rw[aS]))
 ·cases e
def HP:CF
 |[.agg [.int .i64 _f,.int .i64 _r,.sl 0 0 len none,.bool _bl,.int .u8 _ca,.int .i64 _pa,.int .i64 _ha,.int .i64 _fu],.str s],[.ints false .i8 zs]=>some (decide (len=zs.length)&&decide (zs.length<=64)&&decide (0<=bP 8 8 s)&&decide (bP 8 8 s<zs.length),.int .i8 (zs.getD (bP 8 8 s).toNat 0),[])
 |_,_=>none
theorem GC:CtOk (GGx kCa kDb) PP (147,HP):=by
 refine aG Tryz.func147 (by kernel_rfl) rfl fun a0 h0 c0 v0 N0 e hc=>?_
 unfold HP at e
 split at e
 ·rename_i f r len bl ca pa ha fu s zs
  cases e
  have hE:=aF (kCa:=kCa) (kDb:=kDb) (cts:=[(101,oW)]) (inl:=[]) ⟨mV,trivial⟩ trivial
  refine ak hE 2 Tryz.func147 rfl rfl ?_
  simp only[Bool.and_eq_true,decide_eq_true_eq]at hc
  obtain⟨⟨⟨rfl,hc2⟩,h0⟩,h1⟩:=hc
  repeat (first|(first|refine ah ?_|refine sat_nd ?_)|refine ag (by simp only[Bool.and_eq_true,decide_eq_true_eq];omega) ?_)
  exact ae (ai (.inr rfl) rfl rfl rfl rfl)
 ·cases e
theorem aX{zs:List Int}{s:List UInt8}{n:Nat}(h:bP 8 8 s=n)(h2:n<64)(h64:zs.length=64):(decide (zs.length=(tk zs).length)&&decide ((tk zs).length<=64)&&decide (0<=bP 8 8 s)&&decide (bP 8 8 s<(tk zs).length))=true:=by
 rw[dy,h,h64];simp;omega
theorem aW{zs:List Int}{s:List UInt8}{n:Nat}{g:Bool}(h:bP 8 8 s=n)(h2:n<64)(h64:zs.length=64):(!g||(decide (zs.length=(tk zs).length)&&decide ((tk zs).length<=64)&&decide (0<=bP 8 8 s)&&decide (bP 8 8 s<(tk zs).length)))=true:=by
 rw[aX h h2 h64];simp
def vc:CF
 |[.agg [.int .i64 f,.int .i64 r,.sl 0 0 len none,.bool _bl,.int .u8 _ca,.int .i64 _pa,.int .i64 _ha,.int .i64 _fu],.int .u8 bit],[.ints false .i8 zs]=>some (decide (len=zs.length)&&decide (zs.length<=64)&&(!decide (f=8)||!decide (r=8)||decide (zs.length=64)),.bool (jw f r zs bit),[])
 |_,_=>none
theorem yt:CtOk (GGx kCa kDb) PP (112,vc):=by
 refine aG Tryz.func112 (by kernel_rfl) rfl fun a0 h0 c0 v0 N0 e hc=>?_
 unfold vc at e
 split at e
 ·rename_i f r len bl ca pa ha fu bit zs
  cases e
  have hE:=aF (kCa:=kCa) (kDb:=kDb) (cts:=[(147,HP)]) (inl:=[]) ⟨GC,trivial⟩ trivial
  refine ak hE 2 Tryz.func112 rfl rfl ?_
  simp only[Bool.and_eq_true,decide_eq_true_eq]at hc
  obtain⟨⟨rfl,hc2⟩,hv⟩:=hc
  repeat (first|refine ah ?_|refine sat_nd ?_)
  refine ax (fun h=>?_) (fun h=>?_)
  ·have h:(!decide (f=8)||!decide (r=8))=true:=h
   exact ae (ai (.inr rfl) rfl rfl rfl (by rw[jw,h];rfl))
  have h:(!decide (f=8)||!decide (r=8))=false:=h
  have h64:zs.length=64:=by
   rw[h]at hv;simpa using hv
  refine ax (fun h1=>?_) (fun h1=>?_)
  ·have h1:decide (bit=1)=true:=h1
   repeat (first|(first|refine ah ?_|refine sat_nd ?_)|refine ag (aX (n:=4) mg (by decide) h64) ?_|refine ag (aW (n:=4) mg (by decide) h64) ?_|refine ag (aX (n:=7) oh (by decide) h64) ?_|refine ag (aW (n:=7) oh (by decide) h64) ?_|refine ag (aX (n:=0) ny (by decide) h64) ?_|refine ag (aW (n:=0) ny (by decide) h64) ?_|refine ag (aX (n:=60) mm (by decide) h64) ?_|refine ag (aW (n:=60) mm (by decide) h64) ?_|refine ag (aX (n:=63) nF (by decide) h64) ?_|refine ag (aW (n:=63) nF (by decide) h64) ?_|refine ag (aX (n:=56) oq (by decide) h64) ?_|refine ag (aW (n:=56) oq (by decide) h64) ?_)
   exact ae (ai (.inr rfl) rfl rfl rfl (congrArg V.bool (by
    show (decide ((tk zs).getD (bP 8 8 [101,49]).toNat 0=6)&&decide ((tk zs).getD (bP 8 8 [104,49]).toNat 0=4))=_
    rw[aS,mg,oh,jw,h,h1];rfl)))
  have h1:decide (bit=1)=false:=h1
  refine ax (fun h2=>?_) (fun h2=>?_)
  ·have h2:decide (bit=2)=true:=h2
   repeat (first|(first|refine ah ?_|refine sat_nd ?_)|refine ag (aX (n:=4) mg (by decide) h64) ?_|refine ag (aW (n:=4) mg (by decide) h64) ?_|refine ag (aX (n:=7) oh (by decide) h64) ?_|refine ag (aW (n:=7) oh (by decide) h64) ?_|refine ag (aX (n:=0) ny (by decide) h64) ?_|refine ag (aW (n:=0) ny (by decide) h64) ?_|refine ag (aX (n:=60) mm (by decide) h64) ?_|refine ag (aW (n:=60) mm (by decide) h64) ?_|refine ag (aX (n:=63) nF (by decide) h64) ?_|refine ag (aW (n:=63) nF (by decide) h64) ?_|refine ag (aX (n:=56) oq (by decide) h64) ?_|refine ag (aW (n:=56) oq (by decide) h64) ?_)
   exact ae (ai (.inr rfl) rfl rfl rfl (congrArg V.bool (by
    show (decide ((tk zs).getD (bP 8 8 [101,49]).toNat 0=6)&&decide ((tk zs).getD (bP 8 8 [97,49]).toNat 0=4))=_
    rw[aS,mg,ny,jw,h,h1,h2];rfl)))
  have h2:decide (bit=2)=false:=h2
  refine ax (fun h3=>?_) (fun h3=>?_)
  ·have h3:decide (bit=4)=true:=h3
   repeat (first|(first|refine ah ?_|refine sat_nd ?_)|refine ag (aX (n:=4) mg (by decide) h64) ?_|refine ag (aW (n:=4) mg (by decide) h64) ?_|refine ag (aX (n:=7) oh (by decide) h64) ?_|refine ag (aW (n:=7) oh (by decide) h64) ?_|refine ag (aX (n:=0) ny (by decide) h64) ?_|refine ag (aW (n:=0) ny (by decide) h64) ?_|refine ag (aX (n:=60) mm (by decide) h64) ?_|refine ag (aW (n:=60) mm (by decide) h64) ?_|refine ag (aX (n:=63) nF (by decide) h64) ?_|refine ag (aW (n:=63) nF (by decide) h64) ?_|refine ag (aX (n:=56) oq (by decide) h64) ?_|refine ag (aW (n:=56) oq (by decide) h64) ?_)
   exact ae (ai (.inr rfl) rfl rfl rfl (congrArg V.bool (by
    show (decide ((tk zs).getD (bP 8 8 [101,56]).toNat 0=-6)&&decide ((tk zs).getD (bP 8 8 [104,56]).toNat 0=-4))=_
    rw[aS,mm,nF,jw,h,h1,h2,h3];rfl)))
  have h3:decide (bit=4)=false:=h3
  repeat (first|(first|refine ah ?_|refine sat_nd ?_)|refine ag (aX (n:=4) mg (by decide) h64) ?_|refine ag (aW (n:=4) mg (by decide) h64) ?_|refine ag (aX (n:=7) oh (by decide) h64) ?_|refine ag (aW (n:=7) oh (by decide) h64) ?_|refine ag (aX (n:=0) ny (by decide) h64) ?_|refine ag (aW (n:=0) ny (by decide) h64) ?_|refine ag (aX (n:=60) mm (by decide) h64) ?_|refine ag (aW (n:=60) mm (by decide) h64) ?_|refine ag (aX (n:=63) nF (by decide) h64) ?_|refine ag (aW (n:=63) nF (by decide) h64) ?_|refine ag (aX (n:=56) oq (by decide) h64) ?_|refine ag (aW (n:=56) oq (by decide) h64) ?_)
  exact ae (ai (.inr rfl) rfl rfl rfl (congrArg V.bool (by
   show (decide ((tk zs).getD (bP 8 8 [101,56]).toNat 0=-6)&&decide ((tk zs).getD (bP 8 8 [97,56]).toNat 0=-4))=_
   rw[aS,mm,oq,jw,h,h1,h2,h3];rfl)))
 ·cases e
end
end Go.Ab
namespace Go.Ab
open IntKind
open Go.Proofs
section
variable{kCa kDb:Bool}
def rXL(f r:Int)(zs:List Int)(ca bit:Int):Bool:=decide ((u8.wrap (ca.tdiv bit)).tmod 2=1)&&!jw f r zs bit
def jy(f r:Int)(zs:List Int)(ca:Int):Bool:=bif decide (15<ca)then false else !(rXL f r zs ca 1||rXL f r zs ca 2||rXL f r zs ca 4||rXL f r zs ca 8)
def pasL(f r:Int)(zs:List Int)(bl:Bool)(pa ha:Int):Bool:=bif decide (pa=-1)then true else bif decide (r<6)||!decide (ha=0)||!aB f r pa then false else bif !decide (i64.wrap (2*i64.wrap (pa.tdiv f))=i64.wrap (di r (!bl) 2+di r (!bl) 4))then false else decide (zs.getD pa.toNat 0=0)&&decide (zs.getD (numR f r (pa.tmod f) (di r (!bl) 2)).toNat 0=0)&&decide (zs.getD (numR f r (pa.tmod f) (di r (!bl) 4)).toNat 0=ng 1 (!bl))
def pwL(f r:Int)(zs:List Int)(i:Int):Bool:=decide (kF (zs.getD i.toNat 0)=1)&&decide (i64.wrap (i.tdiv f)=tj r (decide (zs.getD i.toNat 0<0)))
def mq(f r:Int)(zs:List Int):Bool:=(List.range zs.length).any fun i=>pwL f r zs i
def dH(p:Psn):Bool:=bif !aZ p.f p.r p.zs||decide (bj p.zs false<0)||decide (bj p.zs true<0)||chkL p.f p.r p.zs (!p.bl)then false else bif mq p.f p.r p.zs then false else jy p.f p.r p.zs p.ca&&pasL p.f p.r p.zs p.bl p.pa p.ha&&decide (0<=p.ha)&&decide (p.ha<=10000)&&decide (1<=p.fu)&&decide (p.fu<=10000)
theorem jX{f r:Int}{zs:List Int}{g:Bool}(hc2:zs.length<=64)(hv:(!decide (f=8)||!decide (r=8)||decide (zs.length=64))=true):(!g||(decide (zs.length=(tk zs).length)&&decide ((tk zs).length<=64)&&(!decide (f=8)||!decide (r=8)||decide ((tk zs).length=64))))=true:=by
 rw[dy,hv];simp[hc2]
theorem wM{f r x:Int}{zs:List Int}{bl:Bool}{n:Int}(hbd:aL f r zs=true)(hx:0<=x/\x<f)(hr:6<=r)(hn:n=2\/n=4):0<=numR f r x (di r bl n)/\numR f r x (di r bl n)<zs.length:=by
 have hv:=(bV hbd).1
 have hb:=cV hv
 have hk:di r bl n=(bif bl then r-n else n-1):=by
  unfold di;cases bl
  ·exact aK (by omega) (by omega)
  ·exact aK (by omega) (by omega)
 have ho:onB f r x (di r bl n)=true:=by
  rw[hk];cases bl
  ·exact qs hx.1 hx.2 (by simp only[cond_false];omega) (by simp only[cond_false];omega)
  ·exact qs hx.1 hx.2 (by simp only[cond_true];omega) (by simp only[cond_true];omega)
 rcases BF f r x (di r bl n) hv with⟨_,h⟩|⟨h,_⟩
 ·exact(uH hbd).1 h
 ·rw[ho]at h;cases h
theorem DT{zs:List Int}(h:zs.length<=64){n:Nat}(hn:n=zs.length){g:Bool}:(!g||(decide (n=(tk zs).length)&&decide ((tk zs).length<=64)))=true:=by rw[bM h hn];simp
theorem jV{zs:List Int}(h:zs.length<=64){g b:Bool}(hb:b=true):(!g||(decide (zs.length=(tk zs).length)&&decide ((tk zs).length<=64)&&b))=true:=by rw[bS h rfl hb];simp
theorem oL{g:Bool}{x:Int}{n:Nat}(h:0<=x/\x<n):(!g||(decide (0<=x)&&decide (x<n)))=true:=by simp[h]
def ic:CF
 |[.agg [.int .i64 f,.int .i64 r,.sl 0 0 len none,.bool _bl,.int .u8 ca,.int .i64 _pa,.int .i64 _ha,.int .i64 _fu]],[.ints false .i8 zs]=>some (decide (len=zs.length)&&decide (zs.length<=64)&&(!decide (f=8)||!decide (r=8)||decide (zs.length=64)),.bool (jy f r zs ca),[])
 |_,_=>none
theorem jc:CtOk (GGx kCa kDb) PP (60,ic):=by
 refine aG Tryz.func60 (by kernel_rfl) rfl fun a0 h0 c0 v0 N0 e hc=>?_
 unfold ic at e
 split at e
 ·rename_i f r len bl ca pa ha fu zs
  cases e
  have hE:=aF (kCa:=kCa) (kDb:=kDb) (cts:=[(112,vc)]) (inl:=[]) ⟨yt,trivial⟩ trivial
  refine ak hE 2 Tryz.func60 rfl rfl ?_
  simp only[Bool.and_eq_true,decide_eq_true_eq]at hc
  obtain⟨⟨rfl,hc2⟩,hv⟩:=hc
  refine ax (fun h=>?_) (fun h=>?_)
  ·have h:decide (15<ca)=true:=h
   exact ae (ai (.inr rfl) rfl rfl rfl (by rw[jy,h];rfl))
  have h:decide (15<ca)=false:=h
  repeat (first|refine ah ?_|refine sat_nd ?_)
  refine dx hE 2 5 ?_
  refine rnd ?_
  refine ck (by rfl) ?_
  repeat (first|(first|refine ah ?_|refine sat_nd ?_)|refine ag (jX hc2 hv) ?_)
  refine ax (fun h0=>?_) (fun h0=>?_)
  ·have h0:rXL f r (tk zs) ca 1=true:=h0
   rw[aS]at h0
   exact ae (ae (ai (.inr rfl) rfl rfl rfl (by simp[jy,h,h0])))
  have h0:rXL f r (tk zs) ca 1=false:=h0
  rw[aS]at h0
  refine ae ⟨[(1,.ptr 1 0 0),(8,.sl 2 0 4 none),(9,I 4),(10,I 1)],[.ints false .i8 zs,.cells true [I f,I r,.sl 0 0 zs.length none,Bb bl,.int .u8 ca,I pa,I ha,I fu],.ints true .u8 [1,2,4,8]],Ent.ren [0,1,2] [1,8,9,10] rfl rfl rfl,?_⟩
  refine rnd ?_
  refine ck (by rfl) ?_
  repeat (first|(first|refine ah ?_|refine sat_nd ?_)|refine ag (jX hc2 hv) ?_)
  refine ax (fun h1=>?_) (fun h1=>?_)
  ·have h1:rXL f r (tk zs) ca 2=true:=h1
   rw[aS]at h1
   exact ae (ae (ai (.inr rfl) rfl rfl rfl (by simp[jy,h,h0,h1])))
  have h1:rXL f r (tk zs) ca 2=false:=h1
  rw[aS]at h1
  refine ae ⟨[(1,.ptr 1 0 0),(8,.sl 2 0 4 none),(9,I 4),(10,I 2)],[.ints false .i8 zs,.cells true [I f,I r,.sl 0 0 zs.length none,Bb bl,.int .u8 ca,I pa,I ha,I fu],.ints true .u8 [1,2,4,8]],Ent.ren [0,1,2] [1,8,9,10] rfl rfl rfl,?_⟩
  refine rnd ?_
  refine ck (by rfl) ?_
  repeat (first|(first|refine ah ?_|refine sat_nd ?_)|refine ag (jX hc2 hv) ?_)
  refine ax (fun h2=>?_) (fun h2=>?_)
  ·have h2:rXL f r (tk zs) ca 4=true:=h2
   rw[aS]at h2
   exact ae (ae (ai (.inr rfl) rfl rfl rfl (by simp[jy,h,h0,h1,h2])))
  have h2:rXL f r (tk zs) ca 4=false:=h2
  rw[aS]at h2
  refine ae ⟨[(1,.ptr 1 0 0),(8,.sl 2 0 4 none),(9,I 4),(10,I 3)],[.ints false .i8 zs,.cells true [I f,I r,.sl 0 0 zs.length none,Bb bl,.int .u8 ca,I pa,I ha,I fu],.ints true .u8 [1,2,4,8]],Ent.ren [0,1,2] [1,8,9,10] rfl rfl rfl,?_⟩
  refine rnd ?_
  refine ck (by rfl) ?_
  repeat (first|(first|refine ah ?_|refine sat_nd ?_)|refine ag (jX hc2 hv) ?_)
  refine ax (fun h3=>?_) (fun h3=>?_)
  ·have h3:rXL f r (tk zs) ca 8=true:=h3
   rw[aS]at h3
   exact ae (ae (ai (.inr rfl) rfl rfl rfl (by simp[jy,h,h0,h1,h2,h3])))
  have h3:rXL f r (tk zs) ca 8=false:=h3
  rw[aS]at h3
  refine ae ⟨[(1,.ptr 1 0 0),(8,.sl 2 0 4 none),(9,I 4),(10,I 4)],[.ints false .i8 zs,.cells true [I f,I r,.sl 0 0 zs.length none,Bb bl,.int .u8 ca,I pa,I ha,I fu],.ints true .u8 [1,2,4,8]],Ent.ren [0,1,2] [1,8,9,10] rfl rfl rfl,?_⟩
  refine rnd ?_
  refine wo (by rfl) ?_
  exact ae (ae (ai (.inr rfl) rfl rfl rfl (by simp[jy,h,h0,h1,h2,h3])))
 ·cases e
def fM:CF
 |[.agg [.int .i64 f,.int .i64 r,.sl 0 0 len none,.bool bl,.int .u8 _ca,.int .i64 pa,.int .i64 ha,.int .i64 _fu]],[.ints false .i8 zs]=>some (decide (len=zs.length)&&decide (zs.length<=64)&&aL f r zs,.bool (pasL f r zs bl pa ha),[])
 |_,_=>none
theorem gD:CtOk (GGx kCa kDb) PP (61,fM):=by
 refine aG Tryz.func61 (by kernel_rfl) rfl fun a0 h0 c0 v0 N0 e hc=>?_
 unfold fM at e
 split at e
 ·rename_i f r len bl ca pa ha fu zs
  cases e
  have hE:=aF (kCa:=kCa) (kDb:=kDb) (cts:=[(93,kT),(58,dD),(113,vh),(114,kf),(115,oN)]) (inl:=[]) ⟨iA,cj,yP,lE,rX,trivial⟩ trivial
  refine ak hE 2 Tryz.func61 rfl rfl ?_
  simp only[Bool.and_eq_true,decide_eq_true_eq]at hc
  obtain⟨⟨rfl,hc2⟩,hv⟩:=hc
  refine ax (fun h=>?_) (fun h=>?_)
  ·have h:decide (pa=-1)=true:=h
   exact ae (ai (.inr rfl) rfl rfl rfl (by rw[pasL,h];rfl))
  have h:decide (pa=-1)=false:=h
  repeat (first|refine ah ?_|refine sat_nd ?_)
  refine ax (fun h1=>?_) (fun h1=>?_)
  ·have h1:(decide (r<6)||!decide (ha=0)||!aB f r pa)=true:=h1
   exact ae (ai (.inr rfl) rfl rfl rfl (by rw[pasL,h,h1];rfl))
  have h1:(decide (r<6)||!decide (ha=0)||!aB f r pa)=false:=h1
  have h1':=h1
  simp only[Bool.or_eq_false_iff,decide_eq_false_iff_not,Bool.not_eq_false']at h1'
  obtain⟨⟨hr,_⟩,hpv⟩:=h1'
  have hf0:(!decide (f=0))=true:=by have:=cV (bV hv).1;simp;omega
  obtain⟨hp1,hp2⟩:=(uH hv).1 hpv
  obtain⟨_,hx1,hx2,_⟩:=sN hpv
  have n2:=wM (bl:=!bl) (n:=2) hv ⟨hx1,hx2⟩ (by omega) (.inl rfl)
  have n4:=wM (bl:=!bl) (n:=4) hv ⟨hx1,hx2⟩ (by omega) (.inr rfl)
  repeat (first|(first|refine ah ?_|refine sat_nd ?_)|refine ag hf0 ?_)
  refine ax (fun h2=>?_) (fun h2=>?_)
  ·have h2:(!decide (i64.wrap (2*i64.wrap (pa.tdiv f))=i64.wrap (di r (!bl) 2+di r (!bl) 4)))=true:=h2
   exact ae (ai (.inr rfl) rfl rfl rfl (by rw[pasL,h,h1,h2];rfl))
  have h2:(!decide (i64.wrap (2*i64.wrap (pa.tdiv f))=i64.wrap (di r (!bl) 2+di r (!bl) 4)))=false:=h2
  repeat (first|(first|refine ah ?_|refine sat_nd ?_)|refine ag (by simp only[Bool.and_eq_true,decide_eq_true_eq];exact⟨hp1,hp2⟩) ?_|refine ag (oL n2) ?_|refine ag (oL n4) ?_)
  exact ae (ai (.inr rfl) rfl rfl rfl (by rw[pasL,h,h1,h2];rfl))
 ·cases e
theorem Fq{f r:Int}{zs:List Int}{_bl:Bool}{x y:Bool}(hc2:zs.length<=64):(!(!(!aZ f r (tk zs)||x||y))||(decide (zs.length=(tk zs).length)&&decide ((tk zs).length<=64)&&vsB f r))=true:=by
 cases h:aZ f r (tk zs) with
 |false=>simp
 |true=>rw[dy,(bu h).1];simp[hc2]
theorem v88{f r:Int}{zs:List Int}(h:aL f r zs=true):(!decide (f=8)||!decide (r=8)||decide (zs.length=64))=true:=by
 cases h8:is88 f r with
 |false=>simp only[is88,Bool.and_eq_false_iff]at h8;rcases h8 with h8|h8<;>rw[h8]<;>simp
 |true=>rw[Jy h h8];simp
def jJ:CF
 |[.agg [.int .i64 f,.int .i64 r,.sl 0 0 len none,.bool bl,.int .u8 ca,.int .i64 pa,.int .i64 ha,.int .i64 fu]],[.ints false .i8 zs]=>some (decide (len=zs.length)&&decide (zs.length<=64),.bool (dH ⟨f,r,zs,bl,ca,pa,ha,fu⟩),[])
 |_,_=>none
theorem mb:CtOk (GGx kCa kDb) PP (15,jJ):=by
 refine aG Tryz.func15 (by kernel_rfl) rfl fun a0 h0 c0 v0 N0 e hc=>?_
 unfold jJ at e
 split at e
 ·rename_i f r len bl ca pa ha fu zs
  cases e
  have hE:=aF (kCa:=kCa) (kDb:=kDb) (cts:=[(54,vb),(55,fo),(56,jZ),(57,gG),(58,dD),(59,oK),(60,ic),(61,fM)]) (inl:=[(53,Tryz.f53)]) ⟨yC,fm,kB,gk,cj,mH,jc,gD,trivial⟩ ⟨⟨Tryz.func53,by kernel_rfl⟩,trivial⟩
  refine ak hE 2 Tryz.func15 rfl rfl ?_
  simp only[Bool.and_eq_true,decide_eq_true_eq]at hc
  obtain⟨rfl,hc2⟩:=hc
  repeat (first|(first|refine ah ?_|refine sat_nd ?_)|refine ag (bM hc2 rfl) ?_|refine ag (DT hc2 rfl) ?_|refine ag (Fq (_bl:=bl) hc2) ?_)
  refine ax (fun h=>?_) (fun h=>?_)
  ·have h:(!aZ f r (tk zs)||decide (bj (tk zs) false<0)||decide (bj (tk zs) true<0)||chkL f r (tk zs) (!bl))=true:=h
   rw[aS]at h
   exact ae (ai (.inr rfl) rfl rfl rfl (by simp only[dH,h,cond_true]))
  have h:(!aZ f r (tk zs)||decide (bj (tk zs) false<0)||decide (bj (tk zs) true<0)||chkL f r (tk zs) (!bl))=false:=h
  rw[aS]at h
  have h':=h
  simp only[Bool.or_eq_false_iff,Bool.not_eq_false']at h'
  obtain⟨hvs,_,hbd,_⟩:=bu h'.1.1.1
  have hf0:(!decide (f=0))=true:=by have:=cV hvs;simp;omega
  have hf1:∀ g:Bool,(!g||!decide (f=0))=true:=fun g=>by rw[hf0];simp
  have h88:=v88 hbd
  have h88t:(!decide (f=8)||!decide (r=8)||decide ((tk zs).length=64))=true:=by rw[aS];exact h88
  have hbdt:aL f r (tk zs)=true:=by rw[aS];exact hbd
  refine bK hE 2 (fun i (_:Unit)=>([(1,.ptr 1 0 0),(4,I i)],[.ints false .i8 zs,.cells true [I f,I r,.sl 0 0 zs.length none,Bb bl,.int .u8 ca,I pa,I ha,I fu]])) zs.length (fun j _=>∀ k,k<j->pwL f r zs (k:Nat)=false) () (by omega) (Ent.ren [0,1] [1,4] rfl rfl rfl) (fun k hk=>absurd hk (by omega)) ?_
  intro j i _ hij hj hz
  refine ax (fun hlt=>?_) (fun hlt=>?_)
  ·have hlt':j<zs.length:=by simp at hlt;omega
   repeat (first|(first|refine ah ?_|refine sat_nd ?_)|refine ag (by simp only[Bool.and_eq_true,decide_eq_true_eq];omega) ?_|refine ag (hf1 _) ?_|refine ag (oL ⟨by omega,by omega⟩) ?_)
   refine ax (fun hon=>?_) (fun hon=>?_)
   ·have hon:pwL f r zs i=true:=hon
    have hpw:mq f r zs=true:=List.any_eq_true.2 ⟨j,List.mem_range.2 hlt',by rw[<-hij];exact hon⟩
    exact ae (ae (ai (.inr rfl) rfl rfl rfl (by simp only[dH,h,hpw,cond_true,cond_false])))
   ·have hon:pwL f r zs i=false:=hon
    refine ae ⟨hlt',(),fun k hk=>?_,Ent.ren [0,1] [1,4] rfl rfl rfl⟩
    rcases Nat.lt_or_ge k j with hk2|hk2
    ·exact hz k hk2
    ·obtain rfl:k=j:=by omega
     rw[<-hij];exact hon
  ·obtain rfl:j=zs.length:=by simp at hlt;omega
   have hpw:mq f r zs=false:=List.any_eq_false.2 fun k hk=>by rw[hz k (List.mem_range.1 hk)];simp
   refine ae ?_
   repeat (first|(first|refine ah ?_|refine sat_nd ?_)|refine ag (bM hc2 rfl) ?_|refine ag (bS hc2 rfl h88t) ?_|refine ag (jV hc2 hbdt) ?_|refine ag (jV hc2 h88t) ?_)
   exact ae (ai (.inr rfl) rfl rfl rfl (by
    show V.bool (jy f r (tk zs) ca&&pasL f r (tk zs) bl pa ha&&decide (0<=ha)&&decide (ha<=10000)&&decide (1<=fu)&&decide (fu<=10000))=_
    rw[aS];simp only[dH,h,hpw,cond_false]))
 ·cases e
end
end Go.Ab
namespace Go.Ab
open Go.Proofs
section
variable{kDb:Bool}
def chkB(f r:Int)(zs:List Int)(b:Bool):Bool:=!decide ((bJ f r zs b).1=0)
end
section
variable{kCa kDb:Bool}
theorem ME{z w:List Int}{i:Nat}(h:i<z.length)(h2:i<w.length):decide (z.drop i=w.drop i)=(decide (z.getD i 0=w.getD i 0)&&decide (z.drop (i+1)=w.drop (i+1))):=by
 rw[List.drop_eq_getElem_cons h,List.drop_eq_getElem_cons h2];simp only[List.cons.injEq,Bool.decide_and,List.getD_eq_getElem?_getD,List.getElem?_eq_getElem h,List.getElem?_eq_getElem h2,Option.getD_some]
def EA(p q:Psn):Bool:=decide (p.f=q.f)&&decide (p.r=q.r)&&decide (p.zs=q.zs)&&(p.bl==q.bl)&&decide (p.ca=q.ca)&&decide (p.pa=q.pa)
def jb(p q:Psn):Bool:=EA p q&&decide (p.ha=q.ha)&&decide (p.fu=q.fu)
end
section
variable{kCa kDb:Bool}
def xn(f r:Int)(zs:List Int)(f2 r2:Int)(ws:List Int):Bool:=decide (f=f2)&&decide (r=r2)&&decide (zs=ws)
def kW:CF
 |[.agg [.int .i64 f,.int .i64 r],.agg [.int .i64 a,.int .i64 b,.int .i8 pr]],[]=>some (true,.bool (mvB f r a b pr),[])
 |_,_=>none
theorem qH:CtOk (GGx kCa kDb) PP (40,kW):=by
 refine aG Tryz.func40 (by kernel_rfl) rfl fun a0 h0 c0 v0 N0 e hc=>?_
 unfold kW at e
 split at e
 ·rename_i f r a b pr
  cases e
  have hE:=aF (kCa:=kCa) (kDb:=kDb) (cts:=[(93,kT)]) (inl:=[]) ⟨iA,trivial⟩ trivial
  refine ak hE 2 Tryz.func40 rfl rfl ?_
  repeat (first|refine ah ?_|refine sat_nd ?_)
  exact ae (ai (.inr rfl) rfl rfl rfl rfl)
 ·cases e
end
section
variable{kCa kDb:Bool}
end
end Go.Ab
namespace Go.Ab
open Go.Proofs Go.RowKit
section
variable{kCa kDb:Bool}
end
end Go.Ab
namespace Go.Ab
open Go.Proofs
open Go.Proofs
end Go.Ab
namespace Go.Ab
open Go.Proofs
theorem wY(c:Int->Bool)(n:Nat)(hn:n<=64):Uk (gv (fun s i=>bif c i then uor s (ushl 1 i)else s) 0 n)/\∀ m:Nat,bt (gv (fun s i=>bif c i then uor s (ushl 1 i)else s) 0 n) m=(decide (m<n)&&c m):=by
 induction n with
 |zero=>exact⟨uk_0,fun m=>by simp[gv,bt_0]⟩
 |succ n ih=>
  obtain⟨h1,h2⟩:=ih (by omega)
  simp only[gv]
  cases hc:c n with
  |false=>
   refine⟨h1,fun m=>?_⟩
   rw[cond_false,h2]
   by_cases e:m=n
   ·subst e;simp[hc]
   ·congr 1
    simp;omega
  |true=>
   refine⟨pH _ _,fun m=>?_⟩
   rw[cond_true,lB h1 (kD _ _),lX (by omega) (by omega),h2]
   by_cases e:m=n
   ·subst e;simp[hc]
   ·have e2:¬ ((n:Int)=m):=by omega
    have e3:decide (m<n)=decide (m<n+1):=by congr 1;exact propext ⟨fun h=>by omega,fun h=>by omega⟩
    simp[e2,e3]
theorem Fe{zs:List Int}{i:Nat}(h:i<zs.length):zs.getD i 0∈zs:=by simp[List.getD,h]
theorem vR(p:Int->Bool){zs:List Int}(h:zs.length<=64):Uk (fY p zs)/\∀ m:Nat,bt (fY p zs) m=(decide (m<zs.length)&&p (zs.getD m 0)):=by
 have:=wY (fun i=>p (zs.getD i.toNat 0)) zs.length h
 exact this
theorem Au{f r:Int}{zs:List Int}(h:aL f r zs=true)(hl:zs.length<=64):Uk (occR f r zs)/\∀ m:Nat,bt (occR f r zs) m=(decide (m<zs.length)&&!decide (zs.getD m 0=0)):=by
 obtain⟨h1,h2⟩:=vR posP hl
 obtain⟨h3,h4⟩:=vR negP hl
 unfold occR jm
 rw[h]
 refine⟨pH _ _,fun m=>?_⟩
 show bt (uor (fY posP zs) (fY negP zs)) m=_
 rw[lB h1 h3,h2,h4,<-Bool.and_or_distrib_left]
 congr 1
 unfold posP negP
 rw[Bool.eq_iff_iff]
 simp only[Bool.or_eq_true,decide_eq_true_eq,Bool.not_eq_true',decide_eq_false_iff_not]
 omega
theorem DB{p:Int}:sgn p=1↔0<p:=by have:=gq p;omega
theorem zl{p:Int}:sgn p=-1↔p<0:=by have:=gq p;omega
theorem Hj{f r:Int}{zs:List Int}(h:aL f r zs=true)(hl:zs.length<=64):occL zs=occR f r zs:=by
 obtain⟨h1,h2⟩:=Au h hl
 have hb:∀ x∈bX zs 1++bX zs (-1),0<=x/\x<64:=by
  intro x hx
  rcases List.mem_append.1 hx with hx|hx<;>(have:=fq.1 hx;omega)
 obtain⟨h3,h4⟩:=CP _ 0 hb uk_0
 refine GQ h3 h1 fun m hm=>?_
 show bt (ofL (bX zs 1++bX zs (-1)) 0) m=_
 rw[h4,h2,bt_0,Bool.false_or,Bool.eq_iff_iff]
 simp only[decide_eq_true_eq,List.mem_append,fq,DB,zl,Int.toNat_natCast,Bool.and_eq_true,Bool.not_eq_true',decide_eq_false_iff_not]
 omega
theorem Hr{f r:Int}{zs:List Int}(h:aZ f r zs=true)(hl:zs.length<=64):OnS f r (occR f r zs):=fun m _ hb=>by
 rw[(Au (bu h).2.2.1 hl).2,Bool.and_eq_true,decide_eq_true_eq]at hb
 exact(AV h).2 ⟨by omega,by omega⟩
theorem vu{f r:Int}{zs:List Int}(h:aZ f r zs=true){i:Int}(h0:0<=i)(h1:i<zs.length):-6<=zs.getD i.toNat 0/\zs.getD i.toNat 0<=6:=(bu h).2.2.2 _ (Fe (by omega))
theorem wW{p:Int}(h:-6<=p/\p<=6):kF p=p.natAbs:=by
 have hw:∀ q:_root_.Fin 13,kF ((q.val:Int)-6)=(((q.val:Int)-6).natAbs:Int):=by decide +kernel
 have h2:=hw ⟨(p+6).toNat,by omega⟩
 simp only at h2
 rwa [show (((p+6).toNat:Int)-6)=p by omega]at h2
theorem rq{f r kd a occ:Int}(ha:aB f r a=true)(hk:qw kd):dm f r kd a a occ=false:=by
 obtain⟨e1,e2⟩:=jr ha ha
 have hl:(bC f a a).2.2=false:=by
  rcases vZ ha ha with⟨e,_⟩|⟨_,h⟩
  ·rw[e]
  ·unfold kU at h;omega
 have hd:tg f a a=0:=by rw[GM ha ha,show px f a-px f a=0 by omega,show py f a-py f a=0 by omega];rfl
 unfold dm
 rw[e1,e2,hl,hd,show px f a-px f a=0 by omega,show py f a-py f a=0 by omega]
 rcases hk with rfl|rfl|rfl|rfl|rfl<;>rfl
theorem LZ{f r:Int}{zs:List Int}{occ:Int}(h:aZ f r zs=true)(hu:Uk occ)(hon:OnS f r occ){i:Int}(h0:0<=i)(h1:i<zs.length)(hp:zs.getD i.toNat 0≠0) :
  Uk (ofR f r zs i occ)/\OnS f r (ofR f r zs i occ)/\∀ b,aB f r b=true->bt (ofR f r zs i occ) b.toNat=tc f r zs i b occ:=by
 have hi:=(AV h).2 ⟨h0,h1⟩
 have hb:=vu h h0 h1
 obtain⟨hv,hn,_⟩:=bu h
 unfold ofR tc
 rw[Eg hb,wW hb]
 by_cases hk:zs.getD i.toNat 0=1\/zs.getD i.toNat 0=-1
 ·rw[show (decide (zs.getD i.toNat 0=1)||decide (zs.getD i.toNat 0=-1))=true by simpa using hk,show decide (((zs.getD i.toNat 0).natAbs:Int)=1)=true by rw[decide_eq_true_eq];omega,cond_true]
  obtain⟨_,p1,p2,p3⟩:=HO (bl:=decide (zs.getD i.toNat 0<0)) hi
  refine⟨p1,p2,fun b hbv=>?_⟩
  rw[p3 b hbv,cond_true,Bool.eq_iff_iff,DA,gy]
  have:=bU hbv
  exact⟨fun h=>⟨this.1,by omega,h⟩,fun h=>h.2.2⟩
 ·have hk':(decide (zs.getD i.toNat 0=1)||decide (zs.getD i.toNat 0=-1))=false:=by simpa using hk
  rw[hk',show decide (((zs.getD i.toNat 0).natAbs:Int)=1)=false by rw[decide_eq_false_iff_not];omega,cond_false]
  have hr:=(De hu).2 ⟨hi,hon⟩
  have h5:qw ((zs.getD i.toNat 0).natAbs:Int):=by unfold qw;omega
  obtain⟨p1,p2,p3⟩:=Ez hr hu h5
  refine⟨p1,p2,fun b hbv=>?_⟩
  show bt (mF f r _ i occ) b.toNat=_
  rw[p3 b hbv,cond_false]
  by_cases e:i=b
  ·subst e;rw[rq hi h5];simp
  ·simp[e]
theorem Ie(p:Int)(bl:Bool):isP p bl=decide (sgn p=sdI bl):=by
 unfold isP sdI
 rw[Bool.eq_iff_iff]
 cases bl<;>simp[DB,zl]
theorem GH{p:Int}{bl:Bool}(h:isP p bl=true):p≠0:=by
 rintro rfl;cases bl<;>cases h
theorem nO{f r:Int}{zs:List Int}{to:Int}{bl:Bool}{i:Int}:i∈attL f r zs to bl↔0<=i/\i<zs.length/\isP (zs.getD i.toNat 0) bl=true/\tc f r zs i to (occL zs)=true:=by
 unfold attL
 rw[List.mem_filter,fq,Ie,decide_eq_true_eq]
 simp only[xR,and_assoc]
theorem zc{f r:Int}{zs:List Int}{to:Int}{bl:Bool}(h:aZ f r zs=true)(hl:zs.length<=64)(ht:aB f r to=true){i:Int}(h0:0<=i)(h1:i<zs.length):attB f r zs to bl (occR f r zs) i=true↔i∈attL f r zs to bl:=by
 rw[nO]
 unfold attB
 rw[Bool.and_eq_true]
 have ho:=Au (bu h).2.2.1 hl
 have hv:=bU ht
 constructor
 ·rintro⟨h2,h3⟩
  obtain⟨p1,p2,p3⟩:=LZ h ho.1 (Hr h hl) h0 h1 (GH h2)
  rw[vp p1 hv.1 hv.2.2,p3 to ht,<-Hj (bu h).2.2.1 hl]at h3
  exact⟨h0,h1,h2,h3⟩
 ·rintro⟨_,_,h2,h3⟩
  obtain⟨p1,p2,p3⟩:=LZ h ho.1 (Hr h hl) h0 h1 (GH h2)
  rw[vp p1 hv.1 hv.2.2,p3 to ht,<-Hj (bu h).2.2.1 hl]
  exact⟨h2,h3⟩
theorem Jp{f r:Int}{zs:List Int}{to:Int}{bl:Bool}(h:aZ f r zs=true)(hl:zs.length<=64)(ht:aB f r to=true):Uk (attR f r zs to bl)/\∀ m:Nat,bt (attR f r zs to bl) m=decide ((m:Int)∈attL f r zs to bl):=by
 obtain⟨h1,h2⟩:=wY (attB f r zs to bl (occR f r zs)) zs.length hl
 refine⟨h1,fun m=>?_⟩
 show bt (gv (fun s i=>bif attB f r zs to bl (occR f r zs) i then uor s (ushl 1 i)else s) 0 zs.length) m=_
 rw[h2,Bool.eq_iff_iff,Bool.and_eq_true,decide_eq_true_eq,decide_eq_true_eq]
 constructor
 ·rintro⟨h3,h4⟩;exact(zc h hl ht (by omega) (by omega)).1 h4
 ·intro h3
  have:=nO.1 h3
  exact⟨by omega,(zc h hl ht (by omega) (by omega)).2 h3⟩
end Go.Ab
namespace Go.Ab
open Go.Proofs Go.RowKit
section
variable{kDb:Bool}
end
end Go.Ab
namespace Go.Ab
open Go.Proofs
section
variable{kCa kDb:Bool}
end
section
variable{kCa kDb:Bool}
end
section
variable{kCa kDb:Bool}
end
end Go.Ab
namespace Go.Ab
abbrev iL(l:List Int):List Int:=l
structure Bd where
 f:Int
 r:Int
 zs:List Int
structure Siz where
 f:Int
 r:Int
end Go.Ab
