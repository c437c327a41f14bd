/- Contracts of the functions that the laws reach, and plain laws of what they compute (text G8); no condition. -/
import Derived.Test.YtlannahgjgpfcaaGreatDoorG7
import Derived.Test.YtlannahgjgpfcaaGreatDoorG4
import Derived.Test.YtlannahgjgpfcaaGreatDoorG5
set_option maxRecDepth 100000
namespace Go.Ab
open IntKind
open Go.Proofs
section
variable{kCa kDb:Bool}
theorem ze{C:Int->Bool}{l:List Int}{j:Nat}(h:j<l.length):(bif C (l.getD j 0) then(l.take j).filter C++[l.getD j 0] else(l.take j).filter C)=(l.take (j+1)).filter C:=by
 have e:l.getD j 0=l[j]:=by simp[List.getD,h]
 rw[e,List.take_succ_eq_append_getElem h,List.filter_append]
 cases hc:C l[j]<;>simp[hc]
def lD(p:Int):Int:=bif decide (p<0)then w8 (0-p)else p
def sdI(bl:Bool):Int:=bif bl then -1 else 1
def sB(zs:List Int)(s i:Int):Bool:=decide (sgn (zs.getD i.toNat 0)=s)
def bX(zs:List Int)(s:Int):List Int:=dc (sB zs s) id zs.length
def occL(zs:List Int):Int:=ofL (bX zs 1++bX zs (-1)) 0
def kW(zs:List Int)(p i:Int):Bool:=decide (zs.getD i.toNat 0=p)
def ga(zs:List Int)(p:Int):List Int:=dc (kW zs p) id zs.length
def sy(f r:Int)(zs:List Int)(i to occ:Int):Bool:=bif decide (lD (zs.getD i.toNat 0)=1)then hasL to (dc (kr f (decide (zs.getD i.toNat 0<0)) i) id (f*r).toNat)else !decide (i=to)&&dm f r (lD (zs.getD i.toNat 0)) i to occ
def xp(f r:Int)(zs:List Int)(to occ i:Int):Bool:=sy f r zs i to occ
def attL(f r:Int)(zs:List Int)(to:Int)(bl:Bool):List Int:=(bX zs (sdI bl)).filter (xp f r zs to (occL zs))
def bh(zs:List Int)(bl:Bool):Int:=bif decide (((ga zs (w8 (i64.wrap (6*sdI bl)))).length:Int)=1) then(ga zs (w8 (i64.wrap (6*sdI bl)))).getD 0 0 else -1
theorem fy(zs:List Int)(s:Int):(bX zs s).length<=zs.length:=fq _ _ _
theorem fc{zs:List Int}{s x:Int}:x∈bX zs s↔0<=x/\x<zs.length/\sgn (zs.getD x.toNat 0)=s:=by
 unfold bX
 rw[hO]
 simp[sB]
theorem fI{f r:Int}{zs:List Int}:(vsB f r&&decide ((zs.length:Int)=i64.wrap (f*r))&&zs.all okP)=aL f r zs:=by
 unfold aL cntR
 cases vsB f r
 ·simp
 ·simp[badP,List.any_eq_not_all_not]
theorem iR{f r:Int}{zs:List Int}:(aL f r zs&&zs.all (fun p=>!norP p))=aZ f r zs:=by
 unfold aZ
 simp[List.any_eq_not_all_not]
def oU:CF
 |[.int .i8 p],[]=>some (true,.bool (okP p),[])
 |_,_=>none
theorem mH:CtOk (GGx kCa kDb) PP (143,oU):=by
 refine aG Tryz.func143 (by kernel_rfl) rfl fun a0 h0 c0 v0 N0 e hc=>?_
 unfold oU at e
 split at e
 ·rename_i p
  cases e
  have hE:=aF (kCa:=kCa) (kDb:=kDb) (cts:=[]) (inl:=[]) trivial trivial
  refine ak hE 2 Tryz.func143 rfl rfl ?_
  repeat' first|(first|refine ah ?_|refine sat_nd ?_)|refine ax (fun h=>?_) (fun h=>?_)
  all_goals exact ae (ai (.inr rfl) rfl rfl rfl (by first|rfl|(simp only[*,cond_true,cond_false];done)|(simp only[*,cond_true,cond_false,Bool.not_true,Bool.not_false,Bool.and_true,Bool.true_and,Bool.and_false,Bool.false_and,Bool.or_true,Bool.true_or,Bool.or_false,Bool.false_or];done)|simp_all []))
 ·cases e
def jZ:CF
 |[.int .i8 p],[]=>some (true,.bool (orP p),[])
 |_,_=>none
theorem lK:CtOk (GGx kCa kDb) PP (108,jZ):=by
 refine aG Tryz.func108 (by kernel_rfl) rfl fun a0 h0 c0 v0 N0 e hc=>?_
 unfold jZ at e
 split at e
 ·rename_i p
  cases e
  have hE:=aF (kCa:=kCa) (kDb:=kDb) (cts:=[]) (inl:=[]) trivial trivial
  refine ak hE 2 Tryz.func108 rfl rfl ?_
  repeat' first|(first|refine ah ?_|refine sat_nd ?_)|refine ax (fun h=>?_) (fun h=>?_)
  all_goals exact ae (ai (.inr rfl) rfl rfl rfl (by first|rfl|(simp only[*,cond_true,cond_false];done)|(simp only[*,cond_true,cond_false,Bool.not_true,Bool.not_false,Bool.and_true,Bool.true_and,Bool.and_false,Bool.false_and,Bool.or_true,Bool.true_or,Bool.or_false,Bool.false_or];done)|simp_all []))
 ·cases e
def oZ:CF
 |[.int .i8 p],[]=>some (true,.int .i64 (sgn p),[])
 |_,_=>none
theorem um:CtOk (GGx kCa kDb) PP (167,oZ):=by
 refine aG Tryz.func167 (by kernel_rfl) rfl fun a0 h0 c0 v0 N0 e hc=>?_
 unfold oZ at e
 split at e
 ·rename_i p
  cases e
  have hE:=aF (kCa:=kCa) (kDb:=kDb) (cts:=[]) (inl:=[]) trivial trivial
  refine ak hE 2 Tryz.func167 rfl rfl ?_
  repeat' first|(first|refine ah ?_|refine sat_nd ?_)|refine ax (fun h=>?_) (fun h=>?_)
  all_goals exact ae (ai (.inr rfl) rfl rfl rfl (by first|rfl|(simp only[sgn, *,cond_true,cond_false];done)|(simp only[sgn, *,cond_true,cond_false,Bool.not_true,Bool.not_false,Bool.and_true,Bool.true_and,Bool.and_false,Bool.false_and,Bool.or_true,Bool.true_or,Bool.or_false,Bool.false_or];done)|simp_all [sgn]))
 ·cases e
def hY:CF
 |[.int .i8 p],[]=>some (true,.int .i8 (lD p),[])
 |_,_=>none
theorem gi:CtOk (GGx kCa kDb) PP (57,hY):=by
 refine aG Tryz.func57 (by kernel_rfl) rfl fun a0 h0 c0 v0 N0 e hc=>?_
 unfold hY at e
 split at e
 ·rename_i p
  cases e
  have hE:=aF (kCa:=kCa) (kDb:=kDb) (cts:=[]) (inl:=[]) trivial trivial
  refine ak hE 2 Tryz.func57 rfl rfl ?_
  repeat' first|(first|refine ah ?_|refine sat_nd ?_)|refine ax (fun h=>?_) (fun h=>?_)
  all_goals exact ae (ai (.inr rfl) rfl rfl rfl (by first|rfl|(simp only[lD, *,cond_true,cond_false];done)|(simp only[lD, *,cond_true,cond_false,Bool.not_true,Bool.not_false,Bool.and_true,Bool.true_and,Bool.and_false,Bool.false_and,Bool.or_true,Bool.true_or,Bool.or_false,Bool.false_or];done)|simp_all [lD]))
 ·cases e
def pz:CF
 |[.bool bl],[]=>some (true,.int .i64 (sdI bl),[])
 |_,_=>none
theorem nr:CtOk (GGx kCa kDb) PP (110,pz):=by
 refine aG Tryz.func110 (by kernel_rfl) rfl fun a0 h0 c0 v0 N0 e hc=>?_
 unfold pz at e
 split at e
 ·rename_i bl
  cases e
  have hE:=aF (kCa:=kCa) (kDb:=kDb) (cts:=[]) (inl:=[]) trivial trivial
  refine ak hE 2 Tryz.func110 rfl rfl ?_
  repeat' first|(first|refine ah ?_|refine sat_nd ?_)|refine ax (fun h=>?_) (fun h=>?_)
  all_goals exact ae (ai (.inr rfl) rfl rfl rfl (by first|rfl|(simp only[sdI, *,cond_true,cond_false];done)|(simp only[sdI, *,cond_true,cond_false,Bool.not_true,Bool.not_false,Bool.and_true,Bool.true_and,Bool.and_false,Bool.false_and,Bool.or_true,Bool.true_or,Bool.or_false,Bool.false_or];done)|simp_all [sdI]))
 ·cases e
def Ad:CF
 |[.sl 0 0 len none,.int .i64 n],[.ints false .i64 zs]=>some (decide (len=zs.length)&&decide (zs.length<=1000000),.bool (hasL n zs),[])
 |_,_=>none
theorem zH:CtOk (GGx kCa kDb) PP (169,Ad):=by
 refine aG Tryz.func169 (by kernel_rfl) rfl fun a0 h0 c0 v0 N0 e hc=>?_
 unfold Ad at e
 split at e
 ·rename_i len n zs
  cases e
  have hE:=aF (kCa:=kCa) (kDb:=kDb) (cts:=[]) (inl:=[]) trivial trivial
  refine ak hE 2 Tryz.func169 rfl rfl ?_
  simp only[Bool.and_eq_true,decide_eq_true_eq]at hc
  obtain⟨rfl,hc2⟩:=hc
  refine bK hE 2 (fun i (_:Unit)=>([(0,.sl 0 0 zs.length none),(1,I n),(5,I i)],[.ints false .i64 zs])) zs.length (fun j _=>hasL n (zs.drop j)=hasL n zs) () (by omega) (Ent.ren [0] [0,1,5] rfl rfl rfl) rfl ?_
  intro j i _ hij hj hz
  refine ax (fun hlt=>?_) (fun hlt=>?_)
  ·have hlt':j<zs.length:=by simp at hlt;omega
   rw[BX hlt',show j=i.toNat by omega]at hz
   refine ag (by simp;omega) ?_
   repeat (first|refine ah ?_|refine sat_nd ?_)
   refine ax (fun hon=>?_) (fun hon=>?_)
   ·have hon:decide (zs.getD i.toNat 0=n)=true:=hon
    rw[hon]at hz
    exact ae (ae (ai (.inr rfl) rfl rfl rfl (by rw[<-hz];rfl)))
   ·have hon:decide (zs.getD i.toNat 0=n)=false:=hon
    rw[hon]at hz
    exact ae ⟨hlt',(),by rw[<-hz,show i.toNat=j by omega];rfl,Ent.ren [0] [0,1,5] rfl rfl rfl⟩
  ·obtain rfl:j=zs.length:=by simp at hlt;omega
   rw[List.drop_length]at hz
   exact ae (ae (ai (.inr rfl) rfl rfl rfl (by rw[<-hz];rfl)))
 ·cases e
def nnP(p:Int):Bool:=!norP p
def lA:CF
 |[.agg [.int .i64 f,.int .i64 r,.sl 0 0 len none]],[.ints false .i8 zs]=>some (decide (len=zs.length)&&decide (zs.length<=64),.bool (aL f r zs),[])
 |_,_=>none
theorem qg:CtOk (GGx kCa kDb) PP (107,lA):=by
 refine aG Tryz.func107 (by kernel_rfl) rfl fun a0 h0 c0 v0 N0 e hc=>?_
 unfold lA at e
 split at e
 ·rename_i f r len zs
  cases e
  have hE:=aF (kCa:=kCa) (kDb:=kDb) (cts:=[(33,gq),(143,oU)]) (inl:=[]) ⟨dD,mH,trivial⟩ trivial
  refine ak hE 2 Tryz.func107 rfl rfl ?_
  simp only[Bool.and_eq_true,decide_eq_true_eq]at hc
  obtain⟨rfl,hc2⟩:=hc
  repeat (first|refine ah ?_|refine sat_nd ?_)
  refine ax (fun h=>?_) (fun h=>?_)
  ·have h:(vsB f r&&decide ((zs.length:Int)=i64.wrap (f*r)))=false:=by
    have h:(!vsB f r||!decide ((zs.length:Int)=i64.wrap (f*r)))=true:=h
    cases h1:vsB f r<;>cases h2:decide ((zs.length:Int)=i64.wrap (f*r))<;>simp_all
   exact ae (ai (.inr rfl) rfl rfl rfl (by rw[<-fI,h];rfl))
  have h:(vsB f r&&decide ((zs.length:Int)=i64.wrap (f*r)))=true:=by
   have h:(!vsB f r||!decide ((zs.length:Int)=i64.wrap (f*r)))=false:=h
   cases h1:vsB f r<;>cases h2:decide ((zs.length:Int)=i64.wrap (f*r))<;>simp_all
  refine bK hE 2 (fun i (_:Unit)=>([(1,.ptr 1 0 0),(3,I i)],[.ints false .i8 zs,.cells true [I f,I r,.sl 0 0 zs.length none]])) zs.length (fun j _=>(zs.drop j).all okP=zs.all okP) () (by omega) (Ent.ren [0,1] [1,3] rfl rfl rfl) rfl ?_
  intro j i _ hij hj hz
  refine ax (fun hlt=>?_) (fun hlt=>?_)
  ·have hlt':j<zs.length:=by simp at hlt;omega
   rw[jT hlt',show j=i.toNat by omega]at hz
   refine ag (by simp;omega) ?_
   repeat (first|(first|refine ah ?_|refine sat_nd ?_)|refine ag (by simp;omega) ?_)
   refine ax (fun hon=>?_) (fun hon=>?_)
   ·have hon:(!okP (zs.getD i.toNat 0))=true:=hon
    have hon:okP (zs.getD i.toNat 0)=false:=by simpa using hon
    rw[hon]at hz
    exact ae (ae (ai (.inr rfl) rfl rfl rfl (by rw[<-fI,h,<-hz];rfl)))
   ·have hon:(!okP (zs.getD i.toNat 0))=false:=hon
    have hon:okP (zs.getD i.toNat 0)=true:=by simpa using hon
    rw[hon]at hz
    exact ae ⟨hlt',(),by rw[<-hz,show i.toNat=j by omega];rfl,Ent.ren [0,1] [1,3] rfl rfl rfl⟩
  ·obtain rfl:j=zs.length:=by simp at hlt;omega
   rw[List.drop_length]at hz
   have hz:zs.all okP=true:=hz.symm
   exact ae (ae (ai (.inr rfl) rfl rfl rfl (by rw[<-fI,h,hz];rfl)))
 ·cases e
def so:CF
 |[.agg [.int .i64 f,.int .i64 r,.sl 0 0 len none]],[.ints false .i8 zs]=>some (decide (len=zs.length)&&decide (zs.length<=64),.bool (aZ f r zs),[])
 |_,_=>none
theorem yd:CtOk (GGx kCa kDb) PP (54,so):=by
 refine aG Tryz.func54 (by kernel_rfl) rfl fun a0 h0 c0 v0 N0 e hc=>?_
 unfold so at e
 split at e
 ·rename_i f r len zs
  cases e
  have hE:=aF (kCa:=kCa) (kDb:=kDb) (cts:=[(107,lA),(108,jZ)]) (inl:=[]) ⟨qg,lK,trivial⟩ trivial
  refine ak hE 2 Tryz.func54 rfl rfl ?_
  simp only[Bool.and_eq_true,decide_eq_true_eq]at hc
  obtain⟨rfl,hc2⟩:=hc
  repeat (first|refine ah ?_|refine sat_nd ?_)
  refine ax (fun h=>?_) (fun h=>?_)
  ·have h:aL f r zs=false:=by simpa using h
   exact ae (ai (.inr rfl) rfl rfl rfl (by rw[<-iR,h];rfl))
  have h:aL f r zs=true:=by simpa using h
  refine bK hE 2 (fun i (_:Unit)=>([(1,.ptr 1 0 0),(3,I i)],[.ints false .i8 zs,.cells true [I f,I r,.sl 0 0 zs.length none]])) zs.length (fun j _=>(zs.drop j).all nnP=zs.all nnP) () (by omega) (Ent.ren [0,1] [1,3] rfl rfl rfl) rfl ?_
  intro j i _ hij hj hz
  refine ax (fun hlt=>?_) (fun hlt=>?_)
  ·have hlt':j<zs.length:=by simp at hlt;omega
   rw[jT hlt',show j=i.toNat by omega]at hz
   refine ag (by simp;omega) ?_
   repeat (first|(first|refine ah ?_|refine sat_nd ?_)|refine ag (by simp;omega) ?_)
   refine ax (fun hon=>?_) (fun hon=>?_)
   ·have hon:(!nnP (zs.getD i.toNat 0))=true:=(Bool.not_not _).trans hon
    have hon:nnP (zs.getD i.toNat 0)=false:=by simpa using hon
    rw[hon]at hz
    exact ae (ae (ai (.inr rfl) rfl rfl rfl (by rw[<-iR,h,show zs.all (fun p=>!norP p)=zs.all nnP from rfl,<-hz];rfl)))
   ·have hon:(!nnP (zs.getD i.toNat 0))=false:=(Bool.not_not _).trans hon
    have hon:nnP (zs.getD i.toNat 0)=true:=by simpa using hon
    rw[hon]at hz
    exact ae ⟨hlt',(),by rw[<-hz,show i.toNat=j by omega];rfl,Ent.ren [0,1] [1,3] rfl rfl rfl⟩
  ·obtain rfl:j=zs.length:=by simp at hlt;omega
   rw[List.drop_length]at hz
   have hz:zs.all nnP=true:=hz.symm
   exact ae (ae (ai (.inr rfl) rfl rfl rfl (by rw[<-iR,h,show zs.all (fun p=>!norP p)=zs.all nnP from rfl,hz];rfl)))
 ·cases e
def vW:CF
 |[.agg [.int .i64 _f,.int .i64 _r,.sl 0 0 len none],.int .i64 s],[.ints false .i8 zs]=>some (decide (len=zs.length)&&decide (zs.length<=64),.sl 1 0 (bX zs s).length none,[.ints true .i64 (bX zs s)])
 |_,_=>none
theorem rR:CtOk (GGx kCa kDb) PP (144,vW):=by
 refine aG Tryz.func144 (by kernel_rfl) rfl fun a0 h0 c0 v0 N0 e hc=>?_
 unfold vW at e
 split at e
 ·rename_i f r len s zs
  cases e
  have hE:=aF (kCa:=kCa) (kDb:=kDb) (cts:=[(167,oZ)]) (inl:=[]) ⟨um,trivial⟩ trivial
  refine ak hE 2 Tryz.func144 rfl rfl ?_
  simp only[Bool.and_eq_true,decide_eq_true_eq]at hc
  obtain⟨rfl,hc2⟩:=hc
  refine bK hE 2 (fun(i:Int) (ys:List Int)=>([(1,I s),(2,.ptr 1 0 0),(5,.sl 2 0 ys.length none),(6,I i)],[.ints false .i8 zs,.cells true [I f,I r,.sl 0 0 zs.length none],.ints true .i64 ys])) (zs.length) (fun j ys=>ys=dc (sB zs s) id j) [] (by omega) ((Ent.phanT (t:=5) (o:=.ints true .i64 []) rfl ⟨by simp,by simp,trivial,rfl⟩ (aJ rfl)).trans (Ent.ren [0,1,2] [1,2,5,6] rfl rfl rfl)) rfl ?_
  intro j i ys hij hj hz
  have hb:=fq (sB zs s) id j
  rw[<-hz]at hb
  refine ax (fun hlt=>?_) (fun hlt=>?_)
  ·have hlt':j<zs.length:=by simp only[decide_eq_true_eq]at hlt;omega
   have hs:=eE (sB zs s) id j
   rw[<-hz,<-hij]at hs
   repeat (first|(first|refine ah ?_|refine sat_nd ?_)|refine ag (by simp;omega) ?_)
   refine ax (fun hon=>?_) (fun hon=>?_)
   ·skip
    have hon:sB zs s i=true:=hon
    rw[hon,cond_true]at hs
    refine ag (b:=decide (ys.length=ys.length)&&decide ((ys.length+1)*8<=140737488355328)&&true) (by simp;omega) ?_
    exact ae ⟨hlt',ys++[id i],hs.symm,Ent.ren [0,1,4] [1,2,5,6] rfl rfl rfl⟩
   ·skip
    have hon:sB zs s i=false:=hon
    rw[hon,cond_false]at hs
    exact ae ⟨hlt',ys,hs.symm,Ent.ren [0,1,2] [1,2,5,6] rfl rfl rfl⟩
  ·obtain rfl:j=zs.length:=by simp only[decide_eq_false_iff_not]at hlt;omega
   subst hz
   refine ae (ae ((da 2 (.inr rfl) rfl rfl rfl rfl rfl rfl)))
 ·cases e
def uv:CF
 |[.agg [.int .i64 _f,.int .i64 _r,.sl 0 0 len none],.int .i8 p],[.ints false .i8 zs]=>some (decide (len=zs.length)&&decide (zs.length<=64),.sl 1 0 (ga zs p).length none,[.ints true .i64 (ga zs p)])
 |_,_=>none
theorem xz:CtOk (GGx kCa kDb) PP (109,uv):=by
 refine aG Tryz.func109 (by kernel_rfl) rfl fun a0 h0 c0 v0 N0 e hc=>?_
 unfold uv at e
 split at e
 ·rename_i f r len p zs
  cases e
  have hE:=aF (kCa:=kCa) (kDb:=kDb) (cts:=[]) (inl:=[]) trivial trivial
  refine ak hE 2 Tryz.func109 rfl rfl ?_
  simp only[Bool.and_eq_true,decide_eq_true_eq]at hc
  obtain⟨rfl,hc2⟩:=hc
  refine bK hE 2 (fun(i:Int) (ys:List Int)=>([(1,.int .i8 p),(2,.ptr 1 0 0),(5,.sl 2 0 ys.length none),(6,I i)],[.ints false .i8 zs,.cells true [I f,I r,.sl 0 0 zs.length none],.ints true .i64 ys])) (zs.length) (fun j ys=>ys=dc (kW zs p) id j) [] (by omega) ((Ent.phanT (t:=5) (o:=.ints true .i64 []) rfl ⟨by simp,by simp,trivial,rfl⟩ (aJ rfl)).trans (Ent.ren [0,1,2] [1,2,5,6] rfl rfl rfl)) rfl ?_
  intro j i ys hij hj hz
  have hb:=fq (kW zs p) id j
  rw[<-hz]at hb
  refine ax (fun hlt=>?_) (fun hlt=>?_)
  ·have hlt':j<zs.length:=by simp only[decide_eq_true_eq]at hlt;omega
   have hs:=eE (kW zs p) id j
   rw[<-hz,<-hij]at hs
   repeat (first|(first|refine ah ?_|refine sat_nd ?_)|refine ag (by simp;omega) ?_)
   refine ax (fun hon=>?_) (fun hon=>?_)
   ·skip
    have hon:kW zs p i=true:=hon
    rw[hon,cond_true]at hs
    refine ag (b:=decide (ys.length=ys.length)&&decide ((ys.length+1)*8<=140737488355328)&&true) (by simp;omega) ?_
    exact ae ⟨hlt',ys++[id i],hs.symm,Ent.ren [0,1,4] [1,2,5,6] rfl rfl rfl⟩
   ·skip
    have hon:kW zs p i=false:=hon
    rw[hon,cond_false]at hs
    exact ae ⟨hlt',ys,hs.symm,Ent.ren [0,1,2] [1,2,5,6] rfl rfl rfl⟩
  ·obtain rfl:j=zs.length:=by simp only[decide_eq_false_iff_not]at hlt;omega
   subst hz
   refine ae (ae ((da 2 (.inr rfl) rfl rfl rfl rfl rfl rfl)))
 ·cases e
end
end Go.Ab
namespace Go.Ab
open Go.Proofs
section
variable{kCa kDb:Bool}
theorem dI(l:List Int):(tk l).length=l.length:=by rw[aS]
theorem CU(l m:List Int)(h:l.length<=1000000)(h2:m.length<=1000000)(b:Bool)(hb:b=true):(decide ((tk l).length=(tk l).length)&&decide (((tk l).length+m.length)*8<=140737488355328)&&b)=true:=by rw[dI,hb];simp;omega
theorem FV(zs:List Int)(h:zs.length<=64){L:List Int}{n:Nat}(hL:L=bX zs 1++bX zs (-1))(hn:n=L.length):(decide (n=((L.drop 0).take n).length)&&decide (((L.drop 0).take n).length<=1000000)&&((L.drop 0).take n).all fun x=>decide (0<=x))=true:=by
 subst hn
 have e:(L.drop 0).take L.length=L:=by simp
 rw[e]
 have h1:=fy zs 1
 have h2:=fy zs (-1)
 have h3:L.length<=1000000:=by rw[hL,List.length_append];omega
 simp only[decide_true,Bool.true_and,Bool.and_eq_true,decide_eq_true_eq,List.all_eq_true]
 refine⟨h3,fun x hx=>?_⟩
 rw[hL]at hx
 rcases List.mem_append.1 hx with hx|hx<;>exact(fc.1 hx).1
def Kb:CF
 |[.agg [.int .i64 _f,.int .i64 _r,.sl 0 0 len none]],[.ints false .i8 zs]=>some (decide (len=zs.length)&&decide (zs.length<=64),.int .u64 (occL zs),[])
 |_,_=>none
theorem DS:CtOk (GGx kCa kDb) PP (145,Kb):=by
 refine aG Tryz.func145 (by kernel_rfl) rfl fun a0 h0 c0 v0 N0 e hc=>?_
 unfold Kb at e
 split at e
 ·rename_i f r len zs
  cases e
  have hE:=aF (kCa:=kCa) (kDb:=kDb) (cts:=[(144,vW),(168,c_Of)]) (inl:=[]) ⟨rR,JN,trivial⟩ trivial
  refine ak hE 2 Tryz.func145 rfl rfl ?_
  simp only[Bool.and_eq_true,decide_eq_true_eq]at hc
  obtain⟨rfl,hc2⟩:=hc
  have l1:=fy zs 1
  have l2:=fy zs (-1)
  repeat (first|refine ah ?_|refine sat_nd ?_)
  refine ag (by
   refine CU (bX (tk zs) 1) (bX (tk zs) (-1)) ?_ ?_ _ rfl<;>simp only[aS]<;>omega) ?_
  refine ag (by
   refine FV zs hc2 (L:=tk (bX (tk zs) 1)++tk (bX (tk zs) (-1))) ?_ rfl
   simp only[aS]) ?_
  refine ae (ai (.inr rfl) rfl rfl rfl ?_)
  show U (ofL (tk (tk (bX (tk zs) 1)++tk (bX (tk zs) (-1)))) 0)=_
  simp only[aS]
  rfl
 ·cases e
end
section
variable{kCa kDb:Bool}
theorem Fg{c:Int->Bool}{n m:Nat}(h:n<=1000000)(hm:m=(dc c id n).length):(decide (m=(((dc c id n).drop 0).take m).length)&&decide ((((dc c id n).drop 0).take m).length<=1000000))=true:=by
 subst hm
 have:=fq c id n
 have e:((dc c id n).drop 0).take (dc c id n).length=dc c id n:=by simp
 rw[e];simp;omega
theorem FU{zs:List Int}{s:Int}{i:Nat}(h:i<(bX (tk zs) s).length):0<=(bX (tk zs) s).getD i 0/\(bX (tk zs) s).getD i 0<zs.length:=by
 rw[aS]at h ⊢
 have hm:(bX zs s).getD i 0∈bX zs s:=by simp[List.getD,h]
 have:=fc.1 hm
 exact⟨this.1,this.2.1⟩
def kE:CF
 |[.agg [.int .i64 f,.int .i64 r,.sl 0 0 len none],.int .i64 i,.int .i64 to,.int .u64 occ],[.ints false .i8 zs]=>some (decide (len=zs.length)&&decide (zs.length<=64)&&decide (0<=i)&&decide (i<zs.length)&&vsB f r,.bool (sy f r zs i to occ),[])
 |_,_=>none
theorem rH:CtOk (GGx kCa kDb) PP (146,kE):=by
 refine aG Tryz.func146 (by kernel_rfl) rfl fun a0 h0 c0 v0 N0 e hc=>?_
 unfold kE at e
 split at e
 ·rename_i f r len i to occ zs
  cases e
  have hE:=aF (kCa:=kCa) (kDb:=kDb) (cts:=[(57,hY),(170,kn),(169,Ad),(171,lG)]) (inl:=[]) ⟨gi,qn,zH,pX,trivial⟩ trivial
  refine ak hE 2 Tryz.func146 rfl rfl ?_
  simp only[Bool.and_eq_true,decide_eq_true_eq]at hc
  obtain⟨⟨⟨⟨rfl,hc2⟩,hi1⟩,hi2⟩,hv⟩:=hc
  have hf:=cS hv
  have hm:=bF hv
  have hf0:(!decide (f=0))=true:=by simp;omega
  repeat (first|(first|refine ah ?_|refine sat_nd ?_)|refine ag (by simp;omega) ?_)
  refine ax (fun h=>?_) (fun h=>?_)
  ·have h:decide (lD (zs.getD i.toNat 0)=1)=true:=h
   refine ag hv ?_
   repeat (first|refine ah ?_|refine sat_nd ?_)
   refine ag (Fg (by omega) rfl) ?_
   refine ae (ai (.inr rfl) rfl rfl rfl ?_)
   show V.bool (hasL to (tk (dc (kr f (decide (zs.getD i.toNat 0<0)) i) id (f*r).toNat)))=_
   rw[aS,sy,h];rfl
  ·have h:decide (lD (zs.getD i.toNat 0)=1)=false:=h
   repeat (first|(first|refine ah ?_|refine sat_nd ?_)|refine ag (by rw[hf0];exact Bool.or_true _) ?_)
   exact ae (ai (.inr rfl) rfl rfl rfl (by rw[sy,h];rfl))
 ·cases e
def ec:CF
 |[.agg [.int .i64 f,.int .i64 r,.sl 0 0 len none],.int .i64 to,.bool bl],[.ints false .i8 zs]=>some (decide (len=zs.length)&&decide (zs.length<=64)&&vsB f r,.sl 1 0 (attL f r zs to bl).length none,[.ints true .i64 (attL f r zs to bl)])
 |_,_=>none
theorem ij:CtOk (GGx kCa kDb) PP (111,ec):=by
 refine aG Tryz.func111 (by kernel_rfl) rfl fun a0 h0 c0 v0 N0 e hc=>?_
 unfold ec at e
 split at e
 ·rename_i f r len to bl zs
  cases e
  have hE:=aF (kCa:=kCa) (kDb:=kDb) (cts:=[(110,pz),(144,vW),(145,Kb),(146,kE)]) (inl:=[]) ⟨nr,rR,DS,rH,trivial⟩ trivial
  refine ak hE 2 Tryz.func111 rfl rfl ?_
  simp only[Bool.and_eq_true,decide_eq_true_eq]at hc
  obtain⟨⟨rfl,hc2⟩,hv⟩:=hc
  have hsl:(bX (tk zs) (sdI bl)).length<=zs.length:=by rw[aS];exact fy zs (sdI bl)
  repeat (first|refine ah ?_|refine sat_nd ?_)
  refine bK hE 2 (fun(i:Int) (ys:List Int)=>([(1,I to),(3,.ptr 1 0 0),(7,.sl 3 0 ys.length none),(8,.sl 2 0 (bX (tk zs) (sdI bl)).length none),(9,U (occL (tk zs))),(10,I i)],[.ints false .i8 zs,.cells true [I f,I r,.sl 0 0 zs.length none],.ints true .i64 (bX (tk zs) (sdI bl)),.ints true .i64 ys])) (bX (tk zs) (sdI bl)).length (fun j ys=>ys=((bX (tk zs) (sdI bl)).take j).filter (xp f r (tk zs) to (occL (tk zs)))) [] (by omega) ((Ent.phanT (t:=7) (o:=.ints true .i64 []) rfl ⟨by simp,by simp,trivial,rfl⟩ (aJ rfl)).trans (Ent.ren [0,1,2,3] [1,3,7,8,9,10] rfl rfl rfl)) rfl ?_
  intro j i ys hij hj hz
  have hb:ys.length<=j:=by rw[hz];exact Nat.le_trans (List.length_filter_le _ _) (by rw[List.length_take];omega)
  refine ax (fun hlt=>?_) (fun hlt=>?_)
  ·have hlt':j<(bX (tk zs) (sdI bl)).length:=by simp only[decide_eq_true_eq]at hlt;omega
   have hs:=ze (C:=xp f r (tk zs) to (occL (tk zs))) hlt'
   have hgl:=FU (zs:=zs) (s:=sdI bl) (i:=i.toNat) (by omega)
   have hil:(decide (0<=i)&&decide (i<((bX (tk zs) (sdI bl)).length:Int)))=true:=by simp only[Bool.and_eq_true,decide_eq_true_eq];omega
   rw[<-hz,show j=i.toNat by omega]at hs
   repeat (first|(first|refine ah ?_|refine sat_nd ?_)|refine ag hil ?_)
   refine ag (by
    simp only[Bool.and_eq_true,decide_eq_true_eq]
    rw[dI]
    exact⟨⟨⟨⟨by first|rfl|trivial,hc2⟩,hgl.1⟩,hgl.2⟩,hv⟩) ?_
   refine ax (fun hon=>?_) (fun hon=>?_)
   ·skip
    have hon:xp f r (tk zs) to (occL (tk zs)) ((bX (tk zs) (sdI bl)).getD i.toNat 0)=true:=hon
    rw[hon,cond_true]at hs
    refine ag (by simp;omega) ?_
    refine ag (b:=decide (ys.length=ys.length)&&decide ((ys.length+1)*8<=140737488355328)&&true) (by simp;omega) ?_
    exact ae ⟨hlt',ys++[(bX (tk zs) (sdI bl)).getD i.toNat 0],by rw[show j+1=i.toNat+1 by omega];exact hs,Ent.ren [0,1,2,5] [1,3,7,8,9,10] rfl rfl rfl⟩
   ·skip
    have hon:xp f r (tk zs) to (occL (tk zs)) ((bX (tk zs) (sdI bl)).getD i.toNat 0)=false:=hon
    rw[hon,cond_false]at hs
    exact ae ⟨hlt',ys,by rw[show j+1=i.toNat+1 by omega];exact hs,Ent.ren [0,1,2,3] [1,3,7,8,9,10] rfl rfl rfl⟩
  ·obtain rfl:j=(bX (tk zs) (sdI bl)).length:=by simp only[decide_eq_false_iff_not]at hlt;omega
   rw[List.take_length]at hz
   subst hz
   refine ae (ae (da 3 (.inr rfl) rfl rfl rfl rfl (by simp only[aS];rfl) (by simp only[aS];rfl)))
 ·cases e
end
end Go.Ab
namespace Go.Ab
open IntKind
open Go.Proofs
section
variable{kCa kDb:Bool}
theorem bL{zs:List Int}(h:zs.length<=64){n:Nat}(hn:n=zs.length):(decide (n=(tk zs).length)&&decide ((tk zs).length<=64))=true:=by rw[dI,hn];simp;omega
theorem bU{zs:List Int}(h:zs.length<=64){n:Nat}(hn:n=zs.length){b:Bool}(hb:b=true):(decide (n=(tk zs).length)&&decide ((tk zs).length<=64)&&b)=true:=by rw[dI,hn,hb];simp;omega
def fk:CF
 |[.agg [.int .i64 _f,.int .i64 _r,.sl 0 0 len none],.bool bl],[.ints false .i8 zs]=>some (decide (len=zs.length)&&decide (zs.length<=64),.int .i64 (bh zs bl),[])
 |_,_=>none
theorem fF:CtOk (GGx kCa kDb) PP (55,fk):=by
 refine aG Tryz.func55 (by kernel_rfl) rfl fun a0 h0 c0 v0 N0 e hc=>?_
 unfold fk at e
 split at e
 ·rename_i f r len bl zs
  cases e
  have hE:=aF (kCa:=kCa) (kDb:=kDb) (cts:=[(110,pz),(109,uv)]) (inl:=[]) ⟨nr,xz,trivial⟩ trivial
  refine ak hE 2 Tryz.func55 rfl rfl ?_
  simp only[Bool.and_eq_true,decide_eq_true_eq]at hc
  obtain⟨rfl,hc2⟩:=hc
  repeat (first|refine ah ?_|refine sat_nd ?_)
  refine ax (fun h=>?_) (fun h=>?_)
  ·have h:(!decide (((ga (tk zs) (w8 (i64.wrap (6*sdI bl)))).length:Int)=1))=true:=h
   rw[aS,Bool.not_eq_true']at h
   exact ae (ai (.inr rfl) rfl rfl rfl (by rw[bh,h];rfl))
  ·have h:(!decide (((ga (tk zs) (w8 (i64.wrap (6*sdI bl)))).length:Int)=1))=false:=h
   rw[aS,Bool.not_eq_false']at h
   have hl:((ga (tk zs) (w8 (i64.wrap (6*sdI bl)))).length:Int)=1:=by rw[aS];exact of_decide_eq_true h
   refine ag (by
    show (decide ((0:Int)<=0)&&decide ((0:Int)<((ga (tk zs) (w8 (i64.wrap (6*sdI bl)))).length:Int)))=true
    rw[hl];rfl) ?_
   exact ae (ai (.inr rfl) rfl rfl rfl (by
    show I ((ga (tk zs) (w8 (i64.wrap (6*sdI bl)))).getD 0 0)=_
    rw[aS,bh,h];rfl))
 ·cases e
end
end Go.Ab
set_option maxHeartbeats 4000000
namespace Go.Ab
open IntKind
open Go.Proofs
section
variable{kCa kDb:Bool}
theorem tN{f r n:Int}(h:aA f r n=true):i64.wrap (n.tdiv f)=py f n/\0<=px f n/\px f n<f/\0<=py f n/\py f n<r/\px f n+py f n*f=n/\3<=f/\f<=8/\3<=r/\r<=8:=by
 have:=eX h
 have h2:=yw h
 exact⟨this.2.2.2.2.1,this.1,this.2.1,this.2.2.1,this.2.2.2.1,h2,this.2.2.2.2.2⟩
theorem qt{f r:Int}{zs:List Int}{pa:Int}{bl g1 g2:Bool}(h:aL f r zs=true):(!(g1&&g2&&aA f r pa&&decide (i64.wrap (pa.tdiv f)=rkP r bl))||(decide (0<=pa)&&decide (pa<zs.length)))=true:=by
 cases hv:aA f r pa with
 |false=>simp
 |true=>have:=(sE h).1 hv;simp[this.1,this.2]
theorem kH{f r:Int}{zs:List Int}{pa:Int}{bl:Bool}(h:aL f r zs=true)(hr:6<=r)(hv:aA f r pa=true)(hk:i64.wrap (pa.tdiv f)=rkP r bl):0<=pa-f/\pa+f<zs.length/\i64.wrap (pa-f)=pa-f/\i64.wrap (pa+f)=pa+f/\i64.wrap (0-f)=-f/\i64.wrap (pa - -f)=pa+f/\i64.wrap (pa+-f)=pa-f:=by
 obtain⟨h1,h2,h3,h4,h5,h6,h7⟩:=tN hv
 have hl:=(bS h).2
 rw[h1]at hk
 have hw:i64.wrap (r-3)=r-3:=aK (by omega) (by omega)
 have hpy:1<=py f pa/\py f pa+1<r:=by
  cases bl
  ·simp only[rkP,cond_false,hw]at hk;omega
  ·simp only[rkP,cond_true]at hk;omega
 have a1:1*f<=py f pa*f:=Int.mul_le_mul_of_nonneg_right hpy.1 (by omega)
 have a2:(py f pa+1+1)*f<=r*f:=Int.mul_le_mul_of_nonneg_right (by omega) (by omega)
 rw[Int.add_mul,Int.add_mul,Int.mul_comm r f]at a2
 have hlt:=(bT hv)
 exact⟨by omega,by omega,aK (by omega) (by omega),aK (by omega) (by omega),by rw[Int.zero_sub];exact aK (by omega) (by omega),by rw[Int.sub_neg];exact aK (by omega) (by omega),by rw[<-Int.sub_eq_add_neg];exact aK (by omega) (by omega)⟩
theorem zn{f:Int}{g:Bool}(h:f≠0):(!g||!decide (f=0))=true:=by simp[h]
theorem KZ{f r:Int}{zs:List Int}{pa ha:Int}{bl x:Bool}(h:aL f r zs=true):(!(decide (6<=r)&&decide (ha=0)&&aA f r pa&&decide (i64.wrap (pa.tdiv f)=rkP r bl)&&x)||(decide (0<=i64.wrap (pa-upP f bl))&&decide (i64.wrap (pa-upP f bl)<zs.length)))=true:=by
 cases hg:(decide (6<=r)&&decide (ha=0)&&aA f r pa&&decide (i64.wrap (pa.tdiv f)=rkP r bl)) with
 |false=>simp
 |true=>
  simp only[Bool.and_eq_true,decide_eq_true_eq]at hg
  obtain⟨h1,h2,h3,h4,h5,h6,h7⟩:=kH (bl:=bl) h hg.1.1.1 hg.1.2 hg.2
  have hfr:=cS (bS h).1
  cases bl
  ·rw[Bool.or_eq_true];right
   simp only[upP,cond_false,h5,h6,Bool.and_eq_true,decide_eq_true_eq];omega
  ·rw[Bool.or_eq_true];right
   simp only[upP,cond_true,h3,Bool.and_eq_true,decide_eq_true_eq];omega
theorem Mh{f r:Int}{zs:List Int}{pa ha:Int}{bl x y:Bool}(h:aL f r zs=true):(!(decide (6<=r)&&decide (ha=0)&&aA f r pa&&decide (i64.wrap (pa.tdiv f)=rkP r bl)&&x&&y)||(decide (0<=i64.wrap (pa+upP f bl))&&decide (i64.wrap (pa+upP f bl)<zs.length)))=true:=by
 cases hg:(decide (6<=r)&&decide (ha=0)&&aA f r pa&&decide (i64.wrap (pa.tdiv f)=rkP r bl)) with
 |false=>simp
 |true=>
  simp only[Bool.and_eq_true,decide_eq_true_eq]at hg
  obtain⟨h1,h2,h3,h4,h5,h6,h7⟩:=kH (bl:=bl) h hg.1.1.1 hg.1.2 hg.2
  have hfr:=cS (bS h).1
  cases bl
  ·rw[Bool.or_eq_true];right
   simp only[upP,cond_false,h5,h7,Bool.and_eq_true,decide_eq_true_eq];omega
  ·rw[Bool.or_eq_true];right
   simp only[upP,cond_true,h4,Bool.and_eq_true,decide_eq_true_eq];omega
def tA:CF
 |[.sl 0 0 len none],[.ints false .i8 zs]=>some (decide (len=zs.length)&&decide (zs.length<=64),.sl 1 0 zs.length none,[.ints true .i8 zs])
 |_,_=>none
theorem yc:CtOk (GGx kCa kDb) PP (150,tA):=by
 refine aG Tryz.func150 (by kernel_rfl) rfl fun a0 h0 c0 v0 N0 e hc=>?_
 unfold tA at e
 split at e
 ·rename_i len zs
  cases e
  have hE:=aF (kCa:=kCa) (kDb:=kDb) (cts:=[]) (inl:=[]) trivial trivial
  refine lF hE 2 Tryz.func150 rfl rfl ?_
  simp only[Bool.and_eq_true,decide_eq_true_eq]at hc
  obtain⟨rfl,hc2⟩:=hc
  refine Az (fun h0=>?_) ?_
  ·refine ax (fun _=>?_) (fun h=>(by cases h))
   have hz:zs=[]:=List.eq_nil_of_length_eq_zero h0
   subst hz
   exact ae (El (Ent.phanT (t:=2) (o:=.ints true .i8 []) rfl ⟨by simp,by simp,trivial,rfl⟩ (aJ rfl)) (da 1 (.inr rfl) rfl rfl rfl rfl rfl rfl))
  ·refine ax (fun h=>(by cases h)) (fun _=>?_)
   refine ag (b:=?B) ?_ ?_
   ·show (decide (0=0)&&decide ((0+zs.length)*1<=140737488355328)&&true)=true
    simp;omega
   exact ae (El (Ent.refl _ _ _) (da 2 (.inr rfl) rfl rfl rfl rfl (by show [O.ints true .i8 (tk zs)]=_;rw[aS]) (by show V.sl 1 0 (tk zs).length none=_;rw[aS])))
 ·cases e
def ud:CF
 |[.agg [.int .i64 f,.int .i64 r,.sl 0 0 len none,.bool bl,.int .u8 ca,.int .i64 pa,.int .i64 ha,.int .i64 fu]],[.ints false .i8 zs]=>some (decide (len=zs.length)&&decide (zs.length<=64),.agg [I f,I r,.sl 1 0 zs.length none,Bb bl,.int .u8 ca,I pa,I ha,I fu],[.ints true .i8 zs])
 |_,_=>none
theorem yn:CtOk (GGx kCa kDb) PP (122,ud):=by
 refine aG Tryz.func122 (by kernel_rfl) rfl fun a0 h0 c0 v0 N0 e hc=>?_
 unfold ud at e
 split at e
 ·rename_i f r len bl ca pa ha fu zs
  cases e
  have hE:=aF (kCa:=kCa) (kDb:=kDb) (cts:=[(150,tA)]) (inl:=[]) ⟨yc,trivial⟩ trivial
  refine ak hE 2 Tryz.func122 rfl rfl ?_
  simp only[Bool.and_eq_true,decide_eq_true_eq]at hc
  obtain⟨rfl,hc2⟩:=hc
  repeat (first|(first|refine ah ?_|refine sat_nd ?_)|refine ag (bL hc2 rfl) ?_)
  exact ae (da 3 (.inr rfl) rfl rfl rfl rfl (by show [O.ints true .i8 (tk zs)]=_;rw[aS]) (by show V.agg [I f,I r,.sl 1 0 (tk zs).length none,Bb bl,.int .u8 ca,I pa,I ha,I fu]=_;rw[aS]))
 ·cases e
def oE:CF
 |[.agg [.int .i64 f,.int .i64 r,.sl 0 0 len none,.bool bl,.int .u8 _ca,.int .i64 pa,.int .i64 ha,.int .i64 _fu]],[.ints false .i8 zs]=>some (decide (len=zs.length)&&decide (zs.length<=64)&&aL f r zs,.bool (jx f r zs bl pa ha),[])
 |_,_=>none
theorem nk:CtOk (GGx kCa kDb) PP (91,oE):=by
 refine aG Tryz.func91 (by kernel_rfl) rfl fun a0 h0 c0 v0 N0 e hc=>?_
 unfold oE at e
 split at e
 ·rename_i f r len bl ca pa ha fu zs
  cases e
  have hE:=aF (kCa:=kCa) (kDb:=kDb) (cts:=[(75,fb),(136,Fh)]) (inl:=[]) ⟨dx,wC,trivial⟩ trivial
  refine ak hE 2 Tryz.func91 rfl rfl ?_
  simp only[Bool.and_eq_true,decide_eq_true_eq]at hc
  obtain⟨⟨rfl,hc2⟩,hbd⟩:=hc
  refine ax (fun h=>?_) (fun h=>?_)
  ·have h:decide (pa=-1)=true:=h
   exact ae (ai (.inr rfl) rfl rfl rfl (by rw[jx,h];rfl))
  have h:decide (pa=-1)=false:=h
  have hf:f≠0:=by have:=cS (bS hbd).1;omega
  refine ax (fun h1=>?_) (fun h1=>?_)
  ·have h1:bl=false:=by simpa using h1
   subst h1
   repeat (first|(first|refine ah ?_|refine sat_nd ?_)|refine ag (zn hf) ?_|refine ag (qt (bl:=false) hbd) ?_|refine ag (KZ (bl:=false) hbd) ?_|refine ag (Mh (bl:=false) hbd) ?_)
   exact ae (ai (.inr rfl) rfl rfl rfl (by rw[jx,h];rfl))
  ·have h1:bl=true:=by simpa using h1
   subst h1
   repeat (first|(first|refine ah ?_|refine sat_nd ?_)|refine ag (zn hf) ?_|refine ag (qt (bl:=true) hbd) ?_|refine ag (KZ (bl:=true) hbd) ?_|refine ag (Mh (bl:=true) hbd) ?_)
   exact ae (ai (.inr rfl) rfl rfl rfl (by rw[jx,h];rfl))
 ·cases e
theorem Fp{f r:Int}{zs:List Int}{g:Bool}(h:aL f r zs=true)(_hz:zs.length<=64):(!g||(decide (0<=f)&&decide (f<=zs.length)&&decide ((zs.length:Int)<=zs.length)))=true:=by
 obtain⟨h1,h2⟩:=bS h
 have:=cS h1
 have:1*f<=r*f:=Int.mul_le_mul_of_nonneg_right (by omega) (by omega)
 rw[Int.mul_comm r f]at this
 simp;omega
theorem Ho{f r:Int}{zs:List Int}(h:aL f r zs=true)(hz:zs.length<=64):i64.wrap ((zs.length:Int)-f)=(zs.length:Int)-f/\0<=(zs.length:Int)-f/\3<=f:=by
 obtain⟨h1,h2⟩:=bS h
 have:=cS h1
 have:1*f<=r*f:=Int.mul_le_mul_of_nonneg_right (by omega) (by omega)
 rw[Int.mul_comm r f]at this
 exact⟨aK (by omega) (by omega),by omega,by omega⟩
theorem Ai{f r:Int}{zs:List Int}(h:aL f r zs=true)(hz:zs.length<=64):(decide (0<=i64.wrap ((zs.length:Int)-f))&&decide (i64.wrap ((zs.length:Int)-f)<=zs.length)&&decide ((zs.length:Int)<=zs.length))=true:=by
 obtain⟨h1,h2,h3⟩:=Ho h hz
 rw[h1]
 simp only[Bool.and_eq_true,decide_eq_true_eq]
 omega
theorem EP{zs:List Int}{a m:Nat}(h:m=zs.length)(hz:zs.length<=64):(decide (m-a=((zs.drop a).take (m-a)).length)&&decide (((zs.drop a).take (m-a)).length<=1000000))=true:=by
 simp only[Bool.and_eq_true,decide_eq_true_eq,List.length_take,List.length_drop]
 omega
theorem DT{zs:List Int}{b m:Nat}{g:Bool}(h:m<=zs.length)(hz:zs.length<=64):(!g||(decide (m-0=((zs.drop 0).take (m-0)).length)&&decide (((zs.drop 0).take (m-0)).length<=1000000)))=true/\b=b:=by
 rw[Bool.or_eq_true]
 refine⟨.inr ?_,rfl⟩
 simp only[Bool.and_eq_true,decide_eq_true_eq,List.length_take,List.length_drop]
 omega
def jY:CF
 |[.agg [.int .i64 f,.int .i64 r,.sl 0 0 len none,.bool _bl,.int .u8 _ca,.int .i64 _pa,.int .i64 _ha,.int .i64 _fu]],[.ints false .i8 zs]=>some (decide (len=zs.length)&&decide (zs.length<=64)&&aL f r zs,.bool (gx f zs),[])
 |_,_=>none
theorem lN:CtOk (GGx kCa kDb) PP (87,jY):=by
 refine aG Tryz.func87 (by kernel_rfl) rfl fun a0 h0 c0 v0 N0 e hc=>?_
 unfold jY at e
 split at e
 ·rename_i f r len bl ca pa ha fu zs
  cases e
  have hE:=aF (kCa:=kCa) (kDb:=kDb) (cts:=[(134,fR)]) (inl:=[]) ⟨gA,trivial⟩ trivial
  refine ak hE 2 Tryz.func87 rfl rfl ?_
  simp only[Bool.and_eq_true,decide_eq_true_eq]at hc
  obtain⟨⟨rfl,hc2⟩,hbd⟩:=hc
  obtain⟨hw1,hw2,hw3⟩:=Ho hbd hc2
  have hfl:f.toNat<=zs.length:=by omega
  repeat (first|(first|refine ah ?_|refine sat_nd ?_)|refine ag (Fp hbd hc2) ?_|refine ag (Ai hbd hc2) ?_|refine ag (EP rfl hc2) ?_|refine ag (DT (b:=0) hfl hc2).1 ?_)
  refine ae (ai (.inr rfl) rfl rfl rfl (congrArg V.bool ?_))
  show (!((zs.drop (i64.wrap ((zs.length:Int)-f)).toNat).take (zs.length-(i64.wrap ((zs.length:Int)-f)).toNat)).any (isV 1)&&!((zs.drop 0).take (f.toNat-0)).any (isV (-1)))=_
  rw[hw1,gx,show ((zs.length:Int)-f).toNat=zs.length-f.toNat by omega,List.drop_zero,Nat.sub_zero,List.take_of_length_le (by simp)]
 ·cases e
def jH:CF
 |[.agg [.int .i64 f,.int .i64 r,.sl 0 0 len none,.bool bl,.int .u8 _ca,.int .i64 _pa,.int .i64 _ha,.int .i64 _fu]],[.ints false .i8 zs]=>some (decide (len=zs.length)&&decide (zs.length<=64),.bool (fW f r zs bl),[])
 |_,_=>none
theorem lX:CtOk (GGx kCa kDb) PP (85,jH):=by
 refine aG Tryz.func85 (by kernel_rfl) rfl fun a0 h0 c0 v0 N0 e hc=>?_
 unfold jH at e
 split at e
 ·rename_i f r len bl ca pa ha fu zs
  cases e
  have hE:=aF (kCa:=kCa) (kDb:=kDb) (cts:=[(132,wG),(133,iC)]) (inl:=[]) ⟨qT,oz,trivial⟩ trivial
  refine ak hE 2 Tryz.func85 rfl rfl ?_
  simp only[Bool.and_eq_true,decide_eq_true_eq]at hc
  obtain⟨rfl,hc2⟩:=hc
  repeat (first|(first|refine ah ?_|refine sat_nd ?_)|refine ag (bL hc2 rfl) ?_)
  refine ae (ai (.inr rfl) rfl rfl rfl (congrArg V.bool ?_))
  show (decide ((ct f r (tk zs) bl).2=0)&&decide ((bJ f r (tk zs) (!bl)).2=0)&&decide ((bJ f r (tk zs) (!bl)).1=0))=_
  rw[aS];rfl
 ·cases e
end
end Go.Ab
namespace Go.Ab
open Go.Proofs
section
variable{kCa kDb:Bool}
def eJ:CF
 |[.agg [.int .i64 f,.int .i64 r,.sl 0 0 len none,.bool bl,.int .u8 ca,.int .i64 pa,.int .i64 ha,.int .i64 fu]],[.ints false .i8 zs]=>some (decide (len=zs.length)&&decide (zs.length<=64),.bool (Psn.ok ⟨f,r,zs,bl,ca,pa,ha,fu⟩),[])
 |_,_=>none
theorem eI:CtOk (GGx kCa kDb) PP (37,eJ):=by
 refine aG Tryz.func37 (by kernel_rfl) rfl fun a0 h0 c0 v0 N0 e hc=>?_
 unfold eJ at e
 split at e
 ·rename_i f r len bl ca pa ha fu zs
  cases e
  have hE:=aF (kCa:=kCa) (kDb:=kDb) (cts:=[(83,eM),(85,jH),(87,jY),(89,fN),(91,oE)]) (inl:=[(82,Tryz.f82),(84,Tryz.f84),(86,Tryz.f86),(88,Tryz.f88),(90,Tryz.f90),(92,Tryz.f92)]) ⟨dB,lX,lN,gZ,nk,trivial⟩ ⟨⟨Tryz.func82,by kernel_rfl⟩,⟨Tryz.func84,by kernel_rfl⟩,⟨Tryz.func86,by kernel_rfl⟩,⟨Tryz.func88,by kernel_rfl⟩,⟨Tryz.func90,by kernel_rfl⟩,⟨Tryz.func92,by kernel_rfl⟩,trivial⟩
  refine ak hE 3 Tryz.func37 rfl rfl ?_
  simp only[Bool.and_eq_true,decide_eq_true_eq]at hc
  obtain⟨rfl,hc2⟩:=hc
  repeat (first|refine ah ?_|refine sat_nd ?_)
  refine dn hE 3 7 ?_
  refine rnd ?_
  refine ck (by rfl) ?_
  repeat (first|(first|refine ah ?_|refine sat_nd ?_)|refine ag (bL hc2 rfl) ?_)
  refine ax (fun h0=>?_) (fun h0=>?_)
  ·have h0:(!aL f r (tk zs))=true:=h0
   rw[aS,Bool.not_eq_true']at h0
   exact ae (ae (ai (.inr rfl) rfl rfl rfl (by simp[Psn.ok,h0])))
  have h0:(!aL f r (tk zs))=false:=h0
  have h0t:aL f r (tk zs)=true:=by simpa using h0
  rw[aS,Bool.not_eq_false']at h0
  refine ae ⟨[(1,.ptr 1 0 0),(13,.sl 2 0 6 none),(14,I 6),(15,I 1)],[.ints false .i8 zs,.cells true [I f,I r,.sl 0 0 zs.length none,Bb bl,.int .u8 ca,I pa,I ha,I fu],.vals true 1 [[.fn 82 [.ptr 1 0 0]],[.fn 84 [.ptr 1 0 0]],[.fn 86 [.ptr 1 0 0]],[.fn 88 [.ptr 1 0 0]],[.fn 90 [.ptr 1 0 0]],[.fn 92 [.ptr 1 0 0]]]],Ent.ren [0,1,2] [1,13,14,15] rfl rfl rfl,?_⟩
  refine rnd ?_
  refine ck (by rfl) ?_
  repeat (first|(first|refine ah ?_|refine sat_nd ?_)|refine ag (bL hc2 rfl) ?_|refine ag (bU hc2 rfl h0t) ?_)
  refine ax (fun h1=>?_) (fun h1=>?_)
  ·have h1:(!fW f r (tk zs) bl)=true:=h1
   rw[aS,Bool.not_eq_true']at h1
   exact ae (ae (ai (.inr rfl) rfl rfl rfl (by simp[Psn.ok,h0,h1])))
  have h1:(!fW f r (tk zs) bl)=false:=h1
  rw[aS,Bool.not_eq_false']at h1
  refine ae ⟨[(1,.ptr 1 0 0),(13,.sl 2 0 6 none),(14,I 6),(15,I 2)],[.ints false .i8 zs,.cells true [I f,I r,.sl 0 0 zs.length none,Bb bl,.int .u8 ca,I pa,I ha,I fu],.vals true 1 [[.fn 82 [.ptr 1 0 0]],[.fn 84 [.ptr 1 0 0]],[.fn 86 [.ptr 1 0 0]],[.fn 88 [.ptr 1 0 0]],[.fn 90 [.ptr 1 0 0]],[.fn 92 [.ptr 1 0 0]]]],Ent.ren [0,1,2] [1,13,14,15] rfl rfl rfl,?_⟩
  refine rnd ?_
  refine ck (by rfl) ?_
  repeat (first|(first|refine ah ?_|refine sat_nd ?_)|refine ag (bL hc2 rfl) ?_|refine ag (bU hc2 rfl h0t) ?_)
  refine ax (fun h2=>?_) (fun h2=>?_)
  ·have h2:(!gx f (tk zs))=true:=h2
   rw[aS,Bool.not_eq_true']at h2
   exact ae (ae (ai (.inr rfl) rfl rfl rfl (by simp[Psn.ok,h0,h1,h2])))
  have h2:(!gx f (tk zs))=false:=h2
  rw[aS,Bool.not_eq_false']at h2
  refine ae ⟨[(1,.ptr 1 0 0),(13,.sl 2 0 6 none),(14,I 6),(15,I 3)],[.ints false .i8 zs,.cells true [I f,I r,.sl 0 0 zs.length none,Bb bl,.int .u8 ca,I pa,I ha,I fu],.vals true 1 [[.fn 82 [.ptr 1 0 0]],[.fn 84 [.ptr 1 0 0]],[.fn 86 [.ptr 1 0 0]],[.fn 88 [.ptr 1 0 0]],[.fn 90 [.ptr 1 0 0]],[.fn 92 [.ptr 1 0 0]]]],Ent.ren [0,1,2] [1,13,14,15] rfl rfl rfl,?_⟩
  refine rnd ?_
  refine ck (by rfl) ?_
  repeat (first|(first|refine ah ?_|refine sat_nd ?_)|refine ag (bL hc2 rfl) ?_|refine ag (bU hc2 rfl h0t) ?_)
  refine ax (fun h3=>?_) (fun h3=>?_)
  ·have h3:(!gj f r (tk zs) ca)=true:=h3
   rw[aS,Bool.not_eq_true']at h3
   exact ae (ae (ai (.inr rfl) rfl rfl rfl (by simp[Psn.ok,h0,h1,h2,h3])))
  have h3:(!gj f r (tk zs) ca)=false:=h3
  rw[aS,Bool.not_eq_false']at h3
  refine ae ⟨[(1,.ptr 1 0 0),(13,.sl 2 0 6 none),(14,I 6),(15,I 4)],[.ints false .i8 zs,.cells true [I f,I r,.sl 0 0 zs.length none,Bb bl,.int .u8 ca,I pa,I ha,I fu],.vals true 1 [[.fn 82 [.ptr 1 0 0]],[.fn 84 [.ptr 1 0 0]],[.fn 86 [.ptr 1 0 0]],[.fn 88 [.ptr 1 0 0]],[.fn 90 [.ptr 1 0 0]],[.fn 92 [.ptr 1 0 0]]]],Ent.ren [0,1,2] [1,13,14,15] rfl rfl rfl,?_⟩
  refine rnd ?_
  refine ck (by rfl) ?_
  repeat (first|(first|refine ah ?_|refine sat_nd ?_)|refine ag (bL hc2 rfl) ?_|refine ag (bU hc2 rfl h0t) ?_)
  refine ax (fun h4=>?_) (fun h4=>?_)
  ·have h4:(!jx f r (tk zs) bl pa ha)=true:=h4
   rw[aS,Bool.not_eq_true']at h4
   exact ae (ae (ai (.inr rfl) rfl rfl rfl (by simp[Psn.ok,h0,h1,h2,h3,h4])))
  have h4:(!jx f r (tk zs) bl pa ha)=false:=h4
  rw[aS,Bool.not_eq_false']at h4
  refine ae ⟨[(1,.ptr 1 0 0),(13,.sl 2 0 6 none),(14,I 6),(15,I 5)],[.ints false .i8 zs,.cells true [I f,I r,.sl 0 0 zs.length none,Bb bl,.int .u8 ca,I pa,I ha,I fu],.vals true 1 [[.fn 82 [.ptr 1 0 0]],[.fn 84 [.ptr 1 0 0]],[.fn 86 [.ptr 1 0 0]],[.fn 88 [.ptr 1 0 0]],[.fn 90 [.ptr 1 0 0]],[.fn 92 [.ptr 1 0 0]]]],Ent.ren [0,1,2] [1,13,14,15] rfl rfl rfl,?_⟩
  refine rnd ?_
  refine ck (by rfl) ?_
  repeat (first|(first|refine ah ?_|refine sat_nd ?_)|refine ag (bL hc2 rfl) ?_|refine ag (bU hc2 rfl h0t) ?_)
  refine ax (fun h5=>?_) (fun h5=>?_)
  ·have h5:(!cntB ha fu)=true:=h5
   rw[Bool.not_eq_true']at h5
   exact ae (ae (ai (.inr rfl) rfl rfl rfl (by simp[Psn.ok,h0,h1,h2,h3,h4,h5])))
  have h5:(!cntB ha fu)=false:=h5
  rw[Bool.not_eq_false']at h5
  refine ae ⟨[(1,.ptr 1 0 0),(13,.sl 2 0 6 none),(14,I 6),(15,I 6)],[.ints false .i8 zs,.cells true [I f,I r,.sl 0 0 zs.length none,Bb bl,.int .u8 ca,I pa,I ha,I fu],.vals true 1 [[.fn 82 [.ptr 1 0 0]],[.fn 84 [.ptr 1 0 0]],[.fn 86 [.ptr 1 0 0]],[.fn 88 [.ptr 1 0 0]],[.fn 90 [.ptr 1 0 0]],[.fn 92 [.ptr 1 0 0]]]],Ent.ren [0,1,2] [1,13,14,15] rfl rfl rfl,?_⟩
  refine rnd ?_
  refine vS (by rfl) ?_
  refine ae (ae (ai (.inr rfl) rfl rfl rfl (by simp[Psn.ok,h0,h1,h2,h3,h4,h5])))
 ·cases e
end
section
variable{kCa kDb:Bool}
def mD(k:Int)(bl:Bool):Int:=bif bl then w8 (0-k)else k
def dj(r:Int)(bl:Bool)(n:Int):Int:=bif bl then IntKind.i64.wrap (r-n)else IntKind.i64.wrap (n-1)
def rX(r:Int)(bl:Bool):Int:=bif bl then 0 else IntKind.i64.wrap (r-1)
def chkL(f r:Int)(zs:List Int)(bl:Bool):Bool:=decide (0<((attL f r zs (bh zs bl) (!bl)).length:Int))
def jw(f r:Int)(zs:List Int)(bit:Int):Bool:=bif !decide (f=8)||!decide (r=8)then false else bif decide (bit=1)then decide (zs.getD 4 0=6)&&decide (zs.getD 7 0=4)else bif decide (bit=2)then decide (zs.getD 4 0=6)&&decide (zs.getD 0 0=4)else bif decide (bit=4)then decide (zs.getD 60 0=-6)&&decide (zs.getD 63 0=-4)else decide (zs.getD 60 0=-6)&&decide (zs.getD 56 0=-4)
theorem mh:bP 8 8 [101,49]=4:=by kernel_rfl
theorem om:bP 8 8 [104,49]=7:=by kernel_rfl
theorem pq:bP 8 8 [97,49]=0:=by kernel_rfl
theorem mz:bP 8 8 [101,56]=60:=by kernel_rfl
theorem pB:bP 8 8 [104,56]=63:=by kernel_rfl
theorem nH:bP 8 8 [97,56]=56:=by kernel_rfl
def oq:CF
 |[.int .i8 k,.bool bl],[]=>some (true,.int .i8 (mD k bl),[])
 |_,_=>none
theorem tM:CtOk (GGx kCa kDb) PP (115,oq):=by
 refine aG Tryz.func115 (by kernel_rfl) rfl fun a0 h0 c0 v0 N0 e hc=>?_
 unfold oq at e
 split at e
 ·rename_i k bl
  cases e
  have hE:=aF (kCa:=kCa) (kDb:=kDb) (cts:=[]) (inl:=[]) trivial trivial
  refine ak hE 2 Tryz.func115 rfl rfl ?_
  repeat' first|(first|refine ah ?_|refine sat_nd ?_)|refine ax (fun h=>?_) (fun h=>?_)
  all_goals exact ae (ai (.inr rfl) rfl rfl rfl (by first|rfl|(simp only[mD, *,cond_true,cond_false];done)|(simp only[mD, *,cond_true,cond_false,Bool.not_true,Bool.not_false,Bool.and_true,Bool.true_and,Bool.and_false,Bool.false_and,Bool.or_true,Bool.true_or,Bool.or_false,Bool.false_or];done)|simp_all [mD]))
 ·cases e
def tC:CF
 |[.agg [.int .i64 _f,.int .i64 r],.bool bl,.int .i64 n],[]=>some (true,.int .i64 (dj r bl n),[])
 |_,_=>none
theorem yQ:CtOk (GGx kCa kDb) PP (113,tC):=by
 refine aG Tryz.func113 (by kernel_rfl) rfl fun a0 h0 c0 v0 N0 e hc=>?_
 unfold tC at e
 split at e
 ·rename_i f r bl n
  cases e
  have hE:=aF (kCa:=kCa) (kDb:=kDb) (cts:=[]) (inl:=[]) trivial trivial
  refine ak hE 2 Tryz.func113 rfl rfl ?_
  repeat' first|(first|refine ah ?_|refine sat_nd ?_)|refine ax (fun h=>?_) (fun h=>?_)
  all_goals exact ae (ai (.inr rfl) rfl rfl rfl (by first|rfl|(simp only[dj, *,cond_true,cond_false];done)|(simp only[dj, *,cond_true,cond_false,Bool.not_true,Bool.not_false,Bool.and_true,Bool.true_and,Bool.and_false,Bool.false_and,Bool.or_true,Bool.true_or,Bool.or_false,Bool.false_or];done)|simp_all [dj]))
 ·cases e
def nR:CF
 |[.agg [.int .i64 _f,.int .i64 r],.bool bl],[]=>some (true,.int .i64 (rX r bl),[])
 |_,_=>none
theorem mO:CtOk (GGx kCa kDb) PP (59,nR):=by
 refine aG Tryz.func59 (by kernel_rfl) rfl fun a0 h0 c0 v0 N0 e hc=>?_
 unfold nR at e
 split at e
 ·rename_i f r bl
  cases e
  have hE:=aF (kCa:=kCa) (kDb:=kDb) (cts:=[]) (inl:=[]) trivial trivial
  refine ak hE 2 Tryz.func59 rfl rfl ?_
  repeat' first|(first|refine ah ?_|refine sat_nd ?_)|refine ax (fun h=>?_) (fun h=>?_)
  all_goals exact ae (ai (.inr rfl) rfl rfl rfl (by first|rfl|(simp only[rX, *,cond_true,cond_false];done)|(simp only[rX, *,cond_true,cond_false,Bool.not_true,Bool.not_false,Bool.and_true,Bool.true_and,Bool.and_false,Bool.false_and,Bool.or_true,Bool.true_or,Bool.or_false,Bool.false_or];done)|simp_all [rX]))
 ·cases e
def CL:CF
 |[.agg [.int .i64 f,.int .i64 r,.sl 0 0 len none,.bool _bl,.int .u8 _ca,.int .i64 _pa,.int .i64 _ha,.int .i64 _fu]],[.ints false .i8 _zs]=>some (true,.agg [I f,I r,.sl 0 0 len none],[])
 |_,_=>none
theorem pE:CtOk (GGx kCa kDb) PP (53,CL):=by
 refine aG Tryz.func53 (by kernel_rfl) rfl fun a0 h0 c0 v0 N0 e hc=>?_
 unfold CL at e
 split at e
 ·rename_i f r len bl ca pa ha fu zs
  cases e
  have hE:=aF (kCa:=kCa) (kDb:=kDb) (cts:=[]) (inl:=[]) trivial trivial
  refine Ce hE 2 Tryz.func53 rfl rfl ?_
  repeat (first|refine ah ?_|refine sat_nd ?_)
  exact ae ⟨.inr rfl,_,rfl,rfl,rfl⟩
 ·cases e
def kg:CF
 |[.agg [.int .i64 f,.int .i64 r,.sl 0 0 len none],.bool bl],[.ints false .i8 zs]=>some (decide (len=zs.length)&&decide (zs.length<=64)&&vsB f r,.bool (chkL f r zs bl),[])
 |_,_=>none
theorem kK:CtOk (GGx kCa kDb) PP (56,kg):=by
 refine aG Tryz.func56 (by kernel_rfl) rfl fun a0 h0 c0 v0 N0 e hc=>?_
 unfold kg at e
 split at e
 ·rename_i f r len bl zs
  cases e
  have hE:=aF (kCa:=kCa) (kDb:=kDb) (cts:=[(55,fk),(111,ec)]) (inl:=[]) ⟨fF,ij,trivial⟩ trivial
  refine ak hE 2 Tryz.func56 rfl rfl ?_
  simp only[Bool.and_eq_true,decide_eq_true_eq]at hc
  obtain⟨⟨rfl,hc2⟩,hv⟩:=hc
  repeat (first|(first|refine ah ?_|refine sat_nd ?_)|refine ag (bL hc2 rfl) ?_|refine ag (bU hc2 rfl hv) ?_)
  refine ae (ai (.inr rfl) rfl rfl rfl (by
   show V.bool (chkL f r (tk zs) bl)=_
   rw[aS]))
 ·cases e
def HX:CF
 |[.agg [.int .i64 _f,.int .i64 _r,.sl 0 0 len none,.bool _bl,.int .u8 _ca,.int .i64 _pa,.int .i64 _ha,.int .i64 _fu],.str s],[.ints false .i8 zs]=>some (decide (len=zs.length)&&decide (zs.length<=64)&&decide (0<=bP 8 8 s)&&decide (bP 8 8 s<zs.length),.int .i8 (zs.getD (bP 8 8 s).toNat 0),[])
 |_,_=>none
theorem FF:CtOk (GGx kCa kDb) PP (147,HX):=by
 refine aG Tryz.func147 (by kernel_rfl) rfl fun a0 h0 c0 v0 N0 e hc=>?_
 unfold HX at e
 split at e
 ·rename_i f r len bl ca pa ha fu s zs
  cases e
  have hE:=aF (kCa:=kCa) (kDb:=kDb) (cts:=[(101,og)]) (inl:=[]) ⟨mW,trivial⟩ trivial
  refine ak hE 2 Tryz.func147 rfl rfl ?_
  simp only[Bool.and_eq_true,decide_eq_true_eq]at hc
  obtain⟨⟨⟨rfl,hc2⟩,h0⟩,h1⟩:=hc
  repeat (first|(first|refine ah ?_|refine sat_nd ?_)|refine ag (by simp only[Bool.and_eq_true,decide_eq_true_eq];omega) ?_)
  exact ae (ai (.inr rfl) rfl rfl rfl rfl)
 ·cases e
theorem aX{zs:List Int}{s:List UInt8}{n:Nat}(h:bP 8 8 s=n)(h2:n<64)(h64:zs.length=64):(decide (zs.length=(tk zs).length)&&decide ((tk zs).length<=64)&&decide (0<=bP 8 8 s)&&decide (bP 8 8 s<(tk zs).length))=true:=by
 rw[dI,h,h64];simp;omega
theorem aW{zs:List Int}{s:List UInt8}{n:Nat}{g:Bool}(h:bP 8 8 s=n)(h2:n<64)(h64:zs.length=64):(!g||(decide (zs.length=(tk zs).length)&&decide ((tk zs).length<=64)&&decide (0<=bP 8 8 s)&&decide (bP 8 8 s<(tk zs).length)))=true:=by
 rw[aX h h2 h64];simp
def tY:CF
 |[.agg [.int .i64 f,.int .i64 r,.sl 0 0 len none,.bool _bl,.int .u8 _ca,.int .i64 _pa,.int .i64 _ha,.int .i64 _fu],.int .u8 bit],[.ints false .i8 zs]=>some (decide (len=zs.length)&&decide (zs.length<=64)&&(!decide (f=8)||!decide (r=8)||decide (zs.length=64)),.bool (jw f r zs bit),[])
 |_,_=>none
theorem xS:CtOk (GGx kCa kDb) PP (112,tY):=by
 refine aG Tryz.func112 (by kernel_rfl) rfl fun a0 h0 c0 v0 N0 e hc=>?_
 unfold tY at e
 split at e
 ·rename_i f r len bl ca pa ha fu bit zs
  cases e
  have hE:=aF (kCa:=kCa) (kDb:=kDb) (cts:=[(147,HX)]) (inl:=[]) ⟨FF,trivial⟩ trivial
  refine ak hE 2 Tryz.func112 rfl rfl ?_
  simp only[Bool.and_eq_true,decide_eq_true_eq]at hc
  obtain⟨⟨rfl,hc2⟩,hv⟩:=hc
  repeat (first|refine ah ?_|refine sat_nd ?_)
  refine ax (fun h=>?_) (fun h=>?_)
  ·have h:(!decide (f=8)||!decide (r=8))=true:=h
   exact ae (ai (.inr rfl) rfl rfl rfl (by rw[jw,h];rfl))
  have h:(!decide (f=8)||!decide (r=8))=false:=h
  have h64:zs.length=64:=by
   rw[h]at hv;simpa using hv
  refine ax (fun h1=>?_) (fun h1=>?_)
  ·have h1:decide (bit=1)=true:=h1
   repeat (first|(first|refine ah ?_|refine sat_nd ?_)|refine ag (aX (n:=4) mh (by decide) h64) ?_|refine ag (aW (n:=4) mh (by decide) h64) ?_|refine ag (aX (n:=7) om (by decide) h64) ?_|refine ag (aW (n:=7) om (by decide) h64) ?_|refine ag (aX (n:=0) pq (by decide) h64) ?_|refine ag (aW (n:=0) pq (by decide) h64) ?_|refine ag (aX (n:=60) mz (by decide) h64) ?_|refine ag (aW (n:=60) mz (by decide) h64) ?_|refine ag (aX (n:=63) pB (by decide) h64) ?_|refine ag (aW (n:=63) pB (by decide) h64) ?_|refine ag (aX (n:=56) nH (by decide) h64) ?_|refine ag (aW (n:=56) nH (by decide) h64) ?_)
   exact ae (ai (.inr rfl) rfl rfl rfl (congrArg V.bool (by
    show (decide ((tk zs).getD (bP 8 8 [101,49]).toNat 0=6)&&decide ((tk zs).getD (bP 8 8 [104,49]).toNat 0=4))=_
    rw[aS,mh,om,jw,h,h1];rfl)))
  have h1:decide (bit=1)=false:=h1
  refine ax (fun h2=>?_) (fun h2=>?_)
  ·have h2:decide (bit=2)=true:=h2
   repeat (first|(first|refine ah ?_|refine sat_nd ?_)|refine ag (aX (n:=4) mh (by decide) h64) ?_|refine ag (aW (n:=4) mh (by decide) h64) ?_|refine ag (aX (n:=7) om (by decide) h64) ?_|refine ag (aW (n:=7) om (by decide) h64) ?_|refine ag (aX (n:=0) pq (by decide) h64) ?_|refine ag (aW (n:=0) pq (by decide) h64) ?_|refine ag (aX (n:=60) mz (by decide) h64) ?_|refine ag (aW (n:=60) mz (by decide) h64) ?_|refine ag (aX (n:=63) pB (by decide) h64) ?_|refine ag (aW (n:=63) pB (by decide) h64) ?_|refine ag (aX (n:=56) nH (by decide) h64) ?_|refine ag (aW (n:=56) nH (by decide) h64) ?_)
   exact ae (ai (.inr rfl) rfl rfl rfl (congrArg V.bool (by
    show (decide ((tk zs).getD (bP 8 8 [101,49]).toNat 0=6)&&decide ((tk zs).getD (bP 8 8 [97,49]).toNat 0=4))=_
    rw[aS,mh,pq,jw,h,h1,h2];rfl)))
  have h2:decide (bit=2)=false:=h2
  refine ax (fun h3=>?_) (fun h3=>?_)
  ·have h3:decide (bit=4)=true:=h3
   repeat (first|(first|refine ah ?_|refine sat_nd ?_)|refine ag (aX (n:=4) mh (by decide) h64) ?_|refine ag (aW (n:=4) mh (by decide) h64) ?_|refine ag (aX (n:=7) om (by decide) h64) ?_|refine ag (aW (n:=7) om (by decide) h64) ?_|refine ag (aX (n:=0) pq (by decide) h64) ?_|refine ag (aW (n:=0) pq (by decide) h64) ?_|refine ag (aX (n:=60) mz (by decide) h64) ?_|refine ag (aW (n:=60) mz (by decide) h64) ?_|refine ag (aX (n:=63) pB (by decide) h64) ?_|refine ag (aW (n:=63) pB (by decide) h64) ?_|refine ag (aX (n:=56) nH (by decide) h64) ?_|refine ag (aW (n:=56) nH (by decide) h64) ?_)
   exact ae (ai (.inr rfl) rfl rfl rfl (congrArg V.bool (by
    show (decide ((tk zs).getD (bP 8 8 [101,56]).toNat 0=-6)&&decide ((tk zs).getD (bP 8 8 [104,56]).toNat 0=-4))=_
    rw[aS,mz,pB,jw,h,h1,h2,h3];rfl)))
  have h3:decide (bit=4)=false:=h3
  repeat (first|(first|refine ah ?_|refine sat_nd ?_)|refine ag (aX (n:=4) mh (by decide) h64) ?_|refine ag (aW (n:=4) mh (by decide) h64) ?_|refine ag (aX (n:=7) om (by decide) h64) ?_|refine ag (aW (n:=7) om (by decide) h64) ?_|refine ag (aX (n:=0) pq (by decide) h64) ?_|refine ag (aW (n:=0) pq (by decide) h64) ?_|refine ag (aX (n:=60) mz (by decide) h64) ?_|refine ag (aW (n:=60) mz (by decide) h64) ?_|refine ag (aX (n:=63) pB (by decide) h64) ?_|refine ag (aW (n:=63) pB (by decide) h64) ?_|refine ag (aX (n:=56) nH (by decide) h64) ?_|refine ag (aW (n:=56) nH (by decide) h64) ?_)
  exact ae (ai (.inr rfl) rfl rfl rfl (congrArg V.bool (by
   show (decide ((tk zs).getD (bP 8 8 [101,56]).toNat 0=-6)&&decide ((tk zs).getD (bP 8 8 [97,56]).toNat 0=-4))=_
   rw[aS,mz,nH,jw,h,h1,h2,h3];rfl)))
 ·cases e
end
end Go.Ab
namespace Go.Ab
open IntKind
open Go.Proofs
section
variable{kCa kDb:Bool}
def rXL(f r:Int)(zs:List Int)(ca bit:Int):Bool:=decide ((u8.wrap (ca.tdiv bit)).tmod 2=1)&&!jw f r zs bit
def ju(f r:Int)(zs:List Int)(ca:Int):Bool:=bif decide (15<ca)then false else !(rXL f r zs ca 1||rXL f r zs ca 2||rXL f r zs ca 4||rXL f r zs ca 8)
def pasL(f r:Int)(zs:List Int)(bl:Bool)(pa ha:Int):Bool:=bif decide (pa=-1)then true else bif decide (r<6)||!decide (ha=0)||!aA f r pa then false else bif !decide (i64.wrap (2*i64.wrap (pa.tdiv f))=i64.wrap (dj r (!bl) 2+dj r (!bl) 4))then false else decide (zs.getD pa.toNat 0=0)&&decide (zs.getD (numR f r (pa.tmod f) (dj r (!bl) 2)).toNat 0=0)&&decide (zs.getD (numR f r (pa.tmod f) (dj r (!bl) 4)).toNat 0=mD 1 (!bl))
def pwL(f r:Int)(zs:List Int)(i:Int):Bool:=decide (lD (zs.getD i.toNat 0)=1)&&decide (i64.wrap (i.tdiv f)=rX r (decide (zs.getD i.toNat 0<0)))
def mu(f r:Int)(zs:List Int):Bool:=(List.range zs.length).any fun i=>pwL f r zs i
def dy(p:Psn):Bool:=bif !aZ p.f p.r p.zs||decide (bh p.zs false<0)||decide (bh p.zs true<0)||chkL p.f p.r p.zs (!p.bl)then false else bif mu p.f p.r p.zs then false else ju p.f p.r p.zs p.ca&&pasL p.f p.r p.zs p.bl p.pa p.ha&&decide (0<=p.ha)&&decide (p.ha<=10000)&&decide (1<=p.fu)&&decide (p.fu<=10000)
theorem jO{f r:Int}{zs:List Int}{g:Bool}(hc2:zs.length<=64)(hv:(!decide (f=8)||!decide (r=8)||decide (zs.length=64))=true):(!g||(decide (zs.length=(tk zs).length)&&decide ((tk zs).length<=64)&&(!decide (f=8)||!decide (r=8)||decide ((tk zs).length=64))))=true:=by
 rw[dI,hv];simp[hc2]
theorem vD{f r x:Int}{zs:List Int}{bl:Bool}{n:Int}(hbd:aL f r zs=true)(hx:0<=x/\x<f)(hr:6<=r)(hn:n=2\/n=4):0<=numR f r x (dj r bl n)/\numR f r x (dj r bl n)<zs.length:=by
 have hv:=(bS hbd).1
 have hb:=cS hv
 have hk:dj r bl n=(bif bl then r-n else n-1):=by
  unfold dj;cases bl
  ·exact aK (by omega) (by omega)
  ·exact aK (by omega) (by omega)
 have ho:onB f r x (dj r bl n)=true:=by
  rw[hk];cases bl
  ·exact qx hx.1 hx.2 (by simp only[cond_false];omega) (by simp only[cond_false];omega)
  ·exact qx hx.1 hx.2 (by simp only[cond_true];omega) (by simp only[cond_true];omega)
 rcases zf f r x (dj r bl n) hv with⟨_,h⟩|⟨h,_⟩
 ·exact(sE hbd).1 h
 ·rw[ho]at h;cases h
theorem EL{zs:List Int}(h:zs.length<=64){n:Nat}(hn:n=zs.length){g:Bool}:(!g||(decide (n=(tk zs).length)&&decide ((tk zs).length<=64)))=true:=by rw[bL h hn];simp
theorem jR{zs:List Int}(h:zs.length<=64){g b:Bool}(hb:b=true):(!g||(decide (zs.length=(tk zs).length)&&decide ((tk zs).length<=64)&&b))=true:=by rw[bU h rfl hb];simp
theorem ox{g:Bool}{x:Int}{n:Nat}(h:0<=x/\x<n):(!g||(decide (0<=x)&&decide (x<n)))=true:=by simp[h]
def hU:CF
 |[.agg [.int .i64 f,.int .i64 r,.sl 0 0 len none,.bool _bl,.int .u8 ca,.int .i64 _pa,.int .i64 _ha,.int .i64 _fu]],[.ints false .i8 zs]=>some (decide (len=zs.length)&&decide (zs.length<=64)&&(!decide (f=8)||!decide (r=8)||decide (zs.length=64)),.bool (ju f r zs ca),[])
 |_,_=>none
theorem je:CtOk (GGx kCa kDb) PP (60,hU):=by
 refine aG Tryz.func60 (by kernel_rfl) rfl fun a0 h0 c0 v0 N0 e hc=>?_
 unfold hU at e
 split at e
 ·rename_i f r len bl ca pa ha fu zs
  cases e
  have hE:=aF (kCa:=kCa) (kDb:=kDb) (cts:=[(112,tY)]) (inl:=[]) ⟨xS,trivial⟩ trivial
  refine ak hE 2 Tryz.func60 rfl rfl ?_
  simp only[Bool.and_eq_true,decide_eq_true_eq]at hc
  obtain⟨⟨rfl,hc2⟩,hv⟩:=hc
  refine ax (fun h=>?_) (fun h=>?_)
  ·have h:decide (15<ca)=true:=h
   exact ae (ai (.inr rfl) rfl rfl rfl (by rw[ju,h];rfl))
  have h:decide (15<ca)=false:=h
  repeat (first|refine ah ?_|refine sat_nd ?_)
  refine dn hE 2 5 ?_
  refine rnd ?_
  refine ck (by rfl) ?_
  repeat (first|(first|refine ah ?_|refine sat_nd ?_)|refine ag (jO hc2 hv) ?_)
  refine ax (fun h0=>?_) (fun h0=>?_)
  ·have h0:rXL f r (tk zs) ca 1=true:=h0
   rw[aS]at h0
   exact ae (ae (ai (.inr rfl) rfl rfl rfl (by simp[ju,h,h0])))
  have h0:rXL f r (tk zs) ca 1=false:=h0
  rw[aS]at h0
  refine ae ⟨[(1,.ptr 1 0 0),(8,.sl 2 0 4 none),(9,I 4),(10,I 1)],[.ints false .i8 zs,.cells true [I f,I r,.sl 0 0 zs.length none,Bb bl,.int .u8 ca,I pa,I ha,I fu],.ints true .u8 [1,2,4,8]],Ent.ren [0,1,2] [1,8,9,10] rfl rfl rfl,?_⟩
  refine rnd ?_
  refine ck (by rfl) ?_
  repeat (first|(first|refine ah ?_|refine sat_nd ?_)|refine ag (jO hc2 hv) ?_)
  refine ax (fun h1=>?_) (fun h1=>?_)
  ·have h1:rXL f r (tk zs) ca 2=true:=h1
   rw[aS]at h1
   exact ae (ae (ai (.inr rfl) rfl rfl rfl (by simp[ju,h,h0,h1])))
  have h1:rXL f r (tk zs) ca 2=false:=h1
  rw[aS]at h1
  refine ae ⟨[(1,.ptr 1 0 0),(8,.sl 2 0 4 none),(9,I 4),(10,I 2)],[.ints false .i8 zs,.cells true [I f,I r,.sl 0 0 zs.length none,Bb bl,.int .u8 ca,I pa,I ha,I fu],.ints true .u8 [1,2,4,8]],Ent.ren [0,1,2] [1,8,9,10] rfl rfl rfl,?_⟩
  refine rnd ?_
  refine ck (by rfl) ?_
  repeat (first|(first|refine ah ?_|refine sat_nd ?_)|refine ag (jO hc2 hv) ?_)
  refine ax (fun h2=>?_) (fun h2=>?_)
  ·have h2:rXL f r (tk zs) ca 4=true:=h2
   rw[aS]at h2
   exact ae (ae (ai (.inr rfl) rfl rfl rfl (by simp[ju,h,h0,h1,h2])))
  have h2:rXL f r (tk zs) ca 4=false:=h2
  rw[aS]at h2
  refine ae ⟨[(1,.ptr 1 0 0),(8,.sl 2 0 4 none),(9,I 4),(10,I 3)],[.ints false .i8 zs,.cells true [I f,I r,.sl 0 0 zs.length none,Bb bl,.int .u8 ca,I pa,I ha,I fu],.ints true .u8 [1,2,4,8]],Ent.ren [0,1,2] [1,8,9,10] rfl rfl rfl,?_⟩
  refine rnd ?_
  refine ck (by rfl) ?_
  repeat (first|(first|refine ah ?_|refine sat_nd ?_)|refine ag (jO hc2 hv) ?_)
  refine ax (fun h3=>?_) (fun h3=>?_)
  ·have h3:rXL f r (tk zs) ca 8=true:=h3
   rw[aS]at h3
   exact ae (ae (ai (.inr rfl) rfl rfl rfl (by simp[ju,h,h0,h1,h2,h3])))
  have h3:rXL f r (tk zs) ca 8=false:=h3
  rw[aS]at h3
  refine ae ⟨[(1,.ptr 1 0 0),(8,.sl 2 0 4 none),(9,I 4),(10,I 4)],[.ints false .i8 zs,.cells true [I f,I r,.sl 0 0 zs.length none,Bb bl,.int .u8 ca,I pa,I ha,I fu],.ints true .u8 [1,2,4,8]],Ent.ren [0,1,2] [1,8,9,10] rfl rfl rfl,?_⟩
  refine rnd ?_
  refine vS (by rfl) ?_
  exact ae (ae (ai (.inr rfl) rfl rfl rfl (by simp[ju,h,h0,h1,h2,h3])))
 ·cases e
def fS:CF
 |[.agg [.int .i64 f,.int .i64 r,.sl 0 0 len none,.bool bl,.int .u8 _ca,.int .i64 pa,.int .i64 ha,.int .i64 _fu]],[.ints false .i8 zs]=>some (decide (len=zs.length)&&decide (zs.length<=64)&&aL f r zs,.bool (pasL f r zs bl pa ha),[])
 |_,_=>none
theorem gI:CtOk (GGx kCa kDb) PP (61,fS):=by
 refine aG Tryz.func61 (by kernel_rfl) rfl fun a0 h0 c0 v0 N0 e hc=>?_
 unfold fS at e
 split at e
 ·rename_i f r len bl ca pa ha fu zs
  cases e
  have hE:=aF (kCa:=kCa) (kDb:=kDb) (cts:=[(93,lH),(58,dJ),(113,tC),(114,jL),(115,oq)]) (inl:=[]) ⟨iP,cj,yQ,kR,tM,trivial⟩ trivial
  refine ak hE 2 Tryz.func61 rfl rfl ?_
  simp only[Bool.and_eq_true,decide_eq_true_eq]at hc
  obtain⟨⟨rfl,hc2⟩,hv⟩:=hc
  refine ax (fun h=>?_) (fun h=>?_)
  ·have h:decide (pa=-1)=true:=h
   exact ae (ai (.inr rfl) rfl rfl rfl (by rw[pasL,h];rfl))
  have h:decide (pa=-1)=false:=h
  repeat (first|refine ah ?_|refine sat_nd ?_)
  refine ax (fun h1=>?_) (fun h1=>?_)
  ·have h1:(decide (r<6)||!decide (ha=0)||!aA f r pa)=true:=h1
   exact ae (ai (.inr rfl) rfl rfl rfl (by rw[pasL,h,h1];rfl))
  have h1:(decide (r<6)||!decide (ha=0)||!aA f r pa)=false:=h1
  have h1':=h1
  simp only[Bool.or_eq_false_iff,decide_eq_false_iff_not,Bool.not_eq_false']at h1'
  obtain⟨⟨hr,_⟩,hpv⟩:=h1'
  have hf0:(!decide (f=0))=true:=by have:=cS (bS hv).1;simp;omega
  obtain⟨hp1,hp2⟩:=(sE hv).1 hpv
  obtain⟨_,hx1,hx2,_⟩:=tN hpv
  have n2:=vD (bl:=!bl) (n:=2) hv ⟨hx1,hx2⟩ (by omega) (.inl rfl)
  have n4:=vD (bl:=!bl) (n:=4) hv ⟨hx1,hx2⟩ (by omega) (.inr rfl)
  repeat (first|(first|refine ah ?_|refine sat_nd ?_)|refine ag hf0 ?_)
  refine ax (fun h2=>?_) (fun h2=>?_)
  ·have h2:(!decide (i64.wrap (2*i64.wrap (pa.tdiv f))=i64.wrap (dj r (!bl) 2+dj r (!bl) 4)))=true:=h2
   exact ae (ai (.inr rfl) rfl rfl rfl (by rw[pasL,h,h1,h2];rfl))
  have h2:(!decide (i64.wrap (2*i64.wrap (pa.tdiv f))=i64.wrap (dj r (!bl) 2+dj r (!bl) 4)))=false:=h2
  repeat (first|(first|refine ah ?_|refine sat_nd ?_)|refine ag (by simp only[Bool.and_eq_true,decide_eq_true_eq];exact⟨hp1,hp2⟩) ?_|refine ag (ox n2) ?_|refine ag (ox n4) ?_)
  exact ae (ai (.inr rfl) rfl rfl rfl (by rw[pasL,h,h1,h2];rfl))
 ·cases e
theorem Eo{f r:Int}{zs:List Int}{_bl:Bool}{x y:Bool}(hc2:zs.length<=64):(!(!(!aZ f r (tk zs)||x||y))||(decide (zs.length=(tk zs).length)&&decide ((tk zs).length<=64)&&vsB f r))=true:=by
 cases h:aZ f r (tk zs) with
 |false=>simp
 |true=>rw[dI,(bw h).1];simp[hc2]
theorem v88{f r:Int}{zs:List Int}(h:aL f r zs=true):(!decide (f=8)||!decide (r=8)||decide (zs.length=64))=true:=by
 cases h8:is88 f r with
 |false=>simp only[is88,Bool.and_eq_false_iff]at h8;rcases h8 with h8|h8<;>rw[h8]<;>simp
 |true=>rw[ID h h8];simp
def jG:CF
 |[.agg [.int .i64 f,.int .i64 r,.sl 0 0 len none,.bool bl,.int .u8 ca,.int .i64 pa,.int .i64 ha,.int .i64 fu]],[.ints false .i8 zs]=>some (decide (len=zs.length)&&decide (zs.length<=64),.bool (dy ⟨f,r,zs,bl,ca,pa,ha,fu⟩),[])
 |_,_=>none
theorem kL:CtOk (GGx kCa kDb) PP (15,jG):=by
 refine aG Tryz.func15 (by kernel_rfl) rfl fun a0 h0 c0 v0 N0 e hc=>?_
 unfold jG at e
 split at e
 ·rename_i f r len bl ca pa ha fu zs
  cases e
  have hE:=aF (kCa:=kCa) (kDb:=kDb) (cts:=[(54,so),(55,fk),(56,kg),(57,hY),(58,dJ),(59,nR),(60,hU),(61,fS)]) (inl:=[(53,Tryz.f53)]) ⟨yd,fF,kK,gi,cj,mO,je,gI,trivial⟩ ⟨⟨Tryz.func53,by kernel_rfl⟩,trivial⟩
  refine ak hE 2 Tryz.func15 rfl rfl ?_
  simp only[Bool.and_eq_true,decide_eq_true_eq]at hc
  obtain⟨rfl,hc2⟩:=hc
  repeat (first|(first|refine ah ?_|refine sat_nd ?_)|refine ag (bL hc2 rfl) ?_|refine ag (EL hc2 rfl) ?_|refine ag (Eo (_bl:=bl) hc2) ?_)
  refine ax (fun h=>?_) (fun h=>?_)
  ·have h:(!aZ f r (tk zs)||decide (bh (tk zs) false<0)||decide (bh (tk zs) true<0)||chkL f r (tk zs) (!bl))=true:=h
   rw[aS]at h
   exact ae (ai (.inr rfl) rfl rfl rfl (by simp only[dy,h,cond_true]))
  have h:(!aZ f r (tk zs)||decide (bh (tk zs) false<0)||decide (bh (tk zs) true<0)||chkL f r (tk zs) (!bl))=false:=h
  rw[aS]at h
  have h':=h
  simp only[Bool.or_eq_false_iff,Bool.not_eq_false']at h'
  obtain⟨hvs,_,hbd,_⟩:=bw h'.1.1.1
  have hf0:(!decide (f=0))=true:=by have:=cS hvs;simp;omega
  have hf1:∀ g:Bool,(!g||!decide (f=0))=true:=fun g=>by rw[hf0];simp
  have h88:=v88 hbd
  have h88t:(!decide (f=8)||!decide (r=8)||decide ((tk zs).length=64))=true:=by rw[aS];exact h88
  have hbdt:aL f r (tk zs)=true:=by rw[aS];exact hbd
  refine bK hE 2 (fun i (_:Unit)=>([(1,.ptr 1 0 0),(4,I i)],[.ints false .i8 zs,.cells true [I f,I r,.sl 0 0 zs.length none,Bb bl,.int .u8 ca,I pa,I ha,I fu]])) zs.length (fun j _=>∀ k,k<j->pwL f r zs (k:Nat)=false) () (by omega) (Ent.ren [0,1] [1,4] rfl rfl rfl) (fun k hk=>absurd hk (by omega)) ?_
  intro j i _ hij hj hz
  refine ax (fun hlt=>?_) (fun hlt=>?_)
  ·have hlt':j<zs.length:=by simp at hlt;omega
   repeat (first|(first|refine ah ?_|refine sat_nd ?_)|refine ag (by simp only[Bool.and_eq_true,decide_eq_true_eq];omega) ?_|refine ag (hf1 _) ?_|refine ag (ox ⟨by omega,by omega⟩) ?_)
   refine ax (fun hon=>?_) (fun hon=>?_)
   ·have hon:pwL f r zs i=true:=hon
    have hpw:mu f r zs=true:=List.any_eq_true.2 ⟨j,List.mem_range.2 hlt',by rw[<-hij];exact hon⟩
    exact ae (ae (ai (.inr rfl) rfl rfl rfl (by simp only[dy,h,hpw,cond_true,cond_false])))
   ·have hon:pwL f r zs i=false:=hon
    refine ae ⟨hlt',(),fun k hk=>?_,Ent.ren [0,1] [1,4] rfl rfl rfl⟩
    rcases Nat.lt_or_ge k j with hk2|hk2
    ·exact hz k hk2
    ·obtain rfl:k=j:=by omega
     rw[<-hij];exact hon
  ·obtain rfl:j=zs.length:=by simp at hlt;omega
   have hpw:mu f r zs=false:=List.any_eq_false.2 fun k hk=>by rw[hz k (List.mem_range.1 hk)];simp
   refine ae ?_
   repeat (first|(first|refine ah ?_|refine sat_nd ?_)|refine ag (bL hc2 rfl) ?_|refine ag (bU hc2 rfl h88t) ?_|refine ag (jR hc2 hbdt) ?_|refine ag (jR hc2 h88t) ?_)
   exact ae (ai (.inr rfl) rfl rfl rfl (by
    show V.bool (ju f r (tk zs) ca&&pasL f r (tk zs) bl pa ha&&decide (0<=ha)&&decide (ha<=10000)&&decide (1<=fu)&&decide (fu<=10000))=_
    rw[aS];simp only[dy,h,hpw,cond_false]))
 ·cases e
end
end Go.Ab
namespace Go.Ab
open Go.Proofs
section
variable{kDb:Bool}
def chkB(f r:Int)(zs:List Int)(b:Bool):Bool:=!decide ((bJ f r zs b).1=0)
end
section
variable{kCa kDb:Bool}
theorem My{z w:List Int}{i:Nat}(h:i<z.length)(h2:i<w.length):decide (z.drop i=w.drop i)=(decide (z.getD i 0=w.getD i 0)&&decide (z.drop (i+1)=w.drop (i+1))):=by
 rw[List.drop_eq_getElem_cons h,List.drop_eq_getElem_cons h2];simp only[List.cons.injEq,Bool.decide_and,List.getD_eq_getElem?_getD,List.getElem?_eq_getElem h,List.getElem?_eq_getElem h2,Option.getD_some]
def FN(p q:Psn):Bool:=decide (p.f=q.f)&&decide (p.r=q.r)&&decide (p.zs=q.zs)&&(p.bl==q.bl)&&decide (p.ca=q.ca)&&decide (p.pa=q.pa)
def jq(p q:Psn):Bool:=FN p q&&decide (p.ha=q.ha)&&decide (p.fu=q.fu)
end
section
variable{kCa kDb:Bool}
def xX(f r:Int)(zs:List Int)(f2 r2:Int)(ws:List Int):Bool:=decide (f=f2)&&decide (r=r2)&&decide (zs=ws)
def ko:CF
 |[.agg [.int .i64 f,.int .i64 r],.agg [.int .i64 a,.int .i64 b,.int .i8 pr]],[]=>some (true,.bool (mvB f r a b pr),[])
 |_,_=>none
theorem rB:CtOk (GGx kCa kDb) PP (40,ko):=by
 refine aG Tryz.func40 (by kernel_rfl) rfl fun a0 h0 c0 v0 N0 e hc=>?_
 unfold ko at e
 split at e
 ·rename_i f r a b pr
  cases e
  have hE:=aF (kCa:=kCa) (kDb:=kDb) (cts:=[(93,lH)]) (inl:=[]) ⟨iP,trivial⟩ trivial
  refine ak hE 2 Tryz.func40 rfl rfl ?_
  repeat (first|refine ah ?_|refine sat_nd ?_)
  exact ae (ai (.inr rfl) rfl rfl rfl rfl)
 ·cases e
end
section
variable{kCa kDb:Bool}
end
end Go.Ab
namespace Go.Ab
open Go.Proofs Go.RowKit
section
variable{kCa kDb:Bool}
end
end Go.Ab
namespace Go.Ab
open Go.Proofs
open Go.Proofs
end Go.Ab
namespace Go.Ab
open Go.Proofs
theorem wX(c:Int->Bool)(n:Nat)(hn:n<=64):Uk (gw (fun s i=>bif c i then uor s (ushl 1 i)else s) 0 n)/\∀ m:Nat,bt (gw (fun s i=>bif c i then uor s (ushl 1 i)else s) 0 n) m=(decide (m<n)&&c m):=by
 induction n with
 |zero=>exact⟨uk_0,fun m=>by simp[gw,bt_0]⟩
 |succ n ih=>
  obtain⟨h1,h2⟩:=ih (by omega)
  simp only[gw]
  cases hc:c n with
  |false=>
   refine⟨h1,fun m=>?_⟩
   rw[cond_false,h2]
   by_cases e:m=n
   ·subst e;simp[hc]
   ·congr 1
    simp;omega
  |true=>
   refine⟨pJ _ _,fun m=>?_⟩
   rw[cond_true,kJ h1 (lB _ _),mb (by omega) (by omega),h2]
   by_cases e:m=n
   ·subst e;simp[hc]
   ·have e2:¬ ((n:Int)=m):=by omega
    have e3:decide (m<n)=decide (m<n+1):=by congr 1;exact propext ⟨fun h=>by omega,fun h=>by omega⟩
    simp[e2,e3]
theorem Gb{zs:List Int}{i:Nat}(h:i<zs.length):zs.getD i 0∈zs:=by simp[List.getD,h]
theorem wD(p:Int->Bool){zs:List Int}(h:zs.length<=64):Uk (fV p zs)/\∀ m:Nat,bt (fV p zs) m=(decide (m<zs.length)&&p (zs.getD m 0)):=by
 have:=wX (fun i=>p (zs.getD i.toNat 0)) zs.length h
 exact this
theorem Cw{f r:Int}{zs:List Int}(h:aL f r zs=true)(hl:zs.length<=64):Uk (occR f r zs)/\∀ m:Nat,bt (occR f r zs) m=(decide (m<zs.length)&&!decide (zs.getD m 0=0)):=by
 obtain⟨h1,h2⟩:=wD posP hl
 obtain⟨h3,h4⟩:=wD negP hl
 unfold occR jb
 rw[h]
 refine⟨pJ _ _,fun m=>?_⟩
 show bt (uor (fV posP zs) (fV negP zs)) m=_
 rw[kJ h1 h3,h2,h4,<-Bool.and_or_distrib_left]
 congr 1
 unfold posP negP
 rw[Bool.eq_iff_iff]
 simp only[Bool.or_eq_true,decide_eq_true_eq,Bool.not_eq_true',decide_eq_false_iff_not]
 omega
theorem Ac{p:Int}:sgn p=1↔0<p:=by have:=gz p;omega
theorem CB{p:Int}:sgn p=-1↔p<0:=by have:=gz p;omega
theorem GS{f r:Int}{zs:List Int}(h:aL f r zs=true)(hl:zs.length<=64):occL zs=occR f r zs:=by
 obtain⟨h1,h2⟩:=Cw h hl
 have hb:∀ x∈bX zs 1++bX zs (-1),0<=x/\x<64:=by
  intro x hx
  rcases List.mem_append.1 hx with hx|hx<;>(have:=fc.1 hx;omega)
 obtain⟨h3,h4⟩:=Di _ 0 hb uk_0
 refine GX h3 h1 fun m hm=>?_
 show bt (ofL (bX zs 1++bX zs (-1)) 0) m=_
 rw[h4,h2,bt_0,Bool.false_or,Bool.eq_iff_iff]
 simp only[decide_eq_true_eq,List.mem_append,fc,Ac,CB,Int.toNat_natCast,Bool.and_eq_true,Bool.not_eq_true',decide_eq_false_iff_not]
 omega
theorem GM{f r:Int}{zs:List Int}(h:aZ f r zs=true)(hl:zs.length<=64):OnS f r (occR f r zs):=fun m _ hb=>by
 rw[(Cw (bw h).2.2.1 hl).2,Bool.and_eq_true,decide_eq_true_eq]at hb
 exact(zi h).2 ⟨by omega,by omega⟩
theorem wQ{f r:Int}{zs:List Int}(h:aZ f r zs=true){i:Int}(h0:0<=i)(h1:i<zs.length):-6<=zs.getD i.toNat 0/\zs.getD i.toNat 0<=6:=(bw h).2.2.2 _ (Gb (by omega))
theorem vo{p:Int}(h:-6<=p/\p<=6):lD p=p.natAbs:=by
 have hw:∀ q:_root_.Fin 13,lD ((q.val:Int)-6)=(((q.val:Int)-6).natAbs:Int):=by decide +kernel
 have h2:=hw ⟨(p+6).toNat,by omega⟩
 simp only at h2
 rwa [show (((p+6).toNat:Int)-6)=p by omega]at h2
theorem qf{f r kd a occ:Int}(ha:aA f r a=true)(hk:rP kd):dm f r kd a a occ=false:=by
 obtain⟨e1,e2⟩:=jh ha ha
 have hl:(bC f a a).2.2=false:=by
  rcases wT ha ha with⟨e,_⟩|⟨_,h⟩
  ·rw[e]
  ·unfold lO at h;omega
 have hd:tf f a a=0:=by rw[Hi ha ha,show px f a-px f a=0 by omega,show py f a-py f a=0 by omega];rfl
 unfold dm
 rw[e1,e2,hl,hd,show px f a-px f a=0 by omega,show py f a-py f a=0 by omega]
 rcases hk with rfl|rfl|rfl|rfl|rfl<;>rfl
theorem Ll{f r:Int}{zs:List Int}{occ:Int}(h:aZ f r zs=true)(hu:Uk occ)(hon:OnS f r occ){i:Int}(h0:0<=i)(h1:i<zs.length)(hp:zs.getD i.toNat 0≠0) :
  Uk (ofR f r zs i occ)/\OnS f r (ofR f r zs i occ)/\∀ b,aA f r b=true->bt (ofR f r zs i occ) b.toNat=sy f r zs i b occ:=by
 have hi:=(zi h).2 ⟨h0,h1⟩
 have hb:=wQ h h0 h1
 obtain⟨hv,hn,_⟩:=bw h
 unfold ofR sy
 rw[EV hb,vo hb]
 by_cases hk:zs.getD i.toNat 0=1\/zs.getD i.toNat 0=-1
 ·rw[show (decide (zs.getD i.toNat 0=1)||decide (zs.getD i.toNat 0=-1))=true by simpa using hk,show decide (((zs.getD i.toNat 0).natAbs:Int)=1)=true by rw[decide_eq_true_eq];omega,cond_true]
  obtain⟨_,p1,p2,p3⟩:=Hu (bl:=decide (zs.getD i.toNat 0<0)) hi
  refine⟨p1,p2,fun b hbv=>?_⟩
  rw[p3 b hbv,cond_true,Bool.eq_iff_iff,Am,hO]
  have:=bT hbv
  exact⟨fun h=>⟨this.1,by omega,h⟩,fun h=>h.2.2⟩
 ·have hk':(decide (zs.getD i.toNat 0=1)||decide (zs.getD i.toNat 0=-1))=false:=by simpa using hk
  rw[hk',show decide (((zs.getD i.toNat 0).natAbs:Int)=1)=false by rw[decide_eq_false_iff_not];omega,cond_false]
  have hr:=(Dt hu).2 ⟨hi,hon⟩
  have h5:rP ((zs.getD i.toNat 0).natAbs:Int):=by unfold rP;omega
  obtain⟨p1,p2,p3⟩:=Gu hr hu h5
  refine⟨p1,p2,fun b hbv=>?_⟩
  show bt (mY f r _ i occ) b.toNat=_
  rw[p3 b hbv,cond_false]
  by_cases e:i=b
  ·subst e;rw[qf hi h5];simp
  ·simp[e]
theorem Jo(p:Int)(bl:Bool):isP p bl=decide (sgn p=sdI bl):=by
 unfold isP sdI
 rw[Bool.eq_iff_iff]
 cases bl<;>simp[Ac,CB]
theorem GO{p:Int}{bl:Bool}(h:isP p bl=true):p≠0:=by
 rintro rfl;cases bl<;>cases h
theorem pC{f r:Int}{zs:List Int}{to:Int}{bl:Bool}{i:Int}:i∈attL f r zs to bl↔0<=i/\i<zs.length/\isP (zs.getD i.toNat 0) bl=true/\sy f r zs i to (occL zs)=true:=by
 unfold attL
 rw[List.mem_filter,fc,Jo,decide_eq_true_eq]
 simp only[xp,and_assoc]
theorem Ax{f r:Int}{zs:List Int}{to:Int}{bl:Bool}(h:aZ f r zs=true)(hl:zs.length<=64)(ht:aA f r to=true){i:Int}(h0:0<=i)(h1:i<zs.length):attB f r zs to bl (occR f r zs) i=true↔i∈attL f r zs to bl:=by
 rw[pC]
 unfold attB
 rw[Bool.and_eq_true]
 have ho:=Cw (bw h).2.2.1 hl
 have hv:=bT ht
 constructor
 ·rintro⟨h2,h3⟩
  obtain⟨p1,p2,p3⟩:=Ll h ho.1 (GM h hl) h0 h1 (GO h2)
  rw[vv p1 hv.1 hv.2.2,p3 to ht,<-GS (bw h).2.2.1 hl]at h3
  exact⟨h0,h1,h2,h3⟩
 ·rintro⟨_,_,h2,h3⟩
  obtain⟨p1,p2,p3⟩:=Ll h ho.1 (GM h hl) h0 h1 (GO h2)
  rw[vv p1 hv.1 hv.2.2,p3 to ht,<-GS (bw h).2.2.1 hl]
  exact⟨h2,h3⟩
theorem Jc{f r:Int}{zs:List Int}{to:Int}{bl:Bool}(h:aZ f r zs=true)(hl:zs.length<=64)(ht:aA f r to=true):Uk (attR f r zs to bl)/\∀ m:Nat,bt (attR f r zs to bl) m=decide ((m:Int)∈attL f r zs to bl):=by
 obtain⟨h1,h2⟩:=wX (attB f r zs to bl (occR f r zs)) zs.length hl
 refine⟨h1,fun m=>?_⟩
 show bt (gw (fun s i=>bif attB f r zs to bl (occR f r zs) i then uor s (ushl 1 i)else s) 0 zs.length) m=_
 rw[h2,Bool.eq_iff_iff,Bool.and_eq_true,decide_eq_true_eq,decide_eq_true_eq]
 constructor
 ·rintro⟨h3,h4⟩;exact(Ax h hl ht (by omega) (by omega)).1 h4
 ·intro h3
  have:=pC.1 h3
  exact⟨by omega,(Ax h hl ht (by omega) (by omega)).2 h3⟩
end Go.Ab
namespace Go.Ab
open Go.Proofs Go.RowKit
section
variable{kDb:Bool}
end
end Go.Ab
namespace Go.Ab
open Go.Proofs
section
variable{kCa kDb:Bool}
end
section
variable{kCa kDb:Bool}
end
section
variable{kCa kDb:Bool}
end
end Go.Ab
namespace Go.Ab
abbrev iL(l:List Int):List Int:=l
structure Bd where
 f:Int
 r:Int
 zs:List Int
structure Siz where
 f:Int
 r:Int
end Go.Ab
