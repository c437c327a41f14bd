/- Contracts of the functions that the laws reach, and plain laws of what they compute (text G9); no condition. -/
import Derived.Test.YtcmhemipmmckoaaGreatDoorG8
import Derived.Test.YtcmhemipmmckoaaGreatDoorG4
import Derived.Test.YtcmhemipmmckoaaGreatDoorG6
set_option maxRecDepth 100000
namespace Go.Ab
open Go.Proofs
section
variable{kCa kDb:Bool}
def okP(p:Int):Bool:=decide (-15<=p)&&decide (p<=15)
def orP(p:Int):Bool:=!decide (p=0)&&decide (-6<=p)&&decide (p<=6)
def badP(p:Int):Bool:=!okP p
def norP(p:Int):Bool:=!decide (p=0)&&!orP p
def posP(p:Int):Bool:=decide (0<p)
def negP(p:Int):Bool:=decide (p<0)
def cntR(f r:Int):Int×Int:=bif vsB f r then(IntKind.i64.wrap (f*r),0) else(0,2)
def cL(p:Int->Bool):List Int->Int->Int
 |[],_=>-1
 |x::l,k=>bif p x then k else cL p l (k+1)
theorem sN(p:Int->Bool):∀ (l:List Int) (k:Int),0<=k->decide (0<=cL p l k)=l.any p
 |[],k,_=>rfl
 |x::l,k,hk=>by
  rw[cL,List.any_cons]
  cases p x with
  |true=>simp[hk]
  |false=>rw[cond_false,Bool.false_or];exact sN p l (k+1) (by omega)
theorem sr{p:Int->Bool}{l:List Int}{i:Nat}{k:Int}(h:i<l.length):cL p (l.drop i) k=bif p (l.getD i 0)then k else cL p (l.drop (i+1)) (k+1):=by
 rw[List.drop_eq_getElem_cons h,cL];simp[List.getD,h]
def gG(p:Int->Bool)(zs:List Int)(s i:Int):Int:=bif p (zs.getD i.toNat 0)then uor s (ushl 1 i)else s
def fb(p:Int->Bool)(zs:List Int):Int:=jo (gG p zs) 0 zs.length
def aD(f r:Int)(zs:List Int):Bool:=decide ((cntR f r).2=0)&&decide ((zs.length:Int)=(cntR f r).1)&&!(zs.any badP)
def aW(f r:Int)(zs:List Int):Bool:=aD f r zs&&!(zs.any norP)
def eW(f r:Int)(zs:List Int):Int×Int×Int:=bif aD f r zs then(fb posP zs,fb negP zs,0) else(0,0,2)
def occR(f r:Int)(zs:List Int):Int:=uor (eW f r zs).1 (eW f r zs).2.1
def wJ:CF
 |[.agg [.int .i64 f,.int .i64 r]],[]=>some (true,.tup [I (cntR f r).1,I (cntR f r).2],[])
 |_,_=>none
theorem Aa:CtOk (GGx kCa kDb) PP (126,wJ):=by
 refine aB Tryz.func126 (by kernel_rfl) rfl fun a0 h0 c0 v0 N0 e hc=>?_
 unfold wJ at e
 split at e
 ·rename_i f r
  cases e
  have hE:=aA (kCa:=kCa) (kDb:=kDb) (cts:=[(146,c_vs)]) (inl:=[]) ⟨kO,trivial⟩ trivial
  refine aq hE 2 Tryz.func126 rfl rfl ?_
  repeat' first|(first|refine ah ?_|refine sat_nd ?_)|refine av (fun h=>?_) (fun h=>?_)
  all_goals exact ag (ai (.inr rfl) rfl rfl rfl (by first|rfl|(simp only[cntR, *];done)|(simp only[cntR, *];done)|simp_all [cntR]))
 ·cases e
def Cu:CF
 |[.int .i8 p],[]=>some (true,.bool (okP p),[])
 |_,_=>none
theorem EL:CtOk (GGx kCa kDb) PP (129,Cu):=by
 refine aB Tryz.func129 (by kernel_rfl) rfl fun a0 h0 c0 v0 N0 e hc=>?_
 unfold Cu at e
 split at e
 ·rename_i p
  cases e
  have hE:=aA (kCa:=kCa) (kDb:=kDb) (cts:=[]) (inl:=[]) trivial trivial
  refine aq hE 2 Tryz.func129 rfl rfl ?_
  repeat' first|(first|refine ah ?_|refine sat_nd ?_)|refine av (fun h=>?_) (fun h=>?_)
  all_goals exact ag (ai (.inr rfl) rfl rfl rfl (by first|rfl|(simp only[*,cond_true,cond_false];done)|(simp only[*,cond_true,cond_false,Bool.not_true,Bool.not_false,Bool.and_true,Bool.true_and,Bool.and_false,Bool.false_and,Bool.or_true,Bool.true_or,Bool.or_false,Bool.false_or];done)|simp_all []))
 ·cases e
def vE:CF
 |[.int .i8 p],[]=>some (true,.bool (orP p),[])
 |_,_=>none
theorem Bd:CtOk (GGx kCa kDb) PP (145,vE):=by
 refine aB Tryz.func145 (by kernel_rfl) rfl fun a0 h0 c0 v0 N0 e hc=>?_
 unfold vE at e
 split at e
 ·rename_i p
  cases e
  have hE:=aA (kCa:=kCa) (kDb:=kDb) (cts:=[]) (inl:=[]) trivial trivial
  refine aq hE 2 Tryz.func145 rfl rfl ?_
  repeat' first|(first|refine ah ?_|refine sat_nd ?_)|refine av (fun h=>?_) (fun h=>?_)
  all_goals exact ag (ai (.inr rfl) rfl rfl rfl (by first|rfl|(simp only[*,cond_true,cond_false];done)|(simp only[*,cond_true,cond_false,Bool.not_true,Bool.not_false,Bool.and_true,Bool.true_and,Bool.and_false,Bool.false_and,Bool.or_true,Bool.true_or,Bool.or_false,Bool.false_or];done)|simp_all []))
 ·cases e
def FP:CF
 |[.int .i8 p],[]=>some (true,.bool (badP p),[])
 |_,_=>none
theorem zl:CtOk (GGx kCa kDb) PP (128,FP):=by
 refine aB Tryz.func128 (by kernel_rfl) rfl fun a0 h0 c0 v0 N0 e hc=>?_
 unfold FP at e
 split at e
 ·rename_i p
  cases e
  have hE:=aA (kCa:=kCa) (kDb:=kDb) (cts:=[(129,Cu)]) (inl:=[]) ⟨EL,trivial⟩ trivial
  refine aq hE 2 Tryz.func128 rfl rfl ?_
  repeat' first|(first|refine ah ?_|refine sat_nd ?_)|refine av (fun h=>?_) (fun h=>?_)
  all_goals exact ag (ai (.inr rfl) rfl rfl rfl (by first|rfl|(simp only[*,cond_true,cond_false];done)|(simp only[*,cond_true,cond_false,Bool.not_true,Bool.not_false,Bool.and_true,Bool.true_and,Bool.and_false,Bool.false_and,Bool.or_true,Bool.true_or,Bool.or_false,Bool.false_or];done)|simp_all []))
 ·cases e
def Ii:CF
 |[.int .i8 p],[]=>some (true,.bool (norP p),[])
 |_,_=>none
theorem xU:CtOk (GGx kCa kDb) PP (144,Ii):=by
 refine aB Tryz.func144 (by kernel_rfl) rfl fun a0 h0 c0 v0 N0 e hc=>?_
 unfold Ii at e
 split at e
 ·rename_i p
  cases e
  have hE:=aA (kCa:=kCa) (kDb:=kDb) (cts:=[(145,vE)]) (inl:=[]) ⟨Bd,trivial⟩ trivial
  refine aq hE 2 Tryz.func144 rfl rfl ?_
  repeat' first|(first|refine ah ?_|refine sat_nd ?_)|refine av (fun h=>?_) (fun h=>?_)
  all_goals exact ag (ai (.inr rfl) rfl rfl rfl (by first|rfl|(simp only[*,cond_true,cond_false];done)|(simp only[*,cond_true,cond_false,Bool.not_true,Bool.not_false,Bool.and_true,Bool.true_and,Bool.and_false,Bool.false_and,Bool.or_true,Bool.true_or,Bool.or_false,Bool.false_or];done)|simp_all []))
 ·cases e
def GS:CF
 |[.int .i8 p],[]=>some (true,.bool (posP p),[])
 |_,_=>none
theorem zH:CtOk (GGx kCa kDb) PP (168,GS):=by
 refine aB Tryz.func168 (by kernel_rfl) rfl fun a0 h0 c0 v0 N0 e hc=>?_
 unfold GS at e
 split at e
 ·rename_i p
  cases e
  have hE:=aA (kCa:=kCa) (kDb:=kDb) (cts:=[]) (inl:=[]) trivial trivial
  refine aq hE 2 Tryz.func168 rfl rfl ?_
  repeat' first|(first|refine ah ?_|refine sat_nd ?_)|refine av (fun h=>?_) (fun h=>?_)
  all_goals exact ag (ai (.inr rfl) rfl rfl rfl (by first|rfl|(simp only[*,cond_true,cond_false];done)|(simp only[*,cond_true,cond_false,Bool.not_true,Bool.not_false,Bool.and_true,Bool.true_and,Bool.and_false,Bool.false_and,Bool.or_true,Bool.true_or,Bool.or_false,Bool.false_or];done)|simp_all []))
 ·cases e
def Gz:CF
 |[.int .i8 p],[]=>some (true,.bool (negP p),[])
 |_,_=>none
theorem yp:CtOk (GGx kCa kDb) PP (169,Gz):=by
 refine aB Tryz.func169 (by kernel_rfl) rfl fun a0 h0 c0 v0 N0 e hc=>?_
 unfold Gz at e
 split at e
 ·rename_i p
  cases e
  have hE:=aA (kCa:=kCa) (kDb:=kDb) (cts:=[]) (inl:=[]) trivial trivial
  refine aq hE 2 Tryz.func169 rfl rfl ?_
  repeat' first|(first|refine ah ?_|refine sat_nd ?_)|refine av (fun h=>?_) (fun h=>?_)
  all_goals exact ag (ai (.inr rfl) rfl rfl rfl (by first|rfl|(simp only[*,cond_true,cond_false];done)|(simp only[*,cond_true,cond_false,Bool.not_true,Bool.not_false,Bool.and_true,Bool.true_and,Bool.and_false,Bool.false_and,Bool.or_true,Bool.true_or,Bool.or_false,Bool.false_or];done)|simp_all []))
 ·cases e
def yB:CF
 |[.sl 0 0 len none,.fn 128 []],[.ints false .i8 zs]=>some (decide (len=zs.length)&&decide (zs.length<=1000000),.int .i64 (cL badP zs 0),[])
 |[.sl 0 0 len none,.fn 144 []],[.ints false .i8 zs]=>some (decide (len=zs.length)&&decide (zs.length<=1000000),.int .i64 (cL norP zs 0),[])
 |_,_=>none
theorem uE:CtOk (GGx kCa kDb) PP (159,yB):=by
 refine aB Tryz.func159 (by kernel_rfl) rfl fun a0 h0 c0 v0 N0 e hc=>?_
 unfold yB at e
 split at e
 ·rename_i len zs
  cases e
  have hE:=aA (kCa:=kCa) (kDb:=kDb) (cts:=[(128,FP),(144,Ii)]) (inl:=[]) ⟨zl,xU,trivial⟩ trivial
  refine aq hE 2 Tryz.func159 rfl rfl ?_
  simp only[Bool.and_eq_true,decide_eq_true_eq]at hc
  obtain⟨rfl,hc2⟩:=hc
  refine cC hE 2 (fun i (_:Unit)=>([(0,.sl 0 0 zs.length none),(1,.fn 128 []),(7,I zs.length),(8,I i)],[.ints false .i8 zs])) zs.length (fun j _=>cL badP (zs.drop j) j=cL badP zs 0) () (by omega) (Ent.ren [0] [0,1,7,8] rfl rfl rfl) rfl ?_
  intro j i _ hij hj hz
  refine av (fun hlt=>?_) (fun hlt=>?_)
  ·have hlt':j<zs.length:=by simp at hlt;omega
   rw[sr hlt',show j=i.toNat by omega]at hz
   refine ae (by simp;omega) ?_
   repeat (first|refine ah ?_|refine sat_nd ?_)
   refine av (fun hon=>?_) (fun hon=>?_)
   ·have hon:badP (zs.getD i.toNat 0)=true:=hon
    rw[hon,cond_true]at hz
    refine ag (ag (ai (.inr rfl) rfl rfl rfl (by rw[<-hz];exact congrArg (V.int IntKind.i64) (by omega))))
   ·have hon:badP (zs.getD i.toNat 0)=false:=hon
    rw[hon,cond_false]at hz
    exact ag ⟨hlt',(),by rw[<-hz,show i.toNat=j by omega];push_cast;rfl,Ent.ren [0] [0,1,7,8] rfl rfl rfl⟩
  ·obtain rfl:j=zs.length:=by simp at hlt;omega
   rw[List.drop_length]at hz
   exact ag (ag (ai (.inr rfl) rfl rfl rfl (by rw[<-hz];rfl)))
 ·rename_i len zs
  cases e
  have hE:=aA (kCa:=kCa) (kDb:=kDb) (cts:=[(128,FP),(144,Ii)]) (inl:=[]) ⟨zl,xU,trivial⟩ trivial
  refine aq hE 2 Tryz.func159 rfl rfl ?_
  simp only[Bool.and_eq_true,decide_eq_true_eq]at hc
  obtain⟨rfl,hc2⟩:=hc
  refine cC hE 2 (fun i (_:Unit)=>([(0,.sl 0 0 zs.length none),(1,.fn 144 []),(7,I zs.length),(8,I i)],[.ints false .i8 zs])) zs.length (fun j _=>cL norP (zs.drop j) j=cL norP zs 0) () (by omega) (Ent.ren [0] [0,1,7,8] rfl rfl rfl) rfl ?_
  intro j i _ hij hj hz
  refine av (fun hlt=>?_) (fun hlt=>?_)
  ·have hlt':j<zs.length:=by simp at hlt;omega
   rw[sr hlt',show j=i.toNat by omega]at hz
   refine ae (by simp;omega) ?_
   repeat (first|refine ah ?_|refine sat_nd ?_)
   refine av (fun hon=>?_) (fun hon=>?_)
   ·have hon:norP (zs.getD i.toNat 0)=true:=hon
    rw[hon,cond_true]at hz
    refine ag (ag (ai (.inr rfl) rfl rfl rfl (by rw[<-hz];exact congrArg (V.int IntKind.i64) (by omega))))
   ·have hon:norP (zs.getD i.toNat 0)=false:=hon
    rw[hon,cond_false]at hz
    exact ag ⟨hlt',(),by rw[<-hz,show i.toNat=j by omega];push_cast;rfl,Ent.ren [0] [0,1,7,8] rfl rfl rfl⟩
  ·obtain rfl:j=zs.length:=by simp at hlt;omega
   rw[List.drop_length]at hz
   exact ag (ag (ai (.inr rfl) rfl rfl rfl (by rw[<-hz];rfl)))
 ·cases e
def qo:CF
 |[.sl 0 0 len none,.fn 128 []],[.ints false .i8 zs]=>some (decide (len=zs.length)&&decide (zs.length<=1000000),.bool (zs.any badP),[])
 |[.sl 0 0 len none,.fn 144 []],[.ints false .i8 zs]=>some (decide (len=zs.length)&&decide (zs.length<=1000000),.bool (zs.any norP),[])
 |_,_=>none
theorem pL:CtOk (GGx kCa kDb) PP (127,qo):=by
 refine aB Tryz.func127 (by kernel_rfl) rfl fun a0 h0 c0 v0 N0 e hc=>?_
 unfold qo at e
 split at e
 ·rename_i len zs
  cases e
  have hE:=aA (kCa:=kCa) (kDb:=kDb) (cts:=[(159,yB)]) (inl:=[]) ⟨uE,trivial⟩ trivial
  refine aq hE 2 Tryz.func127 rfl rfl ?_
  simp only[Bool.and_eq_true,decide_eq_true_eq]at hc
  obtain⟨rfl,hc2⟩:=hc
  refine ae (by simp;omega) ?_
  exact ag (ai (.inr rfl) rfl rfl rfl (congrArg Bb (by
   show decide (0<=cL badP (tk zs) 0)=_
   rw[aF];exact sN badP zs 0 (by omega))))
 ·rename_i len zs
  cases e
  have hE:=aA (kCa:=kCa) (kDb:=kDb) (cts:=[(159,yB)]) (inl:=[]) ⟨uE,trivial⟩ trivial
  refine aq hE 2 Tryz.func127 rfl rfl ?_
  simp only[Bool.and_eq_true,decide_eq_true_eq]at hc
  obtain⟨rfl,hc2⟩:=hc
  refine ae (by simp;omega) ?_
  exact ag (ai (.inr rfl) rfl rfl rfl (congrArg Bb (by
   show decide (0<=cL norP (tk zs) 0)=_
   rw[aF];exact sN norP zs 0 (by omega))))
 ·cases e
def jM:CF
 |[.agg [.int .i64 f,.int .i64 r,.sl 0 0 len none]],[.ints false .i8 zs]=>some (decide (len=zs.length)&&decide (zs.length<=1000000),.bool (aD f r zs),[])
 |_,_=>none
theorem iJ:CtOk (GGx kCa kDb) PP (67,jM):=by
 refine aB Tryz.func67 (by kernel_rfl) rfl fun a0 h0 c0 v0 N0 e hc=>?_
 unfold jM at e
 split at e
 ·rename_i f r len zs
  cases e
  have hE:=aA (kCa:=kCa) (kDb:=kDb) (cts:=[(126,wJ),(127,qo)]) (inl:=[]) ⟨Aa,pL,trivial⟩ trivial
  refine aq hE 2 Tryz.func67 rfl rfl ?_
  simp only[Bool.and_eq_true,decide_eq_true_eq]at hc
  obtain⟨rfl,hc2⟩:=hc
  repeat (first|refine ah ?_|refine sat_nd ?_)
  exact ag (ai (.inr rfl) rfl rfl rfl (congrArg Bb (by
   show (decide ((cntR f r).2=0)&&decide ((zs.length:Int)=(cntR f r).1)&&!((tk zs).any badP))=_
   rw[aF];rfl)))
 ·cases e
def yI:CF
 |[.agg [.int .i64 f,.int .i64 r,.sl 0 0 len none]],[.ints false .i8 zs]=>some (decide (len=zs.length)&&decide (zs.length<=1000000),.bool (aW f r zs),[])
 |_,_=>none
theorem uQ:CtOk (GGx kCa kDb) PP (90,yI):=by
 refine aB Tryz.func90 (by kernel_rfl) rfl fun a0 h0 c0 v0 N0 e hc=>?_
 unfold yI at e
 split at e
 ·rename_i f r len zs
  cases e
  have hE:=aA (kCa:=kCa) (kDb:=kDb) (cts:=[(67,jM),(127,qo)]) (inl:=[]) ⟨iJ,pL,trivial⟩ trivial
  refine aq hE 2 Tryz.func90 rfl rfl ?_
  simp only[Bool.and_eq_true,decide_eq_true_eq]at hc
  obtain⟨rfl,hc2⟩:=hc
  repeat (first|refine ah ?_|refine sat_nd ?_)
  exact ag (ai (.inr rfl) rfl rfl rfl (congrArg Bb (by
   show (aD f r (tk zs)&&!((tk zs).any norP))=_
   rw[aF];rfl)))
 ·cases e
def vy:CF
 |[.agg [.int .i64 _f,.int .i64 _r,.sl 0 0 len none],.fn 168 []],[.ints false .i8 zs]=>some (decide (len=zs.length)&&decide (zs.length<=1000000),.int .u64 (fb posP zs),[])
 |[.agg [.int .i64 _f,.int .i64 _r,.sl 0 0 len none],.fn 169 []],[.ints false .i8 zs]=>some (decide (len=zs.length)&&decide (zs.length<=1000000),.int .u64 (fb negP zs),[])
 |_,_=>none
theorem AM:CtOk (GGx kCa kDb) PP (167,vy):=by
 refine aB Tryz.func167 (by kernel_rfl) rfl fun a0 h0 c0 v0 N0 e hc=>?_
 unfold vy at e
 split at e
 ·rename_i f r len zs
  cases e
  have hE:=aA (kCa:=kCa) (kDb:=kDb) (cts:=[(168,GS),(169,Gz)]) (inl:=[]) ⟨zH,yp,trivial⟩ trivial
  refine aq hE 2 Tryz.func167 rfl rfl ?_
  simp only[Bool.and_eq_true,decide_eq_true_eq]at hc
  obtain⟨rfl,hc2⟩:=hc
  repeat (first|refine ah ?_|refine sat_nd ?_)
  refine cC hE 2 (fun i (s:Int)=>([(1,.fn 168 []),(2,.ptr 1 0 0),(5,U s),(9,.sl 0 0 zs.length none),(10,I zs.length),(11,I i)],[.ints false .i8 zs,.cells true [I f,I r,.sl 0 0 zs.length none]])) zs.length (fun j s=>s=jo (gG posP zs) 0 j) 0 (by omega) (Ent.ren [0,1] [1,2,5,9,10,11] rfl rfl rfl) rfl ?_
  intro j i s hij hj hz
  refine av (fun hlt=>?_) (fun hlt=>?_)
  ·have hlt':j<zs.length:=by simp at hlt;omega
   have hs:gG posP zs s i=jo (gG posP zs) 0 (j+1):=by rw[hz,hij];rfl
   refine ae (by simp;omega) ?_
   repeat (first|refine ah ?_|refine sat_nd ?_)
   refine av (fun hon=>?_) (fun hon=>?_)
   ·have hon:posP (zs.getD i.toNat 0)=true:=hon
    rw[gG,hon,cond_true]at hs
    refine ae (by simp;omega) ?_
    exact ag ⟨hlt',_,hs,Ent.ren [0,1] [1,2,5,9,10,11] rfl rfl rfl⟩
   ·have hon:posP (zs.getD i.toNat 0)=false:=hon
    rw[gG,hon,cond_false]at hs
    exact ag ⟨hlt',_,hs,Ent.ren [0,1] [1,2,5,9,10,11] rfl rfl rfl⟩
  ·obtain rfl:j=zs.length:=by simp at hlt;omega
   subst hz
   exact ag (ag (ai (.inr rfl) rfl rfl rfl rfl))
 ·rename_i f r len zs
  cases e
  have hE:=aA (kCa:=kCa) (kDb:=kDb) (cts:=[(168,GS),(169,Gz)]) (inl:=[]) ⟨zH,yp,trivial⟩ trivial
  refine aq hE 2 Tryz.func167 rfl rfl ?_
  simp only[Bool.and_eq_true,decide_eq_true_eq]at hc
  obtain⟨rfl,hc2⟩:=hc
  repeat (first|refine ah ?_|refine sat_nd ?_)
  refine cC hE 2 (fun i (s:Int)=>([(1,.fn 169 []),(2,.ptr 1 0 0),(5,U s),(9,.sl 0 0 zs.length none),(10,I zs.length),(11,I i)],[.ints false .i8 zs,.cells true [I f,I r,.sl 0 0 zs.length none]])) zs.length (fun j s=>s=jo (gG negP zs) 0 j) 0 (by omega) (Ent.ren [0,1] [1,2,5,9,10,11] rfl rfl rfl) rfl ?_
  intro j i s hij hj hz
  refine av (fun hlt=>?_) (fun hlt=>?_)
  ·have hlt':j<zs.length:=by simp at hlt;omega
   have hs:gG negP zs s i=jo (gG negP zs) 0 (j+1):=by rw[hz,hij];rfl
   refine ae (by simp;omega) ?_
   repeat (first|refine ah ?_|refine sat_nd ?_)
   refine av (fun hon=>?_) (fun hon=>?_)
   ·have hon:negP (zs.getD i.toNat 0)=true:=hon
    rw[gG,hon,cond_true]at hs
    refine ae (by simp;omega) ?_
    exact ag ⟨hlt',_,hs,Ent.ren [0,1] [1,2,5,9,10,11] rfl rfl rfl⟩
   ·have hon:negP (zs.getD i.toNat 0)=false:=hon
    rw[gG,hon,cond_false]at hs
    exact ag ⟨hlt',_,hs,Ent.ren [0,1] [1,2,5,9,10,11] rfl rfl rfl⟩
  ·obtain rfl:j=zs.length:=by simp at hlt;omega
   subst hz
   exact ag (ag (ai (.inr rfl) rfl rfl rfl rfl))
 ·cases e
def nD:CF
 |[.agg [.int .i64 f,.int .i64 r,.sl 0 0 len none]],[.ints false .i8 zs]=>some (decide (len=zs.length)&&decide (zs.length<=1000000),.tup [U (eW f r zs).1,U (eW f r zs).2.1,I (eW f r zs).2.2],[])
 |_,_=>none
theorem lf:CtOk (GGx kCa kDb) PP (149,nD):=by
 refine aB Tryz.func149 (by kernel_rfl) rfl fun a0 h0 c0 v0 N0 e hc=>?_
 unfold nD at e
 split at e
 ·rename_i f r len zs
  cases e
  have hE:=aA (kCa:=kCa) (kDb:=kDb) (cts:=[(67,jM),(167,vy)]) (inl:=[]) ⟨iJ,AM,trivial⟩ trivial
  refine aq hE 2 Tryz.func149 rfl rfl ?_
  simp only[Bool.and_eq_true,decide_eq_true_eq]at hc
  obtain⟨rfl,hc2⟩:=hc
  repeat (first|refine ah ?_|refine sat_nd ?_)
  refine av (fun h=>?_) (fun h=>?_)
  ·have h:aD f r zs=false:=by simpa using h
   exact ag (ai (.inr rfl) rfl rfl rfl (by rw[eW,h];rfl))
  ·have h:aD f r zs=true:=by simpa using h
   repeat (first|refine ah ?_|refine sat_nd ?_)
   refine ag (ai (.inr rfl) rfl rfl rfl ?_)
   show V.tup [U (fb posP (tk zs)),U (fb negP (tk zs)),I 0]=_
   rw[aF,eW,h];rfl
 ·cases e
def KQ:CF
 |[.agg [.int .i64 f,.int .i64 r,.sl 0 0 len none]],[.ints false .i8 zs]=>some (decide (len=zs.length)&&decide (zs.length<=1000000),.int .u64 (occR f r zs),[])
 |_,_=>none
theorem Ia:CtOk (GGx kCa kDb) PP (104,KQ):=by
 refine aB Tryz.func104 (by kernel_rfl) rfl fun a0 h0 c0 v0 N0 e hc=>?_
 unfold KQ at e
 split at e
 ·rename_i f r len zs
  cases e
  have hE:=aA (kCa:=kCa) (kDb:=kDb) (cts:=[(149,nD)]) (inl:=[]) ⟨lf,trivial⟩ trivial
  refine aq hE 2 Tryz.func104 rfl rfl ?_
  simp only[Bool.and_eq_true,decide_eq_true_eq]at hc
  obtain⟨rfl,hc2⟩:=hc
  repeat (first|refine ah ?_|refine sat_nd ?_)
  refine ag (ai (.inr rfl) rfl rfl rfl ?_)
  show U (occR f r (tk zs))=_
  rw[aF]
 ·cases e
end
section
variable{kCa kDb:Bool}
abbrev w8(n:Int):Int:=IntKind.i8.wrap n
def isP(p:Int)(bl:Bool):Bool:=(decide (p<0)&&bl)||(decide (0<p)&&!bl)
def absP(p:Int):Int:=imax true p (w8 (0-p))
def ofR(f r:Int)(zs:List Int)(at_ all_:Int):Int:=bif decide (zs.getD at_.toNat 0=1)||decide (zs.getD at_.toNat 0=-1) then(gj f r (decide (zs.getD at_.toNat 0<0)) at_).1 else(cn f r (absP (zs.getD at_.toNat 0)) at_ all_).1
def LG:CF
 |[.int .i8 p,.bool bl],[]=>some (true,.bool (isP p bl),[])
 |_,_=>none
theorem GM:CtOk (GGx kCa kDb) PP (105,LG):=by
 refine aB Tryz.func105 (by kernel_rfl) rfl fun a0 h0 c0 v0 N0 e hc=>?_
 unfold LG at e
 split at e
 ·rename_i p bl
  cases e
  have hE:=aA (kCa:=kCa) (kDb:=kDb) (cts:=[]) (inl:=[]) trivial trivial
  refine aq hE 2 Tryz.func105 rfl rfl ?_
  repeat' first|(first|refine ah ?_|refine sat_nd ?_)|refine av (fun h=>?_) (fun h=>?_)
  all_goals exact ag (ai (.inr rfl) rfl rfl rfl (by first|rfl|(simp only[*,cond_true,cond_false];done)|(simp only[*,cond_true,cond_false,Bool.not_true,Bool.not_false,Bool.and_true,Bool.true_and,Bool.and_false,Bool.false_and,Bool.or_true,Bool.true_or,Bool.or_false,Bool.false_or];done)|simp_all []))
 ·cases e
def c_of:CF
 |[.agg [.int .i64 f,.int .i64 r,.sl 0 0 len none],.int .i64 at_,.int .u64 all_],[.ints false .i8 zs]=>some (decide (len=zs.length)&&decide (zs.length<=64)&&decide (0<=at_)&&decide (at_<zs.length),.int .u64 (ofR f r zs at_ all_),[])
 |_,_=>none
theorem Kt:CtOk (GGx kCa kDb) PP (106,c_of):=by
 refine aB Tryz.func106 (by kernel_rfl) rfl fun a0 h0 c0 v0 N0 e hc=>?_
 unfold c_of at e
 split at e
 ·rename_i f r len at_ all_ zs
  cases e
  have hE:=aA (kCa:=kCa) (kDb:=kDb) (cts:=[(153,ve),(154,nF)]) (inl:=[]) ⟨nN,kN,trivial⟩ trivial
  refine aq hE 2 Tryz.func106 rfl rfl ?_
  simp only[Bool.and_eq_true,decide_eq_true_eq]at hc
  obtain⟨⟨⟨rfl,hc2⟩,ha1⟩,ha2⟩:=hc
  repeat (first|refine ah ?_|refine sat_nd ?_)
  refine av (fun h=>?_) (fun h=>?_)
  ·have h:decide (zs.getD at_.toNat 0=1)=true:=h
   refine cN h ?_
   repeat (first|refine ah ?_|refine sat_nd ?_)
   exact ag (ai (.inr rfl) rfl rfl rfl (by rw[ofR,h];rfl))
  have h:decide (zs.getD at_.toNat 0=1)=false:=h
  refine av (fun h2=>?_) (fun h2=>?_)
  ·have h2:decide (zs.getD at_.toNat 0=-1)=true:=h2
   repeat (first|refine ah ?_|refine sat_nd ?_)
   exact ag (ai (.inr rfl) rfl rfl rfl (by rw[ofR,h,h2];rfl))
  have h2:decide (zs.getD at_.toNat 0=-1)=false:=h2
  repeat (first|refine ah ?_|refine sat_nd ?_)
  exact ag (ai (.inr rfl) rfl rfl rfl (by rw[ofR,h,h2];rfl))
 ·cases e
def attB(f r:Int)(zs:List Int)(at_:Int)(bl:Bool)(all_ i:Int):Bool:=isP (zs.getD i.toNat 0) bl&&decide (uand (ushr (ofR f r zs i all_) at_) 1=1)
def attS(f r:Int)(zs:List Int)(at_:Int)(bl:Bool)(all_ s i:Int):Int:=bif attB f r zs at_ bl all_ i then uor s (ushl 1 i)else s
def attR(f r:Int)(zs:List Int)(at_:Int)(bl:Bool):Int:=jo (attS f r zs at_ bl (occR f r zs)) 0 zs.length
def fZ:CF
 |[.agg [.int .i64 f,.int .i64 r,.sl 0 0 len none],.int .i64 at_,.bool bl],[.ints false .i8 zs]=>some (decide (len=zs.length)&&decide (zs.length<=64)&&decide (0<=at_),.int .u64 (attR f r zs at_ bl),[])
 |_,_=>none
theorem iE:CtOk (GGx kCa kDb) PP (59,fZ):=by
 refine aB Tryz.func59 (by kernel_rfl) rfl fun a0 h0 c0 v0 N0 e hc=>?_
 unfold fZ at e
 split at e
 ·rename_i f r len at_ bl zs
  cases e
  have hE:=aA (kCa:=kCa) (kDb:=kDb) (cts:=[(104,KQ),(105,LG),(106,c_of)]) (inl:=[]) ⟨Ia,GM,Kt,trivial⟩ trivial
  refine aq hE 2 Tryz.func59 rfl rfl ?_
  simp only[Bool.and_eq_true,decide_eq_true_eq]at hc
  obtain⟨⟨rfl,hc2⟩,ha1⟩:=hc
  repeat (first|refine ah ?_|refine sat_nd ?_)
  refine cC hE 2 (fun i (s:Int)=>([(1,I at_),(2,Bb bl),(3,.ptr 1 0 0),(7,U s),(8,U (occR f r (tk zs))),(14,.sl 0 0 zs.length none),(15,I zs.length),(16,I i)],[.ints false .i8 zs,.cells true [I f,I r,.sl 0 0 zs.length none]])) zs.length (fun j s=>s=jo (attS f r zs at_ bl (occR f r zs)) 0 j) 0 (by omega) (Ent.ren [0,1] [1,2,3,7,8,14,15,16] rfl rfl rfl) rfl ?_
  intro j i s hij hj hz
  refine av (fun hlt=>?_) (fun hlt=>?_)
  ·have hlt':j<zs.length:=by simp at hlt;omega
   have hs:attS f r zs at_ bl (occR f r zs) s i=jo (attS f r zs at_ bl (occR f r zs)) 0 (j+1):=by rw[hz,hij];rfl
   refine ae (by simp;omega) ?_
   repeat (first|(first|refine ah ?_|refine sat_nd ?_)|refine ae (by rw[decide_eq_true ha1];exact Bool.or_true _) ?_|refine ae (by simp;right;omega) ?_)
   refine av (fun hon=>?_) (fun hon=>?_)
   ·have hon:(isP (zs.getD i.toNat 0) bl&&decide (uand (ushr (ofR f r (tk zs) i (occR f r (tk zs))) at_) 1=1))=true:=hon
    rw[aF]at hon
    have hon:attB f r zs at_ bl (occR f r zs) i=true:=hon
    rw[attS,hon,cond_true]at hs
    refine ae (by simp;omega) ?_
    exact ag ⟨hlt',_,hs,Ent.ren [0,1] [1,2,3,7,8,14,15,16] rfl rfl rfl⟩
   ·have hon:(isP (zs.getD i.toNat 0) bl&&decide (uand (ushr (ofR f r (tk zs) i (occR f r (tk zs))) at_) 1=1))=false:=hon
    rw[aF]at hon
    have hon:attB f r zs at_ bl (occR f r zs) i=false:=hon
    rw[attS,hon,cond_false]at hs
    exact ag ⟨hlt',_,hs,Ent.ren [0,1] [1,2,3,7,8,14,15,16] rfl rfl rfl⟩
  ·obtain rfl:j=zs.length:=by simp at hlt;omega
   subst hz
   exact ag (ag (ai (.inr rfl) rfl rfl rfl rfl))
 ·cases e
end
end Go.Ab
namespace Go.Ab
open IntKind
open Go.Proofs
section
variable{kCa kDb:Bool}
theorem bn{f r:Int}{zs:List Int}(h:aW f r zs=true):vsB f r=true/\(zs.length:Int)=f*r/\aD f r zs=true/\(∀ p∈zs,-6<=p/\p<=6):=by
 simp only[aW,Bool.and_eq_true,Bool.not_eq_true',List.any_eq_false]at h
 obtain⟨h1,h2⟩:=h
 have h1':=h1
 simp only[aD,Bool.and_eq_true,decide_eq_true_eq]at h1
 obtain⟨⟨h3,h4⟩,_⟩:=h1
 have hv:vsB f r=true:=by
  cases hv:vsB f r with
  |true=>rfl
  |false=>rw[cntR,hv]at h3;simp at h3
 rw[cntR,hv,cond_true]at h4
 refine⟨hv,by rw[h4];exact eK hv,h1',fun p hp=>?_⟩
 have:=h2 p hp
 simp only[norP,orP,Bool.and_eq_true,Bool.not_eq_true',decide_eq_false_iff_not,Bool.and_eq_false_iff,not_and]at this
 by_cases e:p=0
 ·omega
 ·have:=this e
  simp[e]at this
  omega
theorem BZ{f r n:Int}{zs:List Int}(h:aW f r zs=true):aj f r n=true↔0<=n/\n<zs.length:=by
 obtain⟨h1,h2,_⟩:=bn h
 rw[h2]
 exact⟨fun h=>⟨(aS h).1,(aS h).2.1⟩,fun h=>qK h1 h.1 h.2⟩
def isV(v p:Int):Bool:=decide (v=p)
theorem tZ{K:Int}{n:Nat}(h1:-1<=K)(h2:K<n)(hn:n<=64):(!!decide (K<0)||(decide (0<=i64.wrap (K+1))&&decide (i64.wrap (K+1)<=n)&&decide ((n:Int)<=n)))=true:=by
 rw[aI (by omega) (by omega)]
 simp
 omega
theorem tc{g:Bool}{zs:List Int}{a m:Nat}(h:m=zs.length)(hn:zs.length<=64):(!g||(decide (m-a=((zs.drop a).take (m-a)).length)&&decide (((zs.drop a).take (m-a)).length<=1000000)))=true:=by
 subst h
 rw[List.take_of_length_le (by simp),List.length_drop]
 have:zs.length-a<=1000000:=by omega
 simp[this]
theorem ju{zs:List Int}{v:Int}{b:Bool}(h:(decide (cL (isV v) (tk zs) 0<0)||((zs.drop (i64.wrap (cL (isV v) (tk zs) 0+1)).toNat).take ((zs.length:Int).toNat-(i64.wrap (cL (isV v) (tk zs) 0+1)).toNat)).any (isV v))=b):(decide (cL (isV v) zs 0<0)||(zs.drop (i64.wrap (cL (isV v) zs 0+1)).toNat).any (isV v))=b:=by
 rw[aF]at h
 rwa [List.take_of_length_le (by simp)]at h
def dx(f r:Int)(zs:List Int)(at_:Int)(bl:Bool):Int×Int:=bif aW f r zs&&aj f r at_ then(attR f r zs at_ bl,0) else(0,2)
def kgP(bl:Bool):Int:=bif bl then -6 else 6
def gA(zs:List Int)(bl:Bool):Int:=cL (isV (kgP bl)) zs 0
def mM(zs:List Int)(bl:Bool):Bool:=decide (gA zs bl<0)||(zs.drop (i64.wrap (gA zs bl+1)).toNat).any (isV (kgP bl))
def bW(f r:Int)(zs:List Int)(bl:Bool):Int×Int:=bif aW f r zs then(bif mM zs bl then(0,9) else(gA zs bl,0)) else(0,2)
def bM(f r:Int)(zs:List Int)(bl:Bool):Int×Int:=bif decide ((bW f r zs bl).2=0) then(attR f r zs (bW f r zs bl).1 (!bl),0) else(0,(bW f r zs bl).2)
theorem my(p:Int->Bool):∀ (l:List Int) (k:Int),0<=k->-1<=cL p l k/\cL p l k<k+l.length
 |[],k,_=>by simp[cL];omega
 |x::l,k,h=>by
  have:=my p l (k+1) (by omega)
  rw[cL]
  cases p x<;>simp<;>omega
theorem Kq{f r:Int}{zs:List Int}{bl:Bool}(h:(bW f r zs bl).2=0):aW f r zs=true/\mM zs bl=false/\(bW f r zs bl).1=gA zs bl/\0<=gA zs bl/\gA zs bl<zs.length:=by
 unfold bW at h ⊢
 cases ho:aW f r zs with
 |false=>rw[ho]at h;simp at h
 |true=>
  cases hn:mM zs bl with
  |true=>rw[ho,hn]at h;simp at h
  |false=>
   have hb:=my (isV (kgP bl)) zs 0 (by omega)
   simp only[mM,Bool.or_eq_false_iff,decide_eq_false_iff_not]at hn
   refine⟨rfl,rfl,rfl,by omega,?_⟩
   unfold gA;omega
def iU:CF
 |[.agg [.int .i64 f,.int .i64 r,.sl 0 0 len none],.int .i64 at_,.bool bl],[.ints false .i8 zs]=>some (decide (len=zs.length)&&decide (zs.length<=64),.tup [U (dx f r zs at_ bl).1,I (dx f r zs at_ bl).2],[])
 |_,_=>none
theorem oL:CtOk (GGx kCa kDb) PP (117,iU):=by
 refine aB Tryz.func117 (by kernel_rfl) rfl fun a0 h0 c0 v0 N0 e hc=>?_
 unfold iU at e
 split at e
 ·rename_i f r len at_ bl zs
  cases e
  have hE:=aA (kCa:=kCa) (kDb:=kDb) (cts:=[(90,yI),(101,eG),(59,fZ)]) (inl:=[]) ⟨uQ,cS,iE,trivial⟩ trivial
  refine aq hE 2 Tryz.func117 rfl rfl ?_
  simp only[Bool.and_eq_true,decide_eq_true_eq]at hc
  obtain⟨rfl,hc2⟩:=hc
  repeat (first|refine ah ?_|refine sat_nd ?_)
  refine av (fun h=>?_) (fun h=>?_)
  ·have h:(aW f r zs&&aj f r at_)=false:=by
    have h:(!aW f r (tk zs)||!aj f r at_)=true:=h
    rw[aF]at h
    cases h1:aW f r zs<;>cases h2:aj f r at_<;>simp_all
   exact ag (ai (.inr rfl) rfl rfl rfl (by rw[dx,h];rfl))
  ·have h:(aW f r zs&&aj f r at_)=true:=by
    have h:(!aW f r (tk zs)||!aj f r at_)=false:=h
    rw[aF]at h
    cases h1:aW f r zs<;>cases h2:aj f r at_<;>simp_all
   have h0:=(aS (Bool.and_eq_true_iff.1 h).2).1
   refine ae (by simp;omega) ?_
   exact ag (ai (.inr rfl) rfl rfl rfl (by
    show V.tup [U (attR f r (tk zs) at_ bl),I 0]=_
    rw[aF,dx,h];rfl))
 ·cases e
def rE:CF
 |[.sl 0 0 len none,.int .i8 v],[.ints false .i8 zs]=>some (decide (len=zs.length)&&decide (zs.length<=1000000),.int .i64 (cL (isV v) zs 0),[])
 |_,_=>none
theorem pT:CtOk (GGx kCa kDb) PP (91,rE):=by
 refine aB Tryz.func91 (by kernel_rfl) rfl fun a0 h0 c0 v0 N0 e hc=>?_
 unfold rE at e
 split at e
 ·rename_i len v zs
  cases e
  have hE:=aA (kCa:=kCa) (kDb:=kDb) (cts:=[]) (inl:=[]) trivial trivial
  refine aq hE 2 Tryz.func91 rfl rfl ?_
  simp only[Bool.and_eq_true,decide_eq_true_eq]at hc
  obtain⟨rfl,hc2⟩:=hc
  refine cC hE 2 (fun i (_:Unit)=>([(0,.sl 0 0 zs.length none),(1,.int .i8 v),(7,I zs.length),(8,I i)],[.ints false .i8 zs])) zs.length (fun j _=>cL (isV v) (zs.drop j) j=cL (isV v) zs 0) () (by omega) (Ent.ren [0] [0,1,7,8] rfl rfl rfl) rfl ?_
  intro j i _ hij hj hz
  refine av (fun hlt=>?_) (fun hlt=>?_)
  ·have hlt':j<zs.length:=by simp at hlt;omega
   rw[sr hlt',show j=i.toNat by omega]at hz
   refine ae (by simp;omega) ?_
   repeat (first|refine ah ?_|refine sat_nd ?_)
   refine av (fun hon=>?_) (fun hon=>?_)
   ·have hon:isV v (zs.getD i.toNat 0)=true:=hon
    rw[hon,cond_true]at hz
    refine ag (ag (ai (.inr rfl) rfl rfl rfl (by rw[<-hz];exact congrArg (V.int i64) (by omega))))
   ·have hon:isV v (zs.getD i.toNat 0)=false:=hon
    rw[hon,cond_false]at hz
    exact ag ⟨hlt',(),by rw[<-hz,show i.toNat=j by omega];push_cast;rfl,Ent.ren [0] [0,1,7,8] rfl rfl rfl⟩
  ·obtain rfl:j=zs.length:=by simp at hlt;omega
   rw[List.drop_length]at hz
   exact ag (ag (ai (.inr rfl) rfl rfl rfl (by rw[<-hz];rfl)))
 ·cases e
def ig:CF
 |[.sl 0 0 len none,.int .i8 v],[.ints false .i8 zs]=>some (decide (len=zs.length)&&decide (zs.length<=1000000),.bool (zs.any (isV v)),[])
 |_,_=>none
theorem jm:CtOk (GGx kCa kDb) PP (92,ig):=by
 refine aB Tryz.func92 (by kernel_rfl) rfl fun a0 h0 c0 v0 N0 e hc=>?_
 unfold ig at e
 split at e
 ·rename_i len v zs
  cases e
  have hE:=aA (kCa:=kCa) (kDb:=kDb) (cts:=[(91,rE)]) (inl:=[]) ⟨pT,trivial⟩ trivial
  refine aq hE 2 Tryz.func92 rfl rfl ?_
  simp only[Bool.and_eq_true,decide_eq_true_eq]at hc
  obtain⟨rfl,hc2⟩:=hc
  refine ae (by simp;omega) ?_
  exact ag (ai (.inr rfl) rfl rfl rfl (congrArg Bb (by
   show decide (0<=cL (isV v) (tk zs) 0)=_
   rw[aF];exact sN (isV v) zs 0 (by omega))))
 ·cases e
def tD:CF
 |[.agg [.int .i64 f,.int .i64 r,.sl 0 0 len none],.bool bl],[.ints false .i8 zs]=>some (decide (len=zs.length)&&decide (zs.length<=64),.tup [I (bW f r zs bl).1,I (bW f r zs bl).2],[])
 |_,_=>none
theorem nI:CtOk (GGx kCa kDb) PP (49,tD):=by
 refine aB Tryz.func49 (by kernel_rfl) rfl fun a0 h0 c0 v0 N0 e hc=>?_
 unfold tD at e
 split at e
 ·rename_i f r len bl zs
  cases e
  have hE:=aA (kCa:=kCa) (kDb:=kDb) (cts:=[(90,yI),(91,rE),(92,ig)]) (inl:=[]) ⟨uQ,pT,jm,trivial⟩ trivial
  refine aq hE 2 Tryz.func49 rfl rfl ?_
  simp only[Bool.and_eq_true,decide_eq_true_eq]at hc
  obtain⟨rfl,hc2⟩:=hc
  repeat (first|refine ah ?_|refine sat_nd ?_)
  refine av (fun h=>?_) (fun h=>?_)
  ·have h:aW f r zs=false:=by simpa using h
   exact ag (ai (.inr rfl) rfl rfl rfl (by rw[bW,h];rfl))
  have h:aW f r zs=true:=by simpa using h
  refine av (fun hb=>?_) (fun hb=>?_)
  ·subst hb
   have hbd:=my (isV (kgP true)) zs 0 (by omega)
   repeat (first|refine ah ?_|refine sat_nd ?_)
   refine ae (by
    refine tZ (K:=cL (isV (kgP true)) (tk zs) 0) ?_ ?_ hc2
    ·rw[aF];exact hbd.1
    ·rw[aF];have:=hbd.2;omega) ?_
   repeat (first|(first|refine ah ?_|refine sat_nd ?_)|refine ae (tc rfl hc2) ?_)
   refine av (fun hk=>?_) (fun hk=>?_)
   ·have hk:=ju (zs:=zs) (v:=kgP true) hk
    exact ag (ai (.inr rfl) rfl rfl rfl (by rw[bW,h,show mM zs true=true from hk];rfl))
   ·have hk:=ju (zs:=zs) (v:=kgP true) hk
    exact ag (ai (.inr rfl) rfl rfl rfl (by
     show V.tup [I (cL (isV (kgP true)) (tk zs) 0),I 0]=_
     rw[aF,bW,h,show mM zs true=false from hk];rfl))
  ·subst hb
   have hbd:=my (isV (kgP false)) zs 0 (by omega)
   repeat (first|refine ah ?_|refine sat_nd ?_)
   refine ae (by
    refine tZ (K:=cL (isV (kgP false)) (tk zs) 0) ?_ ?_ hc2
    ·rw[aF];exact hbd.1
    ·rw[aF];have:=hbd.2;omega) ?_
   repeat (first|(first|refine ah ?_|refine sat_nd ?_)|refine ae (tc rfl hc2) ?_)
   refine av (fun hk=>?_) (fun hk=>?_)
   ·have hk:=ju (zs:=zs) (v:=kgP false) hk
    exact ag (ai (.inr rfl) rfl rfl rfl (by rw[bW,h,show mM zs false=true from hk];rfl))
   ·have hk:=ju (zs:=zs) (v:=kgP false) hk
    exact ag (ai (.inr rfl) rfl rfl rfl (by
     show V.tup [I (cL (isV (kgP false)) (tk zs) 0),I 0]=_
     rw[aF,bW,h,show mM zs false=false from hk];rfl))
 ·cases e
def fK:CF
 |[.agg [.int .i64 f,.int .i64 r,.sl 0 0 len none],.bool bl],[.ints false .i8 zs]=>some (decide (len=zs.length)&&decide (zs.length<=64),.tup [U (bM f r zs bl).1,I (bM f r zs bl).2],[])
 |_,_=>none
theorem gp:CtOk (GGx kCa kDb) PP (28,fK):=by
 refine aB Tryz.func28 (by kernel_rfl) rfl fun a0 h0 c0 v0 N0 e hc=>?_
 unfold fK at e
 split at e
 ·rename_i f r len bl zs
  cases e
  have hE:=aA (kCa:=kCa) (kDb:=kDb) (cts:=[(49,tD),(59,fZ)]) (inl:=[]) ⟨nI,iE,trivial⟩ trivial
  refine aq hE 2 Tryz.func28 rfl rfl ?_
  simp only[Bool.and_eq_true,decide_eq_true_eq]at hc
  obtain⟨rfl,hc2⟩:=hc
  repeat (first|refine ah ?_|refine sat_nd ?_)
  refine av (fun h=>?_) (fun h=>?_)
  ·have h:decide ((bW f r zs bl).2=0)=false:=by simpa using h
   exact ag (ai (.inr rfl) rfl rfl rfl (by
    show V.tup [U 0,I (bW f r (tk zs) bl).2]=_
    rw[aF,bM,h];rfl))
  have h:decide ((bW f r zs bl).2=0)=true:=by simpa using h
  obtain⟨_,_,k3,k4,k5⟩:=Kq (of_decide_eq_true h)
  refine ae (by
   have e:(bW f r (tk zs) bl).1=gA zs bl:=by rw[aF,k3]
   rw[e];simp;omega) ?_
  exact ag (ai (.inr rfl) rfl rfl rfl (by
   show V.tup [U (attR f r (tk zs) (bW f r (tk zs) bl).1 (!bl)),I 0]=_
   rw[aF,bM,h];rfl))
 ·cases e
end
end Go.Ab
set_option maxHeartbeats 4000000
namespace Go.Ab
open IntKind
open Go.Proofs
section
variable{kCa kDb:Bool}
structure Psn where
 f:Int
 r:Int
 zs:List Int
 bl:Bool
 ca:Int
 pa:Int
 ha:Int
 fu:Int
structure Mov where
 a:Int
 b:Int
 p:Int
structure Und where
 m:Mov
 c:Int
 at_:Int
 ca:Int
 pa:Int
 ha:Int
 fu:Int
abbrev fz(a b:Int):Int:=band .and .u8 a b
def ofP(k:Int)(b:Bool):Int:=bif b then w8 (0-k)else k
def mvB(f r a b p:Int):Bool:=aj f r a&&aj f r b&&!decide (a=b)&&(decide (p=0)||(decide (2<=p)&&decide (p<=5)))
def is88(f r:Int):Bool:=decide (f=8)&&decide (r=8)
def rtX(f r:Int)(zs:List Int)(ca bit:Int)(k q:Nat)(b:Bool):Bool:=!decide (fz ca bit=0)&&((!is88 f r||!decide (zs.getD k 0=ofP 6 b))||!decide (zs.getD q 0=ofP 4 b))
def fC(f r:Int)(zs:List Int)(ca:Int):Bool:=!rtX f r zs ca 1 4 7 false&&!rtX f r zs ca 2 4 0 false&&!rtX f r zs ca 4 60 63 true&&!rtX f r zs ca 8 60 56 true&&decide (ca<16)
def upP(f:Int)(bl:Bool):Int:=bif bl then f else i64.wrap (0-f)
def rkP(r:Int)(bl:Bool):Int:=bif bl then 2 else i64.wrap (r-3)
def kp(f r:Int)(zs:List Int)(bl:Bool)(pa ha:Int):Bool:=decide (pa=-1) ||
 (decide (6<=r)&&decide (ha=0)&&aj f r pa&&decide (i64.wrap (pa.tdiv f)=rkP r bl)&&decide (zs.getD pa.toNat 0=0)&&decide (zs.getD (i64.wrap (pa-upP f bl)).toNat 0=0)&&decide (zs.getD (i64.wrap (pa+upP f bl)).toNat 0=ofP 1 (!bl)))
def mG(f:Int)(zs:List Int):Bool:=!(zs.drop (zs.length-f.toNat)).any (isV 1)&&!(zs.take f.toNat).any (isV (-1))
def fE(f r:Int)(zs:List Int)(bl:Bool):Bool:=decide ((bW f r zs bl).2=0)&&decide ((bM f r zs (!bl)).2=0)&&decide ((bM f r zs (!bl)).1=0)
def cntB(ha fu:Int):Bool:=decide (0<=ha)&&decide (ha<=10000)&&decide (1<=fu)&&decide (fu<=10000)
def Psn.ok(p:Psn):Bool:=aD p.f p.r p.zs&&fE p.f p.r p.zs p.bl&&mG p.f p.zs&&fC p.f p.r p.zs p.ca&&kp p.f p.r p.zs p.bl p.pa p.ha&&cntB p.ha p.fu
theorem bh{f r:Int}{zs:List Int}(h:aD f r zs=true):vsB f r=true/\(zs.length:Int)=f*r:=by
 simp only[aD,Bool.and_eq_true,decide_eq_true_eq]at h
 obtain⟨⟨h1,h2⟩,_⟩:=h
 unfold cntR at h1 h2
 cases hv:vsB f r with
 |false=>rw[hv]at h1;simp at h1
 |true=>rw[hv]at h2;exact⟨rfl,by rw[cond_true]at h2;rw[h2];exact eK hv⟩
theorem bQ{f r n:Int}{zs:List Int}(h:aD f r zs=true):aj f r n=true↔0<=n/\n<zs.length:=by
 obtain⟨h1,h2⟩:=bh h
 rw[h2]
 exact⟨fun h=>⟨(aS h).1,(aS h).2.1⟩,fun h=>qK h1 h.1 h.2⟩
theorem ur{f r:Int}{zs:List Int}(h:aD f r zs=true)(h8:is88 f r=true):zs.length=64:=by
 have:=(bh h).2
 simp only[is88,Bool.and_eq_true,decide_eq_true_eq]at h8
 obtain⟨rfl,rfl⟩:=h8
 omega
def HA:CF
 |[.int .i8 k,.bool b],[]=>some (true,.int .i8 (ofP k b),[])
 |_,_=>none
theorem yT:CtOk (GGx kCa kDb) PP (131,HA):=by
 refine aB Tryz.func131 (by kernel_rfl) rfl fun a0 h0 c0 v0 N0 e hc=>?_
 unfold HA at e
 split at e
 ·rename_i k b
  cases e
  have hE:=aA (kCa:=kCa) (kDb:=kDb) (cts:=[]) (inl:=[]) trivial trivial
  refine aq hE 2 Tryz.func131 rfl rfl ?_
  repeat' first|(first|refine ah ?_|refine sat_nd ?_)|refine av (fun h=>?_) (fun h=>?_)
  all_goals exact ag (ai (.inr rfl) rfl rfl rfl (by first|rfl|(simp only[ofP, *,cond_true,cond_false];done)|(simp only[ofP, *,cond_true,cond_false,Bool.not_true,Bool.not_false,Bool.and_true,Bool.true_and,Bool.and_false,Bool.false_and,Bool.or_true,Bool.true_or,Bool.or_false,Bool.false_or];done)|simp_all [ofP]))
 ·cases e
theorem AN:oO { (EE kCa kDb [] [])with pf:=oF (EE kCa kDb [] []) [] 1000 4,cc:=true } 3 1000 Tryz.f130 [] []=some (.agg [.int .u8 1,.str [75],.lit false,I 4,I 7,.int .u8 2,.str [81],.lit false,I 4,I 0,.int .u8 4,.str [107],.lit true,I 60,I 63,.int .u8 8,.str [113],.lit true,I 60,I 56],[]):=by kernel_rfl
def rZ:CF
 |[],[]=>some (true,.agg [.int .u8 1,.str [75],.lit false,I 4,I 7,.int .u8 2,.str [81],.lit false,I 4,I 0,.int .u8 4,.str [107],.lit true,I 60,I 63,.int .u8 8,.str [113],.lit true,I 60,I 56],[])
 |_,_=>none
theorem xK:CtOk (GGx kCa kDb) PP (130,rZ):=by
 refine aB Tryz.func130 (by kernel_rfl) rfl fun a0 h0 c0 v0 N0 e hc=>?_
 unfold rZ at e
 split at e
 ·cases e
  exact aK.like (pF (aA (kCa:=kCa) (kDb:=kDb) (cts:=[]) (inl:=[]) trivial trivial) (xs:=[]) trivial 1000 4 Tryz.func130 AN) (fun _ _ h=>h)
 ·cases e
def qp:CF
 |[.agg [.int .i64 f,.int .i64 r],.agg [.int .i64 a,.int .i64 b,.int .i8 pr]],[]=>some (true,.bool (mvB f r a b pr),[])
 |_,_=>none
theorem vF:CtOk (GGx kCa kDb) PP (111,qp):=by
 refine aB Tryz.func111 (by kernel_rfl) rfl fun a0 h0 c0 v0 N0 e hc=>?_
 unfold qp at e
 split at e
 ·rename_i f r a b pr
  cases e
  have hE:=aA (kCa:=kCa) (kDb:=kDb) (cts:=[(101,eG)]) (inl:=[]) ⟨cS,trivial⟩ trivial
  refine aq hE 2 Tryz.func111 rfl rfl ?_
  repeat (first|refine ah ?_|refine sat_nd ?_)
  exact ag (ai (.inr rfl) rfl rfl rfl rfl)
 ·cases e
def sR:CF
 |[.int .i8 p],[]=>some (true,.int .i8 (absP p),[])
 |_,_=>none
theorem ny:CtOk (GGx kCa kDb) PP (115,sR):=by
 refine aB Tryz.func115 (by kernel_rfl) rfl fun a0 h0 c0 v0 N0 e hc=>?_
 unfold sR at e
 split at e
 ·rename_i p
  cases e
  have hE:=aA (kCa:=kCa) (kDb:=kDb) (cts:=[]) (inl:=[]) trivial trivial
  refine aq hE 2 Tryz.func115 rfl rfl ?_
  exact ag (ai (.inr rfl) rfl rfl rfl rfl)
 ·cases e
def c_is:CF
 |[.int .i8 p,.bool b],[]=>some (true,.bool (isP p b),[])
 |_,_=>none
theorem Ky:CtOk (GGx kCa kDb) PP (112,c_is):=by
 refine aB Tryz.func112 (by kernel_rfl) rfl fun a0 h0 c0 v0 N0 e hc=>?_
 unfold c_is at e
 split at e
 ·rename_i p b
  cases e
  have hE:=aA (kCa:=kCa) (kDb:=kDb) (cts:=[]) (inl:=[]) trivial trivial
  refine aq hE 2 Tryz.func112 rfl rfl ?_
  repeat (first|refine ah ?_|refine sat_nd ?_)
  exact ag (ai (.inr rfl) rfl rfl rfl rfl)
 ·cases e
theorem yM{f r:Int}{zs:List Int}{g:Bool}{k:Int}(h:aD f r zs=true)(h0:0<=k)(h1:k<64):(!(g&&!!is88 f r)||(decide (0<=k)&&decide (k<zs.length)))=true:=by
 cases h8:is88 f r with
 |false=>simp
 |true=>have:=ur h h8;simp;omega
theorem qh{f r:Int}{zs:List Int}{g x:Bool}{k:Int}(h:aD f r zs=true)(h0:0<=k)(h1:k<64):(!(g&&!(!is88 f r||x))||(decide (0<=k)&&decide (k<zs.length)))=true:=by
 cases h8:is88 f r with
 |false=>simp
 |true=>have:=ur h h8;simp;omega
def kJ:CF
 |[.agg [.int .i64 f,.int .i64 r,.sl 0 0 len none,.bool _bl,.int .u8 ca,.int .i64 _pa,.int .i64 _ha,.int .i64 _fu]],[.ints false .i8 zs]=>some (decide (len=zs.length)&&decide (zs.length<=64)&&aD f r zs,.bool (fC f r zs ca),[])
 |_,_=>none
theorem qy:CtOk (GGx kCa kDb) PP (73,kJ):=by
 refine aB Tryz.func73 (by kernel_rfl) rfl fun a0 h0 c0 v0 N0 e hc=>?_
 unfold kJ at e
 split at e
 ·rename_i f r len bl ca pa ha fu zs
  cases e
  have hE:=aA (kCa:=kCa) (kDb:=kDb) (cts:=[(130,rZ),(131,HA)]) (inl:=[]) ⟨xK,yT,trivial⟩ trivial
  refine aq hE 2 Tryz.func73 rfl rfl ?_
  simp only[Bool.and_eq_true,decide_eq_true_eq]at hc
  obtain⟨⟨rfl,hc2⟩,hbd⟩:=hc
  repeat (first|refine ah ?_|refine sat_nd ?_)
  refine dn hE 2 5 ?_
  refine rnd ?_
  refine cN (by rfl) ?_
  repeat (first|(first|refine ah ?_|refine sat_nd ?_)|refine ae (yM hbd (by omega) (by omega)) ?_|refine ae (qh hbd (by omega) (by omega)) ?_)
  refine av (fun h0=>?_) (fun h0=>?_)
  ·have h0:rtX f r zs ca 1 4 7 false=true:=h0
   exact ag (ag (ai (.inr rfl) rfl rfl rfl (by simp[fC,h0])))
  have h0:rtX f r zs ca 1 4 7 false=false:=h0
  refine ag ⟨[(1,.ptr 1 0 0),(5,.agg [.int .u8 1,.str [75],.lit false,I 4,I 7,.int .u8 2,.str [81],.lit false,I 4,I 0,.int .u8 4,.str [107],.lit true,I 60,I 63,.int .u8 8,.str [113],.lit true,I 60,I 56]),(6,I 1)],[.ints false .i8 zs,.cells true [I f,I r,.sl 0 0 zs.length none,Bb bl,.int .u8 ca,I pa,I ha,I fu]],Ent.ren [0,1] [1,5,6] rfl rfl rfl,?_⟩
  refine rnd ?_
  refine cN (by rfl) ?_
  repeat (first|(first|refine ah ?_|refine sat_nd ?_)|refine ae (yM hbd (by omega) (by omega)) ?_|refine ae (qh hbd (by omega) (by omega)) ?_)
  refine av (fun h1=>?_) (fun h1=>?_)
  ·have h1:rtX f r zs ca 2 4 0 false=true:=h1
   exact ag (ag (ai (.inr rfl) rfl rfl rfl (by simp[fC,h1])))
  have h1:rtX f r zs ca 2 4 0 false=false:=h1
  refine ag ⟨[(1,.ptr 1 0 0),(5,.agg [.int .u8 1,.str [75],.lit false,I 4,I 7,.int .u8 2,.str [81],.lit false,I 4,I 0,.int .u8 4,.str [107],.lit true,I 60,I 63,.int .u8 8,.str [113],.lit true,I 60,I 56]),(6,I 2)],[.ints false .i8 zs,.cells true [I f,I r,.sl 0 0 zs.length none,Bb bl,.int .u8 ca,I pa,I ha,I fu]],Ent.ren [0,1] [1,5,6] rfl rfl rfl,?_⟩
  refine rnd ?_
  refine cN (by rfl) ?_
  repeat (first|(first|refine ah ?_|refine sat_nd ?_)|refine ae (yM hbd (by omega) (by omega)) ?_|refine ae (qh hbd (by omega) (by omega)) ?_)
  refine av (fun h2=>?_) (fun h2=>?_)
  ·have h2:rtX f r zs ca 4 60 63 true=true:=h2
   exact ag (ag (ai (.inr rfl) rfl rfl rfl (by simp[fC,h2])))
  have h2:rtX f r zs ca 4 60 63 true=false:=h2
  refine ag ⟨[(1,.ptr 1 0 0),(5,.agg [.int .u8 1,.str [75],.lit false,I 4,I 7,.int .u8 2,.str [81],.lit false,I 4,I 0,.int .u8 4,.str [107],.lit true,I 60,I 63,.int .u8 8,.str [113],.lit true,I 60,I 56]),(6,I 3)],[.ints false .i8 zs,.cells true [I f,I r,.sl 0 0 zs.length none,Bb bl,.int .u8 ca,I pa,I ha,I fu]],Ent.ren [0,1] [1,5,6] rfl rfl rfl,?_⟩
  refine rnd ?_
  refine cN (by rfl) ?_
  repeat (first|(first|refine ah ?_|refine sat_nd ?_)|refine ae (yM hbd (by omega) (by omega)) ?_|refine ae (qh hbd (by omega) (by omega)) ?_)
  refine av (fun h3=>?_) (fun h3=>?_)
  ·have h3:rtX f r zs ca 8 60 56 true=true:=h3
   exact ag (ag (ai (.inr rfl) rfl rfl rfl (by simp[fC,h3])))
  have h3:rtX f r zs ca 8 60 56 true=false:=h3
  refine ag ⟨[(1,.ptr 1 0 0),(5,.agg [.int .u8 1,.str [75],.lit false,I 4,I 7,.int .u8 2,.str [81],.lit false,I 4,I 0,.int .u8 4,.str [107],.lit true,I 60,I 63,.int .u8 8,.str [113],.lit true,I 60,I 56]),(6,I 4)],[.ints false .i8 zs,.cells true [I f,I r,.sl 0 0 zs.length none,Bb bl,.int .u8 ca,I pa,I ha,I fu]],Ent.ren [0,1] [1,5,6] rfl rfl rfl,?_⟩
  refine rnd ?_
  refine tM (by rfl) ?_
  refine ag (ag (ai (.inr rfl) rfl rfl rfl (by simp[fC,h0,h1,h2,h3])))
 ·cases e
end
end Go.Ab
namespace Go.Ab
open Go.Proofs
theorem Hf{p:Int}(h:-6<=p/\p<=6):absP p=p.natAbs:=by
 have hw:w8 (0-p)=-p:=by
  have hb:IntKind.i8.bits=8:=rfl
  have:∀ q:_root_.Fin 13,w8 (0-((q.val:Int)-6))=-((q.val:Int)-6):=by decide +kernel
  have h2:=this ⟨(p+6).toNat,by omega⟩
  simp only at h2
  rwa [show (((p+6).toNat:Int)-6)=p by omega]at h2
 unfold absP
 rw[hw]
 unfold imax
 by_cases h1:p < -p<;>simp[h1]<;>omega
end Go.Ab
namespace Go.Ab
open IntKind
open Go.Proofs
section
variable{kCa kDb:Bool}
theorem Bx{C:Int->Bool}{l:List Int}{j:Nat}(h:j<l.length):(bif C (l.getD j 0) then(l.take j).filter C++[l.getD j 0] else(l.take j).filter C)=(l.take (j+1)).filter C:=by
 have e:l.getD j 0=l[j]:=by simp[List.getD,h]
 rw[e,List.take_succ_eq_append_getElem h,List.filter_append]
 cases hc:C l[j]<;>simp[hc]
def aY(p:Int):Int:=bif decide (p<0)then w8 (0-p)else p
def sdI(bl:Bool):Int:=bif bl then -1 else 1
def wQ(zs:List Int)(s i:Int):Bool:=decide (sgn (zs.getD i.toNat 0)=s)
def cF(zs:List Int)(s:Int):List Int:=cy (wQ zs s) id zs.length
def occL(zs:List Int):Int:=ofL (cF zs 1++cF zs (-1)) 0
def kM(zs:List Int)(p i:Int):Bool:=decide (zs.getD i.toNat 0=p)
def iC(zs:List Int)(p:Int):List Int:=cy (kM zs p) id zs.length
def xo(f r:Int)(zs:List Int)(i to occ:Int):Bool:=bif decide (aY (zs.getD i.toNat 0)=1)then hasL to (cy (ei f (decide (zs.getD i.toNat 0<0)) i) id (f*r).toNat)else !decide (i=to)&&bL f r (aY (zs.getD i.toNat 0)) i to occ
def Ac(f r:Int)(zs:List Int)(to occ i:Int):Bool:=xo f r zs i to occ
def attL(f r:Int)(zs:List Int)(to:Int)(bl:Bool):List Int:=(cF zs (sdI bl)).filter (Ac f r zs to (occL zs))
def aV(zs:List Int)(bl:Bool):Int:=bif decide (((iC zs (w8 (i64.wrap (6*sdI bl)))).length:Int)=1) then(iC zs (w8 (i64.wrap (6*sdI bl)))).getD 0 0 else -1
theorem gQ(zs:List Int)(s:Int):(cF zs s).length<=zs.length:=de _ _ _
theorem gS{zs:List Int}{s x:Int}:x∈cF zs s↔0<=x/\x<zs.length/\sgn (zs.getD x.toNat 0)=s:=by
 unfold cF
 rw[eJ]
 simp[wQ]
theorem rM{f r:Int}{zs:List Int}:(vsB f r&&decide ((zs.length:Int)=i64.wrap (f*r))&&zs.all okP)=aD f r zs:=by
 unfold aD cntR
 cases vsB f r
 ·simp
 ·simp[badP,List.any_eq_not_all_not]
theorem wI{f r:Int}{zs:List Int}:(aD f r zs&&zs.all (fun p=>!norP p))=aW f r zs:=by
 unfold aW
 simp[List.any_eq_not_all_not]
def xB:CF
 |[.int .i8 p],[]=>some (true,.bool (okP p),[])
 |_,_=>none
theorem zT:CtOk (GGx kCa kDb) PP (133,xB):=by
 refine aB Tryz.func133 (by kernel_rfl) rfl fun a0 h0 c0 v0 N0 e hc=>?_
 unfold xB at e
 split at e
 ·rename_i p
  cases e
  have hE:=aA (kCa:=kCa) (kDb:=kDb) (cts:=[]) (inl:=[]) trivial trivial
  refine aq hE 2 Tryz.func133 rfl rfl ?_
  repeat' first|(first|refine ah ?_|refine sat_nd ?_)|refine av (fun h=>?_) (fun h=>?_)
  all_goals exact ag (ai (.inr rfl) rfl rfl rfl (by first|rfl|(simp only[*,cond_true,cond_false];done)|(simp only[*,cond_true,cond_false,Bool.not_true,Bool.not_false,Bool.and_true,Bool.true_and,Bool.and_false,Bool.false_and,Bool.or_true,Bool.true_or,Bool.or_false,Bool.false_or];done)|simp_all []))
 ·cases e
def qu:CF
 |[.int .i8 p],[]=>some (true,.bool (orP p),[])
 |_,_=>none
theorem vH:CtOk (GGx kCa kDb) PP (79,qu):=by
 refine aB Tryz.func79 (by kernel_rfl) rfl fun a0 h0 c0 v0 N0 e hc=>?_
 unfold qu at e
 split at e
 ·rename_i p
  cases e
  have hE:=aA (kCa:=kCa) (kDb:=kDb) (cts:=[]) (inl:=[]) trivial trivial
  refine aq hE 2 Tryz.func79 rfl rfl ?_
  repeat' first|(first|refine ah ?_|refine sat_nd ?_)|refine av (fun h=>?_) (fun h=>?_)
  all_goals exact ag (ai (.inr rfl) rfl rfl rfl (by first|rfl|(simp only[*,cond_true,cond_false];done)|(simp only[*,cond_true,cond_false,Bool.not_true,Bool.not_false,Bool.and_true,Bool.true_and,Bool.and_false,Bool.false_and,Bool.or_true,Bool.true_or,Bool.or_false,Bool.false_or];done)|simp_all []))
 ·cases e
def mj:CF
 |[.int .i8 p],[]=>some (true,.int .i64 (sgn p),[])
 |_,_=>none
theorem nj:CtOk (GGx kCa kDb) PP (139,mj):=by
 refine aB Tryz.func139 (by kernel_rfl) rfl fun a0 h0 c0 v0 N0 e hc=>?_
 unfold mj at e
 split at e
 ·rename_i p
  cases e
  have hE:=aA (kCa:=kCa) (kDb:=kDb) (cts:=[]) (inl:=[]) trivial trivial
  refine aq hE 2 Tryz.func139 rfl rfl ?_
  repeat' first|(first|refine ah ?_|refine sat_nd ?_)|refine av (fun h=>?_) (fun h=>?_)
  all_goals exact ag (ai (.inr rfl) rfl rfl rfl (by first|rfl|(simp only[sgn, *,cond_true,cond_false];done)|(simp only[sgn, *,cond_true,cond_false,Bool.not_true,Bool.not_false,Bool.and_true,Bool.true_and,Bool.and_false,Bool.false_and,Bool.or_true,Bool.true_or,Bool.or_false,Bool.false_or];done)|simp_all [sgn]))
 ·cases e
def fk:CF
 |[.int .i8 p],[]=>some (true,.int .i8 (aY p),[])
 |_,_=>none
theorem dR:CtOk (GGx kCa kDb) PP (38,fk):=by
 refine aB Tryz.func38 (by kernel_rfl) rfl fun a0 h0 c0 v0 N0 e hc=>?_
 unfold fk at e
 split at e
 ·rename_i p
  cases e
  have hE:=aA (kCa:=kCa) (kDb:=kDb) (cts:=[]) (inl:=[]) trivial trivial
  refine aq hE 2 Tryz.func38 rfl rfl ?_
  repeat' first|(first|refine ah ?_|refine sat_nd ?_)|refine av (fun h=>?_) (fun h=>?_)
  all_goals exact ag (ai (.inr rfl) rfl rfl rfl (by first|rfl|(simp only[aY, *,cond_true,cond_false];done)|(simp only[aY, *,cond_true,cond_false,Bool.not_true,Bool.not_false,Bool.and_true,Bool.true_and,Bool.and_false,Bool.false_and,Bool.or_true,Bool.true_or,Bool.or_false,Bool.false_or];done)|simp_all [aY]))
 ·cases e
def qC:CF
 |[.bool bl],[]=>some (true,.int .i64 (sdI bl),[])
 |_,_=>none
theorem pB:CtOk (GGx kCa kDb) PP (81,qC):=by
 refine aB Tryz.func81 (by kernel_rfl) rfl fun a0 h0 c0 v0 N0 e hc=>?_
 unfold qC at e
 split at e
 ·rename_i bl
  cases e
  have hE:=aA (kCa:=kCa) (kDb:=kDb) (cts:=[]) (inl:=[]) trivial trivial
  refine aq hE 2 Tryz.func81 rfl rfl ?_
  repeat' first|(first|refine ah ?_|refine sat_nd ?_)|refine av (fun h=>?_) (fun h=>?_)
  all_goals exact ag (ai (.inr rfl) rfl rfl rfl (by first|rfl|(simp only[sdI, *,cond_true,cond_false];done)|(simp only[sdI, *,cond_true,cond_false,Bool.not_true,Bool.not_false,Bool.and_true,Bool.true_and,Bool.and_false,Bool.false_and,Bool.or_true,Bool.true_or,Bool.or_false,Bool.false_or];done)|simp_all [sdI]))
 ·cases e
def Ei:CF
 |[.sl 0 0 len none,.int .i64 n],[.ints false .i64 zs]=>some (decide (len=zs.length)&&decide (zs.length<=1000000),.bool (hasL n zs),[])
 |_,_=>none
theorem EW:CtOk (GGx kCa kDb) PP (160,Ei):=by
 refine aB Tryz.func160 (by kernel_rfl) rfl fun a0 h0 c0 v0 N0 e hc=>?_
 unfold Ei at e
 split at e
 ·rename_i len n zs
  cases e
  have hE:=aA (kCa:=kCa) (kDb:=kDb) (cts:=[]) (inl:=[]) trivial trivial
  refine aq hE 2 Tryz.func160 rfl rfl ?_
  simp only[Bool.and_eq_true,decide_eq_true_eq]at hc
  obtain⟨rfl,hc2⟩:=hc
  refine cC hE 2 (fun i (_:Unit)=>([(0,.sl 0 0 zs.length none),(1,I n),(5,I i)],[.ints false .i64 zs])) zs.length (fun j _=>hasL n (zs.drop j)=hasL n zs) () (by omega) (Ent.ren [0] [0,1,5] rfl rfl rfl) rfl ?_
  intro j i _ hij hj hz
  refine av (fun hlt=>?_) (fun hlt=>?_)
  ·have hlt':j<zs.length:=by simp at hlt;omega
   rw[xy hlt',show j=i.toNat by omega]at hz
   refine ae (by simp;omega) ?_
   repeat (first|refine ah ?_|refine sat_nd ?_)
   refine av (fun hon=>?_) (fun hon=>?_)
   ·have hon:decide (zs.getD i.toNat 0=n)=true:=hon
    rw[hon]at hz
    exact ag (ag (ai (.inr rfl) rfl rfl rfl (by rw[<-hz];rfl)))
   ·have hon:decide (zs.getD i.toNat 0=n)=false:=hon
    rw[hon]at hz
    exact ag ⟨hlt',(),by rw[<-hz,show i.toNat=j by omega];rfl,Ent.ren [0] [0,1,5] rfl rfl rfl⟩
  ·obtain rfl:j=zs.length:=by simp at hlt;omega
   rw[List.drop_length]at hz
   exact ag (ag (ai (.inr rfl) rfl rfl rfl (by rw[<-hz];rfl)))
 ·cases e
def nnP(p:Int):Bool:=!norP p
def oC:CF
 |[.agg [.int .i64 f,.int .i64 r,.sl 0 0 len none]],[.ints false .i8 zs]=>some (decide (len=zs.length)&&decide (zs.length<=64),.bool (aD f r zs),[])
 |_,_=>none
theorem uh:CtOk (GGx kCa kDb) PP (78,oC):=by
 refine aB Tryz.func78 (by kernel_rfl) rfl fun a0 h0 c0 v0 N0 e hc=>?_
 unfold oC at e
 split at e
 ·rename_i f r len zs
  cases e
  have hE:=aA (kCa:=kCa) (kDb:=kDb) (cts:=[(132,zg),(133,xB)]) (inl:=[]) ⟨tv,zT,trivial⟩ trivial
  refine aq hE 2 Tryz.func78 rfl rfl ?_
  simp only[Bool.and_eq_true,decide_eq_true_eq]at hc
  obtain⟨rfl,hc2⟩:=hc
  repeat (first|refine ah ?_|refine sat_nd ?_)
  refine av (fun h=>?_) (fun h=>?_)
  ·have h:(vsB f r&&decide ((zs.length:Int)=i64.wrap (f*r)))=false:=by
    have h:(!vsB f r||!decide ((zs.length:Int)=i64.wrap (f*r)))=true:=h
    cases h1:vsB f r<;>cases h2:decide ((zs.length:Int)=i64.wrap (f*r))<;>simp_all
   exact ag (ai (.inr rfl) rfl rfl rfl (by rw[<-rM,h];rfl))
  have h:(vsB f r&&decide ((zs.length:Int)=i64.wrap (f*r)))=true:=by
   have h:(!vsB f r||!decide ((zs.length:Int)=i64.wrap (f*r)))=false:=h
   cases h1:vsB f r<;>cases h2:decide ((zs.length:Int)=i64.wrap (f*r))<;>simp_all
  refine cC hE 2 (fun i (_:Unit)=>([(1,.ptr 1 0 0),(3,I i)],[.ints false .i8 zs,.cells true [I f,I r,.sl 0 0 zs.length none]])) zs.length (fun j _=>(zs.drop j).all okP=zs.all okP) () (by omega) (Ent.ren [0,1] [1,3] rfl rfl rfl) rfl ?_
  intro j i _ hij hj hz
  refine av (fun hlt=>?_) (fun hlt=>?_)
  ·have hlt':j<zs.length:=by simp at hlt;omega
   rw[yP hlt',show j=i.toNat by omega]at hz
   refine ae (by simp;omega) ?_
   repeat (first|(first|refine ah ?_|refine sat_nd ?_)|refine ae (by simp;omega) ?_)
   refine av (fun hon=>?_) (fun hon=>?_)
   ·have hon:(!okP (zs.getD i.toNat 0))=true:=hon
    have hon:okP (zs.getD i.toNat 0)=false:=by simpa using hon
    rw[hon]at hz
    exact ag (ag (ai (.inr rfl) rfl rfl rfl (by rw[<-rM,h,<-hz];rfl)))
   ·have hon:(!okP (zs.getD i.toNat 0))=false:=hon
    have hon:okP (zs.getD i.toNat 0)=true:=by simpa using hon
    rw[hon]at hz
    exact ag ⟨hlt',(),by rw[<-hz,show i.toNat=j by omega];rfl,Ent.ren [0,1] [1,3] rfl rfl rfl⟩
  ·obtain rfl:j=zs.length:=by simp at hlt;omega
   rw[List.drop_length]at hz
   have hz:zs.all okP=true:=hz.symm
   exact ag (ag (ai (.inr rfl) rfl rfl rfl (by rw[<-rM,h,hz];rfl)))
 ·cases e
def vL:CF
 |[.agg [.int .i64 f,.int .i64 r,.sl 0 0 len none]],[.ints false .i8 zs]=>some (decide (len=zs.length)&&decide (zs.length<=64),.bool (aW f r zs),[])
 |_,_=>none
theorem AD:CtOk (GGx kCa kDb) PP (35,vL):=by
 refine aB Tryz.func35 (by kernel_rfl) rfl fun a0 h0 c0 v0 N0 e hc=>?_
 unfold vL at e
 split at e
 ·rename_i f r len zs
  cases e
  have hE:=aA (kCa:=kCa) (kDb:=kDb) (cts:=[(78,oC),(79,qu)]) (inl:=[]) ⟨uh,vH,trivial⟩ trivial
  refine aq hE 2 Tryz.func35 rfl rfl ?_
  simp only[Bool.and_eq_true,decide_eq_true_eq]at hc
  obtain⟨rfl,hc2⟩:=hc
  repeat (first|refine ah ?_|refine sat_nd ?_)
  refine av (fun h=>?_) (fun h=>?_)
  ·have h:aD f r zs=false:=by simpa using h
   exact ag (ai (.inr rfl) rfl rfl rfl (by rw[<-wI,h];rfl))
  have h:aD f r zs=true:=by simpa using h
  refine cC hE 2 (fun i (_:Unit)=>([(1,.ptr 1 0 0),(3,I i)],[.ints false .i8 zs,.cells true [I f,I r,.sl 0 0 zs.length none]])) zs.length (fun j _=>(zs.drop j).all nnP=zs.all nnP) () (by omega) (Ent.ren [0,1] [1,3] rfl rfl rfl) rfl ?_
  intro j i _ hij hj hz
  refine av (fun hlt=>?_) (fun hlt=>?_)
  ·have hlt':j<zs.length:=by simp at hlt;omega
   rw[yP hlt',show j=i.toNat by omega]at hz
   refine ae (by simp;omega) ?_
   repeat (first|(first|refine ah ?_|refine sat_nd ?_)|refine ae (by simp;omega) ?_)
   refine av (fun hon=>?_) (fun hon=>?_)
   ·have hon:(!nnP (zs.getD i.toNat 0))=true:=(Bool.not_not _).trans hon
    have hon:nnP (zs.getD i.toNat 0)=false:=by simpa using hon
    rw[hon]at hz
    exact ag (ag (ai (.inr rfl) rfl rfl rfl (by rw[<-wI,h,show zs.all (fun p=>!norP p)=zs.all nnP from rfl,<-hz];rfl)))
   ·have hon:(!nnP (zs.getD i.toNat 0))=false:=(Bool.not_not _).trans hon
    have hon:nnP (zs.getD i.toNat 0)=true:=by simpa using hon
    rw[hon]at hz
    exact ag ⟨hlt',(),by rw[<-hz,show i.toNat=j by omega];rfl,Ent.ren [0,1] [1,3] rfl rfl rfl⟩
  ·obtain rfl:j=zs.length:=by simp at hlt;omega
   rw[List.drop_length]at hz
   have hz:zs.all nnP=true:=hz.symm
   exact ag (ag (ai (.inr rfl) rfl rfl rfl (by rw[<-wI,h,show zs.all (fun p=>!norP p)=zs.all nnP from rfl,hz];rfl)))
 ·cases e
def yU:CF
 |[.agg [.int .i64 _f,.int .i64 _r,.sl 0 0 len none],.int .i64 s],[.ints false .i8 zs]=>some (decide (len=zs.length)&&decide (zs.length<=64),.sl 1 0 (cF zs s).length none,[.ints true .i64 (cF zs s)])
 |_,_=>none
theorem uv:CtOk (GGx kCa kDb) PP (134,yU):=by
 refine aB Tryz.func134 (by kernel_rfl) rfl fun a0 h0 c0 v0 N0 e hc=>?_
 unfold yU at e
 split at e
 ·rename_i f r len s zs
  cases e
  have hE:=aA (kCa:=kCa) (kDb:=kDb) (cts:=[(139,mj)]) (inl:=[]) ⟨nj,trivial⟩ trivial
  refine aq hE 2 Tryz.func134 rfl rfl ?_
  simp only[Bool.and_eq_true,decide_eq_true_eq]at hc
  obtain⟨rfl,hc2⟩:=hc
  refine cC hE 2 (fun(i:Int) (ys:List Int)=>([(1,I s),(2,.ptr 1 0 0),(5,.sl 2 0 ys.length none),(6,I i)],[.ints false .i8 zs,.cells true [I f,I r,.sl 0 0 zs.length none],.ints true .i64 ys])) (zs.length) (fun j ys=>ys=cy (wQ zs s) id j) [] (by omega) ((Ent.phanT (t:=5) (o:=.ints true .i64 []) rfl ⟨by simp,by simp,trivial,rfl⟩ (aH rfl)).trans (Ent.ren [0,1,2] [1,2,5,6] rfl rfl rfl)) rfl ?_
  intro j i ys hij hj hz
  have hb:=de (wQ zs s) id j
  rw[<-hz]at hb
  refine av (fun hlt=>?_) (fun hlt=>?_)
  ·have hlt':j<zs.length:=by simp only[decide_eq_true_eq]at hlt;omega
   have hs:=eF (wQ zs s) id j
   rw[<-hz,<-hij]at hs
   repeat (first|(first|refine ah ?_|refine sat_nd ?_)|refine ae (by simp;omega) ?_)
   refine av (fun hon=>?_) (fun hon=>?_)
   ·skip
    have hon:wQ zs s i=true:=hon
    rw[hon,cond_true]at hs
    refine ae (b:=decide (ys.length=ys.length)&&decide ((ys.length+1)*8<=140737488355328)&&true) (by simp;omega) ?_
    exact ag ⟨hlt',ys++[id i],hs.symm,Ent.ren [0,1,4] [1,2,5,6] rfl rfl rfl⟩
   ·skip
    have hon:wQ zs s i=false:=hon
    rw[hon,cond_false]at hs
    exact ag ⟨hlt',ys,hs.symm,Ent.ren [0,1,2] [1,2,5,6] rfl rfl rfl⟩
  ·obtain rfl:j=zs.length:=by simp only[decide_eq_false_iff_not]at hlt;omega
   subst hz
   refine ag (ag ((bV 2 (.inr rfl) rfl rfl rfl rfl rfl rfl)))
 ·cases e
def wq:CF
 |[.agg [.int .i64 _f,.int .i64 _r,.sl 0 0 len none],.int .i8 p],[.ints false .i8 zs]=>some (decide (len=zs.length)&&decide (zs.length<=64),.sl 1 0 (iC zs p).length none,[.ints true .i64 (iC zs p)])
 |_,_=>none
theorem Al:CtOk (GGx kCa kDb) PP (80,wq):=by
 refine aB Tryz.func80 (by kernel_rfl) rfl fun a0 h0 c0 v0 N0 e hc=>?_
 unfold wq at e
 split at e
 ·rename_i f r len p zs
  cases e
  have hE:=aA (kCa:=kCa) (kDb:=kDb) (cts:=[]) (inl:=[]) trivial trivial
  refine aq hE 2 Tryz.func80 rfl rfl ?_
  simp only[Bool.and_eq_true,decide_eq_true_eq]at hc
  obtain⟨rfl,hc2⟩:=hc
  refine cC hE 2 (fun(i:Int) (ys:List Int)=>([(1,.int .i8 p),(2,.ptr 1 0 0),(5,.sl 2 0 ys.length none),(6,I i)],[.ints false .i8 zs,.cells true [I f,I r,.sl 0 0 zs.length none],.ints true .i64 ys])) (zs.length) (fun j ys=>ys=cy (kM zs p) id j) [] (by omega) ((Ent.phanT (t:=5) (o:=.ints true .i64 []) rfl ⟨by simp,by simp,trivial,rfl⟩ (aH rfl)).trans (Ent.ren [0,1,2] [1,2,5,6] rfl rfl rfl)) rfl ?_
  intro j i ys hij hj hz
  have hb:=de (kM zs p) id j
  rw[<-hz]at hb
  refine av (fun hlt=>?_) (fun hlt=>?_)
  ·have hlt':j<zs.length:=by simp only[decide_eq_true_eq]at hlt;omega
   have hs:=eF (kM zs p) id j
   rw[<-hz,<-hij]at hs
   repeat (first|(first|refine ah ?_|refine sat_nd ?_)|refine ae (by simp;omega) ?_)
   refine av (fun hon=>?_) (fun hon=>?_)
   ·skip
    have hon:kM zs p i=true:=hon
    rw[hon,cond_true]at hs
    refine ae (b:=decide (ys.length=ys.length)&&decide ((ys.length+1)*8<=140737488355328)&&true) (by simp;omega) ?_
    exact ag ⟨hlt',ys++[id i],hs.symm,Ent.ren [0,1,4] [1,2,5,6] rfl rfl rfl⟩
   ·skip
    have hon:kM zs p i=false:=hon
    rw[hon,cond_false]at hs
    exact ag ⟨hlt',ys,hs.symm,Ent.ren [0,1,2] [1,2,5,6] rfl rfl rfl⟩
  ·obtain rfl:j=zs.length:=by simp only[decide_eq_false_iff_not]at hlt;omega
   subst hz
   refine ag (ag ((bV 2 (.inr rfl) rfl rfl rfl rfl rfl rfl)))
 ·cases e
end
end Go.Ab
namespace Go.Ab
open Go.Proofs
section
variable{kCa kDb:Bool}
theorem jh(l:List Int):(tk l).length=l.length:=by rw[aF]
theorem Ew(l m:List Int)(h:l.length<=1000000)(h2:m.length<=1000000)(b:Bool)(hb:b=true):(decide ((tk l).length=(tk l).length)&&decide (((tk l).length+m.length)*8<=140737488355328)&&b)=true:=by rw[jh,hb];simp;omega
theorem HY(zs:List Int)(h:zs.length<=64){L:List Int}{n:Nat}(hL:L=cF zs 1++cF zs (-1))(hn:n=L.length):(decide (n=((L.drop 0).take n).length)&&decide (((L.drop 0).take n).length<=1000000)&&((L.drop 0).take n).all fun x=>decide (0<=x))=true:=by
 subst hn
 have e:(L.drop 0).take L.length=L:=by simp
 rw[e]
 have h1:=gQ zs 1
 have h2:=gQ zs (-1)
 have h3:L.length<=1000000:=by rw[hL,List.length_append];omega
 simp only[decide_true,Bool.true_and,Bool.and_eq_true,decide_eq_true_eq,List.all_eq_true]
 refine⟨h3,fun x hx=>?_⟩
 rw[hL]at hx
 rcases List.mem_append.1 hx with hx|hx<;>exact(gS.1 hx).1
def Et:CF
 |[.agg [.int .i64 _f,.int .i64 _r,.sl 0 0 len none]],[.ints false .i8 zs]=>some (decide (len=zs.length)&&decide (zs.length<=64),.int .u64 (occL zs),[])
 |_,_=>none
theorem qS:CtOk (GGx kCa kDb) PP (135,Et):=by
 refine aB Tryz.func135 (by kernel_rfl) rfl fun a0 h0 c0 v0 N0 e hc=>?_
 unfold Et at e
 split at e
 ·rename_i f r len zs
  cases e
  have hE:=aA (kCa:=kCa) (kDb:=kDb) (cts:=[(134,yU),(22,c_Of)]) (inl:=[]) ⟨uv,Fg,trivial⟩ trivial
  refine aq hE 2 Tryz.func135 rfl rfl ?_
  simp only[Bool.and_eq_true,decide_eq_true_eq]at hc
  obtain⟨rfl,hc2⟩:=hc
  have l1:=gQ zs 1
  have l2:=gQ zs (-1)
  repeat (first|refine ah ?_|refine sat_nd ?_)
  refine ae (by
   refine Ew (cF (tk zs) 1) (cF (tk zs) (-1)) ?_ ?_ _ rfl<;>simp only[aF]<;>omega) ?_
  refine ae (by
   refine HY zs hc2 (L:=tk (cF (tk zs) 1)++tk (cF (tk zs) (-1))) ?_ rfl
   simp only[aF]) ?_
  refine ag (ai (.inr rfl) rfl rfl rfl ?_)
  show U (ofL (tk (tk (cF (tk zs) 1)++tk (cF (tk zs) (-1)))) 0)=_
  simp only[aF]
  rfl
 ·cases e
end
section
variable{kCa kDb:Bool}
theorem HL{c:Int->Bool}{n m:Nat}(h:n<=1000000)(hm:m=(cy c id n).length):(decide (m=(((cy c id n).drop 0).take m).length)&&decide ((((cy c id n).drop 0).take m).length<=1000000))=true:=by
 subst hm
 have:=de c id n
 have e:((cy c id n).drop 0).take (cy c id n).length=cy c id n:=by simp
 rw[e];simp;omega
theorem Gp{zs:List Int}{s:Int}{i:Nat}(h:i<(cF (tk zs) s).length):0<=(cF (tk zs) s).getD i 0/\(cF (tk zs) s).getD i 0<zs.length:=by
 rw[aF]at h ⊢
 have hm:(cF zs s).getD i 0∈cF zs s:=by simp[List.getD,h]
 have:=gS.1 hm
 exact⟨this.1,this.2.1⟩
def nX:CF
 |[.agg [.int .i64 f,.int .i64 r,.sl 0 0 len none],.int .i64 i,.int .i64 to,.int .u64 occ],[.ints false .i8 zs]=>some (decide (len=zs.length)&&decide (zs.length<=64)&&decide (0<=i)&&decide (i<zs.length)&&vsB f r,.bool (xo f r zs i to occ),[])
 |_,_=>none
theorem uD:CtOk (GGx kCa kDb) PP (136,nX):=by
 refine aB Tryz.func136 (by kernel_rfl) rfl fun a0 h0 c0 v0 N0 e hc=>?_
 unfold nX at e
 split at e
 ·rename_i f r len i to occ zs
  cases e
  have hE:=aA (kCa:=kCa) (kDb:=kDb) (cts:=[(38,fk),(161,jy),(160,Ei),(162,jP)]) (inl:=[]) ⟨dR,lN,EW,lu,trivial⟩ trivial
  refine aq hE 2 Tryz.func136 rfl rfl ?_
  simp only[Bool.and_eq_true,decide_eq_true_eq]at hc
  obtain⟨⟨⟨⟨rfl,hc2⟩,hi1⟩,hi2⟩,hv⟩:=hc
  have hf:=cY hv
  have hm:=gv hv
  have hf0:(!decide (f=0))=true:=by simp;omega
  repeat (first|(first|refine ah ?_|refine sat_nd ?_)|refine ae (by simp;omega) ?_)
  refine av (fun h=>?_) (fun h=>?_)
  ·have h:decide (aY (zs.getD i.toNat 0)=1)=true:=h
   refine ae hv ?_
   repeat (first|refine ah ?_|refine sat_nd ?_)
   refine ae (HL (by omega) rfl) ?_
   refine ag (ai (.inr rfl) rfl rfl rfl ?_)
   show V.bool (hasL to (tk (cy (ei f (decide (zs.getD i.toNat 0<0)) i) id (f*r).toNat)))=_
   rw[aF,xo,h];rfl
  ·have h:decide (aY (zs.getD i.toNat 0)=1)=false:=h
   repeat (first|(first|refine ah ?_|refine sat_nd ?_)|refine ae (by rw[hf0];exact Bool.or_true _) ?_)
   exact ag (ai (.inr rfl) rfl rfl rfl (by rw[xo,h];rfl))
 ·cases e
def dW:CF
 |[.agg [.int .i64 f,.int .i64 r,.sl 0 0 len none],.int .i64 to,.bool bl],[.ints false .i8 zs]=>some (decide (len=zs.length)&&decide (zs.length<=64)&&vsB f r,.sl 1 0 (attL f r zs to bl).length none,[.ints true .i64 (attL f r zs to bl)])
 |_,_=>none
theorem fF:CtOk (GGx kCa kDb) PP (82,dW):=by
 refine aB Tryz.func82 (by kernel_rfl) rfl fun a0 h0 c0 v0 N0 e hc=>?_
 unfold dW at e
 split at e
 ·rename_i f r len to bl zs
  cases e
  have hE:=aA (kCa:=kCa) (kDb:=kDb) (cts:=[(81,qC),(134,yU),(135,Et),(136,nX)]) (inl:=[]) ⟨pB,uv,qS,uD,trivial⟩ trivial
  refine aq hE 2 Tryz.func82 rfl rfl ?_
  simp only[Bool.and_eq_true,decide_eq_true_eq]at hc
  obtain⟨⟨rfl,hc2⟩,hv⟩:=hc
  have hsl:(cF (tk zs) (sdI bl)).length<=zs.length:=by rw[aF];exact gQ zs (sdI bl)
  repeat (first|refine ah ?_|refine sat_nd ?_)
  refine cC hE 2 (fun(i:Int) (ys:List Int)=>([(1,I to),(3,.ptr 1 0 0),(7,.sl 3 0 ys.length none),(8,.sl 2 0 (cF (tk zs) (sdI bl)).length none),(9,U (occL (tk zs))),(10,I i)],[.ints false .i8 zs,.cells true [I f,I r,.sl 0 0 zs.length none],.ints true .i64 (cF (tk zs) (sdI bl)),.ints true .i64 ys])) (cF (tk zs) (sdI bl)).length (fun j ys=>ys=((cF (tk zs) (sdI bl)).take j).filter (Ac f r (tk zs) to (occL (tk zs)))) [] (by omega) ((Ent.phanT (t:=7) (o:=.ints true .i64 []) rfl ⟨by simp,by simp,trivial,rfl⟩ (aH rfl)).trans (Ent.ren [0,1,2,3] [1,3,7,8,9,10] rfl rfl rfl)) rfl ?_
  intro j i ys hij hj hz
  have hb:ys.length<=j:=by rw[hz];exact Nat.le_trans (List.length_filter_le _ _) (by rw[List.length_take];omega)
  refine av (fun hlt=>?_) (fun hlt=>?_)
  ·have hlt':j<(cF (tk zs) (sdI bl)).length:=by simp only[decide_eq_true_eq]at hlt;omega
   have hs:=Bx (C:=Ac f r (tk zs) to (occL (tk zs))) hlt'
   have hgl:=Gp (zs:=zs) (s:=sdI bl) (i:=i.toNat) (by omega)
   have hil:(decide (0<=i)&&decide (i<((cF (tk zs) (sdI bl)).length:Int)))=true:=by simp only[Bool.and_eq_true,decide_eq_true_eq];omega
   rw[<-hz,show j=i.toNat by omega]at hs
   repeat (first|(first|refine ah ?_|refine sat_nd ?_)|refine ae hil ?_)
   refine ae (by
    simp only[Bool.and_eq_true,decide_eq_true_eq]
    rw[jh]
    exact⟨⟨⟨⟨by first|rfl|trivial,hc2⟩,hgl.1⟩,hgl.2⟩,hv⟩) ?_
   refine av (fun hon=>?_) (fun hon=>?_)
   ·skip
    have hon:Ac f r (tk zs) to (occL (tk zs)) ((cF (tk zs) (sdI bl)).getD i.toNat 0)=true:=hon
    rw[hon,cond_true]at hs
    refine ae (by simp;omega) ?_
    refine ae (b:=decide (ys.length=ys.length)&&decide ((ys.length+1)*8<=140737488355328)&&true) (by simp;omega) ?_
    exact ag ⟨hlt',ys++[(cF (tk zs) (sdI bl)).getD i.toNat 0],by rw[show j+1=i.toNat+1 by omega];exact hs,Ent.ren [0,1,2,5] [1,3,7,8,9,10] rfl rfl rfl⟩
   ·skip
    have hon:Ac f r (tk zs) to (occL (tk zs)) ((cF (tk zs) (sdI bl)).getD i.toNat 0)=false:=hon
    rw[hon,cond_false]at hs
    exact ag ⟨hlt',ys,by rw[show j+1=i.toNat+1 by omega];exact hs,Ent.ren [0,1,2,3] [1,3,7,8,9,10] rfl rfl rfl⟩
  ·obtain rfl:j=(cF (tk zs) (sdI bl)).length:=by simp only[decide_eq_false_iff_not]at hlt;omega
   rw[List.take_length]at hz
   subst hz
   refine ag (ag (bV 3 (.inr rfl) rfl rfl rfl rfl (by simp only[aF];rfl) (by simp only[aF];rfl)))
 ·cases e
end
end Go.Ab
namespace Go.Ab
open IntKind
open Go.Proofs
section
variable{kCa kDb:Bool}
theorem aG{zs:List Int}(h:zs.length<=64){n:Nat}(hn:n=zs.length):(decide (n=(tk zs).length)&&decide ((tk zs).length<=64))=true:=by rw[jh,hn];simp;omega
theorem aJ{zs:List Int}(h:zs.length<=64){n:Nat}(hn:n=zs.length){b:Bool}(hb:b=true):(decide (n=(tk zs).length)&&decide ((tk zs).length<=64)&&b)=true:=by rw[jh,hn,hb];simp;omega
def gO:CF
 |[.agg [.int .i64 _f,.int .i64 _r,.sl 0 0 len none],.bool bl],[.ints false .i8 zs]=>some (decide (len=zs.length)&&decide (zs.length<=64),.int .i64 (aV zs bl),[])
 |_,_=>none
theorem gM:CtOk (GGx kCa kDb) PP (36,gO):=by
 refine aB Tryz.func36 (by kernel_rfl) rfl fun a0 h0 c0 v0 N0 e hc=>?_
 unfold gO at e
 split at e
 ·rename_i f r len bl zs
  cases e
  have hE:=aA (kCa:=kCa) (kDb:=kDb) (cts:=[(81,qC),(80,wq)]) (inl:=[]) ⟨pB,Al,trivial⟩ trivial
  refine aq hE 2 Tryz.func36 rfl rfl ?_
  simp only[Bool.and_eq_true,decide_eq_true_eq]at hc
  obtain⟨rfl,hc2⟩:=hc
  repeat (first|refine ah ?_|refine sat_nd ?_)
  refine av (fun h=>?_) (fun h=>?_)
  ·have h:(!decide (((iC (tk zs) (w8 (i64.wrap (6*sdI bl)))).length:Int)=1))=true:=h
   rw[aF,Bool.not_eq_true']at h
   exact ag (ai (.inr rfl) rfl rfl rfl (by rw[aV,h];rfl))
  ·have h:(!decide (((iC (tk zs) (w8 (i64.wrap (6*sdI bl)))).length:Int)=1))=false:=h
   rw[aF,Bool.not_eq_false']at h
   have hl:((iC (tk zs) (w8 (i64.wrap (6*sdI bl)))).length:Int)=1:=by rw[aF];exact of_decide_eq_true h
   refine ae (by
    show (decide ((0:Int)<=0)&&decide ((0:Int)<((iC (tk zs) (w8 (i64.wrap (6*sdI bl)))).length:Int)))=true
    rw[hl];rfl) ?_
   exact ag (ai (.inr rfl) rfl rfl rfl (by
    show I ((iC (tk zs) (w8 (i64.wrap (6*sdI bl)))).getD 0 0)=_
    rw[aF,aV,h];rfl))
 ·cases e
end
section
variable{kCa kDb:Bool}
theorem fA{f r n:Int}(h:aj f r n=true):i64.wrap (n.tdiv f)=py f n/\0<=px f n/\px f n<f/\0<=py f n/\py f n<r/\px f n+py f n*f=n/\3<=f/\f<=8/\3<=r/\r<=8:=by
 have:=eX h
 have h2:=zP h
 exact⟨this.2.2.2.2.1,this.1,this.2.1,this.2.2.1,this.2.2.2.1,h2,this.2.2.2.2.2⟩
theorem tQ{f r:Int}{zs:List Int}{pa:Int}{bl g1 g2:Bool}(h:aD f r zs=true):(!(g1&&g2&&aj f r pa&&decide (i64.wrap (pa.tdiv f)=rkP r bl))||(decide (0<=pa)&&decide (pa<zs.length)))=true:=by
 cases hv:aj f r pa with
 |false=>simp
 |true=>have:=(bQ h).1 hv;simp[this.1,this.2]
theorem jz{f r:Int}{zs:List Int}{pa:Int}{bl:Bool}(h:aD f r zs=true)(hr:6<=r)(hv:aj f r pa=true)(hk:i64.wrap (pa.tdiv f)=rkP r bl):0<=pa-f/\pa+f<zs.length/\i64.wrap (pa-f)=pa-f/\i64.wrap (pa+f)=pa+f/\i64.wrap (0-f)=-f/\i64.wrap (pa - -f)=pa+f/\i64.wrap (pa+-f)=pa-f:=by
 obtain⟨h1,h2,h3,h4,h5,h6,h7⟩:=fA hv
 have hl:=(bh h).2
 rw[h1]at hk
 have hw:i64.wrap (r-3)=r-3:=aI (by omega) (by omega)
 have hpy:1<=py f pa/\py f pa+1<r:=by
  cases bl
  ·simp only[rkP,cond_false,hw]at hk;omega
  ·simp only[rkP,cond_true]at hk;omega
 have a1:1*f<=py f pa*f:=Int.mul_le_mul_of_nonneg_right hpy.1 (by omega)
 have a2:(py f pa+1+1)*f<=r*f:=Int.mul_le_mul_of_nonneg_right (by omega) (by omega)
 rw[Int.add_mul,Int.add_mul,Int.mul_comm r f]at a2
 have hlt:=(aS hv)
 exact⟨by omega,by omega,aI (by omega) (by omega),aI (by omega) (by omega),by rw[Int.zero_sub];exact aI (by omega) (by omega),by rw[Int.sub_neg];exact aI (by omega) (by omega),by rw[<-Int.sub_eq_add_neg];exact aI (by omega) (by omega)⟩
theorem gR{f:Int}{g:Bool}(h:f≠0):(!g||!decide (f=0))=true:=by simp[h]
theorem Nu{f r:Int}{zs:List Int}{pa ha:Int}{bl x:Bool}(h:aD f r zs=true):(!(decide (6<=r)&&decide (ha=0)&&aj f r pa&&decide (i64.wrap (pa.tdiv f)=rkP r bl)&&x)||(decide (0<=i64.wrap (pa-upP f bl))&&decide (i64.wrap (pa-upP f bl)<zs.length)))=true:=by
 cases hg:(decide (6<=r)&&decide (ha=0)&&aj f r pa&&decide (i64.wrap (pa.tdiv f)=rkP r bl)) with
 |false=>simp
 |true=>
  simp only[Bool.and_eq_true,decide_eq_true_eq]at hg
  obtain⟨h1,h2,h3,h4,h5,h6,h7⟩:=jz (bl:=bl) h hg.1.1.1 hg.1.2 hg.2
  have hfr:=cY (bh h).1
  cases bl
  ·rw[Bool.or_eq_true];right
   simp only[upP,cond_false,h5,h6,Bool.and_eq_true,decide_eq_true_eq];omega
  ·rw[Bool.or_eq_true];right
   simp only[upP,cond_true,h3,Bool.and_eq_true,decide_eq_true_eq];omega
theorem Ma{f r:Int}{zs:List Int}{pa ha:Int}{bl x y:Bool}(h:aD f r zs=true):(!(decide (6<=r)&&decide (ha=0)&&aj f r pa&&decide (i64.wrap (pa.tdiv f)=rkP r bl)&&x&&y)||(decide (0<=i64.wrap (pa+upP f bl))&&decide (i64.wrap (pa+upP f bl)<zs.length)))=true:=by
 cases hg:(decide (6<=r)&&decide (ha=0)&&aj f r pa&&decide (i64.wrap (pa.tdiv f)=rkP r bl)) with
 |false=>simp
 |true=>
  simp only[Bool.and_eq_true,decide_eq_true_eq]at hg
  obtain⟨h1,h2,h3,h4,h5,h6,h7⟩:=jz (bl:=bl) h hg.1.1.1 hg.1.2 hg.2
  have hfr:=cY (bh h).1
  cases bl
  ·rw[Bool.or_eq_true];right
   simp only[upP,cond_false,h5,h7,Bool.and_eq_true,decide_eq_true_eq];omega
  ·rw[Bool.or_eq_true];right
   simp only[upP,cond_true,h4,Bool.and_eq_true,decide_eq_true_eq];omega
def xb:CF
 |[.sl 0 0 len none],[.ints false .i8 zs]=>some (decide (len=zs.length)&&decide (zs.length<=64),.sl 1 0 zs.length none,[.ints true .i8 zs])
 |_,_=>none
theorem Bp:CtOk (GGx kCa kDb) PP (107,xb):=by
 refine aB Tryz.func107 (by kernel_rfl) rfl fun a0 h0 c0 v0 N0 e hc=>?_
 unfold xb at e
 split at e
 ·rename_i len zs
  cases e
  have hE:=aA (kCa:=kCa) (kDb:=kDb) (cts:=[]) (inl:=[]) trivial trivial
  refine nK hE 2 Tryz.func107 rfl rfl ?_
  simp only[Bool.and_eq_true,decide_eq_true_eq]at hc
  obtain⟨rfl,hc2⟩:=hc
  refine Br (fun h0=>?_) ?_
  ·refine av (fun _=>?_) (fun h=>(by cases h))
   have hz:zs=[]:=List.eq_nil_of_length_eq_zero h0
   subst hz
   exact ag (Gl (Ent.phanT (t:=2) (o:=.ints true .i8 []) rfl ⟨by simp,by simp,trivial,rfl⟩ (aH rfl)) (bV 1 (.inr rfl) rfl rfl rfl rfl rfl rfl))
  ·refine av (fun h=>(by cases h)) (fun _=>?_)
   refine ae (b:=?B) ?_ ?_
   ·show (decide (0=0)&&decide ((0+zs.length)*1<=140737488355328)&&true)=true
    simp;omega
   exact ag (Gl (Ent.refl _ _ _) (bV 2 (.inr rfl) rfl rfl rfl rfl (by show [O.ints true .i8 (tk zs)]=_;rw[aF]) (by show V.sl 1 0 (tk zs).length none=_;rw[aF])))
 ·cases e
def nL:CF
 |[.agg [.int .i64 f,.int .i64 r,.sl 0 0 len none,.bool bl,.int .u8 ca,.int .i64 pa,.int .i64 ha,.int .i64 fu]],[.ints false .i8 zs]=>some (decide (len=zs.length)&&decide (zs.length<=64),.agg [I f,I r,.sl 1 0 zs.length none,Bb bl,.int .u8 ca,I pa,I ha,I fu],[.ints true .i8 zs])
 |_,_=>none
theorem kD:CtOk (GGx kCa kDb) PP (60,nL):=by
 refine aB Tryz.func60 (by kernel_rfl) rfl fun a0 h0 c0 v0 N0 e hc=>?_
 unfold nL at e
 split at e
 ·rename_i f r len bl ca pa ha fu zs
  cases e
  have hE:=aA (kCa:=kCa) (kDb:=kDb) (cts:=[(107,xb)]) (inl:=[]) ⟨Bp,trivial⟩ trivial
  refine aq hE 2 Tryz.func60 rfl rfl ?_
  simp only[Bool.and_eq_true,decide_eq_true_eq]at hc
  obtain⟨rfl,hc2⟩:=hc
  repeat (first|(first|refine ah ?_|refine sat_nd ?_)|refine ae (aG hc2 rfl) ?_)
  exact ag (bV 3 (.inr rfl) rfl rfl rfl rfl (by show [O.ints true .i8 (tk zs)]=_;rw[aF]) (by show V.agg [I f,I r,.sl 1 0 (tk zs).length none,Bb bl,.int .u8 ca,I pa,I ha,I fu]=_;rw[aF]))
 ·cases e
def vn:CF
 |[.agg [.int .i64 f,.int .i64 r,.sl 0 0 len none,.bool bl,.int .u8 _ca,.int .i64 pa,.int .i64 ha,.int .i64 _fu]],[.ints false .i8 zs]=>some (decide (len=zs.length)&&decide (zs.length<=64)&&aD f r zs,.bool (kp f r zs bl pa ha),[])
 |_,_=>none
theorem zR:CtOk (GGx kCa kDb) PP (75,vn):=by
 refine aB Tryz.func75 (by kernel_rfl) rfl fun a0 h0 c0 v0 N0 e hc=>?_
 unfold vn at e
 split at e
 ·rename_i f r len bl ca pa ha fu zs
  cases e
  have hE:=aA (kCa:=kCa) (kDb:=kDb) (cts:=[(101,eG),(131,HA)]) (inl:=[]) ⟨cS,yT,trivial⟩ trivial
  refine aq hE 2 Tryz.func75 rfl rfl ?_
  simp only[Bool.and_eq_true,decide_eq_true_eq]at hc
  obtain⟨⟨rfl,hc2⟩,hbd⟩:=hc
  refine av (fun h=>?_) (fun h=>?_)
  ·have h:decide (pa=-1)=true:=h
   exact ag (ai (.inr rfl) rfl rfl rfl (by rw[kp,h];rfl))
  have h:decide (pa=-1)=false:=h
  have hf:f≠0:=by have:=cY (bh hbd).1;omega
  refine av (fun h1=>?_) (fun h1=>?_)
  ·have h1:bl=false:=by simpa using h1
   subst h1
   repeat (first|(first|refine ah ?_|refine sat_nd ?_)|refine ae (gR hf) ?_|refine ae (tQ (bl:=false) hbd) ?_|refine ae (Nu (bl:=false) hbd) ?_|refine ae (Ma (bl:=false) hbd) ?_)
   exact ag (ai (.inr rfl) rfl rfl rfl (by rw[kp,h];rfl))
  ·have h1:bl=true:=by simpa using h1
   subst h1
   repeat (first|(first|refine ah ?_|refine sat_nd ?_)|refine ae (gR hf) ?_|refine ae (tQ (bl:=true) hbd) ?_|refine ae (Nu (bl:=true) hbd) ?_|refine ae (Ma (bl:=true) hbd) ?_)
   exact ag (ai (.inr rfl) rfl rfl rfl (by rw[kp,h];rfl))
 ·cases e
theorem GQ{f r:Int}{zs:List Int}{g:Bool}(h:aD f r zs=true)(_hz:zs.length<=64):(!g||(decide (0<=f)&&decide (f<=zs.length)&&decide ((zs.length:Int)<=zs.length)))=true:=by
 obtain⟨h1,h2⟩:=bh h
 have:=cY h1
 have:1*f<=r*f:=Int.mul_le_mul_of_nonneg_right (by omega) (by omega)
 rw[Int.mul_comm r f]at this
 simp;omega
theorem Jh{f r:Int}{zs:List Int}(h:aD f r zs=true)(hz:zs.length<=64):i64.wrap ((zs.length:Int)-f)=(zs.length:Int)-f/\0<=(zs.length:Int)-f/\3<=f:=by
 obtain⟨h1,h2⟩:=bh h
 have:=cY h1
 have:1*f<=r*f:=Int.mul_le_mul_of_nonneg_right (by omega) (by omega)
 rw[Int.mul_comm r f]at this
 exact⟨aI (by omega) (by omega),by omega,by omega⟩
theorem BV{f r:Int}{zs:List Int}(h:aD f r zs=true)(hz:zs.length<=64):(decide (0<=i64.wrap ((zs.length:Int)-f))&&decide (i64.wrap ((zs.length:Int)-f)<=zs.length)&&decide ((zs.length:Int)<=zs.length))=true:=by
 obtain⟨h1,h2,h3⟩:=Jh h hz
 rw[h1]
 simp only[Bool.and_eq_true,decide_eq_true_eq]
 omega
theorem FJ{zs:List Int}{a m:Nat}(h:m=zs.length)(hz:zs.length<=64):(decide (m-a=((zs.drop a).take (m-a)).length)&&decide (((zs.drop a).take (m-a)).length<=1000000))=true:=by
 simp only[Bool.and_eq_true,decide_eq_true_eq,List.length_take,List.length_drop]
 omega
theorem Ih{zs:List Int}{b m:Nat}{g:Bool}(h:m<=zs.length)(hz:zs.length<=64):(!g||(decide (m-0=((zs.drop 0).take (m-0)).length)&&decide (((zs.drop 0).take (m-0)).length<=1000000)))=true/\b=b:=by
 rw[Bool.or_eq_true]
 refine⟨.inr ?_,rfl⟩
 simp only[Bool.and_eq_true,decide_eq_true_eq,List.length_take,List.length_drop]
 omega
def qQ:CF
 |[.agg [.int .i64 f,.int .i64 r,.sl 0 0 len none,.bool _bl,.int .u8 _ca,.int .i64 _pa,.int .i64 _ha,.int .i64 _fu]],[.ints false .i8 zs]=>some (decide (len=zs.length)&&decide (zs.length<=64)&&aD f r zs,.bool (mG f zs),[])
 |_,_=>none
theorem xp:CtOk (GGx kCa kDb) PP (71,qQ):=by
 refine aB Tryz.func71 (by kernel_rfl) rfl fun a0 h0 c0 v0 N0 e hc=>?_
 unfold qQ at e
 split at e
 ·rename_i f r len bl ca pa ha fu zs
  cases e
  have hE:=aA (kCa:=kCa) (kDb:=kDb) (cts:=[(92,ig)]) (inl:=[]) ⟨jm,trivial⟩ trivial
  refine aq hE 2 Tryz.func71 rfl rfl ?_
  simp only[Bool.and_eq_true,decide_eq_true_eq]at hc
  obtain⟨⟨rfl,hc2⟩,hbd⟩:=hc
  obtain⟨hw1,hw2,hw3⟩:=Jh hbd hc2
  have hfl:f.toNat<=zs.length:=by omega
  repeat (first|(first|refine ah ?_|refine sat_nd ?_)|refine ae (GQ hbd hc2) ?_|refine ae (BV hbd hc2) ?_|refine ae (FJ rfl hc2) ?_|refine ae (Ih (b:=0) hfl hc2).1 ?_)
  refine ag (ai (.inr rfl) rfl rfl rfl (congrArg V.bool ?_))
  show (!((zs.drop (i64.wrap ((zs.length:Int)-f)).toNat).take (zs.length-(i64.wrap ((zs.length:Int)-f)).toNat)).any (isV 1)&&!((zs.drop 0).take (f.toNat-0)).any (isV (-1)))=_
  rw[hw1,mG,show ((zs.length:Int)-f).toNat=zs.length-f.toNat by omega,List.drop_zero,Nat.sub_zero,List.take_of_length_le (by simp)]
 ·cases e
def sQ:CF
 |[.agg [.int .i64 f,.int .i64 r,.sl 0 0 len none,.bool bl,.int .u8 _ca,.int .i64 _pa,.int .i64 _ha,.int .i64 _fu]],[.ints false .i8 zs]=>some (decide (len=zs.length)&&decide (zs.length<=64),.bool (fE f r zs bl),[])
 |_,_=>none
theorem wk:CtOk (GGx kCa kDb) PP (69,sQ):=by
 refine aB Tryz.func69 (by kernel_rfl) rfl fun a0 h0 c0 v0 N0 e hc=>?_
 unfold sQ at e
 split at e
 ·rename_i f r len bl ca pa ha fu zs
  cases e
  have hE:=aA (kCa:=kCa) (kDb:=kDb) (cts:=[(49,tD),(28,fK)]) (inl:=[]) ⟨nI,gp,trivial⟩ trivial
  refine aq hE 2 Tryz.func69 rfl rfl ?_
  simp only[Bool.and_eq_true,decide_eq_true_eq]at hc
  obtain⟨rfl,hc2⟩:=hc
  repeat (first|(first|refine ah ?_|refine sat_nd ?_)|refine ae (aG hc2 rfl) ?_)
  refine ag (ai (.inr rfl) rfl rfl rfl (congrArg V.bool ?_))
  show (decide ((bW f r (tk zs) bl).2=0)&&decide ((bM f r (tk zs) (!bl)).2=0)&&decide ((bM f r (tk zs) (!bl)).1=0))=_
  rw[aF];rfl
 ·cases e
end
end Go.Ab
namespace Go.Ab
open Go.Proofs
section
variable{kCa kDb:Bool}
def dZ:CF
 |[.agg [.int .i64 f,.int .i64 r,.sl 0 0 len none,.bool bl,.int .u8 ca,.int .i64 pa,.int .i64 ha,.int .i64 fu]],[.ints false .i8 zs]=>some (decide (len=zs.length)&&decide (zs.length<=64),.bool (Psn.ok ⟨f,r,zs,bl,ca,pa,ha,fu⟩),[])
 |_,_=>none
theorem cI:CtOk (GGx kCa kDb) PP (33,dZ):=by
 refine aB Tryz.func33 (by kernel_rfl) rfl fun a0 h0 c0 v0 N0 e hc=>?_
 unfold dZ at e
 split at e
 ·rename_i f r len bl ca pa ha fu zs
  cases e
  have hE:=aA (kCa:=kCa) (kDb:=kDb) (cts:=[(67,jM),(69,sQ),(71,qQ),(73,kJ),(75,vn)]) (inl:=[(66,Tryz.f66),(68,Tryz.f68),(70,Tryz.f70),(72,Tryz.f72),(74,Tryz.f74),(76,Tryz.f76)]) ⟨iJ,wk,xp,qy,zR,trivial⟩ ⟨⟨Tryz.func66,by kernel_rfl⟩,⟨Tryz.func68,by kernel_rfl⟩,⟨Tryz.func70,by kernel_rfl⟩,⟨Tryz.func72,by kernel_rfl⟩,⟨Tryz.func74,by kernel_rfl⟩,⟨Tryz.func76,by kernel_rfl⟩,trivial⟩
  refine aq hE 3 Tryz.func33 rfl rfl ?_
  simp only[Bool.and_eq_true,decide_eq_true_eq]at hc
  obtain⟨rfl,hc2⟩:=hc
  repeat (first|refine ah ?_|refine sat_nd ?_)
  refine dn hE 3 7 ?_
  refine rnd ?_
  refine cN (by rfl) ?_
  repeat (first|(first|refine ah ?_|refine sat_nd ?_)|refine ae (aG hc2 rfl) ?_)
  refine av (fun h0=>?_) (fun h0=>?_)
  ·have h0:(!aD f r (tk zs))=true:=h0
   rw[aF,Bool.not_eq_true']at h0
   exact ag (ag (ai (.inr rfl) rfl rfl rfl (by simp[Psn.ok,h0])))
  have h0:(!aD f r (tk zs))=false:=h0
  have h0t:aD f r (tk zs)=true:=by simpa using h0
  rw[aF,Bool.not_eq_false']at h0
  refine ag ⟨[(1,.ptr 1 0 0),(13,.sl 2 0 6 none),(14,I 6),(15,I 1)],[.ints false .i8 zs,.cells true [I f,I r,.sl 0 0 zs.length none,Bb bl,.int .u8 ca,I pa,I ha,I fu],.vals true 1 [[.fn 66 [.ptr 1 0 0]],[.fn 68 [.ptr 1 0 0]],[.fn 70 [.ptr 1 0 0]],[.fn 72 [.ptr 1 0 0]],[.fn 74 [.ptr 1 0 0]],[.fn 76 [.ptr 1 0 0]]]],Ent.ren [0,1,2] [1,13,14,15] rfl rfl rfl,?_⟩
  refine rnd ?_
  refine cN (by rfl) ?_
  repeat (first|(first|refine ah ?_|refine sat_nd ?_)|refine ae (aG hc2 rfl) ?_|refine ae (aJ hc2 rfl h0t) ?_)
  refine av (fun h1=>?_) (fun h1=>?_)
  ·have h1:(!fE f r (tk zs) bl)=true:=h1
   rw[aF,Bool.not_eq_true']at h1
   exact ag (ag (ai (.inr rfl) rfl rfl rfl (by simp[Psn.ok,h0,h1])))
  have h1:(!fE f r (tk zs) bl)=false:=h1
  rw[aF,Bool.not_eq_false']at h1
  refine ag ⟨[(1,.ptr 1 0 0),(13,.sl 2 0 6 none),(14,I 6),(15,I 2)],[.ints false .i8 zs,.cells true [I f,I r,.sl 0 0 zs.length none,Bb bl,.int .u8 ca,I pa,I ha,I fu],.vals true 1 [[.fn 66 [.ptr 1 0 0]],[.fn 68 [.ptr 1 0 0]],[.fn 70 [.ptr 1 0 0]],[.fn 72 [.ptr 1 0 0]],[.fn 74 [.ptr 1 0 0]],[.fn 76 [.ptr 1 0 0]]]],Ent.ren [0,1,2] [1,13,14,15] rfl rfl rfl,?_⟩
  refine rnd ?_
  refine cN (by rfl) ?_
  repeat (first|(first|refine ah ?_|refine sat_nd ?_)|refine ae (aG hc2 rfl) ?_|refine ae (aJ hc2 rfl h0t) ?_)
  refine av (fun h2=>?_) (fun h2=>?_)
  ·have h2:(!mG f (tk zs))=true:=h2
   rw[aF,Bool.not_eq_true']at h2
   exact ag (ag (ai (.inr rfl) rfl rfl rfl (by simp[Psn.ok,h0,h1,h2])))
  have h2:(!mG f (tk zs))=false:=h2
  rw[aF,Bool.not_eq_false']at h2
  refine ag ⟨[(1,.ptr 1 0 0),(13,.sl 2 0 6 none),(14,I 6),(15,I 3)],[.ints false .i8 zs,.cells true [I f,I r,.sl 0 0 zs.length none,Bb bl,.int .u8 ca,I pa,I ha,I fu],.vals true 1 [[.fn 66 [.ptr 1 0 0]],[.fn 68 [.ptr 1 0 0]],[.fn 70 [.ptr 1 0 0]],[.fn 72 [.ptr 1 0 0]],[.fn 74 [.ptr 1 0 0]],[.fn 76 [.ptr 1 0 0]]]],Ent.ren [0,1,2] [1,13,14,15] rfl rfl rfl,?_⟩
  refine rnd ?_
  refine cN (by rfl) ?_
  repeat (first|(first|refine ah ?_|refine sat_nd ?_)|refine ae (aG hc2 rfl) ?_|refine ae (aJ hc2 rfl h0t) ?_)
  refine av (fun h3=>?_) (fun h3=>?_)
  ·have h3:(!fC f r (tk zs) ca)=true:=h3
   rw[aF,Bool.not_eq_true']at h3
   exact ag (ag (ai (.inr rfl) rfl rfl rfl (by simp[Psn.ok,h0,h1,h2,h3])))
  have h3:(!fC f r (tk zs) ca)=false:=h3
  rw[aF,Bool.not_eq_false']at h3
  refine ag ⟨[(1,.ptr 1 0 0),(13,.sl 2 0 6 none),(14,I 6),(15,I 4)],[.ints false .i8 zs,.cells true [I f,I r,.sl 0 0 zs.length none,Bb bl,.int .u8 ca,I pa,I ha,I fu],.vals true 1 [[.fn 66 [.ptr 1 0 0]],[.fn 68 [.ptr 1 0 0]],[.fn 70 [.ptr 1 0 0]],[.fn 72 [.ptr 1 0 0]],[.fn 74 [.ptr 1 0 0]],[.fn 76 [.ptr 1 0 0]]]],Ent.ren [0,1,2] [1,13,14,15] rfl rfl rfl,?_⟩
  refine rnd ?_
  refine cN (by rfl) ?_
  repeat (first|(first|refine ah ?_|refine sat_nd ?_)|refine ae (aG hc2 rfl) ?_|refine ae (aJ hc2 rfl h0t) ?_)
  refine av (fun h4=>?_) (fun h4=>?_)
  ·have h4:(!kp f r (tk zs) bl pa ha)=true:=h4
   rw[aF,Bool.not_eq_true']at h4
   exact ag (ag (ai (.inr rfl) rfl rfl rfl (by simp[Psn.ok,h0,h1,h2,h3,h4])))
  have h4:(!kp f r (tk zs) bl pa ha)=false:=h4
  rw[aF,Bool.not_eq_false']at h4
  refine ag ⟨[(1,.ptr 1 0 0),(13,.sl 2 0 6 none),(14,I 6),(15,I 5)],[.ints false .i8 zs,.cells true [I f,I r,.sl 0 0 zs.length none,Bb bl,.int .u8 ca,I pa,I ha,I fu],.vals true 1 [[.fn 66 [.ptr 1 0 0]],[.fn 68 [.ptr 1 0 0]],[.fn 70 [.ptr 1 0 0]],[.fn 72 [.ptr 1 0 0]],[.fn 74 [.ptr 1 0 0]],[.fn 76 [.ptr 1 0 0]]]],Ent.ren [0,1,2] [1,13,14,15] rfl rfl rfl,?_⟩
  refine rnd ?_
  refine cN (by rfl) ?_
  repeat (first|(first|refine ah ?_|refine sat_nd ?_)|refine ae (aG hc2 rfl) ?_|refine ae (aJ hc2 rfl h0t) ?_)
  refine av (fun h5=>?_) (fun h5=>?_)
  ·have h5:(!cntB ha fu)=true:=h5
   rw[Bool.not_eq_true']at h5
   exact ag (ag (ai (.inr rfl) rfl rfl rfl (by simp[Psn.ok,h0,h1,h2,h3,h4,h5])))
  have h5:(!cntB ha fu)=false:=h5
  rw[Bool.not_eq_false']at h5
  refine ag ⟨[(1,.ptr 1 0 0),(13,.sl 2 0 6 none),(14,I 6),(15,I 6)],[.ints false .i8 zs,.cells true [I f,I r,.sl 0 0 zs.length none,Bb bl,.int .u8 ca,I pa,I ha,I fu],.vals true 1 [[.fn 66 [.ptr 1 0 0]],[.fn 68 [.ptr 1 0 0]],[.fn 70 [.ptr 1 0 0]],[.fn 72 [.ptr 1 0 0]],[.fn 74 [.ptr 1 0 0]],[.fn 76 [.ptr 1 0 0]]]],Ent.ren [0,1,2] [1,13,14,15] rfl rfl rfl,?_⟩
  refine rnd ?_
  refine tM (by rfl) ?_
  refine ag (ag (ai (.inr rfl) rfl rfl rfl (by simp[Psn.ok,h0,h1,h2,h3,h4,h5])))
 ·cases e
end
section
variable{kCa kDb:Bool}
def pG(k:Int)(bl:Bool):Int:=bif bl then w8 (0-k)else k
def eD(r:Int)(bl:Bool)(n:Int):Int:=bif bl then IntKind.i64.wrap (r-n)else IntKind.i64.wrap (n-1)
def fW(r:Int)(bl:Bool):Int:=bif bl then 0 else IntKind.i64.wrap (r-1)
def chkL(f r:Int)(zs:List Int)(bl:Bool):Bool:=decide (0<((attL f r zs (aV zs bl) (!bl)).length:Int))
def iV(f r:Int)(zs:List Int)(bit:Int):Bool:=bif !decide (f=8)||!decide (r=8)then false else bif decide (bit=1)then decide (zs.getD 4 0=6)&&decide (zs.getD 7 0=4)else bif decide (bit=2)then decide (zs.getD 4 0=6)&&decide (zs.getD 0 0=4)else bif decide (bit=4)then decide (zs.getD 60 0=-6)&&decide (zs.getD 63 0=-4)else decide (zs.getD 60 0=-6)&&decide (zs.getD 56 0=-4)
theorem oG:cx 8 8 [101,49]=4:=by kernel_rfl
theorem qm:cx 8 8 [104,49]=7:=by kernel_rfl
theorem sP:cx 8 8 [97,49]=0:=by kernel_rfl
theorem oP:cx 8 8 [101,56]=60:=by kernel_rfl
theorem rz:cx 8 8 [104,56]=63:=by kernel_rfl
theorem qU:cx 8 8 [97,56]=56:=by kernel_rfl
def rQ:CF
 |[.int .i8 k,.bool bl],[]=>some (true,.int .i8 (pG k bl),[])
 |_,_=>none
theorem wF:CtOk (GGx kCa kDb) PP (87,rQ):=by
 refine aB Tryz.func87 (by kernel_rfl) rfl fun a0 h0 c0 v0 N0 e hc=>?_
 unfold rQ at e
 split at e
 ·rename_i k bl
  cases e
  have hE:=aA (kCa:=kCa) (kDb:=kDb) (cts:=[]) (inl:=[]) trivial trivial
  refine aq hE 2 Tryz.func87 rfl rfl ?_
  repeat' first|(first|refine ah ?_|refine sat_nd ?_)|refine av (fun h=>?_) (fun h=>?_)
  all_goals exact ag (ai (.inr rfl) rfl rfl rfl (by first|rfl|(simp only[pG, *,cond_true,cond_false];done)|(simp only[pG, *,cond_true,cond_false,Bool.not_true,Bool.not_false,Bool.and_true,Bool.true_and,Bool.and_false,Bool.false_and,Bool.or_true,Bool.true_or,Bool.or_false,Bool.false_or];done)|simp_all [pG]))
 ·cases e
def xj:CF
 |[.agg [.int .i64 _f,.int .i64 r],.bool bl,.int .i64 n],[]=>some (true,.int .i64 (eD r bl n),[])
 |_,_=>none
theorem Ai:CtOk (GGx kCa kDb) PP (85,xj):=by
 refine aB Tryz.func85 (by kernel_rfl) rfl fun a0 h0 c0 v0 N0 e hc=>?_
 unfold xj at e
 split at e
 ·rename_i f r bl n
  cases e
  have hE:=aA (kCa:=kCa) (kDb:=kDb) (cts:=[]) (inl:=[]) trivial trivial
  refine aq hE 2 Tryz.func85 rfl rfl ?_
  repeat' first|(first|refine ah ?_|refine sat_nd ?_)|refine av (fun h=>?_) (fun h=>?_)
  all_goals exact ag (ai (.inr rfl) rfl rfl rfl (by first|rfl|(simp only[eD, *,cond_true,cond_false];done)|(simp only[eD, *,cond_true,cond_false,Bool.not_true,Bool.not_false,Bool.and_true,Bool.true_and,Bool.and_false,Bool.false_and,Bool.or_true,Bool.true_or,Bool.or_false,Bool.false_or];done)|simp_all [eD]))
 ·cases e
def rO:CF
 |[.agg [.int .i64 _f,.int .i64 r],.bool bl],[]=>some (true,.int .i64 (fW r bl),[])
 |_,_=>none
theorem pU:CtOk (GGx kCa kDb) PP (40,rO):=by
 refine aB Tryz.func40 (by kernel_rfl) rfl fun a0 h0 c0 v0 N0 e hc=>?_
 unfold rO at e
 split at e
 ·rename_i f r bl
  cases e
  have hE:=aA (kCa:=kCa) (kDb:=kDb) (cts:=[]) (inl:=[]) trivial trivial
  refine aq hE 2 Tryz.func40 rfl rfl ?_
  repeat' first|(first|refine ah ?_|refine sat_nd ?_)|refine av (fun h=>?_) (fun h=>?_)
  all_goals exact ag (ai (.inr rfl) rfl rfl rfl (by first|rfl|(simp only[fW, *,cond_true,cond_false];done)|(simp only[fW, *,cond_true,cond_false,Bool.not_true,Bool.not_false,Bool.and_true,Bool.true_and,Bool.and_false,Bool.false_and,Bool.or_true,Bool.true_or,Bool.or_false,Bool.false_or];done)|simp_all [fW]))
 ·cases e
def ud:CF
 |[.agg [.int .i64 f,.int .i64 r,.sl 0 0 len none,.bool _bl,.int .u8 _ca,.int .i64 _pa,.int .i64 _ha,.int .i64 _fu]],[.ints false .i8 _zs]=>some (true,.agg [I f,I r,.sl 0 0 len none],[])
 |_,_=>none
theorem iu:CtOk (GGx kCa kDb) PP (29,ud):=by
 refine aB Tryz.func29 (by kernel_rfl) rfl fun a0 h0 c0 v0 N0 e hc=>?_
 unfold ud at e
 split at e
 ·rename_i f r len bl ca pa ha fu zs
  cases e
  have hE:=aA (kCa:=kCa) (kDb:=kDb) (cts:=[]) (inl:=[]) trivial trivial
  refine En hE 2 Tryz.func29 rfl rfl ?_
  repeat (first|refine ah ?_|refine sat_nd ?_)
  exact ag ⟨.inr rfl,_,rfl,rfl,rfl⟩
 ·cases e
def jQ:CF
 |[.agg [.int .i64 f,.int .i64 r,.sl 0 0 len none],.bool bl],[.ints false .i8 zs]=>some (decide (len=zs.length)&&decide (zs.length<=64)&&vsB f r,.bool (chkL f r zs bl),[])
 |_,_=>none
theorem iK:CtOk (GGx kCa kDb) PP (37,jQ):=by
 refine aB Tryz.func37 (by kernel_rfl) rfl fun a0 h0 c0 v0 N0 e hc=>?_
 unfold jQ at e
 split at e
 ·rename_i f r len bl zs
  cases e
  have hE:=aA (kCa:=kCa) (kDb:=kDb) (cts:=[(36,gO),(82,dW)]) (inl:=[]) ⟨gM,fF,trivial⟩ trivial
  refine aq hE 2 Tryz.func37 rfl rfl ?_
  simp only[Bool.and_eq_true,decide_eq_true_eq]at hc
  obtain⟨⟨rfl,hc2⟩,hv⟩:=hc
  repeat (first|(first|refine ah ?_|refine sat_nd ?_)|refine ae (aG hc2 rfl) ?_|refine ae (aJ hc2 rfl hv) ?_)
  refine ag (ai (.inr rfl) rfl rfl rfl (by
   show V.bool (chkL f r (tk zs) bl)=_
   rw[aF]))
 ·cases e
def Jy:CF
 |[.agg [.int .i64 _f,.int .i64 _r,.sl 0 0 len none,.bool _bl,.int .u8 _ca,.int .i64 _pa,.int .i64 _ha,.int .i64 _fu],.str s],[.ints false .i8 zs]=>some (decide (len=zs.length)&&decide (zs.length<=64)&&decide (0<=cx 8 8 s)&&decide (cx 8 8 s<zs.length),.int .i8 (zs.getD (cx 8 8 s).toNat 0),[])
 |_,_=>none
theorem HQ:CtOk (GGx kCa kDb) PP (137,Jy):=by
 refine aB Tryz.func137 (by kernel_rfl) rfl fun a0 h0 c0 v0 N0 e hc=>?_
 unfold Jy at e
 split at e
 ·rename_i f r len bl ca pa ha fu s zs
  cases e
  have hE:=aA (kCa:=kCa) (kDb:=kDb) (cts:=[(124,nZ)]) (inl:=[]) ⟨kj,trivial⟩ trivial
  refine aq hE 2 Tryz.func137 rfl rfl ?_
  simp only[Bool.and_eq_true,decide_eq_true_eq]at hc
  obtain⟨⟨⟨rfl,hc2⟩,h0⟩,h1⟩:=hc
  repeat (first|(first|refine ah ?_|refine sat_nd ?_)|refine ae (by simp only[Bool.and_eq_true,decide_eq_true_eq];omega) ?_)
  exact ag (ai (.inr rfl) rfl rfl rfl rfl)
 ·cases e
theorem bp{zs:List Int}{s:List UInt8}{n:Nat}(h:cx 8 8 s=n)(h2:n<64)(h64:zs.length=64):(decide (zs.length=(tk zs).length)&&decide ((tk zs).length<=64)&&decide (0<=cx 8 8 s)&&decide (cx 8 8 s<(tk zs).length))=true:=by
 rw[jh,h,h64];simp;omega
theorem bg{zs:List Int}{s:List UInt8}{n:Nat}{g:Bool}(h:cx 8 8 s=n)(h2:n<64)(h64:zs.length=64):(!g||(decide (zs.length=(tk zs).length)&&decide ((tk zs).length<=64)&&decide (0<=cx 8 8 s)&&decide (cx 8 8 s<(tk zs).length)))=true:=by
 rw[bp h h2 h64];simp
def vq:CF
 |[.agg [.int .i64 f,.int .i64 r,.sl 0 0 len none,.bool _bl,.int .u8 _ca,.int .i64 _pa,.int .i64 _ha,.int .i64 _fu],.int .u8 bit],[.ints false .i8 zs]=>some (decide (len=zs.length)&&decide (zs.length<=64)&&(!decide (f=8)||!decide (r=8)||decide (zs.length=64)),.bool (iV f r zs bit),[])
 |_,_=>none
theorem zX:CtOk (GGx kCa kDb) PP (83,vq):=by
 refine aB Tryz.func83 (by kernel_rfl) rfl fun a0 h0 c0 v0 N0 e hc=>?_
 unfold vq at e
 split at e
 ·rename_i f r len bl ca pa ha fu bit zs
  cases e
  have hE:=aA (kCa:=kCa) (kDb:=kDb) (cts:=[(137,Jy)]) (inl:=[]) ⟨HQ,trivial⟩ trivial
  refine aq hE 2 Tryz.func83 rfl rfl ?_
  simp only[Bool.and_eq_true,decide_eq_true_eq]at hc
  obtain⟨⟨rfl,hc2⟩,hv⟩:=hc
  repeat (first|refine ah ?_|refine sat_nd ?_)
  refine av (fun h=>?_) (fun h=>?_)
  ·have h:(!decide (f=8)||!decide (r=8))=true:=h
   exact ag (ai (.inr rfl) rfl rfl rfl (by rw[iV,h];rfl))
  have h:(!decide (f=8)||!decide (r=8))=false:=h
  have h64:zs.length=64:=by
   rw[h]at hv;simpa using hv
  refine av (fun h1=>?_) (fun h1=>?_)
  ·have h1:decide (bit=1)=true:=h1
   repeat (first|(first|refine ah ?_|refine sat_nd ?_)|refine ae (bp (n:=4) oG (by decide) h64) ?_|refine ae (bg (n:=4) oG (by decide) h64) ?_|refine ae (bp (n:=7) qm (by decide) h64) ?_|refine ae (bg (n:=7) qm (by decide) h64) ?_|refine ae (bp (n:=0) sP (by decide) h64) ?_|refine ae (bg (n:=0) sP (by decide) h64) ?_|refine ae (bp (n:=60) oP (by decide) h64) ?_|refine ae (bg (n:=60) oP (by decide) h64) ?_|refine ae (bp (n:=63) rz (by decide) h64) ?_|refine ae (bg (n:=63) rz (by decide) h64) ?_|refine ae (bp (n:=56) qU (by decide) h64) ?_|refine ae (bg (n:=56) qU (by decide) h64) ?_)
   exact ag (ai (.inr rfl) rfl rfl rfl (congrArg V.bool (by
    show (decide ((tk zs).getD (cx 8 8 [101,49]).toNat 0=6)&&decide ((tk zs).getD (cx 8 8 [104,49]).toNat 0=4))=_
    rw[aF,oG,qm,iV,h,h1];rfl)))
  have h1:decide (bit=1)=false:=h1
  refine av (fun h2=>?_) (fun h2=>?_)
  ·have h2:decide (bit=2)=true:=h2
   repeat (first|(first|refine ah ?_|refine sat_nd ?_)|refine ae (bp (n:=4) oG (by decide) h64) ?_|refine ae (bg (n:=4) oG (by decide) h64) ?_|refine ae (bp (n:=7) qm (by decide) h64) ?_|refine ae (bg (n:=7) qm (by decide) h64) ?_|refine ae (bp (n:=0) sP (by decide) h64) ?_|refine ae (bg (n:=0) sP (by decide) h64) ?_|refine ae (bp (n:=60) oP (by decide) h64) ?_|refine ae (bg (n:=60) oP (by decide) h64) ?_|refine ae (bp (n:=63) rz (by decide) h64) ?_|refine ae (bg (n:=63) rz (by decide) h64) ?_|refine ae (bp (n:=56) qU (by decide) h64) ?_|refine ae (bg (n:=56) qU (by decide) h64) ?_)
   exact ag (ai (.inr rfl) rfl rfl rfl (congrArg V.bool (by
    show (decide ((tk zs).getD (cx 8 8 [101,49]).toNat 0=6)&&decide ((tk zs).getD (cx 8 8 [97,49]).toNat 0=4))=_
    rw[aF,oG,sP,iV,h,h1,h2];rfl)))
  have h2:decide (bit=2)=false:=h2
  refine av (fun h3=>?_) (fun h3=>?_)
  ·have h3:decide (bit=4)=true:=h3
   repeat (first|(first|refine ah ?_|refine sat_nd ?_)|refine ae (bp (n:=4) oG (by decide) h64) ?_|refine ae (bg (n:=4) oG (by decide) h64) ?_|refine ae (bp (n:=7) qm (by decide) h64) ?_|refine ae (bg (n:=7) qm (by decide) h64) ?_|refine ae (bp (n:=0) sP (by decide) h64) ?_|refine ae (bg (n:=0) sP (by decide) h64) ?_|refine ae (bp (n:=60) oP (by decide) h64) ?_|refine ae (bg (n:=60) oP (by decide) h64) ?_|refine ae (bp (n:=63) rz (by decide) h64) ?_|refine ae (bg (n:=63) rz (by decide) h64) ?_|refine ae (bp (n:=56) qU (by decide) h64) ?_|refine ae (bg (n:=56) qU (by decide) h64) ?_)
   exact ag (ai (.inr rfl) rfl rfl rfl (congrArg V.bool (by
    show (decide ((tk zs).getD (cx 8 8 [101,56]).toNat 0=-6)&&decide ((tk zs).getD (cx 8 8 [104,56]).toNat 0=-4))=_
    rw[aF,oP,rz,iV,h,h1,h2,h3];rfl)))
  have h3:decide (bit=4)=false:=h3
  repeat (first|(first|refine ah ?_|refine sat_nd ?_)|refine ae (bp (n:=4) oG (by decide) h64) ?_|refine ae (bg (n:=4) oG (by decide) h64) ?_|refine ae (bp (n:=7) qm (by decide) h64) ?_|refine ae (bg (n:=7) qm (by decide) h64) ?_|refine ae (bp (n:=0) sP (by decide) h64) ?_|refine ae (bg (n:=0) sP (by decide) h64) ?_|refine ae (bp (n:=60) oP (by decide) h64) ?_|refine ae (bg (n:=60) oP (by decide) h64) ?_|refine ae (bp (n:=63) rz (by decide) h64) ?_|refine ae (bg (n:=63) rz (by decide) h64) ?_|refine ae (bp (n:=56) qU (by decide) h64) ?_|refine ae (bg (n:=56) qU (by decide) h64) ?_)
  exact ag (ai (.inr rfl) rfl rfl rfl (congrArg V.bool (by
   show (decide ((tk zs).getD (cx 8 8 [101,56]).toNat 0=-6)&&decide ((tk zs).getD (cx 8 8 [97,56]).toNat 0=-4))=_
   rw[aF,oP,qU,iV,h,h1,h2,h3];rfl)))
 ·cases e
end
end Go.Ab
namespace Go.Ab
open IntKind
open Go.Proofs
section
variable{kCa kDb:Bool}
def rXL(f r:Int)(zs:List Int)(ca bit:Int):Bool:=decide ((u8.wrap (ca.tdiv bit)).tmod 2=1)&&!iV f r zs bit
def cU(f r:Int)(zs:List Int)(ca:Int):Bool:=bif decide (15<ca)then false else !(rXL f r zs ca 1||rXL f r zs ca 2||rXL f r zs ca 4||rXL f r zs ca 8)
def pasL(f r:Int)(zs:List Int)(bl:Bool)(pa ha:Int):Bool:=bif decide (pa=-1)then true else bif decide (r<6)||!decide (ha=0)||!aj f r pa then false else bif !decide (i64.wrap (2*i64.wrap (pa.tdiv f))=i64.wrap (eD r (!bl) 2+eD r (!bl) 4))then false else decide (zs.getD pa.toNat 0=0)&&decide (zs.getD (numR f r (pa.tmod f) (eD r (!bl) 2)).toNat 0=0)&&decide (zs.getD (numR f r (pa.tmod f) (eD r (!bl) 4)).toNat 0=pG 1 (!bl))
def pwL(f r:Int)(zs:List Int)(i:Int):Bool:=decide (aY (zs.getD i.toNat 0)=1)&&decide (i64.wrap (i.tdiv f)=fW r (decide (zs.getD i.toNat 0<0)))
def tN(f r:Int)(zs:List Int):Bool:=(List.range zs.length).any fun i=>pwL f r zs i
def lK(p:Psn):Bool:=bif !aW p.f p.r p.zs||decide (aV p.zs false<0)||decide (aV p.zs true<0)||chkL p.f p.r p.zs (!p.bl)then false else bif tN p.f p.r p.zs then false else cU p.f p.r p.zs p.ca&&pasL p.f p.r p.zs p.bl p.pa p.ha&&decide (0<=p.ha)&&decide (p.ha<=10000)&&decide (1<=p.fu)&&decide (p.fu<=10000)
theorem mB{f r:Int}{zs:List Int}{g:Bool}(hc2:zs.length<=64)(hv:(!decide (f=8)||!decide (r=8)||decide (zs.length=64))=true):(!g||(decide (zs.length=(tk zs).length)&&decide ((tk zs).length<=64)&&(!decide (f=8)||!decide (r=8)||decide ((tk zs).length=64))))=true:=by
 rw[jh,hv];simp[hc2]
theorem zN{f r x:Int}{zs:List Int}{bl:Bool}{n:Int}(hbd:aD f r zs=true)(hx:0<=x/\x<f)(hr:6<=r)(hn:n=2\/n=4):0<=numR f r x (eD r bl n)/\numR f r x (eD r bl n)<zs.length:=by
 have hv:=(bh hbd).1
 have hb:=cY hv
 have hk:eD r bl n=(bif bl then r-n else n-1):=by
  unfold eD;cases bl
  ·exact aI (by omega) (by omega)
  ·exact aI (by omega) (by omega)
 have ho:onB f r x (eD r bl n)=true:=by
  rw[hk];cases bl
  ·exact kL hx.1 hx.2 (by simp only[cond_false];omega) (by simp only[cond_false];omega)
  ·exact kL hx.1 hx.2 (by simp only[cond_true];omega) (by simp only[cond_true];omega)
 rcases gJ f r x (eD r bl n) hv with⟨_,h⟩|⟨h,_⟩
 ·exact(bQ hbd).1 h
 ·rw[ho]at h;cases h
theorem cj{zs:List Int}(h:zs.length<=64){n:Nat}(hn:n=zs.length){g:Bool}:(!g||(decide (n=(tk zs).length)&&decide ((tk zs).length<=64)))=true:=by rw[aG h hn];simp
theorem ir{zs:List Int}(h:zs.length<=64){g b:Bool}(hb:b=true):(!g||(decide (zs.length=(tk zs).length)&&decide ((tk zs).length<=64)&&b))=true:=by rw[aJ h rfl hb];simp
theorem xn{g:Bool}{x:Int}{n:Nat}(h:0<=x/\x<n):(!g||(decide (0<=x)&&decide (x<n)))=true:=by simp[h]
def mO:CF
 |[.agg [.int .i64 f,.int .i64 r,.sl 0 0 len none,.bool _bl,.int .u8 ca,.int .i64 _pa,.int .i64 _ha,.int .i64 _fu]],[.ints false .i8 zs]=>some (decide (len=zs.length)&&decide (zs.length<=64)&&(!decide (f=8)||!decide (r=8)||decide (zs.length=64)),.bool (cU f r zs ca),[])
 |_,_=>none
theorem tS:CtOk (GGx kCa kDb) PP (41,mO):=by
 refine aB Tryz.func41 (by kernel_rfl) rfl fun a0 h0 c0 v0 N0 e hc=>?_
 unfold mO at e
 split at e
 ·rename_i f r len bl ca pa ha fu zs
  cases e
  have hE:=aA (kCa:=kCa) (kDb:=kDb) (cts:=[(83,vq)]) (inl:=[]) ⟨zX,trivial⟩ trivial
  refine aq hE 2 Tryz.func41 rfl rfl ?_
  simp only[Bool.and_eq_true,decide_eq_true_eq]at hc
  obtain⟨⟨rfl,hc2⟩,hv⟩:=hc
  refine av (fun h=>?_) (fun h=>?_)
  ·have h:decide (15<ca)=true:=h
   exact ag (ai (.inr rfl) rfl rfl rfl (by rw[cU,h];rfl))
  have h:decide (15<ca)=false:=h
  repeat (first|refine ah ?_|refine sat_nd ?_)
  refine dn hE 2 5 ?_
  refine rnd ?_
  refine cN (by rfl) ?_
  repeat (first|(first|refine ah ?_|refine sat_nd ?_)|refine ae (mB hc2 hv) ?_)
  refine av (fun h0=>?_) (fun h0=>?_)
  ·have h0:rXL f r (tk zs) ca 1=true:=h0
   rw[aF]at h0
   exact ag (ag (ai (.inr rfl) rfl rfl rfl (by simp[cU,h,h0])))
  have h0:rXL f r (tk zs) ca 1=false:=h0
  rw[aF]at h0
  refine ag ⟨[(1,.ptr 1 0 0),(8,.sl 2 0 4 none),(9,I 4),(10,I 1)],[.ints false .i8 zs,.cells true [I f,I r,.sl 0 0 zs.length none,Bb bl,.int .u8 ca,I pa,I ha,I fu],.ints true .u8 [1,2,4,8]],Ent.ren [0,1,2] [1,8,9,10] rfl rfl rfl,?_⟩
  refine rnd ?_
  refine cN (by rfl) ?_
  repeat (first|(first|refine ah ?_|refine sat_nd ?_)|refine ae (mB hc2 hv) ?_)
  refine av (fun h1=>?_) (fun h1=>?_)
  ·have h1:rXL f r (tk zs) ca 2=true:=h1
   rw[aF]at h1
   exact ag (ag (ai (.inr rfl) rfl rfl rfl (by simp[cU,h,h0,h1])))
  have h1:rXL f r (tk zs) ca 2=false:=h1
  rw[aF]at h1
  refine ag ⟨[(1,.ptr 1 0 0),(8,.sl 2 0 4 none),(9,I 4),(10,I 2)],[.ints false .i8 zs,.cells true [I f,I r,.sl 0 0 zs.length none,Bb bl,.int .u8 ca,I pa,I ha,I fu],.ints true .u8 [1,2,4,8]],Ent.ren [0,1,2] [1,8,9,10] rfl rfl rfl,?_⟩
  refine rnd ?_
  refine cN (by rfl) ?_
  repeat (first|(first|refine ah ?_|refine sat_nd ?_)|refine ae (mB hc2 hv) ?_)
  refine av (fun h2=>?_) (fun h2=>?_)
  ·have h2:rXL f r (tk zs) ca 4=true:=h2
   rw[aF]at h2
   exact ag (ag (ai (.inr rfl) rfl rfl rfl (by simp[cU,h,h0,h1,h2])))
  have h2:rXL f r (tk zs) ca 4=false:=h2
  rw[aF]at h2
  refine ag ⟨[(1,.ptr 1 0 0),(8,.sl 2 0 4 none),(9,I 4),(10,I 3)],[.ints false .i8 zs,.cells true [I f,I r,.sl 0 0 zs.length none,Bb bl,.int .u8 ca,I pa,I ha,I fu],.ints true .u8 [1,2,4,8]],Ent.ren [0,1,2] [1,8,9,10] rfl rfl rfl,?_⟩
  refine rnd ?_
  refine cN (by rfl) ?_
  repeat (first|(first|refine ah ?_|refine sat_nd ?_)|refine ae (mB hc2 hv) ?_)
  refine av (fun h3=>?_) (fun h3=>?_)
  ·have h3:rXL f r (tk zs) ca 8=true:=h3
   rw[aF]at h3
   exact ag (ag (ai (.inr rfl) rfl rfl rfl (by simp[cU,h,h0,h1,h2,h3])))
  have h3:rXL f r (tk zs) ca 8=false:=h3
  rw[aF]at h3
  refine ag ⟨[(1,.ptr 1 0 0),(8,.sl 2 0 4 none),(9,I 4),(10,I 4)],[.ints false .i8 zs,.cells true [I f,I r,.sl 0 0 zs.length none,Bb bl,.int .u8 ca,I pa,I ha,I fu],.ints true .u8 [1,2,4,8]],Ent.ren [0,1,2] [1,8,9,10] rfl rfl rfl,?_⟩
  refine rnd ?_
  refine tM (by rfl) ?_
  exact ag (ag (ai (.inr rfl) rfl rfl rfl (by simp[cU,h,h0,h1,h2,h3])))
 ·cases e
def lj:CF
 |[.agg [.int .i64 f,.int .i64 r,.sl 0 0 len none,.bool bl,.int .u8 _ca,.int .i64 pa,.int .i64 ha,.int .i64 _fu]],[.ints false .i8 zs]=>some (decide (len=zs.length)&&decide (zs.length<=64)&&aD f r zs,.bool (pasL f r zs bl pa ha),[])
 |_,_=>none
theorem qV:CtOk (GGx kCa kDb) PP (42,lj):=by
 refine aB Tryz.func42 (by kernel_rfl) rfl fun a0 h0 c0 v0 N0 e hc=>?_
 unfold lj at e
 split at e
 ·rename_i f r len bl ca pa ha fu zs
  cases e
  have hE:=aA (kCa:=kCa) (kDb:=kDb) (cts:=[(84,oB),(39,dB),(85,xj),(86,gk),(87,rQ)]) (inl:=[]) ⟨kR,cg,Ai,eM,wF,trivial⟩ trivial
  refine aq hE 2 Tryz.func42 rfl rfl ?_
  simp only[Bool.and_eq_true,decide_eq_true_eq]at hc
  obtain⟨⟨rfl,hc2⟩,hv⟩:=hc
  refine av (fun h=>?_) (fun h=>?_)
  ·have h:decide (pa=-1)=true:=h
   exact ag (ai (.inr rfl) rfl rfl rfl (by rw[pasL,h];rfl))
  have h:decide (pa=-1)=false:=h
  repeat (first|refine ah ?_|refine sat_nd ?_)
  refine av (fun h1=>?_) (fun h1=>?_)
  ·have h1:(decide (r<6)||!decide (ha=0)||!aj f r pa)=true:=h1
   exact ag (ai (.inr rfl) rfl rfl rfl (by rw[pasL,h,h1];rfl))
  have h1:(decide (r<6)||!decide (ha=0)||!aj f r pa)=false:=h1
  have h1':=h1
  simp only[Bool.or_eq_false_iff,decide_eq_false_iff_not,Bool.not_eq_false']at h1'
  obtain⟨⟨hr,_⟩,hpv⟩:=h1'
  have hf0:(!decide (f=0))=true:=by have:=cY (bh hv).1;simp;omega
  obtain⟨hp1,hp2⟩:=(bQ hv).1 hpv
  obtain⟨_,hx1,hx2,_⟩:=fA hpv
  have n2:=zN (bl:=!bl) (n:=2) hv ⟨hx1,hx2⟩ (by omega) (.inl rfl)
  have n4:=zN (bl:=!bl) (n:=4) hv ⟨hx1,hx2⟩ (by omega) (.inr rfl)
  repeat (first|(first|refine ah ?_|refine sat_nd ?_)|refine ae hf0 ?_)
  refine av (fun h2=>?_) (fun h2=>?_)
  ·have h2:(!decide (i64.wrap (2*i64.wrap (pa.tdiv f))=i64.wrap (eD r (!bl) 2+eD r (!bl) 4)))=true:=h2
   exact ag (ai (.inr rfl) rfl rfl rfl (by rw[pasL,h,h1,h2];rfl))
  have h2:(!decide (i64.wrap (2*i64.wrap (pa.tdiv f))=i64.wrap (eD r (!bl) 2+eD r (!bl) 4)))=false:=h2
  repeat (first|(first|refine ah ?_|refine sat_nd ?_)|refine ae (by simp only[Bool.and_eq_true,decide_eq_true_eq];exact⟨hp1,hp2⟩) ?_|refine ae (xn n2) ?_|refine ae (xn n4) ?_)
  exact ag (ai (.inr rfl) rfl rfl rfl (by rw[pasL,h,h1,h2];rfl))
 ·cases e
theorem HT{f r:Int}{zs:List Int}{_bl:Bool}{x y:Bool}(hc2:zs.length<=64):(!(!(!aW f r (tk zs)||x||y))||(decide (zs.length=(tk zs).length)&&decide ((tk zs).length<=64)&&vsB f r))=true:=by
 cases h:aW f r (tk zs) with
 |false=>simp
 |true=>rw[jh,(bn h).1];simp[hc2]
theorem v88{f r:Int}{zs:List Int}(h:aD f r zs=true):(!decide (f=8)||!decide (r=8)||decide (zs.length=64))=true:=by
 cases h8:is88 f r with
 |false=>simp only[is88,Bool.and_eq_false_iff]at h8;rcases h8 with h8|h8<;>rw[h8]<;>simp
 |true=>rw[ur h h8];simp
def jF:CF
 |[.agg [.int .i64 f,.int .i64 r,.sl 0 0 len none,.bool bl,.int .u8 ca,.int .i64 pa,.int .i64 ha,.int .i64 fu]],[.ints false .i8 zs]=>some (decide (len=zs.length)&&decide (zs.length<=64),.bool (lK ⟨f,r,zs,bl,ca,pa,ha,fu⟩),[])
 |_,_=>none
theorem iO:CtOk (GGx kCa kDb) PP (12,jF):=by
 refine aB Tryz.func12 (by kernel_rfl) rfl fun a0 h0 c0 v0 N0 e hc=>?_
 unfold jF at e
 split at e
 ·rename_i f r len bl ca pa ha fu zs
  cases e
  have hE:=aA (kCa:=kCa) (kDb:=kDb) (cts:=[(35,vL),(36,gO),(37,jQ),(38,fk),(39,dB),(40,rO),(41,mO),(42,lj)]) (inl:=[(29,Tryz.f29)]) ⟨AD,gM,iK,dR,cg,pU,tS,qV,trivial⟩ ⟨⟨Tryz.func29,by kernel_rfl⟩,trivial⟩
  refine aq hE 2 Tryz.func12 rfl rfl ?_
  simp only[Bool.and_eq_true,decide_eq_true_eq]at hc
  obtain⟨rfl,hc2⟩:=hc
  repeat (first|(first|refine ah ?_|refine sat_nd ?_)|refine ae (aG hc2 rfl) ?_|refine ae (cj hc2 rfl) ?_|refine ae (HT (_bl:=bl) hc2) ?_)
  refine av (fun h=>?_) (fun h=>?_)
  ·have h:(!aW f r (tk zs)||decide (aV (tk zs) false<0)||decide (aV (tk zs) true<0)||chkL f r (tk zs) (!bl))=true:=h
   rw[aF]at h
   exact ag (ai (.inr rfl) rfl rfl rfl (by simp only[lK,h,cond_true]))
  have h:(!aW f r (tk zs)||decide (aV (tk zs) false<0)||decide (aV (tk zs) true<0)||chkL f r (tk zs) (!bl))=false:=h
  rw[aF]at h
  have h':=h
  simp only[Bool.or_eq_false_iff,Bool.not_eq_false']at h'
  obtain⟨hvs,_,hbd,_⟩:=bn h'.1.1.1
  have hf0:(!decide (f=0))=true:=by have:=cY hvs;simp;omega
  have hf1:∀ g:Bool,(!g||!decide (f=0))=true:=fun g=>by rw[hf0];simp
  have h88:=v88 hbd
  have h88t:(!decide (f=8)||!decide (r=8)||decide ((tk zs).length=64))=true:=by rw[aF];exact h88
  have hbdt:aD f r (tk zs)=true:=by rw[aF];exact hbd
  refine cC hE 2 (fun i (_:Unit)=>([(1,.ptr 1 0 0),(4,I i)],[.ints false .i8 zs,.cells true [I f,I r,.sl 0 0 zs.length none,Bb bl,.int .u8 ca,I pa,I ha,I fu]])) zs.length (fun j _=>∀ k,k<j->pwL f r zs (k:Nat)=false) () (by omega) (Ent.ren [0,1] [1,4] rfl rfl rfl) (fun k hk=>absurd hk (by omega)) ?_
  intro j i _ hij hj hz
  refine av (fun hlt=>?_) (fun hlt=>?_)
  ·have hlt':j<zs.length:=by simp at hlt;omega
   repeat (first|(first|refine ah ?_|refine sat_nd ?_)|refine ae (by simp only[Bool.and_eq_true,decide_eq_true_eq];omega) ?_|refine ae (hf1 _) ?_|refine ae (xn ⟨by omega,by omega⟩) ?_)
   refine av (fun hon=>?_) (fun hon=>?_)
   ·have hon:pwL f r zs i=true:=hon
    have hpw:tN f r zs=true:=List.any_eq_true.2 ⟨j,List.mem_range.2 hlt',by rw[<-hij];exact hon⟩
    exact ag (ag (ai (.inr rfl) rfl rfl rfl (by simp only[lK,h,hpw,cond_true,cond_false])))
   ·have hon:pwL f r zs i=false:=hon
    refine ag ⟨hlt',(),fun k hk=>?_,Ent.ren [0,1] [1,4] rfl rfl rfl⟩
    rcases Nat.lt_or_ge k j with hk2|hk2
    ·exact hz k hk2
    ·obtain rfl:k=j:=by omega
     rw[<-hij];exact hon
  ·obtain rfl:j=zs.length:=by simp at hlt;omega
   have hpw:tN f r zs=false:=List.any_eq_false.2 fun k hk=>by rw[hz k (List.mem_range.1 hk)];simp
   refine ag ?_
   repeat (first|(first|refine ah ?_|refine sat_nd ?_)|refine ae (aG hc2 rfl) ?_|refine ae (aJ hc2 rfl h88t) ?_|refine ae (ir hc2 hbdt) ?_|refine ae (ir hc2 h88t) ?_)
   exact ag (ai (.inr rfl) rfl rfl rfl (by
    show V.bool (cU f r (tk zs) ca&&pasL f r (tk zs) bl pa ha&&decide (0<=ha)&&decide (ha<=10000)&&decide (1<=fu)&&decide (fu<=10000))=_
    rw[aF];simp only[lK,h,hpw,cond_false]))
 ·cases e
end
section
variable{kDb:Bool}
abbrev u8or(a b:Int):Int:=band .or .u8 a b
def aX(bl:Bool)(ca a b:Int)(c:Bool)(bit k to:Int):Bool:=!(c==bl)||decide (fz ca bit=0)||!decide (k=a)||!decide (to=b)
def wayN(zs:List Int)(bl:Bool)(ca a b:Int):Nat:=bif !decide (absP (zs.getD a.toNat 0)=6)then 4 else bif !aX bl ca a b false 1 4 6 then 0 else bif !aX bl ca a b false 2 4 2 then 1 else bif !aX bl ca a b true 4 60 62 then 2 else bif !aX bl ca a b true 8 60 58 then 3 else 4
def wBit(n:Nat):Int:=([1,2,4,8,0]:List Int).getD n 0
def wBl(n:Nat):Bool:=[false,false,true,true,false].getD n false
def sk(n:Nat):Int:=([4,4,60,60,0]:List Int).getD n 0
def wTo(n:Nat):Int:=([6,2,62,58,0]:List Int).getD n 0
def wCor(n:Nat):Int:=([7,0,63,56,0]:List Int).getD n 0
def wCro(n:Nat):Int:=([5,3,61,59,0]:List Int).getD n 0
def wayB(f r:Int)(zs:List Int)(n:Nat):Bool:=!decide (n=4)&&decide (uand (bS f r (sk n) (wCor n)).1 (occR f r zs)=0)
def Mi(r:Int)(bl:Bool):Int:=bif bl then 0 else i64.wrap (r-1)
def iD(f r:Int)(zs:List Int)(bl:Bool)(pa a b pr:Int):Bool:=
 bif !decide (absP (zs.getD a.toNat 0)=1)then decide (pr=0)&&decide (uand (ushr (cn f r (absP (zs.getD a.toNat 0)) a (occR f r zs)).1 b) 1=1)
 else decide (uand (ushr (uor (dh f r bl a (occR f r zs)).1 (bif decide (zs.getD b.toNat 0=0)&&!decide (b=pa)then 0 else(gj f r bl a).1)) b) 1=1)&&((!decide (pr=0))==decide (i64.wrap (b.tdiv f)=Mi r bl))
def chkB(f r:Int)(zs:List Int)(b:Bool):Bool:=!decide ((bM f r zs b).1=0)
def dJ(at_ s k q bit:Int):Int:=bif decide (k=at_)||decide (q=at_)then u8or s bit else s
def JY(at_:Int):Int:=dJ at_ (dJ at_ (dJ at_ (dJ at_ 0 4 7 1) 4 0 2) 60 63 4) 60 56 8
theorem qE{at_ s k q bit:Int}(h:(decide (k=at_)||decide (q=at_))=true):dJ at_ s k q bit=u8or s bit:=by rw[dJ,h];rfl
theorem qX{at_ s k q bit:Int}(h:(decide (k=at_)||decide (q=at_))=false):dJ at_ s k q bit=s:=by rw[dJ,h];rfl
theorem nq{g:Bool}{b:Int}(h:0<=b):(!g||decide (0<=b))=true:=by simp[h]
theorem aC{zs:List Int}{b:Int}(h:0<=b)(h1:b<zs.length):(decide (0<=b)&&decide (b<zs.length))=true:=by simp[h,h1]
def yR:CF
 |[.agg [.int .i64 f,.int .i64 r,.sl 0 0 len none,.bool _bl,.int .u8 _ca,.int .i64 _pa,.int .i64 _ha,.int .i64 _fu]],[.ints false .i8 zs]=>some (decide (len=zs.length)&&decide (zs.length<=64),.int .u64 (occR f r zs),[])
 |_,_=>none
theorem th:CtOk (GGx true kDb) PP (156,yR):=by
 refine aB Tryz.func156 (by kernel_rfl) rfl fun a0 h0 c0 v0 N0 e hc=>?_
 unfold yR at e
 split at e
 ·rename_i f r len bl ca pa ha fu zs
  cases e
  have hE:=aA (kCa:=true) (kDb:=kDb) (cts:=[(149,nD)]) (inl:=[]) ⟨lf,trivial⟩ trivial
  refine aq hE 2 Tryz.func156 rfl rfl ?_
  simp only[Bool.and_eq_true,decide_eq_true_eq]at hc
  obtain⟨rfl,hc2⟩:=hc
  repeat (first|(first|refine ah ?_|refine sat_nd ?_)|refine ae (aG hc2 rfl) ?_)
  refine ag (ai (.inr rfl) rfl rfl rfl (by
   show V.int .u64 (occR f r (tk zs))=_
   rw[aF]))
 ·cases e
def Cd:CF
 |[.agg [.int .i64 f,.int .i64 r,.sl 0 0 len none,.bool _bl,.int .u8 _ca,.int .i64 _pa,.int .i64 _ha,.int .i64 _fu],.bool b],[.ints false .i8 zs]=>some (decide (len=zs.length)&&decide (zs.length<=64),.bool (chkB f r zs b),[])
 |_,_=>none
theorem EC:CtOk (GGx true kDb) PP (118,Cd):=by
 refine aB Tryz.func118 (by kernel_rfl) rfl fun a0 h0 c0 v0 N0 e hc=>?_
 unfold Cd at e
 split at e
 ·rename_i f r len bl ca pa ha fu b zs
  cases e
  have hE:=aA (kCa:=true) (kDb:=kDb) (cts:=[(28,fK)]) (inl:=[]) ⟨gp,trivial⟩ trivial
  refine aq hE 2 Tryz.func118 rfl rfl ?_
  simp only[Bool.and_eq_true,decide_eq_true_eq]at hc
  obtain⟨rfl,hc2⟩:=hc
  repeat (first|(first|refine ah ?_|refine sat_nd ?_)|refine ae (aG hc2 rfl) ?_)
  refine ag (ai (.inr rfl) rfl rfl rfl (by
   show V.bool (chkB f r (tk zs) b)=_
   rw[aF]))
 ·cases e
def iQ:CF
 |[.agg [.int .i64 f,.int .i64 r,.sl 0 0 len none,.bool bl,.int .u8 ca,.int .i64 _pa,.int .i64 _ha,.int .i64 _fu],.agg [.int .i64 a,.int .i64 b,.int .i8 _pr]],[.ints false .i8 zs]=>some (decide (len=zs.length)&&decide (zs.length<=64)&&(aD f r zs&&aj f r a&&aj f r b),.tup [.agg [.int .u8 (wBit (wayN zs bl ca a b)),Bb (wBl (wayN zs bl ca a b)),I (sk (wayN zs bl ca a b)),I (wTo (wayN zs bl ca a b)),I (wCor (wayN zs bl ca a b)),I (wCro (wayN zs bl ca a b))],Bb (wayB f r zs (wayN zs bl ca a b))],[])
 |_,_=>none
theorem oH:CtOk (GGx true kDb) PP (113,iQ):=by
 refine aB Tryz.func113 (by kernel_rfl) rfl fun a0 h0 c0 v0 N0 e hc=>?_
 unfold iQ at e
 split at e
 ·rename_i f r len bl ca pa ha fu a b pr zs
  cases e
  have hE:=aA (kCa:=true) (kDb:=kDb) (cts:=[(115,sR),(155,gu),(156,yR)]) (inl:=[]) ⟨ny,tE,th,trivial⟩ trivial
  refine tg hE 2 Tryz.func113 rfl rfl ?_
  simp only[Bool.and_eq_true,decide_eq_true_eq]at hc
  obtain⟨⟨rfl,hc2⟩,⟨hbd,hva⟩,hvb⟩:=hc
  obtain⟨ha0,ha1⟩:=(bQ hbd).1 hva
  obtain⟨hb0,hb1⟩:=(bQ hbd).1 hvb
  repeat (first|(first|refine ah ?_|refine sat_nd ?_)|refine ae (aC ha0 ha1) ?_)
  refine av (fun hk=>?_) (fun hk=>?_)
  ·have hk:(!decide (absP (zs.getD a.toNat 0)=6))=true:=hk
   have hn:wayN zs bl ca a b=4:=by rw[wayN,hk,cond_true]
   refine ag (xL (ai (.inr rfl) rfl rfl rfl rfl) ?_)
   rw[hn]
   exact fun _ _ h=>h
  have hk:(!decide (absP (zs.getD a.toNat 0)=6))=false:=hk
  refine dn hE 2 5 ?_
  refine rnd ?_
  refine cN (by rfl) ?_
  repeat (first|refine ah ?_|refine sat_nd ?_)
  refine av (fun h0=>?_) (fun h0=>?_)
  rotate_left
  ·have h0:aX bl ca a b false 1 4 6=false:=h0
   have hn:wayN zs bl ca a b=0:=by simp only[wayN,hk,h0,Bool.not_false,cond_true,cond_false]
   repeat (first|(first|refine ah ?_|refine sat_nd ?_)|refine ae (aG hc2 rfl) ?_)
   refine ag (ag (xL (ai (.inr rfl) rfl rfl rfl rfl) ?_))
   rw[hn]
   show Like (V.tup [.agg [.int .u8 1,.lit false,I 4,I 6,I 7,I 5],Bb (decide (uand (bS f r 4 7).1 (occR f r (tk zs))=0))]) _
   rw[aF]
   exact fun _ _ h=>h
  have h0:aX bl ca a b false 1 4 6=true:=h0
  refine ag ⟨[(2,.ptr 1 0 0),(3,.ptr 2 0 0),(4,.ptr 3 0 0),(19,.agg [.int .u8 1,.lit false,.int .i64 4,.int .i64 6,.int .i64 7,.int .i64 5,.int .u8 2,.lit false,.int .i64 4,.int .i64 2,.int .i64 0,.int .i64 3,.int .u8 4,.lit true,.int .i64 60,.int .i64 62,.int .i64 63,.int .i64 61,.int .u8 8,.lit true,.int .i64 60,.int .i64 58,.int .i64 56,.int .i64 59]),(20,I 1)],[.ints false .i8 zs,.cells true [I f,I r,.sl 0 0 zs.length none,Bb bl,.int .u8 ca,I pa,I ha,I fu],.cells true [I a,I b,.int .i8 pr],.cells true [.int .u8 0,.lit false,I 0,I 0,I 0,I 0]],Ent.ren [0,1,2,3] [2,3,4,19,20] rfl rfl rfl,?_⟩
  refine rnd ?_
  refine cN (by rfl) ?_
  repeat (first|refine ah ?_|refine sat_nd ?_)
  refine av (fun h1=>?_) (fun h1=>?_)
  rotate_left
  ·have h1:aX bl ca a b false 2 4 2=false:=h1
   have hn:wayN zs bl ca a b=1:=by simp only[wayN,hk,h0,h1,Bool.not_true,Bool.not_false,cond_true,cond_false]
   repeat (first|(first|refine ah ?_|refine sat_nd ?_)|refine ae (aG hc2 rfl) ?_)
   refine ag (ag (xL (ai (.inr rfl) rfl rfl rfl rfl) ?_))
   rw[hn]
   show Like (V.tup [.agg [.int .u8 2,.lit false,I 4,I 2,I 0,I 3],Bb (decide (uand (bS f r 4 0).1 (occR f r (tk zs))=0))]) _
   rw[aF]
   exact fun _ _ h=>h
  have h1:aX bl ca a b false 2 4 2=true:=h1
  refine ag ⟨[(2,.ptr 1 0 0),(3,.ptr 2 0 0),(4,.ptr 3 0 0),(19,.agg [.int .u8 1,.lit false,.int .i64 4,.int .i64 6,.int .i64 7,.int .i64 5,.int .u8 2,.lit false,.int .i64 4,.int .i64 2,.int .i64 0,.int .i64 3,.int .u8 4,.lit true,.int .i64 60,.int .i64 62,.int .i64 63,.int .i64 61,.int .u8 8,.lit true,.int .i64 60,.int .i64 58,.int .i64 56,.int .i64 59]),(20,I 2)],[.ints false .i8 zs,.cells true [I f,I r,.sl 0 0 zs.length none,Bb bl,.int .u8 ca,I pa,I ha,I fu],.cells true [I a,I b,.int .i8 pr],.cells true [.int .u8 0,.lit false,I 0,I 0,I 0,I 0]],Ent.ren [0,1,2,3] [2,3,4,19,20] rfl rfl rfl,?_⟩
  refine rnd ?_
  refine cN (by rfl) ?_
  repeat (first|refine ah ?_|refine sat_nd ?_)
  refine av (fun h2=>?_) (fun h2=>?_)
  rotate_left
  ·have h2:aX bl ca a b true 4 60 62=false:=h2
   have hn:wayN zs bl ca a b=2:=by simp only[wayN,hk,h0,h1,h2,Bool.not_true,Bool.not_false,cond_true,cond_false]
   repeat (first|(first|refine ah ?_|refine sat_nd ?_)|refine ae (aG hc2 rfl) ?_)
   refine ag (ag (xL (ai (.inr rfl) rfl rfl rfl rfl) ?_))
   rw[hn]
   show Like (V.tup [.agg [.int .u8 4,.lit true,I 60,I 62,I 63,I 61],Bb (decide (uand (bS f r 60 63).1 (occR f r (tk zs))=0))]) _
   rw[aF]
   exact fun _ _ h=>h
  have h2:aX bl ca a b true 4 60 62=true:=h2
  refine ag ⟨[(2,.ptr 1 0 0),(3,.ptr 2 0 0),(4,.ptr 3 0 0),(19,.agg [.int .u8 1,.lit false,.int .i64 4,.int .i64 6,.int .i64 7,.int .i64 5,.int .u8 2,.lit false,.int .i64 4,.int .i64 2,.int .i64 0,.int .i64 3,.int .u8 4,.lit true,.int .i64 60,.int .i64 62,.int .i64 63,.int .i64 61,.int .u8 8,.lit true,.int .i64 60,.int .i64 58,.int .i64 56,.int .i64 59]),(20,I 3)],[.ints false .i8 zs,.cells true [I f,I r,.sl 0 0 zs.length none,Bb bl,.int .u8 ca,I pa,I ha,I fu],.cells true [I a,I b,.int .i8 pr],.cells true [.int .u8 0,.lit false,I 0,I 0,I 0,I 0]],Ent.ren [0,1,2,3] [2,3,4,19,20] rfl rfl rfl,?_⟩
  refine rnd ?_
  refine cN (by rfl) ?_
  repeat (first|refine ah ?_|refine sat_nd ?_)
  refine av (fun h3=>?_) (fun h3=>?_)
  rotate_left
  ·have h3:aX bl ca a b true 8 60 58=false:=h3
   have hn:wayN zs bl ca a b=3:=by simp only[wayN,hk,h0,h1,h2,h3,Bool.not_true,Bool.not_false,cond_true,cond_false]
   repeat (first|(first|refine ah ?_|refine sat_nd ?_)|refine ae (aG hc2 rfl) ?_)
   refine ag (ag (xL (ai (.inr rfl) rfl rfl rfl rfl) ?_))
   rw[hn]
   show Like (V.tup [.agg [.int .u8 8,.lit true,I 60,I 58,I 56,I 59],Bb (decide (uand (bS f r 60 56).1 (occR f r (tk zs))=0))]) _
   rw[aF]
   exact fun _ _ h=>h
  have h3:aX bl ca a b true 8 60 58=true:=h3
  refine ag ⟨[(2,.ptr 1 0 0),(3,.ptr 2 0 0),(4,.ptr 3 0 0),(19,.agg [.int .u8 1,.lit false,.int .i64 4,.int .i64 6,.int .i64 7,.int .i64 5,.int .u8 2,.lit false,.int .i64 4,.int .i64 2,.int .i64 0,.int .i64 3,.int .u8 4,.lit true,.int .i64 60,.int .i64 62,.int .i64 63,.int .i64 61,.int .u8 8,.lit true,.int .i64 60,.int .i64 58,.int .i64 56,.int .i64 59]),(20,I 4)],[.ints false .i8 zs,.cells true [I f,I r,.sl 0 0 zs.length none,Bb bl,.int .u8 ca,I pa,I ha,I fu],.cells true [I a,I b,.int .i8 pr],.cells true [.int .u8 0,.lit false,I 0,I 0,I 0,I 0]],Ent.ren [0,1,2,3] [2,3,4,19,20] rfl rfl rfl,?_⟩
  refine rnd ?_
  refine tM (by rfl) ?_
  have hn:wayN zs bl ca a b=4:=by simp only[wayN,hk,h0,h1,h2,h3,Bool.not_true,cond_false]
  refine ag (ag (xL (ai (.inr rfl) rfl rfl rfl rfl) ?_))
  rw[hn]
  exact fun _ _ h=>h
 ·cases e
def xD:CF
 |[.agg [.int .i64 f,.int .i64 r,.sl 0 0 len none,.bool bl,.int .u8 _ca,.int .i64 pa,.int .i64 _ha,.int .i64 _fu],.agg [.int .i64 a,.int .i64 b,.int .i8 pr]],[.ints false .i8 zs]=>some (decide (len=zs.length)&&decide (zs.length<=64)&&(aD f r zs&&aj f r a&&aj f r b),.bool (iD f r zs bl pa a b pr),[])
 |_,_=>none
theorem AB:CtOk (GGx true kDb) PP (114,xD):=by
 refine aB Tryz.func114 (by kernel_rfl) rfl fun a0 h0 c0 v0 N0 e hc=>?_
 unfold xD at e
 split at e
 ·rename_i f r len bl ca pa ha fu a b pr zs
  cases e
  have hE:=aA (kCa:=true) (kDb:=kDb) (cts:=[(115,sR),(156,yR),(154,nF),(157,ri),(153,ve)]) (inl:=[]) ⟨ny,th,kN,po,nN,trivial⟩ trivial
  refine aq hE 2 Tryz.func114 rfl rfl ?_
  simp only[Bool.and_eq_true,decide_eq_true_eq]at hc
  obtain⟨⟨rfl,hc2⟩,⟨hbd,hva⟩,hvb⟩:=hc
  obtain⟨ha0,ha1⟩:=(bQ hbd).1 hva
  obtain⟨hb0,hb1⟩:=(bQ hbd).1 hvb
  have hf0:f≠0:=by have:=cY (bh hbd).1;omega
  repeat (first|(first|refine ah ?_|refine sat_nd ?_)|refine ae (aC ha0 ha1) ?_)
  refine av (fun hk=>?_) (fun hk=>?_)
  ·have hk:(!decide (absP (zs.getD a.toNat 0)=1))=true:=hk
   repeat (first|(first|refine ah ?_|refine sat_nd ?_)|refine ae (aG hc2 rfl) ?_|refine ae (nq hb0) ?_)
   exact ag (ai (.inr rfl) rfl rfl rfl (congrArg V.bool (by
    show (decide (pr=0)&&decide (uand (ushr (cn f r (absP (zs.getD a.toNat 0)) a (occR f r (tk zs))).1 b) 1=1))=_
    rw[aF,iD,hk];rfl)))
  have hk:(!decide (absP (zs.getD a.toNat 0)=1))=false:=hk
  repeat (first|refine ah ?_|refine sat_nd ?_)
  refine av (fun hb=>?_) (fun hb=>?_)
  ·subst hb
   repeat (first|(first|refine ah ?_|refine sat_nd ?_)|refine ae (aG hc2 rfl) ?_|refine ae (aC ha0 ha1) ?_|refine ae (aC hb0 hb1) ?_|refine ae (nq hb0) ?_|refine ae (gR hf0) ?_)
   refine av (fun hz=>?_) (fun hz=>?_)
   ·have hz:(decide (zs.getD b.toNat 0=0)&&!decide (b=pa))=true:=hz
    repeat (first|(first|refine ah ?_|refine sat_nd ?_)|refine ae (aG hc2 rfl) ?_|refine ae (aC ha0 ha1) ?_|refine ae (aC hb0 hb1) ?_|refine ae (nq hb0) ?_|refine ae (gR hf0) ?_)
    exact ag (ai (.inr rfl) rfl rfl rfl (congrArg V.bool (by
     show (decide (uand (ushr (uor (dh f r true a (occR f r (tk zs))).1 (0)) b) 1=1)&&((!decide (pr=0))==decide (i64.wrap (b.tdiv f)=0)))=_
     rw[aF,iD,hk,cond_false,hz];rfl)))
   ·have hz:(decide (zs.getD b.toNat 0=0)&&!decide (b=pa))=false:=hz
    repeat (first|(first|refine ah ?_|refine sat_nd ?_)|refine ae (aG hc2 rfl) ?_|refine ae (aC ha0 ha1) ?_|refine ae (aC hb0 hb1) ?_|refine ae (nq hb0) ?_|refine ae (gR hf0) ?_)
    exact ag (ai (.inr rfl) rfl rfl rfl (congrArg V.bool (by
     show (decide (uand (ushr (uor (dh f r true a (occR f r (tk zs))).1 ((gj f r true a).1)) b) 1=1)&&((!decide (pr=0))==decide (i64.wrap (b.tdiv f)=0)))=_
     rw[aF,iD,hk,cond_false,hz];rfl)))
  ·subst hb
   repeat (first|(first|refine ah ?_|refine sat_nd ?_)|refine ae (aG hc2 rfl) ?_|refine ae (aC ha0 ha1) ?_|refine ae (aC hb0 hb1) ?_|refine ae (nq hb0) ?_|refine ae (gR hf0) ?_)
   refine av (fun hz=>?_) (fun hz=>?_)
   ·have hz:(decide (zs.getD b.toNat 0=0)&&!decide (b=pa))=true:=hz
    repeat (first|(first|refine ah ?_|refine sat_nd ?_)|refine ae (aG hc2 rfl) ?_|refine ae (aC ha0 ha1) ?_|refine ae (aC hb0 hb1) ?_|refine ae (nq hb0) ?_|refine ae (gR hf0) ?_)
    exact ag (ai (.inr rfl) rfl rfl rfl (congrArg V.bool (by
     show (decide (uand (ushr (uor (dh f r false a (occR f r (tk zs))).1 (0)) b) 1=1)&&((!decide (pr=0))==decide (i64.wrap (b.tdiv f)=i64.wrap (r-1))))=_
     rw[aF,iD,hk,cond_false,hz];rfl)))
   ·have hz:(decide (zs.getD b.toNat 0=0)&&!decide (b=pa))=false:=hz
    repeat (first|(first|refine ah ?_|refine sat_nd ?_)|refine ae (aG hc2 rfl) ?_|refine ae (aC ha0 ha1) ?_|refine ae (aC hb0 hb1) ?_|refine ae (nq hb0) ?_|refine ae (gR hf0) ?_)
    exact ag (ai (.inr rfl) rfl rfl rfl (congrArg V.bool (by
     show (decide (uand (ushr (uor (dh f r false a (occR f r (tk zs))).1 ((gj f r false a).1)) b) 1=1)&&((!decide (pr=0))==decide (i64.wrap (b.tdiv f)=i64.wrap (r-1))))=_
     rw[aF,iD,hk,cond_false,hz];rfl)))
 ·cases e
def xd:CF
 |[.int .i64 at_],[]=>some (true,.int .u8 (JY at_),[])
 |_,_=>none
theorem Ag:CtOk (GGx true kDb) PP (116,xd):=by
 refine aB Tryz.func116 (by kernel_rfl) rfl fun a0 h0 c0 v0 N0 e hc=>?_
 unfold xd at e
 split at e
 ·rename_i at_
  cases e
  have hE:=cutE (aA (kCa:=true) (kDb:=kDb) (cts:=[]) (inl:=[]) trivial trivial)
  refine aq hE 2 Tryz.func116 rfl rfl ?_
  repeat (first|refine ah ?_|refine sat_nd ?_)
  refine dn hE 2 5 ?_
  refine rnd ?_
  refine bG hE 2 rfl (fun _=>?_) (fun h=>absurd h (by decide))
  repeat (first|refine ah ?_|refine sat_nd ?_)
  refine bE hE 2 (fun e tm hp=>e=.normal/\tm=[(0,I at_),(3,.int .u8 (dJ at_ 0 4 7 1)),(6,.agg [.int .u8 1,.lit false,.int .i64 4,.int .i64 6,.int .i64 7,.int .i64 5,.int .u8 2,.lit false,.int .i64 4,.int .i64 2,.int .i64 0,.int .i64 3,.int .u8 4,.lit true,.int .i64 60,.int .i64 62,.int .i64 63,.int .i64 61,.int .u8 8,.lit true,.int .i64 60,.int .i64 58,.int .i64 56,.int .i64 59]),(7,I 0)]/\hp=[]) rfl (fun h=>?_) (fun h=>?_) ?_
  ·have h:(decide (4=at_)||decide (7=at_))=true:=h
   exact ag ⟨_,_,Ent.ren [] [0,3,6,7] rfl rfl rfl,rfl,by rw[qE h],rfl⟩
  ·have h:(decide (4=at_)||decide (7=at_))=false:=h
   exact ag ⟨_,_,Ent.ren [] [0,3,6,7] rfl rfl rfl,rfl,by rw[qX h],rfl⟩
  rintro e tm hp ⟨rfl,rfl,rfl⟩
  refine ag ⟨[(0,I at_),(3,.int .u8 (dJ at_ 0 4 7 1)),(6,.agg [.int .u8 1,.lit false,.int .i64 4,.int .i64 6,.int .i64 7,.int .i64 5,.int .u8 2,.lit false,.int .i64 4,.int .i64 2,.int .i64 0,.int .i64 3,.int .u8 4,.lit true,.int .i64 60,.int .i64 62,.int .i64 63,.int .i64 61,.int .u8 8,.lit true,.int .i64 60,.int .i64 58,.int .i64 56,.int .i64 59]),(7,I 1)],[],Ent.ren [] [0,3,6,7] rfl rfl rfl,?_⟩
  refine rnd ?_
  refine bG hE 2 rfl (fun _=>?_) (fun h=>absurd h (by decide))
  repeat (first|refine ah ?_|refine sat_nd ?_)
  refine bE hE 2 (fun e tm hp=>e=.normal/\tm=[(0,I at_),(3,.int .u8 (dJ at_ (dJ at_ 0 4 7 1) 4 0 2)),(6,.agg [.int .u8 1,.lit false,.int .i64 4,.int .i64 6,.int .i64 7,.int .i64 5,.int .u8 2,.lit false,.int .i64 4,.int .i64 2,.int .i64 0,.int .i64 3,.int .u8 4,.lit true,.int .i64 60,.int .i64 62,.int .i64 63,.int .i64 61,.int .u8 8,.lit true,.int .i64 60,.int .i64 58,.int .i64 56,.int .i64 59]),(7,I 1)]/\hp=[]) rfl (fun h=>?_) (fun h=>?_) ?_
  ·have h:(decide (4=at_)||decide (0=at_))=true:=h
   exact ag ⟨_,_,Ent.ren [] [0,3,6,7] rfl rfl rfl,rfl,by rw[qE h],rfl⟩
  ·have h:(decide (4=at_)||decide (0=at_))=false:=h
   exact ag ⟨_,_,Ent.ren [] [0,3,6,7] rfl rfl rfl,rfl,by rw[qX h],rfl⟩
  rintro e tm hp ⟨rfl,rfl,rfl⟩
  refine ag ⟨[(0,I at_),(3,.int .u8 (dJ at_ (dJ at_ 0 4 7 1) 4 0 2)),(6,.agg [.int .u8 1,.lit false,.int .i64 4,.int .i64 6,.int .i64 7,.int .i64 5,.int .u8 2,.lit false,.int .i64 4,.int .i64 2,.int .i64 0,.int .i64 3,.int .u8 4,.lit true,.int .i64 60,.int .i64 62,.int .i64 63,.int .i64 61,.int .u8 8,.lit true,.int .i64 60,.int .i64 58,.int .i64 56,.int .i64 59]),(7,I 2)],[],Ent.ren [] [0,3,6,7] rfl rfl rfl,?_⟩
  refine rnd ?_
  refine bG hE 2 rfl (fun _=>?_) (fun h=>absurd h (by decide))
  repeat (first|refine ah ?_|refine sat_nd ?_)
  refine bE hE 2 (fun e tm hp=>e=.normal/\tm=[(0,I at_),(3,.int .u8 (dJ at_ (dJ at_ (dJ at_ 0 4 7 1) 4 0 2) 60 63 4)),(6,.agg [.int .u8 1,.lit false,.int .i64 4,.int .i64 6,.int .i64 7,.int .i64 5,.int .u8 2,.lit false,.int .i64 4,.int .i64 2,.int .i64 0,.int .i64 3,.int .u8 4,.lit true,.int .i64 60,.int .i64 62,.int .i64 63,.int .i64 61,.int .u8 8,.lit true,.int .i64 60,.int .i64 58,.int .i64 56,.int .i64 59]),(7,I 2)]/\hp=[]) rfl (fun h=>?_) (fun h=>?_) ?_
  ·have h:(decide (60=at_)||decide (63=at_))=true:=h
   exact ag ⟨_,_,Ent.ren [] [0,3,6,7] rfl rfl rfl,rfl,by rw[qE h],rfl⟩
  ·have h:(decide (60=at_)||decide (63=at_))=false:=h
   exact ag ⟨_,_,Ent.ren [] [0,3,6,7] rfl rfl rfl,rfl,by rw[qX h],rfl⟩
  rintro e tm hp ⟨rfl,rfl,rfl⟩
  refine ag ⟨[(0,I at_),(3,.int .u8 (dJ at_ (dJ at_ (dJ at_ 0 4 7 1) 4 0 2) 60 63 4)),(6,.agg [.int .u8 1,.lit false,.int .i64 4,.int .i64 6,.int .i64 7,.int .i64 5,.int .u8 2,.lit false,.int .i64 4,.int .i64 2,.int .i64 0,.int .i64 3,.int .u8 4,.lit true,.int .i64 60,.int .i64 62,.int .i64 63,.int .i64 61,.int .u8 8,.lit true,.int .i64 60,.int .i64 58,.int .i64 56,.int .i64 59]),(7,I 3)],[],Ent.ren [] [0,3,6,7] rfl rfl rfl,?_⟩
  refine rnd ?_
  refine bG hE 2 rfl (fun _=>?_) (fun h=>absurd h (by decide))
  repeat (first|refine ah ?_|refine sat_nd ?_)
  refine bE hE 2 (fun e tm hp=>e=.normal/\tm=[(0,I at_),(3,.int .u8 (dJ at_ (dJ at_ (dJ at_ (dJ at_ 0 4 7 1) 4 0 2) 60 63 4) 60 56 8)),(6,.agg [.int .u8 1,.lit false,.int .i64 4,.int .i64 6,.int .i64 7,.int .i64 5,.int .u8 2,.lit false,.int .i64 4,.int .i64 2,.int .i64 0,.int .i64 3,.int .u8 4,.lit true,.int .i64 60,.int .i64 62,.int .i64 63,.int .i64 61,.int .u8 8,.lit true,.int .i64 60,.int .i64 58,.int .i64 56,.int .i64 59]),(7,I 3)]/\hp=[]) rfl (fun h=>?_) (fun h=>?_) ?_
  ·have h:(decide (60=at_)||decide (56=at_))=true:=h
   exact ag ⟨_,_,Ent.ren [] [0,3,6,7] rfl rfl rfl,rfl,by rw[qE h],rfl⟩
  ·have h:(decide (60=at_)||decide (56=at_))=false:=h
   exact ag ⟨_,_,Ent.ren [] [0,3,6,7] rfl rfl rfl,rfl,by rw[qX h],rfl⟩
  rintro e tm hp ⟨rfl,rfl,rfl⟩
  refine ag ⟨[(0,I at_),(3,.int .u8 (dJ at_ (dJ at_ (dJ at_ (dJ at_ 0 4 7 1) 4 0 2) 60 63 4) 60 56 8)),(6,.agg [.int .u8 1,.lit false,.int .i64 4,.int .i64 6,.int .i64 7,.int .i64 5,.int .u8 2,.lit false,.int .i64 4,.int .i64 2,.int .i64 0,.int .i64 3,.int .u8 4,.lit true,.int .i64 60,.int .i64 62,.int .i64 63,.int .i64 61,.int .u8 8,.lit true,.int .i64 60,.int .i64 58,.int .i64 56,.int .i64 59]),(7,I 4)],[],Ent.ren [] [0,3,6,7] rfl rfl rfl,?_⟩
  refine rnd ?_
  refine bG hE 2 rfl (fun h=>absurd h (by decide)) (fun _=>?_)
  exact ag (ag (ai (.inr rfl) rfl rfl rfl rfl))
 ·cases e
end
end Go.Ab
namespace Go.Ab
open Go.Proofs
section
variable{kCa kDb:Bool}
end
section
variable{kCa kDb:Bool}
def ownL(p:Int)(bl:Bool):Bool:=!decide (p=0)&&(decide (p<0)==bl)
def rowN(bit:Int)(i:Nat):List UInt8:=bif decide (bit=1) then([[101,49],[103,49],[104,49],[102,49]]:List (List UInt8)).getD i []else bif decide (bit=2) then([[101,49],[99,49],[97,49],[100,49]]:List (List UInt8)).getD i []else bif decide (bit=4) then([[101,56],[103,56],[104,56],[102,56]]:List (List UInt8)).getD i [] else([[101,56],[99,56],[97,56],[100,56]]:List (List UInt8)).getD i []
def sqW(bit:Int)(i:Nat):Int:=cx 8 8 (rowN bit i)
theorem zM{bit:Int}{l:List (List UInt8)}(h:∀ i,rowN bit i=l.getD i []):[O.vals true 1 [[.str (rowN bit 0)],[.str (rowN bit 1)],[.str (rowN bit 2)],[.str (rowN bit 3)]]]=[O.vals true 1 [[.str (l.getD 0 [])],[.str (l.getD 1 [])],[.str (l.getD 2 [])],[.str (l.getD 3 [])]]]:=by rw[h,h,h,h]
def dF(zs l:List Int):Bool:=l.all fun i=>decide (zs.getD i.toNat 0=0)
def wu:CF
 |[.agg [.int .i64 f,.int .i64 r,.sl 0 0 len none,.bool bl,.int .u8 ca,.int .i64 pa,.int .i64 ha,.int .i64 fu]],[.ints false .i8 zs]=>some (decide (len=zs.length)&&decide (zs.length<=64),.agg [I f,I r,.sl 1 0 zs.length none,Bb bl,.int .u8 ca,I pa,I ha,I fu],[.ints true .i8 zs])
 |_,_=>none
theorem Am:CtOk (GGx kCa kDb) PP (15,wu):=by
 refine aB Tryz.func15 (by kernel_rfl) rfl fun a0 h0 c0 v0 N0 e hc=>?_
 unfold wu at e
 split at e
 ·rename_i f r len bl ca pa ha fu zs
  cases e
  have hE:=aA (kCa:=kCa) (kDb:=kDb) (cts:=[]) (inl:=[]) trivial trivial
  refine aq hE 2 Tryz.func15 rfl rfl ?_
  simp only[Bool.and_eq_true,decide_eq_true_eq]at hc
  obtain⟨rfl,hc2⟩:=hc
  repeat (first|(first|refine ah ?_|refine sat_nd ?_)|refine ae (aG hc2 rfl) ?_|refine ae (by simp;omega) ?_)
  exact ag (bV 3 (.inr rfl) rfl rfl rfl rfl (by show [O.ints true .i8 (tk zs)]=_;rw[aF]) (by show V.agg [I f,I r,.sl 1 0 (tk zs).length none,Bb bl,.int .u8 ca,I pa,I ha,I fu]=_;rw[aF]))
 ·cases e
def og:CF
 |[.agg [.int .i64 f,.int .i64 r],.agg [.int .i64 a,.int .i64 b,.int .i8 pr]],[]=>some (true,.bool (mvB f r a b pr),[])
 |_,_=>none
theorem sX:CtOk (GGx kCa kDb) PP (147,og):=by
 refine aB Tryz.func147 (by kernel_rfl) rfl fun a0 h0 c0 v0 N0 e hc=>?_
 unfold og at e
 split at e
 ·rename_i f r a b pr
  cases e
  have hE:=aA (kCa:=kCa) (kDb:=kDb) (cts:=[(84,oB)]) (inl:=[]) ⟨kR,trivial⟩ trivial
  refine aq hE 2 Tryz.func147 rfl rfl ?_
  repeat (first|refine ah ?_|refine sat_nd ?_)
  exact ag (ai (.inr rfl) rfl rfl rfl rfl)
 ·cases e
def Bw:CF
 |[.int .i8 p,.bool bl],[]=>some (true,.bool (ownL p bl),[])
 |_,_=>none
theorem ER:CtOk (GGx kCa kDb) PP (183,Bw):=by
 refine aB Tryz.func183 (by kernel_rfl) rfl fun a0 h0 c0 v0 N0 e hc=>?_
 unfold Bw at e
 split at e
 ·rename_i p bl
  cases e
  have hE:=aA (kCa:=kCa) (kDb:=kDb) (cts:=[]) (inl:=[]) trivial trivial
  refine aq hE 2 Tryz.func183 rfl rfl ?_
  repeat (first|refine ah ?_|refine sat_nd ?_)
  exact ag (ai (.inr rfl) rfl rfl rfl rfl)
 ·cases e
def gP:CF
 |[.str s],[]=>some (true,.int .i64 (cx 8 8 s),[])
 |_,_=>none
theorem gT:CtOk (GGx kCa kDb) PP (142,gP):=by
 refine aB Tryz.func142 (by kernel_rfl) rfl fun a0 h0 c0 v0 N0 e hc=>?_
 unfold gP at e
 split at e
 ·rename_i s
  cases e
  have hE:=aA (kCa:=kCa) (kDb:=kDb) (cts:=[(124,nZ)]) (inl:=[]) ⟨kj,trivial⟩ trivial
  refine aq hE 2 Tryz.func142 rfl rfl ?_
  repeat (first|refine ah ?_|refine sat_nd ?_)
  exact ag (ai (.inr rfl) rfl rfl rfl rfl)
 ·cases e
def uO:CF
 |[.int .u8 bit],[]=>some (true,.sl 0 0 4 none,[.vals true 1 [[.str (rowN bit 0)],[.str (rowN bit 1)],[.str (rowN bit 2)],[.str (rowN bit 3)]]])
 |_,_=>none
theorem nc:CtOk (GGx kCa kDb) PP (141,uO):=by
 refine aB Tryz.func141 (by kernel_rfl) rfl fun a0 h0 c0 v0 N0 e hc=>?_
 unfold uO at e
 split at e
 ·rename_i bit
  cases e
  have hE:=aA (kCa:=kCa) (kDb:=kDb) (cts:=[]) (inl:=[]) trivial trivial
  refine aq hE 2 Tryz.func141 rfl rfl ?_
  repeat (first|refine ah ?_|refine sat_nd ?_)
  refine av (fun h1=>?_) (fun h1=>?_)
  ·have h1:decide (bit=1)=true:=h1
   repeat (first|refine ah ?_|refine sat_nd ?_)
   exact ag (bV 0 (.inr rfl) rfl rfl rfl rfl (by rw[zM (l:=[[101,49],[103,49],[104,49],[102,49]]) (fun i=>by simp only[rowN,h1,cond_true])];rfl) rfl)
  have h1:decide (bit=1)=false:=h1
  refine av (fun h2=>?_) (fun h2=>?_)
  ·have h2:decide (bit=2)=true:=h2
   exact ag (bV 0 (.inr rfl) rfl rfl rfl rfl (by rw[zM (l:=[[101,49],[99,49],[97,49],[100,49]]) (fun i=>by simp only[rowN,h1,h2,cond_true,cond_false])];rfl) rfl)
  have h2:decide (bit=2)=false:=h2
  refine av (fun h3=>?_) (fun h3=>?_)
  ·have h3:decide (bit=4)=true:=h3
   exact ag (bV 0 (.inr rfl) rfl rfl rfl rfl (by rw[zM (l:=[[101,56],[103,56],[104,56],[102,56]]) (fun i=>by simp only[rowN,h1,h2,h3,cond_true,cond_false])];rfl) rfl)
  have h3:decide (bit=4)=false:=h3
  exact ag (bV 0 (.inr rfl) rfl rfl rfl rfl (by rw[zM (l:=[[101,56],[99,56],[97,56],[100,56]]) (fun i=>by simp only[rowN,h1,h2,h3,cond_false])];rfl) rfl)
 ·cases e
end
end Go.Ab
namespace Go.Ab
open IntKind
open Go.Proofs
section
variable{kCa kDb:Bool}
def wK(zs:List Int)(i:Int):Bool:=decide (0<=i)&&decide (i<zs.length)
def cgS(f r:Int)(zs:List Int)(bl:Bool)(ca a b bit:Int):Bool:=decide ((u8.wrap (ca.tdiv bit)).tmod 2=1)&&(decide (2<bit)==bl)&&decide (a=sqW bit 0)&&decide (b=sqW bit 1)&&dF zs (bT f r (sqW bit 0) (sqW bit 2))
def cgL(f r:Int)(zs:List Int)(bl:Bool)(ca a b pr:Int):Int:=bif !decide (aY (zs.getD a.toNat 0)=6)||!decide (pr=0)then 0 else bif cgS f r zs bl ca a b 1 then 1 else bif cgS f r zs bl ca a b 2 then 2 else bif cgS f r zs bl ca a b 4 then 4 else bif cgS f r zs bl ca a b 8 then 8 else 0
def pnL(f r:Int)(zs:List Int)(bl:Bool)(pa a b pr:Int):Bool:=bif !(decide (i64.wrap (b.tdiv f)=fW r bl)==!decide (pr=0))then false else bif hasL b (cy (cq f r bl a (occL zs)) id ((f*r).toNat))then true else hasL b (cy (ei f bl a) id ((f*r).toNat))&&(!decide (zs.getD b.toNat 0=0)||decide (b=pa))
def soL(f r:Int)(zs:List Int)(bl:Bool)(ca pa a b pr:Int):Bool:=bif ownL (zs.getD b.toNat 0) bl then false else bif decide (aY (zs.getD a.toNat 0)=1)then pnL f r zs bl pa a b pr else bif !decide (cgL f r zs bl ca a b pr=0)then true else decide (pr=0)&&bL f r (aY (zs.getD a.toNat 0)) a b (occL zs)
def capL(f r:Int)(zs:List Int)(pa a b:Int):Int:=bif decide (aY (zs.getD a.toNat 0)=1)&&decide (b=pa)then numR f r (b.tmod f) (i64.wrap (a.tdiv f))else bif !decide (zs.getD b.toNat 0=0)then b else -1
theorem bP{zs:List Int}{b:Int}{g:Bool}(h:0<=b)(h1:b<zs.length):(!g||(decide (0<=b)&&decide (b<zs.length)))=true:=by simp[h,h1]
theorem bR{zs:List Int}{b:Int}(h:0<=b)(h1:b<zs.length):(decide (0<=b)&&decide (b<zs.length))=true:=by simp[h,h1]
theorem bD{zs:List Int}{b:Int}(h:0<=b)(h1:b<zs.length):(decide (0<=b)&&decide (b<(tk zs).length))=true:=by rw[jh];simp[h,h1]
theorem sV{f r:Int}{zs:List Int}{ca bit:Int}(h:cU f r zs ca=true)(hb:bit=1\/bit=2\/bit=4\/bit=8)(h1:decide ((u8.wrap (ca.tdiv bit)).tmod 2=1)=true):iV f r zs bit=true:=by
 unfold cU at h
 cases h15:decide (15<ca) with
 |true=>rw[h15]at h;cases h
 |false=>
  rw[h15,cond_false]at h
  simp only[Bool.not_eq_true',Bool.or_eq_false_iff,rXL,Bool.and_eq_false_iff,Bool.not_eq_false']at h
  obtain⟨⟨⟨c1,c2⟩,c3⟩,c4⟩:=h
  rcases hb with rfl|rfl|rfl|rfl
  ·exact c1.resolve_left (by rw[h1];simp)
  ·exact c2.resolve_left (by rw[h1];simp)
  ·exact c3.resolve_left (by rw[h1];simp)
  ·exact c4.resolve_left (by rw[h1];simp)
theorem Du{f r:Int}{zs:List Int}{bit:Int}(h:iV f r zs bit=true):f=8/\r=8:=by
 unfold iV at h
 cases h8:(!decide (f=8)||!decide (r=8)) with
 |true=>rw[h8]at h;cases h
 |false=>simpa using h8
theorem bt_1:bT 8 8 (sqW 1 0) (sqW 1 2)=[5,6]:=by kernel_rfl
theorem bt_2:bT 8 8 (sqW 2 0) (sqW 2 2)=[3,2,1]:=by kernel_rfl
theorem bt_4:bT 8 8 (sqW 4 0) (sqW 4 2)=[61,62]:=by kernel_rfl
theorem bt_8:bT 8 8 (sqW 8 0) (sqW 8 2)=[59,58,57]:=by kernel_rfl
theorem mm{f r:Int}{zs:List Int}{ca bit:Int}{x y z:Bool}(_hc2:zs.length<=64)(hbd:aD f r zs=true)(h:cU f r zs ca=true)(hb:bit=1\/bit=2\/bit=4\/bit=8):(!(decide ((u8.wrap (ca.tdiv bit)).tmod 2=1)&&x&&y&&z)||(decide (zs.length=(tk zs).length)&&decide ((tk zs).length<=64)&&decide ((bT f r (sqW bit 0) (sqW bit 2)).length=(((gl f r (sqW bit 0) (sqW bit 2)).drop 0).take (bT f r (sqW bit 0) (sqW bit 2)).length).length)&&decide ((((gl f r (sqW bit 0) (sqW bit 2)).drop 0).take (bT f r (sqW bit 0) (sqW bit 2)).length).length<=1000)&&(((gl f r (sqW bit 0) (sqW bit 2)).drop 0).take (bT f r (sqW bit 0) (sqW bit 2)).length).all (wK (tk zs))))=true:=by
 rw[cw,aF]
 cases h1:decide ((u8.wrap (ca.tdiv bit)).tmod 2=1) with
 |false=>simp
 |true=>
  obtain⟨rfl,rfl⟩:=Du (sV h hb h1)
  have h64:=ur hbd rfl
  rcases hb with rfl|rfl|rfl|rfl
  ·rw[bt_1];simp[wK,h64]
  ·rw[bt_2];simp[wK,h64]
  ·rw[bt_4];simp[wK,h64]
  ·rw[bt_8];simp[wK,h64]
theorem MX{zs l:List Int}{j:Nat}(h:j<l.length):dF zs (l.drop j)=(decide (zs.getD (l.getD j 0).toNat 0=0)&&dF zs (l.drop (j+1))):=by
 rw[List.drop_eq_getElem_cons h,dF,List.all_cons]
 simp only[List.getD_eq_getElem?_getD,List.getElem?_eq_getElem h,Option.getD_some]
 rfl
def CT:CF
 |[.agg [.int .i64 _f,.int .i64 _r,.sl 0 0 len none,.bool _bl,.int .u8 _ca,.int .i64 _pa,.int .i64 _ha,.int .i64 _fu],.sl 1 0 ll none],[.ints false .i8 zs,.ints false .i64 l]=>some (decide (len=zs.length)&&decide (zs.length<=64)&&decide (ll=l.length)&&decide (l.length<=1000)&&l.all (wK zs),.bool (dF zs l),[])
 |_,_=>none
theorem Dj:CtOk (GGx kCa kDb) PP (163,CT):=by
 refine aB Tryz.func163 (by kernel_rfl) rfl fun a0 h0 c0 v0 N0 e hc=>?_
 unfold CT at e
 split at e
 ·rename_i f r len bl ca pa ha fu ll zs l
  cases e
  have hE:=aA (kCa:=kCa) (kDb:=kDb) (cts:=[]) (inl:=[]) trivial trivial
  refine aq hE 2 Tryz.func163 rfl rfl ?_
  simp only[Bool.and_eq_true,decide_eq_true_eq]at hc
  obtain⟨⟨⟨⟨rfl,hc2⟩,rfl⟩,hl⟩,hal⟩:=hc
  refine cC hE 2 (fun i (_:Unit)=>([(1,.sl 1 0 l.length none),(2,.ptr 2 0 0),(5,I i)],[.ints false .i8 zs,.ints false .i64 l,.cells true [I f,I r,.sl 0 0 zs.length none,Bb bl,.int .u8 ca,I pa,I ha,I fu]])) l.length (fun j _=>dF zs (l.drop j)=dF zs l) () (by omega) (Ent.ren [0,1,2] [1,2,5] rfl rfl rfl) rfl ?_
  intro j i _ hij hj hz
  refine av (fun hlt=>?_) (fun hlt=>?_)
  ·have hlt':j<l.length:=by simp at hlt;omega
   have hx:wK zs (l.getD i.toNat 0)=true:=by
    have:=List.all_eq_true.1 hal (l[j]) (List.getElem_mem hlt')
    rw[show i.toNat=j by omega,List.getD_eq_getElem?_getD,List.getElem?_eq_getElem hlt',Option.getD_some];exact this
   rw[MX hlt',show j=i.toNat by omega]at hz
   repeat (first|(first|refine ah ?_|refine sat_nd ?_)|refine ae (by simp only[Bool.and_eq_true,decide_eq_true_eq];omega) ?_|refine ae hx ?_)
   refine av (fun hon=>?_) (fun hon=>?_)
   ·have hon:(!decide (zs.getD (l.getD i.toNat 0).toNat 0=0))=true:=hon
    rw[Bool.not_eq_true']at hon
    rw[hon,Bool.false_and]at hz
    exact ag (ag (ai (.inr rfl) rfl rfl rfl (by rw[<-hz])))
   ·have hon:(!decide (zs.getD (l.getD i.toNat 0).toNat 0=0))=false:=hon
    rw[Bool.not_eq_false']at hon
    rw[hon,Bool.true_and]at hz
    exact ag ⟨hlt',(),by rw[<-hz,show i.toNat=j by omega],Ent.ren [0,1,2] [1,2,5] rfl rfl rfl⟩
  ·obtain rfl:j=l.length:=by simp at hlt;omega
   rw[List.drop_length]at hz
   exact ag (ag (ai (.inr rfl) rfl rfl rfl (by rw[<-hz];rfl)))
 ·cases e
def tq:CF
 |[.agg [.int .i64 f,.int .i64 r,.sl 0 0 len none,.bool bl,.int .u8 ca,.int .i64 _pa,.int .i64 _ha,.int .i64 _fu],.agg [.int .i64 a,.int .i64 b,.int .i8 pr]],[.ints false .i8 zs]=>some (decide (len=zs.length)&&decide (zs.length<=64)&&(aD f r zs&&cU f r zs ca&&aj f r a&&aj f r b),.int .u8 (cgL f r zs bl ca a b pr),[])
 |_,_=>none
theorem mT:CtOk (GGx kCa kDb) PP (140,tq):=by
 refine aB Tryz.func140 (by kernel_rfl) rfl fun a0 h0 c0 v0 N0 e hc=>?_
 unfold tq at e
 split at e
 ·rename_i f r len bl ca pa ha fu a b pr zs
  cases e
  have hE:=aA (kCa:=kCa) (kDb:=kDb) (cts:=[(38,fk),(141,uO),(142,gP),(164,jc),(163,CT)]) (inl:=[]) ⟨dR,nc,gT,lJ,Dj,trivial⟩ trivial
  refine aq hE 2 Tryz.func140 rfl rfl ?_
  simp only[Bool.and_eq_true,decide_eq_true_eq]at hc
  obtain⟨⟨rfl,hc2⟩,⟨⟨hbd,hcs⟩,hva⟩,hvb⟩:=hc
  have hvs:=(bh hbd).1
  obtain⟨ha0,ha1⟩:=(bQ hbd).1 hva
  obtain⟨hb0,hb1⟩:=(bQ hbd).1 hvb
  have hf0:(!decide (f=0))=true:=by have:=cY hvs;simp;omega
  have hf1:∀ g:Bool,(!g||!decide (f=0))=true:=fun g=>by rw[hf0];simp
  repeat (first|(first|refine ah ?_|refine sat_nd ?_)|refine ae (bR ha0 ha1) ?_|refine ae (bR hb0 hb1) ?_|refine ae (bP ha0 ha1) ?_|refine ae (bP hb0 hb1) ?_|refine ae hf0 ?_|refine ae (hf1 _) ?_|refine ae (aG hc2 rfl) ?_|refine ae (cj hc2 rfl) ?_)
  refine av (fun h=>?_) (fun h=>?_)
  ·have h:(!decide (aY (zs.getD a.toNat 0)=6)||!decide (pr=0))=true:=h
   exact ag (ai (.inr rfl) rfl rfl rfl (by rw[cgL,h];rfl))
  have h:(!decide (aY (zs.getD a.toNat 0)=6)||!decide (pr=0))=false:=h
  repeat (first|refine ah ?_|refine sat_nd ?_)
  refine dn hE 2 5 ?_
  refine rnd ?_
  refine cN (by rfl) ?_
  repeat (first|(first|refine ah ?_|refine sat_nd ?_)|refine ae (hf1 _) ?_|refine ae (mm (bit:=1) hc2 hbd hcs (by simp)) ?_)
  refine av (fun h0=>?_) (fun h0=>?_)
  ·have h0:(decide ((u8.wrap (ca.tdiv 1)).tmod 2=1)&&(decide (2<(1:Int))==bl)&&decide (a=sqW 1 0)&&decide (b=sqW 1 1)&&dF (tk zs) (((gl f r (sqW 1 0) (sqW 1 2)).drop 0).take (bT f r (sqW 1 0) (sqW 1 2)).length))=true:=h0
   rw[aF,cw]at h0
   have h0:cgS f r zs bl ca a b 1=true:=h0
   exact ag (ag (ai (.inr rfl) rfl rfl rfl (by simp only[cgL,h,h0,cond_true,cond_false];rfl)))
  have h0:(decide ((u8.wrap (ca.tdiv 1)).tmod 2=1)&&(decide (2<(1:Int))==bl)&&decide (a=sqW 1 0)&&decide (b=sqW 1 1)&&dF (tk zs) (((gl f r (sqW 1 0) (sqW 1 2)).drop 0).take (bT f r (sqW 1 0) (sqW 1 2)).length))=false:=h0
  rw[aF,cw]at h0
  have h0:cgS f r zs bl ca a b 1=false:=h0
  refine ag ⟨[(2,.ptr 1 0 0),(3,.ptr 2 0 0),(21,.sl 3 0 4 none),(22,I 4),(23,I 1)],[.ints false .i8 zs,.cells true [I f,I r,.sl 0 0 zs.length none,Bb bl,.int .u8 ca,I pa,I ha,I fu],.cells true [I a,I b,.int .i8 pr],.ints true .u8 [1,2,4,8]],Ent.ren [0,1,2,3] [2,3,21,22,23] rfl rfl rfl,?_⟩
  refine rnd ?_
  refine cN (by rfl) ?_
  repeat (first|(first|refine ah ?_|refine sat_nd ?_)|refine ae (hf1 _) ?_|refine ae (mm (bit:=2) hc2 hbd hcs (by simp)) ?_)
  refine av (fun h1=>?_) (fun h1=>?_)
  ·have h1:(decide ((u8.wrap (ca.tdiv 2)).tmod 2=1)&&(decide (2<(2:Int))==bl)&&decide (a=sqW 2 0)&&decide (b=sqW 2 1)&&dF (tk zs) (((gl f r (sqW 2 0) (sqW 2 2)).drop 0).take (bT f r (sqW 2 0) (sqW 2 2)).length))=true:=h1
   rw[aF,cw]at h1
   have h1:cgS f r zs bl ca a b 2=true:=h1
   exact ag (ag (ai (.inr rfl) rfl rfl rfl (by simp only[cgL,h,h0,h1,cond_true,cond_false];rfl)))
  have h1:(decide ((u8.wrap (ca.tdiv 2)).tmod 2=1)&&(decide (2<(2:Int))==bl)&&decide (a=sqW 2 0)&&decide (b=sqW 2 1)&&dF (tk zs) (((gl f r (sqW 2 0) (sqW 2 2)).drop 0).take (bT f r (sqW 2 0) (sqW 2 2)).length))=false:=h1
  rw[aF,cw]at h1
  have h1:cgS f r zs bl ca a b 2=false:=h1
  refine ag ⟨[(2,.ptr 1 0 0),(3,.ptr 2 0 0),(21,.sl 3 0 4 none),(22,I 4),(23,I 2)],[.ints false .i8 zs,.cells true [I f,I r,.sl 0 0 zs.length none,Bb bl,.int .u8 ca,I pa,I ha,I fu],.cells true [I a,I b,.int .i8 pr],.ints true .u8 [1,2,4,8]],Ent.ren [0,1,2,3] [2,3,21,22,23] rfl rfl rfl,?_⟩
  refine rnd ?_
  refine cN (by rfl) ?_
  repeat (first|(first|refine ah ?_|refine sat_nd ?_)|refine ae (hf1 _) ?_|refine ae (mm (bit:=4) hc2 hbd hcs (by simp)) ?_)
  refine av (fun h2=>?_) (fun h2=>?_)
  ·have h2:(decide ((u8.wrap (ca.tdiv 4)).tmod 2=1)&&(decide (2<(4:Int))==bl)&&decide (a=sqW 4 0)&&decide (b=sqW 4 1)&&dF (tk zs) (((gl f r (sqW 4 0) (sqW 4 2)).drop 0).take (bT f r (sqW 4 0) (sqW 4 2)).length))=true:=h2
   rw[aF,cw]at h2
   have h2:cgS f r zs bl ca a b 4=true:=h2
   exact ag (ag (ai (.inr rfl) rfl rfl rfl (by simp only[cgL,h,h0,h1,h2,cond_true,cond_false];rfl)))
  have h2:(decide ((u8.wrap (ca.tdiv 4)).tmod 2=1)&&(decide (2<(4:Int))==bl)&&decide (a=sqW 4 0)&&decide (b=sqW 4 1)&&dF (tk zs) (((gl f r (sqW 4 0) (sqW 4 2)).drop 0).take (bT f r (sqW 4 0) (sqW 4 2)).length))=false:=h2
  rw[aF,cw]at h2
  have h2:cgS f r zs bl ca a b 4=false:=h2
  refine ag ⟨[(2,.ptr 1 0 0),(3,.ptr 2 0 0),(21,.sl 3 0 4 none),(22,I 4),(23,I 3)],[.ints false .i8 zs,.cells true [I f,I r,.sl 0 0 zs.length none,Bb bl,.int .u8 ca,I pa,I ha,I fu],.cells true [I a,I b,.int .i8 pr],.ints true .u8 [1,2,4,8]],Ent.ren [0,1,2,3] [2,3,21,22,23] rfl rfl rfl,?_⟩
  refine rnd ?_
  refine cN (by rfl) ?_
  repeat (first|(first|refine ah ?_|refine sat_nd ?_)|refine ae (hf1 _) ?_|refine ae (mm (bit:=8) hc2 hbd hcs (by simp)) ?_)
  refine av (fun h3=>?_) (fun h3=>?_)
  ·have h3:(decide ((u8.wrap (ca.tdiv 8)).tmod 2=1)&&(decide (2<(8:Int))==bl)&&decide (a=sqW 8 0)&&decide (b=sqW 8 1)&&dF (tk zs) (((gl f r (sqW 8 0) (sqW 8 2)).drop 0).take (bT f r (sqW 8 0) (sqW 8 2)).length))=true:=h3
   rw[aF,cw]at h3
   have h3:cgS f r zs bl ca a b 8=true:=h3
   exact ag (ag (ai (.inr rfl) rfl rfl rfl (by simp only[cgL,h,h0,h1,h2,h3,cond_true,cond_false];rfl)))
  have h3:(decide ((u8.wrap (ca.tdiv 8)).tmod 2=1)&&(decide (2<(8:Int))==bl)&&decide (a=sqW 8 0)&&decide (b=sqW 8 1)&&dF (tk zs) (((gl f r (sqW 8 0) (sqW 8 2)).drop 0).take (bT f r (sqW 8 0) (sqW 8 2)).length))=false:=h3
  rw[aF,cw]at h3
  have h3:cgS f r zs bl ca a b 8=false:=h3
  refine ag ⟨[(2,.ptr 1 0 0),(3,.ptr 2 0 0),(21,.sl 3 0 4 none),(22,I 4),(23,I 4)],[.ints false .i8 zs,.cells true [I f,I r,.sl 0 0 zs.length none,Bb bl,.int .u8 ca,I pa,I ha,I fu],.cells true [I a,I b,.int .i8 pr],.ints true .u8 [1,2,4,8]],Ent.ren [0,1,2,3] [2,3,21,22,23] rfl rfl rfl,?_⟩
  refine rnd ?_
  refine tM (by rfl) ?_
  exact ag (ag (ai (.inr rfl) rfl rfl rfl (by simp only[cgL,h,h0,h1,h2,h3,cond_false])))
 ·cases e
def BK:CF
 |[.agg [.int .i64 f,.int .i64 r,.sl 0 0 len none,.bool _bl,.int .u8 ca,.int .i64 pa,.int .i64 _ha,.int .i64 _fu],.agg [.int .i64 a,.int .i64 b,.int .i8 _pr]],[.ints false .i8 zs]=>some (decide (len=zs.length)&&decide (zs.length<=64)&&(aD f r zs&&cU f r zs ca&&aj f r a&&aj f r b),.int .i64 (capL f r zs pa a b),[])
 |_,_=>none
theorem Cn:CtOk (GGx kCa kDb) PP (138,BK):=by
 refine aB Tryz.func138 (by kernel_rfl) rfl fun a0 h0 c0 v0 N0 e hc=>?_
 unfold BK at e
 split at e
 ·rename_i f r len bl ca pa ha fu a b pr zs
  cases e
  have hE:=aA (kCa:=kCa) (kDb:=kDb) (cts:=[(38,fk),(39,dB),(86,gk)]) (inl:=[]) ⟨dR,cg,eM,trivial⟩ trivial
  refine aq hE 2 Tryz.func138 rfl rfl ?_
  simp only[Bool.and_eq_true,decide_eq_true_eq]at hc
  obtain⟨⟨rfl,hc2⟩,⟨⟨hbd,hcs⟩,hva⟩,hvb⟩:=hc
  have hvs:=(bh hbd).1
  obtain⟨ha0,ha1⟩:=(bQ hbd).1 hva
  obtain⟨hb0,hb1⟩:=(bQ hbd).1 hvb
  have hf0:(!decide (f=0))=true:=by have:=cY hvs;simp;omega
  have hf1:∀ g:Bool,(!g||!decide (f=0))=true:=fun g=>by rw[hf0];simp
  repeat (first|(first|refine ah ?_|refine sat_nd ?_)|refine ae (bR ha0 ha1) ?_|refine ae (bR hb0 hb1) ?_|refine ae (bP ha0 ha1) ?_|refine ae (bP hb0 hb1) ?_|refine ae hf0 ?_|refine ae (hf1 _) ?_|refine ae (aG hc2 rfl) ?_|refine ae (cj hc2 rfl) ?_)
  refine av (fun h=>?_) (fun h=>?_)
  ·have h:(decide (aY (zs.getD a.toNat 0)=1)&&decide (b=pa))=true:=h
   repeat (first|(first|refine ah ?_|refine sat_nd ?_)|refine ae (bR ha0 ha1) ?_|refine ae (bR hb0 hb1) ?_|refine ae (bP ha0 ha1) ?_|refine ae (bP hb0 hb1) ?_|refine ae hf0 ?_|refine ae (hf1 _) ?_|refine ae (aG hc2 rfl) ?_|refine ae (cj hc2 rfl) ?_)
   exact ag (ai (.inr rfl) rfl rfl rfl (by rw[capL,h];rfl))
  have h:(decide (aY (zs.getD a.toNat 0)=1)&&decide (b=pa))=false:=h
  repeat (first|(first|refine ah ?_|refine sat_nd ?_)|refine ae (bR ha0 ha1) ?_|refine ae (bR hb0 hb1) ?_|refine ae (bP ha0 ha1) ?_|refine ae (bP hb0 hb1) ?_|refine ae hf0 ?_|refine ae (hf1 _) ?_|refine ae (aG hc2 rfl) ?_|refine ae (cj hc2 rfl) ?_)
  refine av (fun h2=>?_) (fun h2=>?_)
  ·have h2:(!decide (zs.getD b.toNat 0=0))=true:=h2
   exact ag (ai (.inr rfl) rfl rfl rfl (by rw[capL,h,h2];rfl))
  ·have h2:(!decide (zs.getD b.toNat 0=0))=false:=h2
   exact ag (ai (.inr rfl) rfl rfl rfl (by rw[capL,h,h2];rfl))
 ·cases e
end
end Go.Ab
namespace Go.Ab
open Go.Proofs Go.RowKit
section
variable{kCa kDb:Bool}
theorem CM(b:Bool)(k:IntKind)(e:Int):kX PP 110 [.bool b,.int k e] b (.iface 30 (.int k e)):=by
 refine⟨fun us w=>?_,fun ρ us w n hus=>?_⟩
 ·simp only[invoke]
  simp
 ·obtain⟨u1,r1,rfl,h1,u2,r2,rfl,h2,rfl⟩:=hus
  have h1:u1=.bool b:=h1
  have h2:u2=.int k e:=h2
  subst h1;subst h2
  refine callsIn_of_wp_marks Tryz.func110 rfl trivial ?_
  refine wpIn_seq (wpIn_region ?_)
  have hr:(Fr none).round=none:=rfl
  cases b with
  |false=>
   simp[wpOpsIn,go_sem,Exit.then,hr,Oper.semAt_none,Oper.uponIn]
   refine wpIn_cond_false (by simp[Act.eval,Array.replicate]) (wpIn_skip ?_)
   exact⟨_,by simp[results,Tryz.results110],Below.refl _ w,_,rfl,fun ρ=>⟨[],rfl,rfl⟩⟩
  |true=>
   simp[wpOpsIn,go_sem,Exit.then,hr,Oper.semAt_none,Oper.uponIn]
   refine wpIn_cond_true (by simp[Act.eval,Array.replicate]) (wpIn_region ?_)
   simp[wpOpsIn,go_sem,hr,Oper.semAt_none,Oper.uponIn,Instr.panic]
   exact⟨Below.refl _ w,rfl⟩
theorem uC(b:Nat)(hp:List O)(k:Nat):mD (GGx kCa kDb) PP ⟨109,[],[.ptr b 0 k]⟩ .returning .returning hp fun hp'=>hp'=hp:=by
 refine⟨ent Tryz.func109 (by kernel_rfl) rfl,fun B w0 gs ρ w us n hh hbel hB hgs hus=>?_⟩
 obtain⟨u1,r1,rfl,h1,rfl⟩:=hus
 refine callsDIn_of_wpSIn Tryz.func109 rfl trivial fun c₀ cs hu=>?_
 apply wpSIn_seq
 apply wpSIn_region
 simp[wpOpsSIn,go_sem,recoverD,hu,Exit.thenS]
 have hr:(Fr none).round=none:=rfl
 refine wpSIn_of_wpIn rfl (wpIn_seq (wpIn_region ?_))
 simp[wpOpsIn,go_sem,Exit.then,hr,Oper.semAt_none,Oper.uponIn]
 refine wpIn_block (wpIn_seq (wpIn_region ?_))
 simp[wpOpsIn,go_sem,Exit.then,hr,Oper.semAt_none,Oper.uponIn]
 refine wpIn_cond_true (by simp[Act.eval,Array.replicate]) (wpIn_skip ?_)
 have hc:c₀={ c₀ with mode:=.returning }:=by cases c₀;simp_all
 refine⟨rfl,.returning,?_,.tuple #[],by simp[results,Tryz.results109],rfl,⟨_,rfl⟩,hp,ρ,hh,Ren.le_refl _,hbel,hgs,rfl⟩
 rw[<-hc]
theorem Bg{hp:List O}{b:Nat}{v0:V}{n:Int}{ρ:Ren}{B:Nat}{w:World}(hh:HR (GGx kCa kDb) B ρ hp w)(hb:hp.getD b .gone=.cells true [v0]){u:Value}(hu:VR ρ (.ptr b 0 0) u) :
  ∃ w',(Instr.storeAt 30 u (.int .i64 n)).run PP w=.ok () w'/\HR (GGx kCa kDb) B ρ (hp.set b (.cells true [.int .i64 n])) w'/\Below B w w'/\KeepsOthers w w':=by
 have hE:=aA (kCa:=kCa) (kDb:=kDb) (cts:=[]) (inl:=[]) trivial trivial
 have hlt:b<ax:=by
  have:=mK (l:=hp) (b:=b) (by rw[hb];simp)
  have:=hh.small
  omega
 have hble:Nat.ble ax b=false:=by
  cases h:Nat.ble ax b with
  |false=>rfl
  |true=>have:=Nat.le_of_ble_eq_true h;omega
 have ht:TR ρ [(0,.ptr b 0 0),(1,.int .i64 n)] { tmps:=#[u,.int .i64 n],defers:=[] }:=by
  intro t
  rw[bj]
  by_cases h0:0=t
  ·subst h0;simpa using hu
  ·rw[if_neg h0,bj]
   by_cases h1:1=t
   ·subst h1;rw[if_pos rfl];exact rfl
   ·rw[if_neg h1];trivial
 have he:evOp (EE kCa kDb [] []) [(0,.ptr b 0 0),(1,.int .i64 n)] hp (.store 30 (.tmp 0) (.tmp 1))=.store b (.cells true [.int .i64 n]):=by
  show (match Nat.ble ax b with|true=>R.bad|false=>match stO (hp.getD b .gone) 0 0 (.int .i64 n) 1 with|some o=>R.store b o|none=>R.bad)=_
  rw[hble,hb]
  rfl
 obtain⟨w',h1,h2,h3,h4⟩:=iv (P:=PP) (o:=⟨none,.store 30 (.tmp 0) (.tmp 1),0, "",#[],none⟩) hE.ok hh ht he
 refine⟨w',?_,h2,h3,h4⟩
 have h1:(do Instr.storeAt 30 u (.int .i64 n);pure Next.skip:Sem Next).run PP w=.ok .skip w':=h1
 simp only[Sem.run_bind]at h1
 cases hx:(Instr.storeAt 30 u (.int .i64 n)).run PP w with
 |ok a w2=>rw[hx]at h1;simp at h1;rw[h1]
 |halt s w2=>rw[hx]at h1;simp[Result.andThen]at h1
theorem GK(v:Value)(w:World):(Instr.typeAssert (.iface 30 v) 20 30 true).run PP w=.ok (.tuple #[v,.bool true]) w:=by kernel_rfl
theorem jl{b:Nat}{hp:List O}{v0:V}{n0:Int}(hb:hp.getD b .gone=.cells true [v0]):mD (GGx kCa kDb) PP ⟨109,[],[.ptr b 0 0]⟩ (.panicking [{ v:=.iface 30 (.int .i64 n0),recovered:=false }]) (.panicking [{ v:=.iface 30 (.int .i64 n0),recovered:=true }]) hp fun hp'=>hp'=hp.set b (.cells true [.int .i64 n0]):=by
 refine⟨ent Tryz.func109 (by kernel_rfl) rfl,fun B w0 gs ρ w us n hh hbel hB hgs hus=>?_⟩
 obtain⟨u1,r1,rfl,h1,rfl⟩:=hus
 have hu1:=h1
 obtain⟨w',hrun,h2,h3,h4⟩:=Bg (n:=n0) hh hb h1
 obtain⟨rg,_,_,_,rfl⟩:=h1
 refine callsDIn_of_wpSIn Tryz.func109 rfl trivial fun c₀ cs hu=>?_
 apply wpSIn_seq
 apply wpSIn_region
 simp[wpOpsSIn,go_sem,recoverD,hu,Exit.thenS]
 have hr:(Fr none).round=none:=rfl
 refine wpSIn_of_wpIn rfl (wpIn_seq (wpIn_region ?_))
 simp[wpOpsIn,go_sem,Exit.then,hr,Oper.semAt_none,Oper.uponIn]
 refine wpIn_block (wpIn_seq (wpIn_region ?_))
 simp[wpOpsIn,go_sem,Exit.then,hr,Oper.semAt_none,Oper.uponIn]
 refine wpIn_cond_false (by simp[Act.eval,Array.replicate]) (wpIn_seq (wpIn_region ?_))
 simp[wpOpsIn,go_sem,Exit.then,hr,Oper.semAt_none,Oper.uponIn,GK]
 refine wpIn_seq (wpIn_seq (wpIn_region ?_))
 simp[wpOpsIn,go_sem,Exit.then,hr,Oper.semAt_none,Oper.uponIn]
 refine wpIn_cond_false (by simp[Act.eval,Array.replicate]) (wpIn_skip ?_)
 refine wpIn_region ?_
 simp[go_sem]at hrun
 simp[wpOpsIn,go_sem,hr,Oper.semAt_none,Oper.uponIn,hrun]
 exact⟨rfl,.panicking [{ v:=.iface 30 (.int .i64 n0),recovered:=true }],rfl,.tuple #[],by simp[results,Tryz.results109],rfl,⟨_,rfl⟩,_,ρ,h2,Ren.le_refl _,hbel.trans h3,hgs.keeps h4,rfl⟩
end
end Go.Ab
namespace Go.Ab
open Go.Proofs
open Go.Proofs
end Go.Ab
