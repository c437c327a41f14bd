/- Contracts of the functions that the laws reach, and plain laws of what they compute (text G9); no condition. -/
import Derived.Test.YtcmhemipmmckoaaGreatDoorG8
import Derived.Test.YtcmhemipmmckoaaGreatDoorG4
import Derived.Test.YtcmhemipmmckoaaGreatDoorG6
set_option maxRecDepth 100000
namespace Go.Ab
open Go.Proofs
section
variable{kCa kDb:Bool}
def okP(p:Int):Bool:=decide (-15<=p)&&decide (p<=15)
def orP(p:Int):Bool:=!decide (p=0)&&decide (-6<=p)&&decide (p<=6)
def badP(p:Int):Bool:=!okP p
def norP(p:Int):Bool:=!decide (p=0)&&!orP p
def posP(p:Int):Bool:=decide (0<p)
def negP(p:Int):Bool:=decide (p<0)
def cntR(f r:Int):Int×Int:=bif vsB f r then(IntKind.i64.wrap (f*r),0) else(0,2)
def cP(p:Int->Bool):List Int->Int->Int
 |[],_=>-1
 |x::l,k=>bif p x then k else cP p l (k+1)
theorem rG(p:Int->Bool):∀ (l:List Int) (k:Int),0<=k->decide (0<=cP p l k)=l.any p
 |[],k,_=>rfl
 |x::l,k,hk=>by
  rw[cP,List.any_cons]
  cases p x with
  |true=>simp[hk]
  |false=>rw[cond_false,Bool.false_or];exact rG p l (k+1) (by omega)
theorem qU{p:Int->Bool}{l:List Int}{i:Nat}{k:Int}(h:i<l.length):cP p (l.drop i) k=bif p (l.getD i 0)then k else cP p (l.drop (i+1)) (k+1):=by
 rw[List.drop_eq_getElem_cons h,cP];simp[List.getD,h]
def gG(p:Int->Bool)(zs:List Int)(s i:Int):Int:=bif p (zs.getD i.toNat 0)then uor s (ushl 1 i)else s
def eZ(p:Int->Bool)(zs:List Int):Int:=jD (gG p zs) 0 zs.length
def aC(f r:Int)(zs:List Int):Bool:=decide ((cntR f r).2=0)&&decide ((zs.length:Int)=(cntR f r).1)&&!(zs.any badP)
def aW(f r:Int)(zs:List Int):Bool:=aC f r zs&&!(zs.any norP)
def eO(f r:Int)(zs:List Int):Int×Int×Int:=bif aC f r zs then(eZ posP zs,eZ negP zs,0) else(0,0,2)
def occR(f r:Int)(zs:List Int):Int:=uor (eO f r zs).1 (eO f r zs).2.1
def vS:CF
 |[.agg [.int .i64 f,.int .i64 r]],[]=>some (true,.tup [I (cntR f r).1,I (cntR f r).2],[])
 |_,_=>none
theorem Ah:CtOk (GGx kCa kDb) PP (126,vS):=by
 refine aD Tryz.func126 (by kernel_rfl) rfl fun a0 h0 c0 v0 N0 e hc=>?_
 unfold vS at e
 split at e
 ·rename_i f r
  cases e
  have hE:=aA (kCa:=kCa) (kDb:=kDb) (cts:=[(146,c_vs)]) (inl:=[]) ⟨kX,trivial⟩ trivial
  refine aq hE 2 Tryz.func126 rfl rfl ?_
  repeat' first|(first|refine ah ?_|refine sat_nd ?_)|refine av (fun h=>?_) (fun h=>?_)
  all_goals exact ag (ai (.inr rfl) rfl rfl rfl (by first|rfl|(simp only[cntR, *];done)|(simp only[cntR, *];done)|simp_all [cntR]))
 ·cases e
def Ek:CF
 |[.int .i8 p],[]=>some (true,.bool (okP p),[])
 |_,_=>none
theorem CE:CtOk (GGx kCa kDb) PP (129,Ek):=by
 refine aD Tryz.func129 (by kernel_rfl) rfl fun a0 h0 c0 v0 N0 e hc=>?_
 unfold Ek at e
 split at e
 ·rename_i p
  cases e
  have hE:=aA (kCa:=kCa) (kDb:=kDb) (cts:=[]) (inl:=[]) trivial trivial
  refine aq hE 2 Tryz.func129 rfl rfl ?_
  repeat' first|(first|refine ah ?_|refine sat_nd ?_)|refine av (fun h=>?_) (fun h=>?_)
  all_goals exact ag (ai (.inr rfl) rfl rfl rfl (by first|rfl|(simp only[*,cond_true,cond_false];done)|(simp only[*,cond_true,cond_false,Bool.not_true,Bool.not_false,Bool.and_true,Bool.true_and,Bool.and_false,Bool.false_and,Bool.or_true,Bool.true_or,Bool.or_false,Bool.false_or];done)|simp_all []))
 ·cases e
def wQ:CF
 |[.int .i8 p],[]=>some (true,.bool (orP p),[])
 |_,_=>none
theorem AM:CtOk (GGx kCa kDb) PP (145,wQ):=by
 refine aD Tryz.func145 (by kernel_rfl) rfl fun a0 h0 c0 v0 N0 e hc=>?_
 unfold wQ at e
 split at e
 ·rename_i p
  cases e
  have hE:=aA (kCa:=kCa) (kDb:=kDb) (cts:=[]) (inl:=[]) trivial trivial
  refine aq hE 2 Tryz.func145 rfl rfl ?_
  repeat' first|(first|refine ah ?_|refine sat_nd ?_)|refine av (fun h=>?_) (fun h=>?_)
  all_goals exact ag (ai (.inr rfl) rfl rfl rfl (by first|rfl|(simp only[*,cond_true,cond_false];done)|(simp only[*,cond_true,cond_false,Bool.not_true,Bool.not_false,Bool.and_true,Bool.true_and,Bool.and_false,Bool.false_and,Bool.or_true,Bool.true_or,Bool.or_false,Bool.false_or];done)|simp_all []))
 ·cases e
def GA:CF
 |[.int .i8 p],[]=>some (true,.bool (badP p),[])
 |_,_=>none
theorem yK:CtOk (GGx kCa kDb) PP (128,GA):=by
 refine aD Tryz.func128 (by kernel_rfl) rfl fun a0 h0 c0 v0 N0 e hc=>?_
 unfold GA at e
 split at e
 ·rename_i p
  cases e
  have hE:=aA (kCa:=kCa) (kDb:=kDb) (cts:=[(129,Ek)]) (inl:=[]) ⟨CE,trivial⟩ trivial
  refine aq hE 2 Tryz.func128 rfl rfl ?_
  repeat' first|(first|refine ah ?_|refine sat_nd ?_)|refine av (fun h=>?_) (fun h=>?_)
  all_goals exact ag (ai (.inr rfl) rfl rfl rfl (by first|rfl|(simp only[*,cond_true,cond_false];done)|(simp only[*,cond_true,cond_false,Bool.not_true,Bool.not_false,Bool.and_true,Bool.true_and,Bool.and_false,Bool.false_and,Bool.or_true,Bool.true_or,Bool.or_false,Bool.false_or];done)|simp_all []))
 ·cases e
def Hq:CF
 |[.int .i8 p],[]=>some (true,.bool (norP p),[])
 |_,_=>none
theorem zA:CtOk (GGx kCa kDb) PP (144,Hq):=by
 refine aD Tryz.func144 (by kernel_rfl) rfl fun a0 h0 c0 v0 N0 e hc=>?_
 unfold Hq at e
 split at e
 ·rename_i p
  cases e
  have hE:=aA (kCa:=kCa) (kDb:=kDb) (cts:=[(145,wQ)]) (inl:=[]) ⟨AM,trivial⟩ trivial
  refine aq hE 2 Tryz.func144 rfl rfl ?_
  repeat' first|(first|refine ah ?_|refine sat_nd ?_)|refine av (fun h=>?_) (fun h=>?_)
  all_goals exact ag (ai (.inr rfl) rfl rfl rfl (by first|rfl|(simp only[*,cond_true,cond_false];done)|(simp only[*,cond_true,cond_false,Bool.not_true,Bool.not_false,Bool.and_true,Bool.true_and,Bool.and_false,Bool.false_and,Bool.or_true,Bool.true_or,Bool.or_false,Bool.false_or];done)|simp_all []))
 ·cases e
def Hi:CF
 |[.int .i8 p],[]=>some (true,.bool (posP p),[])
 |_,_=>none
theorem yO:CtOk (GGx kCa kDb) PP (168,Hi):=by
 refine aD Tryz.func168 (by kernel_rfl) rfl fun a0 h0 c0 v0 N0 e hc=>?_
 unfold Hi at e
 split at e
 ·rename_i p
  cases e
  have hE:=aA (kCa:=kCa) (kDb:=kDb) (cts:=[]) (inl:=[]) trivial trivial
  refine aq hE 2 Tryz.func168 rfl rfl ?_
  repeat' first|(first|refine ah ?_|refine sat_nd ?_)|refine av (fun h=>?_) (fun h=>?_)
  all_goals exact ag (ai (.inr rfl) rfl rfl rfl (by first|rfl|(simp only[*,cond_true,cond_false];done)|(simp only[*,cond_true,cond_false,Bool.not_true,Bool.not_false,Bool.and_true,Bool.true_and,Bool.and_false,Bool.false_and,Bool.or_true,Bool.true_or,Bool.or_false,Bool.false_or];done)|simp_all []))
 ·cases e
def FK:CF
 |[.int .i8 p],[]=>some (true,.bool (negP p),[])
 |_,_=>none
theorem zf:CtOk (GGx kCa kDb) PP (169,FK):=by
 refine aD Tryz.func169 (by kernel_rfl) rfl fun a0 h0 c0 v0 N0 e hc=>?_
 unfold FK at e
 split at e
 ·rename_i p
  cases e
  have hE:=aA (kCa:=kCa) (kDb:=kDb) (cts:=[]) (inl:=[]) trivial trivial
  refine aq hE 2 Tryz.func169 rfl rfl ?_
  repeat' first|(first|refine ah ?_|refine sat_nd ?_)|refine av (fun h=>?_) (fun h=>?_)
  all_goals exact ag (ai (.inr rfl) rfl rfl rfl (by first|rfl|(simp only[*,cond_true,cond_false];done)|(simp only[*,cond_true,cond_false,Bool.not_true,Bool.not_false,Bool.and_true,Bool.true_and,Bool.and_false,Bool.false_and,Bool.or_true,Bool.true_or,Bool.or_false,Bool.false_or];done)|simp_all []))
 ·cases e
def yp:CF
 |[.sl 0 0 len none,.fn 128 []],[.ints false .i8 zs]=>some (decide (len=zs.length)&&decide (zs.length<=1000000),.int .i64 (cP badP zs 0),[])
 |[.sl 0 0 len none,.fn 144 []],[.ints false .i8 zs]=>some (decide (len=zs.length)&&decide (zs.length<=1000000),.int .i64 (cP norP zs 0),[])
 |_,_=>none
theorem tZ:CtOk (GGx kCa kDb) PP (159,yp):=by
 refine aD Tryz.func159 (by kernel_rfl) rfl fun a0 h0 c0 v0 N0 e hc=>?_
 unfold yp at e
 split at e
 ·rename_i len zs
  cases e
  have hE:=aA (kCa:=kCa) (kDb:=kDb) (cts:=[(128,GA),(144,Hq)]) (inl:=[]) ⟨yK,zA,trivial⟩ trivial
  refine aq hE 2 Tryz.func159 rfl rfl ?_
  simp only[Bool.and_eq_true,decide_eq_true_eq]at hc
  obtain⟨rfl,hc2⟩:=hc
  refine cC hE 2 (fun i (_:Unit)=>([(0,.sl 0 0 zs.length none),(1,.fn 128 []),(7,I zs.length),(8,I i)],[.ints false .i8 zs])) zs.length (fun j _=>cP badP (zs.drop j) j=cP badP zs 0) () (by omega) (Ent.ren [0] [0,1,7,8] rfl rfl rfl) rfl ?_
  intro j i _ hij hj hz
  refine av (fun hlt=>?_) (fun hlt=>?_)
  ·have hlt':j<zs.length:=by simp at hlt;omega
   rw[qU hlt',show j=i.toNat by omega]at hz
   refine ae (by simp;omega) ?_
   repeat (first|refine ah ?_|refine sat_nd ?_)
   refine av (fun hon=>?_) (fun hon=>?_)
   ·have hon:badP (zs.getD i.toNat 0)=true:=hon
    rw[hon,cond_true]at hz
    refine ag (ag (ai (.inr rfl) rfl rfl rfl (by rw[<-hz];exact congrArg (V.int IntKind.i64) (by omega))))
   ·have hon:badP (zs.getD i.toNat 0)=false:=hon
    rw[hon,cond_false]at hz
    exact ag ⟨hlt',(),by rw[<-hz,show i.toNat=j by omega];push_cast;rfl,Ent.ren [0] [0,1,7,8] rfl rfl rfl⟩
  ·obtain rfl:j=zs.length:=by simp at hlt;omega
   rw[List.drop_length]at hz
   exact ag (ag (ai (.inr rfl) rfl rfl rfl (by rw[<-hz];rfl)))
 ·rename_i len zs
  cases e
  have hE:=aA (kCa:=kCa) (kDb:=kDb) (cts:=[(128,GA),(144,Hq)]) (inl:=[]) ⟨yK,zA,trivial⟩ trivial
  refine aq hE 2 Tryz.func159 rfl rfl ?_
  simp only[Bool.and_eq_true,decide_eq_true_eq]at hc
  obtain⟨rfl,hc2⟩:=hc
  refine cC hE 2 (fun i (_:Unit)=>([(0,.sl 0 0 zs.length none),(1,.fn 144 []),(7,I zs.length),(8,I i)],[.ints false .i8 zs])) zs.length (fun j _=>cP norP (zs.drop j) j=cP norP zs 0) () (by omega) (Ent.ren [0] [0,1,7,8] rfl rfl rfl) rfl ?_
  intro j i _ hij hj hz
  refine av (fun hlt=>?_) (fun hlt=>?_)
  ·have hlt':j<zs.length:=by simp at hlt;omega
   rw[qU hlt',show j=i.toNat by omega]at hz
   refine ae (by simp;omega) ?_
   repeat (first|refine ah ?_|refine sat_nd ?_)
   refine av (fun hon=>?_) (fun hon=>?_)
   ·have hon:norP (zs.getD i.toNat 0)=true:=hon
    rw[hon,cond_true]at hz
    refine ag (ag (ai (.inr rfl) rfl rfl rfl (by rw[<-hz];exact congrArg (V.int IntKind.i64) (by omega))))
   ·have hon:norP (zs.getD i.toNat 0)=false:=hon
    rw[hon,cond_false]at hz
    exact ag ⟨hlt',(),by rw[<-hz,show i.toNat=j by omega];push_cast;rfl,Ent.ren [0] [0,1,7,8] rfl rfl rfl⟩
  ·obtain rfl:j=zs.length:=by simp at hlt;omega
   rw[List.drop_length]at hz
   exact ag (ag (ai (.inr rfl) rfl rfl rfl (by rw[<-hz];rfl)))
 ·cases e
def qm:CF
 |[.sl 0 0 len none,.fn 128 []],[.ints false .i8 zs]=>some (decide (len=zs.length)&&decide (zs.length<=1000000),.bool (zs.any badP),[])
 |[.sl 0 0 len none,.fn 144 []],[.ints false .i8 zs]=>some (decide (len=zs.length)&&decide (zs.length<=1000000),.bool (zs.any norP),[])
 |_,_=>none
theorem pO:CtOk (GGx kCa kDb) PP (127,qm):=by
 refine aD Tryz.func127 (by kernel_rfl) rfl fun a0 h0 c0 v0 N0 e hc=>?_
 unfold qm at e
 split at e
 ·rename_i len zs
  cases e
  have hE:=aA (kCa:=kCa) (kDb:=kDb) (cts:=[(159,yp)]) (inl:=[]) ⟨tZ,trivial⟩ trivial
  refine aq hE 2 Tryz.func127 rfl rfl ?_
  simp only[Bool.and_eq_true,decide_eq_true_eq]at hc
  obtain⟨rfl,hc2⟩:=hc
  refine ae (by simp;omega) ?_
  exact ag (ai (.inr rfl) rfl rfl rfl (congrArg Bb (by
   show decide (0<=cP badP (tk zs) 0)=_
   rw[aF];exact rG badP zs 0 (by omega))))
 ·rename_i len zs
  cases e
  have hE:=aA (kCa:=kCa) (kDb:=kDb) (cts:=[(159,yp)]) (inl:=[]) ⟨tZ,trivial⟩ trivial
  refine aq hE 2 Tryz.func127 rfl rfl ?_
  simp only[Bool.and_eq_true,decide_eq_true_eq]at hc
  obtain⟨rfl,hc2⟩:=hc
  refine ae (by simp;omega) ?_
  exact ag (ai (.inr rfl) rfl rfl rfl (congrArg Bb (by
   show decide (0<=cP norP (tk zs) 0)=_
   rw[aF];exact rG norP zs 0 (by omega))))
 ·cases e
def jL:CF
 |[.agg [.int .i64 f,.int .i64 r,.sl 0 0 len none]],[.ints false .i8 zs]=>some (decide (len=zs.length)&&decide (zs.length<=1000000),.bool (aC f r zs),[])
 |_,_=>none
theorem iQ:CtOk (GGx kCa kDb) PP (67,jL):=by
 refine aD Tryz.func67 (by kernel_rfl) rfl fun a0 h0 c0 v0 N0 e hc=>?_
 unfold jL at e
 split at e
 ·rename_i f r len zs
  cases e
  have hE:=aA (kCa:=kCa) (kDb:=kDb) (cts:=[(126,vS),(127,qm)]) (inl:=[]) ⟨Ah,pO,trivial⟩ trivial
  refine aq hE 2 Tryz.func67 rfl rfl ?_
  simp only[Bool.and_eq_true,decide_eq_true_eq]at hc
  obtain⟨rfl,hc2⟩:=hc
  repeat (first|refine ah ?_|refine sat_nd ?_)
  exact ag (ai (.inr rfl) rfl rfl rfl (congrArg Bb (by
   show (decide ((cntR f r).2=0)&&decide ((zs.length:Int)=(cntR f r).1)&&!((tk zs).any badP))=_
   rw[aF];rfl)))
 ·cases e
def yN:CF
 |[.agg [.int .i64 f,.int .i64 r,.sl 0 0 len none]],[.ints false .i8 zs]=>some (decide (len=zs.length)&&decide (zs.length<=1000000),.bool (aW f r zs),[])
 |_,_=>none
theorem ug:CtOk (GGx kCa kDb) PP (90,yN):=by
 refine aD Tryz.func90 (by kernel_rfl) rfl fun a0 h0 c0 v0 N0 e hc=>?_
 unfold yN at e
 split at e
 ·rename_i f r len zs
  cases e
  have hE:=aA (kCa:=kCa) (kDb:=kDb) (cts:=[(67,jL),(127,qm)]) (inl:=[]) ⟨iQ,pO,trivial⟩ trivial
  refine aq hE 2 Tryz.func90 rfl rfl ?_
  simp only[Bool.and_eq_true,decide_eq_true_eq]at hc
  obtain⟨rfl,hc2⟩:=hc
  repeat (first|refine ah ?_|refine sat_nd ?_)
  exact ag (ai (.inr rfl) rfl rfl rfl (congrArg Bb (by
   show (aC f r (tk zs)&&!((tk zs).any norP))=_
   rw[aF];rfl)))
 ·cases e
def wj:CF
 |[.agg [.int .i64 _f,.int .i64 _r,.sl 0 0 len none],.fn 168 []],[.ints false .i8 zs]=>some (decide (len=zs.length)&&decide (zs.length<=1000000),.int .u64 (eZ posP zs),[])
 |[.agg [.int .i64 _f,.int .i64 _r,.sl 0 0 len none],.fn 169 []],[.ints false .i8 zs]=>some (decide (len=zs.length)&&decide (zs.length<=1000000),.int .u64 (eZ negP zs),[])
 |_,_=>none
theorem Aw:CtOk (GGx kCa kDb) PP (167,wj):=by
 refine aD Tryz.func167 (by kernel_rfl) rfl fun a0 h0 c0 v0 N0 e hc=>?_
 unfold wj at e
 split at e
 ·rename_i f r len zs
  cases e
  have hE:=aA (kCa:=kCa) (kDb:=kDb) (cts:=[(168,Hi),(169,FK)]) (inl:=[]) ⟨yO,zf,trivial⟩ trivial
  refine aq hE 2 Tryz.func167 rfl rfl ?_
  simp only[Bool.and_eq_true,decide_eq_true_eq]at hc
  obtain⟨rfl,hc2⟩:=hc
  repeat (first|refine ah ?_|refine sat_nd ?_)
  refine cC hE 2 (fun i (s:Int)=>([(1,.fn 168 []),(2,.ptr 1 0 0),(5,U s),(9,.sl 0 0 zs.length none),(10,I zs.length),(11,I i)],[.ints false .i8 zs,.cells true [I f,I r,.sl 0 0 zs.length none]])) zs.length (fun j s=>s=jD (gG posP zs) 0 j) 0 (by omega) (Ent.ren [0,1] [1,2,5,9,10,11] rfl rfl rfl) rfl ?_
  intro j i s hij hj hz
  refine av (fun hlt=>?_) (fun hlt=>?_)
  ·have hlt':j<zs.length:=by simp at hlt;omega
   have hs:gG posP zs s i=jD (gG posP zs) 0 (j+1):=by rw[hz,hij];rfl
   refine ae (by simp;omega) ?_
   repeat (first|refine ah ?_|refine sat_nd ?_)
   refine av (fun hon=>?_) (fun hon=>?_)
   ·have hon:posP (zs.getD i.toNat 0)=true:=hon
    rw[gG,hon,cond_true]at hs
    refine ae (by simp;omega) ?_
    exact ag ⟨hlt',_,hs,Ent.ren [0,1] [1,2,5,9,10,11] rfl rfl rfl⟩
   ·have hon:posP (zs.getD i.toNat 0)=false:=hon
    rw[gG,hon,cond_false]at hs
    exact ag ⟨hlt',_,hs,Ent.ren [0,1] [1,2,5,9,10,11] rfl rfl rfl⟩
  ·obtain rfl:j=zs.length:=by simp at hlt;omega
   subst hz
   exact ag (ag (ai (.inr rfl) rfl rfl rfl rfl))
 ·rename_i f r len zs
  cases e
  have hE:=aA (kCa:=kCa) (kDb:=kDb) (cts:=[(168,Hi),(169,FK)]) (inl:=[]) ⟨yO,zf,trivial⟩ trivial
  refine aq hE 2 Tryz.func167 rfl rfl ?_
  simp only[Bool.and_eq_true,decide_eq_true_eq]at hc
  obtain⟨rfl,hc2⟩:=hc
  repeat (first|refine ah ?_|refine sat_nd ?_)
  refine cC hE 2 (fun i (s:Int)=>([(1,.fn 169 []),(2,.ptr 1 0 0),(5,U s),(9,.sl 0 0 zs.length none),(10,I zs.length),(11,I i)],[.ints false .i8 zs,.cells true [I f,I r,.sl 0 0 zs.length none]])) zs.length (fun j s=>s=jD (gG negP zs) 0 j) 0 (by omega) (Ent.ren [0,1] [1,2,5,9,10,11] rfl rfl rfl) rfl ?_
  intro j i s hij hj hz
  refine av (fun hlt=>?_) (fun hlt=>?_)
  ·have hlt':j<zs.length:=by simp at hlt;omega
   have hs:gG negP zs s i=jD (gG negP zs) 0 (j+1):=by rw[hz,hij];rfl
   refine ae (by simp;omega) ?_
   repeat (first|refine ah ?_|refine sat_nd ?_)
   refine av (fun hon=>?_) (fun hon=>?_)
   ·have hon:negP (zs.getD i.toNat 0)=true:=hon
    rw[gG,hon,cond_true]at hs
    refine ae (by simp;omega) ?_
    exact ag ⟨hlt',_,hs,Ent.ren [0,1] [1,2,5,9,10,11] rfl rfl rfl⟩
   ·have hon:negP (zs.getD i.toNat 0)=false:=hon
    rw[gG,hon,cond_false]at hs
    exact ag ⟨hlt',_,hs,Ent.ren [0,1] [1,2,5,9,10,11] rfl rfl rfl⟩
  ·obtain rfl:j=zs.length:=by simp at hlt;omega
   subst hz
   exact ag (ag (ai (.inr rfl) rfl rfl rfl rfl))
 ·cases e
def oD:CF
 |[.agg [.int .i64 f,.int .i64 r,.sl 0 0 len none]],[.ints false .i8 zs]=>some (decide (len=zs.length)&&decide (zs.length<=1000000),.tup [U (eO f r zs).1,U (eO f r zs).2.1,I (eO f r zs).2.2],[])
 |_,_=>none
theorem lg:CtOk (GGx kCa kDb) PP (149,oD):=by
 refine aD Tryz.func149 (by kernel_rfl) rfl fun a0 h0 c0 v0 N0 e hc=>?_
 unfold oD at e
 split at e
 ·rename_i f r len zs
  cases e
  have hE:=aA (kCa:=kCa) (kDb:=kDb) (cts:=[(67,jL),(167,wj)]) (inl:=[]) ⟨iQ,Aw,trivial⟩ trivial
  refine aq hE 2 Tryz.func149 rfl rfl ?_
  simp only[Bool.and_eq_true,decide_eq_true_eq]at hc
  obtain⟨rfl,hc2⟩:=hc
  repeat (first|refine ah ?_|refine sat_nd ?_)
  refine av (fun h=>?_) (fun h=>?_)
  ·have h:aC f r zs=false:=by simpa using h
   exact ag (ai (.inr rfl) rfl rfl rfl (by rw[eO,h];rfl))
  ·have h:aC f r zs=true:=by simpa using h
   repeat (first|refine ah ?_|refine sat_nd ?_)
   refine ag (ai (.inr rfl) rfl rfl rfl ?_)
   show V.tup [U (eZ posP (tk zs)),U (eZ negP (tk zs)),I 0]=_
   rw[aF,eO,h];rfl
 ·cases e
def Kh:CF
 |[.agg [.int .i64 f,.int .i64 r,.sl 0 0 len none]],[.ints false .i8 zs]=>some (decide (len=zs.length)&&decide (zs.length<=1000000),.int .u64 (occR f r zs),[])
 |_,_=>none
theorem FI:CtOk (GGx kCa kDb) PP (104,Kh):=by
 refine aD Tryz.func104 (by kernel_rfl) rfl fun a0 h0 c0 v0 N0 e hc=>?_
 unfold Kh at e
 split at e
 ·rename_i f r len zs
  cases e
  have hE:=aA (kCa:=kCa) (kDb:=kDb) (cts:=[(149,oD)]) (inl:=[]) ⟨lg,trivial⟩ trivial
  refine aq hE 2 Tryz.func104 rfl rfl ?_
  simp only[Bool.and_eq_true,decide_eq_true_eq]at hc
  obtain⟨rfl,hc2⟩:=hc
  repeat (first|refine ah ?_|refine sat_nd ?_)
  refine ag (ai (.inr rfl) rfl rfl rfl ?_)
  show U (occR f r (tk zs))=_
  rw[aF]
 ·cases e
end
section
variable{kCa kDb:Bool}
abbrev w8(n:Int):Int:=IntKind.i8.wrap n
def isP(p:Int)(bl:Bool):Bool:=(decide (p<0)&&bl)||(decide (0<p)&&!bl)
def absP(p:Int):Int:=imax true p (w8 (0-p))
def ofR(f r:Int)(zs:List Int)(at_ all_:Int):Int:=bif decide (zs.getD at_.toNat 0=1)||decide (zs.getD at_.toNat 0=-1) then(gr f r (decide (zs.getD at_.toNat 0<0)) at_).1 else(cn f r (absP (zs.getD at_.toNat 0)) at_ all_).1
def Lr:CF
 |[.int .i8 p,.bool bl],[]=>some (true,.bool (isP p bl),[])
 |_,_=>none
theorem HE:CtOk (GGx kCa kDb) PP (105,Lr):=by
 refine aD Tryz.func105 (by kernel_rfl) rfl fun a0 h0 c0 v0 N0 e hc=>?_
 unfold Lr at e
 split at e
 ·rename_i p bl
  cases e
  have hE:=aA (kCa:=kCa) (kDb:=kDb) (cts:=[]) (inl:=[]) trivial trivial
  refine aq hE 2 Tryz.func105 rfl rfl ?_
  repeat' first|(first|refine ah ?_|refine sat_nd ?_)|refine av (fun h=>?_) (fun h=>?_)
  all_goals exact ag (ai (.inr rfl) rfl rfl rfl (by first|rfl|(simp only[*,cond_true,cond_false];done)|(simp only[*,cond_true,cond_false,Bool.not_true,Bool.not_false,Bool.and_true,Bool.true_and,Bool.and_false,Bool.false_and,Bool.or_true,Bool.true_or,Bool.or_false,Bool.false_or];done)|simp_all []))
 ·cases e
def c_of:CF
 |[.agg [.int .i64 f,.int .i64 r,.sl 0 0 len none],.int .i64 at_,.int .u64 all_],[.ints false .i8 zs]=>some (decide (len=zs.length)&&decide (zs.length<=64)&&decide (0<=at_)&&decide (at_<zs.length),.int .u64 (ofR f r zs at_ all_),[])
 |_,_=>none
theorem Lt:CtOk (GGx kCa kDb) PP (106,c_of):=by
 refine aD Tryz.func106 (by kernel_rfl) rfl fun a0 h0 c0 v0 N0 e hc=>?_
 unfold c_of at e
 split at e
 ·rename_i f r len at_ all_ zs
  cases e
  have hE:=aA (kCa:=kCa) (kDb:=kDb) (cts:=[(153,uO),(154,nf)]) (inl:=[]) ⟨mJ,kg,trivial⟩ trivial
  refine aq hE 2 Tryz.func106 rfl rfl ?_
  simp only[Bool.and_eq_true,decide_eq_true_eq]at hc
  obtain⟨⟨⟨rfl,hc2⟩,ha1⟩,ha2⟩:=hc
  repeat (first|refine ah ?_|refine sat_nd ?_)
  refine av (fun h=>?_) (fun h=>?_)
  ·have h:decide (zs.getD at_.toNat 0=1)=true:=h
   refine cL h ?_
   repeat (first|refine ah ?_|refine sat_nd ?_)
   exact ag (ai (.inr rfl) rfl rfl rfl (by rw[ofR,h];rfl))
  have h:decide (zs.getD at_.toNat 0=1)=false:=h
  refine av (fun h2=>?_) (fun h2=>?_)
  ·have h2:decide (zs.getD at_.toNat 0=-1)=true:=h2
   repeat (first|refine ah ?_|refine sat_nd ?_)
   exact ag (ai (.inr rfl) rfl rfl rfl (by rw[ofR,h,h2];rfl))
  have h2:decide (zs.getD at_.toNat 0=-1)=false:=h2
  repeat (first|refine ah ?_|refine sat_nd ?_)
  exact ag (ai (.inr rfl) rfl rfl rfl (by rw[ofR,h,h2];rfl))
 ·cases e
def attB(f r:Int)(zs:List Int)(at_:Int)(bl:Bool)(all_ i:Int):Bool:=isP (zs.getD i.toNat 0) bl&&decide (uand (ushr (ofR f r zs i all_) at_) 1=1)
def attS(f r:Int)(zs:List Int)(at_:Int)(bl:Bool)(all_ s i:Int):Int:=bif attB f r zs at_ bl all_ i then uor s (ushl 1 i)else s
def attR(f r:Int)(zs:List Int)(at_:Int)(bl:Bool):Int:=jD (attS f r zs at_ bl (occR f r zs)) 0 zs.length
def fX:CF
 |[.agg [.int .i64 f,.int .i64 r,.sl 0 0 len none],.int .i64 at_,.bool bl],[.ints false .i8 zs]=>some (decide (len=zs.length)&&decide (zs.length<=64)&&decide (0<=at_),.int .u64 (attR f r zs at_ bl),[])
 |_,_=>none
theorem iH:CtOk (GGx kCa kDb) PP (59,fX):=by
 refine aD Tryz.func59 (by kernel_rfl) rfl fun a0 h0 c0 v0 N0 e hc=>?_
 unfold fX at e
 split at e
 ·rename_i f r len at_ bl zs
  cases e
  have hE:=aA (kCa:=kCa) (kDb:=kDb) (cts:=[(104,Kh),(105,Lr),(106,c_of)]) (inl:=[]) ⟨FI,HE,Lt,trivial⟩ trivial
  refine aq hE 2 Tryz.func59 rfl rfl ?_
  simp only[Bool.and_eq_true,decide_eq_true_eq]at hc
  obtain⟨⟨rfl,hc2⟩,ha1⟩:=hc
  repeat (first|refine ah ?_|refine sat_nd ?_)
  refine cC hE 2 (fun i (s:Int)=>([(1,I at_),(2,Bb bl),(3,.ptr 1 0 0),(7,U s),(8,U (occR f r (tk zs))),(14,.sl 0 0 zs.length none),(15,I zs.length),(16,I i)],[.ints false .i8 zs,.cells true [I f,I r,.sl 0 0 zs.length none]])) zs.length (fun j s=>s=jD (attS f r zs at_ bl (occR f r zs)) 0 j) 0 (by omega) (Ent.ren [0,1] [1,2,3,7,8,14,15,16] rfl rfl rfl) rfl ?_
  intro j i s hij hj hz
  refine av (fun hlt=>?_) (fun hlt=>?_)
  ·have hlt':j<zs.length:=by simp at hlt;omega
   have hs:attS f r zs at_ bl (occR f r zs) s i=jD (attS f r zs at_ bl (occR f r zs)) 0 (j+1):=by rw[hz,hij];rfl
   refine ae (by simp;omega) ?_
   repeat (first|(first|refine ah ?_|refine sat_nd ?_)|refine ae (by rw[decide_eq_true ha1];exact Bool.or_true _) ?_|refine ae (by simp;right;omega) ?_)
   refine av (fun hon=>?_) (fun hon=>?_)
   ·have hon:(isP (zs.getD i.toNat 0) bl&&decide (uand (ushr (ofR f r (tk zs) i (occR f r (tk zs))) at_) 1=1))=true:=hon
    rw[aF]at hon
    have hon:attB f r zs at_ bl (occR f r zs) i=true:=hon
    rw[attS,hon,cond_true]at hs
    refine ae (by simp;omega) ?_
    exact ag ⟨hlt',_,hs,Ent.ren [0,1] [1,2,3,7,8,14,15,16] rfl rfl rfl⟩
   ·have hon:(isP (zs.getD i.toNat 0) bl&&decide (uand (ushr (ofR f r (tk zs) i (occR f r (tk zs))) at_) 1=1))=false:=hon
    rw[aF]at hon
    have hon:attB f r zs at_ bl (occR f r zs) i=false:=hon
    rw[attS,hon,cond_false]at hs
    exact ag ⟨hlt',_,hs,Ent.ren [0,1] [1,2,3,7,8,14,15,16] rfl rfl rfl⟩
  ·obtain rfl:j=zs.length:=by simp at hlt;omega
   subst hz
   exact ag (ag (ai (.inr rfl) rfl rfl rfl rfl))
 ·cases e
end
end Go.Ab
namespace Go.Ab
open IntKind
open Go.Proofs
section
variable{kCa kDb:Bool}
theorem bn{f r:Int}{zs:List Int}(h:aW f r zs=true):vsB f r=true/\(zs.length:Int)=f*r/\aC f r zs=true/\(∀ p∈zs,-6<=p/\p<=6):=by
 simp only[aW,Bool.and_eq_true,Bool.not_eq_true',List.any_eq_false]at h
 obtain⟨h1,h2⟩:=h
 have h1':=h1
 simp only[aC,Bool.and_eq_true,decide_eq_true_eq]at h1
 obtain⟨⟨h3,h4⟩,_⟩:=h1
 have hv:vsB f r=true:=by
  cases hv:vsB f r with
  |true=>rfl
  |false=>rw[cntR,hv]at h3;simp at h3
 rw[cntR,hv,cond_true]at h4
 refine⟨hv,by rw[h4];exact eW hv,h1',fun p hp=>?_⟩
 have:=h2 p hp
 simp only[norP,orP,Bool.and_eq_true,Bool.not_eq_true',decide_eq_false_iff_not,Bool.and_eq_false_iff,not_and]at this
 by_cases e:p=0
 ·omega
 ·have:=this e
  simp[e]at this
  omega
theorem Cl{f r n:Int}{zs:List Int}(h:aW f r zs=true):aj f r n=true↔0<=n/\n<zs.length:=by
 obtain⟨h1,h2,_⟩:=bn h
 rw[h2]
 exact⟨fun h=>⟨(aS h).1,(aS h).2.1⟩,fun h=>qL h1 h.1 h.2⟩
def isV(v p:Int):Bool:=decide (v=p)
theorem vl{K:Int}{n:Nat}(h1:-1<=K)(h2:K<n)(hn:n<=64):(!!decide (K<0)||(decide (0<=i64.wrap (K+1))&&decide (i64.wrap (K+1)<=n)&&decide ((n:Int)<=n)))=true:=by
 rw[aI (by omega) (by omega)]
 simp
 omega
theorem uL{g:Bool}{zs:List Int}{a m:Nat}(h:m=zs.length)(hn:zs.length<=64):(!g||(decide (m-a=((zs.drop a).take (m-a)).length)&&decide (((zs.drop a).take (m-a)).length<=1000000)))=true:=by
 subst h
 rw[List.take_of_length_le (by simp),List.length_drop]
 have:zs.length-a<=1000000:=by omega
 simp[this]
theorem jP{zs:List Int}{v:Int}{b:Bool}(h:(decide (cP (isV v) (tk zs) 0<0)||((zs.drop (i64.wrap (cP (isV v) (tk zs) 0+1)).toNat).take ((zs.length:Int).toNat-(i64.wrap (cP (isV v) (tk zs) 0+1)).toNat)).any (isV v))=b):(decide (cP (isV v) zs 0<0)||(zs.drop (i64.wrap (cP (isV v) zs 0+1)).toNat).any (isV v))=b:=by
 rw[aF]at h
 rwa [List.take_of_length_le (by simp)]at h
def dy(f r:Int)(zs:List Int)(at_:Int)(bl:Bool):Int×Int:=bif aW f r zs&&aj f r at_ then(attR f r zs at_ bl,0) else(0,2)
def kgP(bl:Bool):Int:=bif bl then -6 else 6
def gB(zs:List Int)(bl:Bool):Int:=cP (isV (kgP bl)) zs 0
def nr(zs:List Int)(bl:Bool):Bool:=decide (gB zs bl<0)||(zs.drop (i64.wrap (gB zs bl+1)).toNat).any (isV (kgP bl))
def bW(f r:Int)(zs:List Int)(bl:Bool):Int×Int:=bif aW f r zs then(bif nr zs bl then(0,9) else(gB zs bl,0)) else(0,2)
def bM(f r:Int)(zs:List Int)(bl:Bool):Int×Int:=bif decide ((bW f r zs bl).2=0) then(attR f r zs (bW f r zs bl).1 (!bl),0) else(0,(bW f r zs bl).2)
theorem mo(p:Int->Bool):∀ (l:List Int) (k:Int),0<=k->-1<=cP p l k/\cP p l k<k+l.length
 |[],k,_=>by simp[cP];omega
 |x::l,k,h=>by
  have:=mo p l (k+1) (by omega)
  rw[cP]
  cases p x<;>simp<;>omega
theorem Lc{f r:Int}{zs:List Int}{bl:Bool}(h:(bW f r zs bl).2=0):aW f r zs=true/\nr zs bl=false/\(bW f r zs bl).1=gB zs bl/\0<=gB zs bl/\gB zs bl<zs.length:=by
 unfold bW at h ⊢
 cases ho:aW f r zs with
 |false=>rw[ho]at h;simp at h
 |true=>
  cases hn:nr zs bl with
  |true=>rw[ho,hn]at h;simp at h
  |false=>
   have hb:=mo (isV (kgP bl)) zs 0 (by omega)
   simp only[nr,Bool.or_eq_false_iff,decide_eq_false_iff_not]at hn
   refine⟨rfl,rfl,rfl,by omega,?_⟩
   unfold gB;omega
def iJ:CF
 |[.agg [.int .i64 f,.int .i64 r,.sl 0 0 len none],.int .i64 at_,.bool bl],[.ints false .i8 zs]=>some (decide (len=zs.length)&&decide (zs.length<=64),.tup [U (dy f r zs at_ bl).1,I (dy f r zs at_ bl).2],[])
 |_,_=>none
theorem oK:CtOk (GGx kCa kDb) PP (117,iJ):=by
 refine aD Tryz.func117 (by kernel_rfl) rfl fun a0 h0 c0 v0 N0 e hc=>?_
 unfold iJ at e
 split at e
 ·rename_i f r len at_ bl zs
  cases e
  have hE:=aA (kCa:=kCa) (kDb:=kDb) (cts:=[(90,yN),(101,eK),(59,fX)]) (inl:=[]) ⟨ug,cS,iH,trivial⟩ trivial
  refine aq hE 2 Tryz.func117 rfl rfl ?_
  simp only[Bool.and_eq_true,decide_eq_true_eq]at hc
  obtain⟨rfl,hc2⟩:=hc
  repeat (first|refine ah ?_|refine sat_nd ?_)
  refine av (fun h=>?_) (fun h=>?_)
  ·have h:(aW f r zs&&aj f r at_)=false:=by
    have h:(!aW f r (tk zs)||!aj f r at_)=true:=h
    rw[aF]at h
    cases h1:aW f r zs<;>cases h2:aj f r at_<;>simp_all
   exact ag (ai (.inr rfl) rfl rfl rfl (by rw[dy,h];rfl))
  ·have h:(aW f r zs&&aj f r at_)=true:=by
    have h:(!aW f r (tk zs)||!aj f r at_)=false:=h
    rw[aF]at h
    cases h1:aW f r zs<;>cases h2:aj f r at_<;>simp_all
   have h0:=(aS (Bool.and_eq_true_iff.1 h).2).1
   refine ae (by simp;omega) ?_
   exact ag (ai (.inr rfl) rfl rfl rfl (by
    show V.tup [U (attR f r (tk zs) at_ bl),I 0]=_
    rw[aF,dy,h];rfl))
 ·cases e
def qo:CF
 |[.sl 0 0 len none,.int .i8 v],[.ints false .i8 zs]=>some (decide (len=zs.length)&&decide (zs.length<=1000000),.int .i64 (cP (isV v) zs 0),[])
 |_,_=>none
theorem pz:CtOk (GGx kCa kDb) PP (91,qo):=by
 refine aD Tryz.func91 (by kernel_rfl) rfl fun a0 h0 c0 v0 N0 e hc=>?_
 unfold qo at e
 split at e
 ·rename_i len v zs
  cases e
  have hE:=aA (kCa:=kCa) (kDb:=kDb) (cts:=[]) (inl:=[]) trivial trivial
  refine aq hE 2 Tryz.func91 rfl rfl ?_
  simp only[Bool.and_eq_true,decide_eq_true_eq]at hc
  obtain⟨rfl,hc2⟩:=hc
  refine cC hE 2 (fun i (_:Unit)=>([(0,.sl 0 0 zs.length none),(1,.int .i8 v),(7,I zs.length),(8,I i)],[.ints false .i8 zs])) zs.length (fun j _=>cP (isV v) (zs.drop j) j=cP (isV v) zs 0) () (by omega) (Ent.ren [0] [0,1,7,8] rfl rfl rfl) rfl ?_
  intro j i _ hij hj hz
  refine av (fun hlt=>?_) (fun hlt=>?_)
  ·have hlt':j<zs.length:=by simp at hlt;omega
   rw[qU hlt',show j=i.toNat by omega]at hz
   refine ae (by simp;omega) ?_
   repeat (first|refine ah ?_|refine sat_nd ?_)
   refine av (fun hon=>?_) (fun hon=>?_)
   ·have hon:isV v (zs.getD i.toNat 0)=true:=hon
    rw[hon,cond_true]at hz
    refine ag (ag (ai (.inr rfl) rfl rfl rfl (by rw[<-hz];exact congrArg (V.int i64) (by omega))))
   ·have hon:isV v (zs.getD i.toNat 0)=false:=hon
    rw[hon,cond_false]at hz
    exact ag ⟨hlt',(),by rw[<-hz,show i.toNat=j by omega];push_cast;rfl,Ent.ren [0] [0,1,7,8] rfl rfl rfl⟩
  ·obtain rfl:j=zs.length:=by simp at hlt;omega
   rw[List.drop_length]at hz
   exact ag (ag (ai (.inr rfl) rfl rfl rfl (by rw[<-hz];rfl)))
 ·cases e
def iw:CF
 |[.sl 0 0 len none,.int .i8 v],[.ints false .i8 zs]=>some (decide (len=zs.length)&&decide (zs.length<=1000000),.bool (zs.any (isV v)),[])
 |_,_=>none
theorem jW:CtOk (GGx kCa kDb) PP (92,iw):=by
 refine aD Tryz.func92 (by kernel_rfl) rfl fun a0 h0 c0 v0 N0 e hc=>?_
 unfold iw at e
 split at e
 ·rename_i len v zs
  cases e
  have hE:=aA (kCa:=kCa) (kDb:=kDb) (cts:=[(91,qo)]) (inl:=[]) ⟨pz,trivial⟩ trivial
  refine aq hE 2 Tryz.func92 rfl rfl ?_
  simp only[Bool.and_eq_true,decide_eq_true_eq]at hc
  obtain⟨rfl,hc2⟩:=hc
  refine ae (by simp;omega) ?_
  exact ag (ai (.inr rfl) rfl rfl rfl (congrArg Bb (by
   show decide (0<=cP (isV v) (tk zs) 0)=_
   rw[aF];exact rG (isV v) zs 0 (by omega))))
 ·cases e
def uY:CF
 |[.agg [.int .i64 f,.int .i64 r,.sl 0 0 len none],.bool bl],[.ints false .i8 zs]=>some (decide (len=zs.length)&&decide (zs.length<=64),.tup [I (bW f r zs bl).1,I (bW f r zs bl).2],[])
 |_,_=>none
theorem nK:CtOk (GGx kCa kDb) PP (49,uY):=by
 refine aD Tryz.func49 (by kernel_rfl) rfl fun a0 h0 c0 v0 N0 e hc=>?_
 unfold uY at e
 split at e
 ·rename_i f r len bl zs
  cases e
  have hE:=aA (kCa:=kCa) (kDb:=kDb) (cts:=[(90,yN),(91,qo),(92,iw)]) (inl:=[]) ⟨ug,pz,jW,trivial⟩ trivial
  refine aq hE 2 Tryz.func49 rfl rfl ?_
  simp only[Bool.and_eq_true,decide_eq_true_eq]at hc
  obtain⟨rfl,hc2⟩:=hc
  repeat (first|refine ah ?_|refine sat_nd ?_)
  refine av (fun h=>?_) (fun h=>?_)
  ·have h:aW f r zs=false:=by simpa using h
   exact ag (ai (.inr rfl) rfl rfl rfl (by rw[bW,h];rfl))
  have h:aW f r zs=true:=by simpa using h
  refine av (fun hb=>?_) (fun hb=>?_)
  ·subst hb
   have hbd:=mo (isV (kgP true)) zs 0 (by omega)
   repeat (first|refine ah ?_|refine sat_nd ?_)
   refine ae (by
    refine vl (K:=cP (isV (kgP true)) (tk zs) 0) ?_ ?_ hc2
    ·rw[aF];exact hbd.1
    ·rw[aF];have:=hbd.2;omega) ?_
   repeat (first|(first|refine ah ?_|refine sat_nd ?_)|refine ae (uL rfl hc2) ?_)
   refine av (fun hk=>?_) (fun hk=>?_)
   ·have hk:=jP (zs:=zs) (v:=kgP true) hk
    exact ag (ai (.inr rfl) rfl rfl rfl (by rw[bW,h,show nr zs true=true from hk];rfl))
   ·have hk:=jP (zs:=zs) (v:=kgP true) hk
    exact ag (ai (.inr rfl) rfl rfl rfl (by
     show V.tup [I (cP (isV (kgP true)) (tk zs) 0),I 0]=_
     rw[aF,bW,h,show nr zs true=false from hk];rfl))
  ·subst hb
   have hbd:=mo (isV (kgP false)) zs 0 (by omega)
   repeat (first|refine ah ?_|refine sat_nd ?_)
   refine ae (by
    refine vl (K:=cP (isV (kgP false)) (tk zs) 0) ?_ ?_ hc2
    ·rw[aF];exact hbd.1
    ·rw[aF];have:=hbd.2;omega) ?_
   repeat (first|(first|refine ah ?_|refine sat_nd ?_)|refine ae (uL rfl hc2) ?_)
   refine av (fun hk=>?_) (fun hk=>?_)
   ·have hk:=jP (zs:=zs) (v:=kgP false) hk
    exact ag (ai (.inr rfl) rfl rfl rfl (by rw[bW,h,show nr zs false=true from hk];rfl))
   ·have hk:=jP (zs:=zs) (v:=kgP false) hk
    exact ag (ai (.inr rfl) rfl rfl rfl (by
     show V.tup [I (cP (isV (kgP false)) (tk zs) 0),I 0]=_
     rw[aF,bW,h,show nr zs false=false from hk];rfl))
 ·cases e
def fJ:CF
 |[.agg [.int .i64 f,.int .i64 r,.sl 0 0 len none],.bool bl],[.ints false .i8 zs]=>some (decide (len=zs.length)&&decide (zs.length<=64),.tup [U (bM f r zs bl).1,I (bM f r zs bl).2],[])
 |_,_=>none
theorem fZ:CtOk (GGx kCa kDb) PP (28,fJ):=by
 refine aD Tryz.func28 (by kernel_rfl) rfl fun a0 h0 c0 v0 N0 e hc=>?_
 unfold fJ at e
 split at e
 ·rename_i f r len bl zs
  cases e
  have hE:=aA (kCa:=kCa) (kDb:=kDb) (cts:=[(49,uY),(59,fX)]) (inl:=[]) ⟨nK,iH,trivial⟩ trivial
  refine aq hE 2 Tryz.func28 rfl rfl ?_
  simp only[Bool.and_eq_true,decide_eq_true_eq]at hc
  obtain⟨rfl,hc2⟩:=hc
  repeat (first|refine ah ?_|refine sat_nd ?_)
  refine av (fun h=>?_) (fun h=>?_)
  ·have h:decide ((bW f r zs bl).2=0)=false:=by simpa using h
   exact ag (ai (.inr rfl) rfl rfl rfl (by
    show V.tup [U 0,I (bW f r (tk zs) bl).2]=_
    rw[aF,bM,h];rfl))
  have h:decide ((bW f r zs bl).2=0)=true:=by simpa using h
  obtain⟨_,_,k3,k4,k5⟩:=Lc (of_decide_eq_true h)
  refine ae (by
   have e:(bW f r (tk zs) bl).1=gB zs bl:=by rw[aF,k3]
   rw[e];simp;omega) ?_
  exact ag (ai (.inr rfl) rfl rfl rfl (by
   show V.tup [U (attR f r (tk zs) (bW f r (tk zs) bl).1 (!bl)),I 0]=_
   rw[aF,bM,h];rfl))
 ·cases e
end
end Go.Ab
set_option maxHeartbeats 4000000
namespace Go.Ab
open IntKind
open Go.Proofs
section
variable{kCa kDb:Bool}
structure Psn where
 f:Int
 r:Int
 zs:List Int
 bl:Bool
 ca:Int
 pa:Int
 ha:Int
 fu:Int
structure Mov where
 a:Int
 b:Int
 p:Int
structure Und where
 m:Mov
 c:Int
 at_:Int
 ca:Int
 pa:Int
 ha:Int
 fu:Int
abbrev fq(a b:Int):Int:=band .and .u8 a b
def ofP(k:Int)(b:Bool):Int:=bif b then w8 (0-k)else k
def mvB(f r a b p:Int):Bool:=aj f r a&&aj f r b&&!decide (a=b)&&(decide (p=0)||(decide (2<=p)&&decide (p<=5)))
def is88(f r:Int):Bool:=decide (f=8)&&decide (r=8)
def rtX(f r:Int)(zs:List Int)(ca bit:Int)(k q:Nat)(b:Bool):Bool:=!decide (fq ca bit=0)&&((!is88 f r||!decide (zs.getD k 0=ofP 6 b))||!decide (zs.getD q 0=ofP 4 b))
def fy(f r:Int)(zs:List Int)(ca:Int):Bool:=!rtX f r zs ca 1 4 7 false&&!rtX f r zs ca 2 4 0 false&&!rtX f r zs ca 4 60 63 true&&!rtX f r zs ca 8 60 56 true&&decide (ca<16)
def upP(f:Int)(bl:Bool):Int:=bif bl then f else i64.wrap (0-f)
def rkP(r:Int)(bl:Bool):Int:=bif bl then 2 else i64.wrap (r-3)
def kV(f r:Int)(zs:List Int)(bl:Bool)(pa ha:Int):Bool:=decide (pa=-1) ||
 (decide (6<=r)&&decide (ha=0)&&aj f r pa&&decide (i64.wrap (pa.tdiv f)=rkP r bl)&&decide (zs.getD pa.toNat 0=0)&&decide (zs.getD (i64.wrap (pa-upP f bl)).toNat 0=0)&&decide (zs.getD (i64.wrap (pa+upP f bl)).toNat 0=ofP 1 (!bl)))
def oa(f:Int)(zs:List Int):Bool:=!(zs.drop (zs.length-f.toNat)).any (isV 1)&&!(zs.take f.toNat).any (isV (-1))
def fI(f r:Int)(zs:List Int)(bl:Bool):Bool:=decide ((bW f r zs bl).2=0)&&decide ((bM f r zs (!bl)).2=0)&&decide ((bM f r zs (!bl)).1=0)
def cntB(ha fu:Int):Bool:=decide (0<=ha)&&decide (ha<=10000)&&decide (1<=fu)&&decide (fu<=10000)
def Psn.ok(p:Psn):Bool:=aC p.f p.r p.zs&&fI p.f p.r p.zs p.bl&&oa p.f p.zs&&fy p.f p.r p.zs p.ca&&kV p.f p.r p.zs p.bl p.pa p.ha&&cntB p.ha p.fu
theorem bh{f r:Int}{zs:List Int}(h:aC f r zs=true):vsB f r=true/\(zs.length:Int)=f*r:=by
 simp only[aC,Bool.and_eq_true,decide_eq_true_eq]at h
 obtain⟨⟨h1,h2⟩,_⟩:=h
 unfold cntR at h1 h2
 cases hv:vsB f r with
 |false=>rw[hv]at h1;simp at h1
 |true=>rw[hv]at h2;exact⟨rfl,by rw[cond_true]at h2;rw[h2];exact eW hv⟩
theorem bQ{f r n:Int}{zs:List Int}(h:aC f r zs=true):aj f r n=true↔0<=n/\n<zs.length:=by
 obtain⟨h1,h2⟩:=bh h
 rw[h2]
 exact⟨fun h=>⟨(aS h).1,(aS h).2.1⟩,fun h=>qL h1 h.1 h.2⟩
theorem tT{f r:Int}{zs:List Int}(h:aC f r zs=true)(h8:is88 f r=true):zs.length=64:=by
 have:=(bh h).2
 simp only[is88,Bool.and_eq_true,decide_eq_true_eq]at h8
 obtain⟨rfl,rfl⟩:=h8
 omega
def GH:CF
 |[.int .i8 k,.bool b],[]=>some (true,.int .i8 (ofP k b),[])
 |_,_=>none
theorem zi:CtOk (GGx kCa kDb) PP (131,GH):=by
 refine aD Tryz.func131 (by kernel_rfl) rfl fun a0 h0 c0 v0 N0 e hc=>?_
 unfold GH at e
 split at e
 ·rename_i k b
  cases e
  have hE:=aA (kCa:=kCa) (kDb:=kDb) (cts:=[]) (inl:=[]) trivial trivial
  refine aq hE 2 Tryz.func131 rfl rfl ?_
  repeat' first|(first|refine ah ?_|refine sat_nd ?_)|refine av (fun h=>?_) (fun h=>?_)
  all_goals exact ag (ai (.inr rfl) rfl rfl rfl (by first|rfl|(simp only[ofP, *,cond_true,cond_false];done)|(simp only[ofP, *,cond_true,cond_false,Bool.not_true,Bool.not_false,Bool.and_true,Bool.true_and,Bool.and_false,Bool.false_and,Bool.or_true,Bool.true_or,Bool.or_false,Bool.false_or];done)|simp_all [ofP]))
 ·cases e
theorem AK:oJ { (EE kCa kDb [] [])with pf:=oo (EE kCa kDb [] []) [] 1000 4,cc:=true } 3 1000 Tryz.f130 [] []=some (.agg [.int .u8 1,.str [75],.lit false,I 4,I 7,.int .u8 2,.str [81],.lit false,I 4,I 0,.int .u8 4,.str [107],.lit true,I 60,I 63,.int .u8 8,.str [113],.lit true,I 60,I 56],[]):=by kernel_rfl
def qZ:CF
 |[],[]=>some (true,.agg [.int .u8 1,.str [75],.lit false,I 4,I 7,.int .u8 2,.str [81],.lit false,I 4,I 0,.int .u8 4,.str [107],.lit true,I 60,I 63,.int .u8 8,.str [113],.lit true,I 60,I 56],[])
 |_,_=>none
theorem vt:CtOk (GGx kCa kDb) PP (130,qZ):=by
 refine aD Tryz.func130 (by kernel_rfl) rfl fun a0 h0 c0 v0 N0 e hc=>?_
 unfold qZ at e
 split at e
 ·cases e
  exact aK.like (pP (aA (kCa:=kCa) (kDb:=kDb) (cts:=[]) (inl:=[]) trivial trivial) (xs:=[]) trivial 1000 4 Tryz.func130 AK) (fun _ _ h=>h)
 ·cases e
def rY:CF
 |[.agg [.int .i64 f,.int .i64 r],.agg [.int .i64 a,.int .i64 b,.int .i8 pr]],[]=>some (true,.bool (mvB f r a b pr),[])
 |_,_=>none
theorem vP:CtOk (GGx kCa kDb) PP (111,rY):=by
 refine aD Tryz.func111 (by kernel_rfl) rfl fun a0 h0 c0 v0 N0 e hc=>?_
 unfold rY at e
 split at e
 ·rename_i f r a b pr
  cases e
  have hE:=aA (kCa:=kCa) (kDb:=kDb) (cts:=[(101,eK)]) (inl:=[]) ⟨cS,trivial⟩ trivial
  refine aq hE 2 Tryz.func111 rfl rfl ?_
  repeat (first|refine ah ?_|refine sat_nd ?_)
  exact ag (ai (.inr rfl) rfl rfl rfl rfl)
 ·cases e
def uR:CF
 |[.int .i8 p],[]=>some (true,.int .i8 (absP p),[])
 |_,_=>none
theorem nO:CtOk (GGx kCa kDb) PP (115,uR):=by
 refine aD Tryz.func115 (by kernel_rfl) rfl fun a0 h0 c0 v0 N0 e hc=>?_
 unfold uR at e
 split at e
 ·rename_i p
  cases e
  have hE:=aA (kCa:=kCa) (kDb:=kDb) (cts:=[]) (inl:=[]) trivial trivial
  refine aq hE 2 Tryz.func115 rfl rfl ?_
  exact ag (ai (.inr rfl) rfl rfl rfl rfl)
 ·cases e
def c_is:CF
 |[.int .i8 p,.bool b],[]=>some (true,.bool (isP p b),[])
 |_,_=>none
theorem JK:CtOk (GGx kCa kDb) PP (112,c_is):=by
 refine aD Tryz.func112 (by kernel_rfl) rfl fun a0 h0 c0 v0 N0 e hc=>?_
 unfold c_is at e
 split at e
 ·rename_i p b
  cases e
  have hE:=aA (kCa:=kCa) (kDb:=kDb) (cts:=[]) (inl:=[]) trivial trivial
  refine aq hE 2 Tryz.func112 rfl rfl ?_
  repeat (first|refine ah ?_|refine sat_nd ?_)
  exact ag (ai (.inr rfl) rfl rfl rfl rfl)
 ·cases e
theorem zC{f r:Int}{zs:List Int}{g:Bool}{k:Int}(h:aC f r zs=true)(h0:0<=k)(h1:k<64):(!(g&&!!is88 f r)||(decide (0<=k)&&decide (k<zs.length)))=true:=by
 cases h8:is88 f r with
 |false=>simp
 |true=>have:=tT h h8;simp;omega
theorem sL{f r:Int}{zs:List Int}{g x:Bool}{k:Int}(h:aC f r zs=true)(h0:0<=k)(h1:k<64):(!(g&&!(!is88 f r||x))||(decide (0<=k)&&decide (k<zs.length)))=true:=by
 cases h8:is88 f r with
 |false=>simp
 |true=>have:=tT h h8;simp;omega
def kZ:CF
 |[.agg [.int .i64 f,.int .i64 r,.sl 0 0 len none,.bool _bl,.int .u8 ca,.int .i64 _pa,.int .i64 _ha,.int .i64 _fu]],[.ints false .i8 zs]=>some (decide (len=zs.length)&&decide (zs.length<=64)&&aC f r zs,.bool (fy f r zs ca),[])
 |_,_=>none
theorem qS:CtOk (GGx kCa kDb) PP (73,kZ):=by
 refine aD Tryz.func73 (by kernel_rfl) rfl fun a0 h0 c0 v0 N0 e hc=>?_
 unfold kZ at e
 split at e
 ·rename_i f r len bl ca pa ha fu zs
  cases e
  have hE:=aA (kCa:=kCa) (kDb:=kDb) (cts:=[(130,qZ),(131,GH)]) (inl:=[]) ⟨vt,zi,trivial⟩ trivial
  refine aq hE 2 Tryz.func73 rfl rfl ?_
  simp only[Bool.and_eq_true,decide_eq_true_eq]at hc
  obtain⟨⟨rfl,hc2⟩,hbd⟩:=hc
  repeat (first|refine ah ?_|refine sat_nd ?_)
  refine dx hE 2 5 ?_
  refine rnd ?_
  refine cL (by rfl) ?_
  repeat (first|(first|refine ah ?_|refine sat_nd ?_)|refine ae (zC hbd (by omega) (by omega)) ?_|refine ae (sL hbd (by omega) (by omega)) ?_)
  refine av (fun h0=>?_) (fun h0=>?_)
  ·have h0:rtX f r zs ca 1 4 7 false=true:=h0
   exact ag (ag (ai (.inr rfl) rfl rfl rfl (by simp[fy,h0])))
  have h0:rtX f r zs ca 1 4 7 false=false:=h0
  refine ag ⟨[(1,.ptr 1 0 0),(5,.agg [.int .u8 1,.str [75],.lit false,I 4,I 7,.int .u8 2,.str [81],.lit false,I 4,I 0,.int .u8 4,.str [107],.lit true,I 60,I 63,.int .u8 8,.str [113],.lit true,I 60,I 56]),(6,I 1)],[.ints false .i8 zs,.cells true [I f,I r,.sl 0 0 zs.length none,Bb bl,.int .u8 ca,I pa,I ha,I fu]],Ent.ren [0,1] [1,5,6] rfl rfl rfl,?_⟩
  refine rnd ?_
  refine cL (by rfl) ?_
  repeat (first|(first|refine ah ?_|refine sat_nd ?_)|refine ae (zC hbd (by omega) (by omega)) ?_|refine ae (sL hbd (by omega) (by omega)) ?_)
  refine av (fun h1=>?_) (fun h1=>?_)
  ·have h1:rtX f r zs ca 2 4 0 false=true:=h1
   exact ag (ag (ai (.inr rfl) rfl rfl rfl (by simp[fy,h1])))
  have h1:rtX f r zs ca 2 4 0 false=false:=h1
  refine ag ⟨[(1,.ptr 1 0 0),(5,.agg [.int .u8 1,.str [75],.lit false,I 4,I 7,.int .u8 2,.str [81],.lit false,I 4,I 0,.int .u8 4,.str [107],.lit true,I 60,I 63,.int .u8 8,.str [113],.lit true,I 60,I 56]),(6,I 2)],[.ints false .i8 zs,.cells true [I f,I r,.sl 0 0 zs.length none,Bb bl,.int .u8 ca,I pa,I ha,I fu]],Ent.ren [0,1] [1,5,6] rfl rfl rfl,?_⟩
  refine rnd ?_
  refine cL (by rfl) ?_
  repeat (first|(first|refine ah ?_|refine sat_nd ?_)|refine ae (zC hbd (by omega) (by omega)) ?_|refine ae (sL hbd (by omega) (by omega)) ?_)
  refine av (fun h2=>?_) (fun h2=>?_)
  ·have h2:rtX f r zs ca 4 60 63 true=true:=h2
   exact ag (ag (ai (.inr rfl) rfl rfl rfl (by simp[fy,h2])))
  have h2:rtX f r zs ca 4 60 63 true=false:=h2
  refine ag ⟨[(1,.ptr 1 0 0),(5,.agg [.int .u8 1,.str [75],.lit false,I 4,I 7,.int .u8 2,.str [81],.lit false,I 4,I 0,.int .u8 4,.str [107],.lit true,I 60,I 63,.int .u8 8,.str [113],.lit true,I 60,I 56]),(6,I 3)],[.ints false .i8 zs,.cells true [I f,I r,.sl 0 0 zs.length none,Bb bl,.int .u8 ca,I pa,I ha,I fu]],Ent.ren [0,1] [1,5,6] rfl rfl rfl,?_⟩
  refine rnd ?_
  refine cL (by rfl) ?_
  repeat (first|(first|refine ah ?_|refine sat_nd ?_)|refine ae (zC hbd (by omega) (by omega)) ?_|refine ae (sL hbd (by omega) (by omega)) ?_)
  refine av (fun h3=>?_) (fun h3=>?_)
  ·have h3:rtX f r zs ca 8 60 56 true=true:=h3
   exact ag (ag (ai (.inr rfl) rfl rfl rfl (by simp[fy,h3])))
  have h3:rtX f r zs ca 8 60 56 true=false:=h3
  refine ag ⟨[(1,.ptr 1 0 0),(5,.agg [.int .u8 1,.str [75],.lit false,I 4,I 7,.int .u8 2,.str [81],.lit false,I 4,I 0,.int .u8 4,.str [107],.lit true,I 60,I 63,.int .u8 8,.str [113],.lit true,I 60,I 56]),(6,I 4)],[.ints false .i8 zs,.cells true [I f,I r,.sl 0 0 zs.length none,Bb bl,.int .u8 ca,I pa,I ha,I fu]],Ent.ren [0,1] [1,5,6] rfl rfl rfl,?_⟩
  refine rnd ?_
  refine uT (by rfl) ?_
  refine ag (ag (ai (.inr rfl) rfl rfl rfl (by simp[fy,h0,h1,h2,h3])))
 ·cases e
end
end Go.Ab
namespace Go.Ab
open Go.Proofs
theorem Hg{p:Int}(h:-6<=p/\p<=6):absP p=p.natAbs:=by
 have hw:w8 (0-p)=-p:=by
  have hb:IntKind.i8.bits=8:=rfl
  have:∀ q:_root_.Fin 13,w8 (0-((q.val:Int)-6))=-((q.val:Int)-6):=by decide +kernel
  have h2:=this ⟨(p+6).toNat,by omega⟩
  simp only at h2
  rwa [show (((p+6).toNat:Int)-6)=p by omega]at h2
 unfold absP
 rw[hw]
 unfold imax
 by_cases h1:p < -p<;>simp[h1]<;>omega
end Go.Ab
namespace Go.Ab
open IntKind
open Go.Proofs
section
variable{kCa kDb:Bool}
theorem Cc{C:Int->Bool}{l:List Int}{j:Nat}(h:j<l.length):(bif C (l.getD j 0) then(l.take j).filter C++[l.getD j 0] else(l.take j).filter C)=(l.take (j+1)).filter C:=by
 have e:l.getD j 0=l[j]:=by simp[List.getD,h]
 rw[e,List.take_succ_eq_append_getElem h,List.filter_append]
 cases hc:C l[j]<;>simp[hc]
def aY(p:Int):Int:=bif decide (p<0)then w8 (0-p)else p
def sdI(bl:Bool):Int:=bif bl then -1 else 1
def wK(zs:List Int)(s i:Int):Bool:=decide (sgn (zs.getD i.toNat 0)=s)
def cF(zs:List Int)(s:Int):List Int:=cz (wK zs s) id zs.length
def occL(zs:List Int):Int:=ofL (cF zs 1++cF zs (-1)) 0
def lj(zs:List Int)(p i:Int):Bool:=decide (zs.getD i.toNat 0=p)
def iC(zs:List Int)(p:Int):List Int:=cz (lj zs p) id zs.length
def xk(f r:Int)(zs:List Int)(i to occ:Int):Bool:=bif decide (aY (zs.getD i.toNat 0)=1)then hasL to (cz (ei f (decide (zs.getD i.toNat 0<0)) i) id (f*r).toNat)else !decide (i=to)&&bJ f r (aY (zs.getD i.toNat 0)) i to occ
def Bf(f r:Int)(zs:List Int)(to occ i:Int):Bool:=xk f r zs i to occ
def attL(f r:Int)(zs:List Int)(to:Int)(bl:Bool):List Int:=(cF zs (sdI bl)).filter (Bf f r zs to (occL zs))
def aV(zs:List Int)(bl:Bool):Int:=bif decide (((iC zs (w8 (i64.wrap (6*sdI bl)))).length:Int)=1) then(iC zs (w8 (i64.wrap (6*sdI bl)))).getD 0 0 else -1
theorem gM(zs:List Int)(s:Int):(cF zs s).length<=zs.length:=dh _ _ _
theorem gP{zs:List Int}{s x:Int}:x∈cF zs s↔0<=x/\x<zs.length/\sgn (zs.getD x.toNat 0)=s:=by
 unfold cF
 rw[eH]
 simp[wK]
theorem sI{f r:Int}{zs:List Int}:(vsB f r&&decide ((zs.length:Int)=i64.wrap (f*r))&&zs.all okP)=aC f r zs:=by
 unfold aC cntR
 cases vsB f r
 ·simp
 ·simp[badP,List.any_eq_not_all_not]
theorem vV{f r:Int}{zs:List Int}:(aC f r zs&&zs.all (fun p=>!norP p))=aW f r zs:=by
 unfold aW
 simp[List.any_eq_not_all_not]
def vQ:CF
 |[.int .i8 p],[]=>some (true,.bool (okP p),[])
 |_,_=>none
theorem As:CtOk (GGx kCa kDb) PP (133,vQ):=by
 refine aD Tryz.func133 (by kernel_rfl) rfl fun a0 h0 c0 v0 N0 e hc=>?_
 unfold vQ at e
 split at e
 ·rename_i p
  cases e
  have hE:=aA (kCa:=kCa) (kDb:=kDb) (cts:=[]) (inl:=[]) trivial trivial
  refine aq hE 2 Tryz.func133 rfl rfl ?_
  repeat' first|(first|refine ah ?_|refine sat_nd ?_)|refine av (fun h=>?_) (fun h=>?_)
  all_goals exact ag (ai (.inr rfl) rfl rfl rfl (by first|rfl|(simp only[*,cond_true,cond_false];done)|(simp only[*,cond_true,cond_false,Bool.not_true,Bool.not_false,Bool.and_true,Bool.true_and,Bool.and_false,Bool.false_and,Bool.or_true,Bool.true_or,Bool.or_false,Bool.false_or];done)|simp_all []))
 ·cases e
def qx:CF
 |[.int .i8 p],[]=>some (true,.bool (orP p),[])
 |_,_=>none
theorem wT:CtOk (GGx kCa kDb) PP (79,qx):=by
 refine aD Tryz.func79 (by kernel_rfl) rfl fun a0 h0 c0 v0 N0 e hc=>?_
 unfold qx at e
 split at e
 ·rename_i p
  cases e
  have hE:=aA (kCa:=kCa) (kDb:=kDb) (cts:=[]) (inl:=[]) trivial trivial
  refine aq hE 2 Tryz.func79 rfl rfl ?_
  repeat' first|(first|refine ah ?_|refine sat_nd ?_)|refine av (fun h=>?_) (fun h=>?_)
  all_goals exact ag (ai (.inr rfl) rfl rfl rfl (by first|rfl|(simp only[*,cond_true,cond_false];done)|(simp only[*,cond_true,cond_false,Bool.not_true,Bool.not_false,Bool.and_true,Bool.true_and,Bool.and_false,Bool.false_and,Bool.or_true,Bool.true_or,Bool.or_false,Bool.false_or];done)|simp_all []))
 ·cases e
def lV:CF
 |[.int .i8 p],[]=>some (true,.int .i64 (sgn p),[])
 |_,_=>none
theorem oE:CtOk (GGx kCa kDb) PP (139,lV):=by
 refine aD Tryz.func139 (by kernel_rfl) rfl fun a0 h0 c0 v0 N0 e hc=>?_
 unfold lV at e
 split at e
 ·rename_i p
  cases e
  have hE:=aA (kCa:=kCa) (kDb:=kDb) (cts:=[]) (inl:=[]) trivial trivial
  refine aq hE 2 Tryz.func139 rfl rfl ?_
  repeat' first|(first|refine ah ?_|refine sat_nd ?_)|refine av (fun h=>?_) (fun h=>?_)
  all_goals exact ag (ai (.inr rfl) rfl rfl rfl (by first|rfl|(simp only[sgn, *,cond_true,cond_false];done)|(simp only[sgn, *,cond_true,cond_false,Bool.not_true,Bool.not_false,Bool.and_true,Bool.true_and,Bool.and_false,Bool.false_and,Bool.or_true,Bool.true_or,Bool.or_false,Bool.false_or];done)|simp_all [sgn]))
 ·cases e
def fj:CF
 |[.int .i8 p],[]=>some (true,.int .i8 (aY p),[])
 |_,_=>none
theorem dR:CtOk (GGx kCa kDb) PP (38,fj):=by
 refine aD Tryz.func38 (by kernel_rfl) rfl fun a0 h0 c0 v0 N0 e hc=>?_
 unfold fj at e
 split at e
 ·rename_i p
  cases e
  have hE:=aA (kCa:=kCa) (kDb:=kDb) (cts:=[]) (inl:=[]) trivial trivial
  refine aq hE 2 Tryz.func38 rfl rfl ?_
  repeat' first|(first|refine ah ?_|refine sat_nd ?_)|refine av (fun h=>?_) (fun h=>?_)
  all_goals exact ag (ai (.inr rfl) rfl rfl rfl (by first|rfl|(simp only[aY, *,cond_true,cond_false];done)|(simp only[aY, *,cond_true,cond_false,Bool.not_true,Bool.not_false,Bool.and_true,Bool.true_and,Bool.and_false,Bool.false_and,Bool.or_true,Bool.true_or,Bool.or_false,Bool.false_or];done)|simp_all [aY]))
 ·cases e
def qh:CF
 |[.bool bl],[]=>some (true,.int .i64 (sdI bl),[])
 |_,_=>none
theorem pX:CtOk (GGx kCa kDb) PP (81,qh):=by
 refine aD Tryz.func81 (by kernel_rfl) rfl fun a0 h0 c0 v0 N0 e hc=>?_
 unfold qh at e
 split at e
 ·rename_i bl
  cases e
  have hE:=aA (kCa:=kCa) (kDb:=kDb) (cts:=[]) (inl:=[]) trivial trivial
  refine aq hE 2 Tryz.func81 rfl rfl ?_
  repeat' first|(first|refine ah ?_|refine sat_nd ?_)|refine av (fun h=>?_) (fun h=>?_)
  all_goals exact ag (ai (.inr rfl) rfl rfl rfl (by first|rfl|(simp only[sdI, *,cond_true,cond_false];done)|(simp only[sdI, *,cond_true,cond_false,Bool.not_true,Bool.not_false,Bool.and_true,Bool.true_and,Bool.and_false,Bool.false_and,Bool.or_true,Bool.true_or,Bool.or_false,Bool.false_or];done)|simp_all [sdI]))
 ·cases e
def CD:CF
 |[.sl 0 0 len none,.int .i64 n],[.ints false .i64 zs]=>some (decide (len=zs.length)&&decide (zs.length<=1000000),.bool (hasL n zs),[])
 |_,_=>none
theorem Cu:CtOk (GGx kCa kDb) PP (160,CD):=by
 refine aD Tryz.func160 (by kernel_rfl) rfl fun a0 h0 c0 v0 N0 e hc=>?_
 unfold CD at e
 split at e
 ·rename_i len n zs
  cases e
  have hE:=aA (kCa:=kCa) (kDb:=kDb) (cts:=[]) (inl:=[]) trivial trivial
  refine aq hE 2 Tryz.func160 rfl rfl ?_
  simp only[Bool.and_eq_true,decide_eq_true_eq]at hc
  obtain⟨rfl,hc2⟩:=hc
  refine cC hE 2 (fun i (_:Unit)=>([(0,.sl 0 0 zs.length none),(1,I n),(5,I i)],[.ints false .i64 zs])) zs.length (fun j _=>hasL n (zs.drop j)=hasL n zs) () (by omega) (Ent.ren [0] [0,1,5] rfl rfl rfl) rfl ?_
  intro j i _ hij hj hz
  refine av (fun hlt=>?_) (fun hlt=>?_)
  ·have hlt':j<zs.length:=by simp at hlt;omega
   rw[vI hlt',show j=i.toNat by omega]at hz
   refine ae (by simp;omega) ?_
   repeat (first|refine ah ?_|refine sat_nd ?_)
   refine av (fun hon=>?_) (fun hon=>?_)
   ·have hon:decide (zs.getD i.toNat 0=n)=true:=hon
    rw[hon]at hz
    exact ag (ag (ai (.inr rfl) rfl rfl rfl (by rw[<-hz];rfl)))
   ·have hon:decide (zs.getD i.toNat 0=n)=false:=hon
    rw[hon]at hz
    exact ag ⟨hlt',(),by rw[<-hz,show i.toNat=j by omega];rfl,Ent.ren [0] [0,1,5] rfl rfl rfl⟩
  ·obtain rfl:j=zs.length:=by simp at hlt;omega
   rw[List.drop_length]at hz
   exact ag (ag (ai (.inr rfl) rfl rfl rfl (by rw[<-hz];rfl)))
 ·cases e
def nnP(p:Int):Bool:=!norP p
def mL:CF
 |[.agg [.int .i64 f,.int .i64 r,.sl 0 0 len none]],[.ints false .i8 zs]=>some (decide (len=zs.length)&&decide (zs.length<=64),.bool (aC f r zs),[])
 |_,_=>none
theorem tR:CtOk (GGx kCa kDb) PP (78,mL):=by
 refine aD Tryz.func78 (by kernel_rfl) rfl fun a0 h0 c0 v0 N0 e hc=>?_
 unfold mL at e
 split at e
 ·rename_i f r len zs
  cases e
  have hE:=aA (kCa:=kCa) (kDb:=kDb) (cts:=[(132,zl),(133,vQ)]) (inl:=[]) ⟨uw,As,trivial⟩ trivial
  refine aq hE 2 Tryz.func78 rfl rfl ?_
  simp only[Bool.and_eq_true,decide_eq_true_eq]at hc
  obtain⟨rfl,hc2⟩:=hc
  repeat (first|refine ah ?_|refine sat_nd ?_)
  refine av (fun h=>?_) (fun h=>?_)
  ·have h:(vsB f r&&decide ((zs.length:Int)=i64.wrap (f*r)))=false:=by
    have h:(!vsB f r||!decide ((zs.length:Int)=i64.wrap (f*r)))=true:=h
    cases h1:vsB f r<;>cases h2:decide ((zs.length:Int)=i64.wrap (f*r))<;>simp_all
   exact ag (ai (.inr rfl) rfl rfl rfl (by rw[<-sI,h];rfl))
  have h:(vsB f r&&decide ((zs.length:Int)=i64.wrap (f*r)))=true:=by
   have h:(!vsB f r||!decide ((zs.length:Int)=i64.wrap (f*r)))=false:=h
   cases h1:vsB f r<;>cases h2:decide ((zs.length:Int)=i64.wrap (f*r))<;>simp_all
  refine cC hE 2 (fun i (_:Unit)=>([(1,.ptr 1 0 0),(3,I i)],[.ints false .i8 zs,.cells true [I f,I r,.sl 0 0 zs.length none]])) zs.length (fun j _=>(zs.drop j).all okP=zs.all okP) () (by omega) (Ent.ren [0,1] [1,3] rfl rfl rfl) rfl ?_
  intro j i _ hij hj hz
  refine av (fun hlt=>?_) (fun hlt=>?_)
  ·have hlt':j<zs.length:=by simp at hlt;omega
   rw[yL hlt',show j=i.toNat by omega]at hz
   refine ae (by simp;omega) ?_
   repeat (first|(first|refine ah ?_|refine sat_nd ?_)|refine ae (by simp;omega) ?_)
   refine av (fun hon=>?_) (fun hon=>?_)
   ·have hon:(!okP (zs.getD i.toNat 0))=true:=hon
    have hon:okP (zs.getD i.toNat 0)=false:=by simpa using hon
    rw[hon]at hz
    exact ag (ag (ai (.inr rfl) rfl rfl rfl (by rw[<-sI,h,<-hz];rfl)))
   ·have hon:(!okP (zs.getD i.toNat 0))=false:=hon
    have hon:okP (zs.getD i.toNat 0)=true:=by simpa using hon
    rw[hon]at hz
    exact ag ⟨hlt',(),by rw[<-hz,show i.toNat=j by omega];rfl,Ent.ren [0,1] [1,3] rfl rfl rfl⟩
  ·obtain rfl:j=zs.length:=by simp at hlt;omega
   rw[List.drop_length]at hz
   have hz:zs.all okP=true:=hz.symm
   exact ag (ag (ai (.inr rfl) rfl rfl rfl (by rw[<-sI,h,hz];rfl)))
 ·cases e
def wH:CF
 |[.agg [.int .i64 f,.int .i64 r,.sl 0 0 len none]],[.ints false .i8 zs]=>some (decide (len=zs.length)&&decide (zs.length<=64),.bool (aW f r zs),[])
 |_,_=>none
theorem AL:CtOk (GGx kCa kDb) PP (35,wH):=by
 refine aD Tryz.func35 (by kernel_rfl) rfl fun a0 h0 c0 v0 N0 e hc=>?_
 unfold wH at e
 split at e
 ·rename_i f r len zs
  cases e
  have hE:=aA (kCa:=kCa) (kDb:=kDb) (cts:=[(78,mL),(79,qx)]) (inl:=[]) ⟨tR,wT,trivial⟩ trivial
  refine aq hE 2 Tryz.func35 rfl rfl ?_
  simp only[Bool.and_eq_true,decide_eq_true_eq]at hc
  obtain⟨rfl,hc2⟩:=hc
  repeat (first|refine ah ?_|refine sat_nd ?_)
  refine av (fun h=>?_) (fun h=>?_)
  ·have h:aC f r zs=false:=by simpa using h
   exact ag (ai (.inr rfl) rfl rfl rfl (by rw[<-vV,h];rfl))
  have h:aC f r zs=true:=by simpa using h
  refine cC hE 2 (fun i (_:Unit)=>([(1,.ptr 1 0 0),(3,I i)],[.ints false .i8 zs,.cells true [I f,I r,.sl 0 0 zs.length none]])) zs.length (fun j _=>(zs.drop j).all nnP=zs.all nnP) () (by omega) (Ent.ren [0,1] [1,3] rfl rfl rfl) rfl ?_
  intro j i _ hij hj hz
  refine av (fun hlt=>?_) (fun hlt=>?_)
  ·have hlt':j<zs.length:=by simp at hlt;omega
   rw[yL hlt',show j=i.toNat by omega]at hz
   refine ae (by simp;omega) ?_
   repeat (first|(first|refine ah ?_|refine sat_nd ?_)|refine ae (by simp;omega) ?_)
   refine av (fun hon=>?_) (fun hon=>?_)
   ·have hon:(!nnP (zs.getD i.toNat 0))=true:=(Bool.not_not _).trans hon
    have hon:nnP (zs.getD i.toNat 0)=false:=by simpa using hon
    rw[hon]at hz
    exact ag (ag (ai (.inr rfl) rfl rfl rfl (by rw[<-vV,h,show zs.all (fun p=>!norP p)=zs.all nnP from rfl,<-hz];rfl)))
   ·have hon:(!nnP (zs.getD i.toNat 0))=false:=(Bool.not_not _).trans hon
    have hon:nnP (zs.getD i.toNat 0)=true:=by simpa using hon
    rw[hon]at hz
    exact ag ⟨hlt',(),by rw[<-hz,show i.toNat=j by omega];rfl,Ent.ren [0,1] [1,3] rfl rfl rfl⟩
  ·obtain rfl:j=zs.length:=by simp at hlt;omega
   rw[List.drop_length]at hz
   have hz:zs.all nnP=true:=hz.symm
   exact ag (ag (ai (.inr rfl) rfl rfl rfl (by rw[<-vV,h,show zs.all (fun p=>!norP p)=zs.all nnP from rfl,hz];rfl)))
 ·cases e
def yI:CF
 |[.agg [.int .i64 _f,.int .i64 _r,.sl 0 0 len none],.int .i64 s],[.ints false .i8 zs]=>some (decide (len=zs.length)&&decide (zs.length<=64),.sl 1 0 (cF zs s).length none,[.ints true .i64 (cF zs s)])
 |_,_=>none
theorem ve:CtOk (GGx kCa kDb) PP (134,yI):=by
 refine aD Tryz.func134 (by kernel_rfl) rfl fun a0 h0 c0 v0 N0 e hc=>?_
 unfold yI at e
 split at e
 ·rename_i f r len s zs
  cases e
  have hE:=aA (kCa:=kCa) (kDb:=kDb) (cts:=[(139,lV)]) (inl:=[]) ⟨oE,trivial⟩ trivial
  refine aq hE 2 Tryz.func134 rfl rfl ?_
  simp only[Bool.and_eq_true,decide_eq_true_eq]at hc
  obtain⟨rfl,hc2⟩:=hc
  refine cC hE 2 (fun(i:Int) (ys:List Int)=>([(1,I s),(2,.ptr 1 0 0),(5,.sl 2 0 ys.length none),(6,I i)],[.ints false .i8 zs,.cells true [I f,I r,.sl 0 0 zs.length none],.ints true .i64 ys])) (zs.length) (fun j ys=>ys=cz (wK zs s) id j) [] (by omega) ((Ent.phanT (t:=5) (o:=.ints true .i64 []) rfl ⟨by simp,by simp,trivial,rfl⟩ (aH rfl)).trans (Ent.ren [0,1,2] [1,2,5,6] rfl rfl rfl)) rfl ?_
  intro j i ys hij hj hz
  have hb:=dh (wK zs s) id j
  rw[<-hz]at hb
  refine av (fun hlt=>?_) (fun hlt=>?_)
  ·have hlt':j<zs.length:=by simp only[decide_eq_true_eq]at hlt;omega
   have hs:=eF (wK zs s) id j
   rw[<-hz,<-hij]at hs
   repeat (first|(first|refine ah ?_|refine sat_nd ?_)|refine ae (by simp;omega) ?_)
   refine av (fun hon=>?_) (fun hon=>?_)
   ·skip
    have hon:wK zs s i=true:=hon
    rw[hon,cond_true]at hs
    refine ae (b:=decide (ys.length=ys.length)&&decide ((ys.length+1)*8<=140737488355328)&&true) (by simp;omega) ?_
    exact ag ⟨hlt',ys++[id i],hs.symm,Ent.ren [0,1,4] [1,2,5,6] rfl rfl rfl⟩
   ·skip
    have hon:wK zs s i=false:=hon
    rw[hon,cond_false]at hs
    exact ag ⟨hlt',ys,hs.symm,Ent.ren [0,1,2] [1,2,5,6] rfl rfl rfl⟩
  ·obtain rfl:j=zs.length:=by simp only[decide_eq_false_iff_not]at hlt;omega
   subst hz
   refine ag (ag ((bV 2 (.inr rfl) rfl rfl rfl rfl rfl rfl)))
 ·cases e
def vW:CF
 |[.agg [.int .i64 _f,.int .i64 _r,.sl 0 0 len none],.int .i8 p],[.ints false .i8 zs]=>some (decide (len=zs.length)&&decide (zs.length<=64),.sl 1 0 (iC zs p).length none,[.ints true .i64 (iC zs p)])
 |_,_=>none
theorem AP:CtOk (GGx kCa kDb) PP (80,vW):=by
 refine aD Tryz.func80 (by kernel_rfl) rfl fun a0 h0 c0 v0 N0 e hc=>?_
 unfold vW at e
 split at e
 ·rename_i f r len p zs
  cases e
  have hE:=aA (kCa:=kCa) (kDb:=kDb) (cts:=[]) (inl:=[]) trivial trivial
  refine aq hE 2 Tryz.func80 rfl rfl ?_
  simp only[Bool.and_eq_true,decide_eq_true_eq]at hc
  obtain⟨rfl,hc2⟩:=hc
  refine cC hE 2 (fun(i:Int) (ys:List Int)=>([(1,.int .i8 p),(2,.ptr 1 0 0),(5,.sl 2 0 ys.length none),(6,I i)],[.ints false .i8 zs,.cells true [I f,I r,.sl 0 0 zs.length none],.ints true .i64 ys])) (zs.length) (fun j ys=>ys=cz (lj zs p) id j) [] (by omega) ((Ent.phanT (t:=5) (o:=.ints true .i64 []) rfl ⟨by simp,by simp,trivial,rfl⟩ (aH rfl)).trans (Ent.ren [0,1,2] [1,2,5,6] rfl rfl rfl)) rfl ?_
  intro j i ys hij hj hz
  have hb:=dh (lj zs p) id j
  rw[<-hz]at hb
  refine av (fun hlt=>?_) (fun hlt=>?_)
  ·have hlt':j<zs.length:=by simp only[decide_eq_true_eq]at hlt;omega
   have hs:=eF (lj zs p) id j
   rw[<-hz,<-hij]at hs
   repeat (first|(first|refine ah ?_|refine sat_nd ?_)|refine ae (by simp;omega) ?_)
   refine av (fun hon=>?_) (fun hon=>?_)
   ·skip
    have hon:lj zs p i=true:=hon
    rw[hon,cond_true]at hs
    refine ae (b:=decide (ys.length=ys.length)&&decide ((ys.length+1)*8<=140737488355328)&&true) (by simp;omega) ?_
    exact ag ⟨hlt',ys++[id i],hs.symm,Ent.ren [0,1,4] [1,2,5,6] rfl rfl rfl⟩
   ·skip
    have hon:lj zs p i=false:=hon
    rw[hon,cond_false]at hs
    exact ag ⟨hlt',ys,hs.symm,Ent.ren [0,1,2] [1,2,5,6] rfl rfl rfl⟩
  ·obtain rfl:j=zs.length:=by simp only[decide_eq_false_iff_not]at hlt;omega
   subst hz
   refine ag (ag ((bV 2 (.inr rfl) rfl rfl rfl rfl rfl rfl)))
 ·cases e
end
end Go.Ab
namespace Go.Ab
open Go.Proofs
section
variable{kCa kDb:Bool}
theorem jv(l:List Int):(tk l).length=l.length:=by rw[aF]
theorem BX(l m:List Int)(h:l.length<=1000000)(h2:m.length<=1000000)(b:Bool)(hb:b=true):(decide ((tk l).length=(tk l).length)&&decide (((tk l).length+m.length)*8<=140737488355328)&&b)=true:=by rw[jv,hb];simp;omega
theorem Ii(zs:List Int)(h:zs.length<=64){L:List Int}{n:Nat}(hL:L=cF zs 1++cF zs (-1))(hn:n=L.length):(decide (n=((L.drop 0).take n).length)&&decide (((L.drop 0).take n).length<=1000000)&&((L.drop 0).take n).all fun x=>decide (0<=x))=true:=by
 subst hn
 have e:(L.drop 0).take L.length=L:=by simp
 rw[e]
 have h1:=gM zs 1
 have h2:=gM zs (-1)
 have h3:L.length<=1000000:=by rw[hL,List.length_append];omega
 simp only[decide_true,Bool.true_and,Bool.and_eq_true,decide_eq_true_eq,List.all_eq_true]
 refine⟨h3,fun x hx=>?_⟩
 rw[hL]at hx
 rcases List.mem_append.1 hx with hx|hx<;>exact(gP.1 hx).1
def Ep:CF
 |[.agg [.int .i64 _f,.int .i64 _r,.sl 0 0 len none]],[.ints false .i8 zs]=>some (decide (len=zs.length)&&decide (zs.length<=64),.int .u64 (occL zs),[])
 |_,_=>none
theorem qC:CtOk (GGx kCa kDb) PP (135,Ep):=by
 refine aD Tryz.func135 (by kernel_rfl) rfl fun a0 h0 c0 v0 N0 e hc=>?_
 unfold Ep at e
 split at e
 ·rename_i f r len zs
  cases e
  have hE:=aA (kCa:=kCa) (kDb:=kDb) (cts:=[(134,yI),(22,c_Of)]) (inl:=[]) ⟨ve,Df,trivial⟩ trivial
  refine aq hE 2 Tryz.func135 rfl rfl ?_
  simp only[Bool.and_eq_true,decide_eq_true_eq]at hc
  obtain⟨rfl,hc2⟩:=hc
  have l1:=gM zs 1
  have l2:=gM zs (-1)
  repeat (first|refine ah ?_|refine sat_nd ?_)
  refine ae (by
   refine BX (cF (tk zs) 1) (cF (tk zs) (-1)) ?_ ?_ _ rfl<;>simp only[aF]<;>omega) ?_
  refine ae (by
   refine Ii zs hc2 (L:=tk (cF (tk zs) 1)++tk (cF (tk zs) (-1))) ?_ rfl
   simp only[aF]) ?_
  refine ag (ai (.inr rfl) rfl rfl rfl ?_)
  show U (ofL (tk (tk (cF (tk zs) 1)++tk (cF (tk zs) (-1)))) 0)=_
  simp only[aF]
  rfl
 ·cases e
end
section
variable{kCa kDb:Bool}
theorem FX{c:Int->Bool}{n m:Nat}(h:n<=1000000)(hm:m=(cz c id n).length):(decide (m=(((cz c id n).drop 0).take m).length)&&decide ((((cz c id n).drop 0).take m).length<=1000000))=true:=by
 subst hm
 have:=dh c id n
 have e:((cz c id n).drop 0).take (cz c id n).length=cz c id n:=by simp
 rw[e];simp;omega
theorem Gt{zs:List Int}{s:Int}{i:Nat}(h:i<(cF (tk zs) s).length):0<=(cF (tk zs) s).getD i 0/\(cF (tk zs) s).getD i 0<zs.length:=by
 rw[aF]at h ⊢
 have hm:(cF zs s).getD i 0∈cF zs s:=by simp[List.getD,h]
 have:=gP.1 hm
 exact⟨this.1,this.2.1⟩
def nQ:CF
 |[.agg [.int .i64 f,.int .i64 r,.sl 0 0 len none],.int .i64 i,.int .i64 to,.int .u64 occ],[.ints false .i8 zs]=>some (decide (len=zs.length)&&decide (zs.length<=64)&&decide (0<=i)&&decide (i<zs.length)&&vsB f r,.bool (xk f r zs i to occ),[])
 |_,_=>none
theorem tg:CtOk (GGx kCa kDb) PP (136,nQ):=by
 refine aD Tryz.func136 (by kernel_rfl) rfl fun a0 h0 c0 v0 N0 e hc=>?_
 unfold nQ at e
 split at e
 ·rename_i f r len i to occ zs
  cases e
  have hE:=aA (kCa:=kCa) (kDb:=kDb) (cts:=[(38,fj),(161,iY),(160,CD),(162,jR)]) (inl:=[]) ⟨dR,lJ,Cu,lH,trivial⟩ trivial
  refine aq hE 2 Tryz.func136 rfl rfl ?_
  simp only[Bool.and_eq_true,decide_eq_true_eq]at hc
  obtain⟨⟨⟨⟨rfl,hc2⟩,hi1⟩,hi2⟩,hv⟩:=hc
  have hf:=cZ hv
  have hm:=gu hv
  have hf0:(!decide (f=0))=true:=by simp;omega
  repeat (first|(first|refine ah ?_|refine sat_nd ?_)|refine ae (by simp;omega) ?_)
  refine av (fun h=>?_) (fun h=>?_)
  ·have h:decide (aY (zs.getD i.toNat 0)=1)=true:=h
   refine ae hv ?_
   repeat (first|refine ah ?_|refine sat_nd ?_)
   refine ae (FX (by omega) rfl) ?_
   refine ag (ai (.inr rfl) rfl rfl rfl ?_)
   show V.bool (hasL to (tk (cz (ei f (decide (zs.getD i.toNat 0<0)) i) id (f*r).toNat)))=_
   rw[aF,xk,h];rfl
  ·have h:decide (aY (zs.getD i.toNat 0)=1)=false:=h
   repeat (first|(first|refine ah ?_|refine sat_nd ?_)|refine ae (by rw[hf0];exact Bool.or_true _) ?_)
   exact ag (ai (.inr rfl) rfl rfl rfl (by rw[xk,h];rfl))
 ·cases e
def dW:CF
 |[.agg [.int .i64 f,.int .i64 r,.sl 0 0 len none],.int .i64 to,.bool bl],[.ints false .i8 zs]=>some (decide (len=zs.length)&&decide (zs.length<=64)&&vsB f r,.sl 1 0 (attL f r zs to bl).length none,[.ints true .i64 (attL f r zs to bl)])
 |_,_=>none
theorem fM:CtOk (GGx kCa kDb) PP (82,dW):=by
 refine aD Tryz.func82 (by kernel_rfl) rfl fun a0 h0 c0 v0 N0 e hc=>?_
 unfold dW at e
 split at e
 ·rename_i f r len to bl zs
  cases e
  have hE:=aA (kCa:=kCa) (kDb:=kDb) (cts:=[(81,qh),(134,yI),(135,Ep),(136,nQ)]) (inl:=[]) ⟨pX,ve,qC,tg,trivial⟩ trivial
  refine aq hE 2 Tryz.func82 rfl rfl ?_
  simp only[Bool.and_eq_true,decide_eq_true_eq]at hc
  obtain⟨⟨rfl,hc2⟩,hv⟩:=hc
  have hsl:(cF (tk zs) (sdI bl)).length<=zs.length:=by rw[aF];exact gM zs (sdI bl)
  repeat (first|refine ah ?_|refine sat_nd ?_)
  refine cC hE 2 (fun(i:Int) (ys:List Int)=>([(1,I to),(3,.ptr 1 0 0),(7,.sl 3 0 ys.length none),(8,.sl 2 0 (cF (tk zs) (sdI bl)).length none),(9,U (occL (tk zs))),(10,I i)],[.ints false .i8 zs,.cells true [I f,I r,.sl 0 0 zs.length none],.ints true .i64 (cF (tk zs) (sdI bl)),.ints true .i64 ys])) (cF (tk zs) (sdI bl)).length (fun j ys=>ys=((cF (tk zs) (sdI bl)).take j).filter (Bf f r (tk zs) to (occL (tk zs)))) [] (by omega) ((Ent.phanT (t:=7) (o:=.ints true .i64 []) rfl ⟨by simp,by simp,trivial,rfl⟩ (aH rfl)).trans (Ent.ren [0,1,2,3] [1,3,7,8,9,10] rfl rfl rfl)) rfl ?_
  intro j i ys hij hj hz
  have hb:ys.length<=j:=by rw[hz];exact Nat.le_trans (List.length_filter_le _ _) (by rw[List.length_take];omega)
  refine av (fun hlt=>?_) (fun hlt=>?_)
  ·have hlt':j<(cF (tk zs) (sdI bl)).length:=by simp only[decide_eq_true_eq]at hlt;omega
   have hs:=Cc (C:=Bf f r (tk zs) to (occL (tk zs))) hlt'
   have hgl:=Gt (zs:=zs) (s:=sdI bl) (i:=i.toNat) (by omega)
   have hil:(decide (0<=i)&&decide (i<((cF (tk zs) (sdI bl)).length:Int)))=true:=by simp only[Bool.and_eq_true,decide_eq_true_eq];omega
   rw[<-hz,show j=i.toNat by omega]at hs
   repeat (first|(first|refine ah ?_|refine sat_nd ?_)|refine ae hil ?_)
   refine ae (by
    simp only[Bool.and_eq_true,decide_eq_true_eq]
    rw[jv]
    exact⟨⟨⟨⟨by first|rfl|trivial,hc2⟩,hgl.1⟩,hgl.2⟩,hv⟩) ?_
   refine av (fun hon=>?_) (fun hon=>?_)
   ·skip
    have hon:Bf f r (tk zs) to (occL (tk zs)) ((cF (tk zs) (sdI bl)).getD i.toNat 0)=true:=hon
    rw[hon,cond_true]at hs
    refine ae (by simp;omega) ?_
    refine ae (b:=decide (ys.length=ys.length)&&decide ((ys.length+1)*8<=140737488355328)&&true) (by simp;omega) ?_
    exact ag ⟨hlt',ys++[(cF (tk zs) (sdI bl)).getD i.toNat 0],by rw[show j+1=i.toNat+1 by omega];exact hs,Ent.ren [0,1,2,5] [1,3,7,8,9,10] rfl rfl rfl⟩
   ·skip
    have hon:Bf f r (tk zs) to (occL (tk zs)) ((cF (tk zs) (sdI bl)).getD i.toNat 0)=false:=hon
    rw[hon,cond_false]at hs
    exact ag ⟨hlt',ys,by rw[show j+1=i.toNat+1 by omega];exact hs,Ent.ren [0,1,2,3] [1,3,7,8,9,10] rfl rfl rfl⟩
  ·obtain rfl:j=(cF (tk zs) (sdI bl)).length:=by simp only[decide_eq_false_iff_not]at hlt;omega
   rw[List.take_length]at hz
   subst hz
   refine ag (ag (bV 3 (.inr rfl) rfl rfl rfl rfl (by simp only[aF];rfl) (by simp only[aF];rfl)))
 ·cases e
end
end Go.Ab
namespace Go.Ab
open IntKind
open Go.Proofs
section
variable{kCa kDb:Bool}
theorem aG{zs:List Int}(h:zs.length<=64){n:Nat}(hn:n=zs.length):(decide (n=(tk zs).length)&&decide ((tk zs).length<=64))=true:=by rw[jv,hn];simp;omega
theorem aJ{zs:List Int}(h:zs.length<=64){n:Nat}(hn:n=zs.length){b:Bool}(hb:b=true):(decide (n=(tk zs).length)&&decide ((tk zs).length<=64)&&b)=true:=by rw[jv,hn,hb];simp;omega
def gN:CF
 |[.agg [.int .i64 _f,.int .i64 _r,.sl 0 0 len none],.bool bl],[.ints false .i8 zs]=>some (decide (len=zs.length)&&decide (zs.length<=64),.int .i64 (aV zs bl),[])
 |_,_=>none
theorem gR:CtOk (GGx kCa kDb) PP (36,gN):=by
 refine aD Tryz.func36 (by kernel_rfl) rfl fun a0 h0 c0 v0 N0 e hc=>?_
 unfold gN at e
 split at e
 ·rename_i f r len bl zs
  cases e
  have hE:=aA (kCa:=kCa) (kDb:=kDb) (cts:=[(81,qh),(80,vW)]) (inl:=[]) ⟨pX,AP,trivial⟩ trivial
  refine aq hE 2 Tryz.func36 rfl rfl ?_
  simp only[Bool.and_eq_true,decide_eq_true_eq]at hc
  obtain⟨rfl,hc2⟩:=hc
  repeat (first|refine ah ?_|refine sat_nd ?_)
  refine av (fun h=>?_) (fun h=>?_)
  ·have h:(!decide (((iC (tk zs) (w8 (i64.wrap (6*sdI bl)))).length:Int)=1))=true:=h
   rw[aF,Bool.not_eq_true']at h
   exact ag (ai (.inr rfl) rfl rfl rfl (by rw[aV,h];rfl))
  ·have h:(!decide (((iC (tk zs) (w8 (i64.wrap (6*sdI bl)))).length:Int)=1))=false:=h
   rw[aF,Bool.not_eq_false']at h
   have hl:((iC (tk zs) (w8 (i64.wrap (6*sdI bl)))).length:Int)=1:=by rw[aF];exact of_decide_eq_true h
   refine ae (by
    show (decide ((0:Int)<=0)&&decide ((0:Int)<((iC (tk zs) (w8 (i64.wrap (6*sdI bl)))).length:Int)))=true
    rw[hl];rfl) ?_
   exact ag (ai (.inr rfl) rfl rfl rfl (by
    show I ((iC (tk zs) (w8 (i64.wrap (6*sdI bl)))).getD 0 0)=_
    rw[aF,aV,h];rfl))
 ·cases e
end
section
variable{kCa kDb:Bool}
theorem fB{f r n:Int}(h:aj f r n=true):i64.wrap (n.tdiv f)=py f n/\0<=px f n/\px f n<f/\0<=py f n/\py f n<r/\px f n+py f n*f=n/\3<=f/\f<=8/\3<=r/\r<=8:=by
 have:=eX h
 have h2:=AY h
 exact⟨this.2.2.2.2.1,this.1,this.2.1,this.2.2.1,this.2.2.2.1,h2,this.2.2.2.2.2⟩
theorem ta{f r:Int}{zs:List Int}{pa:Int}{bl g1 g2:Bool}(h:aC f r zs=true):(!(g1&&g2&&aj f r pa&&decide (i64.wrap (pa.tdiv f)=rkP r bl))||(decide (0<=pa)&&decide (pa<zs.length)))=true:=by
 cases hv:aj f r pa with
 |false=>simp
 |true=>have:=(bQ h).1 hv;simp[this.1,this.2]
theorem jl{f r:Int}{zs:List Int}{pa:Int}{bl:Bool}(h:aC f r zs=true)(hr:6<=r)(hv:aj f r pa=true)(hk:i64.wrap (pa.tdiv f)=rkP r bl):0<=pa-f/\pa+f<zs.length/\i64.wrap (pa-f)=pa-f/\i64.wrap (pa+f)=pa+f/\i64.wrap (0-f)=-f/\i64.wrap (pa - -f)=pa+f/\i64.wrap (pa+-f)=pa-f:=by
 obtain⟨h1,h2,h3,h4,h5,h6,h7⟩:=fB hv
 have hl:=(bh h).2
 rw[h1]at hk
 have hw:i64.wrap (r-3)=r-3:=aI (by omega) (by omega)
 have hpy:1<=py f pa/\py f pa+1<r:=by
  cases bl
  ·simp only[rkP,cond_false,hw]at hk;omega
  ·simp only[rkP,cond_true]at hk;omega
 have a1:1*f<=py f pa*f:=Int.mul_le_mul_of_nonneg_right hpy.1 (by omega)
 have a2:(py f pa+1+1)*f<=r*f:=Int.mul_le_mul_of_nonneg_right (by omega) (by omega)
 rw[Int.add_mul,Int.add_mul,Int.mul_comm r f]at a2
 have hlt:=(aS hv)
 exact⟨by omega,by omega,aI (by omega) (by omega),aI (by omega) (by omega),by rw[Int.zero_sub];exact aI (by omega) (by omega),by rw[Int.sub_neg];exact aI (by omega) (by omega),by rw[<-Int.sub_eq_add_neg];exact aI (by omega) (by omega)⟩
theorem gW{f:Int}{g:Bool}(h:f≠0):(!g||!decide (f=0))=true:=by simp[h]
theorem MZ{f r:Int}{zs:List Int}{pa ha:Int}{bl x:Bool}(h:aC f r zs=true):(!(decide (6<=r)&&decide (ha=0)&&aj f r pa&&decide (i64.wrap (pa.tdiv f)=rkP r bl)&&x)||(decide (0<=i64.wrap (pa-upP f bl))&&decide (i64.wrap (pa-upP f bl)<zs.length)))=true:=by
 cases hg:(decide (6<=r)&&decide (ha=0)&&aj f r pa&&decide (i64.wrap (pa.tdiv f)=rkP r bl)) with
 |false=>simp
 |true=>
  simp only[Bool.and_eq_true,decide_eq_true_eq]at hg
  obtain⟨h1,h2,h3,h4,h5,h6,h7⟩:=jl (bl:=bl) h hg.1.1.1 hg.1.2 hg.2
  have hfr:=cZ (bh h).1
  cases bl
  ·rw[Bool.or_eq_true];right
   simp only[upP,cond_false,h5,h6,Bool.and_eq_true,decide_eq_true_eq];omega
  ·rw[Bool.or_eq_true];right
   simp only[upP,cond_true,h3,Bool.and_eq_true,decide_eq_true_eq];omega
theorem Nb{f r:Int}{zs:List Int}{pa ha:Int}{bl x y:Bool}(h:aC f r zs=true):(!(decide (6<=r)&&decide (ha=0)&&aj f r pa&&decide (i64.wrap (pa.tdiv f)=rkP r bl)&&x&&y)||(decide (0<=i64.wrap (pa+upP f bl))&&decide (i64.wrap (pa+upP f bl)<zs.length)))=true:=by
 cases hg:(decide (6<=r)&&decide (ha=0)&&aj f r pa&&decide (i64.wrap (pa.tdiv f)=rkP r bl)) with
 |false=>simp
 |true=>
  simp only[Bool.and_eq_true,decide_eq_true_eq]at hg
  obtain⟨h1,h2,h3,h4,h5,h6,h7⟩:=jl (bl:=bl) h hg.1.1.1 hg.1.2 hg.2
  have hfr:=cZ (bh h).1
  cases bl
  ·rw[Bool.or_eq_true];right
   simp only[upP,cond_false,h5,h7,Bool.and_eq_true,decide_eq_true_eq];omega
  ·rw[Bool.or_eq_true];right
   simp only[upP,cond_true,h4,Bool.and_eq_true,decide_eq_true_eq];omega
def wo:CF
 |[.sl 0 0 len none],[.ints false .i8 zs]=>some (decide (len=zs.length)&&decide (zs.length<=64),.sl 1 0 zs.length none,[.ints true .i8 zs])
 |_,_=>none
theorem Bl:CtOk (GGx kCa kDb) PP (107,wo):=by
 refine aD Tryz.func107 (by kernel_rfl) rfl fun a0 h0 c0 v0 N0 e hc=>?_
 unfold wo at e
 split at e
 ·rename_i len zs
  cases e
  have hE:=aA (kCa:=kCa) (kDb:=kDb) (cts:=[]) (inl:=[]) trivial trivial
  refine nI hE 2 Tryz.func107 rfl rfl ?_
  simp only[Bool.and_eq_true,decide_eq_true_eq]at hc
  obtain⟨rfl,hc2⟩:=hc
  refine DD (fun h0=>?_) ?_
  ·refine av (fun _=>?_) (fun h=>(by cases h))
   have hz:zs=[]:=List.eq_nil_of_length_eq_zero h0
   subst hz
   exact ag (GM (Ent.phanT (t:=2) (o:=.ints true .i8 []) rfl ⟨by simp,by simp,trivial,rfl⟩ (aH rfl)) (bV 1 (.inr rfl) rfl rfl rfl rfl rfl rfl))
  ·refine av (fun h=>(by cases h)) (fun _=>?_)
   refine ae (b:=?B) ?_ ?_
   ·show (decide (0=0)&&decide ((0+zs.length)*1<=140737488355328)&&true)=true
    simp;omega
   exact ag (GM (Ent.refl _ _ _) (bV 2 (.inr rfl) rfl rfl rfl rfl (by show [O.ints true .i8 (tk zs)]=_;rw[aF]) (by show V.sl 1 0 (tk zs).length none=_;rw[aF])))
 ·cases e
def ny:CF
 |[.agg [.int .i64 f,.int .i64 r,.sl 0 0 len none,.bool bl,.int .u8 ca,.int .i64 pa,.int .i64 ha,.int .i64 fu]],[.ints false .i8 zs]=>some (decide (len=zs.length)&&decide (zs.length<=64),.agg [I f,I r,.sl 1 0 zs.length none,Bb bl,.int .u8 ca,I pa,I ha,I fu],[.ints true .i8 zs])
 |_,_=>none
theorem ke:CtOk (GGx kCa kDb) PP (60,ny):=by
 refine aD Tryz.func60 (by kernel_rfl) rfl fun a0 h0 c0 v0 N0 e hc=>?_
 unfold ny at e
 split at e
 ·rename_i f r len bl ca pa ha fu zs
  cases e
  have hE:=aA (kCa:=kCa) (kDb:=kDb) (cts:=[(107,wo)]) (inl:=[]) ⟨Bl,trivial⟩ trivial
  refine aq hE 2 Tryz.func60 rfl rfl ?_
  simp only[Bool.and_eq_true,decide_eq_true_eq]at hc
  obtain⟨rfl,hc2⟩:=hc
  repeat (first|(first|refine ah ?_|refine sat_nd ?_)|refine ae (aG hc2 rfl) ?_)
  exact ag (bV 3 (.inr rfl) rfl rfl rfl rfl (by show [O.ints true .i8 (tk zs)]=_;rw[aF]) (by show V.agg [I f,I r,.sl 1 0 (tk zs).length none,Bb bl,.int .u8 ca,I pa,I ha,I fu]=_;rw[aF]))
 ·cases e
def vp:CF
 |[.agg [.int .i64 f,.int .i64 r,.sl 0 0 len none,.bool bl,.int .u8 _ca,.int .i64 pa,.int .i64 ha,.int .i64 _fu]],[.ints false .i8 zs]=>some (decide (len=zs.length)&&decide (zs.length<=64)&&aC f r zs,.bool (kV f r zs bl pa ha),[])
 |_,_=>none
theorem AR:CtOk (GGx kCa kDb) PP (75,vp):=by
 refine aD Tryz.func75 (by kernel_rfl) rfl fun a0 h0 c0 v0 N0 e hc=>?_
 unfold vp at e
 split at e
 ·rename_i f r len bl ca pa ha fu zs
  cases e
  have hE:=aA (kCa:=kCa) (kDb:=kDb) (cts:=[(101,eK),(131,GH)]) (inl:=[]) ⟨cS,zi,trivial⟩ trivial
  refine aq hE 2 Tryz.func75 rfl rfl ?_
  simp only[Bool.and_eq_true,decide_eq_true_eq]at hc
  obtain⟨⟨rfl,hc2⟩,hbd⟩:=hc
  refine av (fun h=>?_) (fun h=>?_)
  ·have h:decide (pa=-1)=true:=h
   exact ag (ai (.inr rfl) rfl rfl rfl (by rw[kV,h];rfl))
  have h:decide (pa=-1)=false:=h
  have hf:f≠0:=by have:=cZ (bh hbd).1;omega
  refine av (fun h1=>?_) (fun h1=>?_)
  ·have h1:bl=false:=by simpa using h1
   subst h1
   repeat (first|(first|refine ah ?_|refine sat_nd ?_)|refine ae (gW hf) ?_|refine ae (ta (bl:=false) hbd) ?_|refine ae (MZ (bl:=false) hbd) ?_|refine ae (Nb (bl:=false) hbd) ?_)
   exact ag (ai (.inr rfl) rfl rfl rfl (by rw[kV,h];rfl))
  ·have h1:bl=true:=by simpa using h1
   subst h1
   repeat (first|(first|refine ah ?_|refine sat_nd ?_)|refine ae (gW hf) ?_|refine ae (ta (bl:=true) hbd) ?_|refine ae (MZ (bl:=true) hbd) ?_|refine ae (Nb (bl:=true) hbd) ?_)
   exact ag (ai (.inr rfl) rfl rfl rfl (by rw[kV,h];rfl))
 ·cases e
theorem GS{f r:Int}{zs:List Int}{g:Bool}(h:aC f r zs=true)(_hz:zs.length<=64):(!g||(decide (0<=f)&&decide (f<=zs.length)&&decide ((zs.length:Int)<=zs.length)))=true:=by
 obtain⟨h1,h2⟩:=bh h
 have:=cZ h1
 have:1*f<=r*f:=Int.mul_le_mul_of_nonneg_right (by omega) (by omega)
 rw[Int.mul_comm r f]at this
 simp;omega
theorem IP{f r:Int}{zs:List Int}(h:aC f r zs=true)(hz:zs.length<=64):i64.wrap ((zs.length:Int)-f)=(zs.length:Int)-f/\0<=(zs.length:Int)-f/\3<=f:=by
 obtain⟨h1,h2⟩:=bh h
 have:=cZ h1
 have:1*f<=r*f:=Int.mul_le_mul_of_nonneg_right (by omega) (by omega)
 rw[Int.mul_comm r f]at this
 exact⟨aI (by omega) (by omega),by omega,by omega⟩
theorem DX{f r:Int}{zs:List Int}(h:aC f r zs=true)(hz:zs.length<=64):(decide (0<=i64.wrap ((zs.length:Int)-f))&&decide (i64.wrap ((zs.length:Int)-f)<=zs.length)&&decide ((zs.length:Int)<=zs.length))=true:=by
 obtain⟨h1,h2,h3⟩:=IP h hz
 rw[h1]
 simp only[Bool.and_eq_true,decide_eq_true_eq]
 omega
theorem Gd{zs:List Int}{a m:Nat}(h:m=zs.length)(hz:zs.length<=64):(decide (m-a=((zs.drop a).take (m-a)).length)&&decide (((zs.drop a).take (m-a)).length<=1000000))=true:=by
 simp only[Bool.and_eq_true,decide_eq_true_eq,List.length_take,List.length_drop]
 omega
theorem FH{zs:List Int}{b m:Nat}{g:Bool}(h:m<=zs.length)(hz:zs.length<=64):(!g||(decide (m-0=((zs.drop 0).take (m-0)).length)&&decide (((zs.drop 0).take (m-0)).length<=1000000)))=true/\b=b:=by
 rw[Bool.or_eq_true]
 refine⟨.inr ?_,rfl⟩
 simp only[Bool.and_eq_true,decide_eq_true_eq,List.length_take,List.length_drop]
 omega
def qq:CF
 |[.agg [.int .i64 f,.int .i64 r,.sl 0 0 len none,.bool _bl,.int .u8 _ca,.int .i64 _pa,.int .i64 _ha,.int .i64 _fu]],[.ints false .i8 zs]=>some (decide (len=zs.length)&&decide (zs.length<=64)&&aC f r zs,.bool (oa f zs),[])
 |_,_=>none
theorem wI:CtOk (GGx kCa kDb) PP (71,qq):=by
 refine aD Tryz.func71 (by kernel_rfl) rfl fun a0 h0 c0 v0 N0 e hc=>?_
 unfold qq at e
 split at e
 ·rename_i f r len bl ca pa ha fu zs
  cases e
  have hE:=aA (kCa:=kCa) (kDb:=kDb) (cts:=[(92,iw)]) (inl:=[]) ⟨jW,trivial⟩ trivial
  refine aq hE 2 Tryz.func71 rfl rfl ?_
  simp only[Bool.and_eq_true,decide_eq_true_eq]at hc
  obtain⟨⟨rfl,hc2⟩,hbd⟩:=hc
  obtain⟨hw1,hw2,hw3⟩:=IP hbd hc2
  have hfl:f.toNat<=zs.length:=by omega
  repeat (first|(first|refine ah ?_|refine sat_nd ?_)|refine ae (GS hbd hc2) ?_|refine ae (DX hbd hc2) ?_|refine ae (Gd rfl hc2) ?_|refine ae (FH (b:=0) hfl hc2).1 ?_)
  refine ag (ai (.inr rfl) rfl rfl rfl (congrArg V.bool ?_))
  show (!((zs.drop (i64.wrap ((zs.length:Int)-f)).toNat).take (zs.length-(i64.wrap ((zs.length:Int)-f)).toNat)).any (isV 1)&&!((zs.drop 0).take (f.toNat-0)).any (isV (-1)))=_
  rw[hw1,oa,show ((zs.length:Int)-f).toNat=zs.length-f.toNat by omega,List.drop_zero,Nat.sub_zero,List.take_of_length_le (by simp)]
 ·cases e
def rJ:CF
 |[.agg [.int .i64 f,.int .i64 r,.sl 0 0 len none,.bool bl,.int .u8 _ca,.int .i64 _pa,.int .i64 _ha,.int .i64 _fu]],[.ints false .i8 zs]=>some (decide (len=zs.length)&&decide (zs.length<=64),.bool (fI f r zs bl),[])
 |_,_=>none
theorem wR:CtOk (GGx kCa kDb) PP (69,rJ):=by
 refine aD Tryz.func69 (by kernel_rfl) rfl fun a0 h0 c0 v0 N0 e hc=>?_
 unfold rJ at e
 split at e
 ·rename_i f r len bl ca pa ha fu zs
  cases e
  have hE:=aA (kCa:=kCa) (kDb:=kDb) (cts:=[(49,uY),(28,fJ)]) (inl:=[]) ⟨nK,fZ,trivial⟩ trivial
  refine aq hE 2 Tryz.func69 rfl rfl ?_
  simp only[Bool.and_eq_true,decide_eq_true_eq]at hc
  obtain⟨rfl,hc2⟩:=hc
  repeat (first|(first|refine ah ?_|refine sat_nd ?_)|refine ae (aG hc2 rfl) ?_)
  refine ag (ai (.inr rfl) rfl rfl rfl (congrArg V.bool ?_))
  show (decide ((bW f r (tk zs) bl).2=0)&&decide ((bM f r (tk zs) (!bl)).2=0)&&decide ((bM f r (tk zs) (!bl)).1=0))=_
  rw[aF];rfl
 ·cases e
end
end Go.Ab
namespace Go.Ab
open Go.Proofs
section
variable{kCa kDb:Bool}
def dZ:CF
 |[.agg [.int .i64 f,.int .i64 r,.sl 0 0 len none,.bool bl,.int .u8 ca,.int .i64 pa,.int .i64 ha,.int .i64 fu]],[.ints false .i8 zs]=>some (decide (len=zs.length)&&decide (zs.length<=64),.bool (Psn.ok ⟨f,r,zs,bl,ca,pa,ha,fu⟩),[])
 |_,_=>none
theorem cM:CtOk (GGx kCa kDb) PP (33,dZ):=by
 refine aD Tryz.func33 (by kernel_rfl) rfl fun a0 h0 c0 v0 N0 e hc=>?_
 unfold dZ at e
 split at e
 ·rename_i f r len bl ca pa ha fu zs
  cases e
  have hE:=aA (kCa:=kCa) (kDb:=kDb) (cts:=[(67,jL),(69,rJ),(71,qq),(73,kZ),(75,vp)]) (inl:=[(66,Tryz.f66),(68,Tryz.f68),(70,Tryz.f70),(72,Tryz.f72),(74,Tryz.f74),(76,Tryz.f76)]) ⟨iQ,wR,wI,qS,AR,trivial⟩ ⟨⟨Tryz.func66,by kernel_rfl⟩,⟨Tryz.func68,by kernel_rfl⟩,⟨Tryz.func70,by kernel_rfl⟩,⟨Tryz.func72,by kernel_rfl⟩,⟨Tryz.func74,by kernel_rfl⟩,⟨Tryz.func76,by kernel_rfl⟩,trivial⟩
  refine aq hE 3 Tryz.func33 rfl rfl ?_
  simp only[Bool.and_eq_true,decide_eq_true_eq]at hc
  obtain⟨rfl,hc2⟩:=hc
  repeat (first|refine ah ?_|refine sat_nd ?_)
  refine dx hE 3 7 ?_
  refine rnd ?_
  refine cL (by rfl) ?_
  repeat (first|(first|refine ah ?_|refine sat_nd ?_)|refine ae (aG hc2 rfl) ?_)
  refine av (fun h0=>?_) (fun h0=>?_)
  ·have h0:(!aC f r (tk zs))=true:=h0
   rw[aF,Bool.not_eq_true']at h0
   exact ag (ag (ai (.inr rfl) rfl rfl rfl (by simp[Psn.ok,h0])))
  have h0:(!aC f r (tk zs))=false:=h0
  have h0t:aC f r (tk zs)=true:=by simpa using h0
  rw[aF,Bool.not_eq_false']at h0
  refine ag ⟨[(1,.ptr 1 0 0),(13,.sl 2 0 6 none),(14,I 6),(15,I 1)],[.ints false .i8 zs,.cells true [I f,I r,.sl 0 0 zs.length none,Bb bl,.int .u8 ca,I pa,I ha,I fu],.vals true 1 [[.fn 66 [.ptr 1 0 0]],[.fn 68 [.ptr 1 0 0]],[.fn 70 [.ptr 1 0 0]],[.fn 72 [.ptr 1 0 0]],[.fn 74 [.ptr 1 0 0]],[.fn 76 [.ptr 1 0 0]]]],Ent.ren [0,1,2] [1,13,14,15] rfl rfl rfl,?_⟩
  refine rnd ?_
  refine cL (by rfl) ?_
  repeat (first|(first|refine ah ?_|refine sat_nd ?_)|refine ae (aG hc2 rfl) ?_|refine ae (aJ hc2 rfl h0t) ?_)
  refine av (fun h1=>?_) (fun h1=>?_)
  ·have h1:(!fI f r (tk zs) bl)=true:=h1
   rw[aF,Bool.not_eq_true']at h1
   exact ag (ag (ai (.inr rfl) rfl rfl rfl (by simp[Psn.ok,h0,h1])))
  have h1:(!fI f r (tk zs) bl)=false:=h1
  rw[aF,Bool.not_eq_false']at h1
  refine ag ⟨[(1,.ptr 1 0 0),(13,.sl 2 0 6 none),(14,I 6),(15,I 2)],[.ints false .i8 zs,.cells true [I f,I r,.sl 0 0 zs.length none,Bb bl,.int .u8 ca,I pa,I ha,I fu],.vals true 1 [[.fn 66 [.ptr 1 0 0]],[.fn 68 [.ptr 1 0 0]],[.fn 70 [.ptr 1 0 0]],[.fn 72 [.ptr 1 0 0]],[.fn 74 [.ptr 1 0 0]],[.fn 76 [.ptr 1 0 0]]]],Ent.ren [0,1,2] [1,13,14,15] rfl rfl rfl,?_⟩
  refine rnd ?_
  refine cL (by rfl) ?_
  repeat (first|(first|refine ah ?_|refine sat_nd ?_)|refine ae (aG hc2 rfl) ?_|refine ae (aJ hc2 rfl h0t) ?_)
  refine av (fun h2=>?_) (fun h2=>?_)
  ·have h2:(!oa f (tk zs))=true:=h2
   rw[aF,Bool.not_eq_true']at h2
   exact ag (ag (ai (.inr rfl) rfl rfl rfl (by simp[Psn.ok,h0,h1,h2])))
  have h2:(!oa f (tk zs))=false:=h2
  rw[aF,Bool.not_eq_false']at h2
  refine ag ⟨[(1,.ptr 1 0 0),(13,.sl 2 0 6 none),(14,I 6),(15,I 3)],[.ints false .i8 zs,.cells true [I f,I r,.sl 0 0 zs.length none,Bb bl,.int .u8 ca,I pa,I ha,I fu],.vals true 1 [[.fn 66 [.ptr 1 0 0]],[.fn 68 [.ptr 1 0 0]],[.fn 70 [.ptr 1 0 0]],[.fn 72 [.ptr 1 0 0]],[.fn 74 [.ptr 1 0 0]],[.fn 76 [.ptr 1 0 0]]]],Ent.ren [0,1,2] [1,13,14,15] rfl rfl rfl,?_⟩
  refine rnd ?_
  refine cL (by rfl) ?_
  repeat (first|(first|refine ah ?_|refine sat_nd ?_)|refine ae (aG hc2 rfl) ?_|refine ae (aJ hc2 rfl h0t) ?_)
  refine av (fun h3=>?_) (fun h3=>?_)
  ·have h3:(!fy f r (tk zs) ca)=true:=h3
   rw[aF,Bool.not_eq_true']at h3
   exact ag (ag (ai (.inr rfl) rfl rfl rfl (by simp[Psn.ok,h0,h1,h2,h3])))
  have h3:(!fy f r (tk zs) ca)=false:=h3
  rw[aF,Bool.not_eq_false']at h3
  refine ag ⟨[(1,.ptr 1 0 0),(13,.sl 2 0 6 none),(14,I 6),(15,I 4)],[.ints false .i8 zs,.cells true [I f,I r,.sl 0 0 zs.length none,Bb bl,.int .u8 ca,I pa,I ha,I fu],.vals true 1 [[.fn 66 [.ptr 1 0 0]],[.fn 68 [.ptr 1 0 0]],[.fn 70 [.ptr 1 0 0]],[.fn 72 [.ptr 1 0 0]],[.fn 74 [.ptr 1 0 0]],[.fn 76 [.ptr 1 0 0]]]],Ent.ren [0,1,2] [1,13,14,15] rfl rfl rfl,?_⟩
  refine rnd ?_
  refine cL (by rfl) ?_
  repeat (first|(first|refine ah ?_|refine sat_nd ?_)|refine ae (aG hc2 rfl) ?_|refine ae (aJ hc2 rfl h0t) ?_)
  refine av (fun h4=>?_) (fun h4=>?_)
  ·have h4:(!kV f r (tk zs) bl pa ha)=true:=h4
   rw[aF,Bool.not_eq_true']at h4
   exact ag (ag (ai (.inr rfl) rfl rfl rfl (by simp[Psn.ok,h0,h1,h2,h3,h4])))
  have h4:(!kV f r (tk zs) bl pa ha)=false:=h4
  rw[aF,Bool.not_eq_false']at h4
  refine ag ⟨[(1,.ptr 1 0 0),(13,.sl 2 0 6 none),(14,I 6),(15,I 5)],[.ints false .i8 zs,.cells true [I f,I r,.sl 0 0 zs.length none,Bb bl,.int .u8 ca,I pa,I ha,I fu],.vals true 1 [[.fn 66 [.ptr 1 0 0]],[.fn 68 [.ptr 1 0 0]],[.fn 70 [.ptr 1 0 0]],[.fn 72 [.ptr 1 0 0]],[.fn 74 [.ptr 1 0 0]],[.fn 76 [.ptr 1 0 0]]]],Ent.ren [0,1,2] [1,13,14,15] rfl rfl rfl,?_⟩
  refine rnd ?_
  refine cL (by rfl) ?_
  repeat (first|(first|refine ah ?_|refine sat_nd ?_)|refine ae (aG hc2 rfl) ?_|refine ae (aJ hc2 rfl h0t) ?_)
  refine av (fun h5=>?_) (fun h5=>?_)
  ·have h5:(!cntB ha fu)=true:=h5
   rw[Bool.not_eq_true']at h5
   exact ag (ag (ai (.inr rfl) rfl rfl rfl (by simp[Psn.ok,h0,h1,h2,h3,h4,h5])))
  have h5:(!cntB ha fu)=false:=h5
  rw[Bool.not_eq_false']at h5
  refine ag ⟨[(1,.ptr 1 0 0),(13,.sl 2 0 6 none),(14,I 6),(15,I 6)],[.ints false .i8 zs,.cells true [I f,I r,.sl 0 0 zs.length none,Bb bl,.int .u8 ca,I pa,I ha,I fu],.vals true 1 [[.fn 66 [.ptr 1 0 0]],[.fn 68 [.ptr 1 0 0]],[.fn 70 [.ptr 1 0 0]],[.fn 72 [.ptr 1 0 0]],[.fn 74 [.ptr 1 0 0]],[.fn 76 [.ptr 1 0 0]]]],Ent.ren [0,1,2] [1,13,14,15] rfl rfl rfl,?_⟩
  refine rnd ?_
  refine uT (by rfl) ?_
  refine ag (ag (ai (.inr rfl) rfl rfl rfl (by simp[Psn.ok,h0,h1,h2,h3,h4,h5])))
 ·cases e
end
section
variable{kCa kDb:Bool}
def pI(k:Int)(bl:Bool):Int:=bif bl then w8 (0-k)else k
def eC(r:Int)(bl:Bool)(n:Int):Int:=bif bl then IntKind.i64.wrap (r-n)else IntKind.i64.wrap (n-1)
def gj(r:Int)(bl:Bool):Int:=bif bl then 0 else IntKind.i64.wrap (r-1)
def chkL(f r:Int)(zs:List Int)(bl:Bool):Bool:=decide (0<((attL f r zs (aV zs bl) (!bl)).length:Int))
def iM(f r:Int)(zs:List Int)(bit:Int):Bool:=bif !decide (f=8)||!decide (r=8)then false else bif decide (bit=1)then decide (zs.getD 4 0=6)&&decide (zs.getD 7 0=4)else bif decide (bit=2)then decide (zs.getD 4 0=6)&&decide (zs.getD 0 0=4)else bif decide (bit=4)then decide (zs.getD 60 0=-6)&&decide (zs.getD 63 0=-4)else decide (zs.getD 60 0=-6)&&decide (zs.getD 56 0=-4)
theorem oI:cx 8 8 [101,49]=4:=by kernel_rfl
theorem qD:cx 8 8 [104,49]=7:=by kernel_rfl
theorem sy:cx 8 8 [97,49]=0:=by kernel_rfl
theorem oP:cx 8 8 [101,56]=60:=by kernel_rfl
theorem qJ:cx 8 8 [104,56]=63:=by kernel_rfl
theorem rj:cx 8 8 [97,56]=56:=by kernel_rfl
def ql:CF
 |[.int .i8 k,.bool bl],[]=>some (true,.int .i8 (pI k bl),[])
 |_,_=>none
theorem xe:CtOk (GGx kCa kDb) PP (87,ql):=by
 refine aD Tryz.func87 (by kernel_rfl) rfl fun a0 h0 c0 v0 N0 e hc=>?_
 unfold ql at e
 split at e
 ·rename_i k bl
  cases e
  have hE:=aA (kCa:=kCa) (kDb:=kDb) (cts:=[]) (inl:=[]) trivial trivial
  refine aq hE 2 Tryz.func87 rfl rfl ?_
  repeat' first|(first|refine ah ?_|refine sat_nd ?_)|refine av (fun h=>?_) (fun h=>?_)
  all_goals exact ag (ai (.inr rfl) rfl rfl rfl (by first|rfl|(simp only[pI, *,cond_true,cond_false];done)|(simp only[pI, *,cond_true,cond_false,Bool.not_true,Bool.not_false,Bool.and_true,Bool.true_and,Bool.and_false,Bool.false_and,Bool.or_true,Bool.true_or,Bool.or_false,Bool.false_or];done)|simp_all [pI]))
 ·cases e
def xM:CF
 |[.agg [.int .i64 _f,.int .i64 r],.bool bl,.int .i64 n],[]=>some (true,.int .i64 (eC r bl n),[])
 |_,_=>none
theorem Aq:CtOk (GGx kCa kDb) PP (85,xM):=by
 refine aD Tryz.func85 (by kernel_rfl) rfl fun a0 h0 c0 v0 N0 e hc=>?_
 unfold xM at e
 split at e
 ·rename_i f r bl n
  cases e
  have hE:=aA (kCa:=kCa) (kDb:=kDb) (cts:=[]) (inl:=[]) trivial trivial
  refine aq hE 2 Tryz.func85 rfl rfl ?_
  repeat' first|(first|refine ah ?_|refine sat_nd ?_)|refine av (fun h=>?_) (fun h=>?_)
  all_goals exact ag (ai (.inr rfl) rfl rfl rfl (by first|rfl|(simp only[eC, *,cond_true,cond_false];done)|(simp only[eC, *,cond_true,cond_false,Bool.not_true,Bool.not_false,Bool.and_true,Bool.true_and,Bool.and_false,Bool.false_and,Bool.or_true,Bool.true_or,Bool.or_false,Bool.false_or];done)|simp_all [eC]))
 ·cases e
def rX:CF
 |[.agg [.int .i64 _f,.int .i64 r],.bool bl],[]=>some (true,.int .i64 (gj r bl),[])
 |_,_=>none
theorem pF:CtOk (GGx kCa kDb) PP (40,rX):=by
 refine aD Tryz.func40 (by kernel_rfl) rfl fun a0 h0 c0 v0 N0 e hc=>?_
 unfold rX at e
 split at e
 ·rename_i f r bl
  cases e
  have hE:=aA (kCa:=kCa) (kDb:=kDb) (cts:=[]) (inl:=[]) trivial trivial
  refine aq hE 2 Tryz.func40 rfl rfl ?_
  repeat' first|(first|refine ah ?_|refine sat_nd ?_)|refine av (fun h=>?_) (fun h=>?_)
  all_goals exact ag (ai (.inr rfl) rfl rfl rfl (by first|rfl|(simp only[gj, *,cond_true,cond_false];done)|(simp only[gj, *,cond_true,cond_false,Bool.not_true,Bool.not_false,Bool.and_true,Bool.true_and,Bool.and_false,Bool.false_and,Bool.or_true,Bool.true_or,Bool.or_false,Bool.false_or];done)|simp_all [gj]))
 ·cases e
def um:CF
 |[.agg [.int .i64 f,.int .i64 r,.sl 0 0 len none,.bool _bl,.int .u8 _ca,.int .i64 _pa,.int .i64 _ha,.int .i64 _fu]],[.ints false .i8 _zs]=>some (true,.agg [I f,I r,.sl 0 0 len none],[])
 |_,_=>none
theorem ic:CtOk (GGx kCa kDb) PP (29,um):=by
 refine aD Tryz.func29 (by kernel_rfl) rfl fun a0 h0 c0 v0 N0 e hc=>?_
 unfold um at e
 split at e
 ·rename_i f r len bl ca pa ha fu zs
  cases e
  have hE:=aA (kCa:=kCa) (kDb:=kDb) (cts:=[]) (inl:=[]) trivial trivial
  refine Eo hE 2 Tryz.func29 rfl rfl ?_
  repeat (first|refine ah ?_|refine sat_nd ?_)
  exact ag ⟨.inr rfl,_,rfl,rfl,rfl⟩
 ·cases e
def iW:CF
 |[.agg [.int .i64 f,.int .i64 r,.sl 0 0 len none],.bool bl],[.ints false .i8 zs]=>some (decide (len=zs.length)&&decide (zs.length<=64)&&vsB f r,.bool (chkL f r zs bl),[])
 |_,_=>none
theorem iP:CtOk (GGx kCa kDb) PP (37,iW):=by
 refine aD Tryz.func37 (by kernel_rfl) rfl fun a0 h0 c0 v0 N0 e hc=>?_
 unfold iW at e
 split at e
 ·rename_i f r len bl zs
  cases e
  have hE:=aA (kCa:=kCa) (kDb:=kDb) (cts:=[(36,gN),(82,dW)]) (inl:=[]) ⟨gR,fM,trivial⟩ trivial
  refine aq hE 2 Tryz.func37 rfl rfl ?_
  simp only[Bool.and_eq_true,decide_eq_true_eq]at hc
  obtain⟨⟨rfl,hc2⟩,hv⟩:=hc
  repeat (first|(first|refine ah ?_|refine sat_nd ?_)|refine ae (aG hc2 rfl) ?_|refine ae (aJ hc2 rfl hv) ?_)
  refine ag (ai (.inr rfl) rfl rfl rfl (by
   show V.bool (chkL f r (tk zs) bl)=_
   rw[aF]))
 ·cases e
def Kt:CF
 |[.agg [.int .i64 _f,.int .i64 _r,.sl 0 0 len none,.bool _bl,.int .u8 _ca,.int .i64 _pa,.int .i64 _ha,.int .i64 _fu],.str s],[.ints false .i8 zs]=>some (decide (len=zs.length)&&decide (zs.length<=64)&&decide (0<=cx 8 8 s)&&decide (cx 8 8 s<zs.length),.int .i8 (zs.getD (cx 8 8 s).toNat 0),[])
 |_,_=>none
theorem Gn:CtOk (GGx kCa kDb) PP (137,Kt):=by
 refine aD Tryz.func137 (by kernel_rfl) rfl fun a0 h0 c0 v0 N0 e hc=>?_
 unfold Kt at e
 split at e
 ·rename_i f r len bl ca pa ha fu s zs
  cases e
  have hE:=aA (kCa:=kCa) (kDb:=kDb) (cts:=[(124,nu)]) (inl:=[]) ⟨ku,trivial⟩ trivial
  refine aq hE 2 Tryz.func137 rfl rfl ?_
  simp only[Bool.and_eq_true,decide_eq_true_eq]at hc
  obtain⟨⟨⟨rfl,hc2⟩,h0⟩,h1⟩:=hc
  repeat (first|(first|refine ah ?_|refine sat_nd ?_)|refine ae (by simp only[Bool.and_eq_true,decide_eq_true_eq];omega) ?_)
  exact ag (ai (.inr rfl) rfl rfl rfl rfl)
 ·cases e
theorem bp{zs:List Int}{s:List UInt8}{n:Nat}(h:cx 8 8 s=n)(h2:n<64)(h64:zs.length=64):(decide (zs.length=(tk zs).length)&&decide ((tk zs).length<=64)&&decide (0<=cx 8 8 s)&&decide (cx 8 8 s<(tk zs).length))=true:=by
 rw[jv,h,h64];simp;omega
theorem bg{zs:List Int}{s:List UInt8}{n:Nat}{g:Bool}(h:cx 8 8 s=n)(h2:n<64)(h64:zs.length=64):(!g||(decide (zs.length=(tk zs).length)&&decide ((tk zs).length<=64)&&decide (0<=cx 8 8 s)&&decide (cx 8 8 s<(tk zs).length)))=true:=by
 rw[bp h h2 h64];simp
def wB:CF
 |[.agg [.int .i64 f,.int .i64 r,.sl 0 0 len none,.bool _bl,.int .u8 _ca,.int .i64 _pa,.int .i64 _ha,.int .i64 _fu],.int .u8 bit],[.ints false .i8 zs]=>some (decide (len=zs.length)&&decide (zs.length<=64)&&(!decide (f=8)||!decide (r=8)||decide (zs.length=64)),.bool (iM f r zs bit),[])
 |_,_=>none
theorem Bd:CtOk (GGx kCa kDb) PP (83,wB):=by
 refine aD Tryz.func83 (by kernel_rfl) rfl fun a0 h0 c0 v0 N0 e hc=>?_
 unfold wB at e
 split at e
 ·rename_i f r len bl ca pa ha fu bit zs
  cases e
  have hE:=aA (kCa:=kCa) (kDb:=kDb) (cts:=[(137,Kt)]) (inl:=[]) ⟨Gn,trivial⟩ trivial
  refine aq hE 2 Tryz.func83 rfl rfl ?_
  simp only[Bool.and_eq_true,decide_eq_true_eq]at hc
  obtain⟨⟨rfl,hc2⟩,hv⟩:=hc
  repeat (first|refine ah ?_|refine sat_nd ?_)
  refine av (fun h=>?_) (fun h=>?_)
  ·have h:(!decide (f=8)||!decide (r=8))=true:=h
   exact ag (ai (.inr rfl) rfl rfl rfl (by rw[iM,h];rfl))
  have h:(!decide (f=8)||!decide (r=8))=false:=h
  have h64:zs.length=64:=by
   rw[h]at hv;simpa using hv
  refine av (fun h1=>?_) (fun h1=>?_)
  ·have h1:decide (bit=1)=true:=h1
   repeat (first|(first|refine ah ?_|refine sat_nd ?_)|refine ae (bp (n:=4) oI (by decide) h64) ?_|refine ae (bg (n:=4) oI (by decide) h64) ?_|refine ae (bp (n:=7) qD (by decide) h64) ?_|refine ae (bg (n:=7) qD (by decide) h64) ?_|refine ae (bp (n:=0) sy (by decide) h64) ?_|refine ae (bg (n:=0) sy (by decide) h64) ?_|refine ae (bp (n:=60) oP (by decide) h64) ?_|refine ae (bg (n:=60) oP (by decide) h64) ?_|refine ae (bp (n:=63) qJ (by decide) h64) ?_|refine ae (bg (n:=63) qJ (by decide) h64) ?_|refine ae (bp (n:=56) rj (by decide) h64) ?_|refine ae (bg (n:=56) rj (by decide) h64) ?_)
   exact ag (ai (.inr rfl) rfl rfl rfl (congrArg V.bool (by
    show (decide ((tk zs).getD (cx 8 8 [101,49]).toNat 0=6)&&decide ((tk zs).getD (cx 8 8 [104,49]).toNat 0=4))=_
    rw[aF,oI,qD,iM,h,h1];rfl)))
  have h1:decide (bit=1)=false:=h1
  refine av (fun h2=>?_) (fun h2=>?_)
  ·have h2:decide (bit=2)=true:=h2
   repeat (first|(first|refine ah ?_|refine sat_nd ?_)|refine ae (bp (n:=4) oI (by decide) h64) ?_|refine ae (bg (n:=4) oI (by decide) h64) ?_|refine ae (bp (n:=7) qD (by decide) h64) ?_|refine ae (bg (n:=7) qD (by decide) h64) ?_|refine ae (bp (n:=0) sy (by decide) h64) ?_|refine ae (bg (n:=0) sy (by decide) h64) ?_|refine ae (bp (n:=60) oP (by decide) h64) ?_|refine ae (bg (n:=60) oP (by decide) h64) ?_|refine ae (bp (n:=63) qJ (by decide) h64) ?_|refine ae (bg (n:=63) qJ (by decide) h64) ?_|refine ae (bp (n:=56) rj (by decide) h64) ?_|refine ae (bg (n:=56) rj (by decide) h64) ?_)
   exact ag (ai (.inr rfl) rfl rfl rfl (congrArg V.bool (by
    show (decide ((tk zs).getD (cx 8 8 [101,49]).toNat 0=6)&&decide ((tk zs).getD (cx 8 8 [97,49]).toNat 0=4))=_
    rw[aF,oI,sy,iM,h,h1,h2];rfl)))
  have h2:decide (bit=2)=false:=h2
  refine av (fun h3=>?_) (fun h3=>?_)
  ·have h3:decide (bit=4)=true:=h3
   repeat (first|(first|refine ah ?_|refine sat_nd ?_)|refine ae (bp (n:=4) oI (by decide) h64) ?_|refine ae (bg (n:=4) oI (by decide) h64) ?_|refine ae (bp (n:=7) qD (by decide) h64) ?_|refine ae (bg (n:=7) qD (by decide) h64) ?_|refine ae (bp (n:=0) sy (by decide) h64) ?_|refine ae (bg (n:=0) sy (by decide) h64) ?_|refine ae (bp (n:=60) oP (by decide) h64) ?_|refine ae (bg (n:=60) oP (by decide) h64) ?_|refine ae (bp (n:=63) qJ (by decide) h64) ?_|refine ae (bg (n:=63) qJ (by decide) h64) ?_|refine ae (bp (n:=56) rj (by decide) h64) ?_|refine ae (bg (n:=56) rj (by decide) h64) ?_)
   exact ag (ai (.inr rfl) rfl rfl rfl (congrArg V.bool (by
    show (decide ((tk zs).getD (cx 8 8 [101,56]).toNat 0=-6)&&decide ((tk zs).getD (cx 8 8 [104,56]).toNat 0=-4))=_
    rw[aF,oP,qJ,iM,h,h1,h2,h3];rfl)))
  have h3:decide (bit=4)=false:=h3
  repeat (first|(first|refine ah ?_|refine sat_nd ?_)|refine ae (bp (n:=4) oI (by decide) h64) ?_|refine ae (bg (n:=4) oI (by decide) h64) ?_|refine ae (bp (n:=7) qD (by decide) h64) ?_|refine ae (bg (n:=7) qD (by decide) h64) ?_|refine ae (bp (n:=0) sy (by decide) h64) ?_|refine ae (bg (n:=0) sy (by decide) h64) ?_|refine ae (bp (n:=60) oP (by decide) h64) ?_|refine ae (bg (n:=60) oP (by decide) h64) ?_|refine ae (bp (n:=63) qJ (by decide) h64) ?_|refine ae (bg (n:=63) qJ (by decide) h64) ?_|refine ae (bp (n:=56) rj (by decide) h64) ?_|refine ae (bg (n:=56) rj (by decide) h64) ?_)
  exact ag (ai (.inr rfl) rfl rfl rfl (congrArg V.bool (by
   show (decide ((tk zs).getD (cx 8 8 [101,56]).toNat 0=-6)&&decide ((tk zs).getD (cx 8 8 [97,56]).toNat 0=-4))=_
   rw[aF,oP,rj,iM,h,h1,h2,h3];rfl)))
 ·cases e
end
end Go.Ab
namespace Go.Ab
open IntKind
open Go.Proofs
section
variable{kCa kDb:Bool}
def rXL(f r:Int)(zs:List Int)(ca bit:Int):Bool:=decide ((u8.wrap (ca.tdiv bit)).tmod 2=1)&&!iM f r zs bit
def cV(f r:Int)(zs:List Int)(ca:Int):Bool:=bif decide (15<ca)then false else !(rXL f r zs ca 1||rXL f r zs ca 2||rXL f r zs ca 4||rXL f r zs ca 8)
def pasL(f r:Int)(zs:List Int)(bl:Bool)(pa ha:Int):Bool:=bif decide (pa=-1)then true else bif decide (r<6)||!decide (ha=0)||!aj f r pa then false else bif !decide (i64.wrap (2*i64.wrap (pa.tdiv f))=i64.wrap (eC r (!bl) 2+eC r (!bl) 4))then false else decide (zs.getD pa.toNat 0=0)&&decide (zs.getD (numR f r (pa.tmod f) (eC r (!bl) 2)).toNat 0=0)&&decide (zs.getD (numR f r (pa.tmod f) (eC r (!bl) 4)).toNat 0=pI 1 (!bl))
def pwL(f r:Int)(zs:List Int)(i:Int):Bool:=decide (aY (zs.getD i.toNat 0)=1)&&decide (i64.wrap (i.tdiv f)=gj r (decide (zs.getD i.toNat 0<0)))
def vk(f r:Int)(zs:List Int):Bool:=(List.range zs.length).any fun i=>pwL f r zs i
def lN(p:Psn):Bool:=bif !aW p.f p.r p.zs||decide (aV p.zs false<0)||decide (aV p.zs true<0)||chkL p.f p.r p.zs (!p.bl)then false else bif vk p.f p.r p.zs then false else cV p.f p.r p.zs p.ca&&pasL p.f p.r p.zs p.bl p.pa p.ha&&decide (0<=p.ha)&&decide (p.ha<=10000)&&decide (1<=p.fu)&&decide (p.fu<=10000)
theorem lW{f r:Int}{zs:List Int}{g:Bool}(hc2:zs.length<=64)(hv:(!decide (f=8)||!decide (r=8)||decide (zs.length=64))=true):(!g||(decide (zs.length=(tk zs).length)&&decide ((tk zs).length<=64)&&(!decide (f=8)||!decide (r=8)||decide ((tk zs).length=64))))=true:=by
 rw[jv,hv];simp[hc2]
theorem zI{f r x:Int}{zs:List Int}{bl:Bool}{n:Int}(hbd:aC f r zs=true)(hx:0<=x/\x<f)(hr:6<=r)(hn:n=2\/n=4):0<=numR f r x (eC r bl n)/\numR f r x (eC r bl n)<zs.length:=by
 have hv:=(bh hbd).1
 have hb:=cZ hv
 have hk:eC r bl n=(bif bl then r-n else n-1):=by
  unfold eC;cases bl
  ·exact aI (by omega) (by omega)
  ·exact aI (by omega) (by omega)
 have ho:onB f r x (eC r bl n)=true:=by
  rw[hk];cases bl
  ·exact kB hx.1 hx.2 (by simp only[cond_false];omega) (by simp only[cond_false];omega)
  ·exact kB hx.1 hx.2 (by simp only[cond_true];omega) (by simp only[cond_true];omega)
 rcases gO f r x (eC r bl n) hv with⟨_,h⟩|⟨h,_⟩
 ·exact(bQ hbd).1 h
 ·rw[ho]at h;cases h
theorem cj{zs:List Int}(h:zs.length<=64){n:Nat}(hn:n=zs.length){g:Bool}:(!g||(decide (n=(tk zs).length)&&decide ((tk zs).length<=64)))=true:=by rw[aG h hn];simp
theorem ig{zs:List Int}(h:zs.length<=64){g b:Bool}(hb:b=true):(!g||(decide (zs.length=(tk zs).length)&&decide ((tk zs).length<=64)&&b))=true:=by rw[aJ h rfl hb];simp
theorem vr{g:Bool}{x:Int}{n:Nat}(h:0<=x/\x<n):(!g||(decide (0<=x)&&decide (x<n)))=true:=by simp[h]
def nD:CF
 |[.agg [.int .i64 f,.int .i64 r,.sl 0 0 len none,.bool _bl,.int .u8 ca,.int .i64 _pa,.int .i64 _ha,.int .i64 _fu]],[.ints false .i8 zs]=>some (decide (len=zs.length)&&decide (zs.length<=64)&&(!decide (f=8)||!decide (r=8)||decide (zs.length=64)),.bool (cV f r zs ca),[])
 |_,_=>none
theorem uS:CtOk (GGx kCa kDb) PP (41,nD):=by
 refine aD Tryz.func41 (by kernel_rfl) rfl fun a0 h0 c0 v0 N0 e hc=>?_
 unfold nD at e
 split at e
 ·rename_i f r len bl ca pa ha fu zs
  cases e
  have hE:=aA (kCa:=kCa) (kDb:=kDb) (cts:=[(83,wB)]) (inl:=[]) ⟨Bd,trivial⟩ trivial
  refine aq hE 2 Tryz.func41 rfl rfl ?_
  simp only[Bool.and_eq_true,decide_eq_true_eq]at hc
  obtain⟨⟨rfl,hc2⟩,hv⟩:=hc
  refine av (fun h=>?_) (fun h=>?_)
  ·have h:decide (15<ca)=true:=h
   exact ag (ai (.inr rfl) rfl rfl rfl (by rw[cV,h];rfl))
  have h:decide (15<ca)=false:=h
  repeat (first|refine ah ?_|refine sat_nd ?_)
  refine dx hE 2 5 ?_
  refine rnd ?_
  refine cL (by rfl) ?_
  repeat (first|(first|refine ah ?_|refine sat_nd ?_)|refine ae (lW hc2 hv) ?_)
  refine av (fun h0=>?_) (fun h0=>?_)
  ·have h0:rXL f r (tk zs) ca 1=true:=h0
   rw[aF]at h0
   exact ag (ag (ai (.inr rfl) rfl rfl rfl (by simp[cV,h,h0])))
  have h0:rXL f r (tk zs) ca 1=false:=h0
  rw[aF]at h0
  refine ag ⟨[(1,.ptr 1 0 0),(8,.sl 2 0 4 none),(9,I 4),(10,I 1)],[.ints false .i8 zs,.cells true [I f,I r,.sl 0 0 zs.length none,Bb bl,.int .u8 ca,I pa,I ha,I fu],.ints true .u8 [1,2,4,8]],Ent.ren [0,1,2] [1,8,9,10] rfl rfl rfl,?_⟩
  refine rnd ?_
  refine cL (by rfl) ?_
  repeat (first|(first|refine ah ?_|refine sat_nd ?_)|refine ae (lW hc2 hv) ?_)
  refine av (fun h1=>?_) (fun h1=>?_)
  ·have h1:rXL f r (tk zs) ca 2=true:=h1
   rw[aF]at h1
   exact ag (ag (ai (.inr rfl) rfl rfl rfl (by simp[cV,h,h0,h1])))
  have h1:rXL f r (tk zs) ca 2=false:=h1
  rw[aF]at h1
  refine ag ⟨[(1,.ptr 1 0 0),(8,.sl 2 0 4 none),(9,I 4),(10,I 2)],[.ints false .i8 zs,.cells true [I f,I r,.sl 0 0 zs.length none,Bb bl,.int .u8 ca,I pa,I ha,I fu],.ints true .u8 [1,2,4,8]],Ent.ren [0,1,2] [1,8,9,10] rfl rfl rfl,?_⟩
  refine rnd ?_
  refine cL (by rfl) ?_
  repeat (first|(first|refine ah ?_|refine sat_nd ?_)|refine ae (lW hc2 hv) ?_)
  refine av (fun h2=>?_) (fun h2=>?_)
  ·have h2:rXL f r (tk zs) ca 4=true:=h2
   rw[aF]at h2
   exact ag (ag (ai (.inr rfl) rfl rfl rfl (by simp[cV,h,h0,h1,h2])))
  have h2:rXL f r (tk zs) ca 4=false:=h2
  rw[aF]at h2
  refine ag ⟨[(1,.ptr 1 0 0),(8,.sl 2 0 4 none),(9,I 4),(10,I 3)],[.ints false .i8 zs,.cells true [I f,I r,.sl 0 0 zs.length none,Bb bl,.int .u8 ca,I pa,I ha,I fu],.ints true .u8 [1,2,4,8]],Ent.ren [0,1,2] [1,8,9,10] rfl rfl rfl,?_⟩
  refine rnd ?_
  refine cL (by rfl) ?_
  repeat (first|(first|refine ah ?_|refine sat_nd ?_)|refine ae (lW hc2 hv) ?_)
  refine av (fun h3=>?_) (fun h3=>?_)
  ·have h3:rXL f r (tk zs) ca 8=true:=h3
   rw[aF]at h3
   exact ag (ag (ai (.inr rfl) rfl rfl rfl (by simp[cV,h,h0,h1,h2,h3])))
  have h3:rXL f r (tk zs) ca 8=false:=h3
  rw[aF]at h3
  refine ag ⟨[(1,.ptr 1 0 0),(8,.sl 2 0 4 none),(9,I 4),(10,I 4)],[.ints false .i8 zs,.cells true [I f,I r,.sl 0 0 zs.length none,Bb bl,.int .u8 ca,I pa,I ha,I fu],.ints true .u8 [1,2,4,8]],Ent.ren [0,1,2] [1,8,9,10] rfl rfl rfl,?_⟩
  refine rnd ?_
  refine uT (by rfl) ?_
  exact ag (ag (ai (.inr rfl) rfl rfl rfl (by simp[cV,h,h0,h1,h2,h3])))
 ·cases e
def kS:CF
 |[.agg [.int .i64 f,.int .i64 r,.sl 0 0 len none,.bool bl,.int .u8 _ca,.int .i64 pa,.int .i64 ha,.int .i64 _fu]],[.ints false .i8 zs]=>some (decide (len=zs.length)&&decide (zs.length<=64)&&aC f r zs,.bool (pasL f r zs bl pa ha),[])
 |_,_=>none
theorem qR:CtOk (GGx kCa kDb) PP (42,kS):=by
 refine aD Tryz.func42 (by kernel_rfl) rfl fun a0 h0 c0 v0 N0 e hc=>?_
 unfold kS at e
 split at e
 ·rename_i f r len bl ca pa ha fu zs
  cases e
  have hE:=aA (kCa:=kCa) (kDb:=kDb) (cts:=[(84,nc),(39,dF),(85,xM),(86,fY),(87,ql)]) (inl:=[]) ⟨kj,bZ,Aq,eG,xe,trivial⟩ trivial
  refine aq hE 2 Tryz.func42 rfl rfl ?_
  simp only[Bool.and_eq_true,decide_eq_true_eq]at hc
  obtain⟨⟨rfl,hc2⟩,hv⟩:=hc
  refine av (fun h=>?_) (fun h=>?_)
  ·have h:decide (pa=-1)=true:=h
   exact ag (ai (.inr rfl) rfl rfl rfl (by rw[pasL,h];rfl))
  have h:decide (pa=-1)=false:=h
  repeat (first|refine ah ?_|refine sat_nd ?_)
  refine av (fun h1=>?_) (fun h1=>?_)
  ·have h1:(decide (r<6)||!decide (ha=0)||!aj f r pa)=true:=h1
   exact ag (ai (.inr rfl) rfl rfl rfl (by rw[pasL,h,h1];rfl))
  have h1:(decide (r<6)||!decide (ha=0)||!aj f r pa)=false:=h1
  have h1':=h1
  simp only[Bool.or_eq_false_iff,decide_eq_false_iff_not,Bool.not_eq_false']at h1'
  obtain⟨⟨hr,_⟩,hpv⟩:=h1'
  have hf0:(!decide (f=0))=true:=by have:=cZ (bh hv).1;simp;omega
  obtain⟨hp1,hp2⟩:=(bQ hv).1 hpv
  obtain⟨_,hx1,hx2,_⟩:=fB hpv
  have n2:=zI (bl:=!bl) (n:=2) hv ⟨hx1,hx2⟩ (by omega) (.inl rfl)
  have n4:=zI (bl:=!bl) (n:=4) hv ⟨hx1,hx2⟩ (by omega) (.inr rfl)
  repeat (first|(first|refine ah ?_|refine sat_nd ?_)|refine ae hf0 ?_)
  refine av (fun h2=>?_) (fun h2=>?_)
  ·have h2:(!decide (i64.wrap (2*i64.wrap (pa.tdiv f))=i64.wrap (eC r (!bl) 2+eC r (!bl) 4)))=true:=h2
   exact ag (ai (.inr rfl) rfl rfl rfl (by rw[pasL,h,h1,h2];rfl))
  have h2:(!decide (i64.wrap (2*i64.wrap (pa.tdiv f))=i64.wrap (eC r (!bl) 2+eC r (!bl) 4)))=false:=h2
  repeat (first|(first|refine ah ?_|refine sat_nd ?_)|refine ae (by simp only[Bool.and_eq_true,decide_eq_true_eq];exact⟨hp1,hp2⟩) ?_|refine ae (vr n2) ?_|refine ae (vr n4) ?_)
  exact ag (ai (.inr rfl) rfl rfl rfl (by rw[pasL,h,h1,h2];rfl))
 ·cases e
theorem GC{f r:Int}{zs:List Int}{_bl:Bool}{x y:Bool}(hc2:zs.length<=64):(!(!(!aW f r (tk zs)||x||y))||(decide (zs.length=(tk zs).length)&&decide ((tk zs).length<=64)&&vsB f r))=true:=by
 cases h:aW f r (tk zs) with
 |false=>simp
 |true=>rw[jv,(bn h).1];simp[hc2]
theorem v88{f r:Int}{zs:List Int}(h:aC f r zs=true):(!decide (f=8)||!decide (r=8)||decide (zs.length=64))=true:=by
 cases h8:is88 f r with
 |false=>simp only[is88,Bool.and_eq_false_iff]at h8;rcases h8 with h8|h8<;>rw[h8]<;>simp
 |true=>rw[tT h h8];simp
def ju:CF
 |[.agg [.int .i64 f,.int .i64 r,.sl 0 0 len none,.bool bl,.int .u8 ca,.int .i64 pa,.int .i64 ha,.int .i64 fu]],[.ints false .i8 zs]=>some (decide (len=zs.length)&&decide (zs.length<=64),.bool (lN ⟨f,r,zs,bl,ca,pa,ha,fu⟩),[])
 |_,_=>none
theorem iO:CtOk (GGx kCa kDb) PP (12,ju):=by
 refine aD Tryz.func12 (by kernel_rfl) rfl fun a0 h0 c0 v0 N0 e hc=>?_
 unfold ju at e
 split at e
 ·rename_i f r len bl ca pa ha fu zs
  cases e
  have hE:=aA (kCa:=kCa) (kDb:=kDb) (cts:=[(35,wH),(36,gN),(37,iW),(38,fj),(39,dF),(40,rX),(41,nD),(42,kS)]) (inl:=[(29,Tryz.f29)]) ⟨AL,gR,iP,dR,bZ,pF,uS,qR,trivial⟩ ⟨⟨Tryz.func29,by kernel_rfl⟩,trivial⟩
  refine aq hE 2 Tryz.func12 rfl rfl ?_
  simp only[Bool.and_eq_true,decide_eq_true_eq]at hc
  obtain⟨rfl,hc2⟩:=hc
  repeat (first|(first|refine ah ?_|refine sat_nd ?_)|refine ae (aG hc2 rfl) ?_|refine ae (cj hc2 rfl) ?_|refine ae (GC (_bl:=bl) hc2) ?_)
  refine av (fun h=>?_) (fun h=>?_)
  ·have h:(!aW f r (tk zs)||decide (aV (tk zs) false<0)||decide (aV (tk zs) true<0)||chkL f r (tk zs) (!bl))=true:=h
   rw[aF]at h
   exact ag (ai (.inr rfl) rfl rfl rfl (by simp only[lN,h,cond_true]))
  have h:(!aW f r (tk zs)||decide (aV (tk zs) false<0)||decide (aV (tk zs) true<0)||chkL f r (tk zs) (!bl))=false:=h
  rw[aF]at h
  have h':=h
  simp only[Bool.or_eq_false_iff,Bool.not_eq_false']at h'
  obtain⟨hvs,_,hbd,_⟩:=bn h'.1.1.1
  have hf0:(!decide (f=0))=true:=by have:=cZ hvs;simp;omega
  have hf1:∀ g:Bool,(!g||!decide (f=0))=true:=fun g=>by rw[hf0];simp
  have h88:=v88 hbd
  have h88t:(!decide (f=8)||!decide (r=8)||decide ((tk zs).length=64))=true:=by rw[aF];exact h88
  have hbdt:aC f r (tk zs)=true:=by rw[aF];exact hbd
  refine cC hE 2 (fun i (_:Unit)=>([(1,.ptr 1 0 0),(4,I i)],[.ints false .i8 zs,.cells true [I f,I r,.sl 0 0 zs.length none,Bb bl,.int .u8 ca,I pa,I ha,I fu]])) zs.length (fun j _=>∀ k,k<j->pwL f r zs (k:Nat)=false) () (by omega) (Ent.ren [0,1] [1,4] rfl rfl rfl) (fun k hk=>absurd hk (by omega)) ?_
  intro j i _ hij hj hz
  refine av (fun hlt=>?_) (fun hlt=>?_)
  ·have hlt':j<zs.length:=by simp at hlt;omega
   repeat (first|(first|refine ah ?_|refine sat_nd ?_)|refine ae (by simp only[Bool.and_eq_true,decide_eq_true_eq];omega) ?_|refine ae (hf1 _) ?_|refine ae (vr ⟨by omega,by omega⟩) ?_)
   refine av (fun hon=>?_) (fun hon=>?_)
   ·have hon:pwL f r zs i=true:=hon
    have hpw:vk f r zs=true:=List.any_eq_true.2 ⟨j,List.mem_range.2 hlt',by rw[<-hij];exact hon⟩
    exact ag (ag (ai (.inr rfl) rfl rfl rfl (by simp only[lN,h,hpw,cond_true,cond_false])))
   ·have hon:pwL f r zs i=false:=hon
    refine ag ⟨hlt',(),fun k hk=>?_,Ent.ren [0,1] [1,4] rfl rfl rfl⟩
    rcases Nat.lt_or_ge k j with hk2|hk2
    ·exact hz k hk2
    ·obtain rfl:k=j:=by omega
     rw[<-hij];exact hon
  ·obtain rfl:j=zs.length:=by simp at hlt;omega
   have hpw:vk f r zs=false:=List.any_eq_false.2 fun k hk=>by rw[hz k (List.mem_range.1 hk)];simp
   refine ag ?_
   repeat (first|(first|refine ah ?_|refine sat_nd ?_)|refine ae (aG hc2 rfl) ?_|refine ae (aJ hc2 rfl h88t) ?_|refine ae (ig hc2 hbdt) ?_|refine ae (ig hc2 h88t) ?_)
   exact ag (ai (.inr rfl) rfl rfl rfl (by
    show V.bool (cV f r (tk zs) ca&&pasL f r (tk zs) bl pa ha&&decide (0<=ha)&&decide (ha<=10000)&&decide (1<=fu)&&decide (fu<=10000))=_
    rw[aF];simp only[lN,h,hpw,cond_false]))
 ·cases e
end
section
variable{kDb:Bool}
abbrev u8or(a b:Int):Int:=band .or .u8 a b
def aX(bl:Bool)(ca a b:Int)(c:Bool)(bit k to:Int):Bool:=!(c==bl)||decide (fq ca bit=0)||!decide (k=a)||!decide (to=b)
def wayN(zs:List Int)(bl:Bool)(ca a b:Int):Nat:=bif !decide (absP (zs.getD a.toNat 0)=6)then 4 else bif !aX bl ca a b false 1 4 6 then 0 else bif !aX bl ca a b false 2 4 2 then 1 else bif !aX bl ca a b true 4 60 62 then 2 else bif !aX bl ca a b true 8 60 58 then 3 else 4
def wBit(n:Nat):Int:=([1,2,4,8,0]:List Int).getD n 0
def wBl(n:Nat):Bool:=[false,false,true,true,false].getD n false
def sB(n:Nat):Int:=([4,4,60,60,0]:List Int).getD n 0
def wTo(n:Nat):Int:=([6,2,62,58,0]:List Int).getD n 0
def wCor(n:Nat):Int:=([7,0,63,56,0]:List Int).getD n 0
def wCro(n:Nat):Int:=([5,3,61,59,0]:List Int).getD n 0
def wayB(f r:Int)(zs:List Int)(n:Nat):Bool:=!decide (n=4)&&decide (uand (bS f r (sB n) (wCor n)).1 (occR f r zs)=0)
def Mh(r:Int)(bl:Bool):Int:=bif bl then 0 else i64.wrap (r-1)
def iB(f r:Int)(zs:List Int)(bl:Bool)(pa a b pr:Int):Bool:=
 bif !decide (absP (zs.getD a.toNat 0)=1)then decide (pr=0)&&decide (uand (ushr (cn f r (absP (zs.getD a.toNat 0)) a (occR f r zs)).1 b) 1=1)
 else decide (uand (ushr (uor (dc f r bl a (occR f r zs)).1 (bif decide (zs.getD b.toNat 0=0)&&!decide (b=pa)then 0 else(gr f r bl a).1)) b) 1=1)&&((!decide (pr=0))==decide (i64.wrap (b.tdiv f)=Mh r bl))
def chkB(f r:Int)(zs:List Int)(b:Bool):Bool:=!decide ((bM f r zs b).1=0)
def dK(at_ s k q bit:Int):Int:=bif decide (k=at_)||decide (q=at_)then u8or s bit else s
def JO(at_:Int):Int:=dK at_ (dK at_ (dK at_ (dK at_ 0 4 7 1) 4 0 2) 60 63 4) 60 56 8
theorem qe{at_ s k q bit:Int}(h:(decide (k=at_)||decide (q=at_))=true):dK at_ s k q bit=u8or s bit:=by rw[dK,h];rfl
theorem rf{at_ s k q bit:Int}(h:(decide (k=at_)||decide (q=at_))=false):dK at_ s k q bit=s:=by rw[dK,h];rfl
theorem mV{g:Bool}{b:Int}(h:0<=b):(!g||decide (0<=b))=true:=by simp[h]
theorem aB{zs:List Int}{b:Int}(h:0<=b)(h1:b<zs.length):(decide (0<=b)&&decide (b<zs.length))=true:=by simp[h,h1]
def yW:CF
 |[.agg [.int .i64 f,.int .i64 r,.sl 0 0 len none,.bool _bl,.int .u8 _ca,.int .i64 _pa,.int .i64 _ha,.int .i64 _fu]],[.ints false .i8 zs]=>some (decide (len=zs.length)&&decide (zs.length<=64),.int .u64 (occR f r zs),[])
 |_,_=>none
theorem sW:CtOk (GGx true kDb) PP (156,yW):=by
 refine aD Tryz.func156 (by kernel_rfl) rfl fun a0 h0 c0 v0 N0 e hc=>?_
 unfold yW at e
 split at e
 ·rename_i f r len bl ca pa ha fu zs
  cases e
  have hE:=aA (kCa:=true) (kDb:=kDb) (cts:=[(149,oD)]) (inl:=[]) ⟨lg,trivial⟩ trivial
  refine aq hE 2 Tryz.func156 rfl rfl ?_
  simp only[Bool.and_eq_true,decide_eq_true_eq]at hc
  obtain⟨rfl,hc2⟩:=hc
  repeat (first|(first|refine ah ?_|refine sat_nd ?_)|refine ae (aG hc2 rfl) ?_)
  refine ag (ai (.inr rfl) rfl rfl rfl (by
   show V.int .u64 (occR f r (tk zs))=_
   rw[aF]))
 ·cases e
def Dd:CF
 |[.agg [.int .i64 f,.int .i64 r,.sl 0 0 len none,.bool _bl,.int .u8 _ca,.int .i64 _pa,.int .i64 _ha,.int .i64 _fu],.bool b],[.ints false .i8 zs]=>some (decide (len=zs.length)&&decide (zs.length<=64),.bool (chkB f r zs b),[])
 |_,_=>none
theorem Bx:CtOk (GGx true kDb) PP (118,Dd):=by
 refine aD Tryz.func118 (by kernel_rfl) rfl fun a0 h0 c0 v0 N0 e hc=>?_
 unfold Dd at e
 split at e
 ·rename_i f r len bl ca pa ha fu b zs
  cases e
  have hE:=aA (kCa:=true) (kDb:=kDb) (cts:=[(28,fJ)]) (inl:=[]) ⟨fZ,trivial⟩ trivial
  refine aq hE 2 Tryz.func118 rfl rfl ?_
  simp only[Bool.and_eq_true,decide_eq_true_eq]at hc
  obtain⟨rfl,hc2⟩:=hc
  repeat (first|(first|refine ah ?_|refine sat_nd ?_)|refine ae (aG hc2 rfl) ?_)
  refine ag (ai (.inr rfl) rfl rfl rfl (by
   show V.bool (chkB f r (tk zs) b)=_
   rw[aF]))
 ·cases e
def iT:CF
 |[.agg [.int .i64 f,.int .i64 r,.sl 0 0 len none,.bool bl,.int .u8 ca,.int .i64 _pa,.int .i64 _ha,.int .i64 _fu],.agg [.int .i64 a,.int .i64 b,.int .i8 _pr]],[.ints false .i8 zs]=>some (decide (len=zs.length)&&decide (zs.length<=64)&&(aC f r zs&&aj f r a&&aj f r b),.tup [.agg [.int .u8 (wBit (wayN zs bl ca a b)),Bb (wBl (wayN zs bl ca a b)),I (sB (wayN zs bl ca a b)),I (wTo (wayN zs bl ca a b)),I (wCor (wayN zs bl ca a b)),I (wCro (wayN zs bl ca a b))],Bb (wayB f r zs (wayN zs bl ca a b))],[])
 |_,_=>none
theorem oH:CtOk (GGx true kDb) PP (113,iT):=by
 refine aD Tryz.func113 (by kernel_rfl) rfl fun a0 h0 c0 v0 N0 e hc=>?_
 unfold iT at e
 split at e
 ·rename_i f r len bl ca pa ha fu a b pr zs
  cases e
  have hE:=aA (kCa:=true) (kDb:=kDb) (cts:=[(115,uR),(155,gv),(156,yW)]) (inl:=[]) ⟨nO,tY,sW,trivial⟩ trivial
  refine uy hE 2 Tryz.func113 rfl rfl ?_
  simp only[Bool.and_eq_true,decide_eq_true_eq]at hc
  obtain⟨⟨rfl,hc2⟩,⟨hbd,hva⟩,hvb⟩:=hc
  obtain⟨ha0,ha1⟩:=(bQ hbd).1 hva
  obtain⟨hb0,hb1⟩:=(bQ hbd).1 hvb
  repeat (first|(first|refine ah ?_|refine sat_nd ?_)|refine ae (aB ha0 ha1) ?_)
  refine av (fun hk=>?_) (fun hk=>?_)
  ·have hk:(!decide (absP (zs.getD a.toNat 0)=6))=true:=hk
   have hn:wayN zs bl ca a b=4:=by rw[wayN,hk,cond_true]
   refine ag (wY (ai (.inr rfl) rfl rfl rfl rfl) ?_)
   rw[hn]
   exact fun _ _ h=>h
  have hk:(!decide (absP (zs.getD a.toNat 0)=6))=false:=hk
  refine dx hE 2 5 ?_
  refine rnd ?_
  refine cL (by rfl) ?_
  repeat (first|refine ah ?_|refine sat_nd ?_)
  refine av (fun h0=>?_) (fun h0=>?_)
  rotate_left
  ·have h0:aX bl ca a b false 1 4 6=false:=h0
   have hn:wayN zs bl ca a b=0:=by simp only[wayN,hk,h0,Bool.not_false,cond_true,cond_false]
   repeat (first|(first|refine ah ?_|refine sat_nd ?_)|refine ae (aG hc2 rfl) ?_)
   refine ag (ag (wY (ai (.inr rfl) rfl rfl rfl rfl) ?_))
   rw[hn]
   show Like (V.tup [.agg [.int .u8 1,.lit false,I 4,I 6,I 7,I 5],Bb (decide (uand (bS f r 4 7).1 (occR f r (tk zs))=0))]) _
   rw[aF]
   exact fun _ _ h=>h
  have h0:aX bl ca a b false 1 4 6=true:=h0
  refine ag ⟨[(2,.ptr 1 0 0),(3,.ptr 2 0 0),(4,.ptr 3 0 0),(19,.agg [.int .u8 1,.lit false,.int .i64 4,.int .i64 6,.int .i64 7,.int .i64 5,.int .u8 2,.lit false,.int .i64 4,.int .i64 2,.int .i64 0,.int .i64 3,.int .u8 4,.lit true,.int .i64 60,.int .i64 62,.int .i64 63,.int .i64 61,.int .u8 8,.lit true,.int .i64 60,.int .i64 58,.int .i64 56,.int .i64 59]),(20,I 1)],[.ints false .i8 zs,.cells true [I f,I r,.sl 0 0 zs.length none,Bb bl,.int .u8 ca,I pa,I ha,I fu],.cells true [I a,I b,.int .i8 pr],.cells true [.int .u8 0,.lit false,I 0,I 0,I 0,I 0]],Ent.ren [0,1,2,3] [2,3,4,19,20] rfl rfl rfl,?_⟩
  refine rnd ?_
  refine cL (by rfl) ?_
  repeat (first|refine ah ?_|refine sat_nd ?_)
  refine av (fun h1=>?_) (fun h1=>?_)
  rotate_left
  ·have h1:aX bl ca a b false 2 4 2=false:=h1
   have hn:wayN zs bl ca a b=1:=by simp only[wayN,hk,h0,h1,Bool.not_true,Bool.not_false,cond_true,cond_false]
   repeat (first|(first|refine ah ?_|refine sat_nd ?_)|refine ae (aG hc2 rfl) ?_)
   refine ag (ag (wY (ai (.inr rfl) rfl rfl rfl rfl) ?_))
   rw[hn]
   show Like (V.tup [.agg [.int .u8 2,.lit false,I 4,I 2,I 0,I 3],Bb (decide (uand (bS f r 4 0).1 (occR f r (tk zs))=0))]) _
   rw[aF]
   exact fun _ _ h=>h
  have h1:aX bl ca a b false 2 4 2=true:=h1
  refine ag ⟨[(2,.ptr 1 0 0),(3,.ptr 2 0 0),(4,.ptr 3 0 0),(19,.agg [.int .u8 1,.lit false,.int .i64 4,.int .i64 6,.int .i64 7,.int .i64 5,.int .u8 2,.lit false,.int .i64 4,.int .i64 2,.int .i64 0,.int .i64 3,.int .u8 4,.lit true,.int .i64 60,.int .i64 62,.int .i64 63,.int .i64 61,.int .u8 8,.lit true,.int .i64 60,.int .i64 58,.int .i64 56,.int .i64 59]),(20,I 2)],[.ints false .i8 zs,.cells true [I f,I r,.sl 0 0 zs.length none,Bb bl,.int .u8 ca,I pa,I ha,I fu],.cells true [I a,I b,.int .i8 pr],.cells true [.int .u8 0,.lit false,I 0,I 0,I 0,I 0]],Ent.ren [0,1,2,3] [2,3,4,19,20] rfl rfl rfl,?_⟩
  refine rnd ?_
  refine cL (by rfl) ?_
  repeat (first|refine ah ?_|refine sat_nd ?_)
  refine av (fun h2=>?_) (fun h2=>?_)
  rotate_left
  ·have h2:aX bl ca a b true 4 60 62=false:=h2
   have hn:wayN zs bl ca a b=2:=by simp only[wayN,hk,h0,h1,h2,Bool.not_true,Bool.not_false,cond_true,cond_false]
   repeat (first|(first|refine ah ?_|refine sat_nd ?_)|refine ae (aG hc2 rfl) ?_)
   refine ag (ag (wY (ai (.inr rfl) rfl rfl rfl rfl) ?_))
   rw[hn]
   show Like (V.tup [.agg [.int .u8 4,.lit true,I 60,I 62,I 63,I 61],Bb (decide (uand (bS f r 60 63).1 (occR f r (tk zs))=0))]) _
   rw[aF]
   exact fun _ _ h=>h
  have h2:aX bl ca a b true 4 60 62=true:=h2
  refine ag ⟨[(2,.ptr 1 0 0),(3,.ptr 2 0 0),(4,.ptr 3 0 0),(19,.agg [.int .u8 1,.lit false,.int .i64 4,.int .i64 6,.int .i64 7,.int .i64 5,.int .u8 2,.lit false,.int .i64 4,.int .i64 2,.int .i64 0,.int .i64 3,.int .u8 4,.lit true,.int .i64 60,.int .i64 62,.int .i64 63,.int .i64 61,.int .u8 8,.lit true,.int .i64 60,.int .i64 58,.int .i64 56,.int .i64 59]),(20,I 3)],[.ints false .i8 zs,.cells true [I f,I r,.sl 0 0 zs.length none,Bb bl,.int .u8 ca,I pa,I ha,I fu],.cells true [I a,I b,.int .i8 pr],.cells true [.int .u8 0,.lit false,I 0,I 0,I 0,I 0]],Ent.ren [0,1,2,3] [2,3,4,19,20] rfl rfl rfl,?_⟩
  refine rnd ?_
  refine cL (by rfl) ?_
  repeat (first|refine ah ?_|refine sat_nd ?_)
  refine av (fun h3=>?_) (fun h3=>?_)
  rotate_left
  ·have h3:aX bl ca a b true 8 60 58=false:=h3
   have hn:wayN zs bl ca a b=3:=by simp only[wayN,hk,h0,h1,h2,h3,Bool.not_true,Bool.not_false,cond_true,cond_false]
   repeat (first|(first|refine ah ?_|refine sat_nd ?_)|refine ae (aG hc2 rfl) ?_)
   refine ag (ag (wY (ai (.inr rfl) rfl rfl rfl rfl) ?_))
   rw[hn]
   show Like (V.tup [.agg [.int .u8 8,.lit true,I 60,I 58,I 56,I 59],Bb (decide (uand (bS f r 60 56).1 (occR f r (tk zs))=0))]) _
   rw[aF]
   exact fun _ _ h=>h
  have h3:aX bl ca a b true 8 60 58=true:=h3
  refine ag ⟨[(2,.ptr 1 0 0),(3,.ptr 2 0 0),(4,.ptr 3 0 0),(19,.agg [.int .u8 1,.lit false,.int .i64 4,.int .i64 6,.int .i64 7,.int .i64 5,.int .u8 2,.lit false,.int .i64 4,.int .i64 2,.int .i64 0,.int .i64 3,.int .u8 4,.lit true,.int .i64 60,.int .i64 62,.int .i64 63,.int .i64 61,.int .u8 8,.lit true,.int .i64 60,.int .i64 58,.int .i64 56,.int .i64 59]),(20,I 4)],[.ints false .i8 zs,.cells true [I f,I r,.sl 0 0 zs.length none,Bb bl,.int .u8 ca,I pa,I ha,I fu],.cells true [I a,I b,.int .i8 pr],.cells true [.int .u8 0,.lit false,I 0,I 0,I 0,I 0]],Ent.ren [0,1,2,3] [2,3,4,19,20] rfl rfl rfl,?_⟩
  refine rnd ?_
  refine uT (by rfl) ?_
  have hn:wayN zs bl ca a b=4:=by simp only[wayN,hk,h0,h1,h2,h3,Bool.not_true,cond_false]
  refine ag (ag (wY (ai (.inr rfl) rfl rfl rfl rfl) ?_))
  rw[hn]
  exact fun _ _ h=>h
 ·cases e
def vY:CF
 |[.agg [.int .i64 f,.int .i64 r,.sl 0 0 len none,.bool bl,.int .u8 _ca,.int .i64 pa,.int .i64 _ha,.int .i64 _fu],.agg [.int .i64 a,.int .i64 b,.int .i8 pr]],[.ints false .i8 zs]=>some (decide (len=zs.length)&&decide (zs.length<=64)&&(aC f r zs&&aj f r a&&aj f r b),.bool (iB f r zs bl pa a b pr),[])
 |_,_=>none
theorem Bg:CtOk (GGx true kDb) PP (114,vY):=by
 refine aD Tryz.func114 (by kernel_rfl) rfl fun a0 h0 c0 v0 N0 e hc=>?_
 unfold vY at e
 split at e
 ·rename_i f r len bl ca pa ha fu a b pr zs
  cases e
  have hE:=aA (kCa:=true) (kDb:=kDb) (cts:=[(115,uR),(156,yW),(154,nf),(157,su),(153,uO)]) (inl:=[]) ⟨nO,sW,kg,pK,mJ,trivial⟩ trivial
  refine aq hE 2 Tryz.func114 rfl rfl ?_
  simp only[Bool.and_eq_true,decide_eq_true_eq]at hc
  obtain⟨⟨rfl,hc2⟩,⟨hbd,hva⟩,hvb⟩:=hc
  obtain⟨ha0,ha1⟩:=(bQ hbd).1 hva
  obtain⟨hb0,hb1⟩:=(bQ hbd).1 hvb
  have hf0:f≠0:=by have:=cZ (bh hbd).1;omega
  repeat (first|(first|refine ah ?_|refine sat_nd ?_)|refine ae (aB ha0 ha1) ?_)
  refine av (fun hk=>?_) (fun hk=>?_)
  ·have hk:(!decide (absP (zs.getD a.toNat 0)=1))=true:=hk
   repeat (first|(first|refine ah ?_|refine sat_nd ?_)|refine ae (aG hc2 rfl) ?_|refine ae (mV hb0) ?_)
   exact ag (ai (.inr rfl) rfl rfl rfl (congrArg V.bool (by
    show (decide (pr=0)&&decide (uand (ushr (cn f r (absP (zs.getD a.toNat 0)) a (occR f r (tk zs))).1 b) 1=1))=_
    rw[aF,iB,hk];rfl)))
  have hk:(!decide (absP (zs.getD a.toNat 0)=1))=false:=hk
  repeat (first|refine ah ?_|refine sat_nd ?_)
  refine av (fun hb=>?_) (fun hb=>?_)
  ·subst hb
   repeat (first|(first|refine ah ?_|refine sat_nd ?_)|refine ae (aG hc2 rfl) ?_|refine ae (aB ha0 ha1) ?_|refine ae (aB hb0 hb1) ?_|refine ae (mV hb0) ?_|refine ae (gW hf0) ?_)
   refine av (fun hz=>?_) (fun hz=>?_)
   ·have hz:(decide (zs.getD b.toNat 0=0)&&!decide (b=pa))=true:=hz
    repeat (first|(first|refine ah ?_|refine sat_nd ?_)|refine ae (aG hc2 rfl) ?_|refine ae (aB ha0 ha1) ?_|refine ae (aB hb0 hb1) ?_|refine ae (mV hb0) ?_|refine ae (gW hf0) ?_)
    exact ag (ai (.inr rfl) rfl rfl rfl (congrArg V.bool (by
     show (decide (uand (ushr (uor (dc f r true a (occR f r (tk zs))).1 (0)) b) 1=1)&&((!decide (pr=0))==decide (i64.wrap (b.tdiv f)=0)))=_
     rw[aF,iB,hk,cond_false,hz];rfl)))
   ·have hz:(decide (zs.getD b.toNat 0=0)&&!decide (b=pa))=false:=hz
    repeat (first|(first|refine ah ?_|refine sat_nd ?_)|refine ae (aG hc2 rfl) ?_|refine ae (aB ha0 ha1) ?_|refine ae (aB hb0 hb1) ?_|refine ae (mV hb0) ?_|refine ae (gW hf0) ?_)
    exact ag (ai (.inr rfl) rfl rfl rfl (congrArg V.bool (by
     show (decide (uand (ushr (uor (dc f r true a (occR f r (tk zs))).1 ((gr f r true a).1)) b) 1=1)&&((!decide (pr=0))==decide (i64.wrap (b.tdiv f)=0)))=_
     rw[aF,iB,hk,cond_false,hz];rfl)))
  ·subst hb
   repeat (first|(first|refine ah ?_|refine sat_nd ?_)|refine ae (aG hc2 rfl) ?_|refine ae (aB ha0 ha1) ?_|refine ae (aB hb0 hb1) ?_|refine ae (mV hb0) ?_|refine ae (gW hf0) ?_)
   refine av (fun hz=>?_) (fun hz=>?_)
   ·have hz:(decide (zs.getD b.toNat 0=0)&&!decide (b=pa))=true:=hz
    repeat (first|(first|refine ah ?_|refine sat_nd ?_)|refine ae (aG hc2 rfl) ?_|refine ae (aB ha0 ha1) ?_|refine ae (aB hb0 hb1) ?_|refine ae (mV hb0) ?_|refine ae (gW hf0) ?_)
    exact ag (ai (.inr rfl) rfl rfl rfl (congrArg V.bool (by
     show (decide (uand (ushr (uor (dc f r false a (occR f r (tk zs))).1 (0)) b) 1=1)&&((!decide (pr=0))==decide (i64.wrap (b.tdiv f)=i64.wrap (r-1))))=_
     rw[aF,iB,hk,cond_false,hz];rfl)))
   ·have hz:(decide (zs.getD b.toNat 0=0)&&!decide (b=pa))=false:=hz
    repeat (first|(first|refine ah ?_|refine sat_nd ?_)|refine ae (aG hc2 rfl) ?_|refine ae (aB ha0 ha1) ?_|refine ae (aB hb0 hb1) ?_|refine ae (mV hb0) ?_|refine ae (gW hf0) ?_)
    exact ag (ai (.inr rfl) rfl rfl rfl (congrArg V.bool (by
     show (decide (uand (ushr (uor (dc f r false a (occR f r (tk zs))).1 ((gr f r false a).1)) b) 1=1)&&((!decide (pr=0))==decide (i64.wrap (b.tdiv f)=i64.wrap (r-1))))=_
     rw[aF,iB,hk,cond_false,hz];rfl)))
 ·cases e
def wX:CF
 |[.int .i64 at_],[]=>some (true,.int .u8 (JO at_),[])
 |_,_=>none
theorem Bi:CtOk (GGx true kDb) PP (116,wX):=by
 refine aD Tryz.func116 (by kernel_rfl) rfl fun a0 h0 c0 v0 N0 e hc=>?_
 unfold wX at e
 split at e
 ·rename_i at_
  cases e
  have hE:=cutE (aA (kCa:=true) (kDb:=kDb) (cts:=[]) (inl:=[]) trivial trivial)
  refine aq hE 2 Tryz.func116 rfl rfl ?_
  repeat (first|refine ah ?_|refine sat_nd ?_)
  refine dx hE 2 5 ?_
  refine rnd ?_
  refine bF hE 2 rfl (fun _=>?_) (fun h=>absurd h (by decide))
  repeat (first|refine ah ?_|refine sat_nd ?_)
  refine bE hE 2 (fun e tm hp=>e=.normal/\tm=[(0,I at_),(3,.int .u8 (dK at_ 0 4 7 1)),(6,.agg [.int .u8 1,.lit false,.int .i64 4,.int .i64 6,.int .i64 7,.int .i64 5,.int .u8 2,.lit false,.int .i64 4,.int .i64 2,.int .i64 0,.int .i64 3,.int .u8 4,.lit true,.int .i64 60,.int .i64 62,.int .i64 63,.int .i64 61,.int .u8 8,.lit true,.int .i64 60,.int .i64 58,.int .i64 56,.int .i64 59]),(7,I 0)]/\hp=[]) rfl (fun h=>?_) (fun h=>?_) ?_
  ·have h:(decide (4=at_)||decide (7=at_))=true:=h
   exact ag ⟨_,_,Ent.ren [] [0,3,6,7] rfl rfl rfl,rfl,by rw[qe h],rfl⟩
  ·have h:(decide (4=at_)||decide (7=at_))=false:=h
   exact ag ⟨_,_,Ent.ren [] [0,3,6,7] rfl rfl rfl,rfl,by rw[rf h],rfl⟩
  rintro e tm hp ⟨rfl,rfl,rfl⟩
  refine ag ⟨[(0,I at_),(3,.int .u8 (dK at_ 0 4 7 1)),(6,.agg [.int .u8 1,.lit false,.int .i64 4,.int .i64 6,.int .i64 7,.int .i64 5,.int .u8 2,.lit false,.int .i64 4,.int .i64 2,.int .i64 0,.int .i64 3,.int .u8 4,.lit true,.int .i64 60,.int .i64 62,.int .i64 63,.int .i64 61,.int .u8 8,.lit true,.int .i64 60,.int .i64 58,.int .i64 56,.int .i64 59]),(7,I 1)],[],Ent.ren [] [0,3,6,7] rfl rfl rfl,?_⟩
  refine rnd ?_
  refine bF hE 2 rfl (fun _=>?_) (fun h=>absurd h (by decide))
  repeat (first|refine ah ?_|refine sat_nd ?_)
  refine bE hE 2 (fun e tm hp=>e=.normal/\tm=[(0,I at_),(3,.int .u8 (dK at_ (dK at_ 0 4 7 1) 4 0 2)),(6,.agg [.int .u8 1,.lit false,.int .i64 4,.int .i64 6,.int .i64 7,.int .i64 5,.int .u8 2,.lit false,.int .i64 4,.int .i64 2,.int .i64 0,.int .i64 3,.int .u8 4,.lit true,.int .i64 60,.int .i64 62,.int .i64 63,.int .i64 61,.int .u8 8,.lit true,.int .i64 60,.int .i64 58,.int .i64 56,.int .i64 59]),(7,I 1)]/\hp=[]) rfl (fun h=>?_) (fun h=>?_) ?_
  ·have h:(decide (4=at_)||decide (0=at_))=true:=h
   exact ag ⟨_,_,Ent.ren [] [0,3,6,7] rfl rfl rfl,rfl,by rw[qe h],rfl⟩
  ·have h:(decide (4=at_)||decide (0=at_))=false:=h
   exact ag ⟨_,_,Ent.ren [] [0,3,6,7] rfl rfl rfl,rfl,by rw[rf h],rfl⟩
  rintro e tm hp ⟨rfl,rfl,rfl⟩
  refine ag ⟨[(0,I at_),(3,.int .u8 (dK at_ (dK at_ 0 4 7 1) 4 0 2)),(6,.agg [.int .u8 1,.lit false,.int .i64 4,.int .i64 6,.int .i64 7,.int .i64 5,.int .u8 2,.lit false,.int .i64 4,.int .i64 2,.int .i64 0,.int .i64 3,.int .u8 4,.lit true,.int .i64 60,.int .i64 62,.int .i64 63,.int .i64 61,.int .u8 8,.lit true,.int .i64 60,.int .i64 58,.int .i64 56,.int .i64 59]),(7,I 2)],[],Ent.ren [] [0,3,6,7] rfl rfl rfl,?_⟩
  refine rnd ?_
  refine bF hE 2 rfl (fun _=>?_) (fun h=>absurd h (by decide))
  repeat (first|refine ah ?_|refine sat_nd ?_)
  refine bE hE 2 (fun e tm hp=>e=.normal/\tm=[(0,I at_),(3,.int .u8 (dK at_ (dK at_ (dK at_ 0 4 7 1) 4 0 2) 60 63 4)),(6,.agg [.int .u8 1,.lit false,.int .i64 4,.int .i64 6,.int .i64 7,.int .i64 5,.int .u8 2,.lit false,.int .i64 4,.int .i64 2,.int .i64 0,.int .i64 3,.int .u8 4,.lit true,.int .i64 60,.int .i64 62,.int .i64 63,.int .i64 61,.int .u8 8,.lit true,.int .i64 60,.int .i64 58,.int .i64 56,.int .i64 59]),(7,I 2)]/\hp=[]) rfl (fun h=>?_) (fun h=>?_) ?_
  ·have h:(decide (60=at_)||decide (63=at_))=true:=h
   exact ag ⟨_,_,Ent.ren [] [0,3,6,7] rfl rfl rfl,rfl,by rw[qe h],rfl⟩
  ·have h:(decide (60=at_)||decide (63=at_))=false:=h
   exact ag ⟨_,_,Ent.ren [] [0,3,6,7] rfl rfl rfl,rfl,by rw[rf h],rfl⟩
  rintro e tm hp ⟨rfl,rfl,rfl⟩
  refine ag ⟨[(0,I at_),(3,.int .u8 (dK at_ (dK at_ (dK at_ 0 4 7 1) 4 0 2) 60 63 4)),(6,.agg [.int .u8 1,.lit false,.int .i64 4,.int .i64 6,.int .i64 7,.int .i64 5,.int .u8 2,.lit false,.int .i64 4,.int .i64 2,.int .i64 0,.int .i64 3,.int .u8 4,.lit true,.int .i64 60,.int .i64 62,.int .i64 63,.int .i64 61,.int .u8 8,.lit true,.int .i64 60,.int .i64 58,.int .i64 56,.int .i64 59]),(7,I 3)],[],Ent.ren [] [0,3,6,7] rfl rfl rfl,?_⟩
  refine rnd ?_
  refine bF hE 2 rfl (fun _=>?_) (fun h=>absurd h (by decide))
  repeat (first|refine ah ?_|refine sat_nd ?_)
  refine bE hE 2 (fun e tm hp=>e=.normal/\tm=[(0,I at_),(3,.int .u8 (dK at_ (dK at_ (dK at_ (dK at_ 0 4 7 1) 4 0 2) 60 63 4) 60 56 8)),(6,.agg [.int .u8 1,.lit false,.int .i64 4,.int .i64 6,.int .i64 7,.int .i64 5,.int .u8 2,.lit false,.int .i64 4,.int .i64 2,.int .i64 0,.int .i64 3,.int .u8 4,.lit true,.int .i64 60,.int .i64 62,.int .i64 63,.int .i64 61,.int .u8 8,.lit true,.int .i64 60,.int .i64 58,.int .i64 56,.int .i64 59]),(7,I 3)]/\hp=[]) rfl (fun h=>?_) (fun h=>?_) ?_
  ·have h:(decide (60=at_)||decide (56=at_))=true:=h
   exact ag ⟨_,_,Ent.ren [] [0,3,6,7] rfl rfl rfl,rfl,by rw[qe h],rfl⟩
  ·have h:(decide (60=at_)||decide (56=at_))=false:=h
   exact ag ⟨_,_,Ent.ren [] [0,3,6,7] rfl rfl rfl,rfl,by rw[rf h],rfl⟩
  rintro e tm hp ⟨rfl,rfl,rfl⟩
  refine ag ⟨[(0,I at_),(3,.int .u8 (dK at_ (dK at_ (dK at_ (dK at_ 0 4 7 1) 4 0 2) 60 63 4) 60 56 8)),(6,.agg [.int .u8 1,.lit false,.int .i64 4,.int .i64 6,.int .i64 7,.int .i64 5,.int .u8 2,.lit false,.int .i64 4,.int .i64 2,.int .i64 0,.int .i64 3,.int .u8 4,.lit true,.int .i64 60,.int .i64 62,.int .i64 63,.int .i64 61,.int .u8 8,.lit true,.int .i64 60,.int .i64 58,.int .i64 56,.int .i64 59]),(7,I 4)],[],Ent.ren [] [0,3,6,7] rfl rfl rfl,?_⟩
  refine rnd ?_
  refine bF hE 2 rfl (fun h=>absurd h (by decide)) (fun _=>?_)
  exact ag (ag (ai (.inr rfl) rfl rfl rfl rfl))
 ·cases e
end
end Go.Ab
namespace Go.Ab
open Go.Proofs
section
variable{kCa kDb:Bool}
end
section
variable{kCa kDb:Bool}
def ownL(p:Int)(bl:Bool):Bool:=!decide (p=0)&&(decide (p<0)==bl)
def rowN(bit:Int)(i:Nat):List UInt8:=bif decide (bit=1) then([[101,49],[103,49],[104,49],[102,49]]:List (List UInt8)).getD i []else bif decide (bit=2) then([[101,49],[99,49],[97,49],[100,49]]:List (List UInt8)).getD i []else bif decide (bit=4) then([[101,56],[103,56],[104,56],[102,56]]:List (List UInt8)).getD i [] else([[101,56],[99,56],[97,56],[100,56]]:List (List UInt8)).getD i []
def sqW(bit:Int)(i:Nat):Int:=cx 8 8 (rowN bit i)
theorem xV{bit:Int}{l:List (List UInt8)}(h:∀ i,rowN bit i=l.getD i []):[O.vals true 1 [[.str (rowN bit 0)],[.str (rowN bit 1)],[.str (rowN bit 2)],[.str (rowN bit 3)]]]=[O.vals true 1 [[.str (l.getD 0 [])],[.str (l.getD 1 [])],[.str (l.getD 2 [])],[.str (l.getD 3 [])]]]:=by rw[h,h,h,h]
def dH(zs l:List Int):Bool:=l.all fun i=>decide (zs.getD i.toNat 0=0)
def xP:CF
 |[.agg [.int .i64 f,.int .i64 r,.sl 0 0 len none,.bool bl,.int .u8 ca,.int .i64 pa,.int .i64 ha,.int .i64 fu]],[.ints false .i8 zs]=>some (decide (len=zs.length)&&decide (zs.length<=64),.agg [I f,I r,.sl 1 0 zs.length none,Bb bl,.int .u8 ca,I pa,I ha,I fu],[.ints true .i8 zs])
 |_,_=>none
theorem An:CtOk (GGx kCa kDb) PP (15,xP):=by
 refine aD Tryz.func15 (by kernel_rfl) rfl fun a0 h0 c0 v0 N0 e hc=>?_
 unfold xP at e
 split at e
 ·rename_i f r len bl ca pa ha fu zs
  cases e
  have hE:=aA (kCa:=kCa) (kDb:=kDb) (cts:=[]) (inl:=[]) trivial trivial
  refine aq hE 2 Tryz.func15 rfl rfl ?_
  simp only[Bool.and_eq_true,decide_eq_true_eq]at hc
  obtain⟨rfl,hc2⟩:=hc
  repeat (first|(first|refine ah ?_|refine sat_nd ?_)|refine ae (aG hc2 rfl) ?_|refine ae (by simp;omega) ?_)
  exact ag (bV 3 (.inr rfl) rfl rfl rfl rfl (by show [O.ints true .i8 (tk zs)]=_;rw[aF]) (by show V.agg [I f,I r,.sl 1 0 (tk zs).length none,Bb bl,.int .u8 ca,I pa,I ha,I fu]=_;rw[aF]))
 ·cases e
def mX:CF
 |[.agg [.int .i64 f,.int .i64 r],.agg [.int .i64 a,.int .i64 b,.int .i8 pr]],[]=>some (true,.bool (mvB f r a b pr),[])
 |_,_=>none
theorem sU:CtOk (GGx kCa kDb) PP (147,mX):=by
 refine aD Tryz.func147 (by kernel_rfl) rfl fun a0 h0 c0 v0 N0 e hc=>?_
 unfold mX at e
 split at e
 ·rename_i f r a b pr
  cases e
  have hE:=aA (kCa:=kCa) (kDb:=kDb) (cts:=[(84,nc)]) (inl:=[]) ⟨kj,trivial⟩ trivial
  refine aq hE 2 Tryz.func147 rfl rfl ?_
  repeat (first|refine ah ?_|refine sat_nd ?_)
  exact ag (ai (.inr rfl) rfl rfl rfl rfl)
 ·cases e
def Es:CF
 |[.int .i8 p,.bool bl],[]=>some (true,.bool (ownL p bl),[])
 |_,_=>none
theorem DA:CtOk (GGx kCa kDb) PP (183,Es):=by
 refine aD Tryz.func183 (by kernel_rfl) rfl fun a0 h0 c0 v0 N0 e hc=>?_
 unfold Es at e
 split at e
 ·rename_i p bl
  cases e
  have hE:=aA (kCa:=kCa) (kDb:=kDb) (cts:=[]) (inl:=[]) trivial trivial
  refine aq hE 2 Tryz.func183 rfl rfl ?_
  repeat (first|refine ah ?_|refine sat_nd ?_)
  exact ag (ai (.inr rfl) rfl rfl rfl rfl)
 ·cases e
def gQ:CF
 |[.str s],[]=>some (true,.int .i64 (cx 8 8 s),[])
 |_,_=>none
theorem gY:CtOk (GGx kCa kDb) PP (142,gQ):=by
 refine aD Tryz.func142 (by kernel_rfl) rfl fun a0 h0 c0 v0 N0 e hc=>?_
 unfold gQ at e
 split at e
 ·rename_i s
  cases e
  have hE:=aA (kCa:=kCa) (kDb:=kDb) (cts:=[(124,nu)]) (inl:=[]) ⟨ku,trivial⟩ trivial
  refine aq hE 2 Tryz.func142 rfl rfl ?_
  repeat (first|refine ah ?_|refine sat_nd ?_)
  exact ag (ai (.inr rfl) rfl rfl rfl rfl)
 ·cases e
def uK:CF
 |[.int .u8 bit],[]=>some (true,.sl 0 0 4 none,[.vals true 1 [[.str (rowN bit 0)],[.str (rowN bit 1)],[.str (rowN bit 2)],[.str (rowN bit 3)]]])
 |_,_=>none
theorem mI:CtOk (GGx kCa kDb) PP (141,uK):=by
 refine aD Tryz.func141 (by kernel_rfl) rfl fun a0 h0 c0 v0 N0 e hc=>?_
 unfold uK at e
 split at e
 ·rename_i bit
  cases e
  have hE:=aA (kCa:=kCa) (kDb:=kDb) (cts:=[]) (inl:=[]) trivial trivial
  refine aq hE 2 Tryz.func141 rfl rfl ?_
  repeat (first|refine ah ?_|refine sat_nd ?_)
  refine av (fun h1=>?_) (fun h1=>?_)
  ·have h1:decide (bit=1)=true:=h1
   repeat (first|refine ah ?_|refine sat_nd ?_)
   exact ag (bV 0 (.inr rfl) rfl rfl rfl rfl (by rw[xV (l:=[[101,49],[103,49],[104,49],[102,49]]) (fun i=>by simp only[rowN,h1,cond_true])];rfl) rfl)
  have h1:decide (bit=1)=false:=h1
  refine av (fun h2=>?_) (fun h2=>?_)
  ·have h2:decide (bit=2)=true:=h2
   exact ag (bV 0 (.inr rfl) rfl rfl rfl rfl (by rw[xV (l:=[[101,49],[99,49],[97,49],[100,49]]) (fun i=>by simp only[rowN,h1,h2,cond_true,cond_false])];rfl) rfl)
  have h2:decide (bit=2)=false:=h2
  refine av (fun h3=>?_) (fun h3=>?_)
  ·have h3:decide (bit=4)=true:=h3
   exact ag (bV 0 (.inr rfl) rfl rfl rfl rfl (by rw[xV (l:=[[101,56],[103,56],[104,56],[102,56]]) (fun i=>by simp only[rowN,h1,h2,h3,cond_true,cond_false])];rfl) rfl)
  have h3:decide (bit=4)=false:=h3
  exact ag (bV 0 (.inr rfl) rfl rfl rfl rfl (by rw[xV (l:=[[101,56],[99,56],[97,56],[100,56]]) (fun i=>by simp only[rowN,h1,h2,h3,cond_false])];rfl) rfl)
 ·cases e
end
end Go.Ab
namespace Go.Ab
open IntKind
open Go.Proofs
section
variable{kCa kDb:Bool}
def vH(zs:List Int)(i:Int):Bool:=decide (0<=i)&&decide (i<zs.length)
def cgS(f r:Int)(zs:List Int)(bl:Bool)(ca a b bit:Int):Bool:=decide ((u8.wrap (ca.tdiv bit)).tmod 2=1)&&(decide (2<bit)==bl)&&decide (a=sqW bit 0)&&decide (b=sqW bit 1)&&dH zs (bT f r (sqW bit 0) (sqW bit 2))
def cgL(f r:Int)(zs:List Int)(bl:Bool)(ca a b pr:Int):Int:=bif !decide (aY (zs.getD a.toNat 0)=6)||!decide (pr=0)then 0 else bif cgS f r zs bl ca a b 1 then 1 else bif cgS f r zs bl ca a b 2 then 2 else bif cgS f r zs bl ca a b 4 then 4 else bif cgS f r zs bl ca a b 8 then 8 else 0
def pnL(f r:Int)(zs:List Int)(bl:Bool)(pa a b pr:Int):Bool:=bif !(decide (i64.wrap (b.tdiv f)=gj r bl)==!decide (pr=0))then false else bif hasL b (cz (cq f r bl a (occL zs)) id ((f*r).toNat))then true else hasL b (cz (ei f bl a) id ((f*r).toNat))&&(!decide (zs.getD b.toNat 0=0)||decide (b=pa))
def soL(f r:Int)(zs:List Int)(bl:Bool)(ca pa a b pr:Int):Bool:=bif ownL (zs.getD b.toNat 0) bl then false else bif decide (aY (zs.getD a.toNat 0)=1)then pnL f r zs bl pa a b pr else bif !decide (cgL f r zs bl ca a b pr=0)then true else decide (pr=0)&&bJ f r (aY (zs.getD a.toNat 0)) a b (occL zs)
def capL(f r:Int)(zs:List Int)(pa a b:Int):Int:=bif decide (aY (zs.getD a.toNat 0)=1)&&decide (b=pa)then numR f r (b.tmod f) (i64.wrap (a.tdiv f))else bif !decide (zs.getD b.toNat 0=0)then b else -1
theorem bO{zs:List Int}{b:Int}{g:Bool}(h:0<=b)(h1:b<zs.length):(!g||(decide (0<=b)&&decide (b<zs.length)))=true:=by simp[h,h1]
theorem bR{zs:List Int}{b:Int}(h:0<=b)(h1:b<zs.length):(decide (0<=b)&&decide (b<zs.length))=true:=by simp[h,h1]
theorem bD{zs:List Int}{b:Int}(h:0<=b)(h1:b<zs.length):(decide (0<=b)&&decide (b<(tk zs).length))=true:=by rw[jv];simp[h,h1]
theorem uD{f r:Int}{zs:List Int}{ca bit:Int}(h:cV f r zs ca=true)(hb:bit=1\/bit=2\/bit=4\/bit=8)(h1:decide ((u8.wrap (ca.tdiv bit)).tmod 2=1)=true):iM f r zs bit=true:=by
 unfold cV at h
 cases h15:decide (15<ca) with
 |true=>rw[h15]at h;cases h
 |false=>
  rw[h15,cond_false]at h
  simp only[Bool.not_eq_true',Bool.or_eq_false_iff,rXL,Bool.and_eq_false_iff,Bool.not_eq_false']at h
  obtain⟨⟨⟨c1,c2⟩,c3⟩,c4⟩:=h
  rcases hb with rfl|rfl|rfl|rfl
  ·exact c1.resolve_left (by rw[h1];simp)
  ·exact c2.resolve_left (by rw[h1];simp)
  ·exact c3.resolve_left (by rw[h1];simp)
  ·exact c4.resolve_left (by rw[h1];simp)
theorem Cy{f r:Int}{zs:List Int}{bit:Int}(h:iM f r zs bit=true):f=8/\r=8:=by
 unfold iM at h
 cases h8:(!decide (f=8)||!decide (r=8)) with
 |true=>rw[h8]at h;cases h
 |false=>simpa using h8
theorem bt_1:bT 8 8 (sqW 1 0) (sqW 1 2)=[5,6]:=by kernel_rfl
theorem bt_2:bT 8 8 (sqW 2 0) (sqW 2 2)=[3,2,1]:=by kernel_rfl
theorem bt_4:bT 8 8 (sqW 4 0) (sqW 4 2)=[61,62]:=by kernel_rfl
theorem bt_8:bT 8 8 (sqW 8 0) (sqW 8 2)=[59,58,57]:=by kernel_rfl
theorem mh{f r:Int}{zs:List Int}{ca bit:Int}{x y z:Bool}(_hc2:zs.length<=64)(hbd:aC f r zs=true)(h:cV f r zs ca=true)(hb:bit=1\/bit=2\/bit=4\/bit=8):(!(decide ((u8.wrap (ca.tdiv bit)).tmod 2=1)&&x&&y&&z)||(decide (zs.length=(tk zs).length)&&decide ((tk zs).length<=64)&&decide ((bT f r (sqW bit 0) (sqW bit 2)).length=(((gp f r (sqW bit 0) (sqW bit 2)).drop 0).take (bT f r (sqW bit 0) (sqW bit 2)).length).length)&&decide ((((gp f r (sqW bit 0) (sqW bit 2)).drop 0).take (bT f r (sqW bit 0) (sqW bit 2)).length).length<=1000)&&(((gp f r (sqW bit 0) (sqW bit 2)).drop 0).take (bT f r (sqW bit 0) (sqW bit 2)).length).all (vH (tk zs))))=true:=by
 rw[cw,aF]
 cases h1:decide ((u8.wrap (ca.tdiv bit)).tmod 2=1) with
 |false=>simp
 |true=>
  obtain⟨rfl,rfl⟩:=Cy (uD h hb h1)
  have h64:=tT hbd rfl
  rcases hb with rfl|rfl|rfl|rfl
  ·rw[bt_1];simp[vH,h64]
  ·rw[bt_2];simp[vH,h64]
  ·rw[bt_4];simp[vH,h64]
  ·rw[bt_8];simp[vH,h64]
theorem MU{zs l:List Int}{j:Nat}(h:j<l.length):dH zs (l.drop j)=(decide (zs.getD (l.getD j 0).toNat 0=0)&&dH zs (l.drop (j+1))):=by
 rw[List.drop_eq_getElem_cons h,dH,List.all_cons]
 simp only[List.getD_eq_getElem?_getD,List.getElem?_eq_getElem h,Option.getD_some]
 rfl
def Fy:CF
 |[.agg [.int .i64 _f,.int .i64 _r,.sl 0 0 len none,.bool _bl,.int .u8 _ca,.int .i64 _pa,.int .i64 _ha,.int .i64 _fu],.sl 1 0 ll none],[.ints false .i8 zs,.ints false .i64 l]=>some (decide (len=zs.length)&&decide (zs.length<=64)&&decide (ll=l.length)&&decide (l.length<=1000)&&l.all (vH zs),.bool (dH zs l),[])
 |_,_=>none
theorem DL:CtOk (GGx kCa kDb) PP (163,Fy):=by
 refine aD Tryz.func163 (by kernel_rfl) rfl fun a0 h0 c0 v0 N0 e hc=>?_
 unfold Fy at e
 split at e
 ·rename_i f r len bl ca pa ha fu ll zs l
  cases e
  have hE:=aA (kCa:=kCa) (kDb:=kDb) (cts:=[]) (inl:=[]) trivial trivial
  refine aq hE 2 Tryz.func163 rfl rfl ?_
  simp only[Bool.and_eq_true,decide_eq_true_eq]at hc
  obtain⟨⟨⟨⟨rfl,hc2⟩,rfl⟩,hl⟩,hal⟩:=hc
  refine cC hE 2 (fun i (_:Unit)=>([(1,.sl 1 0 l.length none),(2,.ptr 2 0 0),(5,I i)],[.ints false .i8 zs,.ints false .i64 l,.cells true [I f,I r,.sl 0 0 zs.length none,Bb bl,.int .u8 ca,I pa,I ha,I fu]])) l.length (fun j _=>dH zs (l.drop j)=dH zs l) () (by omega) (Ent.ren [0,1,2] [1,2,5] rfl rfl rfl) rfl ?_
  intro j i _ hij hj hz
  refine av (fun hlt=>?_) (fun hlt=>?_)
  ·have hlt':j<l.length:=by simp at hlt;omega
   have hx:vH zs (l.getD i.toNat 0)=true:=by
    have:=List.all_eq_true.1 hal (l[j]) (List.getElem_mem hlt')
    rw[show i.toNat=j by omega,List.getD_eq_getElem?_getD,List.getElem?_eq_getElem hlt',Option.getD_some];exact this
   rw[MU hlt',show j=i.toNat by omega]at hz
   repeat (first|(first|refine ah ?_|refine sat_nd ?_)|refine ae (by simp only[Bool.and_eq_true,decide_eq_true_eq];omega) ?_|refine ae hx ?_)
   refine av (fun hon=>?_) (fun hon=>?_)
   ·have hon:(!decide (zs.getD (l.getD i.toNat 0).toNat 0=0))=true:=hon
    rw[Bool.not_eq_true']at hon
    rw[hon,Bool.false_and]at hz
    exact ag (ag (ai (.inr rfl) rfl rfl rfl (by rw[<-hz])))
   ·have hon:(!decide (zs.getD (l.getD i.toNat 0).toNat 0=0))=false:=hon
    rw[Bool.not_eq_false']at hon
    rw[hon,Bool.true_and]at hz
    exact ag ⟨hlt',(),by rw[<-hz,show i.toNat=j by omega],Ent.ren [0,1,2] [1,2,5] rfl rfl rfl⟩
  ·obtain rfl:j=l.length:=by simp at hlt;omega
   rw[List.drop_length]at hz
   exact ag (ag (ai (.inr rfl) rfl rfl rfl (by rw[<-hz];rfl)))
 ·cases e
def tM:CF
 |[.agg [.int .i64 f,.int .i64 r,.sl 0 0 len none,.bool bl,.int .u8 ca,.int .i64 _pa,.int .i64 _ha,.int .i64 _fu],.agg [.int .i64 a,.int .i64 b,.int .i8 pr]],[.ints false .i8 zs]=>some (decide (len=zs.length)&&decide (zs.length<=64)&&(aC f r zs&&cV f r zs ca&&aj f r a&&aj f r b),.int .u8 (cgL f r zs bl ca a b pr),[])
 |_,_=>none
theorem mZ:CtOk (GGx kCa kDb) PP (140,tM):=by
 refine aD Tryz.func140 (by kernel_rfl) rfl fun a0 h0 c0 v0 N0 e hc=>?_
 unfold tM at e
 split at e
 ·rename_i f r len bl ca pa ha fu a b pr zs
  cases e
  have hE:=aA (kCa:=kCa) (kDb:=kDb) (cts:=[(38,fj),(141,uK),(142,gQ),(164,jt),(163,Fy)]) (inl:=[]) ⟨dR,mI,gY,lC,DL,trivial⟩ trivial
  refine aq hE 2 Tryz.func140 rfl rfl ?_
  simp only[Bool.and_eq_true,decide_eq_true_eq]at hc
  obtain⟨⟨rfl,hc2⟩,⟨⟨hbd,hcs⟩,hva⟩,hvb⟩:=hc
  have hvs:=(bh hbd).1
  obtain⟨ha0,ha1⟩:=(bQ hbd).1 hva
  obtain⟨hb0,hb1⟩:=(bQ hbd).1 hvb
  have hf0:(!decide (f=0))=true:=by have:=cZ hvs;simp;omega
  have hf1:∀ g:Bool,(!g||!decide (f=0))=true:=fun g=>by rw[hf0];simp
  repeat (first|(first|refine ah ?_|refine sat_nd ?_)|refine ae (bR ha0 ha1) ?_|refine ae (bR hb0 hb1) ?_|refine ae (bO ha0 ha1) ?_|refine ae (bO hb0 hb1) ?_|refine ae hf0 ?_|refine ae (hf1 _) ?_|refine ae (aG hc2 rfl) ?_|refine ae (cj hc2 rfl) ?_)
  refine av (fun h=>?_) (fun h=>?_)
  ·have h:(!decide (aY (zs.getD a.toNat 0)=6)||!decide (pr=0))=true:=h
   exact ag (ai (.inr rfl) rfl rfl rfl (by rw[cgL,h];rfl))
  have h:(!decide (aY (zs.getD a.toNat 0)=6)||!decide (pr=0))=false:=h
  repeat (first|refine ah ?_|refine sat_nd ?_)
  refine dx hE 2 5 ?_
  refine rnd ?_
  refine cL (by rfl) ?_
  repeat (first|(first|refine ah ?_|refine sat_nd ?_)|refine ae (hf1 _) ?_|refine ae (mh (bit:=1) hc2 hbd hcs (by simp)) ?_)
  refine av (fun h0=>?_) (fun h0=>?_)
  ·have h0:(decide ((u8.wrap (ca.tdiv 1)).tmod 2=1)&&(decide (2<(1:Int))==bl)&&decide (a=sqW 1 0)&&decide (b=sqW 1 1)&&dH (tk zs) (((gp f r (sqW 1 0) (sqW 1 2)).drop 0).take (bT f r (sqW 1 0) (sqW 1 2)).length))=true:=h0
   rw[aF,cw]at h0
   have h0:cgS f r zs bl ca a b 1=true:=h0
   exact ag (ag (ai (.inr rfl) rfl rfl rfl (by simp only[cgL,h,h0,cond_true,cond_false];rfl)))
  have h0:(decide ((u8.wrap (ca.tdiv 1)).tmod 2=1)&&(decide (2<(1:Int))==bl)&&decide (a=sqW 1 0)&&decide (b=sqW 1 1)&&dH (tk zs) (((gp f r (sqW 1 0) (sqW 1 2)).drop 0).take (bT f r (sqW 1 0) (sqW 1 2)).length))=false:=h0
  rw[aF,cw]at h0
  have h0:cgS f r zs bl ca a b 1=false:=h0
  refine ag ⟨[(2,.ptr 1 0 0),(3,.ptr 2 0 0),(21,.sl 3 0 4 none),(22,I 4),(23,I 1)],[.ints false .i8 zs,.cells true [I f,I r,.sl 0 0 zs.length none,Bb bl,.int .u8 ca,I pa,I ha,I fu],.cells true [I a,I b,.int .i8 pr],.ints true .u8 [1,2,4,8]],Ent.ren [0,1,2,3] [2,3,21,22,23] rfl rfl rfl,?_⟩
  refine rnd ?_
  refine cL (by rfl) ?_
  repeat (first|(first|refine ah ?_|refine sat_nd ?_)|refine ae (hf1 _) ?_|refine ae (mh (bit:=2) hc2 hbd hcs (by simp)) ?_)
  refine av (fun h1=>?_) (fun h1=>?_)
  ·have h1:(decide ((u8.wrap (ca.tdiv 2)).tmod 2=1)&&(decide (2<(2:Int))==bl)&&decide (a=sqW 2 0)&&decide (b=sqW 2 1)&&dH (tk zs) (((gp f r (sqW 2 0) (sqW 2 2)).drop 0).take (bT f r (sqW 2 0) (sqW 2 2)).length))=true:=h1
   rw[aF,cw]at h1
   have h1:cgS f r zs bl ca a b 2=true:=h1
   exact ag (ag (ai (.inr rfl) rfl rfl rfl (by simp only[cgL,h,h0,h1,cond_true,cond_false];rfl)))
  have h1:(decide ((u8.wrap (ca.tdiv 2)).tmod 2=1)&&(decide (2<(2:Int))==bl)&&decide (a=sqW 2 0)&&decide (b=sqW 2 1)&&dH (tk zs) (((gp f r (sqW 2 0) (sqW 2 2)).drop 0).take (bT f r (sqW 2 0) (sqW 2 2)).length))=false:=h1
  rw[aF,cw]at h1
  have h1:cgS f r zs bl ca a b 2=false:=h1
  refine ag ⟨[(2,.ptr 1 0 0),(3,.ptr 2 0 0),(21,.sl 3 0 4 none),(22,I 4),(23,I 2)],[.ints false .i8 zs,.cells true [I f,I r,.sl 0 0 zs.length none,Bb bl,.int .u8 ca,I pa,I ha,I fu],.cells true [I a,I b,.int .i8 pr],.ints true .u8 [1,2,4,8]],Ent.ren [0,1,2,3] [2,3,21,22,23] rfl rfl rfl,?_⟩
  refine rnd ?_
  refine cL (by rfl) ?_
  repeat (first|(first|refine ah ?_|refine sat_nd ?_)|refine ae (hf1 _) ?_|refine ae (mh (bit:=4) hc2 hbd hcs (by simp)) ?_)
  refine av (fun h2=>?_) (fun h2=>?_)
  ·have h2:(decide ((u8.wrap (ca.tdiv 4)).tmod 2=1)&&(decide (2<(4:Int))==bl)&&decide (a=sqW 4 0)&&decide (b=sqW 4 1)&&dH (tk zs) (((gp f r (sqW 4 0) (sqW 4 2)).drop 0).take (bT f r (sqW 4 0) (sqW 4 2)).length))=true:=h2
   rw[aF,cw]at h2
   have h2:cgS f r zs bl ca a b 4=true:=h2
   exact ag (ag (ai (.inr rfl) rfl rfl rfl (by simp only[cgL,h,h0,h1,h2,cond_true,cond_false];rfl)))
  have h2:(decide ((u8.wrap (ca.tdiv 4)).tmod 2=1)&&(decide (2<(4:Int))==bl)&&decide (a=sqW 4 0)&&decide (b=sqW 4 1)&&dH (tk zs) (((gp f r (sqW 4 0) (sqW 4 2)).drop 0).take (bT f r (sqW 4 0) (sqW 4 2)).length))=false:=h2
  rw[aF,cw]at h2
  have h2:cgS f r zs bl ca a b 4=false:=h2
  refine ag ⟨[(2,.ptr 1 0 0),(3,.ptr 2 0 0),(21,.sl 3 0 4 none),(22,I 4),(23,I 3)],[.ints false .i8 zs,.cells true [I f,I r,.sl 0 0 zs.length none,Bb bl,.int .u8 ca,I pa,I ha,I fu],.cells true [I a,I b,.int .i8 pr],.ints true .u8 [1,2,4,8]],Ent.ren [0,1,2,3] [2,3,21,22,23] rfl rfl rfl,?_⟩
  refine rnd ?_
  refine cL (by rfl) ?_
  repeat (first|(first|refine ah ?_|refine sat_nd ?_)|refine ae (hf1 _) ?_|refine ae (mh (bit:=8) hc2 hbd hcs (by simp)) ?_)
  refine av (fun h3=>?_) (fun h3=>?_)
  ·have h3:(decide ((u8.wrap (ca.tdiv 8)).tmod 2=1)&&(decide (2<(8:Int))==bl)&&decide (a=sqW 8 0)&&decide (b=sqW 8 1)&&dH (tk zs) (((gp f r (sqW 8 0) (sqW 8 2)).drop 0).take (bT f r (sqW 8 0) (sqW 8 2)).length))=true:=h3
   rw[aF,cw]at h3
   have h3:cgS f r zs bl ca a b 8=true:=h3
   exact ag (ag (ai (.inr rfl) rfl rfl rfl (by simp only[cgL,h,h0,h1,h2,h3,cond_true,cond_false];rfl)))
  have h3:(decide ((u8.wrap (ca.tdiv 8)).tmod 2=1)&&(decide (2<(8:Int))==bl)&&decide (a=sqW 8 0)&&decide (b=sqW 8 1)&&dH (tk zs) (((gp f r (sqW 8 0) (sqW 8 2)).drop 0).take (bT f r (sqW 8 0) (sqW 8 2)).length))=false:=h3
  rw[aF,cw]at h3
  have h3:cgS f r zs bl ca a b 8=false:=h3
  refine ag ⟨[(2,.ptr 1 0 0),(3,.ptr 2 0 0),(21,.sl 3 0 4 none),(22,I 4),(23,I 4)],[.ints false .i8 zs,.cells true [I f,I r,.sl 0 0 zs.length none,Bb bl,.int .u8 ca,I pa,I ha,I fu],.cells true [I a,I b,.int .i8 pr],.ints true .u8 [1,2,4,8]],Ent.ren [0,1,2,3] [2,3,21,22,23] rfl rfl rfl,?_⟩
  refine rnd ?_
  refine uT (by rfl) ?_
  exact ag (ag (ai (.inr rfl) rfl rfl rfl (by simp only[cgL,h,h0,h1,h2,h3,cond_false])))
 ·cases e
def Dz:CF
 |[.agg [.int .i64 f,.int .i64 r,.sl 0 0 len none,.bool _bl,.int .u8 ca,.int .i64 pa,.int .i64 _ha,.int .i64 _fu],.agg [.int .i64 a,.int .i64 b,.int .i8 _pr]],[.ints false .i8 zs]=>some (decide (len=zs.length)&&decide (zs.length<=64)&&(aC f r zs&&cV f r zs ca&&aj f r a&&aj f r b),.int .i64 (capL f r zs pa a b),[])
 |_,_=>none
theorem BF:CtOk (GGx kCa kDb) PP (138,Dz):=by
 refine aD Tryz.func138 (by kernel_rfl) rfl fun a0 h0 c0 v0 N0 e hc=>?_
 unfold Dz at e
 split at e
 ·rename_i f r len bl ca pa ha fu a b pr zs
  cases e
  have hE:=aA (kCa:=kCa) (kDb:=kDb) (cts:=[(38,fj),(39,dF),(86,fY)]) (inl:=[]) ⟨dR,bZ,eG,trivial⟩ trivial
  refine aq hE 2 Tryz.func138 rfl rfl ?_
  simp only[Bool.and_eq_true,decide_eq_true_eq]at hc
  obtain⟨⟨rfl,hc2⟩,⟨⟨hbd,hcs⟩,hva⟩,hvb⟩:=hc
  have hvs:=(bh hbd).1
  obtain⟨ha0,ha1⟩:=(bQ hbd).1 hva
  obtain⟨hb0,hb1⟩:=(bQ hbd).1 hvb
  have hf0:(!decide (f=0))=true:=by have:=cZ hvs;simp;omega
  have hf1:∀ g:Bool,(!g||!decide (f=0))=true:=fun g=>by rw[hf0];simp
  repeat (first|(first|refine ah ?_|refine sat_nd ?_)|refine ae (bR ha0 ha1) ?_|refine ae (bR hb0 hb1) ?_|refine ae (bO ha0 ha1) ?_|refine ae (bO hb0 hb1) ?_|refine ae hf0 ?_|refine ae (hf1 _) ?_|refine ae (aG hc2 rfl) ?_|refine ae (cj hc2 rfl) ?_)
  refine av (fun h=>?_) (fun h=>?_)
  ·have h:(decide (aY (zs.getD a.toNat 0)=1)&&decide (b=pa))=true:=h
   repeat (first|(first|refine ah ?_|refine sat_nd ?_)|refine ae (bR ha0 ha1) ?_|refine ae (bR hb0 hb1) ?_|refine ae (bO ha0 ha1) ?_|refine ae (bO hb0 hb1) ?_|refine ae hf0 ?_|refine ae (hf1 _) ?_|refine ae (aG hc2 rfl) ?_|refine ae (cj hc2 rfl) ?_)
   exact ag (ai (.inr rfl) rfl rfl rfl (by rw[capL,h];rfl))
  have h:(decide (aY (zs.getD a.toNat 0)=1)&&decide (b=pa))=false:=h
  repeat (first|(first|refine ah ?_|refine sat_nd ?_)|refine ae (bR ha0 ha1) ?_|refine ae (bR hb0 hb1) ?_|refine ae (bO ha0 ha1) ?_|refine ae (bO hb0 hb1) ?_|refine ae hf0 ?_|refine ae (hf1 _) ?_|refine ae (aG hc2 rfl) ?_|refine ae (cj hc2 rfl) ?_)
  refine av (fun h2=>?_) (fun h2=>?_)
  ·have h2:(!decide (zs.getD b.toNat 0=0))=true:=h2
   exact ag (ai (.inr rfl) rfl rfl rfl (by rw[capL,h,h2];rfl))
  ·have h2:(!decide (zs.getD b.toNat 0=0))=false:=h2
   exact ag (ai (.inr rfl) rfl rfl rfl (by rw[capL,h,h2];rfl))
 ·cases e
end
end Go.Ab
namespace Go.Ab
open Go.Proofs Go.RowKit
section
variable{kCa kDb:Bool}
theorem Fk(b:Bool)(k:IntKind)(e:Int):jX PP 110 [.bool b,.int k e] b (.iface 30 (.int k e)):=by
 refine⟨fun us w=>?_,fun ρ us w n hus=>?_⟩
 ·simp only[invoke]
  simp
 ·obtain⟨u1,r1,rfl,h1,u2,r2,rfl,h2,rfl⟩:=hus
  have h1:u1=.bool b:=h1
  have h2:u2=.int k e:=h2
  subst h1;subst h2
  refine callsIn_of_wp_marks Tryz.func110 rfl trivial ?_
  refine wpIn_seq (wpIn_region ?_)
  have hr:(Fr none).round=none:=rfl
  cases b with
  |false=>
   simp[wpOpsIn,go_sem,Exit.then,hr,Oper.semAt_none,Oper.uponIn]
   refine wpIn_cond_false (by simp[Act.eval,Array.replicate]) (wpIn_skip ?_)
   exact⟨_,by simp[results,Tryz.results110],Below.refl _ w,_,rfl,fun ρ=>⟨[],rfl,rfl⟩⟩
  |true=>
   simp[wpOpsIn,go_sem,Exit.then,hr,Oper.semAt_none,Oper.uponIn]
   refine wpIn_cond_true (by simp[Act.eval,Array.replicate]) (wpIn_region ?_)
   simp[wpOpsIn,go_sem,hr,Oper.semAt_none,Oper.uponIn,Instr.panic]
   exact⟨Below.refl _ w,rfl⟩
theorem uo(b:Nat)(hp:List O)(k:Nat):mw (GGx kCa kDb) PP ⟨109,[],[.ptr b 0 k]⟩ .returning .returning hp fun hp'=>hp'=hp:=by
 refine⟨ent Tryz.func109 (by kernel_rfl) rfl,fun B w0 gs ρ w us n hh hbel hB hgs hus=>?_⟩
 obtain⟨u1,r1,rfl,h1,rfl⟩:=hus
 refine callsDIn_of_wpSIn Tryz.func109 rfl trivial fun c₀ cs hu=>?_
 apply wpSIn_seq
 apply wpSIn_region
 simp[wpOpsSIn,go_sem,recoverD,hu,Exit.thenS]
 have hr:(Fr none).round=none:=rfl
 refine wpSIn_of_wpIn rfl (wpIn_seq (wpIn_region ?_))
 simp[wpOpsIn,go_sem,Exit.then,hr,Oper.semAt_none,Oper.uponIn]
 refine wpIn_block (wpIn_seq (wpIn_region ?_))
 simp[wpOpsIn,go_sem,Exit.then,hr,Oper.semAt_none,Oper.uponIn]
 refine wpIn_cond_true (by simp[Act.eval,Array.replicate]) (wpIn_skip ?_)
 have hc:c₀={ c₀ with mode:=.returning }:=by cases c₀;simp_all
 refine⟨rfl,.returning,?_,.tuple #[],by simp[results,Tryz.results109],rfl,⟨_,rfl⟩,hp,ρ,hh,Ren.le_refl _,hbel,hgs,rfl⟩
 rw[<-hc]
theorem AI{hp:List O}{b:Nat}{v0:V}{n:Int}{ρ:Ren}{B:Nat}{w:World}(hh:HR (GGx kCa kDb) B ρ hp w)(hb:hp.getD b .gone=.cells true [v0]){u:Value}(hu:VR ρ (.ptr b 0 0) u) :
  ∃ w',(Instr.storeAt 30 u (.int .i64 n)).run PP w=.ok () w'/\HR (GGx kCa kDb) B ρ (hp.set b (.cells true [.int .i64 n])) w'/\Below B w w'/\KeepsOthers w w':=by
 have hE:=aA (kCa:=kCa) (kDb:=kDb) (cts:=[]) (inl:=[]) trivial trivial
 have hlt:b<ax:=by
  have:=nZ (l:=hp) (b:=b) (by rw[hb];simp)
  have:=hh.small
  omega
 have hble:Nat.ble ax b=false:=by
  cases h:Nat.ble ax b with
  |false=>rfl
  |true=>have:=Nat.le_of_ble_eq_true h;omega
 have ht:TR ρ [(0,.ptr b 0 0),(1,.int .i64 n)] { tmps:=#[u,.int .i64 n],defers:=[] }:=by
  intro t
  rw[bj]
  by_cases h0:0=t
  ·subst h0;simpa using hu
  ·rw[if_neg h0,bj]
   by_cases h1:1=t
   ·subst h1;rw[if_pos rfl];exact rfl
   ·rw[if_neg h1];trivial
 have he:evOp (EE kCa kDb [] []) [(0,.ptr b 0 0),(1,.int .i64 n)] hp (.store 30 (.tmp 0) (.tmp 1))=.store b (.cells true [.int .i64 n]):=by
  show (match Nat.ble ax b with|true=>R.bad|false=>match stO (hp.getD b .gone) 0 0 (.int .i64 n) 1 with|some o=>R.store b o|none=>R.bad)=_
  rw[hble,hb]
  rfl
 obtain⟨w',h1,h2,h3,h4⟩:=iA (P:=PP) (o:=⟨none,.store 30 (.tmp 0) (.tmp 1),0, "",#[],none⟩) hE.ok hh ht he
 refine⟨w',?_,h2,h3,h4⟩
 have h1:(do Instr.storeAt 30 u (.int .i64 n);pure Next.skip:Sem Next).run PP w=.ok .skip w':=h1
 simp only[Sem.run_bind]at h1
 cases hx:(Instr.storeAt 30 u (.int .i64 n)).run PP w with
 |ok a w2=>rw[hx]at h1;simp at h1;rw[h1]
 |halt s w2=>rw[hx]at h1;simp[Result.andThen]at h1
theorem FP(v:Value)(w:World):(Instr.typeAssert (.iface 30 v) 20 30 true).run PP w=.ok (.tuple #[v,.bool true]) w:=by kernel_rfl
theorem jA{b:Nat}{hp:List O}{v0:V}{n0:Int}(hb:hp.getD b .gone=.cells true [v0]):mw (GGx kCa kDb) PP ⟨109,[],[.ptr b 0 0]⟩ (.panicking [{ v:=.iface 30 (.int .i64 n0),recovered:=false }]) (.panicking [{ v:=.iface 30 (.int .i64 n0),recovered:=true }]) hp fun hp'=>hp'=hp.set b (.cells true [.int .i64 n0]):=by
 refine⟨ent Tryz.func109 (by kernel_rfl) rfl,fun B w0 gs ρ w us n hh hbel hB hgs hus=>?_⟩
 obtain⟨u1,r1,rfl,h1,rfl⟩:=hus
 have hu1:=h1
 obtain⟨w',hrun,h2,h3,h4⟩:=AI (n:=n0) hh hb h1
 obtain⟨rg,_,_,_,rfl⟩:=h1
 refine callsDIn_of_wpSIn Tryz.func109 rfl trivial fun c₀ cs hu=>?_
 apply wpSIn_seq
 apply wpSIn_region
 simp[wpOpsSIn,go_sem,recoverD,hu,Exit.thenS]
 have hr:(Fr none).round=none:=rfl
 refine wpSIn_of_wpIn rfl (wpIn_seq (wpIn_region ?_))
 simp[wpOpsIn,go_sem,Exit.then,hr,Oper.semAt_none,Oper.uponIn]
 refine wpIn_block (wpIn_seq (wpIn_region ?_))
 simp[wpOpsIn,go_sem,Exit.then,hr,Oper.semAt_none,Oper.uponIn]
 refine wpIn_cond_false (by simp[Act.eval,Array.replicate]) (wpIn_seq (wpIn_region ?_))
 simp[wpOpsIn,go_sem,Exit.then,hr,Oper.semAt_none,Oper.uponIn,FP]
 refine wpIn_seq (wpIn_seq (wpIn_region ?_))
 simp[wpOpsIn,go_sem,Exit.then,hr,Oper.semAt_none,Oper.uponIn]
 refine wpIn_cond_false (by simp[Act.eval,Array.replicate]) (wpIn_skip ?_)
 refine wpIn_region ?_
 simp[go_sem]at hrun
 simp[wpOpsIn,go_sem,hr,Oper.semAt_none,Oper.uponIn,hrun]
 exact⟨rfl,.panicking [{ v:=.iface 30 (.int .i64 n0),recovered:=true }],rfl,.tuple #[],by simp[results,Tryz.results109],rfl,⟨_,rfl⟩,_,ρ,h2,Ren.le_refl _,hbel.trans h3,hgs.keeps h4,rfl⟩
end
end Go.Ab
namespace Go.Ab
open Go.Proofs
open Go.Proofs
end Go.Ab
