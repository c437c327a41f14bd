/- Contracts of the functions that the laws reach, and plain laws of what they compute (text G14); no condition. -/
import Derived.Test.YtppdngemnbflmaaGreatDoorG13
import Derived.Test.YtppdngemnbflmaaGreatDoorG9
import Derived.Test.YtppdngemnbflmaaGreatDoorG12
import Derived.Test.YtppdngemnbflmaaGreatDoorG10
import Derived.Test.YtppdngemnbflmaaGreatDoorG7
import Derived.Test.YtppdngemnbflmaaGreatDoorG8
import Derived.Test.YtppdngemnbflmaaGreatDoorG4
set_option maxRecDepth 100000
set_option maxHeartbeats 4000000
namespace Go.Ab
open Go.Proofs
section
variable{kCa kDb:Bool}
end
end Go.Ab
set_option maxRecDepth 100000
namespace Go.Ab
end Go.Ab
namespace Go.Ab
open Go.Proofs
noncomputable abbrev Ea:Env:=EE true true [(5,mE),(100,rM),(101,uy),(7,Gb),(153,gT),(136,qR),(99,uU)] []
theorem Dr:Ea.Fn PP:=aC ⟨nB,pO,nl,yD,gU,vP,zG,trivial⟩ trivial
noncomputable abbrev xsa:List (FuncId×Func):=[(26,Tryz.f26),(56,Tryz.f56),(95,Tryz.f95),(98,Tryz.f98),(97,Tryz.f97),(96,Tryz.f96),(136,Tryz.f136),(28,Tryz.f28),(59,Tryz.f59),(52,Tryz.f52),(89,Tryz.f89)]
theorem tI:rY PP xsa:=⟨⟨Tryz.func26,by kernel_rfl⟩,⟨Tryz.func56,by kernel_rfl⟩,⟨Tryz.func95,by kernel_rfl⟩,⟨Tryz.func98,by kernel_rfl⟩,⟨Tryz.func97,by kernel_rfl⟩,⟨Tryz.func96,by kernel_rfl⟩,⟨Tryz.func136,by kernel_rfl⟩,⟨Tryz.func28,by kernel_rfl⟩,⟨Tryz.func59,by kernel_rfl⟩,⟨Tryz.func52,by kernel_rfl⟩,⟨Tryz.func89,by kernel_rfl⟩,trivial⟩
noncomputable abbrev xsb:List (FuncId×Func):=[(26,Tryz.f26),(56,Tryz.f56),(95,Tryz.f95),(98,Tryz.f98),(97,Tryz.f97),(96,Tryz.f96),(136,Tryz.f136),(28,Tryz.f28),(59,Tryz.f59),(52,Tryz.f52),(89,Tryz.f89),(8,Tryz.f8),(31,Tryz.f31),(29,Tryz.f29),(27,Tryz.f27),(58,Tryz.f58)]
theorem Ku:rY PP xsb:=⟨⟨Tryz.func26,by kernel_rfl⟩,⟨Tryz.func56,by kernel_rfl⟩,⟨Tryz.func95,by kernel_rfl⟩,⟨Tryz.func98,by kernel_rfl⟩,⟨Tryz.func97,by kernel_rfl⟩,⟨Tryz.func96,by kernel_rfl⟩,⟨Tryz.func136,by kernel_rfl⟩,⟨Tryz.func28,by kernel_rfl⟩,⟨Tryz.func59,by kernel_rfl⟩,⟨Tryz.func52,by kernel_rfl⟩,⟨Tryz.func89,by kernel_rfl⟩,⟨Tryz.func8,by kernel_rfl⟩,⟨Tryz.func31,by kernel_rfl⟩,⟨Tryz.func29,by kernel_rfl⟩,⟨Tryz.func27,by kernel_rfl⟩,⟨Tryz.func58,by kernel_rfl⟩,trivial⟩
def kpB(p:Psn)(l:List (Int×Int×Bool)):Bool:=l.all fun x=>match keeps p ⟨x.1,x.2.1,0⟩ with|some b=>b==x.2.2|none=>false
def kpF(l:List (Int×Int×Bool))(m:Mov):Option Bool:=match l with
 |[]=>none
 |x::r=>bif decide (m.a=x.1)&&(decide (m.b=x.2.1)&&decide (m.p=0))then some x.2.2 else kpF r m
theorem pG{p:Psn}{m:Mov}{b:Bool}:∀ {l:List (Int×Int×Bool)},kpB p l=true->kpF l m=some b->keeps p m=some b
 |[],_,h=>by cases h
 |x::r,h1,h2=>by
  unfold kpB at h1
  rw[List.all_cons,Bool.and_eq_true]at h1
  unfold kpF at h2
  cases hc:(decide (m.a=x.1)&&(decide (m.b=x.2.1)&&decide (m.p=0))) with
  |true=>
   rw[hc,cond_true]at h2
   simp only[Bool.and_eq_true,decide_eq_true_eq]at hc
   have hm:m=⟨x.1,x.2.1,0⟩:=by
    rcases m with⟨a,b,c⟩
    obtain⟨e1,e2,e3⟩:=hc
    dsimp only at e1 e2 e3
    rw[e1,e2,e3]
   rw[hm]
   have h3:=h1.1
   cases hk:keeps p ⟨x.1,x.2.1,0⟩ with
   |none=>rw[hk]at h3;cases h3
   |some y=>
    rw[hk]at h3
    have h3:=eq_of_beq h3
    cases h2
    rw[h3]
  |false=>
   rw[hc,cond_false]at h2
   exact pG (l:=r) h1.2 h2
def Hw:List UInt8:=[56,120,56,32,114,110,98,113,107,98,110,114,47,112,112,112,112,112,112,112,112,47,56,47,56,47,56,47,56,47,80,80,80,80,80,80,80,80,47,82,78,66,81,75,66,78,82,32,119,32,75,81,107,113,32,45,32,48,32,49]
def Lc:V×List O:=(.agg [I 8,I 8,.sl 0 0 64 none,.lit false,.int .u8 15,I (-1),I 0,I 1],[.ints true .i8 [4,2,3,5,6,3,2,4,1,1,1,1,1,1,1,1,0,0,0,0,0,0,0,0,0,0,0,0,0,0,0,0,0,0,0,0,0,0,0,0,0,0,0,0,0,0,0,0,-1,-1,-1,-1,-1,-1,-1,-1,-4,-2,-3,-5,-6,-3,-2,-4]])
theorem Lr:ny { Ea with pf:=lM Ea xsa 1000 8,cc:=true } 3 1000 Tryz.f26 [.str Hw] []=some Lc:=by kernel_rfl
def oC:Psn:=⟨8,8,[4,2,3,5,6,3,2,4,1,1,1,1,1,1,1,1,0,0,0,0,0,0,0,0,0,0,0,0,0,0,0,0,0,0,0,0,0,0,0,0,0,0,0,0,0,0,0,0,-1,-1,-1,-1,-1,-1,-1,-1,-4,-2,-3,-5,-6,-3,-2,-4],false,15,-1,0,1⟩
def Gx:List (Int×Int×Bool):=[(1,16,true),(1,18,true),(6,21,true),(6,23,true)]
theorem JB:kpB oC Gx=true:=by kernel_rfl
def GC:List (Int×Int×Bool):=[(8,16,true),(8,24,true),(9,17,true),(9,25,true)]
theorem KA:kpB oC GC=true:=by kernel_rfl
def GF:List (Int×Int×Bool):=[(10,18,true),(10,26,true),(11,19,true),(11,27,true)]
theorem KX:kpB oC GF=true:=by kernel_rfl
def Hi:List (Int×Int×Bool):=[(12,20,true),(12,28,true),(13,21,true),(13,29,true)]
theorem JH:kpB oC Hi=true:=by kernel_rfl
def GW:List (Int×Int×Bool):=[(14,22,true),(14,30,true),(15,23,true),(15,31,true)]
theorem Kg:kpB oC GW=true:=by kernel_rfl
def kpL0:List (Int×Int×Bool):=Gx++GC++GF++Hi++GW
theorem kpO0:kpB oC kpL0=true:=by
 unfold kpL0
 have ap:∀ {l k:List (Int×Int×Bool)},kpB oC l=true->kpB oC k=true->kpB oC (l++k)=true:=fun h1 h2=>by unfold kpB at *;rw[List.all_append,h1,h2];rfl
 exact ap (ap (ap (ap JB KA) KX) JH) Kg
def HA:List UInt8:=[52,120,52,32,49,107,50,47,49,114,50,47,49,82,50,47,49,75,50,32,119,32,45,32,45,32,48,32,49]
def Kx:V×List O:=(.agg [I 4,I 4,.sl 0 0 16 none,.lit false,.int .u8 0,I (-1),I 0,I 1],[.ints true .i8 [0,6,0,0,0,4,0,0,0,-4,0,0,0,-6,0,0]])
theorem Lm:ny { Ea with pf:=lM Ea xsa 1000 8,cc:=true } 3 1000 Tryz.f26 [.str HA] []=some Kx:=by kernel_rfl
def td:Psn:=⟨4,4,[0,6,0,0,0,4,0,0,0,-4,0,0,0,-6,0,0],false,0,-1,0,1⟩
def Hh:List (Int×Int×Bool):=[(1,0,true),(1,2,true),(1,4,true),(1,6,true)]
theorem JE:kpB td Hh=true:=by kernel_rfl
def GL:List (Int×Int×Bool):=[(5,4,false),(5,6,false),(5,7,false),(5,9,true)]
theorem JO:kpB td GL=true:=by kernel_rfl
def kpL1:List (Int×Int×Bool):=Hh++GL
theorem kpO1:kpB td kpL1=true:=by
 unfold kpL1
 have ap:∀ {l k:List (Int×Int×Bool)},kpB td l=true->kpB td k=true->kpB td (l++k)=true:=fun h1 h2=>by unfold kpB at *;rw[List.all_append,h1,h2];rfl
 exact ap JE JO
def HB:List UInt8:=[51,120,51,32,107,81,49,47,51,47,75,50,32,98,32,45,32,45,32,48,32,49]
def Kv:V×List O:=(.agg [I 3,I 3,.sl 0 0 9 none,.lit true,.int .u8 0,I (-1),I 0,I 1],[.ints true .i8 [6,0,0,0,0,0,-6,5,0]])
theorem LF:ny { Ea with pf:=lM Ea xsa 1000 8,cc:=true } 3 1000 Tryz.f26 [.str HB] []=some Kv:=by kernel_rfl
def EB:Psn:=⟨3,3,[6,0,0,0,0,0,-6,5,0],true,0,-1,0,1⟩
def GD:List (Int×Int×Bool):=[(6,3,false),(6,4,false),(6,7,true)]
theorem JI:kpB EB GD=true:=by kernel_rfl
def kpL2:List (Int×Int×Bool):=GD
theorem kpO2:kpB EB kpL2=true:=by
 unfold kpL2
 exact JI
def Jc:List UInt8:=[51,120,51,32,107,50,47,49,81,49,47,75,50,32,98,32,45,32,45,32,48,32,49]
def KP:V×List O:=(.agg [I 3,I 3,.sl 0 0 9 none,.lit true,.int .u8 0,I (-1),I 0,I 1],[.ints true .i8 [6,0,0,0,5,0,-6,0,0]])
theorem Ln:ny { Ea with pf:=lM Ea xsa 1000 8,cc:=true } 3 1000 Tryz.f26 [.str Jc] []=some KP:=by kernel_rfl
def FQ:Psn:=⟨3,3,[6,0,0,0,5,0,-6,0,0],true,0,-1,0,1⟩
def GJ:List (Int×Int×Bool):=[(6,3,false),(6,4,false),(6,7,false)]
theorem JD:kpB FQ GJ=true:=by kernel_rfl
def kpL3:List (Int×Int×Bool):=GJ
theorem kpO3:kpB FQ kpL3=true:=by
 unfold kpL3
 exact JD
def Jq:List UInt8:=[51,120,51,32,107,50,47,50,81,47,49,75,49,32,98,32,45,32,45,32,48,32,49]
def Kk:V×List O:=(.agg [I 3,I 3,.sl 0 0 9 none,.lit true,.int .u8 0,I (-1),I 0,I 1],[.ints true .i8 [0,6,0,0,0,5,-6,0,0]])
theorem Lh:ny { Ea with pf:=lM Ea xsa 1000 8,cc:=true } 3 1000 Tryz.f26 [.str Jq] []=some Kk:=by kernel_rfl
def EX:Psn:=⟨3,3,[0,6,0,0,0,5,-6,0,0],true,0,-1,0,1⟩
def Gt:List (Int×Int×Bool):=[(6,3,false),(6,4,false),(6,7,false)]
theorem Ke:kpB EX Gt=true:=by kernel_rfl
def kpL4:List (Int×Int×Bool):=Gt
theorem kpO4:kpB EX kpL4=true:=by
 unfold kpL4
 exact Ke
def polT(s:List UInt8):Option (V×List O):=if s=Hw then some Lc else if s=HA then some Kx else if s=HB then some Kv else if s=Jc then some KP else if s=Jq then some Kk else none
theorem Ik{s:List UInt8}{x:V×List O}(h:polT s=some x):aS (GGx true true) PP 26 [.str s] [] x.1 x.2:=by
 unfold polT at h
 by_cases e0:s=Hw
 ·rw[if_pos e0]at h;cases h;subst e0;exact oK Dr tI 1000 8 Tryz.func26 Lr
 rw[if_neg e0]at h
 by_cases e1:s=HA
 ·rw[if_pos e1]at h;cases h;subst e1;exact oK Dr tI 1000 8 Tryz.func26 Lm
 rw[if_neg e1]at h
 by_cases e2:s=HB
 ·rw[if_pos e2]at h;cases h;subst e2;exact oK Dr tI 1000 8 Tryz.func26 LF
 rw[if_neg e2]at h
 by_cases e3:s=Jc
 ·rw[if_pos e3]at h;cases h;subst e3;exact oK Dr tI 1000 8 Tryz.func26 Ln
 rw[if_neg e3]at h
 by_cases e4:s=Jq
 ·rw[if_pos e4]at h;cases h;subst e4;exact oK Dr tI 1000 8 Tryz.func26 Lh
 rw[if_neg e4]at h
 cases h
def vZ:CF
 |[.str s],[]=>match polT s with
  |some x=>some (true,x.1,x.2)
  |none=>none
 |_,_=>none
theorem ze:CtOk (GGx true true) PP (26,vZ):=by
 refine aE Tryz.func26 (by kernel_rfl) rfl fun a0 h0 c0 v0 N0 e hc=>?_
 unfold vZ at e
 split at e
 ·split at e
  ·rename_i h
   cases e
   exact Ik h
  ·cases e
 ·cases e
theorem uL{p q:Psn}(h:gq p q=true):p=q:=by
 simp only[gq,Kt,Bool.and_eq_true,decide_eq_true_eq,beq_iff_eq]at h
 obtain⟨⟨⟨⟨⟨⟨⟨h1,h2⟩,h3⟩,h4⟩,h5⟩,h6⟩,h7⟩,h8⟩:=h
 rcases p with⟨a,b,c,d,e,f,g,i⟩
 rcases q with⟨a',b',c',d',e',f',g',i'⟩
 dsimp only at h1 h2 h3 h4 h5 h6 h7 h8
 subst h1 h2 h3 h4 h5 h6 h7 h8;rfl
def kpT(p:Psn)(m:Mov):Option Bool:=bif gq p oC then kpF kpL0 m else bif gq p td then kpF kpL1 m else bif gq p EB then kpF kpL2 m else bif gq p FQ then kpF kpL3 m else bif gq p EX then kpF kpL4 m else none
theorem JX{p:Psn}{m:Mov}{b:Bool}(h:kpT p m=some b):keeps p m=some b:=by
 unfold kpT at h
 cases e0:gq p oC with
 |true=>
  rw[e0,cond_true]at h
  rw[uL e0];exact pG kpO0 h
 |false=>
 rw[e0,cond_false]at h
 cases e1:gq p td with
 |true=>
  rw[e1,cond_true]at h
  rw[uL e1];exact pG kpO1 h
 |false=>
 rw[e1,cond_false]at h
 cases e2:gq p EB with
 |true=>
  rw[e2,cond_true]at h
  rw[uL e2];exact pG kpO2 h
 |false=>
 rw[e2,cond_false]at h
 cases e3:gq p FQ with
 |true=>
  rw[e3,cond_true]at h
  rw[uL e3];exact pG kpO3 h
 |false=>
 rw[e3,cond_false]at h
 cases e4:gq p EX with
 |true=>
  rw[e4,cond_true]at h
  rw[uL e4];exact pG kpO4 h
 |false=>
 rw[e4,cond_false]at h
 cases h
def HN:CF
 |[.agg [.int .i64 f,.int .i64 r,.sl 0 0 len none,.bool bl,.int .u8 ca,.int .i64 pa,.int .i64 ha,.int .i64 fu],.agg [.int .i64 a,.int .i64 b,.int .i8 pr]],[.ints false .i8 zs]=>match kpT ⟨f,r,zs,bl,ca,pa,ha,fu⟩ ⟨a,b,pr⟩ with
  |some x=>some (decide (len=zs.length),rH x,qu x)
  |none=>none
 |_,_=>none
theorem FC:CtOk (GGx true true) PP (61,HN):=by
 refine aE Tryz.func61 (by kernel_rfl) rfl fun a0 h0 c0 v0 N0 e hc=>?_
 unfold HN at e
 split at e
 ·rename_i f r len bl ca pa ha fu a b pr zs
  split at e
  ·rename_i x h
   cases e
   rw[decide_eq_true_eq]at hc
   subst hc
   exact sY ⟨f,r,zs,bl,ca,pa,ha,fu⟩ ⟨a,b,pr⟩ (JX h)
  ·cases e
 ·cases e
noncomputable abbrev Eb:Env:=EE true true [(61,HN),(30,jx),(57,uR),(60,hO),(26,vZ),(101,uy),(153,gT),(44,eD),(88,c_vs)] []
theorem Lo:Eb.Fn PP:=aC ⟨FC,iH,zw,gm,ze,nl,gU,cz,mM,trivial⟩ trivial
theorem Lq:ny { Eb with pf:=lM Eb xsb 1000 8,cc:=true } 3 1000 Tryz.f6 [] []=some (.lit true,[]):=by kernel_rfl
def nK:CF
 |[],[]=>some (true,.bool true,[])
 |_,_=>none
theorem tR:CtOk (GGx true true) PP (6,nK):=by
 refine aE Tryz.func6 (by kernel_rfl) rfl fun a0 h0 c0 v0 N0 e hc=>?_
 unfold nK at e
 split at e
 ·cases e
  exact aS.like (oK Lo Ku 1000 8 Tryz.func6 Lq) (fun _ _ h=>h)
 ·cases e
end Go.Ab
namespace Go.Ab
open IntKind
open Go.Proofs
section
variable{kCa kDb:Bool}
def Dc:CF
 |[.int .u64 s],[]=>some (true,.sl 0 0 (cR s 64).length none,[.ints true .i64 (cR s 64)])
 |_,_=>none
theorem CC:CtOk (GGx kCa kDb) PP (14,Dc):=by
 refine aE Tryz.func14 (by kernel_rfl) rfl fun a0 h0 c0 v0 N0 e hc=>?_
 unfold Dc at e
 split at e
 ·rename_i s
  cases e
  have hE:=aC (kCa:=kCa) (kDb:=kDb) (cts:=[(16,Aa)]) (inl:=[]) ⟨mB,trivial⟩ trivial
  refine av hE 2 Tryz.func14 rfl rfl ?_
  refine iG hE 2 (fun a:Int×List Int=>([(0,U s),(3,.sl 0 0 a.2.length none),(4,I a.1)],[.ints true .i64 a.2]))
   (fun a=>∃ k:Nat,k<=64/\a.1=k/\a.2=cR s k) (fun a=>64-a.1.toNat) (0,[])
   ((Ent.phanT (t:=3) (o:=.ints true .i64 []) rfl ⟨by simp,by simp,trivial,rfl⟩ (by decide)).trans (Ent.ren [0] [0,3,4] rfl rfl rfl)) ⟨0,by omega,rfl,rfl⟩ ?_
  rintro⟨i,zs⟩ ⟨k,hk,h1,h3⟩
  dsimp only at h1 h3 ⊢
  have hb:=DN s k
  rw[<-h3]at hb
  refine aq (fun hlt=>?_) (fun hlt=>?_)
  ·simp only[decide_eq_true_eq]at hlt
   have hnext:i64.wrap (i+1)=((k+1:Nat):Int):=by rw[az (by omega) (by omega)];omega
   have hs:=zH s k
   rw[<-h3,<-h1]at hs
   repeat (first|refine ah ?_|refine sat_nd ?_)
   refine aq (fun hon=>?_) (fun hon=>?_)
   ·rw[hon,cond_true]at hs
    refine ag (b:=decide (zs.length=zs.length)&&decide ((zs.length+1)*8<=140737488355328)&&true) (by simp;omega) ?_
    refine ae ⟨(i64.wrap (i+1),zs++[i]),⟨k+1,by omega,hnext,hs.symm⟩,?_,Ent.ren [2] [0,3,4] rfl rfl rfl⟩
    show _-(i64.wrap (i+1)).toNat<_
    rw[hnext];omega
   ·rw[hon,cond_false]at hs
    repeat (first|refine ah ?_|refine sat_nd ?_)
    refine ae ⟨(i64.wrap (i+1),zs),⟨k+1,by omega,hnext,hs.symm⟩,?_,Ent.ren [0] [0,3,4] rfl rfl rfl⟩
    show _-(i64.wrap (i+1)).toNat<_
    rw[hnext];omega
  ·simp only[decide_eq_false_iff_not]at hlt
   obtain rfl:k=64:=by omega
   refine ae (ae (cC 0 (.inr rfl) rfl rfl rfl rfl (by rw[<-h3];rfl) (by rw[<-h3];rfl)))
 ·cases e
def ql:CF
 |[.agg [.int .i64 f,.int .i64 r,.sl 0 0 len none],.bool bl],[.ints false .i8 zs]=>some (decide (len=zs.length)&&decide (zs.length<=64),.tup [U (bN f r zs bl).1,I (bN f r zs bl).2],[])
 |_,_=>none
theorem wW:CtOk (GGx kCa kDb) PP (11,ql):=by
 refine aE Tryz.func11 (by kernel_rfl) rfl fun a0 h0 c0 v0 N0 e hc=>?_
 unfold ql at e
 split at e
 ·rename_i f r len bl zs
  cases e
  have hE:=aC (kCa:=kCa) (kDb:=kDb) (cts:=[(9,mH),(69,Bq),(70,AR),(72,eW),(73,iJ)]) (inl:=[(36,Tryz.f36),(37,Tryz.f37)]) ⟨gM,sF,sA,jP,fQ,trivial⟩ ⟨⟨Tryz.func36,by kernel_rfl⟩,⟨Tryz.func37,by kernel_rfl⟩,trivial⟩
  refine av hE 4 Tryz.func11 rfl rfl ?_
  simp only[Bool.and_eq_true,decide_eq_true_eq]at hc
  obtain⟨rfl,hc2⟩:=hc
  repeat (first|refine ah ?_|refine sat_nd ?_)
  refine aq (fun h=>?_) (fun h=>?_)
  ·have h:decide ((aK f r zs bl).2=0)=false:=by simpa using h
   exact ae (aj (.inr rfl) rfl rfl rfl (by
    show V.tup [U 0,I (aK f r (tk zs) bl).2]=_
    rw[aL,bN,h];rfl))
  have h:decide ((aK f r zs bl).2=0)=true:=by simpa using h
  obtain⟨ko,kn,k3,k4,k5⟩:=wQ (of_decide_eq_true h)
  have hk:(aK f r (tk zs) bl).1=(aK f r zs bl).1:=by rw[aL]
  have hoc:occR f r (tk zs)=occR f r zs:=by rw[aL]
  repeat (first|refine ah ?_|refine sat_nd ?_)
  refine bU hE 4 (fun i (s:Int)=>([(1,Bb bl),(2,.fn 37 [.ptr 2 0 0]),(3,.ptr 3 0 0),(7,I (aK f r (tk zs) bl).1),(9,U (occR f r (tk zs))),(30,.sl 0 0 zs.length none),(31,I zs.length),(32,I i)],[.ints false .i8 zs,.cells true [I f,I r,.sl 0 0 zs.length none],.cells true [U s],.cells true [I f,I r,.sl 0 0 zs.length none]])) zs.length (fun j s=>s=bV (cB cbP f r zs bl (aK f r zs bl).1 (occR f r zs)) 0 j) 0 (by omega) (Ent.ren [0,1,2,3] [1,2,3,7,9,30,31,32] rfl rfl rfl) rfl ?_
  intro j i s hij hj hz
  refine aq (fun hlt=>?_) (fun hlt=>?_)
  ·have hlt':j<zs.length:=by simp at hlt;omega
   have hs:cB cbP f r zs bl (aK f r zs bl).1 (occR f r zs) s i=bV (cB cbP f r zs bl (aK f r zs bl).1 (occR f r zs)) 0 (j+1):=by rw[hz,hij];rfl
   refine ag (by simp;omega) ?_
   repeat (first|refine ah ?_|refine sat_nd ?_)
   refine aq (fun hA=>?_) (fun hA=>?_)
   ·have hA:oW zs bl i=true:=hA
    rw[cB,hA,Bool.true_or,cond_true]at hs
    exact ae ⟨hlt',_,hs,Ent.ren [0,1,2,3] [1,2,3,7,9,30,31,32] rfl rfl rfl⟩
   have hA:oW zs bl i=false:=hA
   have hkn:0<=(aK f r (tk zs) bl).1:=by rw[hk,k3];exact k4
   repeat (first|(first|refine ah ?_|refine sat_nd ?_)|refine ag (by simp only[decide_eq_true hkn,Bool.or_true]) ?_)
   refine aq (fun hB=>?_) (fun hB=>?_)
   ·have hB:oY f r zs (aK f r (tk zs) bl).1 i=true:=hB
    rw[hk]at hB
    rw[cB,hB,Bool.or_true,cond_true]at hs
    exact ae ⟨hlt',_,hs,Ent.ren [0,1,2,3] [1,2,3,7,9,30,31,32] rfl rfl rfl⟩
   have hB:oY f r zs (aK f r (tk zs) bl).1 i=false:=hB
   rw[hk]at hB
   rw[cB,hA,hB,Bool.false_or,cond_false]at hs
   refine bU hE 4 (fun j (s:Int)=>([(1,Bb bl),(2,.fn 37 [.ptr 2 0 0]),(3,.ptr 3 0 0),(7,I (aK f r (tk zs) bl).1),(9,U (occR f r (tk zs))),(30,.sl 0 0 zs.length none),(31,I zs.length),(32,I i),(10,I i),(12,U (bC f r i (aK f r (tk zs) bl).1).1),(85,.sl 0 0 zs.length none),(86,I zs.length),(87,I j)],[.ints false .i8 zs,.cells true [I f,I r,.sl 0 0 zs.length none],.cells true [U s],.cells true [I f,I r,.sl 0 0 zs.length none]])) zs.length (fun j' s'=>s'=bV (iu cbP f r zs bl (aK f r zs bl).1 (occR f r zs) i) s j') s (by omega) (Ent.ren [0,1,2,3] [1,2,3,7,9,30,31,32,10,12,85,86,87] rfl rfl rfl) rfl ?_
   intro j2 i2 s2 hij2 hj2 hz2
   refine aq (fun hlt2=>?_) (fun hlt2=>?_)
   ·have hlt2':j2<zs.length:=by simp at hlt2;omega
    have hs2:iu cbP f r zs bl (aK f r zs bl).1 (occR f r zs) i s2 i2=bV (iu cbP f r zs bl (aK f r zs bl).1 (occR f r zs) i) s (j2+1):=by rw[hz2,hij2];rfl
    refine ag (by simp;omega) ?_
    repeat (first|(first|refine ah ?_|refine sat_nd ?_)|refine ag (by simp;omega) ?_)
    refine aq (fun hC=>?_) (fun hC=>?_)
    ·have hC:pinC f r zs bl (aK f r (tk zs) bl).1 (occR f r (tk zs)) i i2=true:=hC
     rw[hk,hoc]at hC
     rw[iu,hC,cond_true]at hs2
     repeat (first|(first|refine ah ?_|refine sat_nd ?_)|refine ag (by simp;omega) ?_)
     refine ae ⟨hlt2',_,hs2,Ent.ren [0,1,2,3] [1,2,3,7,9,30,31,32,10,12,85,86,87] rfl rfl rfl⟩
    ·have hC:pinC f r zs bl (aK f r (tk zs) bl).1 (occR f r (tk zs)) i i2=false:=hC
     rw[hk,hoc]at hC
     rw[iu,hC,cond_false]at hs2
     exact ae ⟨hlt2',_,hs2,Ent.ren [0,1,2,3] [1,2,3,7,9,30,31,32,10,12,85,86,87] rfl rfl rfl⟩
   ·obtain rfl:j2=zs.length:=by simp at hlt2;omega
    rw[<-hz2]at hs
    exact ae (ae ⟨hlt',_,hs,Ent.ren [0,1,2,3] [1,2,3,7,9,30,31,32] rfl rfl rfl⟩)
  ·obtain rfl:j=zs.length:=by simp at hlt;omega
   refine ae (ae (aj (.inr rfl) rfl rfl rfl (by
    rw[bN,h,hz];rfl)))
 ·cases e
def oe:CF
 |[.agg [.int .i64 f,.int .i64 r,.sl 0 0 len none],.int .i64 at_],[.ints false .i8 zs]=>some (decide (len=zs.length)&&decide (zs.length<=64),.tup [U (bx f r zs at_).1,I (bx f r zs at_).2],[])
 |_,_=>none
theorem sX:CtOk (GGx kCa kDb) PP (17,oe):=by
 refine aE Tryz.func17 (by kernel_rfl) rfl fun a0 h0 c0 v0 N0 e hc=>?_
 unfold oe at e
 split at e
 ·rename_i f r len at_ zs
  cases e
  have hE:=aC (kCa:=kCa) (kDb:=kDb) (cts:=[(32,ug),(44,eD),(9,mH),(69,Bq),(70,AR),(72,eW),(73,iJ)]) (inl:=[(36,Tryz.f36),(45,Tryz.f45)]) ⟨nM,cz,gM,sF,sA,jP,fQ,trivial⟩ ⟨⟨Tryz.func36,by kernel_rfl⟩,⟨Tryz.func45,by kernel_rfl⟩,trivial⟩
  refine av hE 4 Tryz.func17 rfl rfl ?_
  simp only[Bool.and_eq_true,decide_eq_true_eq]at hc
  obtain⟨rfl,hc2⟩:=hc
  repeat (first|refine ah ?_|refine sat_nd ?_)
  refine aq (fun h=>?_) (fun h=>?_)
  ·have h:(aD f r zs&&ai f r at_)=false:=by
    have h:(!aD f r (tk zs)||!ai f r at_)=true:=h
    rw[aL]at h
    cases h1:aD f r zs<;>cases h2:ai f r at_<;>simp_all
   exact ae (aj (.inr rfl) rfl rfl rfl (by rw[bx,h];rfl))
  have hov:(aD f r zs&&ai f r at_)=true:=by
   have h:(!aD f r (tk zs)||!ai f r at_)=false:=h
   rw[aL]at h
   cases h1:aD f r zs<;>cases h2:ai f r at_<;>simp_all
  have hat:=(bM (Bool.and_eq_true_iff.1 hov).1).1 (Bool.and_eq_true_iff.1 hov).2
  refine ag (by simp;omega) ?_
  refine aq (fun h0=>?_) (fun h0=>?_)
  ·have h0:decide (zs.getD at_.toNat 0=0)=true:=h0
   exact ae (aj (.inr rfl) rfl rfl rfl (by rw[bx,hov,h0];rfl))
  have h0:decide (zs.getD at_.toNat 0=0)=false:=h0
  repeat (first|(first|refine ah ?_|refine sat_nd ?_)|refine ag (by simp;omega) ?_)
  generalize hbl:decide (zs.getD (addN 0 at_.toNat) 0<0)=bl
  have hbl:decide (zs.getD at_.toNat 0<0)=bl:=hbl
  refine aq (fun h=>?_) (fun h=>?_)
  ·have h:decide ((aK f r zs bl).2=0)=false:=by simpa using h
   have h9:decide ((aK f r (tk zs) bl).2=0)=false:=by rw[aL];exact h
   repeat (first|refine ah ?_|refine sat_nd ?_)
   refine th (by exact(congrArg (·&&_) h9).trans (Bool.false_and _)) ?_
   exact ae (aj (.inr rfl) rfl rfl rfl (by
    show V.tup [U 0,I (aK f r (tk zs) bl).2]=_
    rw[aL,bx,hov,h0,hbl,h];rfl))
  have h:decide ((aK f r zs bl).2=0)=true:=by simpa using h
  obtain⟨ko,kn,k3,k4,k5⟩:=wQ (of_decide_eq_true h)
  have hk:(aK f r (tk zs) bl).1=(aK f r zs bl).1:=by rw[aL]
  have hoc:occR f r (tk zs)=occR f r zs:=by rw[aL]
  repeat (first|refine ah ?_|refine sat_nd ?_)
  refine bU hE 4 (fun i (s:Int)=>([(1,Bb bl),(2,.fn 45 [.ptr 2 0 0,.ptr 3 0 0]),(3,.ptr 4 0 0),(7,I (aK f r (tk zs) bl).1),(9,U (occR f r (tk zs))),(30,.sl 0 0 zs.length none),(31,I zs.length),(32,I i)],[.ints false .i8 zs,.cells true [I f,I r,.sl 0 0 zs.length none],.cells true [I at_],.cells true [U s],.cells true [I f,I r,.sl 0 0 zs.length none]])) zs.length (fun j s=>s=bV (cB (cbL at_) f r zs bl (aK f r zs bl).1 (occR f r zs)) 0 j) 0 (by omega) (Ent.ren [0,1,2,3,4] [1,2,3,7,9,30,31,32] rfl rfl rfl) rfl ?_
  intro j i s hij hj hz
  refine aq (fun hlt=>?_) (fun hlt=>?_)
  ·have hlt':j<zs.length:=by simp at hlt;omega
   have hs:cB (cbL at_) f r zs bl (aK f r zs bl).1 (occR f r zs) s i=bV (cB (cbL at_) f r zs bl (aK f r zs bl).1 (occR f r zs)) 0 (j+1):=by rw[hz,hij];rfl
   refine ag (by simp;omega) ?_
   repeat (first|refine ah ?_|refine sat_nd ?_)
   refine aq (fun hA=>?_) (fun hA=>?_)
   ·have hA:oW zs bl i=true:=hA
    rw[cB,hA,Bool.true_or,cond_true]at hs
    exact ae ⟨hlt',_,hs,Ent.ren [0,1,2,3,4] [1,2,3,7,9,30,31,32] rfl rfl rfl⟩
   have hA:oW zs bl i=false:=hA
   have hkn:0<=(aK f r (tk zs) bl).1:=by rw[hk,k3];exact k4
   repeat (first|(first|refine ah ?_|refine sat_nd ?_)|refine ag (by simp only[decide_eq_true hkn,Bool.or_true]) ?_)
   refine aq (fun hB=>?_) (fun hB=>?_)
   ·have hB:oY f r zs (aK f r (tk zs) bl).1 i=true:=hB
    rw[hk]at hB
    rw[cB,hB,Bool.or_true,cond_true]at hs
    exact ae ⟨hlt',_,hs,Ent.ren [0,1,2,3,4] [1,2,3,7,9,30,31,32] rfl rfl rfl⟩
   have hB:oY f r zs (aK f r (tk zs) bl).1 i=false:=hB
   rw[hk]at hB
   rw[cB,hA,hB,Bool.false_or,cond_false]at hs
   refine bU hE 4 (fun j (s:Int)=>([(1,Bb bl),(2,.fn 45 [.ptr 2 0 0,.ptr 3 0 0]),(3,.ptr 4 0 0),(7,I (aK f r (tk zs) bl).1),(9,U (occR f r (tk zs))),(30,.sl 0 0 zs.length none),(31,I zs.length),(32,I i),(10,I i),(12,U (bC f r i (aK f r (tk zs) bl).1).1),(85,.sl 0 0 zs.length none),(86,I zs.length),(87,I j)],[.ints false .i8 zs,.cells true [I f,I r,.sl 0 0 zs.length none],.cells true [I at_],.cells true [U s],.cells true [I f,I r,.sl 0 0 zs.length none]])) zs.length (fun j' s'=>s'=bV (iu (cbL at_) f r zs bl (aK f r zs bl).1 (occR f r zs) i) s j') s (by omega) (Ent.ren [0,1,2,3,4] [1,2,3,7,9,30,31,32,10,12,85,86,87] rfl rfl rfl) rfl ?_
   intro j2 i2 s2 hij2 hj2 hz2
   refine aq (fun hlt2=>?_) (fun hlt2=>?_)
   ·have hlt2':j2<zs.length:=by simp at hlt2;omega
    have hs2:iu (cbL at_) f r zs bl (aK f r zs bl).1 (occR f r zs) i s2 i2=bV (iu (cbL at_) f r zs bl (aK f r zs bl).1 (occR f r zs) i) s (j2+1):=by rw[hz2,hij2];rfl
    refine ag (by simp;omega) ?_
    repeat (first|(first|refine ah ?_|refine sat_nd ?_)|refine ag (by simp;omega) ?_)
    refine aq (fun hC=>?_) (fun hC=>?_)
    ·have hC:pinC f r zs bl (aK f r (tk zs) bl).1 (occR f r (tk zs)) i i2=true:=hC
     rw[hk,hoc]at hC
     rw[iu,hC,cond_true]at hs2
     repeat (first|(first|refine ah ?_|refine sat_nd ?_)|refine ag (by simp;omega) ?_)
     refine aq (fun hD=>?_) (fun hD=>?_)
     ·have hD:decide (i2=at_)=true:=hD
      rw[cbL,hD,cond_true]at hs2
      exact ae ⟨hlt2',jL f r (aK f r (tk zs) bl).1 i i2,by rw[hk];exact hs2,Ent.ren [0,1,2,3,4] [1,2,3,7,9,30,31,32,10,12,85,86,87] rfl rfl rfl⟩
     ·have hD:decide (i2=at_)=false:=hD
      rw[cbL,hD,cond_false]at hs2
      exact ae ⟨hlt2',_,hs2,Ent.ren [0,1,2,3,4] [1,2,3,7,9,30,31,32,10,12,85,86,87] rfl rfl rfl⟩
    ·have hC:pinC f r zs bl (aK f r (tk zs) bl).1 (occR f r (tk zs)) i i2=false:=hC
     rw[hk,hoc]at hC
     rw[iu,hC,cond_false]at hs2
     exact ae ⟨hlt2',_,hs2,Ent.ren [0,1,2,3,4] [1,2,3,7,9,30,31,32,10,12,85,86,87] rfl rfl rfl⟩
   ·obtain rfl:j2=zs.length:=by simp at hlt2;omega
    rw[<-hz2]at hs
    exact ae (ae ⟨hlt',_,hs,Ent.ren [0,1,2,3,4] [1,2,3,7,9,30,31,32] rfl rfl rfl⟩)
  ·obtain rfl:j=zs.length:=by simp at hlt;omega
   have hz:s=iR (cbL at_) f r zs bl:=hz
   refine ae ?_
   repeat (first|refine ah ?_|refine sat_nd ?_)
   refine aq (fun hN=>?_) (fun hN=>?_)
   ·have hN:decide (s=0)=true:=hN
    exact ae (aj (.inr rfl) rfl rfl rfl (by rw[bx,hov,h0,hbl,h,<-hz,hN];rfl))
   ·have hN:decide (s=0)=false:=hN
    exact ae (aj (.inr rfl) rfl rfl rfl (by rw[bx,hov,h0,hbl,h,<-hz,hN];rfl))
 ·cases e
end
section
variable{kCa kDb:Bool}
def mord(a:Int)(b:Int):Option (Int):=bif decide (a<b)then some (-1)else bif decide (b<a)then some 1 else some 0
def Co(R:Int):V:=.int .i64 R
def Cm(_:Int):List O:=[]
def Cp:CF
 |[.int .i64 a_0,.int .i64 b_0],[]=>retC true (mord a_0 b_0) 0 Co Cm
 |_,_=>none
theorem Es(a:Int)(b:Int){r}(hr:mord a b=some r):aS (GGx kCa kDb) PP 86 [.int .i64 a,.int .i64 b] [] (Co r) (Cm r):=by
 have hE:=cutE (aC (kCa:=kCa) (kDb:=kDb) (cts:=[]) (inl:=[]) trivial trivial)
 refine fy hE 2 Tryz.func86 rfl rfl Co Cm hr ?_ rfl rfl
 refine aP hE 2 rfl ?_ ?_
 ·exact aY (bp [] (.inr rfl) rfl rfl rfl rfl rfl)
 refine aP hE 2 rfl ?_ ?_
 ·exact aY (bp [] (.inr rfl) rfl rfl rfl rfl rfl)
 exact aY (bp [] (.inr rfl) rfl rfl rfl rfl rfl)
theorem Cu:CtOk (GGx kCa kDb) PP (86,Cp):=by
 refine aE Tryz.func86 (by kernel_rfl) rfl fun a0 h0 c0 v0 N0 e hc=>?_
 unfold Cp at e
 split at e
 ·rename_i a_0 b_0
  obtain⟨hl,r,hr,rfl,rfl⟩:=cO e hc
  exact Es a_0 b_0 hr
 ·cases e
def mcmp(a:Mov)(b:Mov):Option (Int):=bif !decide (a.a=b.a)then fF (mord a.a b.a) 0 fun(y5:Int)=>some y5 else bif !decide (a.b=b.b)then fF (mord a.b b.b) 0 fun(y7:Int)=>some y7 else fF (mord (i64.wrap a.p) (i64.wrap b.p)) 0 fun(y8:Int)=>some y8
def Ck(R:Int):V:=.int .i64 R
def DW(_:Int):List O:=[]
def Dh:CF
 |[.agg [.int .i64 a_0,.int .i64 a_1,.int .i8 a_2],.agg [.int .i64 b_0,.int .i64 b_1,.int .i8 b_2]],[]=>retC true (mcmp ⟨a_0,a_1,a_2⟩ ⟨b_0,b_1,b_2⟩) 0 Ck DW
 |_,_=>none
theorem EL(a:Mov)(b:Mov){r}(hr:mcmp a b=some r):aS (GGx kCa kDb) PP 41 [.agg [.int .i64 a.a,.int .i64 a.b,.int .i8 a.p],.agg [.int .i64 b.a,.int .i64 b.b,.int .i8 b.p]] [] (Ck r) (DW r):=by
 have hE:=cutE (aC (kCa:=kCa) (kDb:=kDb) (cts:=[(86,Cp)]) (inl:=[]) ⟨Cu,trivial⟩ trivial)
 refine fy hE 2 Tryz.func41 rfl rfl Ck DW hr ?_ rfl rfl
 refine aP hE 2 rfl ?_ ?_
 ·refine bJ (pl rfl id) ?_
  exact aY (bp [] (.inr rfl) rfl rfl rfl rfl rfl)
 refine aP hE 2 rfl ?_ ?_
 ·refine bJ (pl rfl id) ?_
  exact aY (bp [] (.inr rfl) rfl rfl rfl rfl rfl)
 refine bJ (pl rfl id) ?_
 exact aY (bp [] (.inr rfl) rfl rfl rfl rfl rfl)
theorem AX:CtOk (GGx kCa kDb) PP (41,Dh):=by
 refine aE Tryz.func41 (by kernel_rfl) rfl fun a0 h0 c0 v0 N0 e hc=>?_
 unfold Dh at e
 split at e
 ·rename_i a_0 a_1 a_2 b_0 b_1 b_2
  obtain⟨hl,r,hr,rfl,rfl⟩:=cO e hc
  exact EL ⟨a_0,a_1,a_2⟩ ⟨b_0,b_1,b_2⟩ hr
 ·cases e
def xY:List (List Int)->Mov->Int->Option (Int ⊕ Unit ⊕ Bool):=fun(l:List (List Int)) (m:Mov) (s7:Int)=>let x16:=Mov.mk ((l.getD s7.toNat []).getD 0 0) ((l.getD s7.toNat []).getD 1 0) ((l.getD s7.toNat []).getD 2 0);let x17:=decide (s7<Int.ofNat l.length);let x15:=(mcmp x16 (Mov.mk m.a m.b m.p)).getD 0;bif x17 then bE (decide (0<=s7)&&x17) (fF (mcmp x16 (Mov.mk m.a m.b m.p)) Inhabited.default fun(_y8:Int)=>bif decide (x15=0)then escO (escO (some true))else some (Sum.inl (i64.wrap (s7+1))))else some (Sum.inr (Sum.inl ()))
def rLH(l:List (List Int))(m:Mov):Option (Bool):=ew (xY l m) (fun(_s13:Unit)=>some false) 1000000 0
def Ii(R:Bool):V:=Bb R
def Js(_:Bool):List O:=[]
def Jv:CF
 |[.sl 0 0 l_0n none,.agg [.int .i64 m_0,.int .i64 m_1,.int .i8 m_2]],[.rows false [.i64,.i64,.i8] l_0]=>retC (decide (l_0n=l_0.length)) (rLH l_0 ⟨m_0,m_1,m_2⟩) false Ii Js
 |_,_=>none
theorem ID(l:List (List Int))(m:Mov){r}(hr:rLH l m=some r):aS (GGx kCa kDb) PP 13 [.sl 0 0 l.length none,.agg [.int .i64 m.a,.int .i64 m.b,.int .i8 m.p]] [.rows false [.i64,.i64,.i8] l] (Ii r) (Js r):=by
 have hE:=cutE (aC (kCa:=kCa) (kDb:=kDb) (cts:=[(41,Dh)]) (inl:=[]) ⟨AX,trivial⟩ trivial)
 refine fy hE 2 Tryz.func13 rfl rfl Ii Js hr ?_ rfl rfl
 refine gD hE 2 (fun(s7:Int)=>([(0,V.sl 0 0 l.length none),(3,V.ptr 1 0 0),(4,Bb false),(5,I s7)],[O.rows false [i64,i64,i8] l,O.cells true [I m.a,I m.b,V.int i8 m.p]])) (fun(s13:Unit)=>([(4,Bb false)],[O.rows false [i64,i64,i8] l])) (.exit 0) ((Ent.rn [0,1] [0,3,4,5] rfl rfl rfl rfl rfl)) (fun s7=>?_) (fun s13=>?_)
 ·refine aP hE 2 rfl ?_ ?_
  ·refine ak rfl ?_
   refine ct ?_
   refine bJ (pl rfl id) ?_
   refine aP hE 2 rfl ?_ ?_
   ·refine pD (by simp) (kF ?_)
    exact aY (bp [] (.inr rfl) rfl rfl rfl rfl rfl)
   exact fY ((Ent.rn [0,1] [0,3,4,5] rfl rfl rfl rfl rfl))
  exact gF ((Ent.rn [0] [4] rfl rfl rfl rfl rfl))
 exact aY (bp [] (.inr rfl) rfl rfl rfl rfl rfl)
theorem FO:CtOk (GGx kCa kDb) PP (13,Jv):=by
 refine aE Tryz.func13 (by kernel_rfl) rfl fun a0 h0 c0 v0 N0 e hc=>?_
 unfold Jv at e
 split at e
 ·rename_i l_0n m_0 m_1 m_2 l_0
  obtain⟨hl,r,hr,rfl,rfl⟩:=cO e hc
  simp only[decide_eq_true_eq]at hl
  obtain rfl:=hl
  exact ID l_0 ⟨m_0,m_1,m_2⟩ hr
 ·cases e
def mC:Psn->List (List Int)×Int->Mov×Psn->Unit->Option (Unit ⊕ Unit ⊕ Bool):=fun(p:Psn) (y2:List (List Int)×Int)=>let x43:=List.take y2.1.length (List.drop 0 y2.1);fun(e3:Mov×Psn)=>let x49:=List.take e3.2.zs.length (List.drop 0 e3.2.zs);let x50:=Mov.mk e3.1.a e3.1.b e3.1.p;let x46:=(aM e3.2.f e3.2.r x49 p.bl).snd;let x47:=(aM e3.2.f e3.2.r x49 p.bl).fst;let x48:=x49.length;let x45:=!decide (x46=0)||!decide (x47=0);fun(_s4:Unit)=>bE (decide (x48<=64)) (bE (!!x45||(rLH x43 x50).isSome) (bif x45||!(rLH x43 x50).getD false then escO (escO (some false))else some (Sum.inl ())))
def ey:Psn->List (List Int)×Int->Int->Bool×Int->Option (Bool×Int ⊕ Bool ⊕ Unit ⊕ Int ⊕ Unit ⊕ Bool):=fun(p:Psn) (y2:List (List Int)×Int) (s23:Int)=>let x56:=(y2.1.getD s23.toNat []).getD 1 0;let x58:=List.take p.zs.length (List.drop 0 p.zs);let x55:=(cR (aM p.f p.r x58 p.bl).fst 64).getD (Int.toNat 0) 0;let x57:=(aK p.f p.r x58 p.bl).fst;let x53:=Int.ofNat (aW p.f p.r x57 x55).length;let x54:=kq p.f p.r x57 x55;fun(s27:Bool×Int)=>let x60:=decide (s27.2<x53);bif x60 then bE (decide (0<=s27.2)&&x60) (some (Sum.inl (s27.1||decide (x56=x54.getD s27.2.toNat 0),i64.wrap (s27.2+1))))else some (Sum.inr (Sum.inl s27.1))
def jz:Psn->List (List Int)×Int->(Psn->List (List Int)×Int->Int->Bool×Int->Option (Bool×Int ⊕ Bool ⊕ Unit ⊕ Int ⊕ Unit ⊕ Bool))->Int->Option (Int ⊕ Unit ⊕ Bool):=fun(p:Psn) (y2:List (List Int)×Int) (ey:Psn->List (List Int)×Int->Int->Bool×Int->Option (Bool×Int ⊕ Bool ⊕ Unit ⊕ Int ⊕ Unit ⊕ Bool))=>let x67:=List.take p.zs.length (List.drop 0 p.zs);let x65:=cR (aM p.f p.r x67 p.bl).fst 64;let x66:=(aK p.f p.r x67 p.bl).fst;let x63:=x65.getD (Int.toNat 0) 0;let x64:=Int.ofNat x65.length;let x62:=decide (0<x64);fun(s23:Int)=>let x74:=decide (s23<Int.ofNat y2.1.length);let x75:=(y2.1.getD s23.toNat []).getD 0 0;let x76:=(y2.1.getD s23.toNat []).getD 1 0;let x77:=i64.wrap (s23+1);let x69:=decide (0<=x75)&&decide (x75<Int.ofNat p.zs.length);let x71:=decide (x76=p.pa);let x72:=(bx p.f p.r (List.take p.zs.length (List.drop 0 p.zs)) x75).snd;let x73:=p.zs.getD x75.toNat 0;let x70:=decide (x73=1);bif x74 then bE (decide (0<=s23)&&x74) (bif decide (x75=x66)then some (Sum.inl x77)else bif decide (1<x64)then escO (escO (some false))else dV (bif decide (x64=1)then bE (!x71||x69) (bE (!(x71&&!x70)||x69) (bE x62 (bE (!decide (p.f=0)) (bE x62 (ew (ey p y2 s23) (fun(s35:Bool)=>bif !s35 then escO (escO (escO (some false)))else some (Sum.inl ())) 1000000 (decide (x76=x63)||x71&&(x70||decide (x73=-1)),0))))))else some (Sum.inl ())) fun(_s36:Unit)=>dV (bif hasB (bN p.f p.r x67 p.bl).fst x75 then bE (decide ((List.take p.zs.length (List.drop 0 p.zs)).length<=64)) (bif !decide (x72=0)||!hasB (bx p.f p.r (List.take p.zs.length (List.drop 0 p.zs)) x75).fst x76 then escO (escO (escO (some false)))else some (Sum.inl ()))else some (Sum.inl ())) fun(_s37:Unit)=>some (Sum.inl x77))else some (Sum.inr (Sum.inl ()))
def Ey(p:Psn):Option (Bool):=let x88:=List.take p.zs.length (List.drop 0 p.zs);let x83:=Psn.mk p.f p.r x88 p.bl p.ca p.pa p.ha p.fu;let x84:=(aK p.f p.r x88 p.bl).snd;let x85:=(aM p.f p.r x88 p.bl).snd;let x86:=(bN p.f p.r x88 p.bl).snd;let x87:=x88.length;let x82:=decide (x87<=64);fF (sD x83) false fun(y1:Bool)=>bE (!!!y1||x82) (bif !y1||!nQ x83 then some true else fF (ec x83) ([],0) fun(y2:List (List Int)×Int)=>bE x82 (bE x82 (bE x82 (bif !decide (y2.2=0)||!decide (x84=0)||!decide (x85=0)||!decide (x86=0)then some false else bE x82 (bE (afOk x83) (ef (mC p y2) (fun(_s4:Unit)=>ew (jz p y2 ey) (fun(_s42:Unit)=>some true) 1000000 0) (fun(_s4:Unit)=>none) (afLs x83) ()))))))
def Av(R:Bool):V:=Bb R
def Dv(_:Bool):List O:=[]
theorem Dx(p:Psn){r}(hr:Ey p=some r):aS (GGx true true) PP 3 [.agg [.int .i64 p.f,.int .i64 p.r,.sl 0 0 p.zs.length none,Bb p.bl,.int .u8 p.ca,.int .i64 p.pa,.int .i64 p.ha,.int .i64 p.fu]] [.ints false .i8 p.zs] (Av r) (Dv r):=by
 have hE:=cutE (aC (kCa:=true) (kDb:=true) (cts:=[(4,nu),(5,mE),(6,nK),(7,Gb),(8,ri),(9,mH),(10,fP),(11,ql),(13,Jv),(14,Dc),(15,ju),(16,Aa),(17,oe),(38,rL)]) (inl:=[(12,Tryz.f12)]) ⟨uo,nB,tR,yD,we,gM,fW,wW,FO,CC,lf,mB,sX,pI,trivial⟩ ⟨⟨Tryz.func12,by kernel_rfl⟩,trivial⟩)
 refine fy hE 2 Tryz.func3 rfl rfl Av Dv hr ?_ rfl rfl
 unfold Ey
 refine bJ (pl (decide_eq_true (bL rfl)) id) ?_
 refine ak (Bool.not_or_self _) ?_
 refine eS (pi (pl (decide_eq_true (bL rfl)) id)) ?_
 refine ak (Bool.not_or_self _) ?_
 refine ak (Bool.or_not_self _) ?_
 refine aP hE 2 rfl ?_ ?_
 ·refine ak rfl ?_
  exact aY (bp [] (.inr rfl) rfl rfl rfl rfl rfl)
 refine ak rfl ?_
 refine bJ (pl (decide_eq_true (bL rfl)) id) ?_
 refine eS (pl (decide_eq_true (bL rfl)) id) ?_
 refine eS (pl (decide_eq_true (bL rfl)) id) ?_
 refine eS (pl (decide_eq_true (bL rfl)) id) ?_
 refine ak (Bool.not_or_self _) ?_
 refine ak (Bool.or_not_self _) ?_
 refine ak (Bool.not_or_self _) ?_
 refine ak (Bool.or_not_self _) ?_
 refine ak (Bool.not_or_self _) ?_
 refine ak (Bool.or_not_self _) ?_
 refine aP hE 2 rfl ?_ ?_
 ·exact aY (bp [] (.inr rfl) rfl rfl rfl rfl rfl)
 refine eS (pl (decide_eq_true (bL rfl)) id) ?_
 refine JF (fun qr34407=>?_)
 refine BG hE 2 8 (let x96:=[Bb p.bl,V.int u8 p.ca,I p.pa,I p.ha,I p.fu];let x97:=List.take p.zs.length (List.drop 0 p.zs);let x95:=((ec (Psn.mk p.f p.r x97 p.bl p.ca p.pa p.ha p.fu)).getD ([],0)).fst;let x94:=x95.length;fun(s4:Unit)=>[O.ints false i8 p.zs,O.cells true (I p.f::I p.r::V.sl 0 0 p.zs.length none::x96),O.cells true [Bb false],O.cells true [I p.f,I p.r,V.sl 0 0 p.zs.length none],O.cells true [V.sl 8 0 x94 (some x94)],O.cells true (I p.f::I p.r::V.sl 6 0 x97.length none::x96),O.ints true i8 x97,O.gone,O.rows true [i64,i64,i8] x95]) (let x101:=[Bb p.bl,V.int u8 p.ca,I p.pa,I p.ha,I p.fu];let x102:=List.take p.zs.length (List.drop 0 p.zs);let x100:=((ec (Psn.mk p.f p.r x102 p.bl p.ca p.pa p.ha p.fu)).getD ([],0)).fst;let x99:=x100.length;fun(s4:Unit)=>[O.ints false i8 p.zs,O.cells true (I p.f::I p.r::V.sl 0 0 p.zs.length none::x101),O.cells true [Bb false],O.cells true [I p.f,I p.r,V.sl 0 0 p.zs.length none],O.cells true [V.sl 8 0 x99 (some x99)],O.cells true (I p.f::I p.r::V.sl 6 0 x102.length none::x101),O.ints true i8 x102,O.gone,O.rows true [i64,i64,i8] x100]) 0 (afLs (Psn.mk p.f p.r (List.take p.zs.length (List.drop 0 p.zs)) p.bl p.ca p.pa p.ha p.fu)) BW afNs (IL (Psn.mk p.f p.r (List.take p.zs.length (List.drop 0 p.zs)) p.bl p.ca p.pa p.ha p.fu)) (afHc (Psn.mk p.f p.r (List.take p.zs.length (List.drop 0 p.zs)) p.bl p.ca p.pa p.ha p.fu)) Ky 7 (let x104:=List.take p.zs.length (List.drop 0 p.zs);fun(e3:Mov×Psn) (s4:Unit)=>(14,V.ptr 12 0 0)::(13,V.ptr 11 0 0)::putPs (#[83,84]:Array Nat).toList [V.agg [I e3.1.a,I e3.1.b,V.int i8 e3.1.p],V.agg [I e3.2.f,I e3.2.r,V.sl 10 0 e3.2.zs.length none,Bb e3.2.bl,V.int u8 e3.2.ca,I e3.2.pa,I e3.2.ha,I e3.2.fu]] [(1,V.ptr 1 0 0),(2,V.ptr 2 0 0),(3,V.ptr 3 0 0),(4,V.ptr 4 0 0),(6,I (aK p.f p.r x104 p.bl).fst),(8,U (aM p.f p.r x104 p.bl).fst),(10,U (bN p.f p.r x104 p.bl).fst),(82,V.fn 39 [V.ptr 5 0 0])]) _ [5,6] [1,2,3,4,6,8,10,82] ((Ent.gap rfl rfl).trans ((Ent.rn [0,1,2,3,5,8,7,9,4] [1,2,3,4,6,8,10,82] rfl rfl rfl rfl rfl).trans ((Ent.rn [0,1,2,3,4,5,6,7,8] [1,2,3,4,6,8,10,82] rfl rfl rfl rfl rfl)))) (KG _ qr34407) (fun _=>⟨rfl,Nat.le_of_ble_eq_true rfl⟩) (ent Tryz.func39 (by kernel_rfl) rfl) rfl rfl rfl rfl rfl rfl rfl rfl rfl rfl rfl rfl (fun _=>(mU rfl rfl rfl rfl rfl rfl rfl rfl)) (fun _=>(mU rfl rfl rfl rfl rfl rfl rfl rfl)) (fun _ _=>rfl) (fun e3 s4=>?_) (fun s4=>?_) (fun s4=>vz)
 ·refine ak rfl ?_
  refine ak rfl ?_
  refine eS (pl (decide_eq_true (bL rfl)) id) ?_
  refine ak (Bool.not_or_self _) ?_
  refine ak (Bool.or_not_self _) ?_
  refine ak (Bool.not_or_self _) ?_
  refine ak (Bool.not_or_self _) ?_
  refine eS (pi (pl (decide_eq_true (bL rfl)) id)) ?_
  refine ak (Bool.not_or_self _) ?_
  refine ak (Bool.or_not_self _) ?_
  refine aP hE 2 rfl ?_ ?_
  ·refine FH (hp4:=[O.ints false i8 p.zs,O.cells true [I p.f,I p.r,V.sl 0 0 p.zs.length none,Bb p.bl,V.int u8 p.ca,I p.pa,I p.ha,I p.fu],O.cells true [Bb false],O.cells true [I p.f,I p.r,V.sl 0 0 p.zs.length none],O.cells true [V.sl 8 0 ((ec (Psn.mk p.f p.r (List.take p.zs.length (List.drop 0 p.zs)) p.bl p.ca p.pa p.ha p.fu)).getD ([],0)).fst.length (some ((ec (Psn.mk p.f p.r (List.take p.zs.length (List.drop 0 p.zs)) p.bl p.ca p.pa p.ha p.fu)).getD ([],0)).fst.length)],O.cells true [I p.f,I p.r,V.sl 6 0 (List.take p.zs.length (List.drop 0 p.zs)).length none,Bb p.bl,V.int u8 p.ca,I p.pa,I p.ha,I p.fu],O.ints true i8 (List.take p.zs.length (List.drop 0 p.zs)),O.gone,O.rows true [i64,i64,i8] ((ec (Psn.mk p.f p.r (List.take p.zs.length (List.drop 0 p.zs)) p.bl p.ca p.pa p.ha p.fu)).getD ([],0)).fst]) (Ent.rn [0,1,2,3,4,5,6,7,8] [] rfl rfl rfl rfl rfl) rfl (mU rfl rfl rfl rfl rfl rfl rfl rfl) ?_
   exact aY (bp [] (.inr rfl) rfl rfl rfl rfl rfl)
  exact Aw ((Ent.rn [0,1,2,3,4,5,6,7,8] [] rfl rfl rfl rfl rfl)) rfl
 refine ak rfl ?_
 refine gD hE 2 (let x110:=List.take p.zs.length (List.drop 0 p.zs);let x108:=((ec (Psn.mk p.f p.r x110 p.bl p.ca p.pa p.ha p.fu)).getD ([],0)).fst;let x109:=cR (aM p.f p.r x110 p.bl).fst 64;let x107:=x108.length;fun(s23:Int)=>([(1,V.ptr 1 0 0),(2,V.ptr 2 0 0),(3,V.ptr 3 0 0),(6,I (aK p.f p.r x110 p.bl).fst),(10,U (bN p.f p.r x110 p.bl).fst),(17,V.sl 4 0 x109.length none),(107,V.sl 5 0 x107 (some x107)),(108,I (Int.ofNat x107)),(109,I s23)],[O.ints false i8 p.zs,O.cells true [I p.f,I p.r,V.sl 0 0 p.zs.length none,Bb p.bl,V.int u8 p.ca,I p.pa,I p.ha,I p.fu],O.cells true [Bb false],O.cells true [I p.f,I p.r,V.sl 0 0 p.zs.length none],O.ints true i64 x109,O.rows true [i64,i64,i8] x108])) (fun(s42:Unit)=>([(2,V.ptr 1 0 0)],[O.ints false i8 p.zs,O.cells true [Bb false]])) (.exit 2) ((Ent.rn [0,1,2,3,9,8] [1,2,3,6,10,17,107,108,109] rfl rfl rfl rfl rfl)) (fun s23=>?_) (fun s42=>?_)
 ·refine aP hE 2 rfl ?_ ?_
  ·refine ct ?_
   refine aP hE 2 rfl ?_ ?_
   ·exact fY ((Ent.rn [0,1,2,3,4,5] [1,2,3,6,10,17,107,108,109] rfl rfl rfl rfl rfl))
   refine aP hE 2 rfl ?_ ?_
   ·refine pD (by simp) (kF ?_)
    exact aY (bp [] (.inr rfl) rfl rfl rfl rfl rfl)
   refine dZ hE 2 (let x117:=List.take p.zs.length (List.drop 0 p.zs);let x115:=((ec (Psn.mk p.f p.r x117 p.bl p.ca p.pa p.ha p.fu)).getD ([],0)).fst;let x116:=cR (aM p.f p.r x117 p.bl).fst 64;let x113:=x115.getD s23.toNat [];let x114:=x115.length;fun(s36:Unit)=>([(1,V.ptr 1 0 0),(2,V.ptr 2 0 0),(3,V.ptr 3 0 0),(6,I (aK p.f p.r x117 p.bl).fst),(10,U (bN p.f p.r x117 p.bl).fst),(17,V.sl 4 0 x116.length none),(19,V.ptr 5 0 0),(107,V.sl 6 0 x114 (some x114)),(108,I (Int.ofNat x114)),(109,I s23)],[O.ints false i8 p.zs,O.cells true [I p.f,I p.r,V.sl 0 0 p.zs.length none,Bb p.bl,V.int u8 p.ca,I p.pa,I p.ha,I p.fu],O.cells true [Bb false],O.cells true [I p.f,I p.r,V.sl 0 0 p.zs.length none],O.ints true i64 x116,O.cells true [I (x113.getD 0 0),I (x113.getD 1 0),V.int i8 (x113.getD 2 0)],O.rows true [i64,i64,i8] x115])) rfl ?_ ?_ (fun s36=>?_)
   ·refine ak (Bool.not_or_self _) ?_
    refine ak (Bool.not_or_self _) ?_
    refine ak (Bool.not_or_self _) ?_
    refine ak (Bool.not_or_self _) ?_
    refine ct ?_
    refine ak (Bool.not_or_self _) ?_
    refine ak (Bool.not_or_self _) ?_
    refine ak (Bool.not_or_self _) ?_
    refine ak (Bool.not_or_self _) ?_
    refine ak (Bool.not_or_self _) ?_
    refine ak (Bool.not_or_self _) ?_
    refine ak (Bool.not_or_self _) ?_
    refine ct ?_
    refine ak (Bool.not_or_self _) ?_
    refine ak (Bool.not_or_self _) ?_
    refine ak (Bool.not_or_self _) ?_
    refine ak (tt10 _ _) ?_
    refine ak (Bool.not_or_self _) ?_
    refine ak rfl ?_
    refine eS (pl rfl id) ?_
    refine ct ?_
    refine ak rfl ?_
    refine eS (pl rfl id) ?_
    refine ak (Bool.or_not_self _) ?_
    refine gD hE 2 (let x126:=List.take p.zs.length (List.drop 0 p.zs);let x122:=((ec (Psn.mk p.f p.r x126 p.bl p.ca p.pa p.ha p.fu)).getD ([],0)).fst;let x124:=cR (aM p.f p.r x126 p.bl).fst 64;let x125:=(aK p.f p.r x126 p.bl).fst;let x120:=x122.getD s23.toNat [];let x121:=x122.length;let x123:=x124.getD (Int.toNat 0) 0;let x119:=(aW p.f p.r x125 x123).length;fun(s27:Bool×Int)=>([(1,V.ptr 1 0 0),(2,V.ptr 2 0 0),(3,V.ptr 3 0 0),(6,I x125),(10,U (bN p.f p.r x126 p.bl).fst),(17,V.sl 4 0 x124.length none),(19,V.ptr 5 0 0),(22,Bb s27.1),(107,V.sl 6 0 x121 (some x121)),(108,I (Int.ofNat x121)),(109,I s23),(162,V.sl 7 0 x119 none),(163,I (Int.ofNat x119)),(164,I s27.2)],[O.ints false i8 p.zs,O.cells true [I p.f,I p.r,V.sl 0 0 p.zs.length none,Bb p.bl,V.int u8 p.ca,I p.pa,I p.ha,I p.fu],O.cells true [Bb false],O.cells true [I p.f,I p.r,V.sl 0 0 p.zs.length none],O.ints true i64 x124,O.cells true [I (x120.getD 0 0),I (x120.getD 1 0),V.int i8 (x120.getD 2 0)],O.rows true [i64,i64,i8] x122,O.ints true i64 (kq p.f p.r x125 x123)])) (let x132:=List.take p.zs.length (List.drop 0 p.zs);let x130:=((ec (Psn.mk p.f p.r x132 p.bl p.ca p.pa p.ha p.fu)).getD ([],0)).fst;let x131:=cR (aM p.f p.r x132 p.bl).fst 64;let x128:=x130.getD s23.toNat [];let x129:=x130.length;fun(s35:Bool)=>([(1,V.ptr 1 0 0),(2,V.ptr 2 0 0),(3,V.ptr 3 0 0),(6,I (aK p.f p.r x132 p.bl).fst),(10,U (bN p.f p.r x132 p.bl).fst),(17,V.sl 4 0 x131.length none),(19,V.ptr 5 0 0),(22,Bb s35),(107,V.sl 6 0 x129 (some x129)),(108,I (Int.ofNat x129)),(109,I s23)],[O.ints false i8 p.zs,O.cells true [I p.f,I p.r,V.sl 0 0 p.zs.length none,Bb p.bl,V.int u8 p.ca,I p.pa,I p.ha,I p.fu],O.cells true [Bb false],O.cells true [I p.f,I p.r,V.sl 0 0 p.zs.length none],O.ints true i64 x131,O.cells true [I (x128.getD 0 0),I (x128.getD 1 0),V.int i8 (x128.getD 2 0)],O.rows true [i64,i64,i8] x130])) (.exit 4) ((Ent.rn [0,1,2,3,4,6,5,7] [1,2,3,6,10,17,19,22,107,108,109,162,163,164] rfl rfl rfl rfl rfl)) (fun s27=>?_) (fun s35=>?_)
    ·refine aP hE 2 rfl ?_ ?_
     ·refine ct ?_
      refine ak (Bool.not_or_self _) ?_
      refine ak (Bool.not_or_self _) ?_
      refine ak (Bool.not_or_self _) ?_
      refine ak (Bool.or_not_self _) ?_
      exact fY ((Ent.rn [0,1,2,3,4,5,6,7] [1,2,3,6,10,17,19,22,107,108,109,162,163,164] rfl rfl rfl rfl rfl))
     exact gF ((Ent.rn [0,1,2,3,4,5,6] [1,2,3,6,10,17,19,22,107,108,109] rfl rfl rfl rfl rfl))
    refine aP hE 2 rfl ?_ ?_
    ·refine GI ?_
     refine pD (by simp) (kF ?_)
     exact aY (bp [] (.inr rfl) rfl rfl rfl rfl rfl)
    exact cq ((Ent.rn [0,1,2,3,4,5,6] [1,2,3,6,10,17,19,107,108,109] rfl rfl rfl rfl rfl))
   ·exact cq ((Ent.rn [0,1,2,3,4,6,5] [1,2,3,6,10,17,19,107,108,109] rfl rfl rfl rfl rfl))
   refine ak rfl ?_
   refine dZ hE 2 (let x137:=List.take p.zs.length (List.drop 0 p.zs);let x135:=((ec (Psn.mk p.f p.r x137 p.bl p.ca p.pa p.ha p.fu)).getD ([],0)).fst;let x136:=cR (aM p.f p.r x137 p.bl).fst 64;let x134:=x135.length;fun(s37:Unit)=>([(1,V.ptr 1 0 0),(2,V.ptr 2 0 0),(3,V.ptr 3 0 0),(6,I (aK p.f p.r x137 p.bl).fst),(10,U (bN p.f p.r x137 p.bl).fst),(17,V.sl 4 0 x136.length none),(107,V.sl 5 0 x134 (some x134)),(108,I (Int.ofNat x134)),(109,I s23)],[O.ints false i8 p.zs,O.cells true [I p.f,I p.r,V.sl 0 0 p.zs.length none,Bb p.bl,V.int u8 p.ca,I p.pa,I p.ha,I p.fu],O.cells true [Bb false],O.cells true [I p.f,I p.r,V.sl 0 0 p.zs.length none],O.ints true i64 x136,O.rows true [i64,i64,i8] x135])) rfl ?_ ?_ (fun s37=>?_)
   ·refine eS (pl (decide_eq_true (bL rfl)) id) ?_
    refine ak (Bool.not_or_self _) ?_
    refine ak (Bool.not_or_self _) ?_
    refine ak (Bool.not_or_self _) ?_
    refine ak (pg rfl) ?_
    refine ak (Bool.not_or_self _) ?_
    refine ak (Bool.or_not_self _) ?_
    refine aP hE 2 rfl ?_ ?_
    ·refine GI ?_
     refine pD (by simp) (kF ?_)
     exact aY (bp [] (.inr rfl) rfl rfl rfl rfl rfl)
    exact cq ((Ent.rn [0,1,2,3,4,6] [1,2,3,6,10,17,107,108,109] rfl rfl rfl rfl rfl))
   ·exact cq ((Ent.rn [0,1,2,3,4,6] [1,2,3,6,10,17,107,108,109] rfl rfl rfl rfl rfl))
   exact fY ((Ent.rn [0,1,2,3,4,5] [1,2,3,6,10,17,107,108,109] rfl rfl rfl rfl rfl))
  exact gF ((Ent.rn [0,2] [2] rfl rfl rfl rfl rfl))
 refine ak rfl ?_
 exact aY (bp [] (.inr rfl) rfl rfl rfl rfl rfl)
end
end Go.Ab
namespace Go.Ab
open Go.Proofs
section
theorem mP(a b:Int):∃ c,mord a b=some c:=by
 unfold mord
 cases decide (a<b)<;>cases decide (b<a)<;>exact⟨_,rfl⟩
theorem DR(a b:Mov):∃ c,mcmp a b=some c:=by
 unfold mcmp
 obtain⟨c1,h1⟩:=mP a.a b.a
 obtain⟨c2,h2⟩:=mP a.b b.b
 obtain⟨c3,h3⟩:=mP (IntKind.i64.wrap a.p) (IntKind.i64.wrap b.p)
 rw[h1,h2,h3,bG,bG,bG]
 cases decide (a.a=b.a)<;>cases decide (a.b=b.b)<;>exact⟨_,rfl⟩
theorem mJ(a:Int):mord a a=some 0:=by
 unfold mord
 rw[decide_eq_false (show ¬ a<a by omega)];rfl
theorem Bw(a:Mov):mcmp a a=some 0:=by
 unfold mcmp
 rw[mJ,mJ,mJ,decide_eq_true rfl,decide_eq_true rfl];rfl
def rowM(l:List (List Int))(k:Nat):Mov:=⟨(l.getD k []).getD 0 0,(l.getD k []).getD 1 0,(l.getD k []).getD 2 0⟩
theorem xg(l:List (List Int))(m:Mov)(hl:l.length<=100000)(e:Nat):∀ (d k:Nat),k+d=l.length->(∃ i,k<=i/\i<l.length/\rowM l i=m)->ew (xY l m) (fun(_:Unit)=>some false) (d+1+e) (k:Int)=some true
 |0,k,hk,⟨i,h1,h2,_⟩=>by omega
 |d+1,k,hk,⟨i,h1,h2,h3⟩=>by
  have d1:decide ((k:Int)<Int.ofNat l.length)=true:=decide_eq_true (by simp only[Int.ofNat_eq_natCast];omega)
  have d2:decide ((0:Int)<=k)=true:=decide_eq_true (Int.natCast_nonneg k)
  have hw:IntKind.i64.wrap ((k:Int)+1)=((k+1:Nat):Int):=by rw[az (by omega) (by omega)];omega
  obtain⟨c,hc⟩:=DR (rowM l k) m
  have hc':mcmp ⟨(l.getD k []).getD 0 0,(l.getD k []).getD 1 0,(l.getD k []).getD 2 0⟩ ⟨m.a,m.b,m.p⟩=some c:=hc
  rw[show d+1+1+e=(d+1+e)+1 by omega]
  by_cases h0:c=0
  ·refine DG ?_
   unfold xY
   dsimp only
   rw[Int.toNat_natCast,d1,d2,hc',bG,Option.getD_some,decide_eq_true h0]
   rfl
  ·have hik:i≠k:=by
    rintro rfl
    rw[h3,Bw]at hc
    exact h0 (Option.some.inj hc).symm
   rw[dw (s':=((k+1:Nat):Int)) (by
    unfold xY
    dsimp only
    rw[Int.toNat_natCast,d1,d2,hc',bG,Option.getD_some,decide_eq_false h0,hw]
    rfl)]
   exact xg l m hl e d (k+1) (by omega) ⟨i,by omega,h2,h3⟩
theorem Kh{l:List (List Int)}{a b pr:Int}(hl:l.length<=100000)(h:[a,b,pr]∈l):rLH l ⟨a,b,pr⟩=some true:=by
 obtain⟨i,hi,he⟩:=List.mem_iff_getElem.1 h
 have:=xg l ⟨a,b,pr⟩ hl (999999-l.length) l.length 0 (by omega) ⟨i,by omega,hi,by simp[rowM,List.getD,hi,he]⟩
 rw[show l.length+1+(999999-l.length)=1000000 by omega]at this
 exact this
section
variable{p:Psn}
theorem PsH.king(o:PsH p):∃ K:Nat,K<p.zs.length/\p.zs.getD K 0=kgP p.bl/\aK p.f p.r p.zs p.bl=((K:Int),0)/\(∀ i:Nat,i<p.zs.length->p.zs.getD i 0=kgP p.bl->i=K):=by
 have hk:=o.ok
 simp only[Psn.ok,ei,Bool.and_eq_true,decide_eq_true_eq]at hk
 have h2:=hk.1.1.1.1.2.1.1
 obtain⟨K,k1,k2,k3,k4⟩:=mI o.h o.hl h2
 refine⟨K,k1,k2,?_,k4⟩
 rcases gl (bl:=p.bl) o.h o.hl with⟨_,g⟩|⟨g,_⟩
 ·rw[g]at h2;cases h2
 ·rw[g,k3]
theorem BH{s:Int}(h:∀ x∈cR s 64,∀ y∈cR s 64,x=y):cR s 64=[]\/∃ x,cR s 64=[x]/\0<=x/\x<64/\hasB s x=true:=by
 have e:cR s 64=cn (hasB s) id 64:=by unfold cR cn;rw[List.map_id]
 by_cases hn:∃ i:Nat,i<64/\hasB s i=true
 ·right
  obtain⟨i,i1,i2⟩:=hn
  have hi:(i:Int)∈cR s 64:=jd.2 ⟨by omega,by omega,i2⟩
  refine⟨i,?_,by omega,by omega,i2⟩
  rw[e]
  exact jQ i2 64 i1 (fun j j1 j2=>by
   have:=h j (jd.2 ⟨by omega,by omega,j2⟩) i hi
   omega)
 ·left
  rw[e]
  exact je 64 (fun i i1=>by
   cases hb:hasB s i with
   |false=>rfl
   |true=>exact absurd ⟨i,i1,hb⟩ hn)
theorem PsH.pins(o:PsH p){K:Nat}(hK:K<p.zs.length)(hkr:aK p.f p.r p.zs p.bl=((K:Int),0)){a:Int}(ha:ai p.f p.r a=true)(hown:isP (p.zs.getD a.toNat 0) p.bl=true)(hh:hasB (bN p.f p.r p.zs p.bl).1 a=true) :
  (bx p.f p.r p.zs a).2=0/\∃ x,Pins p.f p.r p.zs p.bl K x a/\∀ b,ai p.f p.r b=true->a≠b->(b=x\/b∈aW p.f p.r x K)->hasB (bx p.f p.r p.zs a).1 b=true:=by
 have hKv:ai p.f p.r (K:Int)=true:=(bM o.h).2 ⟨by omega,by omega⟩
 have hal:=aB ha
 have haq:=(bM o.h).1 ha
 have hs:(bN p.f p.r p.zs p.bl).1=bV (cB cbP p.f p.r p.zs p.bl K (occR p.f p.r p.zs)) 0 p.zs.length:=by
  unfold bN iR;rw[hkr];rfl
 obtain⟨q1,q2⟩:=outP (f:=p.f) (r:=p.r) (zs:=p.zs) (bl:=p.bl) (K:=K) (occ:=occR p.f p.r p.zs) o.hl p.zs.length
 rw[hs,dz q1 ha]at hh
 obtain⟨x0,_,_,g0⟩:=(q2 a.toNat).1 hh
 have hneg:decide (p.zs.getD a.toNat 0<0)=p.bl:=(yj hown).1
 have hnz:=fh hown
 have ht:((a.toNat:Nat):Int)=a:=by omega
 have hl:iR (cbL a) p.f p.r p.zs p.bl=bV (cB (cbL a.toNat) p.f p.r p.zs p.bl K (occR p.f p.r p.zs)) 0 p.zs.length:=by
  unfold iR;rw[hkr,ht]
 have hj:a.toNat<p.zs.length:=by omega
 rcases HS (f:=p.f) (r:=p.r) (zs:=p.zs) (bl:=p.bl) (K:=K) (occ:=occR p.f p.r p.zs) hj p.zs.length with⟨x,x1,gx,ex⟩|⟨hno,_⟩
 ·rw[ht]at gx ex
  rw[ht]at hl
  have hpin:=((lU o.h o.hl hKv (by omega:(0:Int)<=x) (by omega) haq.1 haq.2).1 gx).1
  obtain⟨v1,_,l1,_,_,_⟩:=eE o.h hKv hpin
  obtain⟨b1,b2⟩:=ru v1 hKv l1
  have hxl:=aB v1
  have hln:iR (cbL a) p.f p.r p.zs p.bl=jL p.f p.r K x a:=by rw[hl,ex]
  have hbit:∀ b,ai p.f p.r b=true->bt (jL p.f p.r K x a) b.toNat=((decide (b∈aW p.f p.r x K)&&!decide (a=b))||decide ((x:Int)=b)):=by
   intro b hb
   have hbl:=aB hb
   unfold jL
   rw[eI (fm _ _) (eM _ _),eJ b1 (eM _ _),dS hal.1 hal.2.2,dS hxl.1 hxl.2.2,b2,show ((b.toNat:Nat):Int)=b by omega]
  have hne:¬ iR (cbL a) p.f p.r p.zs p.bl=0:=by
   intro h0
   have:=hbit x v1
   rw[<-hln,h0,bt_0]at this
   simp at this
  have hR:bx p.f p.r p.zs a=(jL p.f p.r K x a,0):=by
   unfold bx
   rw[o.h,ha,hneg,hkr,decide_eq_false hnz,decide_eq_false hne,hln];rfl
  rw[hR]
  refine⟨rfl,x,hpin,fun b hb hab hc=>?_⟩
  have hu:Uk (jL p.f p.r K x a):=gi _ _
  show hasB (jL p.f p.r K x a) b=true
  rw[dz hu hb,hbit b hb]
  rcases hc with rfl|hc
  ·simp
  ·simp[hc,hab]
 ·exact absurd g0 (hno x0 (by assumption))
end
end
section
theorem Ka(f r a b:Int){i:Nat}(h:i<(aW f r a b).length):(kq f r a b).getD i 0=(aW f r a b).getD i 0:=by
 have e:=ki f r a b
 rw[List.drop_zero]at e
 rw[<-e]
 have h2:i<(kq f r a b).length:=by
  have:=congrArg List.length e
  rw[List.length_take]at this
  omega
 simp[List.getD,h]
theorem xu(b:Int):∀ (l:List Int) (s:Bool),l.foldl (fun acc y=>acc||decide (b=y)) s=(s||decide (b∈l))
 |[],s=>by simp
 |y::l,s=>by
  rw[List.foldl_cons,xu b l]
  by_cases e:b=y
  ·simp[e]
  ·simp[e]
section
variable{p:Psn}
theorem Kb{l:List (List Int)}{e0:Int}{k:Nat}{b:Int}{K:Nat}{x C:Int}(hb:(l.getD k []).getD 1 0=b)(hkr:aK p.f p.r p.zs p.bl=((K:Int),0))(hck:aM p.f p.r p.zs p.bl=(C,0))(hx:cR C 64=[x])
  {F:Bool->Option (Unit ⊕ Int ⊕ Unit ⊕ Bool)} {s:Bool}:ew (ey p (l,e0) (k:Int)) F 1000000 (s,0)=F (s||decide (b∈aW p.f p.r K x)):=by
 have hlen:=kG p.f p.r K x
 refine(nj (step:=ey p (l,e0) (k:Int)) (aW p.f p.r K x) (fun acc y=>acc||decide (b=y)) (fun s=>s) (fun _ _=>True) ?_ ?_ (aW p.f p.r K x).length 1000000 0 s (by omega) (by omega) trivial).trans ?_
 ·intro j y s hy _
  have hj:=(List.getElem?_eq_some_iff.1 hy).1
  have e1:(kq p.f p.r K x).getD j 0=y:=by rw[Ka p.f p.r K x hj];simp[List.getD,hy]
  have d1:decide ((j:Int)<Int.ofNat (aW p.f p.r K x).length)=true:=decide_eq_true (by simp only[Int.ofNat_eq_natCast];omega)
  have d2:decide ((0:Int)<=j)=true:=decide_eq_true (Int.natCast_nonneg j)
  have hw:IntKind.i64.wrap ((j:Int)+1)=((j+1:Nat):Int):=by rw[az (by omega) (by omega)];omega
  refine⟨?_,trivial⟩
  unfold ey
  simp only[List.drop_zero,List.take_length,hkr,hck,hx,Int.toNat_natCast,hb]
  rw[show ([x]:List Int).getD (Int.toNat 0) 0=x from rfl,d1,d2,e1,hw]
  rfl
 ·intro s _
  have d1:decide (((aW p.f p.r K x).length:Int)<Int.ofNat (aW p.f p.r K x).length)=false:=by simp
  unfold ey
  simp only[List.drop_zero,List.take_length,hkr,hck,hx]
  rw[show ([x]:List Int).getD (Int.toNat 0) 0=x from rfl,d1]
  rfl
 ·rw[List.drop_zero,xu]
theorem Kn{f r:Int}{zs:List Int}(h:aD f r zs=true){a:Int}(h0:0<=a)(h1:a<zs.length)(hk:aU (zs.getD a.toNat 0)=1):(decide (zs.getD a.toNat 0=1)||decide (zs.getD a.toNat 0=-1))=true:=by
 rw[dD (cK h h0 h1)]at hk
 have:zs.getD a.toNat 0=1\/zs.getD a.toNat 0=-1:=by omega
 rcases this with e|e<;>rw[e]<;>rfl
theorem Kc{f r:Int}{zs:List Int}{bl:Bool}(h:aD f r zs=true){a:Int}{K:Nat}(h0:0<=a)(h1:a<zs.length)(hown:isP (zs.getD a.toNat 0) bl=true)(hu:∀ i:Nat,i<zs.length->zs.getD i 0=kgP bl->i=K)(hne:a≠(K:Int)):aU (zs.getD a.toNat 0)≠6:=by
 intro hk
 have:=hu a.toNat (by omega) (BL (cK h h0 h1) hown hk)
 omega
theorem Jf(o:PsH p){l:List (List Int)}(hl:l.length<=100000){K:Nat}(hK:K<p.zs.length)(hKz:p.zs.getD K 0=kgP p.bl)(hkr:aK p.f p.r p.zs p.bl=((K:Int),0))(hu:∀ i:Nat,i<p.zs.length->p.zs.getD i 0=kgP p.bl->i=K)
  {k:Nat} {a b pr:Int} (hr:l[k]?=some [a,b,pr]) (hc:canM p a b pr=true) (h4:err4 p ⟨a,b,pr⟩=false):jz p (l,0) ey (k:Int)=some (.inl ((k+1:Nat):Int)):=by
 have mo:MvOk p ⟨a,b,pr⟩:=qF (m:=⟨a,b,pr⟩) o hc
 have hk:=(List.getElem?_eq_some_iff.1 hr).1
 have e1:l.getD k []=[a,b,pr]:=by simp[List.getD,hr]
 have hKv:ai p.f p.r (K:Int)=true:=(bM o.h).2 ⟨by omega,by omega⟩
 have d1:decide ((k:Int)<Int.ofNat l.length)=true:=decide_eq_true (by simp only[Int.ofNat_eq_natCast];omega)
 have d2:decide ((0:Int)<=k)=true:=decide_eq_true (Int.natCast_nonneg k)
 have hw:IntKind.i64.wrap ((k:Int)+1)=((k+1:Nat):Int):=by rw[az (by omega) (by omega)];omega
 obtain⟨⟨sa0,sa1⟩,⟨sb0,sb1⟩⟩:=mo.sq
 dsimp only at sa0 sa1 sb0 sb1
 have da:(decide (0<=a)&&decide (a<Int.ofNat p.zs.length))=true:=by rw[decide_eq_true sa0,decide_eq_true (by simp only[Int.ofNat_eq_natCast];exact sa1)];rfl
 have hck:aM p.f p.r p.zs p.bl=(attR p.f p.r p.zs K (!p.bl),0):=by unfold aM;rw[hkr];rfl
 have hf0:(!decide (p.f=0))=true:=by have:=dh (aJ o.h).1;simp;omega
 have d64:decide (p.zs.length<=64)=true:=decide_eq_true o.hl
 unfold jz
 simp only[List.drop_zero,List.take_length,hkr,hck,Int.toNat_natCast,e1,d1,d2,hw,hf0,d64,Bool.and_self,be,cond_true]
 simp only[List.getD_cons_zero,List.getD_cons_succ]
 by_cases hne:a=(K:Int)
 ·rw[decide_eq_true hne];rfl
 rw[decide_eq_false hne,cond_false]
 have hk6:=Kc o.h sa0 sa1 mo.hp hu hne
 obtain⟨au,ab⟩:=kW (bl:=!p.bl) o.h o.hl hKv
 have hmem:∀ {x},x∈cR (attR p.f p.r p.zs K (!p.bl)) 64->x∈attL p.f p.r p.zs K (!p.bl):=by
  intro x hx
  obtain⟨x0,x1,x2⟩:=jd.1 hx
  rw[nZ au,ab,show ((x.toNat:Nat):Int)=x by omega]at x2
  simp only[Bool.and_eq_true,decide_eq_true_eq]at x2
  exact x2.2
 have hpin:(bif hasB (bN p.f p.r p.zs p.bl).1 a then
   bE true (bif !decide ((bx p.f p.r p.zs a).2=0)||!hasB (bx p.f p.r p.zs a).1 b then escO (escO (escO (some false)))else some (Sum.inl ()))
   else some (Sum.inl ()))=(some (.inl ()):Option (Unit ⊕ Int ⊕ Unit ⊕ Bool)):=by
  cases hh:hasB (bN p.f p.r p.zs p.bl).1 a with
  |false=>rfl
  |true=>
   obtain⟨z,x,hp,hb⟩:=o.pins hK hkr mo.ha mo.hp hh
   have:=hb b mo.hb mo.hab (mo.pinned hk6 hK hKz hu h4 hp)
   rw[z,this];rfl
 have hlist:=BH (s:=attR p.f p.r p.zs K (!p.bl)) fun x hx y hy=>mo.two hk6 hK hKz hu h4 (hmem hx) (hmem hy)
 rcases hlist with he|⟨x,he,_⟩
 ·rw[he]
  simp only[be]at hpin
  simp only[List.length_nil]
  refine Eq.trans (congrArg (fun z=>dV z fun(_:Unit)=>some (Sum.inl ((k+1:Nat):Int))) hpin) rfl
 ·have h1:=mo.one hk6 hK hKz hu h4 (hmem (x:=x) (by rw[he];simp))
  have hs:((decide (b=x)||decide (b=p.pa)&&(decide (p.zs.getD a.toNat 0=1)||decide (p.zs.getD a.toNat 0=-1)))||decide (b∈aW p.f p.r K x))=true:=by
   rcases h1 with g|⟨g1,g2⟩|g
   ·rw[decide_eq_true (show b=x from g)];rfl
   ·rw[decide_eq_true (show b=p.pa from g1),Kn o.h sa0 sa1 g2];simp
   ·rw[decide_eq_true g];simp
  have h2:=Kb (l:=l) (e0:=0) (k:=k) (b:=b) (K:=K) (x:=x) (by rw[e1];rfl) hkr hck he (F:=fun(s35:Bool)=>bif !s35 then escO (escO (escO (some false)))else some (Sum.inl ()))
   (s:=decide (b=x)||decide (b=p.pa)&&(decide (p.zs.getD a.toNat 0=1)||decide (p.zs.getD a.toNat 0=-1)))
  rw[hs]at h2
  rw[he]
  simp only[List.length_singleton,da,Bool.or_true,be]
  simp only[be]at hpin
  rw[show ([x]:List Int).getD (Int.toNat 0) 0=x from rfl,show decide (1<Int.ofNat 1)=false from rfl,show decide (Int.ofNat 1=1)=true from rfl,show decide (0<Int.ofNat 1)=true from rfl]
  simp only[cond_false,cond_true,be]
  rw[h2]
  exact Eq.trans (congrArg (fun z=>dV z fun(_:Unit)=>some (Sum.inl ((k+1:Nat):Int))) hpin) rfl
end
end
section
variable{p:Psn}
theorem GY(o:PsH p){l:List (List Int)}(hl:l.length<=100000){K:Nat}(hK:K<p.zs.length)(hKz:p.zs.getD K 0=kgP p.bl)(hkr:aK p.f p.r p.zs p.bl=((K:Int),0))(hu:∀ i:Nat,i<p.zs.length->p.zs.getD i 0=kgP p.bl->i=K)
  (hall:∀ r∈l,tW p r/\legF p r=true) {F:Unit->Option Bool} (e:Nat):∀ (d k:Nat),k+d=l.length->ew (jz p (l,0) ey) F (d+1+e) (k:Int)=F ()
 |0,k,hk=>by
  rw[show 0+1+e=e+1 by omega]
  refine kf ?_
  unfold jz
  dsimp only
  rw[decide_eq_false (show ¬ ((k:Int)<Int.ofNat l.length) by simp only[Int.ofNat_eq_natCast];omega)]
  rfl
 |d+1,k,hk=>by
  have hlt:k<l.length:=by omega
  obtain⟨⟨a,b,pr,h1,h2⟩,h3⟩:=hall _ (List.getElem_mem hlt)
  rw[h1]at h3
  unfold legF at h3
  rw[Bool.not_eq_true']at h3
  have hr:l[k]?=some [a,b,pr]:=by rw[List.getElem?_eq_getElem hlt,h1]
  rw[show d+1+1+e=(d+1+e)+1 by omega,dw (Jf o hl hK hKz hkr hu hr h2 h3)]
  exact GY o hl hK hKz hkr hu hall e d (k+1) (by omega)
theorem LG(q:Psn):(⟨q.f,q.r,q.zs,q.bl,q.ca,q.pa,q.ha,q.fu⟩:Psn)=q:=rfl
theorem GN(a b pr:Int):afM [a,b,pr]=⟨a,b,pr⟩:=rfl
theorem Jp(o:PsH p){l:List (List Int)}(hl:l.length<=100000){a b pr:Int}(hc:canM p a b pr=true)(he:mkE5 p ⟨a,b,pr⟩=0)(hin:[a,b,pr]∈l):mC p (l,0) (⟨a,b,pr⟩,mkP p ⟨a,b,pr⟩) ()=some (.inl ()):=by
 have hv:=FA o.hl o.ca he
 have hln:=KH o hc he
 have hbl:(mkP p ⟨a,b,pr⟩).bl=!p.bl:=by unfold mkP;rw[he];rfl
 have hk:=hv
 simp only[Psn.ok,ei,Bool.and_eq_true,decide_eq_true_eq]at hk
 obtain⟨⟨_,h2⟩,h1⟩:=hk.1.1.1.1.2
 rw[hbl,Bool.not_not]at h1 h2
 have h64:decide ((mkP p ⟨a,b,pr⟩).zs.length<=64)=true:=decide_eq_true (by rw[hln];exact o.hl)
 unfold mC
 simp only[List.drop_zero,List.take_length,h1,h2,h64,be,decide_true,Bool.not_true,Bool.or_self,Bool.false_or]
 rw[Kh hl hin]
 rfl
theorem Gz(o:PsH p){l:List (List Int)}(hl:l.length<=100000){F Fx:Unit->Option Bool}:∀ w:List (List Int),(∀ r∈w,tW p r/\mkE5 p (afM r)=0/\r∈l)->ef (mC p (l,0)) F Fx (w.map fun r=>(afM r,mkP p (afM r))) ()=F ()
 |[],_=>rfl
 |r::w,h=>by
  obtain⟨⟨a,b,pr,rfl,h1⟩,h2,h3⟩:=h r (by simp)
  rw[GN]at h2
  rw[List.map_cons,mO (s':=()) (by rw[GN];exact Jp o hl h1 h2 h3)]
  exact Gz o hl w fun r hr=>h r (by simp[hr])
theorem zC(hca:0<=p.ca):Ey p=some true:=by
 unfold Ey
 simp only[List.drop_zero,List.take_length,LG]
 rw[show sD p=some (decide (Int.ofNat p.zs.length<=64))from rfl,bG]
 by_cases hl:p.zs.length<=64
 ·have h1:decide (Int.ofNat p.zs.length<=64)=true:=by simp;omega
  have h2:decide (p.zs.length<=64)=true:=decide_eq_true hl
  rw[h1,h2,CE hl hca]
  simp only[Bool.not_true,Bool.false_or,Bool.or_true,be]
  cases hok:p.ok with
  |false=>rfl
  |true=>
   have o:=psh hl hca hok
   have hlen:((allL p).filter (legF p)).length<=100000:=Nat.le_trans (List.length_filter_le _ _) (qT o)
   obtain⟨K,hK,hKz,hkr,hu⟩:=o.king
   have hck:aM p.f p.r p.zs p.bl=(attR p.f p.r p.zs K (!p.bl),0):=by unfold aM;rw[hkr];rfl
   have hpn:(bN p.f p.r p.zs p.bl).2=0:=by unfold bN;rw[hkr];rfl
   rw[Bl o,bG]
   simp only[hkr,hck,hpn,decide_true,Bool.not_true,Bool.or_self,cond_false,Jg o,be]
   rw[IU o]
   have hall:∀ r∈(allL p).filter (legF p),tW p r/\legF p r=true:=fun r hr=>⟨qq (List.mem_filter.1 hr).1,(List.mem_filter.1 hr).2⟩
   refine(Gz o hlen (La p) fun r hr=>?_).trans ?_
   ·obtain⟨h1,h2⟩:=List.mem_filter.1 hr
    have hro:=qq h1
    have:=GR o hro
    rw[h2,decide_eq_true_eq]at this
    unfold okR at h2
    rw[Bool.and_eq_true]at h2
    exact⟨hro,this,List.mem_filter.2 ⟨h1,h2.1⟩⟩
   ·have:=GY o hlen hK hKz hkr hu hall (F:=fun _=>some true) (999999-((allL p).filter (legF p)).length) ((allL p).filter (legF p)).length 0 (by omega)
    rw[show ((allL p).filter (legF p)).length+1+(999999-((allL p).filter (legF p)).length)=1000000 by omega]at this
    exact this
 ·have h1:decide (Int.ofNat p.zs.length<=64)=false:=by simp;omega
  rw[h1];rfl
end
end Go.Ab
