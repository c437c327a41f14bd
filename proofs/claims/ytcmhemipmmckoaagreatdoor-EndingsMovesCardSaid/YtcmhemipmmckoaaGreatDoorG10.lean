/- Contracts of the functions that the laws reach, and plain laws of what they compute (text G10); no condition. -/
import Derived.Test.YtcmhemipmmckoaaGreatDoorG9
import Derived.Test.YtcmhemipmmckoaaGreatDoorG8
import Derived.Test.YtcmhemipmmckoaaGreatDoorG4
import Derived.Test.YtcmhemipmmckoaaGreatDoorG3
set_option maxRecDepth 100000
set_option maxHeartbeats 4000000
namespace Go.Ab
open IntKind
open Go.Proofs
section
variable{kCa kDb:Bool}
def afZ1(f r:Int)(zs:List Int)(pa a b:Int):List Int:=bif decide (0<=capL f r zs pa a b)then zs.set (capL f r zs pa a b).toNat 0 else zs
def afZ2(f r:Int)(zs:List Int)(pa a b:Int):List Int:=((afZ1 f r zs pa a b).set a.toNat 0).set b.toNat (zs.getD a.toNat 0)
def afZ3(f r:Int)(zs:List Int)(pa a b pr:Int):List Int:=bif !decide (pr=0) then(afZ2 f r zs pa a b).set b.toNat (w8 (pr*w8 (sgn (zs.getD a.toNat 0))))else afZ2 f r zs pa a b
def afZ4(l:List Int)(c:Int):List Int:=bif !decide (c=0) then(l.set (sqW c 3).toNat (l.getD (sqW c 2).toNat 0)).set (sqW c 2).toNat 0 else l
def afZ(f r:Int)(zs:List Int)(bl:Bool)(ca pa a b pr:Int):List Int:=afZ4 (afZ3 f r zs pa a b pr) (cgL f r zs bl ca a b pr)
def afS(ca a b bit:Int):Int:=bif decide ((u8.wrap (ca.tdiv bit)).tmod 2=1)&&(hasL a [sqW bit 0,sqW bit 2]||hasL b [sqW bit 0,sqW bit 2])then u8.wrap (ca-bit)else ca
def afC(ca a b:Int):Int:=afS (afS (afS (afS ca a b 1) a b 2) a b 4) a b 8
def afPa(f r:Int)(zs:List Int)(a b:Int):Int:=bif decide (aW (zs.getD a.toNat 0)=1)&&(decide (i64.wrap (i64.wrap (a.tdiv f)-i64.wrap (b.tdiv f))=2)||decide (i64.wrap (i64.wrap (b.tdiv f)-i64.wrap (a.tdiv f))=2))then numR f r (a.tmod f) (i64.wrap ((i64.wrap (i64.wrap (a.tdiv f)+i64.wrap (b.tdiv f))).tdiv 2))else -1
def afHa(f r:Int)(zs:List Int)(pa ha a b:Int):Int:=bif decide (aW (zs.getD a.toNat 0)=1)||decide (0<=capL f r zs pa a b)then 0 else i64.wrap (ha+1)
def afP(p:Psn)(m:Mov):Psn:=⟨p.f,p.r,afZ p.f p.r p.zs p.bl p.ca p.pa m.a m.b m.p,!p.bl,afC p.ca m.a m.b,afPa p.f p.r p.zs m.a m.b,afHa p.f p.r p.zs p.pa p.ha m.a m.b,fuR p.bl p.fu⟩
theorem bk{n:Nat}{b:Int}(h:0<=b)(h1:b<n):(decide (0<=b)&&decide (b<n))=true:=by simp[h,h1]
theorem Jd{f r:Int}{zs:List Int}{pa a b:Int}:(afZ1 f r zs pa a b).length=zs.length:=by unfold afZ1;cases decide (0<=capL f r zs pa a b)<;>simp
theorem Hq{f r:Int}{zs:List Int}{pa a b pr:Int}:(afZ3 f r zs pa a b pr).length=zs.length:=by unfold afZ3 afZ2;cases(!decide (pr=0))<;>simp[Jd]
theorem wJ{f r:Int}{zs:List Int}{bl:Bool}{ca pa a b pr:Int}:(afZ f r zs bl ca pa a b pr).length=zs.length:=by unfold afZ afZ4;cases(!decide (cgL f r zs bl ca a b pr=0))<;>simp[Hq]
theorem NY{f r:Int}{zs:List Int}{pa a b:Int}(hbd:aC f r zs=true)(hb1:b<zs.length)(h:0<=capL f r zs pa a b):capL f r zs pa a b<zs.length:=by
 unfold capL at h ⊢
 cases h1:(decide (aW (zs.getD a.toNat 0)=1)&&decide (b=pa)) with
 |true=>
  rw[h1,cond_true]at h
  rw[cond_true]
  rcases gC f r (b.tmod f) (i64.wrap (a.tdiv f)) (bg hbd).1 with⟨_,hv⟩|⟨_,hv⟩
  ·exact((bN hbd).1 hv).2
  ·rw[hv]at h;omega
 |false=>
  rw[h1,cond_false]at h
  rw[cond_false]
  cases h2:(!decide (zs.getD b.toNat 0=0)) with
  |true=>exact hb1
  |false=>rw[h2]at h;simp at h
theorem sqs:sqW 1 2=7/\sqW 1 3=5/\sqW 2 2=0/\sqW 2 3=3/\sqW 4 2=63/\sqW 4 3=61/\sqW 8 2=56/\sqW 8 3=59:=⟨by kernel_rfl,by kernel_rfl,by kernel_rfl,by kernel_rfl,by kernel_rfl,by kernel_rfl,by kernel_rfl,by kernel_rfl⟩
theorem NT{f r:Int}{zs:List Int}{bl:Bool}{ca a b pr:Int}(h:(!decide (cgL f r zs bl ca a b pr=0))=true):∃ bit,(bit=1\/bit=2\/bit=4\/bit=8)/\cgL f r zs bl ca a b pr=bit/\cgS f r zs bl ca a b bit=true:=by
 unfold cgL at h ⊢
 cases h0:(!decide (aW (zs.getD a.toNat 0)=6)||!decide (pr=0)) with
 |true=>rw[h0]at h;simp at h
 |false=>
  cases h1:cgS f r zs bl ca a b 1 with
  |true=>exact⟨1,by simp,by simp,h1⟩
  |false=>
   cases h2:cgS f r zs bl ca a b 2 with
   |true=>exact⟨2,by simp,by simp,h2⟩
   |false=>
    cases h3:cgS f r zs bl ca a b 4 with
    |true=>exact⟨4,by simp,by simp,h3⟩
    |false=>
     cases h4:cgS f r zs bl ca a b 8 with
     |true=>exact⟨8,by simp,by simp,h4⟩
     |false=>rw[h0,h1,h2,h3,h4]at h;simp at h
theorem OH{f r:Int}{zs:List Int}{bl:Bool}{ca a b pr:Int}(hbd:aC f r zs=true)(hcs:cJ f r zs ca=true)(h:(!decide (cgL f r zs bl ca a b pr=0))=true):zs.length=64/\0<=sqW (cgL f r zs bl ca a b pr) 2/\sqW (cgL f r zs bl ca a b pr) 2<64/\0<=sqW (cgL f r zs bl ca a b pr) 3/\sqW (cgL f r zs bl ca a b pr) 3<64:=by
 obtain⟨bit,hb,he,hs⟩:=NT h
 simp only[cgS,Bool.and_eq_true]at hs
 obtain⟨rfl,rfl⟩:=CQ (vi hcs hb hs.1.1.1.1)
 refine⟨rN hbd rfl,?_⟩
 rw[he]
 obtain⟨s1,s2,s3,s4,s5,s6,s7,s8⟩:=sqs
 rcases hb with rfl|rfl|rfl|rfl
 ·rw[s1,s2];decide
 ·rw[s3,s4];decide
 ·rw[s5,s6];decide
 ·rw[s7,s8];decide
def zW:CF
 |[.sl 0 0 len none,.int .i64 n],[.ints false .i64 zs]=>some (decide (len=zs.length)&&decide (zs.length<=1000000),.bool (hasL n zs),[])
 |_,_=>none
theorem tI:CtOk (GGx kCa kDb) PP (143,zW):=by
 refine aD Tryz.func143 (by kernel_rfl) rfl fun a0 h0 c0 v0 N0 e hc=>?_
 unfold zW at e
 split at e
 ·rename_i len n zs
  cases e
  have hE:=aB (kCa:=kCa) (kDb:=kDb) (cts:=[]) (inl:=[]) trivial trivial
  refine ak hE 2 Tryz.func143 rfl rfl ?_
  simp only[Bool.and_eq_true,decide_eq_true_eq]at hc
  obtain⟨rfl,hc2⟩:=hc
  refine cx hE 2 (fun i (_:Unit)=>([(0,.sl 0 0 zs.length none),(1,I n),(5,I i)],[.ints false .i64 zs])) zs.length (fun j _=>hasL n (zs.drop j)=hasL n zs) () (by omega) (Ent.ren [0] [0,1,5] rfl rfl rfl) rfl ?_
  intro j i _ hij hj hz
  refine aq (fun hlt=>?_) (fun hlt=>?_)
  ·have hlt':j<zs.length:=by simp at hlt;omega
   rw[vL hlt',show j=i.toNat by omega]at hz
   refine ae (by simp;omega) ?_
   repeat (first|refine ah ?_|refine sat_nd ?_)
   refine aq (fun hon=>?_) (fun hon=>?_)
   ·have hon:decide (zs.getD i.toNat 0=n)=true:=hon
    rw[hon]at hz
    exact ag (ag (ai (.inr rfl) rfl rfl rfl (by rw[<-hz];rfl)))
   ·have hon:decide (zs.getD i.toNat 0=n)=false:=hon
    rw[hon]at hz
    exact ag ⟨hlt',(),by rw[<-hz,show i.toNat=j by omega];rfl,Ent.ren [0] [0,1,5] rfl rfl rfl⟩
  ·obtain rfl:j=zs.length:=by simp at hlt;omega
   rw[List.drop_length]at hz
   exact ag (ag (ai (.inr rfl) rfl rfl rfl (by rw[<-hz];rfl)))
 ·cases e
def mc:CF
 |[.agg [.int .i64 f,.int .i64 r,.sl 0 0 len none,.bool bl,.int .u8 ca,.int .i64 pa,.int .i64 ha,.int .i64 fu],.agg [.int .i64 a,.int .i64 b,.int .i8 pr]],[.ints false .i8 zs]=>some (decide (len=zs.length)&&decide (zs.length<=64)&&(aC f r zs&&cJ f r zs ca&&aj f r a&&aj f r b),psV 1 (afP ⟨f,r,zs,bl,ca,pa,ha,fu⟩ ⟨a,b,pr⟩),[.ints true .i8 (afZ f r zs bl ca pa a b pr)])
 |_,_=>none
theorem oo:CtOk (GGx kCa kDb) PP (89,mc):=by
 refine aD Tryz.func89 (by kernel_rfl) rfl fun a0 h0 c0 v0 N0 e hc=>?_
 unfold mc at e
 split at e
 ·rename_i f r len bl ca pa ha fu a b pr zs
  cases e
  have hE:=cutE (aB (kCa:=kCa) (kDb:=kDb) (cts:=[(15,sI),(138,FK),(140,vw),(139,mC),(141,vr),(142,gD),(143,zW),(39,dH),(38,fx),(86,gl)]) (inl:=[]) ⟨pQ,Et,oG,nY,mZ,gO,tI,bZ,dZ,eV,trivial⟩ trivial)
  refine uV hE 2 Tryz.func89 rfl rfl ?_
  simp only[Bool.and_eq_true,decide_eq_true_eq]at hc
  obtain⟨⟨rfl,hc2⟩,⟨⟨hbd,hcs⟩,hva⟩,hvb⟩:=hc
  have hvs:=(bg hbd).1
  obtain⟨ha0,ha1⟩:=(bN hbd).1 hva
  obtain⟨hb0,hb1⟩:=(bN hbd).1 hvb
  have hf0:(!decide (f=0))=true:=by have:=de hvs;simp;omega
  have hf1:∀ g:Bool,(!g||!decide (f=0))=true:=fun g=>by rw[hf0];simp
  have hbt:aC f r (tk zs)=true:=by rw[aF];exact hbd
  have hct:cJ f r (tk zs) ca=true:=by rw[aF];exact hcs
  have hv4:(aC f r (tk zs)&&cJ f r (tk zs) ca&&aj f r a&&aj f r b)=true:=by rw[hbt,hct,hva,hvb];rfl
  repeat (first|(first|refine ah ?_|refine sat_nd ?_)|refine ae (aE ha0 ha1) ?_|refine ae (aE hb0 hb1) ?_|refine ae (bD ha0 ha1) ?_|refine ae (bD hb0 hb1) ?_|refine ae hf0 ?_|refine ae (hf1 _) ?_|refine ae (aG hc2 rfl) ?_|refine ae (aI hc2 rfl hv4) ?_)
  refine bE hE 2 (fun e tm hp=>e=.normal/\∃ (pc cp:Int) (l:List Int) (len:Nat),pc=zs.getD a.toNat 0/\cp=capL f r zs pa a b/\l=afZ1 f r zs pa a b/\len=zs.length/\tm=[(2,.ptr 1 0 0),(3,.ptr 2 0 0),(4,.ptr 3 0 0),(5,.ptr 5 0 0),(6,.int .i8 pc),(7,I cp)]/\hp=[.ints false .i8 zs,.cells true [I f,I r,.sl 0 0 zs.length none,Bb bl,.int .u8 ca,I pa,I ha,I fu],.cells true [I a,I b,.int .i8 pr],.cells true [I 0,I 0,.nils,.lit false,.int .u8 0,I 0,I 0,I 0],.ints true .i8 l,.cells true [I f,I r,.sl 4 0 len none,Bb bl,.int .u8 ca,I pa,I ha,I fu]]) rfl (fun h=>?_) (fun h=>?_) ?_
  ·have h:decide (0<=capL f r (tk zs) pa a b)=true:=h
   rw[aF]at h
   have hx:=NY hbd hb1 (of_decide_eq_true h)
   have hx':(decide (0<=capL f r (tk zs) pa a b)&&decide (capL f r (tk zs) pa a b<(tk zs).length))=true:=by rw[aF,h];simpa using hx
   repeat (first|(first|refine ah ?_|refine sat_nd ?_)|refine ae hx' ?_)
   exact ag ⟨_,_,Ent.ren [0,1,2,3,4,5] [2,3,4,5,6,7] rfl rfl rfl,rfl,(tk zs).getD a.toNat 0,capL f r (tk zs) pa a b,(tk zs).set (capL f r (tk zs) pa a b).toNat 0,(tk zs).length,by rw[aF],by rw[aF],by rw[aF,afZ1,h];rfl,by rw[aF],rfl,rfl⟩
  ·have h:decide (0<=capL f r (tk zs) pa a b)=false:=h
   rw[aF]at h
   exact ag ⟨_,_,Ent.ren [0,1,2,3,4,5] [2,3,4,5,6,7] rfl rfl rfl,rfl,(tk zs).getD a.toNat 0,capL f r (tk zs) pa a b,tk zs,(tk zs).length,by rw[aF],by rw[aF],by rw[aF,afZ1,h];rfl,by rw[aF],rfl,rfl⟩
  rintro e tm hp ⟨rfl,pc,cp,l,len,hpc,hcp,hl,hlen,rfl,rfl⟩
  have ha1':=ha1
  have hb1':=hb1
  rw[<-hlen]at ha1' hb1'
  repeat (first|(first|refine ah ?_|refine sat_nd ?_)|refine ae (aE ha0 ha1) ?_|refine ae (aE hb0 hb1) ?_|refine ae (bD ha0 ha1) ?_|refine ae (bD hb0 hb1) ?_|refine ae hf0 ?_|refine ae (hf1 _) ?_|refine ae (aG hc2 rfl) ?_|refine ae (aI hc2 rfl hv4) ?_|refine ae (bk ha0 ha1') ?_|refine ae (bk hb0 hb1') ?_)
  refine bE hE 2 (fun e tm hp=>e=.normal/\∃ l2:List Int,l2=afZ3 f r zs pa a b pr/\tm=[(2,.ptr 1 0 0),(3,.ptr 2 0 0),(4,.ptr 3 0 0),(5,.ptr 5 0 0),(6,.int .i8 pc),(7,I cp)]/\hp=[.ints false .i8 zs,.cells true [I f,I r,.sl 0 0 zs.length none,Bb bl,.int .u8 ca,I pa,I ha,I fu],.cells true [I a,I b,.int .i8 pr],.cells true [I 0,I 0,.nils,.lit false,.int .u8 0,I 0,I 0,I 0],.ints true .i8 l2,.cells true [I f,I r,.sl 4 0 len none,Bb bl,.int .u8 ca,I pa,I ha,I fu]]) rfl (fun h=>?_) (fun h=>?_) ?_
  ·have h:(!decide (pr=0))=true:=h
   repeat (first|(first|refine ah ?_|refine sat_nd ?_)|refine ae (aE ha0 ha1) ?_|refine ae (aE hb0 hb1) ?_|refine ae (bD ha0 ha1) ?_|refine ae (bD hb0 hb1) ?_|refine ae hf0 ?_|refine ae (hf1 _) ?_|refine ae (aG hc2 rfl) ?_|refine ae (aI hc2 rfl hv4) ?_|refine ae (bk ha0 ha1') ?_|refine ae (bk hb0 hb1') ?_)
   exact ag ⟨_,_,Ent.ren [0,1,2,3,4,5] [2,3,4,5,6,7] rfl rfl rfl,rfl,_,by rw[afZ3,afZ2,<-hl,<-hpc,h];rfl,rfl,rfl⟩
  ·have h:(!decide (pr=0))=false:=h
   exact ag ⟨_,_,Ent.ren [0,1,2,3,4,5] [2,3,4,5,6,7] rfl rfl rfl,rfl,_,by rw[afZ3,afZ2,<-hl,<-hpc,h];rfl,rfl,rfl⟩
  clear hl
  rintro e tm hp ⟨rfl,l,hl,rfl,rfl⟩
  repeat (first|(first|refine ah ?_|refine sat_nd ?_)|refine ae (aE ha0 ha1) ?_|refine ae (aE hb0 hb1) ?_|refine ae (bD ha0 ha1) ?_|refine ae (bD hb0 hb1) ?_|refine ae hf0 ?_|refine ae (hf1 _) ?_|refine ae (aG hc2 rfl) ?_|refine ae (aI hc2 rfl hv4) ?_|refine ae (bk ha0 ha1') ?_|refine ae (bk hb0 hb1') ?_)
  refine bE hE 2 (fun e tm hp=>e=.normal/\∃ l2:List Int,l2=afZ f r zs bl ca pa a b pr/\tm=[(2,.ptr 1 0 0),(3,.ptr 2 0 0),(4,.ptr 3 0 0),(5,.ptr 5 0 0),(6,.int .i8 pc),(7,I cp)]/\hp=[.ints false .i8 zs,.cells true [I f,I r,.sl 0 0 zs.length none,Bb bl,.int .u8 ca,I pa,I ha,I fu],.cells true [I a,I b,.int .i8 pr],.cells true [I 0,I 0,.nils,.lit false,.int .u8 0,I 0,I 0,I 0],.ints true .i8 l2,.cells true [I f,I r,.sl 4 0 len none,Bb bl,.int .u8 ca,I pa,I ha,I fu]]) rfl (fun h=>?_) (fun h=>?_) ?_
  ·have h:(!decide (cgL f r (tk zs) bl ca a b pr=0))=true:=h
   rw[aF]at h
   obtain⟨h64,w1,w2,w3,w4⟩:=OH hbd hcs h
   have n2:(decide (0<=sqW (cgL f r (tk zs) bl ca a b pr) 2)&&decide (sqW (cgL f r (tk zs) bl ca a b pr) 2<len))=true:=by rw[aF,hlen,h64];simp[w1];omega
   have n3:(decide (0<=sqW (cgL f r (tk zs) bl ca a b pr) 3)&&decide (sqW (cgL f r (tk zs) bl ca a b pr) 3<len))=true:=by rw[aF,hlen,h64];simp[w3];omega
   repeat (first|refine ae n2 ?_|refine ae n3 ?_|(first|refine ah ?_|refine sat_nd ?_))
   exact ag ⟨_,_,Ent.ren [0,1,2,3,4,5] [2,3,4,5,6,7] rfl rfl rfl,rfl,(l.set (sqW (cgL f r (tk zs) bl ca a b pr) 3).toNat (l.getD (sqW (cgL f r (tk zs) bl ca a b pr) 2).toNat 0)).set (sqW (cgL f r (tk zs) bl ca a b pr) 2).toNat 0,by rw[aF,afZ,afZ4,<-hl,h];rfl,rfl,rfl⟩
  ·have h:(!decide (cgL f r (tk zs) bl ca a b pr=0))=false:=h
   rw[aF]at h
   exact ag ⟨_,_,Ent.ren [0,1,2,3,4,5] [2,3,4,5,6,7] rfl rfl rfl,rfl,_,by rw[afZ,afZ4,<-hl,h];rfl,rfl,rfl⟩
  clear hl
  rintro e tm hp ⟨rfl,l,hl,rfl,rfl⟩
  repeat (first|(first|refine ah ?_|refine sat_nd ?_)|refine ae (aE ha0 ha1) ?_|refine ae (aE hb0 hb1) ?_|refine ae (bD ha0 ha1) ?_|refine ae (bD hb0 hb1) ?_|refine ae hf0 ?_|refine ae (hf1 _) ?_|refine ae (aG hc2 rfl) ?_|refine ae (aI hc2 rfl hv4) ?_|refine ae (bk ha0 ha1') ?_|refine ae (bk hb0 hb1') ?_)
  refine dB hE 2 5 ?_
  refine rnd ?_
  refine bG hE 2 rfl (fun _=>?_) (fun h=>absurd h (by decide))
  repeat (first|(first|refine ah ?_|refine sat_nd ?_)|refine ae (aE ha0 ha1) ?_|refine ae (aE hb0 hb1) ?_|refine ae (bD ha0 ha1) ?_|refine ae (bD hb0 hb1) ?_|refine ae hf0 ?_|refine ae (hf1 _) ?_|refine ae (aG hc2 rfl) ?_|refine ae (aI hc2 rfl hv4) ?_|refine ae (bk ha0 ha1') ?_|refine ae (bk hb0 hb1') ?_)
  refine bE hE 2 (fun e tm hp=>e=.normal/\∃ c2:Int,c2=afS ca a b 1/\tm=[(2,.ptr 1 0 0),(3,.ptr 2 0 0),(4,.ptr 3 0 0),(5,.ptr 5 0 0),(6,.int .i8 pc),(7,I cp),(86,.sl 6 0 4 none),(87,I 4),(88,I 0)]/\hp=[.ints false .i8 zs,.cells true [I f,I r,.sl 0 0 zs.length none,Bb bl,.int .u8 ca,I pa,I ha,I fu],.cells true [I a,I b,.int .i8 pr],.cells true [I 0,I 0,.nils,.lit false,.int .u8 0,I 0,I 0,I 0],.ints true .i8 l,.cells true [I f,I r,.sl 4 0 len none,Bb bl,.int .u8 c2,I pa,I ha,I fu],.ints true .u8 [1,2,4,8]]) rfl (fun h=>?_) (fun h=>?_) ?_
  ·have h:(decide ((u8.wrap (ca.tdiv 1)).tmod 2=1)&&(hasL a [sqW 1 0,sqW 1 2]||hasL b [sqW 1 0,sqW 1 2]))=true:=h
   exact ag ⟨_,_,Ent.ren [0,1,2,3,4,5,6] [2,3,4,5,6,7,86,87,88] rfl rfl rfl,rfl,_,by rw[afS,h];rfl,rfl,rfl⟩
  ·have h:(decide ((u8.wrap (ca.tdiv 1)).tmod 2=1)&&(hasL a [sqW 1 0,sqW 1 2]||hasL b [sqW 1 0,sqW 1 2]))=false:=h
   exact ag ⟨_,_,Ent.ren [0,1,2,3,4,5,6] [2,3,4,5,6,7,86,87,88] rfl rfl rfl,rfl,_,by rw[afS,h];rfl,rfl,rfl⟩
  skip
  rintro e tm hp ⟨rfl,c,hcc,rfl,rfl⟩
  refine ag ⟨[(2,.ptr 1 0 0),(3,.ptr 2 0 0),(4,.ptr 3 0 0),(5,.ptr 5 0 0),(6,.int .i8 pc),(7,I cp),(86,.sl 6 0 4 none),(87,I 4),(88,I 1)],[.ints false .i8 zs,.cells true [I f,I r,.sl 0 0 zs.length none,Bb bl,.int .u8 ca,I pa,I ha,I fu],.cells true [I a,I b,.int .i8 pr],.cells true [I 0,I 0,.nils,.lit false,.int .u8 0,I 0,I 0,I 0],.ints true .i8 l,.cells true [I f,I r,.sl 4 0 len none,Bb bl,.int .u8 c,I pa,I ha,I fu],.ints true .u8 [1,2,4,8]],Ent.ren [0,1,2,3,4,5,6] [2,3,4,5,6,7,86,87,88] rfl rfl rfl,?_⟩
  refine rnd ?_
  refine bG hE 2 rfl (fun _=>?_) (fun h=>absurd h (by decide))
  repeat (first|(first|refine ah ?_|refine sat_nd ?_)|refine ae (aE ha0 ha1) ?_|refine ae (aE hb0 hb1) ?_|refine ae (bD ha0 ha1) ?_|refine ae (bD hb0 hb1) ?_|refine ae hf0 ?_|refine ae (hf1 _) ?_|refine ae (aG hc2 rfl) ?_|refine ae (aI hc2 rfl hv4) ?_|refine ae (bk ha0 ha1') ?_|refine ae (bk hb0 hb1') ?_)
  refine bE hE 2 (fun e tm hp=>e=.normal/\∃ c2:Int,c2=afS c a b 2/\tm=[(2,.ptr 1 0 0),(3,.ptr 2 0 0),(4,.ptr 3 0 0),(5,.ptr 5 0 0),(6,.int .i8 pc),(7,I cp),(86,.sl 6 0 4 none),(87,I 4),(88,I 1)]/\hp=[.ints false .i8 zs,.cells true [I f,I r,.sl 0 0 zs.length none,Bb bl,.int .u8 ca,I pa,I ha,I fu],.cells true [I a,I b,.int .i8 pr],.cells true [I 0,I 0,.nils,.lit false,.int .u8 0,I 0,I 0,I 0],.ints true .i8 l,.cells true [I f,I r,.sl 4 0 len none,Bb bl,.int .u8 c2,I pa,I ha,I fu],.ints true .u8 [1,2,4,8]]) rfl (fun h=>?_) (fun h=>?_) ?_
  ·have h:(decide ((u8.wrap (c.tdiv 2)).tmod 2=1)&&(hasL a [sqW 2 0,sqW 2 2]||hasL b [sqW 2 0,sqW 2 2]))=true:=h
   exact ag ⟨_,_,Ent.ren [0,1,2,3,4,5,6] [2,3,4,5,6,7,86,87,88] rfl rfl rfl,rfl,_,by rw[afS,h];rfl,rfl,rfl⟩
  ·have h:(decide ((u8.wrap (c.tdiv 2)).tmod 2=1)&&(hasL a [sqW 2 0,sqW 2 2]||hasL b [sqW 2 0,sqW 2 2]))=false:=h
   exact ag ⟨_,_,Ent.ren [0,1,2,3,4,5,6] [2,3,4,5,6,7,86,87,88] rfl rfl rfl,rfl,_,by rw[afS,h];rfl,rfl,rfl⟩
  subst hcc
  rintro e tm hp ⟨rfl,c,hcc,rfl,rfl⟩
  refine ag ⟨[(2,.ptr 1 0 0),(3,.ptr 2 0 0),(4,.ptr 3 0 0),(5,.ptr 5 0 0),(6,.int .i8 pc),(7,I cp),(86,.sl 6 0 4 none),(87,I 4),(88,I 2)],[.ints false .i8 zs,.cells true [I f,I r,.sl 0 0 zs.length none,Bb bl,.int .u8 ca,I pa,I ha,I fu],.cells true [I a,I b,.int .i8 pr],.cells true [I 0,I 0,.nils,.lit false,.int .u8 0,I 0,I 0,I 0],.ints true .i8 l,.cells true [I f,I r,.sl 4 0 len none,Bb bl,.int .u8 c,I pa,I ha,I fu],.ints true .u8 [1,2,4,8]],Ent.ren [0,1,2,3,4,5,6] [2,3,4,5,6,7,86,87,88] rfl rfl rfl,?_⟩
  refine rnd ?_
  refine bG hE 2 rfl (fun _=>?_) (fun h=>absurd h (by decide))
  repeat (first|(first|refine ah ?_|refine sat_nd ?_)|refine ae (aE ha0 ha1) ?_|refine ae (aE hb0 hb1) ?_|refine ae (bD ha0 ha1) ?_|refine ae (bD hb0 hb1) ?_|refine ae hf0 ?_|refine ae (hf1 _) ?_|refine ae (aG hc2 rfl) ?_|refine ae (aI hc2 rfl hv4) ?_|refine ae (bk ha0 ha1') ?_|refine ae (bk hb0 hb1') ?_)
  refine bE hE 2 (fun e tm hp=>e=.normal/\∃ c2:Int,c2=afS c a b 4/\tm=[(2,.ptr 1 0 0),(3,.ptr 2 0 0),(4,.ptr 3 0 0),(5,.ptr 5 0 0),(6,.int .i8 pc),(7,I cp),(86,.sl 6 0 4 none),(87,I 4),(88,I 2)]/\hp=[.ints false .i8 zs,.cells true [I f,I r,.sl 0 0 zs.length none,Bb bl,.int .u8 ca,I pa,I ha,I fu],.cells true [I a,I b,.int .i8 pr],.cells true [I 0,I 0,.nils,.lit false,.int .u8 0,I 0,I 0,I 0],.ints true .i8 l,.cells true [I f,I r,.sl 4 0 len none,Bb bl,.int .u8 c2,I pa,I ha,I fu],.ints true .u8 [1,2,4,8]]) rfl (fun h=>?_) (fun h=>?_) ?_
  ·have h:(decide ((u8.wrap (c.tdiv 4)).tmod 2=1)&&(hasL a [sqW 4 0,sqW 4 2]||hasL b [sqW 4 0,sqW 4 2]))=true:=h
   exact ag ⟨_,_,Ent.ren [0,1,2,3,4,5,6] [2,3,4,5,6,7,86,87,88] rfl rfl rfl,rfl,_,by rw[afS,h];rfl,rfl,rfl⟩
  ·have h:(decide ((u8.wrap (c.tdiv 4)).tmod 2=1)&&(hasL a [sqW 4 0,sqW 4 2]||hasL b [sqW 4 0,sqW 4 2]))=false:=h
   exact ag ⟨_,_,Ent.ren [0,1,2,3,4,5,6] [2,3,4,5,6,7,86,87,88] rfl rfl rfl,rfl,_,by rw[afS,h];rfl,rfl,rfl⟩
  subst hcc
  rintro e tm hp ⟨rfl,c,hcc,rfl,rfl⟩
  refine ag ⟨[(2,.ptr 1 0 0),(3,.ptr 2 0 0),(4,.ptr 3 0 0),(5,.ptr 5 0 0),(6,.int .i8 pc),(7,I cp),(86,.sl 6 0 4 none),(87,I 4),(88,I 3)],[.ints false .i8 zs,.cells true [I f,I r,.sl 0 0 zs.length none,Bb bl,.int .u8 ca,I pa,I ha,I fu],.cells true [I a,I b,.int .i8 pr],.cells true [I 0,I 0,.nils,.lit false,.int .u8 0,I 0,I 0,I 0],.ints true .i8 l,.cells true [I f,I r,.sl 4 0 len none,Bb bl,.int .u8 c,I pa,I ha,I fu],.ints true .u8 [1,2,4,8]],Ent.ren [0,1,2,3,4,5,6] [2,3,4,5,6,7,86,87,88] rfl rfl rfl,?_⟩
  refine rnd ?_
  refine bG hE 2 rfl (fun _=>?_) (fun h=>absurd h (by decide))
  repeat (first|(first|refine ah ?_|refine sat_nd ?_)|refine ae (aE ha0 ha1) ?_|refine ae (aE hb0 hb1) ?_|refine ae (bD ha0 ha1) ?_|refine ae (bD hb0 hb1) ?_|refine ae hf0 ?_|refine ae (hf1 _) ?_|refine ae (aG hc2 rfl) ?_|refine ae (aI hc2 rfl hv4) ?_|refine ae (bk ha0 ha1') ?_|refine ae (bk hb0 hb1') ?_)
  refine bE hE 2 (fun e tm hp=>e=.normal/\∃ c2:Int,c2=afS c a b 8/\tm=[(2,.ptr 1 0 0),(3,.ptr 2 0 0),(4,.ptr 3 0 0),(5,.ptr 5 0 0),(6,.int .i8 pc),(7,I cp),(86,.sl 6 0 4 none),(87,I 4),(88,I 3)]/\hp=[.ints false .i8 zs,.cells true [I f,I r,.sl 0 0 zs.length none,Bb bl,.int .u8 ca,I pa,I ha,I fu],.cells true [I a,I b,.int .i8 pr],.cells true [I 0,I 0,.nils,.lit false,.int .u8 0,I 0,I 0,I 0],.ints true .i8 l,.cells true [I f,I r,.sl 4 0 len none,Bb bl,.int .u8 c2,I pa,I ha,I fu],.ints true .u8 [1,2,4,8]]) rfl (fun h=>?_) (fun h=>?_) ?_
  ·have h:(decide ((u8.wrap (c.tdiv 8)).tmod 2=1)&&(hasL a [sqW 8 0,sqW 8 2]||hasL b [sqW 8 0,sqW 8 2]))=true:=h
   exact ag ⟨_,_,Ent.ren [0,1,2,3,4,5,6] [2,3,4,5,6,7,86,87,88] rfl rfl rfl,rfl,_,by rw[afS,h];rfl,rfl,rfl⟩
  ·have h:(decide ((u8.wrap (c.tdiv 8)).tmod 2=1)&&(hasL a [sqW 8 0,sqW 8 2]||hasL b [sqW 8 0,sqW 8 2]))=false:=h
   exact ag ⟨_,_,Ent.ren [0,1,2,3,4,5,6] [2,3,4,5,6,7,86,87,88] rfl rfl rfl,rfl,_,by rw[afS,h];rfl,rfl,rfl⟩
  subst hcc
  rintro e tm hp ⟨rfl,c,hcc,rfl,rfl⟩
  refine ag ⟨[(2,.ptr 1 0 0),(3,.ptr 2 0 0),(4,.ptr 3 0 0),(5,.ptr 5 0 0),(6,.int .i8 pc),(7,I cp),(86,.sl 6 0 4 none),(87,I 4),(88,I 4)],[.ints false .i8 zs,.cells true [I f,I r,.sl 0 0 zs.length none,Bb bl,.int .u8 ca,I pa,I ha,I fu],.cells true [I a,I b,.int .i8 pr],.cells true [I 0,I 0,.nils,.lit false,.int .u8 0,I 0,I 0,I 0],.ints true .i8 l,.cells true [I f,I r,.sl 4 0 len none,Bb bl,.int .u8 c,I pa,I ha,I fu],.ints true .u8 [1,2,4,8]],Ent.ren [0,1,2,3,4,5,6] [2,3,4,5,6,7,86,87,88] rfl rfl rfl,?_⟩
  refine rnd ?_
  refine bG hE 2 rfl (fun h=>absurd h (by decide)) (fun _=>?_)
  refine ag ?_
  have hcc:c=afC ca a b:=hcc
  repeat (first|(first|refine ah ?_|refine sat_nd ?_)|refine ae (aE ha0 ha1) ?_|refine ae (aE hb0 hb1) ?_|refine ae (bD ha0 ha1) ?_|refine ae (bD hb0 hb1) ?_|refine ae hf0 ?_|refine ae (hf1 _) ?_|refine ae (aG hc2 rfl) ?_|refine ae (aI hc2 rfl hv4) ?_|refine ae (bk ha0 ha1') ?_|refine ae (bk hb0 hb1') ?_)
  refine bE hE 2 (fun e tm hp=>e=.normal/\∃ pa2:Int,pa2=afPa f r zs a b/\tm=[(2,.ptr 1 0 0),(3,.ptr 2 0 0),(4,.ptr 3 0 0),(5,.ptr 5 0 0),(6,.int .i8 pc),(7,I cp)]/\hp=[.ints false .i8 zs,.cells true [I f,I r,.sl 0 0 zs.length none,Bb bl,.int .u8 ca,I pa,I ha,I fu],.cells true [I a,I b,.int .i8 pr],.cells true [I 0,I 0,.nils,.lit false,.int .u8 0,I 0,I 0,I 0],.ints true .i8 l,.cells true [I f,I r,.sl 4 0 len none,Bb bl,.int .u8 c,I pa2,I ha,I fu]]) rfl (fun h=>?_) (fun h=>?_) ?_
  ·have h:(decide (aW pc=1)&&(decide (i64.wrap (i64.wrap (a.tdiv f)-i64.wrap (b.tdiv f))=2)||decide (i64.wrap (i64.wrap (b.tdiv f)-i64.wrap (a.tdiv f))=2)))=true:=h
   repeat (first|(first|refine ah ?_|refine sat_nd ?_)|refine ae (aE ha0 ha1) ?_|refine ae (aE hb0 hb1) ?_|refine ae (bD ha0 ha1) ?_|refine ae (bD hb0 hb1) ?_|refine ae hf0 ?_|refine ae (hf1 _) ?_|refine ae (aG hc2 rfl) ?_|refine ae (aI hc2 rfl hv4) ?_|refine ae (bk ha0 ha1') ?_|refine ae (bk hb0 hb1') ?_)
   exact ag ⟨_,_,Ent.ren [0,1,2,3,4,5] [2,3,4,5,6,7] rfl rfl rfl,rfl,_,by rw[afPa,<-hpc,h];rfl,rfl,rfl⟩
  ·have h:(decide (aW pc=1)&&(decide (i64.wrap (i64.wrap (a.tdiv f)-i64.wrap (b.tdiv f))=2)||decide (i64.wrap (i64.wrap (b.tdiv f)-i64.wrap (a.tdiv f))=2)))=false:=h
   exact ag ⟨_,_,Ent.ren [0,1,2,3,4,5] [2,3,4,5,6,7] rfl rfl rfl,rfl,_,by rw[afPa,<-hpc,h];rfl,rfl,rfl⟩
  rintro e tm hp ⟨rfl,pa2,hpa2,rfl,rfl⟩
  repeat (first|(first|refine ah ?_|refine sat_nd ?_)|refine ae (aE ha0 ha1) ?_|refine ae (aE hb0 hb1) ?_|refine ae (bD ha0 ha1) ?_|refine ae (bD hb0 hb1) ?_|refine ae hf0 ?_|refine ae (hf1 _) ?_|refine ae (aG hc2 rfl) ?_|refine ae (aI hc2 rfl hv4) ?_|refine ae (bk ha0 ha1') ?_|refine ae (bk hb0 hb1') ?_)
  refine bE hE 2 (fun e tm hp=>e=.normal/\∃ ha2:Int,ha2=afHa f r zs pa ha a b/\tm=[(2,.ptr 1 0 0),(3,.ptr 2 0 0),(4,.ptr 3 0 0),(5,.ptr 5 0 0),(6,.int .i8 pc),(7,I cp)]/\hp=[.ints false .i8 zs,.cells true [I f,I r,.sl 0 0 zs.length none,Bb bl,.int .u8 ca,I pa,I ha,I fu],.cells true [I a,I b,.int .i8 pr],.cells true [I 0,I 0,.nils,.lit false,.int .u8 0,I 0,I 0,I 0],.ints true .i8 l,.cells true [I f,I r,.sl 4 0 len none,Bb bl,.int .u8 c,I pa2,I ha2,I fu]]) rfl (fun h=>?_) (fun h=>?_) ?_
  ·have h:(decide (aW pc=1)||decide (0<=cp))=true:=h
   exact ag ⟨_,_,Ent.ren [0,1,2,3,4,5] [2,3,4,5,6,7] rfl rfl rfl,rfl,_,by rw[afHa,<-hpc,<-hcp,h];rfl,rfl,rfl⟩
  ·have h:(decide (aW pc=1)||decide (0<=cp))=false:=h
   exact ag ⟨_,_,Ent.ren [0,1,2,3,4,5] [2,3,4,5,6,7] rfl rfl rfl,rfl,_,by rw[afHa,<-hpc,<-hcp,h];rfl,rfl,rfl⟩
  rintro e tm hp ⟨rfl,ha2,hha2,rfl,rfl⟩
  repeat (first|(first|refine ah ?_|refine sat_nd ?_)|refine ae (aE ha0 ha1) ?_|refine ae (aE hb0 hb1) ?_|refine ae (bD ha0 ha1) ?_|refine ae (bD hb0 hb1) ?_|refine ae hf0 ?_|refine ae (hf1 _) ?_|refine ae (aG hc2 rfl) ?_|refine ae (aI hc2 rfl hv4) ?_|refine ae (bk ha0 ha1') ?_|refine ae (bk hb0 hb1') ?_)
  refine bE hE 2 (fun e tm hp=>e=.normal/\∃ fu2:Int,fu2=fuR bl fu/\tm=[(2,.ptr 1 0 0),(3,.ptr 2 0 0),(4,.ptr 3 0 0),(5,.ptr 5 0 0),(6,.int .i8 pc),(7,I cp)]/\hp=[.ints false .i8 zs,.cells true [I f,I r,.sl 0 0 zs.length none,Bb bl,.int .u8 ca,I pa,I ha,I fu],.cells true [I a,I b,.int .i8 pr],.cells true [I 0,I 0,.nils,.lit false,.int .u8 0,I 0,I 0,I 0],.ints true .i8 l,.cells true [I f,I r,.sl 4 0 len none,Bb bl,.int .u8 c,I pa2,I ha2,I fu2]]) rfl (fun h=>?_) (fun h=>?_) ?_
  ·have h:bl=true:=h
   exact ag ⟨_,_,Ent.ren [0,1,2,3,4,5] [2,3,4,5,6,7] rfl rfl rfl,rfl,_,by rw[fuR,h];rfl,rfl,rfl⟩
  ·have h:bl=false:=h
   exact ag ⟨_,_,Ent.ren [0,1,2,3,4,5] [2,3,4,5,6,7] rfl rfl rfl,rfl,_,by rw[fuR,h];rfl,rfl,rfl⟩
  rintro e tm hp ⟨rfl,fu2,hfu2,rfl,rfl⟩
  repeat (first|(first|refine ah ?_|refine sat_nd ?_)|refine ae (aE ha0 ha1) ?_|refine ae (aE hb0 hb1) ?_|refine ae (bD ha0 ha1) ?_|refine ae (bD hb0 hb1) ?_|refine ae hf0 ?_|refine ae (hf1 _) ?_|refine ae (aG hc2 rfl) ?_|refine ae (aI hc2 rfl hv4) ?_|refine ae (bk ha0 ha1') ?_|refine ae (bk hb0 hb1') ?_)
  refine ag (JZ (bW 4 (.inr rfl) rfl rfl rfl rfl (by rw[<-hl];rfl) ?_))
  show V.agg [I f,I r,.sl 1 0 len none,Bb (!bl),.int .u8 c,I pa2,I ha2,I fu2]=V.agg [I f,I r,.sl 1 0 (afZ f r zs bl ca pa a b pr).length none,Bb (!bl),.int .u8 (afC ca a b),I (afPa f r zs a b),I (afHa f r zs pa ha a b),I (fuR bl fu)]
  rw[hcc,hpa2,hha2,hfu2,hlen,wJ]
 ·cases e
end
end Go.Ab
namespace Go.Ab
open Go.Proofs
section
variable{kCa kDb:Bool}
theorem ct{l:List Int}(h:l.length<=64){n:Nat}(hn:n=l.length):(decide (n=((l.drop 0).take n).length)&&decide (((l.drop 0).take n).length<=1000000))=true:=by subst hn;simp;omega
def KJ:CF
 |[.agg [.int .i64 f,.int .i64 r,.sl 0 0 len none,.bool bl,.int .u8 ca,.int .i64 pa,.int .i64 _ha,.int .i64 _fu],.agg [.int .i64 a,.int .i64 b,.int .i8 pr]],[.ints false .i8 zs]=>some (decide (len=zs.length)&&decide (zs.length<=64)&&(aC f r zs&&cJ f r zs ca&&aj f r a&&aj f r b),.bool (pnL f r zs bl pa a b pr),[])
 |_,_=>none
theorem HD:CtOk (GGx kCa kDb) PP (184,KJ):=by
 refine aD Tryz.func184 (by kernel_rfl) rfl fun a0 h0 c0 v0 N0 e hc=>?_
 unfold KJ at e
 split at e
 ·rename_i f r len bl ca pa ha fu a b pr zs
  cases e
  have hE:=aB (kCa:=kCa) (kDb:=kDb) (cts:=[(29,uh),(135,DQ),(39,dH),(40,sL),(190,lg),(161,jA),(143,zW)]) (inl:=[]) ⟨hU,sP,bZ,pP,rq,lR,tI,trivial⟩ trivial
  refine ak hE 2 Tryz.func184 rfl rfl ?_
  simp only[Bool.and_eq_true,decide_eq_true_eq]at hc
  obtain⟨⟨rfl,hc2⟩,⟨⟨hbd,hcs⟩,hva⟩,hvb⟩:=hc
  have hvs:=(bg hbd).1
  obtain⟨ha0,ha1⟩:=(bN hbd).1 hva
  obtain⟨hb0,hb1⟩:=(bN hbd).1 hvb
  have hf0:(!decide (f=0))=true:=by have:=de hvs;simp;omega
  have hf1:∀ g:Bool,(!g||!decide (f=0))=true:=fun g=>by rw[hf0];simp
  have hbt:aC f r (tk zs)=true:=by rw[aF];exact hbd
  have hct:cJ f r (tk zs) ca=true:=by rw[aF];exact hcs
  have hv4:(aC f r (tk zs)&&cJ f r (tk zs) ca&&aj f r a&&aj f r b)=true:=by rw[hbt,hct,hva,hvb];rfl
  have hv5:(aC f r (tk zs)&&cJ f r (tk zs) ca&&(aj f r a&&aj f r b))=true:=by rw[hbt,hct,hva,hvb];rfl
  have hs1:(cB (cj f r bl a (occL (tk zs))) id ((f*r).toNat)).length<=64:=by have:=dk (cj f r bl a (occL (tk zs))) id ((f*r).toNat);have:=(bg hbd).2;omega
  have hs2:(cB (dK f bl a) id ((f*r).toNat)).length<=64:=by have:=dk (dK f bl a) id ((f*r).toNat);have:=(bg hbd).2;omega
  repeat (first|(first|refine ah ?_|refine sat_nd ?_)|refine ae (bQ ha0 ha1) ?_|refine ae (bQ hb0 hb1) ?_|refine ae (bO ha0 ha1) ?_|refine ae (bO hb0 hb1) ?_|refine ae hvs ?_|refine ae hf0 ?_|refine ae (hf1 _) ?_|refine ae (aG hc2 rfl) ?_|refine ae (cm hc2 rfl) ?_|refine ae (aI hc2 rfl hv4) ?_|refine ae (ct hs1 rfl) ?_|refine ae (ct hs2 rfl) ?_)
  refine aq (fun h=>?_) (fun h=>?_)
  ·have h:(!(decide (IntKind.i64.wrap (b.tdiv f)=fa r bl)==!decide (pr=0)))=true:=h
   exact ag (ai (.inr rfl) rfl rfl rfl (by rw[pnL,h];rfl))
  have h:(!(decide (IntKind.i64.wrap (b.tdiv f)=fa r bl)==!decide (pr=0)))=false:=h
  repeat (first|(first|refine ah ?_|refine sat_nd ?_)|refine ae (bQ ha0 ha1) ?_|refine ae (bQ hb0 hb1) ?_|refine ae (bO ha0 ha1) ?_|refine ae (bO hb0 hb1) ?_|refine ae hvs ?_|refine ae hf0 ?_|refine ae (hf1 _) ?_|refine ae (aG hc2 rfl) ?_|refine ae (cm hc2 rfl) ?_|refine ae (aI hc2 rfl hv4) ?_|refine ae (ct hs1 rfl) ?_|refine ae (ct hs2 rfl) ?_)
  refine aq (fun h2=>?_) (fun h2=>?_)
  ·have h2:hasL b (tk (cB (cj f r bl a (occL (tk zs))) id ((f*r).toNat)))=true:=h2
   rw[aF,aF]at h2
   exact ag (ai (.inr rfl) rfl rfl rfl (by rw[pnL,h,h2];rfl))
  have h2:hasL b (tk (cB (cj f r bl a (occL (tk zs))) id ((f*r).toNat)))=false:=h2
  rw[aF,aF]at h2
  repeat (first|(first|refine ah ?_|refine sat_nd ?_)|refine ae (bQ ha0 ha1) ?_|refine ae (bQ hb0 hb1) ?_|refine ae (bO ha0 ha1) ?_|refine ae (bO hb0 hb1) ?_|refine ae hvs ?_|refine ae hf0 ?_|refine ae (hf1 _) ?_|refine ae (aG hc2 rfl) ?_|refine ae (cm hc2 rfl) ?_|refine ae (aI hc2 rfl hv4) ?_|refine ae (ct hs1 rfl) ?_|refine ae (ct hs2 rfl) ?_)
  exact ag (ai (.inr rfl) rfl rfl rfl (congrArg V.bool (by
   show (hasL b (tk (cB (dK f bl a) id ((f*r).toNat)))&&(!decide (zs.getD b.toNat 0=0)||decide (b=pa)))=_
   rw[aF,pnL,h,h2];rfl)))
 ·cases e
def KQ:CF
 |[.agg [.int .i64 f,.int .i64 r,.sl 0 0 len none,.bool bl,.int .u8 ca,.int .i64 pa,.int .i64 _ha,.int .i64 _fu],.agg [.int .i64 a,.int .i64 b,.int .i8 pr]],[.ints false .i8 zs]=>some (decide (len=zs.length)&&decide (zs.length<=64)&&(aC f r zs&&cJ f r zs ca&&aj f r a&&aj f r b),.bool (soL f r zs bl ca pa a b pr),[])
 |_,_=>none
theorem GR:CtOk (GGx kCa kDb) PP (166,KQ):=by
 refine aD Tryz.func166 (by kernel_rfl) rfl fun a0 h0 c0 v0 N0 e hc=>?_
 unfold KQ at e
 split at e
 ·rename_i f r len bl ca pa ha fu a b pr zs
  cases e
  have hE:=aB (kCa:=kCa) (kDb:=kDb) (cts:=[(183,CP),(38,fx),(184,KJ),(140,vw),(29,uh),(135,DQ),(162,jO)]) (inl:=[]) ⟨CJ,dZ,HD,oG,hU,sP,lM,trivial⟩ trivial
  refine ak hE 2 Tryz.func166 rfl rfl ?_
  simp only[Bool.and_eq_true,decide_eq_true_eq]at hc
  obtain⟨⟨rfl,hc2⟩,⟨⟨hbd,hcs⟩,hva⟩,hvb⟩:=hc
  have hvs:=(bg hbd).1
  obtain⟨ha0,ha1⟩:=(bN hbd).1 hva
  obtain⟨hb0,hb1⟩:=(bN hbd).1 hvb
  have hf0:(!decide (f=0))=true:=by have:=de hvs;simp;omega
  have hf1:∀ g:Bool,(!g||!decide (f=0))=true:=fun g=>by rw[hf0];simp
  have hbt:aC f r (tk zs)=true:=by rw[aF];exact hbd
  have hct:cJ f r (tk zs) ca=true:=by rw[aF];exact hcs
  have hv4:(aC f r (tk zs)&&cJ f r (tk zs) ca&&aj f r a&&aj f r b)=true:=by rw[hbt,hct,hva,hvb];rfl
  have hv5:(aC f r (tk zs)&&cJ f r (tk zs) ca&&(aj f r a&&aj f r b))=true:=by rw[hbt,hct,hva,hvb];rfl
  have hs1:(cB (cj f r bl a (occL (tk zs))) id ((f*r).toNat)).length<=64:=by have:=dk (cj f r bl a (occL (tk zs))) id ((f*r).toNat);have:=(bg hbd).2;omega
  have hs2:(cB (dK f bl a) id ((f*r).toNat)).length<=64:=by have:=dk (dK f bl a) id ((f*r).toNat);have:=(bg hbd).2;omega
  repeat (first|(first|refine ah ?_|refine sat_nd ?_)|refine ae (bQ ha0 ha1) ?_|refine ae (bQ hb0 hb1) ?_|refine ae (bO ha0 ha1) ?_|refine ae (bO hb0 hb1) ?_|refine ae hvs ?_|refine ae hf0 ?_|refine ae (hf1 _) ?_|refine ae (aG hc2 rfl) ?_|refine ae (cm hc2 rfl) ?_|refine ae (aI hc2 rfl hv4) ?_|refine ae (ct hs1 rfl) ?_|refine ae (ct hs2 rfl) ?_)
  refine aq (fun h=>?_) (fun h=>?_)
  ·have h:ownL (zs.getD b.toNat 0) bl=true:=h
   exact ag (ai (.inr rfl) rfl rfl rfl (by rw[soL,h];rfl))
  have h:ownL (zs.getD b.toNat 0) bl=false:=h
  repeat (first|(first|refine ah ?_|refine sat_nd ?_)|refine ae (bQ ha0 ha1) ?_|refine ae (bQ hb0 hb1) ?_|refine ae (bO ha0 ha1) ?_|refine ae (bO hb0 hb1) ?_|refine ae hvs ?_|refine ae hf0 ?_|refine ae (hf1 _) ?_|refine ae (aG hc2 rfl) ?_|refine ae (cm hc2 rfl) ?_|refine ae (aI hc2 rfl hv4) ?_|refine ae (ct hs1 rfl) ?_|refine ae (ct hs2 rfl) ?_)
  refine aq (fun h2=>?_) (fun h2=>?_)
  ·have h2:decide (aW (zs.getD a.toNat 0)=1)=true:=h2
   repeat (first|(first|refine ah ?_|refine sat_nd ?_)|refine ae (bQ ha0 ha1) ?_|refine ae (bQ hb0 hb1) ?_|refine ae (bO ha0 ha1) ?_|refine ae (bO hb0 hb1) ?_|refine ae hvs ?_|refine ae hf0 ?_|refine ae (hf1 _) ?_|refine ae (aG hc2 rfl) ?_|refine ae (cm hc2 rfl) ?_|refine ae (aI hc2 rfl hv4) ?_|refine ae (ct hs1 rfl) ?_|refine ae (ct hs2 rfl) ?_)
   exact ag (ai (.inr rfl) rfl rfl rfl (congrArg V.bool (by
    show pnL f r (tk zs) bl pa a b pr=_
    rw[aF,soL,h,h2];rfl)))
  have h2:decide (aW (zs.getD a.toNat 0)=1)=false:=h2
  repeat (first|(first|refine ah ?_|refine sat_nd ?_)|refine ae (bQ ha0 ha1) ?_|refine ae (bQ hb0 hb1) ?_|refine ae (bO ha0 ha1) ?_|refine ae (bO hb0 hb1) ?_|refine ae hvs ?_|refine ae hf0 ?_|refine ae (hf1 _) ?_|refine ae (aG hc2 rfl) ?_|refine ae (cm hc2 rfl) ?_|refine ae (aI hc2 rfl hv4) ?_|refine ae (ct hs1 rfl) ?_|refine ae (ct hs2 rfl) ?_)
  refine aq (fun h3=>?_) (fun h3=>?_)
  ·have h3:(!decide (cgL f r (tk zs) bl ca a b pr=0))=true:=h3
   rw[aF]at h3
   exact ag (ai (.inr rfl) rfl rfl rfl (by rw[soL,h,h2,h3];rfl))
  have h3:(!decide (cgL f r (tk zs) bl ca a b pr=0))=false:=h3
  rw[aF]at h3
  repeat (first|(first|refine ah ?_|refine sat_nd ?_)|refine ae (bQ ha0 ha1) ?_|refine ae (bQ hb0 hb1) ?_|refine ae (bO ha0 ha1) ?_|refine ae (bO hb0 hb1) ?_|refine ae hvs ?_|refine ae hf0 ?_|refine ae (hf1 _) ?_|refine ae (aG hc2 rfl) ?_|refine ae (cm hc2 rfl) ?_|refine ae (aI hc2 rfl hv4) ?_|refine ae (ct hs1 rfl) ?_|refine ae (ct hs2 rfl) ?_)
  exact ag (ai (.inr rfl) rfl rfl rfl (congrArg V.bool (by
   show (decide (pr=0)&&bL f r (aW (zs.getD a.toNat 0)) a b (occL (tk zs)))=_
   rw[aF,soL,h,h2,h3];rfl)))
 ·cases e
end
section
variable{kCa kDb:Bool}
def sfL(p:Psn)(m:Mov):Bool:=bif chkL p.f p.r (afP p m).zs p.bl then false else bif decide (cgL p.f p.r p.zs p.bl p.ca m.a m.b m.p=0)then true else !chkL p.f p.r p.zs p.bl&&decide (((attL p.f p.r p.zs (sqW (cgL p.f p.r p.zs p.bl p.ca m.a m.b m.p) 3) (!p.bl)).length:Int)=0)
theorem rI{l:List Int}{f r:Int}(h:l.length<=64)(hv:vsB f r=true):(decide (l.length=((l.drop 0).take l.length).length)&&decide (((l.drop 0).take l.length).length<=64)&&vsB f r)=true:=by rw[hv];simp[h]
def wj:CF
 |[.agg [.int .i64 f,.int .i64 r,.sl 0 0 len none,.bool bl,.int .u8 ca,.int .i64 pa,.int .i64 ha,.int .i64 fu],.agg [.int .i64 a,.int .i64 b,.int .i8 pr]],[.ints false .i8 zs]=>some (decide (len=zs.length)&&decide (zs.length<=64)&&(aC f r zs&&cJ f r zs ca&&aj f r a&&aj f r b),.bool (sfL ⟨f,r,zs,bl,ca,pa,ha,fu⟩ ⟨a,b,pr⟩),[])
 |_,_=>none
theorem Cb:CtOk (GGx kCa kDb) PP (99,wj):=by
 refine aD Tryz.func99 (by kernel_rfl) rfl fun a0 h0 c0 v0 N0 e hc=>?_
 unfold wj at e
 split at e
 ·rename_i f r len bl ca pa ha fu a b pr zs
  cases e
  have hE:=aB (kCa:=kCa) (kDb:=kDb) (cts:=[(89,mc),(29,uh),(37,jM),(140,vw),(141,vr),(142,gD),(82,ec)]) (inl:=[]) ⟨oo,hU,iG,oG,mZ,gO,fT,trivial⟩ trivial
  refine ak hE 2 Tryz.func99 rfl rfl ?_
  simp only[Bool.and_eq_true,decide_eq_true_eq]at hc
  obtain⟨⟨rfl,hc2⟩,⟨⟨hbd,hcs⟩,hva⟩,hvb⟩:=hc
  have hvs:=(bg hbd).1
  obtain⟨ha0,ha1⟩:=(bN hbd).1 hva
  obtain⟨hb0,hb1⟩:=(bN hbd).1 hvb
  have hbt:aC f r (tk zs)=true:=by rw[aF];exact hbd
  have hct:cJ f r (tk zs) ca=true:=by rw[aF];exact hcs
  have hv4:(aC f r (tk zs)&&cJ f r (tk zs) ca&&aj f r a&&aj f r b)=true:=by rw[hbt,hct,hva,hvb];rfl
  have hzl:(afZ f r (tk zs) bl ca pa a b pr).length<=64:=by rw[wJ,fP];exact hc2
  repeat (first|(first|refine ah ?_|refine sat_nd ?_)|refine ae (bQ ha0 ha1) ?_|refine ae (bQ hb0 hb1) ?_|refine ae (aG hc2 rfl) ?_|refine ae (cm hc2 rfl) ?_|refine ae (aI hc2 rfl hv4) ?_|refine ae (aI hc2 rfl hvs) ?_|refine ae (gU hc2 hvs) ?_|refine ae (rI hzl hvs) ?_)
  refine aq (fun h=>?_) (fun h=>?_)
  ·have h:chkL f r (tk (afZ f r (tk zs) bl ca pa a b pr)) bl=true:=h
   rw[aF,aF]at h
   have h:chkL f r (afP ⟨f,r,zs,bl,ca,pa,ha,fu⟩ ⟨a,b,pr⟩).zs bl=true:=h
   exact ag (ai (.inr rfl) rfl rfl rfl (by simp only[sfL,h,cond_true]))
  have h:chkL f r (tk (afZ f r (tk zs) bl ca pa a b pr)) bl=false:=h
  rw[aF,aF]at h
  have h:chkL f r (afP ⟨f,r,zs,bl,ca,pa,ha,fu⟩ ⟨a,b,pr⟩).zs bl=false:=h
  repeat (first|(first|refine ah ?_|refine sat_nd ?_)|refine ae (bQ ha0 ha1) ?_|refine ae (bQ hb0 hb1) ?_|refine ae (aG hc2 rfl) ?_|refine ae (cm hc2 rfl) ?_|refine ae (aI hc2 rfl hv4) ?_|refine ae (aI hc2 rfl hvs) ?_|refine ae (gU hc2 hvs) ?_|refine ae (rI hzl hvs) ?_)
  refine aq (fun h2=>?_) (fun h2=>?_)
  ·have h2:decide (cgL f r (tk zs) bl ca a b pr=0)=true:=h2
   rw[aF]at h2
   exact ag (ai (.inr rfl) rfl rfl rfl (by simp only[sfL,h,h2,cond_true,cond_false]))
  have h2:decide (cgL f r (tk zs) bl ca a b pr=0)=false:=h2
  rw[aF]at h2
  repeat (first|(first|refine ah ?_|refine sat_nd ?_)|refine ae (bQ ha0 ha1) ?_|refine ae (bQ hb0 hb1) ?_|refine ae (aG hc2 rfl) ?_|refine ae (cm hc2 rfl) ?_|refine ae (aI hc2 rfl hv4) ?_|refine ae (aI hc2 rfl hvs) ?_|refine ae (gU hc2 hvs) ?_|refine ae (rI hzl hvs) ?_)
  refine aq (fun hq=>?_) (fun hq=>?_)
  ·have hq:(!chkL f r (tk zs) bl)=true:=hq
   rw[aF]at hq
   repeat (first|(first|refine ah ?_|refine sat_nd ?_)|refine ae (bQ ha0 ha1) ?_|refine ae (bQ hb0 hb1) ?_|refine ae (aG hc2 rfl) ?_|refine ae (cm hc2 rfl) ?_|refine ae (aI hc2 rfl hv4) ?_|refine ae (aI hc2 rfl hvs) ?_|refine ae (gU hc2 hvs) ?_|refine ae (rI hzl hvs) ?_)
   exact ag (ai (.inr rfl) rfl rfl rfl (congrArg V.bool (by
    show decide (((attL f r (tk zs) (sqW (cgL f r (tk zs) bl ca a b pr) 3) (!bl)).length:Int)=0)=_
    rw[aF]
    simp only[sfL,h,h2,hq,cond_false,Bool.true_and])))
  ·have hq:(!chkL f r (tk zs) bl)=false:=hq
   rw[aF]at hq
   exact ag (ai (.inr rfl) rfl rfl rfl (congrArg V.bool (by
    show false=_
    simp only[sfL,h,h2,hq,cond_false,Bool.false_and])))
 ·cases e
end
theorem JD(p:Int)(bl:Bool):ownL p bl=isP p bl:=by
 unfold ownL isP
 have h:p<0\/p=0\/0<p:=by omega
 rcases h with h|h|h
 ·have h1:¬ p=0:=by omega
  have h2:¬ 0<p:=by omega
  cases bl<;>simp[h,h1,h2]
 ·subst h;cases bl<;>rfl
 ·have h1:¬ p=0:=by omega
  have h2:¬ p<0:=by omega
  cases bl<;>simp[h,h1,h2]
theorem vt{ca:Int}(h:0<=ca/\ca<=15){bit:Int}(hb:bit=1\/bit=2\/bit=4\/bit=8):decide ((IntKind.u8.wrap (ca.tdiv bit)).tmod 2=1)=!decide (cw ca bit=0):=by
 obtain⟨h1,h2⟩:=h
 have:ca=0\/ca=1\/ca=2\/ca=3\/ca=4\/ca=5\/ca=6\/ca=7\/ca=8\/ca=9\/ca=10\/ca=11\/ca=12\/ca=13\/ca=14\/ca=15:=by omega
 rcases hb with rfl|rfl|rfl|rfl<;>rcases this with rfl|rfl|rfl|rfl|rfl|rfl|rfl|rfl|rfl|rfl|rfl|rfl|rfl|rfl|rfl|rfl<;>decide
theorem LL{f r:Int}{zs:List Int}:(iR f r zs 1=!((!is88 f r||!decide (zs.getD 4 0=ofP 6 false))||!decide (zs.getD 7 0=ofP 4 false)))/\(iR f r zs 2=!((!is88 f r||!decide (zs.getD 4 0=ofP 6 false))||!decide (zs.getD 0 0=ofP 4 false)))/\(iR f r zs 4=!((!is88 f r||!decide (zs.getD 60 0=ofP 6 true))||!decide (zs.getD 63 0=ofP 4 true)))/\(iR f r zs 8=!((!is88 f r||!decide (zs.getD 60 0=ofP 6 true))||!decide (zs.getD 56 0=ofP 4 true))):=by
 have e1:ofP 6 false=6:=by decide
 have e2:ofP 4 false=4:=by decide
 have e3:ofP 6 true=-6:=by decide
 have e4:ofP 4 true=-4:=by decide
 rw[e1,e2,e3,e4]
 unfold iR is88
 cases decide (f=8)<;>cases decide (r=8)<;>simp
theorem cast_eq{f r:Int}{zs:List Int}{ca:Int}(h0:0<=ca):cJ f r zs ca=eD f r zs ca:=by
 unfold cJ eD
 rcases Int.lt_or_le 15 ca with h|h
 ·have h2:¬ ca<16:=by omega
  simp[h,h2]
 ·have h2:ca<16:=by omega
  have h1:¬ 15<ca:=by omega
  obtain⟨a1,a2,a3,a4⟩:=LL (f:=f) (r:=r) (zs:=zs)
  have hx:0<=ca/\ca<=15:=⟨h0,h⟩
  simp only[rXL,rtX,vt hx (.inl rfl),vt hx (.inr (.inl rfl)),vt hx (.inr (.inr (.inl rfl))),vt hx (.inr (.inr (.inr rfl))),a1,a2,a3,a4,Bool.not_not,decide_eq_true h2,decide_eq_false h1,cond_false,Bool.and_true,Bool.not_or,Bool.not_and]
theorem pO(p:Int->Bool):∀ (l:List Int) (k:Int),(cP p l k=-1/\∀ i,i<l.length->p (l.getD i 0)=false)\/(∃ j,j<l.length/\cP p l k=k+(j:Nat)/\p (l.getD j 0)=true/\∀ i,i<j->p (l.getD i 0)=false)
 |[],k=>.inl ⟨rfl,fun i h=>by simp at h⟩
 |x::l,k=>by
  rw[cP]
  cases hx:p x with
  |true=>right;exact⟨0,by simp,by simp,by simpa using hx,fun i h=>by omega⟩
  |false=>
   rw[cond_false]
   rcases pO p l (k+1) with⟨h1,h2⟩|⟨j,h1,h2,h3,h4⟩
   ·left
    refine⟨h1,fun i hi=>?_⟩
    cases i with
    |zero=>simpa using hx
    |succ i=>have:=h2 i (by simpa using hi);simpa using this
   ·right
    refine⟨j+1,by simpa using h1,by rw[h2];push_cast;omega,by simpa using h3,fun i hi=>?_⟩
    cases i with
    |zero=>simpa using hx
    |succ i=>have:=h4 i (by omega);simpa using this
theorem oJ{c:Int->Bool}:∀ (n:Nat),(∀ i:Nat,i<n->c i=false)->cB c id n=[]
 |0,_=>rfl
 |n+1,h=>by rw[eJ,h n (by omega),cond_false];exact oJ n fun i hi=>h i (by omega)
theorem sR{c:Int->Bool}{a:Nat}(ha:c a=true):∀ (n:Nat),a<n->(∀ i:Nat,i<n->c i=true->i=a)->cB c id n=[(a:Int)]
 |0,h,_=>by omega
 |n+1,h,hu=>by
  rw[eJ]
  by_cases e:n=a
  ·subst e
   rw[ha,cond_true,oJ n fun i hi=>?_]
   ·rfl
   ·cases hc:c i with
    |false=>rfl
    |true=>have:=hu i (by omega) hc;omega
  ·have:c n=false:=by
    cases hc:c n with
    |false=>rfl
    |true=>exact absurd (hu n (by omega) hc) e
   rw[this,cond_false]
   exact sR ha n (by omega) fun i hi=>hu i (by omega)
theorem Nr(bl:Bool):w8 (IntKind.i64.wrap (6*sdI bl))=kgP bl:=by cases bl<;>decide
theorem iq{zs:List Int}{p:Int->Bool}{k:Nat}:(zs.drop k).any p=true↔∃ i,k<=i/\i<zs.length/\p (zs.getD i 0)=true:=by
 rw[List.any_eq_true]
 constructor
 ·rintro⟨x,hx,hp⟩
  obtain⟨i,hi,rfl⟩:=List.mem_iff_getElem.1 hx
  rw[List.getElem_drop]at hp
  rw[List.length_drop]at hi
  exact⟨k+i,by omega,by omega,by simpa[List.getD,show k+i<zs.length by omega]using hp⟩
 ·rintro⟨i,h1,h2,h3⟩
  refine⟨zs.getD i 0,?_,h3⟩
  rw[List.mem_iff_getElem]
  refine⟨i-k,by rw[List.length_drop];omega,?_⟩
  rw[List.getElem_drop]
  simp[List.getD,h2,show k+(i-k)=i by omega]
theorem yK(zs:List Int)(bl:Bool)(hl:zs.length<=64):(mW zs bl=true/\bp zs bl=-1)\/(mW zs bl=false/\bp zs bl=gB zs bl/\0<=gB zs bl/\gB zs bl<zs.length/\zs.getD (gB zs bl).toNat 0=kgP bl/\∀ i:Nat,i<zs.length->zs.getD i 0=kgP bl->(i:Int)=gB zs bl):=by
 unfold bp mW
 rw[Nr]
 rcases pO (isV (kgP bl)) zs 0 with⟨h1,h2⟩|⟨j,h1,h2,h3,h4⟩
 ·left
  have hn:iu zs (kgP bl)=[]:=oJ _ fun i hi=>by
   have:=h2 i hi
   simp only[isV,decide_eq_false_iff_not]at this
   simp only[kR,Int.toNat_natCast,decide_eq_false_iff_not]
   exact fun e=>this e.symm
  rw[hn]
  refine⟨?_,rfl⟩
  rw[show gB zs bl=-1 from h1];rfl
 ·have hK:gB zs bl=(j:Int):=by unfold gB;rw[h2];omega
  simp only[isV,decide_eq_true_eq]at h3
  rw[hK,show IntKind.i64.wrap ((j:Int)+1)=((j+1:Nat):Int) by rw[ay (by omega) (by omega)];omega,Int.toNat_natCast,show decide ((j:Int)<0)=false by simp,Bool.false_or]
  cases ha:(zs.drop (j+1)).any (isV (kgP bl)) with
  |true=>
   left
   refine⟨rfl,?_⟩
   obtain⟨i,g1,g2,g3⟩:=iq.1 ha
   simp only[isV,decide_eq_true_eq]at g3
   have m1:(j:Int)∈iu zs (kgP bl):=ey.2 ⟨by omega,by omega,by simp[kR,h3]⟩
   have m2:(i:Int)∈iu zs (kgP bl):=ey.2 ⟨by omega,by omega,by simp[kR,g3]⟩
   cases hd:decide (((iu zs (kgP bl)).length:Int)=1) with
   |false=>rfl
   |true=>
    have:(iu zs (kgP bl)).length=1:=by have:=of_decide_eq_true hd;omega
    obtain⟨x,hx⟩:=List.length_eq_one_iff.1 this
    rw[hx]at m1 m2
    simp at m1 m2
    omega
  |false=>
   right
   have hno:∀ i:Nat,i<zs.length->zs.getD i 0=kgP bl->i=j:=by
    intro i hi he
    rcases Nat.lt_trichotomy i j with g|g|g
    ·have:=h4 i g
     simp only[isV,decide_eq_false_iff_not]at this
     exact absurd he.symm this
    ·exact g
    ·have:(zs.drop (j+1)).any (isV (kgP bl))=true:=iq.2 ⟨i,by omega,hi,by simp only[isV,decide_eq_true_eq];exact he.symm⟩
     rw[ha]at this;cases this
   have hone:iu zs (kgP bl)=[(j:Int)]:=sR (by simp[kR,h3]) _ h1 fun i hi hc=>hno i hi (by simpa[kR]using hc)
   refine⟨rfl,by rw[hone];rfl,by omega,by omega,by rw[h3,Int.toNat_natCast],fun i hi he=>by rw[hno i hi he]⟩
theorem ki{f r:Int}{zs:List Int}{bl:Bool}(h:aV f r zs=true)(hl:zs.length<=64):(bp zs bl<0/\bT f r zs bl=(0,9))\/(bT f r zs bl=(bp zs bl,0)/\aj f r (bp zs bl)=true/\bp zs bl=gB zs bl):=by
 rcases yK zs bl hl with⟨h1,h2⟩|⟨h1,h2,h3,h4,_⟩
 ·left;exact⟨by rw[h2];decide,by unfold bT;rw[h,h1];rfl⟩
 ·right;exact⟨by unfold bT;rw[h,h1,h2];rfl,(FR h).2 (by rw[h2];exact⟨h3,h4⟩),h2⟩
end Go.Ab
namespace Go.Ab
open IntKind
open Go.Proofs
theorem yW{f r:Int}{zs:List Int}{to:Int}{bl:Bool}(h:aV f r zs=true)(hl:zs.length<=64)(ht:aj f r to=true):decide (attR f r zs to bl=0)=decide (((attL f r zs to bl).length:Int)=0):=by
 obtain⟨hu,hb⟩:=CZ (bl:=bl) h hl ht
 rw[decide_eq_decide,rJ hu]
 constructor
 ·intro h0
  have:attL f r zs to bl=[]:=List.eq_nil_iff_forall_not_mem.2 fun x hx=>by
   have hx':=mu.1 hx
   have:=h0 x.toNat (by omega)
   rw[hb,show ((x.toNat:Nat):Int)=x by omega]at this
   simp[hx]at this
  rw[this];rfl
 ·intro h0 n _
  have:attL f r zs to bl=[]:=List.eq_nil_of_length_eq_zero (by omega)
  rw[hb,this];simp
theorem zz{f r:Int}{zs:List Int}{bl:Bool}(h:aV f r zs=true)(hl:zs.length<=64)(hk:(bT f r zs bl).2=0):chkL f r zs bl=chkB f r zs bl:=by
 rcases ki (bl:=bl) h hl with⟨_,h2⟩|⟨h1,h2,_⟩
 ·rw[h2]at hk;cases hk
 ·unfold chkL chkB bH
  rw[h1]
  simp only[decide_true,cond_true]
  rw[yW h hl h2]
  have:(0:Int)<=((attL f r zs (bp zs bl) (!bl)).length:Int):=Int.natCast_nonneg _
  by_cases h0:((attL f r zs (bp zs bl) (!bl)).length:Int)=0
  ·simp[h0]
  ·have:0<((attL f r zs (bp zs bl) (!bl)).length:Int):=by omega
   rw[decide_eq_false h0,decide_eq_true this];rfl
theorem GN{f r:Int}{zs:List Int}{bl:Bool}(hl:zs.length<=64):(aC f r zs&&eF f r zs bl)=(aV f r zs&&!decide (bp zs false<0)&&!decide (bp zs true<0)&&!chkL f r zs (!bl)):=by
 cases ho:aV f r zs with
 |false=>
  have:eF f r zs bl=false:=by unfold eF bT;rw[ho];simp
  rw[this];simp
 |true=>
  have hv:=(bh ho).2.2.1
  rw[hv]
  simp only[Bool.true_and]
  have key:∀ b,decide (bp zs b<0)=!decide ((bT f r zs b).2=0):=fun b=>by
   rcases ki (bl:=b) ho hl with⟨h1,h2⟩|⟨h1,h2,_⟩
   ·rw[h2];simp[h1]
   ·rw[h1];have:=(aL h2).1;simp;omega
  rw[key,key]
  unfold eF
  have hch:∀ b,(bH f r zs b).2=0↔(bT f r zs b).2=0:=fun b=>by
   unfold bH
   by_cases h:(bT f r zs b).2=0
   ·simp[h]
   ·simp[h]
  cases hk1:decide ((bT f r zs bl).2=0) with
  |false=>cases bl<;>rw[hk1]<;>simp
  |true=>
   cases hk2:decide ((bT f r zs (!bl)).2=0) with
   |false=>
    have:decide ((bH f r zs (!bl)).2=0)=false:=by rw[decide_eq_false_iff_not,hch];exact of_decide_eq_false hk2
    rw[this]
    cases bl<;>simp only[Bool.not_true,Bool.not_false]at hk2 ⊢<;>rw[hk2]<;>simp
   |true=>
    have h1:decide ((bH f r zs (!bl)).2=0)=true:=by rw[decide_eq_true_eq,hch];exact of_decide_eq_true hk2
    rw[h1,zz ho hl (of_decide_eq_true hk2)]
    unfold chkB
    cases bl<;>simp only[Bool.not_true,Bool.not_false]at hk2 ⊢<;>rw[hk1,hk2]<;>simp
theorem Jh{zs:List Int}{p:Int->Bool}:zs.any p=true↔∃ i,i<zs.length/\p (zs.getD i 0)=true:=by
 have:=iq (zs:=zs) (p:=p) (k:=0)
 rw[List.drop_zero]at this
 rw[this];exact⟨fun⟨i,_,h⟩=>⟨i,h⟩,fun⟨i,h⟩=>⟨i,by omega,h⟩⟩
theorem sG{zs:List Int}{p:Int->Bool}{k:Nat}:(zs.take k).any p=true↔∃ i,i<k/\i<zs.length/\p (zs.getD i 0)=true:=by
 rw[Jh]
 constructor
 ·rintro⟨i,h1,h2⟩
  rw[List.length_take]at h1
  exact⟨i,by omega,by omega,by simpa[List.getD,List.getElem?_take,show i<k by omega]using h2⟩
 ·rintro⟨i,h1,h2,h3⟩
  exact⟨i,by rw[List.length_take];omega,by simpa[List.getD,List.getElem?_take,h1]using h3⟩
theorem GX{f r:Int}{zs:List Int}(h:aV f r zs=true)(_hl:zs.length<=64):je f zs=!tY f r zs:=by
 obtain⟨hv,hn,hbd,hp⟩:=bh h
 have hb:=de hv
 have hpw:∀ i:Nat,i<zs.length->(pwL f r zs i=true↔(zs.getD i 0=1/\zs.length-f.toNat<=i)\/(zs.getD i 0=-1/\i<f.toNat)):=by
  intro i hi
  have hvi:aj f r (i:Int)=true:=(bN hbd).2 ⟨by omega,by omega⟩
  obtain⟨hd,x0,x1,y0,y1,he,_⟩:=dM hvi
  have hpc:=mP h (i:=(i:Int)) (by omega) (by omega)
  have hl0:fa r (decide ((1:Int)<0))=r-1:=ay (by omega) (by omega)
  have hl1:fa r (decide ((-1:Int)<0))=0:=rfl
  have hmul:f*r=(r-1)*f+f:=by rw[Int.sub_mul,Int.mul_comm r f];omega
  rw[Int.toNat_natCast]at hpc
  unfold pwL
  rw[hd,Int.toNat_natCast,gX hpc]
  simp only[Bool.and_eq_true,decide_eq_true_eq]
  constructor
  ·rintro⟨h1,h2⟩
   have:zs.getD i 0=1\/zs.getD i 0=-1:=by omega
   rcases this with e|e
   ·left
    rw[e,hl0]at h2
    rw[h2]at he
    exact⟨e,by omega⟩
   ·right
    rw[e,hl1]at h2
    rw[h2]at he
    exact⟨e,by omega⟩
  ·rintro(⟨e,h2⟩|⟨e,h2⟩)
   ·rw[e,hl0]
    refine⟨by decide,?_⟩
    have h5:¬ py f i<r-1:=by
     intro h6
     have:(py f i+1)*f<=(r-1)*f:=Int.mul_le_mul_of_nonneg_right (by omega) (by omega)
     rw[Int.add_mul]at this
     omega
    omega
   ·rw[e,hl1]
    refine⟨by decide,?_⟩
    have h5:¬ 1<=py f i:=by
     intro h6
     have:1*f<=py f i*f:=Int.mul_le_mul_of_nonneg_right h6 (by omega)
     omega
    omega
 have hiff:tY f r zs=true↔((zs.drop (zs.length-f.toNat)).any (isV 1)=true\/(zs.take f.toNat).any (isV (-1))=true):=by
  rw[iq,sG]
  unfold tY
  rw[List.any_eq_true]
  constructor
  ·rintro⟨i,hi,hp⟩
   have hi:=List.mem_range.1 hi
   rcases(hpw i hi).1 hp with⟨e,g⟩|⟨e,g⟩
   ·left;exact⟨i,g,hi,by rw[e];rfl⟩
   ·right;exact⟨i,g,hi,by rw[e];rfl⟩
  ·rintro(⟨i,g1,g2,g3⟩|⟨i,g1,g2,g3⟩)
   ·simp only[isV,decide_eq_true_eq]at g3
    exact⟨i,List.mem_range.2 g2,(hpw i g2).2 (.inl ⟨g3.symm,g1⟩)⟩
   ·simp only[isV,decide_eq_true_eq]at g3
    exact⟨i,List.mem_range.2 g2,(hpw i g2).2 (.inr ⟨g3.symm,g1⟩)⟩
 unfold je
 cases h1:(zs.drop (zs.length-f.toNat)).any (isV 1)<;>cases h2:(zs.take f.toNat).any (isV (-1))<;>rw[h1,h2]at hiff<;>cases h3:tY f r zs<;>rw[h3]at hiff<;>simp at hiff ⊢
theorem OC{f r n k:Int}{zs:List Int}(hbd:aC f r zs=true)(hn:aj f r n=true)(_hk:k=1\/k=-1)(hb:aj f r (n+k*f)=true):px f (n+k*f)=px f n/\py f (n+k*f)=py f n+k:=by
 obtain⟨_,a1,a2,a3,a4,a5,a6⟩:=dM hn
 obtain⟨_,b1,b2,b3,b4,b5,_⟩:=dM hb
 have:=hbd
 refine nj (f:=f) (by omega) b1 b2 a1 a2 ?_
 rw[b5,Int.add_mul];omega
theorem KE{f r:Int}{zs:List Int}{bl:Bool}{pa ha:Int}(hbd:aC f r zs=true):pasL f r zs bl pa ha=iQ f r zs bl pa ha:=by
 unfold pasL iQ
 cases h1:decide (pa=-1) with
 |true=>rfl
 |false=>
  rw[cond_false,Bool.false_or]
  by_cases h2:6<=r
  ·have e2:decide (r<6)=false:=by simp;omega
   rw[e2,decide_eq_true h2]
   cases h3:decide (ha=0) with
   |false=>simp
   |true=>
    cases h4:aj f r pa with
    |false=>simp
    |true=>
     have hv:=(bg hbd).1
     have hb:=de hv
     obtain⟨hd,x0,x1,y0,y1,he,_⟩:=dM h4
     have hm:pa.tmod f=px f pa:=rfl
     have hr2:eI r (!bl) 2=(bif bl then 1 else r-2):=by
      unfold eI;cases bl
      ·exact ay (by omega) (by omega)
      ·rfl
     have hr4:eI r (!bl) 4=(bif bl then 3 else r-4):=by
      unfold eI;cases bl
      ·exact ay (by omega) (by omega)
      ·rfl
     have hk:decide (i64.wrap (2*i64.wrap (pa.tdiv f))=i64.wrap (eI r (!bl) 2+eI r (!bl) 4))=decide (i64.wrap (pa.tdiv f)=rkP r bl):=by
      rw[hd,hr2,hr4,decide_eq_decide]
      rw[ay (n:=2*py f pa) (by omega) (by omega)]
      unfold rkP
      cases bl
      ·simp only[cond_false]
       rw[ay (by omega) (by omega),ay (by omega) (by omega)];omega
      ·simp only[cond_true]
       rw[ay (by omega) (by omega)];omega
     rw[hk]
     cases h5:decide (i64.wrap (pa.tdiv f)=rkP r bl) with
     |false=>simp
     |true=>
      obtain⟨n1,n2,n3,n4,n5,n6,n7⟩:=jH (bl:=bl) hbd h2 h4 (of_decide_eq_true h5)
      have hlt:=(bN hbd).1 h4
      have hm1:aj f r (pa+-1*f)=true:=(bN hbd).2 ⟨by omega,by omega⟩
      have hp1:aj f r (pa+1*f)=true:=(bN hbd).2 ⟨by omega,by omega⟩
      have hy:py f pa=(bif bl then 2 else r-3):=by
       have:=of_decide_eq_true h5
       rw[hd]at this
       rw[this];unfold rkP;cases bl
       ·exact ay (by omega) (by omega)
       ·rfl
      have hnum:∀ {k R:Int},(k=1\/k=-1)->R=py f pa+k->aj f r (pa+k*f)=true->numR f r (pa.tmod f) R=pa+k*f:=by
       intro k R hk hR hvk
       obtain⟨p1,p2⟩:=OC hbd h4 hk hvk
       have ho:onB f r (pa.tmod f) R=true:=by
        obtain⟨_,_,_,q3,q4,_⟩:=dM hvk
        rw[p2,<-hR]at q3 q4
        exact jC (by rw[hm];exact x0) (by rw[hm];exact x1) q3 q4
       exact(iV hv ho hvk).2 ⟨by rw[p1,hm],by rw[p2,hR]⟩
      have hpc:ql 1 (!bl)=ofP 1 (!bl):=rfl
      rw[hr2,hr4,hpc]
      cases bl
      ·simp only[cond_false]at hy ⊢
       have q1:=hnum (k:=1) (R:=r-2) (.inl rfl) (by omega) hp1
       have q2:=hnum (k:=-1) (R:=r-4) (.inr rfl) (by omega) hm1
       simp only[q1,q2,upP,cond_false,n5,n6,n7]
       have z1:pa+1*f=pa+f:=by omega
       have z2:pa+-1*f=pa-f:=by omega
       simp only[z1,z2]
       simp[Bool.and_assoc]
      ·simp only[cond_true]at hy ⊢
       have q1:=hnum (k:=-1) (R:=1) (.inr rfl) (by omega) hm1
       have q2:=hnum (k:=1) (R:=3) (.inl rfl) (by omega) hp1
       simp only[q1,q2,upP,cond_true,n3,n4]
       have z1:pa+1*f=pa+f:=by omega
       have z2:pa+-1*f=pa-f:=by omega
       simp only[z1,z2]
       simp[Bool.and_assoc]
  ·have e2:decide (r<6)=true:=by simp;omega
   rw[e2,decide_eq_false h2];simp
theorem CB{p:Psn}(hl:p.zs.length<=64)(hca:0<=p.ca):oK p=p.ok:=by
 have hk:=GN (f:=p.f) (r:=p.r) (bl:=p.bl) hl
 unfold oK Psn.ok
 cases ho:aV p.f p.r p.zs with
 |false=>
  rw[ho]at hk
  rw[hk];simp
 |true=>
  rw[ho]at hk
  rw[hk,GX ho hl,cast_eq hca,KE (bh ho).2.2.1]
  cases decide (bp p.zs false<0)<;>cases decide (bp p.zs true<0)<;>cases chkL p.f p.r p.zs (!p.bl)<;>cases tY p.f p.r p.zs<;>simp[cntB,Bool.and_assoc]
end Go.Ab
namespace Go.Ab
open Go.Proofs
theorem Ld{f r:Int}{x K:Int}(hx:aj f r x=true)(hK:aj f r K=true)(hl:(bx f x K).2.2=true):Uk (bS f r x K).1/\∀ m:Nat,bt (bS f r x K).1 m=decide ((m:Int)∈bU f r x K):=by
 rw[(Im hx hK hl).2]
 obtain⟨h1,h2⟩:=uM (bU f r x K) 0 (fun y hy=>⟨(aL ((yB hx).2 y hy)).1,(aL ((yB hx).2 y hy)).2.2⟩) uk_0
 exact⟨h1,fun m=>by rw[h2,bt_0,Bool.false_or]⟩
theorem Ic{f r:Int}{zs:List Int}{j v:Int}(h:aV f r zs=true)(hv:-6<=v/\v<=6):aV f r (zs.set j.toNat v)=true:=by
 simp only[aV,aC,Bool.and_eq_true,Bool.not_eq_true',List.any_eq_false]at h ⊢
 rw[List.length_set]
 refine⟨⟨h.1.1,fun p hp=>?_⟩,fun p hp=>?_⟩
 ·rcases List.mem_or_eq_of_mem_set hp with hp|rfl
  ·exact h.1.2 p hp
  ·simp[badP,okP];omega
 ·rcases List.mem_or_eq_of_mem_set hp with hp|rfl
  ·exact h.2 p hp
  ·simp[norP,orP];omega
end Go.Ab
namespace Go.Ab
open IntKind
open Go.Proofs
theorem FV{n:Int}(h1:-128<=n)(h2:n<=127):w8 n=n:=by
 show IntKind.wrap .i8 n=n
 unfold IntKind.wrap IntKind.bits IntKind.signed
 simp only[Bool.true_and,decide_eq_true_eq]
 split<;>omega
theorem kg{f r:Int}{zs:List Int}(h:aV f r zs=true){i:Int}(h0:0<=i)(h1:i<zs.length):absP (zs.getD i.toNat 0)=aW (zs.getD i.toNat 0):=by
 have hp:=mP h h0 h1
 have hw:w8 (0-zs.getD i.toNat 0)=0-zs.getD i.toNat 0:=FV (by omega) (by omega)
 rw[gX hp]
 unfold absP imax
 rw[hw]
 by_cases hn:zs.getD i.toNat 0<0-zs.getD i.toNat 0
 ·simp only[hn,decide_true,cond_true];omega
 ·simp only[hn,decide_false,cond_false];omega
theorem Av{f r:Int}{zs:List Int}{bl:Bool}(h:aV f r zs=true){i:Int}(h0:0<=i)(h1:i<zs.length)(hp:isP (zs.getD i.toNat 0) bl=true)(hk:¬ aW (zs.getD i.toNat 0)=1):nI (aW (zs.getD i.toNat 0)):=by
 have hb:=mP h h0 h1
 have hz:=yP hp
 rw[gX hb]at hk ⊢
 unfold nI
 omega
theorem iE{f r:Int}{zs:List Int}{bl:Bool}{_ca pa a b pr:Int}(h:aV f r zs=true)(hl:zs.length<=64)(ha:aj f r a=true)(hb:aj f r b=true)(hp:isP (zs.getD a.toNat 0) bl=true) :
  iv f r zs bl pa a b pr=bif decide (aW (zs.getD a.toNat 0)=1)then pnL f r zs bl pa a b pr else decide (pr=0)&&bL f r (aW (zs.getD a.toNat 0)) a b (occL zs):=by
 have hbd:=(bh h).2.2.1
 obtain⟨ha0,ha1⟩:=(bN hbd).1 ha
 obtain⟨hb0,hb1⟩:=(bN hbd).1 hb
 have hb64:b<64:=by omega
 obtain⟨hou,_⟩:=jS hbd hl
 have hray:gH f r a (occR f r zs)=true:=(kf hou).2 ⟨ha,zg h hl⟩
 unfold iv
 rw[kg h ha0 ha1,nR hbd hl]
 cases hk:decide (aW (zs.getD a.toNat 0)=1) with
 |false=>
  obtain⟨r1,_,r3⟩:=ru hray hou (Av h ha0 ha1 hp (of_decide_eq_false hk))
  simp only[Bool.not_false,cond_true,cond_false]
  have r1:Uk (cq f r (aW (zs.getD a.toNat 0)) a (occR f r zs)).1:=r1
  rw[pN r1 hb0 hb64]
  congr 1
  exact r3 b hb
 |true=>
  simp only[Bool.not_true,cond_true,cond_false]
  obtain⟨_,s1,_,s2⟩:=zK (bl:=bl) hray hou
  obtain⟨_,p1,_,p2⟩:=wT (bl:=bl) ha
  have hu:Uk (bif decide (zs.getD b.toNat 0=0)&&!decide (b=pa)then 0 else(gg f r bl a).1):=by
   cases(decide (zs.getD b.toNat 0=0)&&!decide (b=pa))
   ·exact p1
   ·exact uk_0
  rw[pN (iy _ _) hb0 hb64,fE s1 hu,s2 b hb]
  have hpb:bt (bif decide (zs.getD b.toNat 0=0)&&!decide (b=pa)then 0 else(gg f r bl a).1) b.toNat=(dK f bl a b&&(!decide (zs.getD b.toNat 0=0)||decide (b=pa))):=by
   cases h1:decide (zs.getD b.toNat 0=0)<;>cases h2:decide (b=pa)<;>simp[p2 b hb,bt_0]
  rw[hpb]
  have hv:=(bg hbd).1
  have hin:∀ c:Int->Bool,hasL b (cB c id (f*r).toNat)=c b:=fun c=>by
   rw[Bool.eq_iff_iff,kS,ey]
   have:=aL hb
   exact⟨fun h=>h.2.2,fun h=>⟨hb0,by omega,h⟩⟩
  unfold pnL
  rw[hin,hin,nR hbd hl]
  have hlast:MU r bl=fa r bl:=rfl
  rw[hlast]
  cases decide (i64.wrap (b.tdiv f)=fa r bl)<;>cases decide (pr=0)<;>cases cj f r bl a (occR f r zs) b<;>cases dK f bl a b<;>simp
theorem empty_eq{zs:List Int}{x K:Int}(hbd:aC 8 8 zs=true)(hl:zs.length<=64)(hx:aj 8 8 x=true)(hK:aj 8 8 K=true)(hln:(bx 8 x K).2.2=true):cG zs (bU 8 8 x K)=decide (uand (bS 8 8 x K).1 (occR 8 8 zs)=0):=by
 obtain⟨bu,bb⟩:=Ld hx hK hln
 obtain⟨ou,ob⟩:=jS hbd hl
 have h64:=rN hbd rfl
 rw[Bool.eq_iff_iff,decide_eq_true_eq,rJ (tD _ _)]
 unfold cG
 rw[List.all_eq_true]
 constructor
 ·intro h n hn
  rw[qg bu ou,bb,ob]
  by_cases hm:(n:Int)∈bU 8 8 x K
  ·have:=of_decide_eq_true (h _ hm)
   rw[Int.toNat_natCast]at this
   rw[this];simp
  ·simp[hm]
 ·intro h i hi
  have hb:0<=i/\i<64:=by
   have hv:aj 8 8 i=true:=by
    unfold bU at hi
    cases hh:hasL K (eC 8 8 x K) with
    |true=>rw[hh]at hi;exact ez hx (List.mem_of_mem_take hi)
    |false=>rw[hh]at hi;simp at hi
   exact⟨(aL hv).1,(aL hv).2.2⟩
  have:=h i.toNat (by omega)
  rw[qg bu ou,bb,ob,show ((i.toNat:Nat):Int)=i by omega]at this
  simp only[hi,decide_true,Bool.true_and,Bool.and_eq_false_iff,decide_eq_false_iff_not,Bool.not_eq_false']at this
  rcases this with this|this
  ·omega
  ·exact this
theorem sq01:sqW 1 0=4/\sqW 1 1=6/\sqW 2 0=4/\sqW 2 1=2/\sqW 4 0=60/\sqW 4 1=62/\sqW 8 0=60/\sqW 8 1=58:=⟨by kernel_rfl,by kernel_rfl,by kernel_rfl,by kernel_rfl,by kernel_rfl,by kernel_rfl,by kernel_rfl,by kernel_rfl⟩
theorem cZ{bl:Bool}{ca a b:Int}{c:Bool}{bit k to:Int}:(!aY bl ca a b c bit k to)=true↔c=bl/\cw ca bit≠0/\k=a/\to=b:=by
 unfold aY
 cases c<;>cases bl<;>simp[and_assoc]
theorem dJ{f r:Int}{zs:List Int}{ca bit:Int}{k q:Nat}{c:Bool}(h:rtX f r zs ca bit k q c=false)(hr:cw ca bit≠0):f=8/\r=8/\zs.getD k 0=ofP 6 c/\zs.getD q 0=ofP 4 c:=by
 unfold rtX at h
 rw[decide_eq_false hr]at h
 simp only[Bool.not_false,Bool.true_and,Bool.or_eq_false_iff,Bool.not_eq_false',is88,Bool.and_eq_true,decide_eq_true_eq]at h
 exact⟨h.1.1.1,h.1.1.2,h.1.2,h.2⟩
theorem IB{f r:Int}{zs:List Int}{bl:Bool}{ca a b bit k to cor:Int}{c:Bool}(hca:0<=ca/\ca<=15)(hb:bit=1\/bit=2\/bit=4\/bit=8)(hc:decide (2<bit)=c)(h0:sqW bit 0=k)(h1:sqW bit 1=to)(h2:sqW bit 2=cor) :
  cgS f r zs bl ca a b bit=(!aY bl ca a b c bit k to&&cG zs (bU f r k cor)):=by
 unfold cgS aY
 rw[vt hca hb,hc,h0,h1,h2]
 have e1:decide (a=k)=decide (k=a):=by rw[decide_eq_decide];exact eq_comm
 have e2:decide (b=to)=decide (to=b):=by rw[decide_eq_decide];exact eq_comm
 rw[e1,e2]
 cases decide (cw ca bit=0)<;>cases c<;>cases bl<;>cases decide (k=a)<;>cases decide (to=b)<;>rfl
theorem Ew{f r:Int}{zs:List Int}{bl:Bool}{ca a b pr:Int}(h:aV f r zs=true)(hl:zs.length<=64)(hcas:eD f r zs ca=true)(hca:0<=ca)(ha0:0<=a)(ha1:a<zs.length) :
  (!decide (cgL f r zs bl ca a b pr=0))=(decide (pr=0)&&wayB f r zs (wayN zs bl ca a b)) /\
   ((!decide (cgL f r zs bl ca a b pr=0))=true->sqW (cgL f r zs bl ca a b pr) 2=wCor (wayN zs bl ca a b)/\sqW (cgL f r zs bl ca a b pr) 3=wCro (wayN zs bl ca a b)/\aW (zs.getD a.toNat 0)=6):=by
 have hbd:=(bh h).2.2.1
 simp only[eD,Bool.and_eq_true,Bool.not_eq_true',decide_eq_true_eq]at hcas
 obtain⟨⟨⟨⟨c1,c2⟩,c3⟩,c4⟩,c5⟩:=hcas
 obtain⟨q1,q2,q3,q4,q5,q6,q7,q8⟩:=sqs
 obtain⟨p1,p2,p3,p4,p5,p6,p7,p8⟩:=sq01
 have hx:0<=ca/\ca<=15:=⟨hca,by omega⟩
 have g1:cgS f r zs bl ca a b 1=_:=IB (c:=false) hx (.inl rfl) rfl p1 p2 q1
 have g2:cgS f r zs bl ca a b 2=_:=IB (c:=false) hx (.inr (.inl rfl)) rfl p3 p4 q3
 have g3:cgS f r zs bl ca a b 4=_:=IB (c:=true) hx (.inr (.inr (.inl rfl))) rfl p5 p6 q5
 have g4:cgS f r zs bl ca a b 8=_:=IB (c:=true) hx (.inr (.inr (.inr rfl))) rfl p7 p8 q7
 unfold cgL wayN
 rw[kg h ha0 ha1]
 cases hK:decide (aW (zs.getD a.toNat 0)=6) with
 |false=>simp[wayB]
 |true=>
  cases hp:decide (pr=0) with
  |false=>simp
  |true=>
   have hk6:=of_decide_eq_true hK
   rw[g1,g2,g3,g4]
   have key:∀ {bit k to cor:Int} {kn qn:Nat} {c:Bool},rtX f r zs ca bit kn qn c=false->(!aY bl ca a b c bit k to)=true->aj 8 8 k=true->aj 8 8 cor=true->(bx 8 k cor).2.2=true ->
     cG zs (bU f r k cor)=decide (uand (bS f r k cor).1 (occR f r zs)=0):=by
    intro bit k to cor kn qn c hr hs hk hc hln
    obtain⟨_,hu,_,_⟩:=cZ.1 hs
    obtain⟨rfl,rfl,_⟩:=dJ hr hu
    exact empty_eq hbd hl hk hc hln
   cases n1:(!aY bl ca a b false 1 4 6) with
   |true=>
    obtain⟨rfl,_,rfl,rfl⟩:=cZ.1 n1
    have k1:=key c1 n1 (cor:=7) (by decide) (by decide) (by decide)
    have n2:(!aY false ca 4 6 false 2 4 2)=false:=by rw[Bool.eq_false_iff];exact fun hh=>by have:=(cZ.1 hh).2.2.2;omega
    have n3:(!aY false ca 4 6 true 4 60 62)=false:=by rw[Bool.eq_false_iff];exact fun hh=>by have:=(cZ.1 hh).1;cases this
    have n4:(!aY false ca 4 6 true 8 60 58)=false:=by rw[Bool.eq_false_iff];exact fun hh=>by have:=(cZ.1 hh).1;cases this
    rw[n2,n3,n4,k1]
    have hw:wayB f r zs 0=decide (uand (bS f r 4 7).1 (occR f r zs)=0):=rfl
    simp only[Bool.not_true,Bool.or_self,cond_false,cond_true,Bool.true_and,Bool.false_and,hw]
    cases decide (uand (bS f r 4 7).1 (occR f r zs)=0)
    ·simp
    ·exact⟨rfl,fun _=>⟨q1,q2,hk6⟩⟩
   |false=>
    cases n2:(!aY bl ca a b false 2 4 2) with
    |true=>
     obtain⟨rfl,_,rfl,rfl⟩:=cZ.1 n2
     have k1:=key c2 n2 (cor:=0) (by decide) (by decide) (by decide)
     have n3:(!aY false ca 4 2 true 4 60 62)=false:=by rw[Bool.eq_false_iff];exact fun hh=>by have:=(cZ.1 hh).1;cases this
     have n4:(!aY false ca 4 2 true 8 60 58)=false:=by rw[Bool.eq_false_iff];exact fun hh=>by have:=(cZ.1 hh).1;cases this
     rw[n3,n4,k1]
     have hw:wayB f r zs 1=decide (uand (bS f r 4 0).1 (occR f r zs)=0):=rfl
     simp only[Bool.not_true,Bool.or_self,cond_false,cond_true,Bool.true_and,Bool.false_and,hw]
     cases decide (uand (bS f r 4 0).1 (occR f r zs)=0)
     ·simp
     ·exact⟨rfl,fun _=>⟨q3,q4,hk6⟩⟩
    |false=>
     cases n3:(!aY bl ca a b true 4 60 62) with
     |true=>
      obtain⟨rfl,_,rfl,rfl⟩:=cZ.1 n3
      have k1:=key c3 n3 (cor:=63) (by decide) (by decide) (by decide)
      have n4:(!aY true ca 60 62 true 8 60 58)=false:=by rw[Bool.eq_false_iff];exact fun hh=>by have:=(cZ.1 hh).2.2.2;omega
      rw[n4,k1]
      have hw:wayB f r zs 2=decide (uand (bS f r 60 63).1 (occR f r zs)=0):=rfl
      simp only[Bool.not_true,Bool.or_self,cond_false,cond_true,Bool.true_and,Bool.false_and,hw]
      cases decide (uand (bS f r 60 63).1 (occR f r zs)=0)
      ·simp
      ·exact⟨rfl,fun _=>⟨q5,q6,hk6⟩⟩
     |false=>
      cases n4:(!aY bl ca a b true 8 60 58) with
      |true=>
       obtain⟨rfl,_,rfl,rfl⟩:=cZ.1 n4
       have k1:=key c4 n4 (cor:=56) (by decide) (by decide) (by decide)
       rw[k1]
       have hw:wayB f r zs 3=decide (uand (bS f r 60 56).1 (occR f r zs)=0):=rfl
       simp only[Bool.not_true,Bool.or_self,cond_false,cond_true,Bool.true_and,Bool.false_and,hw]
       cases decide (uand (bS f r 60 56).1 (occR f r zs)=0)
       ·simp
       ·exact⟨rfl,fun _=>⟨q7,q8,hk6⟩⟩
      |false=>simp[wayB]
theorem OE{p:Psn}{m:Mov}(h:aV p.f p.r p.zs=true)(hl:p.zs.length<=64)(hcas:eD p.f p.r p.zs p.ca=true)(hca:0<=p.ca)(ha:aj p.f p.r m.a=true)(hb:aj p.f p.r m.b=true)(hp:isP (p.zs.getD m.a.toNat 0) p.bl=true) :
  soL p.f p.r p.zs p.bl p.ca p.pa m.a m.b m.p=!err3 p m:=by
 have hbd:=(bh h).2.2.1
 obtain⟨ha0,ha1⟩:=(bN hbd).1 ha
 unfold soL err3
 rw[JD,iE (_ca:=p.ca) h hl ha hb hp]
 cases isP (p.zs.getD m.b.toNat 0) p.bl with
 |true=>rfl
 |false=>
  obtain⟨w1,_⟩:=Ew (bl:=p.bl) (b:=m.b) (pr:=m.p) h hl hcas hca ha0 ha1
  rw[w1]
  cases hk:decide (aW (p.zs.getD m.a.toNat 0)=1) with
  |true=>
   have:wayN p.zs p.bl p.ca m.a m.b=4:=by
    unfold wayN
    rw[kg h ha0 ha1,of_decide_eq_true hk];rfl
   rw[this]
   simp[wayB]
  |false=>
   cases decide (m.p=0)<;>cases wayB p.f p.r p.zs (wayN p.zs p.bl p.ca m.a m.b)<;>simp
section
theorem pc_w{f r a b:Int}(ha:aj f r a=true)(hb:aj f r b=true):i64.wrap (i64.wrap (b.tdiv f)-i64.wrap (a.tdiv f))=py f b-py f a:=(iz ha hb).2
theorem yO{n:Int}{bl:Bool}(h:isP n bl=true)(h2:n=ofP 1 (!bl)):False:=by
 subst h2
 cases bl<;>revert h<;>decide
theorem FD{n:Int}{bl:Bool}(hz:n≠0)(h:isP n bl=false):isP n (!bl)=true:=by
 unfold isP at h ⊢
 rcases Int.lt_or_gt_of_ne hz with h3|h3
 ·have h4:¬ 0<n:=by omega
  cases bl<;>simp[h3,h4]at h ⊢
 ·have h4:¬ n<0:=by omega
  cases bl<;>simp[h3,h4]at h ⊢<;>omega
structure MvOk(p:Psn)(m:Mov):Prop where
 h:aV p.f p.r p.zs=true
 hl:p.zs.length<=64
 ok:p.ok=true
 ca:0<=p.ca
 ha:aj p.f p.r m.a=true
 hb:aj p.f p.r m.b=true
 hab:m.a≠m.b
 hpr:m.p=0\/(2<=m.p/\m.p<=5)
 hp:isP (p.zs.getD m.a.toNat 0) p.bl=true
 so:err3 p m=false
section
variable{p:Psn}{m:Mov}
theorem MvOk.bd(o:MvOk p m):aC p.f p.r p.zs=true:=(bh o.h).2.2.1
theorem MvOk.cast(o:MvOk p m):eD p.f p.r p.zs p.ca=true:=by have:=o.ok;simp only[Psn.ok,Bool.and_eq_true]at this;exact this.1.1.2
theorem MvOk.pass(o:MvOk p m):iQ p.f p.r p.zs p.bl p.pa p.ha=true:=by have:=o.ok;simp only[Psn.ok,Bool.and_eq_true]at this;exact this.1.2
theorem MvOk.kings(o:MvOk p m):eF p.f p.r p.zs p.bl=true:=by have:=o.ok;simp only[Psn.ok,Bool.and_eq_true]at this;exact this.1.1.1.1.2
theorem MvOk.nto(o:MvOk p m):isP (p.zs.getD m.b.toNat 0) p.bl=false:=by have:=o.so;simp only[err3,Bool.or_eq_false_iff]at this;exact this.1
theorem MvOk.sq(o:MvOk p m):(0<=m.a/\m.a<p.zs.length)/\(0<=m.b/\m.b<p.zs.length):=⟨(bN o.bd).1 o.ha,(bN o.bd).1 o.hb⟩
theorem MvOk.kd(o:MvOk p m):absP (p.zs.getD m.a.toNat 0)=aW (p.zs.getD m.a.toNat 0):=kg o.h o.sq.1.1 o.sq.1.2
theorem MvOk.pawn(o:MvOk p m)(hk:aW (p.zs.getD m.a.toNat 0)=1):pnL p.f p.r p.zs p.bl p.pa m.a m.b m.p=true:=by
 have:=o.so
 have hw:wayN p.zs p.bl p.ca m.a m.b=4:=by unfold wayN;rw[o.kd,hk];rfl
 simp only[err3,hw,Bool.or_eq_false_iff]at this
 have hg:=iE (bl:=p.bl) (_ca:=p.ca) (pa:=p.pa) (pr:=m.p) o.h o.hl o.ha o.hb o.hp
 rw[hk]at hg
 rw[hg]at this
 simp only[decide_true,cond_true]at this
 have h2:=this.2
 cases hpn:pnL p.f p.r p.zs p.bl p.pa m.a m.b m.p with
 |true=>rfl
 |false=>rw[hpn]at h2;simp[wayB]at h2
theorem MvOk.steps(o:MvOk p m)(hk:aW (p.zs.getD m.a.toNat 0)=1) :
  (cj p.f p.r p.bl m.a (occR p.f p.r p.zs) m.b=true\/(dK p.f p.bl m.a m.b=true/\(p.zs.getD m.b.toNat 0≠0\/m.b=p.pa)))/\(m.p≠0↔py p.f m.b=fa p.r p.bl):=by
 have h:=o.pawn hk
 have hin:∀ c:Int->Bool,hasL m.b (cB c id (p.f*p.r).toNat)=c m.b:=fun c=>by
  rw[Bool.eq_iff_iff,kS,ey]
  have:=aL o.hb
  exact⟨fun h=>h.2.2,fun h=>⟨this.1,by omega,h⟩⟩
 unfold pnL at h
 rw[hin,hin,nR o.bd o.hl]at h
 rw[(dM o.hb).1]at h
 cases h1:(!(decide (py p.f m.b=fa p.r p.bl)==!decide (m.p=0))) with
 |true=>rw[h1]at h;cases h
 |false=>
  rw[h1,cond_false]at h
  refine⟨?_,?_⟩
  ·cases h2:cj p.f p.r p.bl m.a (occR p.f p.r p.zs) m.b with
   |true=>exact .inl rfl
   |false=>
    rw[h2,cond_false,Bool.and_eq_true,Bool.or_eq_true,decide_eq_true_eq,Bool.not_eq_true',decide_eq_false_iff_not]at h
    exact .inr h
  ·by_cases h3:py p.f m.b=fa p.r p.bl<;>by_cases h4:m.p=0<;>simp[h3,h4]at h1 ⊢
theorem OG(bl:Bool):i64.wrap (2*fwd bl)=2*fwd bl:=by cases bl<;>decide
theorem xb{f r a b:Int}{bl:Bool}{occ:Int}(ha:aj f r a=true)(hb:aj f r b=true)(h:cj f r bl a occ b=true) :
  px f b=px f a/\((py f b=py f a+fwd bl)\/(py f b=py f a+2*fwd bl/\py f a=secR r bl/\6<=r/\aj f r (b-fwd bl*f)=true/\hasB occ (b-fwd bl*f)=false)):=by
 have hv:=(bM ha)
 obtain⟨a0,a1,a2,a3,a4,a5,a6⟩:=dM ha
 obtain⟨_,b1,b2,b3,b4,b5,_⟩:=dM hb
 have hfw:fwd bl=1\/fwd bl=-1:=by cases bl<;>simp[fwd]
 have hone:one4 f r bl a=numR f r (px f a) (py f a+fwd bl):=by unfold one4;rw[a0,ay (by omega) (by omega)]
 have htwo:two4 f r bl a=numR f r (px f a) (py f a+2*fwd bl):=by unfold two4;rw[a0,OG,ay (by omega) (by omega)]
 simp only[cj,Bool.or_eq_true,Bool.and_eq_true,decide_eq_true_eq,Bool.not_eq_true']at h
 rw[hone,htwo,a0]at h
 have hbn:∀ {X Y:Int},b=numR f r X Y->px f b=X/\py f b=Y:=by
  intro X Y e
  rcases gC f r X Y hv with⟨ho,_⟩|⟨_,hn⟩
  ·exact(iV hv ho hb).1 e.symm
  ·have:=(aL hb).1;omega
 rcases h with⟨h1,_⟩|⟨⟨⟨⟨h1,h2⟩,h3⟩,h4⟩,_⟩
 ·obtain⟨e1,e2⟩:=hbn h1
  exact⟨e1,.inl e2⟩
 ·obtain⟨e1,e2⟩:=hbn h1
  refine⟨e1,.inr ⟨e2,h3,h2,?_⟩⟩
  have ho:onB f r (px f a) (py f a+fwd bl)=true:=jC a1 a2 (by omega) (by omega)
  obtain⟨v1,v2,v3⟩:=ig hv ho
  have heq:px f a+(py f a+fwd bl)*f=b-fwd bl*f:=by
   rw[<-b5,e1,e2]
   rw[Int.add_mul,Int.add_mul,Int.mul_assoc];omega
  rw[heq]at v1 v2 v3
  exact⟨v1,by rw[<-(iV hv ho v1).2 ⟨v2,v3⟩];exact h4⟩
theorem MvOk.ep(o:MvOk p m)(hk:aW (p.zs.getD m.a.toNat 0)=1)(hb:m.b=p.pa) :
  at1R p.f p.zs p.pa m.a m.b=m.b-fwd p.bl*p.f/\aj p.f p.r (m.b-fwd p.bl*p.f)=true/\p.zs.getD (m.b-fwd p.bl*p.f).toNat 0=ofP 1 (!p.bl)/\numR p.f p.r (m.b.tmod p.f) (i64.wrap (m.a.tdiv p.f))=m.b-fwd p.bl*p.f/\p.zs.getD m.b.toNat 0=0/\dK p.f p.bl m.a m.b=true:=by
 have hbd:=o.bd
 have hv:=(bg hbd).1
 obtain⟨a0,a1,a2,a3,a4,a5,a6⟩:=dM o.ha
 obtain⟨b0,b1,b2,b3,b4,b5,_⟩:=dM o.hb
 have hps:=o.pass
 have hb0:=(aL o.hb).1
 simp only[iQ,Bool.or_eq_true,Bool.and_eq_true,decide_eq_true_eq,<-hb]at hps
 rcases hps with hps|⟨⟨⟨⟨⟨⟨p1,p2⟩,p3⟩,p4⟩,p5⟩,p6⟩,p7⟩
 ·omega
 obtain⟨n1,n2,n3,n4,n5,n6,n7⟩:=jH (bl:=p.bl) hbd p1 o.hb p4
 have hfw:fwd p.bl=1\/fwd p.bl=-1:=by cases p.bl<;>simp[fwd]
 have hup:i64.wrap (m.b+upP p.f p.bl)=m.b-fwd p.bl*p.f:=by
  cases hbl:p.bl
  ·simp only[upP,fwd,cond_false,n5,n7];omega
  ·simp only[upP,fwd,cond_true,n4];omega
 rw[hup]at p7
 have hvd:aj p.f p.r (m.b-fwd p.bl*p.f)=true:=by
  refine(bN hbd).2 ?_
  rcases hfw with e|e<;>rw[e]<;>constructor<;>omega
 have hat:dK p.f p.bl m.a m.b=true:=by
  rcases(o.steps hk).1 with h|h
  ·exfalso
   obtain⟨e1,h2⟩:=xb o.ha o.hb h
   rcases h2 with e2|⟨_,_,_,_,h5⟩
   ·have:m.b-fwd p.bl*p.f=m.a:=by rw[<-b5,<-a5,e1,e2,Int.add_mul];omega
    rw[this]at p7
    exact yO o.hp p7
   ·obtain⟨hou,hob⟩:=jS hbd o.hl
    rw[iK hou hvd,hob,p7]at h5
    have hlt:=(bN hbd).1 hvd
    rw[decide_eq_true (show (m.b-fwd p.bl*p.f).toNat<p.zs.length by omega),decide_eq_false (show ¬ ofP 1 (!p.bl)=0 by cases p.bl<;>decide)]at h5
    cases h5
  ·exact h.1
 have hpy:py p.f m.b=py p.f m.a+fwd p.bl:=by
  have:=hat
  simp only[dK,Bool.and_eq_true,decide_eq_true_eq]at this
  rw[pc_w o.ha o.hb]at this
  omega
 have hsq:px p.f m.b+py p.f m.a*p.f=m.b-fwd p.bl*p.f:=by
  have:py p.f m.b*p.f=py p.f m.a*p.f+fwd p.bl*p.f:=by rw[hpy,Int.add_mul]
  omega
 have hlt:=(aL hvd)
 refine⟨?_,hvd,p7,?_,p5,hat⟩
 ·have hepB:epB p.zs p.pa m.a m.b=true:=by simp only[epB,o.kd,hk,hb,decide_true,Bool.and_self]
  unfold at1R
  rw[hepB,cond_true]
  have e1:m.a.tmod p.f=px p.f m.a:=rfl
  have e2:m.b.tmod p.f=px p.f m.b:=rfl
  rw[e1,e2]
  have hla:=aL o.ha
  rw[ay (n:=m.a-px p.f m.a) (by omega) (by omega)]
  rw[show m.a-px p.f m.a+px p.f m.b=m.b-fwd p.bl*p.f by omega,ay (by omega) (by omega)]
 ·rw[a0]
  have ho:onB p.f p.r (px p.f m.b) (py p.f m.a)=true:=jC b1 b2 a3 a4
  obtain⟨v1,v2,v3⟩:=ig hv ho
  rw[hsq]at v1 v2 v3
  exact(iV hv ho v1).2 ⟨v2,v3⟩
theorem MvOk.cap(o:MvOk p m):capL p.f p.r p.zs p.pa m.a m.b=at2R p.f p.zs p.pa m.a m.b/\(0<=at2R p.f p.zs p.pa m.a m.b->at2R p.f p.zs p.pa m.a m.b<p.zs.length/\isP (p.zs.getD (at2R p.f p.zs p.pa m.a m.b).toNat 0) (!p.bl)=true/\at2R p.f p.zs p.pa m.a m.b≠m.a/\at2R p.f p.zs p.pa m.a m.b=at1R p.f p.zs p.pa m.a m.b) /\
  (at2R p.f p.zs p.pa m.a m.b<0->at2R p.f p.zs p.pa m.a m.b=-1/\capR p.f p.zs p.pa m.a m.b=0/\p.zs.getD m.b.toNat 0=0)/\(0<=at2R p.f p.zs p.pa m.a m.b->capR p.f p.zs p.pa m.a m.b≠0):=by
 have ⟨⟨sa0,sa1⟩,⟨sb0,sb1⟩⟩:=o.sq
 cases hep:(decide (aW (p.zs.getD m.a.toNat 0)=1)&&decide (m.b=p.pa)) with
 |true=>
  simp only[Bool.and_eq_true,decide_eq_true_eq]at hep
  obtain⟨e1,e2,e3,e4,e5,e6⟩:=o.ep hep.1 hep.2
  have hc:capR p.f p.zs p.pa m.a m.b=ofP 1 (!p.bl):=by unfold capR;rw[e1,e3]
  have hnz:ofP 1 (!p.bl)≠0:=by cases p.bl<;>decide
  have h2:at2R p.f p.zs p.pa m.a m.b=m.b-fwd p.bl*p.f:=by unfold at2R;rw[hc,decide_eq_false hnz,cond_false,e1]
  have hcl:capL p.f p.r p.zs p.pa m.a m.b=m.b-fwd p.bl*p.f:=by unfold capL;rw[decide_eq_true hep.1,decide_eq_true hep.2];exact e4
  have hlt:=(bN o.bd).1 e2
  refine⟨by rw[hcl,h2],fun _=>⟨by rw[h2];exact hlt.2,?_,?_,by rw[h2,e1]⟩,fun hh=>(by rw[h2]at hh;omega),fun _=>by rw[hc];exact hnz⟩
  ·rw[h2,e3];cases p.bl<;>decide
  ·rw[h2]
   intro he
   rw[he]at e3
   exact yO o.hp e3
 |false=>
  have hepB:epB p.zs p.pa m.a m.b=false:=by unfold epB;rw[o.kd];exact hep
  have h1:at1R p.f p.zs p.pa m.a m.b=m.b:=by unfold at1R;rw[hepB];rfl
  have hc:capR p.f p.zs p.pa m.a m.b=p.zs.getD m.b.toNat 0:=by unfold capR;rw[h1]
  unfold capL at2R
  rw[hep,hc,h1,cond_false]
  by_cases hz:p.zs.getD m.b.toNat 0=0
  ·simp only[decide_eq_true hz,Bool.not_true,cond_true,cond_false]
   exact⟨trivial,fun hh=>absurd hh (by decide),fun _=>⟨trivial,hz,hz⟩,fun hh=>absurd hh (by decide)⟩
  ·simp only[decide_eq_false hz,Bool.not_false,cond_true,cond_false]
   have h5:=FD hz o.nto
   exact⟨trivial,fun _=>⟨sb1,h5,fun e=>o.hab e.symm,trivial⟩,fun hh=>absurd hh (by omega),fun _=>hz⟩
end
end
end Go.Ab
namespace Go.Ab
abbrev iL(l:List Int):List Int:=l
structure Siz where
 f:Int
 r:Int
structure Sgt where
 p:Psn
 own:Int
 all:Int
end Go.Ab
namespace Go.Ab
open IntKind
open Go.Proofs
section
variable{kCa kDb:Bool}
def jr:List (List Int)->List (List Int)->Int->Option (Int ⊕ Unit ⊕ Bool):=fun(a b:List (List Int)) (s6:Int)=>let x13:=(a.getD s6.toNat []).getD 1 0;let x14:=(a.getD s6.toNat []).getD 0 0;let x15:=(b.getD s6.toNat []).getD 2 0;let x16:=(a.getD s6.toNat []).getD 2 0;let x17:=(b.getD s6.toNat []).getD 1 0;let x18:=(b.getD s6.toNat []).getD 0 0;let x19:=decide (s6<Int.ofNat a.length);let x20:=decide (0<=s6);bif x19 then aX (x20&&x19) (aX (x20&&decide (s6<Int.ofNat b.length)) (bif !(decide (x14=x18)&&(decide (x13=x17)&&decide (x16=x15)))then escO (escO (some false))else some (Sum.inl (i64.wrap (s6+1)))))else some (Sum.inr (Sum.inl ()))
def Be(a:List (List Int))(b:List (List Int)):Option (Bool):=bif !decide (Int.ofNat a.length=Int.ofNat b.length)then some false else cV (jr a b) (fun(_s11:Unit)=>some true) 1000000 0
def xD(R:Bool):V:=Bb R
def wI(_R:Bool):List O:=[]
def wk:CF
 |[.sl 0 0 a_0n none,.sl 1 0 b_0n none],[.rows false [.i64,.i64,.i8] a_0,.rows false [.i64,.i64,.i8] b_0]=>retC (decide (a_0n=a_0.length)&&decide (b_0n=b_0.length)) (Be a_0 b_0) false xD wI
 |_,_=>none
theorem Gt(a:List (List Int))(b:List (List Int)){r}(hr:Be a b=some r):aJ (GGx kCa kDb) PP 19 [.sl 0 0 a.length none,.sl 1 0 b.length none] [.rows false [.i64,.i64,.i8] a,.rows false [.i64,.i64,.i8] b] (xD r) (wI r):=by
 have hE:=cutE (aB (kCa:=kCa) (kDb:=kDb) (cts:=[]) (inl:=[]) trivial trivial)
 refine cH hE 2 Tryz.func19 rfl rfl xD wI hr ?_ rfl rfl
 refine aK hE 2 rfl ?_ ?_
 ·exact aR (aO [] (.inr rfl) rfl rfl rfl rfl rfl)
 refine dc hE 2 (fun(s6:Int)=>([(0,V.sl 0 0 a.length none),(1,V.sl 1 0 b.length none),(4,Bb false),(5,I s6)],[O.rows false [i64,i64,i8] a,O.rows false [i64,i64,i8] b])) (fun(s11:Unit)=>([(4,Bb false)],[O.rows false [i64,i64,i8] a,O.rows false [i64,i64,i8] b])) (.exit 0) ((Ent.rn [0,1] [0,1,4,5] rfl rfl rfl rfl rfl)) (fun s6=>?_) (fun s11=>?_)
 ·refine aK hE 2 rfl ?_ ?_
  ·refine av rfl ?_
   refine bI ?_
   refine bI ?_
   refine aK hE 2 rfl ?_ ?_
   ·refine pM (by simp) (kP ?_)
    exact aR (aO [] (.inr rfl) rfl rfl rfl rfl rfl)
   exact cO ((Ent.rn [0,1] [0,1,4,5] rfl rfl rfl rfl rfl))
  exact cS ((Ent.rn [0,1] [4] rfl rfl rfl rfl rfl))
 exact aR (aO [] (.inr rfl) rfl rfl rfl rfl rfl)
theorem BK:CtOk (GGx kCa kDb) PP (19,wk):=by
 refine aD Tryz.func19 (by kernel_rfl) rfl fun a0 h0 c0 v0 N0 e hc=>?_
 unfold wk at e
 split at e
 ·rename_i a_0n b_0n a_0 b_0
  obtain⟨hl,r,hr,rfl,rfl⟩:=bJ e hc
  simp only[Bool.and_eq_true,decide_eq_true_eq]at hl
  obtain⟨rfl,rfl⟩:=hl
  exact Gt a_0 b_0 hr
 ·cases e
end
end Go.Ab
namespace Go.Ab
open Go.Proofs
section
variable{kDb:Bool}
end
section
variable{kDb:Bool}
end
end Go.Ab
namespace Go.Ab
open IntKind
open Go.Proofs
section
variable{kCa kDb:Bool}
def sg(p:Psn):Option (Sgt):=let x18:=List.take p.zs.length (List.drop 0 p.zs);let x15:=(eY p.f p.r x18).snd.1;let x16:=(eY p.f p.r x18).fst;let x17:=x18.length;aX (decide (x17<=1000000)) (dN (bif p.bl then some (Sum.inl x15)else some (Sum.inl x16)) fun(s4:Int)=>some (Sgt.mk (Psn.mk p.f p.r p.zs p.bl p.ca p.pa p.ha p.fu) s4 (band Go.BinOp.or u64 x16 x15)))
def wO(R:Sgt):V:=.agg [.int .i64 R.p.f,.int .i64 R.p.r,.sl 0 0 R.p.zs.length none,Bb R.p.bl,.int .u8 R.p.ca,.int .i64 R.p.pa,.int .i64 R.p.ha,.int .i64 R.p.fu,.int .u64 R.own,.int .u64 R.all]
def wz(_R:Sgt):List O:=[]
def qN:CF
 |[.agg [.int .i64 p_0,.int .i64 p_1,.sl 0 0 p_2n none,.bool p_3,.int .u8 p_4,.int .i64 p_5,.int .i64 p_6,.int .i64 p_7]],[.ints false .i8 p_2]=>retC (decide (p_2n=p_2.length)) (sg ⟨p_0,p_1,p_2,p_3,p_4,p_5,p_6,p_7⟩) ⟨⟨0,0,[],false,0,0,0,0⟩,0,0⟩ wO wz
 |_,_=>none
theorem Cn(p:Psn){r}(hr:sg p=some r):aJ (GGx kCa kDb) PP 102 [.agg [.int .i64 p.f,.int .i64 p.r,.sl 0 0 p.zs.length none,Bb p.bl,.int .u8 p.ca,.int .i64 p.pa,.int .i64 p.ha,.int .i64 p.fu]] [.ints false .i8 p.zs] (wO r) (wz r):=by
 have hE:=cutE (aB (kCa:=kCa) (kDb:=kDb) (cts:=[(149,oT)]) (inl:=[]) ⟨kH,trivial⟩ trivial)
 refine cH hE 2 Tryz.func102 rfl rfl wO wz hr ?_ rfl rfl
 refine cN (pl (decide_eq_true (aN rfl)) id) ?_
 refine dg hE 2 (let x20:=List.take p.zs.length (List.drop 0 p.zs);fun(s4:Int)=>([(2,V.ptr 1 0 0),(6,V.ptr 2 0 0)],[O.ints false i8 p.zs,O.cells true [I 0,I 0,V.nils,Bb false,V.int u8 0,I 0,I 0,I 0,U 0,U 0],O.cells true [I p.f,I p.r,V.sl 0 0 p.zs.length none,Bb p.bl,V.int u8 p.ca,I p.pa,I p.ha,I p.fu,U s4,U (band Go.BinOp.or u64 (eY p.f p.r x20).fst (eY p.f p.r x20).snd.1)]])) rfl ?_ ?_ (fun s4=>?_)
 ·exact bR ((Ent.rn [0,2,3] [2,6] rfl rfl rfl rfl rfl))
 ·exact bR ((Ent.rn [0,2,3] [2,6] rfl rfl rfl rfl rfl))
 exact aR (aO [] (.inr rfl) rfl rfl rfl rfl rfl)
theorem pJ:CtOk (GGx kCa kDb) PP (102,qN):=by
 refine aD Tryz.func102 (by kernel_rfl) rfl fun a0 h0 c0 v0 N0 e hc=>?_
 unfold qN at e
 split at e
 ·rename_i p_0 p_1 p_2n p_3 p_4 p_5 p_6 p_7 p_2
  obtain⟨hl,r,hr,rfl,rfl⟩:=bJ e hc
  simp only[decide_eq_true_eq]at hl
  obtain rfl:=hl
  exact Cn ⟨p_0,p_1,p_2,p_3,p_4,p_5,p_6,p_7⟩ hr
 ·cases e
def wC(p:Int):Option (Int):=some (imax true p (i8.wrap (0-p)))
def xM(R:Int):V:=.int .i8 R
def wq(_R:Int):List O:=[]
def sN:CF
 |[.int .i8 p_0],[]=>retC true (wC p_0) 0 xM wq
 |_,_=>none
theorem DC(p:Int){r}(hr:wC p=some r):aJ (GGx kCa kDb) PP 151 [.int .i8 p] [] (xM r) (wq r):=by
 have hE:=cutE (aB (kCa:=kCa) (kDb:=kDb) (cts:=[]) (inl:=[]) trivial trivial)
 refine cH hE 2 Tryz.func151 rfl rfl xM wq hr ?_ rfl rfl
 exact aR (aO [] (.inr rfl) rfl rfl rfl rfl rfl)
theorem pR:CtOk (GGx kCa kDb) PP (151,sN):=by
 refine aD Tryz.func151 (by kernel_rfl) rfl fun a0 h0 c0 v0 N0 e hc=>?_
 unfold sN at e
 split at e
 ·rename_i p_0
  obtain⟨hl,r,hr,rfl,rfl⟩:=bJ e hc
  exact DC p_0 hr
 ·cases e
def Aw(s:Sgt)(at_:Int):Option (Bool):=let x4:=i64.wrap (s.p.f*i64.wrap (s.p.r-1));bif s.p.bl then some (decide (at_<s.p.f))else some (decide (x4<=at_))
def xH(R:Bool):V:=Bb R
def xk(_R:Bool):List O:=[]
def xq:CF
 |[.agg [.int .i64 s_0,.int .i64 s_1,.sl 0 0 s_2n none,.bool s_3,.int .u8 s_4,.int .i64 s_5,.int .i64 s_6,.int .i64 s_7,.int .u64 s_8,.int .u64 s_9],.int .i64 at__0],[.ints false .i8 s_2]=>retC (decide (s_2n=s_2.length)) (Aw ⟨⟨s_0,s_1,s_2,s_3,s_4,s_5,s_6,s_7⟩,s_8,s_9⟩ at__0) false xH xk
 |_,_=>none
theorem Ee(s:Sgt)(at_:Int){r}(hr:Aw s at_=some r):aJ (GGx kCa kDb) PP 152 [.agg [.int .i64 s.p.f,.int .i64 s.p.r,.sl 0 0 s.p.zs.length none,Bb s.p.bl,.int .u8 s.p.ca,.int .i64 s.p.pa,.int .i64 s.p.ha,.int .i64 s.p.fu,.int .u64 s.own,.int .u64 s.all],.int .i64 at_] [.ints false .i8 s.p.zs] (xH r) (xk r):=by
 have hE:=cutE (aB (kCa:=kCa) (kDb:=kDb) (cts:=[]) (inl:=[]) trivial trivial)
 refine cH hE 2 Tryz.func152 rfl rfl xH xk hr ?_ rfl rfl
 refine aK hE 2 rfl ?_ ?_
 ·exact aR (aO [] (.inr rfl) rfl rfl rfl rfl rfl)
 exact aR (aO [] (.inr rfl) rfl rfl rfl rfl rfl)
theorem BH:CtOk (GGx kCa kDb) PP (152,xq):=by
 refine aD Tryz.func152 (by kernel_rfl) rfl fun a0 h0 c0 v0 N0 e hc=>?_
 unfold xq at e
 split at e
 ·rename_i s_0 s_1 s_2n s_3 s_4 s_5 s_6 s_7 s_8 s_9 at__0 s_2
  obtain⟨hl,r,hr,rfl,rfl⟩:=bJ e hc
  simp only[decide_eq_true_eq]at hl
  obtain rfl:=hl
  exact Ee ⟨⟨s_0,s_1,s_2,s_3,s_4,s_5,s_6,s_7⟩,s_8,s_9⟩ at__0 hr
 ·cases e
end
section
variable{kCa kDb:Bool}
def uis(p:Psn)(m:Mov):Option (Bool):=let x4:=!decide (p.zs.getD m.a.toNat 0=0)&&decide (p.zs.getD m.a.toNat 0<0)==p.bl;let x6:=List.take p.zs.length (List.drop 0 p.zs);let x5:=x6.length;aX (decide (0<=m.a)&&decide (m.a<Int.ofNat p.zs.length)) (aX (!x4||decide (x5<=64)&&(aC p.f p.r x6&&cJ p.f p.r x6 p.ca&&aj p.f p.r m.a&&aj p.f p.r m.b)) (some (x4&&soL p.f p.r x6 p.bl p.ca p.pa m.a m.b m.p)))
def Lx(R:Bool):V:=Bb R
def Mc(_R:Bool):List O:=[]
def Kj:CF
 |[.agg [.int .i64 p_0,.int .i64 p_1,.sl 0 0 p_2n none,.bool p_3,.int .u8 p_4,.int .i64 p_5,.int .i64 p_6,.int .i64 p_7],.agg [.int .i64 m_0,.int .i64 m_1,.int .i8 m_2]],[.ints false .i8 p_2]=>retC (decide (p_2n=p_2.length)) (uis ⟨p_0,p_1,p_2,p_3,p_4,p_5,p_6,p_7⟩ ⟨m_0,m_1,m_2⟩) false Lx Mc
 |_,_=>none
theorem KL(p:Psn)(m:Mov){r}(hr:uis p m=some r):aJ (GGx kCa kDb) PP 148 [.agg [.int .i64 p.f,.int .i64 p.r,.sl 0 0 p.zs.length none,Bb p.bl,.int .u8 p.ca,.int .i64 p.pa,.int .i64 p.ha,.int .i64 p.fu],.agg [.int .i64 m.a,.int .i64 m.b,.int .i8 m.p]] [.ints false .i8 p.zs] (Lx r) (Mc r):=by
 have hE:=cutE (aB (kCa:=kCa) (kDb:=kDb) (cts:=[(166,KQ)]) (inl:=[]) ⟨GR,trivial⟩ trivial)
 refine cH hE 2 Tryz.func148 rfl rfl Lx Mc hr ?_ rfl rfl
 refine bI ?_
 refine av (Bool.not_or_self _) ?_
 refine av (Bool.not_or_self _) ?_
 refine av (Bool.not_or_self _) ?_
 refine av (Bool.not_or_self _) ?_
 refine av (Bool.not_or_self _) ?_
 refine av (Bool.not_or_self _) ?_
 refine av (Bool.not_or_self _) ?_
 refine cN (pi (pb (pl (decide_eq_true (aN rfl)) id) id)) ?_
 refine av (Bool.not_or_self _) ?_
 exact aR (aO [] (.inr rfl) rfl rfl rfl rfl rfl)
theorem HK:CtOk (GGx kCa kDb) PP (148,Kj):=by
 refine aD Tryz.func148 (by kernel_rfl) rfl fun a0 h0 c0 v0 N0 e hc=>?_
 unfold Kj at e
 split at e
 ·rename_i p_0 p_1 p_2n p_3 p_4 p_5 p_6 p_7 m_0 m_1 m_2 p_2
  obtain⟨hl,r,hr,rfl,rfl⟩:=bJ e hc
  simp only[decide_eq_true_eq]at hl
  obtain rfl:=hl
  exact KL ⟨p_0,p_1,p_2,p_3,p_4,p_5,p_6,p_7⟩ ⟨m_0,m_1,m_2⟩ hr
 ·cases e
def ee:Psn->Int->List (List Int)×Int->List (List Int)×Int->Option (List (List Int)×Int ⊕ List (List Int) ⊕ List (List Int)×Int ⊕ List (List Int) ⊕ List (List Int)):=fun(p:Psn) (from_:Int) (s23:List (List Int)×Int)=>let x48:=iL [0,2,3,4,5];let x49:=Psn.mk p.f p.r (List.take p.zs.length (List.drop 0 p.zs)) p.bl p.ca p.pa p.ha p.fu;fun(s29:List (List Int)×Int)=>let x51:=(s29.1.length+1)*24;let x54:=x48.getD s29.2.toNat 0;let x52:=mvB p.f p.r from_ s23.2 x54;let x53:=Mov.mk from_ s23.2 x54;bif decide (s29.2<Int.ofNat 5)then aX (decide (0<=s29.2)&&decide (s29.2<Int.ofNat 5)) (aX (!x52||(uis x49 x53).isSome) (dN (bif x52&&(uis x49 x53).getD false then aX (decide (x51<=140737488355328)) (some (Sum.inl (s29.1++List.take 1 (List.drop 0 [iL [from_,s23.2,x54]]))))else some (Sum.inl s29.1)) fun(s31:List (List Int))=>some (Sum.inl (s31,i64.wrap (s29.2+1)))))else some (Sum.inr (Sum.inl s29.1))
def jE:Psn->Int->(Psn->Int->List (List Int)×Int->List (List Int)×Int->Option (List (List Int)×Int ⊕ List (List Int) ⊕ List (List Int)×Int ⊕ List (List Int) ⊕ List (List Int)))->List (List Int)×Int->Option (List (List Int)×Int ⊕ List (List Int) ⊕ List (List Int)):=fun(p:Psn) (from_:Int) (ee:Psn->Int->List (List Int)×Int->List (List Int)×Int->Option (List (List Int)×Int ⊕ List (List Int) ⊕ List (List Int)×Int ⊕ List (List Int) ⊕ List (List Int))) (s23:List (List Int)×Int)=>bif decide (s23.2<Int.ofNat p.zs.length)then cV (ee p from_ s23) (fun(s39:List (List Int))=>some (Sum.inl (s39,i64.wrap (s23.2+1)))) 1000000 (s23.1,0)else some (Sum.inr (Sum.inl s23.1))
def yo(p:Psn)(from_:Int):Option (List (List Int)):=cV (jE p from_ ee) (fun(s47:List (List Int))=>some s47) 1000000 ([],0)
def xZ(R:List (List Int)):V:=.sl 1 0 R.length none
def vK(R:List (List Int)):List O:=[.rows true [.i64,.i64,.i8] R]
def wc:CF
 |[.agg [.int .i64 p_0,.int .i64 p_1,.sl 0 0 p_2n none,.bool p_3,.int .u8 p_4,.int .i64 p_5,.int .i64 p_6,.int .i64 p_7],.int .i64 from__0],[.ints false .i8 p_2]=>retC (decide (p_2n=p_2.length)) (yo ⟨p_0,p_1,p_2,p_3,p_4,p_5,p_6,p_7⟩ from__0) [] xZ vK
 |_,_=>none
theorem Cy(p:Psn)(from_:Int){r}(hr:yo p from_=some r):aJ (GGx kCa kDb) PP 98 [.agg [.int .i64 p.f,.int .i64 p.r,.sl 0 0 p.zs.length none,Bb p.bl,.int .u8 p.ca,.int .i64 p.pa,.int .i64 p.ha,.int .i64 p.fu],.int .i64 from_] [.ints false .i8 p.zs] (xZ r) (vK r):=by
 have hE:=cutE (aB (kCa:=kCa) (kDb:=kDb) (cts:=[(147,nT),(148,Kj)]) (inl:=[]) ⟨vo,HK,trivial⟩ trivial)
 refine cH hE 2 Tryz.func98 rfl rfl xZ vK hr ?_ rfl rfl
 refine dc hE 2 (fun(s23:List (List Int)×Int)=>([(1,I from_),(2,V.ptr 1 0 0),(4,V.nils),(5,V.sl 2 0 s23.1.length none),(6,I s23.2)],[O.ints false i8 p.zs,O.cells true [I p.f,I p.r,V.sl 0 0 p.zs.length none,Bb p.bl,V.int u8 p.ca,I p.pa,I p.ha,I p.fu],O.rows true [i64,i64,i8] s23.1])) (fun(s47:List (List Int))=>([(4,V.nils),(5,V.sl 1 0 s47.length none)],[O.ints false i8 p.zs,O.rows true [i64,i64,i8] s47])) (.exit 0) ((Ent.phT 5 (O.rows true [i64,i64,i8] []) rfl rfl rfl rfl rfl).trans (Ent.rn [0,1,2] [1,2,4,5,6] rfl rfl rfl rfl rfl)) (fun s23=>?_) (fun s47=>?_)
 ·refine aK hE 2 rfl ?_ ?_
  ·refine dc hE 2 (fun(s29:List (List Int)×Int)=>([(1,I from_),(2,V.ptr 1 0 0),(4,V.nils),(5,V.sl 2 0 s29.1.length none),(6,I s23.2),(17,V.sl 3 0 5 none),(18,I (Int.ofNat 5)),(19,I s29.2)],[O.ints false i8 p.zs,O.cells true [I p.f,I p.r,V.sl 0 0 p.zs.length none,Bb p.bl,V.int u8 p.ca,I p.pa,I p.ha,I p.fu],O.rows true [i64,i64,i8] s29.1,O.ints true i8 (iL [0,2,3,4,5])])) (fun(s39:List (List Int))=>([(1,I from_),(2,V.ptr 1 0 0),(4,V.nils),(5,V.sl 2 0 s39.length none),(6,I s23.2)],[O.ints false i8 p.zs,O.cells true [I p.f,I p.r,V.sl 0 0 p.zs.length none,Bb p.bl,V.int u8 p.ca,I p.pa,I p.ha,I p.fu],O.rows true [i64,i64,i8] s39])) (.exit 2) ((Ent.rn [0,1,2,3] [1,2,4,5,6,17,18,19] rfl rfl rfl rfl rfl)) (fun s29=>?_) (fun s39=>?_)
   ·refine aK hE 2 rfl ?_ ?_
    ·refine bI ?_
     refine av rfl ?_
     refine av (Bool.not_or_self _) ?_
     refine av (Bool.not_or_self _) ?_
     refine cN (pi (pl (decide_eq_true (aN rfl)) id)) ?_
     refine av (Bool.not_or_self _) ?_
     refine dg hE 2 (fun(s31:List (List Int))=>([(1,I from_),(2,V.ptr 1 0 0),(4,V.nils),(5,V.sl 2 0 s31.length none),(6,I s23.2),(17,V.sl 3 0 5 none),(18,I (Int.ofNat 5)),(19,I s29.2)],[O.ints false i8 p.zs,O.cells true [I p.f,I p.r,V.sl 0 0 p.zs.length none,Bb p.bl,V.int u8 p.ca,I p.pa,I p.ha,I p.fu],O.rows true [i64,i64,i8] s31,O.ints true i8 (iL [0,2,3,4,5])])) rfl ?_ ?_ (fun s31=>?_)
     ·refine cN (pr (pl (decide_eq_true rfl) id) rfl) ?_
      exact bR ((Ent.rn [0,1,6,3] [1,2,4,5,6,17,18,19] rfl rfl rfl rfl rfl))
     ·exact bR ((Ent.rn [0,1,2,3] [1,2,4,5,6,17,18,19] rfl rfl rfl rfl rfl))
     exact cO ((Ent.rn [0,1,2,3] [1,2,4,5,6,17,18,19] rfl rfl rfl rfl rfl))
    exact cS ((Ent.rn [0,1,2] [1,2,4,5,6] rfl rfl rfl rfl rfl))
   exact cO ((Ent.rn [0,1,2] [1,2,4,5,6] rfl rfl rfl rfl rfl))
  exact cS ((Ent.rn [0,2] [4,5] rfl rfl rfl rfl rfl))
 exact aR (aO [1] (.inr rfl) rfl rfl rfl rfl rfl)
theorem AX:CtOk (GGx kCa kDb) PP (98,wc):=by
 refine aD Tryz.func98 (by kernel_rfl) rfl fun a0 h0 c0 v0 N0 e hc=>?_
 unfold wc at e
 split at e
 ·rename_i p_0 p_1 p_2n p_3 p_4 p_5 p_6 p_7 from__0 p_2
  obtain⟨hl,r,hr,rfl,rfl⟩:=bJ e hc
  simp only[decide_eq_true_eq]at hl
  obtain rfl:=hl
  exact Cy ⟨p_0,p_1,p_2,p_3,p_4,p_5,p_6,p_7⟩ from__0 hr
 ·cases e
def AS(s:Siz)(a:Int)(b:Int):Option (Int×Int):=let x5:=(aU s.f s.r a).snd.1;let x6:=(aU s.f s.r a).snd.2;let x7:=(aU s.f s.r b).snd.1;let x8:=(aU s.f s.r b).snd.2;bif !decide (x6=0)||!decide (x8=0)then some (0,2)else some (imax true (imax true (imax true (i64.wrap ((aU s.f s.r a).fst-(aU s.f s.r b).fst)) (i64.wrap ((aU s.f s.r b).fst-(aU s.f s.r a).fst))) (i64.wrap (x5-x7))) (i64.wrap (x7-x5)),0)
def vV(R:Int×Int):V:=.tup [.int .i64 R.1,.int .i64 R.2]
def vE(_R:Int×Int):List O:=[]
def yb:CF
 |[.agg [.int .i64 s_0,.int .i64 s_1],.int .i64 a_0,.int .i64 b_0],[]=>retC true (AS ⟨s_0,s_1⟩ a_0 b_0) (0,0) vV vE
 |_,_=>none
theorem FM(s:Siz)(a:Int)(b:Int){r}(hr:AS s a b=some r):aJ (GGx kCa kDb) PP 52 [.agg [.int .i64 s.f,.int .i64 s.r],.int .i64 a,.int .i64 b] [] (vV r) (vE r):=by
 have hE:=cutE (aB (kCa:=kCa) (kDb:=kDb) (cts:=[(97,kQ)]) (inl:=[]) ⟨ir,trivial⟩ trivial)
 refine cH hE 2 Tryz.func52 rfl rfl vV vE hr ?_ rfl rfl
 refine av rfl ?_
 refine av rfl ?_
 refine av (Bool.not_or_self _) ?_
 refine av (Bool.or_not_self _) ?_
 refine aK hE 2 rfl ?_ ?_
 ·exact aR (aO [] (.inr rfl) rfl rfl rfl rfl rfl)
 exact aR (aO [] (.inr rfl) rfl rfl rfl rfl rfl)
theorem Bp:CtOk (GGx kCa kDb) PP (52,yb):=by
 refine aD Tryz.func52 (by kernel_rfl) rfl fun a0 h0 c0 v0 N0 e hc=>?_
 unfold yb at e
 split at e
 ·rename_i s_0 s_1 a_0 b_0
  obtain⟨hl,r,hr,rfl,rfl⟩:=bJ e hc
  exact FM ⟨s_0,s_1⟩ a_0 b_0 hr
 ·cases e
def spawn(s:Sgt)(from_:Int):Option (Int):=let x6:=decide (0<=s.p.pa);dN (bif x6 then aX x6 (some (Sum.inl (band Go.BinOp.or u64 (band Go.BinOp.andNot u64 s.all s.own) (u64.wrap (1*2^Min.min s.p.pa.toNat u64.bits)))))else some (Sum.inl (band Go.BinOp.andNot u64 s.all s.own))) fun(s5:Int)=>some (band Go.BinOp.or u64 (dm s.p.f s.p.r s.p.bl from_ s.all).fst (band Go.BinOp.and u64 (gg s.p.f s.p.r s.p.bl from_).fst s5))
def wZ(R:Int):V:=.int .u64 R
def xV(_R:Int):List O:=[]
def yt:CF
 |[.agg [.int .i64 s_0,.int .i64 s_1,.sl 0 0 s_2n none,.bool s_3,.int .u8 s_4,.int .i64 s_5,.int .i64 s_6,.int .i64 s_7,.int .u64 s_8,.int .u64 s_9],.int .i64 from__0],[.ints false .i8 s_2]=>retC (decide (s_2n=s_2.length)) (spawn ⟨⟨s_0,s_1,s_2,s_3,s_4,s_5,s_6,s_7⟩,s_8,s_9⟩ from__0) 0 wZ xV
 |_,_=>none
theorem Cq(s:Sgt)(from_:Int){r}(hr:spawn s from_=some r):aJ (GGx kCa kDb) PP 170 [.agg [.int .i64 s.p.f,.int .i64 s.p.r,.sl 0 0 s.p.zs.length none,Bb s.p.bl,.int .u8 s.p.ca,.int .i64 s.p.pa,.int .i64 s.p.ha,.int .i64 s.p.fu,.int .u64 s.own,.int .u64 s.all],.int .i64 from_] [.ints false .i8 s.p.zs] (wZ r) (xV r):=by
 have hE:=cutE (aB (kCa:=kCa) (kDb:=kDb) (cts:=[(157,rj),(153,vx)]) (inl:=[]) ⟨pF,mR,trivial⟩ trivial)
 refine cH hE 2 Tryz.func170 rfl rfl wZ xV hr ?_ rfl rfl
 refine av rfl ?_
 refine av rfl ?_
 refine dg hE 2 (fun(s5:Int)=>([(4,U 0),(5,U (dm s.p.f s.p.r s.p.bl from_ s.all).fst),(7,U (gg s.p.f s.p.r s.p.bl from_).fst),(9,U s5)],[O.ints false i8 s.p.zs])) rfl ?_ ?_ (fun s5=>?_)
 ·refine bI ?_
  exact bR ((Ent.rn [0] [4,5,7,9] rfl rfl rfl rfl rfl))
 ·exact bR ((Ent.rn [0] [4,5,7,9] rfl rfl rfl rfl rfl))
 exact aR (aO [] (.inr rfl) rfl rfl rfl rfl rfl)
theorem AG:CtOk (GGx kCa kDb) PP (170,yt):=by
 refine aD Tryz.func170 (by kernel_rfl) rfl fun a0 h0 c0 v0 N0 e hc=>?_
 unfold yt at e
 split at e
 ·rename_i s_0 s_1 s_2n s_3 s_4 s_5 s_6 s_7 s_8 s_9 from__0 s_2
  obtain⟨hl,r,hr,rfl,rfl⟩:=bJ e hc
  simp only[decide_eq_true_eq]at hl
  obtain rfl:=hl
  exact Cq ⟨⟨s_0,s_1,s_2,s_3,s_4,s_5,s_6,s_7⟩,s_8,s_9⟩ from__0 hr
 ·cases e
end
section
variable{kCa kDb:Bool}
def FA(s:Sgt)(from_:Int):Option (Int):=let x21:=band Go.BinOp.and u64 (bS s.p.f s.p.r 60 56).fst s.all;let x22:=band Go.BinOp.and u64 (bS s.p.f s.p.r 60 63).fst s.all;let x23:=band Go.BinOp.and u64 (bS s.p.f s.p.r 4 0).fst s.all;let x24:=band Go.BinOp.and u64 (bS s.p.f s.p.r 4 7).fst s.all;let x25:=!decide (from_=60);let x26:=!decide (from_=4);dN (bif decide (band Go.BinOp.and u8 s.p.ca 1=0)||!s.p.bl==false||x26 then some (Sum.inl 0)else dN (bif decide (x24=0)then some (Sum.inl (band Go.BinOp.or u64 0 (u64.wrap (1*2^Min.min (Int.toNat 6) u64.bits))))else some (Sum.inl 0)) fun(s5:Int)=>some (Sum.inl s5)) fun(s7:Int)=>dN (bif decide (band Go.BinOp.and u8 s.p.ca 2=0)||!s.p.bl==false||x26 then some (Sum.inl s7)else dN (bif decide (x23=0)then some (Sum.inl (band Go.BinOp.or u64 s7 (u64.wrap (1*2^Min.min (Int.toNat 2) u64.bits))))else some (Sum.inl s7)) fun(s9:Int)=>some (Sum.inl s9)) fun(s11:Int)=>dN (bif decide (band Go.BinOp.and u8 s.p.ca 4=0)||!s.p.bl==true||x25 then some (Sum.inl s11)else dN (bif decide (x22=0)then some (Sum.inl (band Go.BinOp.or u64 s11 (u64.wrap (1*2^Min.min (Int.toNat 62) u64.bits))))else some (Sum.inl s11)) fun(s13:Int)=>some (Sum.inl s13)) fun(s15:Int)=>dN (bif decide (band Go.BinOp.and u8 s.p.ca 8=0)||!s.p.bl==true||x25 then some (Sum.inl s15)else dN (bif decide (x21=0)then some (Sum.inl (band Go.BinOp.or u64 s15 (u64.wrap (1*2^Min.min (Int.toNat 58) u64.bits))))else some (Sum.inl s15)) fun(s17:Int)=>some (Sum.inl s17)) fun(s19:Int)=>dN (escO (some s19)) fun(_s20:Unit)=>none
def vH(R:Int):V:=.int .u64 R
def ya(_R:Int):List O:=[]
def xh:CF
 |[.agg [.int .i64 s_0,.int .i64 s_1,.sl 0 0 s_2n none,.bool s_3,.int .u8 s_4,.int .i64 s_5,.int .i64 s_6,.int .i64 s_7,.int .u64 s_8,.int .u64 s_9],.int .i64 from__0],[.ints false .i8 s_2]=>retC (decide (s_2n=s_2.length)) (FA ⟨⟨s_0,s_1,s_2,s_3,s_4,s_5,s_6,s_7⟩,s_8,s_9⟩ from__0) 0 vH ya
 |_,_=>none
theorem Es(s:Sgt)(from_:Int){r}(hr:FA s from_=some r):aJ (GGx kCa kDb) PP 171 [.agg [.int .i64 s.p.f,.int .i64 s.p.r,.sl 0 0 s.p.zs.length none,Bb s.p.bl,.int .u8 s.p.ca,.int .i64 s.p.pa,.int .i64 s.p.ha,.int .i64 s.p.fu,.int .u64 s.own,.int .u64 s.all],.int .i64 from_] [.ints false .i8 s.p.zs] (vH r) (ya r):=by
 have hE:=cutE (aB (kCa:=kCa) (kDb:=kDb) (cts:=[(155,gz)]) (inl:=[]) ⟨uE,trivial⟩ trivial)
 refine cH hE 2 Tryz.func171 rfl rfl vH ya hr ?_ rfl rfl
 refine FE hE 2 5 ?_
 refine tZ (let x120:=[V.int u8 s.p.ca,I s.p.pa,I s.p.ha,I s.p.fu,U s.own,U s.all];let x122:=decide (band Go.BinOp.and u8 s.p.ca 1=0);let x123:=[I 4,I 7,I 6];let x124:=EE kCa kDb [(155,gz)] [];let x125:=i64.wrap (0+1);let x119:=x122||!s.p.bl==false;let x121:=V.int u8 1::V.lit false::x123;let x118:=(13,V.agg [V.int u8 8,V.lit true,I 60,I 56,I 58])::(12,V.agg [V.int u8 4,V.lit true,I 60,I 63,I 62])::(11,V.agg [V.int u8 2,V.lit false,I 4,I 0,I 2])::(10,V.agg x121)::(5,U 0)::(4,U 0)::(2,V.ptr 1 0 0)::bw 0 [V.agg (I s.p.f::I s.p.r::V.sl 0 0 s.p.zs.length none::Bb s.p.bl::x120),I from_];fun(s7:Int)=>([(1,I from_),(2,V.ptr 1 0 0),(4,U 0),(5,U s7),(7,V.ptr 2 0 0),(14,V.sl 3 0 4 none),(15,I (Int.ofNat 4)),(16,I x125),(17,Bb (decide (0<Int.ofNat 4))),(18,V.ptr 3 0 0),(19,V.agg x121),(20,V.ptr 1 0 0),(21,V.ptr 1 0 4),(22,V.int u8 s.p.ca),(23,V.ptr 2 0 0),(24,V.int u8 1),(25,V.int u8 (band Go.BinOp.and u8 s.p.ca 1)),(26,Bb x122),(27,Bb x122),(34,Bb x119),(35,Bb x119),(40,Bb (x119||!decide (from_=4))),(62,I x125)],[O.ints false i8 s.p.zs,O.cells true (I s.p.f::I s.p.r::V.sl 0 0 s.p.zs.length none::Bb s.p.bl::x120),O.cells true (V.int u8 1::Bb false::x123),O.vals true 5 [(evA (let __src:=x124;Env.mk __src.ty __src.G __src.pf __src.inl __src.cc __src.pn true) x118 (Go.Operand.tmp 10)).cells,(evA (let __src:=x124;Env.mk __src.ty __src.G __src.pf __src.inl __src.cc __src.pn true) x118 (Go.Operand.tmp 11)).cells,(evA (let __src:=x124;Env.mk __src.ty __src.G __src.pf __src.inl __src.cc __src.pn true) x118 (Go.Operand.tmp 12)).cells,(evA (let __src:=x124;Env.mk __src.ty __src.G __src.pf __src.inl __src.cc __src.pn true) x118 (Go.Operand.tmp 13)).cells]])) ?_ (fun s7=>?_)
 ·refine Aa hE 2 rfl rfl ?_
  refine av rfl ?_
  refine av (Bool.not_or_self _) ?_
  refine av (Bool.not_or_self _) ?_
  refine av (Bool.not_or_self _) ?_
  refine av (Bool.not_or_self _) ?_
  refine av (Bool.not_or_self _) ?_
  refine av (Bool.or_not_self _) ?_
  refine av (Bool.not_or_self _) ?_
  refine av (Bool.not_or_self _) ?_
  refine av (Bool.not_or_self _) ?_
  refine av (Bool.or_not_self _) ?_
  refine aK hE 2 rfl ?_ ?_
  ·exact gM ((Ent.rn [0,1,3,2] [1,2,4,5,7,14,15,16,17,18,19,20,21,22,23,24,25,26,27,34,35,40,62] rfl rfl rfl rfl rfl))
  refine av rfl ?_
  refine dg hE 2 (let x39:=[V.int u8 s.p.ca,I s.p.pa,I s.p.ha,I s.p.fu,U s.own,U s.all];let x41:=decide (band Go.BinOp.and u8 s.p.ca 1=0);let x42:=[I 4,I 7,I 6];let x44:=EE kCa kDb [(155,gz)] [];let x45:=(bS s.p.f s.p.r 4 7).fst;let x46:=(bS s.p.f s.p.r 4 7).snd;let x37:=[U x45,I x46];let x38:=x41||!s.p.bl==false;let x40:=V.int u8 1::V.lit false::x42;let x43:=band Go.BinOp.and u64 x45 s.all;let x36:=(13,V.agg [V.int u8 8,V.lit true,I 60,I 56,I 58])::(12,V.agg [V.int u8 4,V.lit true,I 60,I 63,I 62])::(11,V.agg [V.int u8 2,V.lit false,I 4,I 0,I 2])::(10,V.agg x40)::(5,U 0)::(4,U 0)::(2,V.ptr 1 0 0)::bw 0 [V.agg (I s.p.f::I s.p.r::V.sl 0 0 s.p.zs.length none::Bb s.p.bl::x39),I from_];fun(s5:Int)=>([(1,I from_),(2,V.ptr 1 0 0),(4,U 0),(5,U s5),(7,V.ptr 2 0 0),(8,U x45),(14,V.sl 3 0 4 none),(15,I (Int.ofNat 4)),(16,I 0),(17,Bb (decide (0<Int.ofNat 4))),(18,V.ptr 3 0 0),(19,V.agg x40),(20,V.ptr 1 0 0),(21,V.ptr 1 0 4),(22,V.int u8 s.p.ca),(23,V.ptr 2 0 0),(24,V.int u8 1),(25,V.int u8 (band Go.BinOp.and u8 s.p.ca 1)),(26,Bb x41),(27,Bb x41),(34,Bb x38),(35,Bb x38),(40,Bb (x38||!decide (from_=4))),(41,V.tup x37),(42,V.ptr 1 0 0),(43,V.ptr 1 0 0),(44,V.agg [I s.p.f,I s.p.r]),(45,V.ptr 2 0 2),(46,I 4),(47,V.ptr 2 0 3),(48,I 7),(49,V.tup x37),(50,U x45),(51,I x46),(52,U x45),(53,V.ptr 1 0 9),(54,U s.all),(55,U x43),(56,Bb (decide (x43=0)))],[O.ints false i8 s.p.zs,O.cells true (I s.p.f::I s.p.r::V.sl 0 0 s.p.zs.length none::Bb s.p.bl::x39),O.cells true (V.int u8 1::Bb false::x42),O.vals true 5 [(evA (let __src:=x44;Env.mk __src.ty __src.G __src.pf __src.inl __src.cc __src.pn true) x36 (Go.Operand.tmp 10)).cells,(evA (let __src:=x44;Env.mk __src.ty __src.G __src.pf __src.inl __src.cc __src.pn true) x36 (Go.Operand.tmp 11)).cells,(evA (let __src:=x44;Env.mk __src.ty __src.G __src.pf __src.inl __src.cc __src.pn true) x36 (Go.Operand.tmp 12)).cells,(evA (let __src:=x44;Env.mk __src.ty __src.G __src.pf __src.inl __src.cc __src.pn true) x36 (Go.Operand.tmp 13)).cells]])) rfl ?_ ?_ (fun s5=>?_)
  ·refine av rfl ?_
   exact bR ((Ent.rn [0,1,3,2] [1,2,4,5,7,8,14,15,16,17,18,19,20,21,22,23,24,25,26,27,34,35,40,41,42,43,44,45,46,47,48,49,50,51,52,53,54,55,56] rfl rfl rfl rfl rfl))
  ·exact bR ((Ent.rn [0,1,3,2] [1,2,4,5,7,8,14,15,16,17,18,19,20,21,22,23,24,25,26,27,34,35,40,41,42,43,44,45,46,47,48,49,50,51,52,53,54,55,56] rfl rfl rfl rfl rfl))
  exact gM ((Ent.rn [0,1,2,3] [1,2,4,5,7,14,15,16,17,18,19,20,21,22,23,24,25,26,27,34,35,40,62] rfl rfl rfl rfl rfl))
 refine tZ (let x110:=[V.int u8 s.p.ca,I s.p.pa,I s.p.ha,I s.p.fu,U s.own,U s.all];let x112:=decide (band Go.BinOp.and u8 s.p.ca 2=0);let x114:=[I 4,I 0,I 2];let x115:=EE kCa kDb [(155,gz)] [];let x116:=i64.wrap (0+1);let x109:=x112||!s.p.bl==false;let x111:=V.int u8 2::V.lit false::x114;let x113:=i64.wrap (x116+1);let x108:=(13,V.agg [V.int u8 8,V.lit true,I 60,I 56,I 58])::(12,V.agg [V.int u8 4,V.lit true,I 60,I 63,I 62])::(11,V.agg x111)::(10,V.agg [V.int u8 1,V.lit false,I 4,I 7,I 6])::(5,U 0)::(4,U 0)::(2,V.ptr 1 0 0)::bw 0 [V.agg (I s.p.f::I s.p.r::V.sl 0 0 s.p.zs.length none::Bb s.p.bl::x110),I from_];fun(s11:Int)=>([(1,I from_),(2,V.ptr 1 0 0),(4,U 0),(5,U s11),(7,V.ptr 2 0 0),(14,V.sl 3 0 4 none),(15,I (Int.ofNat 4)),(16,I x113),(17,Bb (decide (x116<Int.ofNat 4))),(18,V.ptr 3 1 0),(19,V.agg x111),(20,V.ptr 1 0 0),(21,V.ptr 1 0 4),(22,V.int u8 s.p.ca),(23,V.ptr 2 0 0),(24,V.int u8 2),(25,V.int u8 (band Go.BinOp.and u8 s.p.ca 2)),(26,Bb x112),(27,Bb x112),(34,Bb x109),(35,Bb x109),(40,Bb (x109||!decide (from_=4))),(62,I x113)],[O.ints false i8 s.p.zs,O.cells true (I s.p.f::I s.p.r::V.sl 0 0 s.p.zs.length none::Bb s.p.bl::x110),O.cells true (V.int u8 2::Bb false::x114),O.vals true 5 [(evA (let __src:=x115;Env.mk __src.ty __src.G __src.pf __src.inl __src.cc __src.pn true) x108 (Go.Operand.tmp 10)).cells,(evA (let __src:=x115;Env.mk __src.ty __src.G __src.pf __src.inl __src.cc __src.pn true) x108 (Go.Operand.tmp 11)).cells,(evA (let __src:=x115;Env.mk __src.ty __src.G __src.pf __src.inl __src.cc __src.pn true) x108 (Go.Operand.tmp 12)).cells,(evA (let __src:=x115;Env.mk __src.ty __src.G __src.pf __src.inl __src.cc __src.pn true) x108 (Go.Operand.tmp 13)).cells]])) ?_ (fun s11=>?_)
 ·refine Aa hE 2 rfl rfl ?_
  refine av rfl ?_
  refine av (Bool.not_or_self _) ?_
  refine av (Bool.not_or_self _) ?_
  refine av (Bool.not_or_self _) ?_
  refine av (Bool.not_or_self _) ?_
  refine av (Bool.not_or_self _) ?_
  refine av (Bool.or_not_self _) ?_
  refine av (Bool.not_or_self _) ?_
  refine av (Bool.not_or_self _) ?_
  refine av (Bool.not_or_self _) ?_
  refine av (Bool.or_not_self _) ?_
  refine aK hE 2 rfl ?_ ?_
  ·exact gM ((Ent.rn [0,1,4,3] [1,2,4,5,7,14,15,16,17,18,19,20,21,22,23,24,25,26,27,34,35,40,62] rfl rfl rfl rfl rfl))
  refine av rfl ?_
  refine dg hE 2 (let x51:=[V.int u8 s.p.ca,I s.p.pa,I s.p.ha,I s.p.fu,U s.own,U s.all];let x53:=decide (band Go.BinOp.and u8 s.p.ca 2=0);let x54:=[I 4,I 0,I 2];let x56:=EE kCa kDb [(155,gz)] [];let x57:=(bS s.p.f s.p.r 4 0).fst;let x58:=(bS s.p.f s.p.r 4 0).snd;let x59:=i64.wrap (0+1);let x49:=[U x57,I x58];let x50:=x53||!s.p.bl==false;let x52:=V.int u8 2::V.lit false::x54;let x55:=band Go.BinOp.and u64 x57 s.all;let x48:=(13,V.agg [V.int u8 8,V.lit true,I 60,I 56,I 58])::(12,V.agg [V.int u8 4,V.lit true,I 60,I 63,I 62])::(11,V.agg x52)::(10,V.agg [V.int u8 1,V.lit false,I 4,I 7,I 6])::(5,U 0)::(4,U 0)::(2,V.ptr 1 0 0)::bw 0 [V.agg (I s.p.f::I s.p.r::V.sl 0 0 s.p.zs.length none::Bb s.p.bl::x51),I from_];fun(s9:Int)=>([(1,I from_),(2,V.ptr 1 0 0),(4,U 0),(5,U s9),(7,V.ptr 2 0 0),(8,U x57),(14,V.sl 3 0 4 none),(15,I (Int.ofNat 4)),(16,I x59),(17,Bb (decide (x59<Int.ofNat 4))),(18,V.ptr 3 1 0),(19,V.agg x52),(20,V.ptr 1 0 0),(21,V.ptr 1 0 4),(22,V.int u8 s.p.ca),(23,V.ptr 2 0 0),(24,V.int u8 2),(25,V.int u8 (band Go.BinOp.and u8 s.p.ca 2)),(26,Bb x53),(27,Bb x53),(34,Bb x50),(35,Bb x50),(40,Bb (x50||!decide (from_=4))),(41,V.tup x49),(42,V.ptr 1 0 0),(43,V.ptr 1 0 0),(44,V.agg [I s.p.f,I s.p.r]),(45,V.ptr 2 0 2),(46,I 4),(47,V.ptr 2 0 3),(48,I 0),(49,V.tup x49),(50,U x57),(51,I x58),(52,U x57),(53,V.ptr 1 0 9),(54,U s.all),(55,U x55),(56,Bb (decide (x55=0))),(62,I x59)],[O.ints false i8 s.p.zs,O.cells true (I s.p.f::I s.p.r::V.sl 0 0 s.p.zs.length none::Bb s.p.bl::x51),O.cells true (V.int u8 2::Bb false::x54),O.vals true 5 [(evA (let __src:=x56;Env.mk __src.ty __src.G __src.pf __src.inl __src.cc __src.pn true) x48 (Go.Operand.tmp 10)).cells,(evA (let __src:=x56;Env.mk __src.ty __src.G __src.pf __src.inl __src.cc __src.pn true) x48 (Go.Operand.tmp 11)).cells,(evA (let __src:=x56;Env.mk __src.ty __src.G __src.pf __src.inl __src.cc __src.pn true) x48 (Go.Operand.tmp 12)).cells,(evA (let __src:=x56;Env.mk __src.ty __src.G __src.pf __src.inl __src.cc __src.pn true) x48 (Go.Operand.tmp 13)).cells]])) rfl ?_ ?_ (fun s9=>?_)
  ·refine av rfl ?_
   exact bR ((Ent.rn [0,1,4,3] [1,2,4,5,7,8,14,15,16,17,18,19,20,21,22,23,24,25,26,27,34,35,40,41,42,43,44,45,46,47,48,49,50,51,52,53,54,55,56,62] rfl rfl rfl rfl rfl))
  ·exact bR ((Ent.rn [0,1,4,3] [1,2,4,5,7,8,14,15,16,17,18,19,20,21,22,23,24,25,26,27,34,35,40,41,42,43,44,45,46,47,48,49,50,51,52,53,54,55,56,62] rfl rfl rfl rfl rfl))
  exact gM ((Ent.rn [0,1,2,3] [1,2,4,5,7,14,15,16,17,18,19,20,21,22,23,24,25,26,27,34,35,40,62] rfl rfl rfl rfl rfl))
 refine tZ (let x101:=[V.int u8 s.p.ca,I s.p.pa,I s.p.ha,I s.p.fu,U s.own,U s.all];let x103:=decide (band Go.BinOp.and u8 s.p.ca 4=0);let x104:=i64.wrap (i64.wrap (0+1)+1);let x105:=[I 60,I 63,I 62];let x106:=EE kCa kDb [(155,gz)] [];let x99:=x103||!s.p.bl==true;let x100:=i64.wrap (x104+1);let x102:=V.int u8 4::V.lit true::x105;let x98:=(13,V.agg [V.int u8 8,V.lit true,I 60,I 56,I 58])::(12,V.agg x102)::(11,V.agg [V.int u8 2,V.lit false,I 4,I 0,I 2])::(10,V.agg [V.int u8 1,V.lit false,I 4,I 7,I 6])::(5,U 0)::(4,U 0)::(2,V.ptr 1 0 0)::bw 0 [V.agg (I s.p.f::I s.p.r::V.sl 0 0 s.p.zs.length none::Bb s.p.bl::x101),I from_];fun(s15:Int)=>([(1,I from_),(2,V.ptr 1 0 0),(4,U 0),(5,U s15),(7,V.ptr 2 0 0),(14,V.sl 3 0 4 none),(15,I (Int.ofNat 4)),(16,I x100),(17,Bb (decide (x104<Int.ofNat 4))),(18,V.ptr 3 2 0),(19,V.agg x102),(20,V.ptr 1 0 0),(21,V.ptr 1 0 4),(22,V.int u8 s.p.ca),(23,V.ptr 2 0 0),(24,V.int u8 4),(25,V.int u8 (band Go.BinOp.and u8 s.p.ca 4)),(26,Bb x103),(27,Bb x103),(34,Bb x99),(35,Bb x99),(40,Bb (x99||!decide (from_=60))),(62,I x100)],[O.ints false i8 s.p.zs,O.cells true (I s.p.f::I s.p.r::V.sl 0 0 s.p.zs.length none::Bb s.p.bl::x101),O.cells true (V.int u8 4::Bb true::x105),O.vals true 5 [(evA (let __src:=x106;Env.mk __src.ty __src.G __src.pf __src.inl __src.cc __src.pn true) x98 (Go.Operand.tmp 10)).cells,(evA (let __src:=x106;Env.mk __src.ty __src.G __src.pf __src.inl __src.cc __src.pn true) x98 (Go.Operand.tmp 11)).cells,(evA (let __src:=x106;Env.mk __src.ty __src.G __src.pf __src.inl __src.cc __src.pn true) x98 (Go.Operand.tmp 12)).cells,(evA (let __src:=x106;Env.mk __src.ty __src.G __src.pf __src.inl __src.cc __src.pn true) x98 (Go.Operand.tmp 13)).cells]])) ?_ (fun s15=>?_)
 ·refine Aa hE 2 rfl rfl ?_
  refine av rfl ?_
  refine av (Bool.not_or_self _) ?_
  refine av (Bool.not_or_self _) ?_
  refine av (Bool.not_or_self _) ?_
  refine av (Bool.not_or_self _) ?_
  refine av (Bool.not_or_self _) ?_
  refine av (Bool.or_not_self _) ?_
  refine av (Bool.not_or_self _) ?_
  refine av (Bool.not_or_self _) ?_
  refine av (Bool.not_or_self _) ?_
  refine av (Bool.or_not_self _) ?_
  refine aK hE 2 rfl ?_ ?_
  ·exact gM ((Ent.rn [0,1,4,3] [1,2,4,5,7,14,15,16,17,18,19,20,21,22,23,24,25,26,27,34,35,40,62] rfl rfl rfl rfl rfl))
  refine av rfl ?_
  refine dg hE 2 (let x64:=[V.int u8 s.p.ca,I s.p.pa,I s.p.ha,I s.p.fu,U s.own,U s.all];let x66:=decide (band Go.BinOp.and u8 s.p.ca 4=0);let x67:=i64.wrap (i64.wrap (0+1)+1);let x68:=[I 60,I 63,I 62];let x70:=EE kCa kDb [(155,gz)] [];let x71:=(bS s.p.f s.p.r 60 63).snd;let x72:=(bS s.p.f s.p.r 60 63).fst;let x62:=[U x72,I x71];let x63:=x66||!s.p.bl==true;let x65:=V.int u8 4::V.lit true::x68;let x69:=band Go.BinOp.and u64 x72 s.all;let x61:=(13,V.agg [V.int u8 8,V.lit true,I 60,I 56,I 58])::(12,V.agg x65)::(11,V.agg [V.int u8 2,V.lit false,I 4,I 0,I 2])::(10,V.agg [V.int u8 1,V.lit false,I 4,I 7,I 6])::(5,U 0)::(4,U 0)::(2,V.ptr 1 0 0)::bw 0 [V.agg (I s.p.f::I s.p.r::V.sl 0 0 s.p.zs.length none::Bb s.p.bl::x64),I from_];fun(s13:Int)=>([(1,I from_),(2,V.ptr 1 0 0),(4,U 0),(5,U s13),(7,V.ptr 2 0 0),(8,U x72),(14,V.sl 3 0 4 none),(15,I (Int.ofNat 4)),(16,I x67),(17,Bb (decide (x67<Int.ofNat 4))),(18,V.ptr 3 2 0),(19,V.agg x65),(20,V.ptr 1 0 0),(21,V.ptr 1 0 4),(22,V.int u8 s.p.ca),(23,V.ptr 2 0 0),(24,V.int u8 4),(25,V.int u8 (band Go.BinOp.and u8 s.p.ca 4)),(26,Bb x66),(27,Bb x66),(34,Bb x63),(35,Bb x63),(40,Bb (x63||!decide (from_=60))),(41,V.tup x62),(42,V.ptr 1 0 0),(43,V.ptr 1 0 0),(44,V.agg [I s.p.f,I s.p.r]),(45,V.ptr 2 0 2),(46,I 60),(47,V.ptr 2 0 3),(48,I 63),(49,V.tup x62),(50,U x72),(51,I x71),(52,U x72),(53,V.ptr 1 0 9),(54,U s.all),(55,U x69),(56,Bb (decide (x69=0))),(62,I x67)],[O.ints false i8 s.p.zs,O.cells true (I s.p.f::I s.p.r::V.sl 0 0 s.p.zs.length none::Bb s.p.bl::x64),O.cells true (V.int u8 4::Bb true::x68),O.vals true 5 [(evA (let __src:=x70;Env.mk __src.ty __src.G __src.pf __src.inl __src.cc __src.pn true) x61 (Go.Operand.tmp 10)).cells,(evA (let __src:=x70;Env.mk __src.ty __src.G __src.pf __src.inl __src.cc __src.pn true) x61 (Go.Operand.tmp 11)).cells,(evA (let __src:=x70;Env.mk __src.ty __src.G __src.pf __src.inl __src.cc __src.pn true) x61 (Go.Operand.tmp 12)).cells,(evA (let __src:=x70;Env.mk __src.ty __src.G __src.pf __src.inl __src.cc __src.pn true) x61 (Go.Operand.tmp 13)).cells]])) rfl ?_ ?_ (fun s13=>?_)
  ·refine av rfl ?_
   exact bR ((Ent.rn [0,1,4,3] [1,2,4,5,7,8,14,15,16,17,18,19,20,21,22,23,24,25,26,27,34,35,40,41,42,43,44,45,46,47,48,49,50,51,52,53,54,55,56,62] rfl rfl rfl rfl rfl))
  ·exact bR ((Ent.rn [0,1,4,3] [1,2,4,5,7,8,14,15,16,17,18,19,20,21,22,23,24,25,26,27,34,35,40,41,42,43,44,45,46,47,48,49,50,51,52,53,54,55,56,62] rfl rfl rfl rfl rfl))
  exact gM ((Ent.rn [0,1,2,3] [1,2,4,5,7,14,15,16,17,18,19,20,21,22,23,24,25,26,27,34,35,40,62] rfl rfl rfl rfl rfl))
 refine tZ (let x91:=i64.wrap (i64.wrap (i64.wrap (0+1)+1)+1);let x92:=[V.int u8 s.p.ca,I s.p.pa,I s.p.ha,I s.p.fu,U s.own,U s.all];let x94:=decide (band Go.BinOp.and u8 s.p.ca 8=0);let x95:=[I 60,I 56,I 58];let x96:=EE kCa kDb [(155,gz)] [];let x89:=i64.wrap (x91+1);let x90:=x94||!s.p.bl==true;let x93:=V.int u8 8::V.lit true::x95;let x88:=(13,V.agg x93)::(12,V.agg [V.int u8 4,V.lit true,I 60,I 63,I 62])::(11,V.agg [V.int u8 2,V.lit false,I 4,I 0,I 2])::(10,V.agg [V.int u8 1,V.lit false,I 4,I 7,I 6])::(5,U 0)::(4,U 0)::(2,V.ptr 1 0 0)::bw 0 [V.agg (I s.p.f::I s.p.r::V.sl 0 0 s.p.zs.length none::Bb s.p.bl::x92),I from_];fun(s19:Int)=>([(1,I from_),(2,V.ptr 1 0 0),(4,U 0),(5,U s19),(7,V.ptr 2 0 0),(14,V.sl 3 0 4 none),(15,I (Int.ofNat 4)),(16,I x89),(17,Bb (decide (x91<Int.ofNat 4))),(18,V.ptr 3 3 0),(19,V.agg x93),(20,V.ptr 1 0 0),(21,V.ptr 1 0 4),(22,V.int u8 s.p.ca),(23,V.ptr 2 0 0),(24,V.int u8 8),(25,V.int u8 (band Go.BinOp.and u8 s.p.ca 8)),(26,Bb x94),(27,Bb x94),(34,Bb x90),(35,Bb x90),(40,Bb (x90||!decide (from_=60))),(62,I x89)],[O.ints false i8 s.p.zs,O.cells true (I s.p.f::I s.p.r::V.sl 0 0 s.p.zs.length none::Bb s.p.bl::x92),O.cells true (V.int u8 8::Bb true::x95),O.vals true 5 [(evA (let __src:=x96;Env.mk __src.ty __src.G __src.pf __src.inl __src.cc __src.pn true) x88 (Go.Operand.tmp 10)).cells,(evA (let __src:=x96;Env.mk __src.ty __src.G __src.pf __src.inl __src.cc __src.pn true) x88 (Go.Operand.tmp 11)).cells,(evA (let __src:=x96;Env.mk __src.ty __src.G __src.pf __src.inl __src.cc __src.pn true) x88 (Go.Operand.tmp 12)).cells,(evA (let __src:=x96;Env.mk __src.ty __src.G __src.pf __src.inl __src.cc __src.pn true) x88 (Go.Operand.tmp 13)).cells]])) ?_ (fun s19=>?_)
 ·refine Aa hE 2 rfl rfl ?_
  refine av rfl ?_
  refine av (Bool.not_or_self _) ?_
  refine av (Bool.not_or_self _) ?_
  refine av (Bool.not_or_self _) ?_
  refine av (Bool.not_or_self _) ?_
  refine av (Bool.not_or_self _) ?_
  refine av (Bool.or_not_self _) ?_
  refine av (Bool.not_or_self _) ?_
  refine av (Bool.not_or_self _) ?_
  refine av (Bool.not_or_self _) ?_
  refine av (Bool.or_not_self _) ?_
  refine aK hE 2 rfl ?_ ?_
  ·exact gM ((Ent.rn [0,1,4,3] [1,2,4,5,7,14,15,16,17,18,19,20,21,22,23,24,25,26,27,34,35,40,62] rfl rfl rfl rfl rfl))
  refine av rfl ?_
  refine dg hE 2 (let x77:=i64.wrap (i64.wrap (i64.wrap (0+1)+1)+1);let x78:=[V.int u8 s.p.ca,I s.p.pa,I s.p.ha,I s.p.fu,U s.own,U s.all];let x80:=decide (band Go.BinOp.and u8 s.p.ca 8=0);let x81:=[I 60,I 56,I 58];let x83:=EE kCa kDb [(155,gz)] [];let x84:=(bS s.p.f s.p.r 60 56).fst;let x85:=(bS s.p.f s.p.r 60 56).snd;let x75:=[U x84,I x85];let x76:=x80||!s.p.bl==true;let x79:=V.int u8 8::V.lit true::x81;let x82:=band Go.BinOp.and u64 x84 s.all;let x74:=(13,V.agg x79)::(12,V.agg [V.int u8 4,V.lit true,I 60,I 63,I 62])::(11,V.agg [V.int u8 2,V.lit false,I 4,I 0,I 2])::(10,V.agg [V.int u8 1,V.lit false,I 4,I 7,I 6])::(5,U 0)::(4,U 0)::(2,V.ptr 1 0 0)::bw 0 [V.agg (I s.p.f::I s.p.r::V.sl 0 0 s.p.zs.length none::Bb s.p.bl::x78),I from_];fun(s17:Int)=>([(1,I from_),(2,V.ptr 1 0 0),(4,U 0),(5,U s17),(7,V.ptr 2 0 0),(8,U x84),(14,V.sl 3 0 4 none),(15,I (Int.ofNat 4)),(16,I x77),(17,Bb (decide (x77<Int.ofNat 4))),(18,V.ptr 3 3 0),(19,V.agg x79),(20,V.ptr 1 0 0),(21,V.ptr 1 0 4),(22,V.int u8 s.p.ca),(23,V.ptr 2 0 0),(24,V.int u8 8),(25,V.int u8 (band Go.BinOp.and u8 s.p.ca 8)),(26,Bb x80),(27,Bb x80),(34,Bb x76),(35,Bb x76),(40,Bb (x76||!decide (from_=60))),(41,V.tup x75),(42,V.ptr 1 0 0),(43,V.ptr 1 0 0),(44,V.agg [I s.p.f,I s.p.r]),(45,V.ptr 2 0 2),(46,I 60),(47,V.ptr 2 0 3),(48,I 56),(49,V.tup x75),(50,U x84),(51,I x85),(52,U x84),(53,V.ptr 1 0 9),(54,U s.all),(55,U x82),(56,Bb (decide (x82=0))),(62,I x77)],[O.ints false i8 s.p.zs,O.cells true (I s.p.f::I s.p.r::V.sl 0 0 s.p.zs.length none::Bb s.p.bl::x78),O.cells true (V.int u8 8::Bb true::x81),O.vals true 5 [(evA (let __src:=x83;Env.mk __src.ty __src.G __src.pf __src.inl __src.cc __src.pn true) x74 (Go.Operand.tmp 10)).cells,(evA (let __src:=x83;Env.mk __src.ty __src.G __src.pf __src.inl __src.cc __src.pn true) x74 (Go.Operand.tmp 11)).cells,(evA (let __src:=x83;Env.mk __src.ty __src.G __src.pf __src.inl __src.cc __src.pn true) x74 (Go.Operand.tmp 12)).cells,(evA (let __src:=x83;Env.mk __src.ty __src.G __src.pf __src.inl __src.cc __src.pn true) x74 (Go.Operand.tmp 13)).cells]])) rfl ?_ ?_ (fun s17=>?_)
  ·refine av rfl ?_
   exact bR ((Ent.rn [0,1,4,3] [1,2,4,5,7,8,14,15,16,17,18,19,20,21,22,23,24,25,26,27,34,35,40,41,42,43,44,45,46,47,48,49,50,51,52,53,54,55,56,62] rfl rfl rfl rfl rfl))
  ·exact bR ((Ent.rn [0,1,4,3] [1,2,4,5,7,8,14,15,16,17,18,19,20,21,22,23,24,25,26,27,34,35,40,41,42,43,44,45,46,47,48,49,50,51,52,53,54,55,56,62] rfl rfl rfl rfl rfl))
  exact gM ((Ent.rn [0,1,2,3] [1,2,4,5,7,14,15,16,17,18,19,20,21,22,23,24,25,26,27,34,35,40,62] rfl rfl rfl rfl rfl))
 refine tZ (fun(s:Unit)=>([],[])) ?_ KS
 refine Oj hE 2 rfl rfl ?_
 refine LK (by simp) ?_
 exact aR (aO [] (.inr rfl) rfl rfl rfl rfl rfl)
theorem AY:CtOk (GGx kCa kDb) PP (171,xh):=by
 refine aD Tryz.func171 (by kernel_rfl) rfl fun a0 h0 c0 v0 N0 e hc=>?_
 unfold xh at e
 split at e
 ·rename_i s_0 s_1 s_2n s_3 s_4 s_5 s_6 s_7 s_8 s_9 from__0 s_2
  obtain⟨hl,r,hr,rfl,rfl⟩:=bJ e hc
  simp only[decide_eq_true_eq]at hl
  obtain rfl:=hl
  exact Es ⟨⟨s_0,s_1,s_2,s_3,s_4,s_5,s_6,s_7⟩,s_8,s_9⟩ from__0 hr
 ·cases e
def ef(s:Sgt)(from_:Int):Option (Int):=let x10:=Sgt.mk (Psn.mk s.p.f s.p.r (List.take s.p.zs.length (List.drop 0 s.p.zs)) s.p.bl s.p.ca s.p.pa s.p.ha s.p.fu) s.own s.all;let x12:=(wC (s.p.zs.getD from_.toNat 0)).getD 0;let x11:=(cq s.p.f s.p.r x12 from_ s.all).fst;aX (decide (0<=from_)&&decide (from_<Int.ofNat s.p.zs.length)) (cr (wC (s.p.zs.getD from_.toNat 0)) Inhabited.default fun(_y4:Int)=>bif decide (x12=1)then cr (spawn x10 from_) 0 fun(y6:Int)=>some y6 else dN (bif decide (x12=6)then cr (FA x10 from_) 0 fun(y7:Int)=>some (Sum.inl (band Go.BinOp.or u64 x11 y7))else some (Sum.inl x11)) fun(s9:Int)=>some (band Go.BinOp.andNot u64 s9 s.own))
def kM(R:Int):V:=.int .u64 R
def kr(_R:Int):List O:=[]
def kC:CF
 |[.agg [.int .i64 s_0,.int .i64 s_1,.sl 0 0 s_2n none,.bool s_3,.int .u8 s_4,.int .i64 s_5,.int .i64 s_6,.int .i64 s_7,.int .u64 s_8,.int .u64 s_9],.int .i64 from__0],[.ints false .i8 s_2]=>retC (decide (s_2n=s_2.length)) (ef ⟨⟨s_0,s_1,s_2,s_3,s_4,s_5,s_6,s_7⟩,s_8,s_9⟩ from__0) 0 kM kr
 |_,_=>none
theorem uJ(s:Sgt)(from_:Int){r}(hr:ef s from_=some r):aJ (GGx kCa kDb) PP 150 [.agg [.int .i64 s.p.f,.int .i64 s.p.r,.sl 0 0 s.p.zs.length none,Bb s.p.bl,.int .u8 s.p.ca,.int .i64 s.p.pa,.int .i64 s.p.ha,.int .i64 s.p.fu,.int .u64 s.own,.int .u64 s.all],.int .i64 from_] [.ints false .i8 s.p.zs] (kM r) (kr r):=by
 have hE:=cutE (aB (kCa:=kCa) (kDb:=kDb) (cts:=[(151,sN),(154,oH),(170,yt),(171,xh)]) (inl:=[]) ⟨pR,kN,AG,AY,trivial⟩ trivial)
 refine cH hE 2 Tryz.func150 rfl rfl kM kr hr ?_ rfl rfl
 refine bI ?_
 refine aQ (pl rfl id) ?_
 refine aK hE 2 rfl ?_ ?_
 ·refine aQ (pl (decide_eq_true (aN rfl)) id) ?_
  exact aR (aO [] (.inr rfl) rfl rfl rfl rfl rfl)
 refine av rfl ?_
 refine dg hE 2 (fun(s9:Int)=>([(2,V.ptr 1 0 0),(4,U 0),(6,U s9)],[O.ints false i8 s.p.zs,O.cells true [I s.p.f,I s.p.r,V.sl 0 0 s.p.zs.length none,Bb s.p.bl,V.int u8 s.p.ca,I s.p.pa,I s.p.ha,I s.p.fu,U s.own,U s.all]])) rfl ?_ ?_ (fun s9=>?_)
 ·refine aQ (pl (decide_eq_true (aN rfl)) id) ?_
  exact bR ((Ent.rn [0,1] [2,4,6] rfl rfl rfl rfl rfl))
 ·exact bR ((Ent.rn [0,1] [2,4,6] rfl rfl rfl rfl rfl))
 exact aR (aO [] (.inr rfl) rfl rfl rfl rfl rfl)
theorem rE:CtOk (GGx kCa kDb) PP (150,kC):=by
 refine aD Tryz.func150 (by kernel_rfl) rfl fun a0 h0 c0 v0 N0 e hc=>?_
 unfold kC at e
 split at e
 ·rename_i s_0 s_1 s_2n s_3 s_4 s_5 s_6 s_7 s_8 s_9 from__0 s_2
  obtain⟨hl,r,hr,rfl,rfl⟩:=bJ e hc
  simp only[decide_eq_true_eq]at hl
  obtain rfl:=hl
  exact uJ ⟨⟨s_0,s_1,s_2,s_3,s_4,s_5,s_6,s_7⟩,s_8,s_9⟩ from__0 hr
 ·cases e
def tz(x:Int):Option (Int):=let x2:=(u64.wrap (band Go.BinOp.and u64 x (u64.wrap (0-x))*285870213051353865)).fdiv (2^Min.min (Int.toNat 58) u64.bits);bif decide (x=0)then some 64 else aX (decide (0<=x2)&&decide (x2<Int.ofNat 64)) (some (i64.wrap (BC.getD x2.toNat 0)))
def tz_V(R:Int):V:=.int .i64 R
def tz_N(_R:Int):List O:=[]
def c_tz:CF
 |[.int .u64 x_0],[]=>retC true (tz x_0) 0 tz_V tz_N
 |_,_=>none
theorem NG(x:Int){r}(hr:tz x=some r):aJ (GGx kCa true) PP 96 [.int .u64 x] [] (tz_V r) (tz_N r):=by
 have hE:=cutE (aB (kCa:=kCa) (kDb:=true) (cts:=[]) (inl:=[]) trivial trivial)
 refine cH hE 2 Tryz.func96 rfl rfl tz_V tz_N hr ?_ rfl rfl
 refine aK hE 2 rfl ?_ ?_
 ·exact aR (aO [] (.inr rfl) rfl rfl rfl rfl rfl)
 refine av rfl ?_
 refine bI ?_
 exact aR (aO [] (.inr rfl) rfl rfl rfl rfl rfl)
theorem KH:CtOk (GGx kCa true) PP (96,c_tz):=by
 refine aD Tryz.func96 (by kernel_rfl) rfl fun a0 h0 c0 v0 N0 e hc=>?_
 unfold c_tz at e
 split at e
 ·rename_i x_0
  obtain⟨hl,r,hr,rfl,rfl⟩:=bJ e hc
  exact NG x_0 hr
 ·cases e
end
section
variable{kCa:Bool}
def tzf(x:Int):Int:=(tz x).getD 0
def eU(x:Int):Int:=uand x (u64.wrap (x-1))
theorem e58:(2:Int)^Min.min (Int.toNat 58) u64.bits=288230376151711744:=by decide
theorem w0(y:Int):0<=u64.wrap y/\u64.wrap y<18446744073709551616:=by
 rw[jY]
 exact⟨Int.emod_nonneg _ (by decide),Int.emod_lt_of_pos _ (by decide)⟩
theorem d58(z:Int)(h2:0<=z/\z<18446744073709551616):(decide (0<=z.fdiv 288230376151711744)&&decide (z.fdiv 288230376151711744<Int.ofNat 64))=true:=by
 have h3:z.fdiv 288230376151711744=z/288230376151711744:=Int.fdiv_eq_ediv_of_nonneg _ (by decide)
 rw[h3]
 have h4:decide (0<=z/288230376151711744)=true:=by simp;omega
 have h5:decide (z/288230376151711744<Int.ofNat 64)=true:=by
  rw[decide_eq_true_eq];show z/288230376151711744<64;omega
 rw[h4,h5];rfl
theorem LB(x:Int):(tz x).isSome=true:=by
 unfold tz
 cases decide (x=0)
 ·rw[cond_false,e58,d58 _ (w0 _)];rfl
 ·rfl
def iA:Nat->Int->List Int
 |0,_=>[]
 |k+1,s=>bif decide (s=0) then[]else tzf s::iA k (eU s)
def iZ(s:Int):List Int:=iA 66 s
theorem tf(x:Int):Uk (eU x):=tD _ _
theorem Kz(n:Nat)(h:n≠0):∃ t k,n=2^t*(2*k+1):=by
 induction n using Nat.strongRecOn with
 |_ n ih=>
  by_cases ho:n%2=1
  ·exact⟨0,n/2,by omega⟩
  ·obtain⟨t,k,e⟩:=ih (n/2) (by omega) (by omega)
   exact⟨t+1,k,by rw[Nat.pow_succ,Nat.mul_assoc,Nat.mul_comm 2,<-Nat.mul_assoc,<-e];omega⟩
theorem rQ(t k j:Nat):(2^t*(2*k+1)).testBit j=(decide (t<=j)&&(decide (j=t)||k.testBit (j-t-1))):=by
 rw[Nat.testBit_two_pow_mul]
 by_cases h:t<=j
 ·by_cases e:j=t
  ·subst e;simp
  ·obtain⟨i,rfl⟩:∃ i,j=t+1+i:=⟨j-t-1,by omega⟩
   have e1:t+1+i-t=i+1:=by omega
   have e2:t+1+i-t-1=i:=by omega
   rw[e1]
   have e3:(2*k+1).testBit (i+1)=k.testBit i:=by rw[Nat.testBit_succ];congr 1;omega
   simp only[e3,decide_eq_true h,decide_eq_false e,Bool.true_and,Bool.false_or,Nat.add_sub_cancel]
 ·simp[h]
theorem yR(t k j:Nat):(2^t*(2*k+1)-1).testBit j=(decide (j<t)||(!decide (j=t)&&k.testBit (j-t-1))):=by
 have hp:0<2^t:=Nat.two_pow_pos t
 have e:2^t*(2*k+1)-1=2^t*(2*k)+(2^t-1):=by rw[Nat.mul_add];omega
 rw[e,Nat.testBit_two_pow_mul_add _ (by omega)]
 by_cases h:j<t
 ·rw[if_pos h,Nat.testBit_two_pow_sub_one];simp[h]
 ·rw[if_neg h]
  by_cases e2:j=t
  ·subst e2;simp
  ·obtain⟨i,rfl⟩:∃ i,j=t+1+i:=⟨j-t-1,by omega⟩
   have e1:t+1+i-t=i+1:=by omega
   have e4:t+1+i-t-1=i:=by omega
   rw[e1,Nat.testBit_succ,show 2*k/2=k by omega]
   simp only[decide_eq_false h,decide_eq_false e2,Bool.false_or,Bool.not_false,Bool.true_and,Nat.add_sub_cancel]
theorem Md{x:Int}(hu:Uk x)(h0:x≠0):∃ t k:Nat,t<64/\x.toNat=2^t*(2*k+1):=by
 obtain⟨t,k,e⟩:=Kz x.toNat (by have:=hu.1;omega)
 refine⟨t,k,?_,e⟩
 refine Decidable.byContradiction fun h=>?_
 have h1:2^64<=2^t:=Nat.pow_le_pow_right (by decide) (by omega)
 have h2:2^t<=x.toNat:=by rw[e];exact Nat.le_mul_of_pos_right _ (by omega)
 have:=hu.2
 omega
theorem MZ{t:Nat}(ht:t<64):Uk ((2^t:Nat):Int):=by
 have:(2:Nat)^t<2^64:=Nat.pow_lt_pow_right (by decide) ht
 exact⟨Int.natCast_nonneg _,by omega⟩
theorem Kx{x:Int}(hu:Uk x){t k:Nat}(ht:t<64)(e:x.toNat=2^t*(2*k+1)):uand x (u64.wrap (0-x))=((2^t:Nat):Int):=by
 have hw:Uk (u64.wrap (0-x)):=w0 _
 have hp:0<2^t:=Nat.two_pow_pos t
 have hpos:0<x.toNat:=by rw[e];exact Nat.mul_pos hp (by omega)
 have hn:(u64.wrap (0-x)).toNat=2^64-(x.toNat-1+1):=by
  rw[jY]
  have h1:=hu.1
  have h2:=hu.2
  have:(0-x)%18446744073709551616=18446744073709551616-x:=by omega
  rw[this];omega
 refine zm (tD _ _) (MZ ht) fun j hj=>?_
 rw[qg hu hw]
 unfold bt
 rw[hn,Nat.testBit_two_pow_sub_succ (by have:=hu.2;omega),e,rQ,yR,Int.toNat_natCast,Nat.testBit_two_pow]
 by_cases h1:j<t
 ·rw[decide_eq_true h1,decide_eq_false (show ¬ t<=j by omega),decide_eq_false (show ¬ t=j by omega)];rfl
 ·by_cases h2:j=t
  ·rw[decide_eq_false h1,decide_eq_true h2,decide_eq_true (show t<=j by omega),decide_eq_true hj,decide_eq_true h2.symm];rfl
  ·rw[decide_eq_false h1,decide_eq_false h2,decide_eq_true (show t<=j by omega),decide_eq_true hj,decide_eq_false (show ¬ t=j by omega)]
   cases k.testBit (j-t-1)<;>rfl
theorem Hy:∀ t:_root_.Fin 64,i64.wrap (BC.getD ((u64.wrap (((2^t.val:Nat):Int)*285870213051353865)).fdiv 288230376151711744).toNat 0)=((t.val:Nat):Int):=by decide +kernel
theorem EA(v:Int):(aX true (some v)).getD 0=v:=rfl
theorem Li{x:Int}(h:x≠0){z:Int}(hz:band Go.BinOp.and u64 x (u64.wrap (0-x))=z):tzf x=i64.wrap (BC.getD ((u64.wrap (z*285870213051353865)).fdiv 288230376151711744).toNat 0):=by
 unfold tzf tz
 rw[decide_eq_false h,cond_false,e58,d58 _ (w0 _),EA,hz]
theorem LC{x:Int}(hu:Uk x){t k:Nat}(ht:t<64)(e:x.toNat=2^t*(2*k+1)):tzf x=t:=by
 have hp:0<2^t:=Nat.two_pow_pos t
 have hpos:0<x.toNat:=by rw[e];exact Nat.mul_pos hp (by omega)
 exact(Li (by omega) (Kx hu ht e)).trans (Hy ⟨t,ht⟩)
theorem wP{x:Int}(hu:Uk x){t k:Nat}(_ht:t<64)(e:x.toNat=2^t*(2*k+1))(j:Nat):bt (eU x) j=(bt x j&&!decide (j=t)):=by
 have hp:0<2^t:=Nat.two_pow_pos t
 have hpos:0<x.toNat:=by rw[e];exact Nat.mul_pos hp (by omega)
 have h1:=hu.1
 have h2:=hu.2
 have hw:u64.wrap (x-1)=x-1:=tG ⟨by omega,by omega⟩
 unfold eU
 rw[hw,qg hu ⟨by omega,by omega⟩]
 unfold bt
 rw[show (x-1).toNat=x.toNat-1 by omega,e,rQ,yR]
 by_cases h1:j<t
 ·rw[decide_eq_true h1,decide_eq_false (show ¬ t<=j by omega)];rfl
 ·by_cases h2:j=t
  ·rw[decide_eq_false h1,decide_eq_true h2];simp
  ·rw[decide_eq_false h1,decide_eq_false h2,decide_eq_true (show t<=j by omega)]
   cases k.testBit (j-t-1)<;>rfl
def bitL(x:Int):List Int:=((List.range 64).filter (bt x)).map Int.ofNat
theorem filter_none{α:Type}{p:α->Bool}{l:List α}(h:∀ a∈l,p a=false):l.filter p=[]:=by
 rw[List.filter_eq_nil_iff];exact fun a ha=>by rw[h a ha];decide
theorem nJ{x:Int}(hu:Uk x){t k:Nat}(ht:t<64)(e:x.toNat=2^t*(2*k+1)):bitL x=(t:Int)::bitL (eU x):=by
 have hr:List.range 64=List.range' 0 t++t::List.range' (t+1) (63-t):=by
  rw[List.range_eq_range',show 64=t+(1+(63-t)) by omega,<-List.range'_append_1,<-List.range'_append_1]
  simp[Nat.add_comm]
 have hlow:∀ j∈List.range' 0 t,bt x j=false:=by
  intro j hj
  have:=List.mem_range'_1.1 hj
  unfold bt
  rw[e,rQ,decide_eq_false (show ¬ t<=j by omega)];rfl
 have ht1:bt x t=true:=by unfold bt;rw[e,rQ];simp
 unfold bitL
 rw[hr,List.filter_append,List.filter_append,filter_none hlow,filter_none (p:=bt (eU x)) (l:=List.range' 0 t) (fun j hj=>by rw[wP hu ht e,hlow j hj];rfl),List.filter_cons,List.filter_cons,ht1,wP hu ht e,ht1]
 have h2:(List.range' (t+1) (63-t)).filter (bt (eU x))=(List.range' (t+1) (63-t)).filter (bt x):=by
  refine List.filter_congr fun j hj=>?_
  have:=List.mem_range'_1.1 hj
  rw[wP hu ht e,decide_eq_false (show ¬ j=t by omega)];simp
 rw[h2]
 simp
theorem Nm:bitL 0=[]:=by unfold bitL;rw[filter_none fun j _=>bt_0 j];rfl
theorem mD(x:Int):(bitL x).length<=64:=by
 unfold bitL
 rw[List.length_map]
 exact Nat.le_trans (List.length_filter_le _ _) (by simp)
theorem Ft:∀ (n:Nat) {x:Int},Uk x->(bitL x).length<n->iA n x=bitL x
 |0,_,_,h=>absurd h (by omega)
 |n+1,x,hu,h=>by
  unfold iA
  by_cases h0:x=0
  ·subst h0;rw[Nm];rfl
  ·obtain⟨t,k,ht,e⟩:=Md hu h0
   have hc:=nJ hu ht e
   rw[hc]at h ⊢
   rw[decide_eq_false h0,cond_false,LC hu ht e,Ft n (tf x) (by simpa using h)]
theorem zI{x:Int}(hu:Uk x):iZ x=bitL x:=Ft 66 hu (by have:=mD x;omega)
theorem qM(s:Int):kA (GGx kCa true) PP 95 [[U s]] ((iZ s).map fun x=>[I x]):=by
 have hE:=aB (kCa:=kCa) (kDb:=true) (cts:=[(96,c_tz)]) (inl:=[]) ⟨KH,trivial⟩ trivial
 refine zq hE Tryz.func95 rfl rfl rfl rfl fun nn l S0 ρc J ok=>?_
 refine YG.seq (YG.seg hE 2 ?_)
 repeat (first|refine ah ?_|refine sat_nd ?_)
 refine ag ?_
 refine YG.block (YG.loop (fun a:Nat×Int=>(some a.1,[(0,.yl 1),(1,.ptr 0 0 0),(3,U a.2)],hp0 [[U s]]))
  (fun a=>a.1<=(iZ s).length/\a.1<=65/\(iZ s).drop a.1=iA (66-a.1) a.2/\(a.1=0\/(Uk a.2/\(bitL a.2).length+a.1<=65)))
  (fun a=>66-a.1) (0,s) rfl (Ent.ren [0,1] [0,1,3] rfl rfl rfl) ⟨Nat.zero_le _,Nat.zero_le _,rfl,.inl rfl⟩ ?_)
 rintro⟨i,x⟩ ⟨i1,i2,i3,i4⟩
 dsimp only at i1 i2 i3 i4 ⊢
 refine YG.seq (YG.seg hE 2 ?_)
 repeat (first|refine ah ?_|refine sat_nd ?_)
 refine aq (fun h1=>ag ?_) (fun h1=>ag ?_)
 ·have h0:x≠0:=by simpa using h1
  have hi:i<=64:=by
   rcases i4 with h|⟨hu,h⟩
   ·omega
   ·obtain⟨t,k,ht,e⟩:=Md hu h0
    rw[nJ hu ht e,List.length_cons]at h
    omega
  have hgo:iA (66-i) x=tzf x::iA (66-(i+1)) (eU x):=by
   rw[show 66-i=(66-(i+1))+1 by omega,iA,decide_eq_false h0,cond_false]
  rw[hgo]at i3
  have hlt:i<(iZ s).length:=by
   have:=congrArg List.length i3
   simp only[List.length_drop,List.length_cons]at this
   omega
  have hat:(iZ s)[i]?=some (tzf x):=by
   have:=congrArg (fun l:List Int=>l[0]?) i3
   simpa using this
  have hdr:(iZ s).drop (i+1)=iA (66-(i+1)) (eU x):=by
   have:=congrArg (List.drop 1) i3
   simpa[List.drop_drop,Nat.add_comm]using this
  refine YG.seq (YG.block (YG.seq (YG.yregAt ok 2 3 rfl rfl rfl ?_)))
  repeat (first|(first|refine ah ?_|refine sat_nd ?_)|refine ae (by simp[LB]) ?_)
  refine ag ?_
  refine⟨i,[I (tzf x)],[0,1,3],rfl,by simp[hat],rfl,rfl,rfl,rfl,fun b=>?_⟩
  cases b with
  |true=>
   refine ag ?_
   refine YG.seg hE 2 ?_
   refine ag ?_
   refine YG.seg hE 2 ?_
   repeat (first|refine ah ?_|refine sat_nd ?_)
   refine ag ⟨(i+1,eU x),?_,?_,rfl,Ent.ren [0,1] [0,1,3] rfl rfl rfl⟩
   ·dsimp only
    refine⟨hlt,by omega,hdr,.inr ⟨tf x,?_⟩⟩
    rcases i4 with h|⟨hu,h⟩
    ·have:=mD (eU x);omega
    ·obtain⟨t,k,ht,e⟩:=Md hu h0
     rw[nJ hu ht e,List.length_cons]at h
     omega
   ·dsimp only;omega
  |false=>
   refine ag ?_
   refine YG.seg hE 2 ?_
   exact ag ⟨.inr rfl,.inr rfl⟩
 ·have h0:x=0:=by simpa using h1
  rw[h0]at i3
  have hlen:i=(iZ s).length:=by
   have:iA (66-i) 0=[]:=by rw[show 66-i=(65-i)+1 by omega];rfl
   rw[this]at i3
   have:=congrArg List.length i3
   simp only[List.length_drop,List.length_nil]at this
   omega
  exact⟨.inl rfl,.inl (by simp[<-hlen])⟩
end
section
variable{kCa kDb:Bool}
def eH:Int->Int->List (List Int)×Int->Option (List (List Int)×Int ⊕ List (List Int) ⊕ List (List Int) ⊕ List (List Int) ⊕ List (List Int)):=fun(at_ e4:Int) (s25:List (List Int)×Int)=>let x39:=(s25.1.length+1)*24;bif decide (s25.2<=5)then aX (decide (x39<=140737488355328)) (some (Sum.inl (s25.1++List.take 1 (List.drop 0 [iL [at_,e4,s25.2]]),i8.wrap (s25.2+1))))else some (Sum.inr (Sum.inl s25.1))
def qK:Sgt->Int->(Int->Int->List (List Int)×Int->Option (List (List Int)×Int ⊕ List (List Int) ⊕ List (List Int) ⊕ List (List Int) ⊕ List (List Int)))->Int->List (List Int)->Option (List (List Int) ⊕ List (List Int) ⊕ List (List Int)):=fun(s:Sgt) (at_:Int) (eH:Int->Int->List (List Int)×Int->Option (List (List Int)×Int ⊕ List (List Int) ⊕ List (List Int) ⊕ List (List Int) ⊕ List (List Int)))=>let x42:=Sgt.mk (Psn.mk s.p.f s.p.r (List.take s.p.zs.length (List.drop 0 s.p.zs)) s.p.bl s.p.ca s.p.pa s.p.ha s.p.fu) s.own s.all;let x43:=(wC (s.p.zs.getD at_.toNat 0)).getD 0;let x41:=!decide (x43=1);fun(e4:Int) (s20:List (List Int))=>let x46:=(s20.length+1)*24;aX (decide (0<=at_)&&decide (at_<Int.ofNat s.p.zs.length)) (cr (wC (s.p.zs.getD at_.toNat 0)) Inhabited.default fun(_y21:Int)=>aX (!!x41||(Aw x42 e4).isSome) (bif x41||!(Aw x42 e4).getD false then aX (decide (x46<=140737488355328)) (some (Sum.inl (s20++List.take 1 (List.drop 0 [iL [at_,e4,0]]))))else cV (eH at_ e4) (fun(s33:List (List Int))=>some (Sum.inl s33)) 1000000 (s20,2)))
def AA(s:Sgt)(at_:Int):Option (List (List Int)):=let x50:=band Go.BinOp.and u64 (s.own.fdiv (2^Min.min at_.toNat u64.bits)) 1;aX (decide (0<=at_)) (bif decide (x50=0)then some []else cr (ef (Sgt.mk (Psn.mk s.p.f s.p.r (List.take s.p.zs.length (List.drop 0 s.p.zs)) s.p.bl s.p.ca s.p.pa s.p.ha s.p.fu) s.own s.all) at_) 0 fun(y3:Int)=>dQ (qK s at_ eH) (fun(s20:List (List Int))=>some s20) (fun(_s20:List (List Int))=>none) (iZ y3) [])
def xu(R:List (List Int)):V:=.sl 1 0 R.length none
def xo(R:List (List Int)):List O:=[.rows true [.i64,.i64,.i8] R]
def qx:CF
 |[.agg [.int .i64 s_0,.int .i64 s_1,.sl 0 0 s_2n none,.bool s_3,.int .u8 s_4,.int .i64 s_5,.int .i64 s_6,.int .i64 s_7,.int .u64 s_8,.int .u64 s_9],.int .i64 at__0],[.ints false .i8 s_2]=>retC (decide (s_2n=s_2.length)) (AA ⟨⟨s_0,s_1,s_2,s_3,s_4,s_5,s_6,s_7⟩,s_8,s_9⟩ at__0) [] xu xo
 |_,_=>none
theorem Ge(s:Sgt)(at_:Int){r}(hr:AA s at_=some r):aJ (GGx kCa true) PP 103 [.agg [.int .i64 s.p.f,.int .i64 s.p.r,.sl 0 0 s.p.zs.length none,Bb s.p.bl,.int .u8 s.p.ca,.int .i64 s.p.pa,.int .i64 s.p.ha,.int .i64 s.p.fu,.int .u64 s.own,.int .u64 s.all],.int .i64 at_] [.ints false .i8 s.p.zs] (xu r) (xo r):=by
 have hE:=cutE (aB (kCa:=kCa) (kDb:=true) (cts:=[(151,sN),(150,kC),(152,xq)]) (inl:=[(51,Tryz.f51)]) ⟨pR,rE,BH,trivial⟩ ⟨⟨Tryz.func51,by kernel_rfl⟩,trivial⟩)
 refine cH hE 2 Tryz.func103 rfl rfl xu xo hr ?_ rfl rfl
 refine bI ?_
 refine aK hE 2 rfl ?_ ?_
 ·exact aR (nw 4 (.rows true [.i64,.i64,.i8] []) rfl rfl rfl<|aO [3] (.inr rfl) rfl rfl rfl rfl rfl)
 refine aQ (pl (decide_eq_true (aN rfl)) id) ?_
 refine qQ hE 2 5 (fun(s20:List (List Int))=>[O.ints false i8 s.p.zs,O.cells true [I s.p.f,I s.p.r,V.sl 0 0 s.p.zs.length none,Bb s.p.bl,V.int u8 s.p.ca,I s.p.pa,I s.p.ha,I s.p.fu,U s.own,U s.all],O.cells true [I at_],O.cells true [V.sl 5 0 s20.length none],O.cells true [U ((ef (Sgt.mk (Psn.mk s.p.f s.p.r (List.take s.p.zs.length (List.drop 0 s.p.zs)) s.p.bl s.p.ca s.p.pa s.p.ha s.p.fu) s.own s.all) at_).getD 0)],O.rows true [i64,i64,i8] s20]) (fun(s20:List (List Int))=>[O.ints false i8 s.p.zs,O.cells true [I s.p.f,I s.p.r,V.sl 0 0 s.p.zs.length none,Bb s.p.bl,V.int u8 s.p.ca,I s.p.pa,I s.p.ha,I s.p.fu,U s.own,U s.all],O.cells true [I at_],O.cells true [V.sl 5 0 s20.length none],O.cells true [U ((ef (Sgt.mk (Psn.mk s.p.f s.p.r (List.take s.p.zs.length (List.drop 0 s.p.zs)) s.p.bl s.p.ca s.p.pa s.p.ha s.p.fu) s.own s.all) at_).getD 0)],O.rows true [i64,i64,i8] s20]) 0 (iZ ((ef (Sgt.mk (Psn.mk s.p.f s.p.r (List.take s.p.zs.length (List.drop 0 s.p.zs)) s.p.bl s.p.ca s.p.pa s.p.ha s.p.fu) s.own s.all) at_).getD 0)) (fun(e4:Int)=>[I e4]) (fun(e4:Int) (s20:List (List Int))=>(6,I e4)::putPs (#[18]:Array Nat).toList [I e4] [(2,V.ptr 1 0 0),(3,V.ptr 2 0 0),(4,V.nils),(5,V.ptr 3 0 0),(17,V.fn 95 [V.ptr 4 0 0])]) [4] [2,3,4,5,17] ((Ent.rn [0,1,2,3,4] [2,3,4,5,17] rfl rfl rfl rfl rfl).trans ((Ent.phC 3 0 (O.rows true [i64,i64,i8] []) rfl rfl rfl rfl rfl).trans (Ent.rn [0,1,2,3,4,5] [2,3,4,5,17] rfl rfl rfl rfl rfl))) (qM _) (fun _=>rfl) (ent Tryz.func95 (by kernel_rfl) rfl) rfl rfl rfl rfl rfl rfl (fun _=>rfl) (fun _=>rfl) (fun _ _=>rfl) (fun e4 s20=>?_) (fun s20=>?_) (fun s20=>ox)
 ·refine bI ?_
  refine aQ (pl rfl id) ?_
  refine av (Bool.not_or_self _) ?_
  refine av (Bool.not_or_self _) ?_
  refine cN (pi (pl (decide_eq_true (aN rfl)) id)) ?_
  refine av (Bool.not_or_self _) ?_
  refine av (Bool.or_not_self _) ?_
  refine aK hE 2 rfl ?_ ?_
  ·refine cN (pr (pl (decide_eq_true rfl) id) rfl) ?_
   exact mz ((Ent.rn [0,1,2,3,4,7] [] rfl rfl rfl rfl rfl))
  refine dc hE 2 (fun(s25:List (List Int)×Int)=>([(3,V.ptr 2 0 0),(5,V.ptr 3 0 0),(6,I e4),(7,V.int i8 s25.2)],[O.ints false i8 s.p.zs,O.cells true [I s.p.f,I s.p.r,V.sl 0 0 s.p.zs.length none,Bb s.p.bl,V.int u8 s.p.ca,I s.p.pa,I s.p.ha,I s.p.fu,U s.own,U s.all],O.cells true [I at_],O.cells true [V.sl 5 0 s25.1.length none],O.cells true [U ((ef (Sgt.mk (Psn.mk s.p.f s.p.r (List.take s.p.zs.length (List.drop 0 s.p.zs)) s.p.bl s.p.ca s.p.pa s.p.ha s.p.fu) s.own s.all) at_).getD 0)],O.rows true [i64,i64,i8] s25.1])) (fun(s33:List (List Int))=>([],[O.ints false i8 s.p.zs,O.cells true [I s.p.f,I s.p.r,V.sl 0 0 s.p.zs.length none,Bb s.p.bl,V.int u8 s.p.ca,I s.p.pa,I s.p.ha,I s.p.fu,U s.own,U s.all],O.cells true [I at_],O.cells true [V.sl 5 0 s33.length none],O.cells true [U ((ef (Sgt.mk (Psn.mk s.p.f s.p.r (List.take s.p.zs.length (List.drop 0 s.p.zs)) s.p.bl s.p.ca s.p.pa s.p.ha s.p.fu) s.own s.all) at_).getD 0)],O.rows true [i64,i64,i8] s33])) (.exit 2) ((Ent.rn [0,1,2,3,4,5] [3,5,6,7] rfl rfl rfl rfl rfl)) (fun s25=>?_) (fun s33=>?_)
  ·refine aK hE 2 rfl ?_ ?_
   ·refine cN (pr (pl (decide_eq_true rfl) id) rfl) ?_
    exact cO ((Ent.rn [0,1,2,3,4,7] [3,5,6,7] rfl rfl rfl rfl rfl))
   exact cS ((Ent.rn [0,1,2,3,4,5] [] rfl rfl rfl rfl rfl))
  exact mz ((Ent.rn [0,1,2,3,4,5] [] rfl rfl rfl rfl rfl))
 exact aR (aO [5] (.inr rfl) rfl rfl rfl rfl rfl)
theorem pL:CtOk (GGx kCa true) PP (103,qx):=by
 refine aD Tryz.func103 (by kernel_rfl) rfl fun a0 h0 c0 v0 N0 e hc=>?_
 unfold qx at e
 split at e
 ·rename_i s_0 s_1 s_2n s_3 s_4 s_5 s_6 s_7 s_8 s_9 at__0 s_2
  obtain⟨hl,r,hr,rfl,rfl⟩:=bJ e hc
  simp only[decide_eq_true_eq]at hl
  obtain rfl:=hl
  exact Ge ⟨⟨s_0,s_1,s_2,s_3,s_4,s_5,s_6,s_7⟩,s_8,s_9⟩ at__0 hr
 ·cases e
def nr:Psn->Sgt->Int->List (List Int)->Option (List (List Int) ⊕ List (List Int) ⊕ List (List Int)×Int):=fun(p:Psn) (y2:Sgt)=>let x13:=(List.take y2.p.zs.length (List.drop 0 p.zs)).length;fun(e3:Int) (s7:List (List Int))=>aX (decide (y2.p.zs.length=x13)) (cr (AA (Sgt.mk (Psn.mk y2.p.f y2.p.r (List.take y2.p.zs.length (List.drop 0 p.zs)) y2.p.bl y2.p.ca y2.p.pa y2.p.ha y2.p.fu) y2.own y2.all) e3) [] fun(y8:List (List Int))=>let x17:=(s7.length+y8.length)*24;aX (decide (x17<=140737488355328)&&!Nat.beq 4 (1-hlen ([]++[O.ints false i8 (List.take y2.p.zs.length (List.drop 0 p.zs))])+4+1)) (some (Sum.inl (s7++List.take y8.length (List.drop 0 y8)))))
def lT(p:Psn):Option (List (List Int)×Int):=let x21:=List.take p.zs.length (List.drop 0 p.zs);let x19:=Psn.mk p.f p.r x21 p.bl p.ca p.pa p.ha p.fu;let x20:=x21.length;aX (decide (x20<=64)) (bif !x19.ok then some ([],2)else cr (sg x19) (Sgt.mk (Psn.mk 0 0 [] false 0 0 0 0) 0 0) fun(y2:Sgt)=>dQ (nr p y2) (fun(s7:List (List Int))=>some (s7,0)) (fun(_s7:List (List Int))=>none) (iZ y2.own) [])
def sF(R:List (List Int)×Int):V:=.tup [.sl 1 0 R.1.length none,.int .i64 R.2]
def sY(R:List (List Int)×Int):List O:=[.rows true [.i64,.i64,.i8] R.1]
def qw:CF
 |[.agg [.int .i64 p_0,.int .i64 p_1,.sl 0 0 p_2n none,.bool p_3,.int .u8 p_4,.int .i64 p_5,.int .i64 p_6,.int .i64 p_7]],[.ints false .i8 p_2]=>retC (decide (p_2n=p_2.length)) (lT ⟨p_0,p_1,p_2,p_3,p_4,p_5,p_6,p_7⟩) ([],0) sF sY
 |_,_=>none
theorem Bo(p:Psn){r}(hr:lT p=some r):aJ (GGx kCa true) PP 62 [.agg [.int .i64 p.f,.int .i64 p.r,.sl 0 0 p.zs.length none,Bb p.bl,.int .u8 p.ca,.int .i64 p.pa,.int .i64 p.ha,.int .i64 p.fu]] [.ints false .i8 p.zs] (sF r) (sY r):=by
 have hE:=cutE (aB (kCa:=kCa) (kDb:=true) (cts:=[(33,ei),(102,qN),(103,qx)]) (inl:=[(51,Tryz.f51)]) ⟨cQ,pJ,pL,trivial⟩ ⟨⟨Tryz.func51,by kernel_rfl⟩,trivial⟩)
 refine cH hE 2 Tryz.func62 rfl rfl sF sY hr ?_ rfl rfl
 refine cN (pl (decide_eq_true (aN rfl)) id) ?_
 refine aK hE 2 rfl ?_ ?_
 ·exact aR (nw 2 (.rows true [.i64,.i64,.i8] []) rfl rfl rfl<|aO [2] (.inr rfl) rfl rfl rfl rfl rfl)
 refine aQ (pl (decide_eq_true (aN rfl)) id) ?_
 refine qQ hE 2 4 (let x27:=(sg (Psn.mk p.f p.r (List.take p.zs.length (List.drop 0 p.zs)) p.bl p.ca p.pa p.ha p.fu)).getD (Sgt.mk (Psn.mk 0 0 [] false 0 0 0 0) 0 0);let x25:=x27.own;let x26:=x27.p;fun(s7:List (List Int))=>[O.ints false i8 p.zs,O.cells true [I x26.f,I x26.r,V.sl 0 0 x26.zs.length none,Bb x26.bl,V.int u8 x26.ca,I x26.pa,I x26.ha,I x26.fu,U x25,U x27.all],O.cells true [V.sl 4 0 s7.length none],O.cells true [U x25],O.rows true [i64,i64,i8] s7]) (let x31:=(sg (Psn.mk p.f p.r (List.take p.zs.length (List.drop 0 p.zs)) p.bl p.ca p.pa p.ha p.fu)).getD (Sgt.mk (Psn.mk 0 0 [] false 0 0 0 0) 0 0);let x29:=x31.own;let x30:=x31.p;fun(s7:List (List Int))=>[O.ints false i8 p.zs,O.cells true [I x30.f,I x30.r,V.sl 0 0 x30.zs.length none,Bb x30.bl,V.int u8 x30.ca,I x30.pa,I x30.ha,I x30.fu,U x29,U x31.all],O.cells true [V.sl 4 0 s7.length none],O.cells true [U x29],O.rows true [i64,i64,i8] s7]) 0 (iZ ((sg (Psn.mk p.f p.r (List.take p.zs.length (List.drop 0 p.zs)) p.bl p.ca p.pa p.ha p.fu)).getD (Sgt.mk (Psn.mk 0 0 [] false 0 0 0 0) 0 0)).own) (fun(e3:Int)=>[I e3]) (fun(e3:Int) (s7:List (List Int))=>(6,I e3)::putPs (#[15]:Array Nat).toList [I e3] [(2,V.nils),(3,I 0),(4,V.ptr 1 0 0),(5,V.ptr 2 0 0),(14,V.fn 95 [V.ptr 3 0 0])]) [3] [2,3,4,5,14] ((Ent.rn [0,2,3,4] [2,3,4,5,14] rfl rfl rfl rfl rfl).trans ((Ent.phC 2 0 (O.rows true [i64,i64,i8] []) rfl rfl rfl rfl rfl).trans (Ent.rn [0,1,2,3,4] [2,3,4,5,14] rfl rfl rfl rfl rfl))) (qM _) (fun _=>rfl) (ent Tryz.func95 (by kernel_rfl) rfl) rfl rfl rfl rfl rfl rfl (fun _=>rfl) (fun _=>rfl) (fun _ _=>rfl) (fun e3 s7=>?_) (fun s7=>?_) (fun s7=>ox)
 ·refine av rfl ?_
  refine FQ id ?_
  refine cN (pb (pl (decide_eq_true rfl) id) id) ?_
  exact mz ((Ent.rn [0,1,2,3,6] [] rfl rfl rfl rfl rfl))
 exact aR (aO [4] (.inr rfl) rfl rfl rfl rfl rfl)
theorem wR:CtOk (GGx kCa true) PP (62,qw):=by
 refine aD Tryz.func62 (by kernel_rfl) rfl fun a0 h0 c0 v0 N0 e hc=>?_
 unfold qw at e
 split at e
 ·rename_i p_0 p_1 p_2n p_3 p_4 p_5 p_6 p_7 p_2
  obtain⟨hl,r,hr,rfl,rfl⟩:=bJ e hc
  simp only[decide_eq_true_eq]at hl
  obtain rfl:=hl
  exact Bo ⟨p_0,p_1,p_2,p_3,p_4,p_5,p_6,p_7⟩ hr
 ·cases e
def uY(p:Psn)(at_:Int):Option (List (List Int)×Int):=let x7:=List.take p.zs.length (List.drop 0 p.zs);let x5:=Psn.mk p.f p.r x7 p.bl p.ca p.pa p.ha p.fu;let x6:=x7.length;aX (decide (x6<=64)) (bif !x5.ok||!aj p.f p.r at_ then some ([],2)else cr (sg x5) (Sgt.mk (Psn.mk 0 0 [] false 0 0 0 0) 0 0) fun(y3:Sgt)=>let x10:=List.take y3.p.zs.length (List.drop 0 p.zs);let x9:=x10.length;aX (decide (y3.p.zs.length=x9)) (cr (AA (Sgt.mk (Psn.mk y3.p.f y3.p.r x10 y3.p.bl y3.p.ca y3.p.pa y3.p.ha y3.p.fu) y3.own y3.all) at_) [] fun(y4:List (List Int))=>some (y4,0)))
def yc(R:List (List Int)×Int):V:=.tup [.sl 1 0 R.1.length none,.int .i64 R.2]
def ye(R:List (List Int)×Int):List O:=[.rows true [.i64,.i64,.i8] R.1]
def sV:CF
 |[.agg [.int .i64 p_0,.int .i64 p_1,.sl 0 0 p_2n none,.bool p_3,.int .u8 p_4,.int .i64 p_5,.int .i64 p_6,.int .i64 p_7],.int .i64 at__0],[.ints false .i8 p_2]=>retC (decide (p_2n=p_2.length)) (uY ⟨p_0,p_1,p_2,p_3,p_4,p_5,p_6,p_7⟩ at__0) ([],0) yc ye
 |_,_=>none
theorem Cx(p:Psn)(at_:Int){r}(hr:uY p at_=some r):aJ (GGx kCa true) PP 57 [.agg [.int .i64 p.f,.int .i64 p.r,.sl 0 0 p.zs.length none,Bb p.bl,.int .u8 p.ca,.int .i64 p.pa,.int .i64 p.ha,.int .i64 p.fu],.int .i64 at_] [.ints false .i8 p.zs] (yc r) (ye r):=by
 have hE:=cutE (aB (kCa:=kCa) (kDb:=true) (cts:=[(33,ei),(102,qN),(103,qx),(101,eN)]) (inl:=[]) ⟨cQ,pJ,pL,cW,trivial⟩ trivial)
 refine cH hE 2 Tryz.func57 rfl rfl yc ye hr ?_ rfl rfl
 refine cN (pl (decide_eq_true (aN rfl)) id) ?_
 refine av (Bool.not_or_self _) ?_
 refine av (Bool.not_or_self _) ?_
 refine av (Bool.not_or_self _) ?_
 refine av (pg rfl) ?_
 refine av (Bool.not_or_self _) ?_
 refine av (Bool.or_not_self _) ?_
 refine aK hE 2 rfl ?_ ?_
 ·exact aR (nw 4 (.rows true [.i64,.i64,.i8] []) rfl rfl rfl<|aO [2] (.inr rfl) rfl rfl rfl rfl rfl)
 refine aQ (pl (decide_eq_true (aN rfl)) id) ?_
 refine FQ id ?_
 exact aR (aO [2] (.inr rfl) rfl rfl rfl rfl rfl)
theorem qk:CtOk (GGx kCa true) PP (57,sV):=by
 refine aD Tryz.func57 (by kernel_rfl) rfl fun a0 h0 c0 v0 N0 e hc=>?_
 unfold sV at e
 split at e
 ·rename_i p_0 p_1 p_2n p_3 p_4 p_5 p_6 p_7 at__0 p_2
  obtain⟨hl,r,hr,rfl,rfl⟩:=bJ e hc
  simp only[decide_eq_true_eq]at hl
  obtain rfl:=hl
  exact Cx ⟨p_0,p_1,p_2,p_3,p_4,p_5,p_6,p_7⟩ at__0 hr
 ·cases e
end
end Go.Ab
namespace Go.Ab
open Go.Proofs
section
structure PsH(p:Psn):Prop where
 h:aV p.f p.r p.zs=true
 hl:p.zs.length<=64
 ok:p.ok=true
 ca:0<=p.ca
theorem psh{p:Psn}(hl:p.zs.length<=64)(hca:0<=p.ca)(hok:p.ok=true):PsH p:=by
 refine⟨?_,hl,hok,hca⟩
 have hk:=hok
 simp only[Psn.ok,eF,Bool.and_eq_true,decide_eq_true_eq]at hk
 cases h:aV p.f p.r p.zs with
 |true=>rfl
 |false=>have:=hk.1.1.1.1.2.1.1;unfold bT at this;rw[h]at this;cases this
section
variable{p:Psn}
theorem PsH.bd(o:PsH p):aC p.f p.r p.zs=true:=(bh o.h).2.2.1
theorem PsH.cast(o:PsH p):eD p.f p.r p.zs p.ca=true:=by have:=o.ok;simp only[Psn.ok,Bool.and_eq_true]at this;exact this.1.1.2
theorem PsH.pass(o:PsH p):iQ p.f p.r p.zs p.bl p.pa p.ha=true:=by have:=o.ok;simp only[Psn.ok,Bool.and_eq_true]at this;exact this.1.2
end
def canM(p:Psn)(a b pr:Int):Bool:=mvB p.f p.r a b pr&&isP (p.zs.getD a.toNat 0) p.bl&&!err3 p ⟨a,b,pr⟩
def prs:List Int:=[0,2,3,4,5]
def ke(p:Psn)(a b:Int):List (List Int):=(prs.filter (canM p a b)).map fun pr=>[a,b,pr]
def psL(p:Psn)(a:Int):List (List Int):=((List.range p.zs.length).map Int.ofNat).flatMap (ke p a)
def ownS(p:Psn):Int:=bif p.bl then fo negP p.zs else fo posP p.zs
theorem yE{p:Psn}(hl:p.zs.length<=64):Uk (ownS p)/\∀ m:Nat,bt (ownS p) m=(decide (m<p.zs.length)&&isP (p.zs.getD m 0) p.bl):=by
 obtain⟨h1,h2⟩:=me posP hl
 obtain⟨h3,h4⟩:=me negP hl
 unfold ownS
 cases hb:p.bl with
 |true=>exact⟨h3,fun m=>by rw[cond_true,h4];unfold negP isP;simp⟩
 |false=>exact⟨h1,fun m=>by rw[cond_false,h2];unfold posP isP;simp⟩
theorem uQ(p:Psn)(w x:Int):(⟨⟨p.f,p.r,p.zs,p.bl,p.ca,p.pa,p.ha,p.fu⟩,w,x⟩:Sgt)=⟨p,w,x⟩:=rfl
theorem look_eq{p:Psn}(hl:p.zs.length<=64)(hbd:aC p.f p.r p.zs=true):sg p=some ⟨p,ownS p,occR p.f p.r p.zs⟩:=by
 have h1:decide (p.zs.length<=1000000)=true:=by simp;omega
 have h2:(eY p.f p.r p.zs).1=fo posP p.zs/\(eY p.f p.r p.zs).2.1=fo negP p.zs:=by unfold eY;rw[hbd];exact⟨rfl,rfl⟩
 unfold sg ownS occR
 simp only[List.drop_zero,List.take_length,h1,h2.1,h2.2,aS,uQ]
 cases p.bl<;>rfl
def swS(prev:Int)(skip free:Bool)(y:Int):Int:=bif skip then prev else bif free then y else prev
theorem Mt{α:Type}{prev y:Int}{skip free:Bool}{F:Int->Option α}:dN (bif skip then some (.inl prev)else dN (bif free then some (.inl y)else some (.inl prev)) fun s=>some (.inl s)) F=F (swS prev skip free y):=by
 cases skip<;>cases free<;>rfl
def sw1(p:Psn)(a:Int):Int:=swS 0 (decide (cw p.ca 1=0)||!p.bl==false||!decide (a=4)) (decide (uand (bS p.f p.r 4 7).1 (occR p.f p.r p.zs)=0)) (uor 0 (ushl 1 6))
def sw2(p:Psn)(a:Int):Int:=swS (sw1 p a) (decide (cw p.ca 2=0)||!p.bl==false||!decide (a=4)) (decide (uand (bS p.f p.r 4 0).1 (occR p.f p.r p.zs)=0)) (uor (sw1 p a) (ushl 1 2))
def sw3(p:Psn)(a:Int):Int:=swS (sw2 p a) (decide (cw p.ca 4=0)||!p.bl==true||!decide (a=60)) (decide (uand (bS p.f p.r 60 63).1 (occR p.f p.r p.zs)=0)) (uor (sw2 p a) (ushl 1 62))
def sw4(p:Psn)(a:Int):Int:=swS (sw3 p a) (decide (cw p.ca 8=0)||!p.bl==true||!decide (a=60)) (decide (uand (bS p.f p.r 60 56).1 (occR p.f p.r p.zs)=0)) (uor (sw3 p a) (ushl 1 58))
theorem Lm{p:Psn}{w a:Int}:FA ⟨p,w,occR p.f p.r p.zs⟩ a=some (sw4 p a):=by
 unfold FA
 simp only[Mt]
 rfl
theorem sB{x prev g:Int}{skip free:Bool}(hp:Uk prev)(hg0:0<=g)(hg:g<64)(hx:x=swS prev skip free (uor prev (ushl 1 g))):Uk x/\∀ n:Nat,bt x n=(bt prev n||(!skip&&free&&decide (g=n))):=by
 subst hx
 unfold swS
 cases skip with
 |true=>exact⟨hp,fun n=>by simp⟩
 |false=>
  cases free with
  |true=>exact⟨iy _ _,fun n=>by rw[cond_false,cond_true,fE hp (jc _ _),jz hg0 hg];rfl⟩
  |false=>exact⟨hp,fun n=>by simp⟩
theorem Ie{p:Psn}{a:Int}:Uk (sw4 p a)/\∀ n:Nat,bt (sw4 p a) n=((!(decide (cw p.ca 1=0)||!p.bl==false||!decide (a=4))&&decide (uand (bS p.f p.r 4 7).1 (occR p.f p.r p.zs)=0)&&decide ((6:Int)=n)) ||
  (!(decide (cw p.ca 2=0)||!p.bl==false||!decide (a=4))&&decide (uand (bS p.f p.r 4 0).1 (occR p.f p.r p.zs)=0)&&decide ((2:Int)=n)) ||
  (!(decide (cw p.ca 4=0)||!p.bl==true||!decide (a=60))&&decide (uand (bS p.f p.r 60 63).1 (occR p.f p.r p.zs)=0)&&decide ((62:Int)=n)) ||
  (!(decide (cw p.ca 8=0)||!p.bl==true||!decide (a=60))&&decide (uand (bS p.f p.r 60 56).1 (occR p.f p.r p.zs)=0)&&decide ((58:Int)=n))):=by
 obtain⟨u1,b1⟩:=sB (x:=sw1 p a) (g:=6) uk_0 (by decide) (by decide) rfl
 obtain⟨u2,b2⟩:=sB (x:=sw2 p a) (g:=2) u1 (by decide) (by decide) rfl
 obtain⟨u3,b3⟩:=sB (x:=sw3 p a) (g:=62) u2 (by decide) (by decide) rfl
 obtain⟨u4,b4⟩:=sB (x:=sw4 p a) (g:=58) u3 (by decide) (by decide) rfl
 exact⟨u4,fun n=>by rw[b4,b3,b2,b1,bt_0,Bool.false_or]⟩
theorem Nb{p:Psn}{a b:Int}(hk:absP (p.zs.getD a.toNat 0)=6)(hb:0<=b):bt (sw4 p a) b.toNat=wayB p.f p.r p.zs (wayN p.zs p.bl p.ca a b):=by
 have hs:∀ {c:Bool} {bit k to:Int},(!(decide (cw p.ca bit=0)||!p.bl==c||!decide (a=k))&&decide (to=((b.toNat:Nat):Int)))=!aY p.bl p.ca a b c bit k to:=by
  intro c bit k to
  rw[Bool.eq_iff_iff,cZ,show ((b.toNat:Nat):Int)=b by omega]
  simp only[Bool.and_eq_true,Bool.not_eq_true',Bool.or_eq_false_iff,decide_eq_false_iff_not,Bool.not_eq_false',decide_eq_true_eq]
  constructor
  ·rintro⟨⟨⟨h1,h2⟩,h3⟩,h4⟩
   exact⟨(by cases c<;>cases hb:p.bl<;>rw[hb]at h2<;>first|rfl|cases h2),h1,h3.symm,h4⟩
  ·rintro⟨h1,h2,h3,h4⟩
   exact⟨⟨⟨h2,by rw[h1];cases p.bl<;>rfl⟩,h3.symm⟩,h4⟩
 have re:∀ x y z:Bool,(x&&y&&z)=((x&&z)&&y):=by decide
 rw[Ie.2,re,re (!(decide (cw p.ca 2=0)||_||_)),re (!(decide (cw p.ca 4=0)||_||_)),re (!(decide (cw p.ca 8=0)||_||_)),hs,hs,hs,hs]
 unfold wayN
 rw[hk]
 have w0:wayB p.f p.r p.zs 0=decide (uand (bS p.f p.r 4 7).1 (occR p.f p.r p.zs)=0):=rfl
 have w1:wayB p.f p.r p.zs 1=decide (uand (bS p.f p.r 4 0).1 (occR p.f p.r p.zs)=0):=rfl
 have w2:wayB p.f p.r p.zs 2=decide (uand (bS p.f p.r 60 63).1 (occR p.f p.r p.zs)=0):=rfl
 have w3:wayB p.f p.r p.zs 3=decide (uand (bS p.f p.r 60 56).1 (occR p.f p.r p.zs)=0):=rfl
 have w4:wayB p.f p.r p.zs 4=false:=rfl
 have one:∀ {c c':Bool} {bit bit' k k' to to':Int},(!aY p.bl p.ca a b c bit k to)=true->(c≠c'\/to≠to')->(!aY p.bl p.ca a b c' bit' k' to')=false:=by
  intro c c' bit bit' k k' to to' h1 h2
  rw[Bool.eq_false_iff]
  intro h3
  obtain⟨e1,_,_,e4⟩:=cZ.1 h1
  obtain⟨f1,_,_,f4⟩:=cZ.1 h3
  rcases h2 with h|h
  ·exact h (e1.trans f1.symm)
  ·exact h (e4.trans f4.symm)
 cases n1:(!aY p.bl p.ca a b false 1 4 6) with
 |true=>
  rw[one n1 (.inr (by decide)),one n1 (.inl (by decide)),one n1 (.inl (by decide))]
  simp only[Bool.true_and,Bool.false_and,Bool.or_false,decide_true,Bool.not_true,cond_true,cond_false,w0]
 |false=>
  cases n2:(!aY p.bl p.ca a b false 2 4 2) with
  |true=>
   rw[one n2 (.inl (by decide)),one n2 (.inl (by decide))]
   simp only[Bool.true_and,Bool.false_and,Bool.or_false,Bool.false_or,decide_true,Bool.not_true,cond_true,cond_false,w1]
  |false=>
   cases n3:(!aY p.bl p.ca a b true 4 60 62) with
   |true=>
    rw[one n3 (.inr (by decide))]
    simp only[Bool.true_and,Bool.false_and,Bool.or_false,Bool.false_or,decide_true,Bool.not_true,cond_true,cond_false,w2]
   |false=>
    cases n4:(!aY p.bl p.ca a b true 8 60 58) with
    |true=>simp only[Bool.true_and,Bool.false_and,Bool.false_or,decide_true,Bool.not_true,cond_true,cond_false,w3]
    |false=>simp only[Bool.false_and,Bool.or_self,decide_true,Bool.not_true,cond_false,w4]
def tgR(p:Psn)(a:Int):Int:=
 bif decide (absP (p.zs.getD a.toNat 0)=1)then uor (dm p.f p.r p.bl a (occR p.f p.r p.zs)).1 (uand (gg p.f p.r p.bl a).1 (bif decide (0<=p.pa)then uor (cY (occR p.f p.r p.zs) (ownS p)) (ushl 1 p.pa)else cY (occR p.f p.r p.zs) (ownS p)))
 else cY (bif decide (absP (p.zs.getD a.toNat 0)=6)then uor (cq p.f p.r (absP (p.zs.getD a.toNat 0)) a (occR p.f p.r p.zs)).1 (sw4 p a) else(cq p.f p.r (absP (p.zs.getD a.toNat 0)) a (occR p.f p.r p.zs)).1) (ownS p)
theorem MN(v:Int):wC v=some (absP v):=rfl
theorem Iy{p:Psn}{a:Int}:spawn ⟨p,ownS p,occR p.f p.r p.zs⟩ a=some (uor (dm p.f p.r p.bl a (occR p.f p.r p.zs)).1 (uand (gg p.f p.r p.bl a).1 (bif decide (0<=p.pa)then uor (cY (occR p.f p.r p.zs) (ownS p)) (ushl 1 p.pa)else cY (occR p.f p.r p.zs) (ownS p)))):=by
 unfold spawn
 cases h:decide (0<=p.pa) with
 |true=>simp only[cond_true,aS,fS]
 |false=>simp only[cond_false,fS]
theorem Ov{p:Psn}{a:Int}(ha:0<=a/\a<p.zs.length):ef ⟨p,ownS p,occR p.f p.r p.zs⟩ a=some (tgR p a):=by
 have h1:(decide (0<=a)&&decide (a<Int.ofNat p.zs.length))=true:=by simp;omega
 unfold ef tgR
 simp only[List.drop_zero,List.take_length,uQ,MN,h1,aS,aP,Option.getD_some,Iy,Lm]
 by_cases h2:absP (p.zs.getD a.toNat 0)=1
 ·simp only[h2,decide_true,cond_true]
 ·by_cases h3:absP (p.zs.getD a.toNat 0)=6
  ·have h6:((6:Int)=1)=False:=by simp
   simp only[h3,h6,decide_false,decide_true,cond_true,cond_false,fS]
  ·simp only[h2,h3,decide_false,cond_false,fS]
end
end Go.Ab
