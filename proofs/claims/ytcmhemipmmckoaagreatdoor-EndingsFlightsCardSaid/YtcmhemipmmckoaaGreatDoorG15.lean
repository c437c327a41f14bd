/- Contracts of the functions that the laws reach, and plain laws of what they compute (text G15); no condition. -/
import Derived.Test.YtcmhemipmmckoaaGreatDoorG14
import Derived.Test.YtcmhemipmmckoaaGreatDoorG10
import Derived.Test.YtcmhemipmmckoaaGreatDoorG13
import Derived.Test.YtcmhemipmmckoaaGreatDoorG8
import Derived.Test.YtcmhemipmmckoaaGreatDoorG11
set_option maxRecDepth 100000
set_option maxHeartbeats 4000000
namespace Go.Ab
open Go.Proofs
section
variable{kCa kDb:Bool}
end
section
theorem bz(q:Psn):(⟨q.f,q.r,q.zs,q.bl,q.ca,q.pa,q.ha,q.fu⟩:Psn)=q:=rfl
section
variable{p:Psn}
theorem Mq(o:PsH p){m:Mov}(hmv:mvB p.f p.r m.a m.b m.p=true):uis p m=some (canM p m.a m.b m.p):=by
 have hmv':=hmv
 simp only[mvB,Bool.and_eq_true]at hmv'
 obtain⟨⟨⟨ha,hb⟩,_⟩,_⟩:=hmv'
 have hA:=(bQ o.bd).1 ha
 have h1:(decide (0<=m.a)&&decide (m.a<Int.ofNat p.zs.length))=true:=by simp;omega
 have h2:decide (p.zs.length<=64)=true:=by simpa using o.hl
 have h3:(!decide (p.zs.getD m.a.toNat 0=0)&&decide (p.zs.getD m.a.toNat 0<0)==p.bl)=isP (p.zs.getD m.a.toNat 0) p.bl:=IS _ _
 unfold uis canM
 simp only[List.drop_zero,List.take_length,h1,h2,h3,o.bd,cast_eq o.ca,o.cast,ha,hb,hmv,Bool.and_self,Bool.or_true,aR]
 cases hi:isP (p.zs.getD m.a.toNat 0) p.bl with
 |false=>rfl
 |true=>rw[NF o.h o.hl o.cast o.ca ha hb hi];rfl
theorem Jj{a b pr:Int}(h:mvB p.f p.r a b pr=false):canM p a b pr=false:=by unfold canM;rw[h];rfl
theorem nL(o:PsH p){a i:Int}{s:List (List Int)×Int}{acc:List (List Int)}(h:acc.length<=100000)(h0:0<=i)(h5:i<5) :
  ec p a s (acc,i)=some (.inl (acc++(bif canM p a s.2 (prs.getD i.toNat 0) then[[a,s.2,prs.getD i.toNat 0]] else[]),i+1)):=by
 have h1:decide (i<Int.ofNat 5)=true:=by rw[decide_eq_true_eq];exact h5
 have hw:IntKind.i64.wrap (i+1)=i+1:=aI (by omega) (by omega)
 have hp:(iL [0,2,3,4,5]).getD i.toNat 0=prs.getD i.toNat 0:=rfl
 unfold ec
 simp only[List.drop_zero,List.take_length,bz,h1,decide_eq_true h0,hw,hp,cond_true,aR,Bool.and_self,DS h]
 cases hm:mvB p.f p.r a s.2 (prs.getD i.toNat 0) with
 |false=>
  rw[Jj hm]
  simp only[Bool.not_false,Bool.true_or,aR,Bool.false_and,cond_false,fF,List.append_nil]
 |true=>
  have hu:=Mq o (m:=⟨a,s.2,prs.getD i.toNat 0⟩) hm
  rw[hu]
  simp only[Option.isSome_some,Bool.or_true,aR,Bool.true_and,Option.getD_some]
  cases canM p a s.2 (prs.getD i.toNat 0) with
  |true=>rfl
  |false=>simp only[cond_false,fF,List.append_nil]
theorem Mo{a:Int}{s:List (List Int)×Int}{acc:List (List Int)}:ec p a s (acc,0+1+1+1+1+1)=some (.inr (.inl acc)):=by
 unfold ec
 rfl
theorem zB{a b pr:Int}:(bif canM p a b pr then[[a,b,pr]] else[]).length<=1:=by cases canM p a b pr<;>simp
theorem DJ{a b:Int}:jF p a b=(bif canM p a b 0 then[[a,b,0]] else[])++((bif canM p a b 2 then[[a,b,2]] else[])++((bif canM p a b 3 then[[a,b,3]] else[])++((bif canM p a b 4 then[[a,b,4]] else[])++(bif canM p a b 5 then[[a,b,5]] else[])))):=by
 unfold jF prs
 simp only[List.filter_cons,List.filter_nil]
 cases canM p a b 0<;>cases canM p a b 2<;>cases canM p a b 3<;>cases canM p a b 4<;>cases canM p a b 5<;>rfl
theorem uC{a b:Int}:(jF p a b).length<=5:=by
 unfold jF
 rw[List.length_map]
 exact Nat.le_trans (List.length_filter_le _ _) (by decide)
theorem Mt(o:PsH p){a:Int}{s:List (List Int)×Int}{F:List (List Int)->Option (List (List Int)×Int ⊕ List (List Int) ⊕ List (List Int))}{acc:List (List Int)}(h:acc.length<=90000):cR (ec p a s) F 1000000 (acc,0)=F (acc++jF p a s.2):=by
 rw[show (1000000:Nat)=999994+1+1+1+1+1+1 by rfl]
 have c0:=zB (p:=p) (a:=a) (b:=s.2) (pr:=prs.getD (0:Int).toNat 0)
 have c1:=zB (p:=p) (a:=a) (b:=s.2) (pr:=prs.getD (0+1:Int).toNat 0)
 have c2:=zB (p:=p) (a:=a) (b:=s.2) (pr:=prs.getD (0+1+1:Int).toNat 0)
 have c3:=zB (p:=p) (a:=a) (b:=s.2) (pr:=prs.getD (0+1+1+1:Int).toNat 0)
 rw[bC (nL o (by omega) (by decide) (by decide)),bC (nL o (by simp only[List.length_append];omega) (by decide) (by decide)),bC (nL o (by simp only[List.length_append];omega) (by decide) (by decide)),bC (nL o (by simp only[List.length_append];omega) (by decide) (by decide)),bC (nL o (by simp only[List.length_append];omega) (by decide) (by decide)),dn Mo,DJ]
 simp only[List.append_assoc]
 rfl
theorem Jr(o:PsH p){a:Int}{j:Nat}(hj:j<p.zs.length){acc:List (List Int)}(h:acc.length<=90000):jC p a ec (acc,(j:Int))=some (.inl (acc++jF p a j,((j+1:Nat):Int))):=by
 have hl:=o.hl
 have h1:decide ((j:Int)<Int.ofNat p.zs.length)=true:=by simp;omega
 unfold jC
 simp only[h1,cond_true]
 rw[Mt o h,show IntKind.i64.wrap ((j:Int)+1)=((j+1:Nat):Int)from aI (by omega) (by omega)]
theorem Ji(o:PsH p){a:Int}{F:List (List Int)->Option (List (List Int))}:∀ (k fuel j:Nat) (acc:List (List Int)),j+k=p.zs.length->k<fuel->acc.length+5*k<=90000 ->
  cR (jC p a ec) F fuel (acc,(j:Int))=F (acc++((List.range' j k).map Int.ofNat).flatMap (jF p a))
 |k,0,j,acc,_,h,_=>absurd h (by omega)
 |0,fuel+1,j,acc,h,_,_=>by
  have h1:decide ((j:Int)<Int.ofNat p.zs.length)=false:=by simp;omega
  rw[dn (x:=acc)]
  ·simp
  ·unfold jC;simp only[h1,cond_false]
 |k+1,fuel+1,j,acc,h,hf,hM=>by
  have:=uC (p:=p) (a:=a) (b:=(j:Int))
  rw[bC (Jr o (by omega) (by omega)),Ji o k fuel (j+1) _ (by omega) (by omega) (by rw[List.length_append];omega),List.range'_succ,List.map_cons,List.flatMap_cons,List.append_assoc]
  rfl
theorem ld{a:Int}(hl:p.zs.length<=64):(psL p a).length<=320:=by
 have key:∀ l:List Int,(l.flatMap (jF p a)).length<=5*l.length:=by
  intro l
  induction l with
  |nil=>simp
  |cons x l ih=>
   have:=uC (p:=p) (a:=a) (b:=x)
   rw[List.flatMap_cons,List.length_append,List.length_cons]
   omega
 have:=key ((List.range p.zs.length).map Int.ofNat)
 rw[List.length_map,List.length_range]at this
 unfold psL
 omega
theorem Hs(o:PsH p){a:Int}:xJ p a=some (psL p a):=by
 have hl:=o.hl
 have:=Ji o (a:=a) (F:=fun s=>some s) p.zs.length 1000000 0 [] (by omega) (by omega) (by simp;omega)
 unfold xJ psL
 rw[List.range_eq_range']
 exact this.trans (by rw[List.nil_append])
def allL(p:Psn):List (List Int):=((List.range p.zs.length).map Int.ofNat).flatMap (psL p)
theorem zJ(o:PsH p){a:Int}(ha:aj p.f p.r a=true):tu p a=some (psL p a,0):=by
 have h1:decide (p.zs.length<=64)=true:=by simpa using o.hl
 unfold tu
 simp only[List.drop_zero,List.take_length,bz,h1,o.ok,ha,aR,Bool.not_true,Bool.or_self,cond_false,look_eq o.hl o.bd,aO,decide_true,HX o ha]
end
end
section
theorem qw{f r:Int}{z:List Int}{bl:Bool}{K:Nat}(h:aW f r z=true)(hl:z.length<=64)(hK:K<z.length)(h1:z.getD K 0=kgP bl)(hu:∀ i:Nat,i<z.length->z.getD i 0=kgP bl->i=K):(bW f r z bl).2=0/\aV z bl=(K:Int):=by
 have hone:iC z (kgP bl)=[(K:Int)]:=qE (by simp only[lj,Int.toNat_natCast,h1,decide_true]) _ hK fun i hi hc=>hu i hi (by simpa[lj]using hc)
 have hrk:aV z bl=(K:Int):=by
  unfold aV
  rw[LZ,hone];rfl
 rcases mj (bl:=bl) h hl with⟨h2,_⟩|⟨h2,_,_⟩
 ·omega
 ·exact⟨by rw[h2],hrk⟩
theorem Fl{f r:Int}{zs:List Int}{bl:Bool}(h:aW f r zs=true)(hl:zs.length<=64)(hk:(bW f r zs bl).2=0):∃ K:Nat,K<zs.length/\zs.getD K 0=kgP bl/\aV zs bl=(K:Int)/\∀ i:Nat,i<zs.length->zs.getD i 0=kgP bl->i=K:=by
 rcases zy zs bl hl with⟨h1,_⟩|⟨h1,h2,h3,h4,h5,h6⟩
 ·unfold bW at hk;rw[h,h1]at hk;cases hk
 ·refine⟨(gB zs bl).toNat,by omega,h5,by omega,fun i hi he=>?_⟩
  have:=h6 i hi he
  omega
theorem Im(bl:Bool):isP (kgP bl) bl=true:=by cases bl<;>decide
theorem lA{f r a b occ:Int}(_ha:aj f r a=true)(_hb:aj f r b=true)(h:bJ f r 6 a b occ=true):eA f a b=1:=by
 unfold bJ at h
 simpa using h
def BJ(p:Psn)(m:Mov)(n:Nat)(bl:Bool)(bit k to:Int):Prop:=wayN p.zs p.bl p.ca m.a m.b=n/\p.bl=bl/\fq p.ca bit≠0/\m.a=k/\m.b=to
theorem Jd{p:Psn}{m:Mov}(hn:wayN p.zs p.bl p.ca m.a m.b≠4):absP (p.zs.getD m.a.toNat 0)=6/\(BJ p m 0 false 1 4 6\/BJ p m 1 false 2 4 2\/BJ p m 2 true 4 60 62\/BJ p m 3 true 8 60 58):=by
 unfold BJ
 cases hk:decide (absP (p.zs.getD m.a.toNat 0)=6) with
 |false=>exact absurd (by unfold wayN;rw[hk];rfl) hn
 |true=>
  refine⟨of_decide_eq_true hk,?_⟩
  cases n1:(!aX p.bl p.ca m.a m.b false 1 4 6) with
  |true=>
   obtain⟨e1,e2,e3,e4⟩:=cW.1 n1
   exact .inl ⟨by unfold wayN;rw[hk,n1];rfl,e1.symm,e2,e3.symm,e4.symm⟩
  |false=>
   cases n2:(!aX p.bl p.ca m.a m.b false 2 4 2) with
   |true=>
    obtain⟨e1,e2,e3,e4⟩:=cW.1 n2
    exact .inr (.inl ⟨by unfold wayN;rw[hk,n1,n2];rfl,e1.symm,e2,e3.symm,e4.symm⟩)
   |false=>
    cases n3:(!aX p.bl p.ca m.a m.b true 4 60 62) with
    |true=>
     obtain⟨e1,e2,e3,e4⟩:=cW.1 n3
     exact .inr (.inr (.inl ⟨by unfold wayN;rw[hk,n1,n2,n3];rfl,e1.symm,e2,e3.symm,e4.symm⟩))
    |false=>
     cases n4:(!aX p.bl p.ca m.a m.b true 8 60 58) with
     |true=>
      obtain⟨e1,e2,e3,e4⟩:=cW.1 n4
      exact .inr (.inr (.inr ⟨by unfold wayN;rw[hk,n1,n2,n3,n4];rfl,e1.symm,e2,e3.symm,e4.symm⟩))
     |false=>exact absurd (by unfold wayN;rw[hk,n1,n2,n3,n4];rfl) hn
section
variable{p:Psn}{m:Mov}
theorem MvOk.kU(o:MvOk p m):∃ K:Nat,K<p.zs.length/\p.zs.getD K 0=kgP p.bl/\aV p.zs p.bl=(K:Int)/\∀ i:Nat,i<p.zs.length->p.zs.getD i 0=kgP p.bl->i=K:=by
 have:=o.kings
 simp only[fI,Bool.and_eq_true,decide_eq_true_eq]at this
 exact Fl o.h o.hl this.1.1
theorem MvOk.pr0(o:MvOk p m)(hk:aY (p.zs.getD m.a.toNat 0)≠1):m.p=0:=by
 have:=o.so
 simp only[err3,Bool.or_eq_false_iff]at this
 have hg:=kD (bl:=p.bl) (_ca:=p.ca) (pa:=p.pa) (pr:=m.p) o.h o.hl o.ha o.hb o.hp
 rw[decide_eq_false hk,cond_false]at hg
 rw[hg]at this
 by_cases h:m.p=0
 ·exact h
 ·rw[decide_eq_false h]at this;simp at this
theorem MvOk.wayg(o:MvOk p m)(hn:wayN p.zs p.bl p.ca m.a m.b≠4):aY (p.zs.getD m.a.toNat 0)=6/\m.p=0/\iB p.f p.r p.zs p.bl p.pa m.a m.b m.p=false:=by
 obtain⟨hk6,hsq⟩:=Jd hn
 have hk:aY (p.zs.getD m.a.toNat 0)=6:=by rw[<-o.kd];exact hk6
 have hp0:m.p=0:=o.pr0 (by rw[hk];decide)
 refine⟨hk,hp0,?_⟩
 rw[kD (_ca:=p.ca) o.h o.hl o.ha o.hb o.hp,hk,hp0]
 simp only[decide_true,Bool.true_and]
 cases hr:bJ p.f p.r 6 m.a m.b (occL p.zs) with
 |false=>rfl
 |true=>
  exfalso
  have hd:=lA o.ha o.hb hr
  obtain⟨h88,_⟩:=mG (a:=m.a) (b:=m.b) (bl:=p.bl) o.bd o.cast hn
  simp only[is88,Bool.and_eq_true,decide_eq_true_eq]at h88
  rw[h88.1]at hd
  rcases hsq with⟨_,_,_,e1,e2⟩|⟨_,_,_,e1,e2⟩|⟨_,_,_,e1,e2⟩|⟨_,_,_,e1,e2⟩<;>rw[e1,e2]at hd<;>exact absurd hd (by decide)
theorem MvOk.way(o:MvOk p m)(hw:wayB p.f p.r p.zs (wayN p.zs p.bl p.ca m.a m.b)=true):aY (p.zs.getD m.a.toNat 0)=6/\m.p=0/\iB p.f p.r p.zs p.bl p.pa m.a m.b m.p=false /\
  (cgL p.f p.r p.zs p.bl p.ca m.a m.b m.p≠0)/\sqW (cgL p.f p.r p.zs p.bl p.ca m.a m.b m.p) 2=wCor (wayN p.zs p.bl p.ca m.a m.b)/\sqW (cgL p.f p.r p.zs p.bl p.ca m.a m.b m.p) 3=wCro (wayN p.zs p.bl p.ca m.a m.b):=by
 have hn:wayN p.zs p.bl p.ca m.a m.b≠4:=by intro e;rw[e]at hw;simp[wayB]at hw
 obtain⟨hk,hp0,hg⟩:=o.wayg hn
 obtain⟨w1,w2⟩:=Ci (bl:=p.bl) (b:=m.b) (pr:=m.p) o.h o.hl o.cast o.ca o.sq.1.1 o.sq.1.2
 rw[hw,hp0]at w1
 rw[hp0]at w2 hg ⊢
 have hc:(!decide (cgL p.f p.r p.zs p.bl p.ca m.a m.b 0=0))=true:=w1
 obtain⟨s1,s2,_⟩:=w2 hc
 exact⟨hk,rfl,hg,by simpa using hc,s1,s2⟩
theorem MvOk.noway(o:MvOk p m)(hw:wayB p.f p.r p.zs (wayN p.zs p.bl p.ca m.a m.b)=false):cgL p.f p.r p.zs p.bl p.ca m.a m.b m.p=0:=by
 obtain⟨w1,_⟩:=Ci (bl:=p.bl) (b:=m.b) (pr:=m.p) o.h o.hl o.cast o.ca o.sq.1.1 o.sq.1.2
 rw[hw,Bool.and_false]at w1
 simpa using w1
theorem KE{n:Int}{bl:Bool}(h:isP n bl=true):sgn n=sdI bl:=by rw[xK]at h;exact of_decide_eq_true h
theorem MvOk.af(o:MvOk p m):afZ p.f p.r p.zs p.bl p.ca p.pa m.a m.b m.p=zs3R p.f p.r p.zs p.bl p.ca p.pa m.a m.b m.p:=by
 have h1:afZ1 p.f p.r p.zs p.pa m.a m.b=zs1R p.f p.zs p.pa m.a m.b:=by unfold afZ1 zs1R;rw[o.cap.1]
 have h2:afZ2 p.f p.r p.zs p.pa m.a m.b=zs2R p.f p.zs p.pa m.a m.b:=by unfold afZ2 zs2R;rw[h1]
 unfold afZ zs3R putR afZ3
 rw[h2]
 by_cases hp:m.p=0
 ·rw[hp]
  simp only[decide_true,Bool.not_true,Bool.false_and,cond_false]
  cases hw:wayB p.f p.r p.zs (wayN p.zs p.bl p.ca m.a m.b) with
  |true=>
   obtain⟨_,_,g,c,s1,s2⟩:=o.way hw
   rw[hp]at g c s1 s2
   unfold cstR afZ4
   rw[hw,g,s1,s2,decide_eq_false c];rfl
  |false=>
   have hc:=o.noway hw
   rw[hp]at hc
   unfold cstR afZ4
   rw[hw,hc];rfl
 ·have hpr:2<=m.p/\m.p<=5:=o.hpr.resolve_left hp
  have hc:cgL p.f p.r p.zs p.bl p.ca m.a m.b m.p=0:=by unfold cgL;rw[decide_eq_false hp];simp
  rw[hc,decide_eq_false hp]
  simp only[Bool.not_false,Bool.true_and,cond_true]
  have hs:=KE o.hp
  unfold afZ4
  rw[hs]
  cases p.bl with
  |true=>
   have:w8 (m.p*w8 (sdI true))=w8 (0-m.p):=by
    rw[show w8 (sdI true)=-1 by decide];congr 1;omega
   rw[this];rfl
  |false=>
   have:w8 (m.p*w8 (sdI false))=m.p:=by
    rw[show w8 (sdI false)=1 by decide,Int.mul_one];exact GY (by omega) (by omega)
   rw[this];rfl
end
end
section
variable{p:Psn}{m:Mov}
theorem qt(o:PsH p)(h:canM p m.a m.b m.p=true):MvOk p m:=by
 unfold canM at h
 simp only[Bool.and_eq_true,Bool.not_eq_true']at h
 obtain⟨⟨hmv,hp⟩,he⟩:=h
 simp only[mvB,Bool.and_eq_true,Bool.or_eq_true,decide_eq_true_eq,Bool.not_eq_true',decide_eq_false_iff_not]at hmv
 obtain⟨⟨⟨ha,hb⟩,hab⟩,hpr⟩:=hmv
 exact⟨o.h,o.hl,o.ok,o.ca,ha,hb,hab,hpr,hp,he⟩
theorem wg(x y:Int):imax true x y=x\/imax true x y=y:=by
 unfold imax
 dsimp only
 cases decide (x<y)
 ·exact .inl rfl
 ·exact .inr rfl
theorem IM{n:Int}(h1:-8<=n)(h2:n<=8):n<=absI n/\-n<=absI n:=by
 unfold absI
 by_cases h:n<0
 ·rw[decide_eq_true h,cond_true,aI (by omega) (by omega)];omega
 ·rw[decide_eq_false h,cond_false];omega
theorem HQ{f r a b:Int}(ha:aj f r a=true)(hb:aj f r b=true):∃ d:Int,va ⟨f,r⟩ a b=some (d,0)/\(eA f a b=1->d≠2):=by
 obtain⟨a0,a1,a2,a3,a4,a5,a6,a7,a8,a9⟩:=fB ha
 obtain⟨b0,b1,b2,b3,b4,b5,_⟩:=fB hb
 have pa:aU f r a=(px f a,py f a,0):=by unfold aU;rw[ha,cond_true,a0]
 have pb:aU f r b=(px f b,py f b,0):=by unfold aU;rw[hb,cond_true,b0]
 refine⟨imax true (imax true (imax true (IntKind.i64.wrap (px f a-px f b)) (IntKind.i64.wrap (px f b-px f a))) (IntKind.i64.wrap (py f a-py f b))) (IntKind.i64.wrap (py f b-py f a)),?_,?_⟩
 ·unfold va
  rw[pa,pb]
  rfl
 ·intro h hd
  unfold eA at h
  rw[a0,b0,show a.tmod f=px f a from rfl,show b.tmod f=px f b from rfl,aI (n:=py f a-py f b) (by omega) (by omega),aI (n:=px f a-px f b) (by omega) (by omega)]at h
  rw[aI (n:=px f a-px f b) (by omega) (by omega),aI (n:=px f b-px f a) (by omega) (by omega),aI (n:=py f a-py f b) (by omega) (by omega),aI (n:=py f b-py f a) (by omega) (by omega)]at hd
  have gx:=IM (n:=px f a-px f b) (by omega) (by omega)
  have gy:=IM (n:=py f a-py f b) (by omega) (by omega)
  have hx:absI (px f a-px f b)<=1/\absI (py f a-py f b)<=1:=by
   by_cases hc:absI (py f a-py f b)<absI (px f a-px f b)
   ·rw[decide_eq_true hc,cond_true]at h;omega
   ·rw[decide_eq_false hc,cond_false]at h;omega
  have o1:=wg (px f a-px f b) (px f b-px f a)
  have o2:=wg (imax true (px f a-px f b) (px f b-px f a)) (py f a-py f b)
  have o3:=wg (imax true (imax true (px f a-px f b) (px f b-px f a)) (py f a-py f b)) (py f b-py f a)
  omega
theorem MvOk.castles(o:MvOk p m):∃ d:Int,va ⟨p.f,p.r⟩ m.a m.b=some (d,0)/\(decide (absP (p.zs.getD m.a.toNat 0)=6)&&decide (d=2))=!decide (cgL p.f p.r p.zs p.bl p.ca m.a m.b m.p=0):=by
 cases hw:wayB p.f p.r p.zs (wayN p.zs p.bl p.ca m.a m.b) with
 |true=>
  have hn:wayN p.zs p.bl p.ca m.a m.b≠4:=by intro e;rw[e]at hw;simp[wayB]at hw
  obtain⟨hk,_,_,hc,_⟩:=o.way hw
  obtain⟨h88,_⟩:=mG (a:=m.a) (b:=m.b) (bl:=p.bl) o.bd o.cast hn
  simp only[is88,Bool.and_eq_true,decide_eq_true_eq]at h88
  obtain⟨_,hsq⟩:=Jd hn
  refine⟨2,?_,by rw[o.kd,decide_eq_true hk,decide_eq_false hc];rfl⟩
  rw[h88.1,h88.2]
  rcases hsq with⟨_,_,_,e1,e2⟩|⟨_,_,_,e1,e2⟩|⟨_,_,_,e1,e2⟩|⟨_,_,_,e1,e2⟩<;>rw[e1,e2]<;>decide
 |false=>
  have hc:=o.noway hw
  obtain⟨d,h1,h2⟩:=HQ o.ha o.hb
  refine⟨d,h1,?_⟩
  rw[o.kd,decide_eq_true hc]
  cases hk:decide (aY (p.zs.getD m.a.toNat 0)=6) with
  |false=>rfl
  |true=>
   have hk6:=of_decide_eq_true hk
   have hso:=o.so
   simp only[err3,hw,Bool.not_false,Bool.true_or,Bool.and_true,Bool.or_eq_false_iff,Bool.not_eq_false']at hso
   have hg:=hso.2
   rw[kD (_ca:=p.ca) o.h o.hl o.ha o.hb o.hp,hk6]at hg
   have hg:(decide (m.p=0)&&bJ p.f p.r 6 m.a m.b (occL p.zs))=true:=hg
   rw[Bool.and_eq_true]at hg
   have:=h2 (lA o.ha o.hb hg.2)
   rw[decide_eq_false this];rfl
end
section
theorem ee{l:List Int}{j i:Nat}{v:Int}(hi:i<l.length):(l.set j v).getD i 0=if i=j then v else l.getD i 0:=by
 by_cases e:i=j
 ·subst e;simp[List.getD,hi]
 ·rw[if_neg e];simp[List.getD,List.getElem?_set_ne (Ne.symm e)]
theorem fL{f r:Int}{zs:List Int}{j:Nat}{v:Int}(h:aW f r zs=true)(hv:-6<=v/\v<=6):aW f r (zs.set j v)=true:=by
 have:=Gg (j:=(j:Int)) h hv
 rwa [Int.toNat_natCast]at this
theorem vv{f r:Int}{zs:List Int}(h:aW f r zs=true)(i:Nat):-6<=zs.getD i 0/\zs.getD i 0<=6:=by
 by_cases hi:i<zs.length
 ·exact(bn h).2.2.2 _ (yq hi)
 ·simp[List.getD,List.getElem?_eq_none (by omega:zs.length<=i)]
theorem KP{n:Int}{bl:Bool}(h:-6<=n/\n<=6)(hp:isP n bl=true)(hk:aY n=6):n=kgP bl:=by
 rw[jz h]at hk
 have:n=6\/n=-6:=by omega
 rcases this with rfl|rfl<;>cases bl<;>first|rfl|(revert hp;decide)
section
variable{p:Psn}{m:Mov}
theorem MvOk.z1(o:MvOk p m):aW p.f p.r (zs1R p.f p.zs p.pa m.a m.b)=true/\∀ i:Nat,i<p.zs.length->(zs1R p.f p.zs p.pa m.a m.b).getD i 0=p.zs.getD i 0\/((zs1R p.f p.zs p.pa m.a m.b).getD i 0=0/\isP (p.zs.getD i 0) p.bl=false):=by
 unfold zs1R
 cases hc:decide (0<=at2R p.f p.zs p.pa m.a m.b) with
 |false=>exact⟨o.h,fun i _=>.inl rfl⟩
 |true=>
  obtain⟨c1,c2,c3,_⟩:=o.cap.2.1 (of_decide_eq_true hc)
  refine⟨fL o.h (by omega),fun i hi=>?_⟩
  rw[cond_true,ee hi]
  by_cases e:i=(at2R p.f p.zs p.pa m.a m.b).toNat
  ·right
   rw[if_pos e,e]
   refine⟨rfl,?_⟩
   rw[xK]at c2 ⊢
   rw[of_decide_eq_true c2]
   cases p.bl<;>decide
  ·left;rw[if_neg e]
theorem MvOk.z2(o:MvOk p m):aW p.f p.r (zs2R p.f p.zs p.pa m.a m.b)=true/\∀ i:Nat,i<p.zs.length->(zs2R p.f p.zs p.pa m.a m.b).getD i 0=if i=m.b.toNat then p.zs.getD m.a.toNat 0 else if i=m.a.toNat then 0 else(zs1R p.f p.zs p.pa m.a m.b).getD i 0:=by
 have hl:=EW (f:=p.f) (zs:=p.zs) (pa:=p.pa) (a:=m.a) (b:=m.b)
 refine⟨fL (fL o.z1.1 (by omega)) (vv o.h _),fun i hi=>?_⟩
 unfold zs2R
 rw[ee (by rw[List.length_set,hl];exact hi),ee (by rw[hl];exact hi)]
theorem MvOk.z3(o:MvOk p m):aW p.f p.r (zs3R p.f p.r p.zs p.bl p.ca p.pa m.a m.b m.p)=true/\(bW p.f p.r (zs3R p.f p.r p.zs p.bl p.ca p.pa m.a m.b m.p) p.bl).2=0:=by
 obtain⟨⟨sa0,sa1⟩,⟨sb0,sb1⟩⟩:=o.sq
 obtain⟨z2o,z2g⟩:=o.z2
 obtain⟨K,k1,k2,_,k4⟩:=o.kU
 have hlen:=wS (f:=p.f) (r:=p.r) (zs:=p.zs) (bl:=p.bl) (ca:=p.ca) (pa:=p.pa) (a:=m.a) (b:=m.b) (pr:=m.p)
 have hl2:=Fq (f:=p.f) (zs:=p.zs) (pa:=p.pa) (a:=m.a) (b:=m.b)
 have hkb:K≠m.b.toNat:=by intro e;have h1:=Im p.bl;rw[<-k2,e,o.nto]at h1;cases h1
 have kz:(0:Int)≠kgP p.bl:=by cases p.bl<;>decide
 have hK1:(zs1R p.f p.zs p.pa m.a m.b).getD K 0=kgP p.bl:=by
  rcases o.z1.2 K k1 with h|⟨_,h⟩
  ·rw[h,k2]
  ·rw[k2,Im]at h;cases h
 have h1U:∀ i:Nat,i<p.zs.length->(zs1R p.f p.zs p.pa m.a m.b).getD i 0=kgP p.bl->i=K:=by
  intro i hi he
  rcases o.z1.2 i hi with h|⟨h,_⟩
  ·rw[h]at he;exact k4 i hi he
  ·rw[h]at he;exact absurd he kz
 -- a board that is like zs2R but for a piece that is put down
 have fin:∀ (z:List Int) (v:Int),z.length=p.zs.length->(∀ i:Nat,i<p.zs.length->z.getD i 0=if i=m.b.toNat then v else if i=m.a.toNat then 0 else(zs1R p.f p.zs p.pa m.a m.b).getD i 0)->aW p.f p.r z=true->(v=kgP p.bl↔K=m.a.toNat)->(bW p.f p.r z p.bl).2=0:=by
  intro z v hzl hz hzo hv
  by_cases hKa:K=m.a.toNat
  ·refine(qw (K:=m.b.toNat) hzo (by rw[hzl];exact o.hl) (by omega) ?_ fun i hi he=>?_).1
   ·rw[hz _ (by omega),if_pos rfl];exact hv.2 hKa
   ·rw[hz _ (by omega)]at he
    by_cases e:i=m.b.toNat
    ·exact e
    ·rw[if_neg e]at he
     by_cases e2:i=m.a.toNat
     ·rw[if_pos e2]at he;exact absurd he kz
     ·rw[if_neg e2]at he;exact absurd ((h1U i (by omega) he).trans hKa) e2
  ·refine(qw (K:=K) hzo (by rw[hzl];exact o.hl) (by omega) ?_ fun i hi he=>?_).1
   ·rw[hz _ k1,if_neg hkb,if_neg hKa,hK1]
   ·rw[hz _ (by omega)]at he
    by_cases e:i=m.b.toNat
    ·rw[if_pos e]at he;exact absurd (hv.1 he) hKa
    ·rw[if_neg e]at he
     by_cases e2:i=m.a.toNat
     ·rw[if_pos e2]at he;exact absurd he kz
     ·rw[if_neg e2]at he;exact h1U i (by omega) he
 have haK:p.zs.getD m.a.toNat 0=kgP p.bl↔K=m.a.toNat:=⟨fun h=>(k4 _ (by omega) h).symm,fun h=>by rw[<-h,k2]⟩
 unfold zs3R putR
 by_cases hp:m.p=0
 ·rw[decide_eq_true hp]
  simp only[Bool.not_true,Bool.false_and,cond_false]
  cases hw:wayB p.f p.r p.zs (wayN p.zs p.bl p.ca m.a m.b) with
  |false=>
   unfold cstR
   rw[hw]
   exact⟨z2o,fin _ _ hl2 z2g z2o haK⟩
  |true=>
   obtain⟨hk6,_,g,_,_,_⟩:=o.way hw
   have hn:wayN p.zs p.bl p.ca m.a m.b≠4:=by intro e;rw[e]at hw;simp[wayB]at hw
   obtain⟨h88,h64,w1,w2,w3,w4⟩:=mG (a:=m.a) (b:=m.b) (bl:=p.bl) o.bd o.cast hn
   unfold cstR
   rw[hw,g]
   simp only[Bool.not_false,Bool.and_self,cond_true]
   have hpiece:p.zs.getD m.a.toNat 0=kgP p.bl:=KP (vv o.h _) o.hp hk6
   have hKa:=haK.1 hpiece
   -- the rook
   have hrook:p.zs.getD (wCor (wayN p.zs p.bl p.ca m.a m.b)).toNat 0=ofP 4 p.bl/\wCor (wayN p.zs p.bl p.ca m.a m.b)≠m.a/\wCor (wayN p.zs p.bl p.ca m.a m.b)≠m.b/\wCro (wayN p.zs p.bl p.ca m.a m.b)≠m.b/\wCro (wayN p.zs p.bl p.ca m.a m.b)≠m.a:=by
    have hcs:=o.cast
    simp only[fy,Bool.and_eq_true,Bool.not_eq_true',decide_eq_true_eq]at hcs
    obtain⟨⟨⟨⟨c1,c2⟩,c3⟩,c4⟩,c5⟩:=hcs
    unfold wayN at hn ⊢
    rw[o.kd,hk6]at hn ⊢
    cases n1:(!aX p.bl p.ca m.a m.b false 1 4 6) with
    |true=>
     obtain⟨e1,e2,e3,e4⟩:=cW.1 n1
     obtain⟨_,_,_,e5⟩:=ia c1 e2
     rw[<-e1,<-e3,<-e4]
     exact⟨e5,show (7:Int)≠4 by decide,show (7:Int)≠6 by decide,show (5:Int)≠6 by decide,show (5:Int)≠4 by decide⟩
    |false=>
     cases n2:(!aX p.bl p.ca m.a m.b false 2 4 2) with
     |true=>
      obtain⟨e1,e2,e3,e4⟩:=cW.1 n2
      obtain⟨_,_,_,e5⟩:=ia c2 e2
      rw[<-e1,<-e3,<-e4]
      exact⟨e5,show (0:Int)≠4 by decide,show (0:Int)≠2 by decide,show (3:Int)≠2 by decide,show (3:Int)≠4 by decide⟩
     |false=>
      cases n3:(!aX p.bl p.ca m.a m.b true 4 60 62) with
      |true=>
       obtain⟨e1,e2,e3,e4⟩:=cW.1 n3
       obtain⟨_,_,_,e5⟩:=ia c3 e2
       rw[<-e1,<-e3,<-e4]
       exact⟨e5,show (63:Int)≠60 by decide,show (63:Int)≠62 by decide,show (61:Int)≠62 by decide,show (61:Int)≠60 by decide⟩
      |false=>
       cases n4:(!aX p.bl p.ca m.a m.b true 8 60 58) with
       |true=>
        obtain⟨e1,e2,e3,e4⟩:=cW.1 n4
        obtain⟨_,_,_,e5⟩:=ia c4 e2
        rw[<-e1,<-e3,<-e4]
        exact⟨e5,show (56:Int)≠60 by decide,show (56:Int)≠58 by decide,show (59:Int)≠58 by decide,show (59:Int)≠60 by decide⟩
       |false=>rw[n1,n2,n3,n4]at hn;exact absurd rfl hn
   obtain⟨r1,r2,r3,r4,r5⟩:=hrook
   have hro:aW p.f p.r (((zs2R p.f p.zs p.pa m.a m.b).set (wCro (wayN p.zs p.bl p.ca m.a m.b)).toNat ((zs2R p.f p.zs p.pa m.a m.b).getD (wCor (wayN p.zs p.bl p.ca m.a m.b)).toNat 0)).set (wCor (wayN p.zs p.bl p.ca m.a m.b)).toNat 0)=true:=fL (fL z2o (vv z2o _)) (by omega)
   refine⟨hro,(qw (K:=m.b.toNat) hro (by simp only[List.length_set,hl2];exact o.hl) (by simp only[List.length_set,hl2];omega) ?_ fun i hi he=>?_).1⟩
   ·rw[ee (by simp only[List.length_set,hl2];omega),if_neg (by omega),ee (by rw[hl2];omega),if_neg (by omega),z2g _ (by omega),if_pos rfl,hpiece]
   ·simp only[List.length_set,hl2]at hi
    rw[ee (by simp only[List.length_set,hl2];omega)]at he
    by_cases e1:i=(wCor (wayN p.zs p.bl p.ca m.a m.b)).toNat
    ·rw[if_pos e1]at he;exact absurd he kz
    ·rw[if_neg e1,ee (by rw[hl2];omega)]at he
     by_cases e2:i=(wCro (wayN p.zs p.bl p.ca m.a m.b)).toNat
     ·exfalso
      rw[if_pos e2,z2g _ (by omega),if_neg (by omega),if_neg (by omega)]at he
      rcases o.z1.2 (wCor (wayN p.zs p.bl p.ca m.a m.b)).toNat (by omega)with h|⟨h,_⟩
      ·rw[h,r1]at he;revert he;cases p.bl<;>decide
      ·rw[h]at he;exact kz he
     ·rw[if_neg e2,z2g _ hi]at he
      by_cases e:i=m.b.toNat
      ·exact e
      ·rw[if_neg e]at he
       by_cases e3:i=m.a.toNat
       ·rw[if_pos e3]at he;exact absurd he kz
       ·rw[if_neg e3]at he;exact absurd ((h1U i hi he).trans hKa) e3
 ·have hpr:2<=m.p/\m.p<=5:=o.hpr.resolve_left hp
  have hk1:aY (p.zs.getD m.a.toNat 0)=1:=by
   by_cases h:aY (p.zs.getD m.a.toNat 0)=1
   ·exact h
   ·exact absurd (o.pr0 h) hp
  have hnK:¬ K=m.a.toNat:=fun e=>by
   have:=haK.2 e
   rw[this]at hk1
   revert hk1;cases p.bl<;>decide
  rw[decide_eq_false hp]
  simp only[Bool.not_false,Bool.true_and,cond_true]
  have hput:∀ v:Int,-6<=v/\v<=6->v≠kgP p.bl->aW p.f p.r ((zs2R p.f p.zs p.pa m.a m.b).set m.b.toNat v)=true/\(bW p.f p.r ((zs2R p.f p.zs p.pa m.a m.b).set m.b.toNat v) p.bl).2=0:=by
   intro v hv hvk
   have hzo:=fL (j:=m.b.toNat) z2o hv
   refine⟨hzo,fin _ v (by rw[List.length_set,hl2]) (fun i hi=>?_) hzo ⟨fun h=>absurd h hvk,fun h=>absurd h hnK⟩⟩
   rw[ee (by rw[hl2];exact hi),z2g i hi]
   by_cases e:i=m.b.toNat<;>simp[e]
  have hkg:kgP p.bl=6\/kgP p.bl=-6:=by cases p.bl<;>simp[kgP]
  have hw:w8 (0-m.p)=-m.p:=by rw[GY (by omega) (by omega)];omega
  have key:∀ v,v=m.p\/v=-m.p->_:=fun v hv=>hput v (by omega) (by omega)
  cases hb:p.bl with
  |true=>
   have:=key (-m.p) (.inr rfl)
   rw[hb]at this
   simp only[cond_true,hw]
   exact this
  |false=>
   have:=key m.p (.inl rfl)
   rw[hb]at this
   simp only[cond_false]
   exact this
theorem MvOk.safe(o:MvOk p m):sfL p m=!err4 p m:=by
 obtain⟨z1,z2⟩:=o.z3
 have hz64:(zs3R p.f p.r p.zs p.bl p.ca p.pa m.a m.b m.p).length<=64:=by rw[wS];exact o.hl
 have hkk:=o.kings
 simp only[fI,Bool.and_eq_true,decide_eq_true_eq]at hkk
 have hzs:(afP p m).zs=zs3R p.f p.r p.zs p.bl p.ca p.pa m.a m.b m.p:=o.af
 unfold sfL err4
 rw[hzs,zk z1 hz64 z2,zk o.h o.hl hkk.1.1]
 cases chkB p.f p.r (zs3R p.f p.r p.zs p.bl p.ca p.pa m.a m.b m.p) p.bl with
 |true=>rfl
 |false=>
  cases hw:wayB p.f p.r p.zs (wayN p.zs p.bl p.ca m.a m.b) with
  |false=>
   have:cstR p.f p.r p.zs p.bl p.ca p.pa m.a m.b m.p=false:=by unfold cstR;rw[hw];rfl
   rw[this,o.noway hw];rfl
  |true=>
   obtain⟨_,_,g,c,_,s2⟩:=o.way hw
   have hn:wayN p.zs p.bl p.ca m.a m.b≠4:=by intro e;rw[e]at hw;simp[wayB]at hw
   obtain⟨h88,h64,_,_,w3,w4⟩:=mG (a:=m.a) (b:=m.b) (bl:=p.bl) o.bd o.cast hn
   have hcst:cstR p.f p.r p.zs p.bl p.ca p.pa m.a m.b m.p=true:=by unfold cstR;rw[hw,g];rfl
   have hv:aj p.f p.r (wCro (wayN p.zs p.bl p.ca m.a m.b))=true:=(bQ o.bd).2 ⟨w3,by omega⟩
   rw[hcst,decide_eq_false c,s2]
   simp only[cond_false,Bool.false_or,Bool.true_and,Bool.not_or,Bool.not_not]
   congr 1
   unfold dy
   rw[o.h,hv]
   simp only[Bool.and_self,cond_true]
   rw[yD o.h o.hl hv]
end
end
section
variable{p:Psn}{m:Mov}
def legM(p:Psn)(m:Mov):Bool:=canM p m.a m.b m.p&&!err4 p m
theorem Kb(hok:p.ok=true)(hmv:mvB p.f p.r m.a m.b m.p=true):(decide (mkE5 p m=0)||decide (mkE5 p m=7))=legM p m:=by
 have h1:err1 p m=false:=by unfold err1;rw[hok,hmv];rfl
 unfold mkE5 legM canM
 rw[h1,hmv]
 cases isP (p.zs.getD m.a.toNat 0) p.bl with
 |false=>rfl
 |true=>
  have he:err3 p ⟨m.a,m.b,m.p⟩=err3 p m:=rfl
  rw[he]
  cases err3 p m with
  |true=>rfl
  |false=>cases err4 p m<;>cases err5 p m<;>rfl
theorem Lh(o:PsH p)(hc:canM p m.a m.b m.p=true):sfL p m=!err4 p m:=(qt o hc).safe
end
end Go.Ab
namespace Go.Ab
open IntKind
open Go.Proofs
section
theorem eL{β σ ξ α:Type}{step:σ×Int->Option (σ×Int ⊕ (ξ ⊕ α))}{F:ξ->Option α}(l:List β)(f:σ->β->σ)(out:σ->ξ)(inv:Nat->σ->Prop)
  (hs:∀ (j:Nat) (x:β) (s:σ),l[j]?=some x->inv j s->step (s,(j:Int))=some (.inl (f s x,((j+1:Nat):Int)))/\inv (j+1) (f s x))
  (he:∀ s,inv l.length s->step (s,(l.length:Int))=some (.inr (.inl (out s)))) :
  ∀ (k fuel j:Nat) (s:σ),j+k=l.length->k<fuel->inv j s->cR step F fuel (s,(j:Int))=F (out ((l.drop j).foldl f s))
 |k,0,j,s,_,h,_=>absurd h (by omega)
 |0,fuel+1,j,s,h,_,hi=>by
  have h0:j=l.length:=by omega
  subst h0
  rw[dn (he s hi),List.drop_length];rfl
 |k+1,fuel+1,j,s,h,hf,hi=>by
  have hj:j<l.length:=by omega
  obtain⟨h1,h2⟩:=hs j l[j] s (List.getElem?_eq_getElem hj) hi
  rw[bC h1,eL l f out inv hs he k fuel (j+1) _ (by omega) (by omega) h2,List.drop_eq_getElem_cons hj,List.foldl_cons]
theorem gd{β:Type}(q:β->Bool):∀ (l acc:List β),l.foldl (fun acc x=>bif q x then acc++[x]else acc) acc=acc++l.filter q
 |[],acc=>by simp
 |x::l,acc=>by
  rw[List.foldl_cons,gd q l,List.filter_cons]
  cases q x<;>simp
theorem po{β γ:Type}(g:β->List γ):∀ (l:List β) (acc:List γ),l.foldl (fun acc x=>acc++g x) acc=acc++l.flatMap g
 |[],acc=>by simp
 |x::l,acc=>by rw[List.foldl_cons,po g l,List.flatMap_cons,List.append_assoc]
def mvR(r:List Int):Mov:=⟨r.getD 0 0,r.getD 1 0,r.getD 2 0⟩
section
variable{p:Psn}
def wq(p:Psn)(r:List Int):Prop:=∃ a b pr,r=[a,b,pr]/\canM p a b pr=true
def legF(p:Psn)(r:List Int):Bool:=!err4 p (mvR r)
theorem Jq{a:Int}{r:List Int}(h:r∈psL p a):∃ b pr,r=[a,b,pr]/\canM p a b pr=true:=by
 unfold psL jF at h
 simp only[List.mem_flatMap,List.mem_map,List.mem_filter]at h
 obtain⟨b,_,pr,⟨_,h2⟩,rfl⟩:=h
 exact⟨b,pr,rfl,h2⟩
theorem zc{a:Int}{r:List Int}(h:r∈psL p a):wq p r:=let ⟨b,pr,h1,h2⟩:=Jq h;⟨a,b,pr,h1,h2⟩
theorem Ke{a b pr:Int}(h:canM p a b pr=true):mvB p.f p.r a b pr=true:=by
 cases hm:mvB p.f p.r a b pr with
 |true=>rfl
 |false=>rw[Jj hm]at h;cases h
theorem yh(o:PsH p){a b pr:Int}(h:canM p a b pr=true):keeps p ⟨a,b,pr⟩=some (legF p [a,b,pr]):=by
 have h1:decide (p.zs.length<=64)=true:=by simpa using o.hl
 unfold keeps
 simp only[List.drop_zero,List.take_length,bz,h1,aR]
 rw[Kb (m:=⟨a,b,pr⟩) o.ok (Ke h)]
 unfold legM legF mvR
 rw[h];rfl
theorem KG(o:PsH p){l:List (List Int)}(hl:l.length<=100000)(hr:∀ r∈l,wq p r):kept p l=some (l.filter (legF p)):=by
 unfold kept
 refine(eL (step:=sN p l) l (fun acc x=>bif legF p x then acc++[x]else acc) (fun s=>s) (fun j s=>s.length<=j) ?_ ?_ l.length 1000000 0 [] (by omega) (by omega) (by simp)).trans ?_
 rotate_left 2
 ·rw[List.drop_zero,gd,List.nil_append]
  have h1:decide (Int.ofNat (l.filter (legF p)).length<=Int.ofNat (l.filter (legF p)).length)=true:=by simp
  have h2:decide (0<=Int.ofNat (l.filter (legF p)).length)=true:=by simp
  have h3:decide ((Int.ofNat (l.filter (legF p)).length).toNat-Int.toNat 0=(l.filter (legF p)).length)=true:=by simp
  simp only[h1,h2,h3,Bool.and_self,aR]
 ·intro j x s hx hi
  obtain⟨a,b,pr,rfl,hc⟩:=hr x (List.mem_of_getElem? hx)
  have hj:=(List.getElem?_eq_some_iff.1 hx).1
  have e1:l.getD (j:Int).toNat []=[a,b,pr]:=by simp[List.getD,hx]
  have h1:decide ((j:Int)<Int.ofNat l.length)=true:=by simp;omega
  have h2:decide (0<=(j:Int))=true:=by simp
  have h3:decide ((s.length+1)*24<=140737488355328)=true:=by simp;omega
  have hk:=yh o hc
  refine⟨?_,?_⟩
  ·unfold sN
   simp only[List.drop_zero,List.take_length,bz,e1,h1,h2,h3,cond_true,Bool.and_self,aR]
   rw[show ([a,b,pr]:List Int).getD 0 0=a from rfl,show ([a,b,pr]:List Int).getD 1 0=b from rfl,show ([a,b,pr]:List Int).getD 2 0=pr from rfl,hk,aO,Option.getD_some,show i64.wrap ((j:Int)+1)=((j+1:Nat):Int)from aI (by omega) (by omega)]
   cases legF p [a,b,pr]<;>rfl
  ·cases legF p [a,b,pr]<;>simp<;>omega
 ·intro s _
  have h1:decide ((l.length:Int)<Int.ofNat l.length)=false:=by simp
  unfold sN
  simp only[h1,cond_false]
theorem zv(o:PsH p){a:Int}:rB p a=some ((psL p a).filter (legF p)):=by
 have hpl:=ld (p:=p) (a:=a) o.hl
 unfold rB
 simp only[List.drop_zero,List.take_length,bz,Hs o]
 rw[aO]
 refine(eL (step:=mg p (psL p a)) (psL p a) (fun acc x=>bif legF p x then acc++[x]else acc) (fun s=>s) (fun j s=>s.length<=j) ?_ ?_ (psL p a).length 1000000 0 [] (by omega) (by omega) (by simp)).trans ?_
 rotate_left 2
 ·rw[List.drop_zero,gd,List.nil_append]
 ·intro j x s hx hi
  obtain⟨a',b,pr,rfl,hc⟩:=zc (List.mem_of_getElem? hx)
  have hj:=(List.getElem?_eq_some_iff.1 hx).1
  have e1:(psL p a).getD (j:Int).toNat []=[a',b,pr]:=by simp[List.getD,hx]
  have h1:decide ((j:Int)<Int.ofNat (psL p a).length)=true:=by simp;omega
  have h2:decide (0<=(j:Int))=true:=by simp
  have h3:decide ((s.length+1)*24<=140737488355328)=true:=by simp;omega
  have h4:decide (p.zs.length<=64)=true:=by simpa using o.hl
  have k:=qt (m:=⟨a',b,pr⟩) o hc
  have hv:(aC p.f p.r p.zs&&cV p.f p.r p.zs p.ca&&aj p.f p.r a'&&aj p.f p.r b)=true:=by rw[k.bd,cast_eq k.ca,k.cast,k.ha,k.hb];rfl
  have hsf:sfL p ⟨a',b,pr⟩=legF p [a',b,pr]:=Lh o (m:=⟨a',b,pr⟩) hc
  refine⟨?_,?_⟩
  ·unfold mg
   simp only[List.drop_zero,List.take_length,bz,e1,h1,h2,h3,h4,cond_true,Bool.and_self,aR]
   rw[show ([a',b,pr]:List Int).getD 0 0=a' from rfl,show ([a',b,pr]:List Int).getD 1 0=b from rfl,show ([a',b,pr]:List Int).getD 2 0=pr from rfl,hv,hsf,show i64.wrap ((j:Int)+1)=((j+1:Nat):Int)from aI (by omega) (by omega)]
   cases legF p [a',b,pr]<;>rfl
  ·cases legF p [a',b,pr]<;>simp<;>omega
 ·intro s _
  have h1:decide (((psL p a).length:Int)<Int.ofNat (psL p a).length)=false:=by simp
  unfold mg
  simp only[h1,cond_false]
theorem Ds(o:PsH p):uu p=some ((allL p).filter (legF p)):=by
 have hl:=o.hl
 unfold uu
 refine(eL (step:=ja p) (List.range p.zs.length) (fun acc (j:Nat)=>acc++(psL p j).filter (legF p)) (fun s=>s) (fun j s=>s.length<=320*j) ?_ ?_ p.zs.length 1000000 0 [] (by simp) (by omega) (by simp)).trans ?_
 rotate_left 2
 ·rw[List.drop_zero,po,List.nil_append]
  unfold allL
  rw[List.filter_flatMap,List.flatMap_map]
  rfl
 ·intro j x s hx hi
  obtain⟨hj,hx⟩:=List.getElem?_eq_some_iff.1 hx
  simp only[List.length_range,List.getElem_range]at hj hx
  subst hx
  have hp:=ld (p:=p) (a:=(j:Int)) hl
  have hf:((psL p j).filter (legF p)).length<=320:=Nat.le_trans (List.length_filter_le _ _) hp
  have h1:decide ((j:Int)<Int.ofNat p.zs.length)=true:=by simp;omega
  have h2:decide ((s.length+((psL p j).filter (legF p)).length)*24<=140737488355328)=true:=by simp;omega
  refine⟨?_,by rw[List.length_append];omega⟩
  unfold ja
  simp only[List.drop_zero,List.take_length,bz,h1,cond_true,zv o,aO,h2]
  rw[show i64.wrap ((j:Int)+1)=((j+1:Nat):Int)from aI (by omega) (by omega)]
  rfl
 ·intro s _
  have h1:decide (((List.range p.zs.length).length:Int)<Int.ofNat p.zs.length)=false:=by simp
  unfold ja
  simp only[h1,cond_false]
theorem Mr(o:PsH p){l:List (List Int)}(hl:l.length<=100000)(hr:∀ r∈l,wq p r){s:Bool×Int}(hs0:0<=s.2)(hs1:s.2<1000){e:Int}{F:Bool->Option (Bool×Int ⊕ Bool ⊕ Bool×Int)}:∀ (k fuel j:Nat),j+k=l.length->k<fuel ->
  cR (gg p s (l,e)) F fuel (false,(j:Int))=bif (l.drop j).any (legF p)then F true else some (.inl (false,s.2+1))
 |k,0,j,_,h=>absurd h (by omega)
 |0,fuel+1,j,h,_=>by
  have h1:decide ((j:Int)<Int.ofNat l.length)=false:=by simp;omega
  rw[jN (r:=.inl (false,s.2+1))]
  ·rw[List.drop_eq_nil_of_le (by omega)];rfl
  ·unfold gg
   simp only[h1,cond_false]
   rw[show i64.wrap (s.2+1)=s.2+1 from aI (by omega) (by omega)];rfl
 |k+1,fuel+1,j,h,hf=>by
  have hj:j<l.length:=by omega
  obtain⟨a,b,pr,hx,hc⟩:=hr l[j] (List.getElem_mem hj)
  have e1:l.getD (j:Int).toNat []=[a,b,pr]:=by simp[List.getD,hj,hx]
  have h1:decide ((j:Int)<Int.ofNat l.length)=true:=by simp;omega
  have h2:decide (0<=(j:Int))=true:=by simp
  have hk:=yh o hc
  have hst:gg p s (l,e) (false,(j:Int))=bif legF p [a,b,pr]then some (.inr (.inl true))else some (.inl (false,((j+1:Nat):Int))):=by
   unfold gg
   simp only[List.drop_zero,List.take_length,bz,e1,h1,h2,cond_true,Bool.and_self,aR]
   rw[show ([a,b,pr]:List Int).getD 0 0=a from rfl,show ([a,b,pr]:List Int).getD 1 0=b from rfl,show ([a,b,pr]:List Int).getD 2 0=pr from rfl,hk,aO,Option.getD_some,show i64.wrap ((j:Int)+1)=((j+1:Nat):Int)from aI (by omega) (by omega)]
   cases legF p [a,b,pr]<;>rfl
  rw[List.drop_eq_getElem_cons hj,List.any_cons,hx]
  cases hq:legF p [a,b,pr] with
  |true=>rw[dn (x:=true) (by rw[hst,hq];rfl)];rfl
  |false=>rw[bC (s':=(false,((j+1:Nat):Int))) (by rw[hst,hq];rfl),Mr o hl hr hs0 hs1 k fuel (j+1) (by omega) (by omega)];rfl
theorem KQ(o:PsH p){j:Nat}(hj:j<p.zs.length):ni p gg (false,(j:Int))=bif (psL p j).any (legF p)then some (.inr (.inl true))else some (.inl (false,((j+1:Nat):Int))):=by
 have hl:=o.hl
 have hpl:=ld (p:=p) (a:=(j:Int)) hl
 have h1:decide ((j:Int)<Int.ofNat p.zs.length)=true:=by simp;omega
 have hv:aj p.f p.r (j:Int)=true:=(bQ o.bd).2 ⟨by omega,by omega⟩
 unfold ni
 simp only[List.drop_zero,List.take_length,bz,h1,cond_true,zJ o hv]
 rw[aO]
 have:=Mr o (l:=psL p j) (by omega) (fun r h=>zc h) (s:=(false,(j:Int))) (by simp) (by simp;omega) (e:=0) (F:=fun s34=>some (.inr (.inl s34))) (psL p j).length 1000000 0 (by omega) (by omega)
 rw[List.drop_zero]at this
 exact this
theorem IA(o:PsH p){F:Bool->Option (Bool×Int)}:∀ (k fuel j:Nat),j+k=p.zs.length->k<fuel ->
  cR (ni p gg) F fuel (false,(j:Int))=F ((List.range' j k).any fun x=>(psL p x).any (legF p))
 |k,0,j,_,h=>absurd h (by omega)
 |0,fuel+1,j,h,_=>by
  have h1:decide ((j:Int)<Int.ofNat p.zs.length)=false:=by simp;omega
  rw[dn (x:=false)]
  ·rfl
  ·unfold ni;simp only[h1,cond_false]
 |k+1,fuel+1,j,h,hf=>by
  have hl:=o.hl
  have hpl:=ld (p:=p) (a:=(j:Int)) hl
  have h1:decide ((j:Int)<Int.ofNat p.zs.length)=true:=by simp;omega
  have hv:aj p.f p.r (j:Int)=true:=(bQ o.bd).2 ⟨by omega,by omega⟩
  have hst:=KQ o (j:=j) (by omega)
  rw[List.range'_succ,List.any_cons]
  cases hq:(psL p j).any (legF p) with
  |true=>rw[dn (x:=true) (by rw[hst,hq];rfl)];rfl
  |false=>rw[bC (s':=(false,((j+1:Nat):Int))) (by rw[hst,hq];rfl),IA o k fuel (j+1) (by omega) (by omega)];rfl
theorem Kj(o:PsH p):lany p=some ((allL p).any (legF p),0):=by
 have hl:=o.hl
 have h1:decide (p.zs.length<=64)=true:=by simpa using hl
 unfold lany
 simp only[List.drop_zero,List.take_length,bz,h1,o.ok,aR,Bool.not_true,cond_false]
 have:=IA o (F:=fun s42=>some (s42,0)) p.zs.length 1000000 0 (by omega) (by omega)
 refine this.trans ?_
 unfold allL
 rw[List.any_flatMap,List.any_map,List.range_eq_range']
 rfl
end
end
end Go.Ab
namespace Go.Ab
open Go.Proofs
section
theorem Lb{β:Type}(q:β->Bool)(l:List β):l.any q=decide (0<Int.ofNat (l.filter q).length):=by
 induction l with
 |nil=>rfl
 |cons x l ih=>
  rw[List.any_cons,List.filter_cons,ih]
  cases q x with
  |true=>simp
  |false=>simp
section
variable{p:Psn}
theorem De{r:List Int}(o:PsH p)(h:wq p r):aj p.f p.r (r.getD 1 0)=true/\0<=r.getD 1 0/\r.getD 1 0<64:=by
 obtain⟨a,b,pr,rfl,hc⟩:=h
 have k:=qt (m:=⟨a,b,pr⟩) o hc
 have hb:aj p.f p.r b=true:=k.hb
 have:=(bQ o.bd).1 hb
 have hl:=o.hl
 exact⟨hb,this.1,by show b<64;omega⟩
theorem JE{b:Int}(hv:aj p.f p.r b=true)(h0:0<=b):sqOf ⟨p.f,p.r⟩ [b]=some (uor 0 (ushl 1 b),0):=by
 unfold sqOf
 rw[show vsB p.f p.r=true from bI hv]
 refine(eL (step:=rE ⟨p.f,p.r⟩ [b]) [b] (fun s x=>uor s (ushl 1 x)) (fun s=>s) (fun _ _=>True) ?_ ?_ 1 1000000 0 0 (by simp) (by omega) trivial).trans ?_
 ·intro j x s hx _
  have hj:j=0:=by have:=(List.getElem?_eq_some_iff.1 hx).1;simpa using this
  subst hj
  have hx:b=x:=by simpa using hx
  subst hx
  refine⟨?_,trivial⟩
  have h1:decide (((0:Nat):Int)<Int.ofNat [b].length)=true:=by simp
  have h2:decide (0<=((0:Nat):Int))=true:=by simp
  have h3:decide (0<=b)=true:=by simpa using h0
  unfold rE
  simp only[h1,h2,Bool.and_self,cond_true,aR]
  rw[show ([b]:List Int).getD ((0:Nat):Int).toNat 0=b from rfl,hv,h3]
  rfl
 ·intro s _
  have h1:decide ((([b]:List Int).length:Int)<Int.ofNat [b].length)=false:=by simp
  unfold rE
  simp only[h1,cond_false]
 ·rfl
def tgF(s:Int)(r:List Int):Int:=uor s (uor 0 (ushl 1 (r.getD 1 0)))
theorem DG(o:PsH p):∀ (l:List (List Int)) (s:Int),(∀ r∈l,wq p r)->Uk s->Uk (l.foldl tgF s)/\∀ m:Nat,bt (l.foldl tgF s) m=(bt s m||decide ((m:Int)∈l.map (·.getD 1 0)))
 |[],s,_,hs=>⟨hs,fun m=>by simp⟩
 |r::l,s,hl,hs=>by
  have hb:=De o (hl r (by simp))
  have hu:Uk (uor 0 (ushl 1 (r.getD 1 0))):=gA _ _
  obtain⟨h1,h2⟩:=DG o l (tgF s r) (fun x hx=>hl x (by simp[hx])) (gA _ _)
  refine⟨h1,fun m=>?_⟩
  rw[List.foldl_cons,h2]
  unfold tgF
  rw[eY hs hu,eY uk_0 (gJ _ _),bt_0,Bool.false_or,gZ hb.2.1 hb.2.2,List.map_cons]
  by_cases e:(m:Int)=r.getD 1 0
  ·rw[decide_eq_true e.symm,decide_eq_true (show (m:Int)∈r.getD 1 0::l.map (·.getD 1 0) by rw[e];simp)];simp
  ·rw[decide_eq_false (Ne.symm e),Bool.or_false]
   congr 1
   rw[decide_eq_decide,List.mem_cons]
   exact⟨.inr,fun h=>h.resolve_left e⟩
theorem jY{a:Int}{r:List Int}(h:r∈(psL p a).filter (legF p)):wq p r:=zc (List.mem_filter.1 h).1
theorem Mw(o:PsH p){l:List (List Int)}(hlen:l.length<=100000)(hl:∀ r∈l,wq p r){F:Int->Option (Int×Int)}:cR (eP p l) F 1000000 (0,0)=F (l.foldl tgF 0):=by
 refine(eL (step:=eP p l) l tgF (fun s=>s) (fun _ _=>True) ?_ ?_ l.length 1000000 0 0 (by omega) (by omega) trivial).trans ?_
 ·intro j x s hx _
  have hj:=(List.getElem?_eq_some_iff.1 hx).1
  have hb:=De o (hl x (List.mem_of_getElem? hx))
  have e1:l.getD (j:Int).toNat []=x:=by simp[List.getD,hx]
  have h1:decide ((j:Int)<Int.ofNat l.length)=true:=by simp;omega
  have h2:decide (0<=(j:Int))=true:=by simp
  refine⟨?_,trivial⟩
  unfold eP
  simp only[e1,h1,h2,Bool.and_self,cond_true,aR]
  rw[show List.take 1 (List.drop 0 (iL [x.getD 1 0]))=[x.getD 1 0]from rfl,JE hb.1 hb.2.1,aO,Option.getD_some,show IntKind.i64.wrap ((j:Int)+1)=((j+1:Nat):Int)from aI (by omega) (by omega)]
  rfl
 ·intro s _
  have h1:decide ((l.length:Int)<Int.ofNat l.length)=false:=by simp
  unfold eP
  simp only[h1,cond_false]
 ·rw[List.drop_zero]
theorem wm(o:PsH p){a:Int}(ha:aj p.f p.r a=true):dY p a=some (((psL p a).filter (legF p)).foldl tgF 0,0):=by
 have hpl:=ld (p:=p) (a:=a) o.hl
 have hf:((psL p a).filter (legF p)).length<=100000:=Nat.le_trans (List.length_filter_le _ _) (by omega)
 unfold dY
 simp only[List.drop_zero,List.take_length,bz,zJ o ha]
 rw[aO]
 simp only[decide_true,Bool.not_true,cond_false]
 rw[KG o (by omega) fun r h=>zc h,aO]
 exact Mw o hf fun r h=>jY h
end
end
section
variable{p:Psn}
theorem Fo(o:PsH p):bW p.f p.r p.zs p.bl=(aV p.zs p.bl,0)/\aj p.f p.r (aV p.zs p.bl)=true:=by
 have hk:=o.ok
 simp only[Psn.ok,fI,Bool.and_eq_true,decide_eq_true_eq]at hk
 have hk:=hk.1.1.1.1.2.1.1
 rcases mj (bl:=p.bl) o.h o.hl with⟨_,h2⟩|⟨h1,h2,_⟩
 ·rw[h2]at hk;cases hk
 ·exact⟨h1,h2⟩
theorem Mf(o:PsH p):(!decide ((bM p.f p.r p.zs p.bl).fst=0))=chkL p.f p.r p.zs p.bl:=(zk o.h o.hl (by rw[(Fo o).1])).symm
theorem Mb(o:PsH p):vsB p.f p.r=true:=by
 have hk:=o.ok
 simp only[Psn.ok,Bool.and_eq_true]at hk
 exact(bh hk.1.1.1.1.1).1
def endP(p:Psn):Int:=endV (chkL p.f p.r p.zs p.bl) ((allL p).any (legF p))
theorem MT(o:PsH p):eOf p=some (endP p):=by
 unfold eOf
 simp only[List.drop_zero,List.take_length,bz,decide_eq_true o.hl,aR]
 rw[Kj o,aO,Mf o]
 rfl
theorem Fu(o:PsH p):eeOf p=some (endP p,0):=by
 unfold eeOf
 simp only[List.drop_zero,List.take_length,bz,decide_eq_true o.hl,aR,o.ok,Bool.not_true,cond_false]
 rw[MT o,aO]
theorem zg(hl:p.zs.length<=64)(h:p.ok=false):eeOf p=some (0,2):=by
 unfold eeOf
 simp only[List.drop_zero,List.take_length,bz,decide_eq_true hl,aR,h,Bool.not_false,cond_true]
theorem JQ(o:PsH p):eRes p=some ((resW p.bl (endP p)).1,(resW p.bl (endP p)).2,0):=by
 unfold eRes
 simp only[List.drop_zero,List.take_length,bz]
 rw[Fu o,aO]
 rfl
theorem HA(hl:p.zs.length<=64)(h:p.ok=false):eRes p=some (0,false,2):=by
 unfold eRes
 simp only[List.drop_zero,List.take_length,bz]
 rw[zg hl h,aO]
 rfl
theorem Ch(o:PsH p):rEnd p=some (endP p):=by
 unfold rEnd
 simp only[List.drop_zero,List.take_length,bz]
 rw[Ds o,aO]
 simp only[decide_eq_true o.hl,Mb o,Bool.and_self,aR]
 unfold endP
 rw[Lb]
 cases chkL p.f p.r p.zs p.bl<;>cases decide (0<Int.ofNat ((allL p).filter (legF p)).length)<;>rfl
theorem Lf(o:PsH p):rRes p=some (resW p.bl (endP p)):=by
 unfold rRes
 simp only[List.drop_zero,List.take_length,bz]
 rw[Ch o,aO]
 unfold resW
 cases decide (endP p=2)<;>cases decide (endP p=3)<;>cases p.bl<;>rfl
theorem zW(hca:0<=p.ca):GK p=some true:=by
 unfold GK
 simp only[List.drop_zero,List.take_length,bz]
 rw[show kL p=some (decide (Int.ofNat p.zs.length<=64))from rfl,aO]
 by_cases hl:p.zs.length<=64
 ·have h1:decide (Int.ofNat p.zs.length<=64)=true:=by simp;omega
  have h2:decide (p.zs.length<=64)=true:=by simpa using hl
  rw[h1,h2,sY hl hca]
  simp only[Bool.not_true,cond_false,aR]
  cases hok:p.ok with
  |false=>rw[zg hl hok,aO,HA hl hok,aO];rfl
  |true=>
   have o:=psh hl hca hok
   rw[Fu o,aO,JQ o,aO]
   simp only[Bool.not_true,cond_false]
   rw[Lf o,aO,Ch o,aO]
   simp
 ·have h1:decide (Int.ofNat p.zs.length<=64)=false:=by simp;omega
  rw[h1];rfl
end
end Go.Ab
