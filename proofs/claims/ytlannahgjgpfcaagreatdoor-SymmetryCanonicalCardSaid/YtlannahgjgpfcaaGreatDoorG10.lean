/- Contracts of the functions that the laws reach, and plain laws of what they compute (text G10); no condition. -/
import Derived.Test.YtlannahgjgpfcaaGreatDoorG9
import Derived.Test.YtlannahgjgpfcaaGreatDoorG7
import Derived.Shelf.Strconv.Itoa3
import Derived.Deep.RegionHeld
import Derived.Shelf.Strings.OnBuilder
import Derived.Shelf.Small.Strs
import Derived.Shelf.LaysM
import Derived.Lib.AppendIntMem
import Derived.Test.YtlannahgjgpfcaaGreatDoorG5
import Derived.Test.YtlannahgjgpfcaaGreatDoorG4
import Derived.Test.YtlannahgjgpfcaaGreatDoorG3
import Derived.Test.YtlannahgjgpfcaaGreatDoorG8
set_option maxRecDepth 100000
namespace Go.Ab
open Go.Proofs
theorem jl(B:List Int):∀ A:List Int,(ig B A=-1/\∀ x∈A,x∈B)\/(ig B A∈A/\ig B A∉B)
 |[]=>.inl ⟨rfl,by simp⟩
 |x::A=>by
  rw[ig]
  cases hx:hasL x B with
  |false=>
   right
   refine⟨by simp,fun h=>?_⟩
   have:=fX.2 h
   simp only[Bool.not_false,cond_true]at this
   rw[hx]at this;cases this
  |true=>
   rw[Bool.not_true,cond_false]
   rcases jl B A with⟨h1,h2⟩|⟨h1,h2⟩
   ·left
    refine⟨h1,fun y hy=>?_⟩
    rcases List.mem_cons.1 hy with rfl|hy
    ·exact fX.1 hx
    ·exact h2 y hy
   ·right;exact⟨by simp[h1],h2⟩
theorem fE{f r:Int}{zs:List Int}{bl:Bool}{K x j:Int}(h:aO f r zs=true)(hK:ak f r K=true)(hp:Pins f r zs bl K x j):ak f r x=true/\ak f r j=true/\(bj f x K).2.2=true/\Btw f K x j/\zs.getD x.toNat 0≠0/\zs.getD j.toNat 0≠0:=by
 obtain⟨h0,h1,hl,ho⟩:=hp
 have hx:=(cW h).2 ⟨h0,h1⟩
 have hj:=(ho j).2 rfl
 have hjv:=(dI (b:=K) hx).2 j hj.1
 obtain⟨l1,l2⟩:=(eV hx hK hjv).1 hj.1
 exact⟨hx,hjv,l1,l2.symm,iw hl.1,hj.2⟩
theorem om{f r:Int}{zs:List Int}{bl:Bool}{K x1 x2 j:Int}(h:aO f r zs=true)(hK:ak f r K=true)(p1:Pins f r zs bl K x1 j)(p2:Pins f r zs bl K x2 j):x1=x2:=by
 obtain⟨v1,vj,l1,b1,z1,_⟩:=fE h hK p1
 obtain⟨v2,_,l2,b2,z2,_⟩:=fE h hK p2
 obtain⟨i1,k1,d1,e1,u1,a1,a2,a3,a4,a5,a6,a7⟩:=b1
 obtain⟨i2,k2,d2,e2,u2,c1,c2,c3,c4,c5,c6,c7⟩:=b2
 have hd:d1=d2/\e1=e2/\i1=i2:=by
  rcases bI u1 with⟨rfl,rfl⟩|⟨rfl,rfl⟩|⟨rfl,rfl⟩|⟨rfl,rfl⟩|⟨rfl,rfl⟩|⟨rfl,rfl⟩|⟨rfl,rfl⟩|⟨rfl,rfl⟩ <;>
  rcases bI u2 with⟨rfl,rfl⟩|⟨rfl,rfl⟩|⟨rfl,rfl⟩|⟨rfl,rfl⟩|⟨rfl,rfl⟩|⟨rfl,rfl⟩|⟨rfl,rfl⟩|⟨rfl,rfl⟩<;>omega
 obtain⟨rfl,rfl,rfl⟩:=hd
 have far:∀ {x:Int} {k:Nat},i1<k->px f x=px f K+k*d1->py f x=py f K+k*e1->x≠j:=by
  rintro x k hk e1 e2 rfl
  rcases bI u1 with⟨rfl,rfl⟩|⟨rfl,rfl⟩|⟨rfl,rfl⟩|⟨rfl,rfl⟩|⟨rfl,rfl⟩|⟨rfl,rfl⟩|⟨rfl,rfl⟩|⟨rfl,rfl⟩<;>omega
 rcases Nat.lt_trichotomy k1 k2 with hk|hk|hk
 ·exfalso
  have hb:Btw f K x2 x1:=⟨k1,k2,d1,e1,u1,by omega,hk,c3,c4,c5,a4,a5⟩
  exact far a2 a4 a5 ((p2.2.2.2 x1).1 ⟨(eV v2 hK v1).2 ⟨l2,hb.symm⟩,z1⟩)
 ·subst hk
  exact(gy v1 v2).2 ⟨by omega,by omega⟩
 ·exfalso
  have hb:Btw f K x1 x2:=⟨k2,k1,d1,e1,u1,by omega,hk,a3,a4,a5,c4,c5⟩
  exact far c2 c4 c5 ((p1.2.2.2 x2).1 ⟨(eV v1 hK v2).2 ⟨l1,hb.symm⟩,z2⟩)
theorem LS{f r:Int}{zs:List Int}{bl:Bool}{K x:Int}(h:aO f r zs=true)(hK:ak f r K=true)(p:Pins f r zs bl K x K):False:=by
 obtain⟨_,_,_,b,_⟩:=fE h hK p
 obtain⟨i,k,d,e,u,a1,a2,a3,a4,a5,a6,a7⟩:=b
 rcases bI u with⟨rfl,rfl⟩|⟨rfl,rfl⟩|⟨rfl,rfl⟩|⟨rfl,rfl⟩|⟨rfl,rfl⟩|⟨rfl,rfl⟩|⟨rfl,rfl⟩|⟨rfl,rfl⟩<;>omega
theorem Fc{p:Int}{bl:Bool}(h:isP p bl=true):decide (p<0)=bl/\decide (0<p)=!bl:=by
 cases bl<;>simp[isP]at h<;>simp<;>omega
theorem fz{f r:Int}{zs:List Int}{bl:Bool}{j:Int}(h:aO f r zs=true)(hz:zs.length<=64)(hK:ak f r (aG zs bl)=true)(hj0:0<=j)(hj1:j<zs.length)(hjp:isP (zs.getD j.toNat 0) bl=true) :
  (bC f r zs j=-1/\∀ x,¬ Pins f r zs bl (aG zs bl) x j)\/Pins f r zs bl (aG zs bl) (bC f r zs j) j:=by
 obtain⟨e1,e2⟩:=Fc hjp
 have hk:fh zs j=aG zs bl:=by unfold fh;rw[e1]
 have hni:=fun x=>EH (K:=aG zs bl) (x:=x) h hz hK hj0 hj1 hjp
 unfold bC
 rw[hk,e2,decide_eq_false (iw hjp),Bool.false_or]
 by_cases ek:j=aG zs bl
 ·left
  rw[decide_eq_true ek,cond_true]
  refine⟨rfl,fun x hp=>?_⟩
  rw[ek]at hp
  exact LS h hK hp
 ·rw[decide_eq_false ek,cond_false]
  rcases jl (attL f r zs (aG zs bl) (!bl)) (attL f r (zs.set j.toNat 0) (aG zs bl) (!bl)) with⟨h1,h2⟩|⟨h1,h2⟩
  ·left
   exact⟨h1,fun x hp=>((hni x).2 hp).2 (h2 x ((hni x).2 hp).1)⟩
  ·right;exact(hni _).1 ⟨h1,h2⟩
def Ad(f r:Int)(zs:List Int)(bl:Bool)(K occ x j:Int):Prop:=(zq zs bl x||zk f r zs K x)=false/\pinC f r zs bl K occ x j=true
theorem qq{f r:Int}{zs:List Int}{bl:Bool}{K x j:Int}(h:aO f r zs=true)(hz:zs.length<=64)(hK:ak f r K=true)(h0:0<=x)(h1:x<zs.length)(hj0:0<=j)(hj1:j<zs.length):Ad f r zs bl K (occR f r zs) x j↔Pins f r zs bl K x j/\isP (zs.getD j.toNat 0) bl=true:=by
 unfold Ad Pins
 rw[Gh h hK h0 h1]
 constructor
 ·rintro⟨a,b⟩
  have hl:=(cU (f:=f) (r:=r) (x:=x) (K:=K) (occ:=0) (kd:=((zs.getD x.toNat 0).natAbs:Int)) (by have:=a.2.1;omega) (by have:=a.2.2.1;omega)).2 a.2.2.2
  obtain⟨c1,c2⟩:=(yy h hz ((cW h).2 ⟨h0,h1⟩) hK hl hj0 hj1).1 b
  exact⟨⟨h0,h1,a,c1⟩,c2⟩
 ·rintro⟨⟨_,_,a,c1⟩,c2⟩
  have hl:=(cU (f:=f) (r:=r) (x:=x) (K:=K) (occ:=0) (kd:=((zs.getD x.toNat 0).natAbs:Int)) (by have:=a.2.1;omega) (by have:=a.2.2.1;omega)).2 a.2.2.2
  exact⟨a,(yy h hz ((cW h).2 ⟨h0,h1⟩) hK hl hj0 hj1).2 ⟨c1,c2⟩⟩
theorem inP{f r:Int}{zs:List Int}{bl:Bool}{K occ x s:Int}(hs:Uk s):∀ n:Nat,n<=64->Uk (cN (zu cbP f r zs bl K occ x) s n)/\∀ m:Nat,bt (cN (zu cbP f r zs bl K occ x) s n) m=true↔bt s m=true\/(m<n/\pinC f r zs bl K occ x m=true)
 |0,_=>⟨hs,fun m=>by simp[cN]⟩
 |n+1,hn=>by
  obtain⟨h1,h2⟩:=inP hs n (by omega)
  simp only[cN,zu]
  cases hc:pinC f r zs bl K occ x n with
  |false=>
   refine⟨h1,fun m=>?_⟩
   rw[cond_false,h2]
   refine or_congr_right ⟨fun⟨a,b⟩=>⟨by omega,b⟩,fun⟨a,b⟩=>⟨?_,b⟩⟩
   have:m≠n:=by rintro rfl;rw[hc]at b;cases b
   omega
  |true=>
   simp only[cond_true,cbP]
   refine⟨jE _ _,fun m=>?_⟩
   rw[iu h1 (gl _ _),fB (by omega) (by omega),Bool.or_eq_true,h2,decide_eq_true_eq,or_assoc]
   refine or_congr_right ⟨?_,fun⟨a,b⟩=>?_⟩
   ·rintro(⟨a,b⟩|a)
    ·exact⟨by omega,b⟩
    ·have:m=n:=by omega
     subst this;exact⟨by omega,hc⟩
   ·by_cases e:m=n
    ·exact .inr (by omega)
    ·exact .inl ⟨by omega,b⟩
theorem outP{f r:Int}{zs:List Int}{bl:Bool}{K occ:Int}(hz:zs.length<=64):∀ n:Nat,Uk (cN (kO cbP f r zs bl K occ) 0 n)/\∀ m:Nat,bt (cN (kO cbP f r zs bl K occ) 0 n) m=true↔∃ x:Nat,x<n/\m<zs.length/\Ad f r zs bl K occ x m
 |0=>⟨uk_0,fun m=>by simp[cN,bt_0]⟩
 |n+1=>by
  obtain⟨h1,h2⟩:=outP (f:=f) (r:=r) (bl:=bl) (K:=K) (occ:=occ) hz n
  simp only[cN]
  rw[kO]
  cases hc:(zq zs bl n||zk f r zs K n) with
  |true=>
   refine⟨h1,fun m=>?_⟩
   rw[cond_true,h2]
   constructor
   ·rintro⟨x,a,b⟩;exact⟨x,by omega,b⟩
   ·rintro⟨x,a,b,c⟩
    have:x≠n:=by rintro rfl;have:=c.1;rw[hc]at this;cases this
    exact⟨x,by omega,b,c⟩
  |false=>
   rw[cond_false]
   obtain⟨g1,g2⟩:=inP (f:=f) (r:=r) (zs:=zs) (bl:=bl) (K:=K) (occ:=occ) (x:=n) h1 zs.length hz
   refine⟨g1,fun m=>?_⟩
   rw[g2,h2]
   constructor
   ·rintro(⟨x,a,b⟩|⟨a,b⟩)
    ·exact⟨x,by omega,b⟩
    ·exact⟨n,by omega,a,hc,b⟩
   ·rintro⟨x,a,b,c⟩
    by_cases e:x=n
    ·subst e;exact .inr ⟨b,c.2⟩
    ·exact .inl ⟨x,by omega,b,c⟩
theorem inL{f r:Int}{zs:List Int}{bl:Bool}{K occ x s:Int}{j:Nat}:∀ n:Nat,cN (zu (cbL j) f r zs bl K occ x) s n=bif decide (j<n)&&pinC f r zs bl K occ x j then vg f r K x j else s
 |0=>by simp[cN]
 |n+1=>by
  simp only[cN,zu,cbL,inL n]
  by_cases e:(n:Int)=(j:Int)
  ·have:n=j:=by omega
   subst this
   simp only[Nat.lt_irrefl,decide_false,Bool.false_and,cond_false,Nat.lt_succ_self,decide_true,Bool.true_and,cond_true]
  ·have e2:decide (j<n)=decide (j<n+1):=by congr 1;exact propext ⟨fun h=>by omega,fun h=>by omega⟩
   rw[decide_eq_false e,e2]
   cases pinC f r zs bl K occ x n<;>simp
theorem NT{f r:Int}{zs:List Int}{bl:Bool}{K occ:Int}{j:Nat}(hj:j<zs.length):∀ n:Nat,(∃ x:Nat,x<n/\Ad f r zs bl K occ x j/\cN (kO (cbL j) f r zs bl K occ) 0 n=vg f r K x j)\/((∀ x:Nat,x<n->¬ Ad f r zs bl K occ x j)/\cN (kO (cbL j) f r zs bl K occ) 0 n=0)
 |0=>.inr ⟨fun x h=>by omega,rfl⟩
 |n+1=>by
  have ih:=NT (f:=f) (r:=r) (bl:=bl) (K:=K) (occ:=occ) hj n
  simp only[cN]
  rw[kO]
  cases hc:(zq zs bl n||zk f r zs K n) with
  |true=>
   rw[cond_true]
   rcases ih with⟨x,a,b,c⟩|⟨a,b⟩
   ·exact .inl ⟨x,by omega,b,c⟩
   ·refine .inr ⟨fun x hx hg=>?_,b⟩
    by_cases e:x=n
    ·subst e;have:=hg.1;rw[hc]at this;cases this
    ·exact a x (by omega) hg
  |false=>
   rw[cond_false,inL,decide_eq_true hj,Bool.true_and]
   cases hp:pinC f r zs bl K occ n j with
   |true=>exact .inl ⟨n,by omega,⟨hc,hp⟩,rfl⟩
   |false=>
    rw[cond_false]
    rcases ih with⟨x,a,b,c⟩|⟨a,b⟩
    ·exact .inl ⟨x,by omega,b,c⟩
    ·refine .inr ⟨fun x hx hg=>?_,b⟩
     by_cases e:x=n
     ·subst e;have:=hg.2;rw[hp]at this;cases this
     ·exact a x (by omega) hg
theorem Bn{f r:Int}{zs:List Int}{bl:Bool}(h:aO f r zs=true)(hz:zs.length<=64)(hk:bK f r zs bl=(aG zs bl,0))(hK:ak f r (aG zs bl)=true):ofL (nf f r zs bl) 0=(qy f r zs bl).1/\(qy f r zs bl).2=0:=by
 unfold qy
 rw[hk]
 refine⟨?_,rfl⟩
 show _=rj cbP f r zs bl
 unfold rj
 rw[hk]
 obtain⟨g1,g2⟩:=outP (f:=f) (r:=r) (bl:=bl) (K:=aG zs bl) (occ:=occR f r zs) hz zs.length
 have hb:∀ x∈nf f r zs bl,0<=x/\x<64:=fun x hx=>by
  have:=dj.1 (List.mem_filter.1 hx).1
  omega
 obtain⟨h3,h4⟩:=iC _ 0 hb uk_0
 refine nw h3 g1 fun m _=>?_
 rw[h4,bt_0,Bool.false_or,Bool.eq_iff_iff,decide_eq_true_eq,g2]
 unfold nf
 rw[List.mem_filter,dj]
 unfold Jg
 rw[decide_eq_true_eq]
 constructor
 ·rintro⟨⟨a1,a2,a3⟩,a4⟩
  have hp:isP (zs.getD (m:Int).toNat 0) bl=true:=by rw[kj,decide_eq_true_eq];exact a3
  rcases fz h hz hK a1 a2 hp with⟨b1,_⟩|b
  ·omega
  ·have hx:((bC f r zs m).toNat:Int)=bC f r zs m:=by have:=b.1;omega
   refine⟨(bC f r zs m).toNat,by have:=b.2.1;omega,by omega,?_⟩
   rw[hx]
   exact(qq h hz hK b.1 b.2.1 a1 a2).2 ⟨b,hp⟩
 ·rintro⟨x,a1,a2,a3⟩
  obtain⟨b1,b2⟩:=(qq h hz hK (by omega) (by omega) (by omega) (by omega)).1 a3
  have hp:=b2
  rw[kj,decide_eq_true_eq]at b2
  refine⟨⟨by omega,by omega,b2⟩,?_⟩
  rcases fz h hz hK (by omega) (by omega) hp with⟨_,c⟩|c
  ·exact absurd b1 (c x)
  ·exact c.1
theorem Md{f r:Int}{zs:List Int}{bl:Bool}{j:Int}(h:aO f r zs=true)(hz:zs.length<=64)(hk:bK f r zs bl=(aG zs bl,0))(hK:ak f r (aG zs bl)=true)(hj0:0<=j)(hj1:j<zs.length)(hjp:isP (zs.getD j.toNat 0) bl=true) :
  (bC f r zs j<0/\eX f r zs j=(0,9))\/(0<=bC f r zs j/\eX f r zs j=(ofL (oE f r zs j) 0,0)):=by
 obtain⟨e1,e2⟩:=Fc hjp
 have hjv:=(cW h).2 ⟨hj0,hj1⟩
 have hjn:((j.toNat:Nat):Int)=j:=by omega
 have hps:rj (cbL j) f r zs bl=cN (kO (cbL (j.toNat:Nat)) f r zs bl (aG zs bl) (occR f r zs)) 0 zs.length:=by unfold rj;rw[hk,hjn]
 have hR:eX f r zs j=bif decide (rj (cbL j) f r zs bl=0) then(0,9) else(rj (cbL j) f r zs bl,0):=by
  unfold eX
  rw[h,hjv,decide_eq_false (iw hjp),e1,hk];rfl
 have hgood:∀ x:Nat,x<zs.length->(Ad f r zs bl (aG zs bl) (occR f r zs) x (j.toNat:Nat)↔Pins f r zs bl (aG zs bl) x j):=fun x hx=>by
  rw[hjn,qq h hz hK (by omega) (by omega) hj0 hj1]
  exact⟨fun a=>a.1,fun a=>⟨a,hjp⟩⟩
 rw[hR,hps]
 rcases NT (f:=f) (r:=r) (bl:=bl) (K:=aG zs bl) (occ:=occR f r zs) (j:=j.toNat) (zs:=zs) (by omega) zs.length with⟨x,x1,x2,x3⟩|⟨x1,x2⟩
 ·right
  have hp:=(hgood x x1).1 x2
  have hpr:bC f r zs j=x:=by
   rcases fz h hz hK hj0 hj1 hjp with⟨_,c⟩|c
   ·exact absurd hp (c x)
   ·exact om h hK c hp
  obtain⟨v1,_,l1,_,_,_⟩:=fE h hK hp
  have hxl:=aS v1
  rw[x3,hjn]
  obtain⟨b1,b2⟩:=Bv v1 hK l1
  have hu:Uk (vg f r (aG zs bl) x j):=jE _ _
  have hbits:∀ m:Nat,bt (vg f r (aG zs bl) x j) m=((decide ((m:Int)∈bU f r x (aG zs bl))&&!decide (j=m))||decide ((x:Int)=m)):=fun m=>by
   unfold vg
   rw[iu (ke _ _) (gl _ _),iG b1 (gl _ _),b2,fB hj0 (by omega),fB (by omega) (by omega)]
  have hne:vg f r (aG zs bl) x j≠0:=fun he=>by
   have:=hbits x
   rw[he,bt_0]at this
   simp at this
  rw[decide_eq_false hne,cond_false,hpr]
  refine⟨by omega,?_⟩
  congr 1
  have hb:∀ y∈oE f r zs j,0<=y/\y<64:=fun y hy=>by have:=bS.1 hy;omega
  obtain⟨h3,h4⟩:=iC _ 0 hb uk_0
  refine nw hu h3 fun m _=>?_
  rw[hbits,h4,bt_0,Bool.false_or,Bool.eq_iff_iff]
  unfold oE
  simp only[Bool.or_eq_true,Bool.and_eq_true,Bool.not_eq_true',decide_eq_true_eq,decide_eq_false_iff_not,bS]
  unfold Hj
  have hkk:fh zs j=aG zs bl:=by unfold fh;rw[e1]
  rw[hpr,hkk]
  simp only[Bool.or_eq_true,Bool.and_eq_true,Bool.not_eq_true',decide_eq_true_eq,decide_eq_false_iff_not,fX]
  rw[um v1 hK]
  constructor
  ·rintro(⟨a,b⟩|a)
   ·have:=(cW h).1 ((dI hK).2 _ a)
    exact⟨by omega,by omega,.inr ⟨a,by omega⟩⟩
   ·exact⟨by omega,by omega,.inl (by omega)⟩
  ·rintro⟨_,_,a|⟨a,b⟩⟩
   ·exact .inr (by omega)
   ·exact .inl ⟨a,by omega⟩
 ·left
  have hpr:bC f r zs j=-1:=by
   rcases fz h hz hK hj0 hj1 hjp with⟨c,_⟩|c
   ·exact c
   ·exfalso
    have hx:((bC f r zs j).toNat:Int)=bC f r zs j:=by have:=c.1;omega
    refine x1 (bC f r zs j).toNat (by have:=c.2.1;omega) ((hgood _ (by have:=c.2.1;omega)).2 ?_)
    rw[hx];exact c
  rw[hpr,x2]
  exact⟨by omega,rfl⟩
section
theorem BJ{f r:Int}{zs:List Int}{bl:Bool}{K:Int}(h:aO f r zs=true)(hz:zs.length<=64)(h0:0<=K)(h1:K<zs.length)(hk:zs.getD K.toNat 0=kgP bl)(hu:∀ i:Nat,i<zs.length->zs.getD i 0=kgP bl->(i:Int)=K):aG zs bl=K/\bK f r zs bl=(K,0):=by
 have e:aG zs bl=K:=by
  unfold aG
  rw[Ki]
  have:gr zs (kgP bl)=[((K.toNat:Nat):Int)]:=lV (a:=K.toNat) (by simp only[iM,Int.toNat_natCast,decide_eq_true_eq];exact hk) _ (by omega) fun i hi hc=>by
   simp only[iM,Int.toNat_natCast,decide_eq_true_eq]at hc
   have:=hu i hi hc
   omega
  rw[this]
  simp
  omega
 refine⟨e,?_⟩
 rcases gM (bl:=bl) h hz with⟨a,_⟩|⟨a,_⟩
 ·omega
 ·rw[a,e]
structure Pos(f r:Int)(zs:List Int)(bl:Bool)(K j:Int):Prop where
 o:aO f r zs=true
 z:zs.length<=64
 kr:bK f r zs bl=(K,0)
 k:aG zs bl=K
 kv:ak f r K=true
 kp:zs.getD K.toNat 0=kgP bl
 ku:∀ i:Nat,i<zs.length->zs.getD i 0=kgP bl->(i:Int)=K
 j0:0<=j
 j1:j<zs.length
 jp:isP (zs.getD j.toNat 0) bl=true
 jk:K≠j
section
variable{f r:Int}{zs:List Int}{bl:Bool}{K j:Int}
theorem MX(bl:Bool):kgP bl≠0:=by cases bl<;>decide
theorem Pos.set(p:Pos f r zs bl K j):aO f r (zs.set j.toNat 0)=true/\(zs.set j.toNat 0).length<=64/\bK f r (zs.set j.toNat 0) bl=(K,0):=by
 have ho:=qR (j:=j) (v:=0) p.o (by omega)
 have hl:(zs.set j.toNat 0).length<=64:=by rw[List.length_set];exact p.z
 have hK:=(cW p.o).1 p.kv
 refine⟨ho,hl,(BJ ho hl hK.1 (by rw[List.length_set];exact hK.2) ?_ fun i hi he=>?_).2⟩
 ·rw[dM p.j0 hK.1 hK.2,if_neg p.jk];exact p.kp
 ·rw[List.length_set]at hi
  have hg:=dM (zs:=zs) (v:=0) p.j0 (show (0:Int)<=i by omega) (by omega)
  rw[Int.toNat_natCast]at hg
  rw[hg]at he
  split at he
  ·exact absurd he.symm (MX bl)
  ·exact p.ku i hi he
theorem Pos.sub(p:Pos f r zs bl K j){x:Int}(hx:x∈attL f r zs K (!bl)):x∈attL f r (zs.set j.toNat 0) K (!bl):=by
 obtain⟨ho,hl,_⟩:=p.set
 obtain⟨o1,o2⟩:=gC (aK p.o).2.2.1 p.z
 obtain⟨q1,q2⟩:=gC (aK ho).2.2.1 hl
 rw[eS]at hx ⊢
 rw[iA (aK p.o).2.2.1 p.z]at hx
 rw[iA (aK ho).2.2.1 hl,List.length_set]
 obtain⟨h0,h1,h2,h3⟩:=hx
 have hne:x≠j:=by
  rintro rfl
  have:=p.jp
  rw[kj,decide_eq_true_eq]at h2 this
  cases bl<;>simp[sdI]at h2 this<;>omega
 refine⟨h0,h1,by rw[Fi p.j0 h0 h1,decide_eq_false hne];exact h2,?_⟩
 unfold gk at h3 ⊢
 rw[dM p.j0 h0 h1,if_neg hne]
 cases hk:decide (cw (zs.getD x.toNat 0)=1) with
 |true=>rw[hk]at h3;exact h3
 |false=>
  rw[hk]at h3
  simp only[cond_false,Bool.and_eq_true]at h3 ⊢
  refine⟨h3.1,tN q1 o1 (fun m hm=>?_) h3.2⟩
  rw[q2,List.length_set,Bool.and_eq_true,decide_eq_true_eq]at hm
  have hg:=dM (zs:=zs) (v:=0) p.j0 (show (0:Int)<=m by omega) (by omega)
  rw[Int.toNat_natCast]at hg
  rw[hg]at hm
  rw[o2,decide_eq_true hm.1,Bool.true_and]
  split at hm
  ·simp at hm
  ·exact hm.2
theorem Pos.new(p:Pos f r zs bl K j)(x:Int):(x∈attL f r (zs.set j.toNat 0) K (!bl)/\x∉attL f r zs K (!bl))↔Pins f r zs bl K x j:=EH p.o p.z p.kv p.j0 p.j1 p.jp
theorem Pos.ab(p:Pos f r zs bl K j):Uk (attR f r zs K (!bl))/\Uk (attR f r (zs.set j.toNat 0) K (!bl))/\(∀ m:Nat,bt (attR f r zs K (!bl)) m=decide ((m:Int)∈attL f r zs K (!bl)))/\∀ m:Nat,bt (attR f r (zs.set j.toNat 0) K (!bl)) m=decide ((m:Int)∈attL f r (zs.set j.toNat 0) K (!bl)):=by
 obtain⟨ho,hl,_⟩:=p.set
 obtain⟨a1,a2⟩:=nB (bl:=!bl) p.o p.z p.kv
 obtain⟨b1,b2⟩:=nB (bl:=!bl) ho hl p.kv
 exact⟨a1,b1,a2,b2⟩
theorem Pos.pin(p:Pos f r zs bl K j):(bC f r zs j=-1/\∀ x,¬ Pins f r zs bl K x j)\/Pins f r zs bl K (bC f r zs j) j:=by
 have:=fz p.o p.z (by rw[p.k];exact p.kv) p.j0 p.j1 p.jp
 rwa [p.k]at this
theorem Pos.bit(p:Pos f r zs bl K j):decide (uand (ushr (qy f r zs bl).1 j) 1=0)=decide (bC f r zs j<0):=by
 obtain⟨e,_⟩:=Bn p.o p.z (by rw[p.k];exact p.kr) (by rw[p.k];exact p.kv)
 have hb:∀ x∈nf f r zs bl,0<=x/\x<64:=fun x hx=>by
  have:=dj.1 (List.mem_filter.1 hx).1
  have:=p.z
  omega
 obtain⟨h3,h4⟩:=iC _ 0 hb uk_0
 have hz:=p.z
 have hj1:=p.j1
 have hj0:=p.j0
 rw[<-e,vP h3 p.j0 (by omega),h4,bt_0,Bool.false_or,show ((j.toNat:Nat):Int)=j by omega]
 unfold nf
 have his:=p.jp
 rw[kj,decide_eq_true_eq]at his
 rw[Bool.eq_iff_iff,Bool.not_eq_true',decide_eq_false_iff_not,decide_eq_true_eq,List.mem_filter,dj]
 unfold Jg
 rw[decide_eq_true_eq]
 constructor
 ·intro hn
  apply Classical.byContradiction
  intro h5
  exact hn ⟨⟨hj0,hj1,his⟩,by omega⟩
 ·rintro h5 ⟨_,h6⟩;omega
theorem Pos.same(p:Pos f r zs bl K j)(h:bC f r zs j<0):attR f r (zs.set j.toNat 0) K (!bl)=attR f r zs K (!bl):=by
 obtain⟨a1,b1,a2,b2⟩:=p.ab
 refine nw b1 a1 fun m _=>?_
 rw[a2,b2,Bool.eq_iff_iff,decide_eq_true_eq,decide_eq_true_eq]
 refine⟨fun hm=>?_,p.sub⟩
 rcases p.pin with⟨_,c⟩|c
 ·apply Classical.byContradiction
  intro hn
  exact c m ((p.new m).1 ⟨hm,hn⟩)
 ·have:=c.1;omega
end
end
section
variable{f r:Int}{zs:List Int}{bl:Bool}{K j:Int}
theorem Pos.more(p:Pos f r zs bl K j)(h:¬ bC f r zs j<0):∃ x:Nat,x<64/\Pins f r zs bl K x j/\bt (attR f r zs K (!bl)) x=false/\(∀ m:Nat,bt (attR f r (zs.set j.toNat 0) K (!bl)) m=(bt (attR f r zs K (!bl)) m||decide (m=x)))/\eX f r zs j=(ofL (oE f r zs j) 0,0)/\bC f r zs j=x:=by
 obtain⟨a1,b1,a2,b2⟩:=p.ab
 rcases p.pin with⟨c,_⟩|c
 ·omega
 ·have hz:=p.z
  have hx:((bC f r zs j).toNat:Int)=bC f r zs j:=by have:=c.1;omega
  have hn:=(p.new _).2 c
  refine⟨(bC f r zs j).toNat,by have:=c.2.1;omega,by rw[hx];exact c,by rw[a2,hx];exact decide_eq_false hn.2,fun m=>?_,?_,hx.symm⟩
  ·rw[a2,b2,Bool.eq_iff_iff,Bool.or_eq_true,decide_eq_true_eq,decide_eq_true_eq,decide_eq_true_eq]
   constructor
   ·intro hm
    by_cases hm2:(m:Int)∈attL f r zs K (!bl)
    ·exact .inl hm2
    ·right
     have:=om p.o p.kv ((p.new m).1 ⟨hm,hm2⟩) c
     omega
   ·rintro(hm|hm)
    ·exact p.sub hm
    ·subst hm;rw[hx];exact hn.1
  ·rcases Md (bl:=bl) p.o p.z (by rw[p.k];exact p.kr) (by rw[p.k];exact p.kv) p.j0 p.j1 p.jp with⟨e,_⟩|⟨_,e⟩
   ·exact absurd e h
   ·exact e
theorem Pos.onLine(p:Pos f r zs bl K j)(h:¬ bC f r zs j<0):de (de (attR f r (zs.set j.toNat 0) K (!bl)) (attR f r zs K (!bl))) (eX f r zs j).1=0:=by
 obtain⟨a1,b1,a2,b2⟩:=p.ab
 obtain⟨x,x1,x2,x3,x4,x5,x6⟩:=p.more h
 have hb:∀ y∈oE f r zs j,0<=y/\y<64:=fun y hy=>by have:=bS.1 hy;have:=p.z;omega
 obtain⟨h3,h4⟩:=iC _ 0 hb uk_0
 rw[x5,nP (ke _ _)]
 intro m _
 show bt (de (de _ _) (ofL (oE f r zs j) 0)) m=false
 rw[iG (ke _ _) h3,iG b1 a1,x4,h4,bt_0,Bool.false_or]
 by_cases e:m=x
 ·subst e
  have:(m:Int)∈oE f r zs j:=by
   unfold oE
   rw[bS]
   refine⟨by omega,x2.2.1,?_⟩
   unfold Hj
   rw[x6];simp
  rw[decide_eq_true this];simp
 ·rw[decide_eq_false e]
  cases bt (attR f r zs K (!bl)) m<;>simp
theorem Pos.line(p:Pos f r zs bl K j)(h:¬ bC f r zs j<0){to:Int}(ht:to∈Dd (eX f r zs j).1 64):ak f r to=true/\(to=bC f r zs j\/(to∈bU f r (bC f r zs j) K/\to≠j)):=by
 obtain⟨x,x1,x2,x3,x4,x5,x6⟩:=p.more h
 have hb:∀ y∈oE f r zs j,0<=y/\y<64:=fun y hy=>by have:=bS.1 hy;have:=p.z;omega
 obtain⟨h3,h4⟩:=iC _ 0 hb uk_0
 rw[x5]at ht
 obtain⟨t1,t2,t3⟩:=Dv.1 ht
 rw[nV h3,h4,bt_0,Bool.false_or]at t3
 simp only[Bool.and_eq_true,decide_eq_true_eq]at t3
 have ht2:=t3.2
 rw[show ((to.toNat:Nat):Int)=to by omega]at ht2
 unfold oE at ht2
 obtain⟨u1,u2,u3⟩:=bS.1 ht2
 refine⟨(cW p.o).2 ⟨u1,u2⟩,?_⟩
 unfold Hj at u3
 have hkk:fh zs j=K:=by unfold fh;rw[(Fc p.jp).1];exact p.k
 rw[hkk]at u3
 simp only[Bool.or_eq_true,Bool.and_eq_true,Bool.not_eq_true',decide_eq_true_eq,decide_eq_false_iff_not,fX]at u3
 rcases u3 with u3|u3
 ·exact .inl u3
 ·right
  have hx:=(fE p.o p.kv (x6▸x2)).1
  exact⟨(um p.kv hx to).1 u3.1,u3.2⟩
theorem Pos.put(p:Pos f r zs bl K j)(h:¬ bC f r zs j<0){to:Int}(ht:to∈Dd (eX f r zs j).1 64):aO f r ((zs.set j.toNat 0).set to.toNat (zs.getD j.toNat 0))=true/\bK f r ((zs.set j.toNat 0).set to.toNat (zs.getD j.toNat 0)) bl=(K,0):=by
 obtain⟨ho,hl,_⟩:=p.set
 obtain⟨hv,hc⟩:=p.line h ht
 have htl:=(cW p.o).1 hv
 have hb:=dZ p.o p.j0 p.j1
 have ho2:=qR (j:=to) (v:=zs.getD j.toNat 0) ho hb
 have hl2:((zs.set j.toNat 0).set to.toNat (zs.getD j.toNat 0)).length<=64:=by rw[List.length_set];exact hl
 have hK:=(cW p.o).1 p.kv
 have hpk:zs.getD j.toNat 0≠kgP bl:=fun e=>by
  have:=p.ku j.toNat (by have:=p.j1;have:=p.j0;omega) e
  have:=p.jk
  have:=p.j0
  omega
 have hto:to≠K:=by
  rintro rfl
  rcases p.pin with⟨c,_⟩|c
  ·omega
  ·rcases hc with hc|hc
   ·have:=c.2.2.1.1
    rw[<-hc,p.kp]at this
    cases bl<;>simp[kgP,isP]at this
   ·obtain⟨v1,_,l1,_,_,_⟩:=fE p.o p.kv c
    obtain⟨i,k,d,e,u,a1,a2,a3,a4,a5,a6,a7⟩:=((eV v1 p.kv p.kv).1 hc.1).2
    rcases bI u with⟨rfl,rfl⟩|⟨rfl,rfl⟩|⟨rfl,rfl⟩|⟨rfl,rfl⟩|⟨rfl,rfl⟩|⟨rfl,rfl⟩|⟨rfl,rfl⟩|⟨rfl,rfl⟩<;>omega
 have hget:∀ i:Nat,i<zs.length->((zs.set j.toNat 0).set to.toNat (zs.getD j.toNat 0)).getD i 0=if(i:Int)=to then zs.getD j.toNat 0 else if(i:Int)=j then 0 else zs.getD i 0:=by
  intro i hi
  have g1:=dM (zs:=zs.set j.toNat 0) (v:=zs.getD j.toNat 0) htl.1 (show (0:Int)<=i by omega) (by rw[List.length_set];omega)
  have g2:=dM (zs:=zs) (v:=0) p.j0 (show (0:Int)<=i by omega) (by omega)
  rw[Int.toNat_natCast]at g1 g2
  rw[g1,g2]
 refine⟨ho2,(BJ ho2 hl2 hK.1 (by rw[List.length_set,List.length_set];exact hK.2) ?_ fun i hi he=>?_).2⟩
 ·rw[hget K.toNat (by omega),if_neg (by omega),if_neg (by have:=p.jk;omega)];exact p.kp
 ·rw[List.length_set,List.length_set]at hi
  rw[hget i hi]at he
  split at he
  ·exact absurd he hpk
  ·split at he
   ·exact absurd he.symm (MX bl)
   ·exact p.ku i hi he
end
end Go.Ab
namespace Go.Ab
open IntKind
open Go.Proofs
theorem Oh{n:Int}(h1:-128<=n)(h2:n<=127):w8 n=n:=by
 show IntKind.wrap .i8 n=n
 unfold IntKind.wrap IntKind.bits IntKind.signed
 simp only[Bool.true_and,decide_eq_true_eq]
 split<;>omega
theorem xD{f r:Int}{zs:List Int}(h:aO f r zs=true){i:Int}(h0:0<=i)(h1:i<zs.length):absP (zs.getD i.toNat 0)=cw (zs.getD i.toNat 0):=by
 have hp:=dZ h h0 h1
 have hw:w8 (0-zs.getD i.toNat 0)=0-zs.getD i.toNat 0:=Oh (by omega) (by omega)
 rw[fQ hp]
 unfold absP imax
 rw[hw]
 by_cases hn:zs.getD i.toNat 0<0-zs.getD i.toNat 0
 ·simp only[hn,decide_true,cond_true];omega
 ·simp only[hn,decide_false,cond_false];omega
theorem GP{f r:Int}{zs:List Int}{bl:Bool}(h:aO f r zs=true){i:Int}(h0:0<=i)(h1:i<zs.length)(hp:isP (zs.getD i.toNat 0) bl=true)(hk:¬ cw (zs.getD i.toNat 0)=1):ga (cw (zs.getD i.toNat 0)):=by
 have hb:=dZ h h0 h1
 have hz:=iw hp
 rw[fQ hb]at hk ⊢
 unfold ga
 omega
theorem Jm{f r:Int}{zs:List Int}{bl:Bool}{_ca pa a b pr:Int}(h:aO f r zs=true)(hl:zs.length<=64)(ha:ak f r a=true)(hb:ak f r b=true)(hp:isP (zs.getD a.toNat 0) bl=true) :
  Kz f r zs bl pa a b pr=bif decide (cw (zs.getD a.toNat 0)=1)then pnL f r zs bl pa a b pr else decide (pr=0)&&bh f r (cw (zs.getD a.toNat 0)) a b (occL zs):=by
 have hbd:=(aK h).2.2.1
 obtain⟨ha0,ha1⟩:=(iX hbd).1 ha
 obtain⟨hb0,hb1⟩:=(iX hbd).1 hb
 have hb64:b<64:=by omega
 obtain⟨hou,_⟩:=gC hbd hl
 have hray:kz f r a (occR f r zs)=true:=(ju hou).2 ⟨ha,Ed h hl⟩
 unfold Kz
 rw[xD h ha0 ha1,iA hbd hl]
 cases hk:decide (cw (zs.getD a.toNat 0)=1) with
 |false=>
  obtain⟨r1,_,r3⟩:=mc hray hou (GP h ha0 ha1 hp (of_decide_eq_false hk))
  simp only[Bool.not_false,cond_true,cond_false]
  have r1:Uk (dY f r (cw (zs.getD a.toNat 0)) a (occR f r zs)).1:=r1
  rw[pS r1 hb0 hb64]
  congr 1
  exact r3 b hb
 |true=>
  simp only[Bool.not_true,cond_true,cond_false]
  obtain⟨_,s1,_,s2⟩:=Ib (bl:=bl) hray hou
  obtain⟨_,p1,_,p2⟩:=DL (bl:=bl) ha
  have hu:Uk (bif decide (zs.getD b.toNat 0=0)&&!decide (b=pa)then 0 else(jV f r bl a).1):=by
   cases(decide (zs.getD b.toNat 0=0)&&!decide (b=pa))
   ·exact p1
   ·exact uk_0
  rw[pS (jE _ _) hb0 hb64,iu s1 hu,s2 b hb]
  have hpb:bt (bif decide (zs.getD b.toNat 0=0)&&!decide (b=pa)then 0 else(jV f r bl a).1) b.toNat=(eL f bl a b&&(!decide (zs.getD b.toNat 0=0)||decide (b=pa))):=by
   cases h1:decide (zs.getD b.toNat 0=0)<;>cases h2:decide (b=pa)<;>simp[p2 b hb,bt_0]
  rw[hpb]
  have hv:=(bT hbd).1
  have hin:∀ c:Int->Bool,hasL b (cz c id (f*r).toNat)=c b:=fun c=>by
   rw[Bool.eq_iff_iff,fX,bS]
   have:=aS hb
   exact⟨fun h=>h.2.2,fun h=>⟨hb0,by omega,h⟩⟩
  unfold pnL
  rw[hin,hin,iA hbd hl]
  have hlast:Na r bl=kF r bl:=rfl
  rw[hlast]
  cases decide (i64.wrap (b.tdiv f)=kF r bl)<;>cases decide (pr=0)<;>cases jA f r bl a (occR f r zs) b<;>cases eL f bl a b<;>simp
section
theorem pc_w{f r a b:Int}(ha:ak f r a=true)(hb:ak f r b=true):i64.wrap (i64.wrap (b.tdiv f)-i64.wrap (a.tdiv f))=py f b-py f a:=(fZ ha hb).2
theorem wV{n:Int}{bl:Bool}(h:isP n bl=true)(h2:n=ofP 1 (!bl)):False:=by
 subst h2
 cases bl<;>revert h<;>decide
theorem Bc{n:Int}{bl:Bool}(hz:n≠0)(h:isP n bl=false):isP n (!bl)=true:=by
 unfold isP at h ⊢
 rcases Int.lt_or_gt_of_ne hz with h3|h3
 ·have h4:¬ 0<n:=by omega
  cases bl<;>simp[h3,h4]at h ⊢
 ·have h4:¬ n<0:=by omega
  cases bl<;>simp[h3,h4]at h ⊢<;>omega
structure MvOk(p:Psn)(m:Mov):Prop where
 h:aO p.f p.r p.zs=true
 hl:p.zs.length<=64
 ok:p.ok=true
 ca:0<=p.ca
 ha:ak p.f p.r m.a=true
 hb:ak p.f p.r m.b=true
 hab:m.a≠m.b
 hpr:m.p=0\/(2<=m.p/\m.p<=5)
 hp:isP (p.zs.getD m.a.toNat 0) p.bl=true
 so:err3 p m=false
section
variable{p:Psn}{m:Mov}
theorem MvOk.bd(o:MvOk p m):aL p.f p.r p.zs=true:=(aK o.h).2.2.1
theorem MvOk.pass(o:MvOk p m):fo p.f p.r p.zs p.bl p.pa p.ha=true:=by have:=o.ok;simp only[Psn.ok,Bool.and_eq_true]at this;exact this.1.2
theorem MvOk.nto(o:MvOk p m):isP (p.zs.getD m.b.toNat 0) p.bl=false:=by have:=o.so;simp only[err3,Bool.or_eq_false_iff]at this;exact this.1
theorem MvOk.sq(o:MvOk p m):(0<=m.a/\m.a<p.zs.length)/\(0<=m.b/\m.b<p.zs.length):=⟨(iX o.bd).1 o.ha,(iX o.bd).1 o.hb⟩
theorem MvOk.kd(o:MvOk p m):absP (p.zs.getD m.a.toNat 0)=cw (p.zs.getD m.a.toNat 0):=xD o.h o.sq.1.1 o.sq.1.2
theorem MvOk.pawn(o:MvOk p m)(hk:cw (p.zs.getD m.a.toNat 0)=1):pnL p.f p.r p.zs p.bl p.pa m.a m.b m.p=true:=by
 have:=o.so
 have hw:wayN p.zs p.bl p.ca m.a m.b=4:=by unfold wayN;rw[o.kd,hk];rfl
 simp only[err3,hw,Bool.or_eq_false_iff]at this
 have hg:=Jm (bl:=p.bl) (_ca:=p.ca) (pa:=p.pa) (pr:=m.p) o.h o.hl o.ha o.hb o.hp
 rw[hk]at hg
 rw[hg]at this
 simp only[decide_true,cond_true]at this
 have h2:=this.2
 cases hpn:pnL p.f p.r p.zs p.bl p.pa m.a m.b m.p with
 |true=>rfl
 |false=>rw[hpn]at h2;simp[wayB]at h2
theorem MvOk.steps(o:MvOk p m)(hk:cw (p.zs.getD m.a.toNat 0)=1) :
  (jA p.f p.r p.bl m.a (occR p.f p.r p.zs) m.b=true\/(eL p.f p.bl m.a m.b=true/\(p.zs.getD m.b.toNat 0≠0\/m.b=p.pa)))/\(m.p≠0↔py p.f m.b=kF p.r p.bl):=by
 have h:=o.pawn hk
 have hin:∀ c:Int->Bool,hasL m.b (cz c id (p.f*p.r).toNat)=c m.b:=fun c=>by
  rw[Bool.eq_iff_iff,fX,bS]
  have:=aS o.hb
  exact⟨fun h=>h.2.2,fun h=>⟨this.1,by omega,h⟩⟩
 unfold pnL at h
 rw[hin,hin,iA o.bd o.hl]at h
 rw[(lE o.hb).1]at h
 cases h1:(!(decide (py p.f m.b=kF p.r p.bl)==!decide (m.p=0))) with
 |true=>rw[h1]at h;cases h
 |false=>
  rw[h1,cond_false]at h
  refine⟨?_,?_⟩
  ·cases h2:jA p.f p.r p.bl m.a (occR p.f p.r p.zs) m.b with
   |true=>exact .inl rfl
   |false=>
    rw[h2,cond_false,Bool.and_eq_true,Bool.or_eq_true,decide_eq_true_eq,Bool.not_eq_true',decide_eq_false_iff_not]at h
    exact .inr h
  ·by_cases h3:py p.f m.b=kF p.r p.bl<;>by_cases h4:m.p=0<;>simp[h3,h4]at h1 ⊢
theorem Oc(bl:Bool):i64.wrap (2*fwd bl)=2*fwd bl:=by cases bl<;>decide
theorem LM{f r a b:Int}{bl:Bool}{occ:Int}(ha:ak f r a=true)(hb:ak f r b=true)(h:jA f r bl a occ b=true) :
  px f b=px f a/\((py f b=py f a+fwd bl)\/(py f b=py f a+2*fwd bl/\py f a=secR r bl/\6<=r/\ak f r (b-fwd bl*f)=true/\hasB occ (b-fwd bl*f)=false)):=by
 have hv:=(bO ha)
 obtain⟨a0,a1,a2,a3,a4,a5,a6⟩:=lE ha
 obtain⟨_,b1,b2,b3,b4,b5,_⟩:=lE hb
 have hfw:fwd bl=1\/fwd bl=-1:=by cases bl<;>simp[fwd]
 have hone:one4 f r bl a=numR f r (px f a) (py f a+fwd bl):=by unfold one4;rw[a0,aC (by omega) (by omega)]
 have htwo:two4 f r bl a=numR f r (px f a) (py f a+2*fwd bl):=by unfold two4;rw[a0,Oc,aC (by omega) (by omega)]
 simp only[jA,Bool.or_eq_true,Bool.and_eq_true,decide_eq_true_eq,Bool.not_eq_true']at h
 rw[hone,htwo,a0]at h
 have hbn:∀ {X Y:Int},b=numR f r X Y->px f b=X/\py f b=Y:=by
  intro X Y e
  rcases jv f r X Y hv with⟨ho,_⟩|⟨_,hn⟩
  ·exact(gH hv ho hb).1 e.symm
  ·have:=(aS hb).1;omega
 rcases h with⟨h1,_⟩|⟨⟨⟨⟨h1,h2⟩,h3⟩,h4⟩,_⟩
 ·obtain⟨e1,e2⟩:=hbn h1
  exact⟨e1,.inl e2⟩
 ·obtain⟨e1,e2⟩:=hbn h1
  refine⟨e1,.inr ⟨e2,h3,h2,?_⟩⟩
  have ho:onB f r (px f a) (py f a+fwd bl)=true:=iH a1 a2 (by omega) (by omega)
  obtain⟨v1,v2,v3⟩:=gP hv ho
  have heq:px f a+(py f a+fwd bl)*f=b-fwd bl*f:=by
   rw[<-b5,e1,e2]
   rw[Int.add_mul,Int.add_mul,Int.mul_assoc];omega
  rw[heq]at v1 v2 v3
  exact⟨v1,by rw[<-(gH hv ho v1).2 ⟨v2,v3⟩];exact h4⟩
theorem MvOk.ep(o:MvOk p m)(hk:cw (p.zs.getD m.a.toNat 0)=1)(hb:m.b=p.pa) :
  at1R p.f p.zs p.pa m.a m.b=m.b-fwd p.bl*p.f/\ak p.f p.r (m.b-fwd p.bl*p.f)=true/\p.zs.getD (m.b-fwd p.bl*p.f).toNat 0=ofP 1 (!p.bl)/\numR p.f p.r (m.b.tmod p.f) (i64.wrap (m.a.tdiv p.f))=m.b-fwd p.bl*p.f/\p.zs.getD m.b.toNat 0=0/\eL p.f p.bl m.a m.b=true:=by
 have hbd:=o.bd
 have hv:=(bT hbd).1
 obtain⟨a0,a1,a2,a3,a4,a5,a6⟩:=lE o.ha
 obtain⟨b0,b1,b2,b3,b4,b5,_⟩:=lE o.hb
 have hps:=o.pass
 have hb0:=(aS o.hb).1
 simp only[fo,Bool.or_eq_true,Bool.and_eq_true,decide_eq_true_eq,<-hb]at hps
 rcases hps with hps|⟨⟨⟨⟨⟨⟨p1,p2⟩,p3⟩,p4⟩,p5⟩,p6⟩,p7⟩
 ·omega
 obtain⟨n1,n2,n3,n4,n5,n6,n7⟩:=jh (bl:=p.bl) hbd p1 o.hb p4
 have hfw:fwd p.bl=1\/fwd p.bl=-1:=by cases p.bl<;>simp[fwd]
 have hup:i64.wrap (m.b+upP p.f p.bl)=m.b-fwd p.bl*p.f:=by
  cases hbl:p.bl
  ·simp only[upP,fwd,cond_false,n5,n7];omega
  ·simp only[upP,fwd,cond_true,n4];omega
 rw[hup]at p7
 have hvd:ak p.f p.r (m.b-fwd p.bl*p.f)=true:=by
  refine(iX hbd).2 ?_
  rcases hfw with e|e<;>rw[e]<;>constructor<;>omega
 have hat:eL p.f p.bl m.a m.b=true:=by
  rcases(o.steps hk).1 with h|h
  ·exfalso
   obtain⟨e1,h2⟩:=LM o.ha o.hb h
   rcases h2 with e2|⟨_,_,_,_,h5⟩
   ·have:m.b-fwd p.bl*p.f=m.a:=by rw[<-b5,<-a5,e1,e2,Int.add_mul];omega
    rw[this]at p7
    exact wV o.hp p7
   ·obtain⟨hou,hob⟩:=gC hbd o.hl
    rw[gE hou hvd,hob,p7]at h5
    have hlt:=(iX hbd).1 hvd
    rw[decide_eq_true (show (m.b-fwd p.bl*p.f).toNat<p.zs.length by omega),decide_eq_false (show ¬ ofP 1 (!p.bl)=0 by cases p.bl<;>decide)]at h5
    cases h5
  ·exact h.1
 have hpy:py p.f m.b=py p.f m.a+fwd p.bl:=by
  have:=hat
  simp only[eL,Bool.and_eq_true,decide_eq_true_eq]at this
  rw[pc_w o.ha o.hb]at this
  omega
 have hsq:px p.f m.b+py p.f m.a*p.f=m.b-fwd p.bl*p.f:=by
  have:py p.f m.b*p.f=py p.f m.a*p.f+fwd p.bl*p.f:=by rw[hpy,Int.add_mul]
  omega
 have hlt:=(aS hvd)
 refine⟨?_,hvd,p7,?_,p5,hat⟩
 ·have hepB:epB p.zs p.pa m.a m.b=true:=by simp only[epB,o.kd,hk,hb,decide_true,Bool.and_self]
  unfold at1R
  rw[hepB,cond_true]
  have e1:m.a.tmod p.f=px p.f m.a:=rfl
  have e2:m.b.tmod p.f=px p.f m.b:=rfl
  rw[e1,e2]
  have hla:=aS o.ha
  rw[aC (n:=m.a-px p.f m.a) (by omega) (by omega)]
  rw[show m.a-px p.f m.a+px p.f m.b=m.b-fwd p.bl*p.f by omega,aC (by omega) (by omega)]
 ·rw[a0]
  have ho:onB p.f p.r (px p.f m.b) (py p.f m.a)=true:=iH b1 b2 a3 a4
  obtain⟨v1,v2,v3⟩:=gP hv ho
  rw[hsq]at v1 v2 v3
  exact(gH hv ho v1).2 ⟨v2,v3⟩
theorem MvOk.cap(o:MvOk p m):capL p.f p.r p.zs p.pa m.a m.b=at2R p.f p.zs p.pa m.a m.b/\(0<=at2R p.f p.zs p.pa m.a m.b->at2R p.f p.zs p.pa m.a m.b<p.zs.length/\isP (p.zs.getD (at2R p.f p.zs p.pa m.a m.b).toNat 0) (!p.bl)=true/\at2R p.f p.zs p.pa m.a m.b≠m.a/\at2R p.f p.zs p.pa m.a m.b=at1R p.f p.zs p.pa m.a m.b) /\
  (at2R p.f p.zs p.pa m.a m.b<0->at2R p.f p.zs p.pa m.a m.b=-1/\capR p.f p.zs p.pa m.a m.b=0/\p.zs.getD m.b.toNat 0=0)/\(0<=at2R p.f p.zs p.pa m.a m.b->capR p.f p.zs p.pa m.a m.b≠0):=by
 have ⟨⟨sa0,sa1⟩,⟨sb0,sb1⟩⟩:=o.sq
 cases hep:(decide (cw (p.zs.getD m.a.toNat 0)=1)&&decide (m.b=p.pa)) with
 |true=>
  simp only[Bool.and_eq_true,decide_eq_true_eq]at hep
  obtain⟨e1,e2,e3,e4,e5,e6⟩:=o.ep hep.1 hep.2
  have hc:capR p.f p.zs p.pa m.a m.b=ofP 1 (!p.bl):=by unfold capR;rw[e1,e3]
  have hnz:ofP 1 (!p.bl)≠0:=by cases p.bl<;>decide
  have h2:at2R p.f p.zs p.pa m.a m.b=m.b-fwd p.bl*p.f:=by unfold at2R;rw[hc,decide_eq_false hnz,cond_false,e1]
  have hcl:capL p.f p.r p.zs p.pa m.a m.b=m.b-fwd p.bl*p.f:=by unfold capL;rw[decide_eq_true hep.1,decide_eq_true hep.2];exact e4
  have hlt:=(iX o.bd).1 e2
  refine⟨by rw[hcl,h2],fun _=>⟨by rw[h2];exact hlt.2,?_,?_,by rw[h2,e1]⟩,fun hh=>(by rw[h2]at hh;omega),fun _=>by rw[hc];exact hnz⟩
  ·rw[h2,e3];cases p.bl<;>decide
  ·rw[h2]
   intro he
   rw[he]at e3
   exact wV o.hp e3
 |false=>
  have hepB:epB p.zs p.pa m.a m.b=false:=by unfold epB;rw[o.kd];exact hep
  have h1:at1R p.f p.zs p.pa m.a m.b=m.b:=by unfold at1R;rw[hepB];rfl
  have hc:capR p.f p.zs p.pa m.a m.b=p.zs.getD m.b.toNat 0:=by unfold capR;rw[h1]
  unfold capL at2R
  rw[hep,hc,h1,cond_false]
  by_cases hz:p.zs.getD m.b.toNat 0=0
  ·simp only[decide_eq_true hz,Bool.not_true,cond_true,cond_false]
   exact⟨trivial,fun hh=>absurd hh (by decide),fun _=>⟨trivial,hz,hz⟩,fun hh=>absurd hh (by decide)⟩
  ·simp only[decide_eq_false hz,Bool.not_false,cond_true,cond_false]
   have h5:=Bc hz o.nto
   exact⟨trivial,fun _=>⟨sb1,h5,fun e=>o.hab e.symm,trivial⟩,fun hh=>absurd hh (by omega),fun _=>hz⟩
end
end
end Go.Ab
namespace Go.Ab
open Go.Proofs
section
theorem HL{f r:Int}{z:List Int}{bl:Bool}{K:Nat}(h:aO f r z=true)(hl:z.length<=64)(hK:K<z.length)(h1:z.getD K 0=kgP bl)(hu:∀ i:Nat,i<z.length->z.getD i 0=kgP bl->i=K):(bK f r z bl).2=0/\aG z bl=(K:Int):=by
 have hone:gr z (kgP bl)=[(K:Int)]:=lV (by simp only[iM,Int.toNat_natCast,h1,decide_true]) _ hK fun i hi hc=>hu i hi (by simpa[iM]using hc)
 have hrk:aG z bl=(K:Int):=by
  unfold aG
  rw[Ki,hone];rfl
 rcases gM (bl:=bl) h hl with⟨h2,_⟩|⟨h2,_,_⟩
 ·omega
 ·exact⟨by rw[h2],hrk⟩
theorem tY{f r:Int}{zs:List Int}{bl:Bool}(h:aO f r zs=true)(hl:zs.length<=64)(hk:(bK f r zs bl).2=0):∃ K:Nat,K<zs.length/\zs.getD K 0=kgP bl/\aG zs bl=(K:Int)/\∀ i:Nat,i<zs.length->zs.getD i 0=kgP bl->i=K:=by
 rcases yJ zs bl hl with⟨h1,_⟩|⟨h1,h2,h3,h4,h5,h6⟩
 ·unfold bK at hk;rw[h,h1]at hk;cases hk
 ·refine⟨(gh zs bl).toNat,by omega,h5,by omega,fun i hi he=>?_⟩
  have:=h6 i hi he
  omega
section
variable{p:Psn}{m:Mov}
end
end
end Go.Ab
namespace Go.Ab
open IntKind
open Go.Proofs
section
def by1(y:Int):Bool:=decide (y.toNat%2=1)
def by2(y:Int):Bool:=decide (y.toNat/2%2=1)
def by4(y:Int):Bool:=decide (y.toNat/4%2=1)
def sxX(f r y X Y:Int):Int:=bif by4 y then(bif by2 y then r-1-Y else Y) else(bif by1 y then f-1-X else X)
def sxY(f r y X Y:Int):Int:=bif by4 y then(bif by1 y then f-1-X else X) else(bif by2 y then r-1-Y else Y)
def Ml(f r y j:Nat):Bool:=match yrSq ⟨Int.ofNat f,Int.ofNat r⟩ (Int.ofNat y) (Int.ofNat j) with
 |some q=>decide (q.tmod (Int.ofNat f)=sxX (Int.ofNat f) (Int.ofNat r) (Int.ofNat y) (Int.ofNat (j%f)) (Int.ofNat (j/f)))&&decide (q.tdiv (Int.ofNat f)=sxY (Int.ofNat f) (Int.ofNat r) (Int.ofNat y) (Int.ofNat (j%f)) (Int.ofNat (j/f)))
 |none=>false
theorem NG:((List.range' 3 6).all fun f=>(List.range' 3 6).all fun r=>(List.range 8).all fun y=>(decide (4<=y)&&!decide (f=r))||(List.range (f*r)).all fun j=>Ml f r y j)=true:=by kernel_rfl
theorem zD{f r y:Int}(hv:vsB f r=true)(h0:0<=y)(h8:y<8)(hb:y<4\/f=r){j:Nat}(jn:(j:Int)<f*r) :
  px f (qv f r y j)=sxX f r y (px f j) (py f j)/\py f (qv f r y j)=sxY f r y (px f j) (py f j):=by
 obtain⟨hq,_⟩:=jX hv h0 h8 hb jn
 obtain⟨f1,f2,r1,r2⟩:=cY hv
 generalize hQ:qv f r y j=q at hq ⊢
 obtain⟨F,rfl⟩:∃ F:Nat,f=Int.ofNat F:=⟨f.toNat,by simp only[Int.ofNat_eq_natCast];omega⟩
 obtain⟨R,rfl⟩:∃ R:Nat,r=Int.ofNat R:=⟨r.toNat,by simp only[Int.ofNat_eq_natCast];omega⟩
 obtain⟨Y,rfl⟩:∃ Y:Nat,y=Int.ofNat Y:=⟨y.toNat,by simp only[Int.ofNat_eq_natCast];omega⟩
 simp only[Int.ofNat_eq_natCast]at f1 f2 r1 r2 h8 hb jn
 have h1:=List.all_eq_true.1 NG F (List.mem_range'_1.2 ⟨by omega,by omega⟩)
 have h2:=List.all_eq_true.1 h1 R (List.mem_range'_1.2 ⟨by omega,by omega⟩)
 have h3:=List.all_eq_true.1 h2 Y (List.mem_range.2 (by omega))
 rw[Bool.or_eq_true]at h3
 rcases h3 with h3|h3
 ·simp only[Bool.and_eq_true,decide_eq_true_eq,Bool.not_eq_true',decide_eq_false_iff_not]at h3
  omega
 ·have h4:=List.all_eq_true.1 h3 j (List.mem_range.2 (by have:((F*R:Nat):Int)=(F:Int)*(R:Int):=Int.natCast_mul F R;omega))
  unfold Ml at h4
  have hq':yrSq ⟨Int.ofNat F,Int.ofNat R⟩ (Int.ofNat Y) (Int.ofNat j)=some q:=hq
  rw[hq']at h4
  dsimp only at h4
  rw[Bool.and_eq_true,decide_eq_true_eq,decide_eq_true_eq]at h4
  have e1:px (Int.ofNat F) (j:Int)=Int.ofNat (j%F):=by
   show (j:Int).tmod (F:Int)=_
   rw[Int.tmod_eq_emod_of_nonneg (by omega)];rfl
  have e2:py (Int.ofNat F) (j:Int)=Int.ofNat (j/F):=by
   show (j:Int).tdiv (F:Int)=_
   rw[Int.tdiv_eq_ediv_of_nonneg (by omega)];rfl
  rw[e1,e2]
  exact h4
def sdX(y dx dy:Int):Int:=bif by4 y then(bif by2 y then -dy else dy) else(bif by1 y then -dx else dx)
def sdY(y dx dy:Int):Int:=bif by4 y then(bif by1 y then -dx else dx) else(bif by2 y then -dy else dy)
theorem fR(y:Int):∃ b1 b2 b4:Bool,(∀ dx dy,sdX y dx dy=bif b4 then(bif b2 then -dy else dy) else(bif b1 then -dx else dx))/\(∀ dx dy,sdY y dx dy=bif b4 then(bif b1 then -dx else dx) else(bif b2 then -dy else dy)):=⟨by1 y,by2 y,by4 y,fun _ _=>rfl,fun _ _=>rfl⟩
theorem KC{y df dr:Int}(h:unit df dr):unit (sdX y df dr) (sdY y df dr):=by
 obtain⟨b1,b2,b4,h1,h2⟩:=fR y
 rw[h1,h2]
 unfold unit at *
 cases b1<;>cases b2<;>cases b4<;>simp only[cond_true,cond_false]<;>omega
theorem IC(y:Int)(k:Int)(df dr:Int):sdX y (k*df) (k*dr)=k*sdX y df dr/\sdY y (k*df) (k*dr)=k*sdY y df dr:=by
 obtain⟨b1,b2,b4,h1,h2⟩:=fR y
 rw[h1,h2,h1,h2]
 cases b1<;>cases b2<;>cases b4<;>simp[Int.mul_neg]
theorem DU{y x z:Int}:onLine (sdX y x z) (sdY y x z)↔onLine x z:=by
 obtain⟨b1,b2,b4,h1,h2⟩:=fR y
 rw[h1,h2]
 unfold onLine
 cases b1<;>cases b2<;>cases b4<;>simp only[cond_true,cond_false]<;>omega
theorem sd_0{y x z:Int}:(sdX y x z=0\/sdY y x z=0)↔(x=0\/z=0):=by
 obtain⟨b1,b2,b4,h1,h2⟩:=fR y
 rw[h1,h2]
 cases b1<;>cases b2<;>cases b4<;>simp only[cond_true,cond_false]<;>omega
theorem Od(y x z:Int):i64.wrap (i64.wrap (sdX y x z*sdX y x z)+i64.wrap (sdY y x z*sdY y x z))=i64.wrap (i64.wrap (x*x)+i64.wrap (z*z)):=by
 obtain⟨b1,b2,b4,h1,h2⟩:=fR y
 rw[h1,h2]
 cases b1<;>cases b2<;>cases b4<;>simp only[cond_true,cond_false,Int.neg_mul_neg]<;>first|rfl|rw[Int.add_comm]
theorem Kk:∀ i j:_root_.Fin 15,gi (-((i.val:Int)-7)) ((j.val:Int)-7)=gi ((i.val:Int)-7) ((j.val:Int)-7)/\gi ((i.val:Int)-7) (-((j.val:Int)-7))=gi ((i.val:Int)-7) ((j.val:Int)-7)/\gi ((i.val:Int)-7) ((j.val:Int)-7)=gi ((j.val:Int)-7) ((i.val:Int)-7):=by decide +kernel
theorem qH{x z:Int}(hx:-7<=x/\x<=7)(hz:-7<=z/\z<=7):gi (-x) z=gi x z/\gi x (-z)=gi x z/\gi x z=gi z x:=by
 have:=Kk ⟨(x+7).toNat,by omega⟩ ⟨(z+7).toNat,by omega⟩
 have e1:(((⟨(x+7).toNat,by omega⟩:_root_.Fin 15).val:Int)-7)=x:=by show (((x+7).toNat:Nat):Int)-7=x;omega
 have e2:(((⟨(z+7).toNat,by omega⟩:_root_.Fin 15).val:Int)-7)=z:=by show (((z+7).toNat:Nat):Int)-7=z;omega
 rw[e1,e2]at this
 exact this
theorem JG{y x z:Int}(hx:-7<=x/\x<=7)(hz:-7<=z/\z<=7):gi (sdX y x z) (sdY y x z)=gi x z:=by
 obtain⟨b1,b2,b4,h1,h2⟩:=fR y
 rw[h1,h2]
 obtain⟨a1,a2,a3⟩:=qH hx hz
 obtain⟨c1,c2,_⟩:=qH hz hx
 obtain⟨d1,d2,_⟩:=qH (x:=-x) (z:=z) (by omega) hz
 obtain⟨e1,e2,_⟩:=qH (x:=-z) (z:=x) (by omega) hx
 cases b1<;>cases b2<;>cases b4<;>simp only[cond_true,cond_false]<;>first|rfl|(rw[a1];done)|(rw[a2];done)|(rw[d2,a1];done)|(rw[a3];done)|(rw[c1,<-a3];done)|(rw[c2,<-a3];done)|(rw[e2,c1,<-a3];done)
section
variable{f r y:Int}(hv:vsB f r=true)(h0:0<=y)(h8:y<8)(hb:y<4\/f=r)
include hv h0 h8 hb in
theorem rF{a b:Nat}(ha:(a:Int)<f*r)(hb2:(b:Int)<f*r):px f (qv f r y b)-px f (qv f r y a)=sdX y (px f b-px f a) (py f b-py f a)/\py f (qv f r y b)-py f (qv f r y a)=sdY y (px f b-px f a) (py f b-py f a):=by
 obtain⟨a1,a2⟩:=zD hv h0 h8 hb ha
 obtain⟨b1,b2⟩:=zD hv h0 h8 hb hb2
 rw[a1,a2,b1,b2]
 unfold sxX sxY sdX sdY
 generalize px f (a:Int)=xa
 generalize px f (b:Int)=xb
 generalize py f (a:Int)=ya
 generalize py f (b:Int)=yb
 cases by1 y<;>cases by2 y<;>cases by4 y<;>simp only[cond_true,cond_false]<;>constructor<;>first|omega|trivial
include hv h0 h8 hb in
theorem ec{a:Nat}(ha:(a:Int)<f*r):ak f r (qv f r y a)=true:=by
 obtain⟨_,h1,h2,_⟩:=jX hv h0 h8 hb ha
 exact ee hv h1 h2
include hv h0 h8 hb in
theorem HQ{a b c:Nat}(ha:(a:Int)<f*r)(hb2:(b:Int)<f*r)(hc:(c:Int)<f*r)(h:Btw f a b c):Btw f (qv f r y a) (qv f r y b) (qv f r y c):=by
 obtain⟨i,k,df,dr,u,i1,i2,i3,e1,e2,e3,e4⟩:=h
 obtain⟨d1,d2⟩:=rF hv h0 h8 hb ha hb2
 obtain⟨d3,d4⟩:=rF hv h0 h8 hb ha hc
 rw[show px f (b:Int)-px f (a:Int)=k*df by omega,show py f (b:Int)-py f (a:Int)=k*dr by omega]at d1 d2
 rw[show px f (c:Int)-px f (a:Int)=i*df by omega,show py f (c:Int)-py f (a:Int)=i*dr by omega]at d3 d4
 obtain⟨m1,m2⟩:=IC y k df dr
 obtain⟨m3,m4⟩:=IC y i df dr
 exact⟨i,k,sdX y df dr,sdY y df dr,KC u,i1,i2,i3,by omega,by omega,by omega,by omega⟩
end
end
end Go.Ab
namespace Go.Ab
open Go.Proofs
section
def Sl(z:Int):Prop:=3<=z.natAbs/\z.natAbs<=5
theorem sJ{f r:Int}{zs:List Int}{x K occ:Int}(hb:-6<=zs.getD x.toNat 0/\zs.getD x.toNat 0<=6)(hz:zs.getD x.toNat 0≠0) :
  gk f r zs x K occ=true↔gk f r zs x K 0=true/\(Sl (zs.getD x.toNat 0)->dG occ (bU f r x K)=true):=by
 unfold gk Sl
 rw[fQ hb]
 by_cases h1:(zs.getD x.toNat 0).natAbs=1
 ·rw[decide_eq_true (show ((zs.getD x.toNat 0).natAbs:Int)=1 by omega)]
  simp only[cond_true]
  exact⟨fun h=>⟨h,fun g=>absurd g.1 (by omega)⟩,fun h=>h.1⟩
 ·rw[decide_eq_false (show ¬ ((zs.getD x.toNat 0).natAbs:Int)=1 by omega)]
  simp only[cond_false,Bool.and_eq_true]
  by_cases h2:(zs.getD x.toNat 0).natAbs=2
  ·rw[h2,show bh f r ((2:Nat):Int) x K occ=bh f r ((2:Nat):Int) x K 0 from rfl]
   exact⟨fun h=>⟨h,fun g=>absurd g.1 (by omega)⟩,fun h=>h.1⟩
  ·by_cases h6:(zs.getD x.toNat 0).natAbs=6
   ·rw[h6,show bh f r ((6:Nat):Int) x K occ=bh f r ((6:Nat):Int) x K 0 from rfl]
    exact⟨fun h=>⟨h,fun g=>absurd g.2 (by omega)⟩,fun h=>h.1⟩
   ·obtain⟨r1,_⟩:=cU (f:=f) (r:=r) (x:=x) (K:=K) (occ:=occ) (kd:=((zs.getD x.toNat 0).natAbs:Int)) (by omega) (by omega)
    rw[r1,Bool.and_eq_true]
    constructor
    ·rintro⟨g1,g2,g3⟩;exact⟨⟨g1,g2⟩,fun _=>g3⟩
    ·rintro⟨⟨g1,g2⟩,g3⟩;exact⟨g1,g2,g3 ⟨by omega,by omega⟩⟩
theorem CY{f r:Int}{zs:List Int}{x K:Int}(h:aO f r zs=true)(hl:zs.length<=64)(hx:ak f r x=true):dG (occL zs) (bU f r x K)=true↔∀ y∈bU f r x K,zs.getD y.toNat 0=0:=by
 obtain⟨o1,o2⟩:=gC (aK h).2.2.1 hl
 rw[iA (aK h).2.2.1 hl,ei]
 refine forall_congr' fun y=>imp_congr_right fun hy=>?_
 have hyv:=(dI (b:=K) hx).2 y hy
 have hyl:=(cW h).1 hyv
 rw[gE o1 hyv,o2,decide_eq_true (show y.toNat<zs.length by omega),Bool.true_and]
 simp
theorem yC{f r:Int}{zs:List Int}{bl:Bool}{x K:Int}(h:aO f r zs=true)(hl:zs.length<=64) :
  x∈attL f r zs K (!bl)↔(0<=x/\x<zs.length/\isP (zs.getD x.toNat 0) (!bl)=true)/\gk f r zs x K 0=true/\(Sl (zs.getD x.toNat 0)->∀ y∈bU f r x K,zs.getD y.toNat 0=0):=by
 rw[eS]
 constructor
 ·rintro⟨a0,a1,a2,a3⟩
  have hx:=(cW h).2 ⟨a0,a1⟩
  obtain⟨b1,b2⟩:=(sJ (dZ h a0 a1) (iw a2)).1 a3
  exact⟨⟨a0,a1,a2⟩,b1,fun s=>(CY h hl hx).1 (b2 s)⟩
 ·rintro⟨⟨a0,a1,a2⟩,b1,b2⟩
  have hx:=(cW h).2 ⟨a0,a1⟩
  exact⟨a0,a1,a2,(sJ (dZ h a0 a1) (iw a2)).2 ⟨b1,fun s=>(CY h hl hx).2 (b2 s)⟩⟩
def onLB(dx dy:Int):Bool:=!(decide (dx=0)&&decide (dy=0))&&(decide (dx=0)||decide (dy=0)||decide (dx=dy)||decide (dx=-dy))
theorem rM{x y:Int}:onLB x y=true↔onLine x y:=by
 unfold onLB onLine
 simp only[Bool.and_eq_true,Bool.or_eq_true,Bool.not_eq_true',Bool.and_eq_false_iff,decide_eq_true_eq,decide_eq_false_iff_not]
 omega
def attV(z dx dy:Int):Bool:=bif decide (cw z=1)then decide (dy=fwd (decide (z<0)))&&(decide (dx=1)||decide (-dx=1))else !(decide (dx=0)&&decide (dy=0))&&(bif decide (cw z=2)then decide (IntKind.i64.wrap (IntKind.i64.wrap (dx*dx)+IntKind.i64.wrap (dy*dy))=5)else bif decide (cw z=6)then decide (gi dx dy=1)else onLB dx dy&&(decide (cw z=5)||((decide (dx=0)||decide (dy=0))==decide (cw z=4))))
theorem NU(l:List Int):dG 0 l=true:=ei.2 fun x _=>by rw[nV uk_0,bt_0,Bool.and_false]
theorem sR{f r:Int}{zs:List Int}{a b:Int}(ha:ak f r a=true)(hb:ak f r b=true):gk f r zs a b 0=attV (zs.getD a.toNat 0) (px f b-px f a) (py f b-py f a):=by
 obtain⟨w1,w2⟩:=fZ ha hb
 obtain⟨w3,_⟩:=fZ hb ha
 have hbl:=aS hb
 unfold gk attV
 cases hk:decide (cw (zs.getD a.toNat 0)=1) with
 |true=>
  simp only[cond_true]
  have:hasL b (cz (eL f (decide (zs.getD a.toNat 0<0)) a) id (f*r).toNat)=eL f (decide (zs.getD a.toNat 0<0)) a b:=by
   rw[Bool.eq_iff_iff,fX,bS]
   exact⟨fun h=>h.2.2,fun h=>⟨hbl.1,by omega,h⟩⟩
  rw[this]
  unfold eL
  rw[w1,w2,w3,show px f a-px f b=-(px f b-px f a) by omega]
 |false=>
  simp only[cond_false]
  have hab:decide (a=b)=(decide (px f b-px f a=0)&&decide (py f b-py f a=0)):=by
   rw[Bool.eq_iff_iff,Bool.and_eq_true,decide_eq_true_eq,decide_eq_true_eq,decide_eq_true_eq,gy ha hb]
   omega
  rw[hab]
  congr 1
  unfold bh
  rw[w1,w2,DD ha hb,NU,Bool.and_true]
  have hl:(bj f a b).2.2=onLB (px f b-px f a) (py f b-py f a):=by
   rw[Bool.eq_iff_iff,rM]
   rcases gF ha hb with⟨h1,h2⟩|⟨h1,h2⟩
   ·rw[h1];exact⟨fun e=>(by cases e),fun e=>absurd e h2⟩
   ·rw[h1];exact⟨fun _=>h2,fun _=>rfl⟩
  rw[hl]
theorem Bo{y z dx dy:Int}(hx:-7<=dx/\dx<=7)(hy:-7<=dy/\dy<=7)(hp:cw z=1->by2 y=false/\by4 y=false):attV z (sdX y dx dy) (sdY y dx dy)=attV z dx dy:=by
 unfold attV
 have hl:onLB (sdX y dx dy) (sdY y dx dy)=onLB dx dy:=by rw[Bool.eq_iff_iff,rM,rM];exact DU
 have h0:(decide (sdX y dx dy=0)||decide (sdY y dx dy=0))=(decide (dx=0)||decide (dy=0)):=by
  rw[Bool.eq_iff_iff];simp only[Bool.or_eq_true,decide_eq_true_eq];exact sd_0
 have h00:(decide (sdX y dx dy=0)&&decide (sdY y dx dy=0))=(decide (dx=0)&&decide (dy=0)):=by
  rw[Bool.eq_iff_iff];simp only[Bool.and_eq_true,decide_eq_true_eq]
  obtain⟨b1,b2,b4,h1,h2⟩:=fR y
  rw[h1,h2]
  cases b1<;>cases b2<;>cases b4<;>simp only[cond_true,cond_false]<;>omega
 cases hk:decide (cw z=1) with
 |false=>
  simp only[cond_false]
  rw[hl,h0,h00,Od,JG hx hy]
 |true=>
  simp only[cond_true]
  obtain⟨g2,g4⟩:=hp (of_decide_eq_true hk)
  have e2:sdY y dx dy=dy:=by unfold sdY;rw[g2,g4];rfl
  rw[e2]
  congr 1
  have e1:sdX y dx dy=dx\/sdX y dx dy=-dx:=by
   unfold sdX;rw[g4,cond_false]
   cases by1 y<;>simp
  rcases e1 with e|e
  ·rw[e]
  ·rw[e,Int.neg_neg,Bool.or_comm]
section
variable{f r y:Int}(hv:vsB f r=true)(h0:0<=y)(h8:y<8)(hb:y<4\/f=r){zs ws:List Int}
include hv h0 h8 hb in
theorem Gj(ho:aO f r zs=true)(hl:zs.length<=64)(ho2:aO f r ws=true)(hl2:ws.length<=64)(hw:∀ i:Nat,(i:Int)<f*r->ws.getD (qv f r y i).toNat 0=zs.getD i 0)(hp:∀ i:Nat,(i:Int)<f*r->cw (zs.getD i 0)=1->by2 y=false/\by4 y=false)
  {c:Bool} {K i:Nat} (hK:(K:Int)<f*r) (hi:(i:Int)<f*r) (h:qv f r y i∈attL f r ws (qv f r y K) (!c)):(i:Int)∈attL f r zs K (!c):=by
 have vi:=ee hv (Int.natCast_nonneg i) hi
 have vK:=ee hv (Int.natCast_nonneg K) hK
 have vqi:=ec hv h0 h8 hb hi
 have vqK:=ec hv h0 h8 hb hK
 obtain⟨⟨a0,a1,a2⟩,a3,a4⟩:=(yC ho2 hl2).1 h
 rw[hw i hi]at a2 a4
 have hlen:=(aK ho).2.1
 refine(yC ho hl).2 ⟨⟨Int.natCast_nonneg i,by omega,by rw[Int.toNat_natCast];exact a2⟩,?_,fun s y0 hy0=>?_⟩
 ·rw[sR vqi vqK,hw i hi]at a3
  rw[sR vi vK,Int.toNat_natCast]
  obtain⟨d1,d2⟩:=rF hv h0 h8 hb hi hK
  rw[d1,d2]at a3
  obtain⟨b1,b2⟩:=ny vi vK
  rw[Bo b1 b2 (hp i hi)]at a3
  exact a3
 ·rw[Int.toNat_natCast]at s
  have vy:=(dI (b:=(K:Int)) vi).2 y0 hy0
  have hyl:=aS vy
  obtain⟨l1,l2⟩:=(eV vi vK vy).1 hy0
  obtain⟨j,rfl⟩:∃ j:Nat,y0=(j:Int):=⟨y0.toNat,by omega⟩
  have hj:(j:Int)<f*r:=hyl.2.1
  have hbt:=HQ hv h0 h8 hb hi hK hj l2
  have hln:(bj f (qv f r y i) (qv f r y K)).2.2=true:=by
   obtain⟨d1,d2⟩:=rF hv h0 h8 hb hi hK
   rcases gF vqi vqK with⟨_,h2⟩|⟨h1,_⟩
   ·rcases gF vi vK with⟨h3,_⟩|⟨_,h4⟩
    ·rw[h3]at l1;cases l1
    ·rw[d1,d2]at h2
     exact absurd (DU.2 h4) h2
   ·rw[h1]
  have:=a4 s _ ((eV vqi vqK (ec hv h0 h8 hb hj)).2 ⟨hln,hbt⟩)
  rw[hw j hj]at this
  rw[Int.toNat_natCast];exact this
end
end
section
variable{p:Psn}{y:Int}(hv:vsB p.f p.r=true)(h0:0<=y)(h8:y<8)(hb:y<4\/p.f=p.r)(hn:(p.zs.length:Int)=p.f*p.r)
theorem ic(p:Psn)(y:Int):(mvZ p y).length=(p.f*p.r).toNat:=by simp[mvZ,vW]
include hv h0 h8 hb in
theorem uh{m:Nat}(hm:(m:Int)<p.f*p.r):(mvZ p y).getD m 0=p.zs.getD (qi p.f p.r y m) 0:=by
 obtain⟨q1,_⟩:=qW hv h0 h8 hb hm
 have h2:m<(p.f*p.r).toNat:=by omega
 unfold mvZ mvK
 simp only[List.getD,List.getElem?_map,List.getElem?_range h2,Option.map_some,Option.getD_some]
 rw[if_pos (by omega)]
include hv h0 h8 hb in
theorem nY{i:Nat}(hi:(i:Int)<p.f*p.r):(mvZ p y).getD (qv p.f p.r y i).toNat 0=p.zs.getD i 0:=by
 obtain⟨_,b2,b3,_⟩:=jX hv h0 h8 hb hi
 rw[uh hv h0 h8 hb (by omega),NF hv h0 h8 hb hi]
include hv h0 h8 hb hn in
theorem Fk{x:Int}(hx:x∈mvZ p y):x∈p.zs:=by
 obtain⟨m,hm,rfl⟩:=List.mem_iff_getElem.1 hx
 have hm2:(m:Int)<p.f*p.r:=by rw[ic]at hm;omega
 have:=uh hv h0 h8 hb hm2
 rw[show (mvZ p y).getD m 0=(mvZ p y)[m] by simp[List.getD,hm]]at this
 rw[this]
 obtain⟨q1,_⟩:=qW hv h0 h8 hb hm2
 exact fa (by omega)
include hv h0 h8 hb hn in
theorem qc(ho:aO p.f p.r p.zs=true):aO p.f p.r (mvZ p y)=true:=by
 have hlen:(mvZ p y).length=p.zs.length:=by rw[ic];omega
 unfold aO aL at *
 simp only[Bool.and_eq_true,Bool.not_eq_true',decide_eq_true_eq]at ho ⊢
 obtain⟨⟨⟨a1,a2⟩,a3⟩,a4⟩:=ho
 refine⟨⟨⟨a1,by rw[hlen];exact a2⟩,?_⟩,?_⟩
 ·rw[List.any_eq_false]at a3 ⊢
  exact fun x hx=>a3 x (Fk hv h0 h8 hb hn hx)
 ·rw[List.any_eq_false]at a4 ⊢
  exact fun x hx=>a4 x (Fk hv h0 h8 hb hn hx)
include hv h0 h8 hb hn in
theorem xn(ho:aO p.f p.r p.zs=true)(hl:p.zs.length<=64){c:Bool}{K:Nat}(hK:K<p.zs.length)(h1:p.zs.getD K 0=kgP c)(hu:∀ i:Nat,i<p.zs.length->p.zs.getD i 0=kgP c->i=K) :
  (bK p.f p.r (mvZ p y) c).2=0/\aG (mvZ p y) c=qv p.f p.r y K:=by
 have hlen:(mvZ p y).length=p.zs.length:=by rw[ic];omega
 obtain⟨_,b2,b3,_⟩:=jX hv h0 h8 hb (j:=K) (by omega)
 have:=HL (bl:=c) (K:=(qv p.f p.r y K).toNat) (qc hv h0 h8 hb hn ho) (by rw[hlen];exact hl) (by rw[hlen];omega) (by rw[nY hv h0 h8 hb (by omega),h1]) (fun i hi he=>by
  rw[hlen]at hi
  rw[uh hv h0 h8 hb (by omega)]at he
  obtain⟨q1,q2⟩:=qW hv h0 h8 hb (m:=i) (by omega)
  have:=hu (qi p.f p.r y i) (by omega) he
  rw[this]at q2
  omega)
 exact⟨this.1,by rw[this.2];omega⟩
include hv h0 h8 hb hn in
theorem Ba(ho:aO p.f p.r p.zs=true)(hl:p.zs.length<=64)(hk:eJ p.f p.r p.zs p.bl=true)(hp:∀ i:Nat,(i:Int)<p.f*p.r->cw (p.zs.getD i 0)=1->by2 y=false/\by4 y=false):eJ p.f p.r (mvZ p y) p.bl=true:=by
 have hlen:(mvZ p y).length=p.zs.length:=by rw[ic];omega
 have ho2:=qc hv h0 h8 hb hn ho
 have hl2:(mvZ p y).length<=64:=by rw[hlen];exact hl
 unfold eJ at hk ⊢
 simp only[Bool.and_eq_true,decide_eq_true_eq]at hk
 obtain⟨⟨k1,k2⟩,k3⟩:=hk
 have k4:(bK p.f p.r p.zs (!p.bl)).2=0:=by
  unfold bH at k2
  cases h:decide ((bK p.f p.r p.zs (!p.bl)).2=0) with
  |true=>exact of_decide_eq_true h
  |false=>rw[h]at k2;exact k2
 obtain⟨K1,a1,a2,a3,a4⟩:=tY ho hl k1
 obtain⟨K2,b1,b2,b3,b4⟩:=tY ho hl k4
 obtain⟨m1,_⟩:=xn hv h0 h8 hb hn ho hl a1 a2 a4
 obtain⟨m3,m4⟩:=xn hv h0 h8 hb hn ho hl b1 b2 b4
 have g1:bK p.f p.r (mvZ p y) (!p.bl)=(qv p.f p.r y K2,0):=by
  rcases gM (bl:=!p.bl) ho2 hl2 with⟨_,g⟩|⟨g,_⟩
  ·rw[g]at m3;cases m3
  ·rw[g,m4]
 have g2:bK p.f p.r p.zs (!p.bl)=((K2:Int),0):=by
  rcases gM (bl:=!p.bl) ho hl with⟨_,g⟩|⟨g,_⟩
  ·rw[g]at k4;cases k4
  ·rw[g,b3]
 have hK2:(K2:Int)<p.f*p.r:=by omega
 have vK:=ee hv (Int.natCast_nonneg K2) hK2
 have vq:=ec hv h0 h8 hb hK2
 have hatt:attR p.f p.r p.zs K2 (!(!p.bl))=0:=by
  unfold bH at k3
  rw[g2]at k3
  exact k3
 have hatt2:attR p.f p.r (mvZ p y) (qv p.f p.r y K2) (!(!p.bl))=0:=by
  obtain⟨u1,u2⟩:=nB (bl:=!(!p.bl)) ho hl vK
  obtain⟨w1,w2⟩:=nB (bl:=!(!p.bl)) ho2 hl2 vq
  refine(nP w1).2 fun m hm=>?_
  rw[w2]
  refine decide_eq_false fun hx=>?_
  have hx2:=eS.1 hx
  have hm2:(m:Int)<p.f*p.r:=by have:=hx2.2.1;omega
  obtain⟨q1,q2⟩:=qW hv h0 h8 hb hm2
  rw[<-q2]at hx
  have:=Gj hv h0 h8 hb ho hl ho2 hl2 (fun i hi=>nY hv h0 h8 hb hi) hp hK2 q1 hx
  have h3:=u2 (qi p.f p.r y m)
  rw[hatt,bt_0,decide_eq_true this]at h3
  cases h3
 simp only[Bool.and_eq_true,decide_eq_true_eq]
 refine⟨⟨m1,?_⟩,?_⟩
 ·unfold bH;rw[g1];rfl
 ·unfold bH;rw[g1];exact hatt2
end
end Go.Ab
namespace Go.Ab
open IntKind
open Go.Proofs
section
theorem sN{zs:List Int}{p:Int->Bool}{k:Nat}:(zs.take k).any p=true↔∃ i,i<k/\i<zs.length/\p (zs.getD i 0)=true:=by
 rw[List.any_eq_true]
 constructor
 ·rintro⟨x,hx,hp⟩
  obtain⟨i,hi,rfl⟩:=List.mem_take_iff_getElem.1 hx
  have h1:i<zs.length:=by omega
  exact⟨i,by omega,h1,by simpa[List.getD,h1]using hp⟩
 ·rintro⟨i,h1,h2,h3⟩
  exact⟨zs[i],List.mem_take_iff_getElem.2 ⟨i,by omega,rfl⟩,by simpa[List.getD,h2]using h3⟩
theorem JS{z:Int}(h:-6<=z/\z<=6)(hk:cw z=1):isPw z=true:=by
 rw[fQ h]at hk
 have:z=1\/z=-1:=by omega
 rcases this with rfl|rfl<;>rfl
section
variable{p:Psn}{y:Int}(hv:vsB p.f p.r=true)(h0:0<=y)(h8:y<8)(hb:y<4\/p.f=p.r)(hn:(p.zs.length:Int)=p.f*p.r)
include hv h0 h8 hb in
theorem Bz(h2:by2 y=false)(h4:by4 y=false){i:Nat}(hi:(i:Int)<p.f*p.r):py p.f (qv p.f p.r y i)=py p.f i:=by
 rw[(zD hv h0 h8 hb hi).2]
 unfold sxY
 rw[h2,h4];rfl
include hv h0 h8 hb hn in
theorem Dc(hB:(∀ x∈p.zs,isPw x=false)\/(by2 y=false/\by4 y=false))(h:fC p.f p.zs=true):fC p.f (mvZ p y)=true:=by
 have hlen:(mvZ p y).length=p.zs.length:=by rw[ic];omega
 have hvb:=cY hv
 unfold fC at h ⊢
 simp only[Bool.and_eq_true,Bool.not_eq_true']at h ⊢
 obtain⟨h1,h2⟩:=h
 have row:∀ i:Nat,(i:Int)<p.f*p.r->ak p.f p.r i=true:=fun i hi=>ee hv (Int.natCast_nonneg i) hi
 have e1:(p.r-1)*p.f=p.f*p.r-p.f:=by rw[Int.sub_mul,Int.mul_comm p.r p.f];omega
 constructor
 ·cases hc:((mvZ p y).drop ((mvZ p y).length-p.f.toNat)).any (isV 1) with
  |false=>rfl
  |true=>
   exfalso
   obtain⟨i,i1,i2,i3⟩:=gN.1 hc
   have hi:(i:Int)<p.f*p.r:=by omega
   have hq:(mvZ p y).getD i 0=p.zs.getD (qi p.f p.r y i) 0:=uh hv h0 h8 hb hi
   obtain⟨q1,q2⟩:=qW hv h0 h8 hb hi
   have i3:1=(mvZ p y).getD i 0:=of_decide_eq_true i3
   rcases hB with hB|⟨g2,g4⟩
   ·have:=hB _ (fa (zs:=p.zs) (i:=qi p.f p.r y i) (by omega))
    rw[<-hq,<-i3]at this
    cases this
   ·have hr:=Bz hv h0 h8 hb g2 g4 q1
    rw[q2]at hr
    obtain⟨a0,a1,a2,a3,_⟩:=cO (row i hi)
    have ae:=iQ (row i hi)
    obtain⟨b0,b1,b2,b3,_⟩:=cO (row _ q1)
    have be:=iQ (row _ q1)
    have hy:py p.f (i:Int)=p.r-1:=by
     refine Classical.byContradiction fun hne=>?_
     have hle:py p.f (i:Int)*p.f<=(p.r-2)*p.f:=Int.mul_le_mul_of_nonneg_right (by omega) (by omega)
     have e2:(p.r-2)*p.f=p.f*p.r-2*p.f:=by rw[Int.sub_mul,Int.mul_comm p.r p.f]
     rw[hlen]at i1
     omega
    rw[<-hr,hy,e1]at be
    have:(p.zs.drop (p.zs.length-p.f.toNat)).any (isV 1)=true:=gN.2 ⟨qi p.f p.r y i,by omega,by omega,decide_eq_true (by rw[<-hq];exact i3)⟩
    rw[h1]at this;cases this
 ·cases hc:((mvZ p y).take p.f.toNat).any (isV (-1)) with
  |false=>rfl
  |true=>
   exfalso
   obtain⟨i,i1,i2,i3⟩:=sN.1 hc
   have hi:(i:Int)<p.f*p.r:=by omega
   have hq:(mvZ p y).getD i 0=p.zs.getD (qi p.f p.r y i) 0:=uh hv h0 h8 hb hi
   obtain⟨q1,q2⟩:=qW hv h0 h8 hb hi
   have i3:-1=(mvZ p y).getD i 0:=of_decide_eq_true i3
   rcases hB with hB|⟨g2,g4⟩
   ·have:=hB _ (fa (zs:=p.zs) (i:=qi p.f p.r y i) (by omega))
    rw[<-hq,<-i3]at this
    cases this
   ·have hr:=Bz hv h0 h8 hb g2 g4 q1
    rw[q2]at hr
    obtain⟨a0,a1,a2,a3,_⟩:=cO (row i hi)
    have ae:=iQ (row i hi)
    obtain⟨b0,b1,b2,b3,_⟩:=cO (row _ q1)
    have be:=iQ (row _ q1)
    have hy:py p.f (i:Int)=0:=by
     refine Classical.byContradiction fun hne=>?_
     have hle:1*p.f<=py p.f (i:Int)*p.f:=Int.mul_le_mul_of_nonneg_right (by omega) (by omega)
     omega
    rw[<-hr,hy,Int.zero_mul]at be
    have:(p.zs.take p.f.toNat).any (isV (-1))=true:=sN.2 ⟨qi p.f p.r y i,by omega,by omega,decide_eq_true (by rw[<-hq];exact i3)⟩
    rw[h2]at this;cases this
include hv h0 h8 hb in
theorem Oy(g2:by2 y=false)(g4:by4 y=false){pa s:Int}(hpa:ak p.f p.r pa=true)(h1:0<=py p.f pa+s)(h2:py p.f pa+s<p.r):ak p.f p.r (pa+s*p.f)=true/\qv p.f p.r y (pa+s*p.f).toNat=qv p.f p.r y pa.toNat+s*p.f:=by
 obtain⟨a0,a1,a2,a3,_⟩:=cO hpa
 have ae:=iQ hpa
 have hal:=aS hpa
 obtain⟨v1,v2,v3⟩:=gP hv (iH (x:=px p.f pa) (y:=py p.f pa+s) a0 a1 h1 h2)
 have e:px p.f pa+(py p.f pa+s)*p.f=pa+s*p.f:=by rw[Int.add_mul];omega
 rw[e]at v1 v2 v3
 have hl1:=aS v1
 refine⟨v1,?_⟩
 have c1:((pa.toNat:Nat):Int)=pa:=by omega
 have c2:(((pa+s*p.f).toNat:Nat):Int)=pa+s*p.f:=by omega
 have hA:((pa.toNat:Nat):Int)<p.f*p.r:=by omega
 have hB:(((pa+s*p.f).toNat:Nat):Int)<p.f*p.r:=by omega
 obtain⟨x1,y1⟩:=zD hv h0 h8 hb hA
 obtain⟨x2,y2⟩:=zD hv h0 h8 hb hB
 have w1:=iQ (ec hv h0 h8 hb hA)
 have w2:=iQ (ec hv h0 h8 hb hB)
 rw[c1]at x1 y1
 rw[c2,v2,v3]at x2 y2
 have ex:sxX p.f p.r y (px p.f pa) (py p.f pa+s)=sxX p.f p.r y (px p.f pa) (py p.f pa):=by unfold sxX;rw[g4];rfl
 have ey:sxY p.f p.r y (px p.f pa) (py p.f pa+s)=py p.f pa+s:=by unfold sxY;rw[g2,g4];rfl
 have ey0:sxY p.f p.r y (px p.f pa) (py p.f pa)=py p.f pa:=by unfold sxY;rw[g2,g4];rfl
 rw[x2,y2,ex,ey,Int.add_mul]at w2
 rw[x1,y1,ey0]at w1
 omega
include hv h0 h8 hb hn in
theorem Hh(_hl:p.zs.length<=64)(hB:(∀ x∈p.zs,isPw x=false)\/(by2 y=false/\by4 y=false))(h:fo p.f p.r p.zs p.bl p.pa p.ha=true):fo p.f p.r (mvZ p y) p.bl (mvP p y).pa p.ha=true:=by
 have hvb:=cY hv
 unfold fo at h
 rw[Bool.or_eq_true]at h
 rcases h with h|h
 ·have h:=of_decide_eq_true h
  have:(mvP p y).pa=-1:=by unfold mvP;dsimp only;rw[h];rfl
  rw[this];rfl
 ·simp only[Bool.and_eq_true,decide_eq_true_eq]at h
  obtain⟨⟨⟨⟨⟨⟨a1,a2⟩,a3⟩,a4⟩,a5⟩,a6⟩,a7⟩:=h
  have hal:=aS a3
  have hU:upP p.f p.bl=p.f\/upP p.f p.bl=-p.f:=by
   unfold upP
   cases p.bl with
   |true=>left;rfl
   |false=>right;rw[cond_false,aC (by omega) (by omega)];omega
  rcases hB with hB|⟨g2,g4⟩
  ·exfalso
   have hx:p.zs.getD (i64.wrap (p.pa+upP p.f p.bl)).toNat 0∈p.zs:=by
    by_cases hlt:(i64.wrap (p.pa+upP p.f p.bl)).toNat<p.zs.length
    ·exact fa hlt
    ·exfalso
     have hz:p.zs.getD (i64.wrap (p.pa+upP p.f p.bl)).toNat 0=0:=by
      rw[List.getD,List.getElem?_eq_none (by omega)];rfl
     have hne:ofP 1 (!p.bl)≠0:=by cases p.bl<;>decide
     rw[hz]at a7
     exact hne a7.symm
   have:=hB _ hx
   rw[a7]at this
   cases h:p.bl<;>rw[h]at this<;>cases this
  ·obtain⟨b0,b1,b2,b3,b4,_⟩:=cO a3
   have c1:((p.pa.toNat:Nat):Int)=p.pa:=by omega
   have hA:((p.pa.toNat:Nat):Int)<p.f*p.r:=by omega
   have hpa:(mvP p y).pa=qv p.f p.r y p.pa.toNat:=by
    obtain⟨e1,_⟩:=jX hv h0 h8 hb hA
    rw[c1]at e1
    unfold mvP
    dsimp only
    rw[decide_eq_true hal.1,e1];rfl
   have hY:py p.f p.pa=2\/py p.f p.pa=p.r-3:=by
    have:i64.wrap (py p.f p.pa)=rkP p.r p.bl:=a4
    rw[b4]at this
    unfold rkP at this
    cases hbl:p.bl with
    |true=>rw[hbl]at this;left;exact this
    |false=>rw[hbl,cond_false,aC (by omega) (by omega)]at this;right;exact this
   have vq:=ec hv h0 h8 hb hA
   have hql:=aS vq
   have hrow:=Bz hv h0 h8 hb g2 g4 hA
   rw[c1]at hrow
   have get:∀ s:Int,s=1\/s=-1->(mvZ p y).getD (i64.wrap (qv p.f p.r y p.pa.toNat+s*p.f)).toNat 0=p.zs.getD (i64.wrap (p.pa+s*p.f)).toNat 0:=by
    intro s hs
    obtain⟨v1,v2⟩:=Oy hv h0 h8 hb g2 g4 a3 (s:=s) (by omega) (by omega)
    have hvl:=aS v1
    have hvq:=ec hv h0 h8 hb (a:=(p.pa+s*p.f).toNat) (by omega)
    rw[v2]at hvq
    have hvql:=aS hvq
    rw[aC (by omega) (by omega),aC (by omega) (by omega),<-v2]
    exact nY hv h0 h8 hb (by omega)
   have gp:(mvZ p y).getD (i64.wrap (qv p.f p.r y p.pa.toNat+upP p.f p.bl)).toNat 0=p.zs.getD (i64.wrap (p.pa+upP p.f p.bl)).toNat 0:=by
    rcases hU with e|e
    ·have:=get 1 (.inl rfl);rw[Int.one_mul]at this;rw[e];exact this
    ·have:=get (-1) (.inr rfl);rw[Int.neg_one_mul]at this;rw[e];exact this
   have gm:(mvZ p y).getD (i64.wrap (qv p.f p.r y p.pa.toNat-upP p.f p.bl)).toNat 0=p.zs.getD (i64.wrap (p.pa-upP p.f p.bl)).toNat 0:=by
    rcases hU with e|e
    ·have:=get (-1) (.inr rfl);rw[Int.neg_one_mul]at this;rw[e,Int.sub_eq_add_neg,Int.sub_eq_add_neg];exact this
    ·have:=get 1 (.inl rfl);rw[Int.one_mul]at this;rw[e,Int.sub_neg,Int.sub_neg];exact this
   unfold fo
   rw[hpa,gp,gm,a6,a7,nY hv h0 h8 hb hA,a5,vq,decide_eq_true a1,decide_eq_true a2]
   rw[show (qv p.f p.r y p.pa.toNat).tdiv p.f=p.pa.tdiv p.f from hrow,a4]
   simp
end
end
end Go.Ab
namespace Go.Proofs
open Go.Shelf Go.RowKit Go.Sort Go.Lib
variable{P:Program}{ρ:Go.Shelf.Ren}
set_option maxHeartbeats 6400000
set_option maxRecDepth 100000
theorem it_numDigits(L:LaysM.n284 P ρ)(u:Nat)(h1:1<=u)(h2:u<18446744073709551616)(w:World)
  (htab:∀ q,q<20->w.cell? ⟨(ρ.g 17),q,none⟩=some (.int .u64 ((10^q:Nat):Int))) :
  Calls P (ρ.f 284) #[.int .u64 u] w fun e w'=>e=.returned (.int .i64 (Lib.nDigits u))/\w'=w:=by
 have mixed:=L.mixed
 have t53:=L.t53;have a53:=L.a53;have z53:=L.z53;have v53:=L.v53
 have t3:=L.t3;have a3:=L.a3;have z3:=L.z3;have v3:=L.v3
 have t212:=L.t212;have a212:=L.a212;have z212:=L.z212;have v212:=L.v212
 have t0:=L.t0;have a0:=L.a0;have z0:=L.z0;have v0:=L.v0
 have t4:=L.t4;have a4:=L.a4;have z4:=L.z4;have v4:=L.v4
 have e129:∀ args w,(callFunc (ρ.f 129) args).run P w=.ok (.enter (ρ.f 129) args) w:=enters_of L.f129 (by kernel_rfl) rfl
 have e317:∀ args w,(callFunc (ρ.f 317) args).run P w=.ok (.enter (ρ.f 317) args) w:=enters_of L.f317 (by kernel_rfl) rfl
 have e318:∀ args w,(callFunc (ρ.f 318) args).run P w=.ok (.enter (ρ.f 318) args) w:=enters_of L.f318 (by kernel_rfl) rfl
 obtain⟨hnd,h19⟩:=Lib.numDigits_eq u h1 h2
 have hL:Lib.bitLen u<=64:=Lib.bitLen_le u 64 (Nat.le_refl _) h2
 have hcell:w.cell? ⟨(ρ.g 17),Lib.l10 (Lib.bitLen u),none⟩=some (.int .u64 ((10^Lib.l10 (Lib.bitLen u):Nat):Int)):=htab _ (by omega)
 have hto:((u:Int)).toNat=u:=by omega
 -- the two numbers under names (the equations stay: by them the walk writes the names in)
 generalize hq:Lib.l10 (Lib.bitLen u)=q at hnd h19 hcell
 generalize hT:10^q=T at hnd hcell
 have h20:q<20:=by omega
 have Hnd:=Lib.hid hnd
 clear hnd htab
 go_enter L.f284,Body.n284_ntmps ρ
 go_wp2_with (first
  | (go_at_fn (ρ.f 129);refine(Any.bits_Len64 { L with } _ _ (by omega) (by omega)).mono ?_;rintro e w' ⟨rfl,rfl⟩)
  | (go_at_fn (ρ.f 317);refine(Any.internal_strconv_log10Pow2 { L with } _ (by first|exact hL|(rw[hto];exact hL)) _).mono ?_;rintro e w' ⟨rfl,rfl⟩)
  | (go_at_fn (ρ.f 318);refine(Any.internal_strconv_bool2_int { L with } _ _).mono ?_;rintro e w' ⟨rfl,rfl⟩))
 all_goals go_ret
 all_goals (
  refine⟨?_,rfl⟩
  have hnd:=Hnd.out
  congr 2
  split at hnd<;>simp_all<;>omega)
theorem it_FormatInt(L:LaysM.n246 P ρ)(n:Int)(h0:100<=n)(h1:n<=9223372036854775807)(w:World)
  (htab:∀ q,q<20->w.cell? ⟨(ρ.g 17),q,none⟩=some (.int .u64 ((10^q:Nat):Int))) :
  Calls P (ρ.f 246) #[.int .i64 n,.int .i64 10] w fun e w'=>e=.returned (.string ⟨(Lib.itoa n).toArray⟩)/\∃ k os,w'=grow (w.drewN k) os:=by
 have mixed:=L.mixed
 have t2:=L.t2;have a2:=L.a2;have z2:=L.z2;have v2:=L.v2
 have t3:=L.t3;have a3:=L.a3;have z3:=L.z3;have v3:=L.v3
 have t9:=L.t9;have a9:=L.a9;have z9:=L.z9;have v9:=L.v9
 have t4:=L.t4;have a4:=L.a4;have z4:=L.z4;have v4:=L.v4
 have t171:=L.t171;have a171:=L.a171;have z171:=L.z171;have v171:=L.v171
 have t0:=L.t0;have a0:=L.a0;have z0:=L.z0;have v0:=L.v0
 have t53:=L.t53;have a53:=L.a53;have z53:=L.z53;have v53:=L.v53
 have t37:=L.t37;have a37:=L.a37;have z37:=L.z37;have v37:=L.v37
 have t5:=L.t5;have a5:=L.a5;have z5:=L.z5;have v5:=L.v5
 have t173:=L.t173;have a173:=L.a173;have z173:=L.z173;have v173:=L.v173
 have e284:∀ args w,(callFunc (ρ.f 284) args).run P w=.ok (.enter (ρ.f 284) args) w:=enters_of L.f284 (by kernel_rfl) rfl
 have e285:∀ args w,(callFunc (ρ.f 285) args).run P w=.ok (.enter (ρ.f 285) args) w:=enters_of L.f285 (by kernel_rfl) rfl
 obtain⟨u,rfl⟩:∃ u:Nat,n=u:=⟨n.toNat,by omega⟩
 have hu1:1<=u:=by omega
 have hu64:u<18446744073709551616:=by omega
 have hnd20:Lib.nDigits u<=20:=by have:=Lib.numDigits_eq u hu1 hu64;split at this<;>omega
 have hb3:Lib.nDigits u<=23:=by omega
 have hal:P.arrayLen (ρ.t 171)=24:=by simp[Program.arrayLen,L.t171]
 -- 'a[1:1+nd]',for the walk to take
 have hsl1:∀ W,(Instr.sliceAt (ρ.t 171) (.pointer (some ⟨w.heap.size,0,none⟩)) (some (.int .i64 1)) (some (.int .i64 (1+(Lib.nDigits u:Int)))) none).run P W=.ok (.slice (some ⟨w.heap.size,1,none⟩) (Lib.nDigits u) 23) W:=fun W=>by
  rw[run_sliceAt_array_lh W (ρ.t 171) ⟨w.heap.size,0,none⟩ (by simp[Program.arrayLen,Program.elem,L.t171]) .i64 .i64 1 (1+(Lib.nDigits u:Int)) (by omega) (by omega) (by rw[hal];omega)]
  go_simp
  omega
 -- formatBase10's contract at the new block's row of zeros
 have hH0:=Lib.holds_zero w (ρ.t 171) (Lib.nDigits u) (by omega)
 have hfmt:=Any.internal_strconv_formatBase10 { L with } w.heap.size 1 23 u (Array.replicate (Lib.nDigits u) 0) (w.alloc (.cells Lib.zeros24 (ρ.t 171))) hH0 (by rw[Array.size_replicate];exact Lib.lt_pow_nDigits u) hu64 (by rw[Array.size_replicate];omega)
 rw[Array.size_replicate]at hfmt
 have HH0:=Lib.hid hH0
 clear hH0 hal
 go_enter L.f246,Body.n246_ntmps ρ
 go_wp2_with (first
  | (go_at_fn (ρ.f 284);refine(it_numDigits { L with } u hu1 hu64 _ (fun q hq=>(World.cell?_alloc_some w _ _ (by rw[htab q hq];rfl)).trans (htab q hq))).mono ?_;rintro e w' ⟨rfl,rfl⟩))
 go_at_fn (ρ.f 285)
 refine hfmt.mono ?_
 rintro e w' ⟨rfl,k,v',dk,rfl,hF⟩
 -- 'string(a[1:1+nd])',for the walk to take: the row reads as the numeral
 have hcv:(convert (ρ.t 37) (ρ.t 9) (.slice (some ⟨w.heap.size,1,none⟩) (Lib.nDigits u) 23)).run P ((putRow (fun(b:UInt8)=>Value.int .u8 (b.toNat:Int)) (w.alloc (.cells Lib.zeros24 (ρ.t 171))) w.heap.size 1 dk).drewN k)=.ok (.string ⟨(Lib.decDigits u).toArray⟩) ((putRow (fun(b:UInt8)=>Value.int .u8 (b.toNat:Int)) (w.alloc (.cells Lib.zeros24 (ρ.t 171))) w.heap.size 1 dk).drewN k):=by
  have h:=run_convert_bytes_back (P:=P) ((putRow (fun(b:UInt8)=>Value.int .u8 (b.toNat:Int)) (w.alloc (.cells Lib.zeros24 (ρ.t 171))) w.heap.size 1 dk).drewN k) (ρ.t 37) (ρ.t 9) (ρ.t 5) ⟨w.heap.size,1,none⟩ 23 (Lib.decDigits u) L.t37 L.t5 L.t9 (fun j hj=>by
   rw[Lib.row_is_numeral hF j hj,Lib.add_plain,World.cell?_drewN]
   exact cell?_putRow (fun(b:UInt8)=>Value.int .u8 (b.toNat:Int)) _ w.heap.size 1 _ dk HH0.out (by rw[hF.size,Array.size_replicate]) j (by rw[hF.size];rw[Lib.decDigits_length]at hj;exact hj))
  rw[Lib.decDigits_length]at h
  exact h
 go_wp2
 go_ret
 obtain⟨os,eo⟩:=Lib.fin_pos w (.cells Lib.zeros24 (ρ.t 171)) dk k
 refine⟨?_,k,os,eo⟩
 rw[Lib.itoa_nonneg]
 rfl
theorem it_Itoa(L:LaysM.n243 P ρ)(n:Int)(h0:100<=n)(h1:n<=9223372036854775807)(w:World)
  (htab:∀ q,q<20->w.cell? ⟨(ρ.g 17),q,none⟩=some (.int .u64 ((10^q:Nat):Int))) :
  Calls P (ρ.f 243) #[.int .i64 n] w fun e w'=>e=.returned (.string ⟨(Lib.itoa n).toArray⟩)/\∃ k os,w'=grow (w.drewN k) os:=by
 have mixed:=L.mixed
 have t3:=L.t3;have a3:=L.a3;have z3:=L.z3;have v3:=L.v3
 have t9:=L.t9;have a9:=L.a9;have z9:=L.z9;have v9:=L.v9
 have t2:=L.t2;have a2:=L.a2;have z2:=L.z2;have v2:=L.v2
 have e246:∀ args w,(callFunc (ρ.f 246) args).run P w=.ok (.enter (ρ.f 246) args) w:=enters_of L.f246 (by kernel_rfl) rfl
 go_enter L.f243,Body.n243_ntmps ρ
 go_wp2_with (go_at_fn (ρ.f 246);refine(it_FormatInt { L with } n h0 h1 _ htab).mono ?_;rintro e w' ⟨rfl,k,os,rfl⟩)
 go_ret
 exact⟨rfl,k,os,rfl⟩
theorem it_SItoa(L:LaysM.n171 P ρ)(n:Int)(h0:100<=n)(h1:n<=9223372036854775807)(w:World)
  (htab:∀ q,q<20->w.cell? ⟨(ρ.g 17),q,none⟩=some (.int .u64 ((10^q:Nat):Int))) :
  Calls P (ρ.f 171) #[.int .i64 n] w fun e w'=>e=.returned (.string ⟨(Lib.itoa n).toArray⟩)/\∃ k os,w'=grow (w.drewN k) os:=by
 have mixed:=L.mixed
 have t3:=L.t3;have a3:=L.a3;have z3:=L.z3;have v3:=L.v3
 have t9:=L.t9;have a9:=L.a9;have z9:=L.z9;have v9:=L.v9
 have e243:∀ args w,(callFunc (ρ.f 243) args).run P w=.ok (.enter (ρ.f 243) args) w:=enters_of L.f243 (by kernel_rfl) rfl
 go_enter L.f171,Body.n171_ntmps ρ
 go_wp2_with (go_at_fn (ρ.f 243);refine(it_Itoa { L with } n h0 h1 _ htab).mono ?_;rintro e w' ⟨rfl,k,os,rfl⟩)
 go_ret
 exact⟨rfl,k,os,rfl⟩
end Go.Proofs
namespace Go.Ab
open Go.Proofs Go.Shelf
def iz:Go.Shelf.Ren:=⟨fun|156=>165|165=>196|166=>197|169=>198|240=>216|241=>217|276=>230|277=>231|n=>n,fun|31=>133|9=>9|3=>3|4=>4|0=>0|20=>20|72=>237|76=>241|70=>235|37=>150|75=>240|127=>271|164=>281|5=>5|80=>243|n=>n,fun|n=>n⟩
theorem pA:Go.Proofs.Lays.n156 Tryz.prog iz:={
 mixed:=by kernel_rfl
 f156:=Tryz.func165.trans (congrArg some (by kernel_rfl))
 f165:=Tryz.func196.trans (congrArg some (by kernel_rfl))
 f166:=Tryz.func197.trans (congrArg some (by kernel_rfl))
 f169:=Tryz.func198.trans (congrArg some (by kernel_rfl))
 f240:=Tryz.func216.trans (congrArg some (by kernel_rfl))
 f241:=Tryz.func217.trans (congrArg some (by kernel_rfl))
 f276:=Tryz.func230.trans (congrArg some (by kernel_rfl))
 f277:=Tryz.func231.trans (congrArg some (by kernel_rfl))
 t0:=Tryz.underlying0
 a0:=Tryz.isAgg0
 z0:=Tryz.sizeOf0
 v0:=Tryz.zeroValue0
 t3:=Tryz.underlying3
 a3:=Tryz.isAgg3
 z3:=Tryz.sizeOf3
 v3:=Tryz.zeroValue3
 t4:=Tryz.underlying4
 a4:=Tryz.isAgg4
 z4:=Tryz.sizeOf4
 v4:=Tryz.zeroValue4
 t9:=Tryz.underlying9
 a9:=Tryz.isAgg9
 z9:=Tryz.sizeOf9
 v9:=Tryz.zeroValue9
 t20:=Tryz.underlying20
 a20:=Tryz.isAgg20
 z20:=Tryz.sizeOf20
 v20:=Tryz.zeroValue20
 t31:=Tryz.underlying133
 a31:=Tryz.isAgg133
 z31:=Tryz.sizeOf133
 v31:=Tryz.zeroValue133
 t37:=Tryz.underlying150
 a37:=Tryz.isAgg150
 z37:=Tryz.sizeOf150
 v37:=Tryz.zeroValue150
 t70:=Tryz.underlying235
 a70:=Tryz.isAgg235
 z70:=Tryz.sizeOf235
 v70:=Tryz.zeroValue235
 t72:=Tryz.underlying237
 a72:=Tryz.isAgg237
 z72:=Tryz.sizeOf237
 v72:=Tryz.zeroValue237
 t75:=Tryz.underlying240
 a75:=Tryz.isAgg240
 z75:=Tryz.sizeOf240
 v75:=Tryz.zeroValue240
 t76:=Tryz.underlying241
 a76:=Tryz.isAgg241
 z76:=Tryz.sizeOf241
 v76:=Tryz.zeroValue241
 t127:=Tryz.underlying271
 a127:=Tryz.isAgg271
 z127:=Tryz.sizeOf271
 v127:=Tryz.zeroValue271
 t164:=Tryz.underlying281
 a164:=Tryz.isAgg281
 z164:=Tryz.sizeOf281
 v164:=Tryz.zeroValue281 }
theorem dX:Builder.Extra Tryz.prog iz:={
 sizeBuilder:=by kernel_rfl
 liesBuilder:=by kernel_rfl
 t5:=Tryz.underlying5
 a5:=Tryz.isAgg5
 z5:=Tryz.sizeOf5
 v5:=Tryz.zeroValue5
 infoByte:=by kernel_rfl
 cellsByte:=by kernel_rfl
 sizeByte:=by kernel_rfl
 neB5:=by decide }
open Go.RowKit in
theorem nZ(bk o c:Nat)(xs:List ByteArray)(sep:ByteArray)(w:World)(hcells:∀ (j:Nat) x,xs[j]?=some x->w.cell? ⟨bk,o+j,none⟩=some (.string x))(hbk:bk<w.heap.size)(hN:xs.length<=140737488355328)(hcap:xs.length<=c)(hlen:(Lib.join (xs.map (·.data.toList)) sep.data.toList).length<=140737488355328) :
  Calls Tryz.prog 165 #[.slice (some ⟨bk,o,none⟩) xs.length c,.string sep] w fun e w'=>e=.returned (.string ⟨(Lib.join (xs.map (·.data.toList)) sep.data.toList).toArray⟩)/\Below w.heap.size w w':=Any.strings_Join pA dX bk o c xs sep w hcells hbk hN hcap hlen
def oM:Go.Shelf.Ren:=⟨fun|106=>52|213=>106|265=>142|n=>n,fun|9=>9|3=>3|n=>n,fun|n=>n⟩
theorem Aq:Go.Proofs.Lays.n106 Tryz.prog oM:={
 mixed:=by kernel_rfl
 f106:=Tryz.func52.trans (congrArg some (by kernel_rfl))
 f213:=Tryz.func106.trans (congrArg some (by kernel_rfl))
 f265:=Tryz.func142.trans (congrArg some (by kernel_rfl))
 t3:=Tryz.underlying3
 a3:=Tryz.isAgg3
 z3:=Tryz.sizeOf3
 v3:=Tryz.zeroValue3
 t9:=Tryz.underlying9
 a9:=Tryz.isAgg9
 z9:=Tryz.sizeOf9
 v9:=Tryz.zeroValue9 }
open Go.RowKit in
theorem jI(a b:ByteArray)(w:World) :
  Calls Tryz.prog 52 #[.string a,.string b] w fun e w'=>e=.returned (.int .i64 (Lib.compareBytes a.data.toList b.data.toList))/\w'=w:=Any.strings_Compare Aq a b w
def nM:Go.Shelf.Ren:=⟨fun|171=>138|243=>161|246=>193|283=>212|284=>213|285=>214|286=>215|129=>226|317=>225|318=>227|319=>228|320=>229|337=>235|338=>153|n=>n,fun|3=>3|9=>9|2=>2|4=>4|171=>264|0=>0|53=>64|37=>150|5=>5|173=>266|212=>277|51=>278|20=>20|213=>279|46=>122|232=>286|233=>216|n=>n,fun|17=>8|18=>9|19=>2|n=>n⟩
theorem vX:Go.Proofs.LaysM.n171 Tryz.prog nM:={
 mixed:=by kernel_rfl
 f129:=Tryz.func226.trans (congrArg some (by kernel_rfl))
 f171:=Tryz.func138.trans (congrArg some (by kernel_rfl))
 f243:=Tryz.func161.trans (congrArg some (by kernel_rfl))
 f246:=Tryz.func193.trans (congrArg some (by kernel_rfl))
 f283:=Tryz.func212.trans (congrArg some (by kernel_rfl))
 f284:=Tryz.func213.trans (congrArg some (by kernel_rfl))
 f285:=Tryz.func214.trans (congrArg some (by kernel_rfl))
 f286:=Tryz.func215.trans (congrArg some (by kernel_rfl))
 f317:=Tryz.func225.trans (congrArg some (by kernel_rfl))
 f318:=Tryz.func227.trans (congrArg some (by kernel_rfl))
 f319:=Tryz.func228.trans (congrArg some (by kernel_rfl))
 f320:=Tryz.func229.trans (congrArg some (by kernel_rfl))
 f337:=Tryz.func235.trans (congrArg some (by kernel_rfl))
 f338:=Tryz.func153.trans (congrArg some (by kernel_rfl))
 t0:=Tryz.underlying0
 a0:=Tryz.isAgg0
 z0:=Tryz.sizeOf0
 v0:=Tryz.zeroValue0
 t2:=Tryz.underlying2
 a2:=Tryz.isAgg2
 z2:=Tryz.sizeOf2
 v2:=Tryz.zeroValue2
 t3:=Tryz.underlying3
 a3:=Tryz.isAgg3
 z3:=Tryz.sizeOf3
 v3:=Tryz.zeroValue3
 t4:=Tryz.underlying4
 a4:=Tryz.isAgg4
 z4:=Tryz.sizeOf4
 v4:=Tryz.zeroValue4
 t5:=Tryz.underlying5
 a5:=Tryz.isAgg5
 z5:=Tryz.sizeOf5
 v5:=Tryz.zeroValue5
 t9:=Tryz.underlying9
 a9:=Tryz.isAgg9
 z9:=Tryz.sizeOf9
 v9:=Tryz.zeroValue9
 t20:=Tryz.underlying20
 a20:=Tryz.isAgg20
 z20:=Tryz.sizeOf20
 v20:=Tryz.zeroValue20
 t37:=Tryz.underlying150
 a37:=Tryz.isAgg150
 z37:=Tryz.sizeOf150
 v37:=Tryz.zeroValue150
 t46:=Tryz.underlying122
 a46:=Tryz.isAgg122
 z46:=Tryz.sizeOf122
 v46:=Tryz.zeroValue122
 t51:=Tryz.underlying278
 a51:=Tryz.isAgg278
 z51:=Tryz.sizeOf278
 v51:=Tryz.zeroValue278
 t53:=Tryz.underlying64
 a53:=Tryz.isAgg64
 z53:=Tryz.sizeOf64
 v53:=Tryz.zeroValue64
 t171:=Tryz.underlying264
 a171:=Tryz.isAgg264
 z171:=Tryz.sizeOf264
 v171:=Tryz.zeroValue264
 t173:=Tryz.underlying266
 a173:=Tryz.isAgg266
 z173:=Tryz.sizeOf266
 v173:=Tryz.zeroValue266
 t212:=Tryz.underlying277
 a212:=Tryz.isAgg277
 z212:=Tryz.sizeOf277
 v212:=Tryz.zeroValue277
 t213:=Tryz.underlying279
 a213:=Tryz.isAgg279
 z213:=Tryz.sizeOf279
 t232:=Tryz.underlying286
 a232:=Tryz.isAgg286
 z232:=Tryz.sizeOf286
 v232:=Tryz.zeroValue286
 t233:=Tryz.underlying216
 a233:=Tryz.isAgg216
 z233:=Tryz.sizeOf216
 v233:=Tryz.zeroValue216
 g17:=by kernel_rfl
 g18:=by kernel_rfl
 g19:=by kernel_rfl
 i0:=by kernel_rfl
 i2:=by kernel_rfl
 i3:=by kernel_rfl
 i4:=by kernel_rfl
 i5:=by kernel_rfl
 i9:=by kernel_rfl
 i20:=by kernel_rfl
 i37:=by kernel_rfl
 i46:=by kernel_rfl
 i51:=by kernel_rfl
 i53:=by kernel_rfl
 i171:=by kernel_rfl
 i173:=by kernel_rfl
 i212:=by kernel_rfl
 i232:=by kernel_rfl
 i233:=by kernel_rfl
 m17:=by kernel_rfl
 m18:=by kernel_rfl
 m19:=by kernel_rfl }
open Go.RowKit Go.Sort Go.Lib in
def oL:Go.Shelf.Ren:=⟨fun|171=>138|243=>161|246=>193|283=>212|284=>213|285=>214|286=>215|129=>226|317=>225|318=>227|319=>228|320=>229|337=>235|338=>153|n=>n,fun|3=>3|9=>9|2=>2|4=>4|171=>264|0=>0|53=>64|37=>150|5=>5|173=>266|212=>277|51=>278|20=>20|213=>279|46=>122|232=>286|233=>216|n=>n,fun|17=>8|18=>9|19=>2|n=>n⟩
theorem zc:Go.Proofs.Lays.n171 Tryz.prog oL:={
 mixed:=by kernel_rfl
 f129:=Tryz.func226.trans (congrArg some (by kernel_rfl))
 f171:=Tryz.func138.trans (congrArg some (by kernel_rfl))
 f243:=Tryz.func161.trans (congrArg some (by kernel_rfl))
 f246:=Tryz.func193.trans (congrArg some (by kernel_rfl))
 f283:=Tryz.func212.trans (congrArg some (by kernel_rfl))
 f284:=Tryz.func213.trans (congrArg some (by kernel_rfl))
 f285:=Tryz.func214.trans (congrArg some (by kernel_rfl))
 f286:=Tryz.func215.trans (congrArg some (by kernel_rfl))
 f317:=Tryz.func225.trans (congrArg some (by kernel_rfl))
 f318:=Tryz.func227.trans (congrArg some (by kernel_rfl))
 f319:=Tryz.func228.trans (congrArg some (by kernel_rfl))
 f320:=Tryz.func229.trans (congrArg some (by kernel_rfl))
 f337:=Tryz.func235.trans (congrArg some (by kernel_rfl))
 f338:=Tryz.func153.trans (congrArg some (by kernel_rfl))
 t0:=Tryz.underlying0
 a0:=Tryz.isAgg0
 z0:=Tryz.sizeOf0
 v0:=Tryz.zeroValue0
 t2:=Tryz.underlying2
 a2:=Tryz.isAgg2
 z2:=Tryz.sizeOf2
 v2:=Tryz.zeroValue2
 t3:=Tryz.underlying3
 a3:=Tryz.isAgg3
 z3:=Tryz.sizeOf3
 v3:=Tryz.zeroValue3
 t4:=Tryz.underlying4
 a4:=Tryz.isAgg4
 z4:=Tryz.sizeOf4
 v4:=Tryz.zeroValue4
 t5:=Tryz.underlying5
 a5:=Tryz.isAgg5
 z5:=Tryz.sizeOf5
 v5:=Tryz.zeroValue5
 t9:=Tryz.underlying9
 a9:=Tryz.isAgg9
 z9:=Tryz.sizeOf9
 v9:=Tryz.zeroValue9
 t20:=Tryz.underlying20
 a20:=Tryz.isAgg20
 z20:=Tryz.sizeOf20
 v20:=Tryz.zeroValue20
 t37:=Tryz.underlying150
 a37:=Tryz.isAgg150
 z37:=Tryz.sizeOf150
 v37:=Tryz.zeroValue150
 t46:=Tryz.underlying122
 a46:=Tryz.isAgg122
 z46:=Tryz.sizeOf122
 v46:=Tryz.zeroValue122
 t51:=Tryz.underlying278
 a51:=Tryz.isAgg278
 z51:=Tryz.sizeOf278
 v51:=Tryz.zeroValue278
 t53:=Tryz.underlying64
 a53:=Tryz.isAgg64
 z53:=Tryz.sizeOf64
 v53:=Tryz.zeroValue64
 t171:=Tryz.underlying264
 a171:=Tryz.isAgg264
 z171:=Tryz.sizeOf264
 v171:=Tryz.zeroValue264
 t173:=Tryz.underlying266
 a173:=Tryz.isAgg266
 z173:=Tryz.sizeOf266
 v173:=Tryz.zeroValue266
 t212:=Tryz.underlying277
 a212:=Tryz.isAgg277
 z212:=Tryz.sizeOf277
 v212:=Tryz.zeroValue277
 t213:=Tryz.underlying279
 a213:=Tryz.isAgg279
 z213:=Tryz.sizeOf279
 t232:=Tryz.underlying286
 a232:=Tryz.isAgg286
 z232:=Tryz.sizeOf286
 v232:=Tryz.zeroValue286
 t233:=Tryz.underlying216
 a233:=Tryz.isAgg216
 z233:=Tryz.sizeOf216
 v233:=Tryz.zeroValue216
 g17:=by kernel_rfl
 g18:=by kernel_rfl
 g19:=by kernel_rfl }
theorem vV{G:List O}{P:Program}{f:FuncId}{args:List V}{H:List O}{v:V}
  (h:∀ ρ us w,HR G w.heap.size ρ H w->VRL ρ args us->∃ u,VR ρ v u/\Calls P f us.toArray w fun e w'=>e=.returned u/\RowKit.Below w.heap.size w w'):ay G P f args H v []:=by
 intro ρ us w hh hv
 obtain⟨u,hu,hc⟩:=h ρ us w hh hv
 refine hc.mono fun e w' ⟨he,hb⟩=>⟨u,ρ,he,hu,?_,Ren.le_refl ρ,hb⟩
 rw[List.append_nil]
 exact hh.frame hb.size fun k hk=>hb.block k hk
def cmpS(a b:List UInt8):Option Int:=some (Lib.compareBytes a b)
def Nl(R:Int):V:=.int .i64 R
def Mk(_:Int):List O:=[]
def BA:CF
 |[.str a,.str b],[]=>retC true (cmpS a b) 0 Nl Mk
 |_,_=>none
theorem Fb{kCa kDb:Bool}:CtOk (GGx kCa kDb) PP (52,BA):=by
 refine aF Tryz.func52 (by kernel_rfl) rfl fun a0 h0 c0 v0 N0 e hc=>?_
 unfold BA at e
 split at e
 ·rename_i a b
  obtain⟨hl,r,hr,rfl,rfl⟩:=bu e hc
  cases hr
  refine vV fun ρ us w hh hv=>?_
  obtain⟨u,r,rfl,h1,u2,r2,rfl,h2,rfl⟩:=hv
  simp only[VR]at h1 h2
  subst h1;subst h2
  refine⟨_,rfl,(jI _ _ w).mono fun e w' ⟨he,hw⟩=>⟨he,hw▸RowKit.Below.refl _ _⟩⟩
 ·cases e
theorem Mm:∀ q,q<20->powT.getD q 0=((10^q:Nat):Int):=by decide
theorem BK{kCa kDb:Bool}{B:Nat}{ρ:Ren}{hp:List O}{w:World}(hh:HR (GGx kCa kDb) B ρ hp w)(q:Nat)(hq:q<20):w.cell? ⟨8,q,none⟩=some (.int .u64 ((10^q:Nat):Int)):=by
 obtain⟨r,hr,h1,h2,h3,_⟩:=hh.glob 8 (.ints false .u64 powT) rfl
 have hg:getO (GGx kCa kDb) hp (ax+8)=.ints false .u64 powT:=by rw[aA (Nat.le_add_right _ _)];rw[show ax+8-ax=8 by omega];rfl
 have ho:=hh.blocks _ r hr (by rw[hg];intro e;cases e)
 rw[hg]at ho
 have hm:r.m=1:=ho.m h3
 obtain⟨u,hu,hv⟩:=ho.cell h3 q 0 (.int .u64 (powT.getD q 0)) hq (by decide) rfl
 simp only[VR]at hv
 rw[h1,h2,hm,Mm q hq]at *
 subst hv
 simpa using hu
def cX(n:Int):Option (List UInt8):=bif decide (0<=n)&&decide (n<=1000000)then some (Lib.decDigits n.toNat)else none
def Li(R:List UInt8):V:=.str R
def KT(_:List UInt8):List O:=[]
def uY:CF
 |[.int .i64 n],[]=>retC true (cX n) [] Li KT
 |_,_=>none
theorem Ax{kCa kDb:Bool}:CtOk (GGx kCa kDb) PP (138,uY):=by
 refine aF Tryz.func138 (by kernel_rfl) rfl fun a0 h0 c0 v0 N0 e hc=>?_
 unfold uY at e
 split at e
 ·rename_i n
  obtain⟨hl,r,hr,rfl,rfl⟩:=bu e hc
  unfold cX at hr
  rw[cond_eq_ite]at hr
  split at hr
  ·rename_i hn
   cases hr
   simp only[Bool.and_eq_true,decide_eq_true_eq]at hn
   refine vV fun ρ us w hh hv=>?_
   obtain⟨u,r,rfl,h1,rfl⟩:=hv
   simp only[VR]at h1
   subst h1
   by_cases hs:n<100
   ·have h:=Any.strconv_Itoa_small zc n.toNat (by omega) w
    rw[show ((n.toNat:Nat):Int)=n by omega]at h
    exact⟨_,rfl,h.mono fun e w' ⟨he,hw⟩=>⟨he,hw▸RowKit.Below.refl _ _⟩⟩
   ·have h:=it_SItoa vX n (by omega) (by omega) w (BK hh)
    have hi:Lib.itoa n=Lib.decDigits n.toNat:=by
     have:=Lib.itoa_nonneg n.toNat
     rwa [show ((n.toNat:Nat):Int)=n by omega]at this
    refine⟨_,rfl,h.mono ?_⟩
    rintro e w' ⟨he,k,os,hw⟩
    rw[hi]at he
    exact⟨he,hw▸Lib.below_grow _ _ (Nat.le_refl _) _ _⟩
  ·cases hr
 ·cases e
def rZ:List (List V)->Option (List (List UInt8))
 |[]=>some []
 |[.str s]::r=>match rZ r with|some l=>some (s::l)|none=>none
 |_=>none
theorem yI:∀ {rs:List (List V)} {l:List (List UInt8)},rZ rs=some l->rs=l.map fun s=>[V.str s]
 |[],l,h=>by cases h;rfl
 |[.str s]::r,l,h=>by
  simp only[rZ]at h
  split at h
  ·rename_i l' hl';cases h;rw[yI hl'];rfl
  ·cases h
 |[]::_,_,h=>by cases h
 | (_::_::_)::_,_,h=>by simp[rZ]at h
 |[.lit _]::_,_,h|[.bool _]::_,_,h|[.int _ _]::_,_,h|[.ptr _ _ _]::_,_,h|[.nilp]::_,_,h|[.sl _ _ _ _]::_,_,h|[.nils]::_,_,h|[.fn _ _]::_,_,h|[.nilf]::_,_,h|[.yl _]::_,_,h|[.agg _]::_,_,h|[.tup _]::_,_,h|[.nili]::_,_,h|[.when _ _]::_,_,h|[.junk]::_,_,h=>by simp[rZ]at h
def cQ(rs:List (List V))(sep:List UInt8):Option (List UInt8):=match rZ rs with
 |some l=>bif decide (l.length<=100000)&&decide ((Lib.join l sep).length<=140737488355328)then some (Lib.join l sep)else none
 |none=>none
def Fp(R:List UInt8):V:=.str R
def Kg(_:List UInt8):List O:=[]
def qk:CF
 |[.sl 0 0 n none,.str sep],[.vals false 1 rs]=>retC (decide (n=rs.length)) (cQ rs sep) [] Fp Kg
 |_,_=>none
theorem pM{kCa kDb:Bool}:CtOk (GGx kCa kDb) PP (165,qk):=by
 refine aF Tryz.func165 (by kernel_rfl) rfl fun a0 h0 c0 v0 N0 e hc=>?_
 unfold qk at e
 split at e
 ·rename_i n sep rs
  obtain⟨hl,r,hr,rfl,rfl⟩:=bu e hc
  simp only[decide_eq_true_eq]at hl
  subst hl
  unfold cQ at hr
  split at hr
  ·rename_i l hs
   obtain rfl:=yI hs
   rw[cond_eq_ite]at hr
   split at hr
   ·rename_i hn
    cases hr
    simp only[Bool.and_eq_true,decide_eq_true_eq]at hn
    refine vV fun ρ us w hh hv=>?_
    obtain⟨u,r,rfl,h1,u2,r2,rfl,h2,rfl⟩:=hv
    obtain⟨rg,hr,hkl,hph,hnp⟩:=h1
    simp only[VR]at h2
    subst h2
    have hob:=hh.blocks 0 rg hr (by simp[getO,ax])
    have hxm:(l.map fun s=>(⟨s.toArray⟩:ByteArray)).map (·.data.toList)=l:=by rw[List.map_map];exact(List.map_congr_left fun s _=>rfl).trans (List.map_id l)
    have hlen:rg.n=l.length:=by have:=hob.n;rw[show getO (GGx kCa kDb) [O.vals false 1 (l.map fun s=>[V.str s])] 0=O.vals false 1 (l.map fun s=>[V.str s])from rfl]at this;simpa[O.len]using this
    have hemp:∀ (a:Option Addr) (c:Nat),l=[]->∃ u,VR ρ (Fp (Lib.join l sep)) u/\Calls PP 165 #[.slice a 0 c,.string ⟨sep.toArray⟩] w fun e w'=>e=.returned u/\RowKit.Below w.heap.size w w':=by
     intro a c h0
     subst h0
     exact⟨_,rfl,(Any.strings_Join_none pA dX a c _ w).mono fun e w' ⟨he,hw⟩=>⟨he,hw▸RowKit.Below.refl _ _⟩⟩
    rw[List.length_map]at hkl hph hnp
    cases hp:rg.ph with
    |true=>
     obtain⟨h0,rfl⟩:=hph hp
     exact hemp _ _ (List.length_eq_zero_iff.1 h0)
    |false=>
     obtain⟨hle,ad,rfl,had⟩:=hnp hp
     by_cases h0:l=[]
     ·subst h0;exact hemp _ _ rfl
     ·have hpos:0<l.length:=List.length_pos_iff.2 h0
      rw[had (by omega)]
      refine⟨_,rfl,?_⟩
      have:=nZ rg.blk (rg.base+0*rg.m) (Option.getD none (rg.cp-0)) (l.map fun s=>(⟨s.toArray⟩:ByteArray)) ⟨sep.toArray⟩ w (fun j x hx=>?_) (hob.lt hp) (by rw[List.length_map];omega) (by rw[List.length_map];exact hle) (by rw[hxm];exact hn.2)
      ·rw[hxm,List.length_map]at this
       exact this
      ·rw[List.getElem?_map,Option.map_eq_some_iff]at hx
       obtain⟨s,hs,rfl⟩:=hx
       obtain⟨hj,rfl⟩:=List.getElem?_eq_some_iff.1 hs
       obtain⟨u,hu,hvu⟩:=hob.cell hp j 0 (.str l[j]) (by show j<(l.map _).length;rw[List.length_map];exact hj) (by show 0<1;decide) (by
        show (match (l.map fun s=>[V.str s])[j]? with|some r=>r[0]?|.none=>.none)=_
        rw[List.getElem?_map,hs];rfl)
       simp only[VR]at hvu
       subst hvu
       have hm:rg.m=1:=hob.m hp
       rw[hm]at hu ⊢
       simpa using hu
   ·cases hr
  ·cases hr
 ·cases e
end Go.Ab
set_option maxHeartbeats 4000000
namespace Go.Ab
open Go.Proofs
section
variable{kCa kDb:Bool}
noncomputable abbrev EpL (kCa kDb:Bool):Env:=EE kCa kDb [(131,yf)] []
theorem bP:(EpL kCa kDb).Fn PP:=aD ⟨sD,trivial⟩ trivial
def pLtr(p:Int):Int:=if 0<p then([80,78,66,82,81,75,65,67,68,69,70,71,72,73,74]:List Int).getD (p-1).toNat 0 else([112,110,98,114,113,107,97,99,100,101,102,103,104,105,106]:List Int).getD (- p-1).toNat 0
def pLet(p:Int):Option (Int×Int):=bif decide (-15<=p)&&decide (p<=15)&&!decide (p=0)then some (pLtr p,0)else none
def MW(R:Int×Int):V:=.tup [.int .u8 R.1,.int .i64 R.2]
def MS(_:Int×Int):List O:=[]
def Fl:CF
 |[.int .i8 p],[]=>retC true (pLet p) (0,0) MW MS
 |_,_=>none
theorem JH:ay (GGx kCa kDb) PP 195 [.int .i8 (-15)] [] (.tup [.int .u8 106,.int .i64 0]) []:=bw bP (xs:=[]) trivial 100 2 Tryz.func195 (by cases kCa<;>cases kDb<;>kernel_rfl)
theorem KG:ay (GGx kCa kDb) PP 195 [.int .i8 (-14)] [] (.tup [.int .u8 105,.int .i64 0]) []:=bw bP (xs:=[]) trivial 100 2 Tryz.func195 (by cases kCa<;>cases kDb<;>kernel_rfl)
theorem Jb:ay (GGx kCa kDb) PP 195 [.int .i8 (-13)] [] (.tup [.int .u8 104,.int .i64 0]) []:=bw bP (xs:=[]) trivial 100 2 Tryz.func195 (by cases kCa<;>cases kDb<;>kernel_rfl)
theorem Je:ay (GGx kCa kDb) PP 195 [.int .i8 (-12)] [] (.tup [.int .u8 103,.int .i64 0]) []:=bw bP (xs:=[]) trivial 100 2 Tryz.func195 (by cases kCa<;>cases kDb<;>kernel_rfl)
theorem Ko:ay (GGx kCa kDb) PP 195 [.int .i8 (-11)] [] (.tup [.int .u8 102,.int .i64 0]) []:=bw bP (xs:=[]) trivial 100 2 Tryz.func195 (by cases kCa<;>cases kDb<;>kernel_rfl)
theorem Ks:ay (GGx kCa kDb) PP 195 [.int .i8 (-10)] [] (.tup [.int .u8 101,.int .i64 0]) []:=bw bP (xs:=[]) trivial 100 2 Tryz.func195 (by cases kCa<;>cases kDb<;>kernel_rfl)
theorem MF:ay (GGx kCa kDb) PP 195 [.int .i8 (-9)] [] (.tup [.int .u8 100,.int .i64 0]) []:=bw bP (xs:=[]) trivial 100 2 Tryz.func195 (by cases kCa<;>cases kDb<;>kernel_rfl)
theorem NO:ay (GGx kCa kDb) PP 195 [.int .i8 (-8)] [] (.tup [.int .u8 99,.int .i64 0]) []:=bw bP (xs:=[]) trivial 100 2 Tryz.func195 (by cases kCa<;>cases kDb<;>kernel_rfl)
theorem MR:ay (GGx kCa kDb) PP 195 [.int .i8 (-7)] [] (.tup [.int .u8 97,.int .i64 0]) []:=bw bP (xs:=[]) trivial 100 2 Tryz.func195 (by cases kCa<;>cases kDb<;>kernel_rfl)
theorem NK:ay (GGx kCa kDb) PP 195 [.int .i8 (-6)] [] (.tup [.int .u8 107,.int .i64 0]) []:=bw bP (xs:=[]) trivial 100 2 Tryz.func195 (by cases kCa<;>cases kDb<;>kernel_rfl)
theorem Nz:ay (GGx kCa kDb) PP 195 [.int .i8 (-5)] [] (.tup [.int .u8 113,.int .i64 0]) []:=bw bP (xs:=[]) trivial 100 2 Tryz.func195 (by cases kCa<;>cases kDb<;>kernel_rfl)
theorem No:ay (GGx kCa kDb) PP 195 [.int .i8 (-4)] [] (.tup [.int .u8 114,.int .i64 0]) []:=bw bP (xs:=[]) trivial 100 2 Tryz.func195 (by cases kCa<;>cases kDb<;>kernel_rfl)
theorem MC:ay (GGx kCa kDb) PP 195 [.int .i8 (-3)] [] (.tup [.int .u8 98,.int .i64 0]) []:=bw bP (xs:=[]) trivial 100 2 Tryz.func195 (by cases kCa<;>cases kDb<;>kernel_rfl)
theorem MV:ay (GGx kCa kDb) PP 195 [.int .i8 (-2)] [] (.tup [.int .u8 110,.int .i64 0]) []:=bw bP (xs:=[]) trivial 100 2 Tryz.func195 (by cases kCa<;>cases kDb<;>kernel_rfl)
theorem Np:ay (GGx kCa kDb) PP 195 [.int .i8 (-1)] [] (.tup [.int .u8 112,.int .i64 0]) []:=bw bP (xs:=[]) trivial 100 2 Tryz.func195 (by cases kCa<;>cases kDb<;>kernel_rfl)
theorem Ms:ay (GGx kCa kDb) PP 195 [.int .i8 1] [] (.tup [.int .u8 80,.int .i64 0]) []:=bw bP (xs:=[]) trivial 100 2 Tryz.func195 (by cases kCa<;>cases kDb<;>kernel_rfl)
theorem Ng:ay (GGx kCa kDb) PP 195 [.int .i8 2] [] (.tup [.int .u8 78,.int .i64 0]) []:=bw bP (xs:=[]) trivial 100 2 Tryz.func195 (by cases kCa<;>cases kDb<;>kernel_rfl)
theorem ML:ay (GGx kCa kDb) PP 195 [.int .i8 3] [] (.tup [.int .u8 66,.int .i64 0]) []:=bw bP (xs:=[]) trivial 100 2 Tryz.func195 (by cases kCa<;>cases kDb<;>kernel_rfl)
theorem ME:ay (GGx kCa kDb) PP 195 [.int .i8 4] [] (.tup [.int .u8 82,.int .i64 0]) []:=bw bP (xs:=[]) trivial 100 2 Tryz.func195 (by cases kCa<;>cases kDb<;>kernel_rfl)
theorem MG:ay (GGx kCa kDb) PP 195 [.int .i8 5] [] (.tup [.int .u8 81,.int .i64 0]) []:=bw bP (xs:=[]) trivial 100 2 Tryz.func195 (by cases kCa<;>cases kDb<;>kernel_rfl)
theorem Nv:ay (GGx kCa kDb) PP 195 [.int .i8 6] [] (.tup [.int .u8 75,.int .i64 0]) []:=bw bP (xs:=[]) trivial 100 2 Tryz.func195 (by cases kCa<;>cases kDb<;>kernel_rfl)
theorem Nd:ay (GGx kCa kDb) PP 195 [.int .i8 7] [] (.tup [.int .u8 65,.int .i64 0]) []:=bw bP (xs:=[]) trivial 100 2 Tryz.func195 (by cases kCa<;>cases kDb<;>kernel_rfl)
theorem Mu:ay (GGx kCa kDb) PP 195 [.int .i8 8] [] (.tup [.int .u8 67,.int .i64 0]) []:=bw bP (xs:=[]) trivial 100 2 Tryz.func195 (by cases kCa<;>cases kDb<;>kernel_rfl)
theorem Nx:ay (GGx kCa kDb) PP 195 [.int .i8 9] [] (.tup [.int .u8 68,.int .i64 0]) []:=bw bP (xs:=[]) trivial 100 2 Tryz.func195 (by cases kCa<;>cases kDb<;>kernel_rfl)
theorem IZ:ay (GGx kCa kDb) PP 195 [.int .i8 10] [] (.tup [.int .u8 69,.int .i64 0]) []:=bw bP (xs:=[]) trivial 100 2 Tryz.func195 (by cases kCa<;>cases kDb<;>kernel_rfl)
theorem Jy:ay (GGx kCa kDb) PP 195 [.int .i8 11] [] (.tup [.int .u8 70,.int .i64 0]) []:=bw bP (xs:=[]) trivial 100 2 Tryz.func195 (by cases kCa<;>cases kDb<;>kernel_rfl)
theorem JE:ay (GGx kCa kDb) PP 195 [.int .i8 12] [] (.tup [.int .u8 71,.int .i64 0]) []:=bw bP (xs:=[]) trivial 100 2 Tryz.func195 (by cases kCa<;>cases kDb<;>kernel_rfl)
theorem Lc:ay (GGx kCa kDb) PP 195 [.int .i8 13] [] (.tup [.int .u8 72,.int .i64 0]) []:=bw bP (xs:=[]) trivial 100 2 Tryz.func195 (by cases kCa<;>cases kDb<;>kernel_rfl)
theorem IY:ay (GGx kCa kDb) PP 195 [.int .i8 14] [] (.tup [.int .u8 73,.int .i64 0]) []:=bw bP (xs:=[]) trivial 100 2 Tryz.func195 (by cases kCa<;>cases kDb<;>kernel_rfl)
theorem LU:ay (GGx kCa kDb) PP 195 [.int .i8 15] [] (.tup [.int .u8 74,.int .i64 0]) []:=bw bP (xs:=[]) trivial 100 2 Tryz.func195 (by cases kCa<;>cases kDb<;>kernel_rfl)
theorem Fm:CtOk (GGx kCa kDb) PP (195,Fl):=by
 refine aF Tryz.func195 (by kernel_rfl) rfl fun a0 h0 c0 v0 N0 e hc=>?_
 unfold Fl at e
 split at e
 ·rename_i p
  obtain⟨hl,r,hr,rfl,rfl⟩:=bu e hc
  unfold pLet at hr
  rw[cond_eq_ite]at hr
  split at hr
  ·rename_i hn
   cases hr
   simp only[Bool.and_eq_true,decide_eq_true_eq,Bool.not_eq_true',decide_eq_false_iff_not]at hn
   obtain⟨⟨h1,h2⟩,h3⟩:=hn
   have hp:p=-15\/p=-14\/p=-13\/p=-12\/p=-11\/p=-10\/p=-9\/p=-8\/p=-7\/p=-6\/p=-5\/p=-4\/p=-3\/p=-2\/p=-1\/p=1\/p=2\/p=3\/p=4\/p=5\/p=6\/p=7\/p=8\/p=9\/p=10\/p=11\/p=12\/p=13\/p=14\/p=15:=by omega
   rcases hp with rfl|rfl|rfl|rfl|rfl|rfl|rfl|rfl|rfl|rfl|rfl|rfl|rfl|rfl|rfl|rfl|rfl|rfl|rfl|rfl|rfl|rfl|rfl|rfl|rfl|rfl|rfl|rfl|rfl|rfl
   ·exact JH
   ·exact KG
   ·exact Jb
   ·exact Je
   ·exact Ko
   ·exact Ks
   ·exact MF
   ·exact NO
   ·exact MR
   ·exact NK
   ·exact Nz
   ·exact No
   ·exact MC
   ·exact MV
   ·exact Np
   ·exact Ms
   ·exact Ng
   ·exact ML
   ·exact ME
   ·exact MG
   ·exact Nv
   ·exact Nd
   ·exact Mu
   ·exact Nx
   ·exact IZ
   ·exact Jy
   ·exact JE
   ·exact Lc
   ·exact IY
   ·exact LU
  ·cases hr
 ·cases e
end
end Go.Ab
namespace Go.Ab
open IntKind
open Go.Proofs
section
variable{kCa kDb:Bool}
def iq:List Int->List Int×Nat×Int->Option (List Int×Nat×Int ⊕ List Int×Nat ⊕ List UInt8):=fun(pieces:List Int)=>let x34:=List.take 1 (List.drop 0 (iL [49]));fun(s17:List Int×Nat×Int)=>let x41:=decide (0<Int.ofNat s17.2.1);let x42:=(s17.2.1+1)*1;let x43:=decide (s17.2.2<Int.ofNat pieces.length);let x45:=i64.wrap (Int.ofNat s17.2.1-1);let x46:=i64.wrap (s17.2.2+1);let x47:=s17.1++x34;let x48:=pieces.getD s17.2.2.toNat 0;let x36:=decide (0<=x45)&&decide (x45<Int.ofNat s17.2.1);let x38:=decide (s17.2.1=s17.1.length)&&decide (x42<=140737488355328);let x39:=s17.1++List.take 1 (List.drop 0 (iL [((pLet x48).getD (0,0)).fst]));let x44:=x45.toNat;let x40:=s17.1.getD x44 0;let x37:=x41&&decide (49<=x40);bif x43 then aQ (decide (0<=s17.2.2)&&x43) (bif !decide (x48=0)then bn (pLet x48) Inhabited.default fun(_y19:Int×Int)=>aQ x38 (some (Sum.inl (x39,x39.length,x46)))else aQ (!x41||x36) (aQ (!x37||x36) (bp (bif x37&&decide (x40<=56)then aQ x36 (aQ x36 (some (Sum.inl (s17.1.set x44 (u8.wrap (x40+1)),s17.2.1))))else aQ x38 (some (Sum.inl (x47,x47.length)))) fun(s22:List Int×Nat)=>some (Sum.inl (s22.1,s22.2,x46)))))else some (Sum.inr (Sum.inl (s17.1,s17.2.1)))
def ux(pieces:List Int):Option (List UInt8):=bV (iq pieces) (fun(s33:List Int×Nat)=>some (dQ (List.take s33.2 (List.drop 0 s33.1)))) 1000000 ([],0,0)
def wI(R:List UInt8):V:=.str R
def uD(_:List UInt8):List O:=[]
def wE:CF
 |[.sl 0 0 pieces_0n none],[.ints false .i8 pieces_0]=>retC (decide (pieces_0n=pieces_0.length)) (ux pieces_0) [] wI uD
 |_,_=>none
theorem Cx(pieces:List Int){r}(hr:ux pieces=some r):ay (GGx kCa kDb) PP 163 [.sl 0 0 pieces.length none] [.ints false .i8 pieces] (wI r) (uD r):=by
 have hE:=cutE (aD (kCa:=kCa) (kDb:=kDb) (cts:=[(195,Fl)]) (inl:=[]) ⟨Fm,trivial⟩ trivial)
 refine cg hE 2 Tryz.func163 rfl rfl wI uD hr ?_ rfl rfl
 refine cI hE 2 (fun(s17:List Int×Nat×Int)=>([(2,V.str (#[]:Array UInt8).toList),(3,V.sl 1 0 s17.2.1 none),(9,V.sl 0 0 pieces.length none),(10,I (Int.ofNat pieces.length)),(11,I s17.2.2)],[O.ints false i8 pieces,O.ints true u8 s17.1])) (fun(s33:List Int×Nat)=>([(2,V.str (#[]:Array UInt8).toList),(3,V.sl 1 0 s33.2 none)],[O.ints false i8 pieces,O.ints true u8 s33.1])) (.exit 0) ((Ent.phT 3 (O.ints true u8 []) rfl rfl rfl rfl rfl).trans (Ent.rn [0,1] [2,3,9,10,11] rfl rfl rfl rfl rfl)) (fun s17=>?_) (fun s33=>?_)
 ·refine aR hE 2 rfl ?_ ?_
  ·refine aI ?_
   refine aR hE 2 rfl ?_ ?_
   ·refine aE (pl rfl id) ?_
    refine fV (pr id rfl) ?_
    exact cr ((Ent.rn [0,3] [2,3,9,10,11] rfl rfl rfl rfl rfl))
   refine ah (Bool.not_or_self _) ?_
   refine ah (Bool.not_or_self _) ?_
   refine ah (Bool.not_or_self _) ?_
   refine aI ?_
   refine ah (Bool.not_or_self _) ?_
   refine ah (Bool.not_or_self _) ?_
   refine ah (Bool.not_or_self _) ?_
   refine ah (Bool.not_or_self _) ?_
   refine ah (Bool.not_or_self _) ?_
   refine ah (Bool.not_or_self _) ?_
   refine aI ?_
   refine ah (Bool.not_or_self _) ?_
   refine ah (Bool.not_or_self _) ?_
   refine ah (Bool.not_or_self _) ?_
   refine bF hE 2 (fun(s22:List Int×Nat)=>([(2,V.str (#[]:Array UInt8).toList),(3,V.sl 1 0 s22.2 none),(9,V.sl 0 0 pieces.length none),(10,I (Int.ofNat pieces.length)),(11,I s17.2.2)],[O.ints false i8 pieces,O.ints true u8 s22.1])) rfl ?_ ?_ (fun s22=>?_)
   ·refine aI ?_
    refine aI ?_
    exact aW ((Ent.rn [0,1] [2,3,9,10,11] rfl rfl rfl rfl rfl))
   ·refine fV (pr id rfl) ?_
    exact aW ((Ent.rn [0,3] [2,3,9,10,11] rfl rfl rfl rfl rfl))
   exact cr ((Ent.rn [0,1] [2,3,9,10,11] rfl rfl rfl rfl rfl))
  exact cH ((Ent.rn [0,1] [2,3] rfl rfl rfl rfl rfl))
 exact aN (aJ [] (.inr rfl) rfl rfl rfl rfl rfl)
theorem zx:CtOk (GGx kCa kDb) PP (163,wE):=by
 refine aF Tryz.func163 (by kernel_rfl) rfl fun a0 h0 c0 v0 N0 e hc=>?_
 unfold wE at e
 split at e
 ·rename_i pieces_0n pieces_0
  obtain⟨hl,r,hr,rfl,rfl⟩:=bu e hc
  simp only[decide_eq_true_eq]at hl
  obtain rfl:=hl
  exact Cx pieces_0 hr
 ·cases e
def zW(s:Siz)(at_:Int):Option (List UInt8×Int):=let x4:=(aZ s.f s.r at_).snd.2;bif !decide (x4=0)then some ((#[]:Array UInt8).toList,x4)else some (dQ (List.take 2 (List.drop 0 (iL [u8.wrap (97+u8.wrap (aZ s.f s.r at_).fst),u8.wrap (49+u8.wrap (aZ s.f s.r at_).snd.1)]))),0)
def vp(R:List UInt8×Int):V:=.tup [.str R.1,.int .i64 R.2]
def uR(_:List UInt8×Int):List O:=[]
def vT:CF
 |[.agg [.int .i64 s_0,.int .i64 s_1],.int .i64 at__0],[]=>retC true (zW ⟨s_0,s_1⟩ at__0) ([],0) vp uR
 |_,_=>none
theorem Cq(s:Siz)(at_:Int){r}(hr:zW s at_=some r):ay (GGx kCa kDb) PP 140 [.agg [.int .i64 s.f,.int .i64 s.r],.int .i64 at_] [] (vp r) (uR r):=by
 have hE:=cutE (aD (kCa:=kCa) (kDb:=kDb) (cts:=[(166,mX)]) (inl:=[]) ⟨jP,trivial⟩ trivial)
 refine cg hE 2 Tryz.func140 rfl rfl vp uR hr ?_ rfl rfl
 refine ah rfl ?_
 refine aR hE 2 rfl ?_ ?_
 ·exact aN (aJ [] (.inr rfl) rfl rfl rfl rfl rfl)
 exact aN (aJ [] (.inr rfl) rfl rfl rfl rfl rfl)
theorem zQ:CtOk (GGx kCa kDb) PP (140,vT):=by
 refine aF Tryz.func140 (by kernel_rfl) rfl fun a0 h0 c0 v0 N0 e hc=>?_
 unfold vT at e
 split at e
 ·rename_i s_0 s_1 at__0
  obtain⟨hl,r,hr,rfl,rfl⟩:=bu e hc
  exact Cq ⟨s_0,s_1⟩ at__0 hr
 ·cases e
end
section
variable{kCa kDb:Bool}
def gq(p:Int):Option (Int):=let x5:=(#[112,110,98,114,113,107,97,99,100,101,102,103,104,105,106]:Array UInt8).toList;let x6:=(#[80,78,66,82,81,75,65,67,68,69,70,71,72,73,74]:Array UInt8).toList;let x7:=i8.wrap (i8.wrap (0-p)-1);let x8:=i8.wrap (p-1);let x3:=Int.ofNat x6.length;let x4:=Int.ofNat x5.length;bif decide (p<0)then aQ (decide (0<=x7)&&decide (x7<x4)) (some (Int.ofNat (x5.getD x7.toNat 0).toNat))else aQ (decide (0<=x8)&&decide (x8<x3)) (some (Int.ofNat (x6.getD x8.toNat 0).toNat))
def mQ(R:Int):V:=.int .u8 R
def nr(_R:Int):List O:=[]
def gx:CF
 |[.int .i8 p_0],[]=>retC true (gq p_0) 0 mQ nr
 |_,_=>none
theorem vf(p:Int){r}(hr:gq p=some r):ay (GGx kCa kDb) PP 148 [.int .i8 p] [] (mQ r) (nr r):=by
 have hE:=cutE (aD (kCa:=kCa) (kDb:=kDb) (cts:=[]) (inl:=[]) trivial trivial)
 refine cg hE 2 Tryz.func148 rfl rfl mQ nr hr ?_ rfl rfl
 refine aR hE 2 rfl ?_ ?_
 ·refine aI ?_
  exact aN (aJ [] (.inr rfl) rfl rfl rfl rfl rfl)
 refine aI ?_
 exact aN (aJ [] (.inr rfl) rfl rfl rfl rfl rfl)
theorem gI:CtOk (GGx kCa kDb) PP (148,gx):=by
 refine aF Tryz.func148 (by kernel_rfl) rfl fun a0 h0 c0 v0 N0 e hc=>?_
 unfold gx at e
 split at e
 ·rename_i p_0
  obtain⟨hl,r,hr,rfl,rfl⟩:=bu e hc
  exact vf p_0 hr
 ·cases e
def Eg:Int->Int->Option (Int ⊕ Unit ⊕ Int):=fun(c s5:Int)=>let x12:=!decide (s5=0);bif decide (s5<=15)then aQ (!x12||(gq s5).isSome) (bif x12&&decide ((gq s5).getD 0=c)then escO (escO (some s5))else some (Sum.inl (i8.wrap (s5+1))))else some (Sum.inr (Sum.inl ()))
def IA(c:Int):Option (Int):=bV (Eg c) (fun(_s10:Unit)=>some 0) 1000000 (-15)
def ql(R:Int):V:=.int .i8 R
def rN(_R:Int):List O:=[]
def qM:CF
 |[.int .u8 c_0],[]=>retC true (IA c_0) 0 ql rN
 |_,_=>none
theorem zF(c:Int){r}(hr:IA c=some r):ay (GGx kCa kDb) PP 137 [.int .u8 c] [] (ql r) (rN r):=by
 have hE:=cutE (aD (kCa:=kCa) (kDb:=kDb) (cts:=[(148,gx)]) (inl:=[]) ⟨gI,trivial⟩ trivial)
 refine cg hE 2 Tryz.func137 rfl rfl ql rN hr ?_ rfl rfl
 refine cI hE 2 (fun(s5:Int)=>([(0,V.int u8 c),(2,V.int i8 0),(3,V.int i8 s5)],[])) (fun(s10:Unit)=>([(2,V.int i8 0)],[])) (.exit 0) ((Ent.rn [] [0,2,3] rfl rfl rfl rfl rfl)) (fun s5=>?_) (fun s10=>?_)
 ·refine aR hE 2 rfl ?_ ?_
  ·refine ah (Bool.not_or_self _) ?_
   refine fV (pi (pl rfl id)) ?_
   refine ah (Bool.not_or_self _) ?_
   refine ah (Bool.not_or_self _) ?_
   refine ah (Bool.not_or_self _) ?_
   refine aR hE 2 rfl ?_ ?_
   ·refine sQ (by simp) (od ?_)
    exact aN (aJ [] (.inr rfl) rfl rfl rfl rfl rfl)
   exact cr ((Ent.rn [] [0,2,3] rfl rfl rfl rfl rfl))
  exact cH ((Ent.rn [] [2] rfl rfl rfl rfl rfl))
 exact aN (aJ [] (.inr rfl) rfl rfl rfl rfl rfl)
theorem uM:CtOk (GGx kCa kDb) PP (137,qM):=by
 refine aF Tryz.func137 (by kernel_rfl) rfl fun a0 h0 c0 v0 N0 e hc=>?_
 unfold qM at e
 split at e
 ·rename_i c_0
  obtain⟨hl,r,hr,rfl,rfl⟩:=bu e hc
  exact zF c_0 hr
 ·cases e
end
section
variable{kCa kDb:Bool}
def cF:Bd->List UInt8×Int->List UInt8×Int×Int->Option (List UInt8×Int×Int ⊕ List UInt8×Int×Int×Bool ⊕ List UInt8×Int ⊕ List UInt8 ⊕ List UInt8):=fun(b:Bd) (s33:List UInt8×Int)=>let x72:=(#[48,49,50,51,52,53,54,55,56]:Array UInt8).toList;let x73:=i64.wrap (s33.2*b.f);let x71:=Int.ofNat x72.length;fun(s43:List UInt8×Int×Int)=>let x81:=decide (s43.2.2<b.f);let x82:=decide (s43.2.2<=b.f);let x83:=i64.wrap (s43.2.1+1);let x84:=i64.wrap (s43.2.2+1);let x85:=i64.wrap (x73+s43.2.2);let x75:=decide (0<=x85)&&decide (x85<Int.ofNat b.zs.length);let x78:=List.take (x83.toNat-s43.2.1.toNat) (List.drop s43.2.1.toNat x72);let x80:=b.zs.getD x85.toNat 0;let x76:=s43.1.length+x78.length;let x79:=dQ (List.take 1 (List.drop 0 (iL [(gq x80).getD 0])));let x77:=x79.length;bif x82 then aQ (!x81||x75) (bif x81&&decide (x80=0)then some (Sum.inl (s43.1,x83,x84))else bp (bif decide (0<s43.2.1)then aQ (decide (0<=s43.2.1)&&decide (s43.2.1<=x83)&&decide (x83<=x71)) (aQ (decide (x76<=4611686018427387904)) (some (Sum.inl (s43.1++x78,0))))else some (Sum.inl (s43.1,s43.2.1))) fun(s46:List UInt8×Int)=>let x87:=s46.1.length+x77;bp (bif x81 then aQ x75 (bn (gq x80) Inhabited.default fun(_y47:Int)=>aQ (decide (x87<=4611686018427387904)) (some (Sum.inl (s46.1++x79))))else some (Sum.inl s46.1)) fun(s49:List UInt8)=>some (Sum.inl (s49,s46.2,x84)))else some (Sum.inr (Sum.inl (s43.1,s43.2.1,s43.2.2,x82)))
def jq:Bd->(Bd->List UInt8×Int->List UInt8×Int×Int->Option (List UInt8×Int×Int ⊕ List UInt8×Int×Int×Bool ⊕ List UInt8×Int ⊕ List UInt8 ⊕ List UInt8))->List UInt8×Int->Option (List UInt8×Int ⊕ List UInt8 ⊕ List UInt8):=fun(b:Bd) (cF:Bd->List UInt8×Int->List UInt8×Int×Int->Option (List UInt8×Int×Int ⊕ List UInt8×Int×Int×Bool ⊕ List UInt8×Int ⊕ List UInt8 ⊕ List UInt8))=>let x91:=(#[47]:Array UInt8).toList.length;fun(s33:List UInt8×Int)=>let x93:=s33.1.length+x91;bif decide (0<=s33.2)then bp (bif !s33.1==(#[]:Array UInt8).toList then aQ (decide (x93<=4611686018427387904)) (some (Sum.inl (s33.1++(#[47]:Array UInt8).toList)))else some (Sum.inl s33.1)) fun(s35:List UInt8)=>bV (cF b s33) (fun(s62:List UInt8×Int×Int×Bool)=>some (Sum.inl (s62.1,i64.wrap (s33.2-1)))) 1000000 (s35,0,0)else some (Sum.inr (Sum.inl s33.1))
def Am(b:Bd):Option (List UInt8):=bV (jq b cF) (fun(s70:List UInt8)=>some s70) 1000000 ((#[]:Array UInt8).toList,i64.wrap (b.r-1))
def uO(R:List UInt8):V:=.str R
def vH(_R:List UInt8):List O:=[]
def rB:CF
 |[.agg [.int .i64 b_0,.int .i64 b_1,.sl 0 0 b_2n none]],[.ints false .i8 b_2]=>retC (decide (b_2n=b_2.length)) (Am ⟨b_0,b_1,b_2⟩) [] uO vH
 |_,_=>none
theorem Bq(b:Bd){r}(hr:Am b=some r):ay (GGx kCa kDb) PP 117 [.agg [.int .i64 b.f,.int .i64 b.r,.sl 0 0 b.zs.length none]] [.ints false .i8 b.zs] (uO r) (vH r):=by
 have hE:=cutE (aD (kCa:=kCa) (kDb:=kDb) (cts:=[(148,gx)]) (inl:=[]) ⟨gI,trivial⟩ trivial)
 refine cg hE 2 Tryz.func117 rfl rfl uO vH hr ?_ rfl rfl
 refine cI hE 2 (fun(s33:List UInt8×Int)=>([(1,V.ptr 1 0 0),(2,V.str (#[]:Array UInt8).toList),(3,V.str s33.1),(4,I s33.2)],[O.ints false i8 b.zs,O.cells true [I b.f,I b.r,V.sl 0 0 b.zs.length none]])) (fun(s70:List UInt8)=>([(2,V.str (#[]:Array UInt8).toList),(3,V.str s70)],[O.ints false i8 b.zs])) (.exit 0) ((Ent.rn [0,1] [1,2,3,4] rfl rfl rfl rfl rfl)) (fun s33=>?_) (fun s70=>?_)
 ·refine aR hE 2 rfl ?_ ?_
  ·refine bF hE 2 (fun(s35:List UInt8)=>([(1,V.ptr 1 0 0),(2,V.str (#[]:Array UInt8).toList),(3,V.str s35),(4,I s33.2),(11,I s33.2),(12,Bb (decide (0<=s33.2))),(15,V.str s33.1),(16,Bb !s33.1==(#[]:Array UInt8).toList)],[O.ints false i8 b.zs,O.cells true [I b.f,I b.r,V.sl 0 0 b.zs.length none]])) rfl ?_ ?_ (fun s35=>?_)
   ·refine aI ?_
    exact aW ((Ent.rn [0,1] [1,2,3,4,11,12,15,16] rfl rfl rfl rfl rfl))
   ·exact aW ((Ent.rn [0,1] [1,2,3,4,11,12,15,16] rfl rfl rfl rfl rfl))
   refine cI hE 2 (fun(s43:List UInt8×Int×Int)=>([(1,V.ptr 1 0 0),(2,V.str (#[]:Array UInt8).toList),(3,V.str s43.1),(4,I s33.2),(5,I s43.2.1),(6,I s43.2.2),(11,I s33.2),(12,Bb (decide (0<=s33.2))),(15,V.str s33.1),(16,Bb !s33.1==(#[]:Array UInt8).toList)],[O.ints false i8 b.zs,O.cells true [I b.f,I b.r,V.sl 0 0 b.zs.length none]])) (fun(s62:List UInt8×Int×Int×Bool)=>let x103:=s62.2.2.1;([(1,V.ptr 1 0 0),(2,V.str (#[]:Array UInt8).toList),(3,V.str s62.1),(4,I s33.2),(5,I s62.2.1),(6,I x103),(11,I s33.2),(12,Bb (decide (0<=s33.2))),(15,V.str s33.1),(16,Bb !s33.1==(#[]:Array UInt8).toList),(19,I x103),(20,V.ptr 1 0 0),(21,V.ptr 1 0 0),(22,I b.f),(23,Bb s62.2.2.2)],[O.ints false i8 b.zs,O.cells true [I b.f,I b.r,V.sl 0 0 b.zs.length none]])) (.exit 2) ((Ent.rn [0,1] [1,2,3,4,5,6,11,12,15,16] rfl rfl rfl rfl rfl)) (fun s43=>?_) (fun s62=>?_)
   ·refine aR hE 2 rfl ?_ ?_
    ·refine ah (Bool.not_or_self _) ?_
     refine ah (Bool.not_or_self _) ?_
     refine ah (Bool.not_or_self _) ?_
     refine ah (Bool.not_or_self _) ?_
     refine ah (Bool.not_or_self _) ?_
     refine ah (Bool.not_or_self _) ?_
     refine ah (Bool.not_or_self _) ?_
     refine ah (Bool.not_or_self _) ?_
     refine ah (Bool.not_or_self _) ?_
     refine aI ?_
     refine ah (Bool.not_or_self _) ?_
     refine ah (Bool.not_or_self _) ?_
     refine ah (Bool.not_or_self _) ?_
     refine aR hE 2 rfl ?_ ?_
     ·exact cr ((Ent.rn [0,1] [1,2,3,4,5,6,11,12,15,16] rfl rfl rfl rfl rfl))
     refine bF hE 2 (let x104:=b.zs.getD (i64.wrap (i64.wrap (s33.2*b.f)+s43.2.2)).toNat 0;let x105:=decide (s43.2.2<b.f);fun(s46:List UInt8×Int)=>([(1,V.ptr 1 0 0),(2,V.str (#[]:Array UInt8).toList),(3,V.str s46.1),(4,I s33.2),(5,I s46.2),(6,I s43.2.2),(11,I s33.2),(12,Bb (decide (0<=s33.2))),(15,V.str s33.1),(16,Bb !s33.1==(#[]:Array UInt8).toList),(19,I s43.2.2),(20,V.ptr 1 0 0),(21,V.ptr 1 0 0),(22,I b.f),(23,Bb (decide (s43.2.2<=b.f))),(26,I s43.2.2),(27,V.ptr 1 0 0),(28,V.ptr 1 0 0),(29,I b.f),(30,Bb x105),(31,Bb x105),(44,Bb (x105&&decide (x104=0))),(47,I s43.2.1),(48,Bb (decide (0<s43.2.1)))],[O.ints false i8 b.zs,O.cells true [I b.f,I b.r,V.sl 0 0 b.zs.length none]])) rfl ?_ ?_ (fun s46=>?_)
     ·refine aI ?_
      refine aI ?_
      exact aW ((Ent.rn [0,1] [1,2,3,4,5,6,11,12,15,16,19,20,21,22,23,26,27,28,29,30,31,44,47,48] rfl rfl rfl rfl rfl))
     ·exact aW ((Ent.rn [0,1] [1,2,3,4,5,6,11,12,15,16,19,20,21,22,23,26,27,28,29,30,31,44,47,48] rfl rfl rfl rfl rfl))
     refine bF hE 2 (let x107:=b.zs.getD (i64.wrap (i64.wrap (s33.2*b.f)+s43.2.2)).toNat 0;let x108:=decide (s43.2.2<b.f);fun(s49:List UInt8)=>([(1,V.ptr 1 0 0),(2,V.str (#[]:Array UInt8).toList),(3,V.str s49),(4,I s33.2),(5,I s46.2),(6,I s43.2.2),(11,I s33.2),(12,Bb (decide (0<=s33.2))),(15,V.str s33.1),(16,Bb !s33.1==(#[]:Array UInt8).toList),(19,I s43.2.2),(20,V.ptr 1 0 0),(21,V.ptr 1 0 0),(22,I b.f),(23,Bb (decide (s43.2.2<=b.f))),(26,I s43.2.2),(27,V.ptr 1 0 0),(28,V.ptr 1 0 0),(29,I b.f),(30,Bb x108),(31,Bb x108),(44,Bb (x108&&decide (x107=0))),(47,I s43.2.1),(48,Bb (decide (0<s43.2.1))),(55,I s43.2.2),(56,V.ptr 1 0 0),(57,V.ptr 1 0 0),(58,I b.f),(59,Bb x108)],[O.ints false i8 b.zs,O.cells true [I b.f,I b.r,V.sl 0 0 b.zs.length none]])) rfl ?_ ?_ (fun s49=>?_)
     ·refine aI ?_
      refine fV (pl rfl id) ?_
      refine aI ?_
      exact aW ((Ent.rn [0,1] [1,2,3,4,5,6,11,12,15,16,19,20,21,22,23,26,27,28,29,30,31,44,47,48,55,56,57,58,59] rfl rfl rfl rfl rfl))
     ·exact aW ((Ent.rn [0,1] [1,2,3,4,5,6,11,12,15,16,19,20,21,22,23,26,27,28,29,30,31,44,47,48,55,56,57,58,59] rfl rfl rfl rfl rfl))
     exact cr ((Ent.rn [0,1] [1,2,3,4,5,6,11,12,15,16] rfl rfl rfl rfl rfl))
    exact cH ((Ent.rn [0,1] [1,2,3,4,5,6,11,12,15,16,19,20,21,22,23] rfl rfl rfl rfl rfl))
   exact cr ((Ent.rn [0,1] [1,2,3,4] rfl rfl rfl rfl rfl))
  exact cH ((Ent.rn [0] [2,3] rfl rfl rfl rfl rfl))
 exact aN (aJ [] (.inr rfl) rfl rfl rfl rfl rfl)
theorem oO:CtOk (GGx kCa kDb) PP (117,rB):=by
 refine aF Tryz.func117 (by kernel_rfl) rfl fun a0 h0 c0 v0 N0 e hc=>?_
 unfold rB at e
 split at e
 ·rename_i b_0 b_1 b_2n b_2
  obtain⟨hl,r,hr,rfl,rfl⟩:=bu e hc
  simp only[decide_eq_true_eq]at hl
  obtain rfl:=hl
  exact Bq ⟨b_0,b_1,b_2⟩ hr
 ·cases e
end
def emT(e:Nat):List UInt8:=if e=0 then[] else[UInt8.ofNat (48+e)]
def emI(e:Nat):List Int:=if e=0 then[] else[48+(e:Int)]
def rowG:List Int->Nat->List UInt8
 |[],e=>emT e
 |z::zs,e=>if z=0 then rowG zs (e+1)else emT e++UInt8.ofNat (pLtr z).toNat::rowG zs 0
theorem nG(a b:List Int):dQ (a++b)=dQ a++dQ b:=by simp[dQ]
theorem xH{e:Nat}:dQ (emI e)=emT e:=by
 unfold emI emT
 by_cases h:e=0
 ·rw[if_pos h,if_pos h];rfl
 ·rw[if_neg h,if_neg h]
  show [UInt8.ofNat (48+(e:Int)).toNat]=_
  rw[show (48+(e:Int)).toNat=48+e by omega]
def IQ(l:List Int):Prop:=l=[]\/∃ a x,l=a++[x]/\(x<49\/56<x)
theorem Mz{z:Int}(h:-15<=z/\z<=15)(h0:z≠0):56<pLtr z:=by
 have:∀ k:_root_.Fin 31,(k.val:Int)-15≠0->56<pLtr ((k.val:Int)-15):=by decide
 have:=this ⟨(z+15).toNat,by omega⟩
 rw[show (((⟨(z+15).toNat,by omega⟩:_root_.Fin 31).val:Int)-15)=z by show (((z+15).toNat:Nat):Int)-15=z;omega]at this
 exact this h0
theorem drop_cons{zs:List Int}{i:Nat}(h:i<zs.length):zs.drop i=zs.getD i 0::zs.drop (i+1):=by
 rw[List.drop_eq_getElem_cons h];simp[List.getD,h]
theorem sW(a:List Int)(x:Int):(a++[x]).getD a.length 0=x:=by simp[List.getD]
theorem Ay{zs:List Int}(hl:zs.length<=8)(hz:∀ x∈zs,-15<=x/\x<=15){i:Nat}(hi:i<zs.length){L0:List Int}{e:Nat}(hL:(L0++emI e).length<=i)(hei:e<=i)(hok:IQ L0) :
  iq zs (L0++emI e,(L0++emI e).length,(i:Int))=some (.inl (if zs.getD i 0=0 then(L0++emI (e+1),(L0++emI (e+1)).length,((i+1:Nat):Int)) else(L0++emI e++[pLtr (zs.getD i 0)],(L0++emI e++[pLtr (zs.getD i 0)]).length,((i+1:Nat):Int)))):=by
 have d1:decide ((i:Int)<Int.ofNat zs.length)=true:=decide_eq_true (by simp only[Int.ofNat_eq_natCast];omega)
 have d2:decide ((0:Int)<=i)=true:=decide_eq_true (Int.natCast_nonneg i)
 have hw:i64.wrap ((i:Int)+1)=((i+1:Nat):Int):=by rw[aC (by omega) (by omega)];omega
 have hzi:=hz _ (show zs.getD i 0∈zs by simp[List.getD,hi])
 have d3:decide (((L0++emI e).length+1)*1<=140737488355328)=true:=decide_eq_true (by omega)
 by_cases h0:zs.getD i 0=0
 ·rw[if_pos h0]
  unfold iq
  dsimp only
  rw[Int.toNat_natCast,d1,d2,hw,d3,decide_eq_true h0,decide_eq_true rfl]
  by_cases he:e=0
  ·subst he
   rw[show emI 0=[]from rfl,List.append_nil]at *
   rcases hok with rfl|⟨a,x,rfl,hx⟩
   ·rfl
   ·have hlen:(a++[x]).length=a.length+1:=by simp
    have e1:i64.wrap (Int.ofNat (a++[x]).length-1)=(a.length:Int):=by rw[hlen,aC (by simp only[Int.ofNat_eq_natCast];omega) (by simp only[Int.ofNat_eq_natCast];omega)];simp only[Int.ofNat_eq_natCast];omega
    rw[e1,Int.toNat_natCast,sW]
    have c1:(decide (0<=(a.length:Int))&&decide ((a.length:Int)<Int.ofNat (a++[x]).length))=true:=by rw[hlen];simp only[Int.ofNat_eq_natCast,Bool.and_eq_true,decide_eq_true_eq];omega
    have c2:decide (0<Int.ofNat (a++[x]).length)=true:=by rw[hlen];simp only[Int.ofNat_eq_natCast,decide_eq_true_eq];omega
    have c3:(decide (49<=x)&&decide (x<=56))=false:=by simp only[Bool.and_eq_false_iff,decide_eq_false_iff_not];omega
    rw[c1,c2]
    simp only[Bool.true_and,Bool.not_true,Bool.or_true,aV,cond_true,cond_false,c3]
    rfl
  ·have hem:emI e=[48+(e:Int)]:=if_neg he
   have hem1:emI (e+1)=[48+((e+1:Nat):Int)]:=if_neg (by omega)
   rw[hem]at hL d3
   rw[hem,hem1]
   have hlen:(L0++[48+(e:Int)]).length=L0.length+1:=by simp
   rw[hlen]at hL
   have e1:i64.wrap (Int.ofNat (L0++[48+(e:Int)]).length-1)=(L0.length:Int):=by rw[hlen,aC (by simp only[Int.ofNat_eq_natCast];omega) (by simp only[Int.ofNat_eq_natCast];omega)];simp only[Int.ofNat_eq_natCast];omega
   rw[e1,Int.toNat_natCast,sW]
   have c1:(decide (0<=(L0.length:Int))&&decide ((L0.length:Int)<Int.ofNat (L0++[48+(e:Int)]).length))=true:=by rw[hlen];simp only[Int.ofNat_eq_natCast,Bool.and_eq_true,decide_eq_true_eq];omega
   have c2:decide (0<Int.ofNat (L0++[48+(e:Int)]).length)=true:=by rw[hlen];simp only[Int.ofNat_eq_natCast,decide_eq_true_eq];omega
   have c3:decide (49<=48+(e:Int))=true:=decide_eq_true (by omega)
   have c4:decide (48+(e:Int)<=56)=true:=decide_eq_true (by omega)
   have c5:u8.wrap (48+(e:Int)+1)=48+((e+1:Nat):Int):=by
    have:∀ k:_root_.Fin 9,u8.wrap (48+((k.val:Nat):Int)+1)=48+((k.val+1:Nat):Int):=by decide
    exact this ⟨e,by omega⟩
   have c6:(L0++[48+(e:Int)]).set L0.length (48+((e+1:Nat):Int))=L0++[48+((e+1:Nat):Int)]:=by simp
   rw[c1,c2,c3,c4,c5,c6]
   simp
 ·rw[if_neg h0]
  have hp:pLet (zs.getD i 0)=some (pLtr (zs.getD i 0),0):=by
   unfold pLet
   rw[decide_eq_true hzi.1,decide_eq_true hzi.2,decide_eq_false h0];rfl
  unfold iq
  dsimp only
  rw[Int.toNat_natCast,d1,d2,hw,d3,decide_eq_false h0,hp,aU,Option.getD_some,decide_eq_true rfl]
  rfl
theorem kM{zs:List Int}(hl:zs.length<=8)(hz:∀ x∈zs,-15<=x/\x<=15){F:List Int×Nat->Option (List UInt8)}(hF:∀ L,F (L,L.length)=some (dQ L))(x:Nat):∀ (d i:Nat),i+d=zs.length->∀ (L0:List Int) (e:Nat),(L0++emI e).length<=i->e<=i->IQ L0 ->
  bV (iq zs) F (d+1+x) (L0++emI e,(L0++emI e).length,(i:Int))=some (dQ L0++rowG (zs.drop i) e)
 |0,i,hi,L0,e,_,_,_=>by
  rw[show 0+1+x=x+1 by omega,List.drop_eq_nil_of_le (by omega)]
  rw[cE (x:=(L0++emI e,(L0++emI e).length)) (by
   unfold iq
   dsimp only
   rw[decide_eq_false (show ¬ ((i:Int)<Int.ofNat zs.length) by simp only[Int.ofNat_eq_natCast];omega)]
   rfl),hF,nG,xH]
  rfl
 |d+1,i,hi,L0,e,hL,hei,hok=>by
  have hlt:i<zs.length:=by omega
  have hzi:=hz _ (show zs.getD i 0∈zs by simp[List.getD,hlt])
  rw[show d+1+1+x=(d+1+x)+1 by omega,bN (Ay hl hz hlt hL hei hok),drop_cons hlt]
  have hel:(emI (e+1)).length=1:=by rw[show emI (e+1)=[48+((e+1:Nat):Int)]from if_neg (by omega)];rfl
  by_cases h0:zs.getD i 0=0
  ·rw[if_pos h0,kM hl hz hF x d (i+1) (by omega) L0 (e+1) (by rw[List.length_append]at hL ⊢;omega) (by omega) hok]
   simp only[rowG,if_pos h0]
  ·have:=kM hl hz hF x d (i+1) (by omega) (L0++emI e++[pLtr (zs.getD i 0)]) 0 (by
    rw[show emI 0=[]from rfl,List.append_nil,List.length_append]
    simp only[List.length_singleton];omega) (by omega) (.inr ⟨L0++emI e,_,rfl,.inr (Mz hzi h0)⟩)
   rw[show emI 0=[]from rfl,List.append_nil]at this
   rw[if_neg h0,this]
   simp only[rowG,if_neg h0]
   rw[nG,nG,xH]
   simp[dQ]
theorem FR{zs:List Int}(hl:zs.length<=8)(hz:∀ x∈zs,-15<=x/\x<=15):ux zs=some (rowG zs 0):=by
 have:=kM hl hz (F:=fun(s33:List Int×Nat)=>some (dQ (List.take s33.2 (List.drop 0 s33.1)))) (fun L=>by simp) (999999-zs.length) zs.length 0 (by omega) [] 0 (by simp[emI]) (by omega) (.inl rfl)
 rw[show zs.length+1+(999999-zs.length)=1000000 by omega]at this
 exact this
end Go.Ab
namespace Go.Ab
open Go.Proofs
section
variable{kCa kDb:Bool}
def qC:Int->List UInt8×Int->Option (List UInt8×Int ⊕ List UInt8×Int×Bool ⊕ Int ⊕ Unit ⊕ Int):=fun(s27:Int)=>let x54:=(#[75,81,107,113]:Array UInt8).toList;let x53:=Int.ofNat x54.length;fun(s33:List UInt8×Int)=>let x58:=(s27.fdiv (2^Min.min s33.2.toNat IntKind.i64.bits)).tmod 2;let x59:=decide (s33.2<4);let x60:=decide (0<=s33.2);let x61:=IntKind.i64.wrap (s33.2+1);let x57:=List.take (x61.toNat-s33.2.toNat) (List.drop s33.2.toNat x54);let x56:=s33.1.length+x57.length;bif x59 then aQ x60 (bp (bif decide (x58=1)then aQ (x60&&decide (s33.2<=x61)&&decide (x61<=x53)) (aQ (decide (x56<=4611686018427387904)) (some (Sum.inl (s33.1++x57))))else some (Sum.inl s33.1)) fun(s35:List UInt8)=>some (Sum.inl (s35,x61)))else some (Sum.inr (Sum.inl (s33.1,s33.2,x59)))
def Fz:List UInt8->(Int->List UInt8×Int->Option (List UInt8×Int ⊕ List UInt8×Int×Bool ⊕ Int ⊕ Unit ⊕ Int))->Int->Option (Int ⊕ Unit ⊕ Int):=fun(s:List UInt8) (qC:Int->List UInt8×Int->Option (List UInt8×Int ⊕ List UInt8×Int×Bool ⊕ Int ⊕ Unit ⊕ Int)) (s27:Int)=>bif decide (s27<16)then bV (qC s27) (fun(s45:List UInt8×Int×Bool)=>bp (bif s45.1==(#[]:Array UInt8).toList then some (Sum.inl (#[45]:Array UInt8).toList)else some (Sum.inl s45.1)) fun(s47:List UInt8)=>bif s47==s then escO (escO (some s27))else some (Sum.inl (IntKind.i64.wrap (s27+1)))) 1000000 ((#[]:Array UInt8).toList,0)else some (Sum.inr (Sum.inl ()))
def NI(s:List UInt8):Option (Int):=bV (Fz s qC) (fun(_s52:Unit)=>some (-1)) 1000000 0
def vJ(R:Int):V:=.int .i64 R
def uB(_R:Int):List O:=[]
def vD:CF
 |[.str s_0],[]=>retC true (NI s_0) 0 vJ uB
 |_,_=>none
theorem Da(s:List UInt8){r}(hr:NI s=some r):ay (GGx kCa kDb) PP 100 [.str s] [] (vJ r) (uB r):=by
 have hE:=cutE (aD (kCa:=kCa) (kDb:=kDb) (cts:=[]) (inl:=[]) trivial trivial)
 refine cg hE 2 Tryz.func100 rfl rfl vJ uB hr ?_ rfl rfl
 refine cI hE 2 (fun(s27:Int)=>([(0,V.str s),(2,I 0),(3,I s27)],[])) (fun(s52:Unit)=>([(2,I 0)],[])) (.exit 0) ((Ent.rn [] [0,2,3] rfl rfl rfl rfl rfl)) (fun s27=>?_) (fun s52=>?_)
 ·refine aR hE 2 rfl ?_ ?_
  ·refine cI hE 2 (fun(s33:List UInt8×Int)=>([(0,V.str s),(2,I 0),(3,I s27),(4,V.str s33.1),(5,I s33.2),(6,I s27),(7,Bb (decide (s27<16)))],[])) (fun(s45:List UInt8×Int×Bool)=>([(0,V.str s),(2,I 0),(3,I s27),(4,V.str s45.1),(5,I s45.2.1),(6,I s27),(7,Bb (decide (s27<16))),(10,I s45.2.1),(11,Bb s45.2.2)],[])) (.exit 2) ((Ent.rn [] [0,2,3,4,5,6,7] rfl rfl rfl rfl rfl)) (fun s33=>?_) (fun s45=>?_)
   ·refine aR hE 2 rfl ?_ ?_
    ·refine aI ?_
     refine ah rfl ?_
     refine bF hE 2 (let x74:=s27.fdiv (2^Min.min s33.2.toNat IntKind.i64.bits);let x73:=x74.tmod 2;fun(s35:List UInt8)=>([(0,V.str s),(2,I 0),(3,I s27),(4,V.str s35),(5,I s33.2),(6,I s27),(7,Bb (decide (s27<16))),(10,I s33.2),(11,Bb (decide (s33.2<4))),(14,I s27),(15,I s33.2),(16,I x74),(17,I x73),(18,Bb (decide (x73=1)))],[])) rfl ?_ ?_ (fun s35=>?_)
     ·refine aI ?_
      refine aI ?_
      exact aW ((Ent.rn [] [0,2,3,4,5,6,7,10,11,14,15,16,17,18] rfl rfl rfl rfl rfl))
     ·exact aW ((Ent.rn [] [0,2,3,4,5,6,7,10,11,14,15,16,17,18] rfl rfl rfl rfl rfl))
     exact cr ((Ent.rn [] [0,2,3,4,5,6,7] rfl rfl rfl rfl rfl))
    exact cH ((Ent.rn [] [0,2,3,4,5,6,7,10,11] rfl rfl rfl rfl rfl))
   refine bF hE 2 (fun(s47:List UInt8)=>([(0,V.str s),(2,I 0),(3,I s27),(4,V.str s47),(5,I s45.2.1),(6,I s27),(7,Bb (decide (s27<16))),(10,I s45.2.1),(11,Bb s45.2.2),(25,V.str s45.1),(26,Bb (s45.1==(#[]:Array UInt8).toList))],[])) rfl ?_ ?_ (fun s47=>?_)
   ·exact aW ((Ent.rn [] [0,2,3,4,5,6,7,10,11,25,26] rfl rfl rfl rfl rfl))
   ·exact aW ((Ent.rn [] [0,2,3,4,5,6,7,10,11,25,26] rfl rfl rfl rfl rfl))
   refine aR hE 2 rfl ?_ ?_
   ·refine sQ (by simp) (od ?_)
    exact aN (aJ [] (.inr rfl) rfl rfl rfl rfl rfl)
   exact cr ((Ent.rn [] [0,2,3] rfl rfl rfl rfl rfl))
  exact cH ((Ent.rn [] [2] rfl rfl rfl rfl rfl))
 exact aN (aJ [] (.inr rfl) rfl rfl rfl rfl rfl)
theorem zR:CtOk (GGx kCa kDb) PP (100,vD):=by
 refine aF Tryz.func100 (by kernel_rfl) rfl fun a0 h0 c0 v0 N0 e hc=>?_
 unfold vD at e
 split at e
 ·rename_i s_0
  obtain⟨hl,r,hr,rfl,rfl⟩:=bu e hc
  exact Da s_0 hr
 ·cases e
end
section
variable{kCa kDb:Bool}
def decF(D:Int->Option (List UInt8))(n:Int):Option (List UInt8):=let x6:=(#[48,49,50,51,52,53,54,55,56,57]:Array UInt8).toList;let x7:=IntKind.i64.wrap (n+1);let x5:=Int.ofNat x6.length;bif decide (n<10)then aQ (decide (0<=n)&&decide (n<=x7)&&decide (x7<=x5)) (some (List.take (x7.toNat-n.toNat) (List.drop n.toNat x6)))else bn (D (IntKind.i64.wrap (n.tdiv 10))) [] fun(y3:List UInt8)=>bn (D (n.tmod 10)) [] fun(y4:List UInt8)=>aQ (decide (y3.length+y4.length<=4611686018427387904)) (some (y3++y4))
def decR:Nat->Int->Option (List UInt8)
 |0,_=>none
 |k+1,n=>decF (decR k) n
def yd(R:List UInt8):V:=.str R
def xo(_:List UInt8):List O:=[]
def th(k:Nat):CF
 |[.int .i64 n],[]=>retC true (decR k n) [] yd xo
 |_,_=>none
theorem yV(k:Nat)(ih:CtOk (GGx kCa kDb) PP (98,th k))(n:Int){r}(hr:decF (decR k) n=some r):ay (GGx kCa kDb) PP 98 [.int .i64 n] [] (yd r) (xo r):=by
 have hE:=cutE (aD (kCa:=kCa) (kDb:=kDb) (cts:=[(98,th k)]) (inl:=[]) ⟨ih,trivial⟩ trivial)
 refine cg hE 2 Tryz.func98 rfl rfl yd xo hr ?_ rfl rfl
 refine aR hE 2 rfl ?_ ?_
 ·refine aI ?_
  exact aN (aJ [] (.inr rfl) rfl rfl rfl rfl rfl)
 refine ah rfl ?_
 refine aE (pl rfl id) ?_
 refine ah rfl ?_
 refine aE (pl rfl id) ?_
 refine aI ?_
 exact aN (aJ [] (.inr rfl) rfl rfl rfl rfl rfl)
theorem ug:∀ k,CtOk (GGx kCa kDb) PP (98,th k)
 |0=>by
  refine aF Tryz.func98 (by kernel_rfl) rfl fun a0 h0 c0 v0 N0 e hc=>?_
  unfold th at e
  split at e
  ·obtain⟨hl,r,hr,rfl,rfl⟩:=bu e hc
   cases hr
  ·cases e
 |k+1=>by
  refine aF Tryz.func98 (by kernel_rfl) rfl fun a0 h0 c0 v0 N0 e hc=>?_
  unfold th at e
  split at e
  ·rename_i n
   obtain⟨hl,r,hr,rfl,rfl⟩:=bu e hc
   exact yV k (ug k) n hr
  ·cases e
def decm(n:Int):Option (List UInt8):=decR 8 n
def EC:CF
 |[.int .i64 n],[]=>retC true (decm n) [] yd xo
 |_,_=>none
theorem Dw:CtOk (GGx kCa kDb) PP (98,EC):=by
 refine aF Tryz.func98 (by kernel_rfl) rfl fun a0 h0 c0 v0 N0 e hc=>?_
 unfold EC at e
 split at e
 ·rename_i n
  obtain⟨hl,r,hr,rfl,rfl⟩:=bu e hc
  exact yV 7 (ug 7) n hr
 ·cases e
end
theorem Cm:∀ i:Nat,i<10->List.take ((IntKind.i64.wrap ((i:Int)+1)).toNat-((i:Int)).toNat) (List.drop ((i:Int)).toNat (#[48,49,50,51,52,53,54,55,56,57]:Array UInt8).toList)=[UInt8.ofNat (48+i)]:=by decide +kernel
theorem fm{u:Nat}(h:u<=1000000):(Lib.decDigits u).length<=20:=by
 rw[Lib.decDigits_length]
 by_cases h0:u=0
 ·subst h0;decide +kernel
 ·have:=Lib.numDigits_eq u (by omega) (by omega)
  split at this<;>omega
theorem uE:∀ (k u:Nat),u<10^(k+1)->u<=1000000->decR (k+1) (u:Int)=some (Lib.decDigits u)
 |k,u,hu,hm=>by
  show decF (decR k) (u:Int)=_
  unfold decF
  by_cases h:u<10
  ·have hw:IntKind.i64.wrap ((u:Int)+1)=((u+1:Nat):Int):=by rw[aC (by omega) (by omega)];omega
   rw[decide_eq_true (show ((u:Nat):Int)<10 by omega),cond_true]
   rw[Cm u h,Lib.decDigits_one h,hw]
   rw[decide_eq_true (show (0:Int)<=u by omega),decide_eq_true (show (u:Int)<=((u+1:Nat):Int) by omega),decide_eq_true (show (((u+1:Nat):Int)<=Int.ofNat (#[48,49,50,51,52,53,54,55,56,57]:Array UInt8).toList.length) by simp only[Int.ofNat_eq_natCast];show ((u+1:Nat):Int)<=((10:Nat):Int);omega)]
   rfl
  ·cases k with
   |zero=>omega
   |succ k=>
    have hd:u/10<10^(k+1):=by
     rw[Nat.div_lt_iff_lt_mul (by decide)]
     rw[Nat.pow_succ]at hu
     exact hu
    have hr:u%10<10^(k+1):=Nat.lt_of_lt_of_le (Nat.mod_lt _ (by decide)) (by rw[Nat.pow_succ];exact Nat.le_mul_of_pos_left _ (Nat.pow_pos (by decide)))
    have e1:IntKind.i64.wrap ((u:Int).tdiv 10)=((u/10:Nat):Int):=by
     have:(u:Int).tdiv 10=((u/10:Nat):Int):=by rw[Int.tdiv_eq_ediv_of_nonneg (by omega)];omega
     rw[this,aC (by omega) (by omega)]
    have e2:(u:Int).tmod 10=((u%10:Nat):Int):=by rw[Int.tmod_eq_emod_of_nonneg (by omega)];omega
    rw[decide_eq_false (show ¬ ((u:Nat):Int)<10 by omega),cond_false,e1,e2,uE k (u/10) hd (by omega),uE k (u%10) hr (by omega),aU,aU]
    have l1:=fm (u:=u/10) (by omega)
    have l2:=fm (u:=u%10) (by omega)
    rw[decide_eq_true (show (Lib.decDigits (u/10)).length+(Lib.decDigits (u%10)).length<=4611686018427387904 by omega),aV]
    rw[Lib.decDigits_one (Nat.mod_lt u (by decide:0<10))]
    conv=>rhs;rw[Lib.decDigits,dif_neg h]
theorem qn{n:Int}(h0:0<=n)(h1:n<=1000000):decm n=some (Lib.decDigits n.toNat):=by
 have:=uE 7 n.toNat (by omega) (by omega)
 rw[show ((n.toNat:Nat):Int)=n by omega]at this
 exact this
theorem mb{n:Int}(h0:0<=n)(h1:n<=1000000):cX n=some (Lib.decDigits n.toNat):=by
 unfold cX
 rw[decide_eq_true h0,decide_eq_true h1];rfl
end Go.Ab
namespace Go.Ab
open IntKind
open Go.Proofs
section
theorem Ga:∀ k:_root_.Fin 31,(k.val:Int)-15≠0->gq ((k.val:Int)-15)=some (pLtr ((k.val:Int)-15)):=by decide +kernel
theorem Lt{z:Int}(h:-15<=z/\z<=15)(h0:z≠0):gq z=some (pLtr z):=by
 have:=Ga ⟨(z+15).toNat,by omega⟩
 rw[show (((⟨(z+15).toNat,by omega⟩:_root_.Fin 31).val:Int)-15)=z by show (((z+15).toNat:Nat):Int)-15=z;omega]at this
 exact this h0
theorem Cl:∀ e:Nat,e<9->List.take (((e+1:Nat):Int).toNat-((e:Nat):Int).toNat) (List.drop ((e:Nat):Int).toNat (#[48,49,50,51,52,53,54,55,56]:Array UInt8).toList)=[UInt8.ofNat (48+e)]:=by decide +kernel
def rowL(zs:List Int)(F r:Nat):List Int:=(zs.drop (r*F)).take F
theorem Gf{zs:List Int}{F r f:Nat}(hf:f<F):(rowL zs F r).getD f 0=zs.getD (r*F+f) 0:=by
 simp[rowL,List.getD,hf,List.getElem?_drop]
theorem gY{zs:List Int}{F r:Nat}(h:r*F+F<=zs.length):(rowL zs F r).length=F:=by
 unfold rowL;rw[List.length_take,List.length_drop];omega
theorem wz(e:Nat):(emT e).length<=1:=by unfold emT;split<;>simp
theorem jd:∀ (l:List Int) (e:Nat),(rowG l e).length<=2*l.length+1
 |[],e=>by have:=wz e;simp only[rowG,List.length_nil];omega
 |z::l,e=>by
  unfold rowG
  split
  ·have:=jd l (e+1);rw[List.length_cons];omega
  ·have:=jd l 0
   have:=wz e
   rw[List.length_append,List.length_cons,List.length_cons];omega
theorem EB:∀ (l:List Int) (e:Nat),l≠[]\/e≠0->rowG l e≠[]
 |[],e,h=>by
  unfold rowG emT
  rw[if_neg (h.resolve_left (by simp))];simp
 |z::l,e,_=>by
  unfold rowG
  split
  ·exact EB l (e+1) (.inr (by omega))
  ·simp
section
variable{zs:List Int}{F R r:Nat}(hF:F<=8)(hR:R<=8)(hr:r<R)(hn:zs.length=R*F)(hz:∀ x∈zs,-15<=x/\x<=15)
include hF hR hr hn hz in
theorem AA{o0 out:List UInt8}{e f:Nat}(hf:f<F)(he:e<=f)(ho:out.length<=1000):cF ⟨(F:Int),(R:Int),zs⟩ (o0,(r:Int)) (out,(e:Int),(f:Int)) =
  some (.inl (if(rowL zs F r).getD f 0=0 then(out,((e+1:Nat):Int),((f+1:Nat):Int)) else(out++emT e++[UInt8.ofNat (pLtr ((rowL zs F r).getD f 0)).toNat],0,((f+1:Nat):Int)))):=by
 have hrF:r*F+F<=R*F:=by
  have:=Nat.mul_le_mul_right F (show r+1<=R by omega)
  rw[Nat.add_mul,Nat.one_mul]at this;exact this
 have hRF:R*F<=64:=Nat.mul_le_mul hR hF
 have e1:i64.wrap ((r:Int)*(F:Int))=((r*F:Nat):Int):=by rw[<-Int.natCast_mul,aC (by omega) (by omega)]
 have e2:i64.wrap (((r*F:Nat):Int)+(f:Int))=((r*F+f:Nat):Int):=by rw[aC (by omega) (by omega)];omega
 have e3:i64.wrap ((e:Int)+1)=((e+1:Nat):Int):=by rw[aC (by omega) (by omega)];omega
 have e4:i64.wrap ((f:Int)+1)=((f+1:Nat):Int):=by rw[aC (by omega) (by omega)];omega
 have d1:decide ((f:Int)<(F:Int))=true:=decide_eq_true (by omega)
 have d2:decide ((f:Int)<=(F:Int))=true:=decide_eq_true (by omega)
 have d3:(decide ((0:Int)<=((r*F+f:Nat):Int))&&decide (((r*F+f:Nat):Int)<Int.ofNat zs.length))=true:=by simp only[Int.ofNat_eq_natCast,Bool.and_eq_true,decide_eq_true_eq];omega
 have hzi:=hz _ (show zs.getD (r*F+f) 0∈zs by simp[List.getD,show r*F+f<zs.length by omega])
 rw[Gf hf]
 unfold cF
 dsimp only
 rw[e1,e2,e3,e4,d1,d2,d3,Int.toNat_natCast]
 by_cases h0:zs.getD (r*F+f) 0=0
 ·rw[if_pos h0,decide_eq_true h0];rfl
 ·rw[if_neg h0,decide_eq_false h0,Lt hzi h0,Option.getD_some]
  have hx:dQ (List.take 1 (List.drop 0 (iL [pLtr (zs.getD (r*F+f) 0)])))=[UInt8.ofNat (pLtr (zs.getD (r*F+f) 0)).toNat]:=rfl
  rw[hx]
  by_cases h1:e=0
  ·subst h1
   rw[decide_eq_false (show ¬ (0:Int)<((0:Nat):Int) by omega)]
   simp only[Bool.not_true,Bool.false_or,aV,cond_true,cond_false,Bool.and_false,List.length_singleton,bp,aU]
   rw[decide_eq_true (show out.length+1<=4611686018427387904 by omega)]
   simp[aV,emT]
  ·rw[decide_eq_true (show (0:Int)<(e:Int) by omega),Cl e (by omega)]
   have he1:emT e=[UInt8.ofNat (48+e)]:=if_neg h1
   rw[decide_eq_true (show (0:Int)<=(e:Int) by omega),decide_eq_true (show (e:Int)<=((e+1:Nat):Int) by omega),decide_eq_true (show ((e+1:Nat):Int)<=Int.ofNat (#[48,49,50,51,52,53,54,55,56]:Array UInt8).toList.length by show ((e+1:Nat):Int)<=((9:Nat):Int);omega)]
   simp only[Bool.not_true,Bool.false_or,aV,cond_true,cond_false,Bool.and_false,Bool.and_self,List.length_singleton]
   rw[decide_eq_true (show out.length+1<=4611686018427387904 by omega)]
   simp only[aV,bp,aU,List.length_append,List.length_singleton]
   rw[decide_eq_true (show out.length+1+1<=4611686018427387904 by omega)]
   simp[aV,he1]
include hF in
theorem GA{o0 out:List UInt8}{e:Nat}(he:e<=F)(ho:out.length<=1000):cF ⟨(F:Int),(R:Int),zs⟩ (o0,(r:Int)) (out,(e:Int),(F:Int))=some (.inl (out++emT e,0,((F+1:Nat):Int))):=by
 have e3:i64.wrap ((e:Int)+1)=((e+1:Nat):Int):=by rw[aC (by omega) (by omega)];omega
 have e4:i64.wrap ((F:Int)+1)=((F+1:Nat):Int):=by rw[aC (by omega) (by omega)];omega
 unfold cF
 dsimp only
 rw[e3,e4,decide_eq_false (show ¬ (F:Int)<(F:Int) by omega),decide_eq_true (show (F:Int)<=(F:Int) by omega)]
 by_cases h1:e=0
 ·subst h1
  rw[decide_eq_false (show ¬ (0:Int)<((0:Nat):Int) by omega)]
  simp[aV,emT,bp]
 ·rw[decide_eq_true (show (0:Int)<(e:Int) by omega),Cl e (by omega)]
  have he1:emT e=[UInt8.ofNat (48+e)]:=if_neg h1
  rw[decide_eq_true (show (0:Int)<=(e:Int) by omega),decide_eq_true (show (e:Int)<=((e+1:Nat):Int) by omega),decide_eq_true (show ((e+1:Nat):Int)<=Int.ofNat (#[48,49,50,51,52,53,54,55,56]:Array UInt8).toList.length by show ((e+1:Nat):Int)<=((9:Nat):Int);omega)]
  simp only[Bool.not_false,Bool.true_or,aV,cond_true,cond_false,Bool.false_and,Bool.and_self,List.length_singleton]
  rw[decide_eq_true (show out.length+1<=4611686018427387904 by omega)]
  simp[aV,he1,bp]
include hF hR hr hn hz in
theorem mO{o0:List UInt8}{G:List UInt8×Int×Int×Bool->Option (List UInt8×Int ⊕ List UInt8 ⊕ List UInt8)}(x:Nat):∀ (d f:Nat),f+d=F->∀ (out:List UInt8) (e:Nat),e<=f->out.length+2*d<=900 ->
  bV (cF ⟨(F:Int),(R:Int),zs⟩ (o0,(r:Int))) G (d+2+x) (out,(e:Int),(f:Int))=G (out++rowG ((rowL zs F r).drop f) e,0,((F+1:Nat):Int),false)
 |0,f,hfd,out,e,hef,ho=>by
  obtain rfl:f=F:=by omega
  have hrF:r*f+f<=R*f:=by
   have:=Nat.mul_le_mul_right f (show r+1<=R by omega)
   rw[Nat.add_mul,Nat.one_mul]at this;exact this
  rw[show 0+2+x=(0+x+1)+1 by omega,bN (GA hF hef (by omega)),List.drop_eq_nil_of_le (by rw[gY (by omega)];omega)]
  refine cE ?_
  unfold cF
  dsimp only
  rw[decide_eq_false (show ¬ ((f+1:Nat):Int)<=(f:Int) by omega)]
  rfl
 |d+1,f,hfd,out,e,hef,ho=>by
  have hlt:f<F:=by omega
  have hrF:r*F+F<=R*F:=by
   have:=Nat.mul_le_mul_right F (show r+1<=R by omega)
   rw[Nat.add_mul,Nat.one_mul]at this;exact this
  rw[show d+1+2+x=(d+2+x)+1 by omega,bN (AA hF hR hr hn hz hlt hef (by omega)),drop_cons (zs:=rowL zs F r) (by rw[gY (by omega)];exact hlt)]
  by_cases h0:(rowL zs F r).getD f 0=0
  ·rw[if_pos h0,mO x d (f+1) (by omega) out (e+1) (by omega) (by omega)]
   simp only[rowG,if_pos h0]
  ·have hem:=wz e
   have:=mO (o0:=o0) (G:=G) x d (f+1) (by omega) (out++emT e++[UInt8.ofNat (pLtr ((rowL zs F r).getD f 0)).toNat]) 0 (by omega) (by simp only[List.length_append,List.length_singleton];omega)
   rw[if_neg h0]
   refine Eq.trans this ?_
   simp only[rowG,if_neg h0]
   simp
end
def sepA(out:List UInt8):List UInt8:=if out=[] then[]else out++[47]
def bdT(zs:List Int)(F:Nat):Nat->List UInt8->List UInt8
 |0,out=>out
 |n+1,out=>bdT zs F n (sepA out++rowG (rowL zs F n) 0)
section
variable{zs:List Int}{F R:Nat}(hF:F<=8)(hR:R<=8)(hn:zs.length=R*F)(hz:∀ x∈zs,-15<=x/\x<=15)
include hF hR hn hz in
theorem KN{n:Nat}(hnR:n<R){out:List UInt8}(ho:out.length<=400):jq ⟨(F:Int),(R:Int),zs⟩ cF (out,(n:Int))=some (.inl (sepA out++rowG (rowL zs F n) 0,(n:Int)-1)):=by
 have e1:i64.wrap ((n:Int)-1)=(n:Int)-1:=aC (by omega) (by omega)
 unfold jq
 dsimp only
 rw[decide_eq_true (show (0:Int)<=(n:Int) by omega),cond_true,e1]
 have hj:(bp (bif !out==(#[]:Array UInt8).toList then aQ (decide (out.length+(#[47]:Array UInt8).toList.length<=4611686018427387904)) (some (Sum.inl (out++(#[47]:Array UInt8).toList)))else some (Sum.inl out)) fun(s35:List UInt8)=>bV (cF ⟨(F:Int),(R:Int),zs⟩ (out,(n:Int))) (fun(s62:List UInt8×Int×Int×Bool)=>some (Sum.inl (s62.1,(n:Int)-1))) 1000000 (s35,0,0))
   = bV (cF ⟨(F:Int),(R:Int),zs⟩ (out,(n:Int))) (fun(s62:List UInt8×Int×Int×Bool)=>(some (Sum.inl (s62.1,(n:Int)-1)):Option (List UInt8×Int ⊕ List UInt8 ⊕ List UInt8))) 1000000 (sepA out,0,0):=by
  unfold sepA
  by_cases h:out=[]
  ·rw[if_pos h,h];rfl
  ·rw[if_neg h]
   have:(!out==(#[]:Array UInt8).toList)=true:=by
    rw[Bool.not_eq_true',beq_eq_false_iff_ne];exact h
   rw[this,cond_true,decide_eq_true (show out.length+(#[47]:Array UInt8).toList.length<=4611686018427387904 by show out.length+1<=_;omega),aV]
   rfl
 refine hj.trans ?_
 have hs:(sepA out).length<=401:=by unfold sepA;split<;>simp<;>omega
 have:=mO (R:=R) hF hR hnR hn hz (o0:=out) (G:=fun(s62:List UInt8×Int×Int×Bool)=>(some (Sum.inl (s62.1,(n:Int)-1)):Option (List UInt8×Int ⊕ List UInt8 ⊕ List UInt8))) (999998-F) F 0 (by omega) (sepA out) 0 (by omega) (by omega)
 rw[show F+2+(999998-F)=1000000 by omega,List.drop_zero]at this
 exact this
include hF hR hn hz in
theorem Cn(x:Nat):∀ (n:Nat),n<=R->∀ (out:List UInt8),out.length+20*n<=400->bV (jq ⟨(F:Int),(R:Int),zs⟩ cF) (fun(s70:List UInt8)=>some s70) (n+1+x) (out,(n:Int)-1)=some (bdT zs F n out)
 |0,_,out,_=>by
  rw[show 0+1+x=x+1 by omega]
  rw[cE (x:=out) (by
   unfold jq
   dsimp only
   rw[decide_eq_false (show ¬ (0:Int)<=((0:Nat):Int)-1 by omega)]
   rfl)]
  rfl
 |n+1,hnR,out,ho=>by
  have hrF:n*F+F<=R*F:=by
   have:=Nat.mul_le_mul_right F hnR
   rw[Nat.add_mul,Nat.one_mul]at this;exact this
  have hg:=jd (rowL zs F n) 0
  rw[gY (by omega)]at hg
  have hs:(sepA out).length<=out.length+1:=by unfold sepA;split<;>simp
  rw[show n+1+1+x=(n+1+x)+1 by omega,show ((n+1:Nat):Int)-1=(n:Int) by omega,bN (KN hF hR hn hz (by omega) (by omega)),Cn x n (by omega) _ (by rw[List.length_append];omega)]
  rfl
include hF hR hn hz in
theorem FM:Am ⟨(F:Int),(R:Int),zs⟩=some (bdT zs F R []):=by
 unfold Am
 rw[show i64.wrap ((R:Int)-1)=(R:Int)-1 from aC (by omega) (by omega)]
 have:=Cn hF hR hn hz (999999-R) R (Nat.le_refl _) [] (by simp;omega)
 rw[show R+1+(999999-R)=1000000 by omega]at this
 exact this
end
end
end Go.Ab
namespace Go.Ab
open Go.Proofs
theorem join_cons(s:List UInt8)(t:List UInt8):∀ T:List (List UInt8),Lib.join (t::T) s=t++T.flatMap fun x=>s++x
 |[]=>by simp[Lib.join,List.intercalate]
 |u::T=>by
  have:=join_cons s u T
  simp only[Lib.join,List.intercalate,List.intersperse_cons_cons,List.flatten_cons,List.flatMap_cons]at this ⊢
  rw[this];simp
theorem Im{zs:List Int}{F:Nat}(g:Nat->List UInt8)(hg:∀ n,g n=rowG (rowL zs F n) 0):∀ (n:Nat) (out:List UInt8),out≠[]->bdT zs F n out=out++((List.range n).reverse.map g).flatMap fun x=>[47]++x
 |0,out,_=>by simp[bdT]
 |n+1,out,h=>by
  unfold bdT
  rw[show sepA out=out++[47]from if_neg h,Im g hg n _ (by simp),List.range_succ,List.reverse_append,<-hg]
  simp
theorem wT{zs:List Int}{F R:Nat}(hR:0<R)(hF:0<F)(hn:zs.length=R*F):bdT zs F R []=Lib.join ((List.range R).reverse.map fun n=>rowG (rowL zs F n) 0) [47]:=by
 obtain⟨n,rfl⟩:∃ n,R=n+1:=⟨R-1,by omega⟩
 have hl:(rowL zs F n).length=F:=gY (by rw[hn,Nat.add_mul,Nat.one_mul];omega)
 unfold bdT
 rw[show sepA []=[]from rfl,List.nil_append,Im (fun n=>rowG (rowL zs F n) 0) (fun _=>rfl) n _ (EB _ _ (.inl (by intro e;rw[e]at hl;simp at hl;omega))),List.range_succ,List.reverse_append]
 simp only[List.reverse_singleton,List.singleton_append,List.map_cons]
 rw[join_cons]
 rfl
theorem yR(s:List UInt8)(M:Nat):∀ T:List (List UInt8),(∀ t∈T,t.length<=M)->(Lib.join T s).length<=T.length*(M+s.length)
 |[],_=>by simp[Lib.join,List.intercalate]
 |t::T,h=>by
  rw[join_cons,List.length_append,List.length_cons,Nat.add_mul,Nat.one_mul]
  have h1:=h t (by simp)
  have:∀ T:List (List UInt8),(∀ t∈T,t.length<=M)->(T.flatMap fun x=>s++x).length<=T.length*(M+s.length):=by
   intro T
   induction T with
   |nil=>intro _;simp
   |cons u T ih=>
    intro h
    have h2:=h u (by simp)
    have h3:=ih fun t ht=>h t (by simp[ht])
    rw[List.flatMap_cons,List.length_append,List.length_append,List.length_cons,Nat.add_mul,Nat.one_mul]
    omega
  have h4:=this T fun t ht=>h t (by simp[ht])
  omega
theorem Iu:∀ l:List (List UInt8),rZ (l.map fun t=>[V.str t])=some l
 |[]=>rfl
 |t::l=>by simp only[List.map_cons,rZ,Iu l]
theorem yE{l:List (List UInt8)}{s:List UInt8}{M:Nat}(h1:l.length<=100)(h2:∀ t∈l,t.length<=M)(h3:M<=1000)(h4:s.length<=10):cQ (l.map fun t=>[V.str t]) s=some (Lib.join l s):=by
 have h:=yR s M l h2
 have:l.length*(M+s.length)<=100*1010:=Nat.mul_le_mul h1 (by omega)
 unfold cQ
 rw[Iu]
 dsimp only
 rw[decide_eq_true (show l.length<=100000 by omega),decide_eq_true (show (Lib.join l s).length<=140737488355328 by omega)]
 rfl
def ckHc(zs:List Int)(k:Int):List O:=[.cells false [.sl 3 0 zs.length none],.cells false [I k],.ints false .i8 zs]
def KM(k:Nat)(j:Nat):List V:=[.sl 52 (j*k) k (some k)]
theorem FO{kCa kDb:Bool}(zs:List Int)(k m:Nat)(hk:0<k)(hn:zs.length=m*k)(hs:zs.length<=100000):SqH (GGx kCa kDb) PP 194 (ckHc zs k) [.ptr 1 0 0,.ptr 2 0 0] [] ((List.range m).map fun j=>(KM k j,([]:List O))):=by
 have hE:=aD (kCa:=kCa) (kDb:=kDb) (cts:=[]) (inl:=[]) trivial trivial
 refine ox hE Tryz.func194 rfl rfl rfl rfl rfl fun nn l0 S0 ρc J ok=>?_
 refine YH.seq (YH.seg hE 2 ?_)
 refine af ?_
 refine YH.block (YH.loop (fun a:Nat×Bool=>((some a.1,a.2),[(0,.yl 0),(1,.ptr 1 0 0),(2,.ptr 2 0 0),(4,I ((a.1*k:Nat):Int))],
   [.gone,.cells false [.sl 3 0 zs.length none],.cells false [I k],.ints false .i8 zs]))
  (fun a=>a.1<=m) (fun a=>m-a.1) (0,false) rfl ?_ (Nat.zero_le _) ?_)
 ·rw[show (0*k:Nat)=0 from Nat.zero_mul k]
  exact Ent.ren [0,1,2,3] [0,1,2,4] rfl rfl rfl
 rintro⟨j,hd⟩ i1
 cases hd
 all_goals
  dsimp only at i1 ⊢
  refine YH.seq (YH.seg hE 2 ?_)
  repeat (first|refine ai ?_|refine sat_nd ?_)
  refine aq (fun h1=>af ?_) (fun h1=>af ?_)
  ·have h2:j*k<zs.length:=by have:=of_decide_eq_true h1;omega
   have hj:j<m:=by rw[hn]at h2;exact Nat.lt_of_mul_lt_mul_right h2
   have h3:j*k+k<=zs.length:=by rw[hn,<-Nat.succ_mul];exact Nat.mul_le_mul_right k hj
   have hw:((zs.length:Nat):Int).toNat-((j*k:Nat):Int).toNat=zs.length-j*k:=by omega
   refine YH.seq (YH.block (YH.seq (YH.seg hE 2 ?_)))
   repeat (first|refine ai ?_|refine ag (by first|rfl|exact tt1 _ _|exact tt5 _ _|(simp;done)|(simp;omega)) ?_)
   refine af ?_
   have hmin:imax false (k:Int) (((Option.none.getD (zs.length:Int)).toNat-((some ((j*k:Nat):Int)).getD 0).toNat:Nat):Int)=(k:Int):=by
    have:((Option.none.getD (zs.length:Int)).toNat-((some ((j*k:Nat):Int)).getD 0).toNat:Nat)=zs.length-j*k:=hw
    rw[this]
    unfold imax
    rw[show decide (((zs.length-j*k:Nat):Int)<(k:Int))=false by simp;omega]
    rfl
   have hwr:IntKind.i64.wrap (((j*k:Nat):Int)+(k:Int))=((j*k+k:Nat):Int):=by rw[aC (by omega) (by omega)];omega
   rw[hmin]
   refine YH.seq (YH.yregAt ok 2 10 rfl rfl rfl ?_)
   refine ag (b:=?B) ?hB ?_
   case hB=>rw[hwr];simp;omega
   refine af ?_
   refine⟨j,KM k j,[],[0,1,2,4],[],_,rfl,by rw[List.getElem?_map,List.getElem?_range hj];rfl,rfl,rfl,rfl,?_,rfl,rfl,rfl,rfl,fun b=>?_⟩
   ·have e1:(IntKind.i64.wrap (((j*k:Nat):Int)+(k:Int))).toNat-((some ((j*k:Nat):Int)).getD 0).toNat=k:=by
     rw[hwr];show (j*k+k)-(j*k)=k;omega
    have e2:renL (padY [] 3) [V.sl 3 (j*k) k (some k)]=some [.sl 52 (j*k) k (some k)]:=rfl
    refine Eq.trans (congrArg (renL (padY [] 3)) ?_) e2
    show [V.sl 3 (addN 0 (j*k)) ((IntKind.i64.wrap (((j*k:Nat):Int)+(k:Int))).toNat-((some ((j*k:Nat):Int)).getD 0).toNat) (some ((IntKind.i64.wrap (((j*k:Nat):Int)+(k:Int))).toNat-((some ((j*k:Nat):Int)).getD 0).toNat))]=_
    rw[e1]
    rfl
   cases b with
   |true=>
    repeat (first|refine ai ?_|refine ag (by first|rfl|exact tt1 _ _|exact tt5 _ _|(simp;done)|(simp;omega)) ?_)
    refine af ?_
    refine YH.seg hE 2 ?_
    repeat (first|refine ai ?_|refine ag (by first|rfl|exact tt1 _ _|exact tt5 _ _|(simp;done)|(simp;omega)) ?_)
    refine af ?_
    refine YH.seg hE 2 ?_
    repeat (first|refine ai ?_|refine ag (by first|rfl|exact tt1 _ _|exact tt5 _ _|(simp;done)|(simp;omega)) ?_)
    refine af ⟨(j+1,true),hj,by dsimp only;omega,rfl,?_⟩
    dsimp only
    rw[hwr,show (j+1)*k=j*k+k from Nat.succ_mul j k]
    exact Ent.ren [0,1,2,3] [0,1,2,4] rfl rfl rfl
   |false=>
    repeat (first|refine ai ?_|refine ag (by first|rfl|exact tt1 _ _|exact tt5 _ _|(simp;done)|(simp;omega)) ?_)
    refine af ?_
    refine YH.seg hE 2 ?_
    repeat (first|refine ai ?_|refine ag (by first|rfl|exact tt1 _ _|exact tt5 _ _|(simp;done)|(simp;omega)) ?_)
    exact af ⟨.inr rfl,.inr rfl⟩
  ·have h2:¬ j*k<zs.length:=by have:=of_decide_eq_false h1;omega
   have hj:j=m:=by
    rcases Nat.lt_or_ge j m with h|h
    ·exact absurd (by rw[hn];exact Nat.mul_lt_mul_of_pos_right h hk) h2
    ·omega
   refine⟨.inl rfl,.inl ?_⟩
   dsimp only
   rw[hj,List.length_map,List.length_range]
end Go.Ab
set_option maxHeartbeats 40000000
namespace Go.Ab
open Go.Proofs
def strR(l:List (List UInt8)):List (List V):=l.map fun t=>[V.str t]
theorem Gt(l:List (List UInt8)):(strR l).length=l.length:=List.length_map _
theorem wS(l:List (List UInt8))(t:List UInt8):strR l++[[V.str t]]=strR (l++[t]):=by simp[strR]
theorem pB(bs:List Nat):∀ l:List (List UInt8),tX bs (strR l)=some (strR l)
 |[]=>rfl
 |t::l=>by
  show (match renL bs [V.str t] with|some r=>(match tX bs (strR l) with|some l=>some (r::l)|none=>none)|none=>none)=_
  rw[pB bs l];rfl
theorem Fv{bs:List Nat}{w:Bool}{m:Nat}(l:List (List UInt8)):O.ren bs (.vals w m (strR l))=some (.vals w m (strR l)):=by
 show (match tX bs (strR l) with|some rs=>some (O.vals w m rs)|none=>none)=_
 rw[pB]
theorem Fw{bs:List Nat}{w:Bool}{m:Nat}(l:List (List UInt8))(t:List UInt8):O.ren bs (.vals w m (strR l++[[V.str t]]))=some (.vals w m (strR l++[[V.str t]])):=by
 rw[wS];exact Fv _
theorem eu{bs r:List Nat}{hp l:List O}{b:Nat}{o:O}(h1:O.ren bs (hp.getD b .gone)=some o)(h2:jo bs hp r=some l):jo bs hp (b::r)=some (o::l):=by
 rw[jo,h1,h2]
def pbS(zs:List Int)(k:Nat)(j:Nat)(s:List (List UInt8)):Option (List (List UInt8)):=
 match ux ((zs.drop (j*k)).take k) with
 |some t=>bif decide (((strR s).length+1)*16<=140737488355328)&&decide (j*k+k<=zs.length)then some (s++[t])else none
 |none=>none
def pbJ(l:List (List UInt8)):Option (List UInt8×Int):=bn (cQ (strR l) [47]) [] fun t=>some (t,0)
def pbF:List (List UInt8)->Option (List UInt8×Int)
 |[a,b,c]=>pbJ [c,b,a]
 |[a,b,c,d]=>pbJ [d,c,b,a]
 |[a,b,c,d,e]=>pbJ [e,d,c,b,a]
 |[a,b,c,d,e,f]=>pbJ [f,e,d,c,b,a]
 |[a,b,c,d,e,f,g]=>pbJ [g,f,e,d,c,b,a]
 |[a,b,c,d,e,f,g,h]=>pbJ [h,g,f,e,d,c,b,a]
 |_=>none
def yo(k m:Nat)(zs:List Int):Option (List UInt8×Int):=kS (pbS zs k) pbF (List.range m) []
theorem zH{kCa kDb:Bool}(k m:Nat)(zs:List Int)(hk:0<k)(hn:zs.length=m*k)(hs:zs.length<=100000)(hv:aL k m zs=true){r}(hr:yo k m zs=some r) :
  ay (GGx kCa kDb) PP 139 [.agg [I (k:Int),I (m:Int),.sl 0 0 zs.length none]] [.ints false .i8 zs] (.tup [.str r.1,I r.2]) []:=by
 have hE:=aD (kCa:=kCa) (kDb:=kDb) (cts:=[(83,fU),(163,wE),(165,qk)]) (inl:=[(162,Tryz.f162),(164,Tryz.f164)]) ⟨eK,zx,pM,trivial⟩ ⟨⟨Tryz.func162,by kernel_rfl⟩,⟨Tryz.func164,by kernel_rfl⟩,trivial⟩
 have e1:List.take zs.length (List.drop 0 zs)=zs:=by rw[List.drop_zero,List.take_length]
 refine cg hE 3 Tryz.func139 rfl rfl (fun r=>.tup [.str r.1,I r.2]) (fun _=>[]) hr ?_ rfl rfl
 refine ah (by rw[e1];simp;omega) ?_
 refine dU (by rw[e1,hv];rfl) ?_
 refine dU (by simp;omega) ?_
 refine ED hE 3 5 (fun s=>[.ints false .i8 zs,.cells true [I (k:Int),I (m:Int),.sl 0 0 zs.length none],.cells true [.sl 5 0 (strR s).length none],.cells true [.sl 0 0 zs.length none],.cells true [I (k:Int)],.vals true 1 (strR s)])
  (List.range m) (KM k) (fun _=>[]) (ckHc zs k) [.ptr 1 0 0,.ptr 2 0 0] (fun j s=>(5,.sl 0 (j*k) k (some k))::putPs (#[15]:Array Nat).toList [.sl 0 (j*k) k (some k)] [(2,.str []),(3,I 0),(4,.ptr 2 0 0),(14,.fn 194 [.ptr 3 0 0,.ptr 4 0 0])]) (fun _ s=>[.ints false .i8 zs,.cells true [I (k:Int),I (m:Int),.sl 0 0 zs.length none],.cells true [.sl 5 0 (strR s).length none],.cells true [.sl 0 0 zs.length none],.cells true [I (k:Int)],.vals true 1 (strR s)]) [3,4,0] [2,3,4,14]
  (tm1:=[(2,.str []),(3,I 0),(4,.ptr 2 0 0),(14,.fn 194 [.ptr 3 0 0,.ptr 4 0 0])])
  ((Ent.phC 2 0 (.vals true 1 []) rfl rfl rfl rfl rfl).trans (Ent.rn [0,1,2,3,4,5] [2,3,4,14] rfl rfl rfl rfl rfl)) (FO zs k m hk hn hs) (fun _=>⟨rfl,Nat.zero_le _⟩) (ent Tryz.func194 (by kernel_rfl) rfl) rfl rfl rfl rfl rfl rfl rfl rfl rfl rfl (fun s=>AR rfl rfl rfl rfl) (fun j s=>rfl) (fun j s=>?_) (fun s=>?_)
 ·intro s' hs'
  unfold pbS at hs'
  split at hs'
  ·rename_i t ht
   rw[cond_eq_ite]at hs'
   split at hs'
   ·rename_i hc
    cases hs'
    simp only[Bool.and_eq_true,decide_eq_true_eq]at hc
    have hlen:k=((zs.drop (j*k)).take k).length:=by rw[List.length_take,List.length_drop];omega
    ·have h1:(ux ((zs.drop (j*k)).take k)).isSome=true:=by rw[ht];rfl
     have h2:decide (((strR s).length+1)*16<=140737488355328)=true:=decide_eq_true hc.1
     have h3:decide (k=((zs.drop (j*k)).take k).length)=true:=decide_eq_true hlen
     have h4:decide ((strR s).length=(strR s).length)=true:=decide_eq_true rfl
     refine ag rfl ?_
     refine ag (pa h3 h1) ?_
     refine ag (pa (pa h4 h2) rfl) ?_
     have h5:(ux ((zs.drop (j*k)).take k)).getD []=t:=by rw[ht];rfl
     clear ht hs
     subst h5
     refine af ⟨rfl,?_⟩
     rw[<-wS]
     exact Ent.ren [0,1,2,3,4,7] [] (eu rfl (eu rfl (eu rfl (eu rfl (eu rfl (eu (Fw _ _) rfl)))))) rfl rfl
   ·cases hs'
  ·cases hs'
 ·match s with
  |[]|[_]|[_,_]|_::_::_::_::_::_::_::_::_::_=>exact Jd
  |[a,b,c]=>
   intro r' hr'
   change bn (cQ (strR [c,b,a]) [47]) [] (fun t=>some (t,0))=some r' at hr'
   cases hj:cQ (strR [c,b,a]) [47] with
   |none=>rw[hj]at hr';cases hr'
   |some tt=>
   rw[hj]at hr'
   cases hr'
   refine bW hE 3 3 (rnd ?_)
   refine aq (fun _=>?_) (fun h=>by cases(show true=false from h))
   repeat refine ag rfl ?_
   refine af ?_
   refine cn (rnd ?_)
   refine aq (fun h=>by cases(show false=true from h)) (fun _=>?_)
   refine af ?_
   change sat _ _ _ _
   refine ag (b:=?B0) ?_ ?_
   ·exact pa rfl (show (cQ (strR [c,b,a]) [47]).isSome=true by rw[hj];rfl)
   refine af ?_
   refine aJ [] (.inr rfl) rfl rfl rfl rfl ?_
   show V.tup [V.str ((cQ (strR [c,b,a]) [47]).getD []),I 0]=_
   rw[hj]
  |[a,b,c,d]=>
   intro r' hr'
   change bn (cQ (strR [d,c,b,a]) [47]) [] (fun t=>some (t,0))=some r' at hr'
   cases hj:cQ (strR [d,c,b,a]) [47] with
   |none=>rw[hj]at hr';cases hr'
   |some tt=>
   rw[hj]at hr'
   cases hr'
   refine bW hE 3 4 (rnd ?_)
   refine aq (fun _=>?_) (fun h=>by cases(show true=false from h))
   repeat refine ag rfl ?_
   refine af ?_
   refine cn (rnd ?_)
   refine aq (fun _=>?_) (fun h=>by cases(show true=false from h))
   repeat refine ag rfl ?_
   refine af ?_
   refine cn (rnd ?_)
   refine aq (fun h=>by cases(show false=true from h)) (fun _=>?_)
   refine af ?_
   change sat _ _ _ _
   refine ag (b:=?B1) ?_ ?_
   ·exact pa rfl (show (cQ (strR [d,c,b,a]) [47]).isSome=true by rw[hj];rfl)
   refine af ?_
   refine aJ [] (.inr rfl) rfl rfl rfl rfl ?_
   show V.tup [V.str ((cQ (strR [d,c,b,a]) [47]).getD []),I 0]=_
   rw[hj]
  |[a,b,c,d,e]=>
   intro r' hr'
   change bn (cQ (strR [e,d,c,b,a]) [47]) [] (fun t=>some (t,0))=some r' at hr'
   cases hj:cQ (strR [e,d,c,b,a]) [47] with
   |none=>rw[hj]at hr';cases hr'
   |some tt=>
   rw[hj]at hr'
   cases hr'
   refine bW hE 3 4 (rnd ?_)
   refine aq (fun _=>?_) (fun h=>by cases(show true=false from h))
   repeat refine ag rfl ?_
   refine af ?_
   refine cn (rnd ?_)
   refine aq (fun _=>?_) (fun h=>by cases(show true=false from h))
   repeat refine ag rfl ?_
   refine af ?_
   refine cn (rnd ?_)
   refine aq (fun h=>by cases(show false=true from h)) (fun _=>?_)
   refine af ?_
   change sat _ _ _ _
   refine ag (b:=?B2) ?_ ?_
   ·exact pa rfl (show (cQ (strR [e,d,c,b,a]) [47]).isSome=true by rw[hj];rfl)
   refine af ?_
   refine aJ [] (.inr rfl) rfl rfl rfl rfl ?_
   show V.tup [V.str ((cQ (strR [e,d,c,b,a]) [47]).getD []),I 0]=_
   rw[hj]
  |[a,b,c,d,e,f]=>
   intro r' hr'
   change bn (cQ (strR [f,e,d,c,b,a]) [47]) [] (fun t=>some (t,0))=some r' at hr'
   cases hj:cQ (strR [f,e,d,c,b,a]) [47] with
   |none=>rw[hj]at hr';cases hr'
   |some tt=>
   rw[hj]at hr'
   cases hr'
   refine bW hE 3 5 (rnd ?_)
   refine aq (fun _=>?_) (fun h=>by cases(show true=false from h))
   repeat refine ag rfl ?_
   refine af ?_
   refine cn (rnd ?_)
   refine aq (fun _=>?_) (fun h=>by cases(show true=false from h))
   repeat refine ag rfl ?_
   refine af ?_
   refine cn (rnd ?_)
   refine aq (fun _=>?_) (fun h=>by cases(show true=false from h))
   repeat refine ag rfl ?_
   refine af ?_
   refine cn (rnd ?_)
   refine aq (fun h=>by cases(show false=true from h)) (fun _=>?_)
   refine af ?_
   change sat _ _ _ _
   refine ag (b:=?B3) ?_ ?_
   ·exact pa rfl (show (cQ (strR [f,e,d,c,b,a]) [47]).isSome=true by rw[hj];rfl)
   refine af ?_
   refine aJ [] (.inr rfl) rfl rfl rfl rfl ?_
   show V.tup [V.str ((cQ (strR [f,e,d,c,b,a]) [47]).getD []),I 0]=_
   rw[hj]
  |[a,b,c,d,e,f,g]=>
   intro r' hr'
   change bn (cQ (strR [g,f,e,d,c,b,a]) [47]) [] (fun t=>some (t,0))=some r' at hr'
   cases hj:cQ (strR [g,f,e,d,c,b,a]) [47] with
   |none=>rw[hj]at hr';cases hr'
   |some tt=>
   rw[hj]at hr'
   cases hr'
   refine bW hE 3 5 (rnd ?_)
   refine aq (fun _=>?_) (fun h=>by cases(show true=false from h))
   repeat refine ag rfl ?_
   refine af ?_
   refine cn (rnd ?_)
   refine aq (fun _=>?_) (fun h=>by cases(show true=false from h))
   repeat refine ag rfl ?_
   refine af ?_
   refine cn (rnd ?_)
   refine aq (fun _=>?_) (fun h=>by cases(show true=false from h))
   repeat refine ag rfl ?_
   refine af ?_
   refine cn (rnd ?_)
   refine aq (fun h=>by cases(show false=true from h)) (fun _=>?_)
   refine af ?_
   change sat _ _ _ _
   refine ag (b:=?B4) ?_ ?_
   ·exact pa rfl (show (cQ (strR [g,f,e,d,c,b,a]) [47]).isSome=true by rw[hj];rfl)
   refine af ?_
   refine aJ [] (.inr rfl) rfl rfl rfl rfl ?_
   show V.tup [V.str ((cQ (strR [g,f,e,d,c,b,a]) [47]).getD []),I 0]=_
   rw[hj]
  |[a,b,c,d,e,f,g,h]=>
   intro r' hr'
   change bn (cQ (strR [h,g,f,e,d,c,b,a]) [47]) [] (fun t=>some (t,0))=some r' at hr'
   cases hj:cQ (strR [h,g,f,e,d,c,b,a]) [47] with
   |none=>rw[hj]at hr';cases hr'
   |some tt=>
   rw[hj]at hr'
   cases hr'
   refine bW hE 3 6 (rnd ?_)
   refine aq (fun _=>?_) (fun h=>by cases(show true=false from h))
   repeat refine ag rfl ?_
   refine af ?_
   refine cn (rnd ?_)
   refine aq (fun _=>?_) (fun h=>by cases(show true=false from h))
   repeat refine ag rfl ?_
   refine af ?_
   refine cn (rnd ?_)
   refine aq (fun _=>?_) (fun h=>by cases(show true=false from h))
   repeat refine ag rfl ?_
   refine af ?_
   refine cn (rnd ?_)
   refine aq (fun _=>?_) (fun h=>by cases(show true=false from h))
   repeat refine ag rfl ?_
   refine af ?_
   refine cn (rnd ?_)
   refine aq (fun h=>by cases(show false=true from h)) (fun _=>?_)
   refine af ?_
   change sat _ _ _ _
   refine ag (b:=?B5) ?_ ?_
   ·exact pa rfl (show (cQ (strR [h,g,f,e,d,c,b,a]) [47]).isSome=true by rw[hj];rfl)
   refine af ?_
   refine aJ [] (.inr rfl) rfl rfl rfl rfl ?_
   show V.tup [V.str ((cQ (strR [h,g,f,e,d,c,b,a]) [47]).getD []),I 0]=_
   rw[hj]
def pbTx(b:Bd):Option (List UInt8×Int):=bif aL b.f b.r b.zs&&decide (0<b.f)&&decide (0<=b.r)&&decide (b.zs.length=b.r.toNat*b.f.toNat)&&decide (b.zs.length<=100000)then yo b.f.toNat b.r.toNat b.zs else none
def Nq(R:List UInt8×Int):V:=.tup [.str R.1,.int .i64 R.2]
def Mp(_:List UInt8×Int):List O:=[]
def Ce:CF
 |[.agg [.int .i64 b_0,.int .i64 b_1,.sl 0 0 b_2n none]],[.ints false .i8 b_2]=>retC (decide (b_2n=b_2.length)) (pbTx ⟨b_0,b_1,b_2⟩) ([],0) Nq Mp
 |_,_=>none
theorem Cz{kCa kDb:Bool}:CtOk (GGx kCa kDb) PP (139,Ce):=by
 refine aF Tryz.func139 (by kernel_rfl) rfl fun a0 h0 c0 v0 N0 e hc=>?_
 unfold Ce at e
 split at e
 ·rename_i f r n zs
  obtain⟨hl,r',hr,rfl,rfl⟩:=bu e hc
  simp only[decide_eq_true_eq]at hl
  subst hl
  unfold pbTx at hr
  rw[cond_eq_ite]at hr
  split at hr
  ·rename_i hc
   simp only[Bool.and_eq_true,decide_eq_true_eq]at hc
   obtain⟨⟨⟨⟨h1,h2⟩,h3⟩,h4⟩,h5⟩:=hc
   have ef:((f.toNat:Nat):Int)=f:=by omega
   have er:((r.toNat:Nat):Int)=r:=by omega
   have:=zH (kCa:=kCa) (kDb:=kDb) f.toNat r.toNat zs (by omega) h4 h5 (by rw[ef,er];exact h1) hr
   rw[ef,er]at this
   exact this
  ·cases hr
 ·cases e
end Go.Ab
