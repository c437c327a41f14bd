/- Contracts of the functions that the laws reach, and plain laws of what they compute (text G9); no condition. -/
import Derived.Test.YtppdngemnbflmaaGreatDoorG8
import Derived.Test.YtppdngemnbflmaaGreatDoorG7
import Derived.Test.YtppdngemnbflmaaGreatDoorG4
set_option maxRecDepth 100000
namespace Go.Ab
open Go.Proofs
def Lurk(f r:Int)(zs:List Int)(bl:Bool)(K x:Int):Prop:=isP (zs.getD x.toNat 0) (!bl)=true/\3<=(zs.getD x.toNat 0).natAbs/\(zs.getD x.toNat 0).natAbs<=5/\aQ f r ((zs.getD x.toNat 0).natAbs:Int) x K 0=true
def Only(f r:Int)(zs:List Int)(K x j:Int):Prop:=∀ m,(m∈aW f r x K/\zs.getD m.toNat 0≠0)↔m=j
theorem cQ{f r kd x K occ:Int}(h3:3<=kd)(h5:kd<=5):aQ f r kd x K occ=(aQ f r kd x K 0&&dL occ (aW f r x K))/\(aQ f r kd x K 0=true->(bg f x K).2.2=true):=by
 have hz:dL 0 (aW f r x K)=true:=eV.2 fun y _=>by rw[nZ uk_0,bt_0];simp
 unfold aQ
 rw[show decide (kd=2)=false by simp;omega,show decide (kd=6)=false by simp;omega,hz]
 simp only[cond_false,Bool.and_true]
 refine⟨trivial,fun h=>?_⟩
 simp only[Bool.and_eq_true]at h
 exact h.1
theorem EJ{f r:Int}{zs:List Int}{bl:Bool}{K x:Int}(h:aD f r zs=true)(hK:ai f r K=true)(h0:0<=x)(h1:x<zs.length):(oW zs bl x||oY f r zs K x)=false↔Lurk f r zs bl K x:=by
 have hx:=(bM h).2 ⟨h0,h1⟩
 have hb:=cK h h0 h1
 have hkv:=aB hK
 unfold oW oY Lurk
 rw[xd hb]
 simp only[Bool.or_eq_false_iff,Bool.not_eq_false',decide_eq_false_iff_not,decide_eq_true_eq]
 have e0:Uk 0:=uk_0
 have on0:OnS f r 0:=fun m _ hm=>by rw[bt_0]at hm;cases hm
 have hr:=(gJ e0).2 ⟨hx,on0⟩
 constructor
 ·rintro⟨⟨⟨a1,a2⟩,a3⟩,a4,a5⟩
  have hk:gr ((zs.getD x.toNat 0).natAbs:Int):=by unfold gr;omega
  obtain⟨p1,_,p3⟩:=jg hr e0 hk
  have:decide (uand (ushr (lH f r ((zs.getD x.toNat 0).natAbs:Int) x 0) K) 1=0)=false:=decide_eq_false a5
  rw[qC p1 hkv.1 hkv.2.2,p3 K hK,Bool.not_eq_false']at this
  exact⟨a1,by omega,by omega,this⟩
 ·rintro⟨a1,a2,a3,a4⟩
  have hk:gr ((zs.getD x.toNat 0).natAbs:Int):=by unfold gr;omega
  obtain⟨p1,_,p3⟩:=jg hr e0 hk
  have hl:=(cQ (f:=f) (r:=r) (x:=x) (K:=K) (occ:=0) (kd:=((zs.getD x.toNat 0).natAbs:Int)) (by omega) (by omega)).2 a4
  refine⟨⟨⟨a1,by omega⟩,by omega⟩,by rw[(yg hx hK hl).2],?_⟩
  have:decide (uand (ushr (lH f r ((zs.getD x.toNat 0).natAbs:Int) x 0) K) 1=0)=false:=by rw[qC p1 hkv.1 hkv.2.2,p3 K hK,a4];rfl
  exact of_decide_eq_false this
theorem ru{f r:Int}{x K:Int}(hx:ai f r x=true)(hK:ai f r K=true)(hl:(bg f x K).2.2=true):Uk (bC f r x K).1/\∀ m:Nat,bt (bC f r x K).1 m=decide ((m:Int)∈aW f r x K):=by
 rw[(yg hx hK hl).2]
 obtain⟨h1,h2⟩:=iB (aW f r x K) 0 (fun y hy=>⟨(aB ((dA hx).2 y hy)).1,(aB ((dA hx).2 y hy)).2.2⟩) uk_0
 exact⟨h1,fun m=>by rw[h2,bt_0,Bool.false_or]⟩
theorem xE{f r:Int}{zs:List Int}{bl:Bool}{K x j:Int}(h:aD f r zs=true)(hz:zs.length<=64)(hx:ai f r x=true)(hK:ai f r K=true)(hl:(bg f x K).2.2=true)(hj0:0<=j)(hj1:j<zs.length) :
  pinC f r zs bl K (occR f r zs) x j=true↔Only f r zs K x j/\isP (zs.getD j.toNat 0) bl=true:=by
 obtain⟨b1,b2⟩:=ru hx hK hl
 obtain⟨o1,o2⟩:=eB (aJ h).2.2.1 hz
 unfold pinC
 rw[Bool.and_eq_true,decide_eq_true_eq]
 refine and_congr_left' ?_
 have hbd:=(dA (f:=f) (r:=r) (b:=K) hx).2
 constructor
 ·intro he m
  constructor
  ·rintro⟨m1,m2⟩
   have hm:=(bM h).1 (hbd m m1)
   have hb:bt (uand (bC f r x K).1 (occR f r zs)) m.toNat=bt (ushl 1 j) m.toNat:=congrArg (fun s=>bt s m.toNat) he
   rw[ji b1 o1,b2,o2,dS hj0 (by omega),show ((m.toNat:Nat):Int)=m by omega,decide_eq_true m1,decide_eq_true (show m.toNat<zs.length by omega)]at hb
   simp only[m2,decide_false,Bool.not_false,Bool.and_self]at hb
   exact(of_decide_eq_true hb.symm).symm
  ·rintro rfl
   have hb:bt (uand (bC f r x K).1 (occR f r zs)) m.toNat=bt (ushl 1 m) m.toNat:=congrArg (fun s=>bt s m.toNat) he
   rw[ji b1 o1,b2,o2,dS hj0 (by omega),show ((m.toNat:Nat):Int)=m by omega]at hb
   simp only[decide_true,Bool.and_eq_true,decide_eq_true_eq,Bool.not_eq_true',decide_eq_false_iff_not]at hb
   exact⟨hb.1,hb.2.2⟩
 ·intro ho
  refine lj (pQ _ _) (eM _ _) fun n hn=>?_
  rw[ji b1 o1,b2,o2,dS hj0 (by omega),Bool.eq_iff_iff]
  simp only[Bool.and_eq_true,decide_eq_true_eq,Bool.not_eq_true',decide_eq_false_iff_not]
  have:=ho n
  rw[Int.toNat_natCast]at this
  constructor
  ·rintro⟨a1,_,a3⟩;exact(this.1 ⟨a1,a3⟩).symm
  ·intro e
   have h2:=this.2 e.symm
   exact⟨h2.1,by omega,h2.2⟩
def Pins(f r:Int)(zs:List Int)(bl:Bool)(K x j:Int):Prop:=0<=x/\x<zs.length/\Lurk f r zs bl K x/\Only f r zs K x j
theorem Cb{zs:List Int}{j x:Int}{bl:Bool}(hj:0<=j)(hx:0<=x)(h1:x<zs.length):isP ((zs.set j.toNat 0).getD x.toNat 0) bl=(!decide (x=j)&&isP (zs.getD x.toNat 0) bl):=by
 by_cases e:x=j
 ·subst e
  have:(zs.set x.toNat 0).getD x.toNat 0=0:=by simp[List.getD,show x.toNat<zs.length by omega]
  rw[this];cases bl<;>simp[isP]
 ·have:(zs.set j.toNat 0).getD x.toNat 0=zs.getD x.toNat 0:=by simp[List.getD,show ¬ j.toNat=x.toNat by omega]
  rw[this];simp[e]
theorem dJ{zs:List Int}{j x v:Int}(hj:0<=j)(hx:0<=x)(h1:x<zs.length):(zs.set j.toNat v).getD x.toNat 0=if x=j then v else zs.getD x.toNat 0:=by
 by_cases e:x=j
 ·subst e;simp[List.getD,show x.toNat<zs.length by omega]
 ·rw[if_neg e];simp[List.getD,show ¬ j.toNat=x.toNat by omega]
theorem mb{f r:Int}{zs:List Int}{j v:Int}(h:aD f r zs=true)(hv:-6<=v/\v<=6):aD f r (zs.set j.toNat v)=true:=by
 simp only[aD,aI,Bool.and_eq_true,Bool.not_eq_true',List.any_eq_false]at h ⊢
 rw[List.length_set]
 refine⟨⟨h.1.1,fun p hp=>?_⟩,fun p hp=>?_⟩
 ·rcases List.mem_or_eq_of_mem_set hp with hp|rfl
  ·exact h.1.2 p hp
  ·simp[badP,okP];omega
 ·rcases List.mem_or_eq_of_mem_set hp with hp|rfl
  ·exact h.2 p hp
  ·simp[norP,orP];omega
theorem CI{f r:Int}{zs:List Int}{bl:Bool}{K j x:Int}(h:aD f r zs=true)(hz:zs.length<=64)(hK:ai f r K=true)(hj0:0<=j)(hj1:j<zs.length)(hjp:isP (zs.getD j.toNat 0) bl=true) :
  (x∈attL f r (zs.set j.toNat 0) K (!bl)/\x∉attL f r zs K (!bl))↔Pins f r zs bl K x j:=by
 have hs:=mb (j:=j) (v:=0) h (by omega)
 have hzs:(zs.set j.toNat 0).length<=64:=by rw[List.length_set];exact hz
 obtain⟨o1,o2⟩:=eB (aJ h).2.2.1 hz
 obtain⟨q1,q2⟩:=eB (aJ hs).2.2.1 hzs
 rw[ej,ej,List.length_set,gw (aJ h).2.2.1 hz,gw (aJ hs).2.2.1 hzs]
 unfold Pins
 by_cases hx:0<=x/\x<zs.length
 ·obtain⟨h0,h1⟩:=hx
  have hxv:=(bM h).2 ⟨h0,h1⟩
  have hb:=cK h h0 h1
  rw[Cb hj0 h0 h1]
  by_cases hp:isP (zs.getD x.toNat 0) (!bl)=true
  ·have hne:x≠j:=by
    rintro rfl
    rw[fX,decide_eq_true_eq]at hp hjp
    cases bl<;>simp[sdI]at hp hjp<;>omega
   have hq:occR f r (zs.set j.toNat 0)=occR f r (zs.set j.toNat 0):=rfl
   have e1:dW f r (zs.set j.toNat 0) x K (occR f r (zs.set j.toNat 0))=dW f r zs x K (occR f r (zs.set j.toNat 0)):=by
    unfold dW
    rw[dJ hj0 h0 h1,if_neg hne]
   rw[e1]
   simp only[hp,hne,decide_false,Bool.not_false,Bool.true_and,h0,h1,true_and]
   have hbits:∀ y,ai f r y=true->hasB (occR f r (zs.set j.toNat 0)) y=(!decide (y=j)&&hasB (occR f r zs) y):=by
    intro y hy
    have hyl:=(bM h).1 hy
    rw[dz q1 hy,dz o1 hy,q2,o2,List.length_set,dJ hj0 hyl.1 hyl.2]
    by_cases e:y=j
    ·simp[e]
    ·simp[e]
   have hbits2:∀ y,ai f r y=true->hasB (occR f r zs) y=!decide (zs.getD y.toNat 0=0):=by
    intro y hy
    have hyl:=(bM h).1 hy
    rw[dz o1 hy,o2,decide_eq_true (show y.toNat<zs.length by omega),Bool.true_and]
   unfold dW Lurk
   rw[dD hb]
   have hjz:=fh hjp
   by_cases hk:3<=(zs.getD x.toNat 0).natAbs/\(zs.getD x.toNat 0).natAbs<=5
   ·rw[show decide (((zs.getD x.toNat 0).natAbs:Int)=1)=false by rw[decide_eq_false_iff_not];omega]
    simp only[cond_false]
    obtain⟨r1,_⟩:=cQ (f:=f) (r:=r) (x:=x) (K:=K) (occ:=occR f r zs) (kd:=((zs.getD x.toNat 0).natAbs:Int)) (by omega) (by omega)
    obtain⟨r2,_⟩:=cQ (f:=f) (r:=r) (x:=x) (K:=K) (occ:=occR f r (zs.set j.toNat 0)) (kd:=((zs.getD x.toNat 0).natAbs:Int)) (by omega) (by omega)
    rw[r1,r2]
    have hbd:=(dA (f:=f) (r:=r) (b:=K) hxv).2
    have hxK:aQ f r ((zs.getD x.toNat 0).natAbs:Int) x K 0=true->x≠K:=by
     rintro hr rfl
     rw[lu hxv (by unfold gr;omega)]at hr;cases hr
    cases hr:aQ f r ((zs.getD x.toNat 0).natAbs:Int) x K 0 with
    |false=>simp
    |true=>
     have hxK:=hxK hr
     simp only[hxK,decide_false,Bool.not_false,Bool.true_and,hp,hk,true_and]
     unfold Only
     constructor
     ·rintro⟨f1,f2⟩
      have f1':=eV.1 f1
      have:¬ ∀ y∈aW f r x K,hasB (occR f r zs) y=false:=fun hh=>f2 (eV.2 hh)
      obtain⟨y,hyy⟩:=Classical.not_forall.1 this
      obtain⟨hy,hyo⟩:=Classical.not_imp.1 hyy
      have hyv:=hbd y hy
      have hyj:y=j:=by
       have:=f1' y hy
       rw[hbits y hyv]at this
       by_cases e:y=j
       ·exact e
       ·simp[e]at this;exact absurd this hyo
      subst hyj
      intro m
      constructor
      ·rintro⟨m1,m2⟩
       have:=f1' m m1
       rw[hbits m (hbd m m1),hbits2 m (hbd m m1)]at this
       by_cases e:m=y
       ·exact e
       ·simp[e]at this;exact absurd this m2
      ·rintro rfl;exact⟨hy,hjz⟩
     ·intro ho
      refine⟨eV.2 fun y hy=>?_,fun hf=>?_⟩
      ·rw[hbits y (hbd y hy),hbits2 y (hbd y hy)]
       by_cases e:y=j
       ·simp[e]
       ·have:=Classical.not_not.1 (mt (fun h2=>(ho y).1 ⟨hy,h2⟩) e)
        rw[decide_eq_true this];simp
      ·have hjm:=(ho j).2 rfl
       have:=eV.1 hf j hjm.1
       rw[hbits2 j (hbd j hjm.1),decide_eq_false hjm.2]at this
       cases this
   ·have hsame:(bif decide (((zs.getD x.toNat 0).natAbs:Int)=1)then hasL K (cn (dU f (decide (zs.getD x.toNat 0<0)) x) id (f*r).toNat)else !decide (x=K)&&aQ f r ((zs.getD x.toNat 0).natAbs:Int) x K (occR f r (zs.set j.toNat 0)))=(bif decide (((zs.getD x.toNat 0).natAbs:Int)=1)then hasL K (cn (dU f (decide (zs.getD x.toNat 0<0)) x) id (f*r).toNat)else !decide (x=K)&&aQ f r ((zs.getD x.toNat 0).natAbs:Int) x K (occR f r zs)):=by
     have hnz:=fh hp
     by_cases h1:(zs.getD x.toNat 0).natAbs=1
     ·rw[show decide (((zs.getD x.toNat 0).natAbs:Int)=1)=true by rw[decide_eq_true_eq];omega];rfl
     ·have h26:(zs.getD x.toNat 0).natAbs=2\/(zs.getD x.toNat 0).natAbs=6:=by omega
      rcases h26 with h2|h2<;>simp only[h2]<;>rfl
    rw[hsame]
    constructor
    ·rintro⟨a,b⟩;exact absurd a b
    ·rintro⟨⟨_,a2,a3,_⟩,_⟩;exact absurd ⟨a2,a3⟩ hk
  ·constructor
   ·rintro⟨⟨_,_,a,_⟩,_⟩
    rw[Bool.and_eq_true]at a
    exact absurd a.2 hp
   ·rintro⟨_,_,⟨a,_⟩,_⟩;exact absurd a hp
 ·constructor
  ·rintro⟨⟨a,b,_⟩,_⟩;exact absurd ⟨a,b⟩ hx
  ·rintro⟨a,b,_⟩;exact absurd ⟨a,b⟩ hx
end Go.Ab
namespace Go.Ab
open IntKind
open Go.Proofs
theorem Bv{n:Int}(h1:-128<=n)(h2:n<=127):w8 n=n:=by
 show IntKind.wrap .i8 n=n
 unfold IntKind.wrap IntKind.bits IntKind.signed
 simp only[Bool.true_and,decide_eq_true_eq]
 split<;>omega
theorem mc{f r:Int}{zs:List Int}(h:aD f r zs=true){i:Int}(h0:0<=i)(h1:i<zs.length):absP (zs.getD i.toNat 0)=aU (zs.getD i.toNat 0):=by
 have hp:=cK h h0 h1
 have hw:w8 (0-zs.getD i.toNat 0)=0-zs.getD i.toNat 0:=Bv (by omega) (by omega)
 rw[dD hp]
 unfold absP imax
 rw[hw]
 by_cases hn:zs.getD i.toNat 0<0-zs.getD i.toNat 0
 ·simp only[hn,decide_true,cond_true];omega
 ·simp only[hn,decide_false,cond_false];omega
theorem xV{f r:Int}{zs:List Int}{bl:Bool}(h:aD f r zs=true){i:Int}(h0:0<=i)(h1:i<zs.length)(hp:isP (zs.getD i.toNat 0) bl=true)(hk:¬ aU (zs.getD i.toNat 0)=1):gr (aU (zs.getD i.toNat 0)):=by
 have hb:=cK h h0 h1
 have hz:=fh hp
 rw[dD hb]at hk ⊢
 unfold gr
 omega
theorem kI{f r:Int}{zs:List Int}{bl:Bool}{_ca pa a b pr:Int}(h:aD f r zs=true)(hl:zs.length<=64)(ha:ai f r a=true)(hb:ai f r b=true)(hp:isP (zs.getD a.toNat 0) bl=true) :
  iy f r zs bl pa a b pr=bif decide (aU (zs.getD a.toNat 0)=1)then pnL f r zs bl pa a b pr else decide (pr=0)&&aQ f r (aU (zs.getD a.toNat 0)) a b (occL zs):=by
 have hbd:=(aJ h).2.2.1
 obtain⟨ha0,ha1⟩:=(cG hbd).1 ha
 obtain⟨hb0,hb1⟩:=(cG hbd).1 hb
 have hb64:b<64:=by omega
 obtain⟨hou,_⟩:=eB hbd hl
 have hray:gP f r a (occR f r zs)=true:=(gJ hou).2 ⟨ha,xA h hl⟩
 unfold iy
 rw[mc h ha0 ha1,gw hbd hl]
 cases hk:decide (aU (zs.getD a.toNat 0)=1) with
 |false=>
  obtain⟨r1,_,r3⟩:=jg hray hou (xV h ha0 ha1 hp (of_decide_eq_false hk))
  simp only[Bool.not_false,cond_true,cond_false]
  have r1:Uk (bQ f r (aU (zs.getD a.toNat 0)) a (occR f r zs)).1:=r1
  rw[pX r1 hb0 hb64]
  congr 1
  exact r3 b hb
 |true=>
  simp only[Bool.not_true,cond_true,cond_false]
  obtain⟨_,s1,_,s2⟩:=xR (bl:=bl) hray hou
  obtain⟨_,p1,_,p2⟩:=va (bl:=bl) ha
  have hu:Uk (bif decide (zs.getD b.toNat 0=0)&&!decide (b=pa)then 0 else(gj f r bl a).1):=by
   cases(decide (zs.getD b.toNat 0=0)&&!decide (b=pa))
   ·exact p1
   ·exact uk_0
  rw[pX (gi _ _) hb0 hb64,eI s1 hu,s2 b hb]
  have hpb:bt (bif decide (zs.getD b.toNat 0=0)&&!decide (b=pa)then 0 else(gj f r bl a).1) b.toNat=(dU f bl a b&&(!decide (zs.getD b.toNat 0=0)||decide (b=pa))):=by
   cases h1:decide (zs.getD b.toNat 0=0)<;>cases h2:decide (b=pa)<;>simp[p2 b hb,bt_0]
  rw[hpb]
  have hv:=(bR hbd).1
  have hin:∀ c:Int->Bool,hasL b (cn c id (f*r).toNat)=c b:=fun c=>by
   rw[Bool.eq_iff_iff,eR,bI]
   have:=aB hb
   exact⟨fun h=>h.2.2,fun h=>⟨hb0,by omega,h⟩⟩
  unfold pnL
  rw[hin,hin,gw hbd hl]
  have hlast:KJ r bl=fM r bl:=rfl
  rw[hlast]
  cases decide (i64.wrap (b.tdiv f)=fM r bl)<;>cases decide (pr=0)<;>cases ee f r bl a (occR f r zs) b<;>cases dU f bl a b<;>simp
theorem empty_eq{zs:List Int}{x K:Int}(hbd:aI 8 8 zs=true)(hl:zs.length<=64)(hx:ai 8 8 x=true)(hK:ai 8 8 K=true)(hln:(bg 8 x K).2.2=true):iC zs (aW 8 8 x K)=decide (uand (bC 8 8 x K).1 (occR 8 8 zs)=0):=by
 obtain⟨bu,bb⟩:=ru hx hK hln
 obtain⟨ou,ob⟩:=eB hbd hl
 have h64:=uS hbd rfl
 rw[Bool.eq_iff_iff,decide_eq_true_eq,nw (pQ _ _)]
 unfold iC
 rw[List.all_eq_true]
 constructor
 ·intro h n hn
  rw[ji bu ou,bb,ob]
  by_cases hm:(n:Int)∈aW 8 8 x K
  ·have:=of_decide_eq_true (h _ hm)
   rw[Int.toNat_natCast]at this
   rw[this];simp
  ·simp[hm]
 ·intro h i hi
  have hb:0<=i/\i<64:=by
   have hv:ai 8 8 i=true:=by
    unfold aW at hi
    cases hh:hasL K (cW 8 8 x K) with
    |true=>rw[hh]at hi;exact dG hx (List.mem_of_mem_take hi)
    |false=>rw[hh]at hi;simp at hi
   exact⟨(aB hv).1,(aB hv).2.2⟩
  have:=h i.toNat (by omega)
  rw[ji bu ou,bb,ob,show ((i.toNat:Nat):Int)=i by omega]at this
  simp only[hi,decide_true,Bool.true_and,Bool.and_eq_false_iff,decide_eq_false_iff_not,Bool.not_eq_false']at this
  rcases this with this|this
  ·omega
  ·exact this
theorem sq01:sqW 1 0=4/\sqW 1 1=6/\sqW 2 0=4/\sqW 2 1=2/\sqW 4 0=60/\sqW 4 1=62/\sqW 8 0=60/\sqW 8 1=58:=⟨by kernel_rfl,by kernel_rfl,by kernel_rfl,by kernel_rfl,by kernel_rfl,by kernel_rfl,by kernel_rfl,by kernel_rfl⟩
theorem cA{bl:Bool}{ca a b:Int}{c:Bool}{bit k to:Int}:(!aV bl ca a b c bit k to)=true↔c=bl/\bS ca bit≠0/\k=a/\to=b:=by
 unfold aV
 cases c<;>cases bl<;>simp[and_assoc]
theorem cT{f r:Int}{zs:List Int}{ca bit:Int}{k q:Nat}{c:Bool}(h:rtX f r zs ca bit k q c=false)(hr:bS ca bit≠0):f=8/\r=8/\zs.getD k 0=ofP 6 c/\zs.getD q 0=ofP 4 c:=by
 unfold rtX at h
 rw[decide_eq_false hr]at h
 simp only[Bool.not_false,Bool.true_and,Bool.or_eq_false_iff,Bool.not_eq_false',is88,Bool.and_eq_true,decide_eq_true_eq]at h
 exact⟨h.1.1.1,h.1.1.2,h.1.2,h.2⟩
theorem Gk{f r:Int}{zs:List Int}{bl:Bool}{ca a b bit k to cor:Int}{c:Bool}(hca:0<=ca/\ca<=15)(hb:bit=1\/bit=2\/bit=4\/bit=8)(hc:decide (2<bit)=c)(h0:sqW bit 0=k)(h1:sqW bit 1=to)(h2:sqW bit 2=cor) :
  cgS f r zs bl ca a b bit=(!aV bl ca a b c bit k to&&iC zs (aW f r k cor)):=by
 unfold cgS aV
 rw[sV hca hb,hc,h0,h1,h2]
 have e1:decide (a=k)=decide (k=a):=by rw[decide_eq_decide];exact eq_comm
 have e2:decide (b=to)=decide (to=b):=by rw[decide_eq_decide];exact eq_comm
 rw[e1,e2]
 cases decide (bS ca bit=0)<;>cases c<;>cases bl<;>cases decide (k=a)<;>cases decide (to=b)<;>rfl
theorem GZ{f r:Int}{zs:List Int}{bl:Bool}{ca a b pr:Int}(h:aD f r zs=true)(hl:zs.length<=64)(hcas:er f r zs ca=true)(hca:0<=ca)(ha0:0<=a)(ha1:a<zs.length) :
  (!decide (cgL f r zs bl ca a b pr=0))=(decide (pr=0)&&wayB f r zs (wayN zs bl ca a b)) /\
   ((!decide (cgL f r zs bl ca a b pr=0))=true->sqW (cgL f r zs bl ca a b pr) 2=wCor (wayN zs bl ca a b)/\sqW (cgL f r zs bl ca a b pr) 3=wCro (wayN zs bl ca a b)/\aU (zs.getD a.toNat 0)=6):=by
 have hbd:=(aJ h).2.2.1
 simp only[er,Bool.and_eq_true,Bool.not_eq_true',decide_eq_true_eq]at hcas
 obtain⟨⟨⟨⟨c1,c2⟩,c3⟩,c4⟩,c5⟩:=hcas
 obtain⟨q1,q2,q3,q4,q5,q6,q7,q8⟩:=sqs
 obtain⟨p1,p2,p3,p4,p5,p6,p7,p8⟩:=sq01
 have hx:0<=ca/\ca<=15:=⟨hca,by omega⟩
 have g1:cgS f r zs bl ca a b 1=_:=Gk (c:=false) hx (.inl rfl) rfl p1 p2 q1
 have g2:cgS f r zs bl ca a b 2=_:=Gk (c:=false) hx (.inr (.inl rfl)) rfl p3 p4 q3
 have g3:cgS f r zs bl ca a b 4=_:=Gk (c:=true) hx (.inr (.inr (.inl rfl))) rfl p5 p6 q5
 have g4:cgS f r zs bl ca a b 8=_:=Gk (c:=true) hx (.inr (.inr (.inr rfl))) rfl p7 p8 q7
 unfold cgL wayN
 rw[mc h ha0 ha1]
 cases hK:decide (aU (zs.getD a.toNat 0)=6) with
 |false=>simp[wayB]
 |true=>
  cases hp:decide (pr=0) with
  |false=>simp
  |true=>
   have hk6:=of_decide_eq_true hK
   rw[g1,g2,g3,g4]
   have key:∀ {bit k to cor:Int} {kn qn:Nat} {c:Bool},rtX f r zs ca bit kn qn c=false->(!aV bl ca a b c bit k to)=true->ai 8 8 k=true->ai 8 8 cor=true->(bg 8 k cor).2.2=true ->
     iC zs (aW f r k cor)=decide (uand (bC f r k cor).1 (occR f r zs)=0):=by
    intro bit k to cor kn qn c hr hs hk hc hln
    obtain⟨_,hu,_,_⟩:=cA.1 hs
    obtain⟨rfl,rfl,_⟩:=cT hr hu
    exact empty_eq hbd hl hk hc hln
   cases n1:(!aV bl ca a b false 1 4 6) with
   |true=>
    obtain⟨rfl,_,rfl,rfl⟩:=cA.1 n1
    have k1:=key c1 n1 (cor:=7) (by decide) (by decide) (by decide)
    have n2:(!aV false ca 4 6 false 2 4 2)=false:=by rw[Bool.eq_false_iff];exact fun hh=>by have:=(cA.1 hh).2.2.2;omega
    have n3:(!aV false ca 4 6 true 4 60 62)=false:=by rw[Bool.eq_false_iff];exact fun hh=>by have:=(cA.1 hh).1;cases this
    have n4:(!aV false ca 4 6 true 8 60 58)=false:=by rw[Bool.eq_false_iff];exact fun hh=>by have:=(cA.1 hh).1;cases this
    rw[n2,n3,n4,k1]
    have hw:wayB f r zs 0=decide (uand (bC f r 4 7).1 (occR f r zs)=0):=rfl
    simp only[Bool.not_true,Bool.or_self,cond_false,cond_true,Bool.true_and,Bool.false_and,hw]
    cases decide (uand (bC f r 4 7).1 (occR f r zs)=0)
    ·simp
    ·exact⟨rfl,fun _=>⟨q1,q2,hk6⟩⟩
   |false=>
    cases n2:(!aV bl ca a b false 2 4 2) with
    |true=>
     obtain⟨rfl,_,rfl,rfl⟩:=cA.1 n2
     have k1:=key c2 n2 (cor:=0) (by decide) (by decide) (by decide)
     have n3:(!aV false ca 4 2 true 4 60 62)=false:=by rw[Bool.eq_false_iff];exact fun hh=>by have:=(cA.1 hh).1;cases this
     have n4:(!aV false ca 4 2 true 8 60 58)=false:=by rw[Bool.eq_false_iff];exact fun hh=>by have:=(cA.1 hh).1;cases this
     rw[n3,n4,k1]
     have hw:wayB f r zs 1=decide (uand (bC f r 4 0).1 (occR f r zs)=0):=rfl
     simp only[Bool.not_true,Bool.or_self,cond_false,cond_true,Bool.true_and,Bool.false_and,hw]
     cases decide (uand (bC f r 4 0).1 (occR f r zs)=0)
     ·simp
     ·exact⟨rfl,fun _=>⟨q3,q4,hk6⟩⟩
    |false=>
     cases n3:(!aV bl ca a b true 4 60 62) with
     |true=>
      obtain⟨rfl,_,rfl,rfl⟩:=cA.1 n3
      have k1:=key c3 n3 (cor:=63) (by decide) (by decide) (by decide)
      have n4:(!aV true ca 60 62 true 8 60 58)=false:=by rw[Bool.eq_false_iff];exact fun hh=>by have:=(cA.1 hh).2.2.2;omega
      rw[n4,k1]
      have hw:wayB f r zs 2=decide (uand (bC f r 60 63).1 (occR f r zs)=0):=rfl
      simp only[Bool.not_true,Bool.or_self,cond_false,cond_true,Bool.true_and,Bool.false_and,hw]
      cases decide (uand (bC f r 60 63).1 (occR f r zs)=0)
      ·simp
      ·exact⟨rfl,fun _=>⟨q5,q6,hk6⟩⟩
     |false=>
      cases n4:(!aV bl ca a b true 8 60 58) with
      |true=>
       obtain⟨rfl,_,rfl,rfl⟩:=cA.1 n4
       have k1:=key c4 n4 (cor:=56) (by decide) (by decide) (by decide)
       rw[k1]
       have hw:wayB f r zs 3=decide (uand (bC f r 60 56).1 (occR f r zs)=0):=rfl
       simp only[Bool.not_true,Bool.or_self,cond_false,cond_true,Bool.true_and,Bool.false_and,hw]
       cases decide (uand (bC f r 60 56).1 (occR f r zs)=0)
       ·simp
       ·exact⟨rfl,fun _=>⟨q7,q8,hk6⟩⟩
      |false=>simp[wayB]
section
theorem pc_w{f r a b:Int}(ha:ai f r a=true)(hb:ai f r b=true):i64.wrap (i64.wrap (b.tdiv f)-i64.wrap (a.tdiv f))=py f b-py f a:=(gu ha hb).2
theorem yc{n:Int}{bl:Bool}(h:isP n bl=true)(h2:n=ofP 1 (!bl)):False:=by
 subst h2
 cases bl<;>revert h<;>decide
theorem Bj{n:Int}{bl:Bool}(hz:n≠0)(h:isP n bl=false):isP n (!bl)=true:=by
 unfold isP at h ⊢
 rcases Int.lt_or_gt_of_ne hz with h3|h3
 ·have h4:¬ 0<n:=by omega
  cases bl<;>simp[h3,h4]at h ⊢
 ·have h4:¬ n<0:=by omega
  cases bl<;>simp[h3,h4]at h ⊢<;>omega
structure MvOk(p:Psn)(m:Mov):Prop where
 h:aD p.f p.r p.zs=true
 hl:p.zs.length<=64
 ok:p.ok=true
 ca:0<=p.ca
 ha:ai p.f p.r m.a=true
 hb:ai p.f p.r m.b=true
 hab:m.a≠m.b
 hpr:m.p=0\/(2<=m.p/\m.p<=5)
 hp:isP (p.zs.getD m.a.toNat 0) p.bl=true
 so:err3 p m=false
section
variable{p:Psn}{m:Mov}
theorem MvOk.bd(o:MvOk p m):aI p.f p.r p.zs=true:=(aJ o.h).2.2.1
theorem MvOk.cast(o:MvOk p m):er p.f p.r p.zs p.ca=true:=by have:=o.ok;simp only[Psn.ok,Bool.and_eq_true]at this;exact this.1.1.2
theorem MvOk.pass(o:MvOk p m):iQ p.f p.r p.zs p.bl p.pa p.ha=true:=by have:=o.ok;simp only[Psn.ok,Bool.and_eq_true]at this;exact this.1.2
theorem MvOk.kings(o:MvOk p m):ei p.f p.r p.zs p.bl=true:=by have:=o.ok;simp only[Psn.ok,Bool.and_eq_true]at this;exact this.1.1.1.1.2
theorem MvOk.nto(o:MvOk p m):isP (p.zs.getD m.b.toNat 0) p.bl=false:=by have:=o.so;simp only[err3,Bool.or_eq_false_iff]at this;exact this.1
theorem MvOk.sq(o:MvOk p m):(0<=m.a/\m.a<p.zs.length)/\(0<=m.b/\m.b<p.zs.length):=⟨(cG o.bd).1 o.ha,(cG o.bd).1 o.hb⟩
theorem MvOk.kd(o:MvOk p m):absP (p.zs.getD m.a.toNat 0)=aU (p.zs.getD m.a.toNat 0):=mc o.h o.sq.1.1 o.sq.1.2
theorem MvOk.pawn(o:MvOk p m)(hk:aU (p.zs.getD m.a.toNat 0)=1):pnL p.f p.r p.zs p.bl p.pa m.a m.b m.p=true:=by
 have:=o.so
 have hw:wayN p.zs p.bl p.ca m.a m.b=4:=by unfold wayN;rw[o.kd,hk];rfl
 simp only[err3,hw,Bool.or_eq_false_iff]at this
 have hg:=kI (bl:=p.bl) (_ca:=p.ca) (pa:=p.pa) (pr:=m.p) o.h o.hl o.ha o.hb o.hp
 rw[hk]at hg
 rw[hg]at this
 simp only[decide_true,cond_true]at this
 have h2:=this.2
 cases hpn:pnL p.f p.r p.zs p.bl p.pa m.a m.b m.p with
 |true=>rfl
 |false=>rw[hpn]at h2;simp[wayB]at h2
theorem MvOk.steps(o:MvOk p m)(hk:aU (p.zs.getD m.a.toNat 0)=1) :
  (ee p.f p.r p.bl m.a (occR p.f p.r p.zs) m.b=true\/(dU p.f p.bl m.a m.b=true/\(p.zs.getD m.b.toNat 0≠0\/m.b=p.pa)))/\(m.p≠0↔py p.f m.b=fM p.r p.bl):=by
 have h:=o.pawn hk
 have hin:∀ c:Int->Bool,hasL m.b (cn c id (p.f*p.r).toNat)=c m.b:=fun c=>by
  rw[Bool.eq_iff_iff,eR,bI]
  have:=aB o.hb
  exact⟨fun h=>h.2.2,fun h=>⟨this.1,by omega,h⟩⟩
 unfold pnL at h
 rw[hin,hin,gw o.bd o.hl]at h
 rw[(de o.hb).1]at h
 cases h1:(!(decide (py p.f m.b=fM p.r p.bl)==!decide (m.p=0))) with
 |true=>rw[h1]at h;cases h
 |false=>
  rw[h1,cond_false]at h
  refine⟨?_,?_⟩
  ·cases h2:ee p.f p.r p.bl m.a (occR p.f p.r p.zs) m.b with
   |true=>exact .inl rfl
   |false=>
    rw[h2,cond_false,Bool.and_eq_true,Bool.or_eq_true,decide_eq_true_eq,Bool.not_eq_true',decide_eq_false_iff_not]at h
    exact .inr h
  ·by_cases h3:py p.f m.b=fM p.r p.bl<;>by_cases h4:m.p=0<;>simp[h3,h4]at h1 ⊢
theorem Lg(bl:Bool):i64.wrap (2*fwd bl)=2*fwd bl:=by cases bl<;>decide
theorem vX{f r a b:Int}{bl:Bool}{occ:Int}(ha:ai f r a=true)(hb:ai f r b=true)(h:ee f r bl a occ b=true) :
  px f b=px f a/\((py f b=py f a+fwd bl)\/(py f b=py f a+2*fwd bl/\py f a=secR r bl/\6<=r/\ai f r (b-fwd bl*f)=true/\hasB occ (b-fwd bl*f)=false)):=by
 have hv:=(bD ha)
 obtain⟨a0,a1,a2,a3,a4,a5,a6⟩:=de ha
 obtain⟨_,b1,b2,b3,b4,b5,_⟩:=de hb
 have hfw:fwd bl=1\/fwd bl=-1:=by cases bl<;>simp[fwd]
 have hone:one4 f r bl a=numR f r (px f a) (py f a+fwd bl):=by unfold one4;rw[a0,az (by omega) (by omega)]
 have htwo:two4 f r bl a=numR f r (px f a) (py f a+2*fwd bl):=by unfold two4;rw[a0,Lg,az (by omega) (by omega)]
 simp only[ee,Bool.or_eq_true,Bool.and_eq_true,decide_eq_true_eq,Bool.not_eq_true']at h
 rw[hone,htwo,a0]at h
 have hbn:∀ {X Y:Int},b=numR f r X Y->px f b=X/\py f b=Y:=by
  intro X Y e
  rcases jG f r X Y hv with⟨ho,_⟩|⟨_,hn⟩
  ·exact(gk hv ho hb).1 e.symm
  ·have:=(aB hb).1;omega
 rcases h with⟨h1,_⟩|⟨⟨⟨⟨h1,h2⟩,h3⟩,h4⟩,_⟩
 ·obtain⟨e1,e2⟩:=hbn h1
  exact⟨e1,.inl e2⟩
 ·obtain⟨e1,e2⟩:=hbn h1
  refine⟨e1,.inr ⟨e2,h3,h2,?_⟩⟩
  have ho:onB f r (px f a) (py f a+fwd bl)=true:=iv a1 a2 (by omega) (by omega)
  obtain⟨v1,v2,v3⟩:=hH hv ho
  have heq:px f a+(py f a+fwd bl)*f=b-fwd bl*f:=by
   rw[<-b5,e1,e2]
   rw[Int.add_mul,Int.add_mul,Int.mul_assoc];omega
  rw[heq]at v1 v2 v3
  exact⟨v1,by rw[<-(gk hv ho v1).2 ⟨v2,v3⟩];exact h4⟩
theorem MvOk.ep(o:MvOk p m)(hk:aU (p.zs.getD m.a.toNat 0)=1)(hb:m.b=p.pa) :
  at1R p.f p.zs p.pa m.a m.b=m.b-fwd p.bl*p.f/\ai p.f p.r (m.b-fwd p.bl*p.f)=true/\p.zs.getD (m.b-fwd p.bl*p.f).toNat 0=ofP 1 (!p.bl)/\numR p.f p.r (m.b.tmod p.f) (i64.wrap (m.a.tdiv p.f))=m.b-fwd p.bl*p.f/\p.zs.getD m.b.toNat 0=0/\dU p.f p.bl m.a m.b=true:=by
 have hbd:=o.bd
 have hv:=(bR hbd).1
 obtain⟨a0,a1,a2,a3,a4,a5,a6⟩:=de o.ha
 obtain⟨b0,b1,b2,b3,b4,b5,_⟩:=de o.hb
 have hps:=o.pass
 have hb0:=(aB o.hb).1
 simp only[iQ,Bool.or_eq_true,Bool.and_eq_true,decide_eq_true_eq,<-hb]at hps
 rcases hps with hps|⟨⟨⟨⟨⟨⟨p1,p2⟩,p3⟩,p4⟩,p5⟩,p6⟩,p7⟩
 ·omega
 obtain⟨n1,n2,n3,n4,n5,n6,n7⟩:=ja (bl:=p.bl) hbd p1 o.hb p4
 have hfw:fwd p.bl=1\/fwd p.bl=-1:=by cases p.bl<;>simp[fwd]
 have hup:i64.wrap (m.b+upP p.f p.bl)=m.b-fwd p.bl*p.f:=by
  cases hbl:p.bl
  ·simp only[upP,fwd,cond_false,n5,n7];omega
  ·simp only[upP,fwd,cond_true,n4];omega
 rw[hup]at p7
 have hvd:ai p.f p.r (m.b-fwd p.bl*p.f)=true:=by
  refine(cG hbd).2 ?_
  rcases hfw with e|e<;>rw[e]<;>constructor<;>omega
 have hat:dU p.f p.bl m.a m.b=true:=by
  rcases(o.steps hk).1 with h|h
  ·exfalso
   obtain⟨e1,h2⟩:=vX o.ha o.hb h
   rcases h2 with e2|⟨_,_,_,_,h5⟩
   ·have:m.b-fwd p.bl*p.f=m.a:=by rw[<-b5,<-a5,e1,e2,Int.add_mul];omega
    rw[this]at p7
    exact yc o.hp p7
   ·obtain⟨hou,hob⟩:=eB hbd o.hl
    rw[dz hou hvd,hob,p7]at h5
    have hlt:=(cG hbd).1 hvd
    rw[decide_eq_true (show (m.b-fwd p.bl*p.f).toNat<p.zs.length by omega),decide_eq_false (show ¬ ofP 1 (!p.bl)=0 by cases p.bl<;>decide)]at h5
    cases h5
  ·exact h.1
 have hpy:py p.f m.b=py p.f m.a+fwd p.bl:=by
  have:=hat
  simp only[dU,Bool.and_eq_true,decide_eq_true_eq]at this
  rw[pc_w o.ha o.hb]at this
  omega
 have hsq:px p.f m.b+py p.f m.a*p.f=m.b-fwd p.bl*p.f:=by
  have:py p.f m.b*p.f=py p.f m.a*p.f+fwd p.bl*p.f:=by rw[hpy,Int.add_mul]
  omega
 have hlt:=(aB hvd)
 refine⟨?_,hvd,p7,?_,p5,hat⟩
 ·have hepB:epB p.zs p.pa m.a m.b=true:=by simp only[epB,o.kd,hk,hb,decide_true,Bool.and_self]
  unfold at1R
  rw[hepB,cond_true]
  have e1:m.a.tmod p.f=px p.f m.a:=rfl
  have e2:m.b.tmod p.f=px p.f m.b:=rfl
  rw[e1,e2]
  have hla:=aB o.ha
  rw[az (n:=m.a-px p.f m.a) (by omega) (by omega)]
  rw[show m.a-px p.f m.a+px p.f m.b=m.b-fwd p.bl*p.f by omega,az (by omega) (by omega)]
 ·rw[a0]
  have ho:onB p.f p.r (px p.f m.b) (py p.f m.a)=true:=iv b1 b2 a3 a4
  obtain⟨v1,v2,v3⟩:=hH hv ho
  rw[hsq]at v1 v2 v3
  exact(gk hv ho v1).2 ⟨v2,v3⟩
theorem MvOk.cap(o:MvOk p m):capL p.f p.r p.zs p.pa m.a m.b=at2R p.f p.zs p.pa m.a m.b/\(0<=at2R p.f p.zs p.pa m.a m.b->at2R p.f p.zs p.pa m.a m.b<p.zs.length/\isP (p.zs.getD (at2R p.f p.zs p.pa m.a m.b).toNat 0) (!p.bl)=true/\at2R p.f p.zs p.pa m.a m.b≠m.a/\at2R p.f p.zs p.pa m.a m.b=at1R p.f p.zs p.pa m.a m.b) /\
  (at2R p.f p.zs p.pa m.a m.b<0->at2R p.f p.zs p.pa m.a m.b=-1/\capR p.f p.zs p.pa m.a m.b=0/\p.zs.getD m.b.toNat 0=0)/\(0<=at2R p.f p.zs p.pa m.a m.b->capR p.f p.zs p.pa m.a m.b≠0):=by
 have ⟨⟨sa0,sa1⟩,⟨sb0,sb1⟩⟩:=o.sq
 cases hep:(decide (aU (p.zs.getD m.a.toNat 0)=1)&&decide (m.b=p.pa)) with
 |true=>
  simp only[Bool.and_eq_true,decide_eq_true_eq]at hep
  obtain⟨e1,e2,e3,e4,e5,e6⟩:=o.ep hep.1 hep.2
  have hc:capR p.f p.zs p.pa m.a m.b=ofP 1 (!p.bl):=by unfold capR;rw[e1,e3]
  have hnz:ofP 1 (!p.bl)≠0:=by cases p.bl<;>decide
  have h2:at2R p.f p.zs p.pa m.a m.b=m.b-fwd p.bl*p.f:=by unfold at2R;rw[hc,decide_eq_false hnz,cond_false,e1]
  have hcl:capL p.f p.r p.zs p.pa m.a m.b=m.b-fwd p.bl*p.f:=by unfold capL;rw[decide_eq_true hep.1,decide_eq_true hep.2];exact e4
  have hlt:=(cG o.bd).1 e2
  refine⟨by rw[hcl,h2],fun _=>⟨by rw[h2];exact hlt.2,?_,?_,by rw[h2,e1]⟩,fun hh=>(by rw[h2]at hh;omega),fun _=>by rw[hc];exact hnz⟩
  ·rw[h2,e3];cases p.bl<;>decide
  ·rw[h2]
   intro he
   rw[he]at e3
   exact yc o.hp e3
 |false=>
  have hepB:epB p.zs p.pa m.a m.b=false:=by unfold epB;rw[o.kd];exact hep
  have h1:at1R p.f p.zs p.pa m.a m.b=m.b:=by unfold at1R;rw[hepB];rfl
  have hc:capR p.f p.zs p.pa m.a m.b=p.zs.getD m.b.toNat 0:=by unfold capR;rw[h1]
  unfold capL at2R
  rw[hep,hc,h1,cond_false]
  by_cases hz:p.zs.getD m.b.toNat 0=0
  ·simp only[decide_eq_true hz,Bool.not_true,cond_true,cond_false]
   exact⟨trivial,fun hh=>absurd hh (by decide),fun _=>⟨trivial,hz,hz⟩,fun hh=>absurd hh (by decide)⟩
  ·simp only[decide_eq_false hz,Bool.not_false,cond_true,cond_false]
   have h5:=Bj hz o.nto
   exact⟨trivial,fun _=>⟨sb1,h5,fun e=>o.hab e.symm,trivial⟩,fun hh=>absurd hh (by omega),fun _=>hz⟩
end
end
end Go.Ab
namespace Go.Ab
open Go.Proofs
section
theorem jH{f r:Int}{z:List Int}{bl:Bool}{K:Nat}(h:aD f r z=true)(hl:z.length<=64)(hK:K<z.length)(h1:z.getD K 0=kgP bl)(hu:∀ i:Nat,i<z.length->z.getD i 0=kgP bl->i=K):(aK f r z bl).2=0/\aH z bl=(K:Int):=by
 have hone:gQ z (kgP bl)=[(K:Int)]:=jQ (by simp only[iM,Int.toNat_natCast,h1,decide_true]) _ hK fun i hi hc=>hu i hi (by simpa[iM]using hc)
 have hrk:aH z bl=(K:Int):=by
  unfold aH
  rw[Ja,hone];rfl
 rcases gl (bl:=bl) h hl with⟨h2,_⟩|⟨h2,_,_⟩
 ·omega
 ·exact⟨by rw[h2],hrk⟩
theorem mI{f r:Int}{zs:List Int}{bl:Bool}(h:aD f r zs=true)(hl:zs.length<=64)(hk:(aK f r zs bl).2=0):∃ K:Nat,K<zs.length/\zs.getD K 0=kgP bl/\aH zs bl=(K:Int)/\∀ i:Nat,i<zs.length->zs.getD i 0=kgP bl->i=K:=by
 rcases yE zs bl hl with⟨h1,_⟩|⟨h1,h2,h3,h4,h5,h6⟩
 ·unfold aK at hk;rw[h,h1]at hk;cases hk
 ·refine⟨(gz zs bl).toNat,by omega,h5,by omega,fun i hi he=>?_⟩
  have:=h6 i hi he
  omega
theorem yL(bl:Bool):isP (kgP bl) bl=true:=by cases bl<;>decide
theorem lA{f r a b occ:Int}(_ha:ai f r a=true)(_hb:ai f r b=true)(h:aQ f r 6 a b occ=true):oQ f a b=1:=by
 unfold aQ at h
 simpa using h
def Ca(p:Psn)(m:Mov)(n:Nat)(bl:Bool)(bit k to:Int):Prop:=wayN p.zs p.bl p.ca m.a m.b=n/\p.bl=bl/\bS p.ca bit≠0/\m.a=k/\m.b=to
theorem Cx{p:Psn}{m:Mov}(hn:wayN p.zs p.bl p.ca m.a m.b≠4):absP (p.zs.getD m.a.toNat 0)=6/\(Ca p m 0 false 1 4 6\/Ca p m 1 false 2 4 2\/Ca p m 2 true 4 60 62\/Ca p m 3 true 8 60 58):=by
 unfold Ca
 cases hk:decide (absP (p.zs.getD m.a.toNat 0)=6) with
 |false=>exact absurd (by unfold wayN;rw[hk];rfl) hn
 |true=>
  refine⟨of_decide_eq_true hk,?_⟩
  cases n1:(!aV p.bl p.ca m.a m.b false 1 4 6) with
  |true=>
   obtain⟨e1,e2,e3,e4⟩:=cA.1 n1
   exact .inl ⟨by unfold wayN;rw[hk,n1];rfl,e1.symm,e2,e3.symm,e4.symm⟩
  |false=>
   cases n2:(!aV p.bl p.ca m.a m.b false 2 4 2) with
   |true=>
    obtain⟨e1,e2,e3,e4⟩:=cA.1 n2
    exact .inr (.inl ⟨by unfold wayN;rw[hk,n1,n2];rfl,e1.symm,e2,e3.symm,e4.symm⟩)
   |false=>
    cases n3:(!aV p.bl p.ca m.a m.b true 4 60 62) with
    |true=>
     obtain⟨e1,e2,e3,e4⟩:=cA.1 n3
     exact .inr (.inr (.inl ⟨by unfold wayN;rw[hk,n1,n2,n3];rfl,e1.symm,e2,e3.symm,e4.symm⟩))
    |false=>
     cases n4:(!aV p.bl p.ca m.a m.b true 8 60 58) with
     |true=>
      obtain⟨e1,e2,e3,e4⟩:=cA.1 n4
      exact .inr (.inr (.inr ⟨by unfold wayN;rw[hk,n1,n2,n3,n4];rfl,e1.symm,e2,e3.symm,e4.symm⟩))
     |false=>exact absurd (by unfold wayN;rw[hk,n1,n2,n3,n4];rfl) hn
section
variable{p:Psn}{m:Mov}
theorem MvOk.kU(o:MvOk p m):∃ K:Nat,K<p.zs.length/\p.zs.getD K 0=kgP p.bl/\aH p.zs p.bl=(K:Int)/\∀ i:Nat,i<p.zs.length->p.zs.getD i 0=kgP p.bl->i=K:=by
 have:=o.kings
 simp only[ei,Bool.and_eq_true,decide_eq_true_eq]at this
 exact mI o.h o.hl this.1.1
theorem MvOk.pr0(o:MvOk p m)(hk:aU (p.zs.getD m.a.toNat 0)≠1):m.p=0:=by
 have:=o.so
 simp only[err3,Bool.or_eq_false_iff]at this
 have hg:=kI (bl:=p.bl) (_ca:=p.ca) (pa:=p.pa) (pr:=m.p) o.h o.hl o.ha o.hb o.hp
 rw[decide_eq_false hk,cond_false]at hg
 rw[hg]at this
 by_cases h:m.p=0
 ·exact h
 ·rw[decide_eq_false h]at this;simp at this
theorem MvOk.wayg(o:MvOk p m)(hn:wayN p.zs p.bl p.ca m.a m.b≠4):aU (p.zs.getD m.a.toNat 0)=6/\m.p=0/\iy p.f p.r p.zs p.bl p.pa m.a m.b m.p=false:=by
 obtain⟨hk6,hsq⟩:=Cx hn
 have hk:aU (p.zs.getD m.a.toNat 0)=6:=by rw[<-o.kd];exact hk6
 have hp0:m.p=0:=o.pr0 (by rw[hk];decide)
 refine⟨hk,hp0,?_⟩
 rw[kI (_ca:=p.ca) o.h o.hl o.ha o.hb o.hp,hk,hp0]
 simp only[decide_true,Bool.true_and]
 cases hr:aQ p.f p.r 6 m.a m.b (occL p.zs) with
 |false=>rfl
 |true=>
  exfalso
  have hd:=lA o.ha o.hb hr
  obtain⟨h88,_⟩:=ov (a:=m.a) (b:=m.b) (bl:=p.bl) o.bd o.cast hn
  simp only[is88,Bool.and_eq_true,decide_eq_true_eq]at h88
  rw[h88.1]at hd
  rcases hsq with⟨_,_,_,e1,e2⟩|⟨_,_,_,e1,e2⟩|⟨_,_,_,e1,e2⟩|⟨_,_,_,e1,e2⟩<;>rw[e1,e2]at hd<;>exact absurd hd (by decide)
theorem MvOk.way(o:MvOk p m)(hw:wayB p.f p.r p.zs (wayN p.zs p.bl p.ca m.a m.b)=true):aU (p.zs.getD m.a.toNat 0)=6/\m.p=0/\iy p.f p.r p.zs p.bl p.pa m.a m.b m.p=false /\
  (cgL p.f p.r p.zs p.bl p.ca m.a m.b m.p≠0)/\sqW (cgL p.f p.r p.zs p.bl p.ca m.a m.b m.p) 2=wCor (wayN p.zs p.bl p.ca m.a m.b)/\sqW (cgL p.f p.r p.zs p.bl p.ca m.a m.b m.p) 3=wCro (wayN p.zs p.bl p.ca m.a m.b):=by
 have hn:wayN p.zs p.bl p.ca m.a m.b≠4:=by intro e;rw[e]at hw;simp[wayB]at hw
 obtain⟨hk,hp0,hg⟩:=o.wayg hn
 obtain⟨w1,w2⟩:=GZ (bl:=p.bl) (b:=m.b) (pr:=m.p) o.h o.hl o.cast o.ca o.sq.1.1 o.sq.1.2
 rw[hw,hp0]at w1
 rw[hp0]at w2 hg ⊢
 have hc:(!decide (cgL p.f p.r p.zs p.bl p.ca m.a m.b 0=0))=true:=w1
 obtain⟨s1,s2,_⟩:=w2 hc
 exact⟨hk,rfl,hg,by simpa using hc,s1,s2⟩
theorem MvOk.noway(o:MvOk p m)(hw:wayB p.f p.r p.zs (wayN p.zs p.bl p.ca m.a m.b)=false):cgL p.f p.r p.zs p.bl p.ca m.a m.b m.p=0:=by
 obtain⟨w1,_⟩:=GZ (bl:=p.bl) (b:=m.b) (pr:=m.p) o.h o.hl o.cast o.ca o.sq.1.1 o.sq.1.2
 rw[hw,Bool.and_false]at w1
 simpa using w1
theorem Hr{n:Int}{bl:Bool}(h:isP n bl=true):sgn n=sdI bl:=by rw[fX]at h;exact of_decide_eq_true h
theorem MvOk.af(o:MvOk p m):afZ p.f p.r p.zs p.bl p.ca p.pa m.a m.b m.p=zs3R p.f p.r p.zs p.bl p.ca p.pa m.a m.b m.p:=by
 have h1:afZ1 p.f p.r p.zs p.pa m.a m.b=zs1R p.f p.zs p.pa m.a m.b:=by unfold afZ1 zs1R;rw[o.cap.1]
 have h2:afZ2 p.f p.r p.zs p.pa m.a m.b=zs2R p.f p.zs p.pa m.a m.b:=by unfold afZ2 zs2R;rw[h1]
 unfold afZ zs3R putR afZ3
 rw[h2]
 by_cases hp:m.p=0
 ·rw[hp]
  simp only[decide_true,Bool.not_true,Bool.false_and,cond_false]
  cases hw:wayB p.f p.r p.zs (wayN p.zs p.bl p.ca m.a m.b) with
  |true=>
   obtain⟨_,_,g,c,s1,s2⟩:=o.way hw
   rw[hp]at g c s1 s2
   unfold cstR afZ4
   rw[hw,g,s1,s2,decide_eq_false c];rfl
  |false=>
   have hc:=o.noway hw
   rw[hp]at hc
   unfold cstR afZ4
   rw[hw,hc];rfl
 ·have hpr:2<=m.p/\m.p<=5:=o.hpr.resolve_left hp
  have hc:cgL p.f p.r p.zs p.bl p.ca m.a m.b m.p=0:=by unfold cgL;rw[decide_eq_false hp];simp
  rw[hc,decide_eq_false hp]
  simp only[Bool.not_false,Bool.true_and,cond_true]
  have hs:=Hr o.hp
  unfold afZ4
  rw[hs]
  cases p.bl with
  |true=>
   have:w8 (m.p*w8 (sdI true))=w8 (0-m.p):=by
    rw[show w8 (sdI true)=-1 by decide];congr 1;omega
   rw[this];rfl
  |false=>
   have:w8 (m.p*w8 (sdI false))=m.p:=by
    rw[show w8 (sdI false)=1 by decide,Int.mul_one];exact Bv (by omega) (by omega)
   rw[this];rfl
end
end
section
theorem dI{l:List Int}{j i:Nat}{v:Int}(hi:i<l.length):(l.set j v).getD i 0=if i=j then v else l.getD i 0:=by
 by_cases e:i=j
 ·subst e;simp[List.getD,hi]
 ·rw[if_neg e];simp[List.getD,List.getElem?_set_ne (Ne.symm e)]
theorem fD{f r:Int}{zs:List Int}{j:Nat}{v:Int}(h:aD f r zs=true)(hv:-6<=v/\v<=6):aD f r (zs.set j v)=true:=by
 have:=mb (j:=(j:Int)) h hv
 rwa [Int.toNat_natCast]at this
theorem sB{f r:Int}{zs:List Int}(h:aD f r zs=true)(i:Nat):-6<=zs.getD i 0/\zs.getD i 0<=6:=by
 by_cases hi:i<zs.length
 ·exact(aJ h).2.2.2 _ (ye hi)
 ·simp[List.getD,List.getElem?_eq_none (by omega:zs.length<=i)]
theorem BL{n:Int}{bl:Bool}(h:-6<=n/\n<=6)(hp:isP n bl=true)(hk:aU n=6):n=kgP bl:=by
 rw[dD h]at hk
 have:n=6\/n=-6:=by omega
 rcases this with rfl|rfl<;>cases bl<;>first|rfl|(revert hp;decide)
section
variable{p:Psn}{m:Mov}
theorem MvOk.z1(o:MvOk p m):aD p.f p.r (zs1R p.f p.zs p.pa m.a m.b)=true/\∀ i:Nat,i<p.zs.length->(zs1R p.f p.zs p.pa m.a m.b).getD i 0=p.zs.getD i 0\/((zs1R p.f p.zs p.pa m.a m.b).getD i 0=0/\isP (p.zs.getD i 0) p.bl=false):=by
 unfold zs1R
 cases hc:decide (0<=at2R p.f p.zs p.pa m.a m.b) with
 |false=>exact⟨o.h,fun i _=>.inl rfl⟩
 |true=>
  obtain⟨c1,c2,c3,_⟩:=o.cap.2.1 (of_decide_eq_true hc)
  refine⟨fD o.h (by omega),fun i hi=>?_⟩
  rw[cond_true,dI hi]
  by_cases e:i=(at2R p.f p.zs p.pa m.a m.b).toNat
  ·right
   rw[if_pos e,e]
   refine⟨rfl,?_⟩
   rw[fX]at c2 ⊢
   rw[of_decide_eq_true c2]
   cases p.bl<;>decide
  ·left;rw[if_neg e]
theorem MvOk.z2(o:MvOk p m):aD p.f p.r (zs2R p.f p.zs p.pa m.a m.b)=true/\∀ i:Nat,i<p.zs.length->(zs2R p.f p.zs p.pa m.a m.b).getD i 0=if i=m.b.toNat then p.zs.getD m.a.toNat 0 else if i=m.a.toNat then 0 else(zs1R p.f p.zs p.pa m.a m.b).getD i 0:=by
 have hl:=Bn (f:=p.f) (zs:=p.zs) (pa:=p.pa) (a:=m.a) (b:=m.b)
 refine⟨fD (fD o.z1.1 (by omega)) (sB o.h _),fun i hi=>?_⟩
 unfold zs2R
 rw[dI (by rw[List.length_set,hl];exact hi),dI (by rw[hl];exact hi)]
theorem MvOk.z3(o:MvOk p m):aD p.f p.r (zs3R p.f p.r p.zs p.bl p.ca p.pa m.a m.b m.p)=true/\(aK p.f p.r (zs3R p.f p.r p.zs p.bl p.ca p.pa m.a m.b m.p) p.bl).2=0:=by
 obtain⟨⟨sa0,sa1⟩,⟨sb0,sb1⟩⟩:=o.sq
 obtain⟨z2o,z2g⟩:=o.z2
 obtain⟨K,k1,k2,_,k4⟩:=o.kU
 have hlen:=fA (f:=p.f) (r:=p.r) (zs:=p.zs) (bl:=p.bl) (ca:=p.ca) (pa:=p.pa) (a:=m.a) (b:=m.b) (pr:=m.p)
 have hl2:=rN (f:=p.f) (zs:=p.zs) (pa:=p.pa) (a:=m.a) (b:=m.b)
 have hkb:K≠m.b.toNat:=by intro e;have h1:=yL p.bl;rw[<-k2,e,o.nto]at h1;cases h1
 have kz:(0:Int)≠kgP p.bl:=by cases p.bl<;>decide
 have hK1:(zs1R p.f p.zs p.pa m.a m.b).getD K 0=kgP p.bl:=by
  rcases o.z1.2 K k1 with h|⟨_,h⟩
  ·rw[h,k2]
  ·rw[k2,yL]at h;cases h
 have h1U:∀ i:Nat,i<p.zs.length->(zs1R p.f p.zs p.pa m.a m.b).getD i 0=kgP p.bl->i=K:=by
  intro i hi he
  rcases o.z1.2 i hi with h|⟨h,_⟩
  ·rw[h]at he;exact k4 i hi he
  ·rw[h]at he;exact absurd he kz
 -- a board that is like zs2R but for a piece that is put down
 have fin:∀ (z:List Int) (v:Int),z.length=p.zs.length->(∀ i:Nat,i<p.zs.length->z.getD i 0=if i=m.b.toNat then v else if i=m.a.toNat then 0 else(zs1R p.f p.zs p.pa m.a m.b).getD i 0)->aD p.f p.r z=true->(v=kgP p.bl↔K=m.a.toNat)->(aK p.f p.r z p.bl).2=0:=by
  intro z v hzl hz hzo hv
  by_cases hKa:K=m.a.toNat
  ·refine(jH (K:=m.b.toNat) hzo (by rw[hzl];exact o.hl) (by omega) ?_ fun i hi he=>?_).1
   ·rw[hz _ (by omega),if_pos rfl];exact hv.2 hKa
   ·rw[hz _ (by omega)]at he
    by_cases e:i=m.b.toNat
    ·exact e
    ·rw[if_neg e]at he
     by_cases e2:i=m.a.toNat
     ·rw[if_pos e2]at he;exact absurd he kz
     ·rw[if_neg e2]at he;exact absurd ((h1U i (by omega) he).trans hKa) e2
  ·refine(jH (K:=K) hzo (by rw[hzl];exact o.hl) (by omega) ?_ fun i hi he=>?_).1
   ·rw[hz _ k1,if_neg hkb,if_neg hKa,hK1]
   ·rw[hz _ (by omega)]at he
    by_cases e:i=m.b.toNat
    ·rw[if_pos e]at he;exact absurd (hv.1 he) hKa
    ·rw[if_neg e]at he
     by_cases e2:i=m.a.toNat
     ·rw[if_pos e2]at he;exact absurd he kz
     ·rw[if_neg e2]at he;exact h1U i (by omega) he
 have haK:p.zs.getD m.a.toNat 0=kgP p.bl↔K=m.a.toNat:=⟨fun h=>(k4 _ (by omega) h).symm,fun h=>by rw[<-h,k2]⟩
 unfold zs3R putR
 by_cases hp:m.p=0
 ·rw[decide_eq_true hp]
  simp only[Bool.not_true,Bool.false_and,cond_false]
  cases hw:wayB p.f p.r p.zs (wayN p.zs p.bl p.ca m.a m.b) with
  |false=>
   unfold cstR
   rw[hw]
   exact⟨z2o,fin _ _ hl2 z2g z2o haK⟩
  |true=>
   obtain⟨hk6,_,g,_,_,_⟩:=o.way hw
   have hn:wayN p.zs p.bl p.ca m.a m.b≠4:=by intro e;rw[e]at hw;simp[wayB]at hw
   obtain⟨h88,h64,w1,w2,w3,w4⟩:=ov (a:=m.a) (b:=m.b) (bl:=p.bl) o.bd o.cast hn
   unfold cstR
   rw[hw,g]
   simp only[Bool.not_false,Bool.and_self,cond_true]
   have hpiece:p.zs.getD m.a.toNat 0=kgP p.bl:=BL (sB o.h _) o.hp hk6
   have hKa:=haK.1 hpiece
   -- the rook
   have hrook:p.zs.getD (wCor (wayN p.zs p.bl p.ca m.a m.b)).toNat 0=ofP 4 p.bl/\wCor (wayN p.zs p.bl p.ca m.a m.b)≠m.a/\wCor (wayN p.zs p.bl p.ca m.a m.b)≠m.b/\wCro (wayN p.zs p.bl p.ca m.a m.b)≠m.b/\wCro (wayN p.zs p.bl p.ca m.a m.b)≠m.a:=by
    have hcs:=o.cast
    simp only[er,Bool.and_eq_true,Bool.not_eq_true',decide_eq_true_eq]at hcs
    obtain⟨⟨⟨⟨c1,c2⟩,c3⟩,c4⟩,c5⟩:=hcs
    unfold wayN at hn ⊢
    rw[o.kd,hk6]at hn ⊢
    cases n1:(!aV p.bl p.ca m.a m.b false 1 4 6) with
    |true=>
     obtain⟨e1,e2,e3,e4⟩:=cA.1 n1
     obtain⟨_,_,_,e5⟩:=cT c1 e2
     rw[<-e1,<-e3,<-e4]
     exact⟨e5,show (7:Int)≠4 by decide,show (7:Int)≠6 by decide,show (5:Int)≠6 by decide,show (5:Int)≠4 by decide⟩
    |false=>
     cases n2:(!aV p.bl p.ca m.a m.b false 2 4 2) with
     |true=>
      obtain⟨e1,e2,e3,e4⟩:=cA.1 n2
      obtain⟨_,_,_,e5⟩:=cT c2 e2
      rw[<-e1,<-e3,<-e4]
      exact⟨e5,show (0:Int)≠4 by decide,show (0:Int)≠2 by decide,show (3:Int)≠2 by decide,show (3:Int)≠4 by decide⟩
     |false=>
      cases n3:(!aV p.bl p.ca m.a m.b true 4 60 62) with
      |true=>
       obtain⟨e1,e2,e3,e4⟩:=cA.1 n3
       obtain⟨_,_,_,e5⟩:=cT c3 e2
       rw[<-e1,<-e3,<-e4]
       exact⟨e5,show (63:Int)≠60 by decide,show (63:Int)≠62 by decide,show (61:Int)≠62 by decide,show (61:Int)≠60 by decide⟩
      |false=>
       cases n4:(!aV p.bl p.ca m.a m.b true 8 60 58) with
       |true=>
        obtain⟨e1,e2,e3,e4⟩:=cA.1 n4
        obtain⟨_,_,_,e5⟩:=cT c4 e2
        rw[<-e1,<-e3,<-e4]
        exact⟨e5,show (56:Int)≠60 by decide,show (56:Int)≠58 by decide,show (59:Int)≠58 by decide,show (59:Int)≠60 by decide⟩
       |false=>rw[n1,n2,n3,n4]at hn;exact absurd rfl hn
   obtain⟨r1,r2,r3,r4,r5⟩:=hrook
   have hro:aD p.f p.r (((zs2R p.f p.zs p.pa m.a m.b).set (wCro (wayN p.zs p.bl p.ca m.a m.b)).toNat ((zs2R p.f p.zs p.pa m.a m.b).getD (wCor (wayN p.zs p.bl p.ca m.a m.b)).toNat 0)).set (wCor (wayN p.zs p.bl p.ca m.a m.b)).toNat 0)=true:=fD (fD z2o (sB z2o _)) (by omega)
   refine⟨hro,(jH (K:=m.b.toNat) hro (by simp only[List.length_set,hl2];exact o.hl) (by simp only[List.length_set,hl2];omega) ?_ fun i hi he=>?_).1⟩
   ·rw[dI (by simp only[List.length_set,hl2];omega),if_neg (by omega),dI (by rw[hl2];omega),if_neg (by omega),z2g _ (by omega),if_pos rfl,hpiece]
   ·simp only[List.length_set,hl2]at hi
    rw[dI (by simp only[List.length_set,hl2];omega)]at he
    by_cases e1:i=(wCor (wayN p.zs p.bl p.ca m.a m.b)).toNat
    ·rw[if_pos e1]at he;exact absurd he kz
    ·rw[if_neg e1,dI (by rw[hl2];omega)]at he
     by_cases e2:i=(wCro (wayN p.zs p.bl p.ca m.a m.b)).toNat
     ·exfalso
      rw[if_pos e2,z2g _ (by omega),if_neg (by omega),if_neg (by omega)]at he
      rcases o.z1.2 (wCor (wayN p.zs p.bl p.ca m.a m.b)).toNat (by omega)with h|⟨h,_⟩
      ·rw[h,r1]at he;revert he;cases p.bl<;>decide
      ·rw[h]at he;exact kz he
     ·rw[if_neg e2,z2g _ hi]at he
      by_cases e:i=m.b.toNat
      ·exact e
      ·rw[if_neg e]at he
       by_cases e3:i=m.a.toNat
       ·rw[if_pos e3]at he;exact absurd he kz
       ·rw[if_neg e3]at he;exact absurd ((h1U i hi he).trans hKa) e3
 ·have hpr:2<=m.p/\m.p<=5:=o.hpr.resolve_left hp
  have hk1:aU (p.zs.getD m.a.toNat 0)=1:=by
   by_cases h:aU (p.zs.getD m.a.toNat 0)=1
   ·exact h
   ·exact absurd (o.pr0 h) hp
  have hnK:¬ K=m.a.toNat:=fun e=>by
   have:=haK.2 e
   rw[this]at hk1
   revert hk1;cases p.bl<;>decide
  rw[decide_eq_false hp]
  simp only[Bool.not_false,Bool.true_and,cond_true]
  have hput:∀ v:Int,-6<=v/\v<=6->v≠kgP p.bl->aD p.f p.r ((zs2R p.f p.zs p.pa m.a m.b).set m.b.toNat v)=true/\(aK p.f p.r ((zs2R p.f p.zs p.pa m.a m.b).set m.b.toNat v) p.bl).2=0:=by
   intro v hv hvk
   have hzo:=fD (j:=m.b.toNat) z2o hv
   refine⟨hzo,fin _ v (by rw[List.length_set,hl2]) (fun i hi=>?_) hzo ⟨fun h=>absurd h hvk,fun h=>absurd h hnK⟩⟩
   rw[dI (by rw[hl2];exact hi),z2g i hi]
   by_cases e:i=m.b.toNat<;>simp[e]
  have hkg:kgP p.bl=6\/kgP p.bl=-6:=by cases p.bl<;>simp[kgP]
  have hw:w8 (0-m.p)=-m.p:=by rw[Bv (by omega) (by omega)];omega
  have key:∀ v,v=m.p\/v=-m.p->_:=fun v hv=>hput v (by omega) (by omega)
  cases hb:p.bl with
  |true=>
   have:=key (-m.p) (.inr rfl)
   rw[hb]at this
   simp only[cond_true,hw]
   exact this
  |false=>
   have:=key m.p (.inl rfl)
   rw[hb]at this
   simp only[cond_false]
   exact this
end
end
section
def fR4(k1 k2 k3 k4:Bool):Int:=bif k4 then u8or (bif k3 then u8or (bif k2 then u8or (bif k1 then u8or 0 1 else 0) 2 else(bif k1 then u8or 0 1 else 0)) 4 else(bif k2 then u8or (bif k1 then u8or 0 1 else 0) 2 else(bif k1 then u8or 0 1 else 0))) 8 else(bif k3 then u8or (bif k2 then u8or (bif k1 then u8or 0 1 else 0) 2 else(bif k1 then u8or 0 1 else 0)) 4 else(bif k2 then u8or (bif k1 then u8or 0 1 else 0) 2 else(bif k1 then u8or 0 1 else 0)))
def gR1(ca bit:Int)(k:Bool):Int:=bif decide ((IntKind.u8.wrap (ca.tdiv bit)).tmod 2=1)&&k then IntKind.u8.wrap (ca-bit)else ca
theorem zx:∀ ca:_root_.Fin 16,∀ a1 a2 a3 a4 b1 b2 b3 b4:Bool,nO (ca.val:Int) (u8or (fR4 a1 a2 a3 a4) (fR4 b1 b2 b3 b4))=gR1 (gR1 (gR1 (gR1 (ca.val:Int) 1 (a1||b1)) 2 (a2||b2)) 4 (a3||b3)) 8 (a4||b4):=by decide +kernel
theorem Bg{ca a b:Int}(h:0<=ca/\ca<=15):afC ca a b=caR ca a b:=by
 obtain⟨q1,q2,q3,q4,q5,q6,q7,q8⟩:=sqs
 obtain⟨p1,p2,p3,p4,p5,p6,p7,p8⟩:=sq01
 have hl:∀ at_,DB at_=fR4 (decide (4=at_)||decide (7=at_)) (decide (4=at_)||decide (0=at_)) (decide (60=at_)||decide (63=at_)) (decide (60=at_)||decide (56=at_)):=fun at_=>rfl
 have hs:∀ c bit k q,sqW bit 0=k->sqW bit 2=q->afS c a b bit=gR1 c bit ((decide (k=a)||decide (q=a))||(decide (k=b)||decide (q=b))):=by
  intro c bit k q h0 h2
  unfold afS gR1 hasL
  rw[h0,h2]
  unfold hasL hasL
  simp only[Bool.or_false]
 have:=zx ⟨ca.toNat,by omega⟩ (decide (4=a)||decide (7=a)) (decide (4=a)||decide (0=a)) (decide (60=a)||decide (63=a)) (decide (60=a)||decide (56=a)) (decide (4=b)||decide (7=b)) (decide (4=b)||decide (0=b)) (decide (60=b)||decide (63=b)) (decide (60=b)||decide (56=b))
 unfold afC caR
 rw[hl,hl,hs _ 1 4 7 p1 q1,hs _ 2 4 0 p3 q3,hs _ 4 60 63 p5 q5,hs _ 8 60 56 p7 q7]
 dsimp only at this
 rw[show ((ca.toNat:Nat):Int)=ca by omega]at this
 exact this.symm
section
variable{p:Psn}{m:Mov}
theorem MvOk.pas(o:MvOk p m):afPa p.f p.r p.zs m.a m.b=paR p.f p.zs m.a m.b:=by
 unfold afPa paR twoB
 rw[o.kd]
 cases hk:decide (aU (p.zs.getD m.a.toNat 0)=1) with
 |false=>rfl
 |true=>
  obtain⟨a0,a1,a2,a3,a4,a5,a6⟩:=de o.ha
  obtain⟨b0,b1,b2,b3,b4,b5,_⟩:=de o.hb
  have hla:=aB o.ha
  have hlb:=aB o.hb
  have hfw:fwd p.bl=1\/fwd p.bl=-1:=by cases p.bl<;>simp[fwd]
  rw[pc_w o.hb o.ha,pc_w o.ha o.hb,a0,b0,az (n:=m.b-m.a) (by omega) (by omega),az (n:=2*p.f) (by omega) (by omega),az (n:=-2*p.f) (by omega) (by omega)]
  simp only[Bool.true_and]
  have hdiff:m.b-m.a=(px p.f m.b-px p.f m.a)+(py p.f m.b*p.f-py p.f m.a*p.f):=by omega
  have one:∀ d:Int,(d=1\/d=-1)->py p.f m.b=py p.f m.a+d->(-1<=px p.f m.b-px p.f m.a/\px p.f m.b-px p.f m.a<=1)->(decide (py p.f m.a-py p.f m.b=2)||decide (py p.f m.b-py p.f m.a=2))=false/\(decide (m.b-m.a=2*p.f)||decide (m.b-m.a=-2*p.f))=false:=by
   intro d hd hy hx
   have:py p.f m.b*p.f=py p.f m.a*p.f+d*p.f:=by rw[hy,Int.add_mul]
   constructor
   ·rw[decide_eq_false (by omega),decide_eq_false (by omega)];rfl
   ·rcases hd with rfl|rfl<;>rw[decide_eq_false (by omega),decide_eq_false (by omega)]<;>rfl
  rcases(o.steps (of_decide_eq_true hk)).1 with h|h
  ·obtain⟨e1,h2⟩:=vX o.ha o.hb h
   rcases h2 with e2|⟨e2,_,_,e5,_⟩
   ·obtain⟨g1,g2⟩:=one (fwd p.bl) hfw e2 (by omega)
    rw[g1,g2];rfl
   ·have hmul:py p.f m.b*p.f=py p.f m.a*p.f+2*(fwd p.bl*p.f):=by rw[e2,Int.add_mul,Int.mul_assoc]
    have hd2:m.b-m.a=2*(fwd p.bl*p.f):=by omega
    have g1:(decide (py p.f m.a-py p.f m.b=2)||decide (py p.f m.b-py p.f m.a=2))=true:=by
     rcases hfw with e|e
     ·rw[decide_eq_true (p:=py p.f m.b-py p.f m.a=2) (by omega),Bool.or_true]
     ·rw[decide_eq_true (p:=py p.f m.a-py p.f m.b=2) (by omega),Bool.true_or]
    have g2:(decide (m.b-m.a=2*p.f)||decide (m.b-m.a=-2*p.f))=true:=by
     rcases hfw with e|e<;>rw[e]at hd2
     ·rw[decide_eq_true (p:=m.b-m.a=2*p.f) (by omega),Bool.true_or]
     ·rw[decide_eq_true (p:=m.b-m.a=-2*p.f) (by omega),Bool.or_true]
    rw[g1,g2,cond_true,cond_true,hd2,Int.mul_tdiv_cancel_left _ (by decide)]
    have hr:m.b-fwd p.bl*p.f=m.a+fwd p.bl*p.f:=by omega
    have hlc:=aB e5
    rw[hr]at e5 hlc
    rw[az (n:=fwd p.bl*p.f) (by omega) (by omega),az (n:=m.a+fwd p.bl*p.f) (by omega) (by omega)]
    have hy:py p.f m.a+py p.f m.b=2*(py p.f m.a+fwd p.bl):=by omega
    rw[az (n:=py p.f m.a+py p.f m.b) (by omega) (by omega),hy,Int.mul_tdiv_cancel_left _ (by decide),az (n:=py p.f m.a+fwd p.bl) (by omega) (by omega)]
    obtain⟨_,c1,c2,c3,c4,c5,_⟩:=de e5
    have hu:=kB (f:=p.f) (by omega) c1 c2 a1 a2 (show px p.f (m.a+fwd p.bl*p.f)+py p.f (m.a+fwd p.bl*p.f)*p.f=px p.f m.a+(py p.f m.a+fwd p.bl)*p.f by rw[c5,Int.add_mul];omega)
    have ho:onB p.f p.r (m.a.tmod p.f) (py p.f m.a+fwd p.bl)=true:=iv a1 a2 (by omega) (by omega)
    exact(gk (bD o.ha) ho e5).2 ⟨hu.1,hu.2⟩
  ·have hat:=h.1
   simp only[dU,Bool.and_eq_true,Bool.or_eq_true,decide_eq_true_eq]at hat
   rw[pc_w o.ha o.hb]at hat
   have e1:m.a.tmod p.f=px p.f m.a:=rfl
   have e2:m.b.tmod p.f=px p.f m.b:=rfl
   rw[e1,e2,az (n:=px p.f m.b-px p.f m.a) (by omega) (by omega),az (n:=px p.f m.a-px p.f m.b) (by omega) (by omega)]at hat
   obtain⟨g1,g2⟩:=one (fwd p.bl) hfw (by omega) (by omega)
   rw[g1,g2];rfl
theorem MvOk.half(o:MvOk p m):afHa p.f p.r p.zs p.pa p.ha m.a m.b=haR p.f p.zs p.pa p.ha m.a m.b:=by
 unfold afHa haR
 rw[o.kd,o.cap.1]
 have:decide (0<=at2R p.f p.zs p.pa m.a m.b)=!decide (capR p.f p.zs p.pa m.a m.b=0):=by
  by_cases h:0<=at2R p.f p.zs p.pa m.a m.b
  ·rw[decide_eq_true h,decide_eq_false (o.cap.2.2.2 h)];rfl
  ·rw[decide_eq_false h,decide_eq_true (o.cap.2.2.1 (by omega)).2.1];rfl
 rw[this]
theorem MvOk.caB(o:MvOk p m):0<=p.ca/\p.ca<=15:=by
 have:=o.cast
 simp only[er,Bool.and_eq_true,decide_eq_true_eq]at this
 exact⟨o.ca,by omega⟩
theorem MvOk.after(o:MvOk p m):afP p m=⟨p.f,p.r,zs3R p.f p.r p.zs p.bl p.ca p.pa m.a m.b m.p,!p.bl,caR p.ca m.a m.b,paR p.f p.zs m.a m.b,haR p.f p.zs p.pa p.ha m.a m.b,fuR p.bl p.fu⟩:=by
 unfold afP
 rw[o.af,o.pas,o.half,Bg o.caB]
theorem mvok{p:Psn}{m:Mov}(hl:p.zs.length<=64)(hca:0<=p.ca)(h1:err1 p m=false)(h2:isP (p.zs.getD m.a.toNat 0) p.bl=true)(h3:err3 p m=false):MvOk p m:=by
 simp only[err1,Bool.or_eq_false_iff,Bool.not_eq_false']at h1
 obtain⟨hok,hmv⟩:=h1
 simp only[mvB,Bool.and_eq_true,Bool.or_eq_true,decide_eq_true_eq,Bool.not_eq_true',decide_eq_false_iff_not]at hmv
 obtain⟨⟨⟨ha,hb⟩,hab⟩,hpr⟩:=hmv
 have ho:aD p.f p.r p.zs=true:=by
  have hk:=hok
  simp only[Psn.ok,ei,Bool.and_eq_true,decide_eq_true_eq]at hk
  cases h:aD p.f p.r p.zs with
  |true=>rfl
  |false=>have:=hk.1.1.1.1.2.1.1;unfold aK at this;rw[h]at this;cases this
 exact⟨ho,hl,hok,hca,ha,hb,hab,hpr,h2,h3⟩
end
end
end Go.Ab
set_option maxHeartbeats 4000000
namespace Go.Ab
open Go.Proofs
section
variable{kDb:Bool}
end
section
variable{kDb:Bool}
end
section
theorem jo{l:List Int}{j i:Nat}{v:Int}:(l.set j v).getD i 0=if i=j/\j<l.length then v else l.getD i 0:=by
 by_cases hj:j<l.length
 ·by_cases e:i=j
  ·subst e;simp[List.getD,hj]
  ·rw[if_neg (fun h=>e h.1)];simp[List.getD,List.getElem?_set_ne (Ne.symm e)]
 ·rw[if_neg (fun h=>hj h.2),List.set_eq_of_length_le (by omega)]
theorem Lp{p:Psn}{m:Mov}(hl:p.zs.length<=64)(hca:0<=p.ca)(h:mkE5 p m=0):MvOk p m/\err4 p m=false/\err5 p m=false:=by
 unfold mkE5 at h
 cases h1:err1 p m with
 |true=>rw[h1]at h;cases h
 |false=>
  rw[h1]at h
  cases h2:isP (p.zs.getD m.a.toNat 0) p.bl with
  |false=>rw[h2]at h;cases h
  |true=>
   rw[h2]at h
   cases h3:err3 p m with
   |true=>rw[h3]at h;cases h
   |false=>
    rw[h3]at h
    cases h4:err4 p m with
    |true=>rw[h4]at h;cases h
    |false=>
     rw[h4]at h
     cases h5:err5 p m with
     |true=>rw[h5]at h;cases h
     |false=>exact⟨mvok hl hca h1 h2 h3,rfl,rfl⟩
def pW(p:Psn)(m:Mov)(bl:Bool)(bit k to cor cro:Int):Prop:=p.bl=bl/\bS p.ca bit≠0/\m.a=k/\m.b=to/\wCor (wayN p.zs p.bl p.ca m.a m.b)=cor/\wCro (wayN p.zs p.bl p.ca m.a m.b)=cro/\p.zs.getD cro.toNat 0=0/\p.zs.getD to.toNat 0=0
section
variable{p:Psn}{m:Mov}
theorem MvOk.cast4(o:MvOk p m)(hn:wayN p.zs p.bl p.ca m.a m.b≠4):p.f=8/\p.r=8/\p.zs.length=64/\aU (p.zs.getD m.a.toNat 0)=6/\m.p=0/\cstR p.f p.r p.zs p.bl p.ca p.pa m.a m.b m.p=true /\
  (pW p m false 1 4 6 7 5\/pW p m false 2 4 2 0 3\/pW p m true 4 60 62 63 61\/pW p m true 8 60 58 56 59):=by
 obtain⟨hk,hp0,hg⟩:=o.wayg hn
 obtain⟨h88,h64,_⟩:=ov (a:=m.a) (b:=m.b) (bl:=p.bl) o.bd o.cast hn
 simp only[is88,Bool.and_eq_true,decide_eq_true_eq]at h88
 have hw:wayB p.f p.r p.zs (wayN p.zs p.bl p.ca m.a m.b)=true:=by
  have:=o.so
  simp only[err3,hg,Bool.not_false,Bool.true_and,Bool.or_eq_false_iff,Bool.not_eq_false']at this
  exact this.2.1
 refine⟨h88.1,h88.2,h64,hk,hp0,by unfold cstR;rw[hw,hg];rfl,?_⟩
 have hbd:=o.bd
 rw[h88.1,h88.2]at hw hbd
 have key:∀ {n:Nat} {l:List Int},wayN p.zs p.bl p.ca m.a m.b=n->ai 8 8 (lP n)=true->ai 8 8 (wCor n)=true->(bg 8 (lP n) (wCor n)).2.2=true->aW 8 8 (lP n) (wCor n)=l->iC p.zs l=true:=by
  rintro n l hn v1 v2 v3 rfl
  rw[hn]at hw
  simp only[wayB,Bool.and_eq_true]at hw
  rw[empty_eq hbd o.hl v1 v2 v3]
  exact hw.2
 unfold pW
 obtain⟨_,hsq⟩:=Cx hn
 rcases hsq with⟨hn,e1,e2,e3,e4⟩|⟨hn,e1,e2,e3,e4⟩|⟨hn,e1,e2,e3,e4⟩|⟨hn,e1,e2,e3,e4⟩
 ·have k1:=key (l:=[5,6]) hn (by decide) (by decide) (by decide) (by kernel_rfl)
  simp only[iC,List.all_cons,List.all_nil,Bool.and_true,Bool.and_eq_true,decide_eq_true_eq]at k1
  exact .inl ⟨e1,e2,e3,e4,by rw[hn];rfl,by rw[hn];rfl,k1.1,k1.2⟩
 ·have k1:=key (l:=[3,2,1]) hn (by decide) (by decide) (by decide) (by kernel_rfl)
  simp only[iC,List.all_cons,List.all_nil,Bool.and_true,Bool.and_eq_true,decide_eq_true_eq]at k1
  exact .inr (.inl ⟨e1,e2,e3,e4,by rw[hn];rfl,by rw[hn];rfl,k1.1,k1.2.1⟩)
 ·have k1:=key (l:=[61,62]) hn (by decide) (by decide) (by decide) (by kernel_rfl)
  simp only[iC,List.all_cons,List.all_nil,Bool.and_true,Bool.and_eq_true,decide_eq_true_eq]at k1
  exact .inr (.inr (.inl ⟨e1,e2,e3,e4,by rw[hn];rfl,by rw[hn];rfl,k1.1,k1.2⟩))
 ·have k1:=key (l:=[59,58,57]) hn (by decide) (by decide) (by decide) (by kernel_rfl)
  simp only[iC,List.all_cons,List.all_nil,Bool.and_true,Bool.and_eq_true,decide_eq_true_eq]at k1
  exact .inr (.inr (.inr ⟨e1,e2,e3,e4,by rw[hn];rfl,by rw[hn];rfl,k1.1,k1.2.1⟩))
theorem MvOk.at_cast(o:MvOk p m)(hk:aU (p.zs.getD m.a.toNat 0)=6)(hb:p.zs.getD m.b.toNat 0=0):at2R p.f p.zs p.pa m.a m.b=-1:=by
 have he:epB p.zs p.pa m.a m.b=false:=by unfold epB;rw[o.kd,hk];rfl
 unfold at2R capR at1R
 rw[he,cond_false,hb];rfl
end
theorem mk_p{p:Psn}{m:Mov}(h:mkE5 p m=0):mkP p m=⟨p.f,p.r,zs3R p.f p.r p.zs p.bl p.ca p.pa m.a m.b m.p,!p.bl,caR p.ca m.a m.b,paR p.f p.zs m.a m.b,haR p.f p.zs p.pa p.ha m.a m.b,fuR p.bl p.fu⟩/\mkU p m=⟨m,capR p.f p.zs p.pa m.a m.b,at2R p.f p.zs p.pa m.a m.b,p.ca,p.pa,p.ha,p.fu⟩:=by
 constructor
 ·unfold mkP;rw[decide_eq_true h];rfl
 ·unfold mkU;rw[decide_eq_true h];rfl
end
section
theorem Fe:∀ ca:_root_.Fin 16,∀ a1 a2 a3 a4 b1 b2 b3 b4:Bool,
  (bS (nO (ca.val:Int) (u8or (fR4 a1 a2 a3 a4) (fR4 b1 b2 b3 b4))) 1≠0->bS (ca.val:Int) 1≠0/\a1=false/\b1=false) /\
  (bS (nO (ca.val:Int) (u8or (fR4 a1 a2 a3 a4) (fR4 b1 b2 b3 b4))) 2≠0->bS (ca.val:Int) 2≠0/\a2=false/\b2=false) /\
  (bS (nO (ca.val:Int) (u8or (fR4 a1 a2 a3 a4) (fR4 b1 b2 b3 b4))) 4≠0->bS (ca.val:Int) 4≠0/\a3=false/\b3=false) /\
  (bS (nO (ca.val:Int) (u8or (fR4 a1 a2 a3 a4) (fR4 b1 b2 b3 b4))) 8≠0->bS (ca.val:Int) 8≠0/\a4=false/\b4=false) /\
  nO (ca.val:Int) (u8or (fR4 a1 a2 a3 a4) (fR4 b1 b2 b3 b4))<16:=by decide +kernel
theorem HT{ca a b:Int}(h:0<=ca/\ca<=15) :
  (bS (caR ca a b) 1≠0->bS ca 1≠0/\(4≠a/\7≠a)/\4≠b/\7≠b)/\(bS (caR ca a b) 2≠0->bS ca 2≠0/\(4≠a/\0≠a)/\4≠b/\0≠b) /\
  (bS (caR ca a b) 4≠0->bS ca 4≠0/\(60≠a/\63≠a)/\60≠b/\63≠b)/\(bS (caR ca a b) 8≠0->bS ca 8≠0/\(60≠a/\56≠a)/\60≠b/\56≠b)/\caR ca a b<16:=by
 have hl:∀ at_,DB at_=fR4 (decide (4=at_)||decide (7=at_)) (decide (4=at_)||decide (0=at_)) (decide (60=at_)||decide (63=at_)) (decide (60=at_)||decide (56=at_)):=fun at_=>rfl
 have:=Fe ⟨ca.toNat,by omega⟩ (decide (4=a)||decide (7=a)) (decide (4=a)||decide (0=a)) (decide (60=a)||decide (63=a)) (decide (60=a)||decide (56=a)) (decide (4=b)||decide (7=b)) (decide (4=b)||decide (0=b)) (decide (60=b)||decide (63=b)) (decide (60=b)||decide (56=b))
 unfold caR
 rw[hl,hl]
 dsimp only at this
 rw[show ((ca.toNat:Nat):Int)=ca by omega]at this
 simp only[Bool.or_eq_false_iff,decide_eq_false_iff_not]at this
 exact this
section
variable{p:Psn}{m:Mov}
theorem MvOk.kO(o:MvOk p m):∃ K:Nat,K<p.zs.length/\p.zs.getD K 0=kgP (!p.bl)/\(∀ i:Nat,i<p.zs.length->p.zs.getD i 0=kgP (!p.bl)->i=K)/\attR p.f p.r p.zs K p.bl=0:=by
 have hk:=o.kings
 simp only[ei,Bool.and_eq_true,decide_eq_true_eq]at hk
 obtain⟨⟨_,h2⟩,h3⟩:=hk
 unfold aM at h2 h3
 cases hc:decide ((aK p.f p.r p.zs (!p.bl)).2=0) with
 |false=>
  rw[hc,cond_false]at h2
  exact absurd h2 (of_decide_eq_false hc)
 |true=>
  rw[hc,cond_true,Bool.not_not]at h3
  obtain⟨K,k1,k2,k3,k4⟩:=mI o.h o.hl (of_decide_eq_true hc)
  rcases gl (bl:=!p.bl) o.h o.hl with⟨h5,_⟩|⟨h5,_,_⟩
  ·omega
  ·rw[h5,k3]at h3
   exact⟨K,k1,k2,k4,h3⟩
theorem MvOk.attacks(o:MvOk p m)(hz:p.zs.getD m.b.toNat 0≠0):m.a∈attL p.f p.r p.zs m.b p.bl:=by
 obtain⟨⟨sa0,sa1⟩,⟨sb0,sb1⟩⟩:=o.sq
 refine ej.2 ⟨sa0,sa1,o.hp,?_⟩
 unfold dW
 cases hk:decide (aU (p.zs.getD m.a.toNat 0)=1) with
 |true=>
  rw[cond_true]
  have hneg:decide (p.zs.getD m.a.toNat 0<0)=p.bl:=by
   have hp:=o.hp
   unfold isP at hp
   cases hb:p.bl<;>rw[hb]at hp<;>simp only[Bool.and_true,Bool.not_true,Bool.and_false,Bool.or_false,Bool.not_false,Bool.false_or,decide_eq_true_eq]at hp
   ·simp only[decide_eq_false_iff_not];omega
   ·simp only[decide_eq_true_eq];exact hp
  rw[hneg,eR,bI]
  have hlt:=aB o.hb
  refine⟨hlt.1,by omega,?_⟩
  rcases(o.steps (of_decide_eq_true hk)).1 with h|h
  ·exfalso
   obtain⟨hou,hob⟩:=eB o.bd o.hl
   have hocc:hasB (occR p.f p.r p.zs) m.b=true:=by
    rw[dz hou o.hb,hob,decide_eq_true (show m.b.toNat<p.zs.length by omega),decide_eq_false hz];rfl
   simp only[ee,Bool.or_eq_true,Bool.and_eq_true,decide_eq_true_eq,Bool.not_eq_true']at h
   rcases h with⟨h1,h2⟩|⟨⟨⟨⟨h1,_⟩,_⟩,_⟩,h2⟩<;>rw[<-h1,hocc]at h2<;>cases h2
  ·exact h.1
 |false=>
  rw[cond_false,decide_eq_false o.hab,Bool.not_false,Bool.true_and]
  have hn:wayN p.zs p.bl p.ca m.a m.b=4:=by
   refine Decidable.byContradiction fun hn=>hz ?_
   obtain⟨_,_,_,_,_,_,hs⟩:=o.cast4 hn
   rcases hs with⟨_,_,_,e1,_,_,_,e2⟩|⟨_,_,_,e1,_,_,_,e2⟩|⟨_,_,_,e1,_,_,_,e2⟩|⟨_,_,_,e1,_,_,_,e2⟩<;>rw[e1]<;>exact e2
  have hso:=o.so
  have hw:wayB p.f p.r p.zs 4=false:=rfl
  simp only[err3,hn,hw,Bool.not_false,Bool.true_or,Bool.and_true,Bool.or_eq_false_iff,Bool.not_eq_false']at hso
  have hg:=hso.2
  rw[kI (_ca:=p.ca) o.h o.hl o.ha o.hb o.hp,hk,cond_false,Bool.and_eq_true]at hg
  exact hg.2
theorem MvOk.noking(o:MvOk p m)(h:0<=at2R p.f p.zs p.pa m.a m.b):p.zs.getD (at2R p.f p.zs p.pa m.a m.b).toNat 0≠kgP (!p.bl):=by
 obtain⟨c1,c2,c3,c4⟩:=o.cap.2.1 h
 intro hkg
 cases he:epB p.zs p.pa m.a m.b with
 |true=>
  simp only[epB,Bool.and_eq_true,decide_eq_true_eq]at he
  rw[o.kd]at he
  obtain⟨e1,_,e3,_⟩:=o.ep he.1 he.2
  rw[c4,e1,e3]at hkg
  revert hkg;cases p.bl<;>decide
 |false=>
  have h1:at2R p.f p.zs p.pa m.a m.b=m.b:=by rw[c4];unfold at1R;rw[he];rfl
  rw[h1]at hkg
  obtain⟨K,k1,k2,k3,k4⟩:=o.kO
  obtain⟨⟨sa0,sa1⟩,⟨sb0,sb1⟩⟩:=o.sq
  have hK:=k3 m.b.toNat (by omega) hkg
  have ha:=o.attacks (by rw[hkg];cases p.bl<;>decide)
  have hb:=(kW (bl:=p.bl) o.h o.hl o.hb).2 m.a.toNat
  rw[show ((m.a.toNat:Nat):Int)=m.a by omega,decide_eq_true ha,show m.b=((K:Nat):Int) by omega,k4,bt_0]at hb
  cases hb
theorem MvOk.zn(o:MvOk p m)(hn:wayN p.zs p.bl p.ca m.a m.b=4):∀ i:Nat,i<p.zs.length->(zs3R p.f p.r p.zs p.bl p.ca p.pa m.a m.b m.p).getD i 0=if i=m.b.toNat then(bif decide (m.p=0)then p.zs.getD m.a.toNat 0 else bif p.bl then w8 (0-m.p)else m.p)else if i=m.a.toNat then 0 else(zs1R p.f p.zs p.pa m.a m.b).getD i 0:=by
 intro i hi
 have hcs:cstR p.f p.r p.zs p.bl p.ca p.pa m.a m.b m.p=false:=by unfold cstR;rw[hn];rfl
 have hl2:=rN (f:=p.f) (zs:=p.zs) (pa:=p.pa) (a:=m.a) (b:=m.b)
 have hz:=o.z2.2 i hi
 obtain⟨_,⟨sb0,sb1⟩⟩:=o.sq
 unfold zs3R putR
 rw[hcs]
 cases decide (m.p=0)<;>cases p.bl<;>simp only[Bool.not_true,Bool.not_false,Bool.and_self,Bool.and_false,Bool.false_and,cond_true,cond_false]<;>first
  |exact hz
  | (rw[jo,hl2,hz]
     by_cases e:i=m.b.toNat
     ·rw[if_pos ⟨e,by omega⟩,if_pos e]
     ·rw[if_neg (fun h=>e h.1),if_neg e,if_neg e])
theorem MvOk.zc(o:MvOk p m)(hn:wayN p.zs p.bl p.ca m.a m.b≠4):∃ (k to cor cro:Nat),(p.bl=false/\((k,to,cor,cro)=(4,6,7,5)\/(k,to,cor,cro)=(4,2,0,3))\/p.bl=true/\((k,to,cor,cro)=(60,62,63,61)\/(k,to,cor,cro)=(60,58,56,59)))/\m.a=k/\m.b=to/\p.zs.getD cor 0=ofP 4 p.bl/\p.zs.getD cro 0=0/\p.zs.getD to 0=0 /\
  ∀ i:Nat,i<p.zs.length->(zs3R p.f p.r p.zs p.bl p.ca p.pa m.a m.b m.p).getD i 0=if i=cor then 0 else if i=cro then p.zs.getD cor 0 else if i=to then p.zs.getD k 0 else if i=k then 0 else p.zs.getD i 0:=by
 obtain⟨hf,hr,h64,hk,hp0,hcs,hs⟩:=o.cast4 hn
 have hbz:p.zs.getD m.b.toNat 0=0:=by
  rcases hs with⟨_,_,_,e1,_,_,_,e2⟩|⟨_,_,_,e1,_,_,_,e2⟩|⟨_,_,_,e1,_,_,_,e2⟩|⟨_,_,_,e1,_,_,_,e2⟩<;>rw[e1]<;>exact e2
 have hat:=o.at_cast hk hbz
 have hz1:zs1R p.f p.zs p.pa m.a m.b=p.zs:=by unfold zs1R;rw[hat];rfl
 have hz3:zs3R p.f p.r p.zs p.bl p.ca p.pa m.a m.b m.p=((zs2R p.f p.zs p.pa m.a m.b).set (wCro (wayN p.zs p.bl p.ca m.a m.b)).toNat ((zs2R p.f p.zs p.pa m.a m.b).getD (wCor (wayN p.zs p.bl p.ca m.a m.b)).toNat 0)).set (wCor (wayN p.zs p.bl p.ca m.a m.b)).toNat 0:=by
  unfold zs3R putR
  rw[hcs,hp0];rfl
 have hl2:=rN (f:=p.f) (zs:=p.zs) (pa:=p.pa) (a:=m.a) (b:=m.b)
 have hcast:=o.cast
 simp only[er,Bool.and_eq_true,Bool.not_eq_true',decide_eq_true_eq]at hcast
 obtain⟨⟨⟨⟨c1,c2⟩,c3⟩,c4⟩,_⟩:=hcast
 have fin:∀ {c:Bool} {bit:Int} {k to cor cro:Nat},pW p m c bit k to cor cro->cor≠k->cor≠to->cor<64->cro<64->k<64->to<64->∀ i:Nat,i<p.zs.length->(zs3R p.f p.r p.zs p.bl p.ca p.pa m.a m.b m.p).getD i 0=if i=cor then 0 else if i=cro then p.zs.getD cor 0 else if i=to then p.zs.getD k 0 else if i=k then 0 else p.zs.getD i 0:=by
  intro c bit k to cor cro ⟨_,_,q3,q4,q5,q6,_,_⟩ d1 d2 l1 l2 l3 l4 i hi
  have hz2:∀ i:Nat,i<p.zs.length->(zs2R p.f p.zs p.pa m.a m.b).getD i 0=if i=to then p.zs.getD k 0 else if i=k then 0 else p.zs.getD i 0:=fun i hi=>by
   have:=o.z2.2 i hi
   rw[hz1]at this
   rw[this,q3,q4,Int.toNat_natCast,Int.toNat_natCast]
  rw[hz3,q5,q6,Int.toNat_natCast,Int.toNat_natCast,jo,List.length_set,hl2]
  by_cases e:i=cor
  ·rw[if_pos ⟨e,by omega⟩,if_pos e]
  ·rw[if_neg (fun h=>e h.1),if_neg e,jo,hl2]
   by_cases e2:i=cro
   ·rw[if_pos ⟨e2,by omega⟩,if_pos e2,hz2 cor (by omega),if_neg d2,if_neg d1]
   ·rw[if_neg (fun h=>e2 h.1),if_neg e2,hz2 i hi]
 rcases hs with h|h|h|h
 ·have ⟨q1,q2,q3,q4,q5,q6,q7,q8⟩:=h
  exact⟨4,6,7,5,.inl ⟨q1,.inl rfl⟩,q3,q4,by rw[q1];exact(cT c1 q2).2.2.2,q7,q8,fin (k:=4) (to:=6) (cor:=7) (cro:=5) h (by decide) (by decide) (by decide) (by decide) (by decide) (by decide)⟩
 ·have ⟨q1,q2,q3,q4,q5,q6,q7,q8⟩:=h
  exact⟨4,2,0,3,.inl ⟨q1,.inr rfl⟩,q3,q4,by rw[q1];exact(cT c2 q2).2.2.2,q7,q8,fin (k:=4) (to:=2) (cor:=0) (cro:=3) h (by decide) (by decide) (by decide) (by decide) (by decide) (by decide)⟩
 ·have ⟨q1,q2,q3,q4,q5,q6,q7,q8⟩:=h
  exact⟨60,62,63,61,.inr ⟨q1,.inl rfl⟩,q3,q4,by rw[q1];exact(cT c3 q2).2.2.2,q7,q8,fin (k:=60) (to:=62) (cor:=63) (cro:=61) h (by decide) (by decide) (by decide) (by decide) (by decide) (by decide)⟩
 ·have ⟨q1,q2,q3,q4,q5,q6,q7,q8⟩:=h
  exact⟨60,58,56,59,.inr ⟨q1,.inr rfl⟩,q3,q4,by rw[q1];exact(cT c4 q2).2.2.2,q7,q8,fin (k:=60) (to:=58) (cor:=56) (cro:=59) h (by decide) (by decide) (by decide) (by decide) (by decide) (by decide)⟩
theorem vf{n:Int}{bl:Bool}(h:isP n bl=true):n≠kgP (!bl):=by
 intro e
 rw[e]at h
 revert h;cases bl<;>decide
theorem MvOk.z1i(o:MvOk p m)(i:Nat):(0<=at2R p.f p.zs p.pa m.a m.b/\i=(at2R p.f p.zs p.pa m.a m.b).toNat/\(zs1R p.f p.zs p.pa m.a m.b).getD i 0=0)\/(zs1R p.f p.zs p.pa m.a m.b).getD i 0=p.zs.getD i 0:=by
 unfold zs1R
 cases hc:decide (0<=at2R p.f p.zs p.pa m.a m.b) with
 |false=>exact .inr rfl
 |true=>
  obtain⟨c1,_⟩:=o.cap.2.1 (of_decide_eq_true hc)
  have c0:=of_decide_eq_true hc
  rw[cond_true,jo]
  by_cases e:i=(at2R p.f p.zs p.pa m.a m.b).toNat
  ·rw[if_pos ⟨e,by omega⟩];exact .inl ⟨c0,e,rfl⟩
  ·rw[if_neg (fun h=>e h.1)];exact .inr rfl
theorem MvOk.put(o:MvOk p m)(hp:m.p≠0):aU (p.zs.getD m.a.toNat 0)=1/\(2<=m.p/\m.p<=5)/\((bif p.bl then w8 (0-m.p)else m.p)=m.p\/(bif p.bl then w8 (0-m.p)else m.p)=-m.p):=by
 have hpr:2<=m.p/\m.p<=5:=o.hpr.resolve_left hp
 refine⟨?_,hpr,?_⟩
 ·by_cases h:aU (p.zs.getD m.a.toNat 0)=1
  ·exact h
  ·exact absurd (o.pr0 h) hp
 ·cases p.bl
  ·exact .inl rfl
  ·right;rw[cond_true,Bv (by omega) (by omega)];omega
theorem MvOk.king2(o:MvOk p m):(aK p.f p.r (zs3R p.f p.r p.zs p.bl p.ca p.pa m.a m.b m.p) (!p.bl)).2=0:=by
 obtain⟨⟨sa0,sa1⟩,⟨sb0,sb1⟩⟩:=o.sq
 obtain⟨K,k1,k2,k3,_⟩:=o.kO
 have hlen:=fA (f:=p.f) (r:=p.r) (zs:=p.zs) (bl:=p.bl) (ca:=p.ca) (pa:=p.pa) (a:=m.a) (b:=m.b) (pr:=m.p)
 have kz:(0:Int)≠kgP (!p.bl):=by cases p.bl<;>decide
 have hKa:K≠m.a.toNat:=fun e=>vf o.hp (by rw[<-e];exact k2)
 refine(jH (K:=K) o.z3.1 (by rw[hlen];exact o.hl) (by rw[hlen];exact k1) ?_ fun i hi he=>?_).1
 ·by_cases hn:wayN p.zs p.bl p.ca m.a m.b=4
  ·have hKb:K≠m.b.toNat:=by
    intro e
    have hz:p.zs.getD m.b.toNat 0≠0:=by rw[<-e,k2];exact kz.symm
    have h0:0<=at2R p.f p.zs p.pa m.a m.b:=by
     refine Decidable.byContradiction fun h=>hz ?_
     exact(o.cap.2.2.1 (by omega)).2.2
    obtain⟨_,_,_,c4⟩:=o.cap.2.1 h0
    have hnk:=o.noking h0
    cases hep:epB p.zs p.pa m.a m.b with
    |true=>
     simp only[epB,Bool.and_eq_true,decide_eq_true_eq]at hep
     rw[o.kd]at hep
     exact hz (o.ep hep.1 hep.2).2.2.2.2.1
    |false=>
     have h1:at2R p.f p.zs p.pa m.a m.b=m.b:=by rw[c4];unfold at1R;rw[hep];rfl
     rw[h1,<-e]at hnk
     exact hnk k2
   rw[o.zn hn K k1,if_neg hKb,if_neg hKa]
   rcases o.z1i K with⟨h0,e,_⟩|h
   ·exact absurd (by rw[<-e];exact k2) (o.noking h0)
   ·rw[h,k2]
  ·obtain⟨k,to,cor,cro,_,e1,e2,e3,e4,e5,hz⟩:=o.zc hn
   have d1:K≠cor:=fun e=>by rw[e,e3]at k2;revert k2;cases p.bl<;>decide
   have d2:K≠cro:=fun e=>by rw[e,e4]at k2;exact kz k2
   have d3:K≠to:=fun e=>by rw[e,e5]at k2;exact kz k2
   rw[hz K k1,if_neg d1,if_neg d2,if_neg d3,if_neg (by omega),k2]
 ·rw[hlen]at hi
  by_cases hn:wayN p.zs p.bl p.ca m.a m.b=4
  ·rw[o.zn hn i hi]at he
   by_cases eb:i=m.b.toNat
   ·exfalso
    rw[if_pos eb]at he
    cases hp:decide (m.p=0) with
    |true=>rw[hp,cond_true]at he;exact vf o.hp he
    |false=>
     rw[hp,cond_false]at he
     obtain⟨_,h2,h3⟩:=o.put (of_decide_eq_false hp)
     have:kgP (!p.bl)=6\/kgP (!p.bl)=-6:=by cases p.bl<;>simp[kgP]
     omega
   ·rw[if_neg eb]at he
    by_cases ea:i=m.a.toNat
    ·rw[if_pos ea]at he;exact absurd he kz
    ·rw[if_neg ea]at he
     rcases o.z1i i with⟨_,_,h⟩|h
     ·rw[h]at he;exact absurd he kz
     ·rw[h]at he;exact k3 i hi he
  ·obtain⟨k,to,cor,cro,_,e1,e2,e3,e4,e5,hz⟩:=o.zc hn
   rw[hz i hi]at he
   by_cases d1:i=cor
   ·rw[if_pos d1]at he;exact absurd he kz
   rw[if_neg d1]at he
   by_cases d2:i=cro
   ·exfalso;rw[if_pos d2,e3]at he;revert he;cases p.bl<;>decide
   rw[if_neg d2]at he
   by_cases d3:i=to
   ·rw[if_pos d3]at he
    have:=vf o.hp
    rw[e1,Int.toNat_natCast]at this
    exact absurd he this
   rw[if_neg d3]at he
   by_cases d4:i=k
   ·rw[if_pos d4]at he;exact absurd he kz
   rw[if_neg d4]at he
   exact k3 i hi he
theorem FR{f r b:Int}{zs:List Int}(hbd:aI f r zs=true)(hb:ai f r b=true):(zs.length-f.toNat<=b.toNat↔py f b=r-1)/\(b.toNat<f.toNat↔py f b=0):=by
 obtain⟨b0,b1,b2,b3,b4,b5,b6,b7,b8,b9⟩:=de hb
 have hl:=(bR hbd).2
 have hlt:=aB hb
 have hfr:f*r=(r-1)*f+f:=by rw[Int.sub_mul,Int.mul_comm r f];omega
 have h1:(zs.length-f.toNat<=b.toNat)↔(r-1)*f<=b:=by omega
 have h2:(b.toNat<f.toNat)↔b<f:=by omega
 rw[h1,h2]
 constructor
 ·constructor
  ·intro h
   refine Decidable.byContradiction fun hne=>?_
   have:(py f b+1)*f<=(r-1)*f:=Int.mul_le_mul_of_nonneg_right (by omega) (by omega)
   rw[Int.add_mul]at this
   omega
  ·intro h
   rw[<-h];omega
 ·constructor
  ·intro h
   refine Decidable.byContradiction fun hne=>?_
   have:1*f<=py f b*f:=Int.mul_le_mul_of_nonneg_right (by omega) (by omega)
   omega
  ·intro h
   rw[h]at b5;omega
theorem MvOk.pawns2(o:MvOk p m):iV p.f (zs3R p.f p.r p.zs p.bl p.ca p.pa m.a m.b m.p)=true:=by
 obtain⟨⟨sa0,sa1⟩,⟨sb0,sb1⟩⟩:=o.sq
 have hlen:=fA (f:=p.f) (r:=p.r) (zs:=p.zs) (bl:=p.bl) (ca:=p.ca) (pa:=p.pa) (a:=m.a) (b:=m.b) (pr:=m.p)
 have hok:=o.ok
 simp only[Psn.ok,Bool.and_eq_true]at hok
 have hpw:=hok.1.1.1.2
 simp only[iV,Bool.and_eq_true,Bool.not_eq_true']at hpw ⊢
 obtain⟨w1,w2⟩:=FR o.bd o.hb
 -- a pawn that stands after the move
 have key:∀ (v:Int) (i:Nat),i<p.zs.length->(v=1\/v=-1)->(zs3R p.f p.r p.zs p.bl p.ca p.pa m.a m.b m.p).getD i 0=v->p.zs.getD i 0=v\/(i=m.b.toNat/\m.p=0/\p.zs.getD m.a.toNat 0=v):=by
  intro v i hi hv he
  by_cases hn:wayN p.zs p.bl p.ca m.a m.b=4
  ·rw[o.zn hn i hi]at he
   by_cases eb:i=m.b.toNat
   ·rw[if_pos eb]at he
    cases hp:decide (m.p=0) with
    |true=>rw[hp,cond_true]at he;exact .inr ⟨eb,of_decide_eq_true hp,he⟩
    |false=>
     rw[hp,cond_false]at he
     obtain⟨_,h2,h3⟩:=o.put (of_decide_eq_false hp)
     omega
   ·rw[if_neg eb]at he
    by_cases ea:i=m.a.toNat
    ·rw[if_pos ea]at he;omega
    ·rw[if_neg ea]at he
     rcases o.z1i i with⟨_,_,h⟩|h
     ·omega
     ·rw[h]at he;exact .inl he
  ·obtain⟨_,_,_,hk6,_⟩:=o.cast4 hn
   obtain⟨k,to,cor,cro,_,e1,e2,e3,e4,e5,hz⟩:=o.zc hn
   rw[hz i hi]at he
   by_cases d1:i=cor
   ·rw[if_pos d1]at he;omega
   rw[if_neg d1]at he
   by_cases d2:i=cro
   ·exfalso
    rw[if_pos d2,e3]at he
    rcases hv with rfl|rfl<;>revert he<;>cases p.bl<;>decide
   rw[if_neg d2]at he
   by_cases d3:i=to
   ·exfalso
    rw[if_pos d3]at he
    rw[e1,Int.toNat_natCast,he]at hk6
    rcases hv with rfl|rfl<;>revert hk6<;>decide
   rw[if_neg d3]at he
   by_cases d4:i=k
   ·rw[if_pos d4]at he;omega
   rw[if_neg d4]at he
   exact .inl he
 have lastW:fM p.r false=p.r-1:=az (by have:=(de o.hb);omega) (by have:=(de o.hb);omega)
 have kd1:∀ v:Int,(v=1\/v=-1)->p.zs.getD m.a.toNat 0=v->aU (p.zs.getD m.a.toNat 0)=1:=by
  intro v hv h;rw[h];rcases hv with rfl|rfl<;>decide
 constructor
 ·rw[Bool.eq_false_iff]
  intro h
  obtain⟨i,h1,h2,h3⟩:=ic.1 h
  rw[hlen]at h1 h2
  simp only[isV,decide_eq_true_eq]at h3
  rcases key 1 i h2 (.inl rfl) h3.symm with h4|⟨rfl,h4,h5⟩
  ·have:=hpw.1
   rw[Bool.eq_false_iff]at this
   exact this (ic.2 ⟨i,h1,h2,by simp only[isV,decide_eq_true_eq];exact h4.symm⟩)
  ·have hbl:p.bl=false:=by
    have hp:=o.hp;rw[h5]at hp
    cases hb:p.bl with
    |false=>rfl
    |true=>rw[hb]at hp;revert hp;decide
   have hl:=(o.steps (kd1 1 (.inl rfl) h5)).2
   rw[hbl,lastW]at hl
   exact hl.2 (w1.1 h1) h4
 ·rw[Bool.eq_false_iff]
  intro h
  obtain⟨i,h1,h2,h3⟩:=qt.1 h
  rw[hlen]at h2
  simp only[isV,decide_eq_true_eq]at h3
  rcases key (-1) i h2 (.inr rfl) h3.symm with h4|⟨rfl,h4,h5⟩
  ·have:=hpw.2
   rw[Bool.eq_false_iff]at this
   exact this (qt.2 ⟨i,h1,h2,by simp only[isV,decide_eq_true_eq];exact h4.symm⟩)
  ·have hbl:p.bl=true:=by
    have hp:=o.hp;rw[h5]at hp
    cases hb:p.bl with
    |true=>rfl
    |false=>rw[hb]at hp;revert hp;decide
   have hl:=(o.steps (kd1 (-1) (.inr rfl) h5)).2
   rw[hbl]at hl
   exact hl.2 (w2.1 h1) h4
theorem MvOk.cast2(o:MvOk p m):er p.f p.r (zs3R p.f p.r p.zs p.bl p.ca p.pa m.a m.b m.p) (caR p.ca m.a m.b)=true:=by
 obtain⟨⟨sa0,sa1⟩,⟨sb0,sb1⟩⟩:=o.sq
 obtain⟨g1,g2,g3,g4,g5⟩:=HT (a:=m.a) (b:=m.b) o.caB
 have hc:=o.cast
 simp only[er,Bool.and_eq_true,Bool.not_eq_true',decide_eq_true_eq]at hc ⊢
 obtain⟨⟨⟨⟨c1,c2⟩,c3⟩,c4⟩,_⟩:=hc
 have key:∀ {bit:Int} {k q:Nat} {c:Bool},rtX p.f p.r p.zs p.ca bit k q c=false->((c,k,q)=(false,4,7)\/(c,k,q)=(false,4,0)\/(c,k,q)=(true,60,63)\/(c,k,q)=(true,60,56))->(bS (caR p.ca m.a m.b) bit≠0->bS p.ca bit≠0/\((k:Int)≠m.a/\(q:Int)≠m.a)/\(k:Int)≠m.b/\(q:Int)≠m.b)->rtX p.f p.r (zs3R p.f p.r p.zs p.bl p.ca p.pa m.a m.b m.p) (caR p.ca m.a m.b) bit k q c=false:=by
  intro bit k q c hr hrow hg
  unfold rtX
  cases hb:decide (bS (caR p.ca m.a m.b) bit=0) with
  |true=>rfl
  |false=>
   obtain⟨h1,⟨h2,h3⟩,h4,h5⟩:=hg (of_decide_eq_false hb)
   obtain⟨f8,r8,hk,hq⟩:=cT hr h1
   have h64:p.zs.length=64:=uS o.bd (by rw[f8,r8];rfl)
   have hlt:k<64/\q<64:=by rcases hrow with e|e|e|e<;>cases e<;>decide
   have same:∀ (i:Nat) (v:Int),i<64->(i:Int)≠m.a->(i:Int)≠m.b->(i=k\/i=q)->p.zs.getD i 0=ofP v c->(v=6\/v=4)->(zs3R p.f p.r p.zs p.bl p.ca p.pa m.a m.b m.p).getD i 0=ofP v c:=by
    intro i v hi ha hb' hik hz hv
    by_cases hn:wayN p.zs p.bl p.ca m.a m.b=4
    ·rw[o.zn hn i (by omega),if_neg (by omega),if_neg (by omega)]
     rcases o.z1i i with⟨h0,e,_⟩|h
     ·exfalso
      obtain⟨_,_,_,e4⟩:=o.cap.2.1 h0
      cases hep:epB p.zs p.pa m.a m.b with
      |true=>
       simp only[epB,Bool.and_eq_true,decide_eq_true_eq]at hep
       rw[o.kd]at hep
       obtain⟨e1,_,e3,_⟩:=o.ep hep.1 hep.2
       rw[e4,e1]at e
       rw[e,e3]at hz
       rcases hv with rfl|rfl<;>revert hz<;>cases p.bl<;>cases c<;>decide
      |false=>
       have h1:at2R p.f p.zs p.pa m.a m.b=m.b:=by rw[e4];unfold at1R;rw[hep];rfl
       omega
     ·rw[h,hz]
    ·obtain⟨k',to,cor,cro,hside,e1,e2,e3,e4,e5,hz3⟩:=o.zc hn
     have hd:i≠cor/\i≠cro/\i≠to/\i≠k':=by
      rcases hside with⟨_,e|e⟩|⟨_,e|e⟩<;>cases e<;>rcases hrow with e|e|e|e<;>cases e<;>omega
     rw[hz3 i (by omega),if_neg hd.1,if_neg hd.2.1,if_neg hd.2.2.1,if_neg hd.2.2.2,hz]
   rw[same k 6 hlt.1 h2 h4 (.inl rfl) hk (.inl rfl),same q 4 hlt.2 h3 h5 (.inr rfl) hq (.inr rfl),f8,r8]
   simp[is88]
 exact⟨⟨⟨⟨key c1 (.inl rfl) g1,key c2 (.inr (.inl rfl)) g2⟩,key c3 (.inr (.inr (.inl rfl))) g3⟩,key c4 (.inr (.inr (.inr rfl))) g4⟩,g5⟩
theorem MvOk.pass2(o:MvOk p m):iQ p.f p.r (zs3R p.f p.r p.zs p.bl p.ca p.pa m.a m.b m.p) (!p.bl) (paR p.f p.zs m.a m.b) (haR p.f p.zs p.pa p.ha m.a m.b)=true:=by
 obtain⟨⟨sa0,sa1⟩,⟨sb0,sb1⟩⟩:=o.sq
 unfold iQ
 cases ht:twoB p.f p.zs m.a m.b with
 |false=>unfold paR;rw[ht];rfl
 |true=>
  simp only[twoB,Bool.and_eq_true,Bool.or_eq_true,decide_eq_true_eq]at ht
  rw[o.kd]at ht
  obtain⟨hk,ht⟩:=ht
  obtain⟨a0,a1,a2,a3,a4,a5,a6,a7,a8,a9⟩:=de o.ha
  obtain⟨b0,b1,b2,b3,b4,b5,_⟩:=de o.hb
  have hla:=aB o.ha
  have hlb:=aB o.hb
  rw[az (n:=m.b-m.a) (by omega) (by omega),az (n:=2*p.f) (by omega) (by omega),az (n:=-2*p.f) (by omega) (by omega)]at ht
  have hfw:fwd p.bl=1\/fwd p.bl=-1:=by cases p.bl<;>simp[fwd]
  have hone:∀ d:Int,py p.f m.b=py p.f m.a+d->py p.f m.b*p.f=py p.f m.a*p.f+d*p.f:=fun d h=>by rw[h,Int.add_mul]
  have hsteps:=o.steps hk
  have hst:px p.f m.b=px p.f m.a/\py p.f m.b=py p.f m.a+2*fwd p.bl/\py p.f m.a=secR p.r p.bl/\6<=p.r/\ai p.f p.r (m.b-fwd p.bl*p.f)=true/\hasB (occR p.f p.r p.zs) (m.b-fwd p.bl*p.f)=false:=by
   rcases hsteps.1 with h|h
   ·obtain⟨e1,h2⟩:=vX o.ha o.hb h
    rcases h2 with e2|⟨e2,e3,e4,e5,e6⟩
    ·exfalso
     have:=hone _ e2
     rcases hfw with e|e<;>rw[e]at this<;>omega
    ·exact⟨e1,e2,e3,e4,e5,e6⟩
   ·exfalso
    have h1:=h.1
    simp only[dU,Bool.and_eq_true,Bool.or_eq_true,decide_eq_true_eq]at h1
    rw[pc_w o.ha o.hb]at h1
    have e1:m.a.tmod p.f=px p.f m.a:=rfl
    have e2:m.b.tmod p.f=px p.f m.b:=rfl
    rw[e1,e2,az (n:=px p.f m.b-px p.f m.a) (by omega) (by omega),az (n:=px p.f m.a-px p.f m.b) (by omega) (by omega)]at h1
    have:=hone (fwd p.bl) (by omega)
    rcases hfw with e|e<;>rw[e]at this<;>omega
  obtain⟨e1,e2,e3,e4,e5,e6⟩:=hst
  have hmul:py p.f m.b*p.f=py p.f m.a*p.f+2*(fwd p.bl*p.f):=by rw[e2,Int.add_mul,Int.mul_assoc]
  have hd2:m.b-m.a=2*(fwd p.bl*p.f):=by omega
  have hr:m.b-fwd p.bl*p.f=m.a+fwd p.bl*p.f:=by omega
  have hlc:=aB e5
  rw[hr]at e5 e6 hlc
  have hpa:paR p.f p.zs m.a m.b=m.a+fwd p.bl*p.f:=by
   have ht':twoB p.f p.zs m.a m.b=true:=by
    simp only[twoB,Bool.and_eq_true,Bool.or_eq_true,decide_eq_true_eq]
    rw[o.kd,az (n:=m.b-m.a) (by omega) (by omega),az (n:=2*p.f) (by omega) (by omega),az (n:=-2*p.f) (by omega) (by omega)]
    exact⟨hk,ht⟩
   unfold paR
   rw[ht',cond_true,az (n:=m.b-m.a) (by omega) (by omega),hd2,Int.mul_tdiv_cancel_left _ (by decide),az (n:=fwd p.bl*p.f) (by omega) (by omega),az (by omega) (by omega)]
  have hha:haR p.f p.zs p.pa p.ha m.a m.b=0:=by unfold haR;rw[o.kd,hk];rfl
  rw[hpa,hha]
  obtain⟨c0,c1,c2,c3,c4,c5,_⟩:=de e5
  have hpy:py p.f (m.a+fwd p.bl*p.f)=py p.f m.a+fwd p.bl:=by
   have:=kB (f:=p.f) (by omega) c1 c2 a1 a2 (show px p.f (m.a+fwd p.bl*p.f)+py p.f (m.a+fwd p.bl*p.f)*p.f=px p.f m.a+(py p.f m.a+fwd p.bl)*p.f by rw[c5,Int.add_mul];omega)
   exact this.2
  have hlc2:=(cG o.bd).1 e5
  have hmz:p.zs.getD (m.a+fwd p.bl*p.f).toNat 0=0:=by
   obtain⟨hou,hob⟩:=eB o.bd o.hl
   rw[dz hou e5,hob,decide_eq_true (show (m.a+fwd p.bl*p.f).toNat<p.zs.length by omega),Bool.true_and]at e6
   simpa using e6
  have hfz:fwd p.bl*p.f=p.f\/fwd p.bl*p.f=-p.f:=by rcases hfw with e|e<;>rw[e]<;>omega
  have hn:wayN p.zs p.bl p.ca m.a m.b=4:=by
   refine Decidable.byContradiction fun hn=>?_
   have:=(o.wayg hn).1
   omega
  have hsec:secR p.r false=1/\secR p.r true=p.r-2:=⟨rfl,az (by omega) (by omega)⟩
  have hlast:fM p.r false=p.r-1/\fM p.r true=0:=⟨az (by omega) (by omega),rfl⟩
  have hp0:m.p=0:=by
   refine Decidable.byContradiction fun hp=>?_
   have:=hsteps.2.1 hp
   cases hb:p.bl with
   |false=>rw[hb]at this e2 e3;rw[hlast.1]at this;rw[hsec.1]at e3;simp only[fwd,cond_false]at e2;omega
   |true=>rw[hb]at this e2 e3;rw[hlast.2]at this;rw[hsec.2]at e3;simp only[fwd,cond_true]at e2;omega
  have zA:(zs3R p.f p.r p.zs p.bl p.ca p.pa m.a m.b m.p).getD m.a.toNat 0=0:=by
   rw[o.zn hn _ (by omega),if_neg (by have:=o.hab;omega),if_pos rfl]
  have zB:(zs3R p.f p.r p.zs p.bl p.ca p.pa m.a m.b m.p).getD m.b.toNat 0=ofP 1 p.bl:=by
   rw[o.zn hn _ (by omega),if_pos rfl,decide_eq_true hp0,cond_true]
   have hb:=sB o.h m.a.toNat
   rw[dD hb]at hk
   have hp:=o.hp
   unfold isP at hp
   cases hbl:p.bl<;>rw[hbl]at hp<;>simp only[Bool.and_true,Bool.not_true,Bool.and_false,Bool.or_false,Bool.not_false,Bool.false_or,decide_eq_true_eq]at hp
   ·show p.zs.getD m.a.toNat 0=1;omega
   ·rw[show ofP 1 true=-1 by decide];omega
  have zM:(zs3R p.f p.r p.zs p.bl p.ca p.pa m.a m.b m.p).getD (m.a+fwd p.bl*p.f).toNat 0=0:=by
   rw[o.zn hn _ (by omega),if_neg (by omega),if_neg (by omega)]
   rcases o.z1i (m.a+fwd p.bl*p.f).toNat with⟨_,_,h⟩|h
   ·exact h
   ·rw[h,hmz]
  have hpi:IntKind.i64.wrap ((m.a+fwd p.bl*p.f).tdiv p.f)=rkP p.r (!p.bl):=by
   rw[c0,hpy,e3]
   cases p.bl with
   |false=>rw[hsec.1];rfl
   |true=>
    rw[hsec.2]
    show p.r-2+-1=IntKind.i64.wrap (p.r-3)
    rw[az (by omega) (by omega)];omega
  have hup:upP p.f (!p.bl)=fwd p.bl*p.f:=by
   cases p.bl with
   |false=>show p.f=1*p.f;omega
   |true=>
    show IntKind.i64.wrap (0-p.f)=-1*p.f
    rw[az (by omega) (by omega)];omega
  rw[hup,show m.a+fwd p.bl*p.f-fwd p.bl*p.f=m.a by omega,show m.a+fwd p.bl*p.f+fwd p.bl*p.f=m.b by omega,az (n:=m.a) (by omega) (by omega),az (n:=m.b) (by omega) (by omega),zA,zB,zM,hpi,e5,decide_eq_true e4,Bool.not_not]
  simp
theorem MvOk.valid(o:MvOk p m)(h4:err4 p m=false)(h5:err5 p m=false):(⟨p.f,p.r,zs3R p.f p.r p.zs p.bl p.ca p.pa m.a m.b m.p,!p.bl,caR p.ca m.a m.b,paR p.f p.zs m.a m.b,haR p.f p.zs p.pa p.ha m.a m.b,fuR p.bl p.fu⟩:Psn).ok=true:=by
 have hok:=o.ok
 simp only[Psn.ok,Bool.and_eq_true]at hok ⊢
 obtain⟨z1,z2⟩:=o.z3
 refine⟨⟨⟨⟨⟨(aJ z1).2.2.1,?_⟩,o.pawns2⟩,o.cast2⟩,o.pass2⟩,?_⟩
 ·simp only[ei,Bool.and_eq_true,decide_eq_true_eq,Bool.not_not]
  refine⟨⟨o.king2,?_⟩,?_⟩
  ·unfold aM;rw[decide_eq_true z2];rfl
  ·simp only[err4,Bool.or_eq_false_iff]at h4
   have:=h4.1
   simpa[chkB]using this
 ·have hc:=hok.2
  simp only[cntB,Bool.and_eq_true,decide_eq_true_eq]at hc ⊢
  simp only[err5,Bool.or_eq_false_iff,decide_eq_false_iff_not]at h5
  obtain⟨⟨⟨h1,h2⟩,h3⟩,h6⟩:=hc
  have g1:0<=haR p.f p.zs p.pa p.ha m.a m.b:=by
   unfold haR
   cases(decide (absP (p.zs.getD m.a.toNat 0)=1)||!decide (capR p.f p.zs p.pa m.a m.b=0))
   ·rw[cond_false,az (by omega) (by omega)];omega
   ·exact Int.le_refl 0
  have g2:1<=fuR p.bl p.fu:=by
   unfold fuR
   cases p.bl
   ·exact h3
   ·rw[cond_true,az (by omega) (by omega)];omega
  exact⟨⟨⟨g1,by omega⟩,g2⟩,by omega⟩
end
theorem FA{p:Psn}{m:Mov}(hl:p.zs.length<=64)(hca:0<=p.ca)(h:mkE5 p m=0):(mkP p m).ok=true:=by
 obtain⟨o,h4,h5⟩:=Lp hl hca h
 rw[(mk_p h).1]
 exact o.valid h4 h5
end
theorem jq(B:List Int):∀ A:List Int,(ir B A=-1/\∀ x∈A,x∈B)\/(ir B A∈A/\ir B A∉B)
 |[]=>.inl ⟨rfl,by simp⟩
 |x::A=>by
  rw[ir]
  cases hx:hasL x B with
  |false=>
   right
   refine⟨by simp,fun h=>?_⟩
   have:=eR.2 h
   simp only[Bool.not_false,cond_true]at this
   rw[hx]at this;cases this
  |true=>
   rw[Bool.not_true,cond_false]
   rcases jq B A with⟨h1,h2⟩|⟨h1,h2⟩
   ·left
    refine⟨h1,fun y hy=>?_⟩
    rcases List.mem_cons.1 hy with rfl|hy
    ·exact eR.1 hx
    ·exact h2 y hy
   ·right;exact⟨by simp[h1],h2⟩
theorem eE{f r:Int}{zs:List Int}{bl:Bool}{K x j:Int}(h:aD f r zs=true)(hK:ai f r K=true)(hp:Pins f r zs bl K x j):ai f r x=true/\ai f r j=true/\(bg f x K).2.2=true/\Btw f K x j/\zs.getD x.toNat 0≠0/\zs.getD j.toNat 0≠0:=by
 obtain⟨h0,h1,hl,ho⟩:=hp
 have hx:=(bM h).2 ⟨h0,h1⟩
 have hj:=(ho j).2 rfl
 have hjv:=(dA (b:=K) hx).2 j hj.1
 obtain⟨l1,l2⟩:=(cV hx hK hjv).1 hj.1
 exact⟨hx,hjv,l1,l2.symm,fh hl.1,hj.2⟩
theorem nN{f r:Int}{zs:List Int}{bl:Bool}{K x1 x2 j:Int}(h:aD f r zs=true)(hK:ai f r K=true)(p1:Pins f r zs bl K x1 j)(p2:Pins f r zs bl K x2 j):x1=x2:=by
 obtain⟨v1,vj,l1,b1,z1,_⟩:=eE h hK p1
 obtain⟨v2,_,l2,b2,z2,_⟩:=eE h hK p2
 obtain⟨i1,k1,d1,e1,u1,a1,a2,a3,a4,a5,a6,a7⟩:=b1
 obtain⟨i2,k2,d2,e2,u2,c1,c2,c3,c4,c5,c6,c7⟩:=b2
 have hd:d1=d2/\e1=e2/\i1=i2:=by
  rcases bj u1 with⟨rfl,rfl⟩|⟨rfl,rfl⟩|⟨rfl,rfl⟩|⟨rfl,rfl⟩|⟨rfl,rfl⟩|⟨rfl,rfl⟩|⟨rfl,rfl⟩|⟨rfl,rfl⟩ <;>
  rcases bj u2 with⟨rfl,rfl⟩|⟨rfl,rfl⟩|⟨rfl,rfl⟩|⟨rfl,rfl⟩|⟨rfl,rfl⟩|⟨rfl,rfl⟩|⟨rfl,rfl⟩|⟨rfl,rfl⟩<;>omega
 obtain⟨rfl,rfl,rfl⟩:=hd
 have far:∀ {x:Int} {k:Nat},i1<k->px f x=px f K+k*d1->py f x=py f K+k*e1->x≠j:=by
  rintro x k hk e1 e2 rfl
  rcases bj u1 with⟨rfl,rfl⟩|⟨rfl,rfl⟩|⟨rfl,rfl⟩|⟨rfl,rfl⟩|⟨rfl,rfl⟩|⟨rfl,rfl⟩|⟨rfl,rfl⟩|⟨rfl,rfl⟩<;>omega
 rcases Nat.lt_trichotomy k1 k2 with hk|hk|hk
 ·exfalso
  have hb:Btw f K x2 x1:=⟨k1,k2,d1,e1,u1,by omega,hk,c3,c4,c5,a4,a5⟩
  exact far a2 a4 a5 ((p2.2.2.2 x1).1 ⟨(cV v2 hK v1).2 ⟨l2,hb.symm⟩,z1⟩)
 ·subst hk
  exact(gK v1 v2).2 ⟨by omega,by omega⟩
 ·exfalso
  have hb:Btw f K x1 x2:=⟨k2,k1,d1,e1,u1,by omega,hk,a3,a4,a5,c4,c5⟩
  exact far c2 c4 c5 ((p1.2.2.2 x2).1 ⟨(cV v1 hK v2).2 ⟨l1,hb.symm⟩,z2⟩)
theorem Il{f r:Int}{zs:List Int}{bl:Bool}{K x:Int}(h:aD f r zs=true)(hK:ai f r K=true)(p:Pins f r zs bl K x K):False:=by
 obtain⟨_,_,_,b,_⟩:=eE h hK p
 obtain⟨i,k,d,e,u,a1,a2,a3,a4,a5,a6,a7⟩:=b
 rcases bj u with⟨rfl,rfl⟩|⟨rfl,rfl⟩|⟨rfl,rfl⟩|⟨rfl,rfl⟩|⟨rfl,rfl⟩|⟨rfl,rfl⟩|⟨rfl,rfl⟩|⟨rfl,rfl⟩<;>omega
theorem yj{p:Int}{bl:Bool}(h:isP p bl=true):decide (p<0)=bl/\decide (0<p)=!bl:=by
 cases bl<;>simp[isP]at h<;>simp<;>omega
theorem fB{f r:Int}{zs:List Int}{bl:Bool}{j:Int}(h:aD f r zs=true)(hz:zs.length<=64)(hK:ai f r (aH zs bl)=true)(hj0:0<=j)(hj1:j<zs.length)(hjp:isP (zs.getD j.toNat 0) bl=true) :
  (bq f r zs j=-1/\∀ x,¬ Pins f r zs bl (aH zs bl) x j)\/Pins f r zs bl (aH zs bl) (bq f r zs j) j:=by
 obtain⟨e1,e2⟩:=yj hjp
 have hk:fx zs j=aH zs bl:=by unfold fx;rw[e1]
 have hni:=fun x=>CI (K:=aH zs bl) (x:=x) h hz hK hj0 hj1 hjp
 unfold bq
 rw[hk,e2,decide_eq_false (fh hjp),Bool.false_or]
 by_cases ek:j=aH zs bl
 ·left
  rw[decide_eq_true ek,cond_true]
  refine⟨rfl,fun x hp=>?_⟩
  rw[ek]at hp
  exact Il h hK hp
 ·rw[decide_eq_false ek,cond_false]
  rcases jq (attL f r zs (aH zs bl) (!bl)) (attL f r (zs.set j.toNat 0) (aH zs bl) (!bl)) with⟨h1,h2⟩|⟨h1,h2⟩
  ·left
   exact⟨h1,fun x hp=>((hni x).2 hp).2 (h2 x ((hni x).2 hp).1)⟩
  ·right;exact(hni _).1 ⟨h1,h2⟩
def zS(f r:Int)(zs:List Int)(bl:Bool)(K occ x j:Int):Prop:=(oW zs bl x||oY f r zs K x)=false/\pinC f r zs bl K occ x j=true
theorem lU{f r:Int}{zs:List Int}{bl:Bool}{K x j:Int}(h:aD f r zs=true)(hz:zs.length<=64)(hK:ai f r K=true)(h0:0<=x)(h1:x<zs.length)(hj0:0<=j)(hj1:j<zs.length):zS f r zs bl K (occR f r zs) x j↔Pins f r zs bl K x j/\isP (zs.getD j.toNat 0) bl=true:=by
 unfold zS Pins
 rw[EJ h hK h0 h1]
 constructor
 ·rintro⟨a,b⟩
  have hl:=(cQ (f:=f) (r:=r) (x:=x) (K:=K) (occ:=0) (kd:=((zs.getD x.toNat 0).natAbs:Int)) (by have:=a.2.1;omega) (by have:=a.2.2.1;omega)).2 a.2.2.2
  obtain⟨c1,c2⟩:=(xE h hz ((bM h).2 ⟨h0,h1⟩) hK hl hj0 hj1).1 b
  exact⟨⟨h0,h1,a,c1⟩,c2⟩
 ·rintro⟨⟨_,_,a,c1⟩,c2⟩
  have hl:=(cQ (f:=f) (r:=r) (x:=x) (K:=K) (occ:=0) (kd:=((zs.getD x.toNat 0).natAbs:Int)) (by have:=a.2.1;omega) (by have:=a.2.2.1;omega)).2 a.2.2.2
  exact⟨a,(xE h hz ((bM h).2 ⟨h0,h1⟩) hK hl hj0 hj1).2 ⟨c1,c2⟩⟩
theorem inP{f r:Int}{zs:List Int}{bl:Bool}{K occ x s:Int}(hs:Uk s):∀ n:Nat,n<=64->Uk (bV (iu cbP f r zs bl K occ x) s n)/\∀ m:Nat,bt (bV (iu cbP f r zs bl K occ x) s n) m=true↔bt s m=true\/(m<n/\pinC f r zs bl K occ x m=true)
 |0,_=>⟨hs,fun m=>by simp[bV]⟩
 |n+1,hn=>by
  obtain⟨h1,h2⟩:=inP hs n (by omega)
  simp only[bV,iu]
  cases hc:pinC f r zs bl K occ x n with
  |false=>
   refine⟨h1,fun m=>?_⟩
   rw[cond_false,h2]
   refine or_congr_right ⟨fun⟨a,b⟩=>⟨by omega,b⟩,fun⟨a,b⟩=>⟨?_,b⟩⟩
   have:m≠n:=by rintro rfl;rw[hc]at b;cases b
   omega
  |true=>
   simp only[cond_true,cbP]
   refine⟨gi _ _,fun m=>?_⟩
   rw[eI h1 (eM _ _),dS (by omega) (by omega),Bool.or_eq_true,h2,decide_eq_true_eq,or_assoc]
   refine or_congr_right ⟨?_,fun⟨a,b⟩=>?_⟩
   ·rintro(⟨a,b⟩|a)
    ·exact⟨by omega,b⟩
    ·have:m=n:=by omega
     subst this;exact⟨by omega,hc⟩
   ·by_cases e:m=n
    ·exact .inr (by omega)
    ·exact .inl ⟨by omega,b⟩
theorem outP{f r:Int}{zs:List Int}{bl:Bool}{K occ:Int}(hz:zs.length<=64):∀ n:Nat,Uk (bV (cB cbP f r zs bl K occ) 0 n)/\∀ m:Nat,bt (bV (cB cbP f r zs bl K occ) 0 n) m=true↔∃ x:Nat,x<n/\m<zs.length/\zS f r zs bl K occ x m
 |0=>⟨uk_0,fun m=>by simp[bV,bt_0]⟩
 |n+1=>by
  obtain⟨h1,h2⟩:=outP (f:=f) (r:=r) (bl:=bl) (K:=K) (occ:=occ) hz n
  simp only[bV]
  rw[cB]
  cases hc:(oW zs bl n||oY f r zs K n) with
  |true=>
   refine⟨h1,fun m=>?_⟩
   rw[cond_true,h2]
   constructor
   ·rintro⟨x,a,b⟩;exact⟨x,by omega,b⟩
   ·rintro⟨x,a,b,c⟩
    have:x≠n:=by rintro rfl;have:=c.1;rw[hc]at this;cases this
    exact⟨x,by omega,b,c⟩
  |false=>
   rw[cond_false]
   obtain⟨g1,g2⟩:=inP (f:=f) (r:=r) (zs:=zs) (bl:=bl) (K:=K) (occ:=occ) (x:=n) h1 zs.length hz
   refine⟨g1,fun m=>?_⟩
   rw[g2,h2]
   constructor
   ·rintro(⟨x,a,b⟩|⟨a,b⟩)
    ·exact⟨x,by omega,b⟩
    ·exact⟨n,by omega,a,hc,b⟩
   ·rintro⟨x,a,b,c⟩
    by_cases e:x=n
    ·subst e;exact .inr ⟨b,c.2⟩
    ·exact .inl ⟨x,by omega,b,c⟩
theorem inL{f r:Int}{zs:List Int}{bl:Bool}{K occ x s:Int}{j:Nat}:∀ n:Nat,bV (iu (cbL j) f r zs bl K occ x) s n=bif decide (j<n)&&pinC f r zs bl K occ x j then jL f r K x j else s
 |0=>by simp[bV]
 |n+1=>by
  simp only[bV,iu,cbL,inL n]
  by_cases e:(n:Int)=(j:Int)
  ·have:n=j:=by omega
   subst this
   simp only[Nat.lt_irrefl,decide_false,Bool.false_and,cond_false,Nat.lt_succ_self,decide_true,Bool.true_and,cond_true]
  ·have e2:decide (j<n)=decide (j<n+1):=by congr 1;exact propext ⟨fun h=>by omega,fun h=>by omega⟩
   rw[decide_eq_false e,e2]
   cases pinC f r zs bl K occ x n<;>simp
theorem HS{f r:Int}{zs:List Int}{bl:Bool}{K occ:Int}{j:Nat}(hj:j<zs.length):∀ n:Nat,(∃ x:Nat,x<n/\zS f r zs bl K occ x j/\bV (cB (cbL j) f r zs bl K occ) 0 n=jL f r K x j)\/((∀ x:Nat,x<n->¬ zS f r zs bl K occ x j)/\bV (cB (cbL j) f r zs bl K occ) 0 n=0)
 |0=>.inr ⟨fun x h=>by omega,rfl⟩
 |n+1=>by
  have ih:=HS (f:=f) (r:=r) (bl:=bl) (K:=K) (occ:=occ) hj n
  simp only[bV]
  rw[cB]
  cases hc:(oW zs bl n||oY f r zs K n) with
  |true=>
   rw[cond_true]
   rcases ih with⟨x,a,b,c⟩|⟨a,b⟩
   ·exact .inl ⟨x,by omega,b,c⟩
   ·refine .inr ⟨fun x hx hg=>?_,b⟩
    by_cases e:x=n
    ·subst e;have:=hg.1;rw[hc]at this;cases this
    ·exact a x (by omega) hg
  |false=>
   rw[cond_false,inL,decide_eq_true hj,Bool.true_and]
   cases hp:pinC f r zs bl K occ n j with
   |true=>exact .inl ⟨n,by omega,⟨hc,hp⟩,rfl⟩
   |false=>
    rw[cond_false]
    rcases ih with⟨x,a,b,c⟩|⟨a,b⟩
    ·exact .inl ⟨x,by omega,b,c⟩
    ·refine .inr ⟨fun x hx hg=>?_,b⟩
     by_cases e:x=n
     ·subst e;have:=hg.2;rw[hp]at this;cases this
     ·exact a x (by omega) hg
theorem BQ{f r:Int}{zs:List Int}{bl:Bool}(h:aD f r zs=true)(hz:zs.length<=64)(hk:aK f r zs bl=(aH zs bl,0))(hK:ai f r (aH zs bl)=true):ofL (oI f r zs bl) 0=(bN f r zs bl).1/\(bN f r zs bl).2=0:=by
 unfold bN
 rw[hk]
 refine⟨?_,rfl⟩
 show _=iR cbP f r zs bl
 unfold iR
 rw[hk]
 obtain⟨g1,g2⟩:=outP (f:=f) (r:=r) (bl:=bl) (K:=aH zs bl) (occ:=occR f r zs) hz zs.length
 have hb:∀ x∈oI f r zs bl,0<=x/\x<64:=fun x hx=>by
  have:=cU.1 (List.mem_filter.1 hx).1
  omega
 obtain⟨h3,h4⟩:=iB _ 0 hb uk_0
 refine lj h3 g1 fun m _=>?_
 rw[h4,bt_0,Bool.false_or,Bool.eq_iff_iff,decide_eq_true_eq,g2]
 unfold oI
 rw[List.mem_filter,cU]
 unfold IZ
 rw[decide_eq_true_eq]
 constructor
 ·rintro⟨⟨a1,a2,a3⟩,a4⟩
  have hp:isP (zs.getD (m:Int).toNat 0) bl=true:=by rw[fX,decide_eq_true_eq];exact a3
  rcases fB h hz hK a1 a2 hp with⟨b1,_⟩|b
  ·omega
  ·have hx:((bq f r zs m).toNat:Int)=bq f r zs m:=by have:=b.1;omega
   refine⟨(bq f r zs m).toNat,by have:=b.2.1;omega,by omega,?_⟩
   rw[hx]
   exact(lU h hz hK b.1 b.2.1 a1 a2).2 ⟨b,hp⟩
 ·rintro⟨x,a1,a2,a3⟩
  obtain⟨b1,b2⟩:=(lU h hz hK (by omega) (by omega) (by omega) (by omega)).1 a3
  have hp:=b2
  rw[fX,decide_eq_true_eq]at b2
  refine⟨⟨by omega,by omega,b2⟩,?_⟩
  rcases fB h hz hK (by omega) (by omega) hp with⟨_,c⟩|c
  ·exact absurd b1 (c x)
  ·exact c.1
theorem IG{f r:Int}{zs:List Int}{bl:Bool}{j:Int}(h:aD f r zs=true)(hz:zs.length<=64)(hk:aK f r zs bl=(aH zs bl,0))(hK:ai f r (aH zs bl)=true)(hj0:0<=j)(hj1:j<zs.length)(hjp:isP (zs.getD j.toNat 0) bl=true) :
  (bq f r zs j<0/\bx f r zs j=(0,9))\/(0<=bq f r zs j/\bx f r zs j=(ofL (pc f r zs j) 0,0)):=by
 obtain⟨e1,e2⟩:=yj hjp
 have hjv:=(bM h).2 ⟨hj0,hj1⟩
 have hjn:((j.toNat:Nat):Int)=j:=by omega
 have hps:iR (cbL j) f r zs bl=bV (cB (cbL (j.toNat:Nat)) f r zs bl (aH zs bl) (occR f r zs)) 0 zs.length:=by unfold iR;rw[hk,hjn]
 have hR:bx f r zs j=bif decide (iR (cbL j) f r zs bl=0) then(0,9) else(iR (cbL j) f r zs bl,0):=by
  unfold bx
  rw[h,hjv,decide_eq_false (fh hjp),e1,hk];rfl
 have hgood:∀ x:Nat,x<zs.length->(zS f r zs bl (aH zs bl) (occR f r zs) x (j.toNat:Nat)↔Pins f r zs bl (aH zs bl) x j):=fun x hx=>by
  rw[hjn,lU h hz hK (by omega) (by omega) hj0 hj1]
  exact⟨fun a=>a.1,fun a=>⟨a,hjp⟩⟩
 rw[hR,hps]
 rcases HS (f:=f) (r:=r) (bl:=bl) (K:=aH zs bl) (occ:=occR f r zs) (j:=j.toNat) (zs:=zs) (by omega) zs.length with⟨x,x1,x2,x3⟩|⟨x1,x2⟩
 ·right
  have hp:=(hgood x x1).1 x2
  have hpr:bq f r zs j=x:=by
   rcases fB h hz hK hj0 hj1 hjp with⟨_,c⟩|c
   ·exact absurd hp (c x)
   ·exact nN h hK c hp
  obtain⟨v1,_,l1,_,_,_⟩:=eE h hK hp
  have hxl:=aB v1
  rw[x3,hjn]
  obtain⟨b1,b2⟩:=ru v1 hK l1
  have hu:Uk (jL f r (aH zs bl) x j):=gi _ _
  have hbits:∀ m:Nat,bt (jL f r (aH zs bl) x j) m=((decide ((m:Int)∈aW f r x (aH zs bl))&&!decide (j=m))||decide ((x:Int)=m)):=fun m=>by
   unfold jL
   rw[eI (fm _ _) (eM _ _),eJ b1 (eM _ _),b2,dS hj0 (by omega),dS (by omega) (by omega)]
  have hne:jL f r (aH zs bl) x j≠0:=fun he=>by
   have:=hbits x
   rw[he,bt_0]at this
   simp at this
  rw[decide_eq_false hne,cond_false,hpr]
  refine⟨by omega,?_⟩
  congr 1
  have hb:∀ y∈pc f r zs j,0<=y/\y<64:=fun y hy=>by have:=bI.1 hy;omega
  obtain⟨h3,h4⟩:=iB _ 0 hb uk_0
  refine lj hu h3 fun m _=>?_
  rw[hbits,h4,bt_0,Bool.false_or,Bool.eq_iff_iff]
  unfold pc
  simp only[Bool.or_eq_true,Bool.and_eq_true,Bool.not_eq_true',decide_eq_true_eq,decide_eq_false_iff_not,bI]
  unfold FE
  have hkk:fx zs j=aH zs bl:=by unfold fx;rw[e1]
  rw[hpr,hkk]
  simp only[Bool.or_eq_true,Bool.and_eq_true,Bool.not_eq_true',decide_eq_true_eq,decide_eq_false_iff_not,eR]
  rw[nJ v1 hK]
  constructor
  ·rintro(⟨a,b⟩|a)
   ·have:=(bM h).1 ((dA hK).2 _ a)
    exact⟨by omega,by omega,.inr ⟨a,by omega⟩⟩
   ·exact⟨by omega,by omega,.inl (by omega)⟩
  ·rintro⟨_,_,a|⟨a,b⟩⟩
   ·exact .inr (by omega)
   ·exact .inl ⟨a,by omega⟩
 ·left
  have hpr:bq f r zs j=-1:=by
   rcases fB h hz hK hj0 hj1 hjp with⟨c,_⟩|c
   ·exact c
   ·exfalso
    have hx:((bq f r zs j).toNat:Int)=bq f r zs j:=by have:=c.1;omega
    refine x1 (bq f r zs j).toNat (by have:=c.2.1;omega) ((hgood _ (by have:=c.2.1;omega)).2 ?_)
    rw[hx];exact c
  rw[hpr,x2]
  exact⟨by omega,rfl⟩
section
theorem DT{f r:Int}{zs:List Int}{bl:Bool}{K:Int}(h:aD f r zs=true)(hz:zs.length<=64)(h0:0<=K)(h1:K<zs.length)(hk:zs.getD K.toNat 0=kgP bl)(hu:∀ i:Nat,i<zs.length->zs.getD i 0=kgP bl->(i:Int)=K):aH zs bl=K/\aK f r zs bl=(K,0):=by
 have e:aH zs bl=K:=by
  unfold aH
  rw[Ja]
  have:gQ zs (kgP bl)=[((K.toNat:Nat):Int)]:=jQ (a:=K.toNat) (by simp only[iM,Int.toNat_natCast,decide_eq_true_eq];exact hk) _ (by omega) fun i hi hc=>by
   simp only[iM,Int.toNat_natCast,decide_eq_true_eq]at hc
   have:=hu i hi hc
   omega
  rw[this]
  simp
  omega
 refine⟨e,?_⟩
 rcases gl (bl:=bl) h hz with⟨a,_⟩|⟨a,_⟩
 ·omega
 ·rw[a,e]
structure Pos(f r:Int)(zs:List Int)(bl:Bool)(K j:Int):Prop where
 o:aD f r zs=true
 z:zs.length<=64
 kr:aK f r zs bl=(K,0)
 k:aH zs bl=K
 kv:ai f r K=true
 kp:zs.getD K.toNat 0=kgP bl
 ku:∀ i:Nat,i<zs.length->zs.getD i 0=kgP bl->(i:Int)=K
 j0:0<=j
 j1:j<zs.length
 jp:isP (zs.getD j.toNat 0) bl=true
 jk:K≠j
section
variable{f r:Int}{zs:List Int}{bl:Bool}{K j:Int}
theorem Gd(bl:Bool):kgP bl≠0:=by cases bl<;>decide
theorem Pos.set(p:Pos f r zs bl K j):aD f r (zs.set j.toNat 0)=true/\(zs.set j.toNat 0).length<=64/\aK f r (zs.set j.toNat 0) bl=(K,0):=by
 have ho:=mb (j:=j) (v:=0) p.o (by omega)
 have hl:(zs.set j.toNat 0).length<=64:=by rw[List.length_set];exact p.z
 have hK:=(bM p.o).1 p.kv
 refine⟨ho,hl,(DT ho hl hK.1 (by rw[List.length_set];exact hK.2) ?_ fun i hi he=>?_).2⟩
 ·rw[dJ p.j0 hK.1 hK.2,if_neg p.jk];exact p.kp
 ·rw[List.length_set]at hi
  have hg:=dJ (zs:=zs) (v:=0) p.j0 (show (0:Int)<=i by omega) (by omega)
  rw[Int.toNat_natCast]at hg
  rw[hg]at he
  split at he
  ·exact absurd he.symm (Gd bl)
  ·exact p.ku i hi he
theorem Pos.sub(p:Pos f r zs bl K j){x:Int}(hx:x∈attL f r zs K (!bl)):x∈attL f r (zs.set j.toNat 0) K (!bl):=by
 obtain⟨ho,hl,_⟩:=p.set
 obtain⟨o1,o2⟩:=eB (aJ p.o).2.2.1 p.z
 obtain⟨q1,q2⟩:=eB (aJ ho).2.2.1 hl
 rw[ej]at hx ⊢
 rw[gw (aJ p.o).2.2.1 p.z]at hx
 rw[gw (aJ ho).2.2.1 hl,List.length_set]
 obtain⟨h0,h1,h2,h3⟩:=hx
 have hne:x≠j:=by
  rintro rfl
  have:=p.jp
  rw[fX,decide_eq_true_eq]at h2 this
  cases bl<;>simp[sdI]at h2 this<;>omega
 refine⟨h0,h1,by rw[Cb p.j0 h0 h1,decide_eq_false hne];exact h2,?_⟩
 unfold dW at h3 ⊢
 rw[dJ p.j0 h0 h1,if_neg hne]
 cases hk:decide (aU (zs.getD x.toNat 0)=1) with
 |true=>rw[hk]at h3;exact h3
 |false=>
  rw[hk]at h3
  simp only[cond_false,Bool.and_eq_true]at h3 ⊢
  refine⟨h3.1,uC q1 o1 (fun m hm=>?_) h3.2⟩
  rw[q2,List.length_set,Bool.and_eq_true,decide_eq_true_eq]at hm
  have hg:=dJ (zs:=zs) (v:=0) p.j0 (show (0:Int)<=m by omega) (by omega)
  rw[Int.toNat_natCast]at hg
  rw[hg]at hm
  rw[o2,decide_eq_true hm.1,Bool.true_and]
  split at hm
  ·simp at hm
  ·exact hm.2
theorem Pos.new(p:Pos f r zs bl K j)(x:Int):(x∈attL f r (zs.set j.toNat 0) K (!bl)/\x∉attL f r zs K (!bl))↔Pins f r zs bl K x j:=CI p.o p.z p.kv p.j0 p.j1 p.jp
theorem Pos.ab(p:Pos f r zs bl K j):Uk (attR f r zs K (!bl))/\Uk (attR f r (zs.set j.toNat 0) K (!bl))/\(∀ m:Nat,bt (attR f r zs K (!bl)) m=decide ((m:Int)∈attL f r zs K (!bl)))/\∀ m:Nat,bt (attR f r (zs.set j.toNat 0) K (!bl)) m=decide ((m:Int)∈attL f r (zs.set j.toNat 0) K (!bl)):=by
 obtain⟨ho,hl,_⟩:=p.set
 obtain⟨a1,a2⟩:=kW (bl:=!bl) p.o p.z p.kv
 obtain⟨b1,b2⟩:=kW (bl:=!bl) ho hl p.kv
 exact⟨a1,b1,a2,b2⟩
theorem Pos.pin(p:Pos f r zs bl K j):(bq f r zs j=-1/\∀ x,¬ Pins f r zs bl K x j)\/Pins f r zs bl K (bq f r zs j) j:=by
 have:=fB p.o p.z (by rw[p.k];exact p.kv) p.j0 p.j1 p.jp
 rwa [p.k]at this
theorem Pos.bit(p:Pos f r zs bl K j):decide (uand (ushr (bN f r zs bl).1 j) 1=0)=decide (bq f r zs j<0):=by
 obtain⟨e,_⟩:=BQ p.o p.z (by rw[p.k];exact p.kr) (by rw[p.k];exact p.kv)
 have hb:∀ x∈oI f r zs bl,0<=x/\x<64:=fun x hx=>by
  have:=cU.1 (List.mem_filter.1 hx).1
  have:=p.z
  omega
 obtain⟨h3,h4⟩:=iB _ 0 hb uk_0
 have hz:=p.z
 have hj1:=p.j1
 have hj0:=p.j0
 rw[<-e,qC h3 p.j0 (by omega),h4,bt_0,Bool.false_or,show ((j.toNat:Nat):Int)=j by omega]
 unfold oI
 have his:=p.jp
 rw[fX,decide_eq_true_eq]at his
 rw[Bool.eq_iff_iff,Bool.not_eq_true',decide_eq_false_iff_not,decide_eq_true_eq,List.mem_filter,cU]
 unfold IZ
 rw[decide_eq_true_eq]
 constructor
 ·intro hn
  apply Classical.byContradiction
  intro h5
  exact hn ⟨⟨hj0,hj1,his⟩,by omega⟩
 ·rintro h5 ⟨_,h6⟩;omega
theorem Pos.same(p:Pos f r zs bl K j)(h:bq f r zs j<0):attR f r (zs.set j.toNat 0) K (!bl)=attR f r zs K (!bl):=by
 obtain⟨a1,b1,a2,b2⟩:=p.ab
 refine lj b1 a1 fun m _=>?_
 rw[a2,b2,Bool.eq_iff_iff,decide_eq_true_eq,decide_eq_true_eq]
 refine⟨fun hm=>?_,p.sub⟩
 rcases p.pin with⟨_,c⟩|c
 ·apply Classical.byContradiction
  intro hn
  exact c m ((p.new m).1 ⟨hm,hn⟩)
 ·have:=c.1;omega
end
end
section
variable{f r:Int}{zs:List Int}{bl:Bool}{K j:Int}
theorem Pos.more(p:Pos f r zs bl K j)(h:¬ bq f r zs j<0):∃ x:Nat,x<64/\Pins f r zs bl K x j/\bt (attR f r zs K (!bl)) x=false/\(∀ m:Nat,bt (attR f r (zs.set j.toNat 0) K (!bl)) m=(bt (attR f r zs K (!bl)) m||decide (m=x)))/\bx f r zs j=(ofL (pc f r zs j) 0,0)/\bq f r zs j=x:=by
 obtain⟨a1,b1,a2,b2⟩:=p.ab
 rcases p.pin with⟨c,_⟩|c
 ·omega
 ·have hz:=p.z
  have hx:((bq f r zs j).toNat:Int)=bq f r zs j:=by have:=c.1;omega
  have hn:=(p.new _).2 c
  refine⟨(bq f r zs j).toNat,by have:=c.2.1;omega,by rw[hx];exact c,by rw[a2,hx];exact decide_eq_false hn.2,fun m=>?_,?_,hx.symm⟩
  ·rw[a2,b2,Bool.eq_iff_iff,Bool.or_eq_true,decide_eq_true_eq,decide_eq_true_eq,decide_eq_true_eq]
   constructor
   ·intro hm
    by_cases hm2:(m:Int)∈attL f r zs K (!bl)
    ·exact .inl hm2
    ·right
     have:=nN p.o p.kv ((p.new m).1 ⟨hm,hm2⟩) c
     omega
   ·rintro(hm|hm)
    ·exact p.sub hm
    ·subst hm;rw[hx];exact hn.1
  ·rcases IG (bl:=bl) p.o p.z (by rw[p.k];exact p.kr) (by rw[p.k];exact p.kv) p.j0 p.j1 p.jp with⟨e,_⟩|⟨_,e⟩
   ·exact absurd e h
   ·exact e
theorem Pos.onLine(p:Pos f r zs bl K j)(h:¬ bq f r zs j<0):cj (cj (attR f r (zs.set j.toNat 0) K (!bl)) (attR f r zs K (!bl))) (bx f r zs j).1=0:=by
 obtain⟨a1,b1,a2,b2⟩:=p.ab
 obtain⟨x,x1,x2,x3,x4,x5,x6⟩:=p.more h
 have hb:∀ y∈pc f r zs j,0<=y/\y<64:=fun y hy=>by have:=bI.1 hy;have:=p.z;omega
 obtain⟨h3,h4⟩:=iB _ 0 hb uk_0
 rw[x5,nw (fm _ _)]
 intro m _
 show bt (cj (cj _ _) (ofL (pc f r zs j) 0)) m=false
 rw[eJ (fm _ _) h3,eJ b1 a1,x4,h4,bt_0,Bool.false_or]
 by_cases e:m=x
 ·subst e
  have:(m:Int)∈pc f r zs j:=by
   unfold pc
   rw[bI]
   refine⟨by omega,x2.2.1,?_⟩
   unfold FE
   rw[x6];simp
  rw[decide_eq_true this];simp
 ·rw[decide_eq_false e]
  cases bt (attR f r zs K (!bl)) m<;>simp
theorem Pos.line(p:Pos f r zs bl K j)(h:¬ bq f r zs j<0){to:Int}(ht:to∈cR (bx f r zs j).1 64):ai f r to=true/\(to=bq f r zs j\/(to∈aW f r (bq f r zs j) K/\to≠j)):=by
 obtain⟨x,x1,x2,x3,x4,x5,x6⟩:=p.more h
 have hb:∀ y∈pc f r zs j,0<=y/\y<64:=fun y hy=>by have:=bI.1 hy;have:=p.z;omega
 obtain⟨h3,h4⟩:=iB _ 0 hb uk_0
 rw[x5]at ht
 obtain⟨t1,t2,t3⟩:=jd.1 ht
 rw[nZ h3,h4,bt_0,Bool.false_or]at t3
 simp only[Bool.and_eq_true,decide_eq_true_eq]at t3
 have ht2:=t3.2
 rw[show ((to.toNat:Nat):Int)=to by omega]at ht2
 unfold pc at ht2
 obtain⟨u1,u2,u3⟩:=bI.1 ht2
 refine⟨(bM p.o).2 ⟨u1,u2⟩,?_⟩
 unfold FE at u3
 have hkk:fx zs j=K:=by unfold fx;rw[(yj p.jp).1];exact p.k
 rw[hkk]at u3
 simp only[Bool.or_eq_true,Bool.and_eq_true,Bool.not_eq_true',decide_eq_true_eq,decide_eq_false_iff_not,eR]at u3
 rcases u3 with u3|u3
 ·exact .inl u3
 ·right
  have hx:=(eE p.o p.kv (x6▸x2)).1
  exact⟨(nJ p.kv hx to).1 u3.1,u3.2⟩
theorem Pos.put(p:Pos f r zs bl K j)(h:¬ bq f r zs j<0){to:Int}(ht:to∈cR (bx f r zs j).1 64):aD f r ((zs.set j.toNat 0).set to.toNat (zs.getD j.toNat 0))=true/\aK f r ((zs.set j.toNat 0).set to.toNat (zs.getD j.toNat 0)) bl=(K,0):=by
 obtain⟨ho,hl,_⟩:=p.set
 obtain⟨hv,hc⟩:=p.line h ht
 have htl:=(bM p.o).1 hv
 have hb:=cK p.o p.j0 p.j1
 have ho2:=mb (j:=to) (v:=zs.getD j.toNat 0) ho hb
 have hl2:((zs.set j.toNat 0).set to.toNat (zs.getD j.toNat 0)).length<=64:=by rw[List.length_set];exact hl
 have hK:=(bM p.o).1 p.kv
 have hpk:zs.getD j.toNat 0≠kgP bl:=fun e=>by
  have:=p.ku j.toNat (by have:=p.j1;have:=p.j0;omega) e
  have:=p.jk
  have:=p.j0
  omega
 have hto:to≠K:=by
  rintro rfl
  rcases p.pin with⟨c,_⟩|c
  ·omega
  ·rcases hc with hc|hc
   ·have:=c.2.2.1.1
    rw[<-hc,p.kp]at this
    cases bl<;>simp[kgP,isP]at this
   ·obtain⟨v1,_,l1,_,_,_⟩:=eE p.o p.kv c
    obtain⟨i,k,d,e,u,a1,a2,a3,a4,a5,a6,a7⟩:=((cV v1 p.kv p.kv).1 hc.1).2
    rcases bj u with⟨rfl,rfl⟩|⟨rfl,rfl⟩|⟨rfl,rfl⟩|⟨rfl,rfl⟩|⟨rfl,rfl⟩|⟨rfl,rfl⟩|⟨rfl,rfl⟩|⟨rfl,rfl⟩<;>omega
 have hget:∀ i:Nat,i<zs.length->((zs.set j.toNat 0).set to.toNat (zs.getD j.toNat 0)).getD i 0=if(i:Int)=to then zs.getD j.toNat 0 else if(i:Int)=j then 0 else zs.getD i 0:=by
  intro i hi
  have g1:=dJ (zs:=zs.set j.toNat 0) (v:=zs.getD j.toNat 0) htl.1 (show (0:Int)<=i by omega) (by rw[List.length_set];omega)
  have g2:=dJ (zs:=zs) (v:=0) p.j0 (show (0:Int)<=i by omega) (by omega)
  rw[Int.toNat_natCast]at g1 g2
  rw[g1,g2]
 refine⟨ho2,(DT ho2 hl2 hK.1 (by rw[List.length_set,List.length_set];exact hK.2) ?_ fun i hi he=>?_).2⟩
 ·rw[hget K.toNat (by omega),if_neg (by omega),if_neg (by have:=p.jk;omega)];exact p.kp
 ·rw[List.length_set,List.length_set]at hi
  rw[hget i hi]at he
  split at he
  ·exact absurd he hpk
  ·split at he
   ·exact absurd he.symm (Gd bl)
   ·exact p.ku i hi he
end
section
def Sl(z:Int):Prop:=3<=z.natAbs/\z.natAbs<=5
theorem sZ{f r:Int}{zs:List Int}{x K occ:Int}(hb:-6<=zs.getD x.toNat 0/\zs.getD x.toNat 0<=6)(hz:zs.getD x.toNat 0≠0) :
  dW f r zs x K occ=true↔dW f r zs x K 0=true/\(Sl (zs.getD x.toNat 0)->dL occ (aW f r x K)=true):=by
 unfold dW Sl
 rw[dD hb]
 by_cases h1:(zs.getD x.toNat 0).natAbs=1
 ·rw[decide_eq_true (show ((zs.getD x.toNat 0).natAbs:Int)=1 by omega)]
  simp only[cond_true]
  exact⟨fun h=>⟨h,fun g=>absurd g.1 (by omega)⟩,fun h=>h.1⟩
 ·rw[decide_eq_false (show ¬ ((zs.getD x.toNat 0).natAbs:Int)=1 by omega)]
  simp only[cond_false,Bool.and_eq_true]
  by_cases h2:(zs.getD x.toNat 0).natAbs=2
  ·rw[h2,show aQ f r ((2:Nat):Int) x K occ=aQ f r ((2:Nat):Int) x K 0 from rfl]
   exact⟨fun h=>⟨h,fun g=>absurd g.1 (by omega)⟩,fun h=>h.1⟩
  ·by_cases h6:(zs.getD x.toNat 0).natAbs=6
   ·rw[h6,show aQ f r ((6:Nat):Int) x K occ=aQ f r ((6:Nat):Int) x K 0 from rfl]
    exact⟨fun h=>⟨h,fun g=>absurd g.2 (by omega)⟩,fun h=>h.1⟩
   ·obtain⟨r1,_⟩:=cQ (f:=f) (r:=r) (x:=x) (K:=K) (occ:=occ) (kd:=((zs.getD x.toNat 0).natAbs:Int)) (by omega) (by omega)
    rw[r1,Bool.and_eq_true]
    constructor
    ·rintro⟨g1,g2,g3⟩;exact⟨⟨g1,g2⟩,fun _=>g3⟩
    ·rintro⟨⟨g1,g2⟩,g3⟩;exact⟨g1,g2,g3 ⟨by omega,by omega⟩⟩
theorem BN{f r:Int}{zs:List Int}{x K:Int}(h:aD f r zs=true)(hl:zs.length<=64)(hx:ai f r x=true):dL (occL zs) (aW f r x K)=true↔∀ y∈aW f r x K,zs.getD y.toNat 0=0:=by
 obtain⟨o1,o2⟩:=eB (aJ h).2.2.1 hl
 rw[gw (aJ h).2.2.1 hl,eV]
 refine forall_congr' fun y=>imp_congr_right fun hy=>?_
 have hyv:=(dA (b:=K) hx).2 y hy
 have hyl:=(bM h).1 hyv
 rw[dz o1 hyv,o2,decide_eq_true (show y.toNat<zs.length by omega),Bool.true_and]
 simp
theorem mq{f r:Int}{zs:List Int}{bl:Bool}{x K:Int}(h:aD f r zs=true)(hl:zs.length<=64) :
  x∈attL f r zs K (!bl)↔(0<=x/\x<zs.length/\isP (zs.getD x.toNat 0) (!bl)=true)/\dW f r zs x K 0=true/\(Sl (zs.getD x.toNat 0)->∀ y∈aW f r x K,zs.getD y.toNat 0=0):=by
 rw[ej]
 constructor
 ·rintro⟨a0,a1,a2,a3⟩
  have hx:=(bM h).2 ⟨a0,a1⟩
  obtain⟨b1,b2⟩:=(sZ (cK h a0 a1) (fh a2)).1 a3
  exact⟨⟨a0,a1,a2⟩,b1,fun s=>(BN h hl hx).1 (b2 s)⟩
 ·rintro⟨⟨a0,a1,a2⟩,b1,b2⟩
  have hx:=(bM h).2 ⟨a0,a1⟩
  exact⟨a0,a1,a2,(sZ (cK h a0 a1) (fh a2)).2 ⟨b1,fun s=>(BN h hl hx).2 (b2 s)⟩⟩
theorem FM{f r:Int}{zs z3:List Int}{bl:Bool}{x K:Int}(h3:aD f r z3=true)(hl3:z3.length<=64)(hlen:z3.length=zs.length)(a0:0<=x)(a1:x<zs.length)(hp:isP (zs.getD x.toNat 0) (!bl)=true)(hz:z3.getD x.toNat 0=zs.getD x.toNat 0)
  (hat:dW f r zs x K 0=true) (hfree:Sl (zs.getD x.toNat 0)->∀ y∈aW f r x K,z3.getD y.toNat 0=0):x∈attL f r z3 K (!bl):=by
 refine(mq h3 hl3).2 ⟨⟨a0,by omega,by rw[hz];exact hp⟩,?_,by rw[hz];exact hfree⟩
 unfold dW at hat ⊢
 rw[hz];exact hat
theorem GK{zs:List Int}{bl:Bool}{x y:Int}(h1:isP (zs.getD x.toNat 0) (!bl)=true)(h2:isP (zs.getD y.toNat 0) bl=true):x≠y:=by
 rintro rfl
 rw[fX,decide_eq_true_eq]at h1 h2
 cases bl<;>simp[sdI]at h1 h2<;>omega
section
variable{p:Psn}{m:Mov}
theorem MvOk.nk(o:MvOk p m)(hk:aU (p.zs.getD m.a.toNat 0)≠6):wayN p.zs p.bl p.ca m.a m.b=4:=by
 unfold wayN;rw[o.kd,decide_eq_false hk];rfl
theorem CW(bl:Bool):aU (kgP bl)=6:=by cases bl<;>decide
theorem MvOk.kstay(o:MvOk p m)(hk:aU (p.zs.getD m.a.toNat 0)≠6){K:Nat}(hK:K<p.zs.length)(hKz:p.zs.getD K 0=kgP p.bl)(hu:∀ i:Nat,i<p.zs.length->p.zs.getD i 0=kgP p.bl->i=K) :
  (aK p.f p.r (zs3R p.f p.r p.zs p.bl p.ca p.pa m.a m.b m.p) p.bl).2=0/\aH (zs3R p.f p.r p.zs p.bl p.ca p.pa m.a m.b m.p) p.bl=(K:Int):=by
 have zn:=o.zn (o.nk hk)
 have nto:=o.nto
 have own:=yL p.bl
 have hKb:K≠m.b.toNat:=by rintro rfl;rw[hKz,own]at nto;cases nto
 have hKa:K≠m.a.toNat:=by rintro rfl;apply hk;rw[hKz];exact CW _
 have h1:(zs1R p.f p.zs p.pa m.a m.b).getD K 0=p.zs.getD K 0:=(o.z1.2 K hK).resolve_right (fun g=>by have:=g.2;rw[hKz,own]at this;cases this)
 have hz:(zs3R p.f p.r p.zs p.bl p.ca p.pa m.a m.b m.p).getD K 0=kgP p.bl:=by rw[zn K hK,if_neg hKb,if_neg hKa,h1,hKz]
 refine jH o.z3.1 (by rw[fA];exact o.hl) (by rw[fA];exact hK) hz (fun i hi he=>?_)
 rw[fA]at hi
 rw[zn i hi]at he
 split at he
 ·exfalso
  by_cases h0:m.p=0
  ·rw[decide_eq_true h0,cond_true]at he
   exact hk (by rw[he];exact CW _)
  ·rw[decide_eq_false h0,cond_false]at he
   obtain⟨_,h2,h3⟩:=o.put h0
   rw[he]at h3
   have:kgP p.bl=6\/kgP p.bl=-6:=by cases p.bl<;>simp[kgP]
   omega
 ·split at he
  ·exact absurd he.symm (Gd _)
  ·rcases o.z1.2 i hi with g|g
   ·exact hu i hi (by rw[<-g];exact he)
   ·rw[g.1]at he;exact absurd he.symm (Gd _)
theorem MvOk.quiet(o:MvOk p m)(hk:aU (p.zs.getD m.a.toNat 0)≠6){K:Nat}(hK:K<p.zs.length)(hKz:p.zs.getD K 0=kgP p.bl)(hu:∀ i:Nat,i<p.zs.length->p.zs.getD i 0=kgP p.bl->i=K)(h4:err4 p m=false) :
  ∀ x,x∉attL p.f p.r (zs3R p.f p.r p.zs p.bl p.ca p.pa m.a m.b m.p) K (!p.bl):=by
 obtain⟨k1,k2⟩:=o.kstay hk hK hKz hu
 have hl3:(zs3R p.f p.r p.zs p.bl p.ca p.pa m.a m.b m.p).length<=64:=by rw[fA];exact o.hl
 unfold err4 at h4
 rw[Bool.or_eq_false_iff]at h4
 have hch:=h4.1
 rcases gl (bl:=p.bl) o.z3.1 hl3 with⟨_,g⟩|⟨g,hv,_⟩
 ·rw[g]at k1;cases k1
 rw[k2]at g hv
 unfold chkB aM at hch
 rw[g]at hch
 simp only[decide_true,cond_true,Bool.not_eq_false',decide_eq_true_eq]at hch
 obtain⟨_,b⟩:=kW (bl:=!p.bl) o.z3.1 hl3 hv
 intro x hx
 have hxb:=Jt hl3 x hx
 have:=b x.toNat
 rw[hch,bt_0,show ((x.toNat:Nat):Int)=x by omega,decide_eq_true hx]at this
 cases this
theorem MvOk.answer(o:MvOk p m)(hk:aU (p.zs.getD m.a.toNat 0)≠6){K:Nat}(hK:K<p.zs.length)(hKz:p.zs.getD K 0=kgP p.bl)(hu:∀ i:Nat,i<p.zs.length->p.zs.getD i 0=kgP p.bl->i=K)(h4:err4 p m=false)
  {x:Int} (hx0:0<=x) (hx1:x<p.zs.length) (hp:isP (p.zs.getD x.toNat 0) (!p.bl)=true) (hat:dW p.f p.r p.zs x K 0=true) (hfree:Sl (p.zs.getD x.toNat 0)->∀ y∈aW p.f p.r x K,y≠m.a->p.zs.getD y.toNat 0=0) :
  x=m.b\/(0<=at2R p.f p.zs p.pa m.a m.b/\x=at2R p.f p.zs p.pa m.a m.b)\/(Sl (p.zs.getD x.toNat 0)/\m.b∈aW p.f p.r x K):=by
 refine Classical.byContradiction fun hn=>?_
 have hnb:x≠m.b:=fun e=>hn (.inl e)
 have hnc:¬ (0<=at2R p.f p.zs p.pa m.a m.b/\x=at2R p.f p.zs p.pa m.a m.b):=fun e=>hn (.inr (.inl e))
 have hns:Sl (p.zs.getD x.toNat 0)->m.b∉aW p.f p.r x K:=fun s e=>hn (.inr (.inr ⟨s,e⟩))
 have zn:=o.zn (o.nk hk)
 have ⟨⟨sa0,sa1⟩,⟨sb0,sb1⟩⟩:=o.sq
 have hxa:x≠m.a:=GK hp o.hp
 refine o.quiet hk hK hKz hu h4 x (FM o.z3.1 (by rw[fA];exact o.hl) fA hx0 hx1 hp ?_ hat ?_)
 ·rw[zn x.toNat (by omega),if_neg (by omega),if_neg (by omega)]
  rcases o.z1i x.toNat with⟨g1,g2,_⟩|g
  ·exact absurd ⟨g1,by omega⟩ hnc
  ·exact g
 ·intro s y hy
  have hyv:=(dA (b:=(K:Int)) ((bM o.h).2 ⟨hx0,hx1⟩)).2 y hy
  have hyl:=(bM o.h).1 hyv
  have hyb:y≠m.b:=by rintro rfl;exact hns s hy
  rw[zn y.toNat (by omega),if_neg (by omega)]
  by_cases hya:y=m.a
  ·rw[if_pos (by omega)]
  ·rw[if_neg (by omega)]
   rcases o.z1i y.toNat with⟨_,_,g⟩|g
   ·exact g
   ·rw[g];exact hfree s y hy hya
theorem MvOk.capsq(o:MvOk p m)(h:0<=at2R p.f p.zs p.pa m.a m.b):at2R p.f p.zs p.pa m.a m.b=m.b\/(aU (p.zs.getD m.a.toNat 0)=1/\m.b=p.pa/\at2R p.f p.zs p.pa m.a m.b=m.b-fwd p.bl*p.f/\p.zs.getD (at2R p.f p.zs p.pa m.a m.b).toNat 0=ofP 1 (!p.bl)/\p.zs.getD m.b.toNat 0=0):=by
 have h1:=(o.cap.2.1 h).2.2.2
 cases hep:epB p.zs p.pa m.a m.b with
 |false=>left;rw[h1];unfold at1R;rw[hep];rfl
 |true=>
  right
  unfold epB at hep
  rw[o.kd,Bool.and_eq_true,decide_eq_true_eq,decide_eq_true_eq]at hep
  obtain⟨e1,e2,e3,e4,e5,_⟩:=o.ep hep.1 hep.2
  refine⟨hep.1,hep.2,by rw[h1,e1],by rw[h1,e1,e3],e5⟩
theorem behind{f r:Int}{zs:List Int}{K x1 x2 b:Int}(hK:ai f r K=true)(v1:ai f r x1=true)(v2:ai f r x2=true)(vb:ai f r b=true)(m1:b∈aW f r x1 K)(m2:b∈aW f r x2 K)
  (z1:zs.getD x1.toNat 0≠0) (z2:zs.getD x2.toNat 0≠0) (f1:∀ y∈aW f r x1 K,zs.getD y.toNat 0=0) (f2:∀ y∈aW f r x2 K,zs.getD y.toNat 0=0):x1=x2:=by
 obtain⟨l1,b1⟩:=(cV v1 hK vb).1 m1
 obtain⟨l2,b2⟩:=(cV v2 hK vb).1 m2
 obtain⟨i1,k1,d1,e1,u1,a1,a2,a3,a4,a5,a6,a7⟩:=b1.symm
 obtain⟨i2,k2,d2,e2,u2,c1,c2,c3,c4,c5,c6,c7⟩:=b2.symm
 have hd:d1=d2/\e1=e2/\i1=i2:=by
  rcases bj u1 with⟨rfl,rfl⟩|⟨rfl,rfl⟩|⟨rfl,rfl⟩|⟨rfl,rfl⟩|⟨rfl,rfl⟩|⟨rfl,rfl⟩|⟨rfl,rfl⟩|⟨rfl,rfl⟩ <;>
  rcases bj u2 with⟨rfl,rfl⟩|⟨rfl,rfl⟩|⟨rfl,rfl⟩|⟨rfl,rfl⟩|⟨rfl,rfl⟩|⟨rfl,rfl⟩|⟨rfl,rfl⟩|⟨rfl,rfl⟩<;>omega
 obtain⟨rfl,rfl,rfl⟩:=hd
 rcases Nat.lt_trichotomy k1 k2 with hk|hk|hk
 ·exfalso
  have hb:Btw f K x2 x1:=⟨k1,k2,d1,e1,u1,by omega,hk,c3,c4,c5,a4,a5⟩
  exact z1 (f2 x1 ((cV v2 hK v1).2 ⟨l2,hb.symm⟩))
 ·subst hk
  exact(gK v1 v2).2 ⟨by omega,by omega⟩
 ·exfalso
  have hb:Btw f K x1 x2:=⟨k2,k1,d1,e1,u1,by omega,hk,a3,a4,a5,c4,c5⟩
  exact z2 (f1 x2 ((cV v1 hK v2).2 ⟨l1,hb.symm⟩))
theorem Jk{f r:Int}{zs:List Int}{bl:Bool}{K x b x2:Int}(hK:ai f r K=true)(hx:ai f r x=true)(hb:ai f r b=true)(v2:ai f r x2=true)(hxb:x=b-fwd bl*f)(hz:zs.getD x.toNat 0=ofP 1 (!bl))(hat:dW f r zs x K 0=true)(m2:b∈aW f r x2 K):False:=by
 obtain⟨_,i,k,df,dr,u,a1,a2,a3,a4,a5,a6,a7⟩:=(cV v2 hK hb).1 m2
 have hk1:aU (ofP 1 (!bl))=1:=by cases bl<;>decide
 have hlt:decide (ofP 1 (!bl)<0)=!bl:=by cases bl<;>decide
 unfold dW at hat
 rw[hz,hk1,hlt,decide_eq_true rfl,cond_true,eR,bI]at hat
 have hp:=hat.2.2
 unfold dU at hp
 obtain⟨w1,w2⟩:=gu hx hK
 obtain⟨w3,_⟩:=gu hK hx
 rw[w1,w2,w3]at hp
 simp only[Bool.and_eq_true,Bool.or_eq_true,decide_eq_true_eq]at hp
 have pb:=dR hb
 have px':=dR hx
 have eb:=tP hb
 have ex:=tP hx
 have hpos:px f x=px f b/\py f x=py f b-fwd bl:=by
  have e:px f x+py f x*f=px f b+(py f b-fwd bl)*f:=by rw[ex,hxb,Int.sub_mul];omega
  exact kB (by omega) px'.1 px'.2.1 pb.1 pb.2.1 e
 have hf:fwd (!bl)=-fwd bl:=by cases bl<;>rfl
 rw[hf]at hp
 have hf1:fwd bl=1\/fwd bl=-1:=by cases bl<;>simp[fwd]
 rcases bj u with⟨rfl,rfl⟩|⟨rfl,rfl⟩|⟨rfl,rfl⟩|⟨rfl,rfl⟩|⟨rfl,rfl⟩|⟨rfl,rfl⟩|⟨rfl,rfl⟩|⟨rfl,rfl⟩<;>omega
theorem MvOk.two(o:MvOk p m)(hk:aU (p.zs.getD m.a.toNat 0)≠6){K:Nat}(hK:K<p.zs.length)(hKz:p.zs.getD K 0=kgP p.bl)(hu:∀ i:Nat,i<p.zs.length->p.zs.getD i 0=kgP p.bl->i=K)(h4:err4 p m=false)
  {x1 x2:Int} (h1:x1∈attL p.f p.r p.zs K (!p.bl)) (h2:x2∈attL p.f p.r p.zs K (!p.bl)):x1=x2:=by
 have hKv:ai p.f p.r (K:Int)=true:=(bM o.h).2 ⟨by omega,by omega⟩
 obtain⟨⟨a0,a1,a2⟩,a3,a4⟩:=(mq o.h o.hl).1 h1
 obtain⟨⟨b0,b1,b2⟩,b3,b4⟩:=(mq o.h o.hl).1 h2
 have v1:=(bM o.h).2 ⟨a0,a1⟩
 have v2:=(bM o.h).2 ⟨b0,b1⟩
 have n1:=fh a2
 have n2:=fh b2
 -- captured on its square,or by a pawn that passes,with another attacker behind the square
 have mix:∀ {x y:Int},ai p.f p.r x=true->ai p.f p.r y=true->p.zs.getD x.toNat 0≠0->dW p.f p.r p.zs x K 0=true->(0<=at2R p.f p.zs p.pa m.a m.b/\x=at2R p.f p.zs p.pa m.a m.b)->m.b∈aW p.f p.r y K->(∀ z∈aW p.f p.r y K,p.zs.getD z.toNat 0=0)->False:=by
  intro x y vx vy nx hat ⟨c1,c2⟩ hm hf
  rcases o.capsq c1 with g|⟨_,_,g2,g3,_⟩
  ·rw[c2,g]at nx;exact nx (hf _ hm)
  ·rw[<-c2]at g2 g3
   exact Jk hKv vx o.hb vy g2 g3 hat hm
 rcases o.answer hk hK hKz hu h4 a0 a1 a2 a3 (fun s y hy _=>a4 s y hy)with rfl|c1|⟨s1,c1⟩
 ·rcases o.answer hk hK hKz hu h4 b0 b1 b2 b3 (fun s y hy _=>b4 s y hy)with c2|⟨d1,d2⟩|⟨s2,c2⟩
  ·exact c2.symm
  ·rcases o.capsq d1 with g|⟨_,_,_,_,g⟩
   ·rw[d2,g]
   ·exact absurd g n1
  ·exact absurd (b4 s2 _ c2) n1
 ·rcases o.answer hk hK hKz hu h4 b0 b1 b2 b3 (fun s y hy _=>b4 s y hy)with c2|c2|⟨s2,c2⟩
  ·rcases o.capsq c1.1 with g|⟨_,_,_,_,g⟩
   ·rw[c1.2,g,c2]
   ·rw[<-c2]at g;exact absurd g n2
  ·rw[c1.2,c2.2]
  ·exact(mix v1 v2 n1 a3 c1 c2 (b4 s2)).elim
 ·rcases o.answer hk hK hKz hu h4 b0 b1 b2 b3 (fun s y hy _=>b4 s y hy)with c2|c2|⟨s2,c2⟩
  ·rw[<-c2]at c1;exact absurd (a4 s1 _ c1) n2
  ·exact(mix v2 v1 n2 b3 c2 c1 (a4 s1)).elim
  ·exact behind hKv v1 v2 o.hb c1 c2 n1 n2 (a4 s1) (b4 s2)
theorem MvOk.one(o:MvOk p m)(hk:aU (p.zs.getD m.a.toNat 0)≠6){K:Nat}(hK:K<p.zs.length)(hKz:p.zs.getD K 0=kgP p.bl)(hu:∀ i:Nat,i<p.zs.length->p.zs.getD i 0=kgP p.bl->i=K)(h4:err4 p m=false)
  {x:Int} (h1:x∈attL p.f p.r p.zs K (!p.bl)):m.b=x\/(m.b=p.pa/\aU (p.zs.getD m.a.toNat 0)=1)\/m.b∈aW p.f p.r K x:=by
 have hKv:ai p.f p.r (K:Int)=true:=(bM o.h).2 ⟨by omega,by omega⟩
 obtain⟨⟨a0,a1,a2⟩,a3,a4⟩:=(mq o.h o.hl).1 h1
 have v1:=(bM o.h).2 ⟨a0,a1⟩
 rcases o.answer hk hK hKz hu h4 a0 a1 a2 a3 (fun s y hy _=>a4 s y hy)with c|⟨c1,c2⟩|⟨_,c⟩
 ·exact .inl c.symm
 ·rcases o.capsq c1 with g|⟨g1,g2,_⟩
  ·left;rw[c2,g]
  ·exact .inr (.inl ⟨g2,g1⟩)
 ·exact .inr (.inr ((nJ v1 hKv _).1 c))
theorem MvOk.pinned(o:MvOk p m)(hk:aU (p.zs.getD m.a.toNat 0)≠6){K:Nat}(hK:K<p.zs.length)(hKz:p.zs.getD K 0=kgP p.bl)(hu:∀ i:Nat,i<p.zs.length->p.zs.getD i 0=kgP p.bl->i=K)(h4:err4 p m=false)
  {x:Int} (h1:Pins p.f p.r p.zs p.bl K x m.a):m.b=x\/m.b∈aW p.f p.r x K:=by
 obtain⟨a0,a1,⟨a2,s1,s2,a3⟩,hon⟩:=h1
 have hb:=cK o.h a0 a1
 have hxK:x≠(K:Int):=GK (zs:=p.zs) a2 (by rw[Int.toNat_natCast,hKz];exact yL _)
 have hat:dW p.f p.r p.zs x K 0=true:=by
  unfold dW
  rw[dD hb,decide_eq_false (show ¬ ((p.zs.getD x.toNat 0).natAbs:Int)=1 by omega),cond_false,decide_eq_false hxK,a3];rfl
 rcases o.answer hk hK hKz hu h4 a0 a1 a2 hat (fun _ y hy hya=>Classical.byContradiction fun hn=>hya ((hon y).1 ⟨hy,hn⟩))with c|⟨c1,c2⟩|⟨_,c⟩
 ·exact .inl c.symm
 ·rcases o.capsq c1 with g|⟨_,_,_,g,_⟩
  ·left;rw[c2,g]
  ·exfalso
   rw[<-c2]at g
   have:(ofP 1 (!p.bl)).natAbs=1:=by cases p.bl<;>decide
   rw[g]at s1;omega
 ·exact .inr c
end
end
end Go.Ab
namespace Go.Ab
abbrev iL(l:List Int):List Int:=l
structure Siz where
 f:Int
 r:Int
structure Sgt where
 p:Psn
 own:Int
 all:Int
end Go.Ab
namespace Go.Ab
open Go.Proofs
section
variable{kCa kDb:Bool}
end
end Go.Ab
namespace Go.Ab
open IntKind
open Go.Proofs
section
variable{kCa kDb:Bool}
def si(p:Psn):Option (Sgt):=let x18:=List.take p.zs.length (List.drop 0 p.zs);let x15:=(eP p.f p.r x18).snd.1;let x16:=(eP p.f p.r x18).fst;let x17:=x18.length;bE (decide (x17<=1000000)) (dV (bif p.bl then some (Sum.inl x15)else some (Sum.inl x16)) fun(s4:Int)=>some (Sgt.mk (Psn.mk p.f p.r p.zs p.bl p.ca p.pa p.ha p.fu) s4 (band Go.BinOp.or u64 x16 x15)))
def wG(R:Sgt):V:=.agg [.int .i64 R.p.f,.int .i64 R.p.r,.sl 0 0 R.p.zs.length none,Bb R.p.bl,.int .u8 R.p.ca,.int .i64 R.p.pa,.int .i64 R.p.ha,.int .i64 R.p.fu,.int .u64 R.own,.int .u64 R.all]
def vn(_R:Sgt):List O:=[]
def ry:CF
 |[.agg [.int .i64 p_0,.int .i64 p_1,.sl 0 0 p_2n none,.bool p_3,.int .u8 p_4,.int .i64 p_5,.int .i64 p_6,.int .i64 p_7]],[.ints false .i8 p_2]=>retC (decide (p_2n=p_2.length)) (si ⟨p_0,p_1,p_2,p_3,p_4,p_5,p_6,p_7⟩) ⟨⟨0,0,[],false,0,0,0,0⟩,0,0⟩ wG vn
 |_,_=>none
theorem AW(p:Psn){r}(hr:si p=some r):aS (GGx kCa kDb) PP 62 [.agg [.int .i64 p.f,.int .i64 p.r,.sl 0 0 p.zs.length none,Bb p.bl,.int .u8 p.ca,.int .i64 p.pa,.int .i64 p.ha,.int .i64 p.fu]] [.ints false .i8 p.zs] (wG r) (vn r):=by
 have hE:=cutE (aC (kCa:=kCa) (kDb:=kDb) (cts:=[(112,nr)]) (inl:=[]) ⟨kN,trivial⟩ trivial)
 refine fy hE 2 Tryz.func62 rfl rfl wG vn hr ?_ rfl rfl
 refine eS (pl (decide_eq_true (bL rfl)) id) ?_
 refine dZ hE 2 (let x20:=List.take p.zs.length (List.drop 0 p.zs);fun(s4:Int)=>([(2,V.ptr 1 0 0),(6,V.ptr 2 0 0)],[O.ints false i8 p.zs,O.cells true [I 0,I 0,V.nils,Bb false,V.int u8 0,I 0,I 0,I 0,U 0,U 0],O.cells true [I p.f,I p.r,V.sl 0 0 p.zs.length none,Bb p.bl,V.int u8 p.ca,I p.pa,I p.ha,I p.fu,U s4,U (band Go.BinOp.or u64 (eP p.f p.r x20).fst (eP p.f p.r x20).snd.1)]])) rfl ?_ ?_ (fun s4=>?_)
 ·exact cq ((Ent.rn [0,2,3] [2,6] rfl rfl rfl rfl rfl))
 ·exact cq ((Ent.rn [0,2,3] [2,6] rfl rfl rfl rfl rfl))
 exact aY (bp [] (.inr rfl) rfl rfl rfl rfl rfl)
theorem pP:CtOk (GGx kCa kDb) PP (62,ry):=by
 refine aE Tryz.func62 (by kernel_rfl) rfl fun a0 h0 c0 v0 N0 e hc=>?_
 unfold ry at e
 split at e
 ·rename_i p_0 p_1 p_2n p_3 p_4 p_5 p_6 p_7 p_2
  obtain⟨hl,r,hr,rfl,rfl⟩:=cO e hc
  simp only[decide_eq_true_eq]at hl
  obtain rfl:=hl
  exact AW ⟨p_0,p_1,p_2,p_3,p_4,p_5,p_6,p_7⟩ hr
 ·cases e
def vm(p:Int):Option (Int):=some (imax true p (i8.wrap (0-p)))
def vE(R:Int):V:=.int .i8 R
def wX(_R:Int):List O:=[]
def rF:CF
 |[.int .i8 p_0],[]=>retC true (vm p_0) 0 vE wX
 |_,_=>none
theorem CU(p:Int){r}(hr:vm p=some r):aS (GGx kCa kDb) PP 116 [.int .i8 p] [] (vE r) (wX r):=by
 have hE:=cutE (aC (kCa:=kCa) (kDb:=kDb) (cts:=[]) (inl:=[]) trivial trivial)
 refine fy hE 2 Tryz.func116 rfl rfl vE wX hr ?_ rfl rfl
 exact aY (bp [] (.inr rfl) rfl rfl rfl rfl rfl)
theorem pJ:CtOk (GGx kCa kDb) PP (116,rF):=by
 refine aE Tryz.func116 (by kernel_rfl) rfl fun a0 h0 c0 v0 N0 e hc=>?_
 unfold rF at e
 split at e
 ·rename_i p_0
  obtain⟨hl,r,hr,rfl,rfl⟩:=cO e hc
  exact CU p_0 hr
 ·cases e
def Af(s:Sgt)(at_:Int):Option (Bool):=let x4:=i64.wrap (s.p.f*i64.wrap (s.p.r-1));bif s.p.bl then some (decide (at_<s.p.f))else some (decide (x4<=at_))
def vW(R:Bool):V:=Bb R
def vF(_R:Bool):List O:=[]
def wv:CF
 |[.agg [.int .i64 s_0,.int .i64 s_1,.sl 0 0 s_2n none,.bool s_3,.int .u8 s_4,.int .i64 s_5,.int .i64 s_6,.int .i64 s_7,.int .u64 s_8,.int .u64 s_9],.int .i64 at__0],[.ints false .i8 s_2]=>retC (decide (s_2n=s_2.length)) (Af ⟨⟨s_0,s_1,s_2,s_3,s_4,s_5,s_6,s_7⟩,s_8,s_9⟩ at__0) false vW vF
 |_,_=>none
theorem BR(s:Sgt)(at_:Int){r}(hr:Af s at_=some r):aS (GGx kCa kDb) PP 117 [.agg [.int .i64 s.p.f,.int .i64 s.p.r,.sl 0 0 s.p.zs.length none,Bb s.p.bl,.int .u8 s.p.ca,.int .i64 s.p.pa,.int .i64 s.p.ha,.int .i64 s.p.fu,.int .u64 s.own,.int .u64 s.all],.int .i64 at_] [.ints false .i8 s.p.zs] (vW r) (vF r):=by
 have hE:=cutE (aC (kCa:=kCa) (kDb:=kDb) (cts:=[]) (inl:=[]) trivial trivial)
 refine fy hE 2 Tryz.func117 rfl rfl vW vF hr ?_ rfl rfl
 refine aP hE 2 rfl ?_ ?_
 ·exact aY (bp [] (.inr rfl) rfl rfl rfl rfl rfl)
 exact aY (bp [] (.inr rfl) rfl rfl rfl rfl rfl)
theorem Ae:CtOk (GGx kCa kDb) PP (117,wv):=by
 refine aE Tryz.func117 (by kernel_rfl) rfl fun a0 h0 c0 v0 N0 e hc=>?_
 unfold wv at e
 split at e
 ·rename_i s_0 s_1 s_2n s_3 s_4 s_5 s_6 s_7 s_8 s_9 at__0 s_2
  obtain⟨hl,r,hr,rfl,rfl⟩:=cO e hc
  simp only[decide_eq_true_eq]at hl
  obtain rfl:=hl
  exact BR ⟨⟨s_0,s_1,s_2,s_3,s_4,s_5,s_6,s_7⟩,s_8,s_9⟩ at__0 hr
 ·cases e
end
section
variable{kCa kDb:Bool}
def Jj(s:Siz)(a:Int)(b:Int):Option (Int×Int):=let x5:=(aO s.f s.r a).snd.1;let x6:=(aO s.f s.r a).snd.2;let x7:=(aO s.f s.r b).snd.1;let x8:=(aO s.f s.r b).snd.2;bif !decide (x6=0)||!decide (x8=0)then some (0,2)else some (imax true (imax true (imax true (i64.wrap ((aO s.f s.r a).fst-(aO s.f s.r b).fst)) (i64.wrap ((aO s.f s.r b).fst-(aO s.f s.r a).fst))) (i64.wrap (x5-x7))) (i64.wrap (x7-x5)),0)
def spawn(s:Sgt)(from_:Int):Option (Int):=let x6:=decide (0<=s.p.pa);dV (bif x6 then bE x6 (some (Sum.inl (band Go.BinOp.or u64 (band Go.BinOp.andNot u64 s.all s.own) (u64.wrap (1*2^Min.min s.p.pa.toNat u64.bits)))))else some (Sum.inl (band Go.BinOp.andNot u64 s.all s.own))) fun(s5:Int)=>some (band Go.BinOp.or u64 (cF s.p.f s.p.r s.p.bl from_ s.all).fst (band Go.BinOp.and u64 (gj s.p.f s.p.r s.p.bl from_).fst s5))
def wm(R:Int):V:=.int .u64 R
def vo(_R:Int):List O:=[]
def wk:CF
 |[.agg [.int .i64 s_0,.int .i64 s_1,.sl 0 0 s_2n none,.bool s_3,.int .u8 s_4,.int .i64 s_5,.int .i64 s_6,.int .i64 s_7,.int .u64 s_8,.int .u64 s_9],.int .i64 from__0],[.ints false .i8 s_2]=>retC (decide (s_2n=s_2.length)) (spawn ⟨⟨s_0,s_1,s_2,s_3,s_4,s_5,s_6,s_7⟩,s_8,s_9⟩ from__0) 0 wm vo
 |_,_=>none
theorem Dl(s:Sgt)(from_:Int){r}(hr:spawn s from_=some r):aS (GGx kCa kDb) PP 142 [.agg [.int .i64 s.p.f,.int .i64 s.p.r,.sl 0 0 s.p.zs.length none,Bb s.p.bl,.int .u8 s.p.ca,.int .i64 s.p.pa,.int .i64 s.p.ha,.int .i64 s.p.fu,.int .u64 s.own,.int .u64 s.all],.int .i64 from_] [.ints false .i8 s.p.zs] (wm r) (vo r):=by
 have hE:=cutE (aC (kCa:=kCa) (kDb:=kDb) (cts:=[(129,qK),(122,sL)]) (inl:=[]) ⟨pz,oO,trivial⟩ trivial)
 refine fy hE 2 Tryz.func142 rfl rfl wm vo hr ?_ rfl rfl
 refine ak rfl ?_
 refine ak rfl ?_
 refine dZ hE 2 (fun(s5:Int)=>([(4,U 0),(5,U (cF s.p.f s.p.r s.p.bl from_ s.all).fst),(7,U (gj s.p.f s.p.r s.p.bl from_).fst),(9,U s5)],[O.ints false i8 s.p.zs])) rfl ?_ ?_ (fun s5=>?_)
 ·refine ct ?_
  exact cq ((Ent.rn [0] [4,5,7,9] rfl rfl rfl rfl rfl))
 ·exact cq ((Ent.rn [0] [4,5,7,9] rfl rfl rfl rfl rfl))
 exact aY (bp [] (.inr rfl) rfl rfl rfl rfl rfl)
theorem Ak:CtOk (GGx kCa kDb) PP (142,wk):=by
 refine aE Tryz.func142 (by kernel_rfl) rfl fun a0 h0 c0 v0 N0 e hc=>?_
 unfold wk at e
 split at e
 ·rename_i s_0 s_1 s_2n s_3 s_4 s_5 s_6 s_7 s_8 s_9 from__0 s_2
  obtain⟨hl,r,hr,rfl,rfl⟩:=cO e hc
  simp only[decide_eq_true_eq]at hl
  obtain rfl:=hl
  exact Dl ⟨⟨s_0,s_1,s_2,s_3,s_4,s_5,s_6,s_7⟩,s_8,s_9⟩ from__0 hr
 ·cases e
end
section
variable{kCa kDb:Bool}
def Ds(s:Sgt)(from_:Int):Option (Int):=let x21:=band Go.BinOp.and u64 (bC s.p.f s.p.r 60 56).fst s.all;let x22:=band Go.BinOp.and u64 (bC s.p.f s.p.r 60 63).fst s.all;let x23:=band Go.BinOp.and u64 (bC s.p.f s.p.r 4 0).fst s.all;let x24:=band Go.BinOp.and u64 (bC s.p.f s.p.r 4 7).fst s.all;let x25:=!decide (from_=60);let x26:=!decide (from_=4);dV (bif decide (band Go.BinOp.and u8 s.p.ca 1=0)||!s.p.bl==false||x26 then some (Sum.inl 0)else dV (bif decide (x24=0)then some (Sum.inl (band Go.BinOp.or u64 0 (u64.wrap (1*2^Min.min (Int.toNat 6) u64.bits))))else some (Sum.inl 0)) fun(s5:Int)=>some (Sum.inl s5)) fun(s7:Int)=>dV (bif decide (band Go.BinOp.and u8 s.p.ca 2=0)||!s.p.bl==false||x26 then some (Sum.inl s7)else dV (bif decide (x23=0)then some (Sum.inl (band Go.BinOp.or u64 s7 (u64.wrap (1*2^Min.min (Int.toNat 2) u64.bits))))else some (Sum.inl s7)) fun(s9:Int)=>some (Sum.inl s9)) fun(s11:Int)=>dV (bif decide (band Go.BinOp.and u8 s.p.ca 4=0)||!s.p.bl==true||x25 then some (Sum.inl s11)else dV (bif decide (x22=0)then some (Sum.inl (band Go.BinOp.or u64 s11 (u64.wrap (1*2^Min.min (Int.toNat 62) u64.bits))))else some (Sum.inl s11)) fun(s13:Int)=>some (Sum.inl s13)) fun(s15:Int)=>dV (bif decide (band Go.BinOp.and u8 s.p.ca 8=0)||!s.p.bl==true||x25 then some (Sum.inl s15)else dV (bif decide (x21=0)then some (Sum.inl (band Go.BinOp.or u64 s15 (u64.wrap (1*2^Min.min (Int.toNat 58) u64.bits))))else some (Sum.inl s15)) fun(s17:Int)=>some (Sum.inl s17)) fun(s19:Int)=>dV (escO (some s19)) fun(_s20:Unit)=>none
def vK(R:Int):V:=.int .u64 R
def wA(_R:Int):List O:=[]
def vD:CF
 |[.agg [.int .i64 s_0,.int .i64 s_1,.sl 0 0 s_2n none,.bool s_3,.int .u8 s_4,.int .i64 s_5,.int .i64 s_6,.int .i64 s_7,.int .u64 s_8,.int .u64 s_9],.int .i64 from__0],[.ints false .i8 s_2]=>retC (decide (s_2n=s_2.length)) (Ds ⟨⟨s_0,s_1,s_2,s_3,s_4,s_5,s_6,s_7⟩,s_8,s_9⟩ from__0) 0 vK wA
 |_,_=>none
theorem CL(s:Sgt)(from_:Int){r}(hr:Ds s from_=some r):aS (GGx kCa kDb) PP 143 [.agg [.int .i64 s.p.f,.int .i64 s.p.r,.sl 0 0 s.p.zs.length none,Bb s.p.bl,.int .u8 s.p.ca,.int .i64 s.p.pa,.int .i64 s.p.ha,.int .i64 s.p.fu,.int .u64 s.own,.int .u64 s.all],.int .i64 from_] [.ints false .i8 s.p.zs] (vK r) (wA r):=by
 have hE:=cutE (aC (kCa:=kCa) (kDb:=kDb) (cts:=[(72,eW)]) (inl:=[]) ⟨jP,trivial⟩ trivial)
 refine fy hE 2 Tryz.func143 rfl rfl vK wA hr ?_ rfl rfl
 refine BC hE 2 5 ?_
 refine uB (let x120:=[V.int u8 s.p.ca,I s.p.pa,I s.p.ha,I s.p.fu,U s.own,U s.all];let x122:=decide (band Go.BinOp.and u8 s.p.ca 1=0);let x123:=[I 4,I 7,I 6];let x124:=EE kCa kDb [(72,eW)] [];let x125:=i64.wrap (0+1);let x119:=x122||!s.p.bl==false;let x121:=V.int u8 1::V.lit false::x123;let x118:=(13,V.agg [V.int u8 8,V.lit true,I 60,I 56,I 58])::(12,V.agg [V.int u8 4,V.lit true,I 60,I 63,I 62])::(11,V.agg [V.int u8 2,V.lit false,I 4,I 0,I 2])::(10,V.agg x121)::(5,U 0)::(4,U 0)::(2,V.ptr 1 0 0)::bH 0 [V.agg (I s.p.f::I s.p.r::V.sl 0 0 s.p.zs.length none::Bb s.p.bl::x120),I from_];fun(s7:Int)=>([(1,I from_),(2,V.ptr 1 0 0),(4,U 0),(5,U s7),(7,V.ptr 2 0 0),(14,V.sl 3 0 4 none),(15,I (Int.ofNat 4)),(16,I x125),(17,Bb (decide (0<Int.ofNat 4))),(18,V.ptr 3 0 0),(19,V.agg x121),(20,V.ptr 1 0 0),(21,V.ptr 1 0 4),(22,V.int u8 s.p.ca),(23,V.ptr 2 0 0),(24,V.int u8 1),(25,V.int u8 (band Go.BinOp.and u8 s.p.ca 1)),(26,Bb x122),(27,Bb x122),(34,Bb x119),(35,Bb x119),(40,Bb (x119||!decide (from_=4))),(62,I x125)],[O.ints false i8 s.p.zs,O.cells true (I s.p.f::I s.p.r::V.sl 0 0 s.p.zs.length none::Bb s.p.bl::x120),O.cells true (V.int u8 1::Bb false::x123),O.vals true 5 [(evA (let __src:=x124;Env.mk __src.ty __src.G __src.pf __src.inl __src.cc __src.pn true) x118 (Go.Operand.tmp 10)).cells,(evA (let __src:=x124;Env.mk __src.ty __src.G __src.pf __src.inl __src.cc __src.pn true) x118 (Go.Operand.tmp 11)).cells,(evA (let __src:=x124;Env.mk __src.ty __src.G __src.pf __src.inl __src.cc __src.pn true) x118 (Go.Operand.tmp 12)).cells,(evA (let __src:=x124;Env.mk __src.ty __src.G __src.pf __src.inl __src.cc __src.pn true) x118 (Go.Operand.tmp 13)).cells]])) ?_ (fun s7=>?_)
 ·refine xD hE 2 rfl rfl ?_
  refine ak rfl ?_
  refine ak (Bool.not_or_self _) ?_
  refine ak (Bool.not_or_self _) ?_
  refine ak (Bool.not_or_self _) ?_
  refine ak (Bool.not_or_self _) ?_
  refine ak (Bool.not_or_self _) ?_
  refine ak (Bool.or_not_self _) ?_
  refine ak (Bool.not_or_self _) ?_
  refine ak (Bool.not_or_self _) ?_
  refine ak (Bool.not_or_self _) ?_
  refine ak (Bool.or_not_self _) ?_
  refine aP hE 2 rfl ?_ ?_
  ·exact gO ((Ent.rn [0,1,3,2] [1,2,4,5,7,14,15,16,17,18,19,20,21,22,23,24,25,26,27,34,35,40,62] rfl rfl rfl rfl rfl))
  refine ak rfl ?_
  refine dZ hE 2 (let x39:=[V.int u8 s.p.ca,I s.p.pa,I s.p.ha,I s.p.fu,U s.own,U s.all];let x41:=decide (band Go.BinOp.and u8 s.p.ca 1=0);let x42:=[I 4,I 7,I 6];let x44:=EE kCa kDb [(72,eW)] [];let x45:=(bC s.p.f s.p.r 4 7).fst;let x46:=(bC s.p.f s.p.r 4 7).snd;let x37:=[U x45,I x46];let x38:=x41||!s.p.bl==false;let x40:=V.int u8 1::V.lit false::x42;let x43:=band Go.BinOp.and u64 x45 s.all;let x36:=(13,V.agg [V.int u8 8,V.lit true,I 60,I 56,I 58])::(12,V.agg [V.int u8 4,V.lit true,I 60,I 63,I 62])::(11,V.agg [V.int u8 2,V.lit false,I 4,I 0,I 2])::(10,V.agg x40)::(5,U 0)::(4,U 0)::(2,V.ptr 1 0 0)::bH 0 [V.agg (I s.p.f::I s.p.r::V.sl 0 0 s.p.zs.length none::Bb s.p.bl::x39),I from_];fun(s5:Int)=>([(1,I from_),(2,V.ptr 1 0 0),(4,U 0),(5,U s5),(7,V.ptr 2 0 0),(8,U x45),(14,V.sl 3 0 4 none),(15,I (Int.ofNat 4)),(16,I 0),(17,Bb (decide (0<Int.ofNat 4))),(18,V.ptr 3 0 0),(19,V.agg x40),(20,V.ptr 1 0 0),(21,V.ptr 1 0 4),(22,V.int u8 s.p.ca),(23,V.ptr 2 0 0),(24,V.int u8 1),(25,V.int u8 (band Go.BinOp.and u8 s.p.ca 1)),(26,Bb x41),(27,Bb x41),(34,Bb x38),(35,Bb x38),(40,Bb (x38||!decide (from_=4))),(41,V.tup x37),(42,V.ptr 1 0 0),(43,V.ptr 1 0 0),(44,V.agg [I s.p.f,I s.p.r]),(45,V.ptr 2 0 2),(46,I 4),(47,V.ptr 2 0 3),(48,I 7),(49,V.tup x37),(50,U x45),(51,I x46),(52,U x45),(53,V.ptr 1 0 9),(54,U s.all),(55,U x43),(56,Bb (decide (x43=0)))],[O.ints false i8 s.p.zs,O.cells true (I s.p.f::I s.p.r::V.sl 0 0 s.p.zs.length none::Bb s.p.bl::x39),O.cells true (V.int u8 1::Bb false::x42),O.vals true 5 [(evA (let __src:=x44;Env.mk __src.ty __src.G __src.pf __src.inl __src.cc __src.pn true) x36 (Go.Operand.tmp 10)).cells,(evA (let __src:=x44;Env.mk __src.ty __src.G __src.pf __src.inl __src.cc __src.pn true) x36 (Go.Operand.tmp 11)).cells,(evA (let __src:=x44;Env.mk __src.ty __src.G __src.pf __src.inl __src.cc __src.pn true) x36 (Go.Operand.tmp 12)).cells,(evA (let __src:=x44;Env.mk __src.ty __src.G __src.pf __src.inl __src.cc __src.pn true) x36 (Go.Operand.tmp 13)).cells]])) rfl ?_ ?_ (fun s5=>?_)
  ·refine ak rfl ?_
   exact cq ((Ent.rn [0,1,3,2] [1,2,4,5,7,8,14,15,16,17,18,19,20,21,22,23,24,25,26,27,34,35,40,41,42,43,44,45,46,47,48,49,50,51,52,53,54,55,56] rfl rfl rfl rfl rfl))
  ·exact cq ((Ent.rn [0,1,3,2] [1,2,4,5,7,8,14,15,16,17,18,19,20,21,22,23,24,25,26,27,34,35,40,41,42,43,44,45,46,47,48,49,50,51,52,53,54,55,56] rfl rfl rfl rfl rfl))
  exact gO ((Ent.rn [0,1,2,3] [1,2,4,5,7,14,15,16,17,18,19,20,21,22,23,24,25,26,27,34,35,40,62] rfl rfl rfl rfl rfl))
 refine uB (let x110:=[V.int u8 s.p.ca,I s.p.pa,I s.p.ha,I s.p.fu,U s.own,U s.all];let x112:=decide (band Go.BinOp.and u8 s.p.ca 2=0);let x114:=[I 4,I 0,I 2];let x115:=EE kCa kDb [(72,eW)] [];let x116:=i64.wrap (0+1);let x109:=x112||!s.p.bl==false;let x111:=V.int u8 2::V.lit false::x114;let x113:=i64.wrap (x116+1);let x108:=(13,V.agg [V.int u8 8,V.lit true,I 60,I 56,I 58])::(12,V.agg [V.int u8 4,V.lit true,I 60,I 63,I 62])::(11,V.agg x111)::(10,V.agg [V.int u8 1,V.lit false,I 4,I 7,I 6])::(5,U 0)::(4,U 0)::(2,V.ptr 1 0 0)::bH 0 [V.agg (I s.p.f::I s.p.r::V.sl 0 0 s.p.zs.length none::Bb s.p.bl::x110),I from_];fun(s11:Int)=>([(1,I from_),(2,V.ptr 1 0 0),(4,U 0),(5,U s11),(7,V.ptr 2 0 0),(14,V.sl 3 0 4 none),(15,I (Int.ofNat 4)),(16,I x113),(17,Bb (decide (x116<Int.ofNat 4))),(18,V.ptr 3 1 0),(19,V.agg x111),(20,V.ptr 1 0 0),(21,V.ptr 1 0 4),(22,V.int u8 s.p.ca),(23,V.ptr 2 0 0),(24,V.int u8 2),(25,V.int u8 (band Go.BinOp.and u8 s.p.ca 2)),(26,Bb x112),(27,Bb x112),(34,Bb x109),(35,Bb x109),(40,Bb (x109||!decide (from_=4))),(62,I x113)],[O.ints false i8 s.p.zs,O.cells true (I s.p.f::I s.p.r::V.sl 0 0 s.p.zs.length none::Bb s.p.bl::x110),O.cells true (V.int u8 2::Bb false::x114),O.vals true 5 [(evA (let __src:=x115;Env.mk __src.ty __src.G __src.pf __src.inl __src.cc __src.pn true) x108 (Go.Operand.tmp 10)).cells,(evA (let __src:=x115;Env.mk __src.ty __src.G __src.pf __src.inl __src.cc __src.pn true) x108 (Go.Operand.tmp 11)).cells,(evA (let __src:=x115;Env.mk __src.ty __src.G __src.pf __src.inl __src.cc __src.pn true) x108 (Go.Operand.tmp 12)).cells,(evA (let __src:=x115;Env.mk __src.ty __src.G __src.pf __src.inl __src.cc __src.pn true) x108 (Go.Operand.tmp 13)).cells]])) ?_ (fun s11=>?_)
 ·refine xD hE 2 rfl rfl ?_
  refine ak rfl ?_
  refine ak (Bool.not_or_self _) ?_
  refine ak (Bool.not_or_self _) ?_
  refine ak (Bool.not_or_self _) ?_
  refine ak (Bool.not_or_self _) ?_
  refine ak (Bool.not_or_self _) ?_
  refine ak (Bool.or_not_self _) ?_
  refine ak (Bool.not_or_self _) ?_
  refine ak (Bool.not_or_self _) ?_
  refine ak (Bool.not_or_self _) ?_
  refine ak (Bool.or_not_self _) ?_
  refine aP hE 2 rfl ?_ ?_
  ·exact gO ((Ent.rn [0,1,4,3] [1,2,4,5,7,14,15,16,17,18,19,20,21,22,23,24,25,26,27,34,35,40,62] rfl rfl rfl rfl rfl))
  refine ak rfl ?_
  refine dZ hE 2 (let x51:=[V.int u8 s.p.ca,I s.p.pa,I s.p.ha,I s.p.fu,U s.own,U s.all];let x53:=decide (band Go.BinOp.and u8 s.p.ca 2=0);let x54:=[I 4,I 0,I 2];let x56:=EE kCa kDb [(72,eW)] [];let x57:=(bC s.p.f s.p.r 4 0).fst;let x58:=(bC s.p.f s.p.r 4 0).snd;let x59:=i64.wrap (0+1);let x49:=[U x57,I x58];let x50:=x53||!s.p.bl==false;let x52:=V.int u8 2::V.lit false::x54;let x55:=band Go.BinOp.and u64 x57 s.all;let x48:=(13,V.agg [V.int u8 8,V.lit true,I 60,I 56,I 58])::(12,V.agg [V.int u8 4,V.lit true,I 60,I 63,I 62])::(11,V.agg x52)::(10,V.agg [V.int u8 1,V.lit false,I 4,I 7,I 6])::(5,U 0)::(4,U 0)::(2,V.ptr 1 0 0)::bH 0 [V.agg (I s.p.f::I s.p.r::V.sl 0 0 s.p.zs.length none::Bb s.p.bl::x51),I from_];fun(s9:Int)=>([(1,I from_),(2,V.ptr 1 0 0),(4,U 0),(5,U s9),(7,V.ptr 2 0 0),(8,U x57),(14,V.sl 3 0 4 none),(15,I (Int.ofNat 4)),(16,I x59),(17,Bb (decide (x59<Int.ofNat 4))),(18,V.ptr 3 1 0),(19,V.agg x52),(20,V.ptr 1 0 0),(21,V.ptr 1 0 4),(22,V.int u8 s.p.ca),(23,V.ptr 2 0 0),(24,V.int u8 2),(25,V.int u8 (band Go.BinOp.and u8 s.p.ca 2)),(26,Bb x53),(27,Bb x53),(34,Bb x50),(35,Bb x50),(40,Bb (x50||!decide (from_=4))),(41,V.tup x49),(42,V.ptr 1 0 0),(43,V.ptr 1 0 0),(44,V.agg [I s.p.f,I s.p.r]),(45,V.ptr 2 0 2),(46,I 4),(47,V.ptr 2 0 3),(48,I 0),(49,V.tup x49),(50,U x57),(51,I x58),(52,U x57),(53,V.ptr 1 0 9),(54,U s.all),(55,U x55),(56,Bb (decide (x55=0))),(62,I x59)],[O.ints false i8 s.p.zs,O.cells true (I s.p.f::I s.p.r::V.sl 0 0 s.p.zs.length none::Bb s.p.bl::x51),O.cells true (V.int u8 2::Bb false::x54),O.vals true 5 [(evA (let __src:=x56;Env.mk __src.ty __src.G __src.pf __src.inl __src.cc __src.pn true) x48 (Go.Operand.tmp 10)).cells,(evA (let __src:=x56;Env.mk __src.ty __src.G __src.pf __src.inl __src.cc __src.pn true) x48 (Go.Operand.tmp 11)).cells,(evA (let __src:=x56;Env.mk __src.ty __src.G __src.pf __src.inl __src.cc __src.pn true) x48 (Go.Operand.tmp 12)).cells,(evA (let __src:=x56;Env.mk __src.ty __src.G __src.pf __src.inl __src.cc __src.pn true) x48 (Go.Operand.tmp 13)).cells]])) rfl ?_ ?_ (fun s9=>?_)
  ·refine ak rfl ?_
   exact cq ((Ent.rn [0,1,4,3] [1,2,4,5,7,8,14,15,16,17,18,19,20,21,22,23,24,25,26,27,34,35,40,41,42,43,44,45,46,47,48,49,50,51,52,53,54,55,56,62] rfl rfl rfl rfl rfl))
  ·exact cq ((Ent.rn [0,1,4,3] [1,2,4,5,7,8,14,15,16,17,18,19,20,21,22,23,24,25,26,27,34,35,40,41,42,43,44,45,46,47,48,49,50,51,52,53,54,55,56,62] rfl rfl rfl rfl rfl))
  exact gO ((Ent.rn [0,1,2,3] [1,2,4,5,7,14,15,16,17,18,19,20,21,22,23,24,25,26,27,34,35,40,62] rfl rfl rfl rfl rfl))
 refine uB (let x101:=[V.int u8 s.p.ca,I s.p.pa,I s.p.ha,I s.p.fu,U s.own,U s.all];let x103:=decide (band Go.BinOp.and u8 s.p.ca 4=0);let x104:=i64.wrap (i64.wrap (0+1)+1);let x105:=[I 60,I 63,I 62];let x106:=EE kCa kDb [(72,eW)] [];let x99:=x103||!s.p.bl==true;let x100:=i64.wrap (x104+1);let x102:=V.int u8 4::V.lit true::x105;let x98:=(13,V.agg [V.int u8 8,V.lit true,I 60,I 56,I 58])::(12,V.agg x102)::(11,V.agg [V.int u8 2,V.lit false,I 4,I 0,I 2])::(10,V.agg [V.int u8 1,V.lit false,I 4,I 7,I 6])::(5,U 0)::(4,U 0)::(2,V.ptr 1 0 0)::bH 0 [V.agg (I s.p.f::I s.p.r::V.sl 0 0 s.p.zs.length none::Bb s.p.bl::x101),I from_];fun(s15:Int)=>([(1,I from_),(2,V.ptr 1 0 0),(4,U 0),(5,U s15),(7,V.ptr 2 0 0),(14,V.sl 3 0 4 none),(15,I (Int.ofNat 4)),(16,I x100),(17,Bb (decide (x104<Int.ofNat 4))),(18,V.ptr 3 2 0),(19,V.agg x102),(20,V.ptr 1 0 0),(21,V.ptr 1 0 4),(22,V.int u8 s.p.ca),(23,V.ptr 2 0 0),(24,V.int u8 4),(25,V.int u8 (band Go.BinOp.and u8 s.p.ca 4)),(26,Bb x103),(27,Bb x103),(34,Bb x99),(35,Bb x99),(40,Bb (x99||!decide (from_=60))),(62,I x100)],[O.ints false i8 s.p.zs,O.cells true (I s.p.f::I s.p.r::V.sl 0 0 s.p.zs.length none::Bb s.p.bl::x101),O.cells true (V.int u8 4::Bb true::x105),O.vals true 5 [(evA (let __src:=x106;Env.mk __src.ty __src.G __src.pf __src.inl __src.cc __src.pn true) x98 (Go.Operand.tmp 10)).cells,(evA (let __src:=x106;Env.mk __src.ty __src.G __src.pf __src.inl __src.cc __src.pn true) x98 (Go.Operand.tmp 11)).cells,(evA (let __src:=x106;Env.mk __src.ty __src.G __src.pf __src.inl __src.cc __src.pn true) x98 (Go.Operand.tmp 12)).cells,(evA (let __src:=x106;Env.mk __src.ty __src.G __src.pf __src.inl __src.cc __src.pn true) x98 (Go.Operand.tmp 13)).cells]])) ?_ (fun s15=>?_)
 ·refine xD hE 2 rfl rfl ?_
  refine ak rfl ?_
  refine ak (Bool.not_or_self _) ?_
  refine ak (Bool.not_or_self _) ?_
  refine ak (Bool.not_or_self _) ?_
  refine ak (Bool.not_or_self _) ?_
  refine ak (Bool.not_or_self _) ?_
  refine ak (Bool.or_not_self _) ?_
  refine ak (Bool.not_or_self _) ?_
  refine ak (Bool.not_or_self _) ?_
  refine ak (Bool.not_or_self _) ?_
  refine ak (Bool.or_not_self _) ?_
  refine aP hE 2 rfl ?_ ?_
  ·exact gO ((Ent.rn [0,1,4,3] [1,2,4,5,7,14,15,16,17,18,19,20,21,22,23,24,25,26,27,34,35,40,62] rfl rfl rfl rfl rfl))
  refine ak rfl ?_
  refine dZ hE 2 (let x64:=[V.int u8 s.p.ca,I s.p.pa,I s.p.ha,I s.p.fu,U s.own,U s.all];let x66:=decide (band Go.BinOp.and u8 s.p.ca 4=0);let x67:=i64.wrap (i64.wrap (0+1)+1);let x68:=[I 60,I 63,I 62];let x70:=EE kCa kDb [(72,eW)] [];let x71:=(bC s.p.f s.p.r 60 63).snd;let x72:=(bC s.p.f s.p.r 60 63).fst;let x62:=[U x72,I x71];let x63:=x66||!s.p.bl==true;let x65:=V.int u8 4::V.lit true::x68;let x69:=band Go.BinOp.and u64 x72 s.all;let x61:=(13,V.agg [V.int u8 8,V.lit true,I 60,I 56,I 58])::(12,V.agg x65)::(11,V.agg [V.int u8 2,V.lit false,I 4,I 0,I 2])::(10,V.agg [V.int u8 1,V.lit false,I 4,I 7,I 6])::(5,U 0)::(4,U 0)::(2,V.ptr 1 0 0)::bH 0 [V.agg (I s.p.f::I s.p.r::V.sl 0 0 s.p.zs.length none::Bb s.p.bl::x64),I from_];fun(s13:Int)=>([(1,I from_),(2,V.ptr 1 0 0),(4,U 0),(5,U s13),(7,V.ptr 2 0 0),(8,U x72),(14,V.sl 3 0 4 none),(15,I (Int.ofNat 4)),(16,I x67),(17,Bb (decide (x67<Int.ofNat 4))),(18,V.ptr 3 2 0),(19,V.agg x65),(20,V.ptr 1 0 0),(21,V.ptr 1 0 4),(22,V.int u8 s.p.ca),(23,V.ptr 2 0 0),(24,V.int u8 4),(25,V.int u8 (band Go.BinOp.and u8 s.p.ca 4)),(26,Bb x66),(27,Bb x66),(34,Bb x63),(35,Bb x63),(40,Bb (x63||!decide (from_=60))),(41,V.tup x62),(42,V.ptr 1 0 0),(43,V.ptr 1 0 0),(44,V.agg [I s.p.f,I s.p.r]),(45,V.ptr 2 0 2),(46,I 60),(47,V.ptr 2 0 3),(48,I 63),(49,V.tup x62),(50,U x72),(51,I x71),(52,U x72),(53,V.ptr 1 0 9),(54,U s.all),(55,U x69),(56,Bb (decide (x69=0))),(62,I x67)],[O.ints false i8 s.p.zs,O.cells true (I s.p.f::I s.p.r::V.sl 0 0 s.p.zs.length none::Bb s.p.bl::x64),O.cells true (V.int u8 4::Bb true::x68),O.vals true 5 [(evA (let __src:=x70;Env.mk __src.ty __src.G __src.pf __src.inl __src.cc __src.pn true) x61 (Go.Operand.tmp 10)).cells,(evA (let __src:=x70;Env.mk __src.ty __src.G __src.pf __src.inl __src.cc __src.pn true) x61 (Go.Operand.tmp 11)).cells,(evA (let __src:=x70;Env.mk __src.ty __src.G __src.pf __src.inl __src.cc __src.pn true) x61 (Go.Operand.tmp 12)).cells,(evA (let __src:=x70;Env.mk __src.ty __src.G __src.pf __src.inl __src.cc __src.pn true) x61 (Go.Operand.tmp 13)).cells]])) rfl ?_ ?_ (fun s13=>?_)
  ·refine ak rfl ?_
   exact cq ((Ent.rn [0,1,4,3] [1,2,4,5,7,8,14,15,16,17,18,19,20,21,22,23,24,25,26,27,34,35,40,41,42,43,44,45,46,47,48,49,50,51,52,53,54,55,56,62] rfl rfl rfl rfl rfl))
  ·exact cq ((Ent.rn [0,1,4,3] [1,2,4,5,7,8,14,15,16,17,18,19,20,21,22,23,24,25,26,27,34,35,40,41,42,43,44,45,46,47,48,49,50,51,52,53,54,55,56,62] rfl rfl rfl rfl rfl))
  exact gO ((Ent.rn [0,1,2,3] [1,2,4,5,7,14,15,16,17,18,19,20,21,22,23,24,25,26,27,34,35,40,62] rfl rfl rfl rfl rfl))
 refine uB (let x91:=i64.wrap (i64.wrap (i64.wrap (0+1)+1)+1);let x92:=[V.int u8 s.p.ca,I s.p.pa,I s.p.ha,I s.p.fu,U s.own,U s.all];let x94:=decide (band Go.BinOp.and u8 s.p.ca 8=0);let x95:=[I 60,I 56,I 58];let x96:=EE kCa kDb [(72,eW)] [];let x89:=i64.wrap (x91+1);let x90:=x94||!s.p.bl==true;let x93:=V.int u8 8::V.lit true::x95;let x88:=(13,V.agg x93)::(12,V.agg [V.int u8 4,V.lit true,I 60,I 63,I 62])::(11,V.agg [V.int u8 2,V.lit false,I 4,I 0,I 2])::(10,V.agg [V.int u8 1,V.lit false,I 4,I 7,I 6])::(5,U 0)::(4,U 0)::(2,V.ptr 1 0 0)::bH 0 [V.agg (I s.p.f::I s.p.r::V.sl 0 0 s.p.zs.length none::Bb s.p.bl::x92),I from_];fun(s19:Int)=>([(1,I from_),(2,V.ptr 1 0 0),(4,U 0),(5,U s19),(7,V.ptr 2 0 0),(14,V.sl 3 0 4 none),(15,I (Int.ofNat 4)),(16,I x89),(17,Bb (decide (x91<Int.ofNat 4))),(18,V.ptr 3 3 0),(19,V.agg x93),(20,V.ptr 1 0 0),(21,V.ptr 1 0 4),(22,V.int u8 s.p.ca),(23,V.ptr 2 0 0),(24,V.int u8 8),(25,V.int u8 (band Go.BinOp.and u8 s.p.ca 8)),(26,Bb x94),(27,Bb x94),(34,Bb x90),(35,Bb x90),(40,Bb (x90||!decide (from_=60))),(62,I x89)],[O.ints false i8 s.p.zs,O.cells true (I s.p.f::I s.p.r::V.sl 0 0 s.p.zs.length none::Bb s.p.bl::x92),O.cells true (V.int u8 8::Bb true::x95),O.vals true 5 [(evA (let __src:=x96;Env.mk __src.ty __src.G __src.pf __src.inl __src.cc __src.pn true) x88 (Go.Operand.tmp 10)).cells,(evA (let __src:=x96;Env.mk __src.ty __src.G __src.pf __src.inl __src.cc __src.pn true) x88 (Go.Operand.tmp 11)).cells,(evA (let __src:=x96;Env.mk __src.ty __src.G __src.pf __src.inl __src.cc __src.pn true) x88 (Go.Operand.tmp 12)).cells,(evA (let __src:=x96;Env.mk __src.ty __src.G __src.pf __src.inl __src.cc __src.pn true) x88 (Go.Operand.tmp 13)).cells]])) ?_ (fun s19=>?_)
 ·refine xD hE 2 rfl rfl ?_
  refine ak rfl ?_
  refine ak (Bool.not_or_self _) ?_
  refine ak (Bool.not_or_self _) ?_
  refine ak (Bool.not_or_self _) ?_
  refine ak (Bool.not_or_self _) ?_
  refine ak (Bool.not_or_self _) ?_
  refine ak (Bool.or_not_self _) ?_
  refine ak (Bool.not_or_self _) ?_
  refine ak (Bool.not_or_self _) ?_
  refine ak (Bool.not_or_self _) ?_
  refine ak (Bool.or_not_self _) ?_
  refine aP hE 2 rfl ?_ ?_
  ·exact gO ((Ent.rn [0,1,4,3] [1,2,4,5,7,14,15,16,17,18,19,20,21,22,23,24,25,26,27,34,35,40,62] rfl rfl rfl rfl rfl))
  refine ak rfl ?_
  refine dZ hE 2 (let x77:=i64.wrap (i64.wrap (i64.wrap (0+1)+1)+1);let x78:=[V.int u8 s.p.ca,I s.p.pa,I s.p.ha,I s.p.fu,U s.own,U s.all];let x80:=decide (band Go.BinOp.and u8 s.p.ca 8=0);let x81:=[I 60,I 56,I 58];let x83:=EE kCa kDb [(72,eW)] [];let x84:=(bC s.p.f s.p.r 60 56).fst;let x85:=(bC s.p.f s.p.r 60 56).snd;let x75:=[U x84,I x85];let x76:=x80||!s.p.bl==true;let x79:=V.int u8 8::V.lit true::x81;let x82:=band Go.BinOp.and u64 x84 s.all;let x74:=(13,V.agg x79)::(12,V.agg [V.int u8 4,V.lit true,I 60,I 63,I 62])::(11,V.agg [V.int u8 2,V.lit false,I 4,I 0,I 2])::(10,V.agg [V.int u8 1,V.lit false,I 4,I 7,I 6])::(5,U 0)::(4,U 0)::(2,V.ptr 1 0 0)::bH 0 [V.agg (I s.p.f::I s.p.r::V.sl 0 0 s.p.zs.length none::Bb s.p.bl::x78),I from_];fun(s17:Int)=>([(1,I from_),(2,V.ptr 1 0 0),(4,U 0),(5,U s17),(7,V.ptr 2 0 0),(8,U x84),(14,V.sl 3 0 4 none),(15,I (Int.ofNat 4)),(16,I x77),(17,Bb (decide (x77<Int.ofNat 4))),(18,V.ptr 3 3 0),(19,V.agg x79),(20,V.ptr 1 0 0),(21,V.ptr 1 0 4),(22,V.int u8 s.p.ca),(23,V.ptr 2 0 0),(24,V.int u8 8),(25,V.int u8 (band Go.BinOp.and u8 s.p.ca 8)),(26,Bb x80),(27,Bb x80),(34,Bb x76),(35,Bb x76),(40,Bb (x76||!decide (from_=60))),(41,V.tup x75),(42,V.ptr 1 0 0),(43,V.ptr 1 0 0),(44,V.agg [I s.p.f,I s.p.r]),(45,V.ptr 2 0 2),(46,I 60),(47,V.ptr 2 0 3),(48,I 56),(49,V.tup x75),(50,U x84),(51,I x85),(52,U x84),(53,V.ptr 1 0 9),(54,U s.all),(55,U x82),(56,Bb (decide (x82=0))),(62,I x77)],[O.ints false i8 s.p.zs,O.cells true (I s.p.f::I s.p.r::V.sl 0 0 s.p.zs.length none::Bb s.p.bl::x78),O.cells true (V.int u8 8::Bb true::x81),O.vals true 5 [(evA (let __src:=x83;Env.mk __src.ty __src.G __src.pf __src.inl __src.cc __src.pn true) x74 (Go.Operand.tmp 10)).cells,(evA (let __src:=x83;Env.mk __src.ty __src.G __src.pf __src.inl __src.cc __src.pn true) x74 (Go.Operand.tmp 11)).cells,(evA (let __src:=x83;Env.mk __src.ty __src.G __src.pf __src.inl __src.cc __src.pn true) x74 (Go.Operand.tmp 12)).cells,(evA (let __src:=x83;Env.mk __src.ty __src.G __src.pf __src.inl __src.cc __src.pn true) x74 (Go.Operand.tmp 13)).cells]])) rfl ?_ ?_ (fun s17=>?_)
  ·refine ak rfl ?_
   exact cq ((Ent.rn [0,1,4,3] [1,2,4,5,7,8,14,15,16,17,18,19,20,21,22,23,24,25,26,27,34,35,40,41,42,43,44,45,46,47,48,49,50,51,52,53,54,55,56,62] rfl rfl rfl rfl rfl))
  ·exact cq ((Ent.rn [0,1,4,3] [1,2,4,5,7,8,14,15,16,17,18,19,20,21,22,23,24,25,26,27,34,35,40,41,42,43,44,45,46,47,48,49,50,51,52,53,54,55,56,62] rfl rfl rfl rfl rfl))
  exact gO ((Ent.rn [0,1,2,3] [1,2,4,5,7,14,15,16,17,18,19,20,21,22,23,24,25,26,27,34,35,40,62] rfl rfl rfl rfl rfl))
 refine uB (fun(s:Unit)=>([],[])) ?_ Hu
 refine Lx hE 2 rfl rfl ?_
 refine Iv (by simp) ?_
 exact aY (bp [] (.inr rfl) rfl rfl rfl rfl rfl)
theorem zD:CtOk (GGx kCa kDb) PP (143,vD):=by
 refine aE Tryz.func143 (by kernel_rfl) rfl fun a0 h0 c0 v0 N0 e hc=>?_
 unfold vD at e
 split at e
 ·rename_i s_0 s_1 s_2n s_3 s_4 s_5 s_6 s_7 s_8 s_9 from__0 s_2
  obtain⟨hl,r,hr,rfl,rfl⟩:=cO e hc
  simp only[decide_eq_true_eq]at hl
  obtain rfl:=hl
  exact CL ⟨⟨s_0,s_1,s_2,s_3,s_4,s_5,s_6,s_7⟩,s_8,s_9⟩ from__0 hr
 ·cases e
def dB(s:Sgt)(from_:Int):Option (Int):=let x10:=Sgt.mk (Psn.mk s.p.f s.p.r (List.take s.p.zs.length (List.drop 0 s.p.zs)) s.p.bl s.p.ca s.p.pa s.p.ha s.p.fu) s.own s.all;let x12:=(vm (s.p.zs.getD from_.toNat 0)).getD 0;let x11:=(bQ s.p.f s.p.r x12 from_ s.all).fst;bE (decide (0<=from_)&&decide (from_<Int.ofNat s.p.zs.length)) (fF (vm (s.p.zs.getD from_.toNat 0)) Inhabited.default fun(_y4:Int)=>bif decide (x12=1)then fF (spawn x10 from_) 0 fun(y6:Int)=>some y6 else dV (bif decide (x12=6)then fF (Ds x10 from_) 0 fun(y7:Int)=>some (Sum.inl (band Go.BinOp.or u64 x11 y7))else some (Sum.inl x11)) fun(s9:Int)=>some (band Go.BinOp.andNot u64 s9 s.own))
def kT(R:Int):V:=.int .u64 R
def kD(_R:Int):List O:=[]
def kj:CF
 |[.agg [.int .i64 s_0,.int .i64 s_1,.sl 0 0 s_2n none,.bool s_3,.int .u8 s_4,.int .i64 s_5,.int .i64 s_6,.int .i64 s_7,.int .u64 s_8,.int .u64 s_9],.int .i64 from__0],[.ints false .i8 s_2]=>retC (decide (s_2n=s_2.length)) (dB ⟨⟨s_0,s_1,s_2,s_3,s_4,s_5,s_6,s_7⟩,s_8,s_9⟩ from__0) 0 kT kD
 |_,_=>none
theorem uk(s:Sgt)(from_:Int){r}(hr:dB s from_=some r):aS (GGx kCa kDb) PP 115 [.agg [.int .i64 s.p.f,.int .i64 s.p.r,.sl 0 0 s.p.zs.length none,Bb s.p.bl,.int .u8 s.p.ca,.int .i64 s.p.pa,.int .i64 s.p.ha,.int .i64 s.p.fu,.int .u64 s.own,.int .u64 s.all],.int .i64 from_] [.ints false .i8 s.p.zs] (kT r) (kD r):=by
 have hE:=cutE (aC (kCa:=kCa) (kDb:=kDb) (cts:=[(116,rF),(73,iJ),(142,wk),(143,vD)]) (inl:=[]) ⟨pJ,fQ,Ak,zD,trivial⟩ trivial)
 refine fy hE 2 Tryz.func115 rfl rfl kT kD hr ?_ rfl rfl
 refine ct ?_
 refine bJ (pl rfl id) ?_
 refine aP hE 2 rfl ?_ ?_
 ·refine bJ (pl (decide_eq_true (bL rfl)) id) ?_
  exact aY (bp [] (.inr rfl) rfl rfl rfl rfl rfl)
 refine ak rfl ?_
 refine dZ hE 2 (fun(s9:Int)=>([(2,V.ptr 1 0 0),(4,U 0),(6,U s9)],[O.ints false i8 s.p.zs,O.cells true [I s.p.f,I s.p.r,V.sl 0 0 s.p.zs.length none,Bb s.p.bl,V.int u8 s.p.ca,I s.p.pa,I s.p.ha,I s.p.fu,U s.own,U s.all]])) rfl ?_ ?_ (fun s9=>?_)
 ·refine bJ (pl (decide_eq_true (bL rfl)) id) ?_
  exact cq ((Ent.rn [0,1] [2,4,6] rfl rfl rfl rfl rfl))
 ·exact cq ((Ent.rn [0,1] [2,4,6] rfl rfl rfl rfl rfl))
 exact aY (bp [] (.inr rfl) rfl rfl rfl rfl rfl)
theorem qA:CtOk (GGx kCa kDb) PP (115,kj):=by
 refine aE Tryz.func115 (by kernel_rfl) rfl fun a0 h0 c0 v0 N0 e hc=>?_
 unfold kj at e
 split at e
 ·rename_i s_0 s_1 s_2n s_3 s_4 s_5 s_6 s_7 s_8 s_9 from__0 s_2
  obtain⟨hl,r,hr,rfl,rfl⟩:=cO e hc
  simp only[decide_eq_true_eq]at hl
  obtain rfl:=hl
  exact uk ⟨⟨s_0,s_1,s_2,s_3,s_4,s_5,s_6,s_7⟩,s_8,s_9⟩ from__0 hr
 ·cases e
def tz(x:Int):Option (Int):=let x2:=(u64.wrap (band Go.BinOp.and u64 x (u64.wrap (0-x))*285870213051353865)).fdiv (2^Min.min (Int.toNat 58) u64.bits);bif decide (x=0)then some 64 else bE (decide (0<=x2)&&decide (x2<Int.ofNat 64)) (some (i64.wrap (zV.getD x2.toNat 0)))
def tz_V(R:Int):V:=.int .i64 R
def tz_N(_R:Int):List O:=[]
def c_tz:CF
 |[.int .u64 x_0],[]=>retC true (tz x_0) 0 tz_V tz_N
 |_,_=>none
theorem KR(x:Int){r}(hr:tz x=some r):aS (GGx kCa true) PP 114 [.int .u64 x] [] (tz_V r) (tz_N r):=by
 have hE:=cutE (aC (kCa:=kCa) (kDb:=true) (cts:=[]) (inl:=[]) trivial trivial)
 refine fy hE 2 Tryz.func114 rfl rfl tz_V tz_N hr ?_ rfl rfl
 refine aP hE 2 rfl ?_ ?_
 ·exact aY (bp [] (.inr rfl) rfl rfl rfl rfl rfl)
 refine ak rfl ?_
 refine ct ?_
 exact aY (bp [] (.inr rfl) rfl rfl rfl rfl rfl)
theorem Hs:CtOk (GGx kCa true) PP (114,c_tz):=by
 refine aE Tryz.func114 (by kernel_rfl) rfl fun a0 h0 c0 v0 N0 e hc=>?_
 unfold c_tz at e
 split at e
 ·rename_i x_0
  obtain⟨hl,r,hr,rfl,rfl⟩:=cO e hc
  exact KR x_0 hr
 ·cases e
end
end Go.Ab
