/- Contracts of the functions that the laws reach, and plain laws of what they compute (text G13); no condition. -/
import Derived.Test.YtcmhemipmmckoaaGreatDoorG12
import Derived.Test.YtcmhemipmmckoaaGreatDoorG10
import Derived.Test.YtcmhemipmmckoaaGreatDoorG11
import Derived.Test.YtcmhemipmmckoaaGreatDoorG9
import Derived.Test.YtcmhemipmmckoaaGreatDoorG4
import Derived.Test.YtcmhemipmmckoaaGreatDoorG8
import Derived.Test.YtcmhemipmmckoaaGreatDoorG6
set_option maxRecDepth 100000
set_option maxHeartbeats 4000000
namespace Go.Ab
open Go.Proofs
section
variable{kCa kDb:Bool}
end
section
theorem bH(q:Psn):(⟨q.f,q.r,q.zs,q.bl,q.ca,q.pa,q.ha,q.fu⟩:Psn)=q:=rfl
section
variable{p:Psn}
theorem Lj{a b pr:Int}(h:mvB p.f p.r a b pr=false):canM p a b pr=false:=by unfold canM;rw[h];rfl
theorem CU{a b:Int}:(qd p a b).length<=5:=by
 unfold qd
 rw[List.length_map]
 exact Nat.le_trans (List.length_filter_le _ _) (by decide)
theorem jU{a:Int}(hl:p.zs.length<=64):(psL p a).length<=320:=by
 have key:∀ l:List Int,(l.flatMap (qd p a)).length<=5*l.length:=by
  intro l
  induction l with
  |nil=>simp
  |cons x l ih=>
   have:=CU (p:=p) (a:=a) (b:=x)
   rw[List.flatMap_cons,List.length_append,List.length_cons]
   omega
 have:=key ((List.range p.zs.length).map Int.ofNat)
 rw[List.length_map,List.length_range]at this
 unfold psL
 omega
def allL(p:Psn):List (List Int):=((List.range p.zs.length).map Int.ofNat).flatMap (psL p)
theorem JX(o:PsH p){a:Int}(ha:ak p.f p.r a=true){acc:List (List Int)}(h:acc.length<=90000):mA p ⟨p,ownS p,occR p.f p.r p.zs⟩ a acc=some (.inl (acc++psL p a)):=by
 have hp:=jU (p:=p) (a:=a) o.hl
 have h2:decide ((acc.length+(psL p a).length)*24<=140737488355328)=true:=by have:=o.hl;simp;omega
 unfold mA
 simp only[List.drop_zero,List.take_length,tS,decide_true,aV,xz o ha,aJ,h2]
 rfl
theorem Ge(o:PsH p){α:Type}{g:Int->List α}(hg:∀ a:Int,isP (p.zs.getD a.toNat 0) p.bl=false->g a=[]):(bitL (ownS p)).flatMap g=((List.range p.zs.length).map Int.ofNat).flatMap g:=by
 obtain⟨hwu,hwb⟩:=yB o.hl
 unfold bitL
 rw[oB o.hl (fun m _ h=>by rw[hwb,Bool.and_eq_true,decide_eq_true_eq]at h;exact h.1)]
 refine jI fun x hx=>?_
 obtain⟨m,hm,rfl⟩:=List.mem_map.1 hx
 have hm:=List.mem_range.1 hm
 rw[hwb,show (Int.ofNat m).toNat=m from rfl,decide_eq_true hm,Bool.true_and]
 cases h:isP (p.zs.getD m 0) p.bl with
 |true=>rfl
 |false=>exact(hg (Int.ofNat m) h).symm
theorem FU{a:Int}(h:isP (p.zs.getD a.toNat 0) p.bl=false):psL p a=[]:=by
 unfold psL
 rw[List.flatMap_eq_nil_iff]
 exact fun _ _=>sQ h
theorem uq(o:PsH p):kM p=some (allL p,0):=by
 obtain⟨hwu,hwb⟩:=yB o.hl
 have h1:decide (p.zs.length<=64)=true:=by simpa using o.hl
 have hlen:=lB (ownS p)
 unfold kM
 simp only[List.drop_zero,List.take_length,bH,h1,o.ok,aV,Bool.not_true,cond_false,look_eq o.hl o.bd,aJ,pW hwu]
 rw[nY (rows:=psL p) (M:=90000) (k:=320) (fun x hx acc h=>?_) (fun _ _=>jU o.hl) (by simp;omega),List.nil_append,Ge o (fun _ h=>FU h)]
 ·rfl
 ·obtain⟨b1,b2,b3⟩:=xn hx
  rw[hwb,Bool.and_eq_true,decide_eq_true_eq]at b3
  exact JX o ((cw o.bd).2 ⟨b1,by omega⟩) h
theorem yc(o:PsH p){a:Int}(ha:ak p.f p.r a=true):th p a=some (psL p a,0):=by
 have h1:decide (p.zs.length<=64)=true:=by simpa using o.hl
 unfold th
 simp only[List.drop_zero,List.take_length,bH,h1,o.ok,ha,aV,Bool.not_true,Bool.or_self,cond_false,look_eq o.hl o.bd,aJ,decide_true,xz o ha]
theorem xL(o:PsH p):(allL p).length<=100000:=by
 have key:∀ l:List Int,(l.flatMap (psL p)).length<=320*l.length:=by
  intro l
  induction l with
  |nil=>simp
  |cons x l ih=>
   have:=jU (p:=p) (a:=x) o.hl
   rw[List.flatMap_cons,List.length_append,List.length_cons]
   omega
 have:=key ((List.range p.zs.length).map Int.ofNat)
 rw[List.length_map,List.length_range]at this
 have:=o.hl
 unfold allL
 omega
end
end
section
theorem lT{f r:Int}{z:List Int}{bl:Bool}{K:Nat}(h:aO f r z=true)(hl:z.length<=64)(hK:K<z.length)(h1:z.getD K 0=kgP bl)(hu:∀ i:Nat,i<z.length->z.getD i 0=kgP bl->i=K):(bE f r z bl).2=0/\aP z bl=(K:Int):=by
 have hone:gT z (kgP bl)=[(K:Int)]:=qe (by simp only[jF,Int.toNat_natCast,h1,decide_true]) _ hK fun i hi hc=>hu i hi (by simpa[jF]using hc)
 have hrk:aP z bl=(K:Int):=by
  unfold aP
  rw[KB,hone];rfl
 rcases jk (bl:=bl) h hl with⟨h2,_⟩|⟨h2,_,_⟩
 ·omega
 ·exact⟨by rw[h2],hrk⟩
theorem su{f r:Int}{zs:List Int}{bl:Bool}(h:aO f r zs=true)(hl:zs.length<=64)(hk:(bE f r zs bl).2=0):∃ K:Nat,K<zs.length/\zs.getD K 0=kgP bl/\aP zs bl=(K:Int)/\∀ i:Nat,i<zs.length->zs.getD i 0=kgP bl->i=K:=by
 rcases zb zs bl hl with⟨h1,_⟩|⟨h1,h2,h3,h4,h5,h6⟩
 ·unfold bE at hk;rw[h,h1]at hk;cases hk
 ·refine⟨(fX zs bl).toNat,by omega,h5,by omega,fun i hi he=>?_⟩
  have:=h6 i hi he
  omega
theorem GX(bl:Bool):isP (kgP bl) bl=true:=by cases bl<;>decide
theorem kF{f r a b occ:Int}(_ha:ak f r a=true)(_hb:ak f r b=true)(h:bG f r 6 a b occ=true):gS f a b=1:=by
 unfold bG at h
 simpa using h
def Dj(p:Psn)(m:Mov)(n:Nat)(bl:Bool)(bit k to:Int):Prop:=wayN p.zs p.bl p.ca m.a m.b=n/\p.bl=bl/\bQ p.ca bit≠0/\m.a=k/\m.b=to
theorem Bc{p:Psn}{m:Mov}(hn:wayN p.zs p.bl p.ca m.a m.b≠4):absP (p.zs.getD m.a.toNat 0)=6/\(Dj p m 0 false 1 4 6\/Dj p m 1 false 2 4 2\/Dj p m 2 true 4 60 62\/Dj p m 3 true 8 60 58):=by
 unfold Dj
 cases hk:decide (absP (p.zs.getD m.a.toNat 0)=6) with
 |false=>exact absurd (by unfold wayN;rw[hk];rfl) hn
 |true=>
  refine⟨of_decide_eq_true hk,?_⟩
  cases n1:(!aW p.bl p.ca m.a m.b false 1 4 6) with
  |true=>
   obtain⟨e1,e2,e3,e4⟩:=cC.1 n1
   exact .inl ⟨by unfold wayN;rw[hk,n1];rfl,e1.symm,e2,e3.symm,e4.symm⟩
  |false=>
   cases n2:(!aW p.bl p.ca m.a m.b false 2 4 2) with
   |true=>
    obtain⟨e1,e2,e3,e4⟩:=cC.1 n2
    exact .inr (.inl ⟨by unfold wayN;rw[hk,n1,n2];rfl,e1.symm,e2,e3.symm,e4.symm⟩)
   |false=>
    cases n3:(!aW p.bl p.ca m.a m.b true 4 60 62) with
    |true=>
     obtain⟨e1,e2,e3,e4⟩:=cC.1 n3
     exact .inr (.inr (.inl ⟨by unfold wayN;rw[hk,n1,n2,n3];rfl,e1.symm,e2,e3.symm,e4.symm⟩))
    |false=>
     cases n4:(!aW p.bl p.ca m.a m.b true 8 60 58) with
     |true=>
      obtain⟨e1,e2,e3,e4⟩:=cC.1 n4
      exact .inr (.inr (.inr ⟨by unfold wayN;rw[hk,n1,n2,n3,n4];rfl,e1.symm,e2,e3.symm,e4.symm⟩))
     |false=>exact absurd (by unfold wayN;rw[hk,n1,n2,n3,n4];rfl) hn
section
variable{p:Psn}{m:Mov}
theorem MvOk.kU(o:MvOk p m):∃ K:Nat,K<p.zs.length/\p.zs.getD K 0=kgP p.bl/\aP p.zs p.bl=(K:Int)/\∀ i:Nat,i<p.zs.length->p.zs.getD i 0=kgP p.bl->i=K:=by
 have:=o.kings
 simp only[eC,Bool.and_eq_true,decide_eq_true_eq]at this
 exact su o.h o.hl this.1.1
theorem MvOk.pr0(o:MvOk p m)(hk:be (p.zs.getD m.a.toNat 0)≠1):m.p=0:=by
 have:=o.so
 simp only[err3,Bool.or_eq_false_iff]at this
 have hg:=jR (bl:=p.bl) (_ca:=p.ca) (pa:=p.pa) (pr:=m.p) o.h o.hl o.ha o.hb o.hp
 rw[decide_eq_false hk,cond_false]at hg
 rw[hg]at this
 by_cases h:m.p=0
 ·exact h
 ·rw[decide_eq_false h]at this;simp at this
theorem MvOk.wayg(o:MvOk p m)(hn:wayN p.zs p.bl p.ca m.a m.b≠4):be (p.zs.getD m.a.toNat 0)=6/\m.p=0/\gU p.f p.r p.zs p.bl p.pa m.a m.b m.p=false:=by
 obtain⟨hk6,hsq⟩:=Bc hn
 have hk:be (p.zs.getD m.a.toNat 0)=6:=by rw[<-o.kd];exact hk6
 have hp0:m.p=0:=o.pr0 (by rw[hk];decide)
 refine⟨hk,hp0,?_⟩
 rw[jR (_ca:=p.ca) o.h o.hl o.ha o.hb o.hp,hk,hp0]
 simp only[decide_true,Bool.true_and]
 cases hr:bG p.f p.r 6 m.a m.b (occL p.zs) with
 |false=>rfl
 |true=>
  exfalso
  have hd:=kF o.ha o.hb hr
  obtain⟨h88,_⟩:=mL (a:=m.a) (b:=m.b) (bl:=p.bl) o.bd o.cast hn
  simp only[is88,Bool.and_eq_true,decide_eq_true_eq]at h88
  rw[h88.1]at hd
  rcases hsq with⟨_,_,_,e1,e2⟩|⟨_,_,_,e1,e2⟩|⟨_,_,_,e1,e2⟩|⟨_,_,_,e1,e2⟩<;>rw[e1,e2]at hd<;>exact absurd hd (by decide)
theorem MvOk.way(o:MvOk p m)(hw:wayB p.f p.r p.zs (wayN p.zs p.bl p.ca m.a m.b)=true):be (p.zs.getD m.a.toNat 0)=6/\m.p=0/\gU p.f p.r p.zs p.bl p.pa m.a m.b m.p=false /\
  (cgL p.f p.r p.zs p.bl p.ca m.a m.b m.p≠0)/\sqW (cgL p.f p.r p.zs p.bl p.ca m.a m.b m.p) 2=wCor (wayN p.zs p.bl p.ca m.a m.b)/\sqW (cgL p.f p.r p.zs p.bl p.ca m.a m.b m.p) 3=wCro (wayN p.zs p.bl p.ca m.a m.b):=by
 have hn:wayN p.zs p.bl p.ca m.a m.b≠4:=by intro e;rw[e]at hw;simp[wayB]at hw
 obtain⟨hk,hp0,hg⟩:=o.wayg hn
 obtain⟨w1,w2⟩:=HH (bl:=p.bl) (b:=m.b) (pr:=m.p) o.h o.hl o.cast o.ca o.sq.1.1 o.sq.1.2
 rw[hw,hp0]at w1
 rw[hp0]at w2 hg ⊢
 have hc:(!decide (cgL p.f p.r p.zs p.bl p.ca m.a m.b 0=0))=true:=w1
 obtain⟨s1,s2,_⟩:=w2 hc
 exact⟨hk,rfl,hg,by simpa using hc,s1,s2⟩
theorem MvOk.noway(o:MvOk p m)(hw:wayB p.f p.r p.zs (wayN p.zs p.bl p.ca m.a m.b)=false):cgL p.f p.r p.zs p.bl p.ca m.a m.b m.p=0:=by
 obtain⟨w1,_⟩:=HH (bl:=p.bl) (b:=m.b) (pr:=m.p) o.h o.hl o.cast o.ca o.sq.1.1 o.sq.1.2
 rw[hw,Bool.and_false]at w1
 simpa using w1
theorem IX{n:Int}{bl:Bool}(h:isP n bl=true):sgn n=sdI bl:=by rw[uX]at h;exact of_decide_eq_true h
theorem MvOk.af(o:MvOk p m):afZ p.f p.r p.zs p.bl p.ca p.pa m.a m.b m.p=zs3R p.f p.r p.zs p.bl p.ca p.pa m.a m.b m.p:=by
 have h1:afZ1 p.f p.r p.zs p.pa m.a m.b=zs1R p.f p.zs p.pa m.a m.b:=by unfold afZ1 zs1R;rw[o.cap.1]
 have h2:afZ2 p.f p.r p.zs p.pa m.a m.b=zs2R p.f p.zs p.pa m.a m.b:=by unfold afZ2 zs2R;rw[h1]
 unfold afZ zs3R putR afZ3
 rw[h2]
 by_cases hp:m.p=0
 ·rw[hp]
  simp only[decide_true,Bool.not_true,Bool.false_and,cond_false]
  cases hw:wayB p.f p.r p.zs (wayN p.zs p.bl p.ca m.a m.b) with
  |true=>
   obtain⟨_,_,g,c,s1,s2⟩:=o.way hw
   rw[hp]at g c s1 s2
   unfold cstR afZ4
   rw[hw,g,s1,s2,decide_eq_false c];rfl
  |false=>
   have hc:=o.noway hw
   rw[hp]at hc
   unfold cstR afZ4
   rw[hw,hc];rfl
 ·have hpr:2<=m.p/\m.p<=5:=o.hpr.resolve_left hp
  have hc:cgL p.f p.r p.zs p.bl p.ca m.a m.b m.p=0:=by unfold cgL;rw[decide_eq_false hp];simp
  rw[hc,decide_eq_false hp]
  simp only[Bool.not_false,Bool.true_and,cond_true]
  have hs:=IX o.hp
  unfold afZ4
  rw[hs]
  cases p.bl with
  |true=>
   have:w8 (m.p*w8 (sdI true))=w8 (0-m.p):=by
    rw[show w8 (sdI true)=-1 by decide];congr 1;omega
   rw[this];rfl
  |false=>
   have:w8 (m.p*w8 (sdI false))=m.p:=by
    rw[show w8 (sdI false)=1 by decide,Int.mul_one];exact Cy (by omega) (by omega)
   rw[this];rfl
end
end
section
variable{p:Psn}{m:Mov}
theorem qX(o:PsH p)(h:canM p m.a m.b m.p=true):MvOk p m:=by
 unfold canM at h
 simp only[Bool.and_eq_true,Bool.not_eq_true']at h
 obtain⟨⟨hmv,hp⟩,he⟩:=h
 simp only[mvB,Bool.and_eq_true,Bool.or_eq_true,decide_eq_true_eq,Bool.not_eq_true',decide_eq_false_iff_not]at hmv
 obtain⟨⟨⟨ha,hb⟩,hab⟩,hpr⟩:=hmv
 exact⟨o.h,o.hl,o.ok,o.ca,ha,hb,hab,hpr,hp,he⟩
theorem vV(x y:Int):imax true x y=x\/imax true x y=y:=by
 unfold imax
 dsimp only
 cases decide (x<y)
 ·exact .inl rfl
 ·exact .inr rfl
theorem HG{n:Int}(h1:-8<=n)(h2:n<=8):n<=absI n/\-n<=absI n:=by
 unfold absI
 by_cases h:n<0
 ·rw[decide_eq_true h,cond_true,ay (by omega) (by omega)];omega
 ·rw[decide_eq_false h,cond_false];omega
theorem Gz{f r a b:Int}(ha:ak f r a=true)(hb:ak f r b=true):∃ d:Int,sJ ⟨f,r⟩ a b=some (d,0)/\(gS f a b=1->d≠2):=by
 obtain⟨a0,a1,a2,a3,a4,a5,a6,a7,a8,a9⟩:=cV ha
 obtain⟨b0,b1,b2,b3,b4,b5,_⟩:=cV hb
 have pa:aK f r a=(px f a,py f a,0):=by unfold aK;rw[ha,cond_true,a0]
 have pb:aK f r b=(px f b,py f b,0):=by unfold aK;rw[hb,cond_true,b0]
 refine⟨imax true (imax true (imax true (IntKind.i64.wrap (px f a-px f b)) (IntKind.i64.wrap (px f b-px f a))) (IntKind.i64.wrap (py f a-py f b))) (IntKind.i64.wrap (py f b-py f a)),?_,?_⟩
 ·unfold sJ
  rw[pa,pb]
  rfl
 ·intro h hd
  unfold gS at h
  rw[a0,b0,show a.tmod f=px f a from rfl,show b.tmod f=px f b from rfl,ay (n:=py f a-py f b) (by omega) (by omega),ay (n:=px f a-px f b) (by omega) (by omega)]at h
  rw[ay (n:=px f a-px f b) (by omega) (by omega),ay (n:=px f b-px f a) (by omega) (by omega),ay (n:=py f a-py f b) (by omega) (by omega),ay (n:=py f b-py f a) (by omega) (by omega)]at hd
  have gx:=HG (n:=px f a-px f b) (by omega) (by omega)
  have gy:=HG (n:=py f a-py f b) (by omega) (by omega)
  have hx:absI (px f a-px f b)<=1/\absI (py f a-py f b)<=1:=by
   by_cases hc:absI (py f a-py f b)<absI (px f a-px f b)
   ·rw[decide_eq_true hc,cond_true]at h;omega
   ·rw[decide_eq_false hc,cond_false]at h;omega
  have o1:=vV (px f a-px f b) (px f b-px f a)
  have o2:=vV (imax true (px f a-px f b) (px f b-px f a)) (py f a-py f b)
  have o3:=vV (imax true (imax true (px f a-px f b) (px f b-px f a)) (py f a-py f b)) (py f b-py f a)
  omega
theorem MvOk.castles(o:MvOk p m):∃ d:Int,sJ ⟨p.f,p.r⟩ m.a m.b=some (d,0)/\(decide (absP (p.zs.getD m.a.toNat 0)=6)&&decide (d=2))=!decide (cgL p.f p.r p.zs p.bl p.ca m.a m.b m.p=0):=by
 cases hw:wayB p.f p.r p.zs (wayN p.zs p.bl p.ca m.a m.b) with
 |true=>
  have hn:wayN p.zs p.bl p.ca m.a m.b≠4:=by intro e;rw[e]at hw;simp[wayB]at hw
  obtain⟨hk,_,_,hc,_⟩:=o.way hw
  obtain⟨h88,_⟩:=mL (a:=m.a) (b:=m.b) (bl:=p.bl) o.bd o.cast hn
  simp only[is88,Bool.and_eq_true,decide_eq_true_eq]at h88
  obtain⟨_,hsq⟩:=Bc hn
  refine⟨2,?_,by rw[o.kd,decide_eq_true hk,decide_eq_false hc];rfl⟩
  rw[h88.1,h88.2]
  rcases hsq with⟨_,_,_,e1,e2⟩|⟨_,_,_,e1,e2⟩|⟨_,_,_,e1,e2⟩|⟨_,_,_,e1,e2⟩<;>rw[e1,e2]<;>decide
 |false=>
  have hc:=o.noway hw
  obtain⟨d,h1,h2⟩:=Gz o.ha o.hb
  refine⟨d,h1,?_⟩
  rw[o.kd,decide_eq_true hc]
  cases hk:decide (be (p.zs.getD m.a.toNat 0)=6) with
  |false=>rfl
  |true=>
   have hk6:=of_decide_eq_true hk
   have hso:=o.so
   simp only[err3,hw,Bool.not_false,Bool.true_or,Bool.and_true,Bool.or_eq_false_iff,Bool.not_eq_false']at hso
   have hg:=hso.2
   rw[jR (_ca:=p.ca) o.h o.hl o.ha o.hb o.hp,hk6]at hg
   have hg:(decide (m.p=0)&&bG p.f p.r 6 m.a m.b (occL p.zs))=true:=hg
   rw[Bool.and_eq_true]at hg
   have:=h2 (kF o.ha o.hb hg.2)
   rw[decide_eq_false this];rfl
end
section
theorem dL{l:List Int}{j i:Nat}{v:Int}(hi:i<l.length):(l.set j v).getD i 0=if i=j then v else l.getD i 0:=by
 by_cases e:i=j
 ·subst e;simp[List.getD,hi]
 ·rw[if_neg e];simp[List.getD,List.getElem?_set_ne (Ne.symm e)]
theorem fo{f r:Int}{zs:List Int}{j:Nat}{v:Int}(h:aO f r zs=true)(hv:-6<=v/\v<=6):aO f r (zs.set j v)=true:=by
 have:=EX (j:=(j:Int)) h hv
 rwa [Int.toNat_natCast]at this
theorem qZ{f r:Int}{zs:List Int}(h:aO f r zs=true)(i:Nat):-6<=zs.getD i 0/\zs.getD i 0<=6:=by
 by_cases hi:i<zs.length
 ·exact(bj h).2.2.2 _ (xk hi)
 ·simp[List.getD,List.getElem?_eq_none (by omega:zs.length<=i)]
theorem IW{n:Int}{bl:Bool}(h:-6<=n/\n<=6)(hp:isP n bl=true)(hk:be n=6):n=kgP bl:=by
 rw[gB h]at hk
 have:n=6\/n=-6:=by omega
 rcases this with rfl|rfl<;>cases bl<;>first|rfl|(revert hp;decide)
section
variable{p:Psn}{m:Mov}
theorem MvOk.z1(o:MvOk p m):aO p.f p.r (zs1R p.f p.zs p.pa m.a m.b)=true/\∀ i:Nat,i<p.zs.length->(zs1R p.f p.zs p.pa m.a m.b).getD i 0=p.zs.getD i 0\/((zs1R p.f p.zs p.pa m.a m.b).getD i 0=0/\isP (p.zs.getD i 0) p.bl=false):=by
 unfold zs1R
 cases hc:decide (0<=at2R p.f p.zs p.pa m.a m.b) with
 |false=>exact⟨o.h,fun i _=>.inl rfl⟩
 |true=>
  obtain⟨c1,c2,c3,_⟩:=o.cap.2.1 (of_decide_eq_true hc)
  refine⟨fo o.h (by omega),fun i hi=>?_⟩
  rw[cond_true,dL hi]
  by_cases e:i=(at2R p.f p.zs p.pa m.a m.b).toNat
  ·right
   rw[if_pos e,e]
   refine⟨rfl,?_⟩
   rw[uX]at c2 ⊢
   rw[of_decide_eq_true c2]
   cases p.bl<;>decide
  ·left;rw[if_neg e]
theorem MvOk.z2(o:MvOk p m):aO p.f p.r (zs2R p.f p.zs p.pa m.a m.b)=true/\∀ i:Nat,i<p.zs.length->(zs2R p.f p.zs p.pa m.a m.b).getD i 0=if i=m.b.toNat then p.zs.getD m.a.toNat 0 else if i=m.a.toNat then 0 else(zs1R p.f p.zs p.pa m.a m.b).getD i 0:=by
 have hl:=AN (f:=p.f) (zs:=p.zs) (pa:=p.pa) (a:=m.a) (b:=m.b)
 refine⟨fo (fo o.z1.1 (by omega)) (qZ o.h _),fun i hi=>?_⟩
 unfold zs2R
 rw[dL (by rw[List.length_set,hl];exact hi),dL (by rw[hl];exact hi)]
theorem MvOk.z3(o:MvOk p m):aO p.f p.r (zs3R p.f p.r p.zs p.bl p.ca p.pa m.a m.b m.p)=true/\(bE p.f p.r (zs3R p.f p.r p.zs p.bl p.ca p.pa m.a m.b m.p) p.bl).2=0:=by
 obtain⟨⟨sa0,sa1⟩,⟨sb0,sb1⟩⟩:=o.sq
 obtain⟨z2o,z2g⟩:=o.z2
 obtain⟨K,k1,k2,_,k4⟩:=o.kU
 have hlen:=qW (f:=p.f) (r:=p.r) (zs:=p.zs) (bl:=p.bl) (ca:=p.ca) (pa:=p.pa) (a:=m.a) (b:=m.b) (pr:=m.p)
 have hl2:=pX (f:=p.f) (zs:=p.zs) (pa:=p.pa) (a:=m.a) (b:=m.b)
 have hkb:K≠m.b.toNat:=by intro e;have h1:=GX p.bl;rw[<-k2,e,o.nto]at h1;cases h1
 have kz:(0:Int)≠kgP p.bl:=by cases p.bl<;>decide
 have hK1:(zs1R p.f p.zs p.pa m.a m.b).getD K 0=kgP p.bl:=by
  rcases o.z1.2 K k1 with h|⟨_,h⟩
  ·rw[h,k2]
  ·rw[k2,GX]at h;cases h
 have h1U:∀ i:Nat,i<p.zs.length->(zs1R p.f p.zs p.pa m.a m.b).getD i 0=kgP p.bl->i=K:=by
  intro i hi he
  rcases o.z1.2 i hi with h|⟨h,_⟩
  ·rw[h]at he;exact k4 i hi he
  ·rw[h]at he;exact absurd he kz
 -- a board that is like zs2R but for a piece that is put down
 have fin:∀ (z:List Int) (v:Int),z.length=p.zs.length->(∀ i:Nat,i<p.zs.length->z.getD i 0=if i=m.b.toNat then v else if i=m.a.toNat then 0 else(zs1R p.f p.zs p.pa m.a m.b).getD i 0)->aO p.f p.r z=true->(v=kgP p.bl↔K=m.a.toNat)->(bE p.f p.r z p.bl).2=0:=by
  intro z v hzl hz hzo hv
  by_cases hKa:K=m.a.toNat
  ·refine(lT (K:=m.b.toNat) hzo (by rw[hzl];exact o.hl) (by omega) ?_ fun i hi he=>?_).1
   ·rw[hz _ (by omega),if_pos rfl];exact hv.2 hKa
   ·rw[hz _ (by omega)]at he
    by_cases e:i=m.b.toNat
    ·exact e
    ·rw[if_neg e]at he
     by_cases e2:i=m.a.toNat
     ·rw[if_pos e2]at he;exact absurd he kz
     ·rw[if_neg e2]at he;exact absurd ((h1U i (by omega) he).trans hKa) e2
  ·refine(lT (K:=K) hzo (by rw[hzl];exact o.hl) (by omega) ?_ fun i hi he=>?_).1
   ·rw[hz _ k1,if_neg hkb,if_neg hKa,hK1]
   ·rw[hz _ (by omega)]at he
    by_cases e:i=m.b.toNat
    ·rw[if_pos e]at he;exact absurd (hv.1 he) hKa
    ·rw[if_neg e]at he
     by_cases e2:i=m.a.toNat
     ·rw[if_pos e2]at he;exact absurd he kz
     ·rw[if_neg e2]at he;exact h1U i (by omega) he
 have haK:p.zs.getD m.a.toNat 0=kgP p.bl↔K=m.a.toNat:=⟨fun h=>(k4 _ (by omega) h).symm,fun h=>by rw[<-h,k2]⟩
 unfold zs3R putR
 by_cases hp:m.p=0
 ·rw[decide_eq_true hp]
  simp only[Bool.not_true,Bool.false_and,cond_false]
  cases hw:wayB p.f p.r p.zs (wayN p.zs p.bl p.ca m.a m.b) with
  |false=>
   unfold cstR
   rw[hw]
   exact⟨z2o,fin _ _ hl2 z2g z2o haK⟩
  |true=>
   obtain⟨hk6,_,g,_,_,_⟩:=o.way hw
   have hn:wayN p.zs p.bl p.ca m.a m.b≠4:=by intro e;rw[e]at hw;simp[wayB]at hw
   obtain⟨h88,h64,w1,w2,w3,w4⟩:=mL (a:=m.a) (b:=m.b) (bl:=p.bl) o.bd o.cast hn
   unfold cstR
   rw[hw,g]
   simp only[Bool.not_false,Bool.and_self,cond_true]
   have hpiece:p.zs.getD m.a.toNat 0=kgP p.bl:=IW (qZ o.h _) o.hp hk6
   have hKa:=haK.1 hpiece
   -- the rook
   have hrook:p.zs.getD (wCor (wayN p.zs p.bl p.ca m.a m.b)).toNat 0=ofP 4 p.bl/\wCor (wayN p.zs p.bl p.ca m.a m.b)≠m.a/\wCor (wayN p.zs p.bl p.ca m.a m.b)≠m.b/\wCro (wayN p.zs p.bl p.ca m.a m.b)≠m.b/\wCro (wayN p.zs p.bl p.ca m.a m.b)≠m.a:=by
    have hcs:=o.cast
    simp only[ee,Bool.and_eq_true,Bool.not_eq_true',decide_eq_true_eq]at hcs
    obtain⟨⟨⟨⟨c1,c2⟩,c3⟩,c4⟩,c5⟩:=hcs
    unfold wayN at hn ⊢
    rw[o.kd,hk6]at hn ⊢
    cases n1:(!aW p.bl p.ca m.a m.b false 1 4 6) with
    |true=>
     obtain⟨e1,e2,e3,e4⟩:=cC.1 n1
     obtain⟨_,_,_,e5⟩:=cW c1 e2
     rw[<-e1,<-e3,<-e4]
     exact⟨e5,show (7:Int)≠4 by decide,show (7:Int)≠6 by decide,show (5:Int)≠6 by decide,show (5:Int)≠4 by decide⟩
    |false=>
     cases n2:(!aW p.bl p.ca m.a m.b false 2 4 2) with
     |true=>
      obtain⟨e1,e2,e3,e4⟩:=cC.1 n2
      obtain⟨_,_,_,e5⟩:=cW c2 e2
      rw[<-e1,<-e3,<-e4]
      exact⟨e5,show (0:Int)≠4 by decide,show (0:Int)≠2 by decide,show (3:Int)≠2 by decide,show (3:Int)≠4 by decide⟩
     |false=>
      cases n3:(!aW p.bl p.ca m.a m.b true 4 60 62) with
      |true=>
       obtain⟨e1,e2,e3,e4⟩:=cC.1 n3
       obtain⟨_,_,_,e5⟩:=cW c3 e2
       rw[<-e1,<-e3,<-e4]
       exact⟨e5,show (63:Int)≠60 by decide,show (63:Int)≠62 by decide,show (61:Int)≠62 by decide,show (61:Int)≠60 by decide⟩
      |false=>
       cases n4:(!aW p.bl p.ca m.a m.b true 8 60 58) with
       |true=>
        obtain⟨e1,e2,e3,e4⟩:=cC.1 n4
        obtain⟨_,_,_,e5⟩:=cW c4 e2
        rw[<-e1,<-e3,<-e4]
        exact⟨e5,show (56:Int)≠60 by decide,show (56:Int)≠58 by decide,show (59:Int)≠58 by decide,show (59:Int)≠60 by decide⟩
       |false=>rw[n1,n2,n3,n4]at hn;exact absurd rfl hn
   obtain⟨r1,r2,r3,r4,r5⟩:=hrook
   have hro:aO p.f p.r (((zs2R p.f p.zs p.pa m.a m.b).set (wCro (wayN p.zs p.bl p.ca m.a m.b)).toNat ((zs2R p.f p.zs p.pa m.a m.b).getD (wCor (wayN p.zs p.bl p.ca m.a m.b)).toNat 0)).set (wCor (wayN p.zs p.bl p.ca m.a m.b)).toNat 0)=true:=fo (fo z2o (qZ z2o _)) (by omega)
   refine⟨hro,(lT (K:=m.b.toNat) hro (by simp only[List.length_set,hl2];exact o.hl) (by simp only[List.length_set,hl2];omega) ?_ fun i hi he=>?_).1⟩
   ·rw[dL (by simp only[List.length_set,hl2];omega),if_neg (by omega),dL (by rw[hl2];omega),if_neg (by omega),z2g _ (by omega),if_pos rfl,hpiece]
   ·simp only[List.length_set,hl2]at hi
    rw[dL (by simp only[List.length_set,hl2];omega)]at he
    by_cases e1:i=(wCor (wayN p.zs p.bl p.ca m.a m.b)).toNat
    ·rw[if_pos e1]at he;exact absurd he kz
    ·rw[if_neg e1,dL (by rw[hl2];omega)]at he
     by_cases e2:i=(wCro (wayN p.zs p.bl p.ca m.a m.b)).toNat
     ·exfalso
      rw[if_pos e2,z2g _ (by omega),if_neg (by omega),if_neg (by omega)]at he
      rcases o.z1.2 (wCor (wayN p.zs p.bl p.ca m.a m.b)).toNat (by omega)with h|⟨h,_⟩
      ·rw[h,r1]at he;revert he;cases p.bl<;>decide
      ·rw[h]at he;exact kz he
     ·rw[if_neg e2,z2g _ hi]at he
      by_cases e:i=m.b.toNat
      ·exact e
      ·rw[if_neg e]at he
       by_cases e3:i=m.a.toNat
       ·rw[if_pos e3]at he;exact absurd he kz
       ·rw[if_neg e3]at he;exact absurd ((h1U i hi he).trans hKa) e3
 ·have hpr:2<=m.p/\m.p<=5:=o.hpr.resolve_left hp
  have hk1:be (p.zs.getD m.a.toNat 0)=1:=by
   by_cases h:be (p.zs.getD m.a.toNat 0)=1
   ·exact h
   ·exact absurd (o.pr0 h) hp
  have hnK:¬ K=m.a.toNat:=fun e=>by
   have:=haK.2 e
   rw[this]at hk1
   revert hk1;cases p.bl<;>decide
  rw[decide_eq_false hp]
  simp only[Bool.not_false,Bool.true_and,cond_true]
  have hput:∀ v:Int,-6<=v/\v<=6->v≠kgP p.bl->aO p.f p.r ((zs2R p.f p.zs p.pa m.a m.b).set m.b.toNat v)=true/\(bE p.f p.r ((zs2R p.f p.zs p.pa m.a m.b).set m.b.toNat v) p.bl).2=0:=by
   intro v hv hvk
   have hzo:=fo (j:=m.b.toNat) z2o hv
   refine⟨hzo,fin _ v (by rw[List.length_set,hl2]) (fun i hi=>?_) hzo ⟨fun h=>absurd h hvk,fun h=>absurd h hnK⟩⟩
   rw[dL (by rw[hl2];exact hi),z2g i hi]
   by_cases e:i=m.b.toNat<;>simp[e]
  have hkg:kgP p.bl=6\/kgP p.bl=-6:=by cases p.bl<;>simp[kgP]
  have hw:w8 (0-m.p)=-m.p:=by rw[Cy (by omega) (by omega)];omega
  have key:∀ v,v=m.p\/v=-m.p->_:=fun v hv=>hput v (by omega) (by omega)
  cases hb:p.bl with
  |true=>
   have:=key (-m.p) (.inr rfl)
   rw[hb]at this
   simp only[cond_true,hw]
   exact this
  |false=>
   have:=key m.p (.inl rfl)
   rw[hb]at this
   simp only[cond_false]
   exact this
end
end
section
variable{p:Psn}{m:Mov}
def legM(p:Psn)(m:Mov):Bool:=canM p m.a m.b m.p&&!err4 p m
theorem Jc(hok:p.ok=true)(hmv:mvB p.f p.r m.a m.b m.p=true):(decide (mkE5 p m=0)||decide (mkE5 p m=7))=legM p m:=by
 have h1:err1 p m=false:=by unfold err1;rw[hok,hmv];rfl
 unfold mkE5 legM canM
 rw[h1,hmv]
 cases isP (p.zs.getD m.a.toNat 0) p.bl with
 |false=>rfl
 |true=>
  have he:err3 p ⟨m.a,m.b,m.p⟩=err3 p m:=rfl
  rw[he]
  cases err3 p m with
  |true=>rfl
  |false=>cases err4 p m<;>cases err5 p m<;>rfl
end
section
variable{kCa kDb:Bool}
def keeps(p:Psn)(m:Mov):Option (Bool):=let x5:=List.take p.zs.length (List.drop 0 p.zs);let x3:=mkE5 (Psn.mk p.f p.r x5 p.bl p.ca p.pa p.ha p.fu) (Mov.mk m.a m.b m.p);let x4:=x5.length;bp (decide (x4<=64)) (some (decide (x3=0)||decide (x3=7)))
def wO(R:Bool):V:=Bb R
def wG(_:Bool):List O:=[]
def qs:CF
 |[.agg [.int .i64 p_0,.int .i64 p_1,.sl 0 0 p_2n none,.bool p_3,.int .u8 p_4,.int .i64 p_5,.int .i64 p_6,.int .i64 p_7],.agg [.int .i64 m_0,.int .i64 m_1,.int .i8 m_2]],[.ints false .i8 p_2]=>retC (decide (p_2n=p_2.length)) (keeps ⟨p_0,p_1,p_2,p_3,p_4,p_5,p_6,p_7⟩ ⟨m_0,m_1,m_2⟩) false wO wG
 |_,_=>none
theorem Ef(p:Psn)(m:Mov){r}(hr:keeps p m=some r):aG (GGx true kDb) PP 58 [.agg [.int .i64 p.f,.int .i64 p.r,.sl 0 0 p.zs.length none,Bb p.bl,.int .u8 p.ca,.int .i64 p.pa,.int .i64 p.ha,.int .i64 p.fu],.agg [.int .i64 m.a,.int .i64 m.b,.int .i8 m.p]] [.ints false .i8 p.zs] (wO r) (wG r):=by
 have hE:=cutE (aC (kCa:=true) (kDb:=kDb) (cts:=[(63,yS)]) (inl:=[]) ⟨ud,trivial⟩ trivial)
 refine dA hE 2 Tryz.func58 rfl rfl wO wG hr ?_ rfl rfl
 refine dJ (pl (decide_eq_true (aS rfl)) id) ?_
 refine aj (Bool.not_or_self _) ?_
 refine aj (Bool.or_not_self _) ?_
 exact aQ (aN [] (.inr rfl) rfl rfl rfl rfl rfl)
theorem pB:CtOk (GGx true kDb) PP (58,qs):=by
 refine aD Tryz.func58 (by kernel_rfl) rfl fun a0 h0 c0 v0 N0 e hc=>?_
 unfold qs at e
 split at e
 ·rename_i p_0 p_1 p_2n p_3 p_4 p_5 p_6 p_7 m_0 m_1 m_2 p_2
  obtain⟨hl,r,hr,rfl,rfl⟩:=bS e hc
  simp only[decide_eq_true_eq]at hl
  obtain rfl:=hl
  exact Ef ⟨p_0,p_1,p_2,p_3,p_4,p_5,p_6,p_7⟩ ⟨m_0,m_1,m_2⟩ hr
 ·cases e
end
end Go.Ab
namespace Go.Ab
open IntKind
open Go.Proofs
section
variable{kCa kDb:Bool}
def rz:Siz->List Int->Int×Int->Option (Int×Int ⊕ Int ⊕ Int×Int):=fun(s:Siz) (squares:List Int) (s7:Int×Int)=>let x17:=decide (s7.2<Int.ofNat squares.length);bif x17 then bp (decide (0<=s7.2)&&x17) (bif !ak s.f s.r (squares.getD s7.2.toNat 0)then escO (escO (some (0,2)))else bp (decide (0<=squares.getD s7.2.toNat 0)) (some (Sum.inl (band Go.BinOp.or u64 s7.1 (u64.wrap (1*2^Min.min (squares.getD s7.2.toNat 0).toNat u64.bits)),i64.wrap (s7.2+1)))))else some (Sum.inr (Sum.inl s7.1))
def sqOf(s:Siz)(squares:List Int):Option (Int×Int):=bif !vsB s.f s.r then some (0,2)else dg (rz s squares) (fun(s15:Int)=>some (s15,0)) 1000000 (0,0)
def Db(R:Int×Int):V:=.tup [.int .u64 R.1,.int .i64 R.2]
def DA(_R:Int×Int):List O:=[]
def DH:CF
 |[.agg [.int .i64 s_0,.int .i64 s_1],.sl 0 0 squares_0n none],[.ints false .i64 squares_0]=>retC (decide (squares_0n=squares_0.length)) (sqOf ⟨s_0,s_1⟩ squares_0) (0,0) Db DA
 |_,_=>none
theorem Fg(s:Siz)(squares:List Int){r}(hr:sqOf s squares=some r):aG (GGx kCa kDb) PP 94 [.agg [.int .i64 s.f,.int .i64 s.r],.sl 0 0 squares.length none] [.ints false .i64 squares] (Db r) (DA r):=by
 have hE:=cutE (aC (kCa:=kCa) (kDb:=kDb) (cts:=[(101,eL),(146,c_vs)]) (inl:=[]) ⟨cz,kf,trivial⟩ trivial)
 refine dA hE 2 Tryz.func94 rfl rfl Db DA hr ?_ rfl rfl
 refine aj rfl ?_
 refine aI hE 2 rfl ?_ ?_
 ·exact aQ (aN [] (.inr rfl) rfl rfl rfl rfl rfl)
 refine eJ hE 2 (fun(s7:Int×Int)=>([(2,V.ptr 1 0 0),(4,U 0),(5,I 0),(6,U s7.1),(12,V.sl 0 0 squares.length none),(13,I (Int.ofNat squares.length)),(14,I s7.2)],[O.ints false i64 squares,O.cells true [I s.f,I s.r]])) (fun(s15:Int)=>([(4,U 0),(5,I 0),(6,U s15)],[O.ints false i64 squares])) (.exit 0) ((Ent.rn [0,1] [2,4,5,6,12,13,14] rfl rfl rfl rfl rfl)) (fun s7=>?_) (fun s15=>?_)
 ·refine aI hE 2 rfl ?_ ?_
  ·refine bZ ?_
   refine aj rfl ?_
   refine aI hE 2 rfl ?_ ?_
   ·refine tE (by simp) (mF ?_)
    exact aQ (aN [] (.inr rfl) rfl rfl rfl rfl rfl)
   refine bZ ?_
   exact eo ((Ent.rn [0,1] [2,4,5,6,12,13,14] rfl rfl rfl rfl rfl))
  exact dV ((Ent.rn [0] [4,5,6] rfl rfl rfl rfl rfl))
 exact aQ (aN [] (.inr rfl) rfl rfl rfl rfl rfl)
theorem Ei:CtOk (GGx kCa kDb) PP (94,DH):=by
 refine aD Tryz.func94 (by kernel_rfl) rfl fun a0 h0 c0 v0 N0 e hc=>?_
 unfold DH at e
 split at e
 ·rename_i s_0 s_1 squares_0n squares_0
  obtain⟨hl,r,hr,rfl,rfl⟩:=bS e hc
  simp only[decide_eq_true_eq]at hl
  obtain rfl:=hl
  exact Fg ⟨s_0,s_1⟩ squares_0 hr
 ·cases e
def qP:Psn->List (List Int)->List (List Int)×Int->Option (List (List Int)×Int ⊕ List (List Int) ⊕ List (List Int)):=fun(p:Psn) (l:List (List Int))=>let x21:=Psn.mk p.f p.r (List.take p.zs.length (List.drop 0 p.zs)) p.bl p.ca p.pa p.ha p.fu;fun(s9:List (List Int)×Int)=>let x24:=(s9.1.length+1)*24;let x25:=decide (s9.2<Int.ofNat l.length);let x26:=(l.getD s9.2.toNat []).getD 0 0;let x27:=(l.getD s9.2.toNat []).getD 1 0;let x28:=(l.getD s9.2.toNat []).getD 2 0;let x23:=Mov.mk x26 x27 x28;bif x25 then bp (decide (0<=s9.2)&&x25) (cn (keeps x21 x23) Inhabited.default fun(_y10:Bool)=>dN (bif (keeps x21 x23).getD false then bp (decide (x24<=140737488355328)) (some (Sum.inl (s9.1++List.take 1 (List.drop 0 [iL [x26,x27,x28]]))))else some (Sum.inl s9.1)) fun(s12:List (List Int))=>some (Sum.inl (s12,i64.wrap (s9.2+1))))else some (Sum.inr (Sum.inl s9.1))
def kept(p:Psn)(l:List (List Int)):Option (List (List Int)):=dg (qP p l) (fun(s20:List (List Int))=>let x33:=decide (Int.ofNat s20.length<=Int.ofNat s20.length);let x34:=(Int.ofNat s20.length).toNat-Int.toNat 0;bp (decide (0<=Int.ofNat s20.length)&&x33&&x33) (bp (decide (x34=s20.length)) (some s20))) 1000000 ([],0)
def yt(R:List (List Int)):V:=.sl 2 0 R.length (some R.length)
def CH(R:List (List Int)):List O:=[.rows true [.i64,.i64,.i8] R]
def Cv:CF
 |[.agg [.int .i64 p_0,.int .i64 p_1,.sl 0 0 p_2n none,.bool p_3,.int .u8 p_4,.int .i64 p_5,.int .i64 p_6,.int .i64 p_7],.sl 1 0 l_0n none],[.ints false .i8 p_2,.rows false [.i64,.i64,.i8] l_0]=>retC (decide (p_2n=p_2.length)&&decide (l_0n=l_0.length)) (kept ⟨p_0,p_1,p_2,p_3,p_4,p_5,p_6,p_7⟩ l_0) [] yt CH
 |_,_=>none
theorem FA(p:Psn)(l:List (List Int)){r}(hr:kept p l=some r):aG (GGx true kDb) PP 93 [.agg [.int .i64 p.f,.int .i64 p.r,.sl 0 0 p.zs.length none,Bb p.bl,.int .u8 p.ca,.int .i64 p.pa,.int .i64 p.ha,.int .i64 p.fu],.sl 1 0 l.length none] [.ints false .i8 p.zs,.rows false [.i64,.i64,.i8] l] (yt r) (CH r):=by
 have hE:=cutE (aC (kCa:=true) (kDb:=kDb) (cts:=[(58,qs)]) (inl:=[]) ⟨pB,trivial⟩ trivial)
 refine dA hE 2 Tryz.func93 rfl rfl yt CH hr ?_ rfl rfl
 refine eJ hE 2 (fun(s9:List (List Int)×Int)=>([(2,V.ptr 2 0 0),(4,V.nils),(5,V.fn 58 []),(6,V.sl 3 0 s9.1.length none),(9,V.sl 1 0 l.length none),(10,I (Int.ofNat l.length)),(11,I s9.2)],[O.ints false i8 p.zs,O.rows false [i64,i64,i8] l,O.cells true [I p.f,I p.r,V.sl 0 0 p.zs.length none,Bb p.bl,V.int u8 p.ca,I p.pa,I p.ha,I p.fu],O.rows true [i64,i64,i8] s9.1])) (fun(s20:List (List Int))=>([(4,V.nils),(6,V.sl 2 0 s20.length none)],[O.ints false i8 p.zs,O.rows false [i64,i64,i8] l,O.rows true [i64,i64,i8] s20])) (.exit 0) ((Ent.phT 6 (O.rows true [i64,i64,i8] []) rfl rfl rfl rfl rfl).trans (Ent.rn [0,1,2,3] [2,4,5,6,9,10,11] rfl rfl rfl rfl rfl)) (fun s9=>?_) (fun s20=>?_)
 ·refine aI hE 2 rfl ?_ ?_
  ·refine bZ ?_
   refine aR (pl (decide_eq_true (aS rfl)) id) ?_
   refine dc hE 2 (fun(s12:List (List Int))=>([(2,V.ptr 2 0 0),(4,V.nils),(5,V.fn 58 []),(6,V.sl 3 0 s12.length none),(9,V.sl 1 0 l.length none),(10,I (Int.ofNat l.length)),(11,I s9.2)],[O.ints false i8 p.zs,O.rows false [i64,i64,i8] l,O.cells true [I p.f,I p.r,V.sl 0 0 p.zs.length none,Bb p.bl,V.int u8 p.ca,I p.pa,I p.ha,I p.fu],O.rows true [i64,i64,i8] s12])) rfl ?_ ?_ (fun s12=>?_)
   ·refine dJ (pr (pl (decide_eq_true rfl) id) rfl) ?_
    exact bN ((Ent.rn [0,1,2,6] [2,4,5,6,9,10,11] rfl rfl rfl rfl rfl))
   ·exact bN ((Ent.rn [0,1,2,3] [2,4,5,6,9,10,11] rfl rfl rfl rfl rfl))
   exact eo ((Ent.rn [0,1,2,3] [2,4,5,6,9,10,11] rfl rfl rfl rfl rfl))
  exact dV ((Ent.rn [0,1,3] [4,6] rfl rfl rfl rfl rfl))
 refine dJ (pb (pb (pl rfl id) id) id) ?_
 refine Mo (fun h0=>?_)
 exact aQ (aN [2] (.inr rfl) rfl rfl rfl rfl (by have qh0:=of_decide_eq_true h0;simp_all [yt,addN]))
theorem CB:CtOk (GGx true kDb) PP (93,Cv):=by
 refine aD Tryz.func93 (by kernel_rfl) rfl fun a0 h0 c0 v0 N0 e hc=>?_
 unfold Cv at e
 split at e
 ·rename_i p_0 p_1 p_2n p_3 p_4 p_5 p_6 p_7 l_0n p_2 l_0
  obtain⟨hl,r,hr,rfl,rfl⟩:=bS e hc
  simp only[Bool.and_eq_true,decide_eq_true_eq]at hl
  obtain⟨rfl,rfl⟩:=hl
  exact FA ⟨p_0,p_1,p_2,p_3,p_4,p_5,p_6,p_7⟩ l_0 hr
 ·cases e
def eI:Psn->List (List Int)->Int×Int->Option (Int×Int ⊕ Int ⊕ Int×Int):=fun(p:Psn) (y3:List (List Int)) (s8:Int×Int)=>let x20:=List.take 1 (List.drop 0 (iL [(y3.getD s8.2.toNat []).getD 1 0]));let x21:=decide (s8.2<Int.ofNat y3.length);let x19:=x20.length;bif x21 then bp (decide (0<=s8.2)&&x21) (bp (decide (1=x19)) (cn (sqOf (Siz.mk p.f p.r) x20) Inhabited.default fun(_y9:Int×Int)=>some (Sum.inl (band Go.BinOp.or u64 s8.1 ((sqOf (Siz.mk p.f p.r) x20).getD (0,0)).fst,i64.wrap (s8.2+1)))))else some (Sum.inr (Sum.inl s8.1))
def dG(p:Psn)(at_:Int):Option (Int×Int):=let x24:=Psn.mk p.f p.r (List.take p.zs.length (List.drop 0 p.zs)) p.bl p.ca p.pa p.ha p.fu;cn (th x24 at_) ([],0) fun(y2:List (List Int)×Int)=>bif !decide (y2.2=0)then some (0,y2.2)else cn (kept x24 (List.take y2.1.length (List.drop 0 y2.1))) [] fun(y3:List (List Int))=>dg (eI p y3) (fun(s17:Int)=>some (s17,0)) 1000000 (0,0)
def jT(R:Int×Int):V:=.tup [.int .u64 R.1,.int .i64 R.2]
def jP(_R:Int×Int):List O:=[]
def kp:CF
 |[.agg [.int .i64 p_0,.int .i64 p_1,.sl 0 0 p_2n none,.bool p_3,.int .u8 p_4,.int .i64 p_5,.int .i64 p_6,.int .i64 p_7],.int .i64 at__0],[.ints false .i8 p_2]=>retC (decide (p_2n=p_2.length)) (dG ⟨p_0,p_1,p_2,p_3,p_4,p_5,p_6,p_7⟩ at__0) (0,0) jT jP
 |_,_=>none
theorem sU(p:Psn)(at_:Int){r}(hr:dG p at_=some r):aG (GGx true true) PP 50 [.agg [.int .i64 p.f,.int .i64 p.r,.sl 0 0 p.zs.length none,Bb p.bl,.int .u8 p.ca,.int .i64 p.pa,.int .i64 p.ha,.int .i64 p.fu],.int .i64 at_] [.ints false .i8 p.zs] (jT r) (jP r):=by
 have hE:=cutE (aC (kCa:=true) (kDb:=true) (cts:=[(57,rF),(93,Cv),(94,DH)]) (inl:=[]) ⟨pD,CB,Ei,trivial⟩ trivial)
 refine dA hE 2 Tryz.func50 rfl rfl jT jP hr ?_ rfl rfl
 unfold dG
 refine aR (pl (decide_eq_true (aS rfl)) id) ?_
 refine aI hE 2 rfl ?_ ?_
 ·exact aQ (aN [] (.inr rfl) rfl rfl rfl rfl rfl)
 refine aR (pl (pa (decide_eq_true (aS rfl)) (decide_eq_true (aS rfl))) id) ?_
 refine eJ hE 2 (let x31:=Psn.mk p.f p.r (List.take p.zs.length (List.drop 0 p.zs)) p.bl p.ca p.pa p.ha p.fu;let x30:=((th x31 at_).getD ([],0)).fst;let x29:=(kept x31 (List.take x30.length (List.drop 0 x30))).getD [];let x28:=x29.length;fun(s8:Int×Int)=>([(2,V.ptr 1 0 0),(4,U 0),(5,I 0),(8,U s8.1),(24,V.sl 2 0 x28 (some x28)),(25,I (Int.ofNat x28)),(26,I s8.2)],[O.ints false i8 p.zs,O.cells true [I p.f,I p.r,V.sl 0 0 p.zs.length none,Bb p.bl,V.int u8 p.ca,I p.pa,I p.ha,I p.fu],O.rows true [i64,i64,i8] x29])) (fun(s17:Int)=>([(4,U 0),(5,I 0),(8,U s17)],[O.ints false i8 p.zs])) (.exit 0) ((Ent.rn [0,1,3] [2,4,5,8,24,25,26] rfl rfl rfl rfl rfl)) (fun s8=>?_) (fun s17=>?_)
 ·refine aI hE 2 rfl ?_ ?_
  ·refine bZ ?_
   refine BE id ?_
   exact eo ((Ent.rn [0,1,2] [2,4,5,8,24,25,26] rfl rfl rfl rfl rfl))
  exact dV ((Ent.rn [0] [4,5,8] rfl rfl rfl rfl rfl))
 exact aQ (aN [] (.inr rfl) rfl rfl rfl rfl rfl)
theorem rP:CtOk (GGx true true) PP (50,kp):=by
 refine aD Tryz.func50 (by kernel_rfl) rfl fun a0 h0 c0 v0 N0 e hc=>?_
 unfold kp at e
 split at e
 ·rename_i p_0 p_1 p_2n p_3 p_4 p_5 p_6 p_7 at__0 p_2
  obtain⟨hl,r,hr,rfl,rfl⟩:=bS e hc
  simp only[decide_eq_true_eq]at hl
  obtain rfl:=hl
  exact sU ⟨p_0,p_1,p_2,p_3,p_4,p_5,p_6,p_7⟩ at__0 hr
 ·cases e
def fP:Psn->Bool×Int->List (List Int)×Int->Bool×Int->Option (Bool×Int ⊕ Bool ⊕ Bool×Int ⊕ Bool ⊕ Bool×Int):=fun(p:Psn) (s19:Bool×Int) (y20:List (List Int)×Int)=>let x43:=Psn.mk p.f p.r (List.take p.zs.length (List.drop 0 p.zs)) p.bl p.ca p.pa p.ha p.fu;fun(s25:Bool×Int)=>let x47:=decide (s25.2<Int.ofNat y20.1.length);let x48:=y20.1.getD s25.2.toNat [];let x46:=Mov.mk (x48.getD 0 0) (x48.getD 1 0) (x48.getD 2 0);let x45:=(keeps x43 x46).getD false;bif x47 then bp (decide (0<=s25.2)&&x47) (cn (keeps x43 x46) Inhabited.default fun(_y26:Bool)=>bif x45 then some (Sum.inr (Sum.inl x45))else some (Sum.inl (x45,i64.wrap (s25.2+1))))else escO (escO (some (Sum.inl (s25.1,i64.wrap (s19.2+1)))))
def lY:Psn->(Psn->Bool×Int->List (List Int)×Int->Bool×Int->Option (Bool×Int ⊕ Bool ⊕ Bool×Int ⊕ Bool ⊕ Bool×Int))->Bool×Int->Option (Bool×Int ⊕ Bool ⊕ Bool×Int):=fun(p:Psn) (fP:Psn->Bool×Int->List (List Int)×Int->Bool×Int->Option (Bool×Int ⊕ Bool ⊕ Bool×Int ⊕ Bool ⊕ Bool×Int)) (s19:Bool×Int)=>bif decide (s19.2<Int.ofNat p.zs.length)then cn (th (Psn.mk p.f p.r (List.take p.zs.length (List.drop 0 p.zs)) p.bl p.ca p.pa p.ha p.fu) s19.2) ([],0) fun(y20:List (List Int)×Int)=>dg (fP p s19 y20) (fun(s34:Bool)=>some (Sum.inr (Sum.inl s34))) 1000000 (s19.1,0)else some (Sum.inr (Sum.inl s19.1))
def lany(p:Psn):Option (Bool×Int):=let x56:=List.take p.zs.length (List.drop 0 p.zs);let x55:=x56.length;bp (decide (x55<=64)) (bif !(Psn.mk p.f p.r x56 p.bl p.ca p.pa p.ha p.fu).ok then some (false,2)else dg (lY p fP) (fun(s42:Bool)=>some (s42,0)) 1000000 (false,0))
def Dz(R:Bool×Int):V:=.tup [Bb R.1,.int .i64 R.2]
def Dr(_R:Bool×Int):List O:=[]
def xZ:CF
 |[.agg [.int .i64 p_0,.int .i64 p_1,.sl 0 0 p_2n none,.bool p_3,.int .u8 p_4,.int .i64 p_5,.int .i64 p_6,.int .i64 p_7]],[.ints false .i8 p_2]=>retC (decide (p_2n=p_2.length)) (lany ⟨p_0,p_1,p_2,p_3,p_4,p_5,p_6,p_7⟩) (false,0) Dz Dr
 |_,_=>none
theorem Fy(p:Psn){r}(hr:lany p=some r):aG (GGx true true) PP 27 [.agg [.int .i64 p.f,.int .i64 p.r,.sl 0 0 p.zs.length none,Bb p.bl,.int .u8 p.ca,.int .i64 p.pa,.int .i64 p.ha,.int .i64 p.fu]] [.ints false .i8 p.zs] (Dz r) (Dr r):=by
 have hE:=cutE (aC (kCa:=true) (kDb:=true) (cts:=[(33,dF),(57,rF),(58,qs)]) (inl:=[]) ⟨cm,pD,pB,trivial⟩ trivial)
 refine dA hE 2 Tryz.func27 rfl rfl Dz Dr hr ?_ rfl rfl
 refine dJ (pl (decide_eq_true (aS rfl)) id) ?_
 refine aI hE 2 rfl ?_ ?_
 ·exact aQ (aN [] (.inr rfl) rfl rfl rfl rfl rfl)
 refine eJ hE 2 (fun(s19:Bool×Int)=>([(1,V.ptr 1 0 0),(2,Bb false),(3,I 0),(4,Bb s19.1),(15,I (Int.ofNat p.zs.length)),(16,I s19.2)],[O.ints false i8 p.zs,O.cells true [I p.f,I p.r,V.sl 0 0 p.zs.length none,Bb p.bl,V.int u8 p.ca,I p.pa,I p.ha,I p.fu]])) (fun(s42:Bool)=>([(2,Bb false),(3,I 0),(4,Bb s42)],[O.ints false i8 p.zs])) (.exit 0) ((Ent.rn [0,1] [1,2,3,4,15,16] rfl rfl rfl rfl rfl)) (fun s19=>?_) (fun s42=>?_)
 ·refine aI hE 2 rfl ?_ ?_
  ·refine aR (pl (decide_eq_true (aS rfl)) id) ?_
   refine eJ hE 2 (let x61:=((th (Psn.mk p.f p.r (List.take p.zs.length (List.drop 0 p.zs)) p.bl p.ca p.pa p.ha p.fu) s19.2).getD ([],0)).fst;let x60:=x61.length;fun(s25:Bool×Int)=>([(1,V.ptr 1 0 0),(2,Bb false),(3,I 0),(4,Bb s25.1),(15,I (Int.ofNat p.zs.length)),(16,I s19.2),(25,V.sl 2 0 x60 none),(26,I (Int.ofNat x60)),(27,I s25.2)],[O.ints false i8 p.zs,O.cells true [I p.f,I p.r,V.sl 0 0 p.zs.length none,Bb p.bl,V.int u8 p.ca,I p.pa,I p.ha,I p.fu],O.rows true [i64,i64,i8] x61])) (fun(s34:Bool)=>([(1,V.ptr 1 0 0),(2,Bb false),(3,I 0),(4,Bb s34),(15,I (Int.ofNat p.zs.length)),(16,I s19.2)],[O.ints false i8 p.zs,O.cells true [I p.f,I p.r,V.sl 0 0 p.zs.length none,Bb p.bl,V.int u8 p.ca,I p.pa,I p.ha,I p.fu]])) (.exit 0) ((Ent.rn [0,1,2] [1,2,3,4,15,16,25,26,27] rfl rfl rfl rfl rfl)) (fun s25=>?_) (fun s34=>?_)
   ·refine aI hE 2 rfl ?_ ?_
    ·refine bZ ?_
     refine aR (pl (decide_eq_true (aS rfl)) id) ?_
     refine aI hE 2 rfl ?_ ?_
     ·exact dV ((Ent.rn [0,1] [1,2,3,4,15,16] rfl rfl rfl rfl rfl))
     exact eo ((Ent.rn [0,1,2] [1,2,3,4,15,16,25,26,27] rfl rfl rfl rfl rfl))
    refine tE (by simp) (mF ?_)
    exact eo ((Ent.rn [0,1] [1,2,3,4,15,16] rfl rfl rfl rfl rfl))
   exact dV ((Ent.rn [0] [2,3,4] rfl rfl rfl rfl rfl))
  exact dV ((Ent.rn [0] [2,3,4] rfl rfl rfl rfl rfl))
 exact aQ (aN [] (.inr rfl) rfl rfl rfl rfl rfl)
theorem tD:CtOk (GGx true true) PP (27,xZ):=by
 refine aD Tryz.func27 (by kernel_rfl) rfl fun a0 h0 c0 v0 N0 e hc=>?_
 unfold xZ at e
 split at e
 ·rename_i p_0 p_1 p_2n p_3 p_4 p_5 p_6 p_7 p_2
  obtain⟨hl,r,hr,rfl,rfl⟩:=bS e hc
  simp only[decide_eq_true_eq]at hl
  obtain rfl:=hl
  exact Fy ⟨p_0,p_1,p_2,p_3,p_4,p_5,p_6,p_7⟩ hr
 ·cases e
end
end Go.Ab
namespace Go.Ab
open Go.Proofs
section
theorem gq{β σ ξ α:Type}{step:σ×Int->Option (σ×Int ⊕ (ξ ⊕ α))}{F:ξ->Option α}(l:List β)(f:σ->β->σ)(out:σ->ξ)(inv:Nat->σ->Prop)
  (hs:∀ (j:Nat) (x:β) (s:σ),l[j]?=some x->inv j s->step (s,(j:Int))=some (.inl (f s x,((j+1:Nat):Int)))/\inv (j+1) (f s x))
  (he:∀ s,inv l.length s->step (s,(l.length:Int))=some (.inr (.inl (out s)))) :
  ∀ (k fuel j:Nat) (s:σ),j+k=l.length->k<fuel->inv j s->dg step F fuel (s,(j:Int))=F (out ((l.drop j).foldl f s))
 |k,0,j,s,_,h,_=>absurd h (by omega)
 |0,fuel+1,j,s,h,_,hi=>by
  have h0:j=l.length:=by omega
  subst h0
  rw[dn (he s hi),List.drop_length];rfl
 |k+1,fuel+1,j,s,h,hf,hi=>by
  have hj:j<l.length:=by omega
  obtain⟨h1,h2⟩:=hs j l[j] s (List.getElem?_eq_getElem hj) hi
  rw[bR h1,gq l f out inv hs he k fuel (j+1) _ (by omega) (by omega) h2,List.drop_eq_getElem_cons hj,List.foldl_cons]
theorem jl{β:Type}(q:β->Bool):∀ (l acc:List β),l.foldl (fun acc x=>bif q x then acc++[x]else acc) acc=acc++l.filter q
 |[],acc=>by simp
 |x::l,acc=>by
  rw[List.foldl_cons,jl q l,List.filter_cons]
  cases q x<;>simp
def mvR(r:List Int):Mov:=⟨r.getD 0 0,r.getD 1 0,r.getD 2 0⟩
section
variable{p:Psn}
def mY(p:Psn)(r:List Int):Prop:=∃ a b pr,r=[a,b,pr]/\canM p a b pr=true
def legF(p:Psn)(r:List Int):Bool:=!err4 p (mvR r)
theorem Jg{a:Int}{r:List Int}(h:r∈psL p a):∃ b pr,r=[a,b,pr]/\canM p a b pr=true:=by
 unfold psL qd at h
 simp only[List.mem_flatMap,List.mem_map,List.mem_filter]at h
 obtain⟨b,_,pr,⟨_,h2⟩,rfl⟩:=h
 exact⟨b,pr,rfl,h2⟩
theorem xF{a:Int}{r:List Int}(h:r∈psL p a):mY p r:=let ⟨b,pr,h1,h2⟩:=Jg h;⟨a,b,pr,h1,h2⟩
theorem Br{r:List Int}(h:r∈allL p):mY p r:=by
 unfold allL at h
 obtain⟨a,_,h⟩:=List.mem_flatMap.1 h
 exact xF h
theorem De{a b pr:Int}(h:canM p a b pr=true):mvB p.f p.r a b pr=true:=by
 cases hm:mvB p.f p.r a b pr with
 |true=>rfl
 |false=>rw[Lj hm]at h;cases h
theorem xY(o:PsH p){a b pr:Int}(h:canM p a b pr=true):keeps p ⟨a,b,pr⟩=some (legF p [a,b,pr]):=by
 have h1:decide (p.zs.length<=64)=true:=by simpa using o.hl
 unfold keeps
 simp only[List.drop_zero,List.take_length,bH,h1,aV]
 rw[Jc (m:=⟨a,b,pr⟩) o.ok (De h)]
 unfold legM legF mvR
 rw[h];rfl
theorem JM(o:PsH p){l:List (List Int)}(hl:l.length<=100000)(hr:∀ r∈l,mY p r):kept p l=some (l.filter (legF p)):=by
 unfold kept
 refine(gq (step:=qP p l) l (fun acc x=>bif legF p x then acc++[x]else acc) (fun s=>s) (fun j s=>s.length<=j) ?_ ?_ l.length 1000000 0 [] (by omega) (by omega) (by simp)).trans ?_
 rotate_left 2
 ·rw[List.drop_zero,jl,List.nil_append]
  have h1:decide (Int.ofNat (l.filter (legF p)).length<=Int.ofNat (l.filter (legF p)).length)=true:=by simp
  have h2:decide (0<=Int.ofNat (l.filter (legF p)).length)=true:=by simp
  have h3:decide ((Int.ofNat (l.filter (legF p)).length).toNat-Int.toNat 0=(l.filter (legF p)).length)=true:=by simp
  simp only[h1,h2,h3,Bool.and_self,aV]
 ·intro j x s hx hi
  obtain⟨a,b,pr,rfl,hc⟩:=hr x (List.mem_of_getElem? hx)
  have hj:=(List.getElem?_eq_some_iff.1 hx).1
  have e1:l.getD (j:Int).toNat []=[a,b,pr]:=by simp[List.getD,hx]
  have h1:decide ((j:Int)<Int.ofNat l.length)=true:=by simp;omega
  have h2:decide (0<=(j:Int))=true:=by simp
  have h3:decide ((s.length+1)*24<=140737488355328)=true:=by simp;omega
  have hk:=xY o hc
  refine⟨?_,?_⟩
  ·unfold qP
   simp only[List.drop_zero,List.take_length,bH,e1,h1,h2,h3,cond_true,Bool.and_self,aV]
   rw[show ([a,b,pr]:List Int).getD 0 0=a from rfl,show ([a,b,pr]:List Int).getD 1 0=b from rfl,show ([a,b,pr]:List Int).getD 2 0=pr from rfl,hk,aJ,Option.getD_some,show IntKind.i64.wrap ((j:Int)+1)=((j+1:Nat):Int)from ay (by omega) (by omega)]
   cases legF p [a,b,pr]<;>rfl
  ·cases legF p [a,b,pr]<;>simp<;>omega
 ·intro s _
  have h1:decide ((l.length:Int)<Int.ofNat l.length)=false:=by simp
  unfold qP
  simp only[h1,cond_false]
theorem Lm(o:PsH p){l:List (List Int)}(hl:l.length<=100000)(hr:∀ r∈l,mY p r){s:Bool×Int}(hs0:0<=s.2)(hs1:s.2<1000){e:Int}{F:Bool->Option (Bool×Int ⊕ Bool ⊕ Bool×Int)}:∀ (k fuel j:Nat),j+k=l.length->k<fuel ->
  dg (fP p s (l,e)) F fuel (false,(j:Int))=bif (l.drop j).any (legF p)then F true else some (.inl (false,s.2+1))
 |k,0,j,_,h=>absurd h (by omega)
 |0,fuel+1,j,h,_=>by
  have h1:decide ((j:Int)<Int.ofNat l.length)=false:=by simp;omega
  rw[iE (r:=.inl (false,s.2+1))]
  ·rw[List.drop_eq_nil_of_le (by omega)];rfl
  ·unfold fP
   simp only[h1,cond_false]
   rw[show IntKind.i64.wrap (s.2+1)=s.2+1 from ay (by omega) (by omega)];rfl
 |k+1,fuel+1,j,h,hf=>by
  have hj:j<l.length:=by omega
  obtain⟨a,b,pr,hx,hc⟩:=hr l[j] (List.getElem_mem hj)
  have e1:l.getD (j:Int).toNat []=[a,b,pr]:=by simp[List.getD,hj,hx]
  have h1:decide ((j:Int)<Int.ofNat l.length)=true:=by simp;omega
  have h2:decide (0<=(j:Int))=true:=by simp
  have hk:=xY o hc
  have hst:fP p s (l,e) (false,(j:Int))=bif legF p [a,b,pr]then some (.inr (.inl true))else some (.inl (false,((j+1:Nat):Int))):=by
   unfold fP
   simp only[List.drop_zero,List.take_length,bH,e1,h1,h2,cond_true,Bool.and_self,aV]
   rw[show ([a,b,pr]:List Int).getD 0 0=a from rfl,show ([a,b,pr]:List Int).getD 1 0=b from rfl,show ([a,b,pr]:List Int).getD 2 0=pr from rfl,hk,aJ,Option.getD_some,show IntKind.i64.wrap ((j:Int)+1)=((j+1:Nat):Int)from ay (by omega) (by omega)]
   cases legF p [a,b,pr]<;>rfl
  rw[List.drop_eq_getElem_cons hj,List.any_cons,hx]
  cases hq:legF p [a,b,pr] with
  |true=>rw[dn (x:=true) (by rw[hst,hq];rfl)];rfl
  |false=>rw[bR (s':=(false,((j+1:Nat):Int))) (by rw[hst,hq];rfl),Lm o hl hr hs0 hs1 k fuel (j+1) (by omega) (by omega)];rfl
theorem HY(o:PsH p){j:Nat}(hj:j<p.zs.length):lY p fP (false,(j:Int))=bif (psL p j).any (legF p)then some (.inr (.inl true))else some (.inl (false,((j+1:Nat):Int))):=by
 have hl:=o.hl
 have hpl:=jU (p:=p) (a:=(j:Int)) hl
 have h1:decide ((j:Int)<Int.ofNat p.zs.length)=true:=by simp;omega
 have hv:ak p.f p.r (j:Int)=true:=(cw o.bd).2 ⟨by omega,by omega⟩
 unfold lY
 simp only[List.drop_zero,List.take_length,bH,h1,cond_true,yc o hv]
 rw[aJ]
 have:=Lm o (l:=psL p j) (by omega) (fun r h=>xF h) (s:=(false,(j:Int))) (by simp) (by simp;omega) (e:=0) (F:=fun s34=>some (.inr (.inl s34))) (psL p j).length 1000000 0 (by omega) (by omega)
 rw[List.drop_zero]at this
 exact this
theorem HA(o:PsH p){F:Bool->Option (Bool×Int)}:∀ (k fuel j:Nat),j+k=p.zs.length->k<fuel ->
  dg (lY p fP) F fuel (false,(j:Int))=F ((List.range' j k).any fun x=>(psL p x).any (legF p))
 |k,0,j,_,h=>absurd h (by omega)
 |0,fuel+1,j,h,_=>by
  have h1:decide ((j:Int)<Int.ofNat p.zs.length)=false:=by simp;omega
  rw[dn (x:=false)]
  ·rfl
  ·unfold lY;simp only[h1,cond_false]
 |k+1,fuel+1,j,h,hf=>by
  have hl:=o.hl
  have hpl:=jU (p:=p) (a:=(j:Int)) hl
  have h1:decide ((j:Int)<Int.ofNat p.zs.length)=true:=by simp;omega
  have hv:ak p.f p.r (j:Int)=true:=(cw o.bd).2 ⟨by omega,by omega⟩
  have hst:=HY o (j:=j) (by omega)
  rw[List.range'_succ,List.any_cons]
  cases hq:(psL p j).any (legF p) with
  |true=>rw[dn (x:=true) (by rw[hst,hq];rfl)];rfl
  |false=>rw[bR (s':=(false,((j+1:Nat):Int))) (by rw[hst,hq];rfl),HA o k fuel (j+1) (by omega) (by omega)];rfl
theorem Bt(o:PsH p):lany p=some ((allL p).any (legF p),0):=by
 have hl:=o.hl
 have h1:decide (p.zs.length<=64)=true:=by simpa using hl
 unfold lany
 simp only[List.drop_zero,List.take_length,bH,h1,o.ok,aV,Bool.not_true,cond_false]
 have:=HA o (F:=fun s42=>some (s42,0)) p.zs.length 1000000 0 (by omega) (by omega)
 refine this.trans ?_
 unfold allL
 rw[List.any_flatMap,List.any_map,List.range_eq_range']
 rfl
end
end
section
def fR4(k1 k2 k3 k4:Bool):Int:=bif k4 then u8or (bif k3 then u8or (bif k2 then u8or (bif k1 then u8or 0 1 else 0) 2 else(bif k1 then u8or 0 1 else 0)) 4 else(bif k2 then u8or (bif k1 then u8or 0 1 else 0) 2 else(bif k1 then u8or 0 1 else 0))) 8 else(bif k3 then u8or (bif k2 then u8or (bif k1 then u8or 0 1 else 0) 2 else(bif k1 then u8or 0 1 else 0)) 4 else(bif k2 then u8or (bif k1 then u8or 0 1 else 0) 2 else(bif k1 then u8or 0 1 else 0)))
def gR1(ca bit:Int)(k:Bool):Int:=bif decide ((IntKind.u8.wrap (ca.tdiv bit)).tmod 2=1)&&k then IntKind.u8.wrap (ca-bit)else ca
theorem zi:∀ ca:_root_.Fin 16,∀ a1 a2 a3 a4 b1 b2 b3 b4:Bool,iO (ca.val:Int) (u8or (fR4 a1 a2 a3 a4) (fR4 b1 b2 b3 b4))=gR1 (gR1 (gR1 (gR1 (ca.val:Int) 1 (a1||b1)) 2 (a2||b2)) 4 (a3||b3)) 8 (a4||b4):=by decide +kernel
theorem BL{ca a b:Int}(h:0<=ca/\ca<=15):afC ca a b=caR ca a b:=by
 obtain⟨q1,q2,q3,q4,q5,q6,q7,q8⟩:=sqs
 obtain⟨p1,p2,p3,p4,p5,p6,p7,p8⟩:=sq01
 have hl:∀ at_,AU at_=fR4 (decide (4=at_)||decide (7=at_)) (decide (4=at_)||decide (0=at_)) (decide (60=at_)||decide (63=at_)) (decide (60=at_)||decide (56=at_)):=fun at_=>rfl
 have hs:∀ c bit k q,sqW bit 0=k->sqW bit 2=q->afS c a b bit=gR1 c bit ((decide (k=a)||decide (q=a))||(decide (k=b)||decide (q=b))):=by
  intro c bit k q h0 h2
  unfold afS gR1 hasL
  rw[h0,h2]
  unfold hasL hasL
  simp only[Bool.or_false]
 have:=zi ⟨ca.toNat,by omega⟩ (decide (4=a)||decide (7=a)) (decide (4=a)||decide (0=a)) (decide (60=a)||decide (63=a)) (decide (60=a)||decide (56=a)) (decide (4=b)||decide (7=b)) (decide (4=b)||decide (0=b)) (decide (60=b)||decide (63=b)) (decide (60=b)||decide (56=b))
 unfold afC caR
 rw[hl,hl,hs _ 1 4 7 p1 q1,hs _ 2 4 0 p3 q3,hs _ 4 60 63 p5 q5,hs _ 8 60 56 p7 q7]
 dsimp only at this
 rw[show ((ca.toNat:Nat):Int)=ca by omega]at this
 exact this.symm
section
variable{p:Psn}{m:Mov}
theorem MvOk.pas(o:MvOk p m):afPa p.f p.r p.zs m.a m.b=paR p.f p.zs m.a m.b:=by
 unfold afPa paR twoB
 rw[o.kd]
 cases hk:decide (be (p.zs.getD m.a.toNat 0)=1) with
 |false=>rfl
 |true=>
  obtain⟨a0,a1,a2,a3,a4,a5,a6⟩:=cV o.ha
  obtain⟨b0,b1,b2,b3,b4,b5,_⟩:=cV o.hb
  have hla:=aE o.ha
  have hlb:=aE o.hb
  have hfw:fwd p.bl=1\/fwd p.bl=-1:=by cases p.bl<;>simp[fwd]
  rw[pc_w o.hb o.ha,pc_w o.ha o.hb,a0,b0,ay (n:=m.b-m.a) (by omega) (by omega),ay (n:=2*p.f) (by omega) (by omega),ay (n:=-2*p.f) (by omega) (by omega)]
  simp only[Bool.true_and]
  have hdiff:m.b-m.a=(px p.f m.b-px p.f m.a)+(py p.f m.b*p.f-py p.f m.a*p.f):=by omega
  have one:∀ d:Int,(d=1\/d=-1)->py p.f m.b=py p.f m.a+d->(-1<=px p.f m.b-px p.f m.a/\px p.f m.b-px p.f m.a<=1)->(decide (py p.f m.a-py p.f m.b=2)||decide (py p.f m.b-py p.f m.a=2))=false/\(decide (m.b-m.a=2*p.f)||decide (m.b-m.a=-2*p.f))=false:=by
   intro d hd hy hx
   have:py p.f m.b*p.f=py p.f m.a*p.f+d*p.f:=by rw[hy,Int.add_mul]
   constructor
   ·rw[decide_eq_false (by omega),decide_eq_false (by omega)];rfl
   ·rcases hd with rfl|rfl<;>rw[decide_eq_false (by omega),decide_eq_false (by omega)]<;>rfl
  rcases(o.steps (of_decide_eq_true hk)).1 with h|h
  ·obtain⟨e1,h2⟩:=vQ o.ha o.hb h
   rcases h2 with e2|⟨e2,_,_,e5,_⟩
   ·obtain⟨g1,g2⟩:=one (fwd p.bl) hfw e2 (by omega)
    rw[g1,g2];rfl
   ·have hmul:py p.f m.b*p.f=py p.f m.a*p.f+2*(fwd p.bl*p.f):=by rw[e2,Int.add_mul,Int.mul_assoc]
    have hd2:m.b-m.a=2*(fwd p.bl*p.f):=by omega
    have g1:(decide (py p.f m.a-py p.f m.b=2)||decide (py p.f m.b-py p.f m.a=2))=true:=by
     rcases hfw with e|e
     ·rw[decide_eq_true (p:=py p.f m.b-py p.f m.a=2) (by omega),Bool.or_true]
     ·rw[decide_eq_true (p:=py p.f m.a-py p.f m.b=2) (by omega),Bool.true_or]
    have g2:(decide (m.b-m.a=2*p.f)||decide (m.b-m.a=-2*p.f))=true:=by
     rcases hfw with e|e<;>rw[e]at hd2
     ·rw[decide_eq_true (p:=m.b-m.a=2*p.f) (by omega),Bool.true_or]
     ·rw[decide_eq_true (p:=m.b-m.a=-2*p.f) (by omega),Bool.or_true]
    rw[g1,g2,cond_true,cond_true,hd2,Int.mul_tdiv_cancel_left _ (by decide)]
    have hr:m.b-fwd p.bl*p.f=m.a+fwd p.bl*p.f:=by omega
    have hlc:=aE e5
    rw[hr]at e5 hlc
    rw[ay (n:=fwd p.bl*p.f) (by omega) (by omega),ay (n:=m.a+fwd p.bl*p.f) (by omega) (by omega)]
    have hy:py p.f m.a+py p.f m.b=2*(py p.f m.a+fwd p.bl):=by omega
    rw[ay (n:=py p.f m.a+py p.f m.b) (by omega) (by omega),hy,Int.mul_tdiv_cancel_left _ (by decide),ay (n:=py p.f m.a+fwd p.bl) (by omega) (by omega)]
    obtain⟨_,c1,c2,c3,c4,c5,_⟩:=cV e5
    have hu:=mD (f:=p.f) (by omega) c1 c2 a1 a2 (show px p.f (m.a+fwd p.bl*p.f)+py p.f (m.a+fwd p.bl*p.f)*p.f=px p.f m.a+(py p.f m.a+fwd p.bl)*p.f by rw[c5,Int.add_mul];omega)
    have ho:onB p.f p.r (m.a.tmod p.f) (py p.f m.a+fwd p.bl)=true:=jm a1 a2 (by omega) (by omega)
    exact(hU (bz o.ha) ho e5).2 ⟨hu.1,hu.2⟩
  ·have hat:=h.1
   simp only[er,Bool.and_eq_true,Bool.or_eq_true,decide_eq_true_eq]at hat
   rw[pc_w o.ha o.hb]at hat
   have e1:m.a.tmod p.f=px p.f m.a:=rfl
   have e2:m.b.tmod p.f=px p.f m.b:=rfl
   rw[e1,e2,ay (n:=px p.f m.b-px p.f m.a) (by omega) (by omega),ay (n:=px p.f m.a-px p.f m.b) (by omega) (by omega)]at hat
   obtain⟨g1,g2⟩:=one (fwd p.bl) hfw (by omega) (by omega)
   rw[g1,g2];rfl
theorem MvOk.half(o:MvOk p m):afHa p.f p.r p.zs p.pa p.ha m.a m.b=haR p.f p.zs p.pa p.ha m.a m.b:=by
 unfold afHa haR
 rw[o.kd,o.cap.1]
 have:decide (0<=at2R p.f p.zs p.pa m.a m.b)=!decide (capR p.f p.zs p.pa m.a m.b=0):=by
  by_cases h:0<=at2R p.f p.zs p.pa m.a m.b
  ·rw[decide_eq_true h,decide_eq_false (o.cap.2.2.2 h)];rfl
  ·rw[decide_eq_false h,decide_eq_true (o.cap.2.2.1 (by omega)).2.1];rfl
 rw[this]
theorem MvOk.caB(o:MvOk p m):0<=p.ca/\p.ca<=15:=by
 have:=o.cast
 simp only[ee,Bool.and_eq_true,decide_eq_true_eq]at this
 exact⟨o.ca,by omega⟩
theorem MvOk.after(o:MvOk p m):afP p m=⟨p.f,p.r,zs3R p.f p.r p.zs p.bl p.ca p.pa m.a m.b m.p,!p.bl,caR p.ca m.a m.b,paR p.f p.zs m.a m.b,haR p.f p.zs p.pa p.ha m.a m.b,fuR p.bl p.fu⟩:=by
 unfold afP
 rw[o.af,o.pas,o.half,BL o.caB]
theorem mvok{p:Psn}{m:Mov}(hl:p.zs.length<=64)(hca:0<=p.ca)(h1:err1 p m=false)(h2:isP (p.zs.getD m.a.toNat 0) p.bl=true)(h3:err3 p m=false):MvOk p m:=by
 simp only[err1,Bool.or_eq_false_iff,Bool.not_eq_false']at h1
 obtain⟨hok,hmv⟩:=h1
 simp only[mvB,Bool.and_eq_true,Bool.or_eq_true,decide_eq_true_eq,Bool.not_eq_true',decide_eq_false_iff_not]at hmv
 obtain⟨⟨⟨ha,hb⟩,hab⟩,hpr⟩:=hmv
 have ho:aO p.f p.r p.zs=true:=by
  have hk:=hok
  simp only[Psn.ok,eC,Bool.and_eq_true,decide_eq_true_eq]at hk
  cases h:aO p.f p.r p.zs with
  |true=>rfl
  |false=>have:=hk.1.1.1.1.2.1.1;unfold bE at this;rw[h]at this;cases this
 exact⟨ho,hl,hok,hca,ha,hb,hab,hpr,h2,h3⟩
end
end
section
theorem ji{l:List Int}{j i:Nat}{v:Int}:(l.set j v).getD i 0=if i=j/\j<l.length then v else l.getD i 0:=by
 by_cases hj:j<l.length
 ·by_cases e:i=j
  ·subst e;simp[List.getD,hj]
  ·rw[if_neg (fun h=>e h.1)];simp[List.getD,List.getElem?_set_ne (Ne.symm e)]
 ·rw[if_neg (fun h=>hj h.2),List.set_eq_of_length_le (by omega)]
theorem LZ{p:Psn}{m:Mov}(hl:p.zs.length<=64)(hca:0<=p.ca)(h:mkE5 p m=0):MvOk p m/\err4 p m=false/\err5 p m=false:=by
 unfold mkE5 at h
 cases h1:err1 p m with
 |true=>rw[h1]at h;cases h
 |false=>
  rw[h1]at h
  cases h2:isP (p.zs.getD m.a.toNat 0) p.bl with
  |false=>rw[h2]at h;cases h
  |true=>
   rw[h2]at h
   cases h3:err3 p m with
   |true=>rw[h3]at h;cases h
   |false=>
    rw[h3]at h
    cases h4:err4 p m with
    |true=>rw[h4]at h;cases h
    |false=>
     rw[h4]at h
     cases h5:err5 p m with
     |true=>rw[h5]at h;cases h
     |false=>exact⟨mvok hl hca h1 h2 h3,rfl,rfl⟩
def pc(p:Psn)(m:Mov)(bl:Bool)(bit k to cor cro:Int):Prop:=p.bl=bl/\bQ p.ca bit≠0/\m.a=k/\m.b=to/\wCor (wayN p.zs p.bl p.ca m.a m.b)=cor/\wCro (wayN p.zs p.bl p.ca m.a m.b)=cro/\p.zs.getD cro.toNat 0=0/\p.zs.getD to.toNat 0=0
section
variable{p:Psn}{m:Mov}
theorem MvOk.cast4(o:MvOk p m)(hn:wayN p.zs p.bl p.ca m.a m.b≠4):p.f=8/\p.r=8/\p.zs.length=64/\be (p.zs.getD m.a.toNat 0)=6/\m.p=0/\cstR p.f p.r p.zs p.bl p.ca p.pa m.a m.b m.p=true /\
  (pc p m false 1 4 6 7 5\/pc p m false 2 4 2 0 3\/pc p m true 4 60 62 63 61\/pc p m true 8 60 58 56 59):=by
 obtain⟨hk,hp0,hg⟩:=o.wayg hn
 obtain⟨h88,h64,_⟩:=mL (a:=m.a) (b:=m.b) (bl:=p.bl) o.bd o.cast hn
 simp only[is88,Bool.and_eq_true,decide_eq_true_eq]at h88
 have hw:wayB p.f p.r p.zs (wayN p.zs p.bl p.ca m.a m.b)=true:=by
  have:=o.so
  simp only[err3,hg,Bool.not_false,Bool.true_and,Bool.or_eq_false_iff,Bool.not_eq_false']at this
  exact this.2.1
 refine⟨h88.1,h88.2,h64,hk,hp0,by unfold cstR;rw[hw,hg];rfl,?_⟩
 have hbd:=o.bd
 rw[h88.1,h88.2]at hw hbd
 have key:∀ {n:Nat} {l:List Int},wayN p.zs p.bl p.ca m.a m.b=n->ak 8 8 (kV n)=true->ak 8 8 (wCor n)=true->(bq 8 (kV n) (wCor n)).2.2=true->cF 8 8 (kV n) (wCor n)=l->gY p.zs l=true:=by
  rintro n l hn v1 v2 v3 rfl
  rw[hn]at hw
  simp only[wayB,Bool.and_eq_true]at hw
  rw[empty_eq hbd o.hl v1 v2 v3]
  exact hw.2
 unfold pc
 obtain⟨_,hsq⟩:=Bc hn
 rcases hsq with⟨hn,e1,e2,e3,e4⟩|⟨hn,e1,e2,e3,e4⟩|⟨hn,e1,e2,e3,e4⟩|⟨hn,e1,e2,e3,e4⟩
 ·have k1:=key (l:=[5,6]) hn (by decide) (by decide) (by decide) (by kernel_rfl)
  simp only[gY,List.all_cons,List.all_nil,Bool.and_true,Bool.and_eq_true,decide_eq_true_eq]at k1
  exact .inl ⟨e1,e2,e3,e4,by rw[hn];rfl,by rw[hn];rfl,k1.1,k1.2⟩
 ·have k1:=key (l:=[3,2,1]) hn (by decide) (by decide) (by decide) (by kernel_rfl)
  simp only[gY,List.all_cons,List.all_nil,Bool.and_true,Bool.and_eq_true,decide_eq_true_eq]at k1
  exact .inr (.inl ⟨e1,e2,e3,e4,by rw[hn];rfl,by rw[hn];rfl,k1.1,k1.2.1⟩)
 ·have k1:=key (l:=[61,62]) hn (by decide) (by decide) (by decide) (by kernel_rfl)
  simp only[gY,List.all_cons,List.all_nil,Bool.and_true,Bool.and_eq_true,decide_eq_true_eq]at k1
  exact .inr (.inr (.inl ⟨e1,e2,e3,e4,by rw[hn];rfl,by rw[hn];rfl,k1.1,k1.2⟩))
 ·have k1:=key (l:=[59,58,57]) hn (by decide) (by decide) (by decide) (by kernel_rfl)
  simp only[gY,List.all_cons,List.all_nil,Bool.and_true,Bool.and_eq_true,decide_eq_true_eq]at k1
  exact .inr (.inr (.inr ⟨e1,e2,e3,e4,by rw[hn];rfl,by rw[hn];rfl,k1.1,k1.2.1⟩))
theorem MvOk.at_cast(o:MvOk p m)(hk:be (p.zs.getD m.a.toNat 0)=6)(hb:p.zs.getD m.b.toNat 0=0):at2R p.f p.zs p.pa m.a m.b=-1:=by
 have he:epB p.zs p.pa m.a m.b=false:=by unfold epB;rw[o.kd,hk];rfl
 unfold at2R capR at1R
 rw[he,cond_false,hb];rfl
end
theorem mk_p{p:Psn}{m:Mov}(h:mkE5 p m=0):mkP p m=⟨p.f,p.r,zs3R p.f p.r p.zs p.bl p.ca p.pa m.a m.b m.p,!p.bl,caR p.ca m.a m.b,paR p.f p.zs m.a m.b,haR p.f p.zs p.pa p.ha m.a m.b,fuR p.bl p.fu⟩/\mkU p m=⟨m,capR p.f p.zs p.pa m.a m.b,at2R p.f p.zs p.pa m.a m.b,p.ca,p.pa,p.ha,p.fu⟩:=by
 constructor
 ·unfold mkP;rw[decide_eq_true h];rfl
 ·unfold mkU;rw[decide_eq_true h];rfl
end
def afM(r:List Int):Mov:=⟨r.getD 0 0,r.getD 1 0,r.getD 2 0⟩
def cJ(p:Psn)(l:List (List Int)):List (Mov×Psn):=l.filterMap fun r=>bif decide (mkE5 p (afM r)=0)then some (afM r,mkP p (afM r))else none
def vh(x:Mov×Psn):List V:=[.agg [I x.1.a,I x.1.b,.int .i8 x.1.p],.agg [I x.2.f,I x.2.r,.sl 0 0 x.2.zs.length none,Bb x.2.bl,.int .u8 x.2.ca,I x.2.pa,I x.2.ha,I x.2.fu]]
def afNs(x:Mov×Psn):List O:=[.ints true .i8 x.2.zs]
def afHc(p:Psn):List O:=[.cells false [I p.f,I p.r,.sl 2 0 p.zs.length none,Bb p.bl,.int .u8 p.ca,I p.pa,I p.ha,I p.fu],.ints false .i8 p.zs]
theorem DR{p:Psn}:∀ {l:List (List Int)} {j:Nat} (hj:j<l.length),mkE5 p (afM l[j])=0->(cJ p l)[(cJ p (l.take j)).length]?=some (afM l[j],mkP p (afM l[j]))/\(cJ p (l.take (j+1))).length=(cJ p (l.take j)).length+1:=by
 intro l j hj he
 have h1:l.take (j+1)=l.take j++[l[j]]:=by rw[List.take_succ_eq_append_getElem hj]
 have h2:l=l.take j++l[j]::l.drop (j+1):=by rw[List.getElem_cons_drop,List.take_append_drop]
 have h3:cJ p [l[j]]=[(afM l[j],mkP p (afM l[j]))]:=by simp[cJ,he]
 refine⟨?_,?_⟩
 ·have h4:cJ p l=cJ p (l.take j)++(afM l[j],mkP p (afM l[j]))::cJ p (l.drop (j+1)):=by
   have h5:cJ p l=cJ p (l.take j++l[j]::l.drop (j+1)):=by rw[<-h2]
   rw[h5]
   unfold cJ
   rw[List.filterMap_append,List.filterMap_cons,he]
   rfl
  rw[h4,List.getElem?_append_right (Nat.le_refl _)];simp
 ·rw[h1]
  unfold cJ at h3 ⊢
  rw[List.filterMap_append,h3];simp
theorem BX{p:Psn}:∀ {l:List (List Int)} {j:Nat} (hj:j<l.length),mkE5 p (afM l[j])≠0->(cJ p (l.take (j+1))).length=(cJ p (l.take j)).length:=by
 intro l j hj he
 have h1:l.take (j+1)=l.take j++[l[j]]:=by rw[List.take_succ_eq_append_getElem hj]
 rw[h1]
 unfold cJ
 rw[List.filterMap_append]
 simp[he]
theorem FZ(p:Psn){l:List (List Int)}{e:Int}(hp:kM p=some (l,e))(hl:p.zs.length<=64)(hn:l.length<=100000):SqH (GGx true true) PP 61 (afHc p) [.ptr 1 0 0] [.rows true [.i64,.i64,.i8] l] ((cJ p l).map fun x=>(vh x,afNs x)):=by
 have hE:=aC (kCa:=true) (kDb:=true) (cts:=[(62,rU),(63,yS)]) (inl:=[]) ⟨wg,ud,trivial⟩ trivial
 refine AX hE Tryz.func61 rfl rfl rfl rfl rfl fun nn l0 S0 ρc J ok=>?_
 refine YH.seq (YH.seg hE 2 ?_)
 have e1:(⟨p.f,p.r,List.take p.zs.length (List.drop 0 p.zs),p.bl,p.ca,p.pa,p.ha,p.fu⟩:Psn)=p:=by rw[List.drop_zero,List.take_length]
 refine ag (by rw[e1,hp,List.drop_zero,List.take_length];simp) ?_
 refine ae ?_
 rw[e1,hp]
 refine YH.seq (YH.seg hE 2 ?_)
 repeat (first|refine ah ?_|refine ag (by first|rfl|(simp;done)|(simp;omega)) ?_)
 refine ae ?_
 refine YH.block (YH.loop (fun a:Nat×Nat×Bool=>((some a.2.1,a.2.2),[(0,.yl 0),(1,.ptr 1 0 0),(15,.sl 3 0 l.length none),(16,I l.length),(17,I a.1)],
   [.gone,.cells false [I p.f,I p.r,.sl 2 0 p.zs.length none,Bb p.bl,.int .u8 p.ca,I p.pa,I p.ha,I p.fu],.ints false .i8 p.zs,match a.2.2 with|true=>.rows false [.i64,.i64,.i8] l|false=>.rows true [.i64,.i64,.i8] l]))
  (fun a=>a.1<=l.length/\a.2.1=(cJ p (l.take a.1)).length) (fun a=>l.length-a.1) (0,0,false) rfl (Ent.ren [0,1,2,3] [0,1,15,16,17] rfl rfl rfl) ⟨Nat.zero_le _,rfl⟩ ?_)
 rintro⟨j,i,hd⟩ ⟨i1,i2⟩
 dsimp only at i1 i2 ⊢
 have hrow:∀ (x:Bool),(match x with|true=>O.rows false [.i64,.i64,.i8] l|false=>.rows true [.i64,.i64,.i8] l)=O.rows (!x) [.i64,.i64,.i8] l:=by intro x;cases x<;>rfl
 cases hd with
 |false=>
  refine YH.seq (YH.seg hE 2 ?_)
  repeat (first|refine ah ?_|refine sat_nd ?_)
  refine ae ?_
  refine YH.seq (YH.seg hE 2 ?_)
  refine ax (fun h1=>ae ?_) (fun h1=>ae ?_)
  ·have hj:j<l.length:=by have h1:=of_decide_eq_true h1;omega
   have hw:IntKind.i64.wrap ((j:Int)+1)=((j+1:Nat):Int):=ay (by omega) (by omega)
   have hx:l.getD (j:Int).toNat []=l[j]:=by simp[List.getD,hj]
   refine YH.seq (YH.block (YH.seq (YH.seg hE 2 ?_)))
   repeat (first|refine ah ?_|refine sat_nd ?_)
   refine ae ?_
   refine YH.seq (YH.seg hE 2 ?_)
   refine ag (by rw[List.drop_zero,List.take_length];simpa using hl) ?_
   repeat (first|refine ah ?_|refine sat_nd ?_)
   refine ae ?_
   rw[e1]
   refine YH.seq (YH.yregAt ok 2 6 rfl rfl rfl ?_)
   repeat (first|refine ah ?_|refine sat_nd ?_)
   refine ae ?_
   have hmv:(⟨(l.getD (j:Int).toNat []).getD 0 0,(l.getD (j:Int).toNat []).getD 1 0,(l.getD (j:Int).toNat []).getD 2 0⟩:Mov)=afM l[j]:=by rw[hx];rfl
   refine And.intro (fun hg=>?_) (fun hg=>?_)
   ·repeat (first|refine ah ?_|refine sat_nd ?_)
    refine ae ?_
    have he:mkE5 p (afM l[j])=0:=by rw[<-hmv];exact of_decide_eq_true hg
    obtain⟨n1,n2⟩:=DR hj he
    refine⟨i,vh (afM l[j],mkP p (afM l[j])),afNs (afM l[j],mkP p (afM l[j])),[0,1,15,16,17,30],[3,5],_,rfl,by rw[List.getElem?_map,i2,n1];rfl,rfl,rfl,by rw[<-hmv];rfl,by rw[<-hmv];rfl,rfl,rfl,rfl,rfl,fun b=>?_⟩
    cases b with
    |true=>
     repeat (first|refine ah ?_|refine sat_nd ?_)
     refine ae ?_
     refine YH.seg hE 2 ?_
     repeat (first|refine ah ?_|refine sat_nd ?_)
     refine ae ?_
     refine YH.seg hE 2 ?_
     repeat (first|refine ah ?_|refine sat_nd ?_)
     refine ae ⟨(j+1,i+1,true),⟨hj,by dsimp only;omega⟩,by dsimp only;omega,rfl,?_⟩
     dsimp only
     rw[hw]
     exact Ent.ren [0,1,2,3] [0,1,15,16,17] rfl rfl rfl
    |false=>
     repeat (first|refine ah ?_|refine sat_nd ?_)
     refine ae ?_
     refine YH.seg hE 2 ?_
     repeat (first|refine ah ?_|refine sat_nd ?_)
     exact ae ⟨.inr rfl,.inr rfl⟩
   ·repeat (first|refine ah ?_|refine sat_nd ?_)
    refine ae ?_
    have he:mkE5 p (afM l[j])≠0:=by rw[<-hmv];exact of_decide_eq_false hg
    refine YH.seg hE 2 ?_
    repeat (first|refine ah ?_|refine sat_nd ?_)
    refine ae ?_
    refine YH.seg hE 2 ?_
    repeat (first|refine ah ?_|refine sat_nd ?_)
    refine ae ⟨(j+1,i,false),⟨hj,by dsimp only;rw[BX hj he];exact i2⟩,by dsimp only;omega,rfl,?_⟩
    dsimp only
    rw[hw]
    exact Ent.ren [0,1,2,3] [0,1,15,16,17] rfl rfl rfl
  ·have hj:j=l.length:=by have h1:=of_decide_eq_false h1;omega
   refine⟨.inl rfl,.inl ?_⟩
   dsimp only
   rw[i2,hj,List.take_length,List.length_map]
 |true=>
  refine YH.seq (YH.seg hE 2 ?_)
  repeat (first|refine ah ?_|refine sat_nd ?_)
  refine ae ?_
  refine YH.seq (YH.seg hE 2 ?_)
  refine ax (fun h1=>ae ?_) (fun h1=>ae ?_)
  ·have hj:j<l.length:=by have h1:=of_decide_eq_true h1;omega
   have hw:IntKind.i64.wrap ((j:Int)+1)=((j+1:Nat):Int):=ay (by omega) (by omega)
   have hx:l.getD (j:Int).toNat []=l[j]:=by simp[List.getD,hj]
   refine YH.seq (YH.block (YH.seq (YH.seg hE 2 ?_)))
   repeat (first|refine ah ?_|refine sat_nd ?_)
   refine ae ?_
   refine YH.seq (YH.seg hE 2 ?_)
   refine ag (by rw[List.drop_zero,List.take_length];simpa using hl) ?_
   repeat (first|refine ah ?_|refine sat_nd ?_)
   refine ae ?_
   rw[e1]
   refine YH.seq (YH.yregAt ok 2 6 rfl rfl rfl ?_)
   repeat (first|refine ah ?_|refine sat_nd ?_)
   refine ae ?_
   have hmv:(⟨(l.getD (j:Int).toNat []).getD 0 0,(l.getD (j:Int).toNat []).getD 1 0,(l.getD (j:Int).toNat []).getD 2 0⟩:Mov)=afM l[j]:=by rw[hx];rfl
   refine And.intro (fun hg=>?_) (fun hg=>?_)
   ·repeat (first|refine ah ?_|refine sat_nd ?_)
    refine ae ?_
    have he:mkE5 p (afM l[j])=0:=by rw[<-hmv];exact of_decide_eq_true hg
    obtain⟨n1,n2⟩:=DR hj he
    refine⟨i,vh (afM l[j],mkP p (afM l[j])),afNs (afM l[j],mkP p (afM l[j])),[0,1,15,16,17,30],[5],_,rfl,by rw[List.getElem?_map,i2,n1];rfl,rfl,rfl,by rw[<-hmv];rfl,by rw[<-hmv];rfl,rfl,rfl,rfl,rfl,fun b=>?_⟩
    cases b with
    |true=>
     repeat (first|refine ah ?_|refine sat_nd ?_)
     refine ae ?_
     refine YH.seg hE 2 ?_
     repeat (first|refine ah ?_|refine sat_nd ?_)
     refine ae ?_
     refine YH.seg hE 2 ?_
     repeat (first|refine ah ?_|refine sat_nd ?_)
     refine ae ⟨(j+1,i+1,true),⟨hj,by dsimp only;omega⟩,by dsimp only;omega,rfl,?_⟩
     dsimp only
     rw[hw]
     exact Ent.ren [0,1,2,3] [0,1,15,16,17] rfl rfl rfl
    |false=>
     repeat (first|refine ah ?_|refine sat_nd ?_)
     refine ae ?_
     refine YH.seg hE 2 ?_
     repeat (first|refine ah ?_|refine sat_nd ?_)
     exact ae ⟨.inr rfl,.inr rfl⟩
   ·repeat (first|refine ah ?_|refine sat_nd ?_)
    refine ae ?_
    have he:mkE5 p (afM l[j])≠0:=by rw[<-hmv];exact of_decide_eq_false hg
    refine YH.seg hE 2 ?_
    repeat (first|refine ah ?_|refine sat_nd ?_)
    refine ae ?_
    refine YH.seg hE 2 ?_
    repeat (first|refine ah ?_|refine sat_nd ?_)
    refine ae ⟨(j+1,i,true),⟨hj,by dsimp only;rw[BX hj he];exact i2⟩,by dsimp only;omega,rfl,?_⟩
    dsimp only
    rw[hw]
    exact Ent.ren [0,1,2,3] [0,1,15,16,17] rfl rfl rfl
  ·have hj:j=l.length:=by have h1:=of_decide_eq_false h1;omega
   refine⟨.inl rfl,.inl ?_⟩
   dsimp only
   rw[i2,hj,List.take_length,List.length_map]
def afL(p:Psn):List (List Int):=((kM p).getD ([],0)).1
def afLs(p:Psn):List (Mov×Psn):=cJ p (afL p)
def Bi(p:Psn):O:=.rows true [.i64,.i64,.i8] (afL p)
abbrev EH:List V:=[.ptr 1 0 0]
def afOk(p:Psn):Bool:=(kM p).isSome&&decide (p.zs.length<=64)&&decide ((afL p).length<=100000)
theorem Dy(p:Psn)(h:afOk p=true):SqH (GGx true true) PP 61 (afHc p) EH [Bi p] ((afLs p).map fun x=>(vh x,afNs x)):=by
 unfold afOk at h
 simp only[Bool.and_eq_true,decide_eq_true_eq]at h
 obtain⟨⟨h1,h2⟩,h3⟩:=h
 cases hp:kM p with
 |none=>rw[hp]at h1;cases h1
 |some r=>
  obtain⟨l,e⟩:=r
  have hl:afL p=l:=by unfold afL;rw[hp];rfl
  have:=FZ p hp h2 (by rw[<-hl];exact h3)
  unfold Bi afLs
  rw[hl]
  exact this
section
variable{kCa kDb:Bool}
end
section
variable{p:Psn}
theorem LI(o:PsH p){a b pr:Int}(hc:canM p a b pr=true):mkE5 p ⟨a,b,pr⟩=bif err4 p ⟨a,b,pr⟩then 90 else bif err5 p ⟨a,b,pr⟩then 7 else 0:=by
 have hmv:=De hc
 have h1:err1 p ⟨a,b,pr⟩=false:=by unfold err1;rw[o.ok,hmv];rfl
 have k:=qX (m:=⟨a,b,pr⟩) o hc
 have hp:isP (p.zs.getD a.toNat 0) p.bl=true:=k.hp
 unfold mkE5
 rw[h1,k.so]
 dsimp only
 rw[hp]
 rfl
def okR(p:Psn)(r:List Int):Bool:=legF p r&&!err5 p (mvR r)
theorem Hx(o:PsH p){r:List Int}(hr:mY p r):decide (mkE5 p (afM r)=0)=okR p r:=by
 obtain⟨a,b,pr,rfl,hc⟩:=hr
 have:=LI o hc
 unfold okR legF
 show decide (mkE5 p ⟨a,b,pr⟩=0)=(!err4 p ⟨a,b,pr⟩&&!err5 p ⟨a,b,pr⟩)
 rw[this]
 cases err4 p ⟨a,b,pr⟩<;>cases err5 p ⟨a,b,pr⟩<;>rfl
theorem Ll(o:PsH p){a b pr:Int}(hc:canM p a b pr=true)(he:mkE5 p ⟨a,b,pr⟩=0):afP p ⟨a,b,pr⟩=mkP p ⟨a,b,pr⟩:=by
 have k:=qX (m:=⟨a,b,pr⟩) o hc
 rw[k.after]
 unfold mkP
 rw[he];rfl
theorem sN(o:PsH p):∀ l:List (List Int),(∀ r∈l,mY p r)->cJ p l=(l.filter (okR p)).map fun r=>(afM r,mkP p (afM r))
 |[],_=>rfl
 |r::l,h=>by
  have ih:=sN o l fun x hx=>h x (by simp[hx])
  have he:=Hx o (h r (by simp))
  unfold cJ at ih ⊢
  rw[List.filterMap_cons,he,ih,List.filter_cons]
  cases okR p r<;>rfl
def qI(p:Psn):List (List Int):=(allL p).filter (okR p)
theorem vZ(o:PsH p):afLs p=(qI p).map fun r=>(afM r,mkP p (afM r)):=by
 unfold afLs afL
 rw[uq o]
 exact sN o (allL p) fun r h=>Br h
theorem vc(o:PsH p):afOk p=true:=by
 have h1:decide (p.zs.length<=64)=true:=by simpa using o.hl
 unfold afOk afL
 rw[uq o,h1]
 have:=xL o
 simpa using this
theorem KX(o:PsH p){a b pr:Int}(hc:canM p a b pr=true)(he:mkE5 p ⟨a,b,pr⟩=0):(mkP p ⟨a,b,pr⟩).zs.length=p.zs.length:=by
 rw[<-Ll o hc he]
 exact JU
end
section
variable{p:Psn}
theorem IZ{r:List Int}(o:PsH p)(h:mY p r):ak p.f p.r (r.getD 1 0)=true/\0<=r.getD 1 0/\r.getD 1 0<64:=by
 obtain⟨a,b,pr,rfl,hc⟩:=h
 have k:=qX (m:=⟨a,b,pr⟩) o hc
 have hb:ak p.f p.r b=true:=k.hb
 have:=(cw o.bd).1 hb
 have hl:=o.hl
 exact⟨hb,this.1,by show b<64;omega⟩
theorem Jj{b:Int}(hv:ak p.f p.r b=true)(h0:0<=b):sqOf ⟨p.f,p.r⟩ [b]=some (uor 0 (ushl 1 b),0):=by
 unfold sqOf
 rw[show vsB p.f p.r=true from bz hv]
 refine(gq (step:=rz ⟨p.f,p.r⟩ [b]) [b] (fun s x=>uor s (ushl 1 x)) (fun s=>s) (fun _ _=>True) ?_ ?_ 1 1000000 0 0 (by simp) (by omega) trivial).trans ?_
 ·intro j x s hx _
  have hj:j=0:=by have:=(List.getElem?_eq_some_iff.1 hx).1;simpa using this
  subst hj
  have hx:b=x:=by simpa using hx
  subst hx
  refine⟨?_,trivial⟩
  have h1:decide (((0:Nat):Int)<Int.ofNat [b].length)=true:=by simp
  have h2:decide (0<=((0:Nat):Int))=true:=by simp
  have h3:decide (0<=b)=true:=by simpa using h0
  unfold rz
  simp only[h1,h2,Bool.and_self,cond_true,aV]
  rw[show ([b]:List Int).getD ((0:Nat):Int).toNat 0=b from rfl,hv,h3]
  rfl
 ·intro s _
  have h1:decide ((([b]:List Int).length:Int)<Int.ofNat [b].length)=false:=by simp
  unfold rz
  simp only[h1,cond_false]
 ·rfl
def tgF(s:Int)(r:List Int):Int:=uor s (uor 0 (ushl 1 (r.getD 1 0)))
theorem HM(o:PsH p):∀ (l:List (List Int)) (s:Int),(∀ r∈l,mY p r)->Uk s->Uk (l.foldl tgF s)/\∀ m:Nat,bt (l.foldl tgF s) m=(bt s m||decide ((m:Int)∈l.map (·.getD 1 0)))
 |[],s,_,hs=>⟨hs,fun m=>by simp⟩
 |r::l,s,hl,hs=>by
  have hb:=IZ o (hl r (by simp))
  have hu:Uk (uor 0 (ushl 1 (r.getD 1 0))):=fY _ _
  obtain⟨h1,h2⟩:=HM o l (tgF s r) (fun x hx=>hl x (by simp[hx])) (fY _ _)
  refine⟨h1,fun m=>?_⟩
  rw[List.foldl_cons,h2]
  unfold tgF
  rw[eO hs hu,eO uk_0 (hO _ _),bt_0,Bool.false_or,hH hb.2.1 hb.2.2,List.map_cons]
  by_cases e:(m:Int)=r.getD 1 0
  ·rw[decide_eq_true e.symm,decide_eq_true (show (m:Int)∈r.getD 1 0::l.map (·.getD 1 0) by rw[e];simp)];simp
  ·rw[decide_eq_false (Ne.symm e),Bool.or_false]
   congr 1
   rw[decide_eq_decide,List.mem_cons]
   exact⟨.inr,fun h=>h.resolve_left e⟩
theorem wq{a:Int}{r:List Int}(h:r∈(psL p a).filter (legF p)):mY p r:=xF (List.mem_filter.1 h).1
theorem Kx(o:PsH p){l:List (List Int)}(hlen:l.length<=100000)(hl:∀ r∈l,mY p r){F:Int->Option (Int×Int)}:dg (eI p l) F 1000000 (0,0)=F (l.foldl tgF 0):=by
 refine(gq (step:=eI p l) l tgF (fun s=>s) (fun _ _=>True) ?_ ?_ l.length 1000000 0 0 (by omega) (by omega) trivial).trans ?_
 ·intro j x s hx _
  have hj:=(List.getElem?_eq_some_iff.1 hx).1
  have hb:=IZ o (hl x (List.mem_of_getElem? hx))
  have e1:l.getD (j:Int).toNat []=x:=by simp[List.getD,hx]
  have h1:decide ((j:Int)<Int.ofNat l.length)=true:=by simp;omega
  have h2:decide (0<=(j:Int))=true:=by simp
  refine⟨?_,trivial⟩
  unfold eI
  simp only[e1,h1,h2,Bool.and_self,cond_true,aV]
  rw[show List.take 1 (List.drop 0 (iL [x.getD 1 0]))=[x.getD 1 0]from rfl,Jj hb.1 hb.2.1,aJ,Option.getD_some,show IntKind.i64.wrap ((j:Int)+1)=((j+1:Nat):Int)from ay (by omega) (by omega)]
  rfl
 ·intro s _
  have h1:decide ((l.length:Int)<Int.ofNat l.length)=false:=by simp
  unfold eI
  simp only[h1,cond_false]
 ·rw[List.drop_zero]
theorem vw(o:PsH p){a:Int}(ha:ak p.f p.r a=true):dG p a=some (((psL p a).filter (legF p)).foldl tgF 0,0):=by
 have hpl:=jU (p:=p) (a:=a) o.hl
 have hf:((psL p a).filter (legF p)).length<=100000:=Nat.le_trans (List.length_filter_le _ _) (by omega)
 unfold dG
 simp only[List.drop_zero,List.take_length,bH,yc o ha]
 rw[aJ]
 simp only[decide_true,Bool.not_true,cond_false]
 rw[JM o (by omega) fun r h=>xF h,aJ]
 exact Kx o hf fun r h=>wq h
end
section
variable{kCa kDb:Bool}
theorem Im(x:Int)(y:Bool)(w:World)(b:Bool):(Instr.checkKey b 10000 102 (.agg #[.int .i64 x,.bool y])).run PP w=.ok () w:=by
 kernel_rfl
theorem qS:PP.underlying 99=some (.map 102 9):=by kernel_rfl
theorem jJ:(match PP.underlying 102 with|some (.array _ _)|some (.struct _)=>true|_=>false)=true:=by kernel_rfl
theorem gP{x:Int}{b:Bool}{uk:Value}(h:∀ ρ,VR ρ (.agg [I x,.bool b]) uk):uk=.agg #[.int .i64 x,.bool b]:=by
 obtain⟨p,q,rfl,h1,h2⟩:=agg2 h
 have h1:p=.int .i64 x:=h1
 have h2:q=.bool b:=h2
 rw[h1,h2]
theorem gC{x:Int}{b:Bool}{uk:Value}(h:∀ ρ,VR ρ (.agg [I x,.bool b]) uk):Af PP 99 102 uk:=by
 rw[gP h]
 exact⟨⟨_,qS⟩,fun w c=>Im x b w c⟩
def txE:Mp:=[(.agg [I 0,.lit false],.str [42]),(.agg [I (-1),.lit true],.str [48,45,49]),(.agg [I 0,.lit true],.str [49,47,50,45,49,47,50]),(.agg [I 1,.lit true],.str [49,45,48])]
theorem sO:Gn (GGx kCa kDb) PP 56 txE:=by
 have hE:=aC (kCa:=kCa) (kDb:=kDb) (cts:=[]) (inl:=[]) trivial trivial
 refine LH hE (fn:=Tryz.f56) Tryz.func56 rfl fun n B S w0 ρ0=>?_
 refine YM.seq (YM.seg hE 2 ?_)
 refine ae ?_
 refine YM.seq (YM.region ?_)
 refine YO.make rfl rfl rfl rfl rfl rfl ?_
 refine YO.seg hE 2 [_] [_,_,_] rfl ?_
 refine ae ?_
 refine YO.insert (kt:=102) (K:=.agg [I 0,.lit false]) (X:=.str [42]) (.inl rfl) rfl rfl rfl rfl rfl rfl (fun uk hk=>⟨gC (b:=false) (x:=0) hk,fun l hl w=>?_⟩) ?_
 ·exact eM hE.ok jJ hk (by decide) hl [] rfl w
 refine YO.seg hE 2 [_,_] [] rfl ?_
 refine ae ?_
 refine YO.nil ?_
 refine YM.seq (YM.seq (YM.seg hE 2 ?_))
 repeat (first|refine ah ?_|refine ag (by first|rfl|(simp;done)) ?_)
 refine ae ?_
 refine YM.block (YM.loop (fun i:Nat=>(some (0,txE.take (i+1)),[(1,.yl 0),(7,.sl 1 0 3 none),(8,I 3),(9,I i)],[.gone,.vals true 1 [[.str [48,45,49]],[.str [49,47,50,45,49,47,50]],[.str [49,45,48]]]]))
  (fun i=>i<=3) (fun i=>3-i) 0 rfl ?_ (Nat.zero_le _) ?_)
 ·exact Ent.ren [0,1] [1,7,8,9] rfl rfl rfl
 intro i hi
 match i,hi with
 |0,_=>
  refine YM.seq (YM.seg hE 2 ?_)
  refine ae ?_
  refine YM.seq (YM.seg hE 2 ?_)
  refine ax (fun _=>ae ?_) (fun h=>absurd h (by decide))
  refine YM.seq (YM.block (YM.seq (YM.seg hE 2 ?_)))
  repeat (first|refine ah ?_|refine ag (by first|rfl|(simp;done)) ?_)
  refine ae ?_
  refine YM.region ?_
  refine YO.seg hE 2 [_,_,_,_,_] [_] rfl ?_
  refine ae ?_
  refine YO.insert (kt:=102) (K:=.agg [I (-1),.lit true]) (X:=.str [48,45,49]) (.inr rfl) rfl rfl rfl rfl rfl rfl (fun uk hk=>⟨gC (b:=true) (x:=-1) hk,fun l hl w=>?_⟩) ?_
  ·exact(eM hE.ok jJ hk (by decide) hl [false] rfl w).trans (by rw[fM rfl])
  refine YO.nil ?_
  refine YM.seg hE 2 ?_
  refine ae ⟨rfl,1,by decide,by decide,rfl,?_⟩
  exact Ent.ren [0,1] [1,7,8,9] rfl rfl rfl
 |1,_=>
  refine YM.seq (YM.seg hE 2 ?_)
  refine ae ?_
  refine YM.seq (YM.seg hE 2 ?_)
  refine ax (fun _=>ae ?_) (fun h=>absurd h (by decide))
  refine YM.seq (YM.block (YM.seq (YM.seg hE 2 ?_)))
  repeat (first|refine ah ?_|refine ag (by first|rfl|(simp;done)) ?_)
  refine ae ?_
  refine YM.region ?_
  refine YO.seg hE 2 [_,_,_,_,_] [_] rfl ?_
  refine ae ?_
  refine YO.insert (kt:=102) (K:=.agg [I 0,.lit true]) (X:=.str [49,47,50,45,49,47,50]) (.inr rfl) rfl rfl rfl rfl rfl rfl (fun uk hk=>⟨gC (b:=true) (x:=0) hk,fun l hl w=>?_⟩) ?_
  ·exact(eM hE.ok jJ hk (by decide) hl [false,false] rfl w).trans (by rw[fM rfl])
  refine YO.nil ?_
  refine YM.seg hE 2 ?_
  refine ae ⟨rfl,2,by decide,by decide,rfl,?_⟩
  exact Ent.ren [0,1] [1,7,8,9] rfl rfl rfl
 |2,_=>
  refine YM.seq (YM.seg hE 2 ?_)
  refine ae ?_
  refine YM.seq (YM.seg hE 2 ?_)
  refine ax (fun _=>ae ?_) (fun h=>absurd h (by decide))
  refine YM.seq (YM.block (YM.seq (YM.seg hE 2 ?_)))
  repeat (first|refine ah ?_|refine ag (by first|rfl|(simp;done)) ?_)
  refine ae ?_
  refine YM.region ?_
  refine YO.seg hE 2 [_,_,_,_,_] [_] rfl ?_
  refine ae ?_
  refine YO.insert (kt:=102) (K:=.agg [I 1,.lit true]) (X:=.str [49,45,48]) (.inr rfl) rfl rfl rfl rfl rfl rfl (fun uk hk=>⟨gC (b:=true) (x:=1) hk,fun l hl w=>?_⟩) ?_
  ·exact(eM hE.ok jJ hk (by decide) hl [false,false,false] rfl w).trans (by rw[fM rfl])
  refine YO.nil ?_
  refine YM.seg hE 2 ?_
  refine ae ⟨rfl,3,by decide,by decide,rfl,?_⟩
  exact Ent.ren [0,1] [1,7,8,9] rfl rfl rfl
 |3,_=>
  refine YM.seq (YM.seg hE 2 ?_)
  refine ae ?_
  refine YM.seq (YM.seg hE 2 ?_)
  refine ax (fun h=>absurd h (by decide)) (fun _=>ae ?_)
  refine YM.seg hE 2 ?_
  exact ae ⟨.inr rfl,0,rfl,rfl⟩
 |k+4,h=>exact absurd h (by omega)
def txt(r:Int)(e:Bool):List UInt8×Bool:=bif decide (r=0)&&e==false then([42],true)else bif decide (r=-1)&&e==true then([48,45,49],true)else bif decide (r=0)&&e==true then([49,47,50,45,49,47,50],true)else bif decide (r=1)&&e==true then([49,45,48],true) else([],false)
theorem EP(w:World):(zeroValue 9).run PP w=.ok (.string ⟨#[]⟩) w:=by kernel_rfl
theorem FO{E:Env}(hE:E.Ok PP)(hT:∀ x:V×V,eqT E 8 102 x.1 x.2=eqT (EE kCa kDb [] []) 8 102 x.1 x.2){r:Int}{e:Bool}{uk:Value}(hk:∀ ρ,VR ρ (.agg [I r,.bool e]) uk){l:List MapEntry}(hl:fC txE l)(w:World) :
  (do let y <-Instr.findKey 102 uk l;match y with|some (_,v)=>pure (v,true)|none=>pure (<-zeroValue 9,false):Sem (Value×Bool)).run PP w=.ok (.string ⟨(txt r e).1.toArray⟩,(txt r e).2) w:=by
 have h1:=eM hE jJ hk (by decide) hl [decide (r=0)&&e==false,decide (r=-1)&&e==true,decide (r=0)&&e==true,decide (r=1)&&e==true] (by
  simp only[txE,List.map_cons,List.map_nil]
  have:=fun y=>hT (.agg [I r,.bool e],y)
  dsimp only at this
  rw[this,this,this,this]
  rfl) w
 obtain⟨e0,l0,rfl,_,v0,e1,l1,rfl,_,v1,e2,l2,rfl,_,v2,e3,l3,rfl,_,v3,hl3⟩:=hl
 have hl3:l3=[]:=hl3
 subst hl3
 have v0:e0.val=.string ⟨#[42]⟩:=v0 fun _=>none
 have v1:e1.val=.string ⟨#[48,45,49]⟩:=v1 fun _=>none
 have v2:e2.val=.string ⟨#[49,47,50,45,49,47,50]⟩:=v2 fun _=>none
 have v3:e3.val=.string ⟨#[49,45,48]⟩:=v3 fun _=>none
 rw[Sem.run_bind,h1,Result.andThen_ok]
 unfold txt
 cases(decide (r=0)&&e==false) with
 |true=>simp only[eE,cond_true,v0];rfl
 |false=>
 cases(decide (r=-1)&&e==true) with
 |true=>simp only[eE,cond_true,cond_false,v1];rfl
 |false=>
 cases(decide (r=0)&&e==true) with
 |true=>simp only[eE,cond_true,cond_false,v2];rfl
 |false=>
 cases(decide (r=1)&&e==true) with
 |true=>simp only[eE,cond_true,cond_false,v3];rfl
 |false=>simp only[eE,cond_false,Sem.run_bind,EP,Result.andThen_ok];rfl
theorem DS(r:Int)(e:Bool):aG (GGx kCa kDb) PP 24 [.int .i64 r,.bool e] [] (.tup [.str (bif (txt r e).2 then(txt r e).1 else[]),I (bif (txt r e).2 then 0 else 2)]) []:=by
 have hE:=aC (kCa:=kCa) (kDb:=kDb) (cts:=[]) (inl:=[]) trivial trivial
 refine mC hE (fn:=Tryz.f24) Tryz.func24 rfl rfl fun n B S w0 ρ0=>?_
 refine YM.seq (YM.seg hE 2 ?_)
 refine ae ?_
 refine YM.seq (YM.region ?_)
 refine YO.callM rfl rfl rfl (ent Tryz.func56 (by kernel_rfl) rfl) sO rfl rfl rfl rfl rfl ?_
 refine YO.seg hE 2 [_,_,_] [_,_,_,_,_,_] rfl ?_
 refine ae ?_
 refine YO.lookup (kt:=102) (K:=.agg [I r,.bool e]) (v:=.tup [.str (txt r e).1,.bool (txt r e).2]) rfl rfl rfl rfl rfl rfl rfl (fun uk hk=>⟨gC hk,fun l hl=>⟨9,.string ⟨(txt r e).1.toArray⟩,(txt r e).2,qS,fun w=>FO hE.ok (fun _=>rfl) hk hl w,fun ρ=>⟨_,rfl,_,_,rfl,rfl,_,_,rfl,rfl,rfl⟩⟩⟩) ?_
 refine YO.seg hE 2 [_,_,_,_,_] [] rfl ?_
 refine ae ?_
 refine YO.nil ?_
 refine YM.seg hE 2 ?_
 refine ax (fun h=>ae ?_) (fun h=>ae ?_)
 ·have h:(txt r e).2=false:=by simpa using h
  exact⟨_,_,Ent.refl _ _ _,aN [] (.inr rfl) rfl rfl rfl rfl (by rw[h];rfl)⟩
 ·have h:(txt r e).2=true:=by simpa using h
  exact⟨_,_,Ent.refl _ _ _,aN [] (.inr rfl) rfl rfl rfl rfl (by rw[h];rfl)⟩
end
end Go.Ab
namespace Go.Ab
open Go.Proofs Go.RowKit
section
variable{kCa kDb:Bool}
def endV(check move:Bool):Int:=bif move then(bif check then 1 else 0) else(bif check then 2 else 3)
theorem Hw(x y:Bool)(w:World)(b:Bool):(Instr.checkKey b 10000 119 (.agg #[.bool x,.bool y])).run PP w=.ok () w:=by kernel_rfl
theorem HI:PP.underlying 172=some (.map 119 29):=by kernel_rfl
theorem Hs:(match PP.underlying 119 with|some (.array _ _)|some (.struct _)=>true|_=>false)=true:=by kernel_rfl
theorem Kq(x y x' y':Bool)(w:World):(Op.equal 119 (.agg #[.bool x,.bool y]) (.agg #[.bool x',.bool y'])).run PP w=.ok (x==x'&&y==y') w:=by
 cases x<;>cases y<;>cases x'<;>cases y'<;>kernel_rfl
def jOf(x y:Bool):Nat:=bif y then(bif x then 4 else 2) else(bif x then 6 else 8)
structure EI(g:Nat->Bool)(l:List MapEntry):Prop where
 all:∀ e∈l,∃ x y,e.key=.agg #[.bool x,.bool y]/\e.val=.int .i64 (endV x y)/\g (jOf x y)=true
 has:∀ x y,g (jOf x y)=true->∃ e∈l,e.key=.agg #[.bool x,.bool y]
theorem pJ{g:Nat->Bool}{x y:Bool}(w:World):∀ (l:List MapEntry) (i:Nat),(∀ e∈l,∃ x y,e.key=.agg #[.bool x,.bool y]/\e.val=.int .i64 (endV x y)/\g (jOf x y)=true) ->
  ((∃ e∈l,e.key=.agg #[.bool x,.bool y])->∃ k,(Instr.findAsking 119 (.agg #[.bool x,.bool y]) l i).run PP w=.ok (some (k,.int .i64 (endV x y))) w) /\
  ((¬ ∃ e∈l,e.key=.agg #[.bool x,.bool y])->(Instr.findAsking 119 (.agg #[.bool x,.bool y]) l i).run PP w=.ok none w)
 |[],i,_=>⟨fun⟨e,he,_⟩=>by simp at he,fun _=>rfl⟩
 |e::l,i,h=>by
  obtain⟨x',y',h1,h2,h3⟩:=h e (by simp)
  have he:(Op.equal 119 (.agg #[.bool x,.bool y]) e.key).run PP w=.ok (x==x'&&y==y') w:=by rw[h1];exact Kq x y x' y' w
  obtain⟨q1,q2⟩:=pJ w l (i+1) (fun e he=>h e (by simp[he]))
  by_cases hq:x=x'/\y=y'
  ·obtain⟨rfl,rfl⟩:=hq
   refine⟨fun _=>⟨i,?_⟩,fun hn=>absurd ⟨e,by simp,h1⟩ hn⟩
   simp only[Instr.findAsking,Sem.run_bind,he,Result.andThen_ok,beq_self_eq_true,Bool.and_self,if_true,h2]
   rfl
  ·have hb:(x==x'&&y==y')=false:=by
    cases x<;>cases x'<;>cases y<;>cases y'<;>simp at hq ⊢
   have hne:e.key≠.agg #[.bool x,.bool y]:=fun e2=>hq (by
    rw[h1]at e2
    simp only[Value.agg.injEq,Array.mk.injEq,List.cons.injEq,Value.bool.injEq,and_true]at e2
    exact⟨e2.1.symm,e2.2.symm⟩)
   have hrun:(Instr.findAsking 119 (.agg #[.bool x,.bool y]) (e::l) i).run PP w=(Instr.findAsking 119 (.agg #[.bool x,.bool y]) l (i+1)).run PP w:=by
    simp only[Instr.findAsking,Sem.run_bind,he,Result.andThen_ok,hb,Bool.false_eq_true,if_false]
   rw[hrun]
   refine⟨fun⟨e',he',hk⟩=>q1 ?_,fun hn=>q2 fun⟨e',he',hk⟩=>hn ⟨e',by simp[he'],hk⟩⟩
   rcases List.mem_cons.1 he' with rfl|he'
   ·exact absurd hk hne
   ·exact⟨e',he',hk⟩
def updB(g:Nat->Bool)(i:Nat):Nat->Bool:=fun j=>match Nat.beq j i with
 |true=>true
 |false=>g j
theorem cA{listed:List Bool}{g:Nat->Bool}(h:∀ j,listed.getD j false=g j){i:Nat}(hi:i<listed.length):∀ j,(listed.set i true).getD j false=updB g i j:=by
 intro j
 unfold updB
 simp only[List.getD_eq_getElem?_getD]at h ⊢
 cases hb:Nat.beq j i with
 |true=>
  have:=Nat.eq_of_beq_eq_true hb
  subst this
  simp[hi]
 |false=>
  have:i≠j:=fun e=>Nat.ne_of_beq_eq_false hb e.symm
  rw[List.getElem?_set_ne this]
  exact h j
theorem AZ{g:Nat->Bool}{i j:Nat}(h:g j=true):updB g i j=true:=by
 unfold updB;split<;>first|rfl|exact h
structure EnL(a b:Bool)(g:Nat->Bool)(tm:Tm):Prop where
 l1:look tm 1=.ptr 0 0 0
 l3:g 0=true->look tm 3=.yl 1
 l4:g 1=true->look tm 4=.agg [.lit false,.lit true]
 l5:g 3=true->look tm 5=.agg [.lit true,.lit true]
 l6:g 5=true->look tm 6=.agg [.lit true,.lit false]
 l7:g 7=true->look tm 7=.agg [.lit false,.lit false]
 l8:g 9=true->look tm 8=.yl 1
 l9:g 10=true->look tm 9=.agg [.bool a,.bool b]
 l10:g 11=true->look tm 10=I (endV a b)
 l2:g 12=true->look tm 2=I (endV a b)
 d9:g 9=true->g 0=true/\g 2=true/\g 4=true/\g 6=true/\g 8=true
section
variable{a b:Bool}{g:Nat->Bool}{tm:Tm}
theorem EnL.p0(h:EnL a b g tm):EnL a b (updB g 0) ((3,.yl 1)::tm):=⟨h.l1,fun _=>rfl,h.l4,h.l5,h.l6,h.l7,h.l8,h.l9,h.l10,h.l2,fun q=>⟨rfl,(h.d9 q).2⟩⟩
theorem EnL.p1(h:EnL a b g tm):EnL a b (updB g 1) ((4,.agg [.lit false,.lit true])::tm):=⟨h.l1,h.l3,fun _=>rfl,h.l5,h.l6,h.l7,h.l8,h.l9,h.l10,h.l2,h.d9⟩
theorem EnL.p3(h:EnL a b g tm):EnL a b (updB g 3) ((5,.agg [.lit true,.lit true])::tm):=⟨h.l1,h.l3,h.l4,fun _=>rfl,h.l6,h.l7,h.l8,h.l9,h.l10,h.l2,h.d9⟩
theorem EnL.p5(h:EnL a b g tm):EnL a b (updB g 5) ((6,.agg [.lit true,.lit false])::tm):=⟨h.l1,h.l3,h.l4,h.l5,fun _=>rfl,h.l7,h.l8,h.l9,h.l10,h.l2,h.d9⟩
theorem EnL.p7(h:EnL a b g tm):EnL a b (updB g 7) ((7,.agg [.lit false,.lit false])::tm):=⟨h.l1,h.l3,h.l4,h.l5,h.l6,fun _=>rfl,h.l8,h.l9,h.l10,h.l2,h.d9⟩
theorem EnL.p2(h:EnL a b g tm):EnL a b (updB g 2) tm:=⟨h.l1,h.l3,h.l4,h.l5,h.l6,h.l7,h.l8,h.l9,h.l10,h.l2,fun q=>⟨(h.d9 q).1,rfl,(h.d9 q).2.2⟩⟩
theorem EnL.p4(h:EnL a b g tm):EnL a b (updB g 4) tm:=⟨h.l1,h.l3,h.l4,h.l5,h.l6,h.l7,h.l8,h.l9,h.l10,h.l2,fun q=>⟨(h.d9 q).1,(h.d9 q).2.1,rfl,(h.d9 q).2.2.2⟩⟩
theorem EnL.p6(h:EnL a b g tm):EnL a b (updB g 6) tm:=⟨h.l1,h.l3,h.l4,h.l5,h.l6,h.l7,h.l8,h.l9,h.l10,h.l2,fun q=>⟨(h.d9 q).1,(h.d9 q).2.1,(h.d9 q).2.2.1,rfl,(h.d9 q).2.2.2.2⟩⟩
theorem EnL.p8(h:EnL a b g tm):EnL a b (updB g 8) tm:=⟨h.l1,h.l3,h.l4,h.l5,h.l6,h.l7,h.l8,h.l9,h.l10,h.l2,fun q=>⟨(h.d9 q).1,(h.d9 q).2.1,(h.d9 q).2.2.1,(h.d9 q).2.2.2.1,rfl⟩⟩
theorem EnL.p9(h:EnL a b g tm)(hd:g 0=true/\g 2=true/\g 4=true/\g 6=true/\g 8=true):EnL a b (updB g 9) ((8,.yl 1)::tm):=⟨h.l1,h.l3,h.l4,h.l5,h.l6,h.l7,fun _=>rfl,h.l9,h.l10,h.l2,fun _=>hd⟩
theorem EnL.p10(h:EnL a b g tm):EnL a b (updB g 10) ((9,.agg [.bool a,.bool b])::tm):=⟨h.l1,h.l3,h.l4,h.l5,h.l6,h.l7,h.l8,fun _=>rfl,h.l10,h.l2,h.d9⟩
theorem EnL.p11(h:EnL a b g tm):EnL a b (updB g 11) ((10,I (endV a b))::tm):=⟨h.l1,h.l3,h.l4,h.l5,h.l6,h.l7,h.l8,h.l9,fun _=>rfl,h.l2,h.d9⟩
theorem EnL.p12(h:EnL a b g tm):EnL a b (updB g 12) ((2,I (endV a b))::tm):=⟨h.l1,h.l3,h.l4,h.l5,h.l6,h.l7,h.l8,h.l9,h.l10,fun _=>rfl,h.d9⟩
end
def EnM(B:Nat)(g:Nat->Bool)(ρ:Ren)(gm:List (Nat×Obj)):Prop:=match g 0 with
 |false=>gm=[]/\ρ 1=none/\∀ x y,g (jOf x y)=false
 |true=>∃ k l c,gm=[(k,.map l c)]/\ρ 1=some (mrg k)/\B<=k/\EI g l.toList
theorem EnM.same{B:Nat}{g g':Nat->Bool}{ρ:Ren}{gm:List (Nat×Obj)}(h:EnM B g ρ gm)(h0:g' 0=g 0)(h1:∀ x y,g' (jOf x y)=g (jOf x y)):EnM B g' ρ gm:=by
 unfold EnM at h ⊢
 rw[h0]
 cases hg:g 0 with
 |false=>rw[hg]at h;exact⟨h.1,h.2.1,fun x y=>by rw[h1];exact h.2.2 x y⟩
 |true=>
  rw[hg]at h
  obtain⟨k,l,c,q1,q2,q3,q4⟩:=h
  exact⟨k,l,c,q1,q2,q3,fun e he=>by obtain⟨x,y,z1,z2,z3⟩:=q4.all e he;exact⟨x,y,z1,z2,by rw[h1];exact z3⟩,fun x y hg=>q4.has x y (by rw[<-h1];exact hg)⟩
theorem Iu{x y x' y':Bool}(h:jOf x y=jOf x' y'):x=x'/\y=y':=by
 cases x<;>cases y<;>cases x'<;>cases y'<;>simp[jOf]at h ⊢
def enI(E:Env)(N B S:Nat)(w0:World)(ρ0:Ren)(ca cb:Bool)(listed:List Bool)(a:Act)(w:World):Prop:=
 listed.length=13/\∃ g gm ρ tm,(∀ j,listed.getD j false=g j)/\Rel E.G B w0 S N [] (gm++[]) ρ tm [.cells true [.bool ca,.bool cb],.gone] a w/\ρ0.leB 0 ρ/\EnL ca cb g tm/\EnM B g ρ gm
section
variable{N B S:Nat}{w0:World}{ρ ρ0:Ren}{a:Act}{w:World}{E:Env}{gs:List (Nat×Obj)}{tm:Tm}{hp:List O}
theorem KC(hE:E.Ok PP){o:Oper}{v:V}{dst:Nat}(hrel:Rel E.G B w0 S N [] gs ρ tm hp a w)(hv:evOp E tm hp o.op=.val none v)(hdst:o.dst=some dst)(hd:dst<N):∃ u,(execOp a.eval o).run PP w=.ok (.value u) w/\Rel E.G B w0 S N [] gs ρ ((dst,v)::tm) hp (a.put o.dst u) w:=by
 obtain⟨u,h1,h2⟩:=fT hE hrel.hr.hv hrel.tr hv (fun b h=>by cases h)
 exact⟨u,h1,by rw[hdst];exact hrel.val hd h2⟩
theorem HS{o:Oper}{gm:List (Nat×Obj)}{ca cb:Bool}{g:Nat->Bool}(hrel:Rel E.G B w0 S N [] (gm++[]) ρ tm [.cells true [.bool ca,.bool cb],.gone] a w)(hM:EnM B g ρ gm)(h0:g 0=false)(ho:o.op=.makeMap 172 none)(hdst:o.dst=some 3)(hd:3<N) :
  ∃ w' gm' ρ',(execOp a.eval o).run PP w=.ok (.value (.map (some w.heap.size))) w'/\Rel E.G B w0 S N [] (gm'++[]) ρ' ((3,.yl 1)::tm) [.cells true [.bool ca,.bool cb],.gone] (a.put o.dst (.map (some w.heap.size))) w'/\ρ.le ρ'/\EnM B (updB g 0) ρ' gm':=by
 unfold EnM at hM
 rw[h0]at hM
 obtain⟨rfl,hno,hz⟩:=hM
 have hb:Below w.heap.size w (w.alloc (.map #[] 0)):=(Below.refl _ w).alloc (Nat.le_refl _) _
 have hfr:=hrel.hr.frame hb.size (fun k hk=>hb.block k hk)
 have hle:=Ren.le_add hno (mrg w.heap.size)
 have hl:=hfr.lay (r:=mrg w.heap.size) (b:=1) (by simp) rfl hno
 obtain⟨ms,d1,d2,d3,d4⟩:=hrel.df
 have hBw:B<=w.heap.size:=Nat.le_trans hrel.bs hrel.bel.size
 have hko:∀ p:Nat×Obj,w.heap[p.1]?=some p.2->(w.alloc (.map #[] 0)).heap[p.1]?=some p.2:=fun p hp=>(hb.block _ (Array.getElem?_eq_some_iff.1 hp).1).trans hp
 refine⟨w.alloc (.map #[] 0),[(w.heap.size,.map #[] 0)],ρ.add 1 (mrg w.heap.size),?_,?_,hle,?_⟩
 ·obtain⟨_,op,_,_,_,_⟩:=o
  dsimp only at ho
  subst ho
  rfl
 ·rw[hdst]
  refine⟨(hrel.tr.mono hle).put (by rw[hrel.sz];exact hd) ⟨_,Ren.add_same _ _ _,rfl⟩,hl,hrel.bel.trans (hb.mono hBw),by simp[Act.put,hrel.sz],⟨ms,by simpa[Act.put]using d1,fun p hp=>⟨hko p (d2 p hp).1,(d2 p hp).2⟩,d3,d4⟩,fun p hp=>?_,hrel.bs,hrel.ss,Nat.le_trans hrel.sw hb.size⟩
  have hp:p=(w.heap.size,.map #[] 0):=by simpa using hp
  subst hp
  exact⟨World.alloc_heap_new w _,rfl⟩
 ·have hall:∀ x y,updB g 0 (jOf x y)=false:=fun x y=>by
   have:updB g 0 (jOf x y)=g (jOf x y):=by cases x<;>cases y<;>rfl
   rw[this];exact hz x y
  unfold EnM
  rw[show updB g 0 0=true from rfl]
  exact⟨w.heap.size,#[],0,rfl,Ren.add_same _ _ _,hBw,fun e he=>by simp at he,fun x y h=>by rw[hall]at h;cases h⟩
theorem Dq{o:Oper}{gm:List (Nat×Obj)}{ca cb:Bool}{g:Nat->Bool}{ok ov:Operand}{t i:Nat}(_hE:E.Ok PP)(hrel:Rel E.G B w0 S N [] (gm++[]) ρ tm hp a w)(hL:EnL ca cb g tm)(hM:EnM B g ρ gm)(x y:Bool)(h0:g 0=true)(hgi:g i=false)(hi:jOf x y=i)
  (ho:o.op=.insert 172 (.tmp 3) ok ov) (hok:ok=.tmp t) (hk:look tm t=.agg [.lit x,.lit y]) (hov:ov=.const (.int .i64 (endV x y))) (hdst:o.dst=none) :
  ∃ w',(execOp a.eval o).run PP w=.ok .skip w'/\(∃ gm',Rel E.G B w0 S N [] (gm'++[]) ρ tm hp (a.put o.dst undef) w'/\EnM B (updB g i) ρ gm'):=by
 subst hok;subst hov
 unfold EnM at hM
 rw[h0]at hM
 obtain⟨k,l,cl,rfl,q2,q4,q6⟩:=hM
 have em:a.eval (.tmp 3)=.map (some k):=by
  have h3:=hrel.tr 3
  rw[hL.l3 h0]at h3
  obtain⟨r,hr,em⟩:=h3
  rw[q2]at hr
  cases hr
  exact em
 have ek:a.eval (.tmp t)=.agg #[.bool x,.bool y]:=by
  have h3:=hrel.tr t
  rw[hk]at h3
  obtain⟨us,e,u1,r,rfl,z1,u2,r2,rfl,z2,z3⟩:=h3
  have z1:u1=.bool x:=z1
  have z2:u2=.bool y:=z2
  have z3:r2=[]:=z3
  subst z1;subst z2;subst z3
  exact e
 have hhk:w.heap[k]?=some (.map l cl):=(hrel.gs (k,.map l cl) (by simp)).1
 have hnot:¬ ∃ e∈l.toList,e.key=.agg #[.bool x,.bool y]:=by
  rintro⟨e,he,hk⟩
  obtain⟨x',y',z1,z2,z3⟩:=q6.all e he
  rw[hk]at z1
  simp only[Value.agg.injEq,Array.mk.injEq,List.cons.injEq,Value.bool.injEq,and_true]at z1
  rw[<-z1.1,<-z1.2,hi,hgi]at z3
  cases z3
 have hfk:(Instr.findKey 119 (.agg #[.bool x,.bool y]) l.toList).run PP w=.ok none w:=by
  rw[run_findKey_eq w Hs]
  exact(pJ w l.toList 0 q6.all).2 hnot
 obtain⟨l',hl'⟩:∃ l',l'=l.push { key:=.agg #[.bool x,.bool y],val:=.int .i64 (endV x y),born:=cl }:=⟨_,rfl⟩
 have hrun:(Instr.mapUpdate 172 (.map (some k)) (.agg #[.bool x,.bool y]) (.int .i64 (endV x y))).run PP w=.ok () (w.putObj k (.map l' (cl+1))):=by
  simp only[Instr.mapUpdate,Sem.run_bind,run_underlying HI,Result.andThen_ok,rgm hhk,Hw,hfk,rsm _ hhk,hl']
 obtain⟨ms,d1,d2,d3,d4⟩:=hrel.df
 have hlt:k<w.heap.size:=(Array.getElem?_eq_some_iff.1 hhk).1
 refine⟨w.putObj k (.map l' (cl+1)),?_,[(k,.map l' (cl+1))],⟨?_,hrel.hr.putObj hhk rfl,cQ hrel.bel q4,?_,⟨ms,?_,d2.putObj (fun p hp e=>?_),d3,d4⟩,fun p hp=>?_,hrel.bs,hrel.ss,by simpa using hrel.sw⟩,?_⟩
 ·obtain⟨_,op,_,_,_,_⟩:=o
  dsimp only at ho
  subst ho
  simp only[execOp,em,ek,Sem.run_bind]
  show ((Instr.mapUpdate 172 (.map (some k)) (.agg #[.bool x,.bool y]) (.int .i64 (endV x y))).run PP w).andThen _=_
  rw[hrun];rfl
 ·rw[hdst];exact hrel.tr
 ·rw[hdst];exact hrel.sz
 ·rw[hdst];exact d1
 ·obtain⟨dd,_,rfl⟩:=List.mem_map.1 hp
  have x1:=(d2 (marked dd) hp).1
  rw[e,hhk]at x1
  simp[marked]at x1
 ·have hp:p=(k,.map l' (cl+1)):=by simpa using hp
  subst hp
  exact⟨World.putObj_heap_same hlt,rfl⟩
 ·have hi0:(i==0)=false:=by rw[<-hi];cases x<;>cases y<;>rfl
  unfold EnM
  rw[show updB g i 0=true from AZ h0]
  refine⟨k,l',cl+1,rfl,q2,q4,?_,?_⟩
  ·intro e he
   rw[hl',Array.toList_push]at he
   rcases List.mem_append.1 he with he|he
   ·obtain⟨x',y',z1,z2,z3⟩:=q6.all e he
    exact⟨x',y',z1,z2,AZ z3⟩
   ·obtain rfl:=List.mem_singleton.1 he
    exact⟨x,y,rfl,rfl,by rw[hi];unfold updB;simp⟩
  ·intro x' y' hg
   rw[hl',Array.toList_push]
   by_cases e:jOf x' y'=i
   ·obtain⟨rfl,rfl⟩:=Iu (e.trans hi.symm)
    exact⟨_,List.mem_append.2 (.inr (List.mem_singleton.2 rfl)),rfl⟩
   ·have:g (jOf x' y')=true:=by
     unfold updB at hg
     rw[show Nat.beq (jOf x' y') i=false from by
      cases hb:Nat.beq (jOf x' y') i with
      |false=>rfl
      |true=>exact absurd (Nat.eq_of_beq_eq_true hb) e]at hg
     exact hg
    obtain⟨e',he,hk⟩:=q6.has x' y' this
    exact⟨e',List.mem_append.2 (.inl he),hk⟩
end
theorem DF{N B S:Nat}{w0 w:World}{ρ:Ren}{a:Act}{E:Env}{tm:Tm}{hp:List O}{o:Oper}{gm:List (Nat×Obj)}{ca cb:Bool}{g:Nat->Bool}(hrel:Rel E.G B w0 S N [] (gm++[]) ρ tm hp a w)(hL:EnL ca cb g tm)(hM:EnM B g ρ gm)(h9:g 9=true)(h10:g 10=true)
  (ho:o.op=.lookup 172 (.tmp 8) (.tmp 9) false):(execOp a.eval o).run PP w=.ok (.value (.int .i64 (endV ca cb))) w:=by
 obtain⟨h0,h2,h4,h6,h8⟩:=hL.d9 h9
 unfold EnM at hM
 rw[h0]at hM
 obtain⟨k,l,cl,rfl,q2,q4,q6⟩:=hM
 have em:a.eval (.tmp 8)=.map (some k):=by
  have h3:=hrel.tr 8
  rw[hL.l8 h9]at h3
  obtain⟨r,hr,em⟩:=h3
  rw[q2]at hr
  cases hr
  exact em
 have ek:a.eval (.tmp 9)=.agg #[.bool ca,.bool cb]:=by
  have h3:=hrel.tr 9
  rw[hL.l9 h10]at h3
  obtain⟨us,e,u1,r,rfl,z1,u2,r2,rfl,z2,z3⟩:=h3
  have z1:u1=.bool ca:=z1
  have z2:u2=.bool cb:=z2
  have z3:r2=[]:=z3
  subst z1;subst z2;subst z3
  exact e
 have hhk:w.heap[k]?=some (.map l cl):=(hrel.gs (k,.map l cl) (by simp)).1
 have hin:∃ e∈l.toList,e.key=.agg #[.bool ca,.bool cb]:=q6.has ca cb (by cases ca<;>cases cb<;>assumption)
 obtain⟨j,hj⟩:=(pJ w l.toList 0 q6.all).1 hin
 have hfk:(Instr.findKey 119 (.agg #[.bool ca,.bool cb]) l.toList).run PP w=.ok (some (j,.int .i64 (endV ca cb))) w:=by
  rw[run_findKey_eq w Hs];exact hj
 have hrun:(Instr.lookup 172 (.map (some k)) (.agg #[.bool ca,.bool cb]) false).run PP w=.ok (.int .i64 (endV ca cb)) w:=by
  simp only[Instr.lookup,Sem.run_bind,run_underlying HI,Result.andThen_ok,rgm hhk,Sem.run_pure,Hw,hfk]
  rfl
 obtain⟨_,op,_,_,_,_⟩:=o
 dsimp only at ho
 subst ho
 simp only[execOp,em,ek,Sem.run_bind,hrun,Result.andThen_ok];rfl
def xy(o:Oper)(a:Act)(w:World)(I:Act->World->Prop):Prop:=(∃ u w',(execOp a.eval o).run PP w=.ok (.value u) w'/\I (a.put o.dst u) w')\/(∃ w',(execOp a.eval o).run PP w=.ok .skip w'/\I (a.put o.dst undef) w')
section
variable{N B S:Nat}{w0 w:World}{ρ:Ren}{a:Act}{E:Env}{tm:Tm}{o:Oper}{I:Act->World->Prop}{gm:List (Nat×Obj)}{ca cb:Bool}{g:Nat->Bool}
theorem lX(hE:E.Ok PP){hp:List O}{gs:List (Nat×Obj)}(hrel:Rel E.G B w0 S N [] gs ρ tm hp a w)(v:V)(dst:Nat)(hv:evOp E tm hp o.op=.val none v)(hdst:o.dst=some dst)(hd:Nat.blt dst N=true)(h:∀ a',Rel E.G B w0 S N [] gs ρ ((dst,v)::tm) hp a' w->I a' w):xy o a w I:=by
 obtain⟨u,e1,e2⟩:=KC hE hrel hv hdst (aB hd)
 exact .inl ⟨u,w,e1,h _ e2⟩
theorem HX(hrel:Rel E.G B w0 S N [] (gm++[]) ρ tm [.cells true [.bool ca,.bool cb],.gone] a w)(hM:EnM B g ρ gm)(h0:g 0=false)(ho:o.op=.makeMap 172 none)(hdst:o.dst=some 3)(hd:Nat.blt 3 N=true)
  (h:∀ a' w' gm' ρ',Rel E.G B w0 S N [] (gm'++[]) ρ' ((3,.yl 1)::tm) [.cells true [.bool ca,.bool cb],.gone] a' w'->ρ.le ρ'->EnM B (updB g 0) ρ' gm'->I a' w'):xy o a w I:=by
 obtain⟨w',gm',ρ',e1,e2,e3,e4⟩:=HS hrel hM h0 ho hdst (aB hd)
 exact .inl ⟨_,w',e1,h _ _ _ _ e2 e3 e4⟩
theorem iD{hp:List O}{ok ov:Operand}(t i:Nat)(hE:E.Ok PP)(hrel:Rel E.G B w0 S N [] (gm++[]) ρ tm hp a w)(hL:EnL ca cb g tm)(hM:EnM B g ρ gm)(x y:Bool)(h0:g 0=true)(hgi:g i=false)(hi:jOf x y=i)
  (ho:o.op=.insert 172 (.tmp 3) ok ov) (hok:ok=.tmp t) (hk:look tm t=.agg [.lit x,.lit y]) (hov:ov=.const (.int .i64 (endV x y))) (hdst:o.dst=none)
  (h:∀ a' w' gm',Rel E.G B w0 S N [] (gm'++[]) ρ tm hp a' w'->EnM B (updB g i) ρ gm'->I a' w'):xy o a w I:=by
 obtain⟨w',e1,gm',e2,e3⟩:=Dq hE hrel hL hM x y h0 hgi hi ho hok hk hov hdst
 exact .inr ⟨w',e1,h _ _ _ e2 e3⟩
theorem CI{hp:List O}(hrel:Rel E.G B w0 S N [] (gm++[]) ρ tm hp a w)(hL:EnL ca cb g tm)(hM:EnM B g ρ gm)(h9:g 9=true)(h10:g 10=true)(ho:o.op=.lookup 172 (.tmp 8) (.tmp 9) false)(hdst:o.dst=some 10)(hd:Nat.blt 10 N=true)
  (h:∀ a',Rel E.G B w0 S N [] (gm++[]) ρ ((10,V.int .i64 (endV ca cb))::tm) hp a' w->I a' w):xy o a w I:=by
 refine .inl ⟨_,w,DF hrel hL hM h9 h10 ho,h _ ?_⟩
 rw[hdst]
 exact hrel.val (aB hd) rfl
end
theorem Ca{listed:List Bool}(hk:∀ j,j<12->listed.getD j false=true)(l:List Edge)(h:(l.all fun e=>Nat.blt e.on 12)=true):(l.all fun e=>!Region.binds .any e||listed.getD e.on false)=true:=
 List.all_eq_true.2 fun e he=>by rw[hk e.on (aB (List.all_eq_true.1 h e he)),Bool.or_true]
theorem Aw(ca cb:Bool):aG (GGx kCa kDb) PP 77 [.agg [.bool ca,.bool cb]] [] (I (endV ca cb)) []:=by
 have hE:=aC (kCa:=kCa) (kDb:=kDb) (cts:=[]) (inl:=[]) trivial trivial
 refine mC hE (fn:=Tryz.f77) Tryz.func77 rfl rfl fun n B S w0 ρ0=>?_
 refine YM.seq (YM.seg hE 2 ?_)
 refine ae ?_
 refine YM.seq ?_
 rintro a w ⟨gm,ρ,hrel,hl0,_,h4⟩
 have h4:gm=[]:=h4
 subst h4
 refine wpIn_region_any hE.mixed ?_
 have hno:ρ 1=none:=hrel.hr.free 1 (by simp) (by decide)
 have hrel1:Rel (EE kCa kDb [] []).G B w0 S Tryz.f77.ntmps [] ([]++[]) ρ ((2,I 0)::(1,V.ptr 0 0 0)::bn 0 [V.agg [Bb ca,Bb cb]]) [.cells true [.bool ca,.bool cb],.gone] a w:=
  ⟨hrel.tr,hrel.hr.pad [.gone] (by simp[av]),hrel.bel,hrel.sz,hrel.df,hrel.gs,hrel.bs,hrel.ss,hrel.sw⟩
 refine Ik (enI (EE kCa kDb [] []) Tryz.f77.ntmps B S w0 ρ0 ca cb) ?_ ?_ ?_ _ (List.replicate 13 false) a _ ?_ ?_
 ·rintro listed a w ⟨hlen,g,gm,ρ,tm,hg,hr,hl0,hL,hM⟩ i hi
  obtain⟨hi1,hr2⟩:=List.mem_filter.1 hi
  have hi13:i<13:=List.mem_range.1 hi1
  have gi:∀ {j},listed.getD j true=false->j<13->g j=false:=fun {j} h hj=>by
   rw[<-hg]
   simp only[List.getD_eq_getElem?_getD]at h ⊢
   rw[List.getElem?_eq_getElem (by omega)]at h ⊢
   exact h
  have hjj:∀ {i},(∀ x y,jOf x y≠i)->∀ x y,updB g i (jOf x y)=g (jOf x y):=fun {i} h x y=>by
   unfold updB
   rw[show Nat.beq (jOf x y) i=false from by
    cases hb:Nat.beq (jOf x y) i with
    |false=>rfl
    |true=>exact absurd (Nat.eq_of_beq_eq_true hb) (h x y)]
  have jn:∀ {i:Nat},i≠2->i≠4->i≠6->i≠8->∀ x y,jOf x y≠i:=fun {i} a1 a2 a3 a4 x y=>by cases x<;>cases y<;>simp[jOf]<;>omega
  match i,hi13 with
  |0,_=>
   have hh:(!listed.getD 0 true&&true)=true:=hr2
   simp only[Bool.and_true,Bool.not_eq_true']at hh
   refine⟨_,rfl,rfl,rfl,?_⟩
   exact HX hr hM (gi hh (by omega)) rfl rfl rfl fun a' w' gm' ρ' e2 e3 e4=>⟨by simpa using hlen,updB g 0,gm',ρ',_,cA hg (by omega),e2,Ren.leB_trans hl0 e3.leB,hL.p0,e4⟩
  |1,_=>
   refine⟨_,rfl,rfl,rfl,?_⟩
   exact lX hE.ok hr (.agg [.lit false,.lit true]) 4 rfl rfl rfl fun a' e2=>⟨by simpa using hlen,updB g 1,gm,ρ,_,cA hg (by omega),e2,hl0,hL.p1,hM.same rfl (hjj (jn (by omega) (by omega) (by omega) (by omega)))⟩
  |3,_=>
   refine⟨_,rfl,rfl,rfl,?_⟩
   exact lX hE.ok hr (.agg [.lit true,.lit true]) 5 rfl rfl rfl fun a' e2=>⟨by simpa using hlen,updB g 3,gm,ρ,_,cA hg (by omega),e2,hl0,hL.p3,hM.same rfl (hjj (jn (by omega) (by omega) (by omega) (by omega)))⟩
  |5,_=>
   refine⟨_,rfl,rfl,rfl,?_⟩
   exact lX hE.ok hr (.agg [.lit true,.lit false]) 6 rfl rfl rfl fun a' e2=>⟨by simpa using hlen,updB g 5,gm,ρ,_,cA hg (by omega),e2,hl0,hL.p5,hM.same rfl (hjj (jn (by omega) (by omega) (by omega) (by omega)))⟩
  |7,_=>
   refine⟨_,rfl,rfl,rfl,?_⟩
   exact lX hE.ok hr (.agg [.lit false,.lit false]) 7 rfl rfl rfl fun a' e2=>⟨by simpa using hlen,updB g 7,gm,ρ,_,cA hg (by omega),e2,hl0,hL.p7,hM.same rfl (hjj (jn (by omega) (by omega) (by omega) (by omega)))⟩
  |2,_=>
   have hh:(!listed.getD 2 true&&(listed.getD 0 false&&(listed.getD 1 false&&true)))=true:=hr2
   simp only[Bool.and_eq_true,Bool.not_eq_true',and_true]at hh
   obtain⟨h1,h2,h3⟩:=hh
   rw[hg]at h2 h3
   refine⟨_,rfl,rfl,rfl,?_⟩
   exact iD 4 2 hE.ok hr hL hM false true h2 (gi h1 (by omega)) rfl rfl rfl (hL.l4 h3) rfl rfl fun a' w' gm' e2 e3=>⟨by simpa using hlen,updB g 2,gm',ρ,tm,cA hg (by omega),e2,hl0,hL.p2,e3⟩
  |4,_=>
   have hh:(!listed.getD 4 true&&(listed.getD 0 false&&(listed.getD 3 false&&true)))=true:=hr2
   simp only[Bool.and_eq_true,Bool.not_eq_true',and_true]at hh
   obtain⟨h1,h2,h3⟩:=hh
   rw[hg]at h2 h3
   refine⟨_,rfl,rfl,rfl,?_⟩
   exact iD 5 4 hE.ok hr hL hM true true h2 (gi h1 (by omega)) rfl rfl rfl (hL.l5 h3) rfl rfl fun a' w' gm' e2 e3=>⟨by simpa using hlen,updB g 4,gm',ρ,tm,cA hg (by omega),e2,hl0,hL.p4,e3⟩
  |6,_=>
   have hh:(!listed.getD 6 true&&(listed.getD 0 false&&(listed.getD 5 false&&true)))=true:=hr2
   simp only[Bool.and_eq_true,Bool.not_eq_true',and_true]at hh
   obtain⟨h1,h2,h3⟩:=hh
   rw[hg]at h2 h3
   refine⟨_,rfl,rfl,rfl,?_⟩
   exact iD 6 6 hE.ok hr hL hM true false h2 (gi h1 (by omega)) rfl rfl rfl (hL.l6 h3) rfl rfl fun a' w' gm' e2 e3=>⟨by simpa using hlen,updB g 6,gm',ρ,tm,cA hg (by omega),e2,hl0,hL.p6,e3⟩
  |8,_=>
   have hh:(!listed.getD 8 true&&(listed.getD 0 false&&(listed.getD 7 false&&true)))=true:=hr2
   simp only[Bool.and_eq_true,Bool.not_eq_true',and_true]at hh
   obtain⟨h1,h2,h3⟩:=hh
   rw[hg]at h2 h3
   refine⟨_,rfl,rfl,rfl,?_⟩
   exact iD 7 8 hE.ok hr hL hM false false h2 (gi h1 (by omega)) rfl rfl rfl (hL.l7 h3) rfl rfl fun a' w' gm' e2 e3=>⟨by simpa using hlen,updB g 8,gm',ρ,tm,cA hg (by omega),e2,hl0,hL.p8,e3⟩
  |9,_=>
   have hh:(!listed.getD 9 true&&(listed.getD 0 false&&(listed.getD 1 false&&(listed.getD 2 false&&(listed.getD 3 false&&(listed.getD 4 false&&(listed.getD 5 false&&(listed.getD 6 false&&(listed.getD 7 false&&(listed.getD 8 false&&true))))))))))=true:=hr2
   simp only[Bool.and_eq_true,Bool.not_eq_true',and_true]at hh
   obtain⟨h1,k0,k1,k2,k3,k4,k5,k6,k7,k8⟩:=hh
   rw[hg]at k0 k2 k4 k6 k8
   refine⟨_,rfl,rfl,rfl,?_⟩
   exact lX hE.ok hr (.yl 1) 8 (by show R.val none (look tm 3)=_;rw[hL.l3 k0]) rfl rfl fun a' e2=>⟨by simpa using hlen,updB g 9,gm,ρ,_,cA hg (by omega),e2,hl0,hL.p9 ⟨k0,k2,k4,k6,k8⟩,hM.same rfl (hjj (jn (by omega) (by omega) (by omega) (by omega)))⟩
  |10,_=>
   refine⟨_,rfl,rfl,rfl,?_⟩
   exact lX hE.ok hr (.agg [.bool ca,.bool cb]) 9 (by
    show (match BB _ _ 119 (look tm 1) with|some v=>R.val none v|none=>.bad)=_
    rw[hL.l1];rfl) rfl rfl fun a' e2=>⟨by simpa using hlen,updB g 10,gm,ρ,_,cA hg (by omega),e2,hl0,hL.p10,hM.same rfl (hjj (jn (by omega) (by omega) (by omega) (by omega)))⟩
  |11,_=>
   have hh:(!listed.getD 11 true&&(listed.getD 9 false&&(listed.getD 10 false&&true)))=true:=hr2
   simp only[Bool.and_eq_true,Bool.not_eq_true',and_true]at hh
   obtain⟨h1,h2,h3⟩:=hh
   rw[hg]at h2 h3
   refine⟨_,rfl,rfl,rfl,?_⟩
   exact CI hr hL hM h2 h3 rfl rfl rfl fun a' e2=>⟨by simpa using hlen,updB g 11,gm,ρ,_,cA hg (by omega),e2,hl0,hL.p11,hM.same rfl (hjj (jn (by omega) (by omega) (by omega) (by omega)))⟩
  |12,_=>
   have h2:listed.getD 11 false=true:=by
    simp only[Bool.and_eq_true]at hr2
    have:=List.all_eq_true.1 hr2.2 ⟨11,.data⟩ (by exact List.mem_cons_self)
    exact this
   rw[hg]at h2
   refine⟨_,rfl,rfl,rfl,?_⟩
   exact lX hE.ok hr (I (endV ca cb)) 2 (by show R.val none (look tm 10)=_;rw[hL.l10 h2]) rfl rfl fun a' e2=>⟨by simpa using hlen,updB g 12,gm,ρ,_,cA hg (by omega),e2,hl0,hL.p12,hM.same rfl (hjj (jn (by omega) (by omega) (by omega) (by omega)))⟩
  |j+13,h=>exact absurd h (by omega)
 ·rintro listed a w ⟨hlen,g,gm,ρ,tm,hg,hr,hl0,hL,hM⟩ hrd
  have ff:∀ j,j<13->listed.getD j true=g j:=fun j hj=>by
   rw[<-hg]
   simp only[List.getD_eq_getElem?_getD]
   rw[List.getElem?_eq_getElem (by omega)]
   rfl
  have nm:∀ j,j∉([]:List Nat):=fun j h=>by cases h
  have k0:g 0=true:=by
   cases hq:g 0 with
   |true=>rfl
   |false=>exact absurd (hrd▸List.mem_filter.2 ⟨List.mem_range.2 (by decide),by show (!listed.getD 0 true&&true)=true;rw[ff 0 (by omega),hq];rfl⟩) (nm 0)
  have k1:g 1=true:=by
   cases hq:g 1 with
   |true=>rfl
   |false=>exact absurd (hrd▸List.mem_filter.2 ⟨List.mem_range.2 (by decide),by show (!listed.getD 1 true&&true)=true;rw[ff 1 (by omega),hq];rfl⟩) (nm 1)
  have k3:g 3=true:=by
   cases hq:g 3 with
   |true=>rfl
   |false=>exact absurd (hrd▸List.mem_filter.2 ⟨List.mem_range.2 (by decide),by show (!listed.getD 3 true&&true)=true;rw[ff 3 (by omega),hq];rfl⟩) (nm 3)
  have k5:g 5=true:=by
   cases hq:g 5 with
   |true=>rfl
   |false=>exact absurd (hrd▸List.mem_filter.2 ⟨List.mem_range.2 (by decide),by show (!listed.getD 5 true&&true)=true;rw[ff 5 (by omega),hq];rfl⟩) (nm 5)
  have k7:g 7=true:=by
   cases hq:g 7 with
   |true=>rfl
   |false=>exact absurd (hrd▸List.mem_filter.2 ⟨List.mem_range.2 (by decide),by show (!listed.getD 7 true&&true)=true;rw[ff 7 (by omega),hq];rfl⟩) (nm 7)
  have k10:g 10=true:=by
   cases hq:g 10 with
   |true=>rfl
   |false=>exact absurd (hrd▸List.mem_filter.2 ⟨List.mem_range.2 (by decide),by show (!listed.getD 10 true&&true)=true;rw[ff 10 (by omega),hq];rfl⟩) (nm 10)
  have k2:g 2=true:=by
   cases hq:g 2 with
   |true=>rfl
   |false=>exact absurd (hrd▸List.mem_filter.2 ⟨List.mem_range.2 (by decide),by show (!listed.getD 2 true&&(listed.getD 0 false&&(listed.getD 1 false&&true)))=true;rw[ff 2 (by omega),hq,hg,hg,k0,k1];rfl⟩) (nm 2)
  have k4:g 4=true:=by
   cases hq:g 4 with
   |true=>rfl
   |false=>exact absurd (hrd▸List.mem_filter.2 ⟨List.mem_range.2 (by decide),by show (!listed.getD 4 true&&(listed.getD 0 false&&(listed.getD 3 false&&true)))=true;rw[ff 4 (by omega),hq,hg,hg,k0,k3];rfl⟩) (nm 4)
  have k6:g 6=true:=by
   cases hq:g 6 with
   |true=>rfl
   |false=>exact absurd (hrd▸List.mem_filter.2 ⟨List.mem_range.2 (by decide),by show (!listed.getD 6 true&&(listed.getD 0 false&&(listed.getD 5 false&&true)))=true;rw[ff 6 (by omega),hq,hg,hg,k0,k5];rfl⟩) (nm 6)
  have k8:g 8=true:=by
   cases hq:g 8 with
   |true=>rfl
   |false=>exact absurd (hrd▸List.mem_filter.2 ⟨List.mem_range.2 (by decide),by show (!listed.getD 8 true&&(listed.getD 0 false&&(listed.getD 7 false&&true)))=true;rw[ff 8 (by omega),hq,hg,hg,k0,k7];rfl⟩) (nm 8)
  have k9:g 9=true:=by
   cases hq:g 9 with
   |true=>rfl
   |false=>exact absurd (hrd▸List.mem_filter.2 ⟨List.mem_range.2 (by decide),by show (!listed.getD 9 true&&(listed.getD 0 false&&(listed.getD 1 false&&(listed.getD 2 false&&(listed.getD 3 false&&(listed.getD 4 false&&(listed.getD 5 false&&(listed.getD 6 false&&(listed.getD 7 false&&(listed.getD 8 false&&true))))))))))=true;rw[ff 9 (by omega),hq,hg,hg,hg,hg,hg,hg,hg,hg,hg,k0,k1,k2,k3,k4,k5,k6,k7,k8];rfl⟩) (nm 9)
  have k11:g 11=true:=by
   cases hq:g 11 with
   |true=>rfl
   |false=>exact absurd (hrd▸List.mem_filter.2 ⟨List.mem_range.2 (by decide),by show (!listed.getD 11 true&&(listed.getD 9 false&&(listed.getD 10 false&&true)))=true;rw[ff 11 (by omega),hq,hg,hg,k9,k10];rfl⟩) (nm 11)
  have kk:∀ j,j<12->listed.getD j false=true:=fun j hj=>by
   rw[hg]
   match j,hj with
   |0,_=>exact k0
   |1,_=>exact k1
   |2,_=>exact k2
   |3,_=>exact k3
   |4,_=>exact k4
   |5,_=>exact k5
   |6,_=>exact k6
   |7,_=>exact k7
   |8,_=>exact k8
   |9,_=>exact k9
   |10,_=>exact k10
   |11,_=>exact k11
   |j+12,h=>exact absurd h (by omega)
  have k12:g 12=true:=by
   cases hq:g 12 with
   |true=>rfl
   |false=>
    refine absurd (hrd▸List.mem_filter.2 ⟨List.mem_range.2 (by decide),?_⟩) (nm 12)
    rw[ff 12 (by omega),hq]
    exact(Bool.true_and _).trans (Ca kk _ rfl)
  refine⟨2,none,[(2,I (endV ca cb))],_,⟨[],ρ,⟨?_,hr.hr,hr.bel,hr.sz,hr.df,fun p hp=>by simp at hp,hr.bs,hr.ss,hr.sw⟩,hl0,Nat.zero_le _,rfl⟩,?_⟩
  ·have:=hr.tr.keep [2]
   simp only[cE,hL.l2 k12]at this
   exact this
  ·refine YM.seg hE 2 ?_
   exact ae ⟨_,_,Ent.refl _ _ _,aN [] (.inr rfl) rfl rfl rfl rfl rfl⟩
 ·rintro listed a w ⟨hlen,_⟩;exact hlen
 ·refine⟨rfl,fun _=>false,[],ρ,_,fun j=>?_,hrel1.draw _,hl0,?_,?_⟩
  ·simp only[List.getD_eq_getElem?_getD,List.getElem?_replicate]
   split<;>rfl
  ·exact EnL.mk rfl (fun h=>by cases h) (fun h=>by cases h) (fun h=>by cases h) (fun h=>by cases h) (fun h=>by cases h) (fun h=>by cases h) (fun h=>by cases h) (fun h=>by cases h) (fun h=>by cases h) (fun h=>by cases h)
-- fun h=>by cases h,fun h=>by cases h,fun h=>by cases h,fun h=>by cases h,fun h=>by cases h,fun h=>by cases h,fun h=>by cases h,fun h=>by cases h,fun h=>by cases h⟩
  ·exact⟨rfl,hno,fun _ _=>rfl⟩
 ·decide
def rN:CF
 |[.agg [.bool a,.bool b]],[]=>some (true,I (endV a b),[])
 |_,_=>none
theorem wK:CtOk (GGx kCa kDb) PP (77,rN):=by
 refine aD Tryz.func77 (by kernel_rfl) rfl fun a0 h0 c0 v0 N0 e hc=>?_
 unfold rN at e
 split at e
 ·cases e
  exact Aw _ _
 ·cases e
def eTx(r:Int)(e:Bool):List UInt8×Int:=bif (txt r e).2 then((txt r e).1,0) else([],2)
def LD(R:List UInt8×Int):V:=.tup [.str R.1,I R.2]
def rH:CF
 |[.int .i64 r,.bool e],[]=>some (true,LD (eTx r e),[])
 |_,_=>none
theorem oH:CtOk (GGx kCa kDb) PP (24,rH):=by
 refine aD Tryz.func24 (by kernel_rfl) rfl fun a0 h0 c0 v0 N0 e hc=>?_
 unfold rH at e
 split at e
 ·cases e
  have h:=DS (kCa:=kCa) (kDb:=kDb)
  unfold LD eTx
  rename_i r e
  have h:=h r e
  cases ht:(txt r e).2 with
  |true=>rw[ht]at h;exact h
  |false=>rw[ht]at h;exact h
 ·cases e
end
end Go.Ab
