/- Contracts of the functions that the laws reach, and plain laws of what they compute (text G16); no condition. -/
import Derived.Test.YtcmhemipmmckoaaGreatDoorG15
import Derived.Test.YtcmhemipmmckoaaGreatDoorG10
import Derived.Test.YtcmhemipmmckoaaGreatDoorG13
import Derived.Test.YtcmhemipmmckoaaGreatDoorG4
import Derived.Test.YtcmhemipmmckoaaGreatDoorG5
import Derived.Test.YtcmhemipmmckoaaGreatDoorG14
set_option maxRecDepth 100000
set_option maxHeartbeats 4000000
namespace Go.Ab
open Go.Proofs
section
variable{kCa kDb:Bool}
end
end Go.Ab
set_option maxRecDepth 100000
namespace Go.Ab
end Go.Ab
namespace Go.Ab
open Go.Proofs
section
variable{kCa kDb:Bool}
end
section
variable{kCa kDb:Bool}
end
section
variable{kCa kDb:Bool}
end
section
variable{kCa kDb:Bool}
end
theorem CI(a b:Int):0<=jD a b:=by
 unfold jD band
 exact Int.emod_nonneg _ (by decide)
section
theorem IU:∀ ca:_root_.Fin 16,∀ a1 a2 a3 a4 b1 b2 b3 b4:Bool,
  (cw (jD (ca.val:Int) (u8or (fR4 a1 a2 a3 a4) (fR4 b1 b2 b3 b4))) 1≠0->cw (ca.val:Int) 1≠0/\a1=false/\b1=false) /\
  (cw (jD (ca.val:Int) (u8or (fR4 a1 a2 a3 a4) (fR4 b1 b2 b3 b4))) 2≠0->cw (ca.val:Int) 2≠0/\a2=false/\b2=false) /\
  (cw (jD (ca.val:Int) (u8or (fR4 a1 a2 a3 a4) (fR4 b1 b2 b3 b4))) 4≠0->cw (ca.val:Int) 4≠0/\a3=false/\b3=false) /\
  (cw (jD (ca.val:Int) (u8or (fR4 a1 a2 a3 a4) (fR4 b1 b2 b3 b4))) 8≠0->cw (ca.val:Int) 8≠0/\a4=false/\b4=false) /\
  jD (ca.val:Int) (u8or (fR4 a1 a2 a3 a4) (fR4 b1 b2 b3 b4))<16:=by decide +kernel
theorem Mi{ca a b:Int}(h:0<=ca/\ca<=15) :
  (cw (caR ca a b) 1≠0->cw ca 1≠0/\(4≠a/\7≠a)/\4≠b/\7≠b)/\(cw (caR ca a b) 2≠0->cw ca 2≠0/\(4≠a/\0≠a)/\4≠b/\0≠b) /\
  (cw (caR ca a b) 4≠0->cw ca 4≠0/\(60≠a/\63≠a)/\60≠b/\63≠b)/\(cw (caR ca a b) 8≠0->cw ca 8≠0/\(60≠a/\56≠a)/\60≠b/\56≠b)/\caR ca a b<16:=by
 have hl:∀ at_,DP at_=fR4 (decide (4=at_)||decide (7=at_)) (decide (4=at_)||decide (0=at_)) (decide (60=at_)||decide (63=at_)) (decide (60=at_)||decide (56=at_)):=fun at_=>rfl
 have:=IU ⟨ca.toNat,by omega⟩ (decide (4=a)||decide (7=a)) (decide (4=a)||decide (0=a)) (decide (60=a)||decide (63=a)) (decide (60=a)||decide (56=a)) (decide (4=b)||decide (7=b)) (decide (4=b)||decide (0=b)) (decide (60=b)||decide (63=b)) (decide (60=b)||decide (56=b))
 unfold caR
 rw[hl,hl]
 dsimp only at this
 rw[show ((ca.toNat:Nat):Int)=ca by omega]at this
 simp only[Bool.or_eq_false_iff,decide_eq_false_iff_not]at this
 exact this
section
variable{p:Psn}{m:Mov}
theorem MvOk.kO(o:MvOk p m):∃ K:Nat,K<p.zs.length/\p.zs.getD K 0=kgP (!p.bl)/\(∀ i:Nat,i<p.zs.length->p.zs.getD i 0=kgP (!p.bl)->i=K)/\attR p.f p.r p.zs K p.bl=0:=by
 have hk:=o.kings
 simp only[eF,Bool.and_eq_true,decide_eq_true_eq]at hk
 obtain⟨⟨_,h2⟩,h3⟩:=hk
 unfold bH at h2 h3
 cases hc:decide ((bT p.f p.r p.zs (!p.bl)).2=0) with
 |false=>
  rw[hc,cond_false]at h2
  exact absurd h2 (of_decide_eq_false hc)
 |true=>
  rw[hc,cond_true,Bool.not_not]at h3
  obtain⟨K,k1,k2,k3,k4⟩:=vl o.h o.hl (of_decide_eq_true hc)
  rcases ki (bl:=!p.bl) o.h o.hl with⟨h5,_⟩|⟨h5,_,_⟩
  ·omega
  ·rw[h5,k3]at h3
   exact⟨K,k1,k2,k4,h3⟩
theorem MvOk.attacks(o:MvOk p m)(hz:p.zs.getD m.b.toNat 0≠0):m.a∈attL p.f p.r p.zs m.b p.bl:=by
 obtain⟨⟨sa0,sa1⟩,⟨sb0,sb1⟩⟩:=o.sq
 refine mu.2 ⟨sa0,sa1,o.hp,?_⟩
 unfold tM
 cases hk:decide (aW (p.zs.getD m.a.toNat 0)=1) with
 |true=>
  rw[cond_true]
  have hneg:decide (p.zs.getD m.a.toNat 0<0)=p.bl:=by
   have hp:=o.hp
   unfold isP at hp
   cases hb:p.bl<;>rw[hb]at hp<;>simp only[Bool.and_true,Bool.not_true,Bool.and_false,Bool.or_false,Bool.not_false,Bool.false_or,decide_eq_true_eq]at hp
   ·simp only[decide_eq_false_iff_not];omega
   ·simp only[decide_eq_true_eq];exact hp
  rw[hneg,kS,ey]
  have hlt:=aL o.hb
  refine⟨hlt.1,by omega,?_⟩
  rcases(o.steps (of_decide_eq_true hk)).1 with h|h
  ·exfalso
   obtain⟨hou,hob⟩:=jS o.bd o.hl
   have hocc:hasB (occR p.f p.r p.zs) m.b=true:=by
    rw[iK hou o.hb,hob,decide_eq_true (show m.b.toNat<p.zs.length by omega),decide_eq_false hz];rfl
   simp only[cj,Bool.or_eq_true,Bool.and_eq_true,decide_eq_true_eq,Bool.not_eq_true']at h
   rcases h with⟨h1,h2⟩|⟨⟨⟨⟨h1,_⟩,_⟩,_⟩,h2⟩<;>rw[<-h1,hocc]at h2<;>cases h2
  ·exact h.1
 |false=>
  rw[cond_false,decide_eq_false o.hab,Bool.not_false,Bool.true_and]
  have hn:wayN p.zs p.bl p.ca m.a m.b=4:=by
   refine Decidable.byContradiction fun hn=>hz ?_
   obtain⟨_,_,_,_,_,_,hs⟩:=o.cast4 hn
   rcases hs with⟨_,_,_,e1,_,_,_,e2⟩|⟨_,_,_,e1,_,_,_,e2⟩|⟨_,_,_,e1,_,_,_,e2⟩|⟨_,_,_,e1,_,_,_,e2⟩<;>rw[e1]<;>exact e2
  have hso:=o.so
  have hw:wayB p.f p.r p.zs 4=false:=rfl
  simp only[err3,hn,hw,Bool.not_false,Bool.true_or,Bool.and_true,Bool.or_eq_false_iff,Bool.not_eq_false']at hso
  have hg:=hso.2
  rw[iE (_ca:=p.ca) o.h o.hl o.ha o.hb o.hp,hk,cond_false,Bool.and_eq_true]at hg
  exact hg.2
theorem MvOk.noking(o:MvOk p m)(h:0<=at2R p.f p.zs p.pa m.a m.b):p.zs.getD (at2R p.f p.zs p.pa m.a m.b).toNat 0≠kgP (!p.bl):=by
 obtain⟨c1,c2,c3,c4⟩:=o.cap.2.1 h
 intro hkg
 cases he:epB p.zs p.pa m.a m.b with
 |true=>
  simp only[epB,Bool.and_eq_true,decide_eq_true_eq]at he
  rw[o.kd]at he
  obtain⟨e1,_,e3,_⟩:=o.ep he.1 he.2
  rw[c4,e1,e3]at hkg
  revert hkg;cases p.bl<;>decide
 |false=>
  have h1:at2R p.f p.zs p.pa m.a m.b=m.b:=by rw[c4];unfold at1R;rw[he];rfl
  rw[h1]at hkg
  obtain⟨K,k1,k2,k3,k4⟩:=o.kO
  obtain⟨⟨sa0,sa1⟩,⟨sb0,sb1⟩⟩:=o.sq
  have hK:=k3 m.b.toNat (by omega) hkg
  have ha:=o.attacks (by rw[hkg];cases p.bl<;>decide)
  have hb:=(CZ (bl:=p.bl) o.h o.hl o.hb).2 m.a.toNat
  rw[show ((m.a.toNat:Nat):Int)=m.a by omega,decide_eq_true ha,show m.b=((K:Nat):Int) by omega,k4,bt_0]at hb
  cases hb
theorem MvOk.zn(o:MvOk p m)(hn:wayN p.zs p.bl p.ca m.a m.b=4):∀ i:Nat,i<p.zs.length->(zs3R p.f p.r p.zs p.bl p.ca p.pa m.a m.b m.p).getD i 0=if i=m.b.toNat then(bif decide (m.p=0)then p.zs.getD m.a.toNat 0 else bif p.bl then w8 (0-m.p)else m.p)else if i=m.a.toNat then 0 else(zs1R p.f p.zs p.pa m.a m.b).getD i 0:=by
 intro i hi
 have hcs:cstR p.f p.r p.zs p.bl p.ca p.pa m.a m.b m.p=false:=by unfold cstR;rw[hn];rfl
 have hl2:=sU (f:=p.f) (zs:=p.zs) (pa:=p.pa) (a:=m.a) (b:=m.b)
 have hz:=o.z2.2 i hi
 obtain⟨_,⟨sb0,sb1⟩⟩:=o.sq
 unfold zs3R putR
 rw[hcs]
 cases decide (m.p=0)<;>cases p.bl<;>simp only[Bool.not_true,Bool.not_false,Bool.and_self,Bool.and_false,Bool.false_and,cond_true,cond_false]<;>first
  |exact hz
  | (rw[jo,hl2,hz]
     by_cases e:i=m.b.toNat
     ·rw[if_pos ⟨e,by omega⟩,if_pos e]
     ·rw[if_neg (fun h=>e h.1),if_neg e,if_neg e])
theorem MvOk.zc(o:MvOk p m)(hn:wayN p.zs p.bl p.ca m.a m.b≠4):∃ (k to cor cro:Nat),(p.bl=false/\((k,to,cor,cro)=(4,6,7,5)\/(k,to,cor,cro)=(4,2,0,3))\/p.bl=true/\((k,to,cor,cro)=(60,62,63,61)\/(k,to,cor,cro)=(60,58,56,59)))/\m.a=k/\m.b=to/\p.zs.getD cor 0=ofP 4 p.bl/\p.zs.getD cro 0=0/\p.zs.getD to 0=0 /\
  ∀ i:Nat,i<p.zs.length->(zs3R p.f p.r p.zs p.bl p.ca p.pa m.a m.b m.p).getD i 0=if i=cor then 0 else if i=cro then p.zs.getD cor 0 else if i=to then p.zs.getD k 0 else if i=k then 0 else p.zs.getD i 0:=by
 obtain⟨hf,hr,h64,hk,hp0,hcs,hs⟩:=o.cast4 hn
 have hbz:p.zs.getD m.b.toNat 0=0:=by
  rcases hs with⟨_,_,_,e1,_,_,_,e2⟩|⟨_,_,_,e1,_,_,_,e2⟩|⟨_,_,_,e1,_,_,_,e2⟩|⟨_,_,_,e1,_,_,_,e2⟩<;>rw[e1]<;>exact e2
 have hat:=o.at_cast hk hbz
 have hz1:zs1R p.f p.zs p.pa m.a m.b=p.zs:=by unfold zs1R;rw[hat];rfl
 have hz3:zs3R p.f p.r p.zs p.bl p.ca p.pa m.a m.b m.p=((zs2R p.f p.zs p.pa m.a m.b).set (wCro (wayN p.zs p.bl p.ca m.a m.b)).toNat ((zs2R p.f p.zs p.pa m.a m.b).getD (wCor (wayN p.zs p.bl p.ca m.a m.b)).toNat 0)).set (wCor (wayN p.zs p.bl p.ca m.a m.b)).toNat 0:=by
  unfold zs3R putR
  rw[hcs,hp0];rfl
 have hl2:=sU (f:=p.f) (zs:=p.zs) (pa:=p.pa) (a:=m.a) (b:=m.b)
 have hcast:=o.cast
 simp only[eD,Bool.and_eq_true,Bool.not_eq_true',decide_eq_true_eq]at hcast
 obtain⟨⟨⟨⟨c1,c2⟩,c3⟩,c4⟩,_⟩:=hcast
 have fin:∀ {c:Bool} {bit:Int} {k to cor cro:Nat},qd p m c bit k to cor cro->cor≠k->cor≠to->cor<64->cro<64->k<64->to<64->∀ i:Nat,i<p.zs.length->(zs3R p.f p.r p.zs p.bl p.ca p.pa m.a m.b m.p).getD i 0=if i=cor then 0 else if i=cro then p.zs.getD cor 0 else if i=to then p.zs.getD k 0 else if i=k then 0 else p.zs.getD i 0:=by
  intro c bit k to cor cro ⟨_,_,q3,q4,q5,q6,_,_⟩ d1 d2 l1 l2 l3 l4 i hi
  have hz2:∀ i:Nat,i<p.zs.length->(zs2R p.f p.zs p.pa m.a m.b).getD i 0=if i=to then p.zs.getD k 0 else if i=k then 0 else p.zs.getD i 0:=fun i hi=>by
   have:=o.z2.2 i hi
   rw[hz1]at this
   rw[this,q3,q4,Int.toNat_natCast,Int.toNat_natCast]
  rw[hz3,q5,q6,Int.toNat_natCast,Int.toNat_natCast,jo,List.length_set,hl2]
  by_cases e:i=cor
  ·rw[if_pos ⟨e,by omega⟩,if_pos e]
  ·rw[if_neg (fun h=>e h.1),if_neg e,jo,hl2]
   by_cases e2:i=cro
   ·rw[if_pos ⟨e2,by omega⟩,if_pos e2,hz2 cor (by omega),if_neg d2,if_neg d1]
   ·rw[if_neg (fun h=>e2 h.1),if_neg e2,hz2 i hi]
 rcases hs with h|h|h|h
 ·have ⟨q1,q2,q3,q4,q5,q6,q7,q8⟩:=h
  exact⟨4,6,7,5,.inl ⟨q1,.inl rfl⟩,q3,q4,by rw[q1];exact(dJ c1 q2).2.2.2,q7,q8,fin (k:=4) (to:=6) (cor:=7) (cro:=5) h (by decide) (by decide) (by decide) (by decide) (by decide) (by decide)⟩
 ·have ⟨q1,q2,q3,q4,q5,q6,q7,q8⟩:=h
  exact⟨4,2,0,3,.inl ⟨q1,.inr rfl⟩,q3,q4,by rw[q1];exact(dJ c2 q2).2.2.2,q7,q8,fin (k:=4) (to:=2) (cor:=0) (cro:=3) h (by decide) (by decide) (by decide) (by decide) (by decide) (by decide)⟩
 ·have ⟨q1,q2,q3,q4,q5,q6,q7,q8⟩:=h
  exact⟨60,62,63,61,.inr ⟨q1,.inl rfl⟩,q3,q4,by rw[q1];exact(dJ c3 q2).2.2.2,q7,q8,fin (k:=60) (to:=62) (cor:=63) (cro:=61) h (by decide) (by decide) (by decide) (by decide) (by decide) (by decide)⟩
 ·have ⟨q1,q2,q3,q4,q5,q6,q7,q8⟩:=h
  exact⟨60,58,56,59,.inr ⟨q1,.inr rfl⟩,q3,q4,by rw[q1];exact(dJ c4 q2).2.2.2,q7,q8,fin (k:=60) (to:=58) (cor:=56) (cro:=59) h (by decide) (by decide) (by decide) (by decide) (by decide) (by decide)⟩
theorem yp{n:Int}{bl:Bool}(h:isP n bl=true):n≠kgP (!bl):=by
 intro e
 rw[e]at h
 revert h;cases bl<;>decide
theorem MvOk.z1i(o:MvOk p m)(i:Nat):(0<=at2R p.f p.zs p.pa m.a m.b/\i=(at2R p.f p.zs p.pa m.a m.b).toNat/\(zs1R p.f p.zs p.pa m.a m.b).getD i 0=0)\/(zs1R p.f p.zs p.pa m.a m.b).getD i 0=p.zs.getD i 0:=by
 unfold zs1R
 cases hc:decide (0<=at2R p.f p.zs p.pa m.a m.b) with
 |false=>exact .inr rfl
 |true=>
  obtain⟨c1,_⟩:=o.cap.2.1 (of_decide_eq_true hc)
  have c0:=of_decide_eq_true hc
  rw[cond_true,jo]
  by_cases e:i=(at2R p.f p.zs p.pa m.a m.b).toNat
  ·rw[if_pos ⟨e,by omega⟩];exact .inl ⟨c0,e,rfl⟩
  ·rw[if_neg (fun h=>e h.1)];exact .inr rfl
theorem MvOk.put(o:MvOk p m)(hp:m.p≠0):aW (p.zs.getD m.a.toNat 0)=1/\(2<=m.p/\m.p<=5)/\((bif p.bl then w8 (0-m.p)else m.p)=m.p\/(bif p.bl then w8 (0-m.p)else m.p)=-m.p):=by
 have hpr:2<=m.p/\m.p<=5:=o.hpr.resolve_left hp
 refine⟨?_,hpr,?_⟩
 ·by_cases h:aW (p.zs.getD m.a.toNat 0)=1
  ·exact h
  ·exact absurd (o.pr0 h) hp
 ·cases p.bl
  ·exact .inl rfl
  ·right;rw[cond_true,FV (by omega) (by omega)];omega
theorem MvOk.king2(o:MvOk p m):(bT p.f p.r (zs3R p.f p.r p.zs p.bl p.ca p.pa m.a m.b m.p) (!p.bl)).2=0:=by
 obtain⟨⟨sa0,sa1⟩,⟨sb0,sb1⟩⟩:=o.sq
 obtain⟨K,k1,k2,k3,_⟩:=o.kO
 have hlen:=nc (f:=p.f) (r:=p.r) (zs:=p.zs) (bl:=p.bl) (ca:=p.ca) (pa:=p.pa) (a:=m.a) (b:=m.b) (pr:=m.p)
 have kz:(0:Int)≠kgP (!p.bl):=by cases p.bl<;>decide
 have hKa:K≠m.a.toNat:=fun e=>yp o.hp (by rw[<-e];exact k2)
 refine(mJ (K:=K) o.z3.1 (by rw[hlen];exact o.hl) (by rw[hlen];exact k1) ?_ fun i hi he=>?_).1
 ·by_cases hn:wayN p.zs p.bl p.ca m.a m.b=4
  ·have hKb:K≠m.b.toNat:=by
    intro e
    have hz:p.zs.getD m.b.toNat 0≠0:=by rw[<-e,k2];exact kz.symm
    have h0:0<=at2R p.f p.zs p.pa m.a m.b:=by
     refine Decidable.byContradiction fun h=>hz ?_
     exact(o.cap.2.2.1 (by omega)).2.2
    obtain⟨_,_,_,c4⟩:=o.cap.2.1 h0
    have hnk:=o.noking h0
    cases hep:epB p.zs p.pa m.a m.b with
    |true=>
     simp only[epB,Bool.and_eq_true,decide_eq_true_eq]at hep
     rw[o.kd]at hep
     exact hz (o.ep hep.1 hep.2).2.2.2.2.1
    |false=>
     have h1:at2R p.f p.zs p.pa m.a m.b=m.b:=by rw[c4];unfold at1R;rw[hep];rfl
     rw[h1,<-e]at hnk
     exact hnk k2
   rw[o.zn hn K k1,if_neg hKb,if_neg hKa]
   rcases o.z1i K with⟨h0,e,_⟩|h
   ·exact absurd (by rw[<-e];exact k2) (o.noking h0)
   ·rw[h,k2]
  ·obtain⟨k,to,cor,cro,_,e1,e2,e3,e4,e5,hz⟩:=o.zc hn
   have d1:K≠cor:=fun e=>by rw[e,e3]at k2;revert k2;cases p.bl<;>decide
   have d2:K≠cro:=fun e=>by rw[e,e4]at k2;exact kz k2
   have d3:K≠to:=fun e=>by rw[e,e5]at k2;exact kz k2
   rw[hz K k1,if_neg d1,if_neg d2,if_neg d3,if_neg (by omega),k2]
 ·rw[hlen]at hi
  by_cases hn:wayN p.zs p.bl p.ca m.a m.b=4
  ·rw[o.zn hn i hi]at he
   by_cases eb:i=m.b.toNat
   ·exfalso
    rw[if_pos eb]at he
    cases hp:decide (m.p=0) with
    |true=>rw[hp,cond_true]at he;exact yp o.hp he
    |false=>
     rw[hp,cond_false]at he
     obtain⟨_,h2,h3⟩:=o.put (of_decide_eq_false hp)
     have:kgP (!p.bl)=6\/kgP (!p.bl)=-6:=by cases p.bl<;>simp[kgP]
     omega
   ·rw[if_neg eb]at he
    by_cases ea:i=m.a.toNat
    ·rw[if_pos ea]at he;exact absurd he kz
    ·rw[if_neg ea]at he
     rcases o.z1i i with⟨_,_,h⟩|h
     ·rw[h]at he;exact absurd he kz
     ·rw[h]at he;exact k3 i hi he
  ·obtain⟨k,to,cor,cro,_,e1,e2,e3,e4,e5,hz⟩:=o.zc hn
   rw[hz i hi]at he
   by_cases d1:i=cor
   ·rw[if_pos d1]at he;exact absurd he kz
   rw[if_neg d1]at he
   by_cases d2:i=cro
   ·exfalso;rw[if_pos d2,e3]at he;revert he;cases p.bl<;>decide
   rw[if_neg d2]at he
   by_cases d3:i=to
   ·rw[if_pos d3]at he
    have:=yp o.hp
    rw[e1,Int.toNat_natCast]at this
    exact absurd he this
   rw[if_neg d3]at he
   by_cases d4:i=k
   ·rw[if_pos d4]at he;exact absurd he kz
   rw[if_neg d4]at he
   exact k3 i hi he
theorem HW{f r b:Int}{zs:List Int}(hbd:aC f r zs=true)(hb:aj f r b=true):(zs.length-f.toNat<=b.toNat↔py f b=r-1)/\(b.toNat<f.toNat↔py f b=0):=by
 obtain⟨b0,b1,b2,b3,b4,b5,b6,b7,b8,b9⟩:=dM hb
 have hl:=(bg hbd).2
 have hlt:=aL hb
 have hfr:f*r=(r-1)*f+f:=by rw[Int.sub_mul,Int.mul_comm r f];omega
 have h1:(zs.length-f.toNat<=b.toNat)↔(r-1)*f<=b:=by omega
 have h2:(b.toNat<f.toNat)↔b<f:=by omega
 rw[h1,h2]
 constructor
 ·constructor
  ·intro h
   refine Decidable.byContradiction fun hne=>?_
   have:(py f b+1)*f<=(r-1)*f:=Int.mul_le_mul_of_nonneg_right (by omega) (by omega)
   rw[Int.add_mul]at this
   omega
  ·intro h
   rw[<-h];omega
 ·constructor
  ·intro h
   refine Decidable.byContradiction fun hne=>?_
   have:1*f<=py f b*f:=Int.mul_le_mul_of_nonneg_right (by omega) (by omega)
   omega
  ·intro h
   rw[h]at b5;omega
theorem MvOk.pawns2(o:MvOk p m):je p.f (zs3R p.f p.r p.zs p.bl p.ca p.pa m.a m.b m.p)=true:=by
 obtain⟨⟨sa0,sa1⟩,⟨sb0,sb1⟩⟩:=o.sq
 have hlen:=nc (f:=p.f) (r:=p.r) (zs:=p.zs) (bl:=p.bl) (ca:=p.ca) (pa:=p.pa) (a:=m.a) (b:=m.b) (pr:=m.p)
 have hok:=o.ok
 simp only[Psn.ok,Bool.and_eq_true]at hok
 have hpw:=hok.1.1.1.2
 simp only[je,Bool.and_eq_true,Bool.not_eq_true']at hpw ⊢
 obtain⟨w1,w2⟩:=HW o.bd o.hb
 -- a pawn that stands after the move
 have key:∀ (v:Int) (i:Nat),i<p.zs.length->(v=1\/v=-1)->(zs3R p.f p.r p.zs p.bl p.ca p.pa m.a m.b m.p).getD i 0=v->p.zs.getD i 0=v\/(i=m.b.toNat/\m.p=0/\p.zs.getD m.a.toNat 0=v):=by
  intro v i hi hv he
  by_cases hn:wayN p.zs p.bl p.ca m.a m.b=4
  ·rw[o.zn hn i hi]at he
   by_cases eb:i=m.b.toNat
   ·rw[if_pos eb]at he
    cases hp:decide (m.p=0) with
    |true=>rw[hp,cond_true]at he;exact .inr ⟨eb,of_decide_eq_true hp,he⟩
    |false=>
     rw[hp,cond_false]at he
     obtain⟨_,h2,h3⟩:=o.put (of_decide_eq_false hp)
     omega
   ·rw[if_neg eb]at he
    by_cases ea:i=m.a.toNat
    ·rw[if_pos ea]at he;omega
    ·rw[if_neg ea]at he
     rcases o.z1i i with⟨_,_,h⟩|h
     ·omega
     ·rw[h]at he;exact .inl he
  ·obtain⟨_,_,_,hk6,_⟩:=o.cast4 hn
   obtain⟨k,to,cor,cro,_,e1,e2,e3,e4,e5,hz⟩:=o.zc hn
   rw[hz i hi]at he
   by_cases d1:i=cor
   ·rw[if_pos d1]at he;omega
   rw[if_neg d1]at he
   by_cases d2:i=cro
   ·exfalso
    rw[if_pos d2,e3]at he
    rcases hv with rfl|rfl<;>revert he<;>cases p.bl<;>decide
   rw[if_neg d2]at he
   by_cases d3:i=to
   ·exfalso
    rw[if_pos d3]at he
    rw[e1,Int.toNat_natCast,he]at hk6
    rcases hv with rfl|rfl<;>revert hk6<;>decide
   rw[if_neg d3]at he
   by_cases d4:i=k
   ·rw[if_pos d4]at he;omega
   rw[if_neg d4]at he
   exact .inl he
 have lastW:fa p.r false=p.r-1:=ay (by have:=(dM o.hb);omega) (by have:=(dM o.hb);omega)
 have kd1:∀ v:Int,(v=1\/v=-1)->p.zs.getD m.a.toNat 0=v->aW (p.zs.getD m.a.toNat 0)=1:=by
  intro v hv h;rw[h];rcases hv with rfl|rfl<;>decide
 constructor
 ·rw[Bool.eq_false_iff]
  intro h
  obtain⟨i,h1,h2,h3⟩:=iq.1 h
  rw[hlen]at h1 h2
  simp only[isV,decide_eq_true_eq]at h3
  rcases key 1 i h2 (.inl rfl) h3.symm with h4|⟨rfl,h4,h5⟩
  ·have:=hpw.1
   rw[Bool.eq_false_iff]at this
   exact this (iq.2 ⟨i,h1,h2,by simp only[isV,decide_eq_true_eq];exact h4.symm⟩)
  ·have hbl:p.bl=false:=by
    have hp:=o.hp;rw[h5]at hp
    cases hb:p.bl with
    |false=>rfl
    |true=>rw[hb]at hp;revert hp;decide
   have hl:=(o.steps (kd1 1 (.inl rfl) h5)).2
   rw[hbl,lastW]at hl
   exact hl.2 (w1.1 h1) h4
 ·rw[Bool.eq_false_iff]
  intro h
  obtain⟨i,h1,h2,h3⟩:=sG.1 h
  rw[hlen]at h2
  simp only[isV,decide_eq_true_eq]at h3
  rcases key (-1) i h2 (.inr rfl) h3.symm with h4|⟨rfl,h4,h5⟩
  ·have:=hpw.2
   rw[Bool.eq_false_iff]at this
   exact this (sG.2 ⟨i,h1,h2,by simp only[isV,decide_eq_true_eq];exact h4.symm⟩)
  ·have hbl:p.bl=true:=by
    have hp:=o.hp;rw[h5]at hp
    cases hb:p.bl with
    |true=>rfl
    |false=>rw[hb]at hp;revert hp;decide
   have hl:=(o.steps (kd1 (-1) (.inr rfl) h5)).2
   rw[hbl]at hl
   exact hl.2 (w2.1 h1) h4
theorem MvOk.cast2(o:MvOk p m):eD p.f p.r (zs3R p.f p.r p.zs p.bl p.ca p.pa m.a m.b m.p) (caR p.ca m.a m.b)=true:=by
 obtain⟨⟨sa0,sa1⟩,⟨sb0,sb1⟩⟩:=o.sq
 obtain⟨g1,g2,g3,g4,g5⟩:=Mi (a:=m.a) (b:=m.b) o.caB
 have hc:=o.cast
 simp only[eD,Bool.and_eq_true,Bool.not_eq_true',decide_eq_true_eq]at hc ⊢
 obtain⟨⟨⟨⟨c1,c2⟩,c3⟩,c4⟩,_⟩:=hc
 have key:∀ {bit:Int} {k q:Nat} {c:Bool},rtX p.f p.r p.zs p.ca bit k q c=false->((c,k,q)=(false,4,7)\/(c,k,q)=(false,4,0)\/(c,k,q)=(true,60,63)\/(c,k,q)=(true,60,56))->(cw (caR p.ca m.a m.b) bit≠0->cw p.ca bit≠0/\((k:Int)≠m.a/\(q:Int)≠m.a)/\(k:Int)≠m.b/\(q:Int)≠m.b)->rtX p.f p.r (zs3R p.f p.r p.zs p.bl p.ca p.pa m.a m.b m.p) (caR p.ca m.a m.b) bit k q c=false:=by
  intro bit k q c hr hrow hg
  unfold rtX
  cases hb:decide (cw (caR p.ca m.a m.b) bit=0) with
  |true=>rfl
  |false=>
   obtain⟨h1,⟨h2,h3⟩,h4,h5⟩:=hg (of_decide_eq_false hb)
   obtain⟨f8,r8,hk,hq⟩:=dJ hr h1
   have h64:p.zs.length=64:=rN o.bd (by rw[f8,r8];rfl)
   have hlt:k<64/\q<64:=by rcases hrow with e|e|e|e<;>cases e<;>decide
   have same:∀ (i:Nat) (v:Int),i<64->(i:Int)≠m.a->(i:Int)≠m.b->(i=k\/i=q)->p.zs.getD i 0=ofP v c->(v=6\/v=4)->(zs3R p.f p.r p.zs p.bl p.ca p.pa m.a m.b m.p).getD i 0=ofP v c:=by
    intro i v hi ha hb' hik hz hv
    by_cases hn:wayN p.zs p.bl p.ca m.a m.b=4
    ·rw[o.zn hn i (by omega),if_neg (by omega),if_neg (by omega)]
     rcases o.z1i i with⟨h0,e,_⟩|h
     ·exfalso
      obtain⟨_,_,_,e4⟩:=o.cap.2.1 h0
      cases hep:epB p.zs p.pa m.a m.b with
      |true=>
       simp only[epB,Bool.and_eq_true,decide_eq_true_eq]at hep
       rw[o.kd]at hep
       obtain⟨e1,_,e3,_⟩:=o.ep hep.1 hep.2
       rw[e4,e1]at e
       rw[e,e3]at hz
       rcases hv with rfl|rfl<;>revert hz<;>cases p.bl<;>cases c<;>decide
      |false=>
       have h1:at2R p.f p.zs p.pa m.a m.b=m.b:=by rw[e4];unfold at1R;rw[hep];rfl
       omega
     ·rw[h,hz]
    ·obtain⟨k',to,cor,cro,hside,e1,e2,e3,e4,e5,hz3⟩:=o.zc hn
     have hd:i≠cor/\i≠cro/\i≠to/\i≠k':=by
      rcases hside with⟨_,e|e⟩|⟨_,e|e⟩<;>cases e<;>rcases hrow with e|e|e|e<;>cases e<;>omega
     rw[hz3 i (by omega),if_neg hd.1,if_neg hd.2.1,if_neg hd.2.2.1,if_neg hd.2.2.2,hz]
   rw[same k 6 hlt.1 h2 h4 (.inl rfl) hk (.inl rfl),same q 4 hlt.2 h3 h5 (.inr rfl) hq (.inr rfl),f8,r8]
   simp[is88]
 exact⟨⟨⟨⟨key c1 (.inl rfl) g1,key c2 (.inr (.inl rfl)) g2⟩,key c3 (.inr (.inr (.inl rfl))) g3⟩,key c4 (.inr (.inr (.inr rfl))) g4⟩,g5⟩
theorem MvOk.pass2(o:MvOk p m):iQ p.f p.r (zs3R p.f p.r p.zs p.bl p.ca p.pa m.a m.b m.p) (!p.bl) (paR p.f p.zs m.a m.b) (haR p.f p.zs p.pa p.ha m.a m.b)=true:=by
 obtain⟨⟨sa0,sa1⟩,⟨sb0,sb1⟩⟩:=o.sq
 unfold iQ
 cases ht:twoB p.f p.zs m.a m.b with
 |false=>unfold paR;rw[ht];rfl
 |true=>
  simp only[twoB,Bool.and_eq_true,Bool.or_eq_true,decide_eq_true_eq]at ht
  rw[o.kd]at ht
  obtain⟨hk,ht⟩:=ht
  obtain⟨a0,a1,a2,a3,a4,a5,a6,a7,a8,a9⟩:=dM o.ha
  obtain⟨b0,b1,b2,b3,b4,b5,_⟩:=dM o.hb
  have hla:=aL o.ha
  have hlb:=aL o.hb
  rw[ay (n:=m.b-m.a) (by omega) (by omega),ay (n:=2*p.f) (by omega) (by omega),ay (n:=-2*p.f) (by omega) (by omega)]at ht
  have hfw:fwd p.bl=1\/fwd p.bl=-1:=by cases p.bl<;>simp[fwd]
  have hone:∀ d:Int,py p.f m.b=py p.f m.a+d->py p.f m.b*p.f=py p.f m.a*p.f+d*p.f:=fun d h=>by rw[h,Int.add_mul]
  have hsteps:=o.steps hk
  have hst:px p.f m.b=px p.f m.a/\py p.f m.b=py p.f m.a+2*fwd p.bl/\py p.f m.a=secR p.r p.bl/\6<=p.r/\aj p.f p.r (m.b-fwd p.bl*p.f)=true/\hasB (occR p.f p.r p.zs) (m.b-fwd p.bl*p.f)=false:=by
   rcases hsteps.1 with h|h
   ·obtain⟨e1,h2⟩:=xb o.ha o.hb h
    rcases h2 with e2|⟨e2,e3,e4,e5,e6⟩
    ·exfalso
     have:=hone _ e2
     rcases hfw with e|e<;>rw[e]at this<;>omega
    ·exact⟨e1,e2,e3,e4,e5,e6⟩
   ·exfalso
    have h1:=h.1
    simp only[dK,Bool.and_eq_true,Bool.or_eq_true,decide_eq_true_eq]at h1
    rw[pc_w o.ha o.hb]at h1
    have e1:m.a.tmod p.f=px p.f m.a:=rfl
    have e2:m.b.tmod p.f=px p.f m.b:=rfl
    rw[e1,e2,ay (n:=px p.f m.b-px p.f m.a) (by omega) (by omega),ay (n:=px p.f m.a-px p.f m.b) (by omega) (by omega)]at h1
    have:=hone (fwd p.bl) (by omega)
    rcases hfw with e|e<;>rw[e]at this<;>omega
  obtain⟨e1,e2,e3,e4,e5,e6⟩:=hst
  have hmul:py p.f m.b*p.f=py p.f m.a*p.f+2*(fwd p.bl*p.f):=by rw[e2,Int.add_mul,Int.mul_assoc]
  have hd2:m.b-m.a=2*(fwd p.bl*p.f):=by omega
  have hr:m.b-fwd p.bl*p.f=m.a+fwd p.bl*p.f:=by omega
  have hlc:=aL e5
  rw[hr]at e5 e6 hlc
  have hpa:paR p.f p.zs m.a m.b=m.a+fwd p.bl*p.f:=by
   have ht':twoB p.f p.zs m.a m.b=true:=by
    simp only[twoB,Bool.and_eq_true,Bool.or_eq_true,decide_eq_true_eq]
    rw[o.kd,ay (n:=m.b-m.a) (by omega) (by omega),ay (n:=2*p.f) (by omega) (by omega),ay (n:=-2*p.f) (by omega) (by omega)]
    exact⟨hk,ht⟩
   unfold paR
   rw[ht',cond_true,ay (n:=m.b-m.a) (by omega) (by omega),hd2,Int.mul_tdiv_cancel_left _ (by decide),ay (n:=fwd p.bl*p.f) (by omega) (by omega),ay (by omega) (by omega)]
  have hha:haR p.f p.zs p.pa p.ha m.a m.b=0:=by unfold haR;rw[o.kd,hk];rfl
  rw[hpa,hha]
  obtain⟨c0,c1,c2,c3,c4,c5,_⟩:=dM e5
  have hpy:py p.f (m.a+fwd p.bl*p.f)=py p.f m.a+fwd p.bl:=by
   have:=nj (f:=p.f) (by omega) c1 c2 a1 a2 (show px p.f (m.a+fwd p.bl*p.f)+py p.f (m.a+fwd p.bl*p.f)*p.f=px p.f m.a+(py p.f m.a+fwd p.bl)*p.f by rw[c5,Int.add_mul];omega)
   exact this.2
  have hlc2:=(bN o.bd).1 e5
  have hmz:p.zs.getD (m.a+fwd p.bl*p.f).toNat 0=0:=by
   obtain⟨hou,hob⟩:=jS o.bd o.hl
   rw[iK hou e5,hob,decide_eq_true (show (m.a+fwd p.bl*p.f).toNat<p.zs.length by omega),Bool.true_and]at e6
   simpa using e6
  have hfz:fwd p.bl*p.f=p.f\/fwd p.bl*p.f=-p.f:=by rcases hfw with e|e<;>rw[e]<;>omega
  have hn:wayN p.zs p.bl p.ca m.a m.b=4:=by
   refine Decidable.byContradiction fun hn=>?_
   have:=(o.wayg hn).1
   omega
  have hsec:secR p.r false=1/\secR p.r true=p.r-2:=⟨rfl,ay (by omega) (by omega)⟩
  have hlast:fa p.r false=p.r-1/\fa p.r true=0:=⟨ay (by omega) (by omega),rfl⟩
  have hp0:m.p=0:=by
   refine Decidable.byContradiction fun hp=>?_
   have:=hsteps.2.1 hp
   cases hb:p.bl with
   |false=>rw[hb]at this e2 e3;rw[hlast.1]at this;rw[hsec.1]at e3;simp only[fwd,cond_false]at e2;omega
   |true=>rw[hb]at this e2 e3;rw[hlast.2]at this;rw[hsec.2]at e3;simp only[fwd,cond_true]at e2;omega
  have zA:(zs3R p.f p.r p.zs p.bl p.ca p.pa m.a m.b m.p).getD m.a.toNat 0=0:=by
   rw[o.zn hn _ (by omega),if_neg (by have:=o.hab;omega),if_pos rfl]
  have zB:(zs3R p.f p.r p.zs p.bl p.ca p.pa m.a m.b m.p).getD m.b.toNat 0=ofP 1 p.bl:=by
   rw[o.zn hn _ (by omega),if_pos rfl,decide_eq_true hp0,cond_true]
   have hb:=qZ o.h m.a.toNat
   rw[gX hb]at hk
   have hp:=o.hp
   unfold isP at hp
   cases hbl:p.bl<;>rw[hbl]at hp<;>simp only[Bool.and_true,Bool.not_true,Bool.and_false,Bool.or_false,Bool.not_false,Bool.false_or,decide_eq_true_eq]at hp
   ·show p.zs.getD m.a.toNat 0=1;omega
   ·rw[show ofP 1 true=-1 by decide];omega
  have zM:(zs3R p.f p.r p.zs p.bl p.ca p.pa m.a m.b m.p).getD (m.a+fwd p.bl*p.f).toNat 0=0:=by
   rw[o.zn hn _ (by omega),if_neg (by omega),if_neg (by omega)]
   rcases o.z1i (m.a+fwd p.bl*p.f).toNat with⟨_,_,h⟩|h
   ·exact h
   ·rw[h,hmz]
  have hpi:IntKind.i64.wrap ((m.a+fwd p.bl*p.f).tdiv p.f)=rkP p.r (!p.bl):=by
   rw[c0,hpy,e3]
   cases p.bl with
   |false=>rw[hsec.1];rfl
   |true=>
    rw[hsec.2]
    show p.r-2+-1=IntKind.i64.wrap (p.r-3)
    rw[ay (by omega) (by omega)];omega
  have hup:upP p.f (!p.bl)=fwd p.bl*p.f:=by
   cases p.bl with
   |false=>show p.f=1*p.f;omega
   |true=>
    show IntKind.i64.wrap (0-p.f)=-1*p.f
    rw[ay (by omega) (by omega)];omega
  rw[hup,show m.a+fwd p.bl*p.f-fwd p.bl*p.f=m.a by omega,show m.a+fwd p.bl*p.f+fwd p.bl*p.f=m.b by omega,ay (n:=m.a) (by omega) (by omega),ay (n:=m.b) (by omega) (by omega),zA,zB,zM,hpi,e5,decide_eq_true e4,Bool.not_not]
  simp
theorem MvOk.valid(o:MvOk p m)(h4:err4 p m=false)(h5:err5 p m=false):(⟨p.f,p.r,zs3R p.f p.r p.zs p.bl p.ca p.pa m.a m.b m.p,!p.bl,caR p.ca m.a m.b,paR p.f p.zs m.a m.b,haR p.f p.zs p.pa p.ha m.a m.b,fuR p.bl p.fu⟩:Psn).ok=true:=by
 have hok:=o.ok
 simp only[Psn.ok,Bool.and_eq_true]at hok ⊢
 obtain⟨z1,z2⟩:=o.z3
 refine⟨⟨⟨⟨⟨(bh z1).2.2.1,?_⟩,o.pawns2⟩,o.cast2⟩,o.pass2⟩,?_⟩
 ·simp only[eF,Bool.and_eq_true,decide_eq_true_eq,Bool.not_not]
  refine⟨⟨o.king2,?_⟩,?_⟩
  ·unfold bH;rw[decide_eq_true z2];rfl
  ·simp only[err4,Bool.or_eq_false_iff]at h4
   have:=h4.1
   simpa[chkB]using this
 ·have hc:=hok.2
  simp only[cntB,Bool.and_eq_true,decide_eq_true_eq]at hc ⊢
  simp only[err5,Bool.or_eq_false_iff,decide_eq_false_iff_not]at h5
  obtain⟨⟨⟨h1,h2⟩,h3⟩,h6⟩:=hc
  have g1:0<=haR p.f p.zs p.pa p.ha m.a m.b:=by
   unfold haR
   cases(decide (absP (p.zs.getD m.a.toNat 0)=1)||!decide (capR p.f p.zs p.pa m.a m.b=0))
   ·rw[cond_false,ay (by omega) (by omega)];omega
   ·exact Int.le_refl 0
  have g2:1<=fuR p.bl p.fu:=by
   unfold fuR
   cases p.bl
   ·exact h3
   ·rw[cond_true,ay (by omega) (by omega)];omega
  exact⟨⟨⟨g1,by omega⟩,g2⟩,by omega⟩
end
theorem IZ{p:Psn}{m:Mov}(hl:p.zs.length<=64)(hca:0<=p.ca)(h:mkE5 p m=0):(mkP p m).ok=true:=by
 obtain⟨o,h4,h5⟩:=Oi hl hca h
 rw[(mk_p h).1]
 exact o.valid h4 h5
end
section
variable{p:Psn}
theorem Ju(o:PsH p){a b pr:Int}(hc:canM p a b pr=true)(he:mkE5 p ⟨a,b,pr⟩=0):PsH (mkP p ⟨a,b,pr⟩):=
 psh (by rw[NK o hc he];exact o.hl) (by rw[(mk_p he).1];exact CI _ _) (IZ o.hl o.ca he)
theorem FI(o:PsH p){r:List Int}(h:r∈wV p):xm p r/\mkE5 p (afM r)=0:=by
 obtain⟨h1,h2⟩:=List.mem_filter.1 h
 have hr:=xK h1
 exact⟨hr,of_decide_eq_true ((CN o hr).trans h2)⟩
theorem yV(o:PsH p){r:List Int}(h:r∈wV p):PsH (mkP p (afM r)):=by
 obtain⟨⟨a,b,pr,rfl,hc⟩,he⟩:=FI o h
 exact Ju o hc he
def gv(ck:Bool)(e:Int):Bool:=decide (e=2)||ck&&decide (e=1)
def vN(p:Psn)(ck:Bool):List (List Int):=(wV p).filter fun r=>gv ck (endP (mkP p (afM r)))
theorem fe{β:Type}{step:β->List (List Int)->Option (List (List Int) ⊕ (List (List Int) ⊕ List (List Int)×Int))}{F:List (List Int)->Option (List (List Int)×Int)}{Fx:List (List Int)->Option (List (List Int)×Int)}(q:β->Bool)(g:β->List Int) :
  ∀ (l:List β) (s:List (List Int)),(∀ x∈l,∀ s:List (List Int),s.length<=100000->step x s=some (.inl (bif q x then s++[g x]else s)))->s.length+l.length<=100000->dQ step F Fx l s=F (s++(l.filter q).map g)
 |[],s,_,_=>by simp
 |x::l,s,h,hl=>by
  rw[List.length_cons]at hl
  rw[nl (h x (by simp) s (by omega)),List.filter_cons]
  cases hq:q x with
  |true=>
   rw[cond_true,fe q g l (s++[g x]) (fun y hy=>h y (by simp[hy])) (by simp;omega)]
   simp
  |false=>
   rw[cond_false,fe q g l s (fun y hy=>h y (by simp[hy])) (by omega)]
   simp
theorem KF(x:Int):has [2] x=some (gv false x):=by
 unfold has gv
 by_cases h:x=2
 ·have:eM [2] x 0=some (.inr (.inr true)):=by unfold eM;rw[show decide (x=([2]:List Int).getD (0:Int).toNat 0)=true from decide_eq_true h];rfl
  rw[iX this,decide_eq_true h];rfl
 ·have h1:eM [2] x 0=some (.inl 1):=by unfold eM;rw[show decide (x=([2]:List Int).getD (0:Int).toNat 0)=false from decide_eq_false h];rfl
  have h2:eM [2] x 1=some (.inr (.inl ())):=rfl
  rw[bn h1,cF h2,decide_eq_false h];rfl
theorem vZ(x:Int):has [1,2] x=some (gv true x):=by
 unfold has gv
 by_cases h:x=1
 ·have:eM [1,2] x 0=some (.inr (.inr true)):=by unfold eM;rw[show decide (x=([1,2]:List Int).getD (0:Int).toNat 0)=true from decide_eq_true h];rfl
  rw[iX this,decide_eq_true h];simp
 ·have h1:eM [1,2] x 0=some (.inl 1):=by unfold eM;rw[show decide (x=([1,2]:List Int).getD (0:Int).toNat 0)=false from decide_eq_false h];rfl
  by_cases h':x=2
  ·have h2:eM [1,2] x 1=some (.inr (.inr true)):=by unfold eM;rw[show decide (x=([1,2]:List Int).getD (1:Int).toNat 0)=true from decide_eq_true h'];rfl
   rw[bn h1,iX h2,decide_eq_true h'];rfl
  ·have h2:eM [1,2] x 1=some (.inl 2):=by unfold eM;rw[show decide (x=([1,2]:List Int).getD (1:Int).toNat 0)=false from decide_eq_false h'];rfl
   have h3:eM [1,2] x 2=some (.inr (.inl ())):=rfl
   rw[bn h1,bn h2,cF h3,decide_eq_false h,decide_eq_false h'];rfl
theorem qu(o:PsH p):(wV p).length<=100000:=Nat.le_trans (List.length_filter_le _ _) (qT o)
theorem zU(o:PsH p)(ck:Bool):(((wV p).map fun r=>(afM r,mkP p (afM r))).filter fun e:Mov×Psn=>gv ck (endP e.2)).map (fun e=>iL [e.1.a,e.1.b,e.1.p])=vN p ck:=by
 rw[List.filter_map,List.map_map]
 unfold vN
 refine(List.map_congr_left fun r hr=>?_).trans (List.map_id _)
 obtain⟨⟨a,b,pr,rfl,_⟩,_⟩:=FI o (List.mem_filter.1 hr).1
 rfl
theorem ND(o:PsH p):eMt p=some (vN p false,0):=by
 unfold eMt
 simp only[List.drop_zero,List.take_length,bC,decide_eq_true o.hl,aS,o.ok,Bool.not_true,cond_false,Co o]
 rw[FG o,fe (fun e:Mov×Psn=>gv false (endP e.2)) (fun e=>iL [e.1.a,e.1.b,e.1.p]),List.nil_append,zU o]
 ·intro x hx s hs
  obtain⟨r,hr,rfl⟩:=List.mem_map.1 hx
  have o2:=yV o hr
  have h3:decide ((s.length+1)*24<=140737488355328)=true:=by simp;omega
  unfold yT
  simp only[List.drop_zero,List.take_length,bC,h3]
  rw[JJ o2,aP,show List.take 1 (iL [2])=[2]from rfl,KF,aP]
  cases gv false (endP (mkP p (afM r)))<;>rfl
 ·rw[List.length_map];exact(Nat.zero_add _).symm▸qu o
theorem Na(o:PsH p):eCk p=some (vN p true,0):=by
 unfold eCk
 simp only[List.drop_zero,List.take_length,bC,decide_eq_true o.hl,aS,o.ok,Bool.not_true,cond_false,Co o]
 rw[FG o,fe (fun e:Mov×Psn=>gv true (endP e.2)) (fun e=>iL [e.1.a,e.1.b,e.1.p]),List.nil_append,zU o]
 ·intro x hx s hs
  obtain⟨r,hr,rfl⟩:=List.mem_map.1 hx
  have o2:=yV o hr
  have h3:decide ((s.length+1)*24<=140737488355328)=true:=by simp;omega
  unfold Ah
  simp only[List.drop_zero,List.take_length,bC,h3]
  rw[JJ o2,aP,show List.take 2 (iL [1,2])=[1,2]from rfl,vZ,aP]
  cases gv true (endP (mkP p (afM r)))<;>rfl
 ·rw[List.length_map];exact(Nat.zero_add _).symm▸qu o
theorem Ky(hl:p.zs.length<=64)(h:p.ok=false):eMt p=some ([],2):=by
 unfold eMt
 simp only[List.drop_zero,List.take_length,bC,decide_eq_true hl,aS,h,Bool.not_false,cond_true]
theorem Kc(hl:p.zs.length<=64)(h:p.ok=false):eCk p=some ([],2):=by
 unfold eCk
 simp only[List.drop_zero,List.take_length,bC,decide_eq_true hl,aS,h,Bool.not_false,cond_true]
theorem Fh(o:PsH p)(ck:Bool):rGiv p ck=some (vN p ck):=by
 unfold rGiv
 simp only[List.drop_zero,List.take_length,bC]
 rw[um o,aP]
 have hlen:((allL p).filter (legF p)).length<=100000:=Nat.le_trans (List.length_filter_le _ _) (qT o)
 generalize hL:(allL p).filter (legF p)=l at hlen
 have hl:∀ r∈l,xm p r/\legF p r=true:=fun r hr=>by rw[<-hL]at hr;exact⟨xK (List.mem_filter.1 hr).1,(List.mem_filter.1 hr).2⟩
 refine(jy (step:=qU p ck l) l (fun acc x=>bif (!err5 p (mvR x)&&gv ck (endP (mkP p (afM x))))then acc++[x]else acc) (fun s=>s) (fun j s=>s.length<=j) ?_ ?_ l.length 1000000 0 [] (by omega) (by omega) (by simp)).trans ?_
 ·intro j x s hx hi
  obtain⟨⟨a,b,pr,rfl,hc⟩,hleg⟩:=hl x (List.mem_of_getElem? hx)
  have hj:=(List.getElem?_eq_some_iff.1 hx).1
  have e1:l.getD (j:Int).toNat []=[a,b,pr]:=by simp[List.getD,hx]
  have h1:decide ((j:Int)<Int.ofNat l.length)=true:=by simp;omega
  have h2:decide (0<=(j:Int))=true:=by simp
  have h3:decide ((s.length+1)*24<=140737488355328)=true:=by simp;omega
  have hm:mvR [a,b,pr]=⟨a,b,pr⟩:=rfl
  have hm2:afM [a,b,pr]=⟨a,b,pr⟩:=rfl
  have ew:IntKind.i64.wrap ((j:Int)+1)=((j+1:Nat):Int):=ay (by omega) (by omega)
  refine⟨?_,?_⟩
  ·unfold qU
   simp only[List.drop_zero,List.take_length,bC,e1,h1,h2,h3,cond_true,Bool.and_self,aS,ew]
   rw[show ([a,b,pr]:List Int).getD 0 0=a from rfl,show ([a,b,pr]:List Int).getD 1 0=b from rfl,show ([a,b,pr]:List Int).getD 2 0=pr from rfl,Hv o hc,aP,Option.getD_some,hm,hm2]
   cases h5:err5 p ⟨a,b,pr⟩ with
   |true=>rfl
   |false=>
    have he:mkE5 p ⟨a,b,pr⟩=0:=by
     have:=CN o ⟨a,b,pr,rfl,hc⟩
     refine of_decide_eq_true (this.trans ?_)
     unfold okR
     rw[hleg,hm,h5];rfl
    have o2:=Ju o hc he
    simp only[cond_false]
    rw[Ga o hc,aP,Option.getD_some,JV o hc he]
    rw[LP o2,aP,Option.getD_some]
    unfold gv
    cases(decide (endP (mkP p ⟨a,b,pr⟩)=2)||ck&&decide (endP (mkP p ⟨a,b,pr⟩)=1))<;>rfl
  ·rw[hm];cases(!err5 p ⟨a,b,pr⟩&&gv ck (endP (mkP p (afM [a,b,pr]))))<;>simp<;>omega
 ·intro s _
  have h1:decide ((l.length:Int)<Int.ofNat l.length)=false:=by simp
  unfold qU
  simp only[h1,cond_false]
 ·rw[List.drop_zero,fZ,List.nil_append,<-hL]
  unfold vN wV
  rw[List.filter_filter,List.filter_filter]
  congr 1
  refine List.filter_congr fun r _=>?_
  unfold okR
  cases legF p r<;>cases err5 p (mvR r)<;>cases gv ck (endP (mkP p (afM r)))<;>rfl
theorem Ao(o:PsH p)(ck:Bool):(vN p ck).length<=100000:=Nat.le_trans (List.length_filter_le _ _) (qu o)
theorem BF(hca:0<=p.ca):HH p=some true:=by
 unfold HH
 simp only[List.drop_zero,List.take_length,bC]
 rw[show sK p=some (decide (Int.ofNat p.zs.length<=64))from rfl,aP]
 by_cases hl:p.zs.length<=64
 ·have h1:decide (Int.ofNat p.zs.length<=64)=true:=by simp;omega
  have h2:decide (p.zs.length<=64)=true:=by simpa using hl
  rw[h1,h2,CB hl hca,tj]
  simp only[Bool.not_true,cond_false,aS,Bool.and_self]
  cases hok:p.ok with
  |false=>rw[Ky hl hok,aP,Kc hl hok,aP];rfl
  |true=>
   have o:=psh hl hca hok
   rw[ND o,aP,Na o,aP]
   simp only[Bool.not_true,cond_false]
   rw[Fh o,aP,pI (Ao o false),aP]
   simp only[decide_true,Bool.and_self,cond_true,Bool.not_true,Bool.false_or,aS]
   rw[Fh o,aP,pI (Ao o true),aP]
   rfl
 ·have h1:decide (Int.ofNat p.zs.length<=64)=false:=by simp;omega
  rw[h1];rfl
end
end Go.Ab
