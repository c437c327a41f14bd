/- Contracts of the functions that the laws reach, and plain laws of what they compute (text G16); no condition. -/
import Derived.Test.YtcmhemipmmckoaaGreatDoorG15
import Derived.Test.YtcmhemipmmckoaaGreatDoorG10
import Derived.Test.YtcmhemipmmckoaaGreatDoorG13
import Derived.Test.YtcmhemipmmckoaaGreatDoorG4
import Derived.Test.YtcmhemipmmckoaaGreatDoorG5
import Derived.Test.YtcmhemipmmckoaaGreatDoorG14
import Derived.Test.YtcmhemipmmckoaaGreatDoorG11
set_option maxRecDepth 100000
set_option maxHeartbeats 4000000
namespace Go.Ab
open Go.Proofs
section
variable{kCa kDb:Bool}
end
end Go.Ab
set_option maxRecDepth 100000
namespace Go.Ab
end Go.Ab
namespace Go.Ab
open Go.Proofs
section
variable{kCa kDb:Bool}
end
section
variable{kCa kDb:Bool}
end
section
variable{kCa kDb:Bool}
end
section
variable{kCa kDb:Bool}
end
theorem Dn(a b:Int):0<=iO a b:=by
 unfold iO band
 exact Int.emod_nonneg _ (by decide)
section
theorem Fs:∀ ca:_root_.Fin 16,∀ a1 a2 a3 a4 b1 b2 b3 b4:Bool,
  (bQ (iO (ca.val:Int) (u8or (fR4 a1 a2 a3 a4) (fR4 b1 b2 b3 b4))) 1≠0->bQ (ca.val:Int) 1≠0/\a1=false/\b1=false) /\
  (bQ (iO (ca.val:Int) (u8or (fR4 a1 a2 a3 a4) (fR4 b1 b2 b3 b4))) 2≠0->bQ (ca.val:Int) 2≠0/\a2=false/\b2=false) /\
  (bQ (iO (ca.val:Int) (u8or (fR4 a1 a2 a3 a4) (fR4 b1 b2 b3 b4))) 4≠0->bQ (ca.val:Int) 4≠0/\a3=false/\b3=false) /\
  (bQ (iO (ca.val:Int) (u8or (fR4 a1 a2 a3 a4) (fR4 b1 b2 b3 b4))) 8≠0->bQ (ca.val:Int) 8≠0/\a4=false/\b4=false) /\
  iO (ca.val:Int) (u8or (fR4 a1 a2 a3 a4) (fR4 b1 b2 b3 b4))<16:=by decide +kernel
theorem Jk{ca a b:Int}(h:0<=ca/\ca<=15) :
  (bQ (caR ca a b) 1≠0->bQ ca 1≠0/\(4≠a/\7≠a)/\4≠b/\7≠b)/\(bQ (caR ca a b) 2≠0->bQ ca 2≠0/\(4≠a/\0≠a)/\4≠b/\0≠b) /\
  (bQ (caR ca a b) 4≠0->bQ ca 4≠0/\(60≠a/\63≠a)/\60≠b/\63≠b)/\(bQ (caR ca a b) 8≠0->bQ ca 8≠0/\(60≠a/\56≠a)/\60≠b/\56≠b)/\caR ca a b<16:=by
 have hl:∀ at_,AU at_=fR4 (decide (4=at_)||decide (7=at_)) (decide (4=at_)||decide (0=at_)) (decide (60=at_)||decide (63=at_)) (decide (60=at_)||decide (56=at_)):=fun at_=>rfl
 have:=Fs ⟨ca.toNat,by omega⟩ (decide (4=a)||decide (7=a)) (decide (4=a)||decide (0=a)) (decide (60=a)||decide (63=a)) (decide (60=a)||decide (56=a)) (decide (4=b)||decide (7=b)) (decide (4=b)||decide (0=b)) (decide (60=b)||decide (63=b)) (decide (60=b)||decide (56=b))
 unfold caR
 rw[hl,hl]
 dsimp only at this
 rw[show ((ca.toNat:Nat):Int)=ca by omega]at this
 simp only[Bool.or_eq_false_iff,decide_eq_false_iff_not]at this
 exact this
section
variable{p:Psn}{m:Mov}
theorem MvOk.kO(o:MvOk p m):∃ K:Nat,K<p.zs.length/\p.zs.getD K 0=kgP (!p.bl)/\(∀ i:Nat,i<p.zs.length->p.zs.getD i 0=kgP (!p.bl)->i=K)/\attR p.f p.r p.zs K p.bl=0:=by
 have hk:=o.kings
 simp only[eC,Bool.and_eq_true,decide_eq_true_eq]at hk
 obtain⟨⟨_,h2⟩,h3⟩:=hk
 unfold aZ at h2 h3
 cases hc:decide ((bE p.f p.r p.zs (!p.bl)).2=0) with
 |false=>
  rw[hc,cond_false]at h2
  exact absurd h2 (of_decide_eq_false hc)
 |true=>
  rw[hc,cond_true,Bool.not_not]at h3
  obtain⟨K,k1,k2,k3,k4⟩:=su o.h o.hl (of_decide_eq_true hc)
  rcases jk (bl:=!p.bl) o.h o.hl with⟨h5,_⟩|⟨h5,_,_⟩
  ·omega
  ·rw[h5,k3]at h3
   exact⟨K,k1,k2,k4,h3⟩
theorem MvOk.attacks(o:MvOk p m)(hz:p.zs.getD m.b.toNat 0≠0):m.a∈attL p.f p.r p.zs m.b p.bl:=by
 obtain⟨⟨sa0,sa1⟩,⟨sb0,sb1⟩⟩:=o.sq
 refine lK.2 ⟨sa0,sa1,o.hp,?_⟩
 unfold sD
 cases hk:decide (be (p.zs.getD m.a.toNat 0)=1) with
 |true=>
  rw[cond_true]
  have hneg:decide (p.zs.getD m.a.toNat 0<0)=p.bl:=by
   have hp:=o.hp
   unfold isP at hp
   cases hb:p.bl<;>rw[hb]at hp<;>simp only[Bool.and_true,Bool.not_true,Bool.and_false,Bool.or_false,Bool.not_false,Bool.false_or,decide_eq_true_eq]at hp
   ·simp only[decide_eq_false_iff_not];omega
   ·simp only[decide_eq_true_eq];exact hp
  rw[hneg,jL,dK]
  have hlt:=aE o.hb
  refine⟨hlt.1,by omega,?_⟩
  rcases(o.steps (of_decide_eq_true hk)).1 with h|h
  ·exfalso
   obtain⟨hou,hob⟩:=iQ o.bd o.hl
   have hocc:hasB (occR p.f p.r p.zs) m.b=true:=by
    rw[ir hou o.hb,hob,decide_eq_true (show m.b.toNat<p.zs.length by omega),decide_eq_false hz];rfl
   simp only[dW,Bool.or_eq_true,Bool.and_eq_true,decide_eq_true_eq,Bool.not_eq_true']at h
   rcases h with⟨h1,h2⟩|⟨⟨⟨⟨h1,_⟩,_⟩,_⟩,h2⟩<;>rw[<-h1,hocc]at h2<;>cases h2
  ·exact h.1
 |false=>
  rw[cond_false,decide_eq_false o.hab,Bool.not_false,Bool.true_and]
  have hn:wayN p.zs p.bl p.ca m.a m.b=4:=by
   refine Decidable.byContradiction fun hn=>hz ?_
   obtain⟨_,_,_,_,_,_,hs⟩:=o.cast4 hn
   rcases hs with⟨_,_,_,e1,_,_,_,e2⟩|⟨_,_,_,e1,_,_,_,e2⟩|⟨_,_,_,e1,_,_,_,e2⟩|⟨_,_,_,e1,_,_,_,e2⟩<;>rw[e1]<;>exact e2
  have hso:=o.so
  have hw:wayB p.f p.r p.zs 4=false:=rfl
  simp only[err3,hn,hw,Bool.not_false,Bool.true_or,Bool.and_true,Bool.or_eq_false_iff,Bool.not_eq_false']at hso
  have hg:=hso.2
  rw[jR (_ca:=p.ca) o.h o.hl o.ha o.hb o.hp,hk,cond_false,Bool.and_eq_true]at hg
  exact hg.2
theorem MvOk.noking(o:MvOk p m)(h:0<=at2R p.f p.zs p.pa m.a m.b):p.zs.getD (at2R p.f p.zs p.pa m.a m.b).toNat 0≠kgP (!p.bl):=by
 obtain⟨c1,c2,c3,c4⟩:=o.cap.2.1 h
 intro hkg
 cases he:epB p.zs p.pa m.a m.b with
 |true=>
  simp only[epB,Bool.and_eq_true,decide_eq_true_eq]at he
  rw[o.kd]at he
  obtain⟨e1,_,e3,_⟩:=o.ep he.1 he.2
  rw[c4,e1,e3]at hkg
  revert hkg;cases p.bl<;>decide
 |false=>
  have h1:at2R p.f p.zs p.pa m.a m.b=m.b:=by rw[c4];unfold at1R;rw[he];rfl
  rw[h1]at hkg
  obtain⟨K,k1,k2,k3,k4⟩:=o.kO
  obtain⟨⟨sa0,sa1⟩,⟨sb0,sb1⟩⟩:=o.sq
  have hK:=k3 m.b.toNat (by omega) hkg
  have ha:=o.attacks (by rw[hkg];cases p.bl<;>decide)
  have hb:=(Cl (bl:=p.bl) o.h o.hl o.hb).2 m.a.toNat
  rw[show ((m.a.toNat:Nat):Int)=m.a by omega,decide_eq_true ha,show m.b=((K:Nat):Int) by omega,k4,bt_0]at hb
  cases hb
theorem MvOk.zn(o:MvOk p m)(hn:wayN p.zs p.bl p.ca m.a m.b=4):∀ i:Nat,i<p.zs.length->(zs3R p.f p.r p.zs p.bl p.ca p.pa m.a m.b m.p).getD i 0=if i=m.b.toNat then(bif decide (m.p=0)then p.zs.getD m.a.toNat 0 else bif p.bl then w8 (0-m.p)else m.p)else if i=m.a.toNat then 0 else(zs1R p.f p.zs p.pa m.a m.b).getD i 0:=by
 intro i hi
 have hcs:cstR p.f p.r p.zs p.bl p.ca p.pa m.a m.b m.p=false:=by unfold cstR;rw[hn];rfl
 have hl2:=pX (f:=p.f) (zs:=p.zs) (pa:=p.pa) (a:=m.a) (b:=m.b)
 have hz:=o.z2.2 i hi
 obtain⟨_,⟨sb0,sb1⟩⟩:=o.sq
 unfold zs3R putR
 rw[hcs]
 cases decide (m.p=0)<;>cases p.bl<;>simp only[Bool.not_true,Bool.not_false,Bool.and_self,Bool.and_false,Bool.false_and,cond_true,cond_false]<;>first
  |exact hz
  | (rw[ji,hl2,hz]
     by_cases e:i=m.b.toNat
     ·rw[if_pos ⟨e,by omega⟩,if_pos e]
     ·rw[if_neg (fun h=>e h.1),if_neg e,if_neg e])
theorem MvOk.zc(o:MvOk p m)(hn:wayN p.zs p.bl p.ca m.a m.b≠4):∃ (k to cor cro:Nat),(p.bl=false/\((k,to,cor,cro)=(4,6,7,5)\/(k,to,cor,cro)=(4,2,0,3))\/p.bl=true/\((k,to,cor,cro)=(60,62,63,61)\/(k,to,cor,cro)=(60,58,56,59)))/\m.a=k/\m.b=to/\p.zs.getD cor 0=ofP 4 p.bl/\p.zs.getD cro 0=0/\p.zs.getD to 0=0 /\
  ∀ i:Nat,i<p.zs.length->(zs3R p.f p.r p.zs p.bl p.ca p.pa m.a m.b m.p).getD i 0=if i=cor then 0 else if i=cro then p.zs.getD cor 0 else if i=to then p.zs.getD k 0 else if i=k then 0 else p.zs.getD i 0:=by
 obtain⟨hf,hr,h64,hk,hp0,hcs,hs⟩:=o.cast4 hn
 have hbz:p.zs.getD m.b.toNat 0=0:=by
  rcases hs with⟨_,_,_,e1,_,_,_,e2⟩|⟨_,_,_,e1,_,_,_,e2⟩|⟨_,_,_,e1,_,_,_,e2⟩|⟨_,_,_,e1,_,_,_,e2⟩<;>rw[e1]<;>exact e2
 have hat:=o.at_cast hk hbz
 have hz1:zs1R p.f p.zs p.pa m.a m.b=p.zs:=by unfold zs1R;rw[hat];rfl
 have hz3:zs3R p.f p.r p.zs p.bl p.ca p.pa m.a m.b m.p=((zs2R p.f p.zs p.pa m.a m.b).set (wCro (wayN p.zs p.bl p.ca m.a m.b)).toNat ((zs2R p.f p.zs p.pa m.a m.b).getD (wCor (wayN p.zs p.bl p.ca m.a m.b)).toNat 0)).set (wCor (wayN p.zs p.bl p.ca m.a m.b)).toNat 0:=by
  unfold zs3R putR
  rw[hcs,hp0];rfl
 have hl2:=pX (f:=p.f) (zs:=p.zs) (pa:=p.pa) (a:=m.a) (b:=m.b)
 have hcast:=o.cast
 simp only[ee,Bool.and_eq_true,Bool.not_eq_true',decide_eq_true_eq]at hcast
 obtain⟨⟨⟨⟨c1,c2⟩,c3⟩,c4⟩,_⟩:=hcast
 have fin:∀ {c:Bool} {bit:Int} {k to cor cro:Nat},pc p m c bit k to cor cro->cor≠k->cor≠to->cor<64->cro<64->k<64->to<64->∀ i:Nat,i<p.zs.length->(zs3R p.f p.r p.zs p.bl p.ca p.pa m.a m.b m.p).getD i 0=if i=cor then 0 else if i=cro then p.zs.getD cor 0 else if i=to then p.zs.getD k 0 else if i=k then 0 else p.zs.getD i 0:=by
  intro c bit k to cor cro ⟨_,_,q3,q4,q5,q6,_,_⟩ d1 d2 l1 l2 l3 l4 i hi
  have hz2:∀ i:Nat,i<p.zs.length->(zs2R p.f p.zs p.pa m.a m.b).getD i 0=if i=to then p.zs.getD k 0 else if i=k then 0 else p.zs.getD i 0:=fun i hi=>by
   have:=o.z2.2 i hi
   rw[hz1]at this
   rw[this,q3,q4,Int.toNat_natCast,Int.toNat_natCast]
  rw[hz3,q5,q6,Int.toNat_natCast,Int.toNat_natCast,ji,List.length_set,hl2]
  by_cases e:i=cor
  ·rw[if_pos ⟨e,by omega⟩,if_pos e]
  ·rw[if_neg (fun h=>e h.1),if_neg e,ji,hl2]
   by_cases e2:i=cro
   ·rw[if_pos ⟨e2,by omega⟩,if_pos e2,hz2 cor (by omega),if_neg d2,if_neg d1]
   ·rw[if_neg (fun h=>e2 h.1),if_neg e2,hz2 i hi]
 rcases hs with h|h|h|h
 ·have ⟨q1,q2,q3,q4,q5,q6,q7,q8⟩:=h
  exact⟨4,6,7,5,.inl ⟨q1,.inl rfl⟩,q3,q4,by rw[q1];exact(cW c1 q2).2.2.2,q7,q8,fin (k:=4) (to:=6) (cor:=7) (cro:=5) h (by decide) (by decide) (by decide) (by decide) (by decide) (by decide)⟩
 ·have ⟨q1,q2,q3,q4,q5,q6,q7,q8⟩:=h
  exact⟨4,2,0,3,.inl ⟨q1,.inr rfl⟩,q3,q4,by rw[q1];exact(cW c2 q2).2.2.2,q7,q8,fin (k:=4) (to:=2) (cor:=0) (cro:=3) h (by decide) (by decide) (by decide) (by decide) (by decide) (by decide)⟩
 ·have ⟨q1,q2,q3,q4,q5,q6,q7,q8⟩:=h
  exact⟨60,62,63,61,.inr ⟨q1,.inl rfl⟩,q3,q4,by rw[q1];exact(cW c3 q2).2.2.2,q7,q8,fin (k:=60) (to:=62) (cor:=63) (cro:=61) h (by decide) (by decide) (by decide) (by decide) (by decide) (by decide)⟩
 ·have ⟨q1,q2,q3,q4,q5,q6,q7,q8⟩:=h
  exact⟨60,58,56,59,.inr ⟨q1,.inr rfl⟩,q3,q4,by rw[q1];exact(cW c4 q2).2.2.2,q7,q8,fin (k:=60) (to:=58) (cor:=56) (cro:=59) h (by decide) (by decide) (by decide) (by decide) (by decide) (by decide)⟩
theorem wF{n:Int}{bl:Bool}(h:isP n bl=true):n≠kgP (!bl):=by
 intro e
 rw[e]at h
 revert h;cases bl<;>decide
theorem MvOk.z1i(o:MvOk p m)(i:Nat):(0<=at2R p.f p.zs p.pa m.a m.b/\i=(at2R p.f p.zs p.pa m.a m.b).toNat/\(zs1R p.f p.zs p.pa m.a m.b).getD i 0=0)\/(zs1R p.f p.zs p.pa m.a m.b).getD i 0=p.zs.getD i 0:=by
 unfold zs1R
 cases hc:decide (0<=at2R p.f p.zs p.pa m.a m.b) with
 |false=>exact .inr rfl
 |true=>
  obtain⟨c1,_⟩:=o.cap.2.1 (of_decide_eq_true hc)
  have c0:=of_decide_eq_true hc
  rw[cond_true,ji]
  by_cases e:i=(at2R p.f p.zs p.pa m.a m.b).toNat
  ·rw[if_pos ⟨e,by omega⟩];exact .inl ⟨c0,e,rfl⟩
  ·rw[if_neg (fun h=>e h.1)];exact .inr rfl
theorem MvOk.put(o:MvOk p m)(hp:m.p≠0):be (p.zs.getD m.a.toNat 0)=1/\(2<=m.p/\m.p<=5)/\((bif p.bl then w8 (0-m.p)else m.p)=m.p\/(bif p.bl then w8 (0-m.p)else m.p)=-m.p):=by
 have hpr:2<=m.p/\m.p<=5:=o.hpr.resolve_left hp
 refine⟨?_,hpr,?_⟩
 ·by_cases h:be (p.zs.getD m.a.toNat 0)=1
  ·exact h
  ·exact absurd (o.pr0 h) hp
 ·cases p.bl
  ·exact .inl rfl
  ·right;rw[cond_true,Cy (by omega) (by omega)];omega
theorem MvOk.king2(o:MvOk p m):(bE p.f p.r (zs3R p.f p.r p.zs p.bl p.ca p.pa m.a m.b m.p) (!p.bl)).2=0:=by
 obtain⟨⟨sa0,sa1⟩,⟨sb0,sb1⟩⟩:=o.sq
 obtain⟨K,k1,k2,k3,_⟩:=o.kO
 have hlen:=qW (f:=p.f) (r:=p.r) (zs:=p.zs) (bl:=p.bl) (ca:=p.ca) (pa:=p.pa) (a:=m.a) (b:=m.b) (pr:=m.p)
 have kz:(0:Int)≠kgP (!p.bl):=by cases p.bl<;>decide
 have hKa:K≠m.a.toNat:=fun e=>wF o.hp (by rw[<-e];exact k2)
 refine(lT (K:=K) o.z3.1 (by rw[hlen];exact o.hl) (by rw[hlen];exact k1) ?_ fun i hi he=>?_).1
 ·by_cases hn:wayN p.zs p.bl p.ca m.a m.b=4
  ·have hKb:K≠m.b.toNat:=by
    intro e
    have hz:p.zs.getD m.b.toNat 0≠0:=by rw[<-e,k2];exact kz.symm
    have h0:0<=at2R p.f p.zs p.pa m.a m.b:=by
     refine Decidable.byContradiction fun h=>hz ?_
     exact(o.cap.2.2.1 (by omega)).2.2
    obtain⟨_,_,_,c4⟩:=o.cap.2.1 h0
    have hnk:=o.noking h0
    cases hep:epB p.zs p.pa m.a m.b with
    |true=>
     simp only[epB,Bool.and_eq_true,decide_eq_true_eq]at hep
     rw[o.kd]at hep
     exact hz (o.ep hep.1 hep.2).2.2.2.2.1
    |false=>
     have h1:at2R p.f p.zs p.pa m.a m.b=m.b:=by rw[c4];unfold at1R;rw[hep];rfl
     rw[h1,<-e]at hnk
     exact hnk k2
   rw[o.zn hn K k1,if_neg hKb,if_neg hKa]
   rcases o.z1i K with⟨h0,e,_⟩|h
   ·exact absurd (by rw[<-e];exact k2) (o.noking h0)
   ·rw[h,k2]
  ·obtain⟨k,to,cor,cro,_,e1,e2,e3,e4,e5,hz⟩:=o.zc hn
   have d1:K≠cor:=fun e=>by rw[e,e3]at k2;revert k2;cases p.bl<;>decide
   have d2:K≠cro:=fun e=>by rw[e,e4]at k2;exact kz k2
   have d3:K≠to:=fun e=>by rw[e,e5]at k2;exact kz k2
   rw[hz K k1,if_neg d1,if_neg d2,if_neg d3,if_neg (by omega),k2]
 ·rw[hlen]at hi
  by_cases hn:wayN p.zs p.bl p.ca m.a m.b=4
  ·rw[o.zn hn i hi]at he
   by_cases eb:i=m.b.toNat
   ·exfalso
    rw[if_pos eb]at he
    cases hp:decide (m.p=0) with
    |true=>rw[hp,cond_true]at he;exact wF o.hp he
    |false=>
     rw[hp,cond_false]at he
     obtain⟨_,h2,h3⟩:=o.put (of_decide_eq_false hp)
     have:kgP (!p.bl)=6\/kgP (!p.bl)=-6:=by cases p.bl<;>simp[kgP]
     omega
   ·rw[if_neg eb]at he
    by_cases ea:i=m.a.toNat
    ·rw[if_pos ea]at he;exact absurd he kz
    ·rw[if_neg ea]at he
     rcases o.z1i i with⟨_,_,h⟩|h
     ·rw[h]at he;exact absurd he kz
     ·rw[h]at he;exact k3 i hi he
  ·obtain⟨k,to,cor,cro,_,e1,e2,e3,e4,e5,hz⟩:=o.zc hn
   rw[hz i hi]at he
   by_cases d1:i=cor
   ·rw[if_pos d1]at he;exact absurd he kz
   rw[if_neg d1]at he
   by_cases d2:i=cro
   ·exfalso;rw[if_pos d2,e3]at he;revert he;cases p.bl<;>decide
   rw[if_neg d2]at he
   by_cases d3:i=to
   ·rw[if_pos d3]at he
    have:=wF o.hp
    rw[e1,Int.toNat_natCast]at this
    exact absurd he this
   rw[if_neg d3]at he
   by_cases d4:i=k
   ·rw[if_pos d4]at he;exact absurd he kz
   rw[if_neg d4]at he
   exact k3 i hi he
theorem Ey{f r b:Int}{zs:List Int}(hbd:aH f r zs=true)(hb:ak f r b=true):(zs.length-f.toNat<=b.toNat↔py f b=r-1)/\(b.toNat<f.toNat↔py f b=0):=by
 obtain⟨b0,b1,b2,b3,b4,b5,b6,b7,b8,b9⟩:=cV hb
 have hl:=(bL hbd).2
 have hlt:=aE hb
 have hfr:f*r=(r-1)*f+f:=by rw[Int.sub_mul,Int.mul_comm r f];omega
 have h1:(zs.length-f.toNat<=b.toNat)↔(r-1)*f<=b:=by omega
 have h2:(b.toNat<f.toNat)↔b<f:=by omega
 rw[h1,h2]
 constructor
 ·constructor
  ·intro h
   refine Decidable.byContradiction fun hne=>?_
   have:(py f b+1)*f<=(r-1)*f:=Int.mul_le_mul_of_nonneg_right (by omega) (by omega)
   rw[Int.add_mul]at this
   omega
  ·intro h
   rw[<-h];omega
 ·constructor
  ·intro h
   refine Decidable.byContradiction fun hne=>?_
   have:1*f<=py f b*f:=Int.mul_le_mul_of_nonneg_right (by omega) (by omega)
   omega
  ·intro h
   rw[h]at b5;omega
theorem MvOk.pawns2(o:MvOk p m):iB p.f (zs3R p.f p.r p.zs p.bl p.ca p.pa m.a m.b m.p)=true:=by
 obtain⟨⟨sa0,sa1⟩,⟨sb0,sb1⟩⟩:=o.sq
 have hlen:=qW (f:=p.f) (r:=p.r) (zs:=p.zs) (bl:=p.bl) (ca:=p.ca) (pa:=p.pa) (a:=m.a) (b:=m.b) (pr:=m.p)
 have hok:=o.ok
 simp only[Psn.ok,Bool.and_eq_true]at hok
 have hpw:=hok.1.1.1.2
 simp only[iB,Bool.and_eq_true,Bool.not_eq_true']at hpw ⊢
 obtain⟨w1,w2⟩:=Ey o.bd o.hb
 -- a pawn that stands after the move
 have key:∀ (v:Int) (i:Nat),i<p.zs.length->(v=1\/v=-1)->(zs3R p.f p.r p.zs p.bl p.ca p.pa m.a m.b m.p).getD i 0=v->p.zs.getD i 0=v\/(i=m.b.toNat/\m.p=0/\p.zs.getD m.a.toNat 0=v):=by
  intro v i hi hv he
  by_cases hn:wayN p.zs p.bl p.ca m.a m.b=4
  ·rw[o.zn hn i hi]at he
   by_cases eb:i=m.b.toNat
   ·rw[if_pos eb]at he
    cases hp:decide (m.p=0) with
    |true=>rw[hp,cond_true]at he;exact .inr ⟨eb,of_decide_eq_true hp,he⟩
    |false=>
     rw[hp,cond_false]at he
     obtain⟨_,h2,h3⟩:=o.put (of_decide_eq_false hp)
     omega
   ·rw[if_neg eb]at he
    by_cases ea:i=m.a.toNat
    ·rw[if_pos ea]at he;omega
    ·rw[if_neg ea]at he
     rcases o.z1i i with⟨_,_,h⟩|h
     ·omega
     ·rw[h]at he;exact .inl he
  ·obtain⟨_,_,_,hk6,_⟩:=o.cast4 hn
   obtain⟨k,to,cor,cro,_,e1,e2,e3,e4,e5,hz⟩:=o.zc hn
   rw[hz i hi]at he
   by_cases d1:i=cor
   ·rw[if_pos d1]at he;omega
   rw[if_neg d1]at he
   by_cases d2:i=cro
   ·exfalso
    rw[if_pos d2,e3]at he
    rcases hv with rfl|rfl<;>revert he<;>cases p.bl<;>decide
   rw[if_neg d2]at he
   by_cases d3:i=to
   ·exfalso
    rw[if_pos d3]at he
    rw[e1,Int.toNat_natCast,he]at hk6
    rcases hv with rfl|rfl<;>revert hk6<;>decide
   rw[if_neg d3]at he
   by_cases d4:i=k
   ·rw[if_pos d4]at he;omega
   rw[if_neg d4]at he
   exact .inl he
 have lastW:fE p.r false=p.r-1:=ay (by have:=(cV o.hb);omega) (by have:=(cV o.hb);omega)
 have kd1:∀ v:Int,(v=1\/v=-1)->p.zs.getD m.a.toNat 0=v->be (p.zs.getD m.a.toNat 0)=1:=by
  intro v hv h;rw[h];rcases hv with rfl|rfl<;>decide
 constructor
 ·rw[Bool.eq_false_iff]
  intro h
  obtain⟨i,h1,h2,h3⟩:=gN.1 h
  rw[hlen]at h1 h2
  simp only[isV,decide_eq_true_eq]at h3
  rcases key 1 i h2 (.inl rfl) h3.symm with h4|⟨rfl,h4,h5⟩
  ·have:=hpw.1
   rw[Bool.eq_false_iff]at this
   exact this (gN.2 ⟨i,h1,h2,by simp only[isV,decide_eq_true_eq];exact h4.symm⟩)
  ·have hbl:p.bl=false:=by
    have hp:=o.hp;rw[h5]at hp
    cases hb:p.bl with
    |false=>rfl
    |true=>rw[hb]at hp;revert hp;decide
   have hl:=(o.steps (kd1 1 (.inl rfl) h5)).2
   rw[hbl,lastW]at hl
   exact hl.2 (w1.1 h1) h4
 ·rw[Bool.eq_false_iff]
  intro h
  obtain⟨i,h1,h2,h3⟩:=qc.1 h
  rw[hlen]at h2
  simp only[isV,decide_eq_true_eq]at h3
  rcases key (-1) i h2 (.inr rfl) h3.symm with h4|⟨rfl,h4,h5⟩
  ·have:=hpw.2
   rw[Bool.eq_false_iff]at this
   exact this (qc.2 ⟨i,h1,h2,by simp only[isV,decide_eq_true_eq];exact h4.symm⟩)
  ·have hbl:p.bl=true:=by
    have hp:=o.hp;rw[h5]at hp
    cases hb:p.bl with
    |true=>rfl
    |false=>rw[hb]at hp;revert hp;decide
   have hl:=(o.steps (kd1 (-1) (.inr rfl) h5)).2
   rw[hbl]at hl
   exact hl.2 (w2.1 h1) h4
theorem MvOk.cast2(o:MvOk p m):ee p.f p.r (zs3R p.f p.r p.zs p.bl p.ca p.pa m.a m.b m.p) (caR p.ca m.a m.b)=true:=by
 obtain⟨⟨sa0,sa1⟩,⟨sb0,sb1⟩⟩:=o.sq
 obtain⟨g1,g2,g3,g4,g5⟩:=Jk (a:=m.a) (b:=m.b) o.caB
 have hc:=o.cast
 simp only[ee,Bool.and_eq_true,Bool.not_eq_true',decide_eq_true_eq]at hc ⊢
 obtain⟨⟨⟨⟨c1,c2⟩,c3⟩,c4⟩,_⟩:=hc
 have key:∀ {bit:Int} {k q:Nat} {c:Bool},rtX p.f p.r p.zs p.ca bit k q c=false->((c,k,q)=(false,4,7)\/(c,k,q)=(false,4,0)\/(c,k,q)=(true,60,63)\/(c,k,q)=(true,60,56))->(bQ (caR p.ca m.a m.b) bit≠0->bQ p.ca bit≠0/\((k:Int)≠m.a/\(q:Int)≠m.a)/\(k:Int)≠m.b/\(q:Int)≠m.b)->rtX p.f p.r (zs3R p.f p.r p.zs p.bl p.ca p.pa m.a m.b m.p) (caR p.ca m.a m.b) bit k q c=false:=by
  intro bit k q c hr hrow hg
  unfold rtX
  cases hb:decide (bQ (caR p.ca m.a m.b) bit=0) with
  |true=>rfl
  |false=>
   obtain⟨h1,⟨h2,h3⟩,h4,h5⟩:=hg (of_decide_eq_false hb)
   obtain⟨f8,r8,hk,hq⟩:=cW hr h1
   have h64:p.zs.length=64:=uY o.bd (by rw[f8,r8];rfl)
   have hlt:k<64/\q<64:=by rcases hrow with e|e|e|e<;>cases e<;>decide
   have same:∀ (i:Nat) (v:Int),i<64->(i:Int)≠m.a->(i:Int)≠m.b->(i=k\/i=q)->p.zs.getD i 0=ofP v c->(v=6\/v=4)->(zs3R p.f p.r p.zs p.bl p.ca p.pa m.a m.b m.p).getD i 0=ofP v c:=by
    intro i v hi ha hb' hik hz hv
    by_cases hn:wayN p.zs p.bl p.ca m.a m.b=4
    ·rw[o.zn hn i (by omega),if_neg (by omega),if_neg (by omega)]
     rcases o.z1i i with⟨h0,e,_⟩|h
     ·exfalso
      obtain⟨_,_,_,e4⟩:=o.cap.2.1 h0
      cases hep:epB p.zs p.pa m.a m.b with
      |true=>
       simp only[epB,Bool.and_eq_true,decide_eq_true_eq]at hep
       rw[o.kd]at hep
       obtain⟨e1,_,e3,_⟩:=o.ep hep.1 hep.2
       rw[e4,e1]at e
       rw[e,e3]at hz
       rcases hv with rfl|rfl<;>revert hz<;>cases p.bl<;>cases c<;>decide
      |false=>
       have h1:at2R p.f p.zs p.pa m.a m.b=m.b:=by rw[e4];unfold at1R;rw[hep];rfl
       omega
     ·rw[h,hz]
    ·obtain⟨k',to,cor,cro,hside,e1,e2,e3,e4,e5,hz3⟩:=o.zc hn
     have hd:i≠cor/\i≠cro/\i≠to/\i≠k':=by
      rcases hside with⟨_,e|e⟩|⟨_,e|e⟩<;>cases e<;>rcases hrow with e|e|e|e<;>cases e<;>omega
     rw[hz3 i (by omega),if_neg hd.1,if_neg hd.2.1,if_neg hd.2.2.1,if_neg hd.2.2.2,hz]
   rw[same k 6 hlt.1 h2 h4 (.inl rfl) hk (.inl rfl),same q 4 hlt.2 h3 h5 (.inr rfl) hq (.inr rfl),f8,r8]
   simp[is88]
 exact⟨⟨⟨⟨key c1 (.inl rfl) g1,key c2 (.inr (.inl rfl)) g2⟩,key c3 (.inr (.inr (.inl rfl))) g3⟩,key c4 (.inr (.inr (.inr rfl))) g4⟩,g5⟩
theorem MvOk.pass2(o:MvOk p m):ia p.f p.r (zs3R p.f p.r p.zs p.bl p.ca p.pa m.a m.b m.p) (!p.bl) (paR p.f p.zs m.a m.b) (haR p.f p.zs p.pa p.ha m.a m.b)=true:=by
 obtain⟨⟨sa0,sa1⟩,⟨sb0,sb1⟩⟩:=o.sq
 unfold ia
 cases ht:twoB p.f p.zs m.a m.b with
 |false=>unfold paR;rw[ht];rfl
 |true=>
  simp only[twoB,Bool.and_eq_true,Bool.or_eq_true,decide_eq_true_eq]at ht
  rw[o.kd]at ht
  obtain⟨hk,ht⟩:=ht
  obtain⟨a0,a1,a2,a3,a4,a5,a6,a7,a8,a9⟩:=cV o.ha
  obtain⟨b0,b1,b2,b3,b4,b5,_⟩:=cV o.hb
  have hla:=aE o.ha
  have hlb:=aE o.hb
  rw[ay (n:=m.b-m.a) (by omega) (by omega),ay (n:=2*p.f) (by omega) (by omega),ay (n:=-2*p.f) (by omega) (by omega)]at ht
  have hfw:fwd p.bl=1\/fwd p.bl=-1:=by cases p.bl<;>simp[fwd]
  have hone:∀ d:Int,py p.f m.b=py p.f m.a+d->py p.f m.b*p.f=py p.f m.a*p.f+d*p.f:=fun d h=>by rw[h,Int.add_mul]
  have hsteps:=o.steps hk
  have hst:px p.f m.b=px p.f m.a/\py p.f m.b=py p.f m.a+2*fwd p.bl/\py p.f m.a=secR p.r p.bl/\6<=p.r/\ak p.f p.r (m.b-fwd p.bl*p.f)=true/\hasB (occR p.f p.r p.zs) (m.b-fwd p.bl*p.f)=false:=by
   rcases hsteps.1 with h|h
   ·obtain⟨e1,h2⟩:=vQ o.ha o.hb h
    rcases h2 with e2|⟨e2,e3,e4,e5,e6⟩
    ·exfalso
     have:=hone _ e2
     rcases hfw with e|e<;>rw[e]at this<;>omega
    ·exact⟨e1,e2,e3,e4,e5,e6⟩
   ·exfalso
    have h1:=h.1
    simp only[er,Bool.and_eq_true,Bool.or_eq_true,decide_eq_true_eq]at h1
    rw[pc_w o.ha o.hb]at h1
    have e1:m.a.tmod p.f=px p.f m.a:=rfl
    have e2:m.b.tmod p.f=px p.f m.b:=rfl
    rw[e1,e2,ay (n:=px p.f m.b-px p.f m.a) (by omega) (by omega),ay (n:=px p.f m.a-px p.f m.b) (by omega) (by omega)]at h1
    have:=hone (fwd p.bl) (by omega)
    rcases hfw with e|e<;>rw[e]at this<;>omega
  obtain⟨e1,e2,e3,e4,e5,e6⟩:=hst
  have hmul:py p.f m.b*p.f=py p.f m.a*p.f+2*(fwd p.bl*p.f):=by rw[e2,Int.add_mul,Int.mul_assoc]
  have hd2:m.b-m.a=2*(fwd p.bl*p.f):=by omega
  have hr:m.b-fwd p.bl*p.f=m.a+fwd p.bl*p.f:=by omega
  have hlc:=aE e5
  rw[hr]at e5 e6 hlc
  have hpa:paR p.f p.zs m.a m.b=m.a+fwd p.bl*p.f:=by
   have ht':twoB p.f p.zs m.a m.b=true:=by
    simp only[twoB,Bool.and_eq_true,Bool.or_eq_true,decide_eq_true_eq]
    rw[o.kd,ay (n:=m.b-m.a) (by omega) (by omega),ay (n:=2*p.f) (by omega) (by omega),ay (n:=-2*p.f) (by omega) (by omega)]
    exact⟨hk,ht⟩
   unfold paR
   rw[ht',cond_true,ay (n:=m.b-m.a) (by omega) (by omega),hd2,Int.mul_tdiv_cancel_left _ (by decide),ay (n:=fwd p.bl*p.f) (by omega) (by omega),ay (by omega) (by omega)]
  have hha:haR p.f p.zs p.pa p.ha m.a m.b=0:=by unfold haR;rw[o.kd,hk];rfl
  rw[hpa,hha]
  obtain⟨c0,c1,c2,c3,c4,c5,_⟩:=cV e5
  have hpy:py p.f (m.a+fwd p.bl*p.f)=py p.f m.a+fwd p.bl:=by
   have:=mD (f:=p.f) (by omega) c1 c2 a1 a2 (show px p.f (m.a+fwd p.bl*p.f)+py p.f (m.a+fwd p.bl*p.f)*p.f=px p.f m.a+(py p.f m.a+fwd p.bl)*p.f by rw[c5,Int.add_mul];omega)
   exact this.2
  have hlc2:=(cw o.bd).1 e5
  have hmz:p.zs.getD (m.a+fwd p.bl*p.f).toNat 0=0:=by
   obtain⟨hou,hob⟩:=iQ o.bd o.hl
   rw[ir hou e5,hob,decide_eq_true (show (m.a+fwd p.bl*p.f).toNat<p.zs.length by omega),Bool.true_and]at e6
   simpa using e6
  have hfz:fwd p.bl*p.f=p.f\/fwd p.bl*p.f=-p.f:=by rcases hfw with e|e<;>rw[e]<;>omega
  have hn:wayN p.zs p.bl p.ca m.a m.b=4:=by
   refine Decidable.byContradiction fun hn=>?_
   have:=(o.wayg hn).1
   omega
  have hsec:secR p.r false=1/\secR p.r true=p.r-2:=⟨rfl,ay (by omega) (by omega)⟩
  have hlast:fE p.r false=p.r-1/\fE p.r true=0:=⟨ay (by omega) (by omega),rfl⟩
  have hp0:m.p=0:=by
   refine Decidable.byContradiction fun hp=>?_
   have:=hsteps.2.1 hp
   cases hb:p.bl with
   |false=>rw[hb]at this e2 e3;rw[hlast.1]at this;rw[hsec.1]at e3;simp only[fwd,cond_false]at e2;omega
   |true=>rw[hb]at this e2 e3;rw[hlast.2]at this;rw[hsec.2]at e3;simp only[fwd,cond_true]at e2;omega
  have zA:(zs3R p.f p.r p.zs p.bl p.ca p.pa m.a m.b m.p).getD m.a.toNat 0=0:=by
   rw[o.zn hn _ (by omega),if_neg (by have:=o.hab;omega),if_pos rfl]
  have zB:(zs3R p.f p.r p.zs p.bl p.ca p.pa m.a m.b m.p).getD m.b.toNat 0=ofP 1 p.bl:=by
   rw[o.zn hn _ (by omega),if_pos rfl,decide_eq_true hp0,cond_true]
   have hb:=qZ o.h m.a.toNat
   rw[gB hb]at hk
   have hp:=o.hp
   unfold isP at hp
   cases hbl:p.bl<;>rw[hbl]at hp<;>simp only[Bool.and_true,Bool.not_true,Bool.and_false,Bool.or_false,Bool.not_false,Bool.false_or,decide_eq_true_eq]at hp
   ·show p.zs.getD m.a.toNat 0=1;omega
   ·rw[show ofP 1 true=-1 by decide];omega
  have zM:(zs3R p.f p.r p.zs p.bl p.ca p.pa m.a m.b m.p).getD (m.a+fwd p.bl*p.f).toNat 0=0:=by
   rw[o.zn hn _ (by omega),if_neg (by omega),if_neg (by omega)]
   rcases o.z1i (m.a+fwd p.bl*p.f).toNat with⟨_,_,h⟩|h
   ·exact h
   ·rw[h,hmz]
  have hpi:IntKind.i64.wrap ((m.a+fwd p.bl*p.f).tdiv p.f)=rkP p.r (!p.bl):=by
   rw[c0,hpy,e3]
   cases p.bl with
   |false=>rw[hsec.1];rfl
   |true=>
    rw[hsec.2]
    show p.r-2+-1=IntKind.i64.wrap (p.r-3)
    rw[ay (by omega) (by omega)];omega
  have hup:upP p.f (!p.bl)=fwd p.bl*p.f:=by
   cases p.bl with
   |false=>show p.f=1*p.f;omega
   |true=>
    show IntKind.i64.wrap (0-p.f)=-1*p.f
    rw[ay (by omega) (by omega)];omega
  rw[hup,show m.a+fwd p.bl*p.f-fwd p.bl*p.f=m.a by omega,show m.a+fwd p.bl*p.f+fwd p.bl*p.f=m.b by omega,ay (n:=m.a) (by omega) (by omega),ay (n:=m.b) (by omega) (by omega),zA,zB,zM,hpi,e5,decide_eq_true e4,Bool.not_not]
  simp
theorem MvOk.valid(o:MvOk p m)(h4:err4 p m=false)(h5:err5 p m=false):(⟨p.f,p.r,zs3R p.f p.r p.zs p.bl p.ca p.pa m.a m.b m.p,!p.bl,caR p.ca m.a m.b,paR p.f p.zs m.a m.b,haR p.f p.zs p.pa p.ha m.a m.b,fuR p.bl p.fu⟩:Psn).ok=true:=by
 have hok:=o.ok
 simp only[Psn.ok,Bool.and_eq_true]at hok ⊢
 obtain⟨z1,z2⟩:=o.z3
 refine⟨⟨⟨⟨⟨(bj z1).2.2.1,?_⟩,o.pawns2⟩,o.cast2⟩,o.pass2⟩,?_⟩
 ·simp only[eC,Bool.and_eq_true,decide_eq_true_eq,Bool.not_not]
  refine⟨⟨o.king2,?_⟩,?_⟩
  ·unfold aZ;rw[decide_eq_true z2];rfl
  ·simp only[err4,Bool.or_eq_false_iff]at h4
   have:=h4.1
   simpa[chkB]using this
 ·have hc:=hok.2
  simp only[cntB,Bool.and_eq_true,decide_eq_true_eq]at hc ⊢
  simp only[err5,Bool.or_eq_false_iff,decide_eq_false_iff_not]at h5
  obtain⟨⟨⟨h1,h2⟩,h3⟩,h6⟩:=hc
  have g1:0<=haR p.f p.zs p.pa p.ha m.a m.b:=by
   unfold haR
   cases(decide (absP (p.zs.getD m.a.toNat 0)=1)||!decide (capR p.f p.zs p.pa m.a m.b=0))
   ·rw[cond_false,ay (by omega) (by omega)];omega
   ·exact Int.le_refl 0
  have g2:1<=fuR p.bl p.fu:=by
   unfold fuR
   cases p.bl
   ·exact h3
   ·rw[cond_true,ay (by omega) (by omega)];omega
  exact⟨⟨⟨g1,by omega⟩,g2⟩,by omega⟩
end
theorem FM{p:Psn}{m:Mov}(hl:p.zs.length<=64)(hca:0<=p.ca)(h:mkE5 p m=0):(mkP p m).ok=true:=by
 obtain⟨o,h4,h5⟩:=LZ hl hca h
 rw[(mk_p h).1]
 exact o.valid h4 h5
end
section
variable{p:Psn}
theorem KP(o:PsH p){a b pr:Int}(hc:canM p a b pr=true)(he:mkE5 p ⟨a,b,pr⟩=0):PsH (mkP p ⟨a,b,pr⟩):=
 psh (by rw[KX o hc he];exact o.hl) (by rw[(mk_p he).1];exact Dn _ _) (FM o.hl o.ca he)
theorem nT(o:PsH p){r:List Int}(h:r∈qI p):mY p r/\mkE5 p (afM r)=0:=by
 obtain⟨h1,h2⟩:=List.mem_filter.1 h
 have hr:=Br h1
 exact⟨hr,of_decide_eq_true ((Hx o hr).trans h2)⟩
theorem pZ(o:PsH p){r:List Int}(h:r∈qI p):PsH (mkP p (afM r)):=by
 obtain⟨⟨a,b,pr,rfl,hc⟩,he⟩:=nT o h
 exact KP o hc he
def gv(ck:Bool)(e:Int):Bool:=decide (e=2)||ck&&decide (e=1)
def nQ(p:Psn)(ck:Bool):List (List Int):=(qI p).filter fun r=>gv ck (endP (mkP p (afM r)))
theorem eY{β:Type}{step:β->List (List Int)->Option (List (List Int) ⊕ (List (List Int) ⊕ List (List Int)×Int))}{F:List (List Int)->Option (List (List Int)×Int)}{Fx:List (List Int)->Option (List (List Int)×Int)}(q:β->Bool)(g:β->List Int) :
  ∀ (l:List β) (s:List (List Int)),(∀ x∈l,∀ s:List (List Int),s.length<=100000->step x s=some (.inl (bif q x then s++[g x]else s)))->s.length+l.length<=100000->cI step F Fx l s=F (s++(l.filter q).map g)
 |[],s,_,_=>by simp
 |x::l,s,h,hl=>by
  rw[List.length_cons]at hl
  rw[ig (h x (by simp) s (by omega)),List.filter_cons]
  cases hq:q x with
  |true=>
   rw[cond_true,eY q g l (s++[g x]) (fun y hy=>h y (by simp[hy])) (by simp;omega)]
   simp
  |false=>
   rw[cond_false,eY q g l s (fun y hy=>h y (by simp[hy])) (by omega)]
   simp
theorem Iz(x:Int):has [2] x=some (gv false x):=by
 unfold has gv
 by_cases h:x=2
 ·have:eD [2] x 0=some (.inr (.inr true)):=by unfold eD;rw[show decide (x=([2]:List Int).getD (0:Int).toNat 0)=true from decide_eq_true h];rfl
  rw[iE this,decide_eq_true h];rfl
 ·have h1:eD [2] x 0=some (.inl 1):=by unfold eD;rw[show decide (x=([2]:List Int).getD (0:Int).toNat 0)=false from decide_eq_false h];rfl
  have h2:eD [2] x 1=some (.inr (.inl ())):=rfl
  rw[bR h1,dn h2,decide_eq_false h];rfl
theorem wH(x:Int):has [1,2] x=some (gv true x):=by
 unfold has gv
 by_cases h:x=1
 ·have:eD [1,2] x 0=some (.inr (.inr true)):=by unfold eD;rw[show decide (x=([1,2]:List Int).getD (0:Int).toNat 0)=true from decide_eq_true h];rfl
  rw[iE this,decide_eq_true h];simp
 ·have h1:eD [1,2] x 0=some (.inl 1):=by unfold eD;rw[show decide (x=([1,2]:List Int).getD (0:Int).toNat 0)=false from decide_eq_false h];rfl
  by_cases h':x=2
  ·have h2:eD [1,2] x 1=some (.inr (.inr true)):=by unfold eD;rw[show decide (x=([1,2]:List Int).getD (1:Int).toNat 0)=true from decide_eq_true h'];rfl
   rw[bR h1,iE h2,decide_eq_true h'];rfl
  ·have h2:eD [1,2] x 1=some (.inl 2):=by unfold eD;rw[show decide (x=([1,2]:List Int).getD (1:Int).toNat 0)=false from decide_eq_false h'];rfl
   have h3:eD [1,2] x 2=some (.inr (.inl ())):=rfl
   rw[bR h1,bR h2,dn h3,decide_eq_false h,decide_eq_false h'];rfl
theorem pO(o:PsH p):(qI p).length<=100000:=Nat.le_trans (List.length_filter_le _ _) (xL o)
theorem yC(o:PsH p)(ck:Bool):(((qI p).map fun r=>(afM r,mkP p (afM r))).filter fun e:Mov×Psn=>gv ck (endP e.2)).map (fun e=>iL [e.1.a,e.1.b,e.1.p])=nQ p ck:=by
 rw[List.filter_map,List.map_map]
 unfold nQ
 refine(List.map_congr_left fun r hr=>?_).trans (List.map_id _)
 obtain⟨⟨a,b,pr,rfl,_⟩,_⟩:=nT o (List.mem_filter.1 hr).1
 rfl
theorem KM(o:PsH p):eMt p=some (nQ p false,0):=by
 unfold eMt
 simp only[List.drop_zero,List.take_length,bH,decide_eq_true o.hl,aV,o.ok,Bool.not_true,cond_false,vc o]
 rw[vZ o,eY (fun e:Mov×Psn=>gv false (endP e.2)) (fun e=>iL [e.1.a,e.1.b,e.1.p]),List.nil_append,yC o]
 ·intro x hx s hs
  obtain⟨r,hr,rfl⟩:=List.mem_map.1 hx
  have o2:=pZ o hr
  have h3:decide ((s.length+1)*24<=140737488355328)=true:=by simp;omega
  unfold zf
  simp only[List.drop_zero,List.take_length,bH,h3]
  rw[Bl o2,aJ,show List.take 1 (iL [2])=[2]from rfl,Iz,aJ]
  cases gv false (endP (mkP p (afM r)))<;>rfl
 ·rw[List.length_map];exact(Nat.zero_add _).symm▸pO o
theorem KA(o:PsH p):eCk p=some (nQ p true,0):=by
 unfold eCk
 simp only[List.drop_zero,List.take_length,bH,decide_eq_true o.hl,aV,o.ok,Bool.not_true,cond_false,vc o]
 rw[vZ o,eY (fun e:Mov×Psn=>gv true (endP e.2)) (fun e=>iL [e.1.a,e.1.b,e.1.p]),List.nil_append,yC o]
 ·intro x hx s hs
  obtain⟨r,hr,rfl⟩:=List.mem_map.1 hx
  have o2:=pZ o hr
  have h3:decide ((s.length+1)*24<=140737488355328)=true:=by simp;omega
  unfold xM
  simp only[List.drop_zero,List.take_length,bH,h3]
  rw[Bl o2,aJ,show List.take 2 (iL [1,2])=[1,2]from rfl,wH,aJ]
  cases gv true (endP (mkP p (afM r)))<;>rfl
 ·rw[List.length_map];exact(Nat.zero_add _).symm▸pO o
theorem FG(o:PsH p)(ck:Bool):(nQ p ck).length<=100000:=Nat.le_trans (List.length_filter_le _ _) (pO o)
end
section
variable{p:Psn}
theorem Fv(x y:Int):imax true x y=if x<y then y else x:=by
 unfold imax
 dsimp only
 by_cases h:x<y
 ·rw[decide_eq_true h,if_pos h];rfl
 ·rw[decide_eq_false h,if_neg h];rfl
theorem Hy{n:Int}(h1:-8<=n)(h2:n<=8):absI n=if n<0 then -n else n:=by
 unfold absI
 by_cases h:n<0
 ·rw[decide_eq_true h,cond_true,ay (by omega) (by omega),if_pos h];omega
 ·rw[decide_eq_false h,cond_false,if_neg h]
theorem LM{f r a b:Int}(ha:ak f r a=true)(hb:ak f r b=true):sJ ⟨f,r⟩ a b=some (gS f a b,0):=by
 obtain⟨a0,a1,a2,a3,a4,a5,a6,a7,a8,a9⟩:=cV ha
 obtain⟨b0,b1,b2,b3,b4,b5,_⟩:=cV hb
 have pa:aK f r a=(px f a,py f a,0):=by unfold aK;rw[ha,cond_true,a0]
 have pb:aK f r b=(px f b,py f b,0):=by unfold aK;rw[hb,cond_true,b0]
 unfold sJ
 rw[pa,pb]
 have key:imax true (imax true (imax true (IntKind.i64.wrap (px f a-px f b)) (IntKind.i64.wrap (px f b-px f a))) (IntKind.i64.wrap (py f a-py f b))) (IntKind.i64.wrap (py f b-py f a))=gS f a b:=by
  unfold gS
  rw[a0,b0,show a.tmod f=px f a from rfl,show b.tmod f=px f b from rfl,ay (n:=py f a-py f b) (by omega) (by omega),ay (n:=px f a-px f b) (by omega) (by omega)]
  rw[ay (n:=px f b-px f a) (by omega) (by omega),ay (n:=py f b-py f a) (by omega) (by omega)]
  rw[Hy (n:=px f a-px f b) (by omega) (by omega),Hy (n:=py f a-py f b) (by omega) (by omega)]
  simp only[Fv]
  rw[show px f b-px f a=-(px f a-px f b) by omega,show py f b-py f a=-(py f a-py f b) by omega]
  generalize px f a-px f b=x
  generalize py f a-py f b=y
  by_cases h:(if y<0 then -y else y)<(if x<0 then -x else x)
  ·rw[decide_eq_true h,cond_true];omega
  ·rw[decide_eq_false h,cond_false];omega
 rw[<-key];rfl
theorem jY{β σ ξ α:Type}{step:β->σ->Option (σ ⊕ (ξ ⊕ α))}{F:σ->Option α}{Fx:ξ->Option α}(f:σ->β->σ)(inv:σ->Prop):∀ (l:List β) (s:σ),inv s->(∀ x∈l,∀ s,inv s->step x s=some (.inl (f s x))/\inv (f s x))->cI step F Fx l s=F (l.foldl f s)
 |[],_,_,_=>rfl
 |x::l,s,hi,h=>by
  obtain⟨h1,h2⟩:=h x (by simp) s hi
  rw[ig h1,List.foldl_cons]
  exact jY f inv l _ h2 fun y hy=>h y (by simp[hy])
def flF(f K s e:Int):Int:=bif !decide (gS f K e=1)then cr s (ushl 1 e)else s
def kgL(p:Psn):List (List Int):=(psL p (aP p.zs p.bl)).filter (legF p)
theorem Lt(o:PsH p):eFl p=some ((bitL ((kgL p).foldl tgF 0)).foldl (flF p.f (aP p.zs p.bl)) ((kgL p).foldl tgF 0),0):=by
 obtain⟨hk,hv⟩:=qh o
 obtain⟨hu,hb⟩:=HM o (kgL p) 0 (fun r h=>wq h) uk_0
 unfold eFl
 simp only[List.drop_zero,List.take_length,bH,decide_eq_true o.hl,aV,o.ok,Bool.not_true,cond_false]
 rw[hk,vw o hv,aJ]
 dsimp only
 rw[show ((psL p (aP p.zs p.bl)).filter (legF p))=kgL p from rfl,pW hu,jY (flF p.f (aP p.zs p.bl)) Uk _ _ hu]
 intro x hx s hs
 obtain⟨hx0,hx1,hx2⟩:=xn hx
 rw[hb,bt_0,Bool.false_or,decide_eq_true_eq]at hx2
 obtain⟨r,hr,hrx⟩:=List.mem_map.1 hx2
 have hxv:=(IZ o (wq hr)).1
 rw[hrx,Int.toNat_of_nonneg hx0]at hxv
 have h0:decide (0<=x)=true:=decide_eq_true hx0
 refine⟨?_,?_⟩
 ·unfold Hj
  simp only[List.drop_zero,List.take_length,hk]
  rw[LM hv hxv,aJ,h0]
  unfold flF
  cases decide (gS p.f (aP p.zs p.bl) x=1)<;>rfl
 ·unfold flF
  cases decide (gS p.f (aP p.zs p.bl) x=1)
  ·exact iu _ _
  ·exact hs
end
end Go.Ab
namespace Go.Ab
open Go.Proofs
end Go.Ab
namespace Go.Ab
open Go.Proofs
section
variable{p:Psn}
theorem xG{β:Type}(c:β->Bool):∀ (l:List β) (acc:Bool),l.foldl (fun acc x=>acc||c x) acc=(acc||l.any c)
 |[],acc=>by simp
 |x::l,acc=>by rw[List.foldl_cons,xG c l,List.any_cons,Bool.or_assoc]
def DL(m:Mov)(x:List Int):Bool:=decide (x.getD 0 0=m.a)&&(decide (x.getD 1 0=m.b)&&decide (x.getD 2 0=m.p))
theorem Ma{l:List (List Int)}{n:Int}{e:Mov×Psn}(hlen:l.length<=100000){F:Bool->Option (Unit ⊕ Unit ⊕ Bool)}:dg (dZ (l,n) e) F 1000000 (false,0)=F (l.any (DL e.1)):=by
 refine(gq (step:=dZ (l,n) e) l (fun acc x=>acc||DL e.1 x) (fun s=>s) (fun _ _=>True) ?_ ?_ l.length 1000000 0 false (by omega) (by omega) trivial).trans ?_
 ·intro j x s hx _
  have hj:=(List.getElem?_eq_some_iff.1 hx).1
  have e1:l.getD (j:Int).toNat []=x:=by simp[List.getD,hx]
  have h1:decide ((j:Int)<Int.ofNat l.length)=true:=by simp;omega
  have h2:decide (0<=(j:Int))=true:=by simp
  have ew:IntKind.i64.wrap ((j:Int)+1)=((j+1:Nat):Int):=ay (by omega) (by omega)
  refine⟨?_,trivial⟩
  unfold dZ
  simp only[e1,h1,h2,Bool.and_self,cond_true,aV,ew]
  rfl
 ·intro s _
  have h1:decide ((l.length:Int)<Int.ofNat l.length)=false:=by simp
  unfold dZ
  simp only[h1,cond_false]
 ·rw[List.drop_zero,xG,Bool.false_or]
theorem Ke(o:PsH p){r:List Int}(h:r∈qI p):(nQ p false).any (DL (afM r))=decide (endP (mkP p (afM r))=2):=by
 obtain⟨⟨a,b,pr,rfl,_⟩,_⟩:=nT o h
 have hg:∀ e,gv false e=decide (e=2):=fun e=>by unfold gv;simp
 by_cases he:endP (mkP p (afM [a,b,pr]))=2
 ·rw[decide_eq_true he,List.any_eq_true]
  refine⟨[a,b,pr],List.mem_filter.2 ⟨h,by rw[hg];exact decide_eq_true he⟩,?_⟩
  unfold DL
  rw[Bool.and_eq_true,Bool.and_eq_true]
  exact⟨decide_eq_true rfl,decide_eq_true rfl,decide_eq_true rfl⟩
 ·rw[decide_eq_false he]
  refine Bool.eq_false_iff.2 fun hc=>?_
  obtain⟨x,hx,hr⟩:=List.any_eq_true.1 hc
  obtain⟨hx1,hx2⟩:=List.mem_filter.1 hx
  obtain⟨⟨a',b',pr',rfl,_⟩,_⟩:=nT o hx1
  unfold DL at hr
  rw[Bool.and_eq_true,Bool.and_eq_true]at hr
  obtain⟨e1,e2,e3⟩:=hr
  have f1:a'=a:=of_decide_eq_true e1
  have f2:b'=b:=of_decide_eq_true e2
  have f3:pr'=pr:=of_decide_eq_true e3
  clear e1 e2 e3
  subst f1;subst f2;subst f3
  rw[hg]at hx2
  exact he (of_decide_eq_true hx2)
theorem JG(o:PsH p){r:List Int}(h:r∈qI p):lz p (nQ p false,0) dZ (afM r,mkP p (afM r)) ()=some (.inl ()):=by
 have o2:=pZ o h
 unfold lz
 rw[Ma (FG o false)]
 simp only[List.drop_zero,List.take_length,bH]
 rw[CQ o2,aJ,Ke o h]
 have hb:(mkP p (afM r)).bl=!p.bl:=by rw[(mk_p (nT o h).2).1]
 rw[hb]
 unfold resW
 by_cases e2:endP (mkP p (afM r))=2
 ·rw[decide_eq_true e2];cases p.bl<;>rfl
 ·rw[decide_eq_false e2]
  by_cases e3:endP (mkP p (afM r))=3
  ·rw[decide_eq_true e3];cases p.bl<;>rfl
  ·rw[decide_eq_false e3];cases p.bl<;>rfl
theorem Js(p:Psn):decide (Int.ofNat (nQ p true).length<Int.ofNat (nQ p false).length)=false:=by
 refine decide_eq_false ?_
 have key:∀ l:List (List Int),(l.filter fun r=>gv false (endP (mkP p (afM r)))).length<=(l.filter fun r=>gv true (endP (mkP p (afM r)))).length:=by
  intro l
  induction l with
  |nil=>simp
  |cons x l ih=>
   rw[List.filter_cons,List.filter_cons]
   have himp:gv false (endP (mkP p (afM x)))=true->gv true (endP (mkP p (afM x)))=true:=by
    unfold gv
    intro h
    simp only[Bool.false_and,Bool.or_false]at h
    rw[h];rfl
   cases h1:gv false (endP (mkP p (afM x))) with
   |true=>rw[himp h1];simpa using ih
   |false=>
    cases gv true (endP (mkP p (afM x))) with
    |true=>simp only[if_true,List.length_cons];simp;omega
    |false=>simpa using ih
 have:=key (qI p)
 unfold nQ
 simp only[Int.ofNat_eq_natCast]
 omega
theorem Mq(o:PsH p)(h:(allL p).any (legF p)=false):kgL p=[]:=by
 have hv:=(qh o).2
 have hb:=aE hv
 have hvz:aP p.zs p.bl<p.zs.length:=by
  have hk:=o.ok
  simp only[Psn.ok,Bool.and_eq_true]at hk
  rw[(bL hk.1.1.1.1.1).2]
  simp only[ak,Bool.and_eq_true,decide_eq_true_eq]at hv
  omega
 refine List.eq_nil_iff_forall_not_mem.2 fun r hr=>?_
 obtain⟨h1,h2⟩:=List.mem_filter.1 hr
 have hm:r∈allL p:=by
  unfold allL
  exact List.mem_flatMap.2 ⟨aP p.zs p.bl,List.mem_map.2 ⟨(aP p.zs p.bl).toNat,List.mem_range.2 (by omega),by show ((aP p.zs p.bl).toNat:Int)=_;omega⟩,h1⟩
 have:(allL p).any (legF p)=true:=List.any_eq_true.2 ⟨r,hm,h2⟩
 rw[h]at this
 cases this
theorem zv(hca:0<=p.ca):EC p=some true:=by
 unfold EC
 simp only[List.drop_zero,List.take_length,bH]
 rw[show qJ p=some (decide (Int.ofNat p.zs.length<=64))from rfl,aJ]
 by_cases hl:p.zs.length<=64
 ·have h1:decide (Int.ofNat p.zs.length<=64)=true:=by simp;omega
  have h2:decide (p.zs.length<=64)=true:=by simpa using hl
  rw[h1,h2,CZ hl hca]
  simp only[Bool.not_true,Bool.false_or,Bool.or_true,aV]
  cases hok:p.ok with
  |false=>rfl
  |true=>
   have o:=psh hl hca hok
   rw[Bj o,aJ,CQ o,aJ,Bt o,aJ,Lt o,aJ]
   have hck:decide ((aZ p.f p.r p.zs p.bl).fst=0)=!chkL p.f p.r p.zs p.bl:=by rw[<-HC o,Bool.not_not]
   have hck2:(aZ p.f p.r p.zs p.bl).snd=0:=by unfold aZ;rw[(qh o).1];rfl
   have hfl:(allL p).any (legF p)=false->(bitL ((kgL p).foldl tgF 0)).foldl (flF p.f (aP p.zs p.bl)) ((kgL p).foldl tgF 0)=0:=fun h=>by rw[Mq o h];rfl
   have hR:cI (lz p (nQ p false,0) dZ) (fun _=>some true) (fun _=>none) (afLs p) ()=some true:=by
    rw[vZ o,jY (fun _ _=>()) (fun _=>True) _ _ trivial]
    intro x hx s _
    obtain⟨r,hr,rfl⟩:=List.mem_map.1 hx
    exact⟨JG o hr,trivial⟩
   rw[KM o,aJ,KA o,aJ,hck,hck2]
   dsimp only
   rw[Js,vc o,hR]
   unfold endP
   generalize (bitL ((kgL p).foldl tgF 0)).foldl (flF p.f (aP p.zs p.bl)) ((kgL p).foldl tgF 0)=Fl at hfl ⊢
   generalize (allL p).any (legF p)=a at hfl ⊢
   generalize chkL p.f p.r p.zs p.bl=c
   cases a with
   |false=>rw[hfl rfl];cases c<;>cases p.bl<;>rfl
   |true=>cases c<;>cases p.bl<;>rfl
 ·have h1:decide (Int.ofNat p.zs.length<=64)=false:=by simp;omega
  rw[h1];rfl
end
end Go.Ab
