/- Contracts of the functions that the laws reach, and plain laws of what they compute (text G13); no condition. -/
import Derived.Test.YtcmhemipmmckoaaGreatDoorG10
import Derived.Test.YtcmhemipmmckoaaGreatDoorG8
set_option maxRecDepth 100000
set_option maxHeartbeats 4000000
namespace Go.Ab
open Go.Proofs
theorem IS(p:Int)(bl:Bool):ownL p bl=isP p bl:=by
 unfold ownL isP
 have h:p<0\/p=0\/0<p:=by omega
 rcases h with h|h|h
 ·have h1:¬ p=0:=by omega
  have h2:¬ 0<p:=by omega
  cases bl<;>simp[h,h1,h2]
 ·subst h;cases bl<;>rfl
 ·have h1:¬ p=0:=by omega
  have h2:¬ p<0:=by omega
  cases bl<;>simp[h,h1,h2]
theorem uN{ca:Int}(h:0<=ca/\ca<=15){bit:Int}(hb:bit=1\/bit=2\/bit=4\/bit=8):decide ((IntKind.u8.wrap (ca.tdiv bit)).tmod 2=1)=!decide (fq ca bit=0):=by
 obtain⟨h1,h2⟩:=h
 have:ca=0\/ca=1\/ca=2\/ca=3\/ca=4\/ca=5\/ca=6\/ca=7\/ca=8\/ca=9\/ca=10\/ca=11\/ca=12\/ca=13\/ca=14\/ca=15:=by omega
 rcases hb with rfl|rfl|rfl|rfl<;>rcases this with rfl|rfl|rfl|rfl|rfl|rfl|rfl|rfl|rfl|rfl|rfl|rfl|rfl|rfl|rfl|rfl<;>decide
theorem KB{f r:Int}{zs:List Int}:(iM f r zs 1=!((!is88 f r||!decide (zs.getD 4 0=ofP 6 false))||!decide (zs.getD 7 0=ofP 4 false)))/\(iM f r zs 2=!((!is88 f r||!decide (zs.getD 4 0=ofP 6 false))||!decide (zs.getD 0 0=ofP 4 false)))/\(iM f r zs 4=!((!is88 f r||!decide (zs.getD 60 0=ofP 6 true))||!decide (zs.getD 63 0=ofP 4 true)))/\(iM f r zs 8=!((!is88 f r||!decide (zs.getD 60 0=ofP 6 true))||!decide (zs.getD 56 0=ofP 4 true))):=by
 have e1:ofP 6 false=6:=by decide
 have e2:ofP 4 false=4:=by decide
 have e3:ofP 6 true=-6:=by decide
 have e4:ofP 4 true=-4:=by decide
 rw[e1,e2,e3,e4]
 unfold iM is88
 cases decide (f=8)<;>cases decide (r=8)<;>simp
theorem cast_eq{f r:Int}{zs:List Int}{ca:Int}(h0:0<=ca):cV f r zs ca=fy f r zs ca:=by
 unfold cV fy
 rcases Int.lt_or_le 15 ca with h|h
 ·have h2:¬ ca<16:=by omega
  simp[h,h2]
 ·have h2:ca<16:=by omega
  have h1:¬ 15<ca:=by omega
  obtain⟨a1,a2,a3,a4⟩:=KB (f:=f) (r:=r) (zs:=zs)
  have hx:0<=ca/\ca<=15:=⟨h0,h⟩
  simp only[rXL,rtX,uN hx (.inl rfl),uN hx (.inr (.inl rfl)),uN hx (.inr (.inr (.inl rfl))),uN hx (.inr (.inr (.inr rfl))),a1,a2,a3,a4,Bool.not_not,decide_eq_true h2,decide_eq_false h1,cond_false,Bool.and_true,Bool.not_or,Bool.not_and]
theorem pL(p:Int->Bool):∀ (l:List Int) (k:Int),(cP p l k=-1/\∀ i,i<l.length->p (l.getD i 0)=false)\/(∃ j,j<l.length/\cP p l k=k+(j:Nat)/\p (l.getD j 0)=true/\∀ i,i<j->p (l.getD i 0)=false)
 |[],k=>.inl ⟨rfl,fun i h=>by simp at h⟩
 |x::l,k=>by
  rw[cP]
  cases hx:p x with
  |true=>right;exact⟨0,by simp,by simp,by simpa using hx,fun i h=>by omega⟩
  |false=>
   rw[cond_false]
   rcases pL p l (k+1) with⟨h1,h2⟩|⟨j,h1,h2,h3,h4⟩
   ·left
    refine⟨h1,fun i hi=>?_⟩
    cases i with
    |zero=>simpa using hx
    |succ i=>have:=h2 i (by simpa using hi);simpa using this
   ·right
    refine⟨j+1,by simpa using h1,by rw[h2];push_cast;omega,by simpa using h3,fun i hi=>?_⟩
    cases i with
    |zero=>simpa using hx
    |succ i=>have:=h4 i (by omega);simpa using this
theorem nH{c:Int->Bool}:∀ (n:Nat),(∀ i:Nat,i<n->c i=false)->cz c id n=[]
 |0,_=>rfl
 |n+1,h=>by rw[eF,h n (by omega),cond_false];exact nH n fun i hi=>h i (by omega)
theorem qE{c:Int->Bool}{a:Nat}(ha:c a=true):∀ (n:Nat),a<n->(∀ i:Nat,i<n->c i=true->i=a)->cz c id n=[(a:Int)]
 |0,h,_=>by omega
 |n+1,h,hu=>by
  rw[eF]
  by_cases e:n=a
  ·subst e
   rw[ha,cond_true,nH n fun i hi=>?_]
   ·rfl
   ·cases hc:c i with
    |false=>rfl
    |true=>have:=hu i (by omega) hc;omega
  ·have:c n=false:=by
    cases hc:c n with
    |false=>rfl
    |true=>exact absurd (hu n (by omega) hc) e
   rw[this,cond_false]
   exact qE ha n (by omega) fun i hi=>hu i (by omega)
theorem LZ(bl:Bool):w8 (IntKind.i64.wrap (6*sdI bl))=kgP bl:=by cases bl<;>decide
theorem my{zs:List Int}{p:Int->Bool}{k:Nat}:(zs.drop k).any p=true↔∃ i,k<=i/\i<zs.length/\p (zs.getD i 0)=true:=by
 rw[List.any_eq_true]
 constructor
 ·rintro⟨x,hx,hp⟩
  obtain⟨i,hi,rfl⟩:=List.mem_iff_getElem.1 hx
  rw[List.getElem_drop]at hp
  rw[List.length_drop]at hi
  exact⟨k+i,by omega,by omega,by simpa[List.getD,show k+i<zs.length by omega]using hp⟩
 ·rintro⟨i,h1,h2,h3⟩
  refine⟨zs.getD i 0,?_,h3⟩
  rw[List.mem_iff_getElem]
  refine⟨i-k,by rw[List.length_drop];omega,?_⟩
  rw[List.getElem_drop]
  simp[List.getD,h2,show k+(i-k)=i by omega]
theorem zy(zs:List Int)(bl:Bool)(hl:zs.length<=64):(nr zs bl=true/\aV zs bl=-1)\/(nr zs bl=false/\aV zs bl=gB zs bl/\0<=gB zs bl/\gB zs bl<zs.length/\zs.getD (gB zs bl).toNat 0=kgP bl/\∀ i:Nat,i<zs.length->zs.getD i 0=kgP bl->(i:Int)=gB zs bl):=by
 unfold aV nr
 rw[LZ]
 rcases pL (isV (kgP bl)) zs 0 with⟨h1,h2⟩|⟨j,h1,h2,h3,h4⟩
 ·left
  have hn:iC zs (kgP bl)=[]:=nH _ fun i hi=>by
   have:=h2 i hi
   simp only[isV,decide_eq_false_iff_not]at this
   simp only[lj,Int.toNat_natCast,decide_eq_false_iff_not]
   exact fun e=>this e.symm
  rw[hn]
  refine⟨?_,rfl⟩
  rw[show gB zs bl=-1 from h1];rfl
 ·have hK:gB zs bl=(j:Int):=by unfold gB;rw[h2];omega
  simp only[isV,decide_eq_true_eq]at h3
  rw[hK,show IntKind.i64.wrap ((j:Int)+1)=((j+1:Nat):Int) by rw[aI (by omega) (by omega)];omega,Int.toNat_natCast,show decide ((j:Int)<0)=false by simp,Bool.false_or]
  cases ha:(zs.drop (j+1)).any (isV (kgP bl)) with
  |true=>
   left
   refine⟨rfl,?_⟩
   obtain⟨i,g1,g2,g3⟩:=my.1 ha
   simp only[isV,decide_eq_true_eq]at g3
   have m1:(j:Int)∈iC zs (kgP bl):=eH.2 ⟨by omega,by omega,by simp[lj,h3]⟩
   have m2:(i:Int)∈iC zs (kgP bl):=eH.2 ⟨by omega,by omega,by simp[lj,g3]⟩
   cases hd:decide (((iC zs (kgP bl)).length:Int)=1) with
   |false=>rfl
   |true=>
    have:(iC zs (kgP bl)).length=1:=by have:=of_decide_eq_true hd;omega
    obtain⟨x,hx⟩:=List.length_eq_one_iff.1 this
    rw[hx]at m1 m2
    simp at m1 m2
    omega
  |false=>
   right
   have hno:∀ i:Nat,i<zs.length->zs.getD i 0=kgP bl->i=j:=by
    intro i hi he
    rcases Nat.lt_trichotomy i j with g|g|g
    ·have:=h4 i g
     simp only[isV,decide_eq_false_iff_not]at this
     exact absurd he.symm this
    ·exact g
    ·have:(zs.drop (j+1)).any (isV (kgP bl))=true:=my.2 ⟨i,by omega,hi,by simp only[isV,decide_eq_true_eq];exact he.symm⟩
     rw[ha]at this;cases this
   have hone:iC zs (kgP bl)=[(j:Int)]:=qE (by simp[lj,h3]) _ h1 fun i hi hc=>hno i hi (by simpa[lj]using hc)
   refine⟨rfl,by rw[hone];rfl,by omega,by omega,by rw[h3,Int.toNat_natCast],fun i hi he=>by rw[hno i hi he]⟩
theorem mj{f r:Int}{zs:List Int}{bl:Bool}(h:aW f r zs=true)(hl:zs.length<=64):(aV zs bl<0/\bW f r zs bl=(0,9))\/(bW f r zs bl=(aV zs bl,0)/\aj f r (aV zs bl)=true/\aV zs bl=gB zs bl):=by
 rcases zy zs bl hl with⟨h1,h2⟩|⟨h1,h2,h3,h4,_⟩
 ·left;exact⟨by rw[h2];decide,by unfold bW;rw[h,h1];rfl⟩
 ·right;exact⟨by unfold bW;rw[h,h1,h2];rfl,(Cl h).2 (by rw[h2];exact⟨h3,h4⟩),h2⟩
end Go.Ab
namespace Go.Ab
open IntKind
open Go.Proofs
theorem yD{f r:Int}{zs:List Int}{to:Int}{bl:Bool}(h:aW f r zs=true)(hl:zs.length<=64)(ht:aj f r to=true):decide (attR f r zs to bl=0)=decide (((attL f r zs to bl).length:Int)=0):=by
 obtain⟨hu,hb⟩:=Ly (bl:=bl) h hl ht
 rw[decide_eq_decide,rR hu]
 constructor
 ·intro h0
  have:attL f r zs to bl=[]:=List.eq_nil_iff_forall_not_mem.2 fun x hx=>by
   have hx':=rF.1 hx
   have:=h0 x.toNat (by omega)
   rw[hb,show ((x.toNat:Nat):Int)=x by omega]at this
   simp[hx]at this
  rw[this];rfl
 ·intro h0 n _
  have:attL f r zs to bl=[]:=List.eq_nil_of_length_eq_zero (by omega)
  rw[hb,this];simp
theorem zk{f r:Int}{zs:List Int}{bl:Bool}(h:aW f r zs=true)(hl:zs.length<=64)(hk:(bW f r zs bl).2=0):chkL f r zs bl=chkB f r zs bl:=by
 rcases mj (bl:=bl) h hl with⟨_,h2⟩|⟨h1,h2,_⟩
 ·rw[h2]at hk;cases hk
 ·unfold chkL chkB bM
  rw[h1]
  simp only[decide_true,cond_true]
  rw[yD h hl h2]
  have:(0:Int)<=((attL f r zs (aV zs bl) (!bl)).length:Int):=Int.natCast_nonneg _
  by_cases h0:((attL f r zs (aV zs bl) (!bl)).length:Int)=0
  ·simp[h0]
  ·have:0<((attL f r zs (aV zs bl) (!bl)).length:Int):=by omega
   rw[decide_eq_false h0,decide_eq_true this];rfl
theorem Gl{f r:Int}{zs:List Int}{bl:Bool}(hl:zs.length<=64):(aC f r zs&&fI f r zs bl)=(aW f r zs&&!decide (aV zs false<0)&&!decide (aV zs true<0)&&!chkL f r zs (!bl)):=by
 cases ho:aW f r zs with
 |false=>
  have:fI f r zs bl=false:=by unfold fI bW;rw[ho];simp
  rw[this];simp
 |true=>
  have hv:=(bn ho).2.2.1
  rw[hv]
  simp only[Bool.true_and]
  have key:∀ b,decide (aV zs b<0)=!decide ((bW f r zs b).2=0):=fun b=>by
   rcases mj (bl:=b) ho hl with⟨h1,h2⟩|⟨h1,h2,_⟩
   ·rw[h2];simp[h1]
   ·rw[h1];have:=(aS h2).1;simp;omega
  rw[key,key]
  unfold fI
  have hch:∀ b,(bM f r zs b).2=0↔(bW f r zs b).2=0:=fun b=>by
   unfold bM
   by_cases h:(bW f r zs b).2=0
   ·simp[h]
   ·simp[h]
  cases hk1:decide ((bW f r zs bl).2=0) with
  |false=>cases bl<;>rw[hk1]<;>simp
  |true=>
   cases hk2:decide ((bW f r zs (!bl)).2=0) with
   |false=>
    have:decide ((bM f r zs (!bl)).2=0)=false:=by rw[decide_eq_false_iff_not,hch];exact of_decide_eq_false hk2
    rw[this]
    cases bl<;>simp only[Bool.not_true,Bool.not_false]at hk2 ⊢<;>rw[hk2]<;>simp
   |true=>
    have h1:decide ((bM f r zs (!bl)).2=0)=true:=by rw[decide_eq_true_eq,hch];exact of_decide_eq_true hk2
    rw[h1,zk ho hl (of_decide_eq_true hk2)]
    unfold chkB
    cases bl<;>simp only[Bool.not_true,Bool.not_false]at hk2 ⊢<;>rw[hk1,hk2]<;>simp
theorem GF{zs:List Int}{p:Int->Bool}:zs.any p=true↔∃ i,i<zs.length/\p (zs.getD i 0)=true:=by
 have:=my (zs:=zs) (p:=p) (k:=0)
 rw[List.drop_zero]at this
 rw[this];exact⟨fun⟨i,_,h⟩=>⟨i,h⟩,fun⟨i,h⟩=>⟨i,by omega,h⟩⟩
theorem Ij{zs:List Int}{p:Int->Bool}{k:Nat}:(zs.take k).any p=true↔∃ i,i<k/\i<zs.length/\p (zs.getD i 0)=true:=by
 rw[GF]
 constructor
 ·rintro⟨i,h1,h2⟩
  rw[List.length_take]at h1
  exact⟨i,by omega,by omega,by simpa[List.getD,List.getElem?_take,show i<k by omega]using h2⟩
 ·rintro⟨i,h1,h2,h3⟩
  exact⟨i,by rw[List.length_take];omega,by simpa[List.getD,List.getElem?_take,h1]using h3⟩
theorem Hu{f r:Int}{zs:List Int}(h:aW f r zs=true)(_hl:zs.length<=64):oa f zs=!vk f r zs:=by
 obtain⟨hv,hn,hbd,hp⟩:=bn h
 have hb:=cZ hv
 have hpw:∀ i:Nat,i<zs.length->(pwL f r zs i=true↔(zs.getD i 0=1/\zs.length-f.toNat<=i)\/(zs.getD i 0=-1/\i<f.toNat)):=by
  intro i hi
  have hvi:aj f r (i:Int)=true:=(bQ hbd).2 ⟨by omega,by omega⟩
  obtain⟨hd,x0,x1,y0,y1,he,_⟩:=fB hvi
  have hpc:=mB h (i:=(i:Int)) (by omega) (by omega)
  have hl0:gj r (decide ((1:Int)<0))=r-1:=aI (by omega) (by omega)
  have hl1:gj r (decide ((-1:Int)<0))=0:=rfl
  have hmul:f*r=(r-1)*f+f:=by rw[Int.sub_mul,Int.mul_comm r f];omega
  rw[Int.toNat_natCast]at hpc
  unfold pwL
  rw[hd,Int.toNat_natCast,jz hpc]
  simp only[Bool.and_eq_true,decide_eq_true_eq]
  constructor
  ·rintro⟨h1,h2⟩
   have:zs.getD i 0=1\/zs.getD i 0=-1:=by omega
   rcases this with e|e
   ·left
    rw[e,hl0]at h2
    rw[h2]at he
    exact⟨e,by omega⟩
   ·right
    rw[e,hl1]at h2
    rw[h2]at he
    exact⟨e,by omega⟩
  ·rintro(⟨e,h2⟩|⟨e,h2⟩)
   ·rw[e,hl0]
    refine⟨by decide,?_⟩
    have h5:¬ py f i<r-1:=by
     intro h6
     have:(py f i+1)*f<=(r-1)*f:=Int.mul_le_mul_of_nonneg_right (by omega) (by omega)
     rw[Int.add_mul]at this
     omega
    omega
   ·rw[e,hl1]
    refine⟨by decide,?_⟩
    have h5:¬ 1<=py f i:=by
     intro h6
     have:1*f<=py f i*f:=Int.mul_le_mul_of_nonneg_right h6 (by omega)
     omega
    omega
 have hiff:vk f r zs=true↔((zs.drop (zs.length-f.toNat)).any (isV 1)=true\/(zs.take f.toNat).any (isV (-1))=true):=by
  rw[my,Ij]
  unfold vk
  rw[List.any_eq_true]
  constructor
  ·rintro⟨i,hi,hp⟩
   have hi:=List.mem_range.1 hi
   rcases(hpw i hi).1 hp with⟨e,g⟩|⟨e,g⟩
   ·left;exact⟨i,g,hi,by rw[e];rfl⟩
   ·right;exact⟨i,g,hi,by rw[e];rfl⟩
  ·rintro(⟨i,g1,g2,g3⟩|⟨i,g1,g2,g3⟩)
   ·simp only[isV,decide_eq_true_eq]at g3
    exact⟨i,List.mem_range.2 g2,(hpw i g2).2 (.inl ⟨g3.symm,g1⟩)⟩
   ·simp only[isV,decide_eq_true_eq]at g3
    exact⟨i,List.mem_range.2 g2,(hpw i g2).2 (.inr ⟨g3.symm,g1⟩)⟩
 unfold oa
 cases h1:(zs.drop (zs.length-f.toNat)).any (isV 1)<;>cases h2:(zs.take f.toNat).any (isV (-1))<;>rw[h1,h2]at hiff<;>cases h3:vk f r zs<;>rw[h3]at hiff<;>simp at hiff ⊢
theorem NK{f r n k:Int}{zs:List Int}(hbd:aC f r zs=true)(hn:aj f r n=true)(_hk:k=1\/k=-1)(hb:aj f r (n+k*f)=true):px f (n+k*f)=px f n/\py f (n+k*f)=py f n+k:=by
 obtain⟨_,a1,a2,a3,a4,a5,a6⟩:=fB hn
 obtain⟨_,b1,b2,b3,b4,b5,_⟩:=fB hb
 have:=hbd
 refine xl (f:=f) (by omega) b1 b2 a1 a2 ?_
 rw[b5,Int.add_mul];omega
theorem KO{f r:Int}{zs:List Int}{bl:Bool}{pa ha:Int}(hbd:aC f r zs=true):pasL f r zs bl pa ha=kV f r zs bl pa ha:=by
 unfold pasL kV
 cases h1:decide (pa=-1) with
 |true=>rfl
 |false=>
  rw[cond_false,Bool.false_or]
  by_cases h2:6<=r
  ·have e2:decide (r<6)=false:=by simp;omega
   rw[e2,decide_eq_true h2]
   cases h3:decide (ha=0) with
   |false=>simp
   |true=>
    cases h4:aj f r pa with
    |false=>simp
    |true=>
     have hv:=(bh hbd).1
     have hb:=cZ hv
     obtain⟨hd,x0,x1,y0,y1,he,_⟩:=fB h4
     have hm:pa.tmod f=px f pa:=rfl
     have hr2:eC r (!bl) 2=(bif bl then 1 else r-2):=by
      unfold eC;cases bl
      ·exact aI (by omega) (by omega)
      ·rfl
     have hr4:eC r (!bl) 4=(bif bl then 3 else r-4):=by
      unfold eC;cases bl
      ·exact aI (by omega) (by omega)
      ·rfl
     have hk:decide (i64.wrap (2*i64.wrap (pa.tdiv f))=i64.wrap (eC r (!bl) 2+eC r (!bl) 4))=decide (i64.wrap (pa.tdiv f)=rkP r bl):=by
      rw[hd,hr2,hr4,decide_eq_decide]
      rw[aI (n:=2*py f pa) (by omega) (by omega)]
      unfold rkP
      cases bl
      ·simp only[cond_false]
       rw[aI (by omega) (by omega),aI (by omega) (by omega)];omega
      ·simp only[cond_true]
       rw[aI (by omega) (by omega)];omega
     rw[hk]
     cases h5:decide (i64.wrap (pa.tdiv f)=rkP r bl) with
     |false=>simp
     |true=>
      obtain⟨n1,n2,n3,n4,n5,n6,n7⟩:=jl (bl:=bl) hbd h2 h4 (of_decide_eq_true h5)
      have hlt:=(bQ hbd).1 h4
      have hm1:aj f r (pa+-1*f)=true:=(bQ hbd).2 ⟨by omega,by omega⟩
      have hp1:aj f r (pa+1*f)=true:=(bQ hbd).2 ⟨by omega,by omega⟩
      have hy:py f pa=(bif bl then 2 else r-3):=by
       have:=of_decide_eq_true h5
       rw[hd]at this
       rw[this];unfold rkP;cases bl
       ·exact aI (by omega) (by omega)
       ·rfl
      have hnum:∀ {k R:Int},(k=1\/k=-1)->R=py f pa+k->aj f r (pa+k*f)=true->numR f r (pa.tmod f) R=pa+k*f:=by
       intro k R hk hR hvk
       obtain⟨p1,p2⟩:=NK hbd h4 hk hvk
       have ho:onB f r (pa.tmod f) R=true:=by
        obtain⟨_,_,_,q3,q4,_⟩:=fB hvk
        rw[p2,<-hR]at q3 q4
        exact kB (by rw[hm];exact x0) (by rw[hm];exact x1) q3 q4
       exact(kT hv ho hvk).2 ⟨by rw[p1,hm],by rw[p2,hR]⟩
      have hpc:pI 1 (!bl)=ofP 1 (!bl):=rfl
      rw[hr2,hr4,hpc]
      cases bl
      ·simp only[cond_false]at hy ⊢
       have q1:=hnum (k:=1) (R:=r-2) (.inl rfl) (by omega) hp1
       have q2:=hnum (k:=-1) (R:=r-4) (.inr rfl) (by omega) hm1
       simp only[q1,q2,upP,cond_false,n5,n6,n7]
       have z1:pa+1*f=pa+f:=by omega
       have z2:pa+-1*f=pa-f:=by omega
       simp only[z1,z2]
       simp[Bool.and_assoc]
      ·simp only[cond_true]at hy ⊢
       have q1:=hnum (k:=-1) (R:=1) (.inr rfl) (by omega) hm1
       have q2:=hnum (k:=1) (R:=3) (.inl rfl) (by omega) hp1
       simp only[q1,q2,upP,cond_true,n3,n4]
       have z1:pa+1*f=pa+f:=by omega
       have z2:pa+-1*f=pa-f:=by omega
       simp only[z1,z2]
       simp[Bool.and_assoc]
  ·have e2:decide (r<6)=true:=by simp;omega
   rw[e2,decide_eq_false h2];simp
theorem sY{p:Psn}(hl:p.zs.length<=64)(hca:0<=p.ca):lN p=p.ok:=by
 have hk:=Gl (f:=p.f) (r:=p.r) (bl:=p.bl) hl
 unfold lN Psn.ok
 cases ho:aW p.f p.r p.zs with
 |false=>
  rw[ho]at hk
  rw[hk];simp
 |true=>
  rw[ho]at hk
  rw[hk,Hu ho hl,cast_eq hca,KO (bn ho).2.2.1]
  cases decide (aV p.zs false<0)<;>cases decide (aV p.zs true<0)<;>cases chkL p.f p.r p.zs (!p.bl)<;>cases vk p.f p.r p.zs<;>simp[cntB,Bool.and_assoc]
end Go.Ab
namespace Go.Ab
open Go.Proofs
theorem Kn{f r:Int}{x K:Int}(hx:aj f r x=true)(hK:aj f r K=true)(hl:(bw f x K).2.2=true):Uk (bS f r x K).1/\∀ m:Nat,bt (bS f r x K).1 m=decide ((m:Int)∈bT f r x K):=by
 rw[(Ik hx hK hl).2]
 obtain⟨h1,h2⟩:=qc (bT f r x K) 0 (fun y hy=>⟨(aS ((zj hx).2 y hy)).1,(aS ((zj hx).2 y hy)).2.2⟩) uk_0
 exact⟨h1,fun m=>by rw[h2,bt_0,Bool.false_or]⟩
theorem Gg{f r:Int}{zs:List Int}{j v:Int}(h:aW f r zs=true)(hv:-6<=v/\v<=6):aW f r (zs.set j.toNat v)=true:=by
 simp only[aW,aC,Bool.and_eq_true,Bool.not_eq_true',List.any_eq_false]at h ⊢
 rw[List.length_set]
 refine⟨⟨h.1.1,fun p hp=>?_⟩,fun p hp=>?_⟩
 ·rcases List.mem_or_eq_of_mem_set hp with hp|rfl
  ·exact h.1.2 p hp
  ·simp[badP,okP];omega
 ·rcases List.mem_or_eq_of_mem_set hp with hp|rfl
  ·exact h.2 p hp
  ·simp[norP,orP];omega
end Go.Ab
namespace Go.Ab
open IntKind
open Go.Proofs
theorem GY{n:Int}(h1:-128<=n)(h2:n<=127):w8 n=n:=by
 show IntKind.wrap .i8 n=n
 unfold IntKind.wrap IntKind.bits IntKind.signed
 simp only[Bool.true_and,decide_eq_true_eq]
 split<;>omega
theorem jm{f r:Int}{zs:List Int}(h:aW f r zs=true){i:Int}(h0:0<=i)(h1:i<zs.length):absP (zs.getD i.toNat 0)=aY (zs.getD i.toNat 0):=by
 have hp:=mB h h0 h1
 have hw:w8 (0-zs.getD i.toNat 0)=0-zs.getD i.toNat 0:=GY (by omega) (by omega)
 rw[jz hp]
 unfold absP imax
 rw[hw]
 by_cases hn:zs.getD i.toNat 0<0-zs.getD i.toNat 0
 ·simp only[hn,decide_true,cond_true];omega
 ·simp only[hn,decide_false,cond_false];omega
theorem zw{f r:Int}{zs:List Int}{bl:Bool}(h:aW f r zs=true){i:Int}(h0:0<=i)(h1:i<zs.length)(hp:isP (zs.getD i.toNat 0) bl=true)(hk:¬ aY (zs.getD i.toNat 0)=1):nY (aY (zs.getD i.toNat 0)):=by
 have hb:=mB h h0 h1
 have hz:=yA hp
 rw[jz hb]at hk ⊢
 unfold nY
 omega
theorem kD{f r:Int}{zs:List Int}{bl:Bool}{_ca pa a b pr:Int}(h:aW f r zs=true)(hl:zs.length<=64)(ha:aj f r a=true)(hb:aj f r b=true)(hp:isP (zs.getD a.toNat 0) bl=true) :
  iB f r zs bl pa a b pr=bif decide (aY (zs.getD a.toNat 0)=1)then pnL f r zs bl pa a b pr else decide (pr=0)&&bJ f r (aY (zs.getD a.toNat 0)) a b (occL zs):=by
 have hbd:=(bn h).2.2.1
 obtain⟨ha0,ha1⟩:=(bQ hbd).1 ha
 obtain⟨hb0,hb1⟩:=(bQ hbd).1 hb
 have hb64:b<64:=by omega
 obtain⟨hou,_⟩:=nk hbd hl
 have hray:gE f r a (occR f r zs)=true:=(jh hou).2 ⟨ha,zo h hl⟩
 unfold iB
 rw[jm h ha0 ha1,nT hbd hl]
 cases hk:decide (aY (zs.getD a.toNat 0)=1) with
 |false=>
  obtain⟨r1,_,r3⟩:=qO hray hou (zw h ha0 ha1 hp (of_decide_eq_false hk))
  simp only[Bool.not_false,cond_true,cond_false]
  have r1:Uk (cn f r (aY (zs.getD a.toNat 0)) a (occR f r zs)).1:=r1
  rw[pB r1 hb0 hb64]
  congr 1
  exact r3 b hb
 |true=>
  simp only[Bool.not_true,cond_true,cond_false]
  obtain⟨_,s1,_,s2⟩:=zG (bl:=bl) hray hou
  obtain⟨_,p1,_,p2⟩:=wJ (bl:=bl) ha
  have hu:Uk (bif decide (zs.getD b.toNat 0=0)&&!decide (b=pa)then 0 else(gr f r bl a).1):=by
   cases(decide (zs.getD b.toNat 0=0)&&!decide (b=pa))
   ·exact p1
   ·exact uk_0
  rw[pB (gA _ _) hb0 hb64,eY s1 hu,s2 b hb]
  have hpb:bt (bif decide (zs.getD b.toNat 0=0)&&!decide (b=pa)then 0 else(gr f r bl a).1) b.toNat=(ei f bl a b&&(!decide (zs.getD b.toNat 0=0)||decide (b=pa))):=by
   cases h1:decide (zs.getD b.toNat 0=0)<;>cases h2:decide (b=pa)<;>simp[p2 b hb,bt_0]
  rw[hpb]
  have hv:=(bh hbd).1
  have hin:∀ c:Int->Bool,hasL b (cz c id (f*r).toNat)=c b:=fun c=>by
   rw[Bool.eq_iff_iff,nS,eH]
   have:=aS hb
   exact⟨fun h=>h.2.2,fun h=>⟨hb0,by omega,h⟩⟩
  unfold pnL
  rw[hin,hin,nT hbd hl]
  have hlast:Mh r bl=gj r bl:=rfl
  rw[hlast]
  cases decide (i64.wrap (b.tdiv f)=gj r bl)<;>cases decide (pr=0)<;>cases cq f r bl a (occR f r zs) b<;>cases ei f bl a b<;>simp
theorem empty_eq{zs:List Int}{x K:Int}(hbd:aC 8 8 zs=true)(hl:zs.length<=64)(hx:aj 8 8 x=true)(hK:aj 8 8 K=true)(hln:(bw 8 x K).2.2=true):dH zs (bT 8 8 x K)=decide (uand (bS 8 8 x K).1 (occR 8 8 zs)=0):=by
 obtain⟨bu,bb⟩:=Kn hx hK hln
 obtain⟨ou,ob⟩:=nk hbd hl
 have h64:=tT hbd rfl
 rw[Bool.eq_iff_iff,decide_eq_true_eq,rR (tE _ _)]
 unfold dH
 rw[List.all_eq_true]
 constructor
 ·intro h n hn
  rw[pq bu ou,bb,ob]
  by_cases hm:(n:Int)∈bT 8 8 x K
  ·have:=of_decide_eq_true (h _ hm)
   rw[Int.toNat_natCast]at this
   rw[this];simp
  ·simp[hm]
 ·intro h i hi
  have hb:0<=i/\i<64:=by
   have hv:aj 8 8 i=true:=by
    unfold bT at hi
    cases hh:hasL K (ez 8 8 x K) with
    |true=>rw[hh]at hi;exact eo hx (List.mem_of_mem_take hi)
    |false=>rw[hh]at hi;simp at hi
   exact⟨(aS hv).1,(aS hv).2.2⟩
  have:=h i.toNat (by omega)
  rw[pq bu ou,bb,ob,show ((i.toNat:Nat):Int)=i by omega]at this
  simp only[hi,decide_true,Bool.true_and,Bool.and_eq_false_iff,decide_eq_false_iff_not,Bool.not_eq_false']at this
  rcases this with this|this
  ·omega
  ·exact this
theorem sq01:sqW 1 0=4/\sqW 1 1=6/\sqW 2 0=4/\sqW 2 1=2/\sqW 4 0=60/\sqW 4 1=62/\sqW 8 0=60/\sqW 8 1=58:=⟨by kernel_rfl,by kernel_rfl,by kernel_rfl,by kernel_rfl,by kernel_rfl,by kernel_rfl,by kernel_rfl,by kernel_rfl⟩
theorem cW{bl:Bool}{ca a b:Int}{c:Bool}{bit k to:Int}:(!aX bl ca a b c bit k to)=true↔c=bl/\fq ca bit≠0/\k=a/\to=b:=by
 unfold aX
 cases c<;>cases bl<;>simp[and_assoc]
theorem ia{f r:Int}{zs:List Int}{ca bit:Int}{k q:Nat}{c:Bool}(h:rtX f r zs ca bit k q c=false)(hr:fq ca bit≠0):f=8/\r=8/\zs.getD k 0=ofP 6 c/\zs.getD q 0=ofP 4 c:=by
 unfold rtX at h
 rw[decide_eq_false hr]at h
 simp only[Bool.not_false,Bool.true_and,Bool.or_eq_false_iff,Bool.not_eq_false',is88,Bool.and_eq_true,decide_eq_true_eq]at h
 exact⟨h.1.1.1,h.1.1.2,h.1.2,h.2⟩
theorem Hf{f r:Int}{zs:List Int}{bl:Bool}{ca a b bit k to cor:Int}{c:Bool}(hca:0<=ca/\ca<=15)(hb:bit=1\/bit=2\/bit=4\/bit=8)(hc:decide (2<bit)=c)(h0:sqW bit 0=k)(h1:sqW bit 1=to)(h2:sqW bit 2=cor) :
  cgS f r zs bl ca a b bit=(!aX bl ca a b c bit k to&&dH zs (bT f r k cor)):=by
 unfold cgS aX
 rw[uN hca hb,hc,h0,h1,h2]
 have e1:decide (a=k)=decide (k=a):=by rw[decide_eq_decide];exact eq_comm
 have e2:decide (b=to)=decide (to=b):=by rw[decide_eq_decide];exact eq_comm
 rw[e1,e2]
 cases decide (fq ca bit=0)<;>cases c<;>cases bl<;>cases decide (k=a)<;>cases decide (to=b)<;>rfl
theorem Ci{f r:Int}{zs:List Int}{bl:Bool}{ca a b pr:Int}(h:aW f r zs=true)(hl:zs.length<=64)(hcas:fy f r zs ca=true)(hca:0<=ca)(ha0:0<=a)(ha1:a<zs.length) :
  (!decide (cgL f r zs bl ca a b pr=0))=(decide (pr=0)&&wayB f r zs (wayN zs bl ca a b)) /\
   ((!decide (cgL f r zs bl ca a b pr=0))=true->sqW (cgL f r zs bl ca a b pr) 2=wCor (wayN zs bl ca a b)/\sqW (cgL f r zs bl ca a b pr) 3=wCro (wayN zs bl ca a b)/\aY (zs.getD a.toNat 0)=6):=by
 have hbd:=(bn h).2.2.1
 simp only[fy,Bool.and_eq_true,Bool.not_eq_true',decide_eq_true_eq]at hcas
 obtain⟨⟨⟨⟨c1,c2⟩,c3⟩,c4⟩,c5⟩:=hcas
 obtain⟨q1,q2,q3,q4,q5,q6,q7,q8⟩:=sqs
 obtain⟨p1,p2,p3,p4,p5,p6,p7,p8⟩:=sq01
 have hx:0<=ca/\ca<=15:=⟨hca,by omega⟩
 have g1:cgS f r zs bl ca a b 1=_:=Hf (c:=false) hx (.inl rfl) rfl p1 p2 q1
 have g2:cgS f r zs bl ca a b 2=_:=Hf (c:=false) hx (.inr (.inl rfl)) rfl p3 p4 q3
 have g3:cgS f r zs bl ca a b 4=_:=Hf (c:=true) hx (.inr (.inr (.inl rfl))) rfl p5 p6 q5
 have g4:cgS f r zs bl ca a b 8=_:=Hf (c:=true) hx (.inr (.inr (.inr rfl))) rfl p7 p8 q7
 unfold cgL wayN
 rw[jm h ha0 ha1]
 cases hK:decide (aY (zs.getD a.toNat 0)=6) with
 |false=>simp[wayB]
 |true=>
  cases hp:decide (pr=0) with
  |false=>simp
  |true=>
   have hk6:=of_decide_eq_true hK
   rw[g1,g2,g3,g4]
   have key:∀ {bit k to cor:Int} {kn qn:Nat} {c:Bool},rtX f r zs ca bit kn qn c=false->(!aX bl ca a b c bit k to)=true->aj 8 8 k=true->aj 8 8 cor=true->(bw 8 k cor).2.2=true ->
     dH zs (bT f r k cor)=decide (uand (bS f r k cor).1 (occR f r zs)=0):=by
    intro bit k to cor kn qn c hr hs hk hc hln
    obtain⟨_,hu,_,_⟩:=cW.1 hs
    obtain⟨rfl,rfl,_⟩:=ia hr hu
    exact empty_eq hbd hl hk hc hln
   cases n1:(!aX bl ca a b false 1 4 6) with
   |true=>
    obtain⟨rfl,_,rfl,rfl⟩:=cW.1 n1
    have k1:=key c1 n1 (cor:=7) (by decide) (by decide) (by decide)
    have n2:(!aX false ca 4 6 false 2 4 2)=false:=by rw[Bool.eq_false_iff];exact fun hh=>by have:=(cW.1 hh).2.2.2;omega
    have n3:(!aX false ca 4 6 true 4 60 62)=false:=by rw[Bool.eq_false_iff];exact fun hh=>by have:=(cW.1 hh).1;cases this
    have n4:(!aX false ca 4 6 true 8 60 58)=false:=by rw[Bool.eq_false_iff];exact fun hh=>by have:=(cW.1 hh).1;cases this
    rw[n2,n3,n4,k1]
    have hw:wayB f r zs 0=decide (uand (bS f r 4 7).1 (occR f r zs)=0):=rfl
    simp only[Bool.not_true,Bool.or_self,cond_false,cond_true,Bool.true_and,Bool.false_and,hw]
    cases decide (uand (bS f r 4 7).1 (occR f r zs)=0)
    ·simp
    ·exact⟨rfl,fun _=>⟨q1,q2,hk6⟩⟩
   |false=>
    cases n2:(!aX bl ca a b false 2 4 2) with
    |true=>
     obtain⟨rfl,_,rfl,rfl⟩:=cW.1 n2
     have k1:=key c2 n2 (cor:=0) (by decide) (by decide) (by decide)
     have n3:(!aX false ca 4 2 true 4 60 62)=false:=by rw[Bool.eq_false_iff];exact fun hh=>by have:=(cW.1 hh).1;cases this
     have n4:(!aX false ca 4 2 true 8 60 58)=false:=by rw[Bool.eq_false_iff];exact fun hh=>by have:=(cW.1 hh).1;cases this
     rw[n3,n4,k1]
     have hw:wayB f r zs 1=decide (uand (bS f r 4 0).1 (occR f r zs)=0):=rfl
     simp only[Bool.not_true,Bool.or_self,cond_false,cond_true,Bool.true_and,Bool.false_and,hw]
     cases decide (uand (bS f r 4 0).1 (occR f r zs)=0)
     ·simp
     ·exact⟨rfl,fun _=>⟨q3,q4,hk6⟩⟩
    |false=>
     cases n3:(!aX bl ca a b true 4 60 62) with
     |true=>
      obtain⟨rfl,_,rfl,rfl⟩:=cW.1 n3
      have k1:=key c3 n3 (cor:=63) (by decide) (by decide) (by decide)
      have n4:(!aX true ca 60 62 true 8 60 58)=false:=by rw[Bool.eq_false_iff];exact fun hh=>by have:=(cW.1 hh).2.2.2;omega
      rw[n4,k1]
      have hw:wayB f r zs 2=decide (uand (bS f r 60 63).1 (occR f r zs)=0):=rfl
      simp only[Bool.not_true,Bool.or_self,cond_false,cond_true,Bool.true_and,Bool.false_and,hw]
      cases decide (uand (bS f r 60 63).1 (occR f r zs)=0)
      ·simp
      ·exact⟨rfl,fun _=>⟨q5,q6,hk6⟩⟩
     |false=>
      cases n4:(!aX bl ca a b true 8 60 58) with
      |true=>
       obtain⟨rfl,_,rfl,rfl⟩:=cW.1 n4
       have k1:=key c4 n4 (cor:=56) (by decide) (by decide) (by decide)
       rw[k1]
       have hw:wayB f r zs 3=decide (uand (bS f r 60 56).1 (occR f r zs)=0):=rfl
       simp only[Bool.not_true,Bool.or_self,cond_false,cond_true,Bool.true_and,Bool.false_and,hw]
       cases decide (uand (bS f r 60 56).1 (occR f r zs)=0)
       ·simp
       ·exact⟨rfl,fun _=>⟨q7,q8,hk6⟩⟩
      |false=>simp[wayB]
theorem NF{p:Psn}{m:Mov}(h:aW p.f p.r p.zs=true)(hl:p.zs.length<=64)(hcas:fy p.f p.r p.zs p.ca=true)(hca:0<=p.ca)(ha:aj p.f p.r m.a=true)(hb:aj p.f p.r m.b=true)(hp:isP (p.zs.getD m.a.toNat 0) p.bl=true) :
  soL p.f p.r p.zs p.bl p.ca p.pa m.a m.b m.p=!err3 p m:=by
 have hbd:=(bn h).2.2.1
 obtain⟨ha0,ha1⟩:=(bQ hbd).1 ha
 unfold soL err3
 rw[IS,kD (_ca:=p.ca) h hl ha hb hp]
 cases isP (p.zs.getD m.b.toNat 0) p.bl with
 |true=>rfl
 |false=>
  obtain⟨w1,_⟩:=Ci (bl:=p.bl) (b:=m.b) (pr:=m.p) h hl hcas hca ha0 ha1
  rw[w1]
  cases hk:decide (aY (p.zs.getD m.a.toNat 0)=1) with
  |true=>
   have:wayN p.zs p.bl p.ca m.a m.b=4:=by
    unfold wayN
    rw[jm h ha0 ha1,of_decide_eq_true hk];rfl
   rw[this]
   simp[wayB]
  |false=>
   cases decide (m.p=0)<;>cases wayB p.f p.r p.zs (wayN p.zs p.bl p.ca m.a m.b)<;>simp
section
theorem pc_w{f r a b:Int}(ha:aj f r a=true)(hb:aj f r b=true):i64.wrap (i64.wrap (b.tdiv f)-i64.wrap (a.tdiv f))=py f b-py f a:=(iE ha hb).2
theorem zN{n:Int}{bl:Bool}(h:isP n bl=true)(h2:n=ofP 1 (!bl)):False:=by
 subst h2
 cases bl<;>revert h<;>decide
theorem Fs{n:Int}{bl:Bool}(hz:n≠0)(h:isP n bl=false):isP n (!bl)=true:=by
 unfold isP at h ⊢
 rcases Int.lt_or_gt_of_ne hz with h3|h3
 ·have h4:¬ 0<n:=by omega
  cases bl<;>simp[h3,h4]at h ⊢
 ·have h4:¬ n<0:=by omega
  cases bl<;>simp[h3,h4]at h ⊢<;>omega
structure MvOk(p:Psn)(m:Mov):Prop where
 h:aW p.f p.r p.zs=true
 hl:p.zs.length<=64
 ok:p.ok=true
 ca:0<=p.ca
 ha:aj p.f p.r m.a=true
 hb:aj p.f p.r m.b=true
 hab:m.a≠m.b
 hpr:m.p=0\/(2<=m.p/\m.p<=5)
 hp:isP (p.zs.getD m.a.toNat 0) p.bl=true
 so:err3 p m=false
section
variable{p:Psn}{m:Mov}
theorem MvOk.bd(o:MvOk p m):aC p.f p.r p.zs=true:=(bn o.h).2.2.1
theorem MvOk.cast(o:MvOk p m):fy p.f p.r p.zs p.ca=true:=by have:=o.ok;simp only[Psn.ok,Bool.and_eq_true]at this;exact this.1.1.2
theorem MvOk.pass(o:MvOk p m):kV p.f p.r p.zs p.bl p.pa p.ha=true:=by have:=o.ok;simp only[Psn.ok,Bool.and_eq_true]at this;exact this.1.2
theorem MvOk.kings(o:MvOk p m):fI p.f p.r p.zs p.bl=true:=by have:=o.ok;simp only[Psn.ok,Bool.and_eq_true]at this;exact this.1.1.1.1.2
theorem MvOk.nto(o:MvOk p m):isP (p.zs.getD m.b.toNat 0) p.bl=false:=by have:=o.so;simp only[err3,Bool.or_eq_false_iff]at this;exact this.1
theorem MvOk.sq(o:MvOk p m):(0<=m.a/\m.a<p.zs.length)/\(0<=m.b/\m.b<p.zs.length):=⟨(bQ o.bd).1 o.ha,(bQ o.bd).1 o.hb⟩
theorem MvOk.kd(o:MvOk p m):absP (p.zs.getD m.a.toNat 0)=aY (p.zs.getD m.a.toNat 0):=jm o.h o.sq.1.1 o.sq.1.2
theorem MvOk.pawn(o:MvOk p m)(hk:aY (p.zs.getD m.a.toNat 0)=1):pnL p.f p.r p.zs p.bl p.pa m.a m.b m.p=true:=by
 have:=o.so
 have hw:wayN p.zs p.bl p.ca m.a m.b=4:=by unfold wayN;rw[o.kd,hk];rfl
 simp only[err3,hw,Bool.or_eq_false_iff]at this
 have hg:=kD (bl:=p.bl) (_ca:=p.ca) (pa:=p.pa) (pr:=m.p) o.h o.hl o.ha o.hb o.hp
 rw[hk]at hg
 rw[hg]at this
 simp only[decide_true,cond_true]at this
 have h2:=this.2
 cases hpn:pnL p.f p.r p.zs p.bl p.pa m.a m.b m.p with
 |true=>rfl
 |false=>rw[hpn]at h2;simp[wayB]at h2
theorem MvOk.steps(o:MvOk p m)(hk:aY (p.zs.getD m.a.toNat 0)=1) :
  (cq p.f p.r p.bl m.a (occR p.f p.r p.zs) m.b=true\/(ei p.f p.bl m.a m.b=true/\(p.zs.getD m.b.toNat 0≠0\/m.b=p.pa)))/\(m.p≠0↔py p.f m.b=gj p.r p.bl):=by
 have h:=o.pawn hk
 have hin:∀ c:Int->Bool,hasL m.b (cz c id (p.f*p.r).toNat)=c m.b:=fun c=>by
  rw[Bool.eq_iff_iff,nS,eH]
  have:=aS o.hb
  exact⟨fun h=>h.2.2,fun h=>⟨this.1,by omega,h⟩⟩
 unfold pnL at h
 rw[hin,hin,nT o.bd o.hl]at h
 rw[(fB o.hb).1]at h
 cases h1:(!(decide (py p.f m.b=gj p.r p.bl)==!decide (m.p=0))) with
 |true=>rw[h1]at h;cases h
 |false=>
  rw[h1,cond_false]at h
  refine⟨?_,?_⟩
  ·cases h2:cq p.f p.r p.bl m.a (occR p.f p.r p.zs) m.b with
   |true=>exact .inl rfl
   |false=>
    rw[h2,cond_false,Bool.and_eq_true,Bool.or_eq_true,decide_eq_true_eq,Bool.not_eq_true',decide_eq_false_iff_not]at h
    exact .inr h
  ·by_cases h3:py p.f m.b=gj p.r p.bl<;>by_cases h4:m.p=0<;>simp[h3,h4]at h1 ⊢
theorem NA(bl:Bool):i64.wrap (2*fwd bl)=2*fwd bl:=by cases bl<;>decide
theorem Ku{f r a b:Int}{bl:Bool}{occ:Int}(ha:aj f r a=true)(hb:aj f r b=true)(h:cq f r bl a occ b=true) :
  px f b=px f a/\((py f b=py f a+fwd bl)\/(py f b=py f a+2*fwd bl/\py f a=secR r bl/\6<=r/\aj f r (b-fwd bl*f)=true/\hasB occ (b-fwd bl*f)=false)):=by
 have hv:=(bI ha)
 obtain⟨a0,a1,a2,a3,a4,a5,a6⟩:=fB ha
 obtain⟨_,b1,b2,b3,b4,b5,_⟩:=fB hb
 have hfw:fwd bl=1\/fwd bl=-1:=by cases bl<;>simp[fwd]
 have hone:one4 f r bl a=numR f r (px f a) (py f a+fwd bl):=by unfold one4;rw[a0,aI (by omega) (by omega)]
 have htwo:two4 f r bl a=numR f r (px f a) (py f a+2*fwd bl):=by unfold two4;rw[a0,NA,aI (by omega) (by omega)]
 simp only[cq,Bool.or_eq_true,Bool.and_eq_true,decide_eq_true_eq,Bool.not_eq_true']at h
 rw[hone,htwo,a0]at h
 have hbn:∀ {X Y:Int},b=numR f r X Y->px f b=X/\py f b=Y:=by
  intro X Y e
  rcases gO f r X Y hv with⟨ho,_⟩|⟨_,hn⟩
  ·exact(kT hv ho hb).1 e.symm
  ·have:=(aS hb).1;omega
 rcases h with⟨h1,_⟩|⟨⟨⟨⟨h1,h2⟩,h3⟩,h4⟩,_⟩
 ·obtain⟨e1,e2⟩:=hbn h1
  exact⟨e1,.inl e2⟩
 ·obtain⟨e1,e2⟩:=hbn h1
  refine⟨e1,.inr ⟨e2,h3,h2,?_⟩⟩
  have ho:onB f r (px f a) (py f a+fwd bl)=true:=kB a1 a2 (by omega) (by omega)
  obtain⟨v1,v2,v3⟩:=hU hv ho
  have heq:px f a+(py f a+fwd bl)*f=b-fwd bl*f:=by
   rw[<-b5,e1,e2]
   rw[Int.add_mul,Int.add_mul,Int.mul_assoc];omega
  rw[heq]at v1 v2 v3
  exact⟨v1,by rw[<-(kT hv ho v1).2 ⟨v2,v3⟩];exact h4⟩
theorem MvOk.ep(o:MvOk p m)(hk:aY (p.zs.getD m.a.toNat 0)=1)(hb:m.b=p.pa) :
  at1R p.f p.zs p.pa m.a m.b=m.b-fwd p.bl*p.f/\aj p.f p.r (m.b-fwd p.bl*p.f)=true/\p.zs.getD (m.b-fwd p.bl*p.f).toNat 0=ofP 1 (!p.bl)/\numR p.f p.r (m.b.tmod p.f) (i64.wrap (m.a.tdiv p.f))=m.b-fwd p.bl*p.f/\p.zs.getD m.b.toNat 0=0/\ei p.f p.bl m.a m.b=true:=by
 have hbd:=o.bd
 have hv:=(bh hbd).1
 obtain⟨a0,a1,a2,a3,a4,a5,a6⟩:=fB o.ha
 obtain⟨b0,b1,b2,b3,b4,b5,_⟩:=fB o.hb
 have hps:=o.pass
 have hb0:=(aS o.hb).1
 simp only[kV,Bool.or_eq_true,Bool.and_eq_true,decide_eq_true_eq,<-hb]at hps
 rcases hps with hps|⟨⟨⟨⟨⟨⟨p1,p2⟩,p3⟩,p4⟩,p5⟩,p6⟩,p7⟩
 ·omega
 obtain⟨n1,n2,n3,n4,n5,n6,n7⟩:=jl (bl:=p.bl) hbd p1 o.hb p4
 have hfw:fwd p.bl=1\/fwd p.bl=-1:=by cases p.bl<;>simp[fwd]
 have hup:i64.wrap (m.b+upP p.f p.bl)=m.b-fwd p.bl*p.f:=by
  cases hbl:p.bl
  ·simp only[upP,fwd,cond_false,n5,n7];omega
  ·simp only[upP,fwd,cond_true,n4];omega
 rw[hup]at p7
 have hvd:aj p.f p.r (m.b-fwd p.bl*p.f)=true:=by
  refine(bQ hbd).2 ?_
  rcases hfw with e|e<;>rw[e]<;>constructor<;>omega
 have hat:ei p.f p.bl m.a m.b=true:=by
  rcases(o.steps hk).1 with h|h
  ·exfalso
   obtain⟨e1,h2⟩:=Ku o.ha o.hb h
   rcases h2 with e2|⟨_,_,_,_,h5⟩
   ·have:m.b-fwd p.bl*p.f=m.a:=by rw[<-b5,<-a5,e1,e2,Int.add_mul];omega
    rw[this]at p7
    exact zN o.hp p7
   ·obtain⟨hou,hob⟩:=nk hbd o.hl
    rw[nX hou hvd,hob,p7]at h5
    have hlt:=(bQ hbd).1 hvd
    rw[decide_eq_true (show (m.b-fwd p.bl*p.f).toNat<p.zs.length by omega),decide_eq_false (show ¬ ofP 1 (!p.bl)=0 by cases p.bl<;>decide)]at h5
    cases h5
  ·exact h.1
 have hpy:py p.f m.b=py p.f m.a+fwd p.bl:=by
  have:=hat
  simp only[ei,Bool.and_eq_true,decide_eq_true_eq]at this
  rw[pc_w o.ha o.hb]at this
  omega
 have hsq:px p.f m.b+py p.f m.a*p.f=m.b-fwd p.bl*p.f:=by
  have:py p.f m.b*p.f=py p.f m.a*p.f+fwd p.bl*p.f:=by rw[hpy,Int.add_mul]
  omega
 have hlt:=(aS hvd)
 refine⟨?_,hvd,p7,?_,p5,hat⟩
 ·have hepB:epB p.zs p.pa m.a m.b=true:=by simp only[epB,o.kd,hk,hb,decide_true,Bool.and_self]
  unfold at1R
  rw[hepB,cond_true]
  have e1:m.a.tmod p.f=px p.f m.a:=rfl
  have e2:m.b.tmod p.f=px p.f m.b:=rfl
  rw[e1,e2]
  have hla:=aS o.ha
  rw[aI (n:=m.a-px p.f m.a) (by omega) (by omega)]
  rw[show m.a-px p.f m.a+px p.f m.b=m.b-fwd p.bl*p.f by omega,aI (by omega) (by omega)]
 ·rw[a0]
  have ho:onB p.f p.r (px p.f m.b) (py p.f m.a)=true:=kB b1 b2 a3 a4
  obtain⟨v1,v2,v3⟩:=hU hv ho
  rw[hsq]at v1 v2 v3
  exact(kT hv ho v1).2 ⟨v2,v3⟩
theorem MvOk.cap(o:MvOk p m):capL p.f p.r p.zs p.pa m.a m.b=at2R p.f p.zs p.pa m.a m.b/\(0<=at2R p.f p.zs p.pa m.a m.b->at2R p.f p.zs p.pa m.a m.b<p.zs.length/\isP (p.zs.getD (at2R p.f p.zs p.pa m.a m.b).toNat 0) (!p.bl)=true/\at2R p.f p.zs p.pa m.a m.b≠m.a/\at2R p.f p.zs p.pa m.a m.b=at1R p.f p.zs p.pa m.a m.b) /\
  (at2R p.f p.zs p.pa m.a m.b<0->at2R p.f p.zs p.pa m.a m.b=-1/\capR p.f p.zs p.pa m.a m.b=0/\p.zs.getD m.b.toNat 0=0)/\(0<=at2R p.f p.zs p.pa m.a m.b->capR p.f p.zs p.pa m.a m.b≠0):=by
 have ⟨⟨sa0,sa1⟩,⟨sb0,sb1⟩⟩:=o.sq
 cases hep:(decide (aY (p.zs.getD m.a.toNat 0)=1)&&decide (m.b=p.pa)) with
 |true=>
  simp only[Bool.and_eq_true,decide_eq_true_eq]at hep
  obtain⟨e1,e2,e3,e4,e5,e6⟩:=o.ep hep.1 hep.2
  have hc:capR p.f p.zs p.pa m.a m.b=ofP 1 (!p.bl):=by unfold capR;rw[e1,e3]
  have hnz:ofP 1 (!p.bl)≠0:=by cases p.bl<;>decide
  have h2:at2R p.f p.zs p.pa m.a m.b=m.b-fwd p.bl*p.f:=by unfold at2R;rw[hc,decide_eq_false hnz,cond_false,e1]
  have hcl:capL p.f p.r p.zs p.pa m.a m.b=m.b-fwd p.bl*p.f:=by unfold capL;rw[decide_eq_true hep.1,decide_eq_true hep.2];exact e4
  have hlt:=(bQ o.bd).1 e2
  refine⟨by rw[hcl,h2],fun _=>⟨by rw[h2];exact hlt.2,?_,?_,by rw[h2,e1]⟩,fun hh=>(by rw[h2]at hh;omega),fun _=>by rw[hc];exact hnz⟩
  ·rw[h2,e3];cases p.bl<;>decide
  ·rw[h2]
   intro he
   rw[he]at e3
   exact zN o.hp e3
 |false=>
  have hepB:epB p.zs p.pa m.a m.b=false:=by unfold epB;rw[o.kd];exact hep
  have h1:at1R p.f p.zs p.pa m.a m.b=m.b:=by unfold at1R;rw[hepB];rfl
  have hc:capR p.f p.zs p.pa m.a m.b=p.zs.getD m.b.toNat 0:=by unfold capR;rw[h1]
  unfold capL at2R
  rw[hep,hc,h1,cond_false]
  by_cases hz:p.zs.getD m.b.toNat 0=0
  ·simp only[decide_eq_true hz,Bool.not_true,cond_true,cond_false]
   exact⟨trivial,fun hh=>absurd hh (by decide),fun _=>⟨trivial,hz,hz⟩,fun hh=>absurd hh (by decide)⟩
  ·simp only[decide_eq_false hz,Bool.not_false,cond_true,cond_false]
   have h5:=Fs hz o.nto
   exact⟨trivial,fun _=>⟨sb1,h5,fun e=>o.hab e.symm,trivial⟩,fun hh=>absurd hh (by omega),fun _=>hz⟩
end
end
end Go.Ab
namespace Go.Ab
open Go.Proofs
section
structure PsH(p:Psn):Prop where
 h:aW p.f p.r p.zs=true
 hl:p.zs.length<=64
 ok:p.ok=true
 ca:0<=p.ca
theorem psh{p:Psn}(hl:p.zs.length<=64)(hca:0<=p.ca)(hok:p.ok=true):PsH p:=by
 refine⟨?_,hl,hok,hca⟩
 have hk:=hok
 simp only[Psn.ok,fI,Bool.and_eq_true,decide_eq_true_eq]at hk
 cases h:aW p.f p.r p.zs with
 |true=>rfl
 |false=>have:=hk.1.1.1.1.2.1.1;unfold bW at this;rw[h]at this;cases this
section
variable{p:Psn}
theorem PsH.bd(o:PsH p):aC p.f p.r p.zs=true:=(bn o.h).2.2.1
theorem PsH.cast(o:PsH p):fy p.f p.r p.zs p.ca=true:=by have:=o.ok;simp only[Psn.ok,Bool.and_eq_true]at this;exact this.1.1.2
theorem PsH.pass(o:PsH p):kV p.f p.r p.zs p.bl p.pa p.ha=true:=by have:=o.ok;simp only[Psn.ok,Bool.and_eq_true]at this;exact this.1.2
end
def canM(p:Psn)(a b pr:Int):Bool:=mvB p.f p.r a b pr&&isP (p.zs.getD a.toNat 0) p.bl&&!err3 p ⟨a,b,pr⟩
def prs:List Int:=[0,2,3,4,5]
def jF(p:Psn)(a b:Int):List (List Int):=(prs.filter (canM p a b)).map fun pr=>[a,b,pr]
def psL(p:Psn)(a:Int):List (List Int):=((List.range p.zs.length).map Int.ofNat).flatMap (jF p a)
def ownS(p:Psn):Int:=bif p.bl then eZ negP p.zs else eZ posP p.zs
theorem Jb{p:Psn}(hl:p.zs.length<=64):Uk (ownS p)/\∀ m:Nat,bt (ownS p) m=(decide (m<p.zs.length)&&isP (p.zs.getD m 0) p.bl):=by
 obtain⟨h1,h2⟩:=mz posP hl
 obtain⟨h3,h4⟩:=mz negP hl
 unfold ownS
 cases hb:p.bl with
 |true=>exact⟨h3,fun m=>by rw[cond_true,h4];unfold negP isP;simp⟩
 |false=>exact⟨h1,fun m=>by rw[cond_false,h2];unfold posP isP;simp⟩
theorem yB(p:Psn)(w x:Int):(⟨⟨p.f,p.r,p.zs,p.bl,p.ca,p.pa,p.ha,p.fu⟩,w,x⟩:Sgt)=⟨p,w,x⟩:=rfl
theorem look_eq{p:Psn}(hl:p.zs.length<=64)(hbd:aC p.f p.r p.zs=true):rI p=some ⟨p,ownS p,occR p.f p.r p.zs⟩:=by
 have h1:decide (p.zs.length<=1000000)=true:=by simp;omega
 have h2:(eO p.f p.r p.zs).1=eZ posP p.zs/\(eO p.f p.r p.zs).2.1=eZ negP p.zs:=by unfold eO;rw[hbd];exact⟨rfl,rfl⟩
 unfold rI ownS occR
 simp only[List.drop_zero,List.take_length,h1,h2.1,h2.2,aR,yB]
 cases p.bl<;>rfl
def swS(prev:Int)(skip free:Bool)(y:Int):Int:=bif skip then prev else bif free then y else prev
theorem KA{α:Type}{prev y:Int}{skip free:Bool}{F:Int->Option α}:dz (bif skip then some (.inl prev)else dz (bif free then some (.inl y)else some (.inl prev)) fun s=>some (.inl s)) F=F (swS prev skip free y):=by
 cases skip<;>cases free<;>rfl
def sw1(p:Psn)(a:Int):Int:=swS 0 (decide (fq p.ca 1=0)||!p.bl==false||!decide (a=4)) (decide (uand (bS p.f p.r 4 7).1 (occR p.f p.r p.zs)=0)) (uor 0 (ushl 1 6))
def sw2(p:Psn)(a:Int):Int:=swS (sw1 p a) (decide (fq p.ca 2=0)||!p.bl==false||!decide (a=4)) (decide (uand (bS p.f p.r 4 0).1 (occR p.f p.r p.zs)=0)) (uor (sw1 p a) (ushl 1 2))
def sw3(p:Psn)(a:Int):Int:=swS (sw2 p a) (decide (fq p.ca 4=0)||!p.bl==true||!decide (a=60)) (decide (uand (bS p.f p.r 60 63).1 (occR p.f p.r p.zs)=0)) (uor (sw2 p a) (ushl 1 62))
def sw4(p:Psn)(a:Int):Int:=swS (sw3 p a) (decide (fq p.ca 8=0)||!p.bl==true||!decide (a=60)) (decide (uand (bS p.f p.r 60 56).1 (occR p.f p.r p.zs)=0)) (uor (sw3 p a) (ushl 1 58))
theorem Lg{p:Psn}{w a:Int}:Db ⟨p,w,occR p.f p.r p.zs⟩ a=some (sw4 p a):=by
 unfold Db
 simp only[KA]
 rfl
theorem sj{x prev g:Int}{skip free:Bool}(hp:Uk prev)(hg0:0<=g)(hg:g<64)(hx:x=swS prev skip free (uor prev (ushl 1 g))):Uk x/\∀ n:Nat,bt x n=(bt prev n||(!skip&&free&&decide (g=n))):=by
 subst hx
 unfold swS
 cases skip with
 |true=>exact⟨hp,fun n=>by simp⟩
 |false=>
  cases free with
  |true=>exact⟨gA _ _,fun n=>by rw[cond_false,cond_true,eY hp (gJ _ _),gZ hg0 hg];rfl⟩
  |false=>exact⟨hp,fun n=>by simp⟩
theorem GL{p:Psn}{a:Int}:Uk (sw4 p a)/\∀ n:Nat,bt (sw4 p a) n=((!(decide (fq p.ca 1=0)||!p.bl==false||!decide (a=4))&&decide (uand (bS p.f p.r 4 7).1 (occR p.f p.r p.zs)=0)&&decide ((6:Int)=n)) ||
  (!(decide (fq p.ca 2=0)||!p.bl==false||!decide (a=4))&&decide (uand (bS p.f p.r 4 0).1 (occR p.f p.r p.zs)=0)&&decide ((2:Int)=n)) ||
  (!(decide (fq p.ca 4=0)||!p.bl==true||!decide (a=60))&&decide (uand (bS p.f p.r 60 63).1 (occR p.f p.r p.zs)=0)&&decide ((62:Int)=n)) ||
  (!(decide (fq p.ca 8=0)||!p.bl==true||!decide (a=60))&&decide (uand (bS p.f p.r 60 56).1 (occR p.f p.r p.zs)=0)&&decide ((58:Int)=n))):=by
 obtain⟨u1,b1⟩:=sj (x:=sw1 p a) (g:=6) uk_0 (by decide) (by decide) rfl
 obtain⟨u2,b2⟩:=sj (x:=sw2 p a) (g:=2) u1 (by decide) (by decide) rfl
 obtain⟨u3,b3⟩:=sj (x:=sw3 p a) (g:=62) u2 (by decide) (by decide) rfl
 obtain⟨u4,b4⟩:=sj (x:=sw4 p a) (g:=58) u3 (by decide) (by decide) rfl
 exact⟨u4,fun n=>by rw[b4,b3,b2,b1,bt_0,Bool.false_or]⟩
theorem Nu{p:Psn}{a b:Int}(hk:absP (p.zs.getD a.toNat 0)=6)(hb:0<=b):bt (sw4 p a) b.toNat=wayB p.f p.r p.zs (wayN p.zs p.bl p.ca a b):=by
 have hs:∀ {c:Bool} {bit k to:Int},(!(decide (fq p.ca bit=0)||!p.bl==c||!decide (a=k))&&decide (to=((b.toNat:Nat):Int)))=!aX p.bl p.ca a b c bit k to:=by
  intro c bit k to
  rw[Bool.eq_iff_iff,cW,show ((b.toNat:Nat):Int)=b by omega]
  simp only[Bool.and_eq_true,Bool.not_eq_true',Bool.or_eq_false_iff,decide_eq_false_iff_not,Bool.not_eq_false',decide_eq_true_eq]
  constructor
  ·rintro⟨⟨⟨h1,h2⟩,h3⟩,h4⟩
   exact⟨(by cases c<;>cases hb:p.bl<;>rw[hb]at h2<;>first|rfl|cases h2),h1,h3.symm,h4⟩
  ·rintro⟨h1,h2,h3,h4⟩
   exact⟨⟨⟨h2,by rw[h1];cases p.bl<;>rfl⟩,h3.symm⟩,h4⟩
 have re:∀ x y z:Bool,(x&&y&&z)=((x&&z)&&y):=by decide
 rw[GL.2,re,re (!(decide (fq p.ca 2=0)||_||_)),re (!(decide (fq p.ca 4=0)||_||_)),re (!(decide (fq p.ca 8=0)||_||_)),hs,hs,hs,hs]
 unfold wayN
 rw[hk]
 have w0:wayB p.f p.r p.zs 0=decide (uand (bS p.f p.r 4 7).1 (occR p.f p.r p.zs)=0):=rfl
 have w1:wayB p.f p.r p.zs 1=decide (uand (bS p.f p.r 4 0).1 (occR p.f p.r p.zs)=0):=rfl
 have w2:wayB p.f p.r p.zs 2=decide (uand (bS p.f p.r 60 63).1 (occR p.f p.r p.zs)=0):=rfl
 have w3:wayB p.f p.r p.zs 3=decide (uand (bS p.f p.r 60 56).1 (occR p.f p.r p.zs)=0):=rfl
 have w4:wayB p.f p.r p.zs 4=false:=rfl
 have one:∀ {c c':Bool} {bit bit' k k' to to':Int},(!aX p.bl p.ca a b c bit k to)=true->(c≠c'\/to≠to')->(!aX p.bl p.ca a b c' bit' k' to')=false:=by
  intro c c' bit bit' k k' to to' h1 h2
  rw[Bool.eq_false_iff]
  intro h3
  obtain⟨e1,_,_,e4⟩:=cW.1 h1
  obtain⟨f1,_,_,f4⟩:=cW.1 h3
  rcases h2 with h|h
  ·exact h (e1.trans f1.symm)
  ·exact h (e4.trans f4.symm)
 cases n1:(!aX p.bl p.ca a b false 1 4 6) with
 |true=>
  rw[one n1 (.inr (by decide)),one n1 (.inl (by decide)),one n1 (.inl (by decide))]
  simp only[Bool.true_and,Bool.false_and,Bool.or_false,decide_true,Bool.not_true,cond_true,cond_false,w0]
 |false=>
  cases n2:(!aX p.bl p.ca a b false 2 4 2) with
  |true=>
   rw[one n2 (.inl (by decide)),one n2 (.inl (by decide))]
   simp only[Bool.true_and,Bool.false_and,Bool.or_false,Bool.false_or,decide_true,Bool.not_true,cond_true,cond_false,w1]
  |false=>
   cases n3:(!aX p.bl p.ca a b true 4 60 62) with
   |true=>
    rw[one n3 (.inr (by decide))]
    simp only[Bool.true_and,Bool.false_and,Bool.or_false,Bool.false_or,decide_true,Bool.not_true,cond_true,cond_false,w2]
   |false=>
    cases n4:(!aX p.bl p.ca a b true 8 60 58) with
    |true=>simp only[Bool.true_and,Bool.false_and,Bool.false_or,decide_true,Bool.not_true,cond_true,cond_false,w3]
    |false=>simp only[Bool.false_and,Bool.or_self,decide_true,Bool.not_true,cond_false,w4]
def tgR(p:Psn)(a:Int):Int:=
 bif decide (absP (p.zs.getD a.toNat 0)=1)then uor (dc p.f p.r p.bl a (occR p.f p.r p.zs)).1 (uand (gr p.f p.r p.bl a).1 (bif decide (0<=p.pa)then uor (cI (occR p.f p.r p.zs) (ownS p)) (ushl 1 p.pa)else cI (occR p.f p.r p.zs) (ownS p)))
 else cI (bif decide (absP (p.zs.getD a.toNat 0)=6)then uor (cn p.f p.r (absP (p.zs.getD a.toNat 0)) a (occR p.f p.r p.zs)).1 (sw4 p a) else(cn p.f p.r (absP (p.zs.getD a.toNat 0)) a (occR p.f p.r p.zs)).1) (ownS p)
theorem MS(v:Int):xp v=some (absP v):=rfl
theorem Hv{p:Psn}{a:Int}:spawn ⟨p,ownS p,occR p.f p.r p.zs⟩ a=some (uor (dc p.f p.r p.bl a (occR p.f p.r p.zs)).1 (uand (gr p.f p.r p.bl a).1 (bif decide (0<=p.pa)then uor (cI (occR p.f p.r p.zs) (ownS p)) (ushl 1 p.pa)else cI (occR p.f p.r p.zs) (ownS p)))):=by
 unfold spawn
 cases h:decide (0<=p.pa) with
 |true=>simp only[cond_true,aR,fF]
 |false=>simp only[cond_false,fF]
theorem NU{p:Psn}{a:Int}(ha:0<=a/\a<p.zs.length):dX ⟨p,ownS p,occR p.f p.r p.zs⟩ a=some (tgR p a):=by
 have h1:(decide (0<=a)&&decide (a<Int.ofNat p.zs.length))=true:=by simp;omega
 unfold dX tgR
 simp only[List.drop_zero,List.take_length,yB,MS,h1,aR,aO,Option.getD_some,Hv,Lg]
 by_cases h2:absP (p.zs.getD a.toNat 0)=1
 ·simp only[h2,decide_true,cond_true]
 ·by_cases h3:absP (p.zs.getD a.toNat 0)=6
  ·have h6:((6:Int)=1)=False:=by simp
   simp only[h3,h6,decide_false,decide_true,cond_true,cond_false,fF]
  ·simp only[h2,h3,decide_false,cond_false,fF]
end
section
def vh(p:Psn)(b:Int):Bool:=decide (py p.f b=gj p.r p.bl)
def tgB(p:Psn)(a b:Int):Bool:=!isP (p.zs.getD b.toNat 0) p.bl &&
 (bif decide (aY (p.zs.getD a.toNat 0)=1)then cq p.f p.r p.bl a (occR p.f p.r p.zs) b||(ei p.f p.bl a b&&(!decide (p.zs.getD b.toNat 0=0)||decide (b=p.pa)))
 else bJ p.f p.r (aY (p.zs.getD a.toNat 0)) a b (occR p.f p.r p.zs)||wayB p.f p.r p.zs (wayN p.zs p.bl p.ca a b))
section
variable{p:Psn}{a b:Int}
theorem PsH.ab(o:PsH p)(ha:aj p.f p.r a=true):absP (p.zs.getD a.toNat 0)=aY (p.zs.getD a.toNat 0):=by
 obtain⟨h0,h1⟩:=(bQ o.bd).1 ha
 exact jm o.h h0 h1
theorem NQ(o:PsH p)(hb:aj p.f p.r b=true){pr:Int}:pnL p.f p.r p.zs p.bl p.pa a b pr=((vh p b==!decide (pr=0))&&(cq p.f p.r p.bl a (occR p.f p.r p.zs) b||(ei p.f p.bl a b&&(!decide (p.zs.getD b.toNat 0=0)||decide (b=p.pa))))):=by
 have hin:∀ c:Int->Bool,hasL b (cz c id (p.f*p.r).toNat)=c b:=fun c=>by
  rw[Bool.eq_iff_iff,nS,eH]
  have:=aS hb
  exact⟨fun h=>h.2.2,fun h=>⟨this.1,by omega,h⟩⟩
 unfold pnL vh
 rw[hin,hin,nT o.bd o.hl,(fB hb).1]
 cases(decide (py p.f b=gj p.r p.bl)==!decide (pr=0))<;>cases cq p.f p.r p.bl a (occR p.f p.r p.zs) b<;>rfl
theorem uv(o:PsH p)(ha:aj p.f p.r a=true)(hb:aj p.f p.r b=true)(hown:isP (p.zs.getD a.toNat 0) p.bl=true){pr:Int}(hpr:pr=0\/(2<=pr/\pr<=5)) :
  canM p a b pr=(tgB p a b&&((decide (aY (p.zs.getD a.toNat 0)=1)&&vh p b)==!decide (pr=0))):=by
 unfold canM tgB err3
 dsimp only
 rw[hown,Bool.and_true,kD (_ca:=p.ca) o.h o.hl ha hb hown,nT o.bd o.hl,NQ o hb]
 cases hi:isP (p.zs.getD b.toNat 0) p.bl with
 |true=>simp
 |false=>
  have hab:a≠b:=fun e=>by rw[e,hi]at hown;cases hown
  have hmv:mvB p.f p.r a b pr=true:=by
   unfold mvB
   rw[ha,hb,decide_eq_false hab]
   rcases hpr with h|h
   ·rw[decide_eq_true h];rfl
   ·rw[decide_eq_true h.1,decide_eq_true h.2];simp
  rw[hmv]
  cases hk:decide (aY (p.zs.getD a.toNat 0)=1) with
  |true=>
   have hw:wayB p.f p.r p.zs (wayN p.zs p.bl p.ca a b)=false:=by
    have:wayN p.zs p.bl p.ca a b=4:=by
     unfold wayN
     rw[o.ab ha,of_decide_eq_true hk];rfl
    rw[this];rfl
   rw[hw]
   cases(cq p.f p.r p.bl a (occR p.f p.r p.zs) b||(ei p.f p.bl a b&&(!decide (p.zs.getD b.toNat 0=0)||decide (b=p.pa))))<;>cases vh p b<;>cases decide (pr=0)<;>rfl
  |false=>
   cases bJ p.f p.r (aY (p.zs.getD a.toNat 0)) a b (occR p.f p.r p.zs)<;>cases wayB p.f p.r p.zs (wayN p.zs p.bl p.ca a b)<;>cases decide (pr=0)<;>rfl
theorem KH(o:PsH p)(ha:aj p.f p.r a=true)(hb:aj p.f p.r b=true)(hown:isP (p.zs.getD a.toNat 0) p.bl=true) :
  jF p a b=bif tgB p a b then(bif decide (aY (p.zs.getD a.toNat 0)=1)&&vh p b then[[a,b,2],[a,b,3],[a,b,4],[a,b,5]] else[[a,b,0]]) else[]:=by
 unfold jF prs
 simp only[List.filter_cons,List.filter_nil]
 rw[uv o ha hb hown (.inl rfl),uv o ha hb hown (pr:=2) (.inr (by decide)),uv o ha hb hown (pr:=3) (.inr (by decide)),uv o ha hb hown (pr:=4) (.inr (by decide)),uv o ha hb hown (pr:=5) (.inr (by decide))]
 cases tgB p a b<;>cases(decide (aY (p.zs.getD a.toNat 0)=1)&&vh p b)<;>simp
theorem DB(hown:isP (p.zs.getD a.toNat 0) p.bl=false):jF p a b=[]:=by
 unfold jF
 rw[filter_none fun pr _=>by unfold canM;rw[hown];simp];rfl
theorem PsH.pa0(o:PsH p)(h:0<=p.pa):aj p.f p.r p.pa=true/\p.zs.getD p.pa.toNat 0=0:=by
 have hps:=o.pass
 simp only[kV,Bool.or_eq_true,Bool.and_eq_true,decide_eq_true_eq]at hps
 rcases hps with hps|⟨⟨⟨⟨⟨⟨_,_⟩,p3⟩,_⟩,p5⟩,_⟩,_⟩
 ·omega
 ·exact⟨p3,p5⟩
theorem NC(o:PsH p)(ha:aj p.f p.r a=true)(hown:isP (p.zs.getD a.toNat 0) p.bl=true) :
  Uk (tgR p a)/\(∀ n:Nat,n<64->bt (tgR p a) n=true->n<p.zs.length)/\∀ b,aj p.f p.r b=true->bt (tgR p a) b.toNat=tgB p a b:=by
 obtain⟨ha0,ha1⟩:=(bQ o.bd).1 ha
 obtain⟨hou,hob⟩:=nk o.bd o.hl
 obtain⟨hwu,hwb⟩:=Jb o.hl
 have hray:gE p.f p.r a (occR p.f p.r p.zs)=true:=(jh hou).2 ⟨ha,zo o.h o.hl⟩
 have hon:∀ {s:Int},OnS p.f p.r s->∀ n:Nat,n<64->bt s n=true->n<p.zs.length:=fun h n hn hb=>by
  have:=(bQ o.bd).1 (h n hn hb)
  omega
 unfold tgR tgB
 rw[o.ab ha]
 cases hk:decide (aY (p.zs.getD a.toNat 0)=1) with
 |true=>
  simp only[cond_true]
  obtain⟨_,s1,s3,s2⟩:=zG (bl:=p.bl) hray hou
  obtain⟨_,p1,p3,p2⟩:=wJ (bl:=p.bl) ha
  have hot:Uk (bif decide (0<=p.pa)then uor (cI (occR p.f p.r p.zs) (ownS p)) (ushl 1 p.pa)else cI (occR p.f p.r p.zs) (ownS p))/\∀ b,aj p.f p.r b=true->bt (bif decide (0<=p.pa)then uor (cI (occR p.f p.r p.zs) (ownS p)) (ushl 1 p.pa)else cI (occR p.f p.r p.zs) (ownS p)) b.toNat=((!decide (p.zs.getD b.toNat 0=0)&&!isP (p.zs.getD b.toNat 0) p.bl)||decide (b=p.pa)):=by
   have base:∀ b,aj p.f p.r b=true->bt (cI (occR p.f p.r p.zs) (ownS p)) b.toNat=(!decide (p.zs.getD b.toNat 0=0)&&!isP (p.zs.getD b.toNat 0) p.bl):=fun b hb=>by
    have:=(bQ o.bd).1 hb
    rw[gT hou hwu,hob,hwb,decide_eq_true (show b.toNat<p.zs.length by omega),Bool.true_and,Bool.true_and]
   cases hp:decide (0<=p.pa) with
   |true=>
    have hp0:=of_decide_eq_true hp
    have hv:=(o.pa0 hp0).1
    have hlt:=aS hv
    refine⟨gA _ _,fun b hb=>?_⟩
    have hb0:=(aS hb).1
    rw[cond_true,eY (gX _ _) (gJ _ _),base b hb,gZ hlt.1 hlt.2.2]
    congr 1
    rw[decide_eq_decide];omega
   |false=>
    refine⟨gX _ _,fun b hb=>?_⟩
    have hb0:=(aS hb).1
    have hp0:=of_decide_eq_false hp
    rw[cond_false,base b hb,decide_eq_false (show ¬ b=p.pa by omega),Bool.or_false]
  refine⟨gA _ _,fun n hn h=>?_,fun b hb=>?_⟩
  ·rw[eY s1 (tE _ _),Bool.or_eq_true]at h
   rcases h with h|h
   ·exact hon s3 n hn h
   ·rw[pq p1 hot.1,Bool.and_eq_true]at h
    exact hon p3 n hn h.1
  ·have hlt:=(bQ o.bd).1 hb
   rw[eY s1 (tE _ _),s2 b hb,pq p1 hot.1,p2 b hb,hot.2 b hb]
   cases hi:isP (p.zs.getD b.toNat 0) p.bl with
   |true=>
    have hz:=yA hi
    have hst:cq p.f p.r p.bl a (occR p.f p.r p.zs) b=false:=by
     have hocc:hasB (occR p.f p.r p.zs) b=true:=by
      rw[nX hou hb,hob,decide_eq_true (show b.toNat<p.zs.length by omega),decide_eq_false hz];rfl
     rw[Bool.eq_false_iff]
     intro h
     simp only[cq,Bool.or_eq_true,Bool.and_eq_true,decide_eq_true_eq,Bool.not_eq_true']at h
     rcases h with⟨h1,h2⟩|⟨⟨⟨⟨h1,_⟩,_⟩,_⟩,h2⟩<;>rw[<-h1,hocc]at h2<;>cases h2
    have hpa:decide (b=p.pa)=false:=by
     rw[decide_eq_false_iff_not]
     intro e
     have:=(o.pa0 (by omega)).2
     rw[<-e]at this
     exact hz this
    rw[hst,hpa];simp
   |false=>simp
 |false=>
  simp only[cond_false]
  have hk5:=zw o.h ha0 ha1 hown (of_decide_eq_false hk)
  obtain⟨r1,r2,r3⟩:=qO hray hou hk5
  replace r1:Uk (cn p.f p.r (aY (p.zs.getD a.toNat 0)) a (occR p.f p.r p.zs)).1:=r1
  replace r2:OnS p.f p.r (cn p.f p.r (aY (p.zs.getD a.toNat 0)) a (occR p.f p.r p.zs)).1:=r2
  replace r3:∀ b,aj p.f p.r b=true->bt (cn p.f p.r (aY (p.zs.getD a.toNat 0)) a (occR p.f p.r p.zs)).1 b.toNat=bJ p.f p.r (aY (p.zs.getD a.toNat 0)) a b (occR p.f p.r p.zs):=r3
  have hsw:Uk (bif decide (aY (p.zs.getD a.toNat 0)=6)then uor (cn p.f p.r (aY (p.zs.getD a.toNat 0)) a (occR p.f p.r p.zs)).1 (sw4 p a) else(cn p.f p.r (aY (p.zs.getD a.toNat 0)) a (occR p.f p.r p.zs)).1) /\
    (∀ n:Nat,n<64->bt (bif decide (aY (p.zs.getD a.toNat 0)=6)then uor (cn p.f p.r (aY (p.zs.getD a.toNat 0)) a (occR p.f p.r p.zs)).1 (sw4 p a) else(cn p.f p.r (aY (p.zs.getD a.toNat 0)) a (occR p.f p.r p.zs)).1) n=true->n<p.zs.length) /\
    ∀ b,aj p.f p.r b=true->bt (bif decide (aY (p.zs.getD a.toNat 0)=6)then uor (cn p.f p.r (aY (p.zs.getD a.toNat 0)) a (occR p.f p.r p.zs)).1 (sw4 p a) else(cn p.f p.r (aY (p.zs.getD a.toNat 0)) a (occR p.f p.r p.zs)).1) b.toNat=(bJ p.f p.r (aY (p.zs.getD a.toNat 0)) a b (occR p.f p.r p.zs)||wayB p.f p.r p.zs (wayN p.zs p.bl p.ca a b)):=by
   cases h6:decide (aY (p.zs.getD a.toNat 0)=6) with
   |true=>
    have hk6:absP (p.zs.getD a.toNat 0)=6:=by rw[o.ab ha];exact of_decide_eq_true h6
    refine⟨gA _ _,fun n hn h=>?_,fun b hb=>?_⟩
    ·rw[cond_true,eY r1 GL.1,Bool.or_eq_true]at h
     rcases h with h|h
     ·exact hon r2 n hn h
     ·have h64:p.zs.length=64:=by
       have hc:=o.cast
       simp only[fy,Bool.and_eq_true,Bool.not_eq_true',decide_eq_true_eq]at hc
       obtain⟨⟨⟨⟨c1,c2⟩,c3⟩,c4⟩,_⟩:=hc
       rw[GL.2]at h
       simp only[Bool.or_eq_true,Bool.and_eq_true,Bool.not_eq_true',Bool.or_eq_false_iff,decide_eq_false_iff_not]at h
       have fin:∀ {bit:Int} {k q:Nat} {c:Bool},rtX p.f p.r p.zs p.ca bit k q c=false->fq p.ca bit≠0->p.zs.length=64:=fun h1 h2=>by
        obtain⟨f8,r8,_⟩:=ia h1 h2
        exact tT o.bd (by rw[f8,r8];rfl)
       rcases h with((⟨⟨⟨⟨h,_⟩,_⟩,_⟩,_⟩|⟨⟨⟨⟨h,_⟩,_⟩,_⟩,_⟩)|⟨⟨⟨⟨h,_⟩,_⟩,_⟩,_⟩)|⟨⟨⟨⟨h,_⟩,_⟩,_⟩,_⟩
       ·exact fin c1 h
       ·exact fin c2 h
       ·exact fin c3 h
       ·exact fin c4 h
      omega
    ·rw[cond_true,eY r1 GL.1,r3 b hb,Nu hk6 (aS hb).1]
   |false=>
    refine⟨r1,hon r2,fun b hb=>?_⟩
    have hw:wayN p.zs p.bl p.ca a b=4:=by
     unfold wayN
     rw[o.ab ha,h6];rfl
    rw[cond_false,r3 b hb,hw]
    have:wayB p.f p.r p.zs 4=false:=rfl
    rw[this,Bool.or_false]
  refine⟨gX _ _,fun n hn h=>?_,fun b hb=>?_⟩
  ·rw[gT hsw.1 hwu,Bool.and_eq_true]at h
   exact hsw.2.1 n hn h.1
  ·have hlt:=(bQ o.bd).1 hb
   rw[gT hsw.1 hwu,hsw.2.2 b hb,hwb,decide_eq_true (show b.toNat<p.zs.length by omega),Bool.true_and,Bool.and_comm]
end
end
end Go.Ab
namespace Go.Ab
open IntKind
open Go.Proofs
section
theorem mM{α β:Type}(q:α->Bool)(g:α->List β):∀ l:List α,(l.filter q).flatMap g=l.flatMap fun x=>bif q x then g x else[]
 |[]=>rfl
 |x::l=>by
  rw[List.filter_cons,List.flatMap_cons,<-mM q g l]
  cases q x<;>simp
theorem oS{α β:Type}{f g:α->List β}:∀ {l:List α},(∀ x∈l,f x=g x)->l.flatMap f=l.flatMap g
 |[],_=>rfl
 |x::l,h=>by rw[List.flatMap_cons,List.flatMap_cons,h x (List.mem_cons_self ..),oS fun y hy=>h y (List.mem_cons_of_mem _ hy)]
theorem AB{β:Type}{q:Nat->Bool}{g:Int->List β}{n:Nat}(hn:n<=64)(hq:∀ m,m<64->q m=true->m<n) :
  (((List.range 64).filter q).map Int.ofNat).flatMap g=((List.range n).map Int.ofNat).flatMap fun x=>bif q x.toNat then g x else[]:=by
 rw[List.flatMap_map,List.flatMap_map,mM,List.range_eq_range',List.range_eq_range',show 64=n+(64-n) by omega,<-List.range'_append_1,List.flatMap_append]
 have h2:(List.range' (0+n) (64-n)).flatMap (fun x=>bif q x then g (Int.ofNat x) else[])=[]:=by
  rw[List.flatMap_eq_nil_iff]
  intro x hx
  have hx:=List.mem_range'_1.1 hx
  cases h:q x with
  |false=>rfl
  |true=>have:=hq x (by omega) h;omega
 rw[h2,List.append_nil]
 rfl
theorem tn{α:Type}{step:Int->List (List Int)->Option (List (List Int) ⊕ (List (List Int) ⊕ α))}{F Fx:List (List Int)->Option α}{rows:Int->List (List Int)}{M k:Nat}:∀ {l:List Int} {acc:List (List Int)},
  (∀ x∈l,∀ acc:List (List Int),acc.length<=M->step x acc=some (.inl (acc++rows x)))->(∀ x∈l,(rows x).length<=k)->acc.length+k*l.length<=M->dN step F Fx l acc=F (acc++l.flatMap rows)
 |[],acc,_,_,_=>by rw[AX,List.flatMap_nil,List.append_nil]
 |x::l,acc,hs,hr,hM=>by
  rw[List.length_cons,Nat.mul_add]at hM
  rw[mR (hs x (List.mem_cons_self ..) acc (by omega)),tn (fun y hy=>hs y (List.mem_cons_of_mem _ hy)) (fun y hy=>hr y (List.mem_cons_of_mem _ hy)) (by have:=hr x (List.mem_cons_self ..);rw[List.length_append];omega),List.flatMap_cons,List.append_assoc]
theorem BP{f r b:Int}{zs:List Int}(_hbd:aC f r zs=true)(hb:aj f r b=true):((r-1)*f<=b↔py f b=r-1)/\(b<f↔py f b=0):=by
 obtain⟨b0,b1,b2,b3,b4,b5,b6,b7,b8,b9⟩:=fB hb
 constructor
 ·constructor
  ·intro h
   refine Decidable.byContradiction fun hne=>?_
   have:(py f b+1)*f<=(r-1)*f:=Int.mul_le_mul_of_nonneg_right (by omega) (by omega)
   rw[Int.add_mul]at this
   omega
  ·intro h
   rw[<-h];omega
 ·constructor
  ·intro h
   refine Decidable.byContradiction fun hne=>?_
   have:1*f<=py f b*f:=Int.mul_le_mul_of_nonneg_right (by omega) (by omega)
   omega
  ·intro h
   rw[h]at b5;omega
section
variable{p:Psn}{a b:Int}
def xF(p:Psn)(b:Int):Bool:=bif p.bl then decide (b<p.f)else decide (i64.wrap (p.f*i64.wrap (p.r-1))<=b)
theorem FJ(w x:Int):AD ⟨p,w,x⟩ b=some (xF p b):=by
 unfold AD xF
 cases h:p.bl<;>rfl
theorem KW(o:PsH p)(hb:aj p.f p.r b=true):xF p b=vh p b:=by
 obtain⟨w1,w2⟩:=BP o.bd hb
 obtain⟨b0,b1,b2,b3,b4,b5,b6,b7,b8,b9⟩:=fB hb
 have hlt:=aS hb
 unfold xF vh
 cases p.bl with
 |true=>
  rw[cond_true,decide_eq_decide,show gj p.r true=0 from rfl]
  exact w2
 |false=>
  have h1:i64.wrap (p.r-1)=p.r-1:=aI (by omega) (by omega)
  have hm:0<=p.f*(p.r-1)/\p.f*(p.r-1)<=64:=by
   have e1:p.f*(p.r-1)<=8*(p.r-1):=Int.mul_le_mul_of_nonneg_right (by omega) (by omega)
   exact⟨Int.mul_nonneg (by omega) (by omega),by omega⟩
  rw[cond_false,decide_eq_decide,h1,aI (by omega) (by omega),show gj p.r false=p.r-1 from h1,Int.mul_comm]
  exact w1
def zU(p:Psn)(a b:Int):List (List Int):=bif decide (absP (p.zs.getD a.toNat 0)=1)&&xF p b then[[a,b,2],[a,b,3],[a,b,4],[a,b,5]] else[[a,b,0]]
theorem DM:(zU p a b).length<=4:=by
 unfold zU
 cases(decide (absP (p.zs.getD a.toNat 0)=1)&&xF p b)<;>simp
theorem DS{acc:List (List Int)}(h:acc.length<=100000):decide ((acc.length+1)*24<=140737488355328)=true:=by simp;omega
theorem jU{acc:List (List Int)}{q:Int}(h:acc.length<=100000)(h1:0<=q)(h2:q<=5):eE a b (acc,q)=some (.inl (acc++[[a,b,q]],q+1)):=by
 unfold eE
 simp only[DS h,decide_eq_true h2,cond_true,aR]
 rw[show i8.wrap (q+1)=q+1 from GY (by omega) (by omega)]
 rfl
theorem Hw{acc:List (List Int)}:eE a b (acc,2+1+1+1+1)=some (.inr (.inl acc)):=by
 unfold eE
 rfl
theorem FM{acc:List (List Int)}(h:acc.length<=90000):cR (eE a b) (fun s33:List (List Int)=>some (.inl s33)) 1000000 (acc,2)=some (.inl (acc++[[a,b,2],[a,b,3],[a,b,4],[a,b,5]])):=by
 rw[show (1000000:Nat)=999995+1+1+1+1+1 by rfl]
 rw[bC (jU (by omega) (by decide) (by decide)),bC (jU (by simp;omega) (by decide) (by decide)),bC (jU (by simp;omega) (by decide) (by decide)),bC (jU (by simp;omega) (by decide) (by decide)),dn Hw]
 simp
theorem JU(ha:0<=a/\a<p.zs.length){acc:List (List Int)}(h:acc.length<=90000):qQ ⟨p,ownS p,occR p.f p.r p.zs⟩ a eE b acc=some (.inl (acc++zU p a b)):=by
 have h1:(decide (0<=a)&&decide (a<Int.ofNat p.zs.length))=true:=by simp;omega
 unfold qQ zU
 simp only[List.drop_zero,List.take_length,yB,MS,h1,aR,aO,Option.getD_some,FJ,Option.isSome_some,Bool.or_true,DS (show acc.length<=100000 by omega),FM h]
 by_cases h2:absP (p.zs.getD a.toNat 0)=1
 ·simp only[h2,decide_true,Bool.not_true,Bool.false_or,Bool.true_and]
  cases xF p b<;>rfl
 ·simp only[h2,decide_false,Bool.not_false,Bool.true_or,Bool.false_and]
  rfl
theorem mq{x n:Int}(h:n∈bitL x):0<=n/\n<64/\bt x n.toNat=true:=by
 unfold bitL at h
 obtain⟨m,hm,rfl⟩:=List.mem_map.1 h
 rw[List.mem_filter,List.mem_range]at hm
 exact⟨Int.natCast_nonneg _,Int.ofNat_lt.2 hm.1,by simpa using hm.2⟩
theorem HX(o:PsH p)(ha:aj p.f p.r a=true):AQ ⟨p,ownS p,occR p.f p.r p.zs⟩ a=some (psL p a):=by
 have hA:=(bQ o.bd).1 ha
 have hlt:=aS ha
 obtain⟨hwu,hwb⟩:=Jb o.hl
 have h0:decide (band Go.BinOp.and u64 ((ownS p).fdiv (2^Min.min a.toNat u64.bits)) 1=0)=!isP (p.zs.getD a.toNat 0) p.bl:=by
  have:=Kr hwu hlt.1 hlt.2.2
  rw[hwb,decide_eq_true (show a.toNat<p.zs.length by omega),Bool.true_and]at this
  exact this
 unfold AQ
 simp only[List.drop_zero,List.take_length,yB,decide_eq_true hlt.1,aR]
 rw[h0]
 cases hi:isP (p.zs.getD a.toNat 0) p.bl with
 |false=>
  rw[Bool.not_false,cond_true]
  congr 1
  unfold psL
  rw[eq_comm,List.flatMap_eq_nil_iff]
  exact fun _ _=>DB hi
 |true=>
  rw[Bool.not_true,cond_false,NU hA,aO]
  obtain⟨t1,t2,t3⟩:=NC o ha hi
  rw[zM t1]
  have hlen:=ry (tgR p a)
  rw[tn (rows:=zU p a) (M:=90000) (k:=4) (fun x _ acc h=>JU hA h) (fun _ _=>DM) (by simp;omega),List.nil_append]
  congr 1
  unfold bitL psL
  rw[AB o.hl t2]
  refine oS fun x hx=>?_
  obtain⟨m,hm,rfl⟩:=List.mem_map.1 hx
  have hm:=List.mem_range.1 hm
  have hv:aj p.f p.r (Int.ofNat m)=true:=(bQ o.bd).2 ⟨Int.natCast_nonneg _,Int.ofNat_lt.2 hm⟩
  rw[t3 _ hv,KH o ha hv hi]
  unfold zU
  rw[KW o hv,o.ab ha]
end
end
end Go.Ab
namespace Go.Ab
open Go.Proofs
section
variable{kCa kDb:Bool}
end
end Go.Ab
