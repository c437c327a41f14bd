/- Contracts of the functions that the laws reach, and plain laws of what they compute (text G10); no condition. -/
import Derived.Test.YtcmhemipmmckoaaGreatDoorG9
import Derived.Test.YtcmhemipmmckoaaGreatDoorG8
import Derived.Test.YtcmhemipmmckoaaGreatDoorG4
import Derived.Test.YtcmhemipmmckoaaGreatDoorG3
set_option maxRecDepth 100000
set_option maxHeartbeats 4000000
namespace Go.Ab
open IntKind
open Go.Proofs
section
variable{kCa kDb:Bool}
def afZ1(f r:Int)(zs:List Int)(pa a b:Int):List Int:=bif decide (0<=capL f r zs pa a b)then zs.set (capL f r zs pa a b).toNat 0 else zs
def afZ2(f r:Int)(zs:List Int)(pa a b:Int):List Int:=((afZ1 f r zs pa a b).set a.toNat 0).set b.toNat (zs.getD a.toNat 0)
def afZ3(f r:Int)(zs:List Int)(pa a b pr:Int):List Int:=bif !decide (pr=0) then(afZ2 f r zs pa a b).set b.toNat (w8 (pr*w8 (sgn (zs.getD a.toNat 0))))else afZ2 f r zs pa a b
def afZ4(l:List Int)(c:Int):List Int:=bif !decide (c=0) then(l.set (sqW c 3).toNat (l.getD (sqW c 2).toNat 0)).set (sqW c 2).toNat 0 else l
def afZ(f r:Int)(zs:List Int)(bl:Bool)(ca pa a b pr:Int):List Int:=afZ4 (afZ3 f r zs pa a b pr) (cgL f r zs bl ca a b pr)
def afS(ca a b bit:Int):Int:=bif decide ((u8.wrap (ca.tdiv bit)).tmod 2=1)&&(hasL a [sqW bit 0,sqW bit 2]||hasL b [sqW bit 0,sqW bit 2])then u8.wrap (ca-bit)else ca
def afC(ca a b:Int):Int:=afS (afS (afS (afS ca a b 1) a b 2) a b 4) a b 8
def afPa(f r:Int)(zs:List Int)(a b:Int):Int:=bif decide (be (zs.getD a.toNat 0)=1)&&(decide (i64.wrap (i64.wrap (a.tdiv f)-i64.wrap (b.tdiv f))=2)||decide (i64.wrap (i64.wrap (b.tdiv f)-i64.wrap (a.tdiv f))=2))then numR f r (a.tmod f) (i64.wrap ((i64.wrap (i64.wrap (a.tdiv f)+i64.wrap (b.tdiv f))).tdiv 2))else -1
def afHa(f r:Int)(zs:List Int)(pa ha a b:Int):Int:=bif decide (be (zs.getD a.toNat 0)=1)||decide (0<=capL f r zs pa a b)then 0 else i64.wrap (ha+1)
def afP(p:Psn)(m:Mov):Psn:=⟨p.f,p.r,afZ p.f p.r p.zs p.bl p.ca p.pa m.a m.b m.p,!p.bl,afC p.ca m.a m.b,afPa p.f p.r p.zs m.a m.b,afHa p.f p.r p.zs p.pa p.ha m.a m.b,fuR p.bl p.fu⟩
theorem Fc{f r:Int}{zs:List Int}{pa a b:Int}:(afZ1 f r zs pa a b).length=zs.length:=by unfold afZ1;cases decide (0<=capL f r zs pa a b)<;>simp
theorem FV{f r:Int}{zs:List Int}{pa a b pr:Int}:(afZ3 f r zs pa a b pr).length=zs.length:=by unfold afZ3 afZ2;cases(!decide (pr=0))<;>simp[Fc]
theorem JU{f r:Int}{zs:List Int}{bl:Bool}{ca pa a b pr:Int}:(afZ f r zs bl ca pa a b pr).length=zs.length:=by unfold afZ afZ4;cases(!decide (cgL f r zs bl ca a b pr=0))<;>simp[FV]
theorem sqs:sqW 1 2=7/\sqW 1 3=5/\sqW 2 2=0/\sqW 2 3=3/\sqW 4 2=63/\sqW 4 3=61/\sqW 8 2=56/\sqW 8 3=59:=⟨by kernel_rfl,by kernel_rfl,by kernel_rfl,by kernel_rfl,by kernel_rfl,by kernel_rfl,by kernel_rfl,by kernel_rfl⟩
end
end Go.Ab
namespace Go.Ab
open Go.Proofs
section
variable{kCa kDb:Bool}
end
section
variable{kCa kDb:Bool}
end
theorem sH{ca:Int}(h:0<=ca/\ca<=15){bit:Int}(hb:bit=1\/bit=2\/bit=4\/bit=8):decide ((IntKind.u8.wrap (ca.tdiv bit)).tmod 2=1)=!decide (bQ ca bit=0):=by
 obtain⟨h1,h2⟩:=h
 have:ca=0\/ca=1\/ca=2\/ca=3\/ca=4\/ca=5\/ca=6\/ca=7\/ca=8\/ca=9\/ca=10\/ca=11\/ca=12\/ca=13\/ca=14\/ca=15:=by omega
 rcases hb with rfl|rfl|rfl|rfl<;>rcases this with rfl|rfl|rfl|rfl|rfl|rfl|rfl|rfl|rfl|rfl|rfl|rfl|rfl|rfl|rfl|rfl<;>decide
theorem JP{f r:Int}{zs:List Int}:(kX f r zs 1=!((!is88 f r||!decide (zs.getD 4 0=ofP 6 false))||!decide (zs.getD 7 0=ofP 4 false)))/\(kX f r zs 2=!((!is88 f r||!decide (zs.getD 4 0=ofP 6 false))||!decide (zs.getD 0 0=ofP 4 false)))/\(kX f r zs 4=!((!is88 f r||!decide (zs.getD 60 0=ofP 6 true))||!decide (zs.getD 63 0=ofP 4 true)))/\(kX f r zs 8=!((!is88 f r||!decide (zs.getD 60 0=ofP 6 true))||!decide (zs.getD 56 0=ofP 4 true))):=by
 have e1:ofP 6 false=6:=by decide
 have e2:ofP 4 false=4:=by decide
 have e3:ofP 6 true=-6:=by decide
 have e4:ofP 4 true=-4:=by decide
 rw[e1,e2,e3,e4]
 unfold kX is88
 cases decide (f=8)<;>cases decide (r=8)<;>simp
theorem cast_eq{f r:Int}{zs:List Int}{ca:Int}(h0:0<=ca):ng f r zs ca=ee f r zs ca:=by
 unfold ng ee
 rcases Int.lt_or_le 15 ca with h|h
 ·have h2:¬ ca<16:=by omega
  simp[h,h2]
 ·have h2:ca<16:=by omega
  have h1:¬ 15<ca:=by omega
  obtain⟨a1,a2,a3,a4⟩:=JP (f:=f) (r:=r) (zs:=zs)
  have hx:0<=ca/\ca<=15:=⟨h0,h⟩
  simp only[rXL,rtX,sH hx (.inl rfl),sH hx (.inr (.inl rfl)),sH hx (.inr (.inr (.inl rfl))),sH hx (.inr (.inr (.inr rfl))),a1,a2,a3,a4,Bool.not_not,decide_eq_true h2,decide_eq_false h1,cond_false,Bool.and_true,Bool.not_or,Bool.not_and]
theorem pF(p:Int->Bool):∀ (l:List Int) (k:Int),(ct p l k=-1/\∀ i,i<l.length->p (l.getD i 0)=false)\/(∃ j,j<l.length/\ct p l k=k+(j:Nat)/\p (l.getD j 0)=true/\∀ i,i<j->p (l.getD i 0)=false)
 |[],k=>.inl ⟨rfl,fun i h=>by simp at h⟩
 |x::l,k=>by
  rw[ct]
  cases hx:p x with
  |true=>right;exact⟨0,by simp,by simp,by simpa using hx,fun i h=>by omega⟩
  |false=>
   rw[cond_false]
   rcases pF p l (k+1) with⟨h1,h2⟩|⟨j,h1,h2,h3,h4⟩
   ·left
    refine⟨h1,fun i hi=>?_⟩
    cases i with
    |zero=>simpa using hx
    |succ i=>have:=h2 i (by simpa using hi);simpa using this
   ·right
    refine⟨j+1,by simpa using h1,by rw[h2];push_cast;omega,by simpa using h3,fun i hi=>?_⟩
    cases i with
    |zero=>simpa using hx
    |succ i=>have:=h4 i (by omega);simpa using this
theorem nI{c:Int->Bool}:∀ (n:Nat),(∀ i:Nat,i<n->c i=false)->cT c id n=[]
 |0,_=>rfl
 |n+1,h=>by rw[fJ,h n (by omega),cond_false];exact nI n fun i hi=>h i (by omega)
theorem qe{c:Int->Bool}{a:Nat}(ha:c a=true):∀ (n:Nat),a<n->(∀ i:Nat,i<n->c i=true->i=a)->cT c id n=[(a:Int)]
 |0,h,_=>by omega
 |n+1,h,hu=>by
  rw[fJ]
  by_cases e:n=a
  ·subst e
   rw[ha,cond_true,nI n fun i hi=>?_]
   ·rfl
   ·cases hc:c i with
    |false=>rfl
    |true=>have:=hu i (by omega) hc;omega
  ·have:c n=false:=by
    cases hc:c n with
    |false=>rfl
    |true=>exact absurd (hu n (by omega) hc) e
   rw[this,cond_false]
   exact qe ha n (by omega) fun i hi=>hu i (by omega)
theorem KB(bl:Bool):w8 (IntKind.i64.wrap (6*sdI bl))=kgP bl:=by cases bl<;>decide
theorem gN{zs:List Int}{p:Int->Bool}{k:Nat}:(zs.drop k).any p=true↔∃ i,k<=i/\i<zs.length/\p (zs.getD i 0)=true:=by
 rw[List.any_eq_true]
 constructor
 ·rintro⟨x,hx,hp⟩
  obtain⟨i,hi,rfl⟩:=List.mem_iff_getElem.1 hx
  rw[List.getElem_drop]at hp
  rw[List.length_drop]at hi
  exact⟨k+i,by omega,by omega,by simpa[List.getD,show k+i<zs.length by omega]using hp⟩
 ·rintro⟨i,h1,h2,h3⟩
  refine⟨zs.getD i 0,?_,h3⟩
  rw[List.mem_iff_getElem]
  refine⟨i-k,by rw[List.length_drop];omega,?_⟩
  rw[List.getElem_drop]
  simp[List.getD,h2,show k+(i-k)=i by omega]
theorem zb(zs:List Int)(bl:Bool)(hl:zs.length<=64):(nv zs bl=true/\aP zs bl=-1)\/(nv zs bl=false/\aP zs bl=fX zs bl/\0<=fX zs bl/\fX zs bl<zs.length/\zs.getD (fX zs bl).toNat 0=kgP bl/\∀ i:Nat,i<zs.length->zs.getD i 0=kgP bl->(i:Int)=fX zs bl):=by
 unfold aP nv
 rw[KB]
 rcases pF (isV (kgP bl)) zs 0 with⟨h1,h2⟩|⟨j,h1,h2,h3,h4⟩
 ·left
  have hn:gT zs (kgP bl)=[]:=nI _ fun i hi=>by
   have:=h2 i hi
   simp only[isV,decide_eq_false_iff_not]at this
   simp only[jF,Int.toNat_natCast,decide_eq_false_iff_not]
   exact fun e=>this e.symm
  rw[hn]
  refine⟨?_,rfl⟩
  rw[show fX zs bl=-1 from h1];rfl
 ·have hK:fX zs bl=(j:Int):=by unfold fX;rw[h2];omega
  simp only[isV,decide_eq_true_eq]at h3
  rw[hK,show IntKind.i64.wrap ((j:Int)+1)=((j+1:Nat):Int) by rw[ay (by omega) (by omega)];omega,Int.toNat_natCast,show decide ((j:Int)<0)=false by simp,Bool.false_or]
  cases ha:(zs.drop (j+1)).any (isV (kgP bl)) with
  |true=>
   left
   refine⟨rfl,?_⟩
   obtain⟨i,g1,g2,g3⟩:=gN.1 ha
   simp only[isV,decide_eq_true_eq]at g3
   have m1:(j:Int)∈gT zs (kgP bl):=dK.2 ⟨by omega,by omega,by simp[jF,h3]⟩
   have m2:(i:Int)∈gT zs (kgP bl):=dK.2 ⟨by omega,by omega,by simp[jF,g3]⟩
   cases hd:decide (((gT zs (kgP bl)).length:Int)=1) with
   |false=>rfl
   |true=>
    have:(gT zs (kgP bl)).length=1:=by have:=of_decide_eq_true hd;omega
    obtain⟨x,hx⟩:=List.length_eq_one_iff.1 this
    rw[hx]at m1 m2
    simp at m1 m2
    omega
  |false=>
   right
   have hno:∀ i:Nat,i<zs.length->zs.getD i 0=kgP bl->i=j:=by
    intro i hi he
    rcases Nat.lt_trichotomy i j with g|g|g
    ·have:=h4 i g
     simp only[isV,decide_eq_false_iff_not]at this
     exact absurd he.symm this
    ·exact g
    ·have:(zs.drop (j+1)).any (isV (kgP bl))=true:=gN.2 ⟨i,by omega,hi,by simp only[isV,decide_eq_true_eq];exact he.symm⟩
     rw[ha]at this;cases this
   have hone:gT zs (kgP bl)=[(j:Int)]:=qe (by simp[jF,h3]) _ h1 fun i hi hc=>hno i hi (by simpa[jF]using hc)
   refine⟨rfl,by rw[hone];rfl,by omega,by omega,by rw[h3,Int.toNat_natCast],fun i hi he=>by rw[hno i hi he]⟩
theorem jk{f r:Int}{zs:List Int}{bl:Bool}(h:aO f r zs=true)(hl:zs.length<=64):(aP zs bl<0/\bE f r zs bl=(0,9))\/(bE f r zs bl=(aP zs bl,0)/\ak f r (aP zs bl)=true/\aP zs bl=fX zs bl):=by
 rcases zb zs bl hl with⟨h1,h2⟩|⟨h1,h2,h3,h4,_⟩
 ·left;exact⟨by rw[h2];decide,by unfold bE;rw[h,h1];rfl⟩
 ·right;exact⟨by unfold bE;rw[h,h1,h2];rfl,(AY h).2 (by rw[h2];exact⟨h3,h4⟩),h2⟩
end Go.Ab
namespace Go.Ab
open IntKind
open Go.Proofs
theorem Gy{f r:Int}{zs:List Int}{to:Int}{bl:Bool}(h:aO f r zs=true)(hl:zs.length<=64)(ht:ak f r to=true):decide (attR f r zs to bl=0)=decide (((attL f r zs to bl).length:Int)=0):=by
 obtain⟨hu,hb⟩:=Cl (bl:=bl) h hl ht
 rw[decide_eq_decide,rD hu]
 constructor
 ·intro h0
  have:attL f r zs to bl=[]:=List.eq_nil_iff_forall_not_mem.2 fun x hx=>by
   have hx':=lK.1 hx
   have:=h0 x.toNat (by omega)
   rw[hb,show ((x.toNat:Nat):Int)=x by omega]at this
   simp[hx]at this
  rw[this];rfl
 ·intro h0 n _
  have:attL f r zs to bl=[]:=List.eq_nil_of_length_eq_zero (by omega)
  rw[hb,this];simp
theorem HL{f r:Int}{zs:List Int}{bl:Bool}(h:aO f r zs=true)(hl:zs.length<=64)(hk:(bE f r zs bl).2=0):chkL f r zs bl=chkB f r zs bl:=by
 rcases jk (bl:=bl) h hl with⟨_,h2⟩|⟨h1,h2,_⟩
 ·rw[h2]at hk;cases hk
 ·unfold chkL chkB aZ
  rw[h1]
  simp only[decide_true,cond_true]
  rw[Gy h hl h2]
  have:(0:Int)<=((attL f r zs (aP zs bl) (!bl)).length:Int):=Int.natCast_nonneg _
  by_cases h0:((attL f r zs (aP zs bl) (!bl)).length:Int)=0
  ·simp[h0]
  ·have:0<((attL f r zs (aP zs bl) (!bl)).length:Int):=by omega
   rw[decide_eq_false h0,decide_eq_true this];rfl
theorem GS{f r:Int}{zs:List Int}{bl:Bool}(hl:zs.length<=64):(aH f r zs&&eC f r zs bl)=(aO f r zs&&!decide (aP zs false<0)&&!decide (aP zs true<0)&&!chkL f r zs (!bl)):=by
 cases ho:aO f r zs with
 |false=>
  have:eC f r zs bl=false:=by unfold eC bE;rw[ho];simp
  rw[this];simp
 |true=>
  have hv:=(bj ho).2.2.1
  rw[hv]
  simp only[Bool.true_and]
  have key:∀ b,decide (aP zs b<0)=!decide ((bE f r zs b).2=0):=fun b=>by
   rcases jk (bl:=b) ho hl with⟨h1,h2⟩|⟨h1,h2,_⟩
   ·rw[h2];simp[h1]
   ·rw[h1];have:=(aE h2).1;simp;omega
  rw[key,key]
  unfold eC
  have hch:∀ b,(aZ f r zs b).2=0↔(bE f r zs b).2=0:=fun b=>by
   unfold aZ
   by_cases h:(bE f r zs b).2=0
   ·simp[h]
   ·simp[h]
  cases hk1:decide ((bE f r zs bl).2=0) with
  |false=>cases bl<;>rw[hk1]<;>simp
  |true=>
   cases hk2:decide ((bE f r zs (!bl)).2=0) with
   |false=>
    have:decide ((aZ f r zs (!bl)).2=0)=false:=by rw[decide_eq_false_iff_not,hch];exact of_decide_eq_false hk2
    rw[this]
    cases bl<;>simp only[Bool.not_true,Bool.not_false]at hk2 ⊢<;>rw[hk2]<;>simp
   |true=>
    have h1:decide ((aZ f r zs (!bl)).2=0)=true:=by rw[decide_eq_true_eq,hch];exact of_decide_eq_true hk2
    rw[h1,HL ho hl (of_decide_eq_true hk2)]
    unfold chkB
    cases bl<;>simp only[Bool.not_true,Bool.not_false]at hk2 ⊢<;>rw[hk1,hk2]<;>simp
theorem EN{zs:List Int}{p:Int->Bool}:zs.any p=true↔∃ i,i<zs.length/\p (zs.getD i 0)=true:=by
 have:=gN (zs:=zs) (p:=p) (k:=0)
 rw[List.drop_zero]at this
 rw[this];exact⟨fun⟨i,_,h⟩=>⟨i,h⟩,fun⟨i,h⟩=>⟨i,by omega,h⟩⟩
theorem qc{zs:List Int}{p:Int->Bool}{k:Nat}:(zs.take k).any p=true↔∃ i,i<k/\i<zs.length/\p (zs.getD i 0)=true:=by
 rw[EN]
 constructor
 ·rintro⟨i,h1,h2⟩
  rw[List.length_take]at h1
  exact⟨i,by omega,by omega,by simpa[List.getD,List.getElem?_take,show i<k by omega]using h2⟩
 ·rintro⟨i,h1,h2,h3⟩
  exact⟨i,by rw[List.length_take];omega,by simpa[List.getD,List.getElem?_take,h1]using h3⟩
theorem EO{f r:Int}{zs:List Int}(h:aO f r zs=true)(_hl:zs.length<=64):iB f zs=!tc f r zs:=by
 obtain⟨hv,hn,hbd,hp⟩:=bj h
 have hb:=dB hv
 have hpw:∀ i:Nat,i<zs.length->(pwL f r zs i=true↔(zs.getD i 0=1/\zs.length-f.toNat<=i)\/(zs.getD i 0=-1/\i<f.toNat)):=by
  intro i hi
  have hvi:ak f r (i:Int)=true:=(cw hbd).2 ⟨by omega,by omega⟩
  obtain⟨hd,x0,x1,y0,y1,he,_⟩:=cV hvi
  have hpc:=lq h (i:=(i:Int)) (by omega) (by omega)
  have hl0:fE r (decide ((1:Int)<0))=r-1:=ay (by omega) (by omega)
  have hl1:fE r (decide ((-1:Int)<0))=0:=rfl
  have hmul:f*r=(r-1)*f+f:=by rw[Int.sub_mul,Int.mul_comm r f];omega
  rw[Int.toNat_natCast]at hpc
  unfold pwL
  rw[hd,Int.toNat_natCast,gB hpc]
  simp only[Bool.and_eq_true,decide_eq_true_eq]
  constructor
  ·rintro⟨h1,h2⟩
   have:zs.getD i 0=1\/zs.getD i 0=-1:=by omega
   rcases this with e|e
   ·left
    rw[e,hl0]at h2
    rw[h2]at he
    exact⟨e,by omega⟩
   ·right
    rw[e,hl1]at h2
    rw[h2]at he
    exact⟨e,by omega⟩
  ·rintro(⟨e,h2⟩|⟨e,h2⟩)
   ·rw[e,hl0]
    refine⟨by decide,?_⟩
    have h5:¬ py f i<r-1:=by
     intro h6
     have:(py f i+1)*f<=(r-1)*f:=Int.mul_le_mul_of_nonneg_right (by omega) (by omega)
     rw[Int.add_mul]at this
     omega
    omega
   ·rw[e,hl1]
    refine⟨by decide,?_⟩
    have h5:¬ 1<=py f i:=by
     intro h6
     have:1*f<=py f i*f:=Int.mul_le_mul_of_nonneg_right h6 (by omega)
     omega
    omega
 have hiff:tc f r zs=true↔((zs.drop (zs.length-f.toNat)).any (isV 1)=true\/(zs.take f.toNat).any (isV (-1))=true):=by
  rw[gN,qc]
  unfold tc
  rw[List.any_eq_true]
  constructor
  ·rintro⟨i,hi,hp⟩
   have hi:=List.mem_range.1 hi
   rcases(hpw i hi).1 hp with⟨e,g⟩|⟨e,g⟩
   ·left;exact⟨i,g,hi,by rw[e];rfl⟩
   ·right;exact⟨i,g,hi,by rw[e];rfl⟩
  ·rintro(⟨i,g1,g2,g3⟩|⟨i,g1,g2,g3⟩)
   ·simp only[isV,decide_eq_true_eq]at g3
    exact⟨i,List.mem_range.2 g2,(hpw i g2).2 (.inl ⟨g3.symm,g1⟩)⟩
   ·simp only[isV,decide_eq_true_eq]at g3
    exact⟨i,List.mem_range.2 g2,(hpw i g2).2 (.inr ⟨g3.symm,g1⟩)⟩
 unfold iB
 cases h1:(zs.drop (zs.length-f.toNat)).any (isV 1)<;>cases h2:(zs.take f.toNat).any (isV (-1))<;>rw[h1,h2]at hiff<;>cases h3:tc f r zs<;>rw[h3]at hiff<;>simp at hiff ⊢
theorem LS{f r n k:Int}{zs:List Int}(hbd:aH f r zs=true)(hn:ak f r n=true)(_hk:k=1\/k=-1)(hb:ak f r (n+k*f)=true):px f (n+k*f)=px f n/\py f (n+k*f)=py f n+k:=by
 obtain⟨_,a1,a2,a3,a4,a5,a6⟩:=cV hn
 obtain⟨_,b1,b2,b3,b4,b5,_⟩:=cV hb
 have:=hbd
 refine mD (f:=f) (by omega) b1 b2 a1 a2 ?_
 rw[b5,Int.add_mul];omega
theorem IA{f r:Int}{zs:List Int}{bl:Bool}{pa ha:Int}(hbd:aH f r zs=true):pasL f r zs bl pa ha=ia f r zs bl pa ha:=by
 unfold pasL ia
 cases h1:decide (pa=-1) with
 |true=>rfl
 |false=>
  rw[cond_false,Bool.false_or]
  by_cases h2:6<=r
  ·have e2:decide (r<6)=false:=by simp;omega
   rw[e2,decide_eq_true h2]
   cases h3:decide (ha=0) with
   |false=>simp
   |true=>
    cases h4:ak f r pa with
    |false=>simp
    |true=>
     have hv:=(bL hbd).1
     have hb:=dB hv
     obtain⟨hd,x0,x1,y0,y1,he,_⟩:=cV h4
     have hm:pa.tmod f=px f pa:=rfl
     have hr2:dY r (!bl) 2=(bif bl then 1 else r-2):=by
      unfold dY;cases bl
      ·exact ay (by omega) (by omega)
      ·rfl
     have hr4:dY r (!bl) 4=(bif bl then 3 else r-4):=by
      unfold dY;cases bl
      ·exact ay (by omega) (by omega)
      ·rfl
     have hk:decide (i64.wrap (2*i64.wrap (pa.tdiv f))=i64.wrap (dY r (!bl) 2+dY r (!bl) 4))=decide (i64.wrap (pa.tdiv f)=rkP r bl):=by
      rw[hd,hr2,hr4,decide_eq_decide]
      rw[ay (n:=2*py f pa) (by omega) (by omega)]
      unfold rkP
      cases bl
      ·simp only[cond_false]
       rw[ay (by omega) (by omega),ay (by omega) (by omega)];omega
      ·simp only[cond_true]
       rw[ay (by omega) (by omega)];omega
     rw[hk]
     cases h5:decide (i64.wrap (pa.tdiv f)=rkP r bl) with
     |false=>simp
     |true=>
      obtain⟨n1,n2,n3,n4,n5,n6,n7⟩:=iV (bl:=bl) hbd h2 h4 (of_decide_eq_true h5)
      have hlt:=(cw hbd).1 h4
      have hm1:ak f r (pa+-1*f)=true:=(cw hbd).2 ⟨by omega,by omega⟩
      have hp1:ak f r (pa+1*f)=true:=(cw hbd).2 ⟨by omega,by omega⟩
      have hy:py f pa=(bif bl then 2 else r-3):=by
       have:=of_decide_eq_true h5
       rw[hd]at this
       rw[this];unfold rkP;cases bl
       ·exact ay (by omega) (by omega)
       ·rfl
      have hnum:∀ {k R:Int},(k=1\/k=-1)->R=py f pa+k->ak f r (pa+k*f)=true->numR f r (pa.tmod f) R=pa+k*f:=by
       intro k R hk hR hvk
       obtain⟨p1,p2⟩:=LS hbd h4 hk hvk
       have ho:onB f r (pa.tmod f) R=true:=by
        obtain⟨_,_,_,q3,q4,_⟩:=cV hvk
        rw[p2,<-hR]at q3 q4
        exact jm (by rw[hm];exact x0) (by rw[hm];exact x1) q3 q4
       exact(hU hv ho hvk).2 ⟨by rw[p1,hm],by rw[p2,hR]⟩
      have hpc:oT 1 (!bl)=ofP 1 (!bl):=rfl
      rw[hr2,hr4,hpc]
      cases bl
      ·simp only[cond_false]at hy ⊢
       have q1:=hnum (k:=1) (R:=r-2) (.inl rfl) (by omega) hp1
       have q2:=hnum (k:=-1) (R:=r-4) (.inr rfl) (by omega) hm1
       simp only[q1,q2,upP,cond_false,n5,n6,n7]
       have z1:pa+1*f=pa+f:=by omega
       have z2:pa+-1*f=pa-f:=by omega
       simp only[z1,z2]
       simp[Bool.and_assoc]
      ·simp only[cond_true]at hy ⊢
       have q1:=hnum (k:=-1) (R:=1) (.inr rfl) (by omega) hm1
       have q2:=hnum (k:=1) (R:=3) (.inl rfl) (by omega) hp1
       simp only[q1,q2,upP,cond_true,n3,n4]
       have z1:pa+1*f=pa+f:=by omega
       have z2:pa+-1*f=pa-f:=by omega
       simp only[z1,z2]
       simp[Bool.and_assoc]
  ·have e2:decide (r<6)=true:=by simp;omega
   rw[e2,decide_eq_false h2];simp
theorem CZ{p:Psn}(hl:p.zs.length<=64)(hca:0<=p.ca):lV p=p.ok:=by
 have hk:=GS (f:=p.f) (r:=p.r) (bl:=p.bl) hl
 unfold lV Psn.ok
 cases ho:aO p.f p.r p.zs with
 |false=>
  rw[ho]at hk
  rw[hk];simp
 |true=>
  rw[ho]at hk
  rw[hk,EO ho hl,cast_eq hca,IA (bj ho).2.2.1]
  cases decide (aP p.zs false<0)<;>cases decide (aP p.zs true<0)<;>cases chkL p.f p.r p.zs (!p.bl)<;>cases tc p.f p.r p.zs<;>simp[cntB,Bool.and_assoc]
end Go.Ab
namespace Go.Ab
open Go.Proofs
theorem IL{f r:Int}{x K:Int}(hx:ak f r x=true)(hK:ak f r K=true)(hl:(bq f x K).2.2=true):Uk (bF f r x K).1/\∀ m:Nat,bt (bF f r x K).1 m=decide ((m:Int)∈cF f r x K):=by
 rw[(Fj hx hK hl).2]
 obtain⟨h1,h2⟩:=sr (cF f r x K) 0 (fun y hy=>⟨(aE ((xl hx).2 y hy)).1,(aE ((xl hx).2 y hy)).2.2⟩) uk_0
 exact⟨h1,fun m=>by rw[h2,bt_0,Bool.false_or]⟩
theorem EX{f r:Int}{zs:List Int}{j v:Int}(h:aO f r zs=true)(hv:-6<=v/\v<=6):aO f r (zs.set j.toNat v)=true:=by
 simp only[aO,aH,Bool.and_eq_true,Bool.not_eq_true',List.any_eq_false]at h ⊢
 rw[List.length_set]
 refine⟨⟨h.1.1,fun p hp=>?_⟩,fun p hp=>?_⟩
 ·rcases List.mem_or_eq_of_mem_set hp with hp|rfl
  ·exact h.1.2 p hp
  ·simp[badP,okP];omega
 ·rcases List.mem_or_eq_of_mem_set hp with hp|rfl
  ·exact h.2 p hp
  ·simp[norP,orP];omega
end Go.Ab
namespace Go.Ab
open IntKind
open Go.Proofs
theorem Cy{n:Int}(h1:-128<=n)(h2:n<=127):w8 n=n:=by
 show IntKind.wrap .i8 n=n
 unfold IntKind.wrap IntKind.bits IntKind.signed
 simp only[Bool.true_and,decide_eq_true_eq]
 split<;>omega
theorem lA{f r:Int}{zs:List Int}(h:aO f r zs=true){i:Int}(h0:0<=i)(h1:i<zs.length):absP (zs.getD i.toNat 0)=be (zs.getD i.toNat 0):=by
 have hp:=lq h h0 h1
 have hw:w8 (0-zs.getD i.toNat 0)=0-zs.getD i.toNat 0:=Cy (by omega) (by omega)
 rw[gB hp]
 unfold absP imax
 rw[hw]
 by_cases hn:zs.getD i.toNat 0<0-zs.getD i.toNat 0
 ·simp only[hn,decide_true,cond_true];omega
 ·simp only[hn,decide_false,cond_false];omega
theorem ye{f r:Int}{zs:List Int}{bl:Bool}(h:aO f r zs=true){i:Int}(h0:0<=i)(h1:i<zs.length)(hp:isP (zs.getD i.toNat 0) bl=true)(hk:¬ be (zs.getD i.toNat 0)=1):nB (be (zs.getD i.toNat 0)):=by
 have hb:=lq h h0 h1
 have hz:=xm hp
 rw[gB hb]at hk ⊢
 unfold nB
 omega
theorem jR{f r:Int}{zs:List Int}{bl:Bool}{_ca pa a b pr:Int}(h:aO f r zs=true)(hl:zs.length<=64)(ha:ak f r a=true)(hb:ak f r b=true)(hp:isP (zs.getD a.toNat 0) bl=true) :
  gU f r zs bl pa a b pr=bif decide (be (zs.getD a.toNat 0)=1)then pnL f r zs bl pa a b pr else decide (pr=0)&&bG f r (be (zs.getD a.toNat 0)) a b (occL zs):=by
 have hbd:=(bj h).2.2.1
 obtain⟨ha0,ha1⟩:=(cw hbd).1 ha
 obtain⟨hb0,hb1⟩:=(cw hbd).1 hb
 have hb64:b<64:=by omega
 obtain⟨hou,_⟩:=iQ hbd hl
 have hray:gj f r a (occR f r zs)=true:=(jy hou).2 ⟨ha,xo h hl⟩
 unfold gU
 rw[lA h ha0 ha1,mj hbd hl]
 cases hk:decide (be (zs.getD a.toNat 0)=1) with
 |false=>
  obtain⟨r1,_,r3⟩:=qA hray hou (ye h ha0 ha1 hp (of_decide_eq_false hk))
  simp only[Bool.not_false,cond_true,cond_false]
  have r1:Uk (bO f r (be (zs.getD a.toNat 0)) a (occR f r zs)).1:=r1
  rw[oO r1 hb0 hb64]
  congr 1
  exact r3 b hb
 |true=>
  simp only[Bool.not_true,cond_true,cond_false]
  obtain⟨_,s1,_,s2⟩:=yZ (bl:=bl) hray hou
  obtain⟨_,p1,_,p2⟩:=wC (bl:=bl) ha
  have hu:Uk (bif decide (zs.getD b.toNat 0=0)&&!decide (b=pa)then 0 else(fN f r bl a).1):=by
   cases(decide (zs.getD b.toNat 0=0)&&!decide (b=pa))
   ·exact p1
   ·exact uk_0
  rw[oO (fY _ _) hb0 hb64,eO s1 hu,s2 b hb]
  have hpb:bt (bif decide (zs.getD b.toNat 0=0)&&!decide (b=pa)then 0 else(fN f r bl a).1) b.toNat=(er f bl a b&&(!decide (zs.getD b.toNat 0=0)||decide (b=pa))):=by
   cases h1:decide (zs.getD b.toNat 0=0)<;>cases h2:decide (b=pa)<;>simp[p2 b hb,bt_0]
  rw[hpb]
  have hv:=(bL hbd).1
  have hin:∀ c:Int->Bool,hasL b (cT c id (f*r).toNat)=c b:=fun c=>by
   rw[Bool.eq_iff_iff,jL,dK]
   have:=aE hb
   exact⟨fun h=>h.2.2,fun h=>⟨hb0,by omega,h⟩⟩
  unfold pnL
  rw[hin,hin,mj hbd hl]
  have hlast:Kw r bl=fE r bl:=rfl
  rw[hlast]
  cases decide (i64.wrap (b.tdiv f)=fE r bl)<;>cases decide (pr=0)<;>cases dW f r bl a (occR f r zs) b<;>cases er f bl a b<;>simp
theorem empty_eq{zs:List Int}{x K:Int}(hbd:aH 8 8 zs=true)(hl:zs.length<=64)(hx:ak 8 8 x=true)(hK:ak 8 8 K=true)(hln:(bq 8 x K).2.2=true):gY zs (cF 8 8 x K)=decide (uand (bF 8 8 x K).1 (occR 8 8 zs)=0):=by
 obtain⟨bu,bb⟩:=IL hx hK hln
 obtain⟨ou,ob⟩:=iQ hbd hl
 have h64:=uY hbd rfl
 rw[Bool.eq_iff_iff,decide_eq_true_eq,rD (uu _ _)]
 unfold gY
 rw[List.all_eq_true]
 constructor
 ·intro h n hn
  rw[oX bu ou,bb,ob]
  by_cases hm:(n:Int)∈cF 8 8 x K
  ·have:=of_decide_eq_true (h _ hm)
   rw[Int.toNat_natCast]at this
   rw[this];simp
  ·simp[hm]
 ·intro h i hi
  have hb:0<=i/\i<64:=by
   have hv:ak 8 8 i=true:=by
    unfold cF at hi
    cases hh:hasL K (dS 8 8 x K) with
    |true=>rw[hh]at hi;exact dI hx (List.mem_of_mem_take hi)
    |false=>rw[hh]at hi;simp at hi
   exact⟨(aE hv).1,(aE hv).2.2⟩
  have:=h i.toNat (by omega)
  rw[oX bu ou,bb,ob,show ((i.toNat:Nat):Int)=i by omega]at this
  simp only[hi,decide_true,Bool.true_and,Bool.and_eq_false_iff,decide_eq_false_iff_not,Bool.not_eq_false']at this
  rcases this with this|this
  ·omega
  ·exact this
theorem sq01:sqW 1 0=4/\sqW 1 1=6/\sqW 2 0=4/\sqW 2 1=2/\sqW 4 0=60/\sqW 4 1=62/\sqW 8 0=60/\sqW 8 1=58:=⟨by kernel_rfl,by kernel_rfl,by kernel_rfl,by kernel_rfl,by kernel_rfl,by kernel_rfl,by kernel_rfl,by kernel_rfl⟩
theorem cC{bl:Bool}{ca a b:Int}{c:Bool}{bit k to:Int}:(!aW bl ca a b c bit k to)=true↔c=bl/\bQ ca bit≠0/\k=a/\to=b:=by
 unfold aW
 cases c<;>cases bl<;>simp[and_assoc]
theorem cW{f r:Int}{zs:List Int}{ca bit:Int}{k q:Nat}{c:Bool}(h:rtX f r zs ca bit k q c=false)(hr:bQ ca bit≠0):f=8/\r=8/\zs.getD k 0=ofP 6 c/\zs.getD q 0=ofP 4 c:=by
 unfold rtX at h
 rw[decide_eq_false hr]at h
 simp only[Bool.not_false,Bool.true_and,Bool.or_eq_false_iff,Bool.not_eq_false',is88,Bool.and_eq_true,decide_eq_true_eq]at h
 exact⟨h.1.1.1,h.1.1.2,h.1.2,h.2⟩
theorem FI{f r:Int}{zs:List Int}{bl:Bool}{ca a b bit k to cor:Int}{c:Bool}(hca:0<=ca/\ca<=15)(hb:bit=1\/bit=2\/bit=4\/bit=8)(hc:decide (2<bit)=c)(h0:sqW bit 0=k)(h1:sqW bit 1=to)(h2:sqW bit 2=cor) :
  cgS f r zs bl ca a b bit=(!aW bl ca a b c bit k to&&gY zs (cF f r k cor)):=by
 unfold cgS aW
 rw[sH hca hb,hc,h0,h1,h2]
 have e1:decide (a=k)=decide (k=a):=by rw[decide_eq_decide];exact eq_comm
 have e2:decide (b=to)=decide (to=b):=by rw[decide_eq_decide];exact eq_comm
 rw[e1,e2]
 cases decide (bQ ca bit=0)<;>cases c<;>cases bl<;>cases decide (k=a)<;>cases decide (to=b)<;>rfl
theorem HH{f r:Int}{zs:List Int}{bl:Bool}{ca a b pr:Int}(h:aO f r zs=true)(hl:zs.length<=64)(hcas:ee f r zs ca=true)(hca:0<=ca)(ha0:0<=a)(ha1:a<zs.length) :
  (!decide (cgL f r zs bl ca a b pr=0))=(decide (pr=0)&&wayB f r zs (wayN zs bl ca a b)) /\
   ((!decide (cgL f r zs bl ca a b pr=0))=true->sqW (cgL f r zs bl ca a b pr) 2=wCor (wayN zs bl ca a b)/\sqW (cgL f r zs bl ca a b pr) 3=wCro (wayN zs bl ca a b)/\be (zs.getD a.toNat 0)=6):=by
 have hbd:=(bj h).2.2.1
 simp only[ee,Bool.and_eq_true,Bool.not_eq_true',decide_eq_true_eq]at hcas
 obtain⟨⟨⟨⟨c1,c2⟩,c3⟩,c4⟩,c5⟩:=hcas
 obtain⟨q1,q2,q3,q4,q5,q6,q7,q8⟩:=sqs
 obtain⟨p1,p2,p3,p4,p5,p6,p7,p8⟩:=sq01
 have hx:0<=ca/\ca<=15:=⟨hca,by omega⟩
 have g1:cgS f r zs bl ca a b 1=_:=FI (c:=false) hx (.inl rfl) rfl p1 p2 q1
 have g2:cgS f r zs bl ca a b 2=_:=FI (c:=false) hx (.inr (.inl rfl)) rfl p3 p4 q3
 have g3:cgS f r zs bl ca a b 4=_:=FI (c:=true) hx (.inr (.inr (.inl rfl))) rfl p5 p6 q5
 have g4:cgS f r zs bl ca a b 8=_:=FI (c:=true) hx (.inr (.inr (.inr rfl))) rfl p7 p8 q7
 unfold cgL wayN
 rw[lA h ha0 ha1]
 cases hK:decide (be (zs.getD a.toNat 0)=6) with
 |false=>simp[wayB]
 |true=>
  cases hp:decide (pr=0) with
  |false=>simp
  |true=>
   have hk6:=of_decide_eq_true hK
   rw[g1,g2,g3,g4]
   have key:∀ {bit k to cor:Int} {kn qn:Nat} {c:Bool},rtX f r zs ca bit kn qn c=false->(!aW bl ca a b c bit k to)=true->ak 8 8 k=true->ak 8 8 cor=true->(bq 8 k cor).2.2=true ->
     gY zs (cF f r k cor)=decide (uand (bF f r k cor).1 (occR f r zs)=0):=by
    intro bit k to cor kn qn c hr hs hk hc hln
    obtain⟨_,hu,_,_⟩:=cC.1 hs
    obtain⟨rfl,rfl,_⟩:=cW hr hu
    exact empty_eq hbd hl hk hc hln
   cases n1:(!aW bl ca a b false 1 4 6) with
   |true=>
    obtain⟨rfl,_,rfl,rfl⟩:=cC.1 n1
    have k1:=key c1 n1 (cor:=7) (by decide) (by decide) (by decide)
    have n2:(!aW false ca 4 6 false 2 4 2)=false:=by rw[Bool.eq_false_iff];exact fun hh=>by have:=(cC.1 hh).2.2.2;omega
    have n3:(!aW false ca 4 6 true 4 60 62)=false:=by rw[Bool.eq_false_iff];exact fun hh=>by have:=(cC.1 hh).1;cases this
    have n4:(!aW false ca 4 6 true 8 60 58)=false:=by rw[Bool.eq_false_iff];exact fun hh=>by have:=(cC.1 hh).1;cases this
    rw[n2,n3,n4,k1]
    have hw:wayB f r zs 0=decide (uand (bF f r 4 7).1 (occR f r zs)=0):=rfl
    simp only[Bool.not_true,Bool.or_self,cond_false,cond_true,Bool.true_and,Bool.false_and,hw]
    cases decide (uand (bF f r 4 7).1 (occR f r zs)=0)
    ·simp
    ·exact⟨rfl,fun _=>⟨q1,q2,hk6⟩⟩
   |false=>
    cases n2:(!aW bl ca a b false 2 4 2) with
    |true=>
     obtain⟨rfl,_,rfl,rfl⟩:=cC.1 n2
     have k1:=key c2 n2 (cor:=0) (by decide) (by decide) (by decide)
     have n3:(!aW false ca 4 2 true 4 60 62)=false:=by rw[Bool.eq_false_iff];exact fun hh=>by have:=(cC.1 hh).1;cases this
     have n4:(!aW false ca 4 2 true 8 60 58)=false:=by rw[Bool.eq_false_iff];exact fun hh=>by have:=(cC.1 hh).1;cases this
     rw[n3,n4,k1]
     have hw:wayB f r zs 1=decide (uand (bF f r 4 0).1 (occR f r zs)=0):=rfl
     simp only[Bool.not_true,Bool.or_self,cond_false,cond_true,Bool.true_and,Bool.false_and,hw]
     cases decide (uand (bF f r 4 0).1 (occR f r zs)=0)
     ·simp
     ·exact⟨rfl,fun _=>⟨q3,q4,hk6⟩⟩
    |false=>
     cases n3:(!aW bl ca a b true 4 60 62) with
     |true=>
      obtain⟨rfl,_,rfl,rfl⟩:=cC.1 n3
      have k1:=key c3 n3 (cor:=63) (by decide) (by decide) (by decide)
      have n4:(!aW true ca 60 62 true 8 60 58)=false:=by rw[Bool.eq_false_iff];exact fun hh=>by have:=(cC.1 hh).2.2.2;omega
      rw[n4,k1]
      have hw:wayB f r zs 2=decide (uand (bF f r 60 63).1 (occR f r zs)=0):=rfl
      simp only[Bool.not_true,Bool.or_self,cond_false,cond_true,Bool.true_and,Bool.false_and,hw]
      cases decide (uand (bF f r 60 63).1 (occR f r zs)=0)
      ·simp
      ·exact⟨rfl,fun _=>⟨q5,q6,hk6⟩⟩
     |false=>
      cases n4:(!aW bl ca a b true 8 60 58) with
      |true=>
       obtain⟨rfl,_,rfl,rfl⟩:=cC.1 n4
       have k1:=key c4 n4 (cor:=56) (by decide) (by decide) (by decide)
       rw[k1]
       have hw:wayB f r zs 3=decide (uand (bF f r 60 56).1 (occR f r zs)=0):=rfl
       simp only[Bool.not_true,Bool.or_self,cond_false,cond_true,Bool.true_and,Bool.false_and,hw]
       cases decide (uand (bF f r 60 56).1 (occR f r zs)=0)
       ·simp
       ·exact⟨rfl,fun _=>⟨q7,q8,hk6⟩⟩
      |false=>simp[wayB]
section
theorem pc_w{f r a b:Int}(ha:ak f r a=true)(hb:ak f r b=true):i64.wrap (i64.wrap (b.tdiv f)-i64.wrap (a.tdiv f))=py f b-py f a:=(gX ha hb).2
theorem yz{n:Int}{bl:Bool}(h:isP n bl=true)(h2:n=ofP 1 (!bl)):False:=by
 subst h2
 cases bl<;>revert h<;>decide
theorem CL{n:Int}{bl:Bool}(hz:n≠0)(h:isP n bl=false):isP n (!bl)=true:=by
 unfold isP at h ⊢
 rcases Int.lt_or_gt_of_ne hz with h3|h3
 ·have h4:¬ 0<n:=by omega
  cases bl<;>simp[h3,h4]at h ⊢
 ·have h4:¬ n<0:=by omega
  cases bl<;>simp[h3,h4]at h ⊢<;>omega
structure MvOk(p:Psn)(m:Mov):Prop where
 h:aO p.f p.r p.zs=true
 hl:p.zs.length<=64
 ok:p.ok=true
 ca:0<=p.ca
 ha:ak p.f p.r m.a=true
 hb:ak p.f p.r m.b=true
 hab:m.a≠m.b
 hpr:m.p=0\/(2<=m.p/\m.p<=5)
 hp:isP (p.zs.getD m.a.toNat 0) p.bl=true
 so:err3 p m=false
section
variable{p:Psn}{m:Mov}
theorem MvOk.bd(o:MvOk p m):aH p.f p.r p.zs=true:=(bj o.h).2.2.1
theorem MvOk.cast(o:MvOk p m):ee p.f p.r p.zs p.ca=true:=by have:=o.ok;simp only[Psn.ok,Bool.and_eq_true]at this;exact this.1.1.2
theorem MvOk.pass(o:MvOk p m):ia p.f p.r p.zs p.bl p.pa p.ha=true:=by have:=o.ok;simp only[Psn.ok,Bool.and_eq_true]at this;exact this.1.2
theorem MvOk.kings(o:MvOk p m):eC p.f p.r p.zs p.bl=true:=by have:=o.ok;simp only[Psn.ok,Bool.and_eq_true]at this;exact this.1.1.1.1.2
theorem MvOk.nto(o:MvOk p m):isP (p.zs.getD m.b.toNat 0) p.bl=false:=by have:=o.so;simp only[err3,Bool.or_eq_false_iff]at this;exact this.1
theorem MvOk.sq(o:MvOk p m):(0<=m.a/\m.a<p.zs.length)/\(0<=m.b/\m.b<p.zs.length):=⟨(cw o.bd).1 o.ha,(cw o.bd).1 o.hb⟩
theorem MvOk.kd(o:MvOk p m):absP (p.zs.getD m.a.toNat 0)=be (p.zs.getD m.a.toNat 0):=lA o.h o.sq.1.1 o.sq.1.2
theorem MvOk.pawn(o:MvOk p m)(hk:be (p.zs.getD m.a.toNat 0)=1):pnL p.f p.r p.zs p.bl p.pa m.a m.b m.p=true:=by
 have:=o.so
 have hw:wayN p.zs p.bl p.ca m.a m.b=4:=by unfold wayN;rw[o.kd,hk];rfl
 simp only[err3,hw,Bool.or_eq_false_iff]at this
 have hg:=jR (bl:=p.bl) (_ca:=p.ca) (pa:=p.pa) (pr:=m.p) o.h o.hl o.ha o.hb o.hp
 rw[hk]at hg
 rw[hg]at this
 simp only[decide_true,cond_true]at this
 have h2:=this.2
 cases hpn:pnL p.f p.r p.zs p.bl p.pa m.a m.b m.p with
 |true=>rfl
 |false=>rw[hpn]at h2;simp[wayB]at h2
theorem MvOk.steps(o:MvOk p m)(hk:be (p.zs.getD m.a.toNat 0)=1) :
  (dW p.f p.r p.bl m.a (occR p.f p.r p.zs) m.b=true\/(er p.f p.bl m.a m.b=true/\(p.zs.getD m.b.toNat 0≠0\/m.b=p.pa)))/\(m.p≠0↔py p.f m.b=fE p.r p.bl):=by
 have h:=o.pawn hk
 have hin:∀ c:Int->Bool,hasL m.b (cT c id (p.f*p.r).toNat)=c m.b:=fun c=>by
  rw[Bool.eq_iff_iff,jL,dK]
  have:=aE o.hb
  exact⟨fun h=>h.2.2,fun h=>⟨this.1,by omega,h⟩⟩
 unfold pnL at h
 rw[hin,hin,mj o.bd o.hl]at h
 rw[(cV o.hb).1]at h
 cases h1:(!(decide (py p.f m.b=fE p.r p.bl)==!decide (m.p=0))) with
 |true=>rw[h1]at h;cases h
 |false=>
  rw[h1,cond_false]at h
  refine⟨?_,?_⟩
  ·cases h2:dW p.f p.r p.bl m.a (occR p.f p.r p.zs) m.b with
   |true=>exact .inl rfl
   |false=>
    rw[h2,cond_false,Bool.and_eq_true,Bool.or_eq_true,decide_eq_true_eq,Bool.not_eq_true',decide_eq_false_iff_not]at h
    exact .inr h
  ·by_cases h3:py p.f m.b=fE p.r p.bl<;>by_cases h4:m.p=0<;>simp[h3,h4]at h1 ⊢
theorem Mf(bl:Bool):i64.wrap (2*fwd bl)=2*fwd bl:=by cases bl<;>decide
theorem vQ{f r a b:Int}{bl:Bool}{occ:Int}(ha:ak f r a=true)(hb:ak f r b=true)(h:dW f r bl a occ b=true) :
  px f b=px f a/\((py f b=py f a+fwd bl)\/(py f b=py f a+2*fwd bl/\py f a=secR r bl/\6<=r/\ak f r (b-fwd bl*f)=true/\hasB occ (b-fwd bl*f)=false)):=by
 have hv:=(bz ha)
 obtain⟨a0,a1,a2,a3,a4,a5,a6⟩:=cV ha
 obtain⟨_,b1,b2,b3,b4,b5,_⟩:=cV hb
 have hfw:fwd bl=1\/fwd bl=-1:=by cases bl<;>simp[fwd]
 have hone:one4 f r bl a=numR f r (px f a) (py f a+fwd bl):=by unfold one4;rw[a0,ay (by omega) (by omega)]
 have htwo:two4 f r bl a=numR f r (px f a) (py f a+2*fwd bl):=by unfold two4;rw[a0,Mf,ay (by omega) (by omega)]
 simp only[dW,Bool.or_eq_true,Bool.and_eq_true,decide_eq_true_eq,Bool.not_eq_true']at h
 rw[hone,htwo,a0]at h
 have hbn:∀ {X Y:Int},b=numR f r X Y->px f b=X/\py f b=Y:=by
  intro X Y e
  rcases iW f r X Y hv with⟨ho,_⟩|⟨_,hn⟩
  ·exact(hU hv ho hb).1 e.symm
  ·have:=(aE hb).1;omega
 rcases h with⟨h1,_⟩|⟨⟨⟨⟨h1,h2⟩,h3⟩,h4⟩,_⟩
 ·obtain⟨e1,e2⟩:=hbn h1
  exact⟨e1,.inl e2⟩
 ·obtain⟨e1,e2⟩:=hbn h1
  refine⟨e1,.inr ⟨e2,h3,h2,?_⟩⟩
  have ho:onB f r (px f a) (py f a+fwd bl)=true:=jm a1 a2 (by omega) (by omega)
  obtain⟨v1,v2,v3⟩:=gF hv ho
  have heq:px f a+(py f a+fwd bl)*f=b-fwd bl*f:=by
   rw[<-b5,e1,e2]
   rw[Int.add_mul,Int.add_mul,Int.mul_assoc];omega
  rw[heq]at v1 v2 v3
  exact⟨v1,by rw[<-(hU hv ho v1).2 ⟨v2,v3⟩];exact h4⟩
theorem MvOk.ep(o:MvOk p m)(hk:be (p.zs.getD m.a.toNat 0)=1)(hb:m.b=p.pa) :
  at1R p.f p.zs p.pa m.a m.b=m.b-fwd p.bl*p.f/\ak p.f p.r (m.b-fwd p.bl*p.f)=true/\p.zs.getD (m.b-fwd p.bl*p.f).toNat 0=ofP 1 (!p.bl)/\numR p.f p.r (m.b.tmod p.f) (i64.wrap (m.a.tdiv p.f))=m.b-fwd p.bl*p.f/\p.zs.getD m.b.toNat 0=0/\er p.f p.bl m.a m.b=true:=by
 have hbd:=o.bd
 have hv:=(bL hbd).1
 obtain⟨a0,a1,a2,a3,a4,a5,a6⟩:=cV o.ha
 obtain⟨b0,b1,b2,b3,b4,b5,_⟩:=cV o.hb
 have hps:=o.pass
 have hb0:=(aE o.hb).1
 simp only[ia,Bool.or_eq_true,Bool.and_eq_true,decide_eq_true_eq,<-hb]at hps
 rcases hps with hps|⟨⟨⟨⟨⟨⟨p1,p2⟩,p3⟩,p4⟩,p5⟩,p6⟩,p7⟩
 ·omega
 obtain⟨n1,n2,n3,n4,n5,n6,n7⟩:=iV (bl:=p.bl) hbd p1 o.hb p4
 have hfw:fwd p.bl=1\/fwd p.bl=-1:=by cases p.bl<;>simp[fwd]
 have hup:i64.wrap (m.b+upP p.f p.bl)=m.b-fwd p.bl*p.f:=by
  cases hbl:p.bl
  ·simp only[upP,fwd,cond_false,n5,n7];omega
  ·simp only[upP,fwd,cond_true,n4];omega
 rw[hup]at p7
 have hvd:ak p.f p.r (m.b-fwd p.bl*p.f)=true:=by
  refine(cw hbd).2 ?_
  rcases hfw with e|e<;>rw[e]<;>constructor<;>omega
 have hat:er p.f p.bl m.a m.b=true:=by
  rcases(o.steps hk).1 with h|h
  ·exfalso
   obtain⟨e1,h2⟩:=vQ o.ha o.hb h
   rcases h2 with e2|⟨_,_,_,_,h5⟩
   ·have:m.b-fwd p.bl*p.f=m.a:=by rw[<-b5,<-a5,e1,e2,Int.add_mul];omega
    rw[this]at p7
    exact yz o.hp p7
   ·obtain⟨hou,hob⟩:=iQ hbd o.hl
    rw[ir hou hvd,hob,p7]at h5
    have hlt:=(cw hbd).1 hvd
    rw[decide_eq_true (show (m.b-fwd p.bl*p.f).toNat<p.zs.length by omega),decide_eq_false (show ¬ ofP 1 (!p.bl)=0 by cases p.bl<;>decide)]at h5
    cases h5
  ·exact h.1
 have hpy:py p.f m.b=py p.f m.a+fwd p.bl:=by
  have:=hat
  simp only[er,Bool.and_eq_true,decide_eq_true_eq]at this
  rw[pc_w o.ha o.hb]at this
  omega
 have hsq:px p.f m.b+py p.f m.a*p.f=m.b-fwd p.bl*p.f:=by
  have:py p.f m.b*p.f=py p.f m.a*p.f+fwd p.bl*p.f:=by rw[hpy,Int.add_mul]
  omega
 have hlt:=(aE hvd)
 refine⟨?_,hvd,p7,?_,p5,hat⟩
 ·have hepB:epB p.zs p.pa m.a m.b=true:=by simp only[epB,o.kd,hk,hb,decide_true,Bool.and_self]
  unfold at1R
  rw[hepB,cond_true]
  have e1:m.a.tmod p.f=px p.f m.a:=rfl
  have e2:m.b.tmod p.f=px p.f m.b:=rfl
  rw[e1,e2]
  have hla:=aE o.ha
  rw[ay (n:=m.a-px p.f m.a) (by omega) (by omega)]
  rw[show m.a-px p.f m.a+px p.f m.b=m.b-fwd p.bl*p.f by omega,ay (by omega) (by omega)]
 ·rw[a0]
  have ho:onB p.f p.r (px p.f m.b) (py p.f m.a)=true:=jm b1 b2 a3 a4
  obtain⟨v1,v2,v3⟩:=gF hv ho
  rw[hsq]at v1 v2 v3
  exact(hU hv ho v1).2 ⟨v2,v3⟩
theorem MvOk.cap(o:MvOk p m):capL p.f p.r p.zs p.pa m.a m.b=at2R p.f p.zs p.pa m.a m.b/\(0<=at2R p.f p.zs p.pa m.a m.b->at2R p.f p.zs p.pa m.a m.b<p.zs.length/\isP (p.zs.getD (at2R p.f p.zs p.pa m.a m.b).toNat 0) (!p.bl)=true/\at2R p.f p.zs p.pa m.a m.b≠m.a/\at2R p.f p.zs p.pa m.a m.b=at1R p.f p.zs p.pa m.a m.b) /\
  (at2R p.f p.zs p.pa m.a m.b<0->at2R p.f p.zs p.pa m.a m.b=-1/\capR p.f p.zs p.pa m.a m.b=0/\p.zs.getD m.b.toNat 0=0)/\(0<=at2R p.f p.zs p.pa m.a m.b->capR p.f p.zs p.pa m.a m.b≠0):=by
 have ⟨⟨sa0,sa1⟩,⟨sb0,sb1⟩⟩:=o.sq
 cases hep:(decide (be (p.zs.getD m.a.toNat 0)=1)&&decide (m.b=p.pa)) with
 |true=>
  simp only[Bool.and_eq_true,decide_eq_true_eq]at hep
  obtain⟨e1,e2,e3,e4,e5,e6⟩:=o.ep hep.1 hep.2
  have hc:capR p.f p.zs p.pa m.a m.b=ofP 1 (!p.bl):=by unfold capR;rw[e1,e3]
  have hnz:ofP 1 (!p.bl)≠0:=by cases p.bl<;>decide
  have h2:at2R p.f p.zs p.pa m.a m.b=m.b-fwd p.bl*p.f:=by unfold at2R;rw[hc,decide_eq_false hnz,cond_false,e1]
  have hcl:capL p.f p.r p.zs p.pa m.a m.b=m.b-fwd p.bl*p.f:=by unfold capL;rw[decide_eq_true hep.1,decide_eq_true hep.2];exact e4
  have hlt:=(cw o.bd).1 e2
  refine⟨by rw[hcl,h2],fun _=>⟨by rw[h2];exact hlt.2,?_,?_,by rw[h2,e1]⟩,fun hh=>(by rw[h2]at hh;omega),fun _=>by rw[hc];exact hnz⟩
  ·rw[h2,e3];cases p.bl<;>decide
  ·rw[h2]
   intro he
   rw[he]at e3
   exact yz o.hp e3
 |false=>
  have hepB:epB p.zs p.pa m.a m.b=false:=by unfold epB;rw[o.kd];exact hep
  have h1:at1R p.f p.zs p.pa m.a m.b=m.b:=by unfold at1R;rw[hepB];rfl
  have hc:capR p.f p.zs p.pa m.a m.b=p.zs.getD m.b.toNat 0:=by unfold capR;rw[h1]
  unfold capL at2R
  rw[hep,hc,h1,cond_false]
  by_cases hz:p.zs.getD m.b.toNat 0=0
  ·simp only[decide_eq_true hz,Bool.not_true,cond_true,cond_false]
   exact⟨trivial,fun hh=>absurd hh (by decide),fun _=>⟨trivial,hz,hz⟩,fun hh=>absurd hh (by decide)⟩
  ·simp only[decide_eq_false hz,Bool.not_false,cond_true,cond_false]
   have h5:=CL hz o.nto
   exact⟨trivial,fun _=>⟨sb1,h5,fun e=>o.hab e.symm,trivial⟩,fun hh=>absurd hh (by omega),fun _=>hz⟩
end
end
end Go.Ab
namespace Go.Ab
abbrev iL(l:List Int):List Int:=l
structure Siz where
 f:Int
 r:Int
structure Sgt where
 p:Psn
 own:Int
 all:Int
end Go.Ab
namespace Go.Ab
open Go.Proofs
section
variable{kCa kDb:Bool}
end
section
variable{kDb:Bool}
end
section
variable{kDb:Bool}
end
end Go.Ab
namespace Go.Ab
open IntKind
open Go.Proofs
section
variable{kCa kDb:Bool}
def qj(p:Psn):Option (Sgt):=let x18:=List.take p.zs.length (List.drop 0 p.zs);let x15:=(eA p.f p.r x18).snd.1;let x16:=(eA p.f p.r x18).fst;let x17:=x18.length;bp (decide (x17<=1000000)) (dN (bif p.bl then some (Sum.inl x15)else some (Sum.inl x16)) fun(s4:Int)=>some (Sgt.mk (Psn.mk p.f p.r p.zs p.bl p.ca p.pa p.ha p.fu) s4 (band Go.BinOp.or u64 x16 x15)))
def vg(R:Sgt):V:=.agg [.int .i64 R.p.f,.int .i64 R.p.r,.sl 0 0 R.p.zs.length none,Bb R.p.bl,.int .u8 R.p.ca,.int .i64 R.p.pa,.int .i64 R.p.ha,.int .i64 R.p.fu,.int .u64 R.own,.int .u64 R.all]
def xb(_R:Sgt):List O:=[]
def qL:CF
 |[.agg [.int .i64 p_0,.int .i64 p_1,.sl 0 0 p_2n none,.bool p_3,.int .u8 p_4,.int .i64 p_5,.int .i64 p_6,.int .i64 p_7]],[.ints false .i8 p_2]=>retC (decide (p_2n=p_2.length)) (qj ⟨p_0,p_1,p_2,p_3,p_4,p_5,p_6,p_7⟩) ⟨⟨0,0,[],false,0,0,0,0⟩,0,0⟩ vg xb
 |_,_=>none
theorem DZ(p:Psn){r}(hr:qj p=some r):aG (GGx kCa kDb) PP 102 [.agg [.int .i64 p.f,.int .i64 p.r,.sl 0 0 p.zs.length none,Bb p.bl,.int .u8 p.ca,.int .i64 p.pa,.int .i64 p.ha,.int .i64 p.fu]] [.ints false .i8 p.zs] (vg r) (xb r):=by
 have hE:=cutE (aC (kCa:=kCa) (kDb:=kDb) (cts:=[(149,nM)]) (inl:=[]) ⟨jW,trivial⟩ trivial)
 refine dA hE 2 Tryz.func102 rfl rfl vg xb hr ?_ rfl rfl
 refine dJ (pl (decide_eq_true (aS rfl)) id) ?_
 refine dc hE 2 (let x20:=List.take p.zs.length (List.drop 0 p.zs);fun(s4:Int)=>([(2,V.ptr 1 0 0),(6,V.ptr 2 0 0)],[O.ints false i8 p.zs,O.cells true [I 0,I 0,V.nils,Bb false,V.int u8 0,I 0,I 0,I 0,U 0,U 0],O.cells true [I p.f,I p.r,V.sl 0 0 p.zs.length none,Bb p.bl,V.int u8 p.ca,I p.pa,I p.ha,I p.fu,U s4,U (band Go.BinOp.or u64 (eA p.f p.r x20).fst (eA p.f p.r x20).snd.1)]])) rfl ?_ ?_ (fun s4=>?_)
 ·exact bN ((Ent.rn [0,2,3] [2,6] rfl rfl rfl rfl rfl))
 ·exact bN ((Ent.rn [0,2,3] [2,6] rfl rfl rfl rfl rfl))
 exact aQ (aN [] (.inr rfl) rfl rfl rfl rfl rfl)
theorem pE:CtOk (GGx kCa kDb) PP (102,qL):=by
 refine aD Tryz.func102 (by kernel_rfl) rfl fun a0 h0 c0 v0 N0 e hc=>?_
 unfold qL at e
 split at e
 ·rename_i p_0 p_1 p_2n p_3 p_4 p_5 p_6 p_7 p_2
  obtain⟨hl,r,hr,rfl,rfl⟩:=bS e hc
  simp only[decide_eq_true_eq]at hl
  obtain rfl:=hl
  exact DZ ⟨p_0,p_1,p_2,p_3,p_4,p_5,p_6,p_7⟩ hr
 ·cases e
def wZ(p:Int):Option (Int):=some (imax true p (i8.wrap (0-p)))
def wQ(R:Int):V:=.int .i8 R
def vx(_R:Int):List O:=[]
def rC:CF
 |[.int .i8 p_0],[]=>retC true (wZ p_0) 0 wQ vx
 |_,_=>none
theorem Bx(p:Int){r}(hr:wZ p=some r):aG (GGx kCa kDb) PP 151 [.int .i8 p] [] (wQ r) (vx r):=by
 have hE:=cutE (aC (kCa:=kCa) (kDb:=kDb) (cts:=[]) (inl:=[]) trivial trivial)
 refine dA hE 2 Tryz.func151 rfl rfl wQ vx hr ?_ rfl rfl
 exact aQ (aN [] (.inr rfl) rfl rfl rfl rfl rfl)
theorem oE:CtOk (GGx kCa kDb) PP (151,rC):=by
 refine aD Tryz.func151 (by kernel_rfl) rfl fun a0 h0 c0 v0 N0 e hc=>?_
 unfold rC at e
 split at e
 ·rename_i p_0
  obtain⟨hl,r,hr,rfl,rfl⟩:=bS e hc
  exact Bx p_0 hr
 ·cases e
def AF(s:Sgt)(at_:Int):Option (Bool):=let x4:=i64.wrap (s.p.f*i64.wrap (s.p.r-1));bif s.p.bl then some (decide (at_<s.p.f))else some (decide (x4<=at_))
def wc(R:Bool):V:=Bb R
def vo(_R:Bool):List O:=[]
def wD:CF
 |[.agg [.int .i64 s_0,.int .i64 s_1,.sl 0 0 s_2n none,.bool s_3,.int .u8 s_4,.int .i64 s_5,.int .i64 s_6,.int .i64 s_7,.int .u64 s_8,.int .u64 s_9],.int .i64 at__0],[.ints false .i8 s_2]=>retC (decide (s_2n=s_2.length)) (AF ⟨⟨s_0,s_1,s_2,s_3,s_4,s_5,s_6,s_7⟩,s_8,s_9⟩ at__0) false wc vo
 |_,_=>none
theorem Cc(s:Sgt)(at_:Int){r}(hr:AF s at_=some r):aG (GGx kCa kDb) PP 152 [.agg [.int .i64 s.p.f,.int .i64 s.p.r,.sl 0 0 s.p.zs.length none,Bb s.p.bl,.int .u8 s.p.ca,.int .i64 s.p.pa,.int .i64 s.p.ha,.int .i64 s.p.fu,.int .u64 s.own,.int .u64 s.all],.int .i64 at_] [.ints false .i8 s.p.zs] (wc r) (vo r):=by
 have hE:=cutE (aC (kCa:=kCa) (kDb:=kDb) (cts:=[]) (inl:=[]) trivial trivial)
 refine dA hE 2 Tryz.func152 rfl rfl wc vo hr ?_ rfl rfl
 refine aI hE 2 rfl ?_ ?_
 ·exact aQ (aN [] (.inr rfl) rfl rfl rfl rfl rfl)
 exact aQ (aN [] (.inr rfl) rfl rfl rfl rfl rfl)
theorem Ao:CtOk (GGx kCa kDb) PP (152,wD):=by
 refine aD Tryz.func152 (by kernel_rfl) rfl fun a0 h0 c0 v0 N0 e hc=>?_
 unfold wD at e
 split at e
 ·rename_i s_0 s_1 s_2n s_3 s_4 s_5 s_6 s_7 s_8 s_9 at__0 s_2
  obtain⟨hl,r,hr,rfl,rfl⟩:=bS e hc
  simp only[decide_eq_true_eq]at hl
  obtain rfl:=hl
  exact Cc ⟨⟨s_0,s_1,s_2,s_3,s_4,s_5,s_6,s_7⟩,s_8,s_9⟩ at__0 hr
 ·cases e
end
section
variable{kCa kDb:Bool}
def sJ(s:Siz)(a:Int)(b:Int):Option (Int×Int):=let x5:=(aK s.f s.r a).snd.1;let x6:=(aK s.f s.r a).snd.2;let x7:=(aK s.f s.r b).snd.1;let x8:=(aK s.f s.r b).snd.2;bif !decide (x6=0)||!decide (x8=0)then some (0,2)else some (imax true (imax true (imax true (i64.wrap ((aK s.f s.r a).fst-(aK s.f s.r b).fst)) (i64.wrap ((aK s.f s.r b).fst-(aK s.f s.r a).fst))) (i64.wrap (x5-x7))) (i64.wrap (x7-x5)),0)
def wk(R:Int×Int):V:=.tup [.int .i64 R.1,.int .i64 R.2]
def vW(_R:Int×Int):List O:=[]
def wU:CF
 |[.agg [.int .i64 s_0,.int .i64 s_1],.int .i64 a_0,.int .i64 b_0],[]=>retC true (sJ ⟨s_0,s_1⟩ a_0 b_0) (0,0) wk vW
 |_,_=>none
theorem CE(s:Siz)(a:Int)(b:Int){r}(hr:sJ s a b=some r):aG (GGx kCa kDb) PP 52 [.agg [.int .i64 s.f,.int .i64 s.r],.int .i64 a,.int .i64 b] [] (wk r) (vW r):=by
 have hE:=cutE (aC (kCa:=kCa) (kDb:=kDb) (cts:=[(97,jS)]) (inl:=[]) ⟨gM,trivial⟩ trivial)
 refine dA hE 2 Tryz.func52 rfl rfl wk vW hr ?_ rfl rfl
 refine aj rfl ?_
 refine aj rfl ?_
 refine aj (Bool.not_or_self _) ?_
 refine aj (Bool.or_not_self _) ?_
 refine aI hE 2 rfl ?_ ?_
 ·exact aQ (aN [] (.inr rfl) rfl rfl rfl rfl rfl)
 exact aQ (aN [] (.inr rfl) rfl rfl rfl rfl rfl)
theorem zY:CtOk (GGx kCa kDb) PP (52,wU):=by
 refine aD Tryz.func52 (by kernel_rfl) rfl fun a0 h0 c0 v0 N0 e hc=>?_
 unfold wU at e
 split at e
 ·rename_i s_0 s_1 a_0 b_0
  obtain⟨hl,r,hr,rfl,rfl⟩:=bS e hc
  exact CE ⟨s_0,s_1⟩ a_0 b_0 hr
 ·cases e
def spawn(s:Sgt)(from_:Int):Option (Int):=let x6:=decide (0<=s.p.pa);dN (bif x6 then bp x6 (some (Sum.inl (band Go.BinOp.or u64 (band Go.BinOp.andNot u64 s.all s.own) (u64.wrap (1*2^Min.min s.p.pa.toNat u64.bits)))))else some (Sum.inl (band Go.BinOp.andNot u64 s.all s.own))) fun(s5:Int)=>some (band Go.BinOp.or u64 (cH s.p.f s.p.r s.p.bl from_ s.all).fst (band Go.BinOp.and u64 (fN s.p.f s.p.r s.p.bl from_).fst s5))
def vb(R:Int):V:=.int .u64 R
def vN(_R:Int):List O:=[]
def uN:CF
 |[.agg [.int .i64 s_0,.int .i64 s_1,.sl 0 0 s_2n none,.bool s_3,.int .u8 s_4,.int .i64 s_5,.int .i64 s_6,.int .i64 s_7,.int .u64 s_8,.int .u64 s_9],.int .i64 from__0],[.ints false .i8 s_2]=>retC (decide (s_2n=s_2.length)) (spawn ⟨⟨s_0,s_1,s_2,s_3,s_4,s_5,s_6,s_7⟩,s_8,s_9⟩ from__0) 0 vb vN
 |_,_=>none
theorem Ed(s:Sgt)(from_:Int){r}(hr:spawn s from_=some r):aG (GGx kCa kDb) PP 170 [.agg [.int .i64 s.p.f,.int .i64 s.p.r,.sl 0 0 s.p.zs.length none,Bb s.p.bl,.int .u8 s.p.ca,.int .i64 s.p.pa,.int .i64 s.p.ha,.int .i64 s.p.fu,.int .u64 s.own,.int .u64 s.all],.int .i64 from_] [.ints false .i8 s.p.zs] (vb r) (vN r):=by
 have hE:=cutE (aC (kCa:=kCa) (kDb:=kDb) (cts:=[(157,rK),(153,tC)]) (inl:=[]) ⟨po,mm,trivial⟩ trivial)
 refine dA hE 2 Tryz.func170 rfl rfl vb vN hr ?_ rfl rfl
 refine aj rfl ?_
 refine aj rfl ?_
 refine dc hE 2 (fun(s5:Int)=>([(4,U 0),(5,U (cH s.p.f s.p.r s.p.bl from_ s.all).fst),(7,U (fN s.p.f s.p.r s.p.bl from_).fst),(9,U s5)],[O.ints false i8 s.p.zs])) rfl ?_ ?_ (fun s5=>?_)
 ·refine bZ ?_
  exact bN ((Ent.rn [0] [4,5,7,9] rfl rfl rfl rfl rfl))
 ·exact bN ((Ent.rn [0] [4,5,7,9] rfl rfl rfl rfl rfl))
 exact aQ (aN [] (.inr rfl) rfl rfl rfl rfl rfl)
theorem zm:CtOk (GGx kCa kDb) PP (170,uN):=by
 refine aD Tryz.func170 (by kernel_rfl) rfl fun a0 h0 c0 v0 N0 e hc=>?_
 unfold uN at e
 split at e
 ·rename_i s_0 s_1 s_2n s_3 s_4 s_5 s_6 s_7 s_8 s_9 from__0 s_2
  obtain⟨hl,r,hr,rfl,rfl⟩:=bS e hc
  simp only[decide_eq_true_eq]at hl
  obtain rfl:=hl
  exact Ed ⟨⟨s_0,s_1,s_2,s_3,s_4,s_5,s_6,s_7⟩,s_8,s_9⟩ from__0 hr
 ·cases e
end
section
variable{kCa kDb:Bool}
def BR(s:Sgt)(from_:Int):Option (Int):=let x21:=band Go.BinOp.and u64 (bF s.p.f s.p.r 60 56).fst s.all;let x22:=band Go.BinOp.and u64 (bF s.p.f s.p.r 60 63).fst s.all;let x23:=band Go.BinOp.and u64 (bF s.p.f s.p.r 4 0).fst s.all;let x24:=band Go.BinOp.and u64 (bF s.p.f s.p.r 4 7).fst s.all;let x25:=!decide (from_=60);let x26:=!decide (from_=4);dN (bif decide (band Go.BinOp.and u8 s.p.ca 1=0)||!s.p.bl==false||x26 then some (Sum.inl 0)else dN (bif decide (x24=0)then some (Sum.inl (band Go.BinOp.or u64 0 (u64.wrap (1*2^Min.min (Int.toNat 6) u64.bits))))else some (Sum.inl 0)) fun(s5:Int)=>some (Sum.inl s5)) fun(s7:Int)=>dN (bif decide (band Go.BinOp.and u8 s.p.ca 2=0)||!s.p.bl==false||x26 then some (Sum.inl s7)else dN (bif decide (x23=0)then some (Sum.inl (band Go.BinOp.or u64 s7 (u64.wrap (1*2^Min.min (Int.toNat 2) u64.bits))))else some (Sum.inl s7)) fun(s9:Int)=>some (Sum.inl s9)) fun(s11:Int)=>dN (bif decide (band Go.BinOp.and u8 s.p.ca 4=0)||!s.p.bl==true||x25 then some (Sum.inl s11)else dN (bif decide (x22=0)then some (Sum.inl (band Go.BinOp.or u64 s11 (u64.wrap (1*2^Min.min (Int.toNat 62) u64.bits))))else some (Sum.inl s11)) fun(s13:Int)=>some (Sum.inl s13)) fun(s15:Int)=>dN (bif decide (band Go.BinOp.and u8 s.p.ca 8=0)||!s.p.bl==true||x25 then some (Sum.inl s15)else dN (bif decide (x21=0)then some (Sum.inl (band Go.BinOp.or u64 s15 (u64.wrap (1*2^Min.min (Int.toNat 58) u64.bits))))else some (Sum.inl s15)) fun(s17:Int)=>some (Sum.inl s17)) fun(s19:Int)=>dN (escO (some s19)) fun(_s20:Unit)=>none
def uZ(R:Int):V:=.int .u64 R
def wJ(_R:Int):List O:=[]
def vv:CF
 |[.agg [.int .i64 s_0,.int .i64 s_1,.sl 0 0 s_2n none,.bool s_3,.int .u8 s_4,.int .i64 s_5,.int .i64 s_6,.int .i64 s_7,.int .u64 s_8,.int .u64 s_9],.int .i64 from__0],[.ints false .i8 s_2]=>retC (decide (s_2n=s_2.length)) (BR ⟨⟨s_0,s_1,s_2,s_3,s_4,s_5,s_6,s_7⟩,s_8,s_9⟩ from__0) 0 uZ wJ
 |_,_=>none
theorem Dp(s:Sgt)(from_:Int){r}(hr:BR s from_=some r):aG (GGx kCa kDb) PP 171 [.agg [.int .i64 s.p.f,.int .i64 s.p.r,.sl 0 0 s.p.zs.length none,Bb s.p.bl,.int .u8 s.p.ca,.int .i64 s.p.pa,.int .i64 s.p.ha,.int .i64 s.p.fu,.int .u64 s.own,.int .u64 s.all],.int .i64 from_] [.ints false .i8 s.p.zs] (uZ r) (wJ r):=by
 have hE:=cutE (aC (kCa:=kCa) (kDb:=kDb) (cts:=[(155,fW)]) (inl:=[]) ⟨tx,trivial⟩ trivial)
 refine dA hE 2 Tryz.func171 rfl rfl uZ wJ hr ?_ rfl rfl
 refine Dc hE 2 5 ?_
 refine sS (let x120:=[V.int u8 s.p.ca,I s.p.pa,I s.p.ha,I s.p.fu,U s.own,U s.all];let x122:=decide (band Go.BinOp.and u8 s.p.ca 1=0);let x123:=[I 4,I 7,I 6];let x124:=EE kCa kDb [(155,fW)] [];let x125:=i64.wrap (0+1);let x119:=x122||!s.p.bl==false;let x121:=V.int u8 1::V.lit false::x123;let x118:=(13,V.agg [V.int u8 8,V.lit true,I 60,I 56,I 58])::(12,V.agg [V.int u8 4,V.lit true,I 60,I 63,I 62])::(11,V.agg [V.int u8 2,V.lit false,I 4,I 0,I 2])::(10,V.agg x121)::(5,U 0)::(4,U 0)::(2,V.ptr 1 0 0)::bn 0 [V.agg (I s.p.f::I s.p.r::V.sl 0 0 s.p.zs.length none::Bb s.p.bl::x120),I from_];fun(s7:Int)=>([(1,I from_),(2,V.ptr 1 0 0),(4,U 0),(5,U s7),(7,V.ptr 2 0 0),(14,V.sl 3 0 4 none),(15,I (Int.ofNat 4)),(16,I x125),(17,Bb (decide (0<Int.ofNat 4))),(18,V.ptr 3 0 0),(19,V.agg x121),(20,V.ptr 1 0 0),(21,V.ptr 1 0 4),(22,V.int u8 s.p.ca),(23,V.ptr 2 0 0),(24,V.int u8 1),(25,V.int u8 (band Go.BinOp.and u8 s.p.ca 1)),(26,Bb x122),(27,Bb x122),(34,Bb x119),(35,Bb x119),(40,Bb (x119||!decide (from_=4))),(62,I x125)],[O.ints false i8 s.p.zs,O.cells true (I s.p.f::I s.p.r::V.sl 0 0 s.p.zs.length none::Bb s.p.bl::x120),O.cells true (V.int u8 1::Bb false::x123),O.vals true 5 [(evA (let __src:=x124;Env.mk __src.ty __src.G __src.pf __src.inl __src.cc __src.pn true) x118 (Go.Operand.tmp 10)).cells,(evA (let __src:=x124;Env.mk __src.ty __src.G __src.pf __src.inl __src.cc __src.pn true) x118 (Go.Operand.tmp 11)).cells,(evA (let __src:=x124;Env.mk __src.ty __src.G __src.pf __src.inl __src.cc __src.pn true) x118 (Go.Operand.tmp 12)).cells,(evA (let __src:=x124;Env.mk __src.ty __src.G __src.pf __src.inl __src.cc __src.pn true) x118 (Go.Operand.tmp 13)).cells]])) ?_ (fun s7=>?_)
 ·refine yj hE 2 rfl rfl ?_
  refine aj rfl ?_
  refine aj (Bool.not_or_self _) ?_
  refine aj (Bool.not_or_self _) ?_
  refine aj (Bool.not_or_self _) ?_
  refine aj (Bool.not_or_self _) ?_
  refine aj (Bool.not_or_self _) ?_
  refine aj (Bool.or_not_self _) ?_
  refine aj (Bool.not_or_self _) ?_
  refine aj (Bool.not_or_self _) ?_
  refine aj (Bool.not_or_self _) ?_
  refine aj (Bool.or_not_self _) ?_
  refine aI hE 2 rfl ?_ ?_
  ·exact gb ((Ent.rn [0,1,3,2] [1,2,4,5,7,14,15,16,17,18,19,20,21,22,23,24,25,26,27,34,35,40,62] rfl rfl rfl rfl rfl))
  refine aj rfl ?_
  refine dc hE 2 (let x39:=[V.int u8 s.p.ca,I s.p.pa,I s.p.ha,I s.p.fu,U s.own,U s.all];let x41:=decide (band Go.BinOp.and u8 s.p.ca 1=0);let x42:=[I 4,I 7,I 6];let x44:=EE kCa kDb [(155,fW)] [];let x45:=(bF s.p.f s.p.r 4 7).fst;let x46:=(bF s.p.f s.p.r 4 7).snd;let x37:=[U x45,I x46];let x38:=x41||!s.p.bl==false;let x40:=V.int u8 1::V.lit false::x42;let x43:=band Go.BinOp.and u64 x45 s.all;let x36:=(13,V.agg [V.int u8 8,V.lit true,I 60,I 56,I 58])::(12,V.agg [V.int u8 4,V.lit true,I 60,I 63,I 62])::(11,V.agg [V.int u8 2,V.lit false,I 4,I 0,I 2])::(10,V.agg x40)::(5,U 0)::(4,U 0)::(2,V.ptr 1 0 0)::bn 0 [V.agg (I s.p.f::I s.p.r::V.sl 0 0 s.p.zs.length none::Bb s.p.bl::x39),I from_];fun(s5:Int)=>([(1,I from_),(2,V.ptr 1 0 0),(4,U 0),(5,U s5),(7,V.ptr 2 0 0),(8,U x45),(14,V.sl 3 0 4 none),(15,I (Int.ofNat 4)),(16,I 0),(17,Bb (decide (0<Int.ofNat 4))),(18,V.ptr 3 0 0),(19,V.agg x40),(20,V.ptr 1 0 0),(21,V.ptr 1 0 4),(22,V.int u8 s.p.ca),(23,V.ptr 2 0 0),(24,V.int u8 1),(25,V.int u8 (band Go.BinOp.and u8 s.p.ca 1)),(26,Bb x41),(27,Bb x41),(34,Bb x38),(35,Bb x38),(40,Bb (x38||!decide (from_=4))),(41,V.tup x37),(42,V.ptr 1 0 0),(43,V.ptr 1 0 0),(44,V.agg [I s.p.f,I s.p.r]),(45,V.ptr 2 0 2),(46,I 4),(47,V.ptr 2 0 3),(48,I 7),(49,V.tup x37),(50,U x45),(51,I x46),(52,U x45),(53,V.ptr 1 0 9),(54,U s.all),(55,U x43),(56,Bb (decide (x43=0)))],[O.ints false i8 s.p.zs,O.cells true (I s.p.f::I s.p.r::V.sl 0 0 s.p.zs.length none::Bb s.p.bl::x39),O.cells true (V.int u8 1::Bb false::x42),O.vals true 5 [(evA (let __src:=x44;Env.mk __src.ty __src.G __src.pf __src.inl __src.cc __src.pn true) x36 (Go.Operand.tmp 10)).cells,(evA (let __src:=x44;Env.mk __src.ty __src.G __src.pf __src.inl __src.cc __src.pn true) x36 (Go.Operand.tmp 11)).cells,(evA (let __src:=x44;Env.mk __src.ty __src.G __src.pf __src.inl __src.cc __src.pn true) x36 (Go.Operand.tmp 12)).cells,(evA (let __src:=x44;Env.mk __src.ty __src.G __src.pf __src.inl __src.cc __src.pn true) x36 (Go.Operand.tmp 13)).cells]])) rfl ?_ ?_ (fun s5=>?_)
  ·refine aj rfl ?_
   exact bN ((Ent.rn [0,1,3,2] [1,2,4,5,7,8,14,15,16,17,18,19,20,21,22,23,24,25,26,27,34,35,40,41,42,43,44,45,46,47,48,49,50,51,52,53,54,55,56] rfl rfl rfl rfl rfl))
  ·exact bN ((Ent.rn [0,1,3,2] [1,2,4,5,7,8,14,15,16,17,18,19,20,21,22,23,24,25,26,27,34,35,40,41,42,43,44,45,46,47,48,49,50,51,52,53,54,55,56] rfl rfl rfl rfl rfl))
  exact gb ((Ent.rn [0,1,2,3] [1,2,4,5,7,14,15,16,17,18,19,20,21,22,23,24,25,26,27,34,35,40,62] rfl rfl rfl rfl rfl))
 refine sS (let x110:=[V.int u8 s.p.ca,I s.p.pa,I s.p.ha,I s.p.fu,U s.own,U s.all];let x112:=decide (band Go.BinOp.and u8 s.p.ca 2=0);let x114:=[I 4,I 0,I 2];let x115:=EE kCa kDb [(155,fW)] [];let x116:=i64.wrap (0+1);let x109:=x112||!s.p.bl==false;let x111:=V.int u8 2::V.lit false::x114;let x113:=i64.wrap (x116+1);let x108:=(13,V.agg [V.int u8 8,V.lit true,I 60,I 56,I 58])::(12,V.agg [V.int u8 4,V.lit true,I 60,I 63,I 62])::(11,V.agg x111)::(10,V.agg [V.int u8 1,V.lit false,I 4,I 7,I 6])::(5,U 0)::(4,U 0)::(2,V.ptr 1 0 0)::bn 0 [V.agg (I s.p.f::I s.p.r::V.sl 0 0 s.p.zs.length none::Bb s.p.bl::x110),I from_];fun(s11:Int)=>([(1,I from_),(2,V.ptr 1 0 0),(4,U 0),(5,U s11),(7,V.ptr 2 0 0),(14,V.sl 3 0 4 none),(15,I (Int.ofNat 4)),(16,I x113),(17,Bb (decide (x116<Int.ofNat 4))),(18,V.ptr 3 1 0),(19,V.agg x111),(20,V.ptr 1 0 0),(21,V.ptr 1 0 4),(22,V.int u8 s.p.ca),(23,V.ptr 2 0 0),(24,V.int u8 2),(25,V.int u8 (band Go.BinOp.and u8 s.p.ca 2)),(26,Bb x112),(27,Bb x112),(34,Bb x109),(35,Bb x109),(40,Bb (x109||!decide (from_=4))),(62,I x113)],[O.ints false i8 s.p.zs,O.cells true (I s.p.f::I s.p.r::V.sl 0 0 s.p.zs.length none::Bb s.p.bl::x110),O.cells true (V.int u8 2::Bb false::x114),O.vals true 5 [(evA (let __src:=x115;Env.mk __src.ty __src.G __src.pf __src.inl __src.cc __src.pn true) x108 (Go.Operand.tmp 10)).cells,(evA (let __src:=x115;Env.mk __src.ty __src.G __src.pf __src.inl __src.cc __src.pn true) x108 (Go.Operand.tmp 11)).cells,(evA (let __src:=x115;Env.mk __src.ty __src.G __src.pf __src.inl __src.cc __src.pn true) x108 (Go.Operand.tmp 12)).cells,(evA (let __src:=x115;Env.mk __src.ty __src.G __src.pf __src.inl __src.cc __src.pn true) x108 (Go.Operand.tmp 13)).cells]])) ?_ (fun s11=>?_)
 ·refine yj hE 2 rfl rfl ?_
  refine aj rfl ?_
  refine aj (Bool.not_or_self _) ?_
  refine aj (Bool.not_or_self _) ?_
  refine aj (Bool.not_or_self _) ?_
  refine aj (Bool.not_or_self _) ?_
  refine aj (Bool.not_or_self _) ?_
  refine aj (Bool.or_not_self _) ?_
  refine aj (Bool.not_or_self _) ?_
  refine aj (Bool.not_or_self _) ?_
  refine aj (Bool.not_or_self _) ?_
  refine aj (Bool.or_not_self _) ?_
  refine aI hE 2 rfl ?_ ?_
  ·exact gb ((Ent.rn [0,1,4,3] [1,2,4,5,7,14,15,16,17,18,19,20,21,22,23,24,25,26,27,34,35,40,62] rfl rfl rfl rfl rfl))
  refine aj rfl ?_
  refine dc hE 2 (let x51:=[V.int u8 s.p.ca,I s.p.pa,I s.p.ha,I s.p.fu,U s.own,U s.all];let x53:=decide (band Go.BinOp.and u8 s.p.ca 2=0);let x54:=[I 4,I 0,I 2];let x56:=EE kCa kDb [(155,fW)] [];let x57:=(bF s.p.f s.p.r 4 0).fst;let x58:=(bF s.p.f s.p.r 4 0).snd;let x59:=i64.wrap (0+1);let x49:=[U x57,I x58];let x50:=x53||!s.p.bl==false;let x52:=V.int u8 2::V.lit false::x54;let x55:=band Go.BinOp.and u64 x57 s.all;let x48:=(13,V.agg [V.int u8 8,V.lit true,I 60,I 56,I 58])::(12,V.agg [V.int u8 4,V.lit true,I 60,I 63,I 62])::(11,V.agg x52)::(10,V.agg [V.int u8 1,V.lit false,I 4,I 7,I 6])::(5,U 0)::(4,U 0)::(2,V.ptr 1 0 0)::bn 0 [V.agg (I s.p.f::I s.p.r::V.sl 0 0 s.p.zs.length none::Bb s.p.bl::x51),I from_];fun(s9:Int)=>([(1,I from_),(2,V.ptr 1 0 0),(4,U 0),(5,U s9),(7,V.ptr 2 0 0),(8,U x57),(14,V.sl 3 0 4 none),(15,I (Int.ofNat 4)),(16,I x59),(17,Bb (decide (x59<Int.ofNat 4))),(18,V.ptr 3 1 0),(19,V.agg x52),(20,V.ptr 1 0 0),(21,V.ptr 1 0 4),(22,V.int u8 s.p.ca),(23,V.ptr 2 0 0),(24,V.int u8 2),(25,V.int u8 (band Go.BinOp.and u8 s.p.ca 2)),(26,Bb x53),(27,Bb x53),(34,Bb x50),(35,Bb x50),(40,Bb (x50||!decide (from_=4))),(41,V.tup x49),(42,V.ptr 1 0 0),(43,V.ptr 1 0 0),(44,V.agg [I s.p.f,I s.p.r]),(45,V.ptr 2 0 2),(46,I 4),(47,V.ptr 2 0 3),(48,I 0),(49,V.tup x49),(50,U x57),(51,I x58),(52,U x57),(53,V.ptr 1 0 9),(54,U s.all),(55,U x55),(56,Bb (decide (x55=0))),(62,I x59)],[O.ints false i8 s.p.zs,O.cells true (I s.p.f::I s.p.r::V.sl 0 0 s.p.zs.length none::Bb s.p.bl::x51),O.cells true (V.int u8 2::Bb false::x54),O.vals true 5 [(evA (let __src:=x56;Env.mk __src.ty __src.G __src.pf __src.inl __src.cc __src.pn true) x48 (Go.Operand.tmp 10)).cells,(evA (let __src:=x56;Env.mk __src.ty __src.G __src.pf __src.inl __src.cc __src.pn true) x48 (Go.Operand.tmp 11)).cells,(evA (let __src:=x56;Env.mk __src.ty __src.G __src.pf __src.inl __src.cc __src.pn true) x48 (Go.Operand.tmp 12)).cells,(evA (let __src:=x56;Env.mk __src.ty __src.G __src.pf __src.inl __src.cc __src.pn true) x48 (Go.Operand.tmp 13)).cells]])) rfl ?_ ?_ (fun s9=>?_)
  ·refine aj rfl ?_
   exact bN ((Ent.rn [0,1,4,3] [1,2,4,5,7,8,14,15,16,17,18,19,20,21,22,23,24,25,26,27,34,35,40,41,42,43,44,45,46,47,48,49,50,51,52,53,54,55,56,62] rfl rfl rfl rfl rfl))
  ·exact bN ((Ent.rn [0,1,4,3] [1,2,4,5,7,8,14,15,16,17,18,19,20,21,22,23,24,25,26,27,34,35,40,41,42,43,44,45,46,47,48,49,50,51,52,53,54,55,56,62] rfl rfl rfl rfl rfl))
  exact gb ((Ent.rn [0,1,2,3] [1,2,4,5,7,14,15,16,17,18,19,20,21,22,23,24,25,26,27,34,35,40,62] rfl rfl rfl rfl rfl))
 refine sS (let x101:=[V.int u8 s.p.ca,I s.p.pa,I s.p.ha,I s.p.fu,U s.own,U s.all];let x103:=decide (band Go.BinOp.and u8 s.p.ca 4=0);let x104:=i64.wrap (i64.wrap (0+1)+1);let x105:=[I 60,I 63,I 62];let x106:=EE kCa kDb [(155,fW)] [];let x99:=x103||!s.p.bl==true;let x100:=i64.wrap (x104+1);let x102:=V.int u8 4::V.lit true::x105;let x98:=(13,V.agg [V.int u8 8,V.lit true,I 60,I 56,I 58])::(12,V.agg x102)::(11,V.agg [V.int u8 2,V.lit false,I 4,I 0,I 2])::(10,V.agg [V.int u8 1,V.lit false,I 4,I 7,I 6])::(5,U 0)::(4,U 0)::(2,V.ptr 1 0 0)::bn 0 [V.agg (I s.p.f::I s.p.r::V.sl 0 0 s.p.zs.length none::Bb s.p.bl::x101),I from_];fun(s15:Int)=>([(1,I from_),(2,V.ptr 1 0 0),(4,U 0),(5,U s15),(7,V.ptr 2 0 0),(14,V.sl 3 0 4 none),(15,I (Int.ofNat 4)),(16,I x100),(17,Bb (decide (x104<Int.ofNat 4))),(18,V.ptr 3 2 0),(19,V.agg x102),(20,V.ptr 1 0 0),(21,V.ptr 1 0 4),(22,V.int u8 s.p.ca),(23,V.ptr 2 0 0),(24,V.int u8 4),(25,V.int u8 (band Go.BinOp.and u8 s.p.ca 4)),(26,Bb x103),(27,Bb x103),(34,Bb x99),(35,Bb x99),(40,Bb (x99||!decide (from_=60))),(62,I x100)],[O.ints false i8 s.p.zs,O.cells true (I s.p.f::I s.p.r::V.sl 0 0 s.p.zs.length none::Bb s.p.bl::x101),O.cells true (V.int u8 4::Bb true::x105),O.vals true 5 [(evA (let __src:=x106;Env.mk __src.ty __src.G __src.pf __src.inl __src.cc __src.pn true) x98 (Go.Operand.tmp 10)).cells,(evA (let __src:=x106;Env.mk __src.ty __src.G __src.pf __src.inl __src.cc __src.pn true) x98 (Go.Operand.tmp 11)).cells,(evA (let __src:=x106;Env.mk __src.ty __src.G __src.pf __src.inl __src.cc __src.pn true) x98 (Go.Operand.tmp 12)).cells,(evA (let __src:=x106;Env.mk __src.ty __src.G __src.pf __src.inl __src.cc __src.pn true) x98 (Go.Operand.tmp 13)).cells]])) ?_ (fun s15=>?_)
 ·refine yj hE 2 rfl rfl ?_
  refine aj rfl ?_
  refine aj (Bool.not_or_self _) ?_
  refine aj (Bool.not_or_self _) ?_
  refine aj (Bool.not_or_self _) ?_
  refine aj (Bool.not_or_self _) ?_
  refine aj (Bool.not_or_self _) ?_
  refine aj (Bool.or_not_self _) ?_
  refine aj (Bool.not_or_self _) ?_
  refine aj (Bool.not_or_self _) ?_
  refine aj (Bool.not_or_self _) ?_
  refine aj (Bool.or_not_self _) ?_
  refine aI hE 2 rfl ?_ ?_
  ·exact gb ((Ent.rn [0,1,4,3] [1,2,4,5,7,14,15,16,17,18,19,20,21,22,23,24,25,26,27,34,35,40,62] rfl rfl rfl rfl rfl))
  refine aj rfl ?_
  refine dc hE 2 (let x64:=[V.int u8 s.p.ca,I s.p.pa,I s.p.ha,I s.p.fu,U s.own,U s.all];let x66:=decide (band Go.BinOp.and u8 s.p.ca 4=0);let x67:=i64.wrap (i64.wrap (0+1)+1);let x68:=[I 60,I 63,I 62];let x70:=EE kCa kDb [(155,fW)] [];let x71:=(bF s.p.f s.p.r 60 63).snd;let x72:=(bF s.p.f s.p.r 60 63).fst;let x62:=[U x72,I x71];let x63:=x66||!s.p.bl==true;let x65:=V.int u8 4::V.lit true::x68;let x69:=band Go.BinOp.and u64 x72 s.all;let x61:=(13,V.agg [V.int u8 8,V.lit true,I 60,I 56,I 58])::(12,V.agg x65)::(11,V.agg [V.int u8 2,V.lit false,I 4,I 0,I 2])::(10,V.agg [V.int u8 1,V.lit false,I 4,I 7,I 6])::(5,U 0)::(4,U 0)::(2,V.ptr 1 0 0)::bn 0 [V.agg (I s.p.f::I s.p.r::V.sl 0 0 s.p.zs.length none::Bb s.p.bl::x64),I from_];fun(s13:Int)=>([(1,I from_),(2,V.ptr 1 0 0),(4,U 0),(5,U s13),(7,V.ptr 2 0 0),(8,U x72),(14,V.sl 3 0 4 none),(15,I (Int.ofNat 4)),(16,I x67),(17,Bb (decide (x67<Int.ofNat 4))),(18,V.ptr 3 2 0),(19,V.agg x65),(20,V.ptr 1 0 0),(21,V.ptr 1 0 4),(22,V.int u8 s.p.ca),(23,V.ptr 2 0 0),(24,V.int u8 4),(25,V.int u8 (band Go.BinOp.and u8 s.p.ca 4)),(26,Bb x66),(27,Bb x66),(34,Bb x63),(35,Bb x63),(40,Bb (x63||!decide (from_=60))),(41,V.tup x62),(42,V.ptr 1 0 0),(43,V.ptr 1 0 0),(44,V.agg [I s.p.f,I s.p.r]),(45,V.ptr 2 0 2),(46,I 60),(47,V.ptr 2 0 3),(48,I 63),(49,V.tup x62),(50,U x72),(51,I x71),(52,U x72),(53,V.ptr 1 0 9),(54,U s.all),(55,U x69),(56,Bb (decide (x69=0))),(62,I x67)],[O.ints false i8 s.p.zs,O.cells true (I s.p.f::I s.p.r::V.sl 0 0 s.p.zs.length none::Bb s.p.bl::x64),O.cells true (V.int u8 4::Bb true::x68),O.vals true 5 [(evA (let __src:=x70;Env.mk __src.ty __src.G __src.pf __src.inl __src.cc __src.pn true) x61 (Go.Operand.tmp 10)).cells,(evA (let __src:=x70;Env.mk __src.ty __src.G __src.pf __src.inl __src.cc __src.pn true) x61 (Go.Operand.tmp 11)).cells,(evA (let __src:=x70;Env.mk __src.ty __src.G __src.pf __src.inl __src.cc __src.pn true) x61 (Go.Operand.tmp 12)).cells,(evA (let __src:=x70;Env.mk __src.ty __src.G __src.pf __src.inl __src.cc __src.pn true) x61 (Go.Operand.tmp 13)).cells]])) rfl ?_ ?_ (fun s13=>?_)
  ·refine aj rfl ?_
   exact bN ((Ent.rn [0,1,4,3] [1,2,4,5,7,8,14,15,16,17,18,19,20,21,22,23,24,25,26,27,34,35,40,41,42,43,44,45,46,47,48,49,50,51,52,53,54,55,56,62] rfl rfl rfl rfl rfl))
  ·exact bN ((Ent.rn [0,1,4,3] [1,2,4,5,7,8,14,15,16,17,18,19,20,21,22,23,24,25,26,27,34,35,40,41,42,43,44,45,46,47,48,49,50,51,52,53,54,55,56,62] rfl rfl rfl rfl rfl))
  exact gb ((Ent.rn [0,1,2,3] [1,2,4,5,7,14,15,16,17,18,19,20,21,22,23,24,25,26,27,34,35,40,62] rfl rfl rfl rfl rfl))
 refine sS (let x91:=i64.wrap (i64.wrap (i64.wrap (0+1)+1)+1);let x92:=[V.int u8 s.p.ca,I s.p.pa,I s.p.ha,I s.p.fu,U s.own,U s.all];let x94:=decide (band Go.BinOp.and u8 s.p.ca 8=0);let x95:=[I 60,I 56,I 58];let x96:=EE kCa kDb [(155,fW)] [];let x89:=i64.wrap (x91+1);let x90:=x94||!s.p.bl==true;let x93:=V.int u8 8::V.lit true::x95;let x88:=(13,V.agg x93)::(12,V.agg [V.int u8 4,V.lit true,I 60,I 63,I 62])::(11,V.agg [V.int u8 2,V.lit false,I 4,I 0,I 2])::(10,V.agg [V.int u8 1,V.lit false,I 4,I 7,I 6])::(5,U 0)::(4,U 0)::(2,V.ptr 1 0 0)::bn 0 [V.agg (I s.p.f::I s.p.r::V.sl 0 0 s.p.zs.length none::Bb s.p.bl::x92),I from_];fun(s19:Int)=>([(1,I from_),(2,V.ptr 1 0 0),(4,U 0),(5,U s19),(7,V.ptr 2 0 0),(14,V.sl 3 0 4 none),(15,I (Int.ofNat 4)),(16,I x89),(17,Bb (decide (x91<Int.ofNat 4))),(18,V.ptr 3 3 0),(19,V.agg x93),(20,V.ptr 1 0 0),(21,V.ptr 1 0 4),(22,V.int u8 s.p.ca),(23,V.ptr 2 0 0),(24,V.int u8 8),(25,V.int u8 (band Go.BinOp.and u8 s.p.ca 8)),(26,Bb x94),(27,Bb x94),(34,Bb x90),(35,Bb x90),(40,Bb (x90||!decide (from_=60))),(62,I x89)],[O.ints false i8 s.p.zs,O.cells true (I s.p.f::I s.p.r::V.sl 0 0 s.p.zs.length none::Bb s.p.bl::x92),O.cells true (V.int u8 8::Bb true::x95),O.vals true 5 [(evA (let __src:=x96;Env.mk __src.ty __src.G __src.pf __src.inl __src.cc __src.pn true) x88 (Go.Operand.tmp 10)).cells,(evA (let __src:=x96;Env.mk __src.ty __src.G __src.pf __src.inl __src.cc __src.pn true) x88 (Go.Operand.tmp 11)).cells,(evA (let __src:=x96;Env.mk __src.ty __src.G __src.pf __src.inl __src.cc __src.pn true) x88 (Go.Operand.tmp 12)).cells,(evA (let __src:=x96;Env.mk __src.ty __src.G __src.pf __src.inl __src.cc __src.pn true) x88 (Go.Operand.tmp 13)).cells]])) ?_ (fun s19=>?_)
 ·refine yj hE 2 rfl rfl ?_
  refine aj rfl ?_
  refine aj (Bool.not_or_self _) ?_
  refine aj (Bool.not_or_self _) ?_
  refine aj (Bool.not_or_self _) ?_
  refine aj (Bool.not_or_self _) ?_
  refine aj (Bool.not_or_self _) ?_
  refine aj (Bool.or_not_self _) ?_
  refine aj (Bool.not_or_self _) ?_
  refine aj (Bool.not_or_self _) ?_
  refine aj (Bool.not_or_self _) ?_
  refine aj (Bool.or_not_self _) ?_
  refine aI hE 2 rfl ?_ ?_
  ·exact gb ((Ent.rn [0,1,4,3] [1,2,4,5,7,14,15,16,17,18,19,20,21,22,23,24,25,26,27,34,35,40,62] rfl rfl rfl rfl rfl))
  refine aj rfl ?_
  refine dc hE 2 (let x77:=i64.wrap (i64.wrap (i64.wrap (0+1)+1)+1);let x78:=[V.int u8 s.p.ca,I s.p.pa,I s.p.ha,I s.p.fu,U s.own,U s.all];let x80:=decide (band Go.BinOp.and u8 s.p.ca 8=0);let x81:=[I 60,I 56,I 58];let x83:=EE kCa kDb [(155,fW)] [];let x84:=(bF s.p.f s.p.r 60 56).fst;let x85:=(bF s.p.f s.p.r 60 56).snd;let x75:=[U x84,I x85];let x76:=x80||!s.p.bl==true;let x79:=V.int u8 8::V.lit true::x81;let x82:=band Go.BinOp.and u64 x84 s.all;let x74:=(13,V.agg x79)::(12,V.agg [V.int u8 4,V.lit true,I 60,I 63,I 62])::(11,V.agg [V.int u8 2,V.lit false,I 4,I 0,I 2])::(10,V.agg [V.int u8 1,V.lit false,I 4,I 7,I 6])::(5,U 0)::(4,U 0)::(2,V.ptr 1 0 0)::bn 0 [V.agg (I s.p.f::I s.p.r::V.sl 0 0 s.p.zs.length none::Bb s.p.bl::x78),I from_];fun(s17:Int)=>([(1,I from_),(2,V.ptr 1 0 0),(4,U 0),(5,U s17),(7,V.ptr 2 0 0),(8,U x84),(14,V.sl 3 0 4 none),(15,I (Int.ofNat 4)),(16,I x77),(17,Bb (decide (x77<Int.ofNat 4))),(18,V.ptr 3 3 0),(19,V.agg x79),(20,V.ptr 1 0 0),(21,V.ptr 1 0 4),(22,V.int u8 s.p.ca),(23,V.ptr 2 0 0),(24,V.int u8 8),(25,V.int u8 (band Go.BinOp.and u8 s.p.ca 8)),(26,Bb x80),(27,Bb x80),(34,Bb x76),(35,Bb x76),(40,Bb (x76||!decide (from_=60))),(41,V.tup x75),(42,V.ptr 1 0 0),(43,V.ptr 1 0 0),(44,V.agg [I s.p.f,I s.p.r]),(45,V.ptr 2 0 2),(46,I 60),(47,V.ptr 2 0 3),(48,I 56),(49,V.tup x75),(50,U x84),(51,I x85),(52,U x84),(53,V.ptr 1 0 9),(54,U s.all),(55,U x82),(56,Bb (decide (x82=0))),(62,I x77)],[O.ints false i8 s.p.zs,O.cells true (I s.p.f::I s.p.r::V.sl 0 0 s.p.zs.length none::Bb s.p.bl::x78),O.cells true (V.int u8 8::Bb true::x81),O.vals true 5 [(evA (let __src:=x83;Env.mk __src.ty __src.G __src.pf __src.inl __src.cc __src.pn true) x74 (Go.Operand.tmp 10)).cells,(evA (let __src:=x83;Env.mk __src.ty __src.G __src.pf __src.inl __src.cc __src.pn true) x74 (Go.Operand.tmp 11)).cells,(evA (let __src:=x83;Env.mk __src.ty __src.G __src.pf __src.inl __src.cc __src.pn true) x74 (Go.Operand.tmp 12)).cells,(evA (let __src:=x83;Env.mk __src.ty __src.G __src.pf __src.inl __src.cc __src.pn true) x74 (Go.Operand.tmp 13)).cells]])) rfl ?_ ?_ (fun s17=>?_)
  ·refine aj rfl ?_
   exact bN ((Ent.rn [0,1,4,3] [1,2,4,5,7,8,14,15,16,17,18,19,20,21,22,23,24,25,26,27,34,35,40,41,42,43,44,45,46,47,48,49,50,51,52,53,54,55,56,62] rfl rfl rfl rfl rfl))
  ·exact bN ((Ent.rn [0,1,4,3] [1,2,4,5,7,8,14,15,16,17,18,19,20,21,22,23,24,25,26,27,34,35,40,41,42,43,44,45,46,47,48,49,50,51,52,53,54,55,56,62] rfl rfl rfl rfl rfl))
  exact gb ((Ent.rn [0,1,2,3] [1,2,4,5,7,14,15,16,17,18,19,20,21,22,23,24,25,26,27,34,35,40,62] rfl rfl rfl rfl rfl))
 refine sS (fun(s:Unit)=>([],[])) ?_ JI
 refine Mc hE 2 rfl rfl ?_
 refine IS (by simp) ?_
 exact aQ (aN [] (.inr rfl) rfl rfl rfl rfl rfl)
theorem zz:CtOk (GGx kCa kDb) PP (171,vv):=by
 refine aD Tryz.func171 (by kernel_rfl) rfl fun a0 h0 c0 v0 N0 e hc=>?_
 unfold vv at e
 split at e
 ·rename_i s_0 s_1 s_2n s_3 s_4 s_5 s_6 s_7 s_8 s_9 from__0 s_2
  obtain⟨hl,r,hr,rfl,rfl⟩:=bS e hc
  simp only[decide_eq_true_eq]at hl
  obtain rfl:=hl
  exact Dp ⟨⟨s_0,s_1,s_2,s_3,s_4,s_5,s_6,s_7⟩,s_8,s_9⟩ from__0 hr
 ·cases e
def dD(s:Sgt)(from_:Int):Option (Int):=let x10:=Sgt.mk (Psn.mk s.p.f s.p.r (List.take s.p.zs.length (List.drop 0 s.p.zs)) s.p.bl s.p.ca s.p.pa s.p.ha s.p.fu) s.own s.all;let x12:=(wZ (s.p.zs.getD from_.toNat 0)).getD 0;let x11:=(bO s.p.f s.p.r x12 from_ s.all).fst;bp (decide (0<=from_)&&decide (from_<Int.ofNat s.p.zs.length)) (cn (wZ (s.p.zs.getD from_.toNat 0)) Inhabited.default fun(_y4:Int)=>bif decide (x12=1)then cn (spawn x10 from_) 0 fun(y6:Int)=>some y6 else dN (bif decide (x12=6)then cn (BR x10 from_) 0 fun(y7:Int)=>some (Sum.inl (band Go.BinOp.or u64 x11 y7))else some (Sum.inl x11)) fun(s9:Int)=>some (band Go.BinOp.andNot u64 s9 s.own))
def kg(R:Int):V:=.int .u64 R
def kC(_R:Int):List O:=[]
def kq:CF
 |[.agg [.int .i64 s_0,.int .i64 s_1,.sl 0 0 s_2n none,.bool s_3,.int .u8 s_4,.int .i64 s_5,.int .i64 s_6,.int .i64 s_7,.int .u64 s_8,.int .u64 s_9],.int .i64 from__0],[.ints false .i8 s_2]=>retC (decide (s_2n=s_2.length)) (dD ⟨⟨s_0,s_1,s_2,s_3,s_4,s_5,s_6,s_7⟩,s_8,s_9⟩ from__0) 0 kg kC
 |_,_=>none
theorem ta(s:Sgt)(from_:Int){r}(hr:dD s from_=some r):aG (GGx kCa kDb) PP 150 [.agg [.int .i64 s.p.f,.int .i64 s.p.r,.sl 0 0 s.p.zs.length none,Bb s.p.bl,.int .u8 s.p.ca,.int .i64 s.p.pa,.int .i64 s.p.ha,.int .i64 s.p.fu,.int .u64 s.own,.int .u64 s.all],.int .i64 from_] [.ints false .i8 s.p.zs] (kg r) (kC r):=by
 have hE:=cutE (aC (kCa:=kCa) (kDb:=kDb) (cts:=[(151,rC),(154,mG),(170,uN),(171,vv)]) (inl:=[]) ⟨oE,ke,zm,zz,trivial⟩ trivial)
 refine dA hE 2 Tryz.func150 rfl rfl kg kC hr ?_ rfl rfl
 refine bZ ?_
 refine aR (pl rfl id) ?_
 refine aI hE 2 rfl ?_ ?_
 ·refine aR (pl (decide_eq_true (aS rfl)) id) ?_
  exact aQ (aN [] (.inr rfl) rfl rfl rfl rfl rfl)
 refine aj rfl ?_
 refine dc hE 2 (fun(s9:Int)=>([(2,V.ptr 1 0 0),(4,U 0),(6,U s9)],[O.ints false i8 s.p.zs,O.cells true [I s.p.f,I s.p.r,V.sl 0 0 s.p.zs.length none,Bb s.p.bl,V.int u8 s.p.ca,I s.p.pa,I s.p.ha,I s.p.fu,U s.own,U s.all]])) rfl ?_ ?_ (fun s9=>?_)
 ·refine aR (pl (decide_eq_true (aS rfl)) id) ?_
  exact bN ((Ent.rn [0,1] [2,4,6] rfl rfl rfl rfl rfl))
 ·exact bN ((Ent.rn [0,1] [2,4,6] rfl rfl rfl rfl rfl))
 exact aQ (aN [] (.inr rfl) rfl rfl rfl rfl rfl)
theorem qb:CtOk (GGx kCa kDb) PP (150,kq):=by
 refine aD Tryz.func150 (by kernel_rfl) rfl fun a0 h0 c0 v0 N0 e hc=>?_
 unfold kq at e
 split at e
 ·rename_i s_0 s_1 s_2n s_3 s_4 s_5 s_6 s_7 s_8 s_9 from__0 s_2
  obtain⟨hl,r,hr,rfl,rfl⟩:=bS e hc
  simp only[decide_eq_true_eq]at hl
  obtain rfl:=hl
  exact ta ⟨⟨s_0,s_1,s_2,s_3,s_4,s_5,s_6,s_7⟩,s_8,s_9⟩ from__0 hr
 ·cases e
def tz(x:Int):Option (Int):=let x2:=(u64.wrap (band Go.BinOp.and u64 x (u64.wrap (0-x))*285870213051353865)).fdiv (2^Min.min (Int.toNat 58) u64.bits);bif decide (x=0)then some 64 else bp (decide (0<=x2)&&decide (x2<Int.ofNat 64)) (some (i64.wrap (Ai.getD x2.toNat 0)))
def tz_V(R:Int):V:=.int .i64 R
def tz_N(_R:Int):List O:=[]
def c_tz:CF
 |[.int .u64 x_0],[]=>retC true (tz x_0) 0 tz_V tz_N
 |_,_=>none
theorem Lb(x:Int){r}(hr:tz x=some r):aG (GGx kCa true) PP 96 [.int .u64 x] [] (tz_V r) (tz_N r):=by
 have hE:=cutE (aC (kCa:=kCa) (kDb:=true) (cts:=[]) (inl:=[]) trivial trivial)
 refine dA hE 2 Tryz.func96 rfl rfl tz_V tz_N hr ?_ rfl rfl
 refine aI hE 2 rfl ?_ ?_
 ·exact aQ (aN [] (.inr rfl) rfl rfl rfl rfl rfl)
 refine aj rfl ?_
 refine bZ ?_
 exact aQ (aN [] (.inr rfl) rfl rfl rfl rfl rfl)
theorem Iy:CtOk (GGx kCa true) PP (96,c_tz):=by
 refine aD Tryz.func96 (by kernel_rfl) rfl fun a0 h0 c0 v0 N0 e hc=>?_
 unfold c_tz at e
 split at e
 ·rename_i x_0
  obtain⟨hl,r,hr,rfl,rfl⟩:=bS e hc
  exact Lb x_0 hr
 ·cases e
end
section
variable{kCa:Bool}
def tzf(x:Int):Int:=(tz x).getD 0
def eH(x:Int):Int:=uand x (u64.wrap (x-1))
theorem e58:(2:Int)^Min.min (Int.toNat 58) u64.bits=288230376151711744:=by decide
theorem w0(y:Int):0<=u64.wrap y/\u64.wrap y<18446744073709551616:=by
 rw[jx]
 exact⟨Int.emod_nonneg _ (by decide),Int.emod_lt_of_pos _ (by decide)⟩
theorem d58(z:Int)(h2:0<=z/\z<18446744073709551616):(decide (0<=z.fdiv 288230376151711744)&&decide (z.fdiv 288230376151711744<Int.ofNat 64))=true:=by
 have h3:z.fdiv 288230376151711744=z/288230376151711744:=Int.fdiv_eq_ediv_of_nonneg _ (by decide)
 rw[h3]
 have h4:decide (0<=z/288230376151711744)=true:=by simp;omega
 have h5:decide (z/288230376151711744<Int.ofNat 64)=true:=by
  rw[decide_eq_true_eq];show z/288230376151711744<64;omega
 rw[h4,h5];rfl
theorem IJ(x:Int):(tz x).isSome=true:=by
 unfold tz
 cases decide (x=0)
 ·rw[cond_false,e58,d58 _ (w0 _)];rfl
 ·rfl
def gV:Nat->Int->List Int
 |0,_=>[]
 |k+1,s=>bif decide (s=0) then[]else tzf s::gV k (eH s)
def jb(s:Int):List Int:=gV 66 s
theorem uB(x:Int):Uk (eH x):=uu _ _
theorem HU(n:Nat)(h:n≠0):∃ t k,n=2^t*(2*k+1):=by
 induction n using Nat.strongRecOn with
 |_ n ih=>
  by_cases ho:n%2=1
  ·exact⟨0,n/2,by omega⟩
  ·obtain⟨t,k,e⟩:=ih (n/2) (by omega) (by omega)
   exact⟨t+1,k,by rw[Nat.pow_succ,Nat.mul_assoc,Nat.mul_comm 2,<-Nat.mul_assoc,<-e];omega⟩
theorem rS(t k j:Nat):(2^t*(2*k+1)).testBit j=(decide (t<=j)&&(decide (j=t)||k.testBit (j-t-1))):=by
 rw[Nat.testBit_two_pow_mul]
 by_cases h:t<=j
 ·by_cases e:j=t
  ·subst e;simp
  ·obtain⟨i,rfl⟩:∃ i,j=t+1+i:=⟨j-t-1,by omega⟩
   have e1:t+1+i-t=i+1:=by omega
   have e2:t+1+i-t-1=i:=by omega
   rw[e1]
   have e3:(2*k+1).testBit (i+1)=k.testBit i:=by rw[Nat.testBit_succ];congr 1;omega
   simp only[e3,decide_eq_true h,decide_eq_false e,Bool.true_and,Bool.false_or,Nat.add_sub_cancel]
 ·simp[h]
theorem yO(t k j:Nat):(2^t*(2*k+1)-1).testBit j=(decide (j<t)||(!decide (j=t)&&k.testBit (j-t-1))):=by
 have hp:0<2^t:=Nat.two_pow_pos t
 have e:2^t*(2*k+1)-1=2^t*(2*k)+(2^t-1):=by rw[Nat.mul_add];omega
 rw[e,Nat.testBit_two_pow_mul_add _ (by omega)]
 by_cases h:j<t
 ·rw[if_pos h,Nat.testBit_two_pow_sub_one];simp[h]
 ·rw[if_neg h]
  by_cases e2:j=t
  ·subst e2;simp
  ·obtain⟨i,rfl⟩:∃ i,j=t+1+i:=⟨j-t-1,by omega⟩
   have e1:t+1+i-t=i+1:=by omega
   have e4:t+1+i-t-1=i:=by omega
   rw[e1,Nat.testBit_succ,show 2*k/2=k by omega]
   simp only[decide_eq_false h,decide_eq_false e2,Bool.false_or,Bool.not_false,Bool.true_and,Nat.add_sub_cancel]
theorem IQ{x:Int}(hu:Uk x)(h0:x≠0):∃ t k:Nat,t<64/\x.toNat=2^t*(2*k+1):=by
 obtain⟨t,k,e⟩:=HU x.toNat (by have:=hu.1;omega)
 refine⟨t,k,?_,e⟩
 refine Decidable.byContradiction fun h=>?_
 have h1:2^64<=2^t:=Nat.pow_le_pow_right (by decide) (by omega)
 have h2:2^t<=x.toNat:=by rw[e];exact Nat.le_mul_of_pos_right _ (by omega)
 have:=hu.2
 omega
theorem Lc{t:Nat}(ht:t<64):Uk ((2^t:Nat):Int):=by
 have:(2:Nat)^t<2^64:=Nat.pow_lt_pow_right (by decide) ht
 exact⟨Int.natCast_nonneg _,by omega⟩
theorem Il{x:Int}(hu:Uk x){t k:Nat}(ht:t<64)(e:x.toNat=2^t*(2*k+1)):uand x (u64.wrap (0-x))=((2^t:Nat):Int):=by
 have hw:Uk (u64.wrap (0-x)):=w0 _
 have hp:0<2^t:=Nat.two_pow_pos t
 have hpos:0<x.toNat:=by rw[e];exact Nat.mul_pos hp (by omega)
 have hn:(u64.wrap (0-x)).toNat=2^64-(x.toNat-1+1):=by
  rw[jx]
  have h1:=hu.1
  have h2:=hu.2
  have:(0-x)%18446744073709551616=18446744073709551616-x:=by omega
  rw[this];omega
 refine yx (uu _ _) (Lc ht) fun j hj=>?_
 rw[oX hu hw]
 unfold bt
 rw[hn,Nat.testBit_two_pow_sub_succ (by have:=hu.2;omega),e,rS,yO,Int.toNat_natCast,Nat.testBit_two_pow]
 by_cases h1:j<t
 ·rw[decide_eq_true h1,decide_eq_false (show ¬ t<=j by omega),decide_eq_false (show ¬ t=j by omega)];rfl
 ·by_cases h2:j=t
  ·rw[decide_eq_false h1,decide_eq_true h2,decide_eq_true (show t<=j by omega),decide_eq_true hj,decide_eq_true h2.symm];rfl
  ·rw[decide_eq_false h1,decide_eq_false h2,decide_eq_true (show t<=j by omega),decide_eq_true hj,decide_eq_false (show ¬ t=j by omega)]
   cases k.testBit (j-t-1)<;>rfl
theorem Gv:∀ t:_root_.Fin 64,i64.wrap (Ai.getD ((u64.wrap (((2^t.val:Nat):Int)*285870213051353865)).fdiv 288230376151711744).toNat 0)=((t.val:Nat):Int):=by decide +kernel
theorem BA(v:Int):(bp true (some v)).getD 0=v:=rfl
theorem Kb{x:Int}(h:x≠0){z:Int}(hz:band Go.BinOp.and u64 x (u64.wrap (0-x))=z):tzf x=i64.wrap (Ai.getD ((u64.wrap (z*285870213051353865)).fdiv 288230376151711744).toNat 0):=by
 unfold tzf tz
 rw[decide_eq_false h,cond_false,e58,d58 _ (w0 _),BA,hz]
theorem JW{x:Int}(hu:Uk x){t k:Nat}(ht:t<64)(e:x.toNat=2^t*(2*k+1)):tzf x=t:=by
 have hp:0<2^t:=Nat.two_pow_pos t
 have hpos:0<x.toNat:=by rw[e];exact Nat.mul_pos hp (by omega)
 exact(Kb (by omega) (Il hu ht e)).trans (Gv ⟨t,ht⟩)
theorem vE{x:Int}(hu:Uk x){t k:Nat}(_ht:t<64)(e:x.toNat=2^t*(2*k+1))(j:Nat):bt (eH x) j=(bt x j&&!decide (j=t)):=by
 have hp:0<2^t:=Nat.two_pow_pos t
 have hpos:0<x.toNat:=by rw[e];exact Nat.mul_pos hp (by omega)
 have h1:=hu.1
 have h2:=hu.2
 have hw:u64.wrap (x-1)=x-1:=uw ⟨by omega,by omega⟩
 unfold eH
 rw[hw,oX hu ⟨by omega,by omega⟩]
 unfold bt
 rw[show (x-1).toNat=x.toNat-1 by omega,e,rS,yO]
 by_cases h1:j<t
 ·rw[decide_eq_true h1,decide_eq_false (show ¬ t<=j by omega)];rfl
 ·by_cases h2:j=t
  ·rw[decide_eq_false h1,decide_eq_true h2];simp
  ·rw[decide_eq_false h1,decide_eq_false h2,decide_eq_true (show t<=j by omega)]
   cases k.testBit (j-t-1)<;>rfl
def bitL(x:Int):List Int:=((List.range 64).filter (bt x)).map Int.ofNat
theorem filter_none{α:Type}{p:α->Bool}{l:List α}(h:∀ a∈l,p a=false):l.filter p=[]:=by
 rw[List.filter_eq_nil_iff];exact fun a ha=>by rw[h a ha];decide
theorem mB{x:Int}(hu:Uk x){t k:Nat}(ht:t<64)(e:x.toNat=2^t*(2*k+1)):bitL x=(t:Int)::bitL (eH x):=by
 have hr:List.range 64=List.range' 0 t++t::List.range' (t+1) (63-t):=by
  rw[List.range_eq_range',show 64=t+(1+(63-t)) by omega,<-List.range'_append_1,<-List.range'_append_1]
  simp[Nat.add_comm]
 have hlow:∀ j∈List.range' 0 t,bt x j=false:=by
  intro j hj
  have:=List.mem_range'_1.1 hj
  unfold bt
  rw[e,rS,decide_eq_false (show ¬ t<=j by omega)];rfl
 have ht1:bt x t=true:=by unfold bt;rw[e,rS];simp
 unfold bitL
 rw[hr,List.filter_append,List.filter_append,filter_none hlow,filter_none (p:=bt (eH x)) (l:=List.range' 0 t) (fun j hj=>by rw[vE hu ht e,hlow j hj];rfl),List.filter_cons,List.filter_cons,ht1,vE hu ht e,ht1]
 have h2:(List.range' (t+1) (63-t)).filter (bt (eH x))=(List.range' (t+1) (63-t)).filter (bt x):=by
  refine List.filter_congr fun j hj=>?_
  have:=List.mem_range'_1.1 hj
  rw[vE hu ht e,decide_eq_false (show ¬ j=t by omega)];simp
 rw[h2]
 simp
theorem Li:bitL 0=[]:=by unfold bitL;rw[filter_none fun j _=>bt_0 j];rfl
theorem lB(x:Int):(bitL x).length<=64:=by
 unfold bitL
 rw[List.length_map]
 exact Nat.le_trans (List.length_filter_le _ _) (by simp)
theorem Co:∀ (n:Nat) {x:Int},Uk x->(bitL x).length<n->gV n x=bitL x
 |0,_,_,h=>absurd h (by omega)
 |n+1,x,hu,h=>by
  unfold gV
  by_cases h0:x=0
  ·subst h0;rw[Li];rfl
  ·obtain⟨t,k,ht,e⟩:=IQ hu h0
   have hc:=mB hu ht e
   rw[hc]at h ⊢
   rw[decide_eq_false h0,cond_false,JW hu ht e,Co n (uB x) (by simpa using h)]
theorem pW{x:Int}(hu:Uk x):jb x=bitL x:=Co 66 hu (by have:=lB x;omega)
theorem rJ(s:Int):kA (GGx kCa true) PP 95 [[U s]] ((jb s).map fun x=>[I x]):=by
 have hE:=aC (kCa:=kCa) (kDb:=true) (cts:=[(96,c_tz)]) (inl:=[]) ⟨Iy,trivial⟩ trivial
 refine yL hE Tryz.func95 rfl rfl rfl rfl fun nn l S0 ρc J ok=>?_
 refine YG.seq (YG.seg hE 2 ?_)
 repeat (first|refine ah ?_|refine sat_nd ?_)
 refine ae ?_
 refine YG.block (YG.loop (fun a:Nat×Int=>(some a.1,[(0,.yl 1),(1,.ptr 0 0 0),(3,U a.2)],hp0 [[U s]]))
  (fun a=>a.1<=(jb s).length/\a.1<=65/\(jb s).drop a.1=gV (66-a.1) a.2/\(a.1=0\/(Uk a.2/\(bitL a.2).length+a.1<=65)))
  (fun a=>66-a.1) (0,s) rfl (Ent.ren [0,1] [0,1,3] rfl rfl rfl) ⟨Nat.zero_le _,Nat.zero_le _,rfl,.inl rfl⟩ ?_)
 rintro⟨i,x⟩ ⟨i1,i2,i3,i4⟩
 dsimp only at i1 i2 i3 i4 ⊢
 refine YG.seq (YG.seg hE 2 ?_)
 repeat (first|refine ah ?_|refine sat_nd ?_)
 refine ax (fun h1=>ae ?_) (fun h1=>ae ?_)
 ·have h0:x≠0:=by simpa using h1
  have hi:i<=64:=by
   rcases i4 with h|⟨hu,h⟩
   ·omega
   ·obtain⟨t,k,ht,e⟩:=IQ hu h0
    rw[mB hu ht e,List.length_cons]at h
    omega
  have hgo:gV (66-i) x=tzf x::gV (66-(i+1)) (eH x):=by
   rw[show 66-i=(66-(i+1))+1 by omega,gV,decide_eq_false h0,cond_false]
  rw[hgo]at i3
  have hlt:i<(jb s).length:=by
   have:=congrArg List.length i3
   simp only[List.length_drop,List.length_cons]at this
   omega
  have hat:(jb s)[i]?=some (tzf x):=by
   have:=congrArg (fun l:List Int=>l[0]?) i3
   simpa using this
  have hdr:(jb s).drop (i+1)=gV (66-(i+1)) (eH x):=by
   have:=congrArg (List.drop 1) i3
   simpa[List.drop_drop,Nat.add_comm]using this
  refine YG.seq (YG.block (YG.seq (YG.yregAt ok 2 3 rfl rfl rfl ?_)))
  repeat (first|(first|refine ah ?_|refine sat_nd ?_)|refine ag (by simp[IJ]) ?_)
  refine ae ?_
  refine⟨i,[I (tzf x)],[0,1,3],rfl,by simp[hat],rfl,rfl,rfl,rfl,fun b=>?_⟩
  cases b with
  |true=>
   refine ae ?_
   refine YG.seg hE 2 ?_
   refine ae ?_
   refine YG.seg hE 2 ?_
   repeat (first|refine ah ?_|refine sat_nd ?_)
   refine ae ⟨(i+1,eH x),?_,?_,rfl,Ent.ren [0,1] [0,1,3] rfl rfl rfl⟩
   ·dsimp only
    refine⟨hlt,by omega,hdr,.inr ⟨uB x,?_⟩⟩
    rcases i4 with h|⟨hu,h⟩
    ·have:=lB (eH x);omega
    ·obtain⟨t,k,ht,e⟩:=IQ hu h0
     rw[mB hu ht e,List.length_cons]at h
     omega
   ·dsimp only;omega
  |false=>
   refine ae ?_
   refine YG.seg hE 2 ?_
   exact ae ⟨.inr rfl,.inr rfl⟩
 ·have h0:x=0:=by simpa using h1
  rw[h0]at i3
  have hlen:i=(jb s).length:=by
   have:gV (66-i) 0=[]:=by rw[show 66-i=(65-i)+1 by omega];rfl
   rw[this]at i3
   have:=congrArg List.length i3
   simp only[List.length_drop,List.length_nil]at this
   omega
  exact⟨.inl rfl,.inl (by simp[<-hlen])⟩
end
section
variable{kCa kDb:Bool}
def ef:Int->Int->List (List Int)×Int->Option (List (List Int)×Int ⊕ List (List Int) ⊕ List (List Int) ⊕ List (List Int) ⊕ List (List Int)):=fun(at_ e4:Int) (s25:List (List Int)×Int)=>let x39:=(s25.1.length+1)*24;bif decide (s25.2<=5)then bp (decide (x39<=140737488355328)) (some (Sum.inl (s25.1++List.take 1 (List.drop 0 [iL [at_,e4,s25.2]]),i8.wrap (s25.2+1))))else some (Sum.inr (Sum.inl s25.1))
def pK:Sgt->Int->(Int->Int->List (List Int)×Int->Option (List (List Int)×Int ⊕ List (List Int) ⊕ List (List Int) ⊕ List (List Int) ⊕ List (List Int)))->Int->List (List Int)->Option (List (List Int) ⊕ List (List Int) ⊕ List (List Int)):=fun(s:Sgt) (at_:Int) (ef:Int->Int->List (List Int)×Int->Option (List (List Int)×Int ⊕ List (List Int) ⊕ List (List Int) ⊕ List (List Int) ⊕ List (List Int)))=>let x42:=Sgt.mk (Psn.mk s.p.f s.p.r (List.take s.p.zs.length (List.drop 0 s.p.zs)) s.p.bl s.p.ca s.p.pa s.p.ha s.p.fu) s.own s.all;let x43:=(wZ (s.p.zs.getD at_.toNat 0)).getD 0;let x41:=!decide (x43=1);fun(e4:Int) (s20:List (List Int))=>let x46:=(s20.length+1)*24;bp (decide (0<=at_)&&decide (at_<Int.ofNat s.p.zs.length)) (cn (wZ (s.p.zs.getD at_.toNat 0)) Inhabited.default fun(_y21:Int)=>bp (!!x41||(AF x42 e4).isSome) (bif x41||!(AF x42 e4).getD false then bp (decide (x46<=140737488355328)) (some (Sum.inl (s20++List.take 1 (List.drop 0 [iL [at_,e4,0]]))))else dg (ef at_ e4) (fun(s33:List (List Int))=>some (Sum.inl s33)) 1000000 (s20,2)))
def zo(s:Sgt)(at_:Int):Option (List (List Int)):=let x50:=band Go.BinOp.and u64 (s.own.fdiv (2^Min.min at_.toNat u64.bits)) 1;bp (decide (0<=at_)) (bif decide (x50=0)then some []else cn (dD (Sgt.mk (Psn.mk s.p.f s.p.r (List.take s.p.zs.length (List.drop 0 s.p.zs)) s.p.bl s.p.ca s.p.pa s.p.ha s.p.fu) s.own s.all) at_) 0 fun(y3:Int)=>cI (pK s at_ ef) (fun(s20:List (List Int))=>some s20) (fun(_s20:List (List Int))=>none) (jb y3) [])
def vP(R:List (List Int)):V:=.sl 1 0 R.length none
def vi(R:List (List Int)):List O:=[.rows true [.i64,.i64,.i8] R]
def qG:CF
 |[.agg [.int .i64 s_0,.int .i64 s_1,.sl 0 0 s_2n none,.bool s_3,.int .u8 s_4,.int .i64 s_5,.int .i64 s_6,.int .i64 s_7,.int .u64 s_8,.int .u64 s_9],.int .i64 at__0],[.ints false .i8 s_2]=>retC (decide (s_2n=s_2.length)) (zo ⟨⟨s_0,s_1,s_2,s_3,s_4,s_5,s_6,s_7⟩,s_8,s_9⟩ at__0) [] vP vi
 |_,_=>none
theorem Cu(s:Sgt)(at_:Int){r}(hr:zo s at_=some r):aG (GGx kCa true) PP 103 [.agg [.int .i64 s.p.f,.int .i64 s.p.r,.sl 0 0 s.p.zs.length none,Bb s.p.bl,.int .u8 s.p.ca,.int .i64 s.p.pa,.int .i64 s.p.ha,.int .i64 s.p.fu,.int .u64 s.own,.int .u64 s.all],.int .i64 at_] [.ints false .i8 s.p.zs] (vP r) (vi r):=by
 have hE:=cutE (aC (kCa:=kCa) (kDb:=true) (cts:=[(151,rC),(150,kq),(152,wD)]) (inl:=[(51,Tryz.f51)]) ⟨oE,qb,Ao,trivial⟩ ⟨⟨Tryz.func51,by kernel_rfl⟩,trivial⟩)
 refine dA hE 2 Tryz.func103 rfl rfl vP vi hr ?_ rfl rfl
 refine bZ ?_
 refine aI hE 2 rfl ?_ ?_
 ·exact aQ (nD 4 (.rows true [.i64,.i64,.i8] []) rfl rfl rfl<|aN [3] (.inr rfl) rfl rfl rfl rfl rfl)
 refine aR (pl (decide_eq_true (aS rfl)) id) ?_
 refine qC hE 2 5 (fun(s20:List (List Int))=>[O.ints false i8 s.p.zs,O.cells true [I s.p.f,I s.p.r,V.sl 0 0 s.p.zs.length none,Bb s.p.bl,V.int u8 s.p.ca,I s.p.pa,I s.p.ha,I s.p.fu,U s.own,U s.all],O.cells true [I at_],O.cells true [V.sl 5 0 s20.length none],O.cells true [U ((dD (Sgt.mk (Psn.mk s.p.f s.p.r (List.take s.p.zs.length (List.drop 0 s.p.zs)) s.p.bl s.p.ca s.p.pa s.p.ha s.p.fu) s.own s.all) at_).getD 0)],O.rows true [i64,i64,i8] s20]) (fun(s20:List (List Int))=>[O.ints false i8 s.p.zs,O.cells true [I s.p.f,I s.p.r,V.sl 0 0 s.p.zs.length none,Bb s.p.bl,V.int u8 s.p.ca,I s.p.pa,I s.p.ha,I s.p.fu,U s.own,U s.all],O.cells true [I at_],O.cells true [V.sl 5 0 s20.length none],O.cells true [U ((dD (Sgt.mk (Psn.mk s.p.f s.p.r (List.take s.p.zs.length (List.drop 0 s.p.zs)) s.p.bl s.p.ca s.p.pa s.p.ha s.p.fu) s.own s.all) at_).getD 0)],O.rows true [i64,i64,i8] s20]) 0 (jb ((dD (Sgt.mk (Psn.mk s.p.f s.p.r (List.take s.p.zs.length (List.drop 0 s.p.zs)) s.p.bl s.p.ca s.p.pa s.p.ha s.p.fu) s.own s.all) at_).getD 0)) (fun(e4:Int)=>[I e4]) (fun(e4:Int) (s20:List (List Int))=>(6,I e4)::putPs (#[18]:Array Nat).toList [I e4] [(2,V.ptr 1 0 0),(3,V.ptr 2 0 0),(4,V.nils),(5,V.ptr 3 0 0),(17,V.fn 95 [V.ptr 4 0 0])]) [4] [2,3,4,5,17] ((Ent.rn [0,1,2,3,4] [2,3,4,5,17] rfl rfl rfl rfl rfl).trans ((Ent.phC 3 0 (O.rows true [i64,i64,i8] []) rfl rfl rfl rfl rfl).trans (Ent.rn [0,1,2,3,4,5] [2,3,4,5,17] rfl rfl rfl rfl rfl))) (rJ _) (fun _=>rfl) (ent Tryz.func95 (by kernel_rfl) rfl) rfl rfl rfl rfl rfl rfl (fun _=>rfl) (fun _=>rfl) (fun _ _=>rfl) (fun e4 s20=>?_) (fun s20=>?_) (fun s20=>jX)
 ·refine bZ ?_
  refine aR (pl rfl id) ?_
  refine aj (Bool.not_or_self _) ?_
  refine aj (Bool.not_or_self _) ?_
  refine dJ (pi (pl (decide_eq_true (aS rfl)) id)) ?_
  refine aj (Bool.not_or_self _) ?_
  refine aj (Bool.or_not_self _) ?_
  refine aI hE 2 rfl ?_ ?_
  ·refine dJ (pr (pl (decide_eq_true rfl) id) rfl) ?_
   exact lF ((Ent.rn [0,1,2,3,4,7] [] rfl rfl rfl rfl rfl))
  refine eJ hE 2 (fun(s25:List (List Int)×Int)=>([(3,V.ptr 2 0 0),(5,V.ptr 3 0 0),(6,I e4),(7,V.int i8 s25.2)],[O.ints false i8 s.p.zs,O.cells true [I s.p.f,I s.p.r,V.sl 0 0 s.p.zs.length none,Bb s.p.bl,V.int u8 s.p.ca,I s.p.pa,I s.p.ha,I s.p.fu,U s.own,U s.all],O.cells true [I at_],O.cells true [V.sl 5 0 s25.1.length none],O.cells true [U ((dD (Sgt.mk (Psn.mk s.p.f s.p.r (List.take s.p.zs.length (List.drop 0 s.p.zs)) s.p.bl s.p.ca s.p.pa s.p.ha s.p.fu) s.own s.all) at_).getD 0)],O.rows true [i64,i64,i8] s25.1])) (fun(s33:List (List Int))=>([],[O.ints false i8 s.p.zs,O.cells true [I s.p.f,I s.p.r,V.sl 0 0 s.p.zs.length none,Bb s.p.bl,V.int u8 s.p.ca,I s.p.pa,I s.p.ha,I s.p.fu,U s.own,U s.all],O.cells true [I at_],O.cells true [V.sl 5 0 s33.length none],O.cells true [U ((dD (Sgt.mk (Psn.mk s.p.f s.p.r (List.take s.p.zs.length (List.drop 0 s.p.zs)) s.p.bl s.p.ca s.p.pa s.p.ha s.p.fu) s.own s.all) at_).getD 0)],O.rows true [i64,i64,i8] s33])) (.exit 2) ((Ent.rn [0,1,2,3,4,5] [3,5,6,7] rfl rfl rfl rfl rfl)) (fun s25=>?_) (fun s33=>?_)
  ·refine aI hE 2 rfl ?_ ?_
   ·refine dJ (pr (pl (decide_eq_true rfl) id) rfl) ?_
    exact eo ((Ent.rn [0,1,2,3,4,7] [3,5,6,7] rfl rfl rfl rfl rfl))
   exact dV ((Ent.rn [0,1,2,3,4,5] [] rfl rfl rfl rfl rfl))
  exact lF ((Ent.rn [0,1,2,3,4,5] [] rfl rfl rfl rfl rfl))
 exact aQ (aN [5] (.inr rfl) rfl rfl rfl rfl rfl)
theorem oC:CtOk (GGx kCa true) PP (103,qG):=by
 refine aD Tryz.func103 (by kernel_rfl) rfl fun a0 h0 c0 v0 N0 e hc=>?_
 unfold qG at e
 split at e
 ·rename_i s_0 s_1 s_2n s_3 s_4 s_5 s_6 s_7 s_8 s_9 at__0 s_2
  obtain⟨hl,r,hr,rfl,rfl⟩:=bS e hc
  simp only[decide_eq_true_eq]at hl
  obtain rfl:=hl
  exact Cu ⟨⟨s_0,s_1,s_2,s_3,s_4,s_5,s_6,s_7⟩,s_8,s_9⟩ at__0 hr
 ·cases e
def mA:Psn->Sgt->Int->List (List Int)->Option (List (List Int) ⊕ List (List Int) ⊕ List (List Int)×Int):=fun(p:Psn) (y2:Sgt)=>let x13:=(List.take y2.p.zs.length (List.drop 0 p.zs)).length;fun(e3:Int) (s7:List (List Int))=>bp (decide (y2.p.zs.length=x13)) (cn (zo (Sgt.mk (Psn.mk y2.p.f y2.p.r (List.take y2.p.zs.length (List.drop 0 p.zs)) y2.p.bl y2.p.ca y2.p.pa y2.p.ha y2.p.fu) y2.own y2.all) e3) [] fun(y8:List (List Int))=>let x17:=(s7.length+y8.length)*24;bp (decide (x17<=140737488355328)&&!Nat.beq 4 (1-hlen ([]++[O.ints false i8 (List.take y2.p.zs.length (List.drop 0 p.zs))])+4+1)) (some (Sum.inl (s7++List.take y8.length (List.drop 0 y8)))))
def kM(p:Psn):Option (List (List Int)×Int):=let x21:=List.take p.zs.length (List.drop 0 p.zs);let x19:=Psn.mk p.f p.r x21 p.bl p.ca p.pa p.ha p.fu;let x20:=x21.length;bp (decide (x20<=64)) (bif !x19.ok then some ([],2)else cn (qj x19) (Sgt.mk (Psn.mk 0 0 [] false 0 0 0 0) 0 0) fun(y2:Sgt)=>cI (mA p y2) (fun(s7:List (List Int))=>some (s7,0)) (fun(_s7:List (List Int))=>none) (jb y2.own) [])
def rL(R:List (List Int)×Int):V:=.tup [.sl 1 0 R.1.length none,.int .i64 R.2]
def qF(R:List (List Int)×Int):List O:=[.rows true [.i64,.i64,.i8] R.1]
def rU:CF
 |[.agg [.int .i64 p_0,.int .i64 p_1,.sl 0 0 p_2n none,.bool p_3,.int .u8 p_4,.int .i64 p_5,.int .i64 p_6,.int .i64 p_7]],[.ints false .i8 p_2]=>retC (decide (p_2n=p_2.length)) (kM ⟨p_0,p_1,p_2,p_3,p_4,p_5,p_6,p_7⟩) ([],0) rL qF
 |_,_=>none
theorem zL(p:Psn){r}(hr:kM p=some r):aG (GGx kCa true) PP 62 [.agg [.int .i64 p.f,.int .i64 p.r,.sl 0 0 p.zs.length none,Bb p.bl,.int .u8 p.ca,.int .i64 p.pa,.int .i64 p.ha,.int .i64 p.fu]] [.ints false .i8 p.zs] (rL r) (qF r):=by
 have hE:=cutE (aC (kCa:=kCa) (kDb:=true) (cts:=[(33,dF),(102,qL),(103,qG)]) (inl:=[(51,Tryz.f51)]) ⟨cm,pE,oC,trivial⟩ ⟨⟨Tryz.func51,by kernel_rfl⟩,trivial⟩)
 refine dA hE 2 Tryz.func62 rfl rfl rL qF hr ?_ rfl rfl
 refine dJ (pl (decide_eq_true (aS rfl)) id) ?_
 refine aI hE 2 rfl ?_ ?_
 ·exact aQ (nD 2 (.rows true [.i64,.i64,.i8] []) rfl rfl rfl<|aN [2] (.inr rfl) rfl rfl rfl rfl rfl)
 refine aR (pl (decide_eq_true (aS rfl)) id) ?_
 refine qC hE 2 4 (let x27:=(qj (Psn.mk p.f p.r (List.take p.zs.length (List.drop 0 p.zs)) p.bl p.ca p.pa p.ha p.fu)).getD (Sgt.mk (Psn.mk 0 0 [] false 0 0 0 0) 0 0);let x25:=x27.own;let x26:=x27.p;fun(s7:List (List Int))=>[O.ints false i8 p.zs,O.cells true [I x26.f,I x26.r,V.sl 0 0 x26.zs.length none,Bb x26.bl,V.int u8 x26.ca,I x26.pa,I x26.ha,I x26.fu,U x25,U x27.all],O.cells true [V.sl 4 0 s7.length none],O.cells true [U x25],O.rows true [i64,i64,i8] s7]) (let x31:=(qj (Psn.mk p.f p.r (List.take p.zs.length (List.drop 0 p.zs)) p.bl p.ca p.pa p.ha p.fu)).getD (Sgt.mk (Psn.mk 0 0 [] false 0 0 0 0) 0 0);let x29:=x31.own;let x30:=x31.p;fun(s7:List (List Int))=>[O.ints false i8 p.zs,O.cells true [I x30.f,I x30.r,V.sl 0 0 x30.zs.length none,Bb x30.bl,V.int u8 x30.ca,I x30.pa,I x30.ha,I x30.fu,U x29,U x31.all],O.cells true [V.sl 4 0 s7.length none],O.cells true [U x29],O.rows true [i64,i64,i8] s7]) 0 (jb ((qj (Psn.mk p.f p.r (List.take p.zs.length (List.drop 0 p.zs)) p.bl p.ca p.pa p.ha p.fu)).getD (Sgt.mk (Psn.mk 0 0 [] false 0 0 0 0) 0 0)).own) (fun(e3:Int)=>[I e3]) (fun(e3:Int) (s7:List (List Int))=>(6,I e3)::putPs (#[15]:Array Nat).toList [I e3] [(2,V.nils),(3,I 0),(4,V.ptr 1 0 0),(5,V.ptr 2 0 0),(14,V.fn 95 [V.ptr 3 0 0])]) [3] [2,3,4,5,14] ((Ent.rn [0,2,3,4] [2,3,4,5,14] rfl rfl rfl rfl rfl).trans ((Ent.phC 2 0 (O.rows true [i64,i64,i8] []) rfl rfl rfl rfl rfl).trans (Ent.rn [0,1,2,3,4] [2,3,4,5,14] rfl rfl rfl rfl rfl))) (rJ _) (fun _=>rfl) (ent Tryz.func95 (by kernel_rfl) rfl) rfl rfl rfl rfl rfl rfl (fun _=>rfl) (fun _=>rfl) (fun _ _=>rfl) (fun e3 s7=>?_) (fun s7=>?_) (fun s7=>jX)
 ·refine aj rfl ?_
  refine BE id ?_
  refine dJ (pb (pl (decide_eq_true rfl) id) id) ?_
  exact lF ((Ent.rn [0,1,2,3,6] [] rfl rfl rfl rfl rfl))
 exact aQ (aN [4] (.inr rfl) rfl rfl rfl rfl rfl)
theorem wg:CtOk (GGx kCa true) PP (62,rU):=by
 refine aD Tryz.func62 (by kernel_rfl) rfl fun a0 h0 c0 v0 N0 e hc=>?_
 unfold rU at e
 split at e
 ·rename_i p_0 p_1 p_2n p_3 p_4 p_5 p_6 p_7 p_2
  obtain⟨hl,r,hr,rfl,rfl⟩:=bS e hc
  simp only[decide_eq_true_eq]at hl
  obtain rfl:=hl
  exact zL ⟨p_0,p_1,p_2,p_3,p_4,p_5,p_6,p_7⟩ hr
 ·cases e
def th(p:Psn)(at_:Int):Option (List (List Int)×Int):=let x7:=List.take p.zs.length (List.drop 0 p.zs);let x5:=Psn.mk p.f p.r x7 p.bl p.ca p.pa p.ha p.fu;let x6:=x7.length;bp (decide (x6<=64)) (bif !x5.ok||!ak p.f p.r at_ then some ([],2)else cn (qj x5) (Sgt.mk (Psn.mk 0 0 [] false 0 0 0 0) 0 0) fun(y3:Sgt)=>let x10:=List.take y3.p.zs.length (List.drop 0 p.zs);let x9:=x10.length;bp (decide (y3.p.zs.length=x9)) (cn (zo (Sgt.mk (Psn.mk y3.p.f y3.p.r x10 y3.p.bl y3.p.ca y3.p.pa y3.p.ha y3.p.fu) y3.own y3.all) at_) [] fun(y4:List (List Int))=>some (y4,0)))
def wE(R:List (List Int)×Int):V:=.tup [.sl 1 0 R.1.length none,.int .i64 R.2]
def uV(R:List (List Int)×Int):List O:=[.rows true [.i64,.i64,.i8] R.1]
def rF:CF
 |[.agg [.int .i64 p_0,.int .i64 p_1,.sl 0 0 p_2n none,.bool p_3,.int .u8 p_4,.int .i64 p_5,.int .i64 p_6,.int .i64 p_7],.int .i64 at__0],[.ints false .i8 p_2]=>retC (decide (p_2n=p_2.length)) (th ⟨p_0,p_1,p_2,p_3,p_4,p_5,p_6,p_7⟩ at__0) ([],0) wE uV
 |_,_=>none
theorem Bh(p:Psn)(at_:Int){r}(hr:th p at_=some r):aG (GGx kCa true) PP 57 [.agg [.int .i64 p.f,.int .i64 p.r,.sl 0 0 p.zs.length none,Bb p.bl,.int .u8 p.ca,.int .i64 p.pa,.int .i64 p.ha,.int .i64 p.fu],.int .i64 at_] [.ints false .i8 p.zs] (wE r) (uV r):=by
 have hE:=cutE (aC (kCa:=kCa) (kDb:=true) (cts:=[(33,dF),(102,qL),(103,qG),(101,eL)]) (inl:=[]) ⟨cm,pE,oC,cz,trivial⟩ trivial)
 refine dA hE 2 Tryz.func57 rfl rfl wE uV hr ?_ rfl rfl
 refine dJ (pl (decide_eq_true (aS rfl)) id) ?_
 refine aj (Bool.not_or_self _) ?_
 refine aj (Bool.not_or_self _) ?_
 refine aj (Bool.not_or_self _) ?_
 refine aj (pg rfl) ?_
 refine aj (Bool.not_or_self _) ?_
 refine aj (Bool.or_not_self _) ?_
 refine aI hE 2 rfl ?_ ?_
 ·exact aQ (nD 4 (.rows true [.i64,.i64,.i8] []) rfl rfl rfl<|aN [2] (.inr rfl) rfl rfl rfl rfl rfl)
 refine aR (pl (decide_eq_true (aS rfl)) id) ?_
 refine BE id ?_
 exact aQ (aN [2] (.inr rfl) rfl rfl rfl rfl rfl)
theorem pD:CtOk (GGx kCa true) PP (57,rF):=by
 refine aD Tryz.func57 (by kernel_rfl) rfl fun a0 h0 c0 v0 N0 e hc=>?_
 unfold rF at e
 split at e
 ·rename_i p_0 p_1 p_2n p_3 p_4 p_5 p_6 p_7 at__0 p_2
  obtain⟨hl,r,hr,rfl,rfl⟩:=bS e hc
  simp only[decide_eq_true_eq]at hl
  obtain rfl:=hl
  exact Bh ⟨p_0,p_1,p_2,p_3,p_4,p_5,p_6,p_7⟩ at__0 hr
 ·cases e
end
end Go.Ab
namespace Go.Ab
open Go.Proofs
section
structure PsH(p:Psn):Prop where
 h:aO p.f p.r p.zs=true
 hl:p.zs.length<=64
 ok:p.ok=true
 ca:0<=p.ca
theorem psh{p:Psn}(hl:p.zs.length<=64)(hca:0<=p.ca)(hok:p.ok=true):PsH p:=by
 refine⟨?_,hl,hok,hca⟩
 have hk:=hok
 simp only[Psn.ok,eC,Bool.and_eq_true,decide_eq_true_eq]at hk
 cases h:aO p.f p.r p.zs with
 |true=>rfl
 |false=>have:=hk.1.1.1.1.2.1.1;unfold bE at this;rw[h]at this;cases this
section
variable{p:Psn}
theorem PsH.bd(o:PsH p):aH p.f p.r p.zs=true:=(bj o.h).2.2.1
theorem PsH.cast(o:PsH p):ee p.f p.r p.zs p.ca=true:=by have:=o.ok;simp only[Psn.ok,Bool.and_eq_true]at this;exact this.1.1.2
theorem PsH.pass(o:PsH p):ia p.f p.r p.zs p.bl p.pa p.ha=true:=by have:=o.ok;simp only[Psn.ok,Bool.and_eq_true]at this;exact this.1.2
end
def canM(p:Psn)(a b pr:Int):Bool:=mvB p.f p.r a b pr&&isP (p.zs.getD a.toNat 0) p.bl&&!err3 p ⟨a,b,pr⟩
def prs:List Int:=[0,2,3,4,5]
def qd(p:Psn)(a b:Int):List (List Int):=(prs.filter (canM p a b)).map fun pr=>[a,b,pr]
def psL(p:Psn)(a:Int):List (List Int):=((List.range p.zs.length).map Int.ofNat).flatMap (qd p a)
def ownS(p:Psn):Int:=bif p.bl then eS negP p.zs else eS posP p.zs
theorem yB{p:Psn}(hl:p.zs.length<=64):Uk (ownS p)/\∀ m:Nat,bt (ownS p) m=(decide (m<p.zs.length)&&isP (p.zs.getD m 0) p.bl):=by
 obtain⟨h1,h2⟩:=lM posP hl
 obtain⟨h3,h4⟩:=lM negP hl
 unfold ownS
 cases hb:p.bl with
 |true=>exact⟨h3,fun m=>by rw[cond_true,h4];unfold negP isP;simp⟩
 |false=>exact⟨h1,fun m=>by rw[cond_false,h2];unfold posP isP;simp⟩
theorem tS(p:Psn)(w x:Int):(⟨⟨p.f,p.r,p.zs,p.bl,p.ca,p.pa,p.ha,p.fu⟩,w,x⟩:Sgt)=⟨p,w,x⟩:=rfl
theorem look_eq{p:Psn}(hl:p.zs.length<=64)(hbd:aH p.f p.r p.zs=true):qj p=some ⟨p,ownS p,occR p.f p.r p.zs⟩:=by
 have h1:decide (p.zs.length<=1000000)=true:=by simp;omega
 have h2:(eA p.f p.r p.zs).1=eS posP p.zs/\(eA p.f p.r p.zs).2.1=eS negP p.zs:=by unfold eA;rw[hbd];exact⟨rfl,rfl⟩
 unfold qj ownS occR
 simp only[List.drop_zero,List.take_length,h1,h2.1,h2.2,aV,tS]
 cases p.bl<;>rfl
def swS(prev:Int)(skip free:Bool)(y:Int):Int:=bif skip then prev else bif free then y else prev
theorem Ia{α:Type}{prev y:Int}{skip free:Bool}{F:Int->Option α}:dN (bif skip then some (.inl prev)else dN (bif free then some (.inl y)else some (.inl prev)) fun s=>some (.inl s)) F=F (swS prev skip free y):=by
 cases skip<;>cases free<;>rfl
def sw1(p:Psn)(a:Int):Int:=swS 0 (decide (bQ p.ca 1=0)||!p.bl==false||!decide (a=4)) (decide (uand (bF p.f p.r 4 7).1 (occR p.f p.r p.zs)=0)) (uor 0 (ushl 1 6))
def sw2(p:Psn)(a:Int):Int:=swS (sw1 p a) (decide (bQ p.ca 2=0)||!p.bl==false||!decide (a=4)) (decide (uand (bF p.f p.r 4 0).1 (occR p.f p.r p.zs)=0)) (uor (sw1 p a) (ushl 1 2))
def sw3(p:Psn)(a:Int):Int:=swS (sw2 p a) (decide (bQ p.ca 4=0)||!p.bl==true||!decide (a=60)) (decide (uand (bF p.f p.r 60 63).1 (occR p.f p.r p.zs)=0)) (uor (sw2 p a) (ushl 1 62))
def sw4(p:Psn)(a:Int):Int:=swS (sw3 p a) (decide (bQ p.ca 8=0)||!p.bl==true||!decide (a=60)) (decide (uand (bF p.f p.r 60 56).1 (occR p.f p.r p.zs)=0)) (uor (sw3 p a) (ushl 1 58))
theorem Jb{p:Psn}{w a:Int}:BR ⟨p,w,occR p.f p.r p.zs⟩ a=some (sw4 p a):=by
 unfold BR
 simp only[Ia]
 rfl
theorem rQ{x prev g:Int}{skip free:Bool}(hp:Uk prev)(hg0:0<=g)(hg:g<64)(hx:x=swS prev skip free (uor prev (ushl 1 g))):Uk x/\∀ n:Nat,bt x n=(bt prev n||(!skip&&free&&decide (g=n))):=by
 subst hx
 unfold swS
 cases skip with
 |true=>exact⟨hp,fun n=>by simp⟩
 |false=>
  cases free with
  |true=>exact⟨fY _ _,fun n=>by rw[cond_false,cond_true,eO hp (hO _ _),hH hg0 hg];rfl⟩
  |false=>exact⟨hp,fun n=>by simp⟩
theorem GI{p:Psn}{a:Int}:Uk (sw4 p a)/\∀ n:Nat,bt (sw4 p a) n=((!(decide (bQ p.ca 1=0)||!p.bl==false||!decide (a=4))&&decide (uand (bF p.f p.r 4 7).1 (occR p.f p.r p.zs)=0)&&decide ((6:Int)=n)) ||
  (!(decide (bQ p.ca 2=0)||!p.bl==false||!decide (a=4))&&decide (uand (bF p.f p.r 4 0).1 (occR p.f p.r p.zs)=0)&&decide ((2:Int)=n)) ||
  (!(decide (bQ p.ca 4=0)||!p.bl==true||!decide (a=60))&&decide (uand (bF p.f p.r 60 63).1 (occR p.f p.r p.zs)=0)&&decide ((62:Int)=n)) ||
  (!(decide (bQ p.ca 8=0)||!p.bl==true||!decide (a=60))&&decide (uand (bF p.f p.r 60 56).1 (occR p.f p.r p.zs)=0)&&decide ((58:Int)=n))):=by
 obtain⟨u1,b1⟩:=rQ (x:=sw1 p a) (g:=6) uk_0 (by decide) (by decide) rfl
 obtain⟨u2,b2⟩:=rQ (x:=sw2 p a) (g:=2) u1 (by decide) (by decide) rfl
 obtain⟨u3,b3⟩:=rQ (x:=sw3 p a) (g:=62) u2 (by decide) (by decide) rfl
 obtain⟨u4,b4⟩:=rQ (x:=sw4 p a) (g:=58) u3 (by decide) (by decide) rfl
 exact⟨u4,fun n=>by rw[b4,b3,b2,b1,bt_0,Bool.false_or]⟩
theorem KZ{p:Psn}{a b:Int}(hk:absP (p.zs.getD a.toNat 0)=6)(hb:0<=b):bt (sw4 p a) b.toNat=wayB p.f p.r p.zs (wayN p.zs p.bl p.ca a b):=by
 have hs:∀ {c:Bool} {bit k to:Int},(!(decide (bQ p.ca bit=0)||!p.bl==c||!decide (a=k))&&decide (to=((b.toNat:Nat):Int)))=!aW p.bl p.ca a b c bit k to:=by
  intro c bit k to
  rw[Bool.eq_iff_iff,cC,show ((b.toNat:Nat):Int)=b by omega]
  simp only[Bool.and_eq_true,Bool.not_eq_true',Bool.or_eq_false_iff,decide_eq_false_iff_not,Bool.not_eq_false',decide_eq_true_eq]
  constructor
  ·rintro⟨⟨⟨h1,h2⟩,h3⟩,h4⟩
   exact⟨(by cases c<;>cases hb:p.bl<;>rw[hb]at h2<;>first|rfl|cases h2),h1,h3.symm,h4⟩
  ·rintro⟨h1,h2,h3,h4⟩
   exact⟨⟨⟨h2,by rw[h1];cases p.bl<;>rfl⟩,h3.symm⟩,h4⟩
 have re:∀ x y z:Bool,(x&&y&&z)=((x&&z)&&y):=by decide
 rw[GI.2,re,re (!(decide (bQ p.ca 2=0)||_||_)),re (!(decide (bQ p.ca 4=0)||_||_)),re (!(decide (bQ p.ca 8=0)||_||_)),hs,hs,hs,hs]
 unfold wayN
 rw[hk]
 have w0:wayB p.f p.r p.zs 0=decide (uand (bF p.f p.r 4 7).1 (occR p.f p.r p.zs)=0):=rfl
 have w1:wayB p.f p.r p.zs 1=decide (uand (bF p.f p.r 4 0).1 (occR p.f p.r p.zs)=0):=rfl
 have w2:wayB p.f p.r p.zs 2=decide (uand (bF p.f p.r 60 63).1 (occR p.f p.r p.zs)=0):=rfl
 have w3:wayB p.f p.r p.zs 3=decide (uand (bF p.f p.r 60 56).1 (occR p.f p.r p.zs)=0):=rfl
 have w4:wayB p.f p.r p.zs 4=false:=rfl
 have one:∀ {c c':Bool} {bit bit' k k' to to':Int},(!aW p.bl p.ca a b c bit k to)=true->(c≠c'\/to≠to')->(!aW p.bl p.ca a b c' bit' k' to')=false:=by
  intro c c' bit bit' k k' to to' h1 h2
  rw[Bool.eq_false_iff]
  intro h3
  obtain⟨e1,_,_,e4⟩:=cC.1 h1
  obtain⟨f1,_,_,f4⟩:=cC.1 h3
  rcases h2 with h|h
  ·exact h (e1.trans f1.symm)
  ·exact h (e4.trans f4.symm)
 cases n1:(!aW p.bl p.ca a b false 1 4 6) with
 |true=>
  rw[one n1 (.inr (by decide)),one n1 (.inl (by decide)),one n1 (.inl (by decide))]
  simp only[Bool.true_and,Bool.false_and,Bool.or_false,decide_true,Bool.not_true,cond_true,cond_false,w0]
 |false=>
  cases n2:(!aW p.bl p.ca a b false 2 4 2) with
  |true=>
   rw[one n2 (.inl (by decide)),one n2 (.inl (by decide))]
   simp only[Bool.true_and,Bool.false_and,Bool.or_false,Bool.false_or,decide_true,Bool.not_true,cond_true,cond_false,w1]
  |false=>
   cases n3:(!aW p.bl p.ca a b true 4 60 62) with
   |true=>
    rw[one n3 (.inr (by decide))]
    simp only[Bool.true_and,Bool.false_and,Bool.or_false,Bool.false_or,decide_true,Bool.not_true,cond_true,cond_false,w2]
   |false=>
    cases n4:(!aW p.bl p.ca a b true 8 60 58) with
    |true=>simp only[Bool.true_and,Bool.false_and,Bool.false_or,decide_true,Bool.not_true,cond_true,cond_false,w3]
    |false=>simp only[Bool.false_and,Bool.or_self,decide_true,Bool.not_true,cond_false,w4]
def tgR(p:Psn)(a:Int):Int:=
 bif decide (absP (p.zs.getD a.toNat 0)=1)then uor (cH p.f p.r p.bl a (occR p.f p.r p.zs)).1 (uand (fN p.f p.r p.bl a).1 (bif decide (0<=p.pa)then uor (cr (occR p.f p.r p.zs) (ownS p)) (ushl 1 p.pa)else cr (occR p.f p.r p.zs) (ownS p)))
 else cr (bif decide (absP (p.zs.getD a.toNat 0)=6)then uor (bO p.f p.r (absP (p.zs.getD a.toNat 0)) a (occR p.f p.r p.zs)).1 (sw4 p a) else(bO p.f p.r (absP (p.zs.getD a.toNat 0)) a (occR p.f p.r p.zs)).1) (ownS p)
theorem Ly(v:Int):wZ v=some (absP v):=rfl
theorem FX{p:Psn}{a:Int}:spawn ⟨p,ownS p,occR p.f p.r p.zs⟩ a=some (uor (cH p.f p.r p.bl a (occR p.f p.r p.zs)).1 (uand (fN p.f p.r p.bl a).1 (bif decide (0<=p.pa)then uor (cr (occR p.f p.r p.zs) (ownS p)) (ushl 1 p.pa)else cr (occR p.f p.r p.zs) (ownS p)))):=by
 unfold spawn
 cases h:decide (0<=p.pa) with
 |true=>simp only[cond_true,aV,jh]
 |false=>simp only[cond_false,jh]
theorem Mr{p:Psn}{a:Int}(ha:0<=a/\a<p.zs.length):dD ⟨p,ownS p,occR p.f p.r p.zs⟩ a=some (tgR p a):=by
 have h1:(decide (0<=a)&&decide (a<Int.ofNat p.zs.length))=true:=by simp;omega
 unfold dD tgR
 simp only[List.drop_zero,List.take_length,tS,Ly,h1,aV,aJ,Option.getD_some,FX,Jb]
 by_cases h2:absP (p.zs.getD a.toNat 0)=1
 ·simp only[h2,decide_true,cond_true]
 ·by_cases h3:absP (p.zs.getD a.toNat 0)=6
  ·have h6:((6:Int)=1)=False:=by simp
   simp only[h3,h6,decide_false,decide_true,cond_true,cond_false,jh]
  ·simp only[h2,h3,decide_false,cond_false,jh]
end
end Go.Ab
