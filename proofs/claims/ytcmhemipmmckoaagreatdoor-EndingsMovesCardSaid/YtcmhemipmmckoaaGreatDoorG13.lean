/- Contracts of the functions that the laws reach, and plain laws of what they compute (text G13); no condition. -/
import Derived.Test.YtcmhemipmmckoaaGreatDoorG12
import Derived.Test.YtcmhemipmmckoaaGreatDoorG10
import Derived.Test.YtcmhemipmmckoaaGreatDoorG11
import Derived.Test.YtcmhemipmmckoaaGreatDoorG9
import Derived.Test.YtcmhemipmmckoaaGreatDoorG4
import Derived.Test.YtcmhemipmmckoaaGreatDoorG8
import Derived.Test.YtcmhemipmmckoaaGreatDoorG6
set_option maxRecDepth 100000
set_option maxHeartbeats 4000000
namespace Go.Ab
open Go.Proofs
section
variable{kCa kDb:Bool}
end
section
theorem bC(q:Psn):(⟨q.f,q.r,q.zs,q.bl,q.ca,q.pa,q.ha,q.fu⟩:Psn)=q:=rfl
theorem tj(p:Psn):yY p p=true:=by simp[yY,GA]
section
variable{p:Psn}
theorem NH(o:PsH p){m:Mov}(hmv:mvB p.f p.r m.a m.b m.p=true):uis p m=some (canM p m.a m.b m.p):=by
 have hmv':=hmv
 simp only[mvB,Bool.and_eq_true]at hmv'
 obtain⟨⟨⟨ha,hb⟩,_⟩,_⟩:=hmv'
 have hA:=(bN o.bd).1 ha
 have h1:(decide (0<=m.a)&&decide (m.a<Int.ofNat p.zs.length))=true:=by simp;omega
 have h2:decide (p.zs.length<=64)=true:=by simpa using o.hl
 have h3:(!decide (p.zs.getD m.a.toNat 0=0)&&decide (p.zs.getD m.a.toNat 0<0)==p.bl)=isP (p.zs.getD m.a.toNat 0) p.bl:=JD _ _
 unfold uis canM
 simp only[List.drop_zero,List.take_length,h1,h2,h3,o.bd,cast_eq o.ca,o.cast,ha,hb,hmv,Bool.and_self,Bool.or_true,aS]
 cases hi:isP (p.zs.getD m.a.toNat 0) p.bl with
 |false=>rfl
 |true=>rw[OE o.h o.hl o.cast o.ca ha hb hi];rfl
theorem JK{a b pr:Int}(h:mvB p.f p.r a b pr=false):canM p a b pr=false:=by unfold canM;rw[h];rfl
theorem mT(o:PsH p){a i:Int}{s:List (List Int)×Int}{acc:List (List Int)}(h:acc.length<=100000)(h0:0<=i)(h5:i<5) :
  ee p a s (acc,i)=some (.inl (acc++(bif canM p a s.2 (prs.getD i.toNat 0) then[[a,s.2,prs.getD i.toNat 0]] else[]),i+1)):=by
 have h1:decide (i<Int.ofNat 5)=true:=by rw[decide_eq_true_eq];exact h5
 have hw:IntKind.i64.wrap (i+1)=i+1:=ay (by omega) (by omega)
 have hp:(iL [0,2,3,4,5]).getD i.toNat 0=prs.getD i.toNat 0:=rfl
 unfold ee
 simp only[List.drop_zero,List.take_length,bC,h1,decide_eq_true h0,hw,hp,cond_true,aS,Bool.and_self,EX h]
 cases hm:mvB p.f p.r a s.2 (prs.getD i.toNat 0) with
 |false=>
  rw[JK hm]
  simp only[Bool.not_false,Bool.true_or,aS,Bool.false_and,cond_false,fS,List.append_nil]
 |true=>
  have hu:=NH o (m:=⟨a,s.2,prs.getD i.toNat 0⟩) hm
  rw[hu]
  simp only[Option.isSome_some,Bool.or_true,aS,Bool.true_and,Option.getD_some]
  cases canM p a s.2 (prs.getD i.toNat 0) with
  |true=>rfl
  |false=>simp only[cond_false,fS,List.append_nil]
theorem MP{a:Int}{s:List (List Int)×Int}{acc:List (List Int)}:ee p a s (acc,0+1+1+1+1+1)=some (.inr (.inl acc)):=by
 unfold ee
 rfl
theorem zZ{a b pr:Int}:(bif canM p a b pr then[[a,b,pr]] else[]).length<=1:=by cases canM p a b pr<;>simp
theorem Ch{a b:Int}:ke p a b=(bif canM p a b 0 then[[a,b,0]] else[])++((bif canM p a b 2 then[[a,b,2]] else[])++((bif canM p a b 3 then[[a,b,3]] else[])++((bif canM p a b 4 then[[a,b,4]] else[])++(bif canM p a b 5 then[[a,b,5]] else[])))):=by
 unfold ke prs
 simp only[List.filter_cons,List.filter_nil]
 cases canM p a b 0<;>cases canM p a b 2<;>cases canM p a b 3<;>cases canM p a b 4<;>cases canM p a b 5<;>rfl
theorem th{a b:Int}:(ke p a b).length<=5:=by
 unfold ke
 rw[List.length_map]
 exact Nat.le_trans (List.length_filter_le _ _) (by decide)
theorem ME(o:PsH p){a:Int}{s:List (List Int)×Int}{F:List (List Int)->Option (List (List Int)×Int ⊕ List (List Int) ⊕ List (List Int))}{acc:List (List Int)}(h:acc.length<=90000):cV (ee p a s) F 1000000 (acc,0)=F (acc++ke p a s.2):=by
 rw[show (1000000:Nat)=999994+1+1+1+1+1+1 by rfl]
 have c0:=zZ (p:=p) (a:=a) (b:=s.2) (pr:=prs.getD (0:Int).toNat 0)
 have c1:=zZ (p:=p) (a:=a) (b:=s.2) (pr:=prs.getD (0+1:Int).toNat 0)
 have c2:=zZ (p:=p) (a:=a) (b:=s.2) (pr:=prs.getD (0+1+1:Int).toNat 0)
 have c3:=zZ (p:=p) (a:=a) (b:=s.2) (pr:=prs.getD (0+1+1+1:Int).toNat 0)
 rw[bn (mT o (by omega) (by decide) (by decide)),bn (mT o (by simp only[List.length_append];omega) (by decide) (by decide)),bn (mT o (by simp only[List.length_append];omega) (by decide) (by decide)),bn (mT o (by simp only[List.length_append];omega) (by decide) (by decide)),bn (mT o (by simp only[List.length_append];omega) (by decide) (by decide)),cF MP,Ch]
 simp only[List.append_assoc]
 rfl
theorem Mn(o:PsH p){a:Int}{j:Nat}(hj:j<p.zs.length){acc:List (List Int)}(h:acc.length<=90000):jE p a ee (acc,(j:Int))=some (.inl (acc++ke p a j,((j+1:Nat):Int))):=by
 have hl:=o.hl
 have h1:decide ((j:Int)<Int.ofNat p.zs.length)=true:=by simp;omega
 unfold jE
 simp only[h1,cond_true]
 rw[ME o h,show IntKind.i64.wrap ((j:Int)+1)=((j+1:Nat):Int)from ay (by omega) (by omega)]
theorem JC(o:PsH p){a:Int}{F:List (List Int)->Option (List (List Int))}:∀ (k fuel j:Nat) (acc:List (List Int)),j+k=p.zs.length->k<fuel->acc.length+5*k<=90000 ->
  cV (jE p a ee) F fuel (acc,(j:Int))=F (acc++((List.range' j k).map Int.ofNat).flatMap (ke p a))
 |k,0,j,acc,_,h,_=>absurd h (by omega)
 |0,fuel+1,j,acc,h,_,_=>by
  have h1:decide ((j:Int)<Int.ofNat p.zs.length)=false:=by simp;omega
  rw[cF (x:=acc)]
  ·simp
  ·unfold jE;simp only[h1,cond_false]
 |k+1,fuel+1,j,acc,h,hf,hM=>by
  have:=th (p:=p) (a:=a) (b:=(j:Int))
  rw[bn (Mn o (by omega) (by omega)),JC o k fuel (j+1) _ (by omega) (by omega) (by rw[List.length_append];omega),List.range'_succ,List.map_cons,List.flatMap_cons,List.append_assoc]
  rfl
theorem iH{a:Int}(hl:p.zs.length<=64):(psL p a).length<=320:=by
 have key:∀ l:List Int,(l.flatMap (ke p a)).length<=5*l.length:=by
  intro l
  induction l with
  |nil=>simp
  |cons x l ih=>
   have:=th (p:=p) (a:=a) (b:=x)
   rw[List.flatMap_cons,List.length_append,List.length_cons]
   omega
 have:=key ((List.range p.zs.length).map Int.ofNat)
 rw[List.length_map,List.length_range]at this
 unfold psL
 omega
theorem HU(o:PsH p){a:Int}:yo p a=some (psL p a):=by
 have hl:=o.hl
 have:=JC o (a:=a) (F:=fun s=>some s) p.zs.length 1000000 0 [] (by omega) (by omega) (by simp;omega)
 unfold yo psL
 rw[List.range_eq_range']
 exact this.trans (by rw[List.nil_append])
def allL(p:Psn):List (List Int):=((List.range p.zs.length).map Int.ofNat).flatMap (psL p)
theorem KI(o:PsH p){a:Int}(ha:aj p.f p.r a=true){acc:List (List Int)}(h:acc.length<=90000):nr p ⟨p,ownS p,occR p.f p.r p.zs⟩ a acc=some (.inl (acc++psL p a)):=by
 have hp:=iH (p:=p) (a:=a) o.hl
 have h2:decide ((acc.length+(psL p a).length)*24<=140737488355328)=true:=by have:=o.hl;simp;omega
 unfold nr
 simp only[List.drop_zero,List.take_length,uQ,decide_true,aS,yS o ha,aP,h2]
 rfl
theorem Hh(o:PsH p){α:Type}{g:Int->List α}(hg:∀ a:Int,isP (p.zs.getD a.toNat 0) p.bl=false->g a=[]):(bitL (ownS p)).flatMap g=((List.range p.zs.length).map Int.ofNat).flatMap g:=by
 obtain⟨hwu,hwb⟩:=yE o.hl
 unfold bitL
 rw[qe o.hl (fun m _ h=>by rw[hwb,Bool.and_eq_true,decide_eq_true_eq]at h;exact h.1)]
 refine kE fun x hx=>?_
 obtain⟨m,hm,rfl⟩:=List.mem_map.1 hx
 have hm:=List.mem_range.1 hm
 rw[hwb,show (Int.ofNat m).toNat=m from rfl,decide_eq_true hm,Bool.true_and]
 cases h:isP (p.zs.getD m 0) p.bl with
 |true=>rfl
 |false=>exact(hg (Int.ofNat m) h).symm
theorem HC{a:Int}(h:isP (p.zs.getD a.toNat 0) p.bl=false):psL p a=[]:=by
 unfold psL
 rw[List.flatMap_eq_nil_iff]
 exact fun _ _=>tT h
theorem td(o:PsH p):lT p=some (allL p,0):=by
 obtain⟨hwu,hwb⟩:=yE o.hl
 have h1:decide (p.zs.length<=64)=true:=by simpa using o.hl
 have hlen:=mD (ownS p)
 unfold lT
 simp only[List.drop_zero,List.take_length,bC,h1,o.ok,aS,Bool.not_true,cond_false,look_eq o.hl o.bd,aP,zI hwu]
 rw[nZ (rows:=psL p) (M:=90000) (k:=320) (fun x hx acc h=>?_) (fun _ _=>iH o.hl) (by simp;omega),List.nil_append,Hh o (fun _ h=>HC h)]
 ·rfl
 ·obtain⟨b1,b2,b3⟩:=HA hx
  rw[hwb,Bool.and_eq_true,decide_eq_true_eq]at b3
  exact KI o ((bN o.bd).2 ⟨b1,by omega⟩) h
theorem HN(o:PsH p){a:Int}(ha:aj p.f p.r a=true):uY p a=some (psL p a,0):=by
 have h1:decide (p.zs.length<=64)=true:=by simpa using o.hl
 unfold uY
 simp only[List.drop_zero,List.take_length,bC,h1,o.ok,ha,aS,Bool.not_true,Bool.or_self,cond_false,look_eq o.hl o.bd,aP,decide_true,yS o ha]
theorem pI{a:List (List Int)}(h:a.length<=100000):Be a a=some true:=by
 have go:∀ (j fuel i:Nat),i+j=a.length->j<fuel->cV (jr a a) (fun _:Unit=>some true) fuel (i:Int)=some true:=by
  intro j
  induction j with
  |zero=>
   intro fuel i hi hf
   obtain⟨fuel,rfl⟩:∃ k,fuel=k+1:=⟨fuel-1,by omega⟩
   rw[cF (x:=())]
   unfold jr
   have h1:decide ((i:Int)<Int.ofNat a.length)=false:=by simp;omega
   simp only[h1];rfl
  |succ j ih=>
   intro fuel i hi hf
   obtain⟨fuel,rfl⟩:∃ k,fuel=k+1:=⟨fuel-1,by omega⟩
   have h1:decide ((i:Int)<Int.ofNat a.length)=true:=by simp;omega
   have h2:decide ((0:Int)<=i)=true:=by simp
   have:jr a a (i:Int)=some (.inl ((i+1:Nat):Int)):=by
    unfold jr
    simp only[h1,h2,show IntKind.i64.wrap ((i:Int)+1)=((i+1:Nat):Int)from ay (by omega) (by omega),decide_true]
    rfl
   rw[bn this]
   exact ih fuel (i+1) (by omega) (by omega)
 unfold Be
 rw[show (!decide (Int.ofNat a.length=Int.ofNat a.length))=false by simp]
 exact go a.length 1000000 0 (by omega) (by omega)
theorem qT(o:PsH p):(allL p).length<=100000:=by
 have key:∀ l:List Int,(l.flatMap (psL p)).length<=320*l.length:=by
  intro l
  induction l with
  |nil=>simp
  |cons x l ih=>
   have:=iH (p:=p) (a:=x) o.hl
   rw[List.flatMap_cons,List.length_append,List.length_cons]
   omega
 have:=key ((List.range p.zs.length).map Int.ofNat)
 rw[List.length_map,List.length_range]at this
 have:=o.hl
 unfold allL
 omega
end
end
section
theorem mJ{f r:Int}{z:List Int}{bl:Bool}{K:Nat}(h:aV f r z=true)(hl:z.length<=64)(hK:K<z.length)(h1:z.getD K 0=kgP bl)(hu:∀ i:Nat,i<z.length->z.getD i 0=kgP bl->i=K):(bT f r z bl).2=0/\bp z bl=(K:Int):=by
 have hone:iu z (kgP bl)=[(K:Int)]:=sR (by simp only[kR,Int.toNat_natCast,h1,decide_true]) _ hK fun i hi hc=>hu i hi (by simpa[kR]using hc)
 have hrk:bp z bl=(K:Int):=by
  unfold bp
  rw[Nr,hone];rfl
 rcases ki (bl:=bl) h hl with⟨h2,_⟩|⟨h2,_,_⟩
 ·omega
 ·exact⟨by rw[h2],hrk⟩
theorem vl{f r:Int}{zs:List Int}{bl:Bool}(h:aV f r zs=true)(hl:zs.length<=64)(hk:(bT f r zs bl).2=0):∃ K:Nat,K<zs.length/\zs.getD K 0=kgP bl/\bp zs bl=(K:Int)/\∀ i:Nat,i<zs.length->zs.getD i 0=kgP bl->i=K:=by
 rcases yK zs bl hl with⟨h1,_⟩|⟨h1,h2,h3,h4,h5,h6⟩
 ·unfold bT at hk;rw[h,h1]at hk;cases hk
 ·refine⟨(gB zs bl).toNat,by omega,h5,by omega,fun i hi he=>?_⟩
  have:=h6 i hi he
  omega
theorem JU(bl:Bool):isP (kgP bl) bl=true:=by cases bl<;>decide
theorem lC{f r a b occ:Int}(_ha:aj f r a=true)(_hb:aj f r b=true)(h:bL f r 6 a b occ=true):pC f a b=1:=by
 unfold bL at h
 simpa using h
def Eo(p:Psn)(m:Mov)(n:Nat)(bl:Bool)(bit k to:Int):Prop:=wayN p.zs p.bl p.ca m.a m.b=n/\p.bl=bl/\cw p.ca bit≠0/\m.a=k/\m.b=to
theorem FW{p:Psn}{m:Mov}(hn:wayN p.zs p.bl p.ca m.a m.b≠4):absP (p.zs.getD m.a.toNat 0)=6/\(Eo p m 0 false 1 4 6\/Eo p m 1 false 2 4 2\/Eo p m 2 true 4 60 62\/Eo p m 3 true 8 60 58):=by
 unfold Eo
 cases hk:decide (absP (p.zs.getD m.a.toNat 0)=6) with
 |false=>exact absurd (by unfold wayN;rw[hk];rfl) hn
 |true=>
  refine⟨of_decide_eq_true hk,?_⟩
  cases n1:(!aY p.bl p.ca m.a m.b false 1 4 6) with
  |true=>
   obtain⟨e1,e2,e3,e4⟩:=cZ.1 n1
   exact .inl ⟨by unfold wayN;rw[hk,n1];rfl,e1.symm,e2,e3.symm,e4.symm⟩
  |false=>
   cases n2:(!aY p.bl p.ca m.a m.b false 2 4 2) with
   |true=>
    obtain⟨e1,e2,e3,e4⟩:=cZ.1 n2
    exact .inr (.inl ⟨by unfold wayN;rw[hk,n1,n2];rfl,e1.symm,e2,e3.symm,e4.symm⟩)
   |false=>
    cases n3:(!aY p.bl p.ca m.a m.b true 4 60 62) with
    |true=>
     obtain⟨e1,e2,e3,e4⟩:=cZ.1 n3
     exact .inr (.inr (.inl ⟨by unfold wayN;rw[hk,n1,n2,n3];rfl,e1.symm,e2,e3.symm,e4.symm⟩))
    |false=>
     cases n4:(!aY p.bl p.ca m.a m.b true 8 60 58) with
     |true=>
      obtain⟨e1,e2,e3,e4⟩:=cZ.1 n4
      exact .inr (.inr (.inr ⟨by unfold wayN;rw[hk,n1,n2,n3,n4];rfl,e1.symm,e2,e3.symm,e4.symm⟩))
     |false=>exact absurd (by unfold wayN;rw[hk,n1,n2,n3,n4];rfl) hn
section
variable{p:Psn}{m:Mov}
theorem MvOk.kU(o:MvOk p m):∃ K:Nat,K<p.zs.length/\p.zs.getD K 0=kgP p.bl/\bp p.zs p.bl=(K:Int)/\∀ i:Nat,i<p.zs.length->p.zs.getD i 0=kgP p.bl->i=K:=by
 have:=o.kings
 simp only[eF,Bool.and_eq_true,decide_eq_true_eq]at this
 exact vl o.h o.hl this.1.1
theorem MvOk.pr0(o:MvOk p m)(hk:aW (p.zs.getD m.a.toNat 0)≠1):m.p=0:=by
 have:=o.so
 simp only[err3,Bool.or_eq_false_iff]at this
 have hg:=iE (bl:=p.bl) (_ca:=p.ca) (pa:=p.pa) (pr:=m.p) o.h o.hl o.ha o.hb o.hp
 rw[decide_eq_false hk,cond_false]at hg
 rw[hg]at this
 by_cases h:m.p=0
 ·exact h
 ·rw[decide_eq_false h]at this;simp at this
theorem MvOk.wayg(o:MvOk p m)(hn:wayN p.zs p.bl p.ca m.a m.b≠4):aW (p.zs.getD m.a.toNat 0)=6/\m.p=0/\iv p.f p.r p.zs p.bl p.pa m.a m.b m.p=false:=by
 obtain⟨hk6,hsq⟩:=FW hn
 have hk:aW (p.zs.getD m.a.toNat 0)=6:=by rw[<-o.kd];exact hk6
 have hp0:m.p=0:=o.pr0 (by rw[hk];decide)
 refine⟨hk,hp0,?_⟩
 rw[iE (_ca:=p.ca) o.h o.hl o.ha o.hb o.hp,hk,hp0]
 simp only[decide_true,Bool.true_and]
 cases hr:bL p.f p.r 6 m.a m.b (occL p.zs) with
 |false=>rfl
 |true=>
  exfalso
  have hd:=lC o.ha o.hb hr
  obtain⟨h88,_⟩:=kW (a:=m.a) (b:=m.b) (bl:=p.bl) o.bd o.cast hn
  simp only[is88,Bool.and_eq_true,decide_eq_true_eq]at h88
  rw[h88.1]at hd
  rcases hsq with⟨_,_,_,e1,e2⟩|⟨_,_,_,e1,e2⟩|⟨_,_,_,e1,e2⟩|⟨_,_,_,e1,e2⟩<;>rw[e1,e2]at hd<;>exact absurd hd (by decide)
theorem MvOk.way(o:MvOk p m)(hw:wayB p.f p.r p.zs (wayN p.zs p.bl p.ca m.a m.b)=true):aW (p.zs.getD m.a.toNat 0)=6/\m.p=0/\iv p.f p.r p.zs p.bl p.pa m.a m.b m.p=false /\
  (cgL p.f p.r p.zs p.bl p.ca m.a m.b m.p≠0)/\sqW (cgL p.f p.r p.zs p.bl p.ca m.a m.b m.p) 2=wCor (wayN p.zs p.bl p.ca m.a m.b)/\sqW (cgL p.f p.r p.zs p.bl p.ca m.a m.b m.p) 3=wCro (wayN p.zs p.bl p.ca m.a m.b):=by
 have hn:wayN p.zs p.bl p.ca m.a m.b≠4:=by intro e;rw[e]at hw;simp[wayB]at hw
 obtain⟨hk,hp0,hg⟩:=o.wayg hn
 obtain⟨w1,w2⟩:=Ew (bl:=p.bl) (b:=m.b) (pr:=m.p) o.h o.hl o.cast o.ca o.sq.1.1 o.sq.1.2
 rw[hw,hp0]at w1
 rw[hp0]at w2 hg ⊢
 have hc:(!decide (cgL p.f p.r p.zs p.bl p.ca m.a m.b 0=0))=true:=w1
 obtain⟨s1,s2,_⟩:=w2 hc
 exact⟨hk,rfl,hg,by simpa using hc,s1,s2⟩
theorem MvOk.noway(o:MvOk p m)(hw:wayB p.f p.r p.zs (wayN p.zs p.bl p.ca m.a m.b)=false):cgL p.f p.r p.zs p.bl p.ca m.a m.b m.p=0:=by
 obtain⟨w1,_⟩:=Ew (bl:=p.bl) (b:=m.b) (pr:=m.p) o.h o.hl o.cast o.ca o.sq.1.1 o.sq.1.2
 rw[hw,Bool.and_false]at w1
 simpa using w1
theorem Kf{n:Int}{bl:Bool}(h:isP n bl=true):sgn n=sdI bl:=by rw[wu]at h;exact of_decide_eq_true h
theorem MvOk.af(o:MvOk p m):afZ p.f p.r p.zs p.bl p.ca p.pa m.a m.b m.p=zs3R p.f p.r p.zs p.bl p.ca p.pa m.a m.b m.p:=by
 have h1:afZ1 p.f p.r p.zs p.pa m.a m.b=zs1R p.f p.zs p.pa m.a m.b:=by unfold afZ1 zs1R;rw[o.cap.1]
 have h2:afZ2 p.f p.r p.zs p.pa m.a m.b=zs2R p.f p.zs p.pa m.a m.b:=by unfold afZ2 zs2R;rw[h1]
 unfold afZ zs3R putR afZ3
 rw[h2]
 by_cases hp:m.p=0
 ·rw[hp]
  simp only[decide_true,Bool.not_true,Bool.false_and,cond_false]
  cases hw:wayB p.f p.r p.zs (wayN p.zs p.bl p.ca m.a m.b) with
  |true=>
   obtain⟨_,_,g,c,s1,s2⟩:=o.way hw
   rw[hp]at g c s1 s2
   unfold cstR afZ4
   rw[hw,g,s1,s2,decide_eq_false c];rfl
  |false=>
   have hc:=o.noway hw
   rw[hp]at hc
   unfold cstR afZ4
   rw[hw,hc];rfl
 ·have hpr:2<=m.p/\m.p<=5:=o.hpr.resolve_left hp
  have hc:cgL p.f p.r p.zs p.bl p.ca m.a m.b m.p=0:=by unfold cgL;rw[decide_eq_false hp];simp
  rw[hc,decide_eq_false hp]
  simp only[Bool.not_false,Bool.true_and,cond_true]
  have hs:=Kf o.hp
  unfold afZ4
  rw[hs]
  cases p.bl with
  |true=>
   have:w8 (m.p*w8 (sdI true))=w8 (0-m.p):=by
    rw[show w8 (sdI true)=-1 by decide];congr 1;omega
   rw[this];rfl
  |false=>
   have:w8 (m.p*w8 (sdI false))=m.p:=by
    rw[show w8 (sdI false)=1 by decide,Int.mul_one];exact FV (by omega) (by omega)
   rw[this];rfl
end
end
section
variable{p:Psn}{m:Mov}
theorem gT(o:PsH p)(h:canM p m.a m.b m.p=true):MvOk p m:=by
 unfold canM at h
 simp only[Bool.and_eq_true,Bool.not_eq_true']at h
 obtain⟨⟨hmv,hp⟩,he⟩:=h
 simp only[mvB,Bool.and_eq_true,Bool.or_eq_true,decide_eq_true_eq,Bool.not_eq_true',decide_eq_false_iff_not]at hmv
 obtain⟨⟨⟨ha,hb⟩,hab⟩,hpr⟩:=hmv
 exact⟨o.h,o.hl,o.ok,o.ca,ha,hb,hab,hpr,hp,he⟩
theorem xQ(x y:Int):imax true x y=x\/imax true x y=y:=by
 unfold imax
 dsimp only
 cases decide (x<y)
 ·exact .inl rfl
 ·exact .inr rfl
theorem Jl{n:Int}(h1:-8<=n)(h2:n<=8):n<=absI n/\-n<=absI n:=by
 unfold absI
 by_cases h:n<0
 ·rw[decide_eq_true h,cond_true,ay (by omega) (by omega)];omega
 ·rw[decide_eq_false h,cond_false];omega
theorem IM{f r a b:Int}(ha:aj f r a=true)(hb:aj f r b=true):∃ d:Int,AS ⟨f,r⟩ a b=some (d,0)/\(pC f a b=1->d≠2):=by
 obtain⟨a0,a1,a2,a3,a4,a5,a6,a7,a8,a9⟩:=dM ha
 obtain⟨b0,b1,b2,b3,b4,b5,_⟩:=dM hb
 have pa:aU f r a=(px f a,py f a,0):=by unfold aU;rw[ha,cond_true,a0]
 have pb:aU f r b=(px f b,py f b,0):=by unfold aU;rw[hb,cond_true,b0]
 refine⟨imax true (imax true (imax true (IntKind.i64.wrap (px f a-px f b)) (IntKind.i64.wrap (px f b-px f a))) (IntKind.i64.wrap (py f a-py f b))) (IntKind.i64.wrap (py f b-py f a)),?_,?_⟩
 ·unfold AS
  rw[pa,pb]
  rfl
 ·intro h hd
  unfold pC at h
  rw[a0,b0,show a.tmod f=px f a from rfl,show b.tmod f=px f b from rfl,ay (n:=py f a-py f b) (by omega) (by omega),ay (n:=px f a-px f b) (by omega) (by omega)]at h
  rw[ay (n:=px f a-px f b) (by omega) (by omega),ay (n:=px f b-px f a) (by omega) (by omega),ay (n:=py f a-py f b) (by omega) (by omega),ay (n:=py f b-py f a) (by omega) (by omega)]at hd
  have gx:=Jl (n:=px f a-px f b) (by omega) (by omega)
  have gy:=Jl (n:=py f a-py f b) (by omega) (by omega)
  have hx:absI (px f a-px f b)<=1/\absI (py f a-py f b)<=1:=by
   by_cases hc:absI (py f a-py f b)<absI (px f a-px f b)
   ·rw[decide_eq_true hc,cond_true]at h;omega
   ·rw[decide_eq_false hc,cond_false]at h;omega
  have o1:=xQ (px f a-px f b) (px f b-px f a)
  have o2:=xQ (imax true (px f a-px f b) (px f b-px f a)) (py f a-py f b)
  have o3:=xQ (imax true (imax true (px f a-px f b) (px f b-px f a)) (py f a-py f b)) (py f b-py f a)
  omega
theorem MvOk.castles(o:MvOk p m):∃ d:Int,AS ⟨p.f,p.r⟩ m.a m.b=some (d,0)/\(decide (absP (p.zs.getD m.a.toNat 0)=6)&&decide (d=2))=!decide (cgL p.f p.r p.zs p.bl p.ca m.a m.b m.p=0):=by
 cases hw:wayB p.f p.r p.zs (wayN p.zs p.bl p.ca m.a m.b) with
 |true=>
  have hn:wayN p.zs p.bl p.ca m.a m.b≠4:=by intro e;rw[e]at hw;simp[wayB]at hw
  obtain⟨hk,_,_,hc,_⟩:=o.way hw
  obtain⟨h88,_⟩:=kW (a:=m.a) (b:=m.b) (bl:=p.bl) o.bd o.cast hn
  simp only[is88,Bool.and_eq_true,decide_eq_true_eq]at h88
  obtain⟨_,hsq⟩:=FW hn
  refine⟨2,?_,by rw[o.kd,decide_eq_true hk,decide_eq_false hc];rfl⟩
  rw[h88.1,h88.2]
  rcases hsq with⟨_,_,_,e1,e2⟩|⟨_,_,_,e1,e2⟩|⟨_,_,_,e1,e2⟩|⟨_,_,_,e1,e2⟩<;>rw[e1,e2]<;>decide
 |false=>
  have hc:=o.noway hw
  obtain⟨d,h1,h2⟩:=IM o.ha o.hb
  refine⟨d,h1,?_⟩
  rw[o.kd,decide_eq_true hc]
  cases hk:decide (aW (p.zs.getD m.a.toNat 0)=6) with
  |false=>rfl
  |true=>
   have hk6:=of_decide_eq_true hk
   have hso:=o.so
   simp only[err3,hw,Bool.not_false,Bool.true_or,Bool.and_true,Bool.or_eq_false_iff,Bool.not_eq_false']at hso
   have hg:=hso.2
   rw[iE (_ca:=p.ca) o.h o.hl o.ha o.hb o.hp,hk6]at hg
   have hg:(decide (m.p=0)&&bL p.f p.r 6 m.a m.b (occL p.zs))=true:=hg
   rw[Bool.and_eq_true]at hg
   have:=h2 (lC o.ha o.hb hg.2)
   rw[decide_eq_false this];rfl
end
section
theorem eu{l:List Int}{j i:Nat}{v:Int}(hi:i<l.length):(l.set j v).getD i 0=if i=j then v else l.getD i 0:=by
 by_cases e:i=j
 ·subst e;simp[List.getD,hi]
 ·rw[if_neg e];simp[List.getD,List.getElem?_set_ne (Ne.symm e)]
theorem fH{f r:Int}{zs:List Int}{j:Nat}{v:Int}(h:aV f r zs=true)(hv:-6<=v/\v<=6):aV f r (zs.set j v)=true:=by
 have:=Ic (j:=(j:Int)) h hv
 rwa [Int.toNat_natCast]at this
theorem qZ{f r:Int}{zs:List Int}(h:aV f r zs=true)(i:Nat):-6<=zs.getD i 0/\zs.getD i 0<=6:=by
 by_cases hi:i<zs.length
 ·exact(bh h).2.2.2 _ (Ae hi)
 ·simp[List.getD,List.getElem?_eq_none (by omega:zs.length<=i)]
theorem KM{n:Int}{bl:Bool}(h:-6<=n/\n<=6)(hp:isP n bl=true)(hk:aW n=6):n=kgP bl:=by
 rw[gX h]at hk
 have:n=6\/n=-6:=by omega
 rcases this with rfl|rfl<;>cases bl<;>first|rfl|(revert hp;decide)
section
variable{p:Psn}{m:Mov}
theorem MvOk.z1(o:MvOk p m):aV p.f p.r (zs1R p.f p.zs p.pa m.a m.b)=true/\∀ i:Nat,i<p.zs.length->(zs1R p.f p.zs p.pa m.a m.b).getD i 0=p.zs.getD i 0\/((zs1R p.f p.zs p.pa m.a m.b).getD i 0=0/\isP (p.zs.getD i 0) p.bl=false):=by
 unfold zs1R
 cases hc:decide (0<=at2R p.f p.zs p.pa m.a m.b) with
 |false=>exact⟨o.h,fun i _=>.inl rfl⟩
 |true=>
  obtain⟨c1,c2,c3,_⟩:=o.cap.2.1 (of_decide_eq_true hc)
  refine⟨fH o.h (by omega),fun i hi=>?_⟩
  rw[cond_true,eu hi]
  by_cases e:i=(at2R p.f p.zs p.pa m.a m.b).toNat
  ·right
   rw[if_pos e,e]
   refine⟨rfl,?_⟩
   rw[wu]at c2 ⊢
   rw[of_decide_eq_true c2]
   cases p.bl<;>decide
  ·left;rw[if_neg e]
theorem MvOk.z2(o:MvOk p m):aV p.f p.r (zs2R p.f p.zs p.pa m.a m.b)=true/\∀ i:Nat,i<p.zs.length->(zs2R p.f p.zs p.pa m.a m.b).getD i 0=if i=m.b.toNat then p.zs.getD m.a.toNat 0 else if i=m.a.toNat then 0 else(zs1R p.f p.zs p.pa m.a m.b).getD i 0:=by
 have hl:=EO (f:=p.f) (zs:=p.zs) (pa:=p.pa) (a:=m.a) (b:=m.b)
 refine⟨fH (fH o.z1.1 (by omega)) (qZ o.h _),fun i hi=>?_⟩
 unfold zs2R
 rw[eu (by rw[List.length_set,hl];exact hi),eu (by rw[hl];exact hi)]
theorem MvOk.z3(o:MvOk p m):aV p.f p.r (zs3R p.f p.r p.zs p.bl p.ca p.pa m.a m.b m.p)=true/\(bT p.f p.r (zs3R p.f p.r p.zs p.bl p.ca p.pa m.a m.b m.p) p.bl).2=0:=by
 obtain⟨⟨sa0,sa1⟩,⟨sb0,sb1⟩⟩:=o.sq
 obtain⟨z2o,z2g⟩:=o.z2
 obtain⟨K,k1,k2,_,k4⟩:=o.kU
 have hlen:=nc (f:=p.f) (r:=p.r) (zs:=p.zs) (bl:=p.bl) (ca:=p.ca) (pa:=p.pa) (a:=m.a) (b:=m.b) (pr:=m.p)
 have hl2:=sU (f:=p.f) (zs:=p.zs) (pa:=p.pa) (a:=m.a) (b:=m.b)
 have hkb:K≠m.b.toNat:=by intro e;have h1:=JU p.bl;rw[<-k2,e,o.nto]at h1;cases h1
 have kz:(0:Int)≠kgP p.bl:=by cases p.bl<;>decide
 have hK1:(zs1R p.f p.zs p.pa m.a m.b).getD K 0=kgP p.bl:=by
  rcases o.z1.2 K k1 with h|⟨_,h⟩
  ·rw[h,k2]
  ·rw[k2,JU]at h;cases h
 have h1U:∀ i:Nat,i<p.zs.length->(zs1R p.f p.zs p.pa m.a m.b).getD i 0=kgP p.bl->i=K:=by
  intro i hi he
  rcases o.z1.2 i hi with h|⟨h,_⟩
  ·rw[h]at he;exact k4 i hi he
  ·rw[h]at he;exact absurd he kz
 -- a board that is like zs2R but for a piece that is put down
 have fin:∀ (z:List Int) (v:Int),z.length=p.zs.length->(∀ i:Nat,i<p.zs.length->z.getD i 0=if i=m.b.toNat then v else if i=m.a.toNat then 0 else(zs1R p.f p.zs p.pa m.a m.b).getD i 0)->aV p.f p.r z=true->(v=kgP p.bl↔K=m.a.toNat)->(bT p.f p.r z p.bl).2=0:=by
  intro z v hzl hz hzo hv
  by_cases hKa:K=m.a.toNat
  ·refine(mJ (K:=m.b.toNat) hzo (by rw[hzl];exact o.hl) (by omega) ?_ fun i hi he=>?_).1
   ·rw[hz _ (by omega),if_pos rfl];exact hv.2 hKa
   ·rw[hz _ (by omega)]at he
    by_cases e:i=m.b.toNat
    ·exact e
    ·rw[if_neg e]at he
     by_cases e2:i=m.a.toNat
     ·rw[if_pos e2]at he;exact absurd he kz
     ·rw[if_neg e2]at he;exact absurd ((h1U i (by omega) he).trans hKa) e2
  ·refine(mJ (K:=K) hzo (by rw[hzl];exact o.hl) (by omega) ?_ fun i hi he=>?_).1
   ·rw[hz _ k1,if_neg hkb,if_neg hKa,hK1]
   ·rw[hz _ (by omega)]at he
    by_cases e:i=m.b.toNat
    ·rw[if_pos e]at he;exact absurd (hv.1 he) hKa
    ·rw[if_neg e]at he
     by_cases e2:i=m.a.toNat
     ·rw[if_pos e2]at he;exact absurd he kz
     ·rw[if_neg e2]at he;exact h1U i (by omega) he
 have haK:p.zs.getD m.a.toNat 0=kgP p.bl↔K=m.a.toNat:=⟨fun h=>(k4 _ (by omega) h).symm,fun h=>by rw[<-h,k2]⟩
 unfold zs3R putR
 by_cases hp:m.p=0
 ·rw[decide_eq_true hp]
  simp only[Bool.not_true,Bool.false_and,cond_false]
  cases hw:wayB p.f p.r p.zs (wayN p.zs p.bl p.ca m.a m.b) with
  |false=>
   unfold cstR
   rw[hw]
   exact⟨z2o,fin _ _ hl2 z2g z2o haK⟩
  |true=>
   obtain⟨hk6,_,g,_,_,_⟩:=o.way hw
   have hn:wayN p.zs p.bl p.ca m.a m.b≠4:=by intro e;rw[e]at hw;simp[wayB]at hw
   obtain⟨h88,h64,w1,w2,w3,w4⟩:=kW (a:=m.a) (b:=m.b) (bl:=p.bl) o.bd o.cast hn
   unfold cstR
   rw[hw,g]
   simp only[Bool.not_false,Bool.and_self,cond_true]
   have hpiece:p.zs.getD m.a.toNat 0=kgP p.bl:=KM (qZ o.h _) o.hp hk6
   have hKa:=haK.1 hpiece
   -- the rook
   have hrook:p.zs.getD (wCor (wayN p.zs p.bl p.ca m.a m.b)).toNat 0=ofP 4 p.bl/\wCor (wayN p.zs p.bl p.ca m.a m.b)≠m.a/\wCor (wayN p.zs p.bl p.ca m.a m.b)≠m.b/\wCro (wayN p.zs p.bl p.ca m.a m.b)≠m.b/\wCro (wayN p.zs p.bl p.ca m.a m.b)≠m.a:=by
    have hcs:=o.cast
    simp only[eD,Bool.and_eq_true,Bool.not_eq_true',decide_eq_true_eq]at hcs
    obtain⟨⟨⟨⟨c1,c2⟩,c3⟩,c4⟩,c5⟩:=hcs
    unfold wayN at hn ⊢
    rw[o.kd,hk6]at hn ⊢
    cases n1:(!aY p.bl p.ca m.a m.b false 1 4 6) with
    |true=>
     obtain⟨e1,e2,e3,e4⟩:=cZ.1 n1
     obtain⟨_,_,_,e5⟩:=dJ c1 e2
     rw[<-e1,<-e3,<-e4]
     exact⟨e5,show (7:Int)≠4 by decide,show (7:Int)≠6 by decide,show (5:Int)≠6 by decide,show (5:Int)≠4 by decide⟩
    |false=>
     cases n2:(!aY p.bl p.ca m.a m.b false 2 4 2) with
     |true=>
      obtain⟨e1,e2,e3,e4⟩:=cZ.1 n2
      obtain⟨_,_,_,e5⟩:=dJ c2 e2
      rw[<-e1,<-e3,<-e4]
      exact⟨e5,show (0:Int)≠4 by decide,show (0:Int)≠2 by decide,show (3:Int)≠2 by decide,show (3:Int)≠4 by decide⟩
     |false=>
      cases n3:(!aY p.bl p.ca m.a m.b true 4 60 62) with
      |true=>
       obtain⟨e1,e2,e3,e4⟩:=cZ.1 n3
       obtain⟨_,_,_,e5⟩:=dJ c3 e2
       rw[<-e1,<-e3,<-e4]
       exact⟨e5,show (63:Int)≠60 by decide,show (63:Int)≠62 by decide,show (61:Int)≠62 by decide,show (61:Int)≠60 by decide⟩
      |false=>
       cases n4:(!aY p.bl p.ca m.a m.b true 8 60 58) with
       |true=>
        obtain⟨e1,e2,e3,e4⟩:=cZ.1 n4
        obtain⟨_,_,_,e5⟩:=dJ c4 e2
        rw[<-e1,<-e3,<-e4]
        exact⟨e5,show (56:Int)≠60 by decide,show (56:Int)≠58 by decide,show (59:Int)≠58 by decide,show (59:Int)≠60 by decide⟩
       |false=>rw[n1,n2,n3,n4]at hn;exact absurd rfl hn
   obtain⟨r1,r2,r3,r4,r5⟩:=hrook
   have hro:aV p.f p.r (((zs2R p.f p.zs p.pa m.a m.b).set (wCro (wayN p.zs p.bl p.ca m.a m.b)).toNat ((zs2R p.f p.zs p.pa m.a m.b).getD (wCor (wayN p.zs p.bl p.ca m.a m.b)).toNat 0)).set (wCor (wayN p.zs p.bl p.ca m.a m.b)).toNat 0)=true:=fH (fH z2o (qZ z2o _)) (by omega)
   refine⟨hro,(mJ (K:=m.b.toNat) hro (by simp only[List.length_set,hl2];exact o.hl) (by simp only[List.length_set,hl2];omega) ?_ fun i hi he=>?_).1⟩
   ·rw[eu (by simp only[List.length_set,hl2];omega),if_neg (by omega),eu (by rw[hl2];omega),if_neg (by omega),z2g _ (by omega),if_pos rfl,hpiece]
   ·simp only[List.length_set,hl2]at hi
    rw[eu (by simp only[List.length_set,hl2];omega)]at he
    by_cases e1:i=(wCor (wayN p.zs p.bl p.ca m.a m.b)).toNat
    ·rw[if_pos e1]at he;exact absurd he kz
    ·rw[if_neg e1,eu (by rw[hl2];omega)]at he
     by_cases e2:i=(wCro (wayN p.zs p.bl p.ca m.a m.b)).toNat
     ·exfalso
      rw[if_pos e2,z2g _ (by omega),if_neg (by omega),if_neg (by omega)]at he
      rcases o.z1.2 (wCor (wayN p.zs p.bl p.ca m.a m.b)).toNat (by omega)with h|⟨h,_⟩
      ·rw[h,r1]at he;revert he;cases p.bl<;>decide
      ·rw[h]at he;exact kz he
     ·rw[if_neg e2,z2g _ hi]at he
      by_cases e:i=m.b.toNat
      ·exact e
      ·rw[if_neg e]at he
       by_cases e3:i=m.a.toNat
       ·rw[if_pos e3]at he;exact absurd he kz
       ·rw[if_neg e3]at he;exact absurd ((h1U i hi he).trans hKa) e3
 ·have hpr:2<=m.p/\m.p<=5:=o.hpr.resolve_left hp
  have hk1:aW (p.zs.getD m.a.toNat 0)=1:=by
   by_cases h:aW (p.zs.getD m.a.toNat 0)=1
   ·exact h
   ·exact absurd (o.pr0 h) hp
  have hnK:¬ K=m.a.toNat:=fun e=>by
   have:=haK.2 e
   rw[this]at hk1
   revert hk1;cases p.bl<;>decide
  rw[decide_eq_false hp]
  simp only[Bool.not_false,Bool.true_and,cond_true]
  have hput:∀ v:Int,-6<=v/\v<=6->v≠kgP p.bl->aV p.f p.r ((zs2R p.f p.zs p.pa m.a m.b).set m.b.toNat v)=true/\(bT p.f p.r ((zs2R p.f p.zs p.pa m.a m.b).set m.b.toNat v) p.bl).2=0:=by
   intro v hv hvk
   have hzo:=fH (j:=m.b.toNat) z2o hv
   refine⟨hzo,fin _ v (by rw[List.length_set,hl2]) (fun i hi=>?_) hzo ⟨fun h=>absurd h hvk,fun h=>absurd h hnK⟩⟩
   rw[eu (by rw[hl2];exact hi),z2g i hi]
   by_cases e:i=m.b.toNat<;>simp[e]
  have hkg:kgP p.bl=6\/kgP p.bl=-6:=by cases p.bl<;>simp[kgP]
  have hw:w8 (0-m.p)=-m.p:=by rw[FV (by omega) (by omega)];omega
  have key:∀ v,v=m.p\/v=-m.p->_:=fun v hv=>hput v (by omega) (by omega)
  cases hb:p.bl with
  |true=>
   have:=key (-m.p) (.inr rfl)
   rw[hb]at this
   simp only[cond_true,hw]
   exact this
  |false=>
   have:=key m.p (.inl rfl)
   rw[hb]at this
   simp only[cond_false]
   exact this
theorem MvOk.safe(o:MvOk p m):sfL p m=!err4 p m:=by
 obtain⟨z1,z2⟩:=o.z3
 have hz64:(zs3R p.f p.r p.zs p.bl p.ca p.pa m.a m.b m.p).length<=64:=by rw[nc];exact o.hl
 have hkk:=o.kings
 simp only[eF,Bool.and_eq_true,decide_eq_true_eq]at hkk
 have hzs:(afP p m).zs=zs3R p.f p.r p.zs p.bl p.ca p.pa m.a m.b m.p:=o.af
 unfold sfL err4
 rw[hzs,zz z1 hz64 z2,zz o.h o.hl hkk.1.1]
 cases chkB p.f p.r (zs3R p.f p.r p.zs p.bl p.ca p.pa m.a m.b m.p) p.bl with
 |true=>rfl
 |false=>
  cases hw:wayB p.f p.r p.zs (wayN p.zs p.bl p.ca m.a m.b) with
  |false=>
   have:cstR p.f p.r p.zs p.bl p.ca p.pa m.a m.b m.p=false:=by unfold cstR;rw[hw];rfl
   rw[this,o.noway hw];rfl
  |true=>
   obtain⟨_,_,g,c,_,s2⟩:=o.way hw
   have hn:wayN p.zs p.bl p.ca m.a m.b≠4:=by intro e;rw[e]at hw;simp[wayB]at hw
   obtain⟨h88,h64,_,_,w3,w4⟩:=kW (a:=m.a) (b:=m.b) (bl:=p.bl) o.bd o.cast hn
   have hcst:cstR p.f p.r p.zs p.bl p.ca p.pa m.a m.b m.p=true:=by unfold cstR;rw[hw,g];rfl
   have hv:aj p.f p.r (wCro (wayN p.zs p.bl p.ca m.a m.b))=true:=(bN o.bd).2 ⟨w3,by omega⟩
   rw[hcst,decide_eq_false c,s2]
   simp only[cond_false,Bool.false_or,Bool.true_and,Bool.not_or,Bool.not_not]
   congr 1
   unfold dA
   rw[o.h,hv]
   simp only[Bool.and_self,cond_true]
   rw[yW o.h o.hl hv]
end
end
section
variable{p:Psn}{m:Mov}
def legM(p:Psn)(m:Mov):Bool:=canM p m.a m.b m.p&&!err4 p m
theorem LN(hok:p.ok=true)(hmv:mvB p.f p.r m.a m.b m.p=true):(decide (mkE5 p m=0)||decide (mkE5 p m=7))=legM p m:=by
 have h1:err1 p m=false:=by unfold err1;rw[hok,hmv];rfl
 unfold mkE5 legM canM
 rw[h1,hmv]
 cases isP (p.zs.getD m.a.toNat 0) p.bl with
 |false=>rfl
 |true=>
  have he:err3 p ⟨m.a,m.b,m.p⟩=err3 p m:=rfl
  rw[he]
  cases err3 p m with
  |true=>rfl
  |false=>cases err4 p m<;>cases err5 p m<;>rfl
theorem MB(o:PsH p)(hc:canM p m.a m.b m.p=true):sfL p m=!err4 p m:=(gT o hc).safe
end
section
variable{kCa kDb:Bool}
def keeps(p:Psn)(m:Mov):Option (Bool):=let x5:=List.take p.zs.length (List.drop 0 p.zs);let x3:=mkE5 (Psn.mk p.f p.r x5 p.bl p.ca p.pa p.ha p.fu) (Mov.mk m.a m.b m.p);let x4:=x5.length;aX (decide (x4<=64)) (some (decide (x3=0)||decide (x3=7)))
def vM(R:Bool):V:=Bb R
def xJ(_:Bool):List O:=[]
def rO:CF
 |[.agg [.int .i64 p_0,.int .i64 p_1,.sl 0 0 p_2n none,.bool p_3,.int .u8 p_4,.int .i64 p_5,.int .i64 p_6,.int .i64 p_7],.agg [.int .i64 m_0,.int .i64 m_1,.int .i8 m_2]],[.ints false .i8 p_2]=>retC (decide (p_2n=p_2.length)) (keeps ⟨p_0,p_1,p_2,p_3,p_4,p_5,p_6,p_7⟩ ⟨m_0,m_1,m_2⟩) false vM xJ
 |_,_=>none
theorem Dp(p:Psn)(m:Mov){r}(hr:keeps p m=some r):aJ (GGx true kDb) PP 58 [.agg [.int .i64 p.f,.int .i64 p.r,.sl 0 0 p.zs.length none,Bb p.bl,.int .u8 p.ca,.int .i64 p.pa,.int .i64 p.ha,.int .i64 p.fu],.agg [.int .i64 m.a,.int .i64 m.b,.int .i8 m.p]] [.ints false .i8 p.zs] (vM r) (xJ r):=by
 have hE:=cutE (aB (kCa:=true) (kDb:=kDb) (cts:=[(63,zP)]) (inl:=[]) ⟨uP,trivial⟩ trivial)
 refine cH hE 2 Tryz.func58 rfl rfl vM xJ hr ?_ rfl rfl
 refine cN (pl (decide_eq_true (aN rfl)) id) ?_
 refine av (Bool.not_or_self _) ?_
 refine av (Bool.or_not_self _) ?_
 exact aR (aO [] (.inr rfl) rfl rfl rfl rfl rfl)
theorem pW:CtOk (GGx true kDb) PP (58,rO):=by
 refine aD Tryz.func58 (by kernel_rfl) rfl fun a0 h0 c0 v0 N0 e hc=>?_
 unfold rO at e
 split at e
 ·rename_i p_0 p_1 p_2n p_3 p_4 p_5 p_6 p_7 m_0 m_1 m_2 p_2
  obtain⟨hl,r,hr,rfl,rfl⟩:=bJ e hc
  simp only[decide_eq_true_eq]at hl
  obtain rfl:=hl
  exact Dp ⟨p_0,p_1,p_2,p_3,p_4,p_5,p_6,p_7⟩ ⟨m_0,m_1,m_2⟩ hr
 ·cases e
end
end Go.Ab
namespace Go.Ab
open IntKind
open Go.Proofs
section
variable{kCa kDb:Bool}
def Lp:Siz->List Int->Int×Int->Option (Int×Int ⊕ Int ⊕ Int×Int):=fun(s:Siz) (squares:List Int) (s7:Int×Int)=>let x17:=decide (s7.2<Int.ofNat squares.length);bif x17 then aX (decide (0<=s7.2)&&x17) (bif !aj s.f s.r (squares.getD s7.2.toNat 0)then escO (escO (some (0,2)))else aX (decide (0<=squares.getD s7.2.toNat 0)) (some (Sum.inl (band Go.BinOp.or u64 s7.1 (u64.wrap (1*2^Min.min (squares.getD s7.2.toNat 0).toNat u64.bits)),i64.wrap (s7.2+1)))))else some (Sum.inr (Sum.inl s7.1))
def sqOf(s:Siz)(squares:List Int):Option (Int×Int):=bif !vsB s.f s.r then some (0,2)else cV (Lp s squares) (fun(s15:Int)=>some (s15,0)) 1000000 (0,0)
def Gu(R:Int×Int):V:=.tup [.int .u64 R.1,.int .i64 R.2]
def Dh(_R:Int×Int):List O:=[]
def EH:CF
 |[.agg [.int .i64 s_0,.int .i64 s_1],.sl 0 0 squares_0n none],[.ints false .i64 squares_0]=>retC (decide (squares_0n=squares_0.length)) (sqOf ⟨s_0,s_1⟩ squares_0) (0,0) Gu Dh
 |_,_=>none
theorem Iu(s:Siz)(squares:List Int){r}(hr:sqOf s squares=some r):aJ (GGx kCa kDb) PP 94 [.agg [.int .i64 s.f,.int .i64 s.r],.sl 0 0 squares.length none] [.ints false .i64 squares] (Gu r) (Dh r):=by
 have hE:=cutE (aB (kCa:=kCa) (kDb:=kDb) (cts:=[(101,eN),(146,c_vs)]) (inl:=[]) ⟨cW,kj,trivial⟩ trivial)
 refine cH hE 2 Tryz.func94 rfl rfl Gu Dh hr ?_ rfl rfl
 refine av rfl ?_
 refine aK hE 2 rfl ?_ ?_
 ·exact aR (aO [] (.inr rfl) rfl rfl rfl rfl rfl)
 refine dc hE 2 (fun(s7:Int×Int)=>([(2,V.ptr 1 0 0),(4,U 0),(5,I 0),(6,U s7.1),(12,V.sl 0 0 squares.length none),(13,I (Int.ofNat squares.length)),(14,I s7.2)],[O.ints false i64 squares,O.cells true [I s.f,I s.r]])) (fun(s15:Int)=>([(4,U 0),(5,I 0),(6,U s15)],[O.ints false i64 squares])) (.exit 0) ((Ent.rn [0,1] [2,4,5,6,12,13,14] rfl rfl rfl rfl rfl)) (fun s7=>?_) (fun s15=>?_)
 ·refine aK hE 2 rfl ?_ ?_
  ·refine bI ?_
   refine av rfl ?_
   refine aK hE 2 rfl ?_ ?_
   ·refine pM (by simp) (kP ?_)
    exact aR (aO [] (.inr rfl) rfl rfl rfl rfl rfl)
   refine bI ?_
   exact cO ((Ent.rn [0,1] [2,4,5,6,12,13,14] rfl rfl rfl rfl rfl))
  exact cS ((Ent.rn [0] [4,5,6] rfl rfl rfl rfl rfl))
 exact aR (aO [] (.inr rfl) rfl rfl rfl rfl rfl)
theorem CA:CtOk (GGx kCa kDb) PP (94,EH):=by
 refine aD Tryz.func94 (by kernel_rfl) rfl fun a0 h0 c0 v0 N0 e hc=>?_
 unfold EH at e
 split at e
 ·rename_i s_0 s_1 squares_0n squares_0
  obtain⟨hl,r,hr,rfl,rfl⟩:=bJ e hc
  simp only[decide_eq_true_eq]at hl
  obtain rfl:=hl
  exact Iu ⟨s_0,s_1⟩ squares_0 hr
 ·cases e
def KK:Psn->List (List Int)->List (List Int)×Int->Option (List (List Int)×Int ⊕ List (List Int) ⊕ List (List Int)):=fun(p:Psn) (l:List (List Int))=>let x21:=Psn.mk p.f p.r (List.take p.zs.length (List.drop 0 p.zs)) p.bl p.ca p.pa p.ha p.fu;fun(s9:List (List Int)×Int)=>let x24:=(s9.1.length+1)*24;let x25:=decide (s9.2<Int.ofNat l.length);let x26:=(l.getD s9.2.toNat []).getD 0 0;let x27:=(l.getD s9.2.toNat []).getD 1 0;let x28:=(l.getD s9.2.toNat []).getD 2 0;let x23:=Mov.mk x26 x27 x28;bif x25 then aX (decide (0<=s9.2)&&x25) (cr (keeps x21 x23) Inhabited.default fun(_y10:Bool)=>dN (bif (keeps x21 x23).getD false then aX (decide (x24<=140737488355328)) (some (Sum.inl (s9.1++List.take 1 (List.drop 0 [iL [x26,x27,x28]]))))else some (Sum.inl s9.1)) fun(s12:List (List Int))=>some (Sum.inl (s12,i64.wrap (s9.2+1))))else some (Sum.inr (Sum.inl s9.1))
def kept(p:Psn)(l:List (List Int)):Option (List (List Int)):=cV (KK p l) (fun(s20:List (List Int))=>let x33:=decide (Int.ofNat s20.length<=Int.ofNat s20.length);let x34:=(Int.ofNat s20.length).toNat-Int.toNat 0;aX (decide (0<=Int.ofNat s20.length)&&x33&&x33) (aX (decide (x34=s20.length)) (some s20))) 1000000 ([],0)
def yH(R:List (List Int)):V:=.sl 2 0 R.length (some R.length)
def DJ(R:List (List Int)):List O:=[.rows true [.i64,.i64,.i8] R]
def EN:CF
 |[.agg [.int .i64 p_0,.int .i64 p_1,.sl 0 0 p_2n none,.bool p_3,.int .u8 p_4,.int .i64 p_5,.int .i64 p_6,.int .i64 p_7],.sl 1 0 l_0n none],[.ints false .i8 p_2,.rows false [.i64,.i64,.i8] l_0]=>retC (decide (p_2n=p_2.length)&&decide (l_0n=l_0.length)) (kept ⟨p_0,p_1,p_2,p_3,p_4,p_5,p_6,p_7⟩ l_0) [] yH DJ
 |_,_=>none
theorem Jf(p:Psn)(l:List (List Int)){r}(hr:kept p l=some r):aJ (GGx true kDb) PP 93 [.agg [.int .i64 p.f,.int .i64 p.r,.sl 0 0 p.zs.length none,Bb p.bl,.int .u8 p.ca,.int .i64 p.pa,.int .i64 p.ha,.int .i64 p.fu],.sl 1 0 l.length none] [.ints false .i8 p.zs,.rows false [.i64,.i64,.i8] l] (yH r) (DJ r):=by
 have hE:=cutE (aB (kCa:=true) (kDb:=kDb) (cts:=[(58,rO)]) (inl:=[]) ⟨pW,trivial⟩ trivial)
 refine cH hE 2 Tryz.func93 rfl rfl yH DJ hr ?_ rfl rfl
 refine dc hE 2 (fun(s9:List (List Int)×Int)=>([(2,V.ptr 2 0 0),(4,V.nils),(5,V.fn 58 []),(6,V.sl 3 0 s9.1.length none),(9,V.sl 1 0 l.length none),(10,I (Int.ofNat l.length)),(11,I s9.2)],[O.ints false i8 p.zs,O.rows false [i64,i64,i8] l,O.cells true [I p.f,I p.r,V.sl 0 0 p.zs.length none,Bb p.bl,V.int u8 p.ca,I p.pa,I p.ha,I p.fu],O.rows true [i64,i64,i8] s9.1])) (fun(s20:List (List Int))=>([(4,V.nils),(6,V.sl 2 0 s20.length none)],[O.ints false i8 p.zs,O.rows false [i64,i64,i8] l,O.rows true [i64,i64,i8] s20])) (.exit 0) ((Ent.phT 6 (O.rows true [i64,i64,i8] []) rfl rfl rfl rfl rfl).trans (Ent.rn [0,1,2,3] [2,4,5,6,9,10,11] rfl rfl rfl rfl rfl)) (fun s9=>?_) (fun s20=>?_)
 ·refine aK hE 2 rfl ?_ ?_
  ·refine bI ?_
   refine aQ (pl (decide_eq_true (aN rfl)) id) ?_
   refine dg hE 2 (fun(s12:List (List Int))=>([(2,V.ptr 2 0 0),(4,V.nils),(5,V.fn 58 []),(6,V.sl 3 0 s12.length none),(9,V.sl 1 0 l.length none),(10,I (Int.ofNat l.length)),(11,I s9.2)],[O.ints false i8 p.zs,O.rows false [i64,i64,i8] l,O.cells true [I p.f,I p.r,V.sl 0 0 p.zs.length none,Bb p.bl,V.int u8 p.ca,I p.pa,I p.ha,I p.fu],O.rows true [i64,i64,i8] s12])) rfl ?_ ?_ (fun s12=>?_)
   ·refine cN (pr (pl (decide_eq_true rfl) id) rfl) ?_
    exact bR ((Ent.rn [0,1,2,6] [2,4,5,6,9,10,11] rfl rfl rfl rfl rfl))
   ·exact bR ((Ent.rn [0,1,2,3] [2,4,5,6,9,10,11] rfl rfl rfl rfl rfl))
   exact cO ((Ent.rn [0,1,2,3] [2,4,5,6,9,10,11] rfl rfl rfl rfl rfl))
  exact cS ((Ent.rn [0,1,3] [4,6] rfl rfl rfl rfl rfl))
 refine cN (pb (pb (pl rfl id) id) id) ?_
 refine Nw (fun h0=>?_)
 exact aR (aO [2] (.inr rfl) rfl rfl rfl rfl (by have qh0:=of_decide_eq_true h0;simp_all [yH,addN]))
theorem FX:CtOk (GGx true kDb) PP (93,EN):=by
 refine aD Tryz.func93 (by kernel_rfl) rfl fun a0 h0 c0 v0 N0 e hc=>?_
 unfold EN at e
 split at e
 ·rename_i p_0 p_1 p_2n p_3 p_4 p_5 p_6 p_7 l_0n p_2 l_0
  obtain⟨hl,r,hr,rfl,rfl⟩:=bJ e hc
  simp only[Bool.and_eq_true,decide_eq_true_eq]at hl
  obtain⟨rfl,rfl⟩:=hl
  exact Jf ⟨p_0,p_1,p_2,p_3,p_4,p_5,p_6,p_7⟩ l_0 hr
 ·cases e
def xG:Psn->List (List Int)->Int×Int->Option (Int×Int ⊕ Int ⊕ Int×Int):=fun(p:Psn) (y3:List (List Int)) (s8:Int×Int)=>let x20:=List.take 1 (List.drop 0 (iL [(y3.getD s8.2.toNat []).getD 1 0]));let x21:=decide (s8.2<Int.ofNat y3.length);let x19:=x20.length;bif x21 then aX (decide (0<=s8.2)&&x21) (aX (decide (1=x19)) (cr (sqOf (Siz.mk p.f p.r) x20) Inhabited.default fun(_y9:Int×Int)=>some (Sum.inl (band Go.BinOp.or u64 s8.1 ((sqOf (Siz.mk p.f p.r) x20).getD (0,0)).fst,i64.wrap (s8.2+1)))))else some (Sum.inr (Sum.inl s8.1))
def fh(p:Psn)(at_:Int):Option (Int×Int):=let x24:=Psn.mk p.f p.r (List.take p.zs.length (List.drop 0 p.zs)) p.bl p.ca p.pa p.ha p.fu;cr (uY x24 at_) ([],0) fun(y2:List (List Int)×Int)=>bif !decide (y2.2=0)then some (0,y2.2)else cr (kept x24 (List.take y2.1.length (List.drop 0 y2.1))) [] fun(y3:List (List Int))=>cV (xG p y3) (fun(s17:Int)=>some (s17,0)) 1000000 (0,0)
def kB(R:Int×Int):V:=.tup [.int .u64 R.1,.int .i64 R.2]
def lf(_R:Int×Int):List O:=[]
def kT:CF
 |[.agg [.int .i64 p_0,.int .i64 p_1,.sl 0 0 p_2n none,.bool p_3,.int .u8 p_4,.int .i64 p_5,.int .i64 p_6,.int .i64 p_7],.int .i64 at__0],[.ints false .i8 p_2]=>retC (decide (p_2n=p_2.length)) (fh ⟨p_0,p_1,p_2,p_3,p_4,p_5,p_6,p_7⟩ at__0) (0,0) kB lf
 |_,_=>none
theorem uT(p:Psn)(at_:Int){r}(hr:fh p at_=some r):aJ (GGx true true) PP 50 [.agg [.int .i64 p.f,.int .i64 p.r,.sl 0 0 p.zs.length none,Bb p.bl,.int .u8 p.ca,.int .i64 p.pa,.int .i64 p.ha,.int .i64 p.fu],.int .i64 at_] [.ints false .i8 p.zs] (kB r) (lf r):=by
 have hE:=cutE (aB (kCa:=true) (kDb:=true) (cts:=[(57,sV),(93,EN),(94,EH)]) (inl:=[]) ⟨qk,FX,CA,trivial⟩ trivial)
 refine cH hE 2 Tryz.func50 rfl rfl kB lf hr ?_ rfl rfl
 unfold fh
 refine aQ (pl (decide_eq_true (aN rfl)) id) ?_
 refine aK hE 2 rfl ?_ ?_
 ·exact aR (aO [] (.inr rfl) rfl rfl rfl rfl rfl)
 refine aQ (pl (pa (decide_eq_true (aN rfl)) (decide_eq_true (aN rfl))) id) ?_
 refine dc hE 2 (let x31:=Psn.mk p.f p.r (List.take p.zs.length (List.drop 0 p.zs)) p.bl p.ca p.pa p.ha p.fu;let x30:=((uY x31 at_).getD ([],0)).fst;let x29:=(kept x31 (List.take x30.length (List.drop 0 x30))).getD [];let x28:=x29.length;fun(s8:Int×Int)=>([(2,V.ptr 1 0 0),(4,U 0),(5,I 0),(8,U s8.1),(24,V.sl 2 0 x28 (some x28)),(25,I (Int.ofNat x28)),(26,I s8.2)],[O.ints false i8 p.zs,O.cells true [I p.f,I p.r,V.sl 0 0 p.zs.length none,Bb p.bl,V.int u8 p.ca,I p.pa,I p.ha,I p.fu],O.rows true [i64,i64,i8] x29])) (fun(s17:Int)=>([(4,U 0),(5,I 0),(8,U s17)],[O.ints false i8 p.zs])) (.exit 0) ((Ent.rn [0,1,3] [2,4,5,8,24,25,26] rfl rfl rfl rfl rfl)) (fun s8=>?_) (fun s17=>?_)
 ·refine aK hE 2 rfl ?_ ?_
  ·refine bI ?_
   refine FQ id ?_
   exact cO ((Ent.rn [0,1,2] [2,4,5,8,24,25,26] rfl rfl rfl rfl rfl))
  exact cS ((Ent.rn [0] [4,5,8] rfl rfl rfl rfl rfl))
 exact aR (aO [] (.inr rfl) rfl rfl rfl rfl rfl)
theorem qz:CtOk (GGx true true) PP (50,kT):=by
 refine aD Tryz.func50 (by kernel_rfl) rfl fun a0 h0 c0 v0 N0 e hc=>?_
 unfold kT at e
 split at e
 ·rename_i p_0 p_1 p_2n p_3 p_4 p_5 p_6 p_7 at__0 p_2
  obtain⟨hl,r,hr,rfl,rfl⟩:=bJ e hc
  simp only[decide_eq_true_eq]at hl
  obtain rfl:=hl
  exact uT ⟨p_0,p_1,p_2,p_3,p_4,p_5,p_6,p_7⟩ at__0 hr
 ·cases e
def mG:Psn->List (List Int)->List (List Int)×Int->Option (List (List Int)×Int ⊕ List (List Int) ⊕ List (List Int)):=fun(p:Psn) (y4:List (List Int)) (s10:List (List Int)×Int)=>let x23:=(s10.1.length+1)*24;let x24:=decide (s10.2<Int.ofNat y4.length);let x25:=(y4.getD s10.2.toNat []).getD 1 0;let x26:=(y4.getD s10.2.toNat []).getD 2 0;let x27:=(y4.getD s10.2.toNat []).getD 0 0;let x22:=decide (0<=s10.2)&&x24;bif x24 then aX x22 (aX (decide ((List.take p.zs.length (List.drop 0 p.zs)).length<=64)&&(aC p.f p.r (List.take p.zs.length (List.drop 0 p.zs))&&cJ p.f p.r (List.take p.zs.length (List.drop 0 p.zs)) p.ca&&aj p.f p.r x27&&aj p.f p.r x25)) (dN (bif sfL (Psn.mk p.f p.r (List.take p.zs.length (List.drop 0 p.zs)) p.bl p.ca p.pa p.ha p.fu) (Mov.mk x27 x25 x26)then aX x22 (aX (decide (x23<=140737488355328)) (some (Sum.inl (s10.1++List.take 1 (List.drop 0 [iL [x27,x25,x26]])))))else some (Sum.inl s10.1)) fun(s12:List (List Int))=>some (Sum.inl (s12,i64.wrap (s10.2+1)))))else some (Sum.inr (Sum.inl s10.1))
def AK(p:Psn)(from_:Int):Option (List (List Int)):=cr (yo (Psn.mk p.f p.r (List.take p.zs.length (List.drop 0 p.zs)) p.bl p.ca p.pa p.ha p.fu) from_) [] fun(y4:List (List Int))=>cV (mG p y4) (fun(s20:List (List Int))=>some s20) 1000000 ([],0)
def wL(R:List (List Int)):V:=.sl 1 0 R.length none
def vO(R:List (List Int)):List O:=[.rows true [.i64,.i64,.i8] R]
def wU:CF
 |[.agg [.int .i64 p_0,.int .i64 p_1,.sl 0 0 p_2n none,.bool p_3,.int .u8 p_4,.int .i64 p_5,.int .i64 p_6,.int .i64 p_7],.int .i64 from__0],[.ints false .i8 p_2]=>retC (decide (p_2n=p_2.length)) (AK ⟨p_0,p_1,p_2,p_3,p_4,p_5,p_6,p_7⟩ from__0) [] wL vO
 |_,_=>none
theorem Fe(p:Psn)(from_:Int){r}(hr:AK p from_=some r):aJ (GGx kCa kDb) PP 54 [.agg [.int .i64 p.f,.int .i64 p.r,.sl 0 0 p.zs.length none,Bb p.bl,.int .u8 p.ca,.int .i64 p.pa,.int .i64 p.ha,.int .i64 p.fu],.int .i64 from_] [.ints false .i8 p.zs] (wL r) (vO r):=by
 have hE:=cutE (aB (kCa:=kCa) (kDb:=kDb) (cts:=[(98,wc),(99,wj)]) (inl:=[]) ⟨AX,Cb,trivial⟩ trivial)
 refine cH hE 2 Tryz.func54 rfl rfl wL vO hr ?_ rfl rfl
 unfold AK
 refine aQ (pl (decide_eq_true (aN rfl)) id) ?_
 refine dc hE 2 (let x32:=(yo (Psn.mk p.f p.r (List.take p.zs.length (List.drop 0 p.zs)) p.bl p.ca p.pa p.ha p.fu) from_).getD [];fun(s10:List (List Int)×Int)=>([(2,V.ptr 1 0 0),(4,V.nils),(5,V.sl 2 0 s10.1.length none),(6,V.sl 3 0 x32.length none),(7,I s10.2)],[O.ints false i8 p.zs,O.cells true [I p.f,I p.r,V.sl 0 0 p.zs.length none,Bb p.bl,V.int u8 p.ca,I p.pa,I p.ha,I p.fu],O.rows true [i64,i64,i8] s10.1,O.rows true [i64,i64,i8] x32])) (fun(s20:List (List Int))=>([(4,V.nils),(5,V.sl 1 0 s20.length none)],[O.ints false i8 p.zs,O.rows true [i64,i64,i8] s20])) (.exit 0) ((Ent.phT 5 (O.rows true [i64,i64,i8] []) rfl rfl rfl rfl rfl).trans (Ent.rn [0,1,3,2] [2,4,5,6,7] rfl rfl rfl rfl rfl)) (fun s10=>?_) (fun s20=>?_)
 ·refine aK hE 2 rfl ?_ ?_
  ·refine av rfl ?_
   refine bI ?_
   refine cN (pb (pl (decide_eq_true (aN rfl)) id) id) ?_
   refine dg hE 2 (let x35:=(yo (Psn.mk p.f p.r (List.take p.zs.length (List.drop 0 p.zs)) p.bl p.ca p.pa p.ha p.fu) from_).getD [];fun(s12:List (List Int))=>([(2,V.ptr 1 0 0),(4,V.nils),(5,V.sl 2 0 s12.length none),(6,V.sl 3 0 x35.length none),(7,I s10.2)],[O.ints false i8 p.zs,O.cells true [I p.f,I p.r,V.sl 0 0 p.zs.length none,Bb p.bl,V.int u8 p.ca,I p.pa,I p.ha,I p.fu],O.rows true [i64,i64,i8] s12,O.rows true [i64,i64,i8] x35])) rfl ?_ ?_ (fun s12=>?_)
   ·refine bI ?_
    refine cN (pr (pl (decide_eq_true rfl) id) rfl) ?_
    exact bR ((Ent.rn [0,1,5,3] [2,4,5,6,7] rfl rfl rfl rfl rfl))
   ·exact bR ((Ent.rn [0,1,2,3] [2,4,5,6,7] rfl rfl rfl rfl rfl))
   exact cO ((Ent.rn [0,1,2,3] [2,4,5,6,7] rfl rfl rfl rfl rfl))
  exact cS ((Ent.rn [0,2] [4,5] rfl rfl rfl rfl rfl))
 exact aR (aO [1] (.inr rfl) rfl rfl rfl rfl rfl)
theorem Cg:CtOk (GGx kCa kDb) PP (54,wU):=by
 refine aD Tryz.func54 (by kernel_rfl) rfl fun a0 h0 c0 v0 N0 e hc=>?_
 unfold wU at e
 split at e
 ·rename_i p_0 p_1 p_2n p_3 p_4 p_5 p_6 p_7 from__0 p_2
  obtain⟨hl,r,hr,rfl,rfl⟩:=bJ e hc
  simp only[decide_eq_true_eq]at hl
  obtain rfl:=hl
  exact Fe ⟨p_0,p_1,p_2,p_3,p_4,p_5,p_6,p_7⟩ from__0 hr
 ·cases e
def jQ:Psn->List (List Int)×Int->Option (List (List Int)×Int ⊕ List (List Int) ⊕ List (List Int)):=fun(p:Psn) (s7:List (List Int)×Int)=>bif decide (s7.2<Int.ofNat p.zs.length)then cr (AK (Psn.mk p.f p.r (List.take p.zs.length (List.drop 0 p.zs)) p.bl p.ca p.pa p.ha p.fu) s7.2) [] fun(y8:List (List Int))=>let x19:=(s7.1.length+y8.length)*24;aX (decide (x19<=140737488355328)&&!Nat.beq 2 (1-hlen ([]++[O.ints false i8 (List.take p.zs.length (List.drop 0 p.zs))])+2+1)) (some (Sum.inl (s7.1++List.take y8.length (List.drop 0 y8),i64.wrap (s7.2+1))))else some (Sum.inr (Sum.inl s7.1))
def lF(p:Psn):Option (List (List Int)):=cV (jQ p) (fun(s16:List (List Int))=>some s16) 1000000 ([],0)
def qR(R:List (List Int)):V:=.sl 1 0 R.length none
def rB(R:List (List Int)):List O:=[.rows true [.i64,.i64,.i8] R]
def mq:CF
 |[.agg [.int .i64 p_0,.int .i64 p_1,.sl 0 0 p_2n none,.bool p_3,.int .u8 p_4,.int .i64 p_5,.int .i64 p_6,.int .i64 p_7]],[.ints false .i8 p_2]=>retC (decide (p_2n=p_2.length)) (lF ⟨p_0,p_1,p_2,p_3,p_4,p_5,p_6,p_7⟩) [] qR rB
 |_,_=>none
theorem AN(p:Psn){r}(hr:lF p=some r):aJ (GGx kCa kDb) PP 43 [.agg [.int .i64 p.f,.int .i64 p.r,.sl 0 0 p.zs.length none,Bb p.bl,.int .u8 p.ca,.int .i64 p.pa,.int .i64 p.ha,.int .i64 p.fu]] [.ints false .i8 p.zs] (qR r) (rB r):=by
 have hE:=cutE (aB (kCa:=kCa) (kDb:=kDb) (cts:=[(54,wU)]) (inl:=[]) ⟨Cg,trivial⟩ trivial)
 refine cH hE 2 Tryz.func43 rfl rfl qR rB hr ?_ rfl rfl
 refine dc hE 2 (fun(s7:List (List Int)×Int)=>([(1,V.ptr 1 0 0),(2,V.nils),(3,V.sl 2 0 s7.1.length none),(4,I s7.2)],[O.ints false i8 p.zs,O.cells true [I p.f,I p.r,V.sl 0 0 p.zs.length none,Bb p.bl,V.int u8 p.ca,I p.pa,I p.ha,I p.fu],O.rows true [i64,i64,i8] s7.1])) (fun(s16:List (List Int))=>([(2,V.nils),(3,V.sl 1 0 s16.length none)],[O.ints false i8 p.zs,O.rows true [i64,i64,i8] s16])) (.exit 0) ((Ent.phT 3 (O.rows true [i64,i64,i8] []) rfl rfl rfl rfl rfl).trans (Ent.rn [0,1,2] [1,2,3,4] rfl rfl rfl rfl rfl)) (fun s7=>?_) (fun s16=>?_)
 ·refine aK hE 2 rfl ?_ ?_
  ·refine aQ (pl (decide_eq_true (aN rfl)) id) ?_
   refine cN (pb (pl (decide_eq_true rfl) id) id) ?_
   exact cO ((Ent.rn [0,1,4] [1,2,3,4] rfl rfl rfl rfl rfl))
  exact cS ((Ent.rn [0,2] [2,3] rfl rfl rfl rfl rfl))
 exact aR (aO [1] (.inr rfl) rfl rfl rfl rfl rfl)
theorem nL:CtOk (GGx kCa kDb) PP (43,mq):=by
 refine aD Tryz.func43 (by kernel_rfl) rfl fun a0 h0 c0 v0 N0 e hc=>?_
 unfold mq at e
 split at e
 ·rename_i p_0 p_1 p_2n p_3 p_4 p_5 p_6 p_7 p_2
  obtain⟨hl,r,hr,rfl,rfl⟩:=bJ e hc
  simp only[decide_eq_true_eq]at hl
  obtain rfl:=hl
  exact AN ⟨p_0,p_1,p_2,p_3,p_4,p_5,p_6,p_7⟩ hr
 ·cases e
def ga:Psn->Bool×Int->List (List Int)×Int->Bool×Int->Option (Bool×Int ⊕ Bool ⊕ Bool×Int ⊕ Bool ⊕ Bool×Int):=fun(p:Psn) (s19:Bool×Int) (y20:List (List Int)×Int)=>let x43:=Psn.mk p.f p.r (List.take p.zs.length (List.drop 0 p.zs)) p.bl p.ca p.pa p.ha p.fu;fun(s25:Bool×Int)=>let x47:=decide (s25.2<Int.ofNat y20.1.length);let x48:=y20.1.getD s25.2.toNat [];let x46:=Mov.mk (x48.getD 0 0) (x48.getD 1 0) (x48.getD 2 0);let x45:=(keeps x43 x46).getD false;bif x47 then aX (decide (0<=s25.2)&&x47) (cr (keeps x43 x46) Inhabited.default fun(_y26:Bool)=>bif x45 then some (Sum.inr (Sum.inl x45))else some (Sum.inl (x45,i64.wrap (s25.2+1))))else escO (escO (some (Sum.inl (s25.1,i64.wrap (s19.2+1)))))
def oq:Psn->(Psn->Bool×Int->List (List Int)×Int->Bool×Int->Option (Bool×Int ⊕ Bool ⊕ Bool×Int ⊕ Bool ⊕ Bool×Int))->Bool×Int->Option (Bool×Int ⊕ Bool ⊕ Bool×Int):=fun(p:Psn) (ga:Psn->Bool×Int->List (List Int)×Int->Bool×Int->Option (Bool×Int ⊕ Bool ⊕ Bool×Int ⊕ Bool ⊕ Bool×Int)) (s19:Bool×Int)=>bif decide (s19.2<Int.ofNat p.zs.length)then cr (uY (Psn.mk p.f p.r (List.take p.zs.length (List.drop 0 p.zs)) p.bl p.ca p.pa p.ha p.fu) s19.2) ([],0) fun(y20:List (List Int)×Int)=>cV (ga p s19 y20) (fun(s34:Bool)=>some (Sum.inr (Sum.inl s34))) 1000000 (s19.1,0)else some (Sum.inr (Sum.inl s19.1))
def lany(p:Psn):Option (Bool×Int):=let x56:=List.take p.zs.length (List.drop 0 p.zs);let x55:=x56.length;aX (decide (x55<=64)) (bif !(Psn.mk p.f p.r x56 p.bl p.ca p.pa p.ha p.fu).ok then some (false,2)else cV (oq p ga) (fun(s42:Bool)=>some (s42,0)) 1000000 (false,0))
def Gp(R:Bool×Int):V:=.tup [Bb R.1,.int .i64 R.2]
def Ci(_R:Bool×Int):List O:=[]
def DU:CF
 |[.agg [.int .i64 p_0,.int .i64 p_1,.sl 0 0 p_2n none,.bool p_3,.int .u8 p_4,.int .i64 p_5,.int .i64 p_6,.int .i64 p_7]],[.ints false .i8 p_2]=>retC (decide (p_2n=p_2.length)) (lany ⟨p_0,p_1,p_2,p_3,p_4,p_5,p_6,p_7⟩) (false,0) Gp Ci
 |_,_=>none
theorem Jj(p:Psn){r}(hr:lany p=some r):aJ (GGx true true) PP 27 [.agg [.int .i64 p.f,.int .i64 p.r,.sl 0 0 p.zs.length none,Bb p.bl,.int .u8 p.ca,.int .i64 p.pa,.int .i64 p.ha,.int .i64 p.fu]] [.ints false .i8 p.zs] (Gp r) (Ci r):=by
 have hE:=cutE (aB (kCa:=true) (kDb:=true) (cts:=[(33,ei),(57,sV),(58,rO)]) (inl:=[]) ⟨cQ,qk,pW,trivial⟩ trivial)
 refine cH hE 2 Tryz.func27 rfl rfl Gp Ci hr ?_ rfl rfl
 refine cN (pl (decide_eq_true (aN rfl)) id) ?_
 refine aK hE 2 rfl ?_ ?_
 ·exact aR (aO [] (.inr rfl) rfl rfl rfl rfl rfl)
 refine dc hE 2 (fun(s19:Bool×Int)=>([(1,V.ptr 1 0 0),(2,Bb false),(3,I 0),(4,Bb s19.1),(15,I (Int.ofNat p.zs.length)),(16,I s19.2)],[O.ints false i8 p.zs,O.cells true [I p.f,I p.r,V.sl 0 0 p.zs.length none,Bb p.bl,V.int u8 p.ca,I p.pa,I p.ha,I p.fu]])) (fun(s42:Bool)=>([(2,Bb false),(3,I 0),(4,Bb s42)],[O.ints false i8 p.zs])) (.exit 0) ((Ent.rn [0,1] [1,2,3,4,15,16] rfl rfl rfl rfl rfl)) (fun s19=>?_) (fun s42=>?_)
 ·refine aK hE 2 rfl ?_ ?_
  ·refine aQ (pl (decide_eq_true (aN rfl)) id) ?_
   refine dc hE 2 (let x61:=((uY (Psn.mk p.f p.r (List.take p.zs.length (List.drop 0 p.zs)) p.bl p.ca p.pa p.ha p.fu) s19.2).getD ([],0)).fst;let x60:=x61.length;fun(s25:Bool×Int)=>([(1,V.ptr 1 0 0),(2,Bb false),(3,I 0),(4,Bb s25.1),(15,I (Int.ofNat p.zs.length)),(16,I s19.2),(25,V.sl 2 0 x60 none),(26,I (Int.ofNat x60)),(27,I s25.2)],[O.ints false i8 p.zs,O.cells true [I p.f,I p.r,V.sl 0 0 p.zs.length none,Bb p.bl,V.int u8 p.ca,I p.pa,I p.ha,I p.fu],O.rows true [i64,i64,i8] x61])) (fun(s34:Bool)=>([(1,V.ptr 1 0 0),(2,Bb false),(3,I 0),(4,Bb s34),(15,I (Int.ofNat p.zs.length)),(16,I s19.2)],[O.ints false i8 p.zs,O.cells true [I p.f,I p.r,V.sl 0 0 p.zs.length none,Bb p.bl,V.int u8 p.ca,I p.pa,I p.ha,I p.fu]])) (.exit 0) ((Ent.rn [0,1,2] [1,2,3,4,15,16,25,26,27] rfl rfl rfl rfl rfl)) (fun s25=>?_) (fun s34=>?_)
   ·refine aK hE 2 rfl ?_ ?_
    ·refine bI ?_
     refine aQ (pl (decide_eq_true (aN rfl)) id) ?_
     refine aK hE 2 rfl ?_ ?_
     ·exact cS ((Ent.rn [0,1] [1,2,3,4,15,16] rfl rfl rfl rfl rfl))
     exact cO ((Ent.rn [0,1,2] [1,2,3,4,15,16,25,26,27] rfl rfl rfl rfl rfl))
    refine pM (by simp) (kP ?_)
    exact cO ((Ent.rn [0,1] [1,2,3,4,15,16] rfl rfl rfl rfl rfl))
   exact cS ((Ent.rn [0] [2,3,4] rfl rfl rfl rfl rfl))
  exact cS ((Ent.rn [0] [2,3,4] rfl rfl rfl rfl rfl))
 exact aR (aO [] (.inr rfl) rfl rfl rfl rfl rfl)
theorem Gg:CtOk (GGx true true) PP (27,DU):=by
 refine aD Tryz.func27 (by kernel_rfl) rfl fun a0 h0 c0 v0 N0 e hc=>?_
 unfold DU at e
 split at e
 ·rename_i p_0 p_1 p_2n p_3 p_4 p_5 p_6 p_7 p_2
  obtain⟨hl,r,hr,rfl,rfl⟩:=bJ e hc
  simp only[decide_eq_true_eq]at hl
  obtain rfl:=hl
  exact Jj ⟨p_0,p_1,p_2,p_3,p_4,p_5,p_6,p_7⟩ hr
 ·cases e
end
end Go.Ab
namespace Go.Ab
open Go.Proofs
section
theorem jy{β σ ξ α:Type}{step:σ×Int->Option (σ×Int ⊕ (ξ ⊕ α))}{F:ξ->Option α}(l:List β)(f:σ->β->σ)(out:σ->ξ)(inv:Nat->σ->Prop)
  (hs:∀ (j:Nat) (x:β) (s:σ),l[j]?=some x->inv j s->step (s,(j:Int))=some (.inl (f s x,((j+1:Nat):Int)))/\inv (j+1) (f s x))
  (he:∀ s,inv l.length s->step (s,(l.length:Int))=some (.inr (.inl (out s)))) :
  ∀ (k fuel j:Nat) (s:σ),j+k=l.length->k<fuel->inv j s->cV step F fuel (s,(j:Int))=F (out ((l.drop j).foldl f s))
 |k,0,j,s,_,h,_=>absurd h (by omega)
 |0,fuel+1,j,s,h,_,hi=>by
  have h0:j=l.length:=by omega
  subst h0
  rw[cF (he s hi),List.drop_length];rfl
 |k+1,fuel+1,j,s,h,hf,hi=>by
  have hj:j<l.length:=by omega
  obtain⟨h1,h2⟩:=hs j l[j] s (List.getElem?_eq_getElem hj) hi
  rw[bn h1,jy l f out inv hs he k fuel (j+1) _ (by omega) (by omega) h2,List.drop_eq_getElem_cons hj,List.foldl_cons]
theorem fZ{β:Type}(q:β->Bool):∀ (l acc:List β),l.foldl (fun acc x=>bif q x then acc++[x]else acc) acc=acc++l.filter q
 |[],acc=>by simp
 |x::l,acc=>by
  rw[List.foldl_cons,fZ q l,List.filter_cons]
  cases q x<;>simp
theorem pK{β γ:Type}(g:β->List γ):∀ (l:List β) (acc:List γ),l.foldl (fun acc x=>acc++g x) acc=acc++l.flatMap g
 |[],acc=>by simp
 |x::l,acc=>by rw[List.foldl_cons,pK g l,List.flatMap_cons,List.append_assoc]
def mvR(r:List Int):Mov:=⟨r.getD 0 0,r.getD 1 0,r.getD 2 0⟩
section
variable{p:Psn}
def xm(p:Psn)(r:List Int):Prop:=∃ a b pr,r=[a,b,pr]/\canM p a b pr=true
def legF(p:Psn)(r:List Int):Bool:=!err4 p (mvR r)
theorem Kb{a:Int}{r:List Int}(h:r∈psL p a):∃ b pr,r=[a,b,pr]/\canM p a b pr=true:=by
 unfold psL ke at h
 simp only[List.mem_flatMap,List.mem_map,List.mem_filter]at h
 obtain⟨b,_,pr,⟨_,h2⟩,rfl⟩:=h
 exact⟨b,pr,rfl,h2⟩
theorem Cm{a:Int}{r:List Int}(h:r∈psL p a):xm p r:=let ⟨b,pr,h1,h2⟩:=Kb h;⟨a,b,pr,h1,h2⟩
theorem xK{r:List Int}(h:r∈allL p):xm p r:=by
 unfold allL at h
 obtain⟨a,_,h⟩:=List.mem_flatMap.1 h
 exact Cm h
theorem Cu{a b pr:Int}(h:canM p a b pr=true):mvB p.f p.r a b pr=true:=by
 cases hm:mvB p.f p.r a b pr with
 |true=>rfl
 |false=>rw[JK hm]at h;cases h
theorem GH(o:PsH p){a b pr:Int}(h:canM p a b pr=true):keeps p ⟨a,b,pr⟩=some (legF p [a,b,pr]):=by
 have h1:decide (p.zs.length<=64)=true:=by simpa using o.hl
 unfold keeps
 simp only[List.drop_zero,List.take_length,bC,h1,aS]
 rw[LN (m:=⟨a,b,pr⟩) o.ok (Cu h)]
 unfold legM legF mvR
 rw[h];rfl
theorem GB(o:PsH p){a:Int}:AK p a=some ((psL p a).filter (legF p)):=by
 have hpl:=iH (p:=p) (a:=a) o.hl
 unfold AK
 simp only[List.drop_zero,List.take_length,bC,HU o]
 rw[aP]
 refine(jy (step:=mG p (psL p a)) (psL p a) (fun acc x=>bif legF p x then acc++[x]else acc) (fun s=>s) (fun j s=>s.length<=j) ?_ ?_ (psL p a).length 1000000 0 [] (by omega) (by omega) (by simp)).trans ?_
 rotate_left 2
 ·rw[List.drop_zero,fZ,List.nil_append]
 ·intro j x s hx hi
  obtain⟨a',b,pr,rfl,hc⟩:=Cm (List.mem_of_getElem? hx)
  have hj:=(List.getElem?_eq_some_iff.1 hx).1
  have e1:(psL p a).getD (j:Int).toNat []=[a',b,pr]:=by simp[List.getD,hx]
  have h1:decide ((j:Int)<Int.ofNat (psL p a).length)=true:=by simp;omega
  have h2:decide (0<=(j:Int))=true:=by simp
  have h3:decide ((s.length+1)*24<=140737488355328)=true:=by simp;omega
  have h4:decide (p.zs.length<=64)=true:=by simpa using o.hl
  have k:=gT (m:=⟨a',b,pr⟩) o hc
  have hv:(aC p.f p.r p.zs&&cJ p.f p.r p.zs p.ca&&aj p.f p.r a'&&aj p.f p.r b)=true:=by rw[k.bd,cast_eq k.ca,k.cast,k.ha,k.hb];rfl
  have hsf:sfL p ⟨a',b,pr⟩=legF p [a',b,pr]:=MB o (m:=⟨a',b,pr⟩) hc
  refine⟨?_,?_⟩
  ·unfold mG
   simp only[List.drop_zero,List.take_length,bC,e1,h1,h2,h3,h4,cond_true,Bool.and_self,aS]
   rw[show ([a',b,pr]:List Int).getD 0 0=a' from rfl,show ([a',b,pr]:List Int).getD 1 0=b from rfl,show ([a',b,pr]:List Int).getD 2 0=pr from rfl,hv,hsf,show IntKind.i64.wrap ((j:Int)+1)=((j+1:Nat):Int)from ay (by omega) (by omega)]
   cases legF p [a',b,pr]<;>rfl
  ·cases legF p [a',b,pr]<;>simp<;>omega
 ·intro s _
  have h1:decide (((psL p a).length:Int)<Int.ofNat (psL p a).length)=false:=by simp
  unfold mG
  simp only[h1,cond_false]
theorem um(o:PsH p):lF p=some ((allL p).filter (legF p)):=by
 have hl:=o.hl
 unfold lF
 refine(jy (step:=jQ p) (List.range p.zs.length) (fun acc (j:Nat)=>acc++(psL p j).filter (legF p)) (fun s=>s) (fun j s=>s.length<=320*j) ?_ ?_ p.zs.length 1000000 0 [] (by simp) (by omega) (by simp)).trans ?_
 rotate_left 2
 ·rw[List.drop_zero,pK,List.nil_append]
  unfold allL
  rw[List.filter_flatMap,List.flatMap_map]
  rfl
 ·intro j x s hx hi
  obtain⟨hj,hx⟩:=List.getElem?_eq_some_iff.1 hx
  simp only[List.length_range,List.getElem_range]at hj hx
  subst hx
  have hp:=iH (p:=p) (a:=(j:Int)) hl
  have hf:((psL p j).filter (legF p)).length<=320:=Nat.le_trans (List.length_filter_le _ _) hp
  have h1:decide ((j:Int)<Int.ofNat p.zs.length)=true:=by simp;omega
  have h2:decide ((s.length+((psL p j).filter (legF p)).length)*24<=140737488355328)=true:=by simp;omega
  refine⟨?_,by rw[List.length_append];omega⟩
  unfold jQ
  simp only[List.drop_zero,List.take_length,bC,h1,cond_true,GB o,aP,h2]
  rw[show IntKind.i64.wrap ((j:Int)+1)=((j+1:Nat):Int)from ay (by omega) (by omega)]
  rfl
 ·intro s _
  have h1:decide (((List.range p.zs.length).length:Int)<Int.ofNat p.zs.length)=false:=by simp
  unfold jQ
  simp only[h1,cond_false]
theorem MI(o:PsH p){l:List (List Int)}(hl:l.length<=100000)(hr:∀ r∈l,xm p r){s:Bool×Int}(hs0:0<=s.2)(hs1:s.2<1000){e:Int}{F:Bool->Option (Bool×Int ⊕ Bool ⊕ Bool×Int)}:∀ (k fuel j:Nat),j+k=l.length->k<fuel ->
  cV (ga p s (l,e)) F fuel (false,(j:Int))=bif (l.drop j).any (legF p)then F true else some (.inl (false,s.2+1))
 |k,0,j,_,h=>absurd h (by omega)
 |0,fuel+1,j,h,_=>by
  have h1:decide ((j:Int)<Int.ofNat l.length)=false:=by simp;omega
  rw[iX (r:=.inl (false,s.2+1))]
  ·rw[List.drop_eq_nil_of_le (by omega)];rfl
  ·unfold ga
   simp only[h1,cond_false]
   rw[show IntKind.i64.wrap (s.2+1)=s.2+1 from ay (by omega) (by omega)];rfl
 |k+1,fuel+1,j,h,hf=>by
  have hj:j<l.length:=by omega
  obtain⟨a,b,pr,hx,hc⟩:=hr l[j] (List.getElem_mem hj)
  have e1:l.getD (j:Int).toNat []=[a,b,pr]:=by simp[List.getD,hj,hx]
  have h1:decide ((j:Int)<Int.ofNat l.length)=true:=by simp;omega
  have h2:decide (0<=(j:Int))=true:=by simp
  have hk:=GH o hc
  have hst:ga p s (l,e) (false,(j:Int))=bif legF p [a,b,pr]then some (.inr (.inl true))else some (.inl (false,((j+1:Nat):Int))):=by
   unfold ga
   simp only[List.drop_zero,List.take_length,bC,e1,h1,h2,cond_true,Bool.and_self,aS]
   rw[show ([a,b,pr]:List Int).getD 0 0=a from rfl,show ([a,b,pr]:List Int).getD 1 0=b from rfl,show ([a,b,pr]:List Int).getD 2 0=pr from rfl,hk,aP,Option.getD_some,show IntKind.i64.wrap ((j:Int)+1)=((j+1:Nat):Int)from ay (by omega) (by omega)]
   cases legF p [a,b,pr]<;>rfl
  rw[List.drop_eq_getElem_cons hj,List.any_cons,hx]
  cases hq:legF p [a,b,pr] with
  |true=>rw[cF (x:=true) (by rw[hst,hq];rfl)];rfl
  |false=>rw[bn (s':=(false,((j+1:Nat):Int))) (by rw[hst,hq];rfl),MI o hl hr hs0 hs1 k fuel (j+1) (by omega) (by omega)];rfl
theorem Mv(o:PsH p){j:Nat}(hj:j<p.zs.length):oq p ga (false,(j:Int))=bif (psL p j).any (legF p)then some (.inr (.inl true))else some (.inl (false,((j+1:Nat):Int))):=by
 have hl:=o.hl
 have hpl:=iH (p:=p) (a:=(j:Int)) hl
 have h1:decide ((j:Int)<Int.ofNat p.zs.length)=true:=by simp;omega
 have hv:aj p.f p.r (j:Int)=true:=(bN o.bd).2 ⟨by omega,by omega⟩
 unfold oq
 simp only[List.drop_zero,List.take_length,bC,h1,cond_true,HN o hv]
 rw[aP]
 have:=MI o (l:=psL p j) (by omega) (fun r h=>Cm h) (s:=(false,(j:Int))) (by simp) (by simp;omega) (e:=0) (F:=fun s34=>some (.inr (.inl s34))) (psL p j).length 1000000 0 (by omega) (by omega)
 rw[List.drop_zero]at this
 exact this
theorem Js(o:PsH p){F:Bool->Option (Bool×Int)}:∀ (k fuel j:Nat),j+k=p.zs.length->k<fuel ->
  cV (oq p ga) F fuel (false,(j:Int))=F ((List.range' j k).any fun x=>(psL p x).any (legF p))
 |k,0,j,_,h=>absurd h (by omega)
 |0,fuel+1,j,h,_=>by
  have h1:decide ((j:Int)<Int.ofNat p.zs.length)=false:=by simp;omega
  rw[cF (x:=false)]
  ·rfl
  ·unfold oq;simp only[h1,cond_false]
 |k+1,fuel+1,j,h,hf=>by
  have hl:=o.hl
  have hpl:=iH (p:=p) (a:=(j:Int)) hl
  have h1:decide ((j:Int)<Int.ofNat p.zs.length)=true:=by simp;omega
  have hv:aj p.f p.r (j:Int)=true:=(bN o.bd).2 ⟨by omega,by omega⟩
  have hst:=Mv o (j:=j) (by omega)
  rw[List.range'_succ,List.any_cons]
  cases hq:(psL p j).any (legF p) with
  |true=>rw[cF (x:=true) (by rw[hst,hq];rfl)];rfl
  |false=>rw[bn (s':=(false,((j+1:Nat):Int))) (by rw[hst,hq];rfl),Js o k fuel (j+1) (by omega) (by omega)];rfl
theorem Ln(o:PsH p):lany p=some ((allL p).any (legF p),0):=by
 have hl:=o.hl
 have h1:decide (p.zs.length<=64)=true:=by simpa using hl
 unfold lany
 simp only[List.drop_zero,List.take_length,bC,h1,o.ok,aS,Bool.not_true,cond_false]
 have:=Js o (F:=fun s42=>some (s42,0)) p.zs.length 1000000 0 (by omega) (by omega)
 refine this.trans ?_
 unfold allL
 rw[List.any_flatMap,List.any_map,List.range_eq_range']
 rfl
end
end
section
def fR4(k1 k2 k3 k4:Bool):Int:=bif k4 then u8or (bif k3 then u8or (bif k2 then u8or (bif k1 then u8or 0 1 else 0) 2 else(bif k1 then u8or 0 1 else 0)) 4 else(bif k2 then u8or (bif k1 then u8or 0 1 else 0) 2 else(bif k1 then u8or 0 1 else 0))) 8 else(bif k3 then u8or (bif k2 then u8or (bif k1 then u8or 0 1 else 0) 2 else(bif k1 then u8or 0 1 else 0)) 4 else(bif k2 then u8or (bif k1 then u8or 0 1 else 0) 2 else(bif k1 then u8or 0 1 else 0)))
def gR1(ca bit:Int)(k:Bool):Int:=bif decide ((IntKind.u8.wrap (ca.tdiv bit)).tmod 2=1)&&k then IntKind.u8.wrap (ca-bit)else ca
theorem Bm:∀ ca:_root_.Fin 16,∀ a1 a2 a3 a4 b1 b2 b3 b4:Bool,jD (ca.val:Int) (u8or (fR4 a1 a2 a3 a4) (fR4 b1 b2 b3 b4))=gR1 (gR1 (gR1 (gR1 (ca.val:Int) 1 (a1||b1)) 2 (a2||b2)) 4 (a3||b3)) 8 (a4||b4):=by decide +kernel
theorem DF{ca a b:Int}(h:0<=ca/\ca<=15):afC ca a b=caR ca a b:=by
 obtain⟨q1,q2,q3,q4,q5,q6,q7,q8⟩:=sqs
 obtain⟨p1,p2,p3,p4,p5,p6,p7,p8⟩:=sq01
 have hl:∀ at_,DP at_=fR4 (decide (4=at_)||decide (7=at_)) (decide (4=at_)||decide (0=at_)) (decide (60=at_)||decide (63=at_)) (decide (60=at_)||decide (56=at_)):=fun at_=>rfl
 have hs:∀ c bit k q,sqW bit 0=k->sqW bit 2=q->afS c a b bit=gR1 c bit ((decide (k=a)||decide (q=a))||(decide (k=b)||decide (q=b))):=by
  intro c bit k q h0 h2
  unfold afS gR1 hasL
  rw[h0,h2]
  unfold hasL hasL
  simp only[Bool.or_false]
 have:=Bm ⟨ca.toNat,by omega⟩ (decide (4=a)||decide (7=a)) (decide (4=a)||decide (0=a)) (decide (60=a)||decide (63=a)) (decide (60=a)||decide (56=a)) (decide (4=b)||decide (7=b)) (decide (4=b)||decide (0=b)) (decide (60=b)||decide (63=b)) (decide (60=b)||decide (56=b))
 unfold afC caR
 rw[hl,hl,hs _ 1 4 7 p1 q1,hs _ 2 4 0 p3 q3,hs _ 4 60 63 p5 q5,hs _ 8 60 56 p7 q7]
 dsimp only at this
 rw[show ((ca.toNat:Nat):Int)=ca by omega]at this
 exact this.symm
section
variable{p:Psn}{m:Mov}
theorem MvOk.pas(o:MvOk p m):afPa p.f p.r p.zs m.a m.b=paR p.f p.zs m.a m.b:=by
 unfold afPa paR twoB
 rw[o.kd]
 cases hk:decide (aW (p.zs.getD m.a.toNat 0)=1) with
 |false=>rfl
 |true=>
  obtain⟨a0,a1,a2,a3,a4,a5,a6⟩:=dM o.ha
  obtain⟨b0,b1,b2,b3,b4,b5,_⟩:=dM o.hb
  have hla:=aL o.ha
  have hlb:=aL o.hb
  have hfw:fwd p.bl=1\/fwd p.bl=-1:=by cases p.bl<;>simp[fwd]
  rw[pc_w o.hb o.ha,pc_w o.ha o.hb,a0,b0,ay (n:=m.b-m.a) (by omega) (by omega),ay (n:=2*p.f) (by omega) (by omega),ay (n:=-2*p.f) (by omega) (by omega)]
  simp only[Bool.true_and]
  have hdiff:m.b-m.a=(px p.f m.b-px p.f m.a)+(py p.f m.b*p.f-py p.f m.a*p.f):=by omega
  have one:∀ d:Int,(d=1\/d=-1)->py p.f m.b=py p.f m.a+d->(-1<=px p.f m.b-px p.f m.a/\px p.f m.b-px p.f m.a<=1)->(decide (py p.f m.a-py p.f m.b=2)||decide (py p.f m.b-py p.f m.a=2))=false/\(decide (m.b-m.a=2*p.f)||decide (m.b-m.a=-2*p.f))=false:=by
   intro d hd hy hx
   have:py p.f m.b*p.f=py p.f m.a*p.f+d*p.f:=by rw[hy,Int.add_mul]
   constructor
   ·rw[decide_eq_false (by omega),decide_eq_false (by omega)];rfl
   ·rcases hd with rfl|rfl<;>rw[decide_eq_false (by omega),decide_eq_false (by omega)]<;>rfl
  rcases(o.steps (of_decide_eq_true hk)).1 with h|h
  ·obtain⟨e1,h2⟩:=xb o.ha o.hb h
   rcases h2 with e2|⟨e2,_,_,e5,_⟩
   ·obtain⟨g1,g2⟩:=one (fwd p.bl) hfw e2 (by omega)
    rw[g1,g2];rfl
   ·have hmul:py p.f m.b*p.f=py p.f m.a*p.f+2*(fwd p.bl*p.f):=by rw[e2,Int.add_mul,Int.mul_assoc]
    have hd2:m.b-m.a=2*(fwd p.bl*p.f):=by omega
    have g1:(decide (py p.f m.a-py p.f m.b=2)||decide (py p.f m.b-py p.f m.a=2))=true:=by
     rcases hfw with e|e
     ·rw[decide_eq_true (p:=py p.f m.b-py p.f m.a=2) (by omega),Bool.or_true]
     ·rw[decide_eq_true (p:=py p.f m.a-py p.f m.b=2) (by omega),Bool.true_or]
    have g2:(decide (m.b-m.a=2*p.f)||decide (m.b-m.a=-2*p.f))=true:=by
     rcases hfw with e|e<;>rw[e]at hd2
     ·rw[decide_eq_true (p:=m.b-m.a=2*p.f) (by omega),Bool.true_or]
     ·rw[decide_eq_true (p:=m.b-m.a=-2*p.f) (by omega),Bool.or_true]
    rw[g1,g2,cond_true,cond_true,hd2,Int.mul_tdiv_cancel_left _ (by decide)]
    have hr:m.b-fwd p.bl*p.f=m.a+fwd p.bl*p.f:=by omega
    have hlc:=aL e5
    rw[hr]at e5 hlc
    rw[ay (n:=fwd p.bl*p.f) (by omega) (by omega),ay (n:=m.a+fwd p.bl*p.f) (by omega) (by omega)]
    have hy:py p.f m.a+py p.f m.b=2*(py p.f m.a+fwd p.bl):=by omega
    rw[ay (n:=py p.f m.a+py p.f m.b) (by omega) (by omega),hy,Int.mul_tdiv_cancel_left _ (by decide),ay (n:=py p.f m.a+fwd p.bl) (by omega) (by omega)]
    obtain⟨_,c1,c2,c3,c4,c5,_⟩:=dM e5
    have hu:=nj (f:=p.f) (by omega) c1 c2 a1 a2 (show px p.f (m.a+fwd p.bl*p.f)+py p.f (m.a+fwd p.bl*p.f)*p.f=px p.f m.a+(py p.f m.a+fwd p.bl)*p.f by rw[c5,Int.add_mul];omega)
    have ho:onB p.f p.r (m.a.tmod p.f) (py p.f m.a+fwd p.bl)=true:=jC a1 a2 (by omega) (by omega)
    exact(iV (bM o.ha) ho e5).2 ⟨hu.1,hu.2⟩
  ·have hat:=h.1
   simp only[dK,Bool.and_eq_true,Bool.or_eq_true,decide_eq_true_eq]at hat
   rw[pc_w o.ha o.hb]at hat
   have e1:m.a.tmod p.f=px p.f m.a:=rfl
   have e2:m.b.tmod p.f=px p.f m.b:=rfl
   rw[e1,e2,ay (n:=px p.f m.b-px p.f m.a) (by omega) (by omega),ay (n:=px p.f m.a-px p.f m.b) (by omega) (by omega)]at hat
   obtain⟨g1,g2⟩:=one (fwd p.bl) hfw (by omega) (by omega)
   rw[g1,g2];rfl
theorem MvOk.half(o:MvOk p m):afHa p.f p.r p.zs p.pa p.ha m.a m.b=haR p.f p.zs p.pa p.ha m.a m.b:=by
 unfold afHa haR
 rw[o.kd,o.cap.1]
 have:decide (0<=at2R p.f p.zs p.pa m.a m.b)=!decide (capR p.f p.zs p.pa m.a m.b=0):=by
  by_cases h:0<=at2R p.f p.zs p.pa m.a m.b
  ·rw[decide_eq_true h,decide_eq_false (o.cap.2.2.2 h)];rfl
  ·rw[decide_eq_false h,decide_eq_true (o.cap.2.2.1 (by omega)).2.1];rfl
 rw[this]
theorem MvOk.caB(o:MvOk p m):0<=p.ca/\p.ca<=15:=by
 have:=o.cast
 simp only[eD,Bool.and_eq_true,decide_eq_true_eq]at this
 exact⟨o.ca,by omega⟩
theorem MvOk.after(o:MvOk p m):afP p m=⟨p.f,p.r,zs3R p.f p.r p.zs p.bl p.ca p.pa m.a m.b m.p,!p.bl,caR p.ca m.a m.b,paR p.f p.zs m.a m.b,haR p.f p.zs p.pa p.ha m.a m.b,fuR p.bl p.fu⟩:=by
 unfold afP
 rw[o.af,o.pas,o.half,DF o.caB]
theorem mvok{p:Psn}{m:Mov}(hl:p.zs.length<=64)(hca:0<=p.ca)(h1:err1 p m=false)(h2:isP (p.zs.getD m.a.toNat 0) p.bl=true)(h3:err3 p m=false):MvOk p m:=by
 simp only[err1,Bool.or_eq_false_iff,Bool.not_eq_false']at h1
 obtain⟨hok,hmv⟩:=h1
 simp only[mvB,Bool.and_eq_true,Bool.or_eq_true,decide_eq_true_eq,Bool.not_eq_true',decide_eq_false_iff_not]at hmv
 obtain⟨⟨⟨ha,hb⟩,hab⟩,hpr⟩:=hmv
 have ho:aV p.f p.r p.zs=true:=by
  have hk:=hok
  simp only[Psn.ok,eF,Bool.and_eq_true,decide_eq_true_eq]at hk
  cases h:aV p.f p.r p.zs with
  |true=>rfl
  |false=>have:=hk.1.1.1.1.2.1.1;unfold bT at this;rw[h]at this;cases this
 exact⟨ho,hl,hok,hca,ha,hb,hab,hpr,h2,h3⟩
end
end
section
theorem jo{l:List Int}{j i:Nat}{v:Int}:(l.set j v).getD i 0=if i=j/\j<l.length then v else l.getD i 0:=by
 by_cases hj:j<l.length
 ·by_cases e:i=j
  ·subst e;simp[List.getD,hj]
  ·rw[if_neg (fun h=>e h.1)];simp[List.getD,List.getElem?_set_ne (Ne.symm e)]
 ·rw[if_neg (fun h=>hj h.2),List.set_eq_of_length_le (by omega)]
theorem Oi{p:Psn}{m:Mov}(hl:p.zs.length<=64)(hca:0<=p.ca)(h:mkE5 p m=0):MvOk p m/\err4 p m=false/\err5 p m=false:=by
 unfold mkE5 at h
 cases h1:err1 p m with
 |true=>rw[h1]at h;cases h
 |false=>
  rw[h1]at h
  cases h2:isP (p.zs.getD m.a.toNat 0) p.bl with
  |false=>rw[h2]at h;cases h
  |true=>
   rw[h2]at h
   cases h3:err3 p m with
   |true=>rw[h3]at h;cases h
   |false=>
    rw[h3]at h
    cases h4:err4 p m with
    |true=>rw[h4]at h;cases h
    |false=>
     rw[h4]at h
     cases h5:err5 p m with
     |true=>rw[h5]at h;cases h
     |false=>exact⟨mvok hl hca h1 h2 h3,rfl,rfl⟩
def qd(p:Psn)(m:Mov)(bl:Bool)(bit k to cor cro:Int):Prop:=p.bl=bl/\cw p.ca bit≠0/\m.a=k/\m.b=to/\wCor (wayN p.zs p.bl p.ca m.a m.b)=cor/\wCro (wayN p.zs p.bl p.ca m.a m.b)=cro/\p.zs.getD cro.toNat 0=0/\p.zs.getD to.toNat 0=0
section
variable{p:Psn}{m:Mov}
theorem MvOk.cast4(o:MvOk p m)(hn:wayN p.zs p.bl p.ca m.a m.b≠4):p.f=8/\p.r=8/\p.zs.length=64/\aW (p.zs.getD m.a.toNat 0)=6/\m.p=0/\cstR p.f p.r p.zs p.bl p.ca p.pa m.a m.b m.p=true /\
  (qd p m false 1 4 6 7 5\/qd p m false 2 4 2 0 3\/qd p m true 4 60 62 63 61\/qd p m true 8 60 58 56 59):=by
 obtain⟨hk,hp0,hg⟩:=o.wayg hn
 obtain⟨h88,h64,_⟩:=kW (a:=m.a) (b:=m.b) (bl:=p.bl) o.bd o.cast hn
 simp only[is88,Bool.and_eq_true,decide_eq_true_eq]at h88
 have hw:wayB p.f p.r p.zs (wayN p.zs p.bl p.ca m.a m.b)=true:=by
  have:=o.so
  simp only[err3,hg,Bool.not_false,Bool.true_and,Bool.or_eq_false_iff,Bool.not_eq_false']at this
  exact this.2.1
 refine⟨h88.1,h88.2,h64,hk,hp0,by unfold cstR;rw[hw,hg];rfl,?_⟩
 have hbd:=o.bd
 rw[h88.1,h88.2]at hw hbd
 have key:∀ {n:Nat} {l:List Int},wayN p.zs p.bl p.ca m.a m.b=n->aj 8 8 (lV n)=true->aj 8 8 (wCor n)=true->(bx 8 (lV n) (wCor n)).2.2=true->bU 8 8 (lV n) (wCor n)=l->cG p.zs l=true:=by
  rintro n l hn v1 v2 v3 rfl
  rw[hn]at hw
  simp only[wayB,Bool.and_eq_true]at hw
  rw[empty_eq hbd o.hl v1 v2 v3]
  exact hw.2
 unfold qd
 obtain⟨_,hsq⟩:=FW hn
 rcases hsq with⟨hn,e1,e2,e3,e4⟩|⟨hn,e1,e2,e3,e4⟩|⟨hn,e1,e2,e3,e4⟩|⟨hn,e1,e2,e3,e4⟩
 ·have k1:=key (l:=[5,6]) hn (by decide) (by decide) (by decide) (by kernel_rfl)
  simp only[cG,List.all_cons,List.all_nil,Bool.and_true,Bool.and_eq_true,decide_eq_true_eq]at k1
  exact .inl ⟨e1,e2,e3,e4,by rw[hn];rfl,by rw[hn];rfl,k1.1,k1.2⟩
 ·have k1:=key (l:=[3,2,1]) hn (by decide) (by decide) (by decide) (by kernel_rfl)
  simp only[cG,List.all_cons,List.all_nil,Bool.and_true,Bool.and_eq_true,decide_eq_true_eq]at k1
  exact .inr (.inl ⟨e1,e2,e3,e4,by rw[hn];rfl,by rw[hn];rfl,k1.1,k1.2.1⟩)
 ·have k1:=key (l:=[61,62]) hn (by decide) (by decide) (by decide) (by kernel_rfl)
  simp only[cG,List.all_cons,List.all_nil,Bool.and_true,Bool.and_eq_true,decide_eq_true_eq]at k1
  exact .inr (.inr (.inl ⟨e1,e2,e3,e4,by rw[hn];rfl,by rw[hn];rfl,k1.1,k1.2⟩))
 ·have k1:=key (l:=[59,58,57]) hn (by decide) (by decide) (by decide) (by kernel_rfl)
  simp only[cG,List.all_cons,List.all_nil,Bool.and_true,Bool.and_eq_true,decide_eq_true_eq]at k1
  exact .inr (.inr (.inr ⟨e1,e2,e3,e4,by rw[hn];rfl,by rw[hn];rfl,k1.1,k1.2.1⟩))
theorem MvOk.at_cast(o:MvOk p m)(hk:aW (p.zs.getD m.a.toNat 0)=6)(hb:p.zs.getD m.b.toNat 0=0):at2R p.f p.zs p.pa m.a m.b=-1:=by
 have he:epB p.zs p.pa m.a m.b=false:=by unfold epB;rw[o.kd,hk];rfl
 unfold at2R capR at1R
 rw[he,cond_false,hb];rfl
end
theorem mk_p{p:Psn}{m:Mov}(h:mkE5 p m=0):mkP p m=⟨p.f,p.r,zs3R p.f p.r p.zs p.bl p.ca p.pa m.a m.b m.p,!p.bl,caR p.ca m.a m.b,paR p.f p.zs m.a m.b,haR p.f p.zs p.pa p.ha m.a m.b,fuR p.bl p.fu⟩/\mkU p m=⟨m,capR p.f p.zs p.pa m.a m.b,at2R p.f p.zs p.pa m.a m.b,p.ca,p.pa,p.ha,p.fu⟩:=by
 constructor
 ·unfold mkP;rw[decide_eq_true h];rfl
 ·unfold mkU;rw[decide_eq_true h];rfl
end
def afM(r:List Int):Mov:=⟨r.getD 0 0,r.getD 1 0,r.getD 2 0⟩
def dj(p:Psn)(l:List (List Int)):List (Mov×Psn):=l.filterMap fun r=>bif decide (mkE5 p (afM r)=0)then some (afM r,mkP p (afM r))else none
def BW(x:Mov×Psn):List V:=[.agg [I x.1.a,I x.1.b,.int .i8 x.1.p],.agg [I x.2.f,I x.2.r,.sl 0 0 x.2.zs.length none,Bb x.2.bl,.int .u8 x.2.ca,I x.2.pa,I x.2.ha,I x.2.fu]]
def afNs(x:Mov×Psn):List O:=[.ints true .i8 x.2.zs]
def afHc(p:Psn):List O:=[.cells false [I p.f,I p.r,.sl 2 0 p.zs.length none,Bb p.bl,.int .u8 p.ca,I p.pa,I p.ha,I p.fu],.ints false .i8 p.zs]
theorem Fo{p:Psn}:∀ {l:List (List Int)} {j:Nat} (hj:j<l.length),mkE5 p (afM l[j])=0->(dj p l)[(dj p (l.take j)).length]?=some (afM l[j],mkP p (afM l[j]))/\(dj p (l.take (j+1))).length=(dj p (l.take j)).length+1:=by
 intro l j hj he
 have h1:l.take (j+1)=l.take j++[l[j]]:=by rw[List.take_succ_eq_append_getElem hj]
 have h2:l=l.take j++l[j]::l.drop (j+1):=by rw[List.getElem_cons_drop,List.take_append_drop]
 have h3:dj p [l[j]]=[(afM l[j],mkP p (afM l[j]))]:=by simp[dj,he]
 refine⟨?_,?_⟩
 ·have h4:dj p l=dj p (l.take j)++(afM l[j],mkP p (afM l[j]))::dj p (l.drop (j+1)):=by
   have h5:dj p l=dj p (l.take j++l[j]::l.drop (j+1)):=by rw[<-h2]
   rw[h5]
   unfold dj
   rw[List.filterMap_append,List.filterMap_cons,he]
   rfl
  rw[h4,List.getElem?_append_right (Nat.le_refl _)];simp
 ·rw[h1]
  unfold dj at h3 ⊢
  rw[List.filterMap_append,h3];simp
theorem DD{p:Psn}:∀ {l:List (List Int)} {j:Nat} (hj:j<l.length),mkE5 p (afM l[j])≠0->(dj p (l.take (j+1))).length=(dj p (l.take j)).length:=by
 intro l j hj he
 have h1:l.take (j+1)=l.take j++[l[j]]:=by rw[List.take_succ_eq_append_getElem hj]
 rw[h1]
 unfold dj
 rw[List.filterMap_append]
 simp[he]
theorem GP(p:Psn){l:List (List Int)}{e:Int}(hp:lT p=some (l,e))(hl:p.zs.length<=64)(hn:l.length<=100000):SqH (GGx true true) PP 61 (afHc p) [.ptr 1 0 0] [.rows true [.i64,.i64,.i8] l] ((dj p l).map fun x=>(BW x,afNs x)):=by
 have hE:=aB (kCa:=true) (kDb:=true) (cts:=[(62,qw),(63,zP)]) (inl:=[]) ⟨wR,uP,trivial⟩ trivial
 refine Fc hE Tryz.func61 rfl rfl rfl rfl rfl fun nn l0 S0 ρc J ok=>?_
 refine YH.seq (YH.seg hE 2 ?_)
 have e1:(⟨p.f,p.r,List.take p.zs.length (List.drop 0 p.zs),p.bl,p.ca,p.pa,p.ha,p.fu⟩:Psn)=p:=by rw[List.drop_zero,List.take_length]
 refine ae (by rw[e1,hp,List.drop_zero,List.take_length];simp) ?_
 refine ag ?_
 rw[e1,hp]
 refine YH.seq (YH.seg hE 2 ?_)
 repeat (first|refine ah ?_|refine ae (by first|rfl|(simp;done)|(simp;omega)) ?_)
 refine ag ?_
 refine YH.block (YH.loop (fun a:Nat×Nat×Bool=>((some a.2.1,a.2.2),[(0,.yl 0),(1,.ptr 1 0 0),(15,.sl 3 0 l.length none),(16,I l.length),(17,I a.1)],
   [.gone,.cells false [I p.f,I p.r,.sl 2 0 p.zs.length none,Bb p.bl,.int .u8 p.ca,I p.pa,I p.ha,I p.fu],.ints false .i8 p.zs,match a.2.2 with|true=>.rows false [.i64,.i64,.i8] l|false=>.rows true [.i64,.i64,.i8] l]))
  (fun a=>a.1<=l.length/\a.2.1=(dj p (l.take a.1)).length) (fun a=>l.length-a.1) (0,0,false) rfl (Ent.ren [0,1,2,3] [0,1,15,16,17] rfl rfl rfl) ⟨Nat.zero_le _,rfl⟩ ?_)
 rintro⟨j,i,hd⟩ ⟨i1,i2⟩
 dsimp only at i1 i2 ⊢
 have hrow:∀ (x:Bool),(match x with|true=>O.rows false [.i64,.i64,.i8] l|false=>.rows true [.i64,.i64,.i8] l)=O.rows (!x) [.i64,.i64,.i8] l:=by intro x;cases x<;>rfl
 cases hd with
 |false=>
  refine YH.seq (YH.seg hE 2 ?_)
  repeat (first|refine ah ?_|refine sat_nd ?_)
  refine ag ?_
  refine YH.seq (YH.seg hE 2 ?_)
  refine aq (fun h1=>ag ?_) (fun h1=>ag ?_)
  ·have hj:j<l.length:=by have h1:=of_decide_eq_true h1;omega
   have hw:IntKind.i64.wrap ((j:Int)+1)=((j+1:Nat):Int):=ay (by omega) (by omega)
   have hx:l.getD (j:Int).toNat []=l[j]:=by simp[List.getD,hj]
   refine YH.seq (YH.block (YH.seq (YH.seg hE 2 ?_)))
   repeat (first|refine ah ?_|refine sat_nd ?_)
   refine ag ?_
   refine YH.seq (YH.seg hE 2 ?_)
   refine ae (by rw[List.drop_zero,List.take_length];simpa using hl) ?_
   repeat (first|refine ah ?_|refine sat_nd ?_)
   refine ag ?_
   rw[e1]
   refine YH.seq (YH.yregAt ok 2 6 rfl rfl rfl ?_)
   repeat (first|refine ah ?_|refine sat_nd ?_)
   refine ag ?_
   have hmv:(⟨(l.getD (j:Int).toNat []).getD 0 0,(l.getD (j:Int).toNat []).getD 1 0,(l.getD (j:Int).toNat []).getD 2 0⟩:Mov)=afM l[j]:=by rw[hx];rfl
   refine And.intro (fun hg=>?_) (fun hg=>?_)
   ·repeat (first|refine ah ?_|refine sat_nd ?_)
    refine ag ?_
    have he:mkE5 p (afM l[j])=0:=by rw[<-hmv];exact of_decide_eq_true hg
    obtain⟨n1,n2⟩:=Fo hj he
    refine⟨i,BW (afM l[j],mkP p (afM l[j])),afNs (afM l[j],mkP p (afM l[j])),[0,1,15,16,17,30],[3,5],_,rfl,by rw[List.getElem?_map,i2,n1];rfl,rfl,rfl,by rw[<-hmv];rfl,by rw[<-hmv];rfl,rfl,rfl,rfl,rfl,fun b=>?_⟩
    cases b with
    |true=>
     repeat (first|refine ah ?_|refine sat_nd ?_)
     refine ag ?_
     refine YH.seg hE 2 ?_
     repeat (first|refine ah ?_|refine sat_nd ?_)
     refine ag ?_
     refine YH.seg hE 2 ?_
     repeat (first|refine ah ?_|refine sat_nd ?_)
     refine ag ⟨(j+1,i+1,true),⟨hj,by dsimp only;omega⟩,by dsimp only;omega,rfl,?_⟩
     dsimp only
     rw[hw]
     exact Ent.ren [0,1,2,3] [0,1,15,16,17] rfl rfl rfl
    |false=>
     repeat (first|refine ah ?_|refine sat_nd ?_)
     refine ag ?_
     refine YH.seg hE 2 ?_
     repeat (first|refine ah ?_|refine sat_nd ?_)
     exact ag ⟨.inr rfl,.inr rfl⟩
   ·repeat (first|refine ah ?_|refine sat_nd ?_)
    refine ag ?_
    have he:mkE5 p (afM l[j])≠0:=by rw[<-hmv];exact of_decide_eq_false hg
    refine YH.seg hE 2 ?_
    repeat (first|refine ah ?_|refine sat_nd ?_)
    refine ag ?_
    refine YH.seg hE 2 ?_
    repeat (first|refine ah ?_|refine sat_nd ?_)
    refine ag ⟨(j+1,i,false),⟨hj,by dsimp only;rw[DD hj he];exact i2⟩,by dsimp only;omega,rfl,?_⟩
    dsimp only
    rw[hw]
    exact Ent.ren [0,1,2,3] [0,1,15,16,17] rfl rfl rfl
  ·have hj:j=l.length:=by have h1:=of_decide_eq_false h1;omega
   refine⟨.inl rfl,.inl ?_⟩
   dsimp only
   rw[i2,hj,List.take_length,List.length_map]
 |true=>
  refine YH.seq (YH.seg hE 2 ?_)
  repeat (first|refine ah ?_|refine sat_nd ?_)
  refine ag ?_
  refine YH.seq (YH.seg hE 2 ?_)
  refine aq (fun h1=>ag ?_) (fun h1=>ag ?_)
  ·have hj:j<l.length:=by have h1:=of_decide_eq_true h1;omega
   have hw:IntKind.i64.wrap ((j:Int)+1)=((j+1:Nat):Int):=ay (by omega) (by omega)
   have hx:l.getD (j:Int).toNat []=l[j]:=by simp[List.getD,hj]
   refine YH.seq (YH.block (YH.seq (YH.seg hE 2 ?_)))
   repeat (first|refine ah ?_|refine sat_nd ?_)
   refine ag ?_
   refine YH.seq (YH.seg hE 2 ?_)
   refine ae (by rw[List.drop_zero,List.take_length];simpa using hl) ?_
   repeat (first|refine ah ?_|refine sat_nd ?_)
   refine ag ?_
   rw[e1]
   refine YH.seq (YH.yregAt ok 2 6 rfl rfl rfl ?_)
   repeat (first|refine ah ?_|refine sat_nd ?_)
   refine ag ?_
   have hmv:(⟨(l.getD (j:Int).toNat []).getD 0 0,(l.getD (j:Int).toNat []).getD 1 0,(l.getD (j:Int).toNat []).getD 2 0⟩:Mov)=afM l[j]:=by rw[hx];rfl
   refine And.intro (fun hg=>?_) (fun hg=>?_)
   ·repeat (first|refine ah ?_|refine sat_nd ?_)
    refine ag ?_
    have he:mkE5 p (afM l[j])=0:=by rw[<-hmv];exact of_decide_eq_true hg
    obtain⟨n1,n2⟩:=Fo hj he
    refine⟨i,BW (afM l[j],mkP p (afM l[j])),afNs (afM l[j],mkP p (afM l[j])),[0,1,15,16,17,30],[5],_,rfl,by rw[List.getElem?_map,i2,n1];rfl,rfl,rfl,by rw[<-hmv];rfl,by rw[<-hmv];rfl,rfl,rfl,rfl,rfl,fun b=>?_⟩
    cases b with
    |true=>
     repeat (first|refine ah ?_|refine sat_nd ?_)
     refine ag ?_
     refine YH.seg hE 2 ?_
     repeat (first|refine ah ?_|refine sat_nd ?_)
     refine ag ?_
     refine YH.seg hE 2 ?_
     repeat (first|refine ah ?_|refine sat_nd ?_)
     refine ag ⟨(j+1,i+1,true),⟨hj,by dsimp only;omega⟩,by dsimp only;omega,rfl,?_⟩
     dsimp only
     rw[hw]
     exact Ent.ren [0,1,2,3] [0,1,15,16,17] rfl rfl rfl
    |false=>
     repeat (first|refine ah ?_|refine sat_nd ?_)
     refine ag ?_
     refine YH.seg hE 2 ?_
     repeat (first|refine ah ?_|refine sat_nd ?_)
     exact ag ⟨.inr rfl,.inr rfl⟩
   ·repeat (first|refine ah ?_|refine sat_nd ?_)
    refine ag ?_
    have he:mkE5 p (afM l[j])≠0:=by rw[<-hmv];exact of_decide_eq_false hg
    refine YH.seg hE 2 ?_
    repeat (first|refine ah ?_|refine sat_nd ?_)
    refine ag ?_
    refine YH.seg hE 2 ?_
    repeat (first|refine ah ?_|refine sat_nd ?_)
    refine ag ⟨(j+1,i,true),⟨hj,by dsimp only;rw[DD hj he];exact i2⟩,by dsimp only;omega,rfl,?_⟩
    dsimp only
    rw[hw]
    exact Ent.ren [0,1,2,3] [0,1,15,16,17] rfl rfl rfl
  ·have hj:j=l.length:=by have h1:=of_decide_eq_false h1;omega
   refine⟨.inl rfl,.inl ?_⟩
   dsimp only
   rw[i2,hj,List.take_length,List.length_map]
def afL(p:Psn):List (List Int):=((lT p).getD ([],0)).1
def afLs(p:Psn):List (Mov×Psn):=dj p (afL p)
def Jb(p:Psn):O:=.rows true [.i64,.i64,.i8] (afL p)
abbrev Ku:List V:=[.ptr 1 0 0]
def afOk(p:Psn):Bool:=(lT p).isSome&&decide (p.zs.length<=64)&&decide ((afL p).length<=100000)
theorem JT(p:Psn)(h:afOk p=true):SqH (GGx true true) PP 61 (afHc p) Ku [Jb p] ((afLs p).map fun x=>(BW x,afNs x)):=by
 unfold afOk at h
 simp only[Bool.and_eq_true,decide_eq_true_eq]at h
 obtain⟨⟨h1,h2⟩,h3⟩:=h
 cases hp:lT p with
 |none=>rw[hp]at h1;cases h1
 |some r=>
  obtain⟨l,e⟩:=r
  have hl:afL p=l:=by unfold afL;rw[hp];rfl
  have:=GP p hp h2 (by rw[<-hl];exact h3)
  unfold Jb afLs
  rw[hl]
  exact this
section
variable{kCa kDb:Bool}
def rAft(p:Psn)(m:Mov):Option (Psn):=let x17:=List.take p.zs.length (List.drop 0 p.zs);let x13:=afP (Psn.mk p.f p.r x17 p.bl p.ca p.pa p.ha p.fu) (Mov.mk m.a m.b m.p);let x15:=afZ p.f p.r x17 p.bl p.ca p.pa m.a m.b m.p;let x16:=x17.length;let x12:=x13.zs.length;let x14:=x15.length;aX (decide (x16<=64)&&(aC p.f p.r x17&&cJ p.f p.r x17 p.ca&&aj p.f p.r m.a&&aj p.f p.r m.b)) (aX (decide (x12=x14)) (some (Psn.mk x13.f x13.r x15 x13.bl x13.ca x13.pa x13.ha x13.fu)))
def zN(R:Psn):V:=.agg [.int .i64 R.f,.int .i64 R.r,.sl 1 0 R.zs.length none,Bb R.bl,.int .u8 R.ca,.int .i64 R.pa,.int .i64 R.ha,.int .i64 R.fu]
def Gf(R:Psn):List O:=[.ints true .i8 R.zs]
def zC:CF
 |[.agg [.int .i64 p_0,.int .i64 p_1,.sl 0 0 p_2n none,.bool p_3,.int .u8 p_4,.int .i64 p_5,.int .i64 p_6,.int .i64 p_7],.agg [.int .i64 m_0,.int .i64 m_1,.int .i8 m_2]],[.ints false .i8 p_2]=>retC (decide (p_2n=p_2.length)) (rAft ⟨p_0,p_1,p_2,p_3,p_4,p_5,p_6,p_7⟩ ⟨m_0,m_1,m_2⟩) ⟨0,0,[],false,0,0,0,0⟩ zN Gf
 |_,_=>none
theorem Hl(p:Psn)(m:Mov){r}(hr:rAft p m=some r):aJ (GGx kCa kDb) PP 48 [.agg [.int .i64 p.f,.int .i64 p.r,.sl 0 0 p.zs.length none,Bb p.bl,.int .u8 p.ca,.int .i64 p.pa,.int .i64 p.ha,.int .i64 p.fu],.agg [.int .i64 m.a,.int .i64 m.b,.int .i8 m.p]] [.ints false .i8 p.zs] (zN r) (Gf r):=by
 have hE:=cutE (aB (kCa:=kCa) (kDb:=kDb) (cts:=[(89,mc)]) (inl:=[]) ⟨oo,trivial⟩ trivial)
 refine cH hE 2 Tryz.func48 rfl rfl zN Gf hr ?_ rfl rfl
 refine cN (pb (pl (decide_eq_true (aN rfl)) id) id) ?_
 refine Nw (fun h0=>?_)
 exact aR (aO [4] (.inr rfl) rfl rfl rfl rfl (by have qh0:=of_decide_eq_true h0;simp_all [zN]))
theorem tJ:CtOk (GGx kCa kDb) PP (48,zC):=by
 refine aD Tryz.func48 (by kernel_rfl) rfl fun a0 h0 c0 v0 N0 e hc=>?_
 unfold zC at e
 split at e
 ·rename_i p_0 p_1 p_2n p_3 p_4 p_5 p_6 p_7 m_0 m_1 m_2 p_2
  obtain⟨hl,r,hr,rfl,rfl⟩:=bJ e hc
  simp only[decide_eq_true_eq]at hl
  obtain rfl:=hl
  exact Hl ⟨p_0,p_1,p_2,p_3,p_4,p_5,p_6,p_7⟩ ⟨m_0,m_1,m_2⟩ hr
 ·cases e
def vF(p:Psn)(m:Mov):Option (Bool):=cr (rAft (Psn.mk p.f p.r (List.take p.zs.length (List.drop 0 p.zs)) p.bl p.ca p.pa p.ha p.fu) (Mov.mk m.a m.b m.p)) (Psn.mk 0 0 [] false 0 0 0 0) fun(y4:Psn)=>some (decide (10000<y4.ha)||decide (10000<y4.fu))
def vS(R:Bool):V:=Bb R
def xL(_R:Bool):List O:=[]
def wB:CF
 |[.agg [.int .i64 p_0,.int .i64 p_1,.sl 0 0 p_2n none,.bool p_3,.int .u8 p_4,.int .i64 p_5,.int .i64 p_6,.int .i64 p_7],.agg [.int .i64 m_0,.int .i64 m_1,.int .i8 m_2]],[.ints false .i8 p_2]=>retC (decide (p_2n=p_2.length)) (vF ⟨p_0,p_1,p_2,p_3,p_4,p_5,p_6,p_7⟩ ⟨m_0,m_1,m_2⟩) false vS xL
 |_,_=>none
theorem ES(p:Psn)(m:Mov){r}(hr:vF p m=some r):aJ (GGx kCa kDb) PP 47 [.agg [.int .i64 p.f,.int .i64 p.r,.sl 0 0 p.zs.length none,Bb p.bl,.int .u8 p.ca,.int .i64 p.pa,.int .i64 p.ha,.int .i64 p.fu],.agg [.int .i64 m.a,.int .i64 m.b,.int .i8 m.p]] [.ints false .i8 p.zs] (vS r) (xL r):=by
 have hE:=cutE (aB (kCa:=kCa) (kDb:=kDb) (cts:=[(48,zC)]) (inl:=[]) ⟨tJ,trivial⟩ trivial)
 refine cH hE 2 Tryz.func47 rfl rfl vS xL hr ?_ rfl rfl
 unfold vF
 refine aQ (pl (decide_eq_true (aN rfl)) id) ?_
 refine av (Bool.not_or_self _) ?_
 refine av (Bool.not_or_self _) ?_
 refine av (Bool.or_not_self _) ?_
 exact aR (aO [] (.inr rfl) rfl rfl rfl rfl rfl)
theorem Bl:CtOk (GGx kCa kDb) PP (47,wB):=by
 refine aD Tryz.func47 (by kernel_rfl) rfl fun a0 h0 c0 v0 N0 e hc=>?_
 unfold wB at e
 split at e
 ·rename_i p_0 p_1 p_2n p_3 p_4 p_5 p_6 p_7 m_0 m_1 m_2 p_2
  obtain⟨hl,r,hr,rfl,rfl⟩:=bJ e hc
  simp only[decide_eq_true_eq]at hl
  obtain rfl:=hl
  exact ES ⟨p_0,p_1,p_2,p_3,p_4,p_5,p_6,p_7⟩ ⟨m_0,m_1,m_2⟩ hr
 ·cases e
end
section
variable{p:Psn}
theorem Nz(o:PsH p){a b pr:Int}(hc:canM p a b pr=true):mkE5 p ⟨a,b,pr⟩=bif err4 p ⟨a,b,pr⟩then 90 else bif err5 p ⟨a,b,pr⟩then 7 else 0:=by
 have hmv:=Cu hc
 have h1:err1 p ⟨a,b,pr⟩=false:=by unfold err1;rw[o.ok,hmv];rfl
 have k:=gT (m:=⟨a,b,pr⟩) o hc
 have hp:isP (p.zs.getD a.toNat 0) p.bl=true:=k.hp
 unfold mkE5
 rw[h1,k.so]
 dsimp only
 rw[hp]
 rfl
def okR(p:Psn)(r:List Int):Bool:=legF p r&&!err5 p (mvR r)
theorem CN(o:PsH p){r:List Int}(hr:xm p r):decide (mkE5 p (afM r)=0)=okR p r:=by
 obtain⟨a,b,pr,rfl,hc⟩:=hr
 have:=Nz o hc
 unfold okR legF
 show decide (mkE5 p ⟨a,b,pr⟩=0)=(!err4 p ⟨a,b,pr⟩&&!err5 p ⟨a,b,pr⟩)
 rw[this]
 cases err4 p ⟨a,b,pr⟩<;>cases err5 p ⟨a,b,pr⟩<;>rfl
theorem Ga(o:PsH p){a b pr:Int}(hc:canM p a b pr=true):rAft p ⟨a,b,pr⟩=some (afP p ⟨a,b,pr⟩):=by
 have k:=gT (m:=⟨a,b,pr⟩) o hc
 have h4:decide (p.zs.length<=64)=true:=by simpa using o.hl
 have hv:(aC p.f p.r p.zs&&cJ p.f p.r p.zs p.ca&&aj p.f p.r a&&aj p.f p.r b)=true:=by rw[k.bd,cast_eq k.ca,k.cast,k.ha,k.hb];rfl
 unfold rAft
 simp only[List.drop_zero,List.take_length,bC,h4,hv,Bool.and_self,aS]
 rw[show decide ((afP p ⟨a,b,pr⟩).zs.length=(afZ p.f p.r p.zs p.bl p.ca p.pa a b pr).length)=true from decide_eq_true rfl]
 rfl
theorem Hv(o:PsH p){a b pr:Int}(hc:canM p a b pr=true):vF p ⟨a,b,pr⟩=some (err5 p ⟨a,b,pr⟩):=by
 have k:=gT (m:=⟨a,b,pr⟩) o hc
 have h5:(decide (10000<(afP p ⟨a,b,pr⟩).ha)||decide (10000<(afP p ⟨a,b,pr⟩).fu))=err5 p ⟨a,b,pr⟩:=by rw[k.after];rfl
 unfold vF
 simp only[List.drop_zero,List.take_length,bC,Ga o hc]
 rw[aP,h5]
theorem JV(o:PsH p){a b pr:Int}(hc:canM p a b pr=true)(he:mkE5 p ⟨a,b,pr⟩=0):afP p ⟨a,b,pr⟩=mkP p ⟨a,b,pr⟩:=by
 have k:=gT (m:=⟨a,b,pr⟩) o hc
 rw[k.after]
 unfold mkP
 rw[he];rfl
theorem uz(o:PsH p):∀ l:List (List Int),(∀ r∈l,xm p r)->dj p l=(l.filter (okR p)).map fun r=>(afM r,mkP p (afM r))
 |[],_=>rfl
 |r::l,h=>by
  have ih:=uz o l fun x hx=>h x (by simp[hx])
  have he:=CN o (h r (by simp))
  unfold dj at ih ⊢
  rw[List.filterMap_cons,he,ih,List.filter_cons]
  cases okR p r<;>rfl
def wV(p:Psn):List (List Int):=(allL p).filter (okR p)
theorem FG(o:PsH p):afLs p=(wV p).map fun r=>(afM r,mkP p (afM r)):=by
 unfold afLs afL
 rw[td o]
 exact uz o (allL p) fun r h=>xK h
theorem Co(o:PsH p):afOk p=true:=by
 have h1:decide (p.zs.length<=64)=true:=by simpa using o.hl
 unfold afOk afL
 rw[td o,h1]
 have:=qT o
 simpa using this
theorem NK(o:PsH p){a b pr:Int}(hc:canM p a b pr=true)(he:mkE5 p ⟨a,b,pr⟩=0):(mkP p ⟨a,b,pr⟩).zs.length=p.zs.length:=by
 rw[<-JV o hc he]
 exact wJ
end
section
theorem Mq{β:Type}(q:β->Bool)(l:List β):l.any q=decide (0<Int.ofNat (l.filter q).length):=by
 induction l with
 |nil=>rfl
 |cons x l ih=>
  rw[List.any_cons,List.filter_cons,ih]
  cases q x with
  |true=>simp
  |false=>simp
section
variable{p:Psn}
end
end
section
variable{kCa kDb:Bool}
theorem Kt(x:Int)(y:Bool)(w:World)(b:Bool):(Instr.checkKey b 10000 102 (.agg #[.int .i64 x,.bool y])).run PP w=.ok () w:=by
 kernel_rfl
theorem sA:PP.underlying 99=some (.map 102 9):=by kernel_rfl
theorem kX:(match PP.underlying 102 with|some (.array _ _)|some (.struct _)=>true|_=>false)=true:=by kernel_rfl
theorem ia{x:Int}{b:Bool}{uk:Value}(h:∀ ρ,VR ρ (.agg [I x,.bool b]) uk):uk=.agg #[.int .i64 x,.bool b]:=by
 obtain⟨p,q,rfl,h1,h2⟩:=agg2 h
 have h1:p=.int .i64 x:=h1
 have h2:q=.bool b:=h2
 rw[h1,h2]
theorem hO{x:Int}{b:Bool}{uk:Value}(h:∀ ρ,VR ρ (.agg [I x,.bool b]) uk):AV PP 99 102 uk:=by
 rw[ia h]
 exact⟨⟨_,sA⟩,fun w c=>Kt x b w c⟩
def txE:Mp:=[(.agg [I 0,.lit false],.str [42]),(.agg [I (-1),.lit true],.str [48,45,49]),(.agg [I 0,.lit true],.str [49,47,50,45,49,47,50]),(.agg [I 1,.lit true],.str [49,45,48])]
theorem tQ:GM (GGx kCa kDb) PP 56 txE:=by
 have hE:=aB (kCa:=kCa) (kDb:=kDb) (cts:=[]) (inl:=[]) trivial trivial
 refine NO hE (fn:=Tryz.f56) Tryz.func56 rfl fun n B S w0 ρ0=>?_
 refine YM.seq (YM.seg hE 2 ?_)
 refine ag ?_
 refine YM.seq (YM.region ?_)
 refine YO.make rfl rfl rfl rfl rfl rfl ?_
 refine YO.seg hE 2 [_] [_,_,_] rfl ?_
 refine ag ?_
 refine YO.insert (kt:=102) (K:=.agg [I 0,.lit false]) (X:=.str [42]) (.inl rfl) rfl rfl rfl rfl rfl rfl (fun uk hk=>⟨hO (b:=false) (x:=0) hk,fun l hl w=>?_⟩) ?_
 ·exact eT hE.ok kX hk (by decide) hl [] rfl w
 refine YO.seg hE 2 [_,_] [] rfl ?_
 refine ag ?_
 refine YO.nil ?_
 refine YM.seq (YM.seq (YM.seg hE 2 ?_))
 repeat (first|refine ah ?_|refine ae (by first|rfl|(simp;done)) ?_)
 refine ag ?_
 refine YM.block (YM.loop (fun i:Nat=>(some (0,txE.take (i+1)),[(1,.yl 0),(7,.sl 1 0 3 none),(8,I 3),(9,I i)],[.gone,.vals true 1 [[.str [48,45,49]],[.str [49,47,50,45,49,47,50]],[.str [49,45,48]]]]))
  (fun i=>i<=3) (fun i=>3-i) 0 rfl ?_ (Nat.zero_le _) ?_)
 ·exact Ent.ren [0,1] [1,7,8,9] rfl rfl rfl
 intro i hi
 match i,hi with
 |0,_=>
  refine YM.seq (YM.seg hE 2 ?_)
  refine ag ?_
  refine YM.seq (YM.seg hE 2 ?_)
  refine aq (fun _=>ag ?_) (fun h=>absurd h (by decide))
  refine YM.seq (YM.block (YM.seq (YM.seg hE 2 ?_)))
  repeat (first|refine ah ?_|refine ae (by first|rfl|(simp;done)) ?_)
  refine ag ?_
  refine YM.region ?_
  refine YO.seg hE 2 [_,_,_,_,_] [_] rfl ?_
  refine ag ?_
  refine YO.insert (kt:=102) (K:=.agg [I (-1),.lit true]) (X:=.str [48,45,49]) (.inr rfl) rfl rfl rfl rfl rfl rfl (fun uk hk=>⟨hO (b:=true) (x:=-1) hk,fun l hl w=>?_⟩) ?_
  ·exact(eT hE.ok kX hk (by decide) hl [false] rfl w).trans (by rw[gr rfl])
  refine YO.nil ?_
  refine YM.seg hE 2 ?_
  refine ag ⟨rfl,1,by decide,by decide,rfl,?_⟩
  exact Ent.ren [0,1] [1,7,8,9] rfl rfl rfl
 |1,_=>
  refine YM.seq (YM.seg hE 2 ?_)
  refine ag ?_
  refine YM.seq (YM.seg hE 2 ?_)
  refine aq (fun _=>ag ?_) (fun h=>absurd h (by decide))
  refine YM.seq (YM.block (YM.seq (YM.seg hE 2 ?_)))
  repeat (first|refine ah ?_|refine ae (by first|rfl|(simp;done)) ?_)
  refine ag ?_
  refine YM.region ?_
  refine YO.seg hE 2 [_,_,_,_,_] [_] rfl ?_
  refine ag ?_
  refine YO.insert (kt:=102) (K:=.agg [I 0,.lit true]) (X:=.str [49,47,50,45,49,47,50]) (.inr rfl) rfl rfl rfl rfl rfl rfl (fun uk hk=>⟨hO (b:=true) (x:=0) hk,fun l hl w=>?_⟩) ?_
  ·exact(eT hE.ok kX hk (by decide) hl [false,false] rfl w).trans (by rw[gr rfl])
  refine YO.nil ?_
  refine YM.seg hE 2 ?_
  refine ag ⟨rfl,2,by decide,by decide,rfl,?_⟩
  exact Ent.ren [0,1] [1,7,8,9] rfl rfl rfl
 |2,_=>
  refine YM.seq (YM.seg hE 2 ?_)
  refine ag ?_
  refine YM.seq (YM.seg hE 2 ?_)
  refine aq (fun _=>ag ?_) (fun h=>absurd h (by decide))
  refine YM.seq (YM.block (YM.seq (YM.seg hE 2 ?_)))
  repeat (first|refine ah ?_|refine ae (by first|rfl|(simp;done)) ?_)
  refine ag ?_
  refine YM.region ?_
  refine YO.seg hE 2 [_,_,_,_,_] [_] rfl ?_
  refine ag ?_
  refine YO.insert (kt:=102) (K:=.agg [I 1,.lit true]) (X:=.str [49,45,48]) (.inr rfl) rfl rfl rfl rfl rfl rfl (fun uk hk=>⟨hO (b:=true) (x:=1) hk,fun l hl w=>?_⟩) ?_
  ·exact(eT hE.ok kX hk (by decide) hl [false,false,false] rfl w).trans (by rw[gr rfl])
  refine YO.nil ?_
  refine YM.seg hE 2 ?_
  refine ag ⟨rfl,3,by decide,by decide,rfl,?_⟩
  exact Ent.ren [0,1] [1,7,8,9] rfl rfl rfl
 |3,_=>
  refine YM.seq (YM.seg hE 2 ?_)
  refine ag ?_
  refine YM.seq (YM.seg hE 2 ?_)
  refine aq (fun h=>absurd h (by decide)) (fun _=>ag ?_)
  refine YM.seg hE 2 ?_
  exact ag ⟨.inr rfl,0,rfl,rfl⟩
 |k+4,h=>exact absurd h (by omega)
def txt(r:Int)(e:Bool):List UInt8×Bool:=bif decide (r=0)&&e==false then([42],true)else bif decide (r=-1)&&e==true then([48,45,49],true)else bif decide (r=0)&&e==true then([49,47,50,45,49,47,50],true)else bif decide (r=1)&&e==true then([49,45,48],true) else([],false)
theorem IC(w:World):(zeroValue 9).run PP w=.ok (.string ⟨#[]⟩) w:=by kernel_rfl
theorem Hz{E:Env}(hE:E.Ok PP)(hT:∀ x:V×V,eqT E 8 102 x.1 x.2=eqT (EE kCa kDb [] []) 8 102 x.1 x.2){r:Int}{e:Bool}{uk:Value}(hk:∀ ρ,VR ρ (.agg [I r,.bool e]) uk){l:List MapEntry}(hl:fF txE l)(w:World) :
  (do let y <-Instr.findKey 102 uk l;match y with|some (_,v)=>pure (v,true)|none=>pure (<-zeroValue 9,false):Sem (Value×Bool)).run PP w=.ok (.string ⟨(txt r e).1.toArray⟩,(txt r e).2) w:=by
 have h1:=eT hE kX hk (by decide) hl [decide (r=0)&&e==false,decide (r=-1)&&e==true,decide (r=0)&&e==true,decide (r=1)&&e==true] (by
  simp only[txE,List.map_cons,List.map_nil]
  have:=fun y=>hT (.agg [I r,.bool e],y)
  dsimp only at this
  rw[this,this,this,this]
  rfl) w
 obtain⟨e0,l0,rfl,_,v0,e1,l1,rfl,_,v1,e2,l2,rfl,_,v2,e3,l3,rfl,_,v3,hl3⟩:=hl
 have hl3:l3=[]:=hl3
 subst hl3
 have v0:e0.val=.string ⟨#[42]⟩:=v0 fun _=>none
 have v1:e1.val=.string ⟨#[48,45,49]⟩:=v1 fun _=>none
 have v2:e2.val=.string ⟨#[49,47,50,45,49,47,50]⟩:=v2 fun _=>none
 have v3:e3.val=.string ⟨#[49,45,48]⟩:=v3 fun _=>none
 rw[Sem.run_bind,h1,Result.andThen_ok]
 unfold txt
 cases(decide (r=0)&&e==false) with
 |true=>simp only[eL,cond_true,v0];rfl
 |false=>
 cases(decide (r=-1)&&e==true) with
 |true=>simp only[eL,cond_true,cond_false,v1];rfl
 |false=>
 cases(decide (r=0)&&e==true) with
 |true=>simp only[eL,cond_true,cond_false,v2];rfl
 |false=>
 cases(decide (r=1)&&e==true) with
 |true=>simp only[eL,cond_true,cond_false,v3];rfl
 |false=>simp only[eL,cond_false,Sem.run_bind,IC,Result.andThen_ok];rfl
theorem Dg(r:Int)(e:Bool):aJ (GGx kCa kDb) PP 24 [.int .i64 r,.bool e] [] (.tup [.str (bif (txt r e).2 then(txt r e).1 else[]),I (bif (txt r e).2 then 0 else 2)]) []:=by
 have hE:=aB (kCa:=kCa) (kDb:=kDb) (cts:=[]) (inl:=[]) trivial trivial
 refine oP hE (fn:=Tryz.f24) Tryz.func24 rfl rfl fun n B S w0 ρ0=>?_
 refine YM.seq (YM.seg hE 2 ?_)
 refine ag ?_
 refine YM.seq (YM.region ?_)
 refine YO.callM rfl rfl rfl (ent Tryz.func56 (by kernel_rfl) rfl) tQ rfl rfl rfl rfl rfl ?_
 refine YO.seg hE 2 [_,_,_] [_,_,_,_,_,_] rfl ?_
 refine ag ?_
 refine YO.lookup (kt:=102) (K:=.agg [I r,.bool e]) (v:=.tup [.str (txt r e).1,.bool (txt r e).2]) rfl rfl rfl rfl rfl rfl rfl (fun uk hk=>⟨hO hk,fun l hl=>⟨9,.string ⟨(txt r e).1.toArray⟩,(txt r e).2,sA,fun w=>Hz hE.ok (fun _=>rfl) hk hl w,fun ρ=>⟨_,rfl,_,_,rfl,rfl,_,_,rfl,rfl,rfl⟩⟩⟩) ?_
 refine YO.seg hE 2 [_,_,_,_,_] [] rfl ?_
 refine ag ?_
 refine YO.nil ?_
 refine YM.seg hE 2 ?_
 refine aq (fun h=>ag ?_) (fun h=>ag ?_)
 ·have h:(txt r e).2=false:=by simpa using h
  exact⟨_,_,Ent.refl _ _ _,aO [] (.inr rfl) rfl rfl rfl rfl (by rw[h];rfl)⟩
 ·have h:(txt r e).2=true:=by simpa using h
  exact⟨_,_,Ent.refl _ _ _,aO [] (.inr rfl) rfl rfl rfl rfl (by rw[h];rfl)⟩
end
end Go.Ab
namespace Go.Ab
open Go.Proofs Go.RowKit
section
variable{kCa kDb:Bool}
def endV(check move:Bool):Int:=bif move then(bif check then 1 else 0) else(bif check then 2 else 3)
theorem Jn(x y:Bool)(w:World)(b:Bool):(Instr.checkKey b 10000 119 (.agg #[.bool x,.bool y])).run PP w=.ok () w:=by kernel_rfl
theorem Jz:PP.underlying 172=some (.map 119 29):=by kernel_rfl
theorem JF:(match PP.underlying 119 with|some (.array _ _)|some (.struct _)=>true|_=>false)=true:=by kernel_rfl
theorem Ng(x y x' y':Bool)(w:World):(Op.equal 119 (.agg #[.bool x,.bool y]) (.agg #[.bool x',.bool y'])).run PP w=.ok (x==x'&&y==y') w:=by
 cases x<;>cases y<;>cases x'<;>cases y'<;>kernel_rfl
def jOf(x y:Bool):Nat:=bif y then(bif x then 4 else 2) else(bif x then 6 else 8)
structure EI(g:Nat->Bool)(l:List MapEntry):Prop where
 all:∀ e∈l,∃ x y,e.key=.agg #[.bool x,.bool y]/\e.val=.int .i64 (endV x y)/\g (jOf x y)=true
 has:∀ x y,g (jOf x y)=true->∃ e∈l,e.key=.agg #[.bool x,.bool y]
theorem qC{g:Nat->Bool}{x y:Bool}(w:World):∀ (l:List MapEntry) (i:Nat),(∀ e∈l,∃ x y,e.key=.agg #[.bool x,.bool y]/\e.val=.int .i64 (endV x y)/\g (jOf x y)=true) ->
  ((∃ e∈l,e.key=.agg #[.bool x,.bool y])->∃ k,(Instr.findAsking 119 (.agg #[.bool x,.bool y]) l i).run PP w=.ok (some (k,.int .i64 (endV x y))) w) /\
  ((¬ ∃ e∈l,e.key=.agg #[.bool x,.bool y])->(Instr.findAsking 119 (.agg #[.bool x,.bool y]) l i).run PP w=.ok none w)
 |[],i,_=>⟨fun⟨e,he,_⟩=>by simp at he,fun _=>rfl⟩
 |e::l,i,h=>by
  obtain⟨x',y',h1,h2,h3⟩:=h e (by simp)
  have he:(Op.equal 119 (.agg #[.bool x,.bool y]) e.key).run PP w=.ok (x==x'&&y==y') w:=by rw[h1];exact Ng x y x' y' w
  obtain⟨q1,q2⟩:=qC w l (i+1) (fun e he=>h e (by simp[he]))
  by_cases hq:x=x'/\y=y'
  ·obtain⟨rfl,rfl⟩:=hq
   refine⟨fun _=>⟨i,?_⟩,fun hn=>absurd ⟨e,by simp,h1⟩ hn⟩
   simp only[Instr.findAsking,Sem.run_bind,he,Result.andThen_ok,beq_self_eq_true,Bool.and_self,if_true,h2]
   rfl
  ·have hb:(x==x'&&y==y')=false:=by
    cases x<;>cases x'<;>cases y<;>cases y'<;>simp at hq ⊢
   have hne:e.key≠.agg #[.bool x,.bool y]:=fun e2=>hq (by
    rw[h1]at e2
    simp only[Value.agg.injEq,Array.mk.injEq,List.cons.injEq,Value.bool.injEq,and_true]at e2
    exact⟨e2.1.symm,e2.2.symm⟩)
   have hrun:(Instr.findAsking 119 (.agg #[.bool x,.bool y]) (e::l) i).run PP w=(Instr.findAsking 119 (.agg #[.bool x,.bool y]) l (i+1)).run PP w:=by
    simp only[Instr.findAsking,Sem.run_bind,he,Result.andThen_ok,hb,Bool.false_eq_true,if_false]
   rw[hrun]
   refine⟨fun⟨e',he',hk⟩=>q1 ?_,fun hn=>q2 fun⟨e',he',hk⟩=>hn ⟨e',by simp[he'],hk⟩⟩
   rcases List.mem_cons.1 he' with rfl|he'
   ·exact absurd hk hne
   ·exact⟨e',he',hk⟩
def updB(g:Nat->Bool)(i:Nat):Nat->Bool:=fun j=>match Nat.beq j i with
 |true=>true
 |false=>g j
theorem cX{listed:List Bool}{g:Nat->Bool}(h:∀ j,listed.getD j false=g j){i:Nat}(hi:i<listed.length):∀ j,(listed.set i true).getD j false=updB g i j:=by
 intro j
 unfold updB
 simp only[List.getD_eq_getElem?_getD]at h ⊢
 cases hb:Nat.beq j i with
 |true=>
  have:=Nat.eq_of_beq_eq_true hb
  subst this
  simp[hi]
 |false=>
  have:i≠j:=fun e=>Nat.ne_of_beq_eq_false hb e.symm
  rw[List.getElem?_set_ne this]
  exact h j
theorem Cr{g:Nat->Bool}{i j:Nat}(h:g j=true):updB g i j=true:=by
 unfold updB;split<;>first|rfl|exact h
structure EnL(a b:Bool)(g:Nat->Bool)(tm:Tm):Prop where
 l1:look tm 1=.ptr 0 0 0
 l3:g 0=true->look tm 3=.yl 1
 l4:g 1=true->look tm 4=.agg [.lit false,.lit true]
 l5:g 3=true->look tm 5=.agg [.lit true,.lit true]
 l6:g 5=true->look tm 6=.agg [.lit true,.lit false]
 l7:g 7=true->look tm 7=.agg [.lit false,.lit false]
 l8:g 9=true->look tm 8=.yl 1
 l9:g 10=true->look tm 9=.agg [.bool a,.bool b]
 l10:g 11=true->look tm 10=I (endV a b)
 l2:g 12=true->look tm 2=I (endV a b)
 d9:g 9=true->g 0=true/\g 2=true/\g 4=true/\g 6=true/\g 8=true
section
variable{a b:Bool}{g:Nat->Bool}{tm:Tm}
theorem EnL.p0(h:EnL a b g tm):EnL a b (updB g 0) ((3,.yl 1)::tm):=⟨h.l1,fun _=>rfl,h.l4,h.l5,h.l6,h.l7,h.l8,h.l9,h.l10,h.l2,fun q=>⟨rfl,(h.d9 q).2⟩⟩
theorem EnL.p1(h:EnL a b g tm):EnL a b (updB g 1) ((4,.agg [.lit false,.lit true])::tm):=⟨h.l1,h.l3,fun _=>rfl,h.l5,h.l6,h.l7,h.l8,h.l9,h.l10,h.l2,h.d9⟩
theorem EnL.p3(h:EnL a b g tm):EnL a b (updB g 3) ((5,.agg [.lit true,.lit true])::tm):=⟨h.l1,h.l3,h.l4,fun _=>rfl,h.l6,h.l7,h.l8,h.l9,h.l10,h.l2,h.d9⟩
theorem EnL.p5(h:EnL a b g tm):EnL a b (updB g 5) ((6,.agg [.lit true,.lit false])::tm):=⟨h.l1,h.l3,h.l4,h.l5,fun _=>rfl,h.l7,h.l8,h.l9,h.l10,h.l2,h.d9⟩
theorem EnL.p7(h:EnL a b g tm):EnL a b (updB g 7) ((7,.agg [.lit false,.lit false])::tm):=⟨h.l1,h.l3,h.l4,h.l5,h.l6,fun _=>rfl,h.l8,h.l9,h.l10,h.l2,h.d9⟩
theorem EnL.p2(h:EnL a b g tm):EnL a b (updB g 2) tm:=⟨h.l1,h.l3,h.l4,h.l5,h.l6,h.l7,h.l8,h.l9,h.l10,h.l2,fun q=>⟨(h.d9 q).1,rfl,(h.d9 q).2.2⟩⟩
theorem EnL.p4(h:EnL a b g tm):EnL a b (updB g 4) tm:=⟨h.l1,h.l3,h.l4,h.l5,h.l6,h.l7,h.l8,h.l9,h.l10,h.l2,fun q=>⟨(h.d9 q).1,(h.d9 q).2.1,rfl,(h.d9 q).2.2.2⟩⟩
theorem EnL.p6(h:EnL a b g tm):EnL a b (updB g 6) tm:=⟨h.l1,h.l3,h.l4,h.l5,h.l6,h.l7,h.l8,h.l9,h.l10,h.l2,fun q=>⟨(h.d9 q).1,(h.d9 q).2.1,(h.d9 q).2.2.1,rfl,(h.d9 q).2.2.2.2⟩⟩
theorem EnL.p8(h:EnL a b g tm):EnL a b (updB g 8) tm:=⟨h.l1,h.l3,h.l4,h.l5,h.l6,h.l7,h.l8,h.l9,h.l10,h.l2,fun q=>⟨(h.d9 q).1,(h.d9 q).2.1,(h.d9 q).2.2.1,(h.d9 q).2.2.2.1,rfl⟩⟩
theorem EnL.p9(h:EnL a b g tm)(hd:g 0=true/\g 2=true/\g 4=true/\g 6=true/\g 8=true):EnL a b (updB g 9) ((8,.yl 1)::tm):=⟨h.l1,h.l3,h.l4,h.l5,h.l6,h.l7,fun _=>rfl,h.l9,h.l10,h.l2,fun _=>hd⟩
theorem EnL.p10(h:EnL a b g tm):EnL a b (updB g 10) ((9,.agg [.bool a,.bool b])::tm):=⟨h.l1,h.l3,h.l4,h.l5,h.l6,h.l7,h.l8,fun _=>rfl,h.l10,h.l2,h.d9⟩
theorem EnL.p11(h:EnL a b g tm):EnL a b (updB g 11) ((10,I (endV a b))::tm):=⟨h.l1,h.l3,h.l4,h.l5,h.l6,h.l7,h.l8,h.l9,fun _=>rfl,h.l2,h.d9⟩
theorem EnL.p12(h:EnL a b g tm):EnL a b (updB g 12) ((2,I (endV a b))::tm):=⟨h.l1,h.l3,h.l4,h.l5,h.l6,h.l7,h.l8,h.l9,h.l10,fun _=>rfl,h.d9⟩
end
def EnM(B:Nat)(g:Nat->Bool)(ρ:Ren)(gm:List (Nat×Obj)):Prop:=match g 0 with
 |false=>gm=[]/\ρ 1=none/\∀ x y,g (jOf x y)=false
 |true=>∃ k l c,gm=[(k,.map l c)]/\ρ 1=some (mrg k)/\B<=k/\EI g l.toList
theorem EnM.same{B:Nat}{g g':Nat->Bool}{ρ:Ren}{gm:List (Nat×Obj)}(h:EnM B g ρ gm)(h0:g' 0=g 0)(h1:∀ x y,g' (jOf x y)=g (jOf x y)):EnM B g' ρ gm:=by
 unfold EnM at h ⊢
 rw[h0]
 cases hg:g 0 with
 |false=>rw[hg]at h;exact⟨h.1,h.2.1,fun x y=>by rw[h1];exact h.2.2 x y⟩
 |true=>
  rw[hg]at h
  obtain⟨k,l,c,q1,q2,q3,q4⟩:=h
  exact⟨k,l,c,q1,q2,q3,fun e he=>by obtain⟨x,y,z1,z2,z3⟩:=q4.all e he;exact⟨x,y,z1,z2,by rw[h1];exact z3⟩,fun x y hg=>q4.has x y (by rw[<-h1];exact hg)⟩
theorem Ma{x y x' y':Bool}(h:jOf x y=jOf x' y'):x=x'/\y=y':=by
 cases x<;>cases y<;>cases x'<;>cases y'<;>simp[jOf]at h ⊢
def enI(E:Env)(N B S:Nat)(w0:World)(ρ0:Ren)(ca cb:Bool)(listed:List Bool)(a:Act)(w:World):Prop:=
 listed.length=13/\∃ g gm ρ tm,(∀ j,listed.getD j false=g j)/\Rel E.G B w0 S N [] (gm++[]) ρ tm [.cells true [.bool ca,.bool cb],.gone] a w/\ρ0.leB 0 ρ/\EnL ca cb g tm/\EnM B g ρ gm
section
variable{N B S:Nat}{w0:World}{ρ ρ0:Ren}{a:Act}{w:World}{E:Env}{gs:List (Nat×Obj)}{tm:Tm}{hp:List O}
theorem NA(hE:E.Ok PP){o:Oper}{v:V}{dst:Nat}(hrel:Rel E.G B w0 S N [] gs ρ tm hp a w)(hv:evOp E tm hp o.op=.val none v)(hdst:o.dst=some dst)(hd:dst<N):∃ u,(execOp a.eval o).run PP w=.ok (.value u) w/\Rel E.G B w0 S N [] gs ρ ((dst,v)::tm) hp (a.put o.dst u) w:=by
 obtain⟨u,h1,h2⟩:=gh hE hrel.hr.hv hrel.tr hv (fun b h=>by cases h)
 exact⟨u,h1,by rw[hdst];exact hrel.val hd h2⟩
theorem LU{o:Oper}{gm:List (Nat×Obj)}{ca cb:Bool}{g:Nat->Bool}(hrel:Rel E.G B w0 S N [] (gm++[]) ρ tm [.cells true [.bool ca,.bool cb],.gone] a w)(hM:EnM B g ρ gm)(h0:g 0=false)(ho:o.op=.makeMap 172 none)(hdst:o.dst=some 3)(hd:3<N) :
  ∃ w' gm' ρ',(execOp a.eval o).run PP w=.ok (.value (.map (some w.heap.size))) w'/\Rel E.G B w0 S N [] (gm'++[]) ρ' ((3,.yl 1)::tm) [.cells true [.bool ca,.bool cb],.gone] (a.put o.dst (.map (some w.heap.size))) w'/\ρ.le ρ'/\EnM B (updB g 0) ρ' gm':=by
 unfold EnM at hM
 rw[h0]at hM
 obtain⟨rfl,hno,hz⟩:=hM
 have hb:Below w.heap.size w (w.alloc (.map #[] 0)):=(Below.refl _ w).alloc (Nat.le_refl _) _
 have hfr:=hrel.hr.frame hb.size (fun k hk=>hb.block k hk)
 have hle:=Ren.le_add hno (mrg w.heap.size)
 have hl:=hfr.lay (r:=mrg w.heap.size) (b:=1) (by simp) rfl hno
 obtain⟨ms,d1,d2,d3,d4⟩:=hrel.df
 have hBw:B<=w.heap.size:=Nat.le_trans hrel.bs hrel.bel.size
 have hko:∀ p:Nat×Obj,w.heap[p.1]?=some p.2->(w.alloc (.map #[] 0)).heap[p.1]?=some p.2:=fun p hp=>(hb.block _ (Array.getElem?_eq_some_iff.1 hp).1).trans hp
 refine⟨w.alloc (.map #[] 0),[(w.heap.size,.map #[] 0)],ρ.add 1 (mrg w.heap.size),?_,?_,hle,?_⟩
 ·obtain⟨_,op,_,_,_,_⟩:=o
  dsimp only at ho
  subst ho
  rfl
 ·rw[hdst]
  refine⟨(hrel.tr.mono hle).put (by rw[hrel.sz];exact hd) ⟨_,Ren.add_same _ _ _,rfl⟩,hl,hrel.bel.trans (hb.mono hBw),by simp[Act.put,hrel.sz],⟨ms,by simpa[Act.put]using d1,fun p hp=>⟨hko p (d2 p hp).1,(d2 p hp).2⟩,d3,d4⟩,fun p hp=>?_,hrel.bs,hrel.ss,Nat.le_trans hrel.sw hb.size⟩
  have hp:p=(w.heap.size,.map #[] 0):=by simpa using hp
  subst hp
  exact⟨World.alloc_heap_new w _,rfl⟩
 ·have hall:∀ x y,updB g 0 (jOf x y)=false:=fun x y=>by
   have:updB g 0 (jOf x y)=g (jOf x y):=by cases x<;>cases y<;>rfl
   rw[this];exact hz x y
  unfold EnM
  rw[show updB g 0 0=true from rfl]
  exact⟨w.heap.size,#[],0,rfl,Ren.add_same _ _ _,hBw,fun e he=>by simp at he,fun x y h=>by rw[hall]at h;cases h⟩
theorem FU{o:Oper}{gm:List (Nat×Obj)}{ca cb:Bool}{g:Nat->Bool}{ok ov:Operand}{t i:Nat}(_hE:E.Ok PP)(hrel:Rel E.G B w0 S N [] (gm++[]) ρ tm hp a w)(hL:EnL ca cb g tm)(hM:EnM B g ρ gm)(x y:Bool)(h0:g 0=true)(hgi:g i=false)(hi:jOf x y=i)
  (ho:o.op=.insert 172 (.tmp 3) ok ov) (hok:ok=.tmp t) (hk:look tm t=.agg [.lit x,.lit y]) (hov:ov=.const (.int .i64 (endV x y))) (hdst:o.dst=none) :
  ∃ w',(execOp a.eval o).run PP w=.ok .skip w'/\(∃ gm',Rel E.G B w0 S N [] (gm'++[]) ρ tm hp (a.put o.dst undef) w'/\EnM B (updB g i) ρ gm'):=by
 subst hok;subst hov
 unfold EnM at hM
 rw[h0]at hM
 obtain⟨k,l,cl,rfl,q2,q4,q6⟩:=hM
 have em:a.eval (.tmp 3)=.map (some k):=by
  have h3:=hrel.tr 3
  rw[hL.l3 h0]at h3
  obtain⟨r,hr,em⟩:=h3
  rw[q2]at hr
  cases hr
  exact em
 have ek:a.eval (.tmp t)=.agg #[.bool x,.bool y]:=by
  have h3:=hrel.tr t
  rw[hk]at h3
  obtain⟨us,e,u1,r,rfl,z1,u2,r2,rfl,z2,z3⟩:=h3
  have z1:u1=.bool x:=z1
  have z2:u2=.bool y:=z2
  have z3:r2=[]:=z3
  subst z1;subst z2;subst z3
  exact e
 have hhk:w.heap[k]?=some (.map l cl):=(hrel.gs (k,.map l cl) (by simp)).1
 have hnot:¬ ∃ e∈l.toList,e.key=.agg #[.bool x,.bool y]:=by
  rintro⟨e,he,hk⟩
  obtain⟨x',y',z1,z2,z3⟩:=q6.all e he
  rw[hk]at z1
  simp only[Value.agg.injEq,Array.mk.injEq,List.cons.injEq,Value.bool.injEq,and_true]at z1
  rw[<-z1.1,<-z1.2,hi,hgi]at z3
  cases z3
 have hfk:(Instr.findKey 119 (.agg #[.bool x,.bool y]) l.toList).run PP w=.ok none w:=by
  rw[run_findKey_eq w JF]
  exact(qC w l.toList 0 q6.all).2 hnot
 obtain⟨l',hl'⟩:∃ l',l'=l.push { key:=.agg #[.bool x,.bool y],val:=.int .i64 (endV x y),born:=cl }:=⟨_,rfl⟩
 have hrun:(Instr.mapUpdate 172 (.map (some k)) (.agg #[.bool x,.bool y]) (.int .i64 (endV x y))).run PP w=.ok () (w.putObj k (.map l' (cl+1))):=by
  simp only[Instr.mapUpdate,Sem.run_bind,run_underlying Jz,Result.andThen_ok,rgm hhk,Jn,hfk,rsm _ hhk,hl']
 obtain⟨ms,d1,d2,d3,d4⟩:=hrel.df
 have hlt:k<w.heap.size:=(Array.getElem?_eq_some_iff.1 hhk).1
 refine⟨w.putObj k (.map l' (cl+1)),?_,[(k,.map l' (cl+1))],⟨?_,hrel.hr.putObj hhk rfl,dz hrel.bel q4,?_,⟨ms,?_,d2.putObj (fun p hp e=>?_),d3,d4⟩,fun p hp=>?_,hrel.bs,hrel.ss,by simpa using hrel.sw⟩,?_⟩
 ·obtain⟨_,op,_,_,_,_⟩:=o
  dsimp only at ho
  subst ho
  simp only[execOp,em,ek,Sem.run_bind]
  show ((Instr.mapUpdate 172 (.map (some k)) (.agg #[.bool x,.bool y]) (.int .i64 (endV x y))).run PP w).andThen _=_
  rw[hrun];rfl
 ·rw[hdst];exact hrel.tr
 ·rw[hdst];exact hrel.sz
 ·rw[hdst];exact d1
 ·obtain⟨dd,_,rfl⟩:=List.mem_map.1 hp
  have x1:=(d2 (marked dd) hp).1
  rw[e,hhk]at x1
  simp[marked]at x1
 ·have hp:p=(k,.map l' (cl+1)):=by simpa using hp
  subst hp
  exact⟨World.putObj_heap_same hlt,rfl⟩
 ·have hi0:(i==0)=false:=by rw[<-hi];cases x<;>cases y<;>rfl
  unfold EnM
  rw[show updB g i 0=true from Cr h0]
  refine⟨k,l',cl+1,rfl,q2,q4,?_,?_⟩
  ·intro e he
   rw[hl',Array.toList_push]at he
   rcases List.mem_append.1 he with he|he
   ·obtain⟨x',y',z1,z2,z3⟩:=q6.all e he
    exact⟨x',y',z1,z2,Cr z3⟩
   ·obtain rfl:=List.mem_singleton.1 he
    exact⟨x,y,rfl,rfl,by rw[hi];unfold updB;simp⟩
  ·intro x' y' hg
   rw[hl',Array.toList_push]
   by_cases e:jOf x' y'=i
   ·obtain⟨rfl,rfl⟩:=Ma (e.trans hi.symm)
    exact⟨_,List.mem_append.2 (.inr (List.mem_singleton.2 rfl)),rfl⟩
   ·have:g (jOf x' y')=true:=by
     unfold updB at hg
     rw[show Nat.beq (jOf x' y') i=false from by
      cases hb:Nat.beq (jOf x' y') i with
      |false=>rfl
      |true=>exact absurd (Nat.eq_of_beq_eq_true hb) e]at hg
     exact hg
    obtain⟨e',he,hk⟩:=q6.has x' y' this
    exact⟨e',List.mem_append.2 (.inl he),hk⟩
end
theorem EB{N B S:Nat}{w0 w:World}{ρ:Ren}{a:Act}{E:Env}{tm:Tm}{hp:List O}{o:Oper}{gm:List (Nat×Obj)}{ca cb:Bool}{g:Nat->Bool}(hrel:Rel E.G B w0 S N [] (gm++[]) ρ tm hp a w)(hL:EnL ca cb g tm)(hM:EnM B g ρ gm)(h9:g 9=true)(h10:g 10=true)
  (ho:o.op=.lookup 172 (.tmp 8) (.tmp 9) false):(execOp a.eval o).run PP w=.ok (.value (.int .i64 (endV ca cb))) w:=by
 obtain⟨h0,h2,h4,h6,h8⟩:=hL.d9 h9
 unfold EnM at hM
 rw[h0]at hM
 obtain⟨k,l,cl,rfl,q2,q4,q6⟩:=hM
 have em:a.eval (.tmp 8)=.map (some k):=by
  have h3:=hrel.tr 8
  rw[hL.l8 h9]at h3
  obtain⟨r,hr,em⟩:=h3
  rw[q2]at hr
  cases hr
  exact em
 have ek:a.eval (.tmp 9)=.agg #[.bool ca,.bool cb]:=by
  have h3:=hrel.tr 9
  rw[hL.l9 h10]at h3
  obtain⟨us,e,u1,r,rfl,z1,u2,r2,rfl,z2,z3⟩:=h3
  have z1:u1=.bool ca:=z1
  have z2:u2=.bool cb:=z2
  have z3:r2=[]:=z3
  subst z1;subst z2;subst z3
  exact e
 have hhk:w.heap[k]?=some (.map l cl):=(hrel.gs (k,.map l cl) (by simp)).1
 have hin:∃ e∈l.toList,e.key=.agg #[.bool ca,.bool cb]:=q6.has ca cb (by cases ca<;>cases cb<;>assumption)
 obtain⟨j,hj⟩:=(qC w l.toList 0 q6.all).1 hin
 have hfk:(Instr.findKey 119 (.agg #[.bool ca,.bool cb]) l.toList).run PP w=.ok (some (j,.int .i64 (endV ca cb))) w:=by
  rw[run_findKey_eq w JF];exact hj
 have hrun:(Instr.lookup 172 (.map (some k)) (.agg #[.bool ca,.bool cb]) false).run PP w=.ok (.int .i64 (endV ca cb)) w:=by
  simp only[Instr.lookup,Sem.run_bind,run_underlying Jz,Result.andThen_ok,rgm hhk,Sem.run_pure,Jn,hfk]
  rfl
 obtain⟨_,op,_,_,_,_⟩:=o
 dsimp only at ho
 subst ho
 simp only[execOp,em,ek,Sem.run_bind,hrun,Result.andThen_ok];rfl
def yX(o:Oper)(a:Act)(w:World)(I:Act->World->Prop):Prop:=(∃ u w',(execOp a.eval o).run PP w=.ok (.value u) w'/\I (a.put o.dst u) w')\/(∃ w',(execOp a.eval o).run PP w=.ok .skip w'/\I (a.put o.dst undef) w')
section
variable{N B S:Nat}{w0 w:World}{ρ:Ren}{a:Act}{E:Env}{tm:Tm}{o:Oper}{I:Act->World->Prop}{gm:List (Nat×Obj)}{ca cb:Bool}{g:Nat->Bool}
theorem nS(hE:E.Ok PP){hp:List O}{gs:List (Nat×Obj)}(hrel:Rel E.G B w0 S N [] gs ρ tm hp a w)(v:V)(dst:Nat)(hv:evOp E tm hp o.op=.val none v)(hdst:o.dst=some dst)(hd:Nat.blt dst N=true)(h:∀ a',Rel E.G B w0 S N [] gs ρ ((dst,v)::tm) hp a' w->I a' w):yX o a w I:=by
 obtain⟨u,e1,e2⟩:=NA hE hrel hv hdst (aH hd)
 exact .inl ⟨u,w,e1,h _ e2⟩
theorem LZ(hrel:Rel E.G B w0 S N [] (gm++[]) ρ tm [.cells true [.bool ca,.bool cb],.gone] a w)(hM:EnM B g ρ gm)(h0:g 0=false)(ho:o.op=.makeMap 172 none)(hdst:o.dst=some 3)(hd:Nat.blt 3 N=true)
  (h:∀ a' w' gm' ρ',Rel E.G B w0 S N [] (gm'++[]) ρ' ((3,.yl 1)::tm) [.cells true [.bool ca,.bool cb],.gone] a' w'->ρ.le ρ'->EnM B (updB g 0) ρ' gm'->I a' w'):yX o a w I:=by
 obtain⟨w',gm',ρ',e1,e2,e3,e4⟩:=LU hrel hM h0 ho hdst (aH hd)
 exact .inl ⟨_,w',e1,h _ _ _ _ e2 e3 e4⟩
theorem jt{hp:List O}{ok ov:Operand}(t i:Nat)(hE:E.Ok PP)(hrel:Rel E.G B w0 S N [] (gm++[]) ρ tm hp a w)(hL:EnL ca cb g tm)(hM:EnM B g ρ gm)(x y:Bool)(h0:g 0=true)(hgi:g i=false)(hi:jOf x y=i)
  (ho:o.op=.insert 172 (.tmp 3) ok ov) (hok:ok=.tmp t) (hk:look tm t=.agg [.lit x,.lit y]) (hov:ov=.const (.int .i64 (endV x y))) (hdst:o.dst=none)
  (h:∀ a' w' gm',Rel E.G B w0 S N [] (gm'++[]) ρ tm hp a' w'->EnM B (updB g i) ρ gm'->I a' w'):yX o a w I:=by
 obtain⟨w',e1,gm',e2,e3⟩:=FU hE hrel hL hM x y h0 hgi hi ho hok hk hov hdst
 exact .inr ⟨w',e1,h _ _ _ e2 e3⟩
theorem DR{hp:List O}(hrel:Rel E.G B w0 S N [] (gm++[]) ρ tm hp a w)(hL:EnL ca cb g tm)(hM:EnM B g ρ gm)(h9:g 9=true)(h10:g 10=true)(ho:o.op=.lookup 172 (.tmp 8) (.tmp 9) false)(hdst:o.dst=some 10)(hd:Nat.blt 10 N=true)
  (h:∀ a',Rel E.G B w0 S N [] (gm++[]) ρ ((10,V.int .i64 (endV ca cb))::tm) hp a' w->I a' w):yX o a w I:=by
 refine .inl ⟨_,w,EB hrel hL hM h9 h10 ho,h _ ?_⟩
 rw[hdst]
 exact hrel.val (aH hd) rfl
end
theorem Ct{listed:List Bool}(hk:∀ j,j<12->listed.getD j false=true)(l:List Edge)(h:(l.all fun e=>Nat.blt e.on 12)=true):(l.all fun e=>!Region.binds .any e||listed.getD e.on false)=true:=
 List.all_eq_true.2 fun e he=>by rw[hk e.on (aH (List.all_eq_true.1 h e he)),Bool.or_true]
theorem AP(ca cb:Bool):aJ (GGx kCa kDb) PP 77 [.agg [.bool ca,.bool cb]] [] (I (endV ca cb)) []:=by
 have hE:=aB (kCa:=kCa) (kDb:=kDb) (cts:=[]) (inl:=[]) trivial trivial
 refine oP hE (fn:=Tryz.f77) Tryz.func77 rfl rfl fun n B S w0 ρ0=>?_
 refine YM.seq (YM.seg hE 2 ?_)
 refine ag ?_
 refine YM.seq ?_
 rintro a w ⟨gm,ρ,hrel,hl0,_,h4⟩
 have h4:gm=[]:=h4
 subst h4
 refine wpIn_region_any hE.mixed ?_
 have hno:ρ 1=none:=hrel.hr.free 1 (by simp) (by decide)
 have hrel1:Rel (EE kCa kDb [] []).G B w0 S Tryz.f77.ntmps [] ([]++[]) ρ ((2,I 0)::(1,V.ptr 0 0 0)::bw 0 [V.agg [Bb ca,Bb cb]]) [.cells true [.bool ca,.bool cb],.gone] a w:=
  ⟨hrel.tr,hrel.hr.pad [.gone] (by simp[ax]),hrel.bel,hrel.sz,hrel.df,hrel.gs,hrel.bs,hrel.ss,hrel.sw⟩
 refine KX (enI (EE kCa kDb [] []) Tryz.f77.ntmps B S w0 ρ0 ca cb) ?_ ?_ ?_ _ (List.replicate 13 false) a _ ?_ ?_
 ·rintro listed a w ⟨hlen,g,gm,ρ,tm,hg,hr,hl0,hL,hM⟩ i hi
  obtain⟨hi1,hr2⟩:=List.mem_filter.1 hi
  have hi13:i<13:=List.mem_range.1 hi1
  have gi:∀ {j},listed.getD j true=false->j<13->g j=false:=fun {j} h hj=>by
   rw[<-hg]
   simp only[List.getD_eq_getElem?_getD]at h ⊢
   rw[List.getElem?_eq_getElem (by omega)]at h ⊢
   exact h
  have hjj:∀ {i},(∀ x y,jOf x y≠i)->∀ x y,updB g i (jOf x y)=g (jOf x y):=fun {i} h x y=>by
   unfold updB
   rw[show Nat.beq (jOf x y) i=false from by
    cases hb:Nat.beq (jOf x y) i with
    |false=>rfl
    |true=>exact absurd (Nat.eq_of_beq_eq_true hb) (h x y)]
  have jn:∀ {i:Nat},i≠2->i≠4->i≠6->i≠8->∀ x y,jOf x y≠i:=fun {i} a1 a2 a3 a4 x y=>by cases x<;>cases y<;>simp[jOf]<;>omega
  match i,hi13 with
  |0,_=>
   have hh:(!listed.getD 0 true&&true)=true:=hr2
   simp only[Bool.and_true,Bool.not_eq_true']at hh
   refine⟨_,rfl,rfl,rfl,?_⟩
   exact LZ hr hM (gi hh (by omega)) rfl rfl rfl fun a' w' gm' ρ' e2 e3 e4=>⟨by simpa using hlen,updB g 0,gm',ρ',_,cX hg (by omega),e2,Ren.leB_trans hl0 e3.leB,hL.p0,e4⟩
  |1,_=>
   refine⟨_,rfl,rfl,rfl,?_⟩
   exact nS hE.ok hr (.agg [.lit false,.lit true]) 4 rfl rfl rfl fun a' e2=>⟨by simpa using hlen,updB g 1,gm,ρ,_,cX hg (by omega),e2,hl0,hL.p1,hM.same rfl (hjj (jn (by omega) (by omega) (by omega) (by omega)))⟩
  |3,_=>
   refine⟨_,rfl,rfl,rfl,?_⟩
   exact nS hE.ok hr (.agg [.lit true,.lit true]) 5 rfl rfl rfl fun a' e2=>⟨by simpa using hlen,updB g 3,gm,ρ,_,cX hg (by omega),e2,hl0,hL.p3,hM.same rfl (hjj (jn (by omega) (by omega) (by omega) (by omega)))⟩
  |5,_=>
   refine⟨_,rfl,rfl,rfl,?_⟩
   exact nS hE.ok hr (.agg [.lit true,.lit false]) 6 rfl rfl rfl fun a' e2=>⟨by simpa using hlen,updB g 5,gm,ρ,_,cX hg (by omega),e2,hl0,hL.p5,hM.same rfl (hjj (jn (by omega) (by omega) (by omega) (by omega)))⟩
  |7,_=>
   refine⟨_,rfl,rfl,rfl,?_⟩
   exact nS hE.ok hr (.agg [.lit false,.lit false]) 7 rfl rfl rfl fun a' e2=>⟨by simpa using hlen,updB g 7,gm,ρ,_,cX hg (by omega),e2,hl0,hL.p7,hM.same rfl (hjj (jn (by omega) (by omega) (by omega) (by omega)))⟩
  |2,_=>
   have hh:(!listed.getD 2 true&&(listed.getD 0 false&&(listed.getD 1 false&&true)))=true:=hr2
   simp only[Bool.and_eq_true,Bool.not_eq_true',and_true]at hh
   obtain⟨h1,h2,h3⟩:=hh
   rw[hg]at h2 h3
   refine⟨_,rfl,rfl,rfl,?_⟩
   exact jt 4 2 hE.ok hr hL hM false true h2 (gi h1 (by omega)) rfl rfl rfl (hL.l4 h3) rfl rfl fun a' w' gm' e2 e3=>⟨by simpa using hlen,updB g 2,gm',ρ,tm,cX hg (by omega),e2,hl0,hL.p2,e3⟩
  |4,_=>
   have hh:(!listed.getD 4 true&&(listed.getD 0 false&&(listed.getD 3 false&&true)))=true:=hr2
   simp only[Bool.and_eq_true,Bool.not_eq_true',and_true]at hh
   obtain⟨h1,h2,h3⟩:=hh
   rw[hg]at h2 h3
   refine⟨_,rfl,rfl,rfl,?_⟩
   exact jt 5 4 hE.ok hr hL hM true true h2 (gi h1 (by omega)) rfl rfl rfl (hL.l5 h3) rfl rfl fun a' w' gm' e2 e3=>⟨by simpa using hlen,updB g 4,gm',ρ,tm,cX hg (by omega),e2,hl0,hL.p4,e3⟩
  |6,_=>
   have hh:(!listed.getD 6 true&&(listed.getD 0 false&&(listed.getD 5 false&&true)))=true:=hr2
   simp only[Bool.and_eq_true,Bool.not_eq_true',and_true]at hh
   obtain⟨h1,h2,h3⟩:=hh
   rw[hg]at h2 h3
   refine⟨_,rfl,rfl,rfl,?_⟩
   exact jt 6 6 hE.ok hr hL hM true false h2 (gi h1 (by omega)) rfl rfl rfl (hL.l6 h3) rfl rfl fun a' w' gm' e2 e3=>⟨by simpa using hlen,updB g 6,gm',ρ,tm,cX hg (by omega),e2,hl0,hL.p6,e3⟩
  |8,_=>
   have hh:(!listed.getD 8 true&&(listed.getD 0 false&&(listed.getD 7 false&&true)))=true:=hr2
   simp only[Bool.and_eq_true,Bool.not_eq_true',and_true]at hh
   obtain⟨h1,h2,h3⟩:=hh
   rw[hg]at h2 h3
   refine⟨_,rfl,rfl,rfl,?_⟩
   exact jt 7 8 hE.ok hr hL hM false false h2 (gi h1 (by omega)) rfl rfl rfl (hL.l7 h3) rfl rfl fun a' w' gm' e2 e3=>⟨by simpa using hlen,updB g 8,gm',ρ,tm,cX hg (by omega),e2,hl0,hL.p8,e3⟩
  |9,_=>
   have hh:(!listed.getD 9 true&&(listed.getD 0 false&&(listed.getD 1 false&&(listed.getD 2 false&&(listed.getD 3 false&&(listed.getD 4 false&&(listed.getD 5 false&&(listed.getD 6 false&&(listed.getD 7 false&&(listed.getD 8 false&&true))))))))))=true:=hr2
   simp only[Bool.and_eq_true,Bool.not_eq_true',and_true]at hh
   obtain⟨h1,k0,k1,k2,k3,k4,k5,k6,k7,k8⟩:=hh
   rw[hg]at k0 k2 k4 k6 k8
   refine⟨_,rfl,rfl,rfl,?_⟩
   exact nS hE.ok hr (.yl 1) 8 (by show R.val none (look tm 3)=_;rw[hL.l3 k0]) rfl rfl fun a' e2=>⟨by simpa using hlen,updB g 9,gm,ρ,_,cX hg (by omega),e2,hl0,hL.p9 ⟨k0,k2,k4,k6,k8⟩,hM.same rfl (hjj (jn (by omega) (by omega) (by omega) (by omega)))⟩
  |10,_=>
   refine⟨_,rfl,rfl,rfl,?_⟩
   exact nS hE.ok hr (.agg [.bool ca,.bool cb]) 9 (by
    show (match Ez _ _ 119 (look tm 1) with|some v=>R.val none v|none=>.bad)=_
    rw[hL.l1];rfl) rfl rfl fun a' e2=>⟨by simpa using hlen,updB g 10,gm,ρ,_,cX hg (by omega),e2,hl0,hL.p10,hM.same rfl (hjj (jn (by omega) (by omega) (by omega) (by omega)))⟩
  |11,_=>
   have hh:(!listed.getD 11 true&&(listed.getD 9 false&&(listed.getD 10 false&&true)))=true:=hr2
   simp only[Bool.and_eq_true,Bool.not_eq_true',and_true]at hh
   obtain⟨h1,h2,h3⟩:=hh
   rw[hg]at h2 h3
   refine⟨_,rfl,rfl,rfl,?_⟩
   exact DR hr hL hM h2 h3 rfl rfl rfl fun a' e2=>⟨by simpa using hlen,updB g 11,gm,ρ,_,cX hg (by omega),e2,hl0,hL.p11,hM.same rfl (hjj (jn (by omega) (by omega) (by omega) (by omega)))⟩
  |12,_=>
   have h2:listed.getD 11 false=true:=by
    simp only[Bool.and_eq_true]at hr2
    have:=List.all_eq_true.1 hr2.2 ⟨11,.data⟩ (by exact List.mem_cons_self)
    exact this
   rw[hg]at h2
   refine⟨_,rfl,rfl,rfl,?_⟩
   exact nS hE.ok hr (I (endV ca cb)) 2 (by show R.val none (look tm 10)=_;rw[hL.l10 h2]) rfl rfl fun a' e2=>⟨by simpa using hlen,updB g 12,gm,ρ,_,cX hg (by omega),e2,hl0,hL.p12,hM.same rfl (hjj (jn (by omega) (by omega) (by omega) (by omega)))⟩
  |j+13,h=>exact absurd h (by omega)
 ·rintro listed a w ⟨hlen,g,gm,ρ,tm,hg,hr,hl0,hL,hM⟩ hrd
  have ff:∀ j,j<13->listed.getD j true=g j:=fun j hj=>by
   rw[<-hg]
   simp only[List.getD_eq_getElem?_getD]
   rw[List.getElem?_eq_getElem (by omega)]
   rfl
  have nm:∀ j,j∉([]:List Nat):=fun j h=>by cases h
  have k0:g 0=true:=by
   cases hq:g 0 with
   |true=>rfl
   |false=>exact absurd (hrd▸List.mem_filter.2 ⟨List.mem_range.2 (by decide),by show (!listed.getD 0 true&&true)=true;rw[ff 0 (by omega),hq];rfl⟩) (nm 0)
  have k1:g 1=true:=by
   cases hq:g 1 with
   |true=>rfl
   |false=>exact absurd (hrd▸List.mem_filter.2 ⟨List.mem_range.2 (by decide),by show (!listed.getD 1 true&&true)=true;rw[ff 1 (by omega),hq];rfl⟩) (nm 1)
  have k3:g 3=true:=by
   cases hq:g 3 with
   |true=>rfl
   |false=>exact absurd (hrd▸List.mem_filter.2 ⟨List.mem_range.2 (by decide),by show (!listed.getD 3 true&&true)=true;rw[ff 3 (by omega),hq];rfl⟩) (nm 3)
  have k5:g 5=true:=by
   cases hq:g 5 with
   |true=>rfl
   |false=>exact absurd (hrd▸List.mem_filter.2 ⟨List.mem_range.2 (by decide),by show (!listed.getD 5 true&&true)=true;rw[ff 5 (by omega),hq];rfl⟩) (nm 5)
  have k7:g 7=true:=by
   cases hq:g 7 with
   |true=>rfl
   |false=>exact absurd (hrd▸List.mem_filter.2 ⟨List.mem_range.2 (by decide),by show (!listed.getD 7 true&&true)=true;rw[ff 7 (by omega),hq];rfl⟩) (nm 7)
  have k10:g 10=true:=by
   cases hq:g 10 with
   |true=>rfl
   |false=>exact absurd (hrd▸List.mem_filter.2 ⟨List.mem_range.2 (by decide),by show (!listed.getD 10 true&&true)=true;rw[ff 10 (by omega),hq];rfl⟩) (nm 10)
  have k2:g 2=true:=by
   cases hq:g 2 with
   |true=>rfl
   |false=>exact absurd (hrd▸List.mem_filter.2 ⟨List.mem_range.2 (by decide),by show (!listed.getD 2 true&&(listed.getD 0 false&&(listed.getD 1 false&&true)))=true;rw[ff 2 (by omega),hq,hg,hg,k0,k1];rfl⟩) (nm 2)
  have k4:g 4=true:=by
   cases hq:g 4 with
   |true=>rfl
   |false=>exact absurd (hrd▸List.mem_filter.2 ⟨List.mem_range.2 (by decide),by show (!listed.getD 4 true&&(listed.getD 0 false&&(listed.getD 3 false&&true)))=true;rw[ff 4 (by omega),hq,hg,hg,k0,k3];rfl⟩) (nm 4)
  have k6:g 6=true:=by
   cases hq:g 6 with
   |true=>rfl
   |false=>exact absurd (hrd▸List.mem_filter.2 ⟨List.mem_range.2 (by decide),by show (!listed.getD 6 true&&(listed.getD 0 false&&(listed.getD 5 false&&true)))=true;rw[ff 6 (by omega),hq,hg,hg,k0,k5];rfl⟩) (nm 6)
  have k8:g 8=true:=by
   cases hq:g 8 with
   |true=>rfl
   |false=>exact absurd (hrd▸List.mem_filter.2 ⟨List.mem_range.2 (by decide),by show (!listed.getD 8 true&&(listed.getD 0 false&&(listed.getD 7 false&&true)))=true;rw[ff 8 (by omega),hq,hg,hg,k0,k7];rfl⟩) (nm 8)
  have k9:g 9=true:=by
   cases hq:g 9 with
   |true=>rfl
   |false=>exact absurd (hrd▸List.mem_filter.2 ⟨List.mem_range.2 (by decide),by show (!listed.getD 9 true&&(listed.getD 0 false&&(listed.getD 1 false&&(listed.getD 2 false&&(listed.getD 3 false&&(listed.getD 4 false&&(listed.getD 5 false&&(listed.getD 6 false&&(listed.getD 7 false&&(listed.getD 8 false&&true))))))))))=true;rw[ff 9 (by omega),hq,hg,hg,hg,hg,hg,hg,hg,hg,hg,k0,k1,k2,k3,k4,k5,k6,k7,k8];rfl⟩) (nm 9)
  have k11:g 11=true:=by
   cases hq:g 11 with
   |true=>rfl
   |false=>exact absurd (hrd▸List.mem_filter.2 ⟨List.mem_range.2 (by decide),by show (!listed.getD 11 true&&(listed.getD 9 false&&(listed.getD 10 false&&true)))=true;rw[ff 11 (by omega),hq,hg,hg,k9,k10];rfl⟩) (nm 11)
  have kk:∀ j,j<12->listed.getD j false=true:=fun j hj=>by
   rw[hg]
   match j,hj with
   |0,_=>exact k0
   |1,_=>exact k1
   |2,_=>exact k2
   |3,_=>exact k3
   |4,_=>exact k4
   |5,_=>exact k5
   |6,_=>exact k6
   |7,_=>exact k7
   |8,_=>exact k8
   |9,_=>exact k9
   |10,_=>exact k10
   |11,_=>exact k11
   |j+12,h=>exact absurd h (by omega)
  have k12:g 12=true:=by
   cases hq:g 12 with
   |true=>rfl
   |false=>
    refine absurd (hrd▸List.mem_filter.2 ⟨List.mem_range.2 (by decide),?_⟩) (nm 12)
    rw[ff 12 (by omega),hq]
    exact(Bool.true_and _).trans (Ct kk _ rfl)
  refine⟨2,none,[(2,I (endV ca cb))],_,⟨[],ρ,⟨?_,hr.hr,hr.bel,hr.sz,hr.df,fun p hp=>by simp at hp,hr.bs,hr.ss,hr.sw⟩,hl0,Nat.zero_le _,rfl⟩,?_⟩
  ·have:=hr.tr.keep [2]
   simp only[da,hL.l2 k12]at this
   exact this
  ·refine YM.seg hE 2 ?_
   exact ag ⟨_,_,Ent.refl _ _ _,aO [] (.inr rfl) rfl rfl rfl rfl rfl⟩
 ·rintro listed a w ⟨hlen,_⟩;exact hlen
 ·refine⟨rfl,fun _=>false,[],ρ,_,fun j=>?_,hrel1.draw _,hl0,?_,?_⟩
  ·simp only[List.getD_eq_getElem?_getD,List.getElem?_replicate]
   split<;>rfl
  ·exact EnL.mk rfl (fun h=>by cases h) (fun h=>by cases h) (fun h=>by cases h) (fun h=>by cases h) (fun h=>by cases h) (fun h=>by cases h) (fun h=>by cases h) (fun h=>by cases h) (fun h=>by cases h) (fun h=>by cases h)
-- fun h=>by cases h,fun h=>by cases h,fun h=>by cases h,fun h=>by cases h,fun h=>by cases h,fun h=>by cases h,fun h=>by cases h,fun h=>by cases h,fun h=>by cases h⟩
  ·exact⟨rfl,hno,fun _ _=>rfl⟩
 ·decide
def sJ:CF
 |[.agg [.bool a,.bool b]],[]=>some (true,I (endV a b),[])
 |_,_=>none
theorem vI:CtOk (GGx kCa kDb) PP (77,sJ):=by
 refine aD Tryz.func77 (by kernel_rfl) rfl fun a0 h0 c0 v0 N0 e hc=>?_
 unfold sJ at e
 split at e
 ·cases e
  exact AP _ _
 ·cases e
def eTx(r:Int)(e:Bool):List UInt8×Int:=bif (txt r e).2 then((txt r e).1,0) else([],2)
def MY(R:List UInt8×Int):V:=.tup [.str R.1,I R.2]
def xN:CF
 |[.int .i64 r,.bool e],[]=>some (true,MY (eTx r e),[])
 |_,_=>none
theorem Bh:CtOk (GGx kCa kDb) PP (24,xN):=by
 refine aD Tryz.func24 (by kernel_rfl) rfl fun a0 h0 c0 v0 N0 e hc=>?_
 unfold xN at e
 split at e
 ·cases e
  have h:=Dg (kCa:=kCa) (kDb:=kDb)
  unfold MY eTx
  rename_i r e
  have h:=h r e
  cases ht:(txt r e).2 with
  |true=>rw[ht]at h;exact h
  |false=>rw[ht]at h;exact h
 ·cases e
end
end Go.Ab
