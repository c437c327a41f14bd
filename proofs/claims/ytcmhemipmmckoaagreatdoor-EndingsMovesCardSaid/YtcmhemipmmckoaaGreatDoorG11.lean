/- Contracts of the functions that the laws reach, and plain laws of what they compute (text G11); no condition. -/
import Derived.Test.YtcmhemipmmckoaaGreatDoorG10
set_option maxRecDepth 100000
namespace Go.Ab
open Go.Proofs
section
def tS(p:Psn)(b:Int):Bool:=decide (py p.f b=fa p.r p.bl)
def tgB(p:Psn)(a b:Int):Bool:=!isP (p.zs.getD b.toNat 0) p.bl &&
 (bif decide (aW (p.zs.getD a.toNat 0)=1)then cj p.f p.r p.bl a (occR p.f p.r p.zs) b||(dK p.f p.bl a b&&(!decide (p.zs.getD b.toNat 0=0)||decide (b=p.pa)))
 else bL p.f p.r (aW (p.zs.getD a.toNat 0)) a b (occR p.f p.r p.zs)||wayB p.f p.r p.zs (wayN p.zs p.bl p.ca a b))
section
variable{p:Psn}{a b:Int}
theorem PsH.ab(o:PsH p)(ha:aj p.f p.r a=true):absP (p.zs.getD a.toNat 0)=aW (p.zs.getD a.toNat 0):=by
 obtain⟨h0,h1⟩:=(bN o.bd).1 ha
 exact kg o.h h0 h1
theorem OK(o:PsH p)(hb:aj p.f p.r b=true){pr:Int}:pnL p.f p.r p.zs p.bl p.pa a b pr=((tS p b==!decide (pr=0))&&(cj p.f p.r p.bl a (occR p.f p.r p.zs) b||(dK p.f p.bl a b&&(!decide (p.zs.getD b.toNat 0=0)||decide (b=p.pa))))):=by
 have hin:∀ c:Int->Bool,hasL b (cB c id (p.f*p.r).toNat)=c b:=fun c=>by
  rw[Bool.eq_iff_iff,kS,ey]
  have:=aL hb
  exact⟨fun h=>h.2.2,fun h=>⟨this.1,by omega,h⟩⟩
 unfold pnL tS
 rw[hin,hin,nR o.bd o.hl,(dM hb).1]
 cases(decide (py p.f b=fa p.r p.bl)==!decide (pr=0))<;>cases cj p.f p.r p.bl a (occR p.f p.r p.zs) b<;>rfl
theorem vf(o:PsH p)(ha:aj p.f p.r a=true)(hb:aj p.f p.r b=true)(hown:isP (p.zs.getD a.toNat 0) p.bl=true){pr:Int}(hpr:pr=0\/(2<=pr/\pr<=5)) :
  canM p a b pr=(tgB p a b&&((decide (aW (p.zs.getD a.toNat 0)=1)&&tS p b)==!decide (pr=0))):=by
 unfold canM tgB err3
 dsimp only
 rw[hown,Bool.and_true,iE (_ca:=p.ca) o.h o.hl ha hb hown,nR o.bd o.hl,OK o hb]
 cases hi:isP (p.zs.getD b.toNat 0) p.bl with
 |true=>simp
 |false=>
  have hab:a≠b:=fun e=>by rw[e,hi]at hown;cases hown
  have hmv:mvB p.f p.r a b pr=true:=by
   unfold mvB
   rw[ha,hb,decide_eq_false hab]
   rcases hpr with h|h
   ·rw[decide_eq_true h];rfl
   ·rw[decide_eq_true h.1,decide_eq_true h.2];simp
  rw[hmv]
  cases hk:decide (aW (p.zs.getD a.toNat 0)=1) with
  |true=>
   have hw:wayB p.f p.r p.zs (wayN p.zs p.bl p.ca a b)=false:=by
    have:wayN p.zs p.bl p.ca a b=4:=by
     unfold wayN
     rw[o.ab ha,of_decide_eq_true hk];rfl
    rw[this];rfl
   rw[hw]
   cases(cj p.f p.r p.bl a (occR p.f p.r p.zs) b||(dK p.f p.bl a b&&(!decide (p.zs.getD b.toNat 0=0)||decide (b=p.pa))))<;>cases tS p b<;>cases decide (pr=0)<;>rfl
  |false=>
   cases bL p.f p.r (aW (p.zs.getD a.toNat 0)) a b (occR p.f p.r p.zs)<;>cases wayB p.f p.r p.zs (wayN p.zs p.bl p.ca a b)<;>cases decide (pr=0)<;>rfl
theorem Me(o:PsH p)(ha:aj p.f p.r a=true)(hb:aj p.f p.r b=true)(hown:isP (p.zs.getD a.toNat 0) p.bl=true) :
  ke p a b=bif tgB p a b then(bif decide (aW (p.zs.getD a.toNat 0)=1)&&tS p b then[[a,b,2],[a,b,3],[a,b,4],[a,b,5]] else[[a,b,0]]) else[]:=by
 unfold ke prs
 simp only[List.filter_cons,List.filter_nil]
 rw[vf o ha hb hown (.inl rfl),vf o ha hb hown (pr:=2) (.inr (by decide)),vf o ha hb hown (pr:=3) (.inr (by decide)),vf o ha hb hown (pr:=4) (.inr (by decide)),vf o ha hb hown (pr:=5) (.inr (by decide))]
 cases tgB p a b<;>cases(decide (aW (p.zs.getD a.toNat 0)=1)&&tS p b)<;>simp
theorem tT(hown:isP (p.zs.getD a.toNat 0) p.bl=false):ke p a b=[]:=by
 unfold ke
 rw[filter_none fun pr _=>by unfold canM;rw[hown];simp];rfl
theorem PsH.pa0(o:PsH p)(h:0<=p.pa):aj p.f p.r p.pa=true/\p.zs.getD p.pa.toNat 0=0:=by
 have hps:=o.pass
 simp only[iQ,Bool.or_eq_true,Bool.and_eq_true,decide_eq_true_eq]at hps
 rcases hps with hps|⟨⟨⟨⟨⟨⟨_,_⟩,p3⟩,_⟩,p5⟩,_⟩,_⟩
 ·omega
 ·exact⟨p3,p5⟩
theorem Oo(o:PsH p)(ha:aj p.f p.r a=true)(hown:isP (p.zs.getD a.toNat 0) p.bl=true) :
  Uk (tgR p a)/\(∀ n:Nat,n<64->bt (tgR p a) n=true->n<p.zs.length)/\∀ b,aj p.f p.r b=true->bt (tgR p a) b.toNat=tgB p a b:=by
 obtain⟨ha0,ha1⟩:=(bN o.bd).1 ha
 obtain⟨hou,hob⟩:=jS o.bd o.hl
 obtain⟨hwu,hwb⟩:=yE o.hl
 have hray:gH p.f p.r a (occR p.f p.r p.zs)=true:=(kf hou).2 ⟨ha,zg o.h o.hl⟩
 have hon:∀ {s:Int},OnS p.f p.r s->∀ n:Nat,n<64->bt s n=true->n<p.zs.length:=fun h n hn hb=>by
  have:=(bN o.bd).1 (h n hn hb)
  omega
 unfold tgR tgB
 rw[o.ab ha]
 cases hk:decide (aW (p.zs.getD a.toNat 0)=1) with
 |true=>
  simp only[cond_true]
  obtain⟨_,s1,s3,s2⟩:=zK (bl:=p.bl) hray hou
  obtain⟨_,p1,p3,p2⟩:=wT (bl:=p.bl) ha
  have hot:Uk (bif decide (0<=p.pa)then uor (cY (occR p.f p.r p.zs) (ownS p)) (ushl 1 p.pa)else cY (occR p.f p.r p.zs) (ownS p))/\∀ b,aj p.f p.r b=true->bt (bif decide (0<=p.pa)then uor (cY (occR p.f p.r p.zs) (ownS p)) (ushl 1 p.pa)else cY (occR p.f p.r p.zs) (ownS p)) b.toNat=((!decide (p.zs.getD b.toNat 0=0)&&!isP (p.zs.getD b.toNat 0) p.bl)||decide (b=p.pa)):=by
   have base:∀ b,aj p.f p.r b=true->bt (cY (occR p.f p.r p.zs) (ownS p)) b.toNat=(!decide (p.zs.getD b.toNat 0=0)&&!isP (p.zs.getD b.toNat 0) p.bl):=fun b hb=>by
    have:=(bN o.bd).1 hb
    rw[iM hou hwu,hob,hwb,decide_eq_true (show b.toNat<p.zs.length by omega),Bool.true_and,Bool.true_and]
   cases hp:decide (0<=p.pa) with
   |true=>
    have hp0:=of_decide_eq_true hp
    have hv:=(o.pa0 hp0).1
    have hlt:=aL hv
    refine⟨iy _ _,fun b hb=>?_⟩
    have hb0:=(aL hb).1
    rw[cond_true,fE (kK _ _) (jc _ _),base b hb,jz hlt.1 hlt.2.2]
    congr 1
    rw[decide_eq_decide];omega
   |false=>
    refine⟨kK _ _,fun b hb=>?_⟩
    have hb0:=(aL hb).1
    have hp0:=of_decide_eq_false hp
    rw[cond_false,base b hb,decide_eq_false (show ¬ b=p.pa by omega),Bool.or_false]
  refine⟨iy _ _,fun n hn h=>?_,fun b hb=>?_⟩
  ·rw[fE s1 (tD _ _),Bool.or_eq_true]at h
   rcases h with h|h
   ·exact hon s3 n hn h
   ·rw[qg p1 hot.1,Bool.and_eq_true]at h
    exact hon p3 n hn h.1
  ·have hlt:=(bN o.bd).1 hb
   rw[fE s1 (tD _ _),s2 b hb,qg p1 hot.1,p2 b hb,hot.2 b hb]
   cases hi:isP (p.zs.getD b.toNat 0) p.bl with
   |true=>
    have hz:=yP hi
    have hst:cj p.f p.r p.bl a (occR p.f p.r p.zs) b=false:=by
     have hocc:hasB (occR p.f p.r p.zs) b=true:=by
      rw[iK hou hb,hob,decide_eq_true (show b.toNat<p.zs.length by omega),decide_eq_false hz];rfl
     rw[Bool.eq_false_iff]
     intro h
     simp only[cj,Bool.or_eq_true,Bool.and_eq_true,decide_eq_true_eq,Bool.not_eq_true']at h
     rcases h with⟨h1,h2⟩|⟨⟨⟨⟨h1,_⟩,_⟩,_⟩,h2⟩<;>rw[<-h1,hocc]at h2<;>cases h2
    have hpa:decide (b=p.pa)=false:=by
     rw[decide_eq_false_iff_not]
     intro e
     have:=(o.pa0 (by omega)).2
     rw[<-e]at this
     exact hz this
    rw[hst,hpa];simp
   |false=>simp
 |false=>
  simp only[cond_false]
  have hk5:=Av o.h ha0 ha1 hown (of_decide_eq_false hk)
  obtain⟨r1,r2,r3⟩:=ru hray hou hk5
  replace r1:Uk (cq p.f p.r (aW (p.zs.getD a.toNat 0)) a (occR p.f p.r p.zs)).1:=r1
  replace r2:OnS p.f p.r (cq p.f p.r (aW (p.zs.getD a.toNat 0)) a (occR p.f p.r p.zs)).1:=r2
  replace r3:∀ b,aj p.f p.r b=true->bt (cq p.f p.r (aW (p.zs.getD a.toNat 0)) a (occR p.f p.r p.zs)).1 b.toNat=bL p.f p.r (aW (p.zs.getD a.toNat 0)) a b (occR p.f p.r p.zs):=r3
  have hsw:Uk (bif decide (aW (p.zs.getD a.toNat 0)=6)then uor (cq p.f p.r (aW (p.zs.getD a.toNat 0)) a (occR p.f p.r p.zs)).1 (sw4 p a) else(cq p.f p.r (aW (p.zs.getD a.toNat 0)) a (occR p.f p.r p.zs)).1) /\
    (∀ n:Nat,n<64->bt (bif decide (aW (p.zs.getD a.toNat 0)=6)then uor (cq p.f p.r (aW (p.zs.getD a.toNat 0)) a (occR p.f p.r p.zs)).1 (sw4 p a) else(cq p.f p.r (aW (p.zs.getD a.toNat 0)) a (occR p.f p.r p.zs)).1) n=true->n<p.zs.length) /\
    ∀ b,aj p.f p.r b=true->bt (bif decide (aW (p.zs.getD a.toNat 0)=6)then uor (cq p.f p.r (aW (p.zs.getD a.toNat 0)) a (occR p.f p.r p.zs)).1 (sw4 p a) else(cq p.f p.r (aW (p.zs.getD a.toNat 0)) a (occR p.f p.r p.zs)).1) b.toNat=(bL p.f p.r (aW (p.zs.getD a.toNat 0)) a b (occR p.f p.r p.zs)||wayB p.f p.r p.zs (wayN p.zs p.bl p.ca a b)):=by
   cases h6:decide (aW (p.zs.getD a.toNat 0)=6) with
   |true=>
    have hk6:absP (p.zs.getD a.toNat 0)=6:=by rw[o.ab ha];exact of_decide_eq_true h6
    refine⟨iy _ _,fun n hn h=>?_,fun b hb=>?_⟩
    ·rw[cond_true,fE r1 Ie.1,Bool.or_eq_true]at h
     rcases h with h|h
     ·exact hon r2 n hn h
     ·have h64:p.zs.length=64:=by
       have hc:=o.cast
       simp only[eD,Bool.and_eq_true,Bool.not_eq_true',decide_eq_true_eq]at hc
       obtain⟨⟨⟨⟨c1,c2⟩,c3⟩,c4⟩,_⟩:=hc
       rw[Ie.2]at h
       simp only[Bool.or_eq_true,Bool.and_eq_true,Bool.not_eq_true',Bool.or_eq_false_iff,decide_eq_false_iff_not]at h
       have fin:∀ {bit:Int} {k q:Nat} {c:Bool},rtX p.f p.r p.zs p.ca bit k q c=false->cw p.ca bit≠0->p.zs.length=64:=fun h1 h2=>by
        obtain⟨f8,r8,_⟩:=dJ h1 h2
        exact rN o.bd (by rw[f8,r8];rfl)
       rcases h with((⟨⟨⟨⟨h,_⟩,_⟩,_⟩,_⟩|⟨⟨⟨⟨h,_⟩,_⟩,_⟩,_⟩)|⟨⟨⟨⟨h,_⟩,_⟩,_⟩,_⟩)|⟨⟨⟨⟨h,_⟩,_⟩,_⟩,_⟩
       ·exact fin c1 h
       ·exact fin c2 h
       ·exact fin c3 h
       ·exact fin c4 h
      omega
    ·rw[cond_true,fE r1 Ie.1,r3 b hb,Nb hk6 (aL hb).1]
   |false=>
    refine⟨r1,hon r2,fun b hb=>?_⟩
    have hw:wayN p.zs p.bl p.ca a b=4:=by
     unfold wayN
     rw[o.ab ha,h6];rfl
    rw[cond_false,r3 b hb,hw]
    have:wayB p.f p.r p.zs 4=false:=rfl
    rw[this,Bool.or_false]
  refine⟨kK _ _,fun n hn h=>?_,fun b hb=>?_⟩
  ·rw[iM hsw.1 hwu,Bool.and_eq_true]at h
   exact hsw.2.1 n hn h.1
  ·have hlt:=(bN o.bd).1 hb
   rw[iM hsw.1 hwu,hsw.2.2 b hb,hwb,decide_eq_true (show b.toNat<p.zs.length by omega),Bool.true_and,Bool.and_comm]
end
end
end Go.Ab
namespace Go.Ab
open IntKind
open Go.Proofs
section
theorem nN{α β:Type}(q:α->Bool)(g:α->List β):∀ l:List α,(l.filter q).flatMap g=l.flatMap fun x=>bif q x then g x else[]
 |[]=>rfl
 |x::l=>by
  rw[List.filter_cons,List.flatMap_cons,<-nN q g l]
  cases q x<;>simp
theorem kE{α β:Type}{f g:α->List β}:∀ {l:List α},(∀ x∈l,f x=g x)->l.flatMap f=l.flatMap g
 |[],_=>rfl
 |x::l,h=>by rw[List.flatMap_cons,List.flatMap_cons,h x (List.mem_cons_self ..),kE fun y hy=>h y (List.mem_cons_of_mem _ hy)]
theorem qe{β:Type}{q:Nat->Bool}{g:Int->List β}{n:Nat}(hn:n<=64)(hq:∀ m,m<64->q m=true->m<n) :
  (((List.range 64).filter q).map Int.ofNat).flatMap g=((List.range n).map Int.ofNat).flatMap fun x=>bif q x.toNat then g x else[]:=by
 rw[List.flatMap_map,List.flatMap_map,nN,List.range_eq_range',List.range_eq_range',show 64=n+(64-n) by omega,<-List.range'_append_1,List.flatMap_append]
 have h2:(List.range' (0+n) (64-n)).flatMap (fun x=>bif q x then g (Int.ofNat x) else[])=[]:=by
  rw[List.flatMap_eq_nil_iff]
  intro x hx
  have hx:=List.mem_range'_1.1 hx
  cases h:q x with
  |false=>rfl
  |true=>have:=hq x (by omega) h;omega
 rw[h2,List.append_nil]
 rfl
theorem nZ{α:Type}{step:Int->List (List Int)->Option (List (List Int) ⊕ (List (List Int) ⊕ α))}{F Fx:List (List Int)->Option α}{rows:Int->List (List Int)}{M k:Nat}:∀ {l:List Int} {acc:List (List Int)},
  (∀ x∈l,∀ acc:List (List Int),acc.length<=M->step x acc=some (.inl (acc++rows x)))->(∀ x∈l,(rows x).length<=k)->acc.length+k*l.length<=M->dQ step F Fx l acc=F (acc++l.flatMap rows)
 |[],acc,_,_,_=>by rw[Bw,List.flatMap_nil,List.append_nil]
 |x::l,acc,hs,hr,hM=>by
  rw[List.length_cons,Nat.mul_add]at hM
  rw[nl (hs x (List.mem_cons_self ..) acc (by omega)),nZ (fun y hy=>hs y (List.mem_cons_of_mem _ hy)) (fun y hy=>hr y (List.mem_cons_of_mem _ hy)) (by have:=hr x (List.mem_cons_self ..);rw[List.length_append];omega),List.flatMap_cons,List.append_assoc]
theorem CH{f r b:Int}{zs:List Int}(_hbd:aC f r zs=true)(hb:aj f r b=true):((r-1)*f<=b↔py f b=r-1)/\(b<f↔py f b=0):=by
 obtain⟨b0,b1,b2,b3,b4,b5,b6,b7,b8,b9⟩:=dM hb
 constructor
 ·constructor
  ·intro h
   refine Decidable.byContradiction fun hne=>?_
   have:(py f b+1)*f<=(r-1)*f:=Int.mul_le_mul_of_nonneg_right (by omega) (by omega)
   rw[Int.add_mul]at this
   omega
  ·intro h
   rw[<-h];omega
 ·constructor
  ·intro h
   refine Decidable.byContradiction fun hne=>?_
   have:1*f<=py f b*f:=Int.mul_le_mul_of_nonneg_right (by omega) (by omega)
   omega
  ·intro h
   rw[h]at b5;omega
section
variable{p:Psn}{a b:Int}
def wm(p:Psn)(b:Int):Bool:=bif p.bl then decide (b<p.f)else decide (i64.wrap (p.f*i64.wrap (p.r-1))<=b)
theorem Ik(w x:Int):Aw ⟨p,w,x⟩ b=some (wm p b):=by
 unfold Aw wm
 cases h:p.bl<;>rfl
theorem Lc(o:PsH p)(hb:aj p.f p.r b=true):wm p b=tS p b:=by
 obtain⟨w1,w2⟩:=CH o.bd hb
 obtain⟨b0,b1,b2,b3,b4,b5,b6,b7,b8,b9⟩:=dM hb
 have hlt:=aL hb
 unfold wm tS
 cases p.bl with
 |true=>
  rw[cond_true,decide_eq_decide,show fa p.r true=0 from rfl]
  exact w2
 |false=>
  have h1:i64.wrap (p.r-1)=p.r-1:=ay (by omega) (by omega)
  have hm:0<=p.f*(p.r-1)/\p.f*(p.r-1)<=64:=by
   have e1:p.f*(p.r-1)<=8*(p.r-1):=Int.mul_le_mul_of_nonneg_right (by omega) (by omega)
   exact⟨Int.mul_nonneg (by omega) (by omega),by omega⟩
  rw[cond_false,decide_eq_decide,h1,ay (by omega) (by omega),show fa p.r false=p.r-1 from h1,Int.mul_comm]
  exact w1
def BG(p:Psn)(a b:Int):List (List Int):=bif decide (absP (p.zs.getD a.toNat 0)=1)&&wm p b then[[a,b,2],[a,b,3],[a,b,4],[a,b,5]] else[[a,b,0]]
theorem EV:(BG p a b).length<=4:=by
 unfold BG
 cases(decide (absP (p.zs.getD a.toNat 0)=1)&&wm p b)<;>simp
theorem EX{acc:List (List Int)}(h:acc.length<=100000):decide ((acc.length+1)*24<=140737488355328)=true:=by simp;omega
theorem jF{acc:List (List Int)}{q:Int}(h:acc.length<=100000)(h1:0<=q)(h2:q<=5):eH a b (acc,q)=some (.inl (acc++[[a,b,q]],q+1)):=by
 unfold eH
 simp only[EX h,decide_eq_true h2,cond_true,aS]
 rw[show i8.wrap (q+1)=q+1 from FV (by omega) (by omega)]
 rfl
theorem Ho{acc:List (List Int)}:eH a b (acc,2+1+1+1+1)=some (.inr (.inl acc)):=by
 unfold eH
 rfl
theorem HZ{acc:List (List Int)}(h:acc.length<=90000):cV (eH a b) (fun s33:List (List Int)=>some (.inl s33)) 1000000 (acc,2)=some (.inl (acc++[[a,b,2],[a,b,3],[a,b,4],[a,b,5]])):=by
 rw[show (1000000:Nat)=999995+1+1+1+1+1 by rfl]
 rw[bn (jF (by omega) (by decide) (by decide)),bn (jF (by simp;omega) (by decide) (by decide)),bn (jF (by simp;omega) (by decide) (by decide)),bn (jF (by simp;omega) (by decide) (by decide)),cF Ho]
 simp
theorem LI(ha:0<=a/\a<p.zs.length){acc:List (List Int)}(h:acc.length<=90000):qK ⟨p,ownS p,occR p.f p.r p.zs⟩ a eH b acc=some (.inl (acc++BG p a b)):=by
 have h1:(decide (0<=a)&&decide (a<Int.ofNat p.zs.length))=true:=by simp;omega
 unfold qK BG
 simp only[List.drop_zero,List.take_length,uQ,MN,h1,aS,aP,Option.getD_some,Ik,Option.isSome_some,Bool.or_true,EX (show acc.length<=100000 by omega),HZ h]
 by_cases h2:absP (p.zs.getD a.toNat 0)=1
 ·simp only[h2,decide_true,Bool.not_true,Bool.false_or,Bool.true_and]
  cases wm p b<;>rfl
 ·simp only[h2,decide_false,Bool.not_false,Bool.true_or,Bool.false_and]
  rfl
theorem HA{x n:Int}(h:n∈bitL x):0<=n/\n<64/\bt x n.toNat=true:=by
 unfold bitL at h
 obtain⟨m,hm,rfl⟩:=List.mem_map.1 h
 rw[List.mem_filter,List.mem_range]at hm
 exact⟨Int.natCast_nonneg _,Int.ofNat_lt.2 hm.1,by simpa using hm.2⟩
theorem yS(o:PsH p)(ha:aj p.f p.r a=true):AA ⟨p,ownS p,occR p.f p.r p.zs⟩ a=some (psL p a):=by
 have hA:=(bN o.bd).1 ha
 have hlt:=aL ha
 obtain⟨hwu,hwb⟩:=yE o.hl
 have h0:decide (band Go.BinOp.and u64 ((ownS p).fdiv (2^Min.min a.toNat u64.bits)) 1=0)=!isP (p.zs.getD a.toNat 0) p.bl:=by
  have:=Mj hwu hlt.1 hlt.2.2
  rw[hwb,decide_eq_true (show a.toNat<p.zs.length by omega),Bool.true_and]at this
  exact this
 unfold AA
 simp only[List.drop_zero,List.take_length,uQ,decide_eq_true hlt.1,aS]
 rw[h0]
 cases hi:isP (p.zs.getD a.toNat 0) p.bl with
 |false=>
  rw[Bool.not_false,cond_true]
  congr 1
  unfold psL
  rw[eq_comm,List.flatMap_eq_nil_iff]
  exact fun _ _=>tT hi
 |true=>
  rw[Bool.not_true,cond_false,Ov hA,aP]
  obtain⟨t1,t2,t3⟩:=Oo o ha hi
  rw[zI t1]
  have hlen:=mD (tgR p a)
  rw[nZ (rows:=BG p a) (M:=90000) (k:=4) (fun x _ acc h=>LI hA h) (fun _ _=>EV) (by simp;omega),List.nil_append]
  congr 1
  unfold bitL psL
  rw[qe o.hl t2]
  refine kE fun x hx=>?_
  obtain⟨m,hm,rfl⟩:=List.mem_map.1 hx
  have hm:=List.mem_range.1 hm
  have hv:aj p.f p.r (Int.ofNat m)=true:=(bN o.bd).2 ⟨Int.natCast_nonneg _,Int.ofNat_lt.2 hm⟩
  rw[t3 _ hv,Me o ha hv hi]
  unfold BG
  rw[Lc o hv,o.ab ha]
end
end
end Go.Ab
set_option maxHeartbeats 4000000
namespace Go.Ab
open IntKind
open Go.Proofs
section
variable{kCa kDb:Bool}
def sj(p:Int):Option (Int):=let x5:=(#[112,110,98,114,113,107,97,99,100,101,102,103,104,105,106]:Array UInt8).toList;let x6:=(#[80,78,66,82,81,75,65,67,68,69,70,71,72,73,74]:Array UInt8).toList;let x7:=i8.wrap (i8.wrap (0-p)-1);let x8:=i8.wrap (p-1);let x3:=Int.ofNat x6.length;let x4:=Int.ofNat x5.length;bif decide (p<0)then aX (decide (0<=x7)&&decide (x7<x4)) (some (Int.ofNat (x5.getD x7.toNat 0).toNat))else aX (decide (0<=x8)&&decide (x8<x3)) (some (Int.ofNat (x6.getD x8.toNat 0).toNat))
def oa(R:Int):V:=.int .u8 R
def oU(_R:Int):List O:=[]
def gF:CF
 |[.int .i8 p_0],[]=>retC true (sj p_0) 0 oa oU
 |_,_=>none
theorem wh(p:Int){r}(hr:sj p=some r):aJ (GGx kCa kDb) PP 178 [.int .i8 p] [] (oa r) (oU r):=by
 have hE:=cutE (aB (kCa:=kCa) (kDb:=kDb) (cts:=[]) (inl:=[]) trivial trivial)
 refine cH hE 2 Tryz.func178 rfl rfl oa oU hr ?_ rfl rfl
 refine aK hE 2 rfl ?_ ?_
 ·refine bI ?_
  exact aR (aO [] (.inr rfl) rfl rfl rfl rfl rfl)
 refine bI ?_
 exact aR (aO [] (.inr rfl) rfl rfl rfl rfl rfl)
theorem gK:CtOk (GGx kCa kDb) PP (178,gF):=by
 refine aD Tryz.func178 (by kernel_rfl) rfl fun a0 h0 c0 v0 N0 e hc=>?_
 unfold gF at e
 split at e
 ·rename_i p_0
  obtain⟨hl,r,hr,rfl,rfl⟩:=bJ e hc
  exact wh p_0 hr
 ·cases e
def Du:Int->Int->Option (Int ⊕ Unit ⊕ Int):=fun(c s5:Int)=>let x12:=!decide (s5=0);bif decide (s5<=15)then aX (!x12||(sj s5).isSome) (bif x12&&decide ((sj s5).getD 0=c)then escO (escO (some s5))else some (Sum.inl (i8.wrap (s5+1))))else some (Sum.inr (Sum.inl ()))
def Jm(c:Int):Option (Int):=cV (Du c) (fun(_s10:Unit)=>some 0) 1000000 (-15)
def sr(R:Int):V:=.int .i8 R
def qH(_R:Int):List O:=[]
def rP:CF
 |[.int .u8 c_0],[]=>retC true (Jm c_0) 0 sr qH
 |_,_=>none
theorem BU(c:Int){r}(hr:Jm c=some r):aJ (GGx kCa kDb) PP 158 [.int .u8 c] [] (sr r) (qH r):=by
 have hE:=cutE (aB (kCa:=kCa) (kDb:=kDb) (cts:=[(178,gF)]) (inl:=[]) ⟨gK,trivial⟩ trivial)
 refine cH hE 2 Tryz.func158 rfl rfl sr qH hr ?_ rfl rfl
 refine dc hE 2 (fun(s5:Int)=>([(0,V.int u8 c),(2,V.int i8 0),(3,V.int i8 s5)],[])) (fun(s10:Unit)=>([(2,V.int i8 0)],[])) (.exit 0) ((Ent.rn [] [0,2,3] rfl rfl rfl rfl rfl)) (fun s5=>?_) (fun s10=>?_)
 ·refine aK hE 2 rfl ?_ ?_
  ·refine av (Bool.not_or_self _) ?_
   refine cN (pi (pl rfl id)) ?_
   refine av (Bool.not_or_self _) ?_
   refine av (Bool.not_or_self _) ?_
   refine av (Bool.not_or_self _) ?_
   refine aK hE 2 rfl ?_ ?_
   ·refine pM (by simp) (kP ?_)
    exact aR (aO [] (.inr rfl) rfl rfl rfl rfl rfl)
   exact cO ((Ent.rn [] [0,2,3] rfl rfl rfl rfl rfl))
  exact cS ((Ent.rn [] [2] rfl rfl rfl rfl rfl))
 exact aR (aO [] (.inr rfl) rfl rfl rfl rfl rfl)
theorem xw:CtOk (GGx kCa kDb) PP (158,rP):=by
 refine aD Tryz.func158 (by kernel_rfl) rfl fun a0 h0 c0 v0 N0 e hc=>?_
 unfold rP at e
 split at e
 ·rename_i c_0
  obtain⟨hl,r,hr,rfl,rfl⟩:=bJ e hc
  exact BU c_0 hr
 ·cases e
end
end Go.Ab
namespace Go.Ab
open Go.Proofs
section
variable{kCa kDb:Bool}
end
section
variable{kCa kDb:Bool}
def rL:Int->List UInt8×Int->Option (List UInt8×Int ⊕ List UInt8×Int×Bool ⊕ Int ⊕ Unit ⊕ Int):=fun(s27:Int)=>let x54:=(#[75,81,107,113]:Array UInt8).toList;let x53:=Int.ofNat x54.length;fun(s33:List UInt8×Int)=>let x58:=(s27.fdiv (2^Min.min s33.2.toNat IntKind.i64.bits)).tmod 2;let x59:=decide (s33.2<4);let x60:=decide (0<=s33.2);let x61:=IntKind.i64.wrap (s33.2+1);let x57:=List.take (x61.toNat-s33.2.toNat) (List.drop s33.2.toNat x54);let x56:=s33.1.length+x57.length;bif x59 then aX x60 (dN (bif decide (x58=1)then aX (x60&&decide (s33.2<=x61)&&decide (x61<=x53)) (aX (decide (x56<=4611686018427387904)) (some (Sum.inl (s33.1++x57))))else some (Sum.inl s33.1)) fun(s35:List UInt8)=>some (Sum.inl (s35,x61)))else some (Sum.inr (Sum.inl (s33.1,s33.2,x59)))
def GZ:List UInt8->(Int->List UInt8×Int->Option (List UInt8×Int ⊕ List UInt8×Int×Bool ⊕ Int ⊕ Unit ⊕ Int))->Int->Option (Int ⊕ Unit ⊕ Int):=fun(s:List UInt8) (rL:Int->List UInt8×Int->Option (List UInt8×Int ⊕ List UInt8×Int×Bool ⊕ Int ⊕ Unit ⊕ Int)) (s27:Int)=>bif decide (s27<16)then cV (rL s27) (fun(s45:List UInt8×Int×Bool)=>dN (bif s45.1==(#[]:Array UInt8).toList then some (Sum.inl (#[45]:Array UInt8).toList)else some (Sum.inl s45.1)) fun(s47:List UInt8)=>bif s47==s then escO (escO (some s27))else some (Sum.inl (IntKind.i64.wrap (s27+1)))) 1000000 ((#[]:Array UInt8).toList,0)else some (Sum.inr (Sum.inl ()))
def MX(s:List UInt8):Option (Int):=cV (GZ s rL) (fun(_s52:Unit)=>some (-1)) 1000000 0
def wD(R:Int):V:=.int .i64 R
def wo(_R:Int):List O:=[]
def xF:CF
 |[.str s_0],[]=>retC true (MX s_0) 0 wD wo
 |_,_=>none
theorem Gs(s:List UInt8){r}(hr:MX s=some r):aJ (GGx kCa kDb) PP 123 [.str s] [] (wD r) (wo r):=by
 have hE:=cutE (aB (kCa:=kCa) (kDb:=kDb) (cts:=[]) (inl:=[]) trivial trivial)
 refine cH hE 2 Tryz.func123 rfl rfl wD wo hr ?_ rfl rfl
 refine dc hE 2 (fun(s27:Int)=>([(0,V.str s),(2,I 0),(3,I s27)],[])) (fun(s52:Unit)=>([(2,I 0)],[])) (.exit 0) ((Ent.rn [] [0,2,3] rfl rfl rfl rfl rfl)) (fun s27=>?_) (fun s52=>?_)
 ·refine aK hE 2 rfl ?_ ?_
  ·refine dc hE 2 (fun(s33:List UInt8×Int)=>([(0,V.str s),(2,I 0),(3,I s27),(4,V.str s33.1),(5,I s33.2),(6,I s27),(7,Bb (decide (s27<16)))],[])) (fun(s45:List UInt8×Int×Bool)=>([(0,V.str s),(2,I 0),(3,I s27),(4,V.str s45.1),(5,I s45.2.1),(6,I s27),(7,Bb (decide (s27<16))),(10,I s45.2.1),(11,Bb s45.2.2)],[])) (.exit 2) ((Ent.rn [] [0,2,3,4,5,6,7] rfl rfl rfl rfl rfl)) (fun s33=>?_) (fun s45=>?_)
   ·refine aK hE 2 rfl ?_ ?_
    ·refine bI ?_
     refine av rfl ?_
     refine dg hE 2 (let x74:=s27.fdiv (2^Min.min s33.2.toNat IntKind.i64.bits);let x73:=x74.tmod 2;fun(s35:List UInt8)=>([(0,V.str s),(2,I 0),(3,I s27),(4,V.str s35),(5,I s33.2),(6,I s27),(7,Bb (decide (s27<16))),(10,I s33.2),(11,Bb (decide (s33.2<4))),(14,I s27),(15,I s33.2),(16,I x74),(17,I x73),(18,Bb (decide (x73=1)))],[])) rfl ?_ ?_ (fun s35=>?_)
     ·refine bI ?_
      refine bI ?_
      exact bR ((Ent.rn [] [0,2,3,4,5,6,7,10,11,14,15,16,17,18] rfl rfl rfl rfl rfl))
     ·exact bR ((Ent.rn [] [0,2,3,4,5,6,7,10,11,14,15,16,17,18] rfl rfl rfl rfl rfl))
     exact cO ((Ent.rn [] [0,2,3,4,5,6,7] rfl rfl rfl rfl rfl))
    exact cS ((Ent.rn [] [0,2,3,4,5,6,7,10,11] rfl rfl rfl rfl rfl))
   refine dg hE 2 (fun(s47:List UInt8)=>([(0,V.str s),(2,I 0),(3,I s27),(4,V.str s47),(5,I s45.2.1),(6,I s27),(7,Bb (decide (s27<16))),(10,I s45.2.1),(11,Bb s45.2.2),(25,V.str s45.1),(26,Bb (s45.1==(#[]:Array UInt8).toList))],[])) rfl ?_ ?_ (fun s47=>?_)
   ·exact bR ((Ent.rn [] [0,2,3,4,5,6,7,10,11,25,26] rfl rfl rfl rfl rfl))
   ·exact bR ((Ent.rn [] [0,2,3,4,5,6,7,10,11,25,26] rfl rfl rfl rfl rfl))
   refine aK hE 2 rfl ?_ ?_
   ·refine pM (by simp) (kP ?_)
    exact aR (aO [] (.inr rfl) rfl rfl rfl rfl rfl)
   exact cO ((Ent.rn [] [0,2,3] rfl rfl rfl rfl rfl))
  exact cS ((Ent.rn [] [2] rfl rfl rfl rfl rfl))
 exact aR (aO [] (.inr rfl) rfl rfl rfl rfl rfl)
theorem AU:CtOk (GGx kCa kDb) PP (123,xF):=by
 refine aD Tryz.func123 (by kernel_rfl) rfl fun a0 h0 c0 v0 N0 e hc=>?_
 unfold xF at e
 split at e
 ·rename_i s_0
  obtain⟨hl,r,hr,rfl,rfl⟩:=bJ e hc
  exact Gs s_0 hr
 ·cases e
end
section
variable{kCa kDb:Bool}
end
end Go.Ab
