/- Contracts of the functions that the laws reach, and plain laws of what they compute (text G11); no condition. -/
import Derived.Test.YtcmhemipmmckoaaGreatDoorG10
set_option maxRecDepth 100000
namespace Go.Ab
open Go.Proofs
section
def um(p:Psn)(b:Int):Bool:=decide (py p.f b=fE p.r p.bl)
def tgB(p:Psn)(a b:Int):Bool:=!isP (p.zs.getD b.toNat 0) p.bl &&
 (bif decide (be (p.zs.getD a.toNat 0)=1)then dW p.f p.r p.bl a (occR p.f p.r p.zs) b||(er p.f p.bl a b&&(!decide (p.zs.getD b.toNat 0=0)||decide (b=p.pa)))
 else bG p.f p.r (be (p.zs.getD a.toNat 0)) a b (occR p.f p.r p.zs)||wayB p.f p.r p.zs (wayN p.zs p.bl p.ca a b))
section
variable{p:Psn}{a b:Int}
theorem PsH.ab(o:PsH p)(ha:ak p.f p.r a=true):absP (p.zs.getD a.toNat 0)=be (p.zs.getD a.toNat 0):=by
 obtain⟨h0,h1⟩:=(cw o.bd).1 ha
 exact lA o.h h0 h1
theorem Mj(o:PsH p)(hb:ak p.f p.r b=true){pr:Int}:pnL p.f p.r p.zs p.bl p.pa a b pr=((um p b==!decide (pr=0))&&(dW p.f p.r p.bl a (occR p.f p.r p.zs) b||(er p.f p.bl a b&&(!decide (p.zs.getD b.toNat 0=0)||decide (b=p.pa))))):=by
 have hin:∀ c:Int->Bool,hasL b (cT c id (p.f*p.r).toNat)=c b:=fun c=>by
  rw[Bool.eq_iff_iff,jL,dK]
  have:=aE hb
  exact⟨fun h=>h.2.2,fun h=>⟨this.1,by omega,h⟩⟩
 unfold pnL um
 rw[hin,hin,mj o.bd o.hl,(cV hb).1]
 cases(decide (py p.f b=fE p.r p.bl)==!decide (pr=0))<;>cases dW p.f p.r p.bl a (occR p.f p.r p.zs) b<;>rfl
theorem tK(o:PsH p)(ha:ak p.f p.r a=true)(hb:ak p.f p.r b=true)(hown:isP (p.zs.getD a.toNat 0) p.bl=true){pr:Int}(hpr:pr=0\/(2<=pr/\pr<=5)) :
  canM p a b pr=(tgB p a b&&((decide (be (p.zs.getD a.toNat 0)=1)&&um p b)==!decide (pr=0))):=by
 unfold canM tgB err3
 dsimp only
 rw[hown,Bool.and_true,jR (_ca:=p.ca) o.h o.hl ha hb hown,mj o.bd o.hl,Mj o hb]
 cases hi:isP (p.zs.getD b.toNat 0) p.bl with
 |true=>simp
 |false=>
  have hab:a≠b:=fun e=>by rw[e,hi]at hown;cases hown
  have hmv:mvB p.f p.r a b pr=true:=by
   unfold mvB
   rw[ha,hb,decide_eq_false hab]
   rcases hpr with h|h
   ·rw[decide_eq_true h];rfl
   ·rw[decide_eq_true h.1,decide_eq_true h.2];simp
  rw[hmv]
  cases hk:decide (be (p.zs.getD a.toNat 0)=1) with
  |true=>
   have hw:wayB p.f p.r p.zs (wayN p.zs p.bl p.ca a b)=false:=by
    have:wayN p.zs p.bl p.ca a b=4:=by
     unfold wayN
     rw[o.ab ha,of_decide_eq_true hk];rfl
    rw[this];rfl
   rw[hw]
   cases(dW p.f p.r p.bl a (occR p.f p.r p.zs) b||(er p.f p.bl a b&&(!decide (p.zs.getD b.toNat 0=0)||decide (b=p.pa))))<;>cases um p b<;>cases decide (pr=0)<;>rfl
  |false=>
   cases bG p.f p.r (be (p.zs.getD a.toNat 0)) a b (occR p.f p.r p.zs)<;>cases wayB p.f p.r p.zs (wayN p.zs p.bl p.ca a b)<;>cases decide (pr=0)<;>rfl
theorem HZ(o:PsH p)(ha:ak p.f p.r a=true)(hb:ak p.f p.r b=true)(hown:isP (p.zs.getD a.toNat 0) p.bl=true) :
  qd p a b=bif tgB p a b then(bif decide (be (p.zs.getD a.toNat 0)=1)&&um p b then[[a,b,2],[a,b,3],[a,b,4],[a,b,5]] else[[a,b,0]]) else[]:=by
 unfold qd prs
 simp only[List.filter_cons,List.filter_nil]
 rw[tK o ha hb hown (.inl rfl),tK o ha hb hown (pr:=2) (.inr (by decide)),tK o ha hb hown (pr:=3) (.inr (by decide)),tK o ha hb hown (pr:=4) (.inr (by decide)),tK o ha hb hown (pr:=5) (.inr (by decide))]
 cases tgB p a b<;>cases(decide (be (p.zs.getD a.toNat 0)=1)&&um p b)<;>simp
theorem sQ(hown:isP (p.zs.getD a.toNat 0) p.bl=false):qd p a b=[]:=by
 unfold qd
 rw[filter_none fun pr _=>by unfold canM;rw[hown];simp];rfl
theorem PsH.pa0(o:PsH p)(h:0<=p.pa):ak p.f p.r p.pa=true/\p.zs.getD p.pa.toNat 0=0:=by
 have hps:=o.pass
 simp only[ia,Bool.or_eq_true,Bool.and_eq_true,decide_eq_true_eq]at hps
 rcases hps with hps|⟨⟨⟨⟨⟨⟨_,_⟩,p3⟩,_⟩,p5⟩,_⟩,_⟩
 ·omega
 ·exact⟨p3,p5⟩
theorem Mh(o:PsH p)(ha:ak p.f p.r a=true)(hown:isP (p.zs.getD a.toNat 0) p.bl=true) :
  Uk (tgR p a)/\(∀ n:Nat,n<64->bt (tgR p a) n=true->n<p.zs.length)/\∀ b,ak p.f p.r b=true->bt (tgR p a) b.toNat=tgB p a b:=by
 obtain⟨ha0,ha1⟩:=(cw o.bd).1 ha
 obtain⟨hou,hob⟩:=iQ o.bd o.hl
 obtain⟨hwu,hwb⟩:=yB o.hl
 have hray:gj p.f p.r a (occR p.f p.r p.zs)=true:=(jy hou).2 ⟨ha,xo o.h o.hl⟩
 have hon:∀ {s:Int},OnS p.f p.r s->∀ n:Nat,n<64->bt s n=true->n<p.zs.length:=fun h n hn hb=>by
  have:=(cw o.bd).1 (h n hn hb)
  omega
 unfold tgR tgB
 rw[o.ab ha]
 cases hk:decide (be (p.zs.getD a.toNat 0)=1) with
 |true=>
  simp only[cond_true]
  obtain⟨_,s1,s3,s2⟩:=yZ (bl:=p.bl) hray hou
  obtain⟨_,p1,p3,p2⟩:=wC (bl:=p.bl) ha
  have hot:Uk (bif decide (0<=p.pa)then uor (cr (occR p.f p.r p.zs) (ownS p)) (ushl 1 p.pa)else cr (occR p.f p.r p.zs) (ownS p))/\∀ b,ak p.f p.r b=true->bt (bif decide (0<=p.pa)then uor (cr (occR p.f p.r p.zs) (ownS p)) (ushl 1 p.pa)else cr (occR p.f p.r p.zs) (ownS p)) b.toNat=((!decide (p.zs.getD b.toNat 0=0)&&!isP (p.zs.getD b.toNat 0) p.bl)||decide (b=p.pa)):=by
   have base:∀ b,ak p.f p.r b=true->bt (cr (occR p.f p.r p.zs) (ownS p)) b.toNat=(!decide (p.zs.getD b.toNat 0=0)&&!isP (p.zs.getD b.toNat 0) p.bl):=fun b hb=>by
    have:=(cw o.bd).1 hb
    rw[iv hou hwu,hob,hwb,decide_eq_true (show b.toNat<p.zs.length by omega),Bool.true_and,Bool.true_and]
   cases hp:decide (0<=p.pa) with
   |true=>
    have hp0:=of_decide_eq_true hp
    have hv:=(o.pa0 hp0).1
    have hlt:=aE hv
    refine⟨fY _ _,fun b hb=>?_⟩
    have hb0:=(aE hb).1
    rw[cond_true,eO (iu _ _) (hO _ _),base b hb,hH hlt.1 hlt.2.2]
    congr 1
    rw[decide_eq_decide];omega
   |false=>
    refine⟨iu _ _,fun b hb=>?_⟩
    have hb0:=(aE hb).1
    have hp0:=of_decide_eq_false hp
    rw[cond_false,base b hb,decide_eq_false (show ¬ b=p.pa by omega),Bool.or_false]
  refine⟨fY _ _,fun n hn h=>?_,fun b hb=>?_⟩
  ·rw[eO s1 (uu _ _),Bool.or_eq_true]at h
   rcases h with h|h
   ·exact hon s3 n hn h
   ·rw[oX p1 hot.1,Bool.and_eq_true]at h
    exact hon p3 n hn h.1
  ·have hlt:=(cw o.bd).1 hb
   rw[eO s1 (uu _ _),s2 b hb,oX p1 hot.1,p2 b hb,hot.2 b hb]
   cases hi:isP (p.zs.getD b.toNat 0) p.bl with
   |true=>
    have hz:=xm hi
    have hst:dW p.f p.r p.bl a (occR p.f p.r p.zs) b=false:=by
     have hocc:hasB (occR p.f p.r p.zs) b=true:=by
      rw[ir hou hb,hob,decide_eq_true (show b.toNat<p.zs.length by omega),decide_eq_false hz];rfl
     rw[Bool.eq_false_iff]
     intro h
     simp only[dW,Bool.or_eq_true,Bool.and_eq_true,decide_eq_true_eq,Bool.not_eq_true']at h
     rcases h with⟨h1,h2⟩|⟨⟨⟨⟨h1,_⟩,_⟩,_⟩,h2⟩<;>rw[<-h1,hocc]at h2<;>cases h2
    have hpa:decide (b=p.pa)=false:=by
     rw[decide_eq_false_iff_not]
     intro e
     have:=(o.pa0 (by omega)).2
     rw[<-e]at this
     exact hz this
    rw[hst,hpa];simp
   |false=>simp
 |false=>
  simp only[cond_false]
  have hk5:=ye o.h ha0 ha1 hown (of_decide_eq_false hk)
  obtain⟨r1,r2,r3⟩:=qA hray hou hk5
  replace r1:Uk (bO p.f p.r (be (p.zs.getD a.toNat 0)) a (occR p.f p.r p.zs)).1:=r1
  replace r2:OnS p.f p.r (bO p.f p.r (be (p.zs.getD a.toNat 0)) a (occR p.f p.r p.zs)).1:=r2
  replace r3:∀ b,ak p.f p.r b=true->bt (bO p.f p.r (be (p.zs.getD a.toNat 0)) a (occR p.f p.r p.zs)).1 b.toNat=bG p.f p.r (be (p.zs.getD a.toNat 0)) a b (occR p.f p.r p.zs):=r3
  have hsw:Uk (bif decide (be (p.zs.getD a.toNat 0)=6)then uor (bO p.f p.r (be (p.zs.getD a.toNat 0)) a (occR p.f p.r p.zs)).1 (sw4 p a) else(bO p.f p.r (be (p.zs.getD a.toNat 0)) a (occR p.f p.r p.zs)).1) /\
    (∀ n:Nat,n<64->bt (bif decide (be (p.zs.getD a.toNat 0)=6)then uor (bO p.f p.r (be (p.zs.getD a.toNat 0)) a (occR p.f p.r p.zs)).1 (sw4 p a) else(bO p.f p.r (be (p.zs.getD a.toNat 0)) a (occR p.f p.r p.zs)).1) n=true->n<p.zs.length) /\
    ∀ b,ak p.f p.r b=true->bt (bif decide (be (p.zs.getD a.toNat 0)=6)then uor (bO p.f p.r (be (p.zs.getD a.toNat 0)) a (occR p.f p.r p.zs)).1 (sw4 p a) else(bO p.f p.r (be (p.zs.getD a.toNat 0)) a (occR p.f p.r p.zs)).1) b.toNat=(bG p.f p.r (be (p.zs.getD a.toNat 0)) a b (occR p.f p.r p.zs)||wayB p.f p.r p.zs (wayN p.zs p.bl p.ca a b)):=by
   cases h6:decide (be (p.zs.getD a.toNat 0)=6) with
   |true=>
    have hk6:absP (p.zs.getD a.toNat 0)=6:=by rw[o.ab ha];exact of_decide_eq_true h6
    refine⟨fY _ _,fun n hn h=>?_,fun b hb=>?_⟩
    ·rw[cond_true,eO r1 GI.1,Bool.or_eq_true]at h
     rcases h with h|h
     ·exact hon r2 n hn h
     ·have h64:p.zs.length=64:=by
       have hc:=o.cast
       simp only[ee,Bool.and_eq_true,Bool.not_eq_true',decide_eq_true_eq]at hc
       obtain⟨⟨⟨⟨c1,c2⟩,c3⟩,c4⟩,_⟩:=hc
       rw[GI.2]at h
       simp only[Bool.or_eq_true,Bool.and_eq_true,Bool.not_eq_true',Bool.or_eq_false_iff,decide_eq_false_iff_not]at h
       have fin:∀ {bit:Int} {k q:Nat} {c:Bool},rtX p.f p.r p.zs p.ca bit k q c=false->bQ p.ca bit≠0->p.zs.length=64:=fun h1 h2=>by
        obtain⟨f8,r8,_⟩:=cW h1 h2
        exact uY o.bd (by rw[f8,r8];rfl)
       rcases h with((⟨⟨⟨⟨h,_⟩,_⟩,_⟩,_⟩|⟨⟨⟨⟨h,_⟩,_⟩,_⟩,_⟩)|⟨⟨⟨⟨h,_⟩,_⟩,_⟩,_⟩)|⟨⟨⟨⟨h,_⟩,_⟩,_⟩,_⟩
       ·exact fin c1 h
       ·exact fin c2 h
       ·exact fin c3 h
       ·exact fin c4 h
      omega
    ·rw[cond_true,eO r1 GI.1,r3 b hb,KZ hk6 (aE hb).1]
   |false=>
    refine⟨r1,hon r2,fun b hb=>?_⟩
    have hw:wayN p.zs p.bl p.ca a b=4:=by
     unfold wayN
     rw[o.ab ha,h6];rfl
    rw[cond_false,r3 b hb,hw]
    have:wayB p.f p.r p.zs 4=false:=rfl
    rw[this,Bool.or_false]
  refine⟨iu _ _,fun n hn h=>?_,fun b hb=>?_⟩
  ·rw[iv hsw.1 hwu,Bool.and_eq_true]at h
   exact hsw.2.1 n hn h.1
  ·have hlt:=(cw o.bd).1 hb
   rw[iv hsw.1 hwu,hsw.2.2 b hb,hwb,decide_eq_true (show b.toNat<p.zs.length by omega),Bool.true_and,Bool.and_comm]
end
end
end Go.Ab
namespace Go.Ab
open IntKind
open Go.Proofs
section
theorem nH{α β:Type}(q:α->Bool)(g:α->List β):∀ l:List α,(l.filter q).flatMap g=l.flatMap fun x=>bif q x then g x else[]
 |[]=>rfl
 |x::l=>by
  rw[List.filter_cons,List.flatMap_cons,<-nH q g l]
  cases q x<;>simp
theorem jI{α β:Type}{f g:α->List β}:∀ {l:List α},(∀ x∈l,f x=g x)->l.flatMap f=l.flatMap g
 |[],_=>rfl
 |x::l,h=>by rw[List.flatMap_cons,List.flatMap_cons,h x (List.mem_cons_self ..),jI fun y hy=>h y (List.mem_cons_of_mem _ hy)]
theorem oB{β:Type}{q:Nat->Bool}{g:Int->List β}{n:Nat}(hn:n<=64)(hq:∀ m,m<64->q m=true->m<n) :
  (((List.range 64).filter q).map Int.ofNat).flatMap g=((List.range n).map Int.ofNat).flatMap fun x=>bif q x.toNat then g x else[]:=by
 rw[List.flatMap_map,List.flatMap_map,nH,List.range_eq_range',List.range_eq_range',show 64=n+(64-n) by omega,<-List.range'_append_1,List.flatMap_append]
 have h2:(List.range' (0+n) (64-n)).flatMap (fun x=>bif q x then g (Int.ofNat x) else[])=[]:=by
  rw[List.flatMap_eq_nil_iff]
  intro x hx
  have hx:=List.mem_range'_1.1 hx
  cases h:q x with
  |false=>rfl
  |true=>have:=hq x (by omega) h;omega
 rw[h2,List.append_nil]
 rfl
theorem nY{α:Type}{step:Int->List (List Int)->Option (List (List Int) ⊕ (List (List Int) ⊕ α))}{F Fx:List (List Int)->Option α}{rows:Int->List (List Int)}{M k:Nat}:∀ {l:List Int} {acc:List (List Int)},
  (∀ x∈l,∀ acc:List (List Int),acc.length<=M->step x acc=some (.inl (acc++rows x)))->(∀ x∈l,(rows x).length<=k)->acc.length+k*l.length<=M->cI step F Fx l acc=F (acc++l.flatMap rows)
 |[],acc,_,_,_=>by rw[zF,List.flatMap_nil,List.append_nil]
 |x::l,acc,hs,hr,hM=>by
  rw[List.length_cons,Nat.mul_add]at hM
  rw[ig (hs x (List.mem_cons_self ..) acc (by omega)),nY (fun y hy=>hs y (List.mem_cons_of_mem _ hy)) (fun y hy=>hr y (List.mem_cons_of_mem _ hy)) (by have:=hr x (List.mem_cons_self ..);rw[List.length_append];omega),List.flatMap_cons,List.append_assoc]
theorem BS{f r b:Int}{zs:List Int}(_hbd:aH f r zs=true)(hb:ak f r b=true):((r-1)*f<=b↔py f b=r-1)/\(b<f↔py f b=0):=by
 obtain⟨b0,b1,b2,b3,b4,b5,b6,b7,b8,b9⟩:=cV hb
 constructor
 ·constructor
  ·intro h
   refine Decidable.byContradiction fun hne=>?_
   have:(py f b+1)*f<=(r-1)*f:=Int.mul_le_mul_of_nonneg_right (by omega) (by omega)
   rw[Int.add_mul]at this
   omega
  ·intro h
   rw[<-h];omega
 ·constructor
  ·intro h
   refine Decidable.byContradiction fun hne=>?_
   have:1*f<=py f b*f:=Int.mul_le_mul_of_nonneg_right (by omega) (by omega)
   omega
  ·intro h
   rw[h]at b5;omega
section
variable{p:Psn}{a b:Int}
def vK(p:Psn)(b:Int):Bool:=bif p.bl then decide (b<p.f)else decide (i64.wrap (p.f*i64.wrap (p.r-1))<=b)
theorem Gi(w x:Int):AF ⟨p,w,x⟩ b=some (vK p b):=by
 unfold AF vK
 cases h:p.bl<;>rfl
theorem Ib(o:PsH p)(hb:ak p.f p.r b=true):vK p b=um p b:=by
 obtain⟨w1,w2⟩:=BS o.bd hb
 obtain⟨b0,b1,b2,b3,b4,b5,b6,b7,b8,b9⟩:=cV hb
 have hlt:=aE hb
 unfold vK um
 cases p.bl with
 |true=>
  rw[cond_true,decide_eq_decide,show fE p.r true=0 from rfl]
  exact w2
 |false=>
  have h1:i64.wrap (p.r-1)=p.r-1:=ay (by omega) (by omega)
  have hm:0<=p.f*(p.r-1)/\p.f*(p.r-1)<=64:=by
   have e1:p.f*(p.r-1)<=8*(p.r-1):=Int.mul_le_mul_of_nonneg_right (by omega) (by omega)
   exact⟨Int.mul_nonneg (by omega) (by omega),by omega⟩
  rw[cond_false,decide_eq_decide,h1,ay (by omega) (by omega),show fE p.r false=p.r-1 from h1,Int.mul_comm]
  exact w1
def zI(p:Psn)(a b:Int):List (List Int):=bif decide (absP (p.zs.getD a.toNat 0)=1)&&vK p b then[[a,b,2],[a,b,3],[a,b,4],[a,b,5]] else[[a,b,0]]
theorem Ch:(zI p a b).length<=4:=by
 unfold zI
 cases(decide (absP (p.zs.getD a.toNat 0)=1)&&vK p b)<;>simp
theorem Hz{acc:List (List Int)}(h:acc.length<=100000):decide ((acc.length+1)*24<=140737488355328)=true:=by simp;omega
theorem iU{acc:List (List Int)}{q:Int}(h:acc.length<=100000)(h1:0<=q)(h2:q<=5):ef a b (acc,q)=some (.inl (acc++[[a,b,q]],q+1)):=by
 unfold ef
 simp only[Hz h,decide_eq_true h2,cond_true,aV]
 rw[show i8.wrap (q+1)=q+1 from Cy (by omega) (by omega)]
 rfl
theorem Fu{acc:List (List Int)}:ef a b (acc,2+1+1+1+1)=some (.inr (.inl acc)):=by
 unfold ef
 rfl
theorem GJ{acc:List (List Int)}(h:acc.length<=90000):dg (ef a b) (fun s33:List (List Int)=>some (.inl s33)) 1000000 (acc,2)=some (.inl (acc++[[a,b,2],[a,b,3],[a,b,4],[a,b,5]])):=by
 rw[show (1000000:Nat)=999995+1+1+1+1+1 by rfl]
 rw[bR (iU (by omega) (by decide) (by decide)),bR (iU (by simp;omega) (by decide) (by decide)),bR (iU (by simp;omega) (by decide) (by decide)),bR (iU (by simp;omega) (by decide) (by decide)),dn Fu]
 simp
theorem Jv(ha:0<=a/\a<p.zs.length){acc:List (List Int)}(h:acc.length<=90000):pK ⟨p,ownS p,occR p.f p.r p.zs⟩ a ef b acc=some (.inl (acc++zI p a b)):=by
 have h1:(decide (0<=a)&&decide (a<Int.ofNat p.zs.length))=true:=by simp;omega
 unfold pK zI
 simp only[List.drop_zero,List.take_length,tS,Ly,h1,aV,aJ,Option.getD_some,Gi,Option.isSome_some,Bool.or_true,Hz (show acc.length<=100000 by omega),GJ h]
 by_cases h2:absP (p.zs.getD a.toNat 0)=1
 ·simp only[h2,decide_true,Bool.not_true,Bool.false_or,Bool.true_and]
  cases vK p b<;>rfl
 ·simp only[h2,decide_false,Bool.not_false,Bool.true_or,Bool.false_and]
  rfl
theorem xn{x n:Int}(h:n∈bitL x):0<=n/\n<64/\bt x n.toNat=true:=by
 unfold bitL at h
 obtain⟨m,hm,rfl⟩:=List.mem_map.1 h
 rw[List.mem_filter,List.mem_range]at hm
 exact⟨Int.natCast_nonneg _,Int.ofNat_lt.2 hm.1,by simpa using hm.2⟩
theorem xz(o:PsH p)(ha:ak p.f p.r a=true):zo ⟨p,ownS p,occR p.f p.r p.zs⟩ a=some (psL p a):=by
 have hA:=(cw o.bd).1 ha
 have hlt:=aE ha
 obtain⟨hwu,hwb⟩:=yB o.hl
 have h0:decide (band Go.BinOp.and u64 ((ownS p).fdiv (2^Min.min a.toNat u64.bits)) 1=0)=!isP (p.zs.getD a.toNat 0) p.bl:=by
  have:=Jf hwu hlt.1 hlt.2.2
  rw[hwb,decide_eq_true (show a.toNat<p.zs.length by omega),Bool.true_and]at this
  exact this
 unfold zo
 simp only[List.drop_zero,List.take_length,tS,decide_eq_true hlt.1,aV]
 rw[h0]
 cases hi:isP (p.zs.getD a.toNat 0) p.bl with
 |false=>
  rw[Bool.not_false,cond_true]
  congr 1
  unfold psL
  rw[eq_comm,List.flatMap_eq_nil_iff]
  exact fun _ _=>sQ hi
 |true=>
  rw[Bool.not_true,cond_false,Mr hA,aJ]
  obtain⟨t1,t2,t3⟩:=Mh o ha hi
  rw[pW t1]
  have hlen:=lB (tgR p a)
  rw[nY (rows:=zI p a) (M:=90000) (k:=4) (fun x _ acc h=>Jv hA h) (fun _ _=>Ch) (by simp;omega),List.nil_append]
  congr 1
  unfold bitL psL
  rw[oB o.hl t2]
  refine jI fun x hx=>?_
  obtain⟨m,hm,rfl⟩:=List.mem_map.1 hx
  have hm:=List.mem_range.1 hm
  have hv:ak p.f p.r (Int.ofNat m)=true:=(cw o.bd).2 ⟨Int.natCast_nonneg _,Int.ofNat_lt.2 hm⟩
  rw[t3 _ hv,HZ o ha hv hi]
  unfold zI
  rw[Ib o hv,o.ab ha]
end
end
end Go.Ab
set_option maxHeartbeats 4000000
namespace Go.Ab
open IntKind
open Go.Proofs
section
variable{kCa kDb:Bool}
def rY(p:Int):Option (Int):=let x5:=(#[112,110,98,114,113,107,97,99,100,101,102,103,104,105,106]:Array UInt8).toList;let x6:=(#[80,78,66,82,81,75,65,67,68,69,70,71,72,73,74]:Array UInt8).toList;let x7:=i8.wrap (i8.wrap (0-p)-1);let x8:=i8.wrap (p-1);let x3:=Int.ofNat x6.length;let x4:=Int.ofNat x5.length;bif decide (p<0)then bp (decide (0<=x7)&&decide (x7<x4)) (some (Int.ofNat (x5.getD x7.toNat 0).toNat))else bp (decide (0<=x8)&&decide (x8<x3)) (some (Int.ofNat (x6.getD x8.toNat 0).toNat))
def nx(R:Int):V:=.int .u8 R
def nK(_R:Int):List O:=[]
def gr:CF
 |[.int .i8 p_0],[]=>retC true (rY p_0) 0 nx nK
 |_,_=>none
theorem wM(p:Int){r}(hr:rY p=some r):aG (GGx kCa kDb) PP 178 [.int .i8 p] [] (nx r) (nK r):=by
 have hE:=cutE (aC (kCa:=kCa) (kDb:=kDb) (cts:=[]) (inl:=[]) trivial trivial)
 refine dA hE 2 Tryz.func178 rfl rfl nx nK hr ?_ rfl rfl
 refine aI hE 2 rfl ?_ ?_
 ·refine bZ ?_
  exact aQ (aN [] (.inr rfl) rfl rfl rfl rfl rfl)
 refine bZ ?_
 exact aQ (aN [] (.inr rfl) rfl rfl rfl rfl rfl)
theorem gh:CtOk (GGx kCa kDb) PP (178,gr):=by
 refine aD Tryz.func178 (by kernel_rfl) rfl fun a0 h0 c0 v0 N0 e hc=>?_
 unfold gr at e
 split at e
 ·rename_i p_0
  obtain⟨hl,r,hr,rfl,rfl⟩:=bS e hc
  exact wM p_0 hr
 ·cases e
def DX:Int->Int->Option (Int ⊕ Unit ⊕ Int):=fun(c s5:Int)=>let x12:=!decide (s5=0);bif decide (s5<=15)then bp (!x12||(rY s5).isSome) (bif x12&&decide ((rY s5).getD 0=c)then escO (escO (some s5))else some (Sum.inl (i8.wrap (s5+1))))else some (Sum.inr (Sum.inl ()))
def GY(c:Int):Option (Int):=dg (DX c) (fun(_s10:Unit)=>some 0) 1000000 (-15)
def qO(R:Int):V:=.int .i8 R
def rR(_R:Int):List O:=[]
def qB:CF
 |[.int .u8 c_0],[]=>retC true (GY c_0) 0 qO rR
 |_,_=>none
theorem zS(c:Int){r}(hr:GY c=some r):aG (GGx kCa kDb) PP 158 [.int .u8 c] [] (qO r) (rR r):=by
 have hE:=cutE (aC (kCa:=kCa) (kDb:=kDb) (cts:=[(178,gr)]) (inl:=[]) ⟨gh,trivial⟩ trivial)
 refine dA hE 2 Tryz.func158 rfl rfl qO rR hr ?_ rfl rfl
 refine eJ hE 2 (fun(s5:Int)=>([(0,V.int u8 c),(2,V.int i8 0),(3,V.int i8 s5)],[])) (fun(s10:Unit)=>([(2,V.int i8 0)],[])) (.exit 0) ((Ent.rn [] [0,2,3] rfl rfl rfl rfl rfl)) (fun s5=>?_) (fun s10=>?_)
 ·refine aI hE 2 rfl ?_ ?_
  ·refine aj (Bool.not_or_self _) ?_
   refine dJ (pi (pl rfl id)) ?_
   refine aj (Bool.not_or_self _) ?_
   refine aj (Bool.not_or_self _) ?_
   refine aj (Bool.not_or_self _) ?_
   refine aI hE 2 rfl ?_ ?_
   ·refine tE (by simp) (mF ?_)
    exact aQ (aN [] (.inr rfl) rfl rfl rfl rfl rfl)
   exact eo ((Ent.rn [] [0,2,3] rfl rfl rfl rfl rfl))
  exact dV ((Ent.rn [] [2] rfl rfl rfl rfl rfl))
 exact aQ (aN [] (.inr rfl) rfl rfl rfl rfl rfl)
theorem uR:CtOk (GGx kCa kDb) PP (158,qB):=by
 refine aD Tryz.func158 (by kernel_rfl) rfl fun a0 h0 c0 v0 N0 e hc=>?_
 unfold qB at e
 split at e
 ·rename_i c_0
  obtain⟨hl,r,hr,rfl,rfl⟩:=bS e hc
  exact zS c_0 hr
 ·cases e
end
end Go.Ab
namespace Go.Ab
open Go.Proofs
section
variable{kCa kDb:Bool}
end
section
variable{kCa kDb:Bool}
def pR:Int->List UInt8×Int->Option (List UInt8×Int ⊕ List UInt8×Int×Bool ⊕ Int ⊕ Unit ⊕ Int):=fun(s27:Int)=>let x54:=(#[75,81,107,113]:Array UInt8).toList;let x53:=Int.ofNat x54.length;fun(s33:List UInt8×Int)=>let x58:=(s27.fdiv (2^Min.min s33.2.toNat IntKind.i64.bits)).tmod 2;let x59:=decide (s33.2<4);let x60:=decide (0<=s33.2);let x61:=IntKind.i64.wrap (s33.2+1);let x57:=List.take (x61.toNat-s33.2.toNat) (List.drop s33.2.toNat x54);let x56:=s33.1.length+x57.length;bif x59 then bp x60 (dN (bif decide (x58=1)then bp (x60&&decide (s33.2<=x61)&&decide (x61<=x53)) (bp (decide (x56<=4611686018427387904)) (some (Sum.inl (s33.1++x57))))else some (Sum.inl s33.1)) fun(s35:List UInt8)=>some (Sum.inl (s35,x61)))else some (Sum.inr (Sum.inl (s33.1,s33.2,x59)))
def GB:List UInt8->(Int->List UInt8×Int->Option (List UInt8×Int ⊕ List UInt8×Int×Bool ⊕ Int ⊕ Unit ⊕ Int))->Int->Option (Int ⊕ Unit ⊕ Int):=fun(s:List UInt8) (pR:Int->List UInt8×Int->Option (List UInt8×Int ⊕ List UInt8×Int×Bool ⊕ Int ⊕ Unit ⊕ Int)) (s27:Int)=>bif decide (s27<16)then dg (pR s27) (fun(s45:List UInt8×Int×Bool)=>dN (bif s45.1==(#[]:Array UInt8).toList then some (Sum.inl (#[45]:Array UInt8).toList)else some (Sum.inl s45.1)) fun(s47:List UInt8)=>bif s47==s then escO (escO (some s27))else some (Sum.inl (IntKind.i64.wrap (s27+1)))) 1000000 ((#[]:Array UInt8).toList,0)else some (Sum.inr (Sum.inl ()))
def LJ(s:List UInt8):Option (Int):=dg (GB s pR) (fun(_s52:Unit)=>some (-1)) 1000000 0
def wP(R:Int):V:=.int .i64 R
def wu(_R:Int):List O:=[]
def vM:CF
 |[.str s_0],[]=>retC true (LJ s_0) 0 wP wu
 |_,_=>none
theorem Ep(s:List UInt8){r}(hr:LJ s=some r):aG (GGx kCa kDb) PP 123 [.str s] [] (wP r) (wu r):=by
 have hE:=cutE (aC (kCa:=kCa) (kDb:=kDb) (cts:=[]) (inl:=[]) trivial trivial)
 refine dA hE 2 Tryz.func123 rfl rfl wP wu hr ?_ rfl rfl
 refine eJ hE 2 (fun(s27:Int)=>([(0,V.str s),(2,I 0),(3,I s27)],[])) (fun(s52:Unit)=>([(2,I 0)],[])) (.exit 0) ((Ent.rn [] [0,2,3] rfl rfl rfl rfl rfl)) (fun s27=>?_) (fun s52=>?_)
 ·refine aI hE 2 rfl ?_ ?_
  ·refine eJ hE 2 (fun(s33:List UInt8×Int)=>([(0,V.str s),(2,I 0),(3,I s27),(4,V.str s33.1),(5,I s33.2),(6,I s27),(7,Bb (decide (s27<16)))],[])) (fun(s45:List UInt8×Int×Bool)=>([(0,V.str s),(2,I 0),(3,I s27),(4,V.str s45.1),(5,I s45.2.1),(6,I s27),(7,Bb (decide (s27<16))),(10,I s45.2.1),(11,Bb s45.2.2)],[])) (.exit 2) ((Ent.rn [] [0,2,3,4,5,6,7] rfl rfl rfl rfl rfl)) (fun s33=>?_) (fun s45=>?_)
   ·refine aI hE 2 rfl ?_ ?_
    ·refine bZ ?_
     refine aj rfl ?_
     refine dc hE 2 (let x74:=s27.fdiv (2^Min.min s33.2.toNat IntKind.i64.bits);let x73:=x74.tmod 2;fun(s35:List UInt8)=>([(0,V.str s),(2,I 0),(3,I s27),(4,V.str s35),(5,I s33.2),(6,I s27),(7,Bb (decide (s27<16))),(10,I s33.2),(11,Bb (decide (s33.2<4))),(14,I s27),(15,I s33.2),(16,I x74),(17,I x73),(18,Bb (decide (x73=1)))],[])) rfl ?_ ?_ (fun s35=>?_)
     ·refine bZ ?_
      refine bZ ?_
      exact bN ((Ent.rn [] [0,2,3,4,5,6,7,10,11,14,15,16,17,18] rfl rfl rfl rfl rfl))
     ·exact bN ((Ent.rn [] [0,2,3,4,5,6,7,10,11,14,15,16,17,18] rfl rfl rfl rfl rfl))
     exact eo ((Ent.rn [] [0,2,3,4,5,6,7] rfl rfl rfl rfl rfl))
    exact dV ((Ent.rn [] [0,2,3,4,5,6,7,10,11] rfl rfl rfl rfl rfl))
   refine dc hE 2 (fun(s47:List UInt8)=>([(0,V.str s),(2,I 0),(3,I s27),(4,V.str s47),(5,I s45.2.1),(6,I s27),(7,Bb (decide (s27<16))),(10,I s45.2.1),(11,Bb s45.2.2),(25,V.str s45.1),(26,Bb (s45.1==(#[]:Array UInt8).toList))],[])) rfl ?_ ?_ (fun s47=>?_)
   ·exact bN ((Ent.rn [] [0,2,3,4,5,6,7,10,11,25,26] rfl rfl rfl rfl rfl))
   ·exact bN ((Ent.rn [] [0,2,3,4,5,6,7,10,11,25,26] rfl rfl rfl rfl rfl))
   refine aI hE 2 rfl ?_ ?_
   ·refine tE (by simp) (mF ?_)
    exact aQ (aN [] (.inr rfl) rfl rfl rfl rfl rfl)
   exact eo ((Ent.rn [] [0,2,3] rfl rfl rfl rfl rfl))
  exact dV ((Ent.rn [] [2] rfl rfl rfl rfl rfl))
 exact aQ (aN [] (.inr rfl) rfl rfl rfl rfl rfl)
theorem zZ:CtOk (GGx kCa kDb) PP (123,vM):=by
 refine aD Tryz.func123 (by kernel_rfl) rfl fun a0 h0 c0 v0 N0 e hc=>?_
 unfold vM at e
 split at e
 ·rename_i s_0
  obtain⟨hl,r,hr,rfl,rfl⟩:=bS e hc
  exact Ep s_0 hr
 ·cases e
end
section
variable{kCa kDb:Bool}
end
end Go.Ab
