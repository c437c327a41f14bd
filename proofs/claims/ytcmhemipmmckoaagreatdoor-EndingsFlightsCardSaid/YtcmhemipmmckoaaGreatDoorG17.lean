/- Contracts of the functions that the laws reach, and plain laws of what they compute (text G17); no condition. -/
import Derived.Test.YtcmhemipmmckoaaGreatDoorG15
import Derived.Test.YtcmhemipmmckoaaGreatDoorG13
set_option maxRecDepth 100000
namespace Go.Ab
open IntKind
open Go.Proofs
section
variable{p:Psn}
theorem FU(x y:Int):imax true x y=if x<y then y else x:=by
 unfold imax
 dsimp only
 by_cases h:x<y
 ·rw[decide_eq_true h,if_pos h];rfl
 ·rw[decide_eq_false h,if_neg h];rfl
theorem IE{n:Int}(h1:-8<=n)(h2:n<=8):absI n=if n<0 then -n else n:=by
 unfold absI
 by_cases h:n<0
 ·rw[decide_eq_true h,cond_true,aI (by omega) (by omega),if_pos h];omega
 ·rw[decide_eq_false h,cond_false,if_neg h]
theorem Ny{f r a b:Int}(ha:aj f r a=true)(hb:aj f r b=true):va ⟨f,r⟩ a b=some (eA f a b,0):=by
 obtain⟨a0,a1,a2,a3,a4,a5,a6,a7,a8,a9⟩:=fB ha
 obtain⟨b0,b1,b2,b3,b4,b5,_⟩:=fB hb
 have pa:aU f r a=(px f a,py f a,0):=by unfold aU;rw[ha,cond_true,a0]
 have pb:aU f r b=(px f b,py f b,0):=by unfold aU;rw[hb,cond_true,b0]
 unfold va
 rw[pa,pb]
 have key:imax true (imax true (imax true (i64.wrap (px f a-px f b)) (i64.wrap (px f b-px f a))) (i64.wrap (py f a-py f b))) (i64.wrap (py f b-py f a))=eA f a b:=by
  unfold eA
  rw[a0,b0,show a.tmod f=px f a from rfl,show b.tmod f=px f b from rfl,aI (n:=py f a-py f b) (by omega) (by omega),aI (n:=px f a-px f b) (by omega) (by omega)]
  rw[aI (n:=px f b-px f a) (by omega) (by omega),aI (n:=py f b-py f a) (by omega) (by omega)]
  rw[IE (n:=px f a-px f b) (by omega) (by omega),IE (n:=py f a-py f b) (by omega) (by omega)]
  simp only[FU]
  rw[show px f b-px f a=-(px f a-px f b) by omega,show py f b-py f a=-(py f a-py f b) by omega]
  generalize px f a-px f b=x
  generalize py f a-py f b=y
  by_cases h:(if y<0 then -y else y)<(if x<0 then -x else x)
  ·rw[decide_eq_true h,cond_true];omega
  ·rw[decide_eq_false h,cond_false];omega
 rw[<-key];rfl
theorem pM{β σ ξ α:Type}{step:β->σ->Option (σ ⊕ (ξ ⊕ α))}{F:σ->Option α}{Fx:ξ->Option α}(f:σ->β->σ)(inv:σ->Prop):∀ (l:List β) (s:σ),inv s->(∀ x∈l,∀ s,inv s->step x s=some (.inl (f s x))/\inv (f s x))->dN step F Fx l s=F (l.foldl f s)
 |[],_,_,_=>rfl
 |x::l,s,hi,h=>by
  obtain⟨h1,h2⟩:=h x (by simp) s hi
  rw[mR h1,List.foldl_cons]
  exact pM f inv l _ h2 fun y hy=>h y (by simp[hy])
def flF(f K s e:Int):Int:=bif !decide (eA f K e=1)then cI s (ushl 1 e)else s
theorem IX{f K:Int}:∀ (l:List Int) (s:Int),(∀ x∈l,0<=x/\x<64)->Uk s->Uk (l.foldl (flF f K) s)/\∀ m:Nat,bt (l.foldl (flF f K) s) m=(bt s m&&!(decide ((m:Int)∈l)&&!decide (eA f K m=1)))
 |[],s,_,hu=>⟨hu,fun m=>by simp⟩
 |x::l,s,h,hu=>by
  have hx:=h x (by simp)
  have hu2:Uk (flF f K s x):=by unfold flF;cases decide (eA f K x=1);exact gX _ _;exact hu
  obtain⟨k1,k2⟩:=IX l (flF f K s x) (fun y hy=>h y (by simp[hy])) hu2
  refine⟨k1,fun m=>?_⟩
  rw[List.foldl_cons,k2]
  have hb:bt (flF f K s x) m=(bt s m&&!(decide (x=(m:Int))&&!decide (eA f K x=1))):=by
   unfold flF
   cases hd:decide (eA f K x=1) with
   |true=>simp
   |false=>
    simp only[Bool.not_false,cond_true,Bool.and_true]
    rw[gT hu (gJ _ _),gZ hx.1 hx.2]
  rw[hb]
  by_cases e:x=(m:Int)
  ·subst e
   simp only[decide_true,Bool.true_and,List.mem_cons,true_or]
   cases bt s m<;>cases decide (eA f K (m:Int)=1)<;>simp
  ·have e':(m:Int)≠x:=fun q=>e q.symm
   simp only[decide_eq_false e,Bool.false_and,Bool.not_false,Bool.and_true,List.mem_cons,e',false_or]
def kgL(p:Psn):List (List Int):=(psL p (aV p.zs p.bl)).filter (legF p)
def near(p:Psn)(r:List Int):Bool:=decide (eA p.f (aV p.zs p.bl) (r.getD 1 0)=1)
theorem IB(o:PsH p):(kgL p).length<=100000:=by
 have:=ld (p:=p) (a:=aV p.zs p.bl) o.hl
 exact Nat.le_trans (List.length_filter_le _ _) (by omega)
theorem MC(o:PsH p):eFl p=some ((bitL ((kgL p).foldl tgF 0)).foldl (flF p.f (aV p.zs p.bl)) ((kgL p).foldl tgF 0),0):=by
 obtain⟨hk,hv⟩:=Fo o
 obtain⟨hu,hb⟩:=DG o (kgL p) 0 (fun r h=>jY h) uk_0
 unfold eFl
 simp only[List.drop_zero,List.take_length,bz,decide_eq_true o.hl,aR,o.ok,Bool.not_true,cond_false]
 rw[hk,wm o hv,aO]
 dsimp only
 rw[show ((psL p (aV p.zs p.bl)).filter (legF p))=kgL p from rfl,zM hu,pM (flF p.f (aV p.zs p.bl)) Uk _ _ hu]
 intro x hx s hs
 obtain⟨hx0,hx1,hx2⟩:=mq hx
 rw[hb,bt_0,Bool.false_or,decide_eq_true_eq]at hx2
 obtain⟨r,hr,hrx⟩:=List.mem_map.1 hx2
 have hxv:=(De o (jY hr)).1
 rw[hrx,Int.toNat_of_nonneg hx0]at hxv
 have h0:decide (0<=x)=true:=decide_eq_true hx0
 refine⟨?_,?_⟩
 ·unfold Jf
  simp only[List.drop_zero,List.take_length,hk]
  rw[Ny hv hxv,aO,h0]
  unfold flF
  cases decide (eA p.f (aV p.zs p.bl) x=1)<;>rfl
 ·unfold flF
  cases decide (eA p.f (aV p.zs p.bl) x=1)
  ·exact gX _ _
  ·exact hs
theorem Lx(hl:p.zs.length<=64)(h:p.ok=false):eFl p=some (0,2):=by
 unfold eFl
 simp only[List.drop_zero,List.take_length,bz,decide_eq_true hl,aR,h,Bool.not_false,cond_true]
theorem xY{β γ:Type}(q:β->Bool)(g:β->γ):∀ (l:List β) (acc:List γ),l.foldl (fun acc x=>bif q x then acc++[g x]else acc) acc=acc++(l.filter q).map g
 |[],acc=>by simp
 |x::l,acc=>by
  rw[List.foldl_cons,xY q g l,List.filter_cons]
  cases q x<;>simp
theorem Ms(o:PsH p):rFl p=some (((kgL p).filter (near p)).map (·.getD 1 0)):=by
 have hvs:=Mb o
 have hf:decide (p.f=0)=false:=by
  refine decide_eq_false fun e=>?_
  unfold vsB at hvs
  rw[e]at hvs
  simp only[Bool.and_eq_true]at hvs
  exact absurd hvs.1 (by decide)
 unfold rFl
 simp only[List.drop_zero,List.take_length,bz,decide_eq_true o.hl,aR]
 rw[zv o,aO,show ((psL p (aV p.zs p.bl)).filter (legF p))=kgL p from rfl]
 have hlen:=IB o
 generalize kgL p=l at hlen
 refine(eL (step:=xT p l) l (fun acc x=>bif near p x then acc++[x.getD 1 0]else acc) (fun s=>s) (fun j s=>s.length<=j) ?_ ?_ l.length 1000000 0 [] (by omega) (by omega) (by simp)).trans ?_
 ·intro j x s hx hi
  have hj:=(List.getElem?_eq_some_iff.1 hx).1
  have e1:l.getD (j:Int).toNat []=x:=by simp[List.getD,hx]
  have h1:decide ((j:Int)<Int.ofNat l.length)=true:=by simp;omega
  have h2:decide (0<=(j:Int))=true:=by simp
  have h3:decide ((s.length+1)*8<=140737488355328)=true:=by simp;omega
  have ew:i64.wrap ((j:Int)+1)=((j+1:Nat):Int):=aI (by omega) (by omega)
  refine⟨?_,?_⟩
  ·unfold xT
   simp only[List.drop_zero,List.take_length,e1,h1,h2,h3,cond_true,Bool.and_self,aR,ew,hf,Bool.not_false]
   unfold near
   cases decide (eA p.f (aV p.zs p.bl) (x.getD 1 0)=1)<;>rfl
  ·cases near p x<;>simp<;>omega
 ·intro s _
  have h1:decide ((l.length:Int)<Int.ofNat l.length)=false:=by simp
  unfold xT
  simp only[h1,cond_false]
 ·rw[List.drop_zero,xY,List.nil_append]
theorem JJ(o:PsH p):(bitL ((kgL p).foldl tgF 0)).foldl (flF p.f (aV p.zs p.bl)) ((kgL p).foldl tgF 0)=ofL (((kgL p).filter (near p)).map (·.getD 1 0)) 0:=by
 obtain⟨hu,hb⟩:=DG o (kgL p) 0 (fun r h=>jY h) uk_0
 obtain⟨k1,k2⟩:=IX (f:=p.f) (K:=aV p.zs p.bl) (bitL ((kgL p).foldl tgF 0)) ((kgL p).foldl tgF 0) (fun x hx=>⟨(mq hx).1,(mq hx).2.1⟩) hu
 obtain⟨j1,j2⟩:=qc (((kgL p).filter (near p)).map (·.getD 1 0)) 0 (fun x hx=>by
  obtain⟨r,hr,rfl⟩:=List.mem_map.1 hx
  exact(De o (jY (List.mem_filter.1 hr).1)).2) uk_0
 refine tH k1 j1 fun m hm=>?_
 rw[k2,j2,bt_0,Bool.false_or]
 have hmem:decide ((m:Int)∈bitL ((kgL p).foldl tgF 0))=bt ((kgL p).foldl tgF 0) m:=by
  cases hbm:bt ((kgL p).foldl tgF 0) m with
  |true=>
   refine decide_eq_true ?_
   unfold bitL
   exact List.mem_map.2 ⟨m,List.mem_filter.2 ⟨List.mem_range.2 hm,hbm⟩,rfl⟩
  |false=>
   refine decide_eq_false fun h=>?_
   have:=(mq h).2.2
   rw[Int.toNat_natCast,hbm]at this
   cases this
 rw[hmem,hb,bt_0,Bool.false_or]
 by_cases hd:eA p.f (aV p.zs p.bl) m=1
 ·rw[decide_eq_true hd]
  simp only[Bool.not_true,Bool.and_false,Bool.not_false,Bool.and_true]
  refine decide_eq_decide.2 ⟨fun h=>?_,fun h=>?_⟩
  ·obtain⟨r,hr,e⟩:=List.mem_map.1 h
   refine List.mem_map.2 ⟨r,List.mem_filter.2 ⟨hr,?_⟩,e⟩
   unfold near
   rw[e];exact decide_eq_true hd
  ·obtain⟨r,hr,e⟩:=List.mem_map.1 h
   exact List.mem_map.2 ⟨r,(List.mem_filter.1 hr).1,e⟩
 ·rw[decide_eq_false hd]
  have:decide ((m:Int)∈((kgL p).filter (near p)).map (·.getD 1 0))=false:=by
   refine decide_eq_false fun h=>?_
   obtain⟨r,hr,e⟩:=List.mem_map.1 h
   have:=(List.mem_filter.1 hr).2
   unfold near at this
   rw[e]at this
   exact hd (of_decide_eq_true this)
  rw[this]
  cases decide ((m:Int)∈(kgL p).map (·.getD 1 0))<;>rfl
theorem Bm(hca:0<=p.ca):Hx p=some true:=by
 unfold Hx
 simp only[List.drop_zero,List.take_length,bz]
 rw[show kL p=some (decide (Int.ofNat p.zs.length<=64))from rfl,aO]
 by_cases hl:p.zs.length<=64
 ·have h1:decide (Int.ofNat p.zs.length<=64)=true:=by simp;omega
  have h2:decide (p.zs.length<=64)=true:=by simpa using hl
  rw[h1,h2,sY hl hca]
  simp only[Bool.not_true,cond_false,aR]
  cases hok:p.ok with
  |false=>rw[Lx hl hok,aO];rfl
  |true=>
   have o:=psh hl hca hok
   rw[MC o,aO]
   simp only[Bool.not_true,cond_false]
   rw[Ms o,aO,JJ o]
   have h3:decide ((((kgL p).filter (near p)).map (·.getD 1 0)).length<=1000000)=true:=by
    have:=IB o
    have h2:=List.length_filter_le (near p) (kgL p)
    rw[List.length_map,decide_eq_true_eq];omega
   have h4:((((kgL p).filter (near p)).map (·.getD 1 0)).all fun x=>decide (0<=x))=true:=by
    rw[List.all_eq_true]
    intro x hx
    obtain⟨r,hr,rfl⟩:=List.mem_map.1 hx
    exact decide_eq_true (De o (jY (List.mem_filter.1 hr).1)).2.1
   rw[h3,h4]
   simp
 ·have h1:decide (Int.ofNat p.zs.length<=64)=false:=by simp;omega
  rw[h1];rfl
end
end Go.Ab
