/- An evaluator of the model on values that are partly known, and its soundness (text G3); no condition. -/
import Derived.Test.YtlannahgjgpfcaaGreatDoorG2
import Derived.LoopNIn
import Derived.RangeFuncRecord
import Derived.RangeFuncSeq
import Derived.RecoverIn
namespace Go.Ab
open Go.RowKit
section
variable{E:Env}{G:List O}{P:Program}
def ay(G:List O)(P:Program)(f:FuncId)(args:List V)(H:List O)(v:V)(N:List O):Prop:=
 ∀ ρ us w,HR G w.heap.size ρ H w->VRL ρ args us->Calls P f us.toArray w fun e w'=>∃ u ρ',e=.returned u/\VR ρ' v u/\HR G w.heap.size ρ' (H++N) w'/\ρ.le ρ'/\Below w.heap.size w w'
def fq(P:Program)(f:FuncId):Prop:=∃ fn,P.funcs[f]?=some fn/\(fn.name == "runtime.NumGoroutine")=false/\fn.body.isSome=true/\Nat.ble BM f=false
structure Env.Fn(E:Env)(P:Program):Prop where
 ok:E.Ok P
 mixed:P.follows .mixedOrders=true
 pf:∀ f a h c v N,E.pf f a h=some (c,v,N)->c=true->fq P f/\ay E.G P f a h v N
 inl:∀ f fn,assoc E.inl f=some fn->P.funcs[f]?=some fn/\(fn.name == "runtime.NumGoroutine")=false
 pn:PnOk E P
section
variable{B:Nat}{w0:World}{S:Nat}{N:Nat}{D:List Deferred}{gs:List (Nat×Obj)}{ρ:Ren}{tm:Tm}{hp:List O}{a:Act}{w:World}
theorem HR.view(hh:HR G B ρ hp w){o:O}{r:Rg}(hr:OR (ρ.add hp.length r) o r w)(ho:o.own=false)(hnone:∀ b,(getO G hp b).own=false)(hsm:hp.length+1<ax) :
  HR G B (ρ.add hp.length r) (hp++[o]) w/\ρ.le (ρ.add hp.length r)/\∀ b,(getO G (hp++[o]) b).own=false:=by
 obtain⟨h1,h2⟩:=hh.extend (w':=w) (r:=r) (Nat.le_refl _) (fun _ _=>rfl) hr (fun e=>by rw[ho]at e;cases e) (fun e=>by rw[ho]at e;cases e) (fun _ b x _ e=>by rw[hnone b]at e;cases e) hsm
 refine⟨h1,h2,fun b=>?_⟩
 by_cases hb:b<ax
 ·rw[aB hb]
  by_cases e:b<hp.length
  ·rw[fk e];have:=hnone b;rwa [aB hb]at this
  ·by_cases e2:b=hp.length
   ·subst e2;rw[ff];exact ho
   ·have:(hp++[o]).getD b .gone=.gone:=by simp[List.getD,List.getElem?_eq_none (show (hp++[o]).length<=b by simp;omega)]
    rw[this];rfl
 ·have:=hnone b
  rw[aA (by omega)]at this ⊢
  exact this
theorem OR.window{o o':O}{r:Rg}(ho:OR ρ o r w){k len cp:Nat}(hkl:k+len<=r.n)(hcp:r.ph=false->len<=cp)(hph:r.ph=true->len=0)(hal:o'≠.gone)(hnr:o'≠.rsv)(hwf:o'.wf)(hlen:o'.len=len)(hwid:o'.wid=o.wid)(hown:o'.own=false)
  (hcell:∀ k' j v,k'<len->o'.cell k' j=some v->o.cell (k+k') j=some v) (ρ':Ren) (hv:∀ k' j v u,o'.cell k' j=some v->VR ρ v u->VR ρ' v u) :
  OR ρ' o' { blk:=r.blk,base:=r.base+k*r.m,m:=r.m,n:=len,cp:=cp,ph:=r.ph } w where
 alive:=hal
 nrsv:=hnr
 wf:=hwf
 n:=hlen.symm
 ph0:=hph
 lt:=ho.lt
 m:=fun hp=>by rw[hwid];exact ho.m hp
 cp:=hcp
 cell:=fun hp k' j v hk hj hc=>by
  have hn:=ho.n
  obtain⟨u,hu,hvu⟩:=ho.cell hp (k+k') j v (by omega) (by omega) (hcell k' j v (by omega) hc)
  refine⟨u,?_,hv k' j v u hc hvu⟩
  rw[<-hu]
  congr 2
  simp only[Nat.add_mul]
  omega
 own:=fun e=>by rw[hown]at e;cases e
theorem nt{α:Type}(l:List α)(d:α){k len i:Nat}(h:i<len):((l.drop k).take len).getD i d=l.getD (k+i) d:=by
 simp[List.getD,h,List.getElem?_drop]
structure kn(G:List O)(B:Nat)(ρ:Ren)(acc:List O)(w:World):Prop where
 hr:HR G B ρ acc w
 own:∀ b,(getO G acc b).own=false
mutual
theorem Db:∀ (v:V) (acc:List O) (v':V) (acc':List O),canon E hp v acc=some (v',acc')->acc.length<=acc'.length
 |.sl b k len cap,acc,v',acc',h=>by
  simp only[canon]at h
  split at h
  ·cases h;simp
  ·cases h;simp
  ·split at h
   ·cases h;simp
   ·cases h
  ·cases h
 |.agg l,acc,v',acc',h=>by
  simp only[canon]at h
  split at h
  ·rename_i l' a' h';cases h;exact gR l acc _ _ h'
  ·cases h
 |.lit _,_,_,_,h=>by cases h;exact Nat.le_refl _
 |.bool _,_,_,_,h=>by cases h;exact Nat.le_refl _
 |.int _ _,_,_,_,h=>by cases h;exact Nat.le_refl _
 |.str _,_,_,_,h=>by cases h;exact Nat.le_refl _
 |.nils,_,_,_,h=>by cases h;exact Nat.le_refl _
 |.ptr _ _ _,_,_,_,h=>by cases h
 |.nilp,_,_,_,h=>by cases h
 |.fn f l,acc,v',acc',h=>by
  simp only[canon]at h
  split at h
  ·rename_i l' a' h';cases h;exact gR l acc _ _ h'
  ·cases h
 |.nilf,_,_,_,h=>by cases h
 |.yl _,_,_,_,h=>by cases h
 |.tup _,_,_,_,h=>by cases h
 |.nili,_,_,_,h=>by cases h
 |.when _ _,_,_,_,h=>by cases h
 |.junk,_,_,_,h=>by cases h
theorem gR:∀ (l:List V) (acc:List O) (l':List V) (acc':List O),dA E hp l acc=some (l',acc')->acc.length<=acc'.length
 |[],_,_,_,h=>by cases h;exact Nat.le_refl _
 |v::l,acc,l',acc',h=>by
  simp only[dA]at h
  split at h
  ·rename_i v1 a1 h1
   split at h
   ·rename_i l2 a2 h2;cases h;exact Nat.le_trans (Db v acc _ _ h1) (gR l _ _ _ h2)
   ·cases h
  ·cases h
end
def Bk(ρ ρ1:Ren)(n n':Nat)(l:List (Nat×Nat×Nat×Option Nat)):Prop:=
 n'=n+l.length/\∀ i b k len cap,l[i]?=some (b,k,len,cap)->∃ r,ρ b=some r/\k+len<=r.n/\ρ1 (n+i)=some { blk:=r.blk,base:=r.base+k*r.m,m:=r.m,n:=len,cp:=cap.getD (r.cp-k),ph:=r.ph }
theorem Bk.nil{ρ ρ1:Ren}{n:Nat}:Bk ρ ρ1 n n []:=⟨rfl,fun i _ _ _ _ h=>by simp at h⟩
theorem Bk.append{ρ ρ1 ρ2:Ren}{n n' n'':Nat}{l l2}(h1:Bk ρ ρ1 n n' l)(hl:ρ1.le ρ2)(h2:Bk ρ ρ2 n' n'' l2):Bk ρ ρ2 n n'' (l++l2):=by
 refine⟨by rw[h2.1,h1.1,List.length_append];omega,fun i b k len cap h=>?_⟩
 rcases Nat.lt_or_ge i l.length with hi|hi
 ·rw[List.getElem?_append_left hi]at h
  obtain⟨r,a1,a2,a3⟩:=h1.2 i b k len cap h
  exact⟨r,a1,a2,hl _ _ a3⟩
 ·rw[List.getElem?_append_right hi]at h
  obtain⟨r,a1,a2,a3⟩:=h2.2 _ b k len cap h
  exact⟨r,a1,a2,by rw[<-a3,h1.1];congr 1;omega⟩
mutual
theorem Gn(hh:HR E.G B ρ hp w){C:Nat}:∀ (v:V) (acc:List O) (v':V) (acc':List O) (ρ0:Ren) (u:Value),canon E hp v acc=some (v',acc')->acc'.length<ax->VR ρ v u->kn E.G C ρ0 acc w ->
  ∃ ρ1,ρ0.le ρ1/\kn E.G C ρ1 acc' w/\VR ρ1 v' u/\Bk ρ ρ1 acc.length acc'.length v.sls
 |.sl b k len cap,acc,v',acc',ρ0,u,h,hlt,hv,hc=>by
  obtain⟨r,hr,hkl,hp1,hp2⟩:=hv
  simp only[canon]at h
  have hcp:r.ph=false->len<=cap.getD (r.cp-k):=fun e=>(hp2 e).1
  have hph:r.ph=true->len=0:=fun e=>(hp1 e).1
  have fin:∀ (o':O),o'.own=false->OR (ρ0.add acc.length { blk:=r.blk,base:=r.base+k*r.m,m:=r.m,n:=len,cp:=cap.getD (r.cp-k),ph:=r.ph }) o' { blk:=r.blk,base:=r.base+k*r.m,m:=r.m,n:=len,cp:=cap.getD (r.cp-k),ph:=r.ph } w ->
    acc.length+1<ax->∃ ρ1,ρ0.le ρ1/\kn E.G C ρ1 (acc++[o']) w/\VR ρ1 (.sl acc.length 0 len none) u/\Bk ρ ρ1 acc.length (acc++[o']).length (V.sls (.sl b k len cap)):=by
   intro o' hown hor hsm
   obtain⟨h1,h2,h3⟩:=hc.hr.view hor hown hc.own hsm
   refine⟨_,h2,⟨h1,h3⟩,⟨_,Ren.add_same _ _ _,by simp,fun e=>hp1 e,fun e=>⟨by simpa using hcp e,?_⟩⟩,by simp[V.sls],fun i b2 k2 len2 cap2 h=>?_⟩
   ·obtain⟨ad,h4,h5⟩:=(hp2 e).2
    exact⟨ad,by simpa using h4,fun hne=>by rw[h5 (by simpa using hne)];simp⟩
   ·cases i with
    |zero=>
     simp only[V.sls,List.getElem?_cons_zero,Option.some.injEq,Prod.mk.injEq]at h
     obtain⟨rfl,rfl,rfl,rfl⟩:=h
     exact⟨r,hr,hkl,Ren.add_same _ _ _⟩
    |succ i=>simp[V.sls]at h
  split at h
  ·rename_i ww kd zs ho
   cases h
   have hob:=hh.blocks b r hr (by rw[ho];simp)
   rw[ho]at hob
   have hn:r.n=zs.length:=hob.n
   refine fin _ rfl (hob.window (o':=.ints false kd ((zs.drop k).take len)) hkl hcp hph (by simp) (by simp) trivial (by simp[O.len];omega) rfl rfl ?_ _ ?_) (by simpa using hlt)
   ·intro k' j v hk hcl
    cases j with
    |zero=>simp only[O.cell,Option.some.injEq]at hcl ⊢;rw[<-hcl,nt _ _ hk]
    |succ j=>simp[O.cell]at hcl
   ·intro k' j v u hcl hvu
    cases j with
    |zero=>simp only[O.cell,Option.some.injEq]at hcl;subst hcl;exact hvu
    |succ j=>simp[O.cell]at hcl
  ·rename_i ww ks rs ho
   cases h
   have hob:=hh.blocks b r hr (by rw[ho];simp)
   rw[ho]at hob
   have hn:r.n=rs.length:=hob.n
   refine fin _ rfl (hob.window (o':=.rows false ks ((rs.drop k).take len)) hkl hcp hph (by simp) (by simp) ?_ (by simp[O.len];omega) rfl rfl ?_ _ ?_) (by simpa using hlt)
   ·intro row hrow
    exact hob.wf row (List.mem_of_mem_drop (List.mem_of_mem_take hrow))
   ·intro k' j v hk hcl
    simp only[O.cell]at hcl ⊢
    split at hcl
    ·simp only[Option.some.injEq]at hcl ⊢;rw[<-hcl,nt _ _ hk]
    ·cases hcl
   ·intro k' j v u hcl hvu
    simp only[O.cell]at hcl
    split at hcl
    ·simp only[Option.some.injEq]at hcl;subst hcl;exact hvu
    ·cases hcl
  ·rename_i ww m rs ho
   split at h
   ·rename_i hpl
    cases h
    have hob:=hh.blocks b r hr (by rw[ho];simp)
    rw[ho]at hob
    have hn:r.n=rs.length:=hob.n
    refine fin _ rfl (hob.window (o':=.vals false m ((rs.drop k).take len)) hkl hcp hph (by simp) (by simp) ?_ (by simp[O.len];omega) rfl rfl ?_ _ ?_) (by simpa using hlt)
    ·intro row hrow
     exact hob.wf row (List.mem_of_mem_drop (List.mem_of_mem_take hrow))
    ·intro k' j v hk hcl
     simp only[O.cell]at hcl ⊢
     rw[List.getElem?_take,if_pos hk,List.getElem?_drop]at hcl
     exact hcl
    ·intro k' j v u hcl hvu
     simp only[O.cell]at hcl
     split at hcl
     ·rename_i row hrow
      have h1:=List.mem_of_mem_drop (List.mem_of_mem_take (List.mem_of_getElem? hrow))
      exact VR.pl v u (qu (List.all_eq_true.1 hpl _ h1) v (List.mem_of_getElem? hcl)) hvu
     ·cases hcl
   ·cases h
  ·cases h
 |.agg l,acc,v',acc',ρ0,u,h,hlt,hv,hc=>by
  simp only[canon]at h
  split at h
  ·rename_i l' a' h'
   cases h
   obtain⟨us,rfl,hus⟩:=hv
   obtain⟨ρ1,h1,h2,h3,h4⟩:=jF hh l acc _ _ ρ0 us h' hlt hus hc
   exact⟨ρ1,h1,h2,⟨us,rfl,h3⟩,by rw[V.sls];exact h4⟩
  ·cases h
 |.lit _,_,_,_,ρ0,_,h,_,hv,hc=>by cases h;exact⟨ρ0,Ren.le_refl _,hc,hv,Bk.nil⟩
 |.bool _,_,_,_,ρ0,_,h,_,hv,hc=>by cases h;exact⟨ρ0,Ren.le_refl _,hc,hv,Bk.nil⟩
 |.int _ _,_,_,_,ρ0,_,h,_,hv,hc=>by cases h;exact⟨ρ0,Ren.le_refl _,hc,hv,Bk.nil⟩
 |.str _,_,_,_,ρ0,_,h,_,hv,hc=>by cases h;exact⟨ρ0,Ren.le_refl _,hc,hv,Bk.nil⟩
 |.nils,_,_,_,ρ0,_,h,_,hv,hc=>by cases h;exact⟨ρ0,Ren.le_refl _,hc,hv,Bk.nil⟩
 |.ptr _ _ _,_,_,_,_,_,h,_,_,_=>by cases h
 |.nilp,_,_,_,_,_,h,_,_,_=>by cases h
 |.fn f l,acc,v',acc',ρ0,u,h,hlt,hv,hc=>by
  simp only[canon]at h
  split at h
  ·rename_i l' a' h'
   cases h
   obtain⟨us,rfl,hus⟩:=hv
   obtain⟨ρ1,h1,h2,h3,h4⟩:=jF hh l acc _ _ ρ0 us h' hlt hus hc
   exact⟨ρ1,h1,h2,⟨us,rfl,h3⟩,by rw[V.sls];exact h4⟩
  ·cases h
 |.nilf,_,_,_,_,_,h,_,_,_=>by cases h
 |.yl _,_,_,_,_,_,h,_,_,_=>by cases h
 |.tup _,_,_,_,_,_,h,_,_,_=>by cases h
 |.nili,_,_,_,_,_,h,_,_,_=>by cases h
 |.when _ _,_,_,_,_,_,h,_,_,_=>by cases h
 |.junk,_,_,_,_,_,h,_,_,_=>by cases h
theorem jF(hh:HR E.G B ρ hp w){C:Nat}:∀ (l:List V) (acc:List O) (l':List V) (acc':List O) (ρ0:Ren) (us:List Value),dA E hp l acc=some (l',acc')->acc'.length<ax->VRL ρ l us->kn E.G C ρ0 acc w ->
  ∃ ρ1,ρ0.le ρ1/\kn E.G C ρ1 acc' w/\VRL ρ1 l' us/\Bk ρ ρ1 acc.length acc'.length (slsL l)
 |[],acc,_,_,ρ0,us,h,_,hv,hc=>by cases h;exact⟨ρ0,Ren.le_refl _,hc,hv,Bk.nil⟩
 |v::l,acc,l',acc',ρ0,us,h,hlt,hv,hc=>by
  obtain⟨u,r,rfl,hvu,hvr⟩:=hv
  simp only[dA]at h
  split at h
  ·rename_i v1 a1 h1
   split at h
   ·rename_i l2 a2 h2
    cases h
    obtain⟨ρ1,l1,c1,x1,y1⟩:=Gn hh v acc _ _ ρ0 u h1 (Nat.lt_of_le_of_lt (gR l _ _ _ h2) hlt) hvu hc
    obtain⟨ρ2,l2,c2,x2,y2⟩:=jF hh l _ _ _ ρ1 r h2 hlt hvr c1
    exact⟨ρ2,Ren.le_trans l1 l2,c2,⟨u,r,rfl,VR.mono l2 _ _ x1,x2⟩,by rw[slsL];exact y1.append l2 y2⟩
   ·cases h
  ·cases h
end
theorem O.data_cell{o:O}(ho:o.data=true){k j:Nat}{v:V}(h:o.cell k j=some v):V.pl v=true:=by
 cases o with
 |ints _ kd zs=>cases j<;>simp[O.cell]at h;subst h;rfl
 |rows _ ks rs=>
  simp only[O.cell]at h
  split at h
  ·simp only[Option.some.injEq]at h;subst h;rfl
  ·cases h
 |vals _ m rs=>
  simp only[O.cell]at h
  split at h
  ·rename_i r hr
   exact qu (List.all_eq_true.1 ho _ (List.mem_of_getElem? hr)) v (List.mem_of_getElem? h)
  ·cases h
 |lock=>simp[O.cell]at h
 |_=>cases ho
theorem OR.data{o:O}(ho:o.data=true){r:Rg}(h:OR ρ o r w)(ρ':Ren):OR ρ' o r w where
 alive:=h.alive
 nrsv:=h.nrsv
 wf:=h.wf
 n:=h.n
 ph0:=h.ph0
 lt:=h.lt
 m:=h.m
 cp:=h.cp
 cell:=fun hp k j v hk hj hv=>by
  obtain⟨u,hu,hr⟩:=h.cell hp k j v hk hj hv
  exact⟨u,hu,VR.pl v u (O.data_cell ho hv) hr⟩
 own:=h.own
theorem O.tab_data{o:O}(h:o.tab=true):o.data=true/\o.own=false:=by
 cases o with
 |ints w _ _=>cases w<;>simp_all [O.tab,O.data,O.own]
 |rows w _ _=>cases w<;>simp_all [O.tab,O.data,O.own]
 |vals w _ _=>cases w<;>simp_all [O.tab,O.data,O.own]
 |lock w _ _=>cases w<;>simp_all [O.tab,O.data,O.own]
 |_=>simp[O.tab]at h
def Ren.globs(ρ:Ren):Ren:=fun b=>if ax<=b then ρ b else none
theorem HR.globs(hh:HR G B ρ hp w)(C:Nat):kn G C ρ.globs [] w:=by
 have hget:∀ b,ax<=b->getO G [] b=getO G hp b:=fun b h=>by rw[aA h,aA h]
 have hown:∀ b,(getO G [] b).own=false:=by
  intro b
  by_cases hb:ax<=b
  ·rw[aA hb]
   cases hg:G[b-ax]? with
   |none=>simp[List.getD,hg,O.own]
   |some o=>
    obtain⟨r,_,_,_,_,_,_,h⟩:=hh.glob _ o hg
    simp[List.getD,hg,(O.tab_data h).2]
  ·rw[aB (by omega)];rfl
 refine⟨⟨?_,?_,fun b h1=>?_,?_,?_,?_,by decide⟩,hown⟩
 ·intro b r hr hal
  simp only[Ren.globs]at hr
  split at hr
  ·rename_i hb
   have hob:=hh.blocks b r hr (by rw[<-hget b hb];exact hal)
   rw[hget b hb]at hal ⊢
   rw[aA hb]at hal hob ⊢
   cases hg:G[b-ax]? with
   |none=>simp[List.getD,hg]at hal
   |some o=>
    obtain⟨_,_,_,_,_,_,_,h⟩:=hh.glob _ o hg
    refine hob.data ?_ _
    simp[List.getD,hg,(O.tab_data h).1]
  ·cases hr
 ·intro b _ h2
  simp[Ren.globs,show ¬ ax<=b by omega]
 ·by_cases hb:ax<=b
  ·rw[hget b hb]at h1
   simp[Ren.globs,hb,hh.rsv b h1]
  ·simp[Ren.globs,hb]
 ·intro b r hr ho;rw[hown]at ho;cases ho
 ·intro b b' r r' _ _ _ _ _ ho;rw[hown]at ho;cases ho
 ·intro g o hg
  obtain⟨r,h1,h2⟩:=hh.glob g o hg
  exact⟨r,by simp[Ren.globs,h1],h2⟩
mutual
theorem yA{sl:List (Nat×Nat×Nat×Option Nat)}{d0 d1:Nat}{ρ ρ':Ren}(hbk:∃ n n' ρ1,n=0/\Bk ρ' ρ1 n n' sl/\ρ1.le ρ)(hm:∀ b r,d0<=b->b<ax->ρ b=some r->ρ' (b-d0+d1)=some r):∀ (v v':V) (u:Value),V.shift sl d0 d1 v=some v'->VR ρ v u->VR ρ' v' u
 |.sl b k len cap,v',u,h,hv=>by
  simp only[V.shift]at h
  split at h
  ·rename_i hb
   cases h
   simp only[Bool.and_eq_true]at hb
   obtain⟨r,hr,x⟩:=hv
   exact⟨r,hm b r (Nat.le_of_ble_eq_true hb.1) (aM hb.2) hr,x⟩
  ·unfold NX at h
   split at h
   ·rename_i b' k' len' cap' hsl
    cases h
    obtain⟨n,n',ρ1,rfl,hB,hle⟩:=hbk
    obtain⟨r,a1,a2,a3⟩:=hB.2 _ _ _ _ _ hsl
    rw[Nat.zero_add]at a3
    obtain⟨r2,hr2,b1,b2,b3⟩:=hv
    rw[hle _ _ a3]at hr2
    cases hr2
    dsimp only at b1 b2 b3
    refine⟨r,a1,by omega,b2,fun e=>?_⟩
    obtain⟨c1,ad,c2,c3⟩:=b3 e
    simp only[Option.getD_none,Nat.sub_zero,Nat.zero_mul,Nat.add_zero]at c1 c2 c3
    exact⟨c1,ad,c2,c3⟩
   ·cases h
 |.agg l,v',u,h,hv=>by
  simp only[V.shift]at h
  split at h
  ·rename_i l' hl;cases h;obtain⟨us,rfl,hus⟩:=hv;exact⟨us,rfl,nK hbk hm l l' us hl hus⟩
  ·cases h
 |.tup l,v',u,h,hv=>by
  simp only[V.shift]at h
  split at h
  ·rename_i l' hl;cases h;obtain⟨us,rfl,hus⟩:=hv;exact⟨us,rfl,nK hbk hm l l' us hl hus⟩
  ·cases h
 |.lit _,_,_,h,hv=>by cases h;exact hv
 |.bool _,_,_,h,hv=>by cases h;exact hv
 |.int _ _,_,_,h,hv=>by cases h;exact hv
 |.str _,_,_,h,hv=>by cases h;exact hv
 |.nils,_,_,h,hv=>by cases h;exact hv
 |.ptr _ _ _,_,_,h,_=>by cases h
 |.nilp,_,_,h,_=>by cases h
 |.fn _ _,_,_,h,_=>by cases h
 |.nilf,_,_,h,_=>by cases h
 |.yl _,_,_,h,_=>by cases h
 |.nili,_,_,h,_=>by cases h
 |.when _ _,_,_,h,_=>by cases h
 |.junk,_,_,h,_=>by cases h
theorem nK{sl:List (Nat×Nat×Nat×Option Nat)}{d0 d1:Nat}{ρ ρ':Ren}(hbk:∃ n n' ρ1,n=0/\Bk ρ' ρ1 n n' sl/\ρ1.le ρ)(hm:∀ b r,d0<=b->b<ax->ρ b=some r->ρ' (b-d0+d1)=some r):∀ (l l':List V) (us:List Value),tT sl d0 d1 l=some l'->VRL ρ l us->VRL ρ' l' us
 |[],_,_,h,hv=>by cases h;exact hv
 |v::l,l',us,h,hv=>by
  obtain⟨u,r,rfl,h1,h2⟩:=hv
  simp only[tT]at h
  split at h
  ·rename_i v1 e1
   split at h
   ·rename_i l1 e2;cases h;exact⟨u,r,rfl,yA hbk hm v v1 u e1 h1,nK hbk hm l l1 r e2 h2⟩
   ·cases h
  ·cases h
end
theorem HR.adopt(hh:HR G B ρ hp w){H new:List O}{ρ':Ren}{w':World}(hB:B<=w.heap.size)(hr':HR G w.heap.size ρ' (H++new) w')(hbel:Below w.heap.size w w')(hdata:new.all O.isData=true)(hsm:hp.length+new.length+1<ax)(hsm2:(H++new).length<ax) :
  ∃ ρ'',HR G B ρ'' (hp++new) w'/\ρ.le ρ''/\∀ b r,H.length<=b->b<ax->ρ' b=some r->ρ'' (b-H.length+hp.length)=some r:=by
 have hold:=hh.frame hbel.size (fun k hk=>hbel.block k hk)
 have hin:∀ i,hp.length<=i->i<hp.length+new.length->getO G (hp++new) i=new.getD (i-hp.length) .gone/\getO G (H++new) (i-hp.length+H.length)=new.getD (i-hp.length) .gone/\(new.getD (i-hp.length) .gone).isData=true:=by
  intro i h1 h2
  rw[aB (by omega),aB (by simp only[List.length_append]at hsm2;omega)]
  refine⟨by simp[List.getD,List.getElem?_append_right h1],by simp[List.getD,List.getElem?_append_right],?_⟩
  have hlt:i-hp.length<new.length:=by omega
  simp only[List.getD,List.getElem?_eq_getElem hlt,Option.getD_some]
  exact List.all_eq_true.1 hdata _ (List.getElem_mem hlt)
 have hout:∀ i x,ρ i=some x->getO G (hp++new) i=getO G hp i/\¬ (hp.length<=i/\i<hp.length+new.length):=by
  intro i x hx
  by_cases hi:i<ax
  ·have:i<hp.length:=by
    rcases Nat.lt_or_ge i hp.length with h|h
    ·exact h
    ·rw[hh.free i h hi]at hx;cases hx
   refine⟨?_,by omega⟩
   rw[aB hi,aB hi]
   simp[List.getD,List.getElem?_append_left this]
  ·exact⟨by rw[aA (by omega),aA (by omega)],by omega⟩
 let ρ2:Ren:=fun i=>if hp.length<=i/\i<hp.length+new.length then ρ' (i-hp.length+H.length)else ρ i
 have hle:ρ.le ρ2:=fun i x hx=>by
  show (if _ then _ else _)=_
  rw[if_neg (hout i x hx).2];exact hx
 have hcase:∀ i x,ρ2 i=some x->(hp.length<=i/\i<hp.length+new.length/\ρ' (i-hp.length+H.length)=some x)\/(ρ i=some x/\¬ (hp.length<=i/\i<hp.length+new.length)):=by
  intro i x hx
  by_cases h:hp.length<=i/\i<hp.length+new.length
  ·exact .inl ⟨h.1,h.2,by simpa only[ρ2,if_pos h]using hx⟩
  ·exact .inr ⟨by simpa only[ρ2,if_neg h]using hx,h⟩
 refine⟨ρ2,⟨?_,?_,fun b h1=>?_,?_,?_,?_,by simp;omega⟩,hle,?_⟩
 ·intro b r hr hal
  rcases hcase b r hr with⟨h1,h2,h3⟩|⟨h1,h2⟩
  ·obtain⟨e1,e2,e3⟩:=hin b h1 h2
   have:=hr'.blocks _ r h3 (by rw[e2,<-e1];exact hal)
   rw[e2]at this
   rw[e1]
   simp only[O.isData,Bool.and_eq_true]at e3
   exact this.data e3.1 _
  ·rw[(hout b r h1).1]at hal ⊢
   exact(hold.blocks b r h1 hal).mono hle
 ·intro b h1 h2
  simp only[List.length_append]at h1
  show (if _ then _ else _)=_
  rw[if_neg (by omega)]
  exact hh.free b (by omega) h2
 ·cases hx:ρ2 b with
  |none=>rfl
  |some x=>
   rcases hcase b x hx with⟨h2,h3,_⟩|⟨h2,_⟩
   ·obtain⟨e1,_,e3⟩:=hin b h2 h3
    rw[<-e1,h1]at e3;cases e3
   ·rw[(hout b x h2).1]at h1;rw[hh.rsv b h1]at h2;cases h2
 ·intro b r hr ho hp0
  rcases hcase b r hr with⟨h1,h2,h3⟩|⟨h1,h2⟩
  ·obtain⟨e1,e2,e3⟩:=hin b h1 h2
   have:=hr'.base _ r h3 (by rw[e2,<-e1];exact ho) hp0
   omega
  ·rw[(hout b r h1).1]at ho
   exact hh.base b r h1 ho hp0
 ·intro b b' r r' hr hr2 hal hp0 hp0' ho hne
  rcases hcase b r hr with⟨h1,h2,h3⟩|⟨h1,h2⟩
  ·obtain⟨e1,e2,e3⟩:=hin b h1 h2
   have hb1:=hr'.base _ r h3 (by rw[e2,<-e1];exact ho) hp0
   rcases hcase b' r' hr2 with⟨h1',h2',h3'⟩|⟨h1',h2'⟩
   ·obtain⟨e1',e2',_⟩:=hin b' h1' h2'
    exact hr'.apart _ _ r r' h3 h3' (by rw[e2',<-e1'];exact hal) hp0 hp0' (by rw[e2,<-e1];exact ho) (by omega)
   ·rw[(hout b' r' h1').1]at hal
    have:=(hh.blocks b' r' h1' hal).lt hp0'
    omega
  ·rw[(hout b r h1).1]at ho
   have hl1:=(hh.blocks b r h1 (fun e=>by rw[e]at ho;simp[O.own]at ho)).lt hp0
   rcases hcase b' r' hr2 with⟨h1',h2',h3'⟩|⟨h1',h2'⟩
   ·obtain⟨e1',e2',e3'⟩:=hin b' h1' h2'
    simp only[O.isData,Bool.and_eq_true]at e3'
    have:=hr'.base _ r' h3' (by rw[e2'];exact e3'.2) hp0'
    omega
   ·rw[(hout b' r' h1').1]at hal
    exact hh.apart b b' r r' h1 h1' hal hp0 hp0' ho hne
 ·intro g o hg
  obtain⟨r,h1,h2⟩:=hh.glob g o hg
  exact⟨r,hle _ _ h1,h2⟩
 ·intro b r h1 h2 hr
  have hb:b<(H++new).length:=by
   rcases Nat.lt_or_ge b (H++new).length with h|h
   ·exact h
   ·rw[hr'.free b h h2]at hr;cases hr
  simp only[List.length_append]at hb
  show (if _ then _ else _)=_
  rw[if_pos (by omega),show b-H.length+hp.length-hp.length+H.length=b by omega]
  exact hr
theorem eR{f:FuncId}{fn:Func}(hf:P.funcs[f]?=some fn)(hn:(fn.name == "runtime.NumGoroutine")=false) (hb:fn.body.isSome=true) (args:Array Value) (w:World) :
  (callFunc f args).run P w=.ok (.enter f args) w:=by
 cases hb2:fn.body with
 |none=>rw[hb2]at hb;cases hb
 |some c=>simp only[callFunc,Sem.run_bind,run_program,Result.andThen_ok,hf,hn,hb2];rfl
def tD(tmps:Array Value):ResultVar->Sem Value
 |.tmp t=>pure (tmps.getD t undef)
 |.cell a t=>do loadVar t (<-asAddr (tmps.getD a undef))
theorem iK(hE:E.Ok P)(ht:TR ρ tm a)(hh:HR E.G B ρ hp w):∀ (rs:List ResultVar) (l:List V),resV E tm hp rs=some l ->
  ∃ us:List Value,(rs.mapM (tD a.tmps)).run P w=.ok us w/\VRL ρ l us
 |[],l,h=>by cases h;exact⟨[],by simp,rfl⟩
 |.tmp t::r,l,h=>by
  simp only[resV]at h
  split at h
  ·rename_i l' hl
   cases h
   obtain⟨us,hr,hv⟩:=iK hE ht hh r l' hl
   exact⟨a.tmps.getD t undef::us,by simp[hr,tD],_,us,rfl,ht t,hv⟩
  ·cases h
 |.cell x t::r,l,h=>by
  simp only[resV]at h
  split at h
  ·rename_i v he
   split at h
   ·rename_i l' hl
    cases h
    obtain⟨us,hr,hv⟩:=iK hE ht hh r l' hl
    obtain⟨ad,u,hx,hu,hvu⟩:=ye hE hh.hv (ht x) he
    refine⟨u::us,?_,u,us,rfl,hvu,hv⟩
    simp only[List.mapM_cons,Sem.run_bind,tD,hx,asAddr,Sem.run_pure,Result.andThen_ok,hu,hr]
   ·cases h
  ·cases h
theorem hO(hE:E.Ok P)(ht:TR ρ tm a)(hh:HR E.G B ρ hp w){fn:Func}{l:List V}(h:resV E tm hp fn.results.toList=some l) :
  ∃ u,(results fn a.tmps).run P w=.ok u w/\VR ρ (bM l) u:=by
 obtain⟨us,hr,hv⟩:=iK hE ht hh _ _ h
 have hm:(fn.results.mapM (tD a.tmps)).run P w=.ok us.toArray w:=by
  rw[Array.mapM_eq_mapM_toList]
  simp[hr]
 have hres:results fn a.tmps=(do let vs <-fn.results.mapM (tD a.tmps);pure (if h:vs.size=1 then vs[0]else .tuple vs)):=rfl
 rw[hres,Sem.run_bind,hm,Result.andThen_ok,Sem.run_pure]
 refine⟨_,rfl,?_⟩
 cases l with
 |nil=>cases hv;exact⟨[],by simp,rfl⟩
 |cons v l=>
  obtain⟨u,r,rfl,h1,h2⟩:=hv
  cases l with
  |nil=>cases h2;simpa[bM]using h1
  |cons v2 l=>
   obtain⟨u2,r2,rfl,h3,h4⟩:=h2
   rw[dif_neg (by simp)]
   exact⟨u::u2::r2,rfl,u,_,rfl,h1,u2,r2,rfl,h3,h4⟩
theorem TR.init(ρ:Ren):∀ (l:List V) (us:List Value) (N:Nat),VRL ρ l us->TR ρ (cT 0 l) { tmps:=us.toArray++Array.replicate (N-us.length) undef,defers:=[] }:=by
 have key:∀ (l:List V) (us:List Value) (i t:Nat),VRL ρ l us->(∃ j v,t=i+j/\l[j]?=some v/\look (cT i l) t=v)\/look (cT i l) t=.junk:=by
  intro l
  induction l with
  |nil=>intro us i t _;exact .inr rfl
  |cons v l ih=>
   intro us i t h
   obtain⟨u,r,rfl,h1,h2⟩:=h
   simp only[cT,bx]
   by_cases e:i=t
   ·subst e;exact .inl ⟨0,v,rfl,rfl,by simp⟩
   ·rw[if_neg e]
    rcases ih r (i+1) t h2 with⟨j,v',hj,hv,hl⟩|hl
    ·exact .inl ⟨j+1,v',by omega,by simpa using hv,hl⟩
    ·exact .inr hl
 intro l us N h t
 rcases key l us 0 t h with⟨j,v,hj,hv,hl⟩|hl
 ·rw[hl]
  obtain rfl:t=j:=by omega
  obtain⟨u,hu,hvu⟩:=h.get t v hv
  have:t<us.length:=(List.getElem?_eq_some_iff.1 hu).1
  have he:(us.toArray++Array.replicate (N-us.length) undef).getD t undef=u:=by
   rw[Array.getD_eq_getD_getElem?,Array.getElem?_append_left (by simpa using this)]
   simp[hu]
  rw[he];exact hvu
 ·rw[hl];trivial
theorem dK{fn:Func}{tmps:Array Value}{R:Ending->World->Prop}{n:Nat}{S:Nat}:∀ (ms:List Nat) (w:World),GsOk (ms.map marked) w->ms.Nodup->(∀ d∈ms,S<=d) ->
  (∀ w',w'.heap.size=w.heap.size->w'.os=w.os->w'.tape=w.tape->w'.output=w.output->(∀ k,(∀ d∈ms,k≠d)->w'.heap[k]?=w.heap[k]?)->(∀ d∈ms,w'.heap[d]?=some (.deferred none))->∃ v,(results fn tmps).run P w'=.ok v w'/\R (.returned v) w') ->
  LeavesInM (Fr none) n P fn tmps R (ms.map mark) .returning w
 |[],w,_,_,_,h=>by
  obtain⟨v,h1,h2⟩:=h w rfl rfl rfl rfl (fun _ _=>rfl) (fun d hd=>by simp at hd)
  exact⟨v,h1,h2⟩
 |d::ms,w,hg,hnd,hS,h=>by
  refine⟨by simp,.inl ⟨d,w.putObj d (.deferred none),rfl,?_,?_⟩⟩
  ·have:=(hg (marked d) (by simp)).1
   exact run_takeDeferred this
  ·have hlt:d<w.heap.size:=(Array.getElem?_eq_some_iff.1 (hg (marked d) (by simp)).1).1
   obtain⟨hd,hnd⟩:=List.nodup_cons.1 hnd
   refine dK ms _ (fun p hp=>?_) hnd (fun x hx=>hS x (by simp[hx])) ?_
   ·have hp':p∈(d::ms).map marked:=by simp only[List.map_cons,List.mem_cons];exact .inr hp
    refine⟨?_,(hg p hp').2⟩
    obtain⟨x,hx,rfl⟩:=List.mem_map.1 hp
    rw[World.putObj_heap_other (fun e=>hd (by have:x=d:=e.symm▸rfl;exact this▸hx))]
    exact(hg _ hp').1
   ·intro w' h1 h2 h3 h4 h5 h6
    refine h w' (by simpa using h1) h2 h3 h4 (fun k hk=>?_) (fun x hx=>?_)
    ·rw[h5 k (fun x hx=>hk x (by simp[hx])),World.putObj_heap_other (hk d (by simp))]
    ·rcases List.mem_cons.1 hx with rfl|hx
     ·rw[h5 x (fun y hy e=>hd (e▸hy)),World.putObj_heap_same hlt]
     ·exact h6 x hx
theorem Bu(hm:P.follows .mixedOrders=true)(hE:E.Ok P)(hpg:PgOk E P)(hps:PsOk E P){hd:Hd}(hhd:HdOk E.G P hd){f:FuncId}{fn:Func}{c:Code}(hf:P.funcs[f]?=some fn)(hb:fn.body=some c){args:List V}{us:List Value}
  (hus:VRL ρ args us) (hlen:args.length<=fn.ntmps) (hh:HR E.G B ρ hp w) (hbel:Below B w0 w) (hB:B<=w0.heap.size) (hgs:GsOk gs w) {n:Nat} {k:Exit->Tm->List O->T} {Q:Exit->Tm->List O->Prop}
  (hs:sat E.G P Q (evC E hd hp.length fn.ntmps c (cT 0 args) hp k)) {R:V->List O->Prop}
  (hk:∀ e tm hp,sat E.G P Q (k e tm hp)->(e=.normal\/e=.ret)/\∃ l,resV E tm hp fn.results.toList=some l/\R (bM l) hp) :
  CallsIn (Fr none) n P f us.toArray w fun e w'=>∃ u,e=.returned u/\∃ v hp' ρ',VR ρ' v u/\HR E.G B ρ' hp' w'/\ρ.le ρ'/\Below B w0 w'/\GsOk gs w'/\R v hp':=by
 refine callsIn_of_wp_marks hf hb trivial ?_
 have hl:=hus.length
 have hrel:Rel E.G B w0 w.heap.size fn.ntmps [] gs ρ (cT 0 args) hp { tmps:=us.toArray++Array.replicate (fn.ntmps-us.toArray.size) undef,defers:=[] } w:=
  ⟨by simpa using TR.init ρ args us fn.ntmps hus,hh,hbel,by simp;omega,⟨[],rfl,fun p hp=>by simp at hp,by simp,by simp⟩,hgs,hB,hbel.size,Nat.le_refl _⟩
 refine wpIn_mono (dP hm hE hpg hps hhd c _ _ k Q hs B w0 w.heap.size [] gs ρ _ w n none (.inl rfl) hrel) ?_
 rintro e a' w' ⟨tm',hp',ρ',h',hl',hs'⟩
 have hl':ρ.le ρ':=fun b r e=>hl' b r (by
  by_cases h1:b<hp.length
  ·exact .inl h1
  ·by_cases h2:ax<=b
   ·exact .inr h2
   ·rw[hh.free b (by omega) (by omega)]at e;cases e) e
 obtain⟨he,l,hres,hR⟩:=hk _ _ _ hs'
 have hpost:LeavesInM (Fr none) n P fn a'.tmps (fun e w'=>∃ u,e=.returned u/\∃ v hp' ρ',VR ρ' v u/\HR E.G B ρ' hp' w'/\ρ.le ρ'/\Below B w0 w'/\GsOk gs w'/\R v hp') a'.defers .returning w':=by
  obtain⟨ms,hd1,hd2,hd3,hd4⟩:=h'.df
  rw[hd1,List.append_nil]
  refine dK (S:=w.heap.size) ms w' hd2 hd4 hd3 ?_
  intro w2 h1 h2 h3 h4 h5 h6
  have hdm:∀ d∈ms,w'.heap[d]?=some (.deferred (some [])):=fun d hd=>(hd2 (marked d) (List.mem_map.2 ⟨d,hd,rfl⟩)).1
  have hhr:=h'.hr.cellsSame (w':=w2) (fun k ob hk hob=>by
   rw[h5 k (fun d hd e=>by subst e;rw[hdm k hd]at hk;cases hk;cases hob)];exact hk) (by omega)
  obtain⟨u,hrun,hv⟩:=hO hE h'.tr hhr hres
  refine⟨u,hrun,u,rfl,_,hp',ρ',hv,hhr,hl',?_,?_,hR⟩
  ·refine h'.bel.trans ⟨h2,h3,h4,by omega,fun k hk=>h5 k fun d hd e=>?_⟩
   have:=hd3 d hd
   have:=hbel.size
   omega
  ·intro p hp
   refine⟨?_,(h'.gs p hp).2⟩
   rw[h5 p.1 (fun d hd e=>?_)]
   ·exact(h'.gs p hp).1
   ·have:=(Array.getElem?_eq_some_iff.1 (hgs p hp).1).1
    have:=hd3 d hd
    omega
 rcases he with rfl|rfl<;>exact hpost
theorem wu(hE:E.Fn P){f:FuncId}{caps args:List V}{aa:List V}{hh0:List O}{v v':V}{new:List O}(hcan:dA E hp (joinA f args caps) []=some (aa,hh0)){c:Bool}(hpf:E.pf (idF f) aa hh0=some (c,v,new))(hcc:c=true)
  (hsh:V.shift (slsL (joinA f args caps)) hh0.length hp.length v=some v') (hdata:new.all O.isData=true) (hlen1:hp.length+new.length+1<ax) (hlen2:hh0.length+new.length<ax) :
  eP E.G P (.fn f caps) args hp fun x hp'=>x=v'/\hp'=hp++new:=by
 intro B w0 gs ρ w uf us n ro hh hbel hB hgs hfv hav
 obtain⟨cus,rfl,hcv⟩:=hfv
 have hall:=VRL.joinA f hav hcv
 obtain⟨cu,au,hof,hau⟩:=NQ f cus us
 have hof:=hof P w
 obtain⟨⟨fn,hf1,hf2,hf3,_⟩,hsound⟩:=hE.pf _ _ _ _ _ _ hpf hcc
 have hinv:(invoke (.fn (.func (idF f)) cu) au).run P w=.ok (.enter (idF f) (joinA f us cus).toArray) w:=by
  simp only[invoke,hau]
  exact eR hf1 hf2 hf3 _ _
 obtain⟨ρ1,_,hc1,hv1,hbk1⟩:=jF hh (C:=w.heap.size) (joinA f args caps) [] _ _ ρ.globs (joinA f us cus) hcan (by omega) hall (hh.globs _)
 refine⟨_,hof,.inl ⟨idF f,_,hinv,callsIn_wide.2 ((hsound ρ1 (joinA f us cus) w hc1.hr hv1).mono ?_)⟩⟩
 rintro e w' ⟨u,ρ2,rfl,hv2,hh2,hl2,hb2⟩
 have hBw:B<=w.heap.size:=Nat.le_trans hB hbel.size
 obtain⟨ρ3,hh3,hl3,hm3⟩:=hh.adopt hBw hh2 hb2 hdata (by omega) (by simp only[List.length_append];omega)
 refine⟨u,rfl,v',_,ρ3,yA ⟨_,_,ρ1,rfl,⟨hbk1.1,fun i b k len cap h=>by obtain⟨r,a1,a2,a3⟩:=hbk1.2 i b k len cap h;exact⟨r,hl3 _ _ a1,a2,a3⟩⟩,hl2⟩ hm3 _ _ _ hsh hv2,hh3,hl3,hbel.trans (hb2.mono hBw),?_,rfl,rfl⟩
 intro p hp
 have hlt:=(Array.getElem?_eq_some_iff.1 (hgs p hp).1).1
 exact⟨(hb2.block _ hlt).trans (hgs p hp).1,(hgs p hp).2⟩
theorem eP.mono{fv:V}{args:List V}{R R':V->List O->Prop}(h:eP G P fv args hp R)(hr:∀ v hp',R v hp'->R' v hp'):eP G P fv args hp R':=by
 intro B w0 gs ρ w uf us n ro hh hbel hB hgs hfv hav
 obtain⟨d,h1,h2⟩:=h B w0 gs ρ w uf us n ro hh hbel hB hgs hfv hav
 refine⟨d,h1,?_⟩
 rcases h2 with⟨f,as,h3,h4⟩|⟨l,f,t,x,y,h3,h4⟩
 ·exact .inl ⟨f,as,h3,h4.mono fun e w' ⟨u,e1,v,hp',ρ',a1,a2,a3,a4,a5,a6⟩=>⟨u,e1,v,hp',ρ',a1,a2,a3,a4,a5,hr _ _ a6⟩⟩
 ·exact .inr ⟨l,f,t,x,y,h3,h4.mono fun e w' ⟨u,e1,v,hp',ρ',a1,a2,a3,a4,a5,a6⟩=>⟨u,e1,v,hp',ρ',a1,a2,a3,a4,a5,hr _ _ a6⟩⟩
theorem gj(hE:E.Fn P):PgOk E P:=fun _ _ _ _ _ _ _ _ _ _ hcan hpf hc hsh hdata h1 h2=>wu hE hcan hpf hc hsh hdata h1 h2
theorem eN(hE:E.Fn P):PsOk E P:=by
 refine⟨?_,hE.pn⟩
 intro hp f args c v h hc
 unfold dV at h
 simp only[eE]at h
 split at h
 ·rename_i g caps
  split at h
  ·rename_i a h0 hcan
   split at h
   ·rename_i c0 v0 hpf
    split at h
    ·rename_i hl
     simp only[Bool.and_eq_true]at hl
     have h1:=aM hl.1
     have h2:=aM hl.2
     split at h
     ·rename_i v1 hv1
      cases h
      refine(wu hE hcan hpf hc hv1 rfl (by simpa using h2) (by simpa using h1)).mono ?_
      rintro x hp' ⟨rfl,rfl⟩
      exact⟨rfl,by simp⟩
     ·cases h
    ·cases h
   ·cases h
  ·cases h
 ·cases h
theorem cG(hE:E.Fn P):∀ n,HdOk E.G P (hdl E n):=by
 intro n
 induction n with
 |zero=>exact fun fv args hp k Q hs=>hs.elim
 |succ m ih=>
  intro fv args hp k Q hs
  obtain⟨f,caps,rfl⟩:∃ f caps,fv=.fn f caps:=by
   cases fv<;>first|exact⟨_,_,rfl⟩|exact hs.elim
  simp only[hdl,eE]at hs
  intro B w0 gs ρ w uf us n ro hh hbel hB hgs hfv hav
  obtain⟨cus,rfl,hcv⟩:=hfv
  have hall:=VRL.joinA f hav hcv
  obtain⟨cu,au,hof,hau⟩:=NQ f cus us
  have hof:=hof P w
  have hinv:∀ fn,P.funcs[idF f]?=some fn->(fn.name == "runtime.NumGoroutine")=false->fn.body.isSome=true->(invoke (.fn (.func (idF f)) cu) au).run P w=.ok (.enter (idF f) (joinA f us cus).toArray) w:=by
   intro fn h1 h2 h3
   simp only[invoke,hau]
   exact eR h1 h2 h3 _ _
  split at hs
  ·-- a contract
   rename_i c0 d0 v new heq
   split at heq
   ·rename_i aa hh0 hcan
    split at heq
    ·rename_i cc v0 new0 hpf
     cases heq
     split at hs
     ·rename_i v' hsh hdata hlen
      obtain⟨hcc,hs⟩:=hs
      rw[vl,gv]at hs
      simp only[Bool.and_eq_true]at hlen
      have hlen1:=aM hlen.1
      have hlen2:=aM hlen.2
      refine((wu hE hcan hpf hcc hsh hdata hlen1 hlen2).mono ?_) B w0 gs ρ w _ us n ro hh hbel hB hgs ⟨cus,rfl,hcv⟩ hav
      rintro x hp' ⟨rfl,rfl⟩
      exact hs
     ·exact hs.elim
    ·cases heq
   ·cases heq
  ·split at hs
   ·rename_i fn hinl
    obtain⟨hf1,hf2⟩:=hE.inl _ _ hinl
    split at hs
    ·rename_i c hbody
     split at hs
     ·rename_i hlen
      have hlen:=Nat.le_of_ble_eq_true hlen
      refine⟨_,hof,.inl ⟨idF f,_,hinv fn hf1 hf2 (by rw[hbody];rfl),?_⟩⟩
      refine Bu hE.mixed hE.ok (gj hE) (eN hE) ih hf1 hbody hall hlen hh hbel hB hgs hs (R:=fun v hp'=>sat E.G P Q (k v hp')) ?_
      intro e tm hp' hq
      cases e with
      |normal=>
       dsimp only at hq
       split at hq
       ·rename_i l hl;exact⟨.inl rfl,l,hl,hq⟩
       ·exact hq.elim
      |ret=>
       dsimp only at hq
       split at hq
       ·rename_i l hl;exact⟨.inr rfl,l,hl,hq⟩
       ·exact hq.elim
      |_=>exact hq.elim
     ·exact hs.elim
    ·exact hs.elim
   ·exact hs.elim
theorem mN{l:List Nat}(h:l.Nodup){i j:Nat}(hi:i<l.length)(hj:j<l.length)(e:l[i]=l[j]):i=j:=by
 rcases Nat.lt_trichotomy i j with h1|h1|h1
 ·exact absurd e (List.pairwise_iff_getElem.1 h i j hi hj h1)
 ·exact h1
 ·exact absurd e.symm (List.pairwise_iff_getElem.1 h j i hj hi h1)
theorem HR.take{H:List O}(hh:HR G B ρ H w){hpc:List O}{ρ':Ren}{w':World}(hBw:B<=w.heap.size)(hr':HR G w.heap.size ρ' hpc w')(hbel:Below w.heap.size w w')(bs:List Nat)(hnd:bs.Nodup)
  (hbs:∀ b∈bs,b<ax/\(hpc.getD b .gone).isData=true) (hsm:H.length+bs.length+1<ax) :
  ∃ ρ'',HR G B ρ'' (H++bs.map (hpc.getD · .gone)) w'/\ρ.le ρ''/\∀ i b r,bs[i]?=some b->ρ' b=some r->ρ'' (H.length+i)=some r:=by
 have hold:=hh.frame hbel.size (fun k hk=>hbel.block k hk)
 have hin:∀ i,H.length<=i->i<H.length+bs.length->∃ b,bs[i-H.length]?=some b/\getO G (H++bs.map (hpc.getD · .gone)) i=getO G hpc b/\(getO G hpc b).isData=true:=by
  intro i h1 h2
  have hlt:i-H.length<bs.length:=by omega
  have hmem:=List.getElem_mem hlt
  refine⟨bs[i-H.length],by simp[hlt],?_,?_⟩
  ·rw[aB (by omega),aB (hbs _ hmem).1]
   simp[List.getD,List.getElem?_append_right h1,hlt]
  ·rw[aB (hbs _ hmem).1];exact(hbs _ hmem).2
 have hout:∀ i x,ρ i=some x->getO G (H++bs.map (hpc.getD · .gone)) i=getO G H i/\¬ (H.length<=i/\i<H.length+bs.length):=by
  intro i x hx
  by_cases hi:i<ax
  ·have:i<H.length:=by
    rcases Nat.lt_or_ge i H.length with h|h
    ·exact h
    ·rw[hh.free i h hi]at hx;cases hx
   refine⟨?_,by omega⟩
   rw[aB hi,aB hi]
   simp[List.getD,List.getElem?_append_left this]
  ·exact⟨by rw[aA (by omega),aA (by omega)],by omega⟩
 let ρ2:Ren:=fun i=>if H.length<=i/\i<H.length+bs.length then(bs[i-H.length]?).bind ρ' else ρ i
 have hle:ρ.le ρ2:=fun i x hx=>by
  show (if _ then _ else _)=_
  rw[if_neg (hout i x hx).2];exact hx
 have hcase:∀ i x,ρ2 i=some x->(H.length<=i/\i<H.length+bs.length/\(bs[i-H.length]?).bind ρ'=some x)\/(ρ i=some x/\¬ (H.length<=i/\i<H.length+bs.length)):=by
  intro i x hx
  by_cases h:H.length<=i/\i<H.length+bs.length
  ·exact .inl ⟨h.1,h.2,by simpa only[ρ2,if_pos h]using hx⟩
  ·exact .inr ⟨by simpa only[ρ2,if_neg h]using hx,h⟩
 refine⟨ρ2,⟨?_,?_,fun b h1=>?_,?_,?_,?_,by simp;omega⟩,hle,?_⟩
 ·intro b r hr hal
  rcases hcase b r hr with⟨h1,h2,h3⟩|⟨h1,h2⟩
  ·obtain⟨b0,e0,e1,e3⟩:=hin b h1 h2
   rw[e0]at h3
   have:=hr'.blocks b0 r h3 (by rw[<-e1];exact hal)
   rw[e1]
   simp only[O.isData,Bool.and_eq_true]at e3
   exact this.data e3.1 _
  ·rw[(hout b r h1).1]at hal ⊢
   exact(hold.blocks b r h1 hal).mono hle
 ·intro b h1 h2
  simp only[List.length_append,List.length_map]at h1
  show (if _ then _ else _)=_
  rw[if_neg (by omega)]
  exact hh.free b (by omega) h2
 ·cases hx:ρ2 b with
  |none=>rfl
  |some x=>
   rcases hcase b x hx with⟨h2,h3,_⟩|⟨h2,_⟩
   ·obtain⟨b0,_,e1,e3⟩:=hin b h2 h3
    rw[<-e1,h1]at e3;cases e3
   ·rw[(hout b x h2).1]at h1;rw[hh.rsv b h1]at h2;cases h2
 ·intro b r hr ho hp0
  rcases hcase b r hr with⟨h1,h2,h3⟩|⟨h1,h2⟩
  ·obtain⟨b0,e0,e1,e3⟩:=hin b h1 h2
   rw[e0]at h3
   have:=hr'.base b0 r h3 (by rw[<-e1];exact ho) hp0
   omega
  ·rw[(hout b r h1).1]at ho
   exact hh.base b r h1 ho hp0
 ·intro b b' r r' hr hr2 hal hp0 hp0' ho hne
  rcases hcase b r hr with⟨h1,h2,h3⟩|⟨h1,h2⟩
  ·obtain⟨b0,e0,e1,e3⟩:=hin b h1 h2
   rw[e0]at h3
   have hb1:=hr'.base b0 r h3 (by rw[<-e1];exact ho) hp0
   rcases hcase b' r' hr2 with⟨h1',h2',h3'⟩|⟨h1',h2'⟩
   ·obtain⟨b0',e0',e1',_⟩:=hin b' h1' h2'
    rw[e0']at h3'
    refine hr'.apart b0 b0' r r' h3 h3' (by rw[<-e1'];exact hal) hp0 hp0' (by rw[<-e1];exact ho) (fun e=>?_)
    subst e
    have hi1:b-H.length<bs.length:=by omega
    have hi2:b'-H.length<bs.length:=by omega
    rw[List.getElem?_eq_getElem hi1,Option.some.injEq]at e0
    rw[List.getElem?_eq_getElem hi2,Option.some.injEq]at e0'
    have:=mN hnd hi1 hi2 (e0.trans e0'.symm)
    omega
   ·rw[(hout b' r' h1').1]at hal
    have:=(hh.blocks b' r' h1' hal).lt hp0'
    omega
  ·rw[(hout b r h1).1]at ho
   have hl1:=(hh.blocks b r h1 (fun e=>by rw[e]at ho;simp[O.own]at ho)).lt hp0
   rcases hcase b' r' hr2 with⟨h1',h2',h3'⟩|⟨h1',h2'⟩
   ·obtain⟨b0',e0',e1',e3'⟩:=hin b' h1' h2'
    rw[e0']at h3'
    simp only[O.isData,Bool.and_eq_true]at e3'
    have:=hr'.base b0' r' h3' e3'.2 hp0'
    omega
   ·rw[(hout b' r' h1').1]at hal
    exact hh.apart b b' r r' h1 h1' hal hp0 hp0' ho hne
 ·intro g o hg
  obtain⟨r,h1,h2⟩:=hh.glob g o hg
  exact⟨r,hle _ _ h1,h2⟩
 ·intro i b r hi hr
  have hlt:i<bs.length:=(List.getElem?_eq_some_iff.1 hi).1
  show (if _ then _ else _)=_
  rw[if_pos (by omega),show H.length+i-H.length=i by omega,hi]
  exact hr
def idx(b:Nat):List Nat->Option Nat
 |[]=>none
 |x::l=>match Nat.beq x b with
  |true=>some 0
  |false=>match idx b l with|some i=>some (i+1)|none=>none
theorem yz{b:Nat}:∀ (l:List Nat) (i:Nat),idx b l=some i->l[i]?=some b
 |[],i,h=>by cases h
 |x::l,i,h=>by
  simp only[idx]at h
  split at h
  ·rename_i hb;cases h;simp[Nat.eq_of_beq_eq_true hb]
  ·split at h
   ·rename_i j hj;cases h;simpa using yz l j hj
   ·cases h
mutual
def V.out(bs:List Nat)(d:Nat):V->Option V
 |.sl b k len cap=>match idx b bs with|some i=>some (.sl (d+i) k len cap)|none=>none
 |.lit b=>some (.bool b)
 |.bool b=>some (.bool b)
 |.int k n=>some (.int k n)
 |.str s=>some (.str s)
 |.nils=>some .nils
 |.agg l=>match outL bs d l with|some l=>some (.agg l)|none=>none
 |.tup l=>match outL bs d l with|some l=>some (.tup l)|none=>none
 |_=>none
def outL(bs:List Nat)(d:Nat):List V->Option (List V)
 |[]=>some []
 |v::l=>match V.out bs d v with
  |some v=>match outL bs d l with
   |some l=>some (v::l)
   |none=>none
  |none=>none
end
mutual
theorem AL{bs:List Nat}{d:Nat}{ρ ρ':Ren}(hm:∀ i b r,bs[i]?=some b->ρ b=some r->ρ' (d+i)=some r):∀ (v v':V) (u:Value),V.out bs d v=some v'->VR ρ v u->VR ρ' v' u
 |.sl b k len cap,v',u,h,hv=>by
  simp only[V.out]at h
  split at h
  ·rename_i i hi
   cases h
   obtain⟨r,hr,x⟩:=hv
   exact⟨r,hm i b r (yz bs i hi) hr,x⟩
  ·cases h
 |.agg l,v',u,h,hv=>by
  simp only[V.out]at h
  split at h
  ·rename_i l' hl;cases h;obtain⟨us,rfl,hus⟩:=hv;exact⟨us,rfl,wL hm l l' us hl hus⟩
  ·cases h
 |.tup l,v',u,h,hv=>by
  simp only[V.out]at h
  split at h
  ·rename_i l' hl;cases h;obtain⟨us,rfl,hus⟩:=hv;exact⟨us,rfl,wL hm l l' us hl hus⟩
  ·cases h
 |.lit _,_,_,h,hv=>by cases h;exact hv
 |.bool _,_,_,h,hv=>by cases h;exact hv
 |.int _ _,_,_,h,hv=>by cases h;exact hv
 |.str _,_,_,h,hv=>by cases h;exact hv
 |.nils,_,_,h,hv=>by cases h;exact hv
 |.ptr _ _ _,_,_,h,_=>by cases h
 |.nilp,_,_,h,_=>by cases h
 |.fn _ _,_,_,h,_=>by cases h
 |.nilf,_,_,h,_=>by cases h
 |.yl _,_,_,h,_=>by cases h
 |.nili,_,_,h,_=>by cases h
 |.when _ _,_,_,h,_=>by cases h
 |.junk,_,_,h,_=>by cases h
theorem wL{bs:List Nat}{d:Nat}{ρ ρ':Ren}(hm:∀ i b r,bs[i]?=some b->ρ b=some r->ρ' (d+i)=some r):∀ (l l':List V) (us:List Value),outL bs d l=some l'->VRL ρ l us->VRL ρ' l' us
 |[],_,_,h,hv=>by cases h;exact hv
 |v::l,l',us,h,hv=>by
  obtain⟨u,r,rfl,h1,h2⟩:=hv
  simp only[outL]at h
  split at h
  ·rename_i v1 e1
   split at h
   ·rename_i l1 e2;cases h;exact⟨u,r,rfl,AL hm v v1 u e1 h1,wL hm l l1 r e2 h2⟩
   ·cases h
  ·cases h
end
def Fin(E:Env)(fn:Func)(d:Nat)(v:V)(N:List O):Exit->Tm->List O->Prop:=fun e tm hp=>
 (e=.normal\/e=.ret)/\∃ l bs,resV E tm hp fn.results.toList=some l/\V.out bs d (bM l)=some v/\bs.Nodup/\(∀ b∈bs,b<ax/\(hp.getD b .gone).isData=true)/\N=bs.map (hp.getD · .gone)/\d+bs.length+1<ax
theorem av(hE:E.Fn P)(n:Nat){f:FuncId}{fn:Func}{c:Code}(hf:P.funcs[f]?=some fn)(hb:fn.body=some c){args:List V}{H:List O}{v:V}{N:List O}(hlen:Nat.ble args.length fn.ntmps=true)
  (hs:sat E.G P (Fin E fn H.length v N) (evC E (hdl E n) H.length fn.ntmps c (cT 0 args) H .ret)):ay E.G P f args H v N:=by
 intro ρ us w hh hus
 have hbody:=Bu (gs:=[]) (n:=0) hE.mixed hE.ok (gj hE) (eN hE) (cG hE n) hf hb hus (Nat.le_of_ble_eq_true hlen) hh (Below.refl _ w) (Nat.le_refl _) (fun p hp=>by simp at hp) hs
  (R:=fun v0 hp=>∃ bs,V.out bs H.length v0=some v/\bs.Nodup/\(∀ b∈bs,b<ax/\(hp.getD b .gone).isData=true)/\N=bs.map (hp.getD · .gone)/\H.length+bs.length+1<ax)
  (fun e tm hp ⟨h1,l,bs,h2,h3⟩=>⟨h1,l,h2,bs,h3⟩)
 refine(callsIn_wide.1 hbody).mono ?_
 rintro e w' ⟨u,rfl,v0,hp',ρ',hv,hr',hl',hb',_,bs,h1,h2,h3,rfl,h5⟩
 obtain⟨ρ2,hr2,hl2,hm2⟩:=hh.take (Nat.le_refl _) hr' hb' bs h2 h3 h5
 exact⟨u,ρ2,rfl,AL hm2 _ _ _ h1 hv,hr2,hl2,hb'⟩
end
end
end Go.Ab
namespace Go.Ab
def lz:List V->List Value->Bool
 |[],[]=>true
 |.int k n::l,.int k' n'::r=>decide (k=k')&&decide (n=n')&&lz l r
 |.lit b::l,.bool b'::r=>(b==b')&&lz l r
 |.str []::l,.string s::r=>decide (s.size=0)&&lz l r
 |.nils::l,.slice none 0 0::r=>lz l r
 |.nilp::l,.pointer none::r=>lz l r
 |.nilf::l,.nilFunc::r=>lz l r
 |.nili::l,.nilIface::r=>lz l r
 |.junk::l,_::r=>lz l r
 |_,_=>false
theorem HT{ρ:Ren}:∀ (l:List V) (us:List Value),lz l us=true->VRL ρ l us:=by
 intro l
 induction l with
 |nil=>intro us h;cases us with|nil=>rfl|cons u r=>simp[lz]at h
 |cons v l ih=>
  intro us h
  unfold lz at h
  split at h<;>(try cases h)<;>(try (rename_i heq;cases heq))
  all_goals (try simp only[Bool.and_eq_true,decide_eq_true_eq,beq_iff_eq]at h)
  ·obtain⟨⟨rfl,rfl⟩,h⟩:=h;exact⟨_,_,rfl,rfl,ih _ h⟩
  ·obtain⟨rfl,h⟩:=h;exact⟨_,_,rfl,rfl,ih _ h⟩
  ·obtain⟨h1,h⟩:=h
   rename_i s r
   refine⟨_,_,rfl,?_,ih _ h⟩
   show Value.string s=_
   congr 1
   cases s with|mk d=>simp only[ByteArray.size]at h1;congr 1;exact Array.eq_empty_of_size_eq_zero h1
  ·exact⟨_,_,rfl,rfl,ih _ h⟩
  ·exact⟨_,_,rfl,rfl,ih _ h⟩
  ·exact⟨_,_,rfl,rfl,ih _ h⟩
  ·exact⟨_,_,rfl,rfl,ih _ h⟩
  ·exact⟨_,_,rfl,trivial,ih _ h⟩
def kdB(P:Program)(t:TypeId):TyK->Bool
 |.int k=>match P.underlying t with|some (.int k')=>decide (k=k')|_=>false
 |.bool=>match P.underlying t with|some .bool=>true|_=>false
 |.str=>match P.underlying t with|some .string=>true|_=>false
 |.slice e=>match P.underlying t with|some (.slice e')=>decide (e=e')|_=>false
 |.array n e=>match P.underlying t with|some (.array n' e')=>decide (n=n')&&decide (e=e')|_=>false
 |.struct offs=>match P.underlying t with
  |some (.struct fs)=>decide (fs.toList.map (fun f=>(f.offset,f.type))=offs)&&decide (fs.toList.mapM (fun f=>(P.info? f.type).map fun i=>(f.offset,i.size))=some (offs.map fun p=>(p.1,P.cellsOf p.2)))&&(!P.stoodInHeld t&&(!P.eqGuardType P.depth t&&fs.toList.all (fun f=>f.name != "_")))
  |_=>false
 |.func=>match P.underlying t with|some (.func _ _ _)=>true|_=>false
 |.other=>match P.underlying t with|some (.struct _)=>false|some (.array _ _)=>false|some _=>true|none=>false
def tyB(P:Program)(t:TypeId)(T:Ty):Bool:=
 match P.info? t with
 |some i=>decide (T.zero.length=T.sz)&&decide (i.size=T.sz)&&decide (i.bytes=T.by_)&&(match i.zero with|some z=>lz T.zero z.cells.toList|none=>false)&&kdB P t T.kd
 |none=>false
theorem Ni{P:Program}{t:TypeId}{k:TyK}:kdB P t k=true->match k with
  |.int k=>P.underlying t=some (.int k)
  |.bool=>P.underlying t=some .bool
  |.str=>P.underlying t=some .string
  |.slice e=>P.underlying t=some (.slice e)
  |.array n e=>P.underlying t=some (.array n e)
  |.struct offs=>∃ fs,P.underlying t=some (.struct fs)/\fs.toList.map (fun f=>(f.offset,f.type))=offs /\
    fs.toList.mapM (fun f=>(P.info? f.type).map fun i=>(f.offset,i.size))=some (offs.map fun p=>(p.1,P.cellsOf p.2)) /\
    P.stoodInHeld t=false/\P.eqGuardType P.depth t=false/\fs.toList.all (fun f=>f.name != "_")=true
  |.func=>∃ a b c,P.underlying t=some (.func a b c)
  |.other=>∃ d,P.underlying t=some d/\(match d with|.struct _|.array _ _=>false|_=>true)=true:=by
 intro h
 cases hu:P.underlying t with
 |none=>cases k<;>simp[kdB,hu]at h
 |some d=>
  cases k<;>simp only[kdB,hu]at h<;>cases d<;>simp_all
theorem NC{P:Program}{t:TypeId}{T:Ty}(h:tyB P t T=true):TyOk P t T:=by
 unfold tyB at h
 split at h
 ·rename_i i hi
  simp only[Bool.and_eq_true,decide_eq_true_eq]at h
  obtain⟨⟨⟨⟨h0,h1⟩,h2⟩,h3⟩,h4⟩:=h
  split at h3
  ·rename_i z hz
   exact⟨h0,⟨i,z,hi,h1,h2,hz,fun ρ=>HT _ _ h3⟩,Ni h4⟩
  ·cases h3
 ·cases h
theorem Cc{α:Type}{l:List (Nat×α)}{t:Nat}{x:α}(h:assoc l t=some x):(t,x)∈l:=by
 induction l with
 |nil=>cases h
 |cons p l ih=>
  obtain⟨i,v⟩:=p
  simp only[assoc]at h
  split at h
  ·rename_i hb;cases h;rw[Nat.eq_of_beq_eq_true hb];simp
  ·exact List.mem_cons_of_mem _ (ih h)
theorem Env.ok_of{E:Env}{P:Program}(h:E.ty.all (fun p=>tyB P p.1 p.2)=true):E.Ok P:=
 ⟨fun _ _ ht=>NC (List.all_eq_true.1 h _ (Cc ht))⟩
end Go.Ab
namespace Go.Ab
open Go.RowKit
section
variable{G:List O}{P:Program}{B:Nat}{w0:World}{S:Nat}{N:Nat}{D:List Deferred}{gs:List (Nat×Obj)}{ρ:Ren}{tm:Tm}{hp:List O}{a:Act}{w:World}
mutual
def V.lim(n:Nat):V->Bool
 |.ptr b _ _=>Nat.blt b n||Nat.ble ax b
 |.sl b _ _ _=>Nat.blt b n||Nat.ble ax b
 |.yl l=>Nat.blt l n
 |.fn _ l=>limL n l
 |.agg l=>limL n l
 |.tup l=>limL n l
 |.when _ v=>V.lim n v
 |_=>true
def limL(n:Nat):List V->Bool
 |[]=>true
 |v::l=>V.lim n v&&limL n l
end
def O.lim(n:Nat):O->Bool
 |.cells _ l=>limL n l
 |.vals _ _ rs=>rs.all (limL n)
 |_=>true
theorem yt{n b:Nat}(h:(Nat.blt b n||Nat.ble ax b)=true):b<n\/ax<=b:=by
 simp only[Bool.or_eq_true]at h
 exact h.imp aM Nat.le_of_ble_eq_true
mutual
theorem VR.leB{n:Nat}{ρ ρ':Ren}(hl:ρ.leB n ρ'):∀ (v:V) (u:Value),V.lim n v=true->VR ρ v u->VR ρ' v u
 |.ptr _b _ _,_,h,⟨r,e,x⟩=>⟨r,hl _ _ (yt h) e,x⟩
 |.sl _b _ _ _,_,h,⟨r,e,x⟩=>⟨r,hl _ _ (yt h) e,x⟩
 |.yl _l,_,h,⟨r,e,x⟩=>⟨r,hl _ _ (.inl (aM h)) e,x⟩
 |.fn _ l,_,h,⟨us,e,x⟩=>⟨us,e,VRL.leB hl l us h x⟩
 |.agg l,_,h,⟨us,e,x⟩=>⟨us,e,VRL.leB hl l us h x⟩
 |.tup l,_,h,⟨us,e,x⟩=>⟨us,e,VRL.leB hl l us h x⟩
 |.when _ v,u,h,e=>⟨fun g=>VR.leB hl v u h (e.1 g),e.2⟩
 |.lit _,_,_,e=>e
 |.bool _,_,_,e=>e
 |.int _ _,_,_,e=>e
 |.str _,_,_,e=>e
 |.nilp,_,_,e=>e
 |.nils,_,_,e=>e
 |.nilf,_,_,e=>e
 |.nili,_,_,e=>e
 |.junk,_,_,_=>trivial
theorem VRL.leB{n:Nat}{ρ ρ':Ren}(hl:ρ.leB n ρ'):∀ (l:List V) (us:List Value),limL n l=true->VRL ρ l us->VRL ρ' l us
 |[],_,_,e=>e
 |v::l,_,h,⟨u,r,e,x,y⟩=>by
  simp only[limL,Bool.and_eq_true]at h
  exact⟨u,r,e,VR.leB hl v u h.1 x,VRL.leB hl l r h.2 y⟩
end
theorem yx{n:Nat}:∀ {l:List V},limL n l=true->∀ v∈l,V.lim n v=true
 |[],_,v,hv=>by simp at hv
 |x::l,h,v,hv=>by
  simp only[limL,Bool.and_eq_true]at h
  rcases List.mem_cons.1 hv with rfl|hv
  ·exact h.1
  ·exact yx h.2 v hv
theorem FG(tm:Tm)(t:Nat):look tm t=.junk\/look tm t∈tm.map (·.2):=by
 induction tm with
 |nil=>exact .inl rfl
 |cons p l ih=>
  obtain⟨i,v⟩:=p
  rw[bx]
  by_cases e:i=t
  ·rw[if_pos e];exact .inr (by simp)
  ·rw[if_neg e];exact ih.imp id fun h=>by simp only[List.map_cons,List.mem_cons];exact .inr h
theorem TR.leB{n:Nat}{ρ':Ren}(h:TR ρ tm a)(hl:ρ.leB n ρ')(hm:limL n (tm.map (·.2))=true):TR ρ' tm a:=fun t=>by
 rcases FG tm t with e|e
 ·rw[e];trivial
 ·exact VR.leB hl _ _ (yx hm _ e) (h t)
def dJ(tm:Tm):List Nat->Tm
 |[]=>[]
 |t::r=>(t,look tm t)::dJ tm r
theorem TR.keep(h:TR ρ tm a)(ts:List Nat):TR ρ (dJ tm ts) a:=fun t=>by
 induction ts with
 |nil=>trivial
 |cons x r ih=>
  rw[dJ,bx]
  by_cases e:x=t
  ·subst e;rw[if_pos rfl];exact h x
  ·rw[if_neg e];exact ih
def Ent(G:List O)(μ:Nat)(tm:Tm)(hp:List O)(tm':Tm)(hp':List O):Prop:=
 ∀ B ρ a w,TR ρ tm a->HR G B ρ hp w->∃ ρ',ρ.leB μ ρ'/\TR ρ' tm' a/\HR G B ρ' hp' w
theorem Ent.refl(μ:Nat)(tm:Tm)(hp:List O):Ent G μ tm hp tm hp:=fun _ ρ _ _ h1 h2=>⟨ρ,Ren.leB_refl μ ρ,h1,h2⟩
theorem Ent.trans{μ:Nat}{tm1 tm2 tm3:Tm}{hp1 hp2 hp3:List O}(h:Ent G μ tm1 hp1 tm2 hp2)(k:Ent G μ tm2 hp2 tm3 hp3):Ent G μ tm1 hp1 tm3 hp3:=fun B ρ a w h1 h2=>by
 obtain⟨ρ1,l1,t1,r1⟩:=h B ρ a w h1 h2
 obtain⟨ρ2,l2,t2,r2⟩:=k B ρ1 a w t1 r1
 exact⟨ρ2,Ren.leB_trans l1 l2,t2,r2⟩
theorem Ent.keep(μ:Nat)(ts:List Nat):Ent G μ tm hp (dJ tm ts) hp:=fun _ ρ _ _ h1 h2=>⟨ρ,Ren.leB_refl μ ρ,h1.keep ts,h2⟩
mutual
def V.ren(bs:List Nat):V->Option V
 |.ptr b k j=>match Nat.ble ax b with
  |true=>some (.ptr b k j)
  |false=>match idx b bs with|some i=>some (.ptr i k j)|none=>none
 |.sl b k len cap=>match Nat.ble ax b with
  |true=>some (.sl b k len cap)
  |false=>match idx b bs with|some i=>some (.sl i k len cap)|none=>none
 |.yl b=>match idx b bs with|some i=>some (.yl i)|none=>none
 |.fn f l=>match renL bs l with|some l=>some (.fn f l)|none=>none
 |.agg l=>match renL bs l with|some l=>some (.agg l)|none=>none
 |.tup l=>match renL bs l with|some l=>some (.tup l)|none=>none
 |.when g v=>match V.ren bs v with|some v=>some (.when g v)|none=>none
 |.lit b=>some (.lit b)
 |.bool b=>some (.bool b)
 |.int k n=>some (.int k n)
 |.str s=>some (.str s)
 |.nilp=>some .nilp
 |.nils=>some .nils
 |.nilf=>some .nilf
 |.nili=>some .nili
 |.junk=>some .junk
def renL(bs:List Nat):List V->Option (List V)
 |[]=>some []
 |v::l=>match V.ren bs v with
  |some v=>match renL bs l with
   |some l=>some (v::l)
   |none=>none
  |none=>none
end
def tX(bs:List Nat):List (List V)->Option (List (List V))
 |[]=>some []
 |r::l=>match renL bs r with
  |some r=>match tX bs l with
   |some l=>some (r::l)
   |none=>none
  |none=>none
def O.ren(bs:List Nat):O->Option O
 |.vals w m rs=>match tX bs rs with|some rs=>some (.vals w m rs)|none=>none
 |.cells w l=>match renL bs l with|some l=>some (.cells w l)|none=>none
 |.ints w k zs=>some (.ints w k zs)
 |.rows w ks rs=>some (.rows w ks rs)
 |.gone=>some .gone
 |.rsv=>none
 |.lock _ _ _=>none
def jo(bs:List Nat)(hp:List O):List Nat->Option (List O)
 |[]=>some []
 |b::r=>match O.ren bs (hp.getD b .gone) with
  |some o=>match jo bs hp r with
   |some l=>some (o::l)
   |none=>none
  |none=>none
def wo(bs:List Nat)(tm:Tm):List Nat->Option Tm
 |[]=>some []
 |t::r=>match V.ren bs (look tm t) with
  |some v=>match wo bs tm r with
   |some l=>some ((t,v)::l)
   |none=>none
  |none=>none
def Ren.re(ρ:Ren)(bs:List Nat):Ren:=fun i=>if ax<=i then ρ i else(bs[i]?).bind ρ
theorem ER{ρ:Ren}{bs:List Nat}(hs:bs.length<ax){b i:Nat}(h:idx b bs=some i){r:Rg}(hr:ρ b=some r):ρ.re bs i=some r:=by
 have:=yz bs i h
 have hlt:=(List.getElem?_eq_some_iff.1 this).1
 simp only[Ren.re]
 rw[if_neg (by omega),this]
 exact hr
mutual
theorem VR.ren{ρ:Ren}{bs:List Nat}(hs:bs.length<ax):∀ (v v':V) (u:Value),V.ren bs v=some v'->VR ρ v u->VR (ρ.re bs) v' u
 |.ptr b k j,v',u,h,⟨r,e,x⟩=>by
  simp only[V.ren]at h
  split at h
  ·rename_i hb;cases h;exact⟨r,by simp only[Ren.re];rw[if_pos (Nat.le_of_ble_eq_true hb)];exact e,x⟩
  ·split at h
   ·rename_i i hi;cases h;exact⟨r,ER hs hi e,x⟩
   ·cases h
 |.sl b k len cap,v',u,h,⟨r,e,x⟩=>by
  simp only[V.ren]at h
  split at h
  ·rename_i hb;cases h;exact⟨r,by simp only[Ren.re];rw[if_pos (Nat.le_of_ble_eq_true hb)];exact e,x⟩
  ·split at h
   ·rename_i i hi;cases h;exact⟨r,ER hs hi e,x⟩
   ·cases h
 |.yl b,v',u,h,⟨r,e,x⟩=>by
  simp only[V.ren]at h
  split at h
  ·rename_i i hi;cases h;exact⟨r,ER hs hi e,x⟩
  ·cases h
 |.fn f l,v',u,h,⟨us,e,x⟩=>by
  simp only[V.ren]at h
  split at h
  ·rename_i l' hl;cases h;exact⟨us,e,VRL.ren hs l l' us hl x⟩
  ·cases h
 |.agg l,v',u,h,⟨us,e,x⟩=>by
  simp only[V.ren]at h
  split at h
  ·rename_i l' hl;cases h;exact⟨us,e,VRL.ren hs l l' us hl x⟩
  ·cases h
 |.tup l,v',u,h,⟨us,e,x⟩=>by
  simp only[V.ren]at h
  split at h
  ·rename_i l' hl;cases h;exact⟨us,e,VRL.ren hs l l' us hl x⟩
  ·cases h
 |.when g v,v',u,h,e=>by
  simp only[V.ren]at h
  split at h
  ·rename_i v1 h1;cases h;exact⟨fun hg=>VR.ren hs v v1 u h1 (e.1 hg),e.2⟩
  ·cases h
 |.lit _,_,_,h,e=>by simp only[V.ren,Option.some.injEq]at h;subst h;exact e
 |.bool _,_,_,h,e=>by simp only[V.ren,Option.some.injEq]at h;subst h;exact e
 |.int _ _,_,_,h,e=>by simp only[V.ren,Option.some.injEq]at h;subst h;exact e
 |.str _,_,_,h,e=>by simp only[V.ren,Option.some.injEq]at h;subst h;exact e
 |.nilp,_,_,h,e=>by simp only[V.ren,Option.some.injEq]at h;subst h;exact e
 |.nils,_,_,h,e=>by simp only[V.ren,Option.some.injEq]at h;subst h;exact e
 |.nilf,_,_,h,e=>by simp only[V.ren,Option.some.injEq]at h;subst h;exact e
 |.nili,_,_,h,e=>by simp only[V.ren,Option.some.injEq]at h;subst h;exact e
 |.junk,_,_,h,_=>by simp only[V.ren,Option.some.injEq]at h;subst h;trivial
theorem VRL.ren{ρ:Ren}{bs:List Nat}(hs:bs.length<ax):∀ (l l':List V) (us:List Value),renL bs l=some l'->VRL ρ l us->VRL (ρ.re bs) l' us
 |[],_,_,h,e=>by simp only[renL,Option.some.injEq]at h;subst h;exact e
 |v::l,l',_,h,⟨u,r,e,x,y⟩=>by
  simp only[renL]at h
  split at h
  ·rename_i v1 h1
   split at h
   ·rename_i l1 h2;cases h;exact⟨u,r,e,VR.ren hs v v1 u h1 x,VRL.ren hs l l1 r h2 y⟩
   ·cases h
  ·cases h
end
theorem lQ{bs:List Nat}:∀ {l l':List V},renL bs l=some l'->l'.length=l.length/\∀ (i:Nat) (v':V),l'[i]?=some v'->∃ v,l[i]?=some v/\V.ren bs v=some v'
 |[],l',h=>by simp only[renL,Option.some.injEq]at h;subst h;exact⟨rfl,fun i v' hi=>by simp at hi⟩
 |v::l,l',h=>by
  simp only[renL]at h
  split at h
  ·rename_i v1 h1
   split at h
   ·rename_i l1 h2
    cases h
    obtain⟨e1,e2⟩:=lQ h2
    refine⟨by simp[e1],fun i v' hi=>?_⟩
    cases i with
    |zero=>simp only[List.getElem?_cons_zero,Option.some.injEq]at hi;subst hi;exact⟨v,rfl,h1⟩
    |succ i=>simpa using e2 i v' (by simpa using hi)
   ·cases h
  ·cases h
theorem V.ren_one{bs:List Nat}{v v':V}(h:V.ren bs v=some v')(h1:v.one=true):v'.one=true:=by
 cases v<;>simp only[V.one,Bool.false_eq_true]at h1<;>simp only[V.ren]at h
 case ptr=>(repeat' split at h)<;>cases h<;>rfl
 case sl=>(repeat' split at h)<;>cases h<;>rfl
 case yl=>(repeat' split at h)<;>cases h<;>rfl
 case fn=>(repeat' split at h)<;>cases h<;>rfl
 all_goals (cases h;rfl)
theorem wY{bs:List Nat}:∀ {l l':List V},renL bs l=some l'->l.all V.one=true->l'.all V.one=true
 |[],l',h,_=>by simp only[renL,Option.some.injEq]at h;subst h;rfl
 |v::l,l',h,h1=>by
  simp only[renL]at h
  simp only[List.all_cons,Bool.and_eq_true]at h1
  split at h
  ·rename_i v1 hv
   split at h
   ·rename_i l1 hl
    cases h
    simp only[List.all_cons,Bool.and_eq_true]
    exact⟨V.ren_one hv h1.1,wY hl h1.2⟩
   ·cases h
  ·cases h
theorem tS{bs:List Nat}:∀ {l l':List (List V)},tX bs l=some l'->l'.length=l.length/\∀ (i:Nat) (r':List V),l'[i]?=some r'->∃ r,l[i]?=some r/\renL bs r=some r'
 |[],l',h=>by simp only[tX,Option.some.injEq]at h;subst h;exact⟨rfl,fun i v' hi=>by simp at hi⟩
 |v::l,l',h=>by
  simp only[tX]at h
  split at h
  ·rename_i v1 h1
   split at h
   ·rename_i l1 h2
    cases h
    obtain⟨e1,e2⟩:=tS h2
    refine⟨by simp[e1],fun i v' hi=>?_⟩
    cases i with
    |zero=>simp only[List.getElem?_cons_zero,Option.some.injEq]at hi;subst hi;exact⟨v,rfl,h1⟩
    |succ i=>simpa using e2 i v' (by simpa using hi)
   ·cases h
  ·cases h
theorem mU{bs:List Nat}{hp:List O}:∀ {l:List Nat} {hp':List O},jo bs hp l=some hp'->hp'.length=l.length/\∀ (i b:Nat),l[i]?=some b->O.ren bs (hp.getD b .gone)=some (hp'.getD i .gone)
 |[],hp',h=>by simp only[jo,Option.some.injEq]at h;subst h;exact⟨rfl,fun i b hi=>by simp at hi⟩
 |x::l,hp',h=>by
  simp only[jo]at h
  split at h
  ·rename_i o h1
   split at h
   ·rename_i l1 h2
    cases h
    obtain⟨e1,e2⟩:=mU h2
    refine⟨by simp[e1],fun i b hi=>?_⟩
    cases i with
    |zero=>simp only[List.getElem?_cons_zero,Option.some.injEq]at hi;subst hi;simpa using h1
    |succ i=>simpa using e2 i b (by simpa using hi)
   ·cases h
  ·cases h
theorem O.ren_ok{bs:List Nat}{o o':O}(h:O.ren bs o=some o')(ha:o'≠.gone):o≠.gone/\o≠.rsv/\o'≠.gone/\o'≠.rsv/\o'.len=o.len/\o'.wid=o.wid/\o'.own=o.own/\(o.wf->o'.wf) /\
  ∀ k j v',o'.cell k j=some v'->∃ v,o.cell k j=some v/\V.ren bs v=some v':=by
 cases o with
 |cells w l=>
  simp only[O.ren]at h
  split at h
  ·rename_i l' hl
   cases h
   obtain⟨e1,e2⟩:=lQ hl
   refine⟨by simp,by simp,by simp,by simp,rfl,by simp[O.wid,e1],rfl,fun _=>trivial,fun k j v' hc=>?_⟩
   cases k with
   |zero=>simp only[O.cell]at hc ⊢;exact e2 j v' hc
   |succ k=>simp[O.cell]at hc
  ·cases h
 |ints w k zs=>
  simp only[O.ren,Option.some.injEq]at h
  subst h
  refine⟨by simp,by simp,by simp,by simp,rfl,rfl,rfl,id,fun k j v' hc=>⟨v',hc,?_⟩⟩
  cases j<;>simp[O.cell]at hc
  subst hc;simp[V.ren]
 |rows w ks rs=>
  simp only[O.ren,Option.some.injEq]at h
  subst h
  refine⟨by simp,by simp,by simp,by simp,rfl,rfl,rfl,id,fun k j v' hc=>⟨v',hc,?_⟩⟩
  simp only[O.cell]at hc
  split at hc
  ·simp only[Option.some.injEq]at hc;subst hc;simp[V.ren]
  ·cases hc
 |vals w m rs=>
  simp only[O.ren]at h
  split at h
  ·rename_i l' hl
   cases h
   obtain⟨e1,e2⟩:=tS hl
   refine⟨by simp,by simp,by simp,by simp,by simp[O.len,e1],rfl,rfl,fun hwf r' hr'=>?_,fun k j v' hc=>?_⟩
   ·obtain⟨i,hi⟩:=List.getElem?_of_mem hr'
    obtain⟨r,hr,hren⟩:=e2 i r' hi
    have:=hwf r (List.mem_of_getElem? hr)
    exact⟨by rw[(lQ hren).1];exact this.1,wY hren this.2⟩
   ·simp only[O.cell]at hc ⊢
    split at hc
    ·rename_i r' hr'
     obtain⟨r,hr,hren⟩:=e2 k r' hr'
     rw[hr]
     exact(lQ hren).2 j v' hc
    ·cases hc
  ·cases h
 |gone=>simp only[O.ren,Option.some.injEq]at h;exact absurd h.symm ha
 |rsv=>simp[O.ren]at h
 |lock=>simp[O.ren]at h
theorem HR.ren(hh:HR G B ρ hp w){bs:List Nat}{hp':List O}(hnd:bs.Nodup)(hlt:∀ b∈bs,b<hp.length)(hs:bs.length<ax)(h:jo bs hp bs=some hp'):HR G B (ρ.re bs) hp' w:=by
 obtain⟨e1,e2⟩:=mU h
 have hsm:=hh.small
 have hc:∀ i r,ρ.re bs i=some r->(ax<=i/\ρ i=some r/\getO G hp' i=getO G hp i)\/(i<ax/\∃ b,bs[i]?=some b/\b<ax/\ρ b=some r/\O.ren bs (getO G hp b)=some (getO G hp' i)):=by
  intro i r hr
  simp only[Ren.re]at hr
  split at hr
  ·rename_i hi;exact .inl ⟨hi,hr,by rw[aA hi,aA hi]⟩
  ·rename_i hi
   cases hb:bs[i]? with
   |none=>rw[hb]at hr;cases hr
   |some b=>
    rw[hb]at hr
    have hbl:=hlt b (List.mem_of_getElem? hb)
    exact .inr ⟨by omega,b,rfl,by omega,hr,by rw[aB (by omega),aB (by omega)];exact e2 i b hb⟩
 refine⟨?_,?_,fun b h1=>?_,?_,?_,?_,by omega⟩
 ·intro i r hr hal
  rcases hc i r hr with⟨h1,h2,h3⟩|⟨h1,b,h2,h3,h4,h5⟩
  ·rw[h3]at hal ⊢
   have ho:=hh.blocks i r h2 hal
   rw[aA h1]at ho hal ⊢
   cases hG:G[i-ax]? with
   |none=>simp[List.getD,hG]at hal
   |some o=>
    obtain⟨_,_,_,_,_,_,_,ht⟩:=hh.glob _ o hG
    refine ho.data ?_ _
    simp[List.getD,hG,(O.tab_data ht).1]
  ·obtain⟨q1,q2,q3,q4,q5,q6,q7,q8,q9⟩:=O.ren_ok h5 hal
   have ho:=hh.blocks b r h4 q1
   exact⟨q3,q4,q8 ho.wf,by rw[q5];exact ho.n,ho.ph0,ho.lt,by rw[q6];exact ho.m,ho.cp,fun hp0 k j v hk hj hv=>by
    obtain⟨v0,hv0,hren⟩:=q9 k j v hv
    obtain⟨u,hu,hr⟩:=ho.cell hp0 k j v0 (by omega) (by omega) hv0
    exact⟨u,hu,VR.ren hs v0 v u hren hr⟩,by rw[q7];exact ho.own⟩
 ·intro i h1 h2
  simp only[Ren.re]
  rw[if_neg (by omega),List.getElem?_eq_none (by omega)]
  rfl
 ·cases hx:ρ.re bs b with
  |none=>rfl
  |some x=>
   rcases hc b x hx with⟨_,h2,h3⟩|⟨_,b',_,_,_,h5⟩
   ·rw[h3]at h1;rw[hh.rsv b h1]at h2;cases h2
   ·exact absurd h1 (O.ren_ok h5 (fun e=>by rw[e]at h1;cases h1)).2.2.2.1
 ·intro i r hr ho hp0
  rcases hc i r hr with⟨h1,h2,h3⟩|⟨h1,b,h2,h3,h4,h5⟩
  ·rw[h3]at ho;exact hh.base i r h2 ho hp0
  ·rw[(O.ren_ok h5 (fun e=>by rw[e]at ho;cases ho)).2.2.2.2.2.2.1]at ho;exact hh.base b r h4 ho hp0
 ·intro i i' r r' hr hr' hal hp0 hp0' ho hne
  rcases hc i r hr with⟨h1,h2,h3⟩|⟨h1,b,h2,h3,h4,h5⟩
  ·rcases hc i' r' hr' with⟨h1',h2',h3'⟩|⟨h1',b',h2',h3',h4',h5'⟩
   ·rw[h3']at hal;rw[h3]at ho;exact hh.apart i i' r r' h2 h2' hal hp0 hp0' ho hne
   ·rw[h3]at ho;exact hh.apart i b' r r' h2 h4' (O.ren_ok h5' hal).1 hp0 hp0' ho (by omega)
  ·rw[(O.ren_ok h5 (fun e=>by rw[e]at ho;cases ho)).2.2.2.2.2.2.1]at ho
   rcases hc i' r' hr' with⟨h1',h2',h3'⟩|⟨h1',b',h2',h3',h4',h5'⟩
   ·rw[h3']at hal;exact hh.apart b i' r r' h4 h2' hal hp0 hp0' ho (by omega)
   ·refine hh.apart b b' r r' h4 h4' (O.ren_ok h5' hal).1 hp0 hp0' ho fun e=>hne ?_
    subst e
    have hi:=(List.getElem?_eq_some_iff.1 h2).1
    have hi':=(List.getElem?_eq_some_iff.1 h2').1
    rw[List.getElem?_eq_getElem hi,Option.some.injEq]at h2
    rw[List.getElem?_eq_getElem hi',Option.some.injEq]at h2'
    exact mN hnd hi hi' (h2.trans h2'.symm)
 ·intro g o hg
  obtain⟨r,h1,h2⟩:=hh.glob g o hg
  exact⟨r,by simp only[Ren.re];rw[if_pos (by omega)];exact h1,h2⟩
theorem kg{bs:List Nat}{tm:Tm}:∀ {ts:List Nat} {tm':Tm},wo bs tm ts=some tm'->∀ t,look tm' t=.junk\/V.ren bs (look tm t)=some (look tm' t)
 |[],tm',h,t=>by simp only[wo,Option.some.injEq]at h;subst h;exact .inl rfl
 |x::ts,tm',h,t=>by
  simp only[wo]at h
  split at h
  ·rename_i v h1
   split at h
   ·rename_i l h2
    cases h
    rw[bx]
    by_cases e:x=t
    ·subst e;rw[if_pos rfl];exact .inr h1
    ·rw[if_neg e];exact kg h2 t
   ·cases h
  ·cases h
def preB(bs:List Nat):Nat->Bool
 |0=>true
 |μ+1=>(match bs[μ]? with|some b=>Nat.beq b μ|none=>false)&&preB bs μ
theorem Be{bs:List Nat}:∀ {μ:Nat},preB bs μ=true->∀ i,i<μ->bs[i]?=some i
 |μ+1,h,i,hi=>by
  simp only[preB,Bool.and_eq_true]at h
  by_cases e:i=μ
  ·subst e
   have:=h.1
   split at this
   ·rename_i b hb;rw[hb,Nat.eq_of_beq_eq_true this]
   ·cases this
  ·exact Be h.2 i (by omega)
def rH:List Nat->Bool
 |[]=>true
 |x::l=>(l.all fun y=>!Nat.beq x y)&&rH l
theorem eZ:∀ {l:List Nat},rH l=true->l.Nodup
 |[],_=>List.nodup_nil
 |x::l,h=>by
  simp only[rH,Bool.and_eq_true,List.all_eq_true]at h
  refine List.nodup_cons.2 ⟨fun hm=>?_,eZ h.2⟩
  have:=h.1 x hm
  simp at this
theorem Ent.ren{μ:Nat}{tm':Tm}{hp':List O}(bs ts:List Nat)(h:jo bs hp bs=some hp')(ht:wo bs tm ts=some tm')(hb:(preB bs μ&&rH bs&&(bs.all fun b=>Nat.blt b hp.length)&&Nat.blt bs.length ax)=true) :
  Ent G μ tm hp tm' hp':=by
 simp only[Bool.and_eq_true]at hb
 obtain⟨⟨⟨h1,h2⟩,h3⟩,h4⟩:=hb
 have hs:=aM h4
 intro B ρ a w htr hh
 refine⟨ρ.re bs,fun b r hl hr=>?_,fun t=>?_,hh.ren (eZ h2) (fun b hb=>aM (List.all_eq_true.1 h3 b hb)) hs h⟩
 ·simp only[Ren.re]
  split
  ·exact hr
  ·rcases hl with hl|hl
   ·rw[Be h1 b hl];exact hr
   ·contradiction
 ·rcases kg ht t with e|e
  ·rw[e];trivial
  ·exact VR.ren hs _ _ _ e (htr t)
theorem Ent.phan{μ:Nat}{b j:Nat}{ww:Bool}{l:List V}{o:O}(hb:hp.getD b .gone=.cells ww l)(hj:l[j]?=some .nils)(ho:o≠.gone/\o≠.rsv/\o.wf/\o.len=0)(hsm:hp.length+1<ax) :
  Ent G μ tm hp tm (hp.set b (.cells ww (l.set j (.sl hp.length 0 0 none)))++[o]):=by
 intro B ρ a w htr hh
 have hblt:b<hp.length:=by
  rcases Nat.lt_or_ge b hp.length with h|h
  ·exact h
  ·simp[List.getD,List.getElem?_eq_none h]at hb
 have hfree:=hh.free hp.length (Nat.le_refl _) (by omega)
 have hle:=Ren.le_add hfree { blk:=0,base:=0,m:=1,n:=0,cp:=0,ph:=true }
 have hold:∀ i x,ρ i=some x->i≠hp.length:=fun i x hx e=>by rw[e,hfree]at hx;cases hx
 have hget:∀ i x,ρ i=some x->i≠b->getO G (hp.set b (.cells ww (l.set j (.sl hp.length 0 0 none)))++[o]) i=getO G hp i:=by
  intro i x hx hne
  by_cases hi:i<ax
  ·have:i<hp.length:=by
    rcases Nat.lt_or_ge i hp.length with h|h
    ·exact h
    ·rw[hh.free i h hi]at hx;cases hx
   rw[aB hi,aB hi]
   simp[List.getD,List.getElem?_append_left (show i<(hp.set b (.cells ww (l.set j (.sl hp.length 0 0 none)))).length by simpa using this),List.getElem?_set_ne (Ne.symm hne)]
  ·rw[aA (by omega),aA (by omega)]
 have hgetb:getO G (hp.set b (.cells ww (l.set j (.sl hp.length 0 0 none)))++[o]) b=.cells ww (l.set j (.sl hp.length 0 0 none)):=by
  rw[aB (by omega)]
  simp[List.getD,List.getElem?_append_left (show b<(hp.set b (.cells ww (l.set j (.sl hp.length 0 0 none)))).length by simpa using hblt),hblt]
 have hgetn:getO G (hp.set b (.cells ww (l.set j (.sl hp.length 0 0 none)))++[o]) hp.length=o:=by
  rw[aB (by omega)]
  simp[List.getD]
 have hgb:getO G hp b=.cells ww l:=by rw[aB (by omega)];exact hb
 have hc:∀ i r,(ρ.add hp.length { blk:=0,base:=0,m:=1,n:=0,cp:=0,ph:=true }) i=some r->(i=hp.length/\r.ph=true/\r.n=0)\/ρ i=some r:=by
  intro i r hr
  by_cases e:i=hp.length
  ·subst e;rw[Ren.add_same]at hr;cases hr;exact .inl ⟨rfl,rfl,rfl⟩
  ·rw[Ren.add_other _ _ e]at hr;exact .inr hr
 refine⟨_,hle.leB,htr.mono hle,?_,?_,fun i h1=>?_,?_,?_,?_,by simp;omega⟩
 ·intro i r hr hal
  rcases hc i r hr with⟨rfl,h2,h3⟩|h2
  ·rw[hgetn]
   exact⟨ho.1,ho.2.1,ho.2.2.1,by rw[ho.2.2.2];exact h3,fun _=>h3,fun e=>(by rw[h2]at e;cases e),fun e=>(by rw[h2]at e;cases e),fun e=>(by rw[h2]at e;cases e),fun e=>(by rw[h2]at e;cases e),fun _ e=>(by rw[h2]at e;cases e)⟩
  ·by_cases e:i=b
   ·subst e
    rw[hgetb]
    have hob:=hh.blocks i r h2 (by rw[hgb];simp)
    rw[hgb]at hob
    refine⟨by simp,by simp,trivial,by rw[hob.n];rfl,hob.ph0,hob.lt,by intro e;rw[hob.m e];simp[O.wid],hob.cp,fun hp0 k j' v hk hj' hv=>?_,fun h e=>hob.own h e⟩
    cases k with
    |succ k=>simp[O.cell]at hv
    |zero=>
     simp only[O.cell]at hv
     simp only[O.wid,List.length_set]at hj'
     by_cases e2:j'=j
     ·subst e2
      rw[List.getElem?_set_self hj',Option.some.injEq]at hv
      subst hv
      obtain⟨u,hu,hvu⟩:=hob.cell hp0 0 j' .nils (by simp[O.len]) (by simpa[O.wid]using hj') (by simpa[O.cell]using hj)
      refine⟨u,hu,_,Ren.add_same _ _ _,Nat.le_refl _,fun _=>⟨rfl,hvu⟩,fun e=>by cases e⟩
     ·rw[List.getElem?_set_ne (Ne.symm e2)]at hv
      obtain⟨u,hu,hvu⟩:=hob.cell hp0 0 j' v (by simp[O.len]) (by simpa[O.wid]using hj') (by simpa[O.cell]using hv)
      exact⟨u,hu,VR.mono hle _ _ hvu⟩
   ·rw[hget i r h2 e]at hal ⊢
    exact(hh.blocks i r h2 hal).mono hle
 ·intro i h1 h2
  simp only[List.length_append,List.length_set,List.length_singleton]at h1
  rw[Ren.add_other _ _ (by omega)]
  exact hh.free i (by omega) h2
 ·cases hx:(ρ.add hp.length { blk:=0,base:=0,m:=1,n:=0,cp:=0,ph:=true }) i with
  |none=>rfl
  |some r=>
   rcases hc i r hx with⟨rfl,_⟩|h2
   ·rw[hgetn]at h1;exact absurd h1 ho.2.1
   ·by_cases e:i=b
    ·subst e;rw[hgetb]at h1;cases h1
    ·rw[hget i r h2 e]at h1;rw[hh.rsv i h1]at h2;cases h2
 ·intro i r hr how hp0
  rcases hc i r hr with⟨rfl,h2,h3⟩|h2
  ·rw[h2]at hp0;cases hp0
  ·by_cases e:i=b
   ·subst e;rw[hgetb]at how;exact hh.base i r h2 (by rw[hgb];exact how) hp0
   ·rw[hget i r h2 e]at how;exact hh.base i r h2 how hp0
 ·intro i i' r r' hr hr' hal hp0 hp0' how hne
  rcases hc i r hr with⟨rfl,h2,h3⟩|h2
  ·rw[h2]at hp0;cases hp0
  ·rcases hc i' r' hr' with⟨rfl,h2',h3'⟩|h2'
   ·rw[h2']at hp0';cases hp0'
   ·refine hh.apart i i' r r' h2 h2' ?_ hp0 hp0' ?_ hne
    ·by_cases e:i'=b
     ·subst e;rw[hgb];simp
     ·rw[hget i' r' h2' e]at hal;exact hal
    ·by_cases e:i=b
     ·subst e;rw[hgetb]at how;rw[hgb];exact how
     ·rw[hget i r h2 e]at how;exact how
 ·intro g o' hg
  obtain⟨r,h1,h2⟩:=hh.glob g o' hg
  exact⟨r,hle _ _ h1,h2⟩
theorem Rel.ent{μ:Nat}{tm':Tm}{hp':List O}(h:Ent G μ tm hp tm' hp')(hr:Rel G B w0 S N D gs ρ tm hp a w):∃ ρ',ρ.leB μ ρ'/\Rel G B w0 S N D gs ρ' tm' hp' a w:=by
 obtain⟨ρ',h1,h2,h3⟩:=h B ρ a w hr.tr hr.hr
 exact⟨ρ',h1,h2,h3,hr.bel,hr.sz,hr.df,hr.gs,hr.bs,hr.ss,hr.sw⟩
theorem Good.ent{μ:Nat}{c:Code}{tm':Tm}{hp':List O}{R:Exit->Tm->List O->Prop}(h:Ent G μ tm hp tm' hp')(hg:Good G P μ N c tm' hp' R):Good G P μ N c tm hp R:=by
 intro B w0 S D gs ρ a w n ro h0 hr
 obtain⟨ρ1,l1,h1⟩:=hr.ent h
 refine wpIn_mono (hg B w0 S D gs _ a w n ro h0 h1) ?_
 rintro e a' w' ⟨tm2,hp2,ρ2,h2,hl2,hR⟩
 exact⟨tm2,hp2,ρ2,h2,Ren.leB_trans l1 hl2,hR⟩
theorem Good.loop{μ:Nat}{body:Code}{R:Exit->Tm->List O->Prop}(I:Nat->Tm->List O->Prop){m:Nat}(h0:I m tm hp)
  (hround:∀ k tm1 hp1,I k tm1 hp1->Good G P μ N body tm1 hp1 fun e tm2 hp2=>match e with
   |.normal=>∃ k' tm3 hp3,k=k'+1/\Ent G μ tm2 hp2 tm3 hp3/\I k' tm3 hp3
   |e=>R e tm2 hp2):Good G P μ N (.loop body) tm hp R:=by
 intro B w0 S D gs ρ a w n ro hro hr
 refine wpIn_loop_rounds (m+1) ?_
 have key:∀ (k:Nat) (tm1:Tm) (hp1:List O) (ρ1:Ren) (a1:Act) (w1:World),I k tm1 hp1->Rel G B w0 S N D gs ρ1 tm1 hp1 a1 w1->ρ.leB μ ρ1 ->
   Code.roundsIn (Fr ro) n P body (fun e a' w'=>∃ tm' hp' ρ',Rel G B w0 S N D gs ρ' tm' hp' a' w'/\ρ.leB μ ρ'/\R e tm' hp') (k+1) a1 w1:=by
  intro k
  induction k with
  |zero=>
   intro tm1 hp1 ρ1 a1 w1 hI hr1 hl1
   refine wpIn_mono (hround 0 tm1 hp1 hI B w0 S D gs ρ1 a1 w1 n ro hro hr1) ?_
   rintro e a2 w2 ⟨tm2,hp2,ρ2,h2,hl2,hq⟩
   cases e with
   |normal=>obtain⟨k',_,_,h,_⟩:=hq;omega
   |_=>exact⟨tm2,hp2,ρ2,h2,Ren.leB_trans hl1 hl2,hq⟩
  |succ k ih=>
   intro tm1 hp1 ρ1 a1 w1 hI hr1 hl1
   refine wpIn_mono (hround (k+1) tm1 hp1 hI B w0 S D gs ρ1 a1 w1 n ro hro hr1) ?_
   rintro e a2 w2 ⟨tm2,hp2,ρ2,h2,hl2,hq⟩
   cases e with
   |normal=>
    obtain⟨k',tm3,hp3,hk,he,hI3⟩:=hq
    obtain rfl:k=k':=by omega
    obtain⟨ρ3,l3,h3⟩:=h2.ent he
    exact ih tm3 hp3 ρ3 a2 w2 hI3 h3 (Ren.leB_trans hl1 (Ren.leB_trans hl2 l3))
   |_=>exact⟨tm2,hp2,ρ2,h2,Ren.leB_trans hl1 hl2,hq⟩
 exact key m tm hp ρ a w h0 hr (Ren.leB_refl μ ρ)
end
section
def iW(hp:List O):List V->Option (List Nat×List (List V))
 |[]=>some ([],[])
 |.ptr b 0 0::r=>match Nat.blt b ax with
  |true=>match hp.getD b .gone with
   |.cells _ l=>match plL l with
    |true=>match iW hp r with
     |some (bs,x)=>some (b::bs,l::x)
     |none=>none
    |false=>none
   |_=>none
  |false=>none
 |_=>none
def hp0(cs:List (List V)):List O:=cs.map (.cells false)++[.gone]
def Aw(n:Nat):List V:=(List.range n).map fun i=>.ptr i 0 0
def yrg(l:Nat):Rg:={ blk:=l,base:=0,m:=0,n:=0,cp:=0,ph:=true }
def Ren.caps(ρ:Ren)(bs:List Nat)(l:Nat):Ren:=fun i=>if ax<=i then ρ i else if i=bs.length then some (yrg l) else(bs[i]?).bind ρ
theorem jR{hp:List O}:∀ {caps:List V} {bs:List Nat} {cs:List (List V)},iW hp caps=some (bs,cs)->bs.length=cs.length/\caps=bs.map (fun b=>.ptr b 0 0) /\
  ∀ (i b:Nat),bs[i]?=some b->b<ax/\∃ w c,cs[i]?=some c/\hp.getD b .gone=.cells w c/\plL c=true:=by
 intro caps
 induction caps with
 |nil=>intro bs cs h;simp only[iW,Option.some.injEq,Prod.mk.injEq]at h;obtain⟨rfl,rfl⟩:=h;exact⟨rfl,rfl,fun i b hb=>by simp at hb⟩
 |cons v r ih=>
  intro bs cs h
  unfold iW at h
  split at h
  ·rename_i heq;cases heq
  ·rename_i b r' heq
   cases heq
   split at h
   ·rename_i hb
    split at h
    ·rename_i ww l ho
     split at h
     ·rename_i hpl
      split at h
      ·rename_i bs' x hx
       cases h
       obtain⟨h1,h2,h3⟩:=ih hx
       refine⟨by simp[h1],by simp[h2],fun i b' hi=>?_⟩
       cases i with
       |zero=>simp only[List.getElem?_cons_zero,Option.some.injEq]at hi;subst hi;exact⟨aM hb,ww,l,rfl,ho,hpl⟩
       |succ i=>simpa using h3 i b' (by simpa using hi)
      ·cases h
     ·cases h
    ·cases h
   ·cases h
  ·cases h
theorem VRL.ptrs{ρ ρ':Ren}:∀ {bs:List Nat} {us:List Value} (o:Nat),(∀ (i b:Nat) (r:Rg),bs[i]?=some b->ρ b=some r->ρ' (o+i)=some r)->VRL ρ (bs.map fun b=>.ptr b 0 0) us->VRL ρ' ((List.range' o bs.length).map fun i=>.ptr i 0 0) us
 |[],_,o,_,h=>h
 |b::bs,_,o,hm,⟨u,r,e,⟨rg,h1,h2⟩,h3⟩=>by
  refine⟨u,r,e,⟨rg,hm 0 b rg rfl h1,h2⟩,VRL.ptrs (o+1) (fun i b' r' hi hr=>?_) h3⟩
  have:=hm (i+1) b' r' (by simpa using hi) hr
  rwa [show o+(i+1)=o+1+i by omega]at this
theorem Cs{G:List O}{B μ:Nat}{ρ ρ':Ren}{hp:List O}{w:World}(hh:HR G B ρ' hp w)(hl:ρ.leB μ ρ')(hglob:∀ g o,G[g]?=some o->∃ r,ρ (ax+g)=some r){caps:List V}{bs:List Nat}{cs:List (List V)}(hc:iW hp caps=some (bs,cs))(hμ:∀ b∈bs,b<μ)
  (hsm:bs.length+1<ax) (l C:Nat):HR G C (ρ.caps bs l) (hp0 cs) w:=by
 obtain⟨h1,h2,h3⟩:=jR hc
 have hlen:(hp0 cs).length=bs.length+1:=by simp[hp0,h1]
 have hgw:∀ b,(getO G (hp0 cs) b).own=false:=by
  intro b
  by_cases hb:ax<=b
  ·rw[aA hb]
   cases hg:G[b-ax]? with
   |none=>simp[List.getD,hg,O.own]
   |some o=>obtain⟨_,_,_,_,_,_,_,h⟩:=hh.glob _ o hg;simp[List.getD,hg,(O.tab_data h).2]
  ·rw[aB (by omega)]
   unfold hp0
   simp only[List.getD_eq_getElem?_getD]
   by_cases h4:b<cs.length
   ·rw[List.getElem?_append_left (by simpa using h4)];simp[h4,O.own]
   ·rw[List.getElem?_append_right (by simp;omega)]
    cases hx:b-(cs.map (O.cells false)).length with
    |zero=>simp[O.own]
    |succ x=>simp[O.own]
 refine⟨?_,?_,fun b h4=>?_,?_,?_,?_,by omega⟩
 ·intro i r hr hal
  simp only[Ren.caps]at hr
  split at hr
  ·rename_i hi
   have hr':=hl i r (.inr hi) hr
   have ho:=hh.blocks i r hr' (by rw[aA hi]at hal ⊢;exact hal)
   rw[aA hi]at ho hal ⊢
   cases hG:G[i-ax]? with
   |none=>simp[List.getD,hG]at hal
   |some o=>
    obtain⟨_,_,_,_,_,_,_,ht⟩:=hh.glob _ o hG
    refine ho.data ?_ _
    simp[List.getD,hG,(O.tab_data ht).1]
  ·rename_i hi
   split at hr
   ·rename_i e
    subst e
    exfalso
    apply hal
    rw[aB (by omega)]
    simp[hp0,List.getD,h1]
   ·rename_i e
    cases hb:bs[i]? with
    |none=>rw[hb]at hr;cases hr
    |some b=>
     rw[hb]at hr
     obtain⟨h5,ww,c,h6,h7,h8⟩:=h3 i b hb
     have hr':=hl b r (.inl (hμ b (List.mem_of_getElem? hb))) hr
     have ho:=hh.blocks b r hr' (by rw[aB h5,h7];simp)
     rw[aB h5,h7]at ho
     have hilt:i<cs.length:=(List.getElem?_eq_some_iff.1 h6).1
     have hg:getO G (hp0 cs) i=.cells false c:=by
      rw[aB (by omega)]
      simp only[hp0,List.getD_eq_getElem?_getD]
      rw[List.getElem?_append_left (by simpa using hilt)]
      simp[h6]
     rw[hg]
     refine⟨by simp,by simp,trivial,ho.n,ho.ph0,ho.lt,ho.m,ho.cp,fun hp0' k j v hk hj hv=>?_,fun e=>by cases e⟩
     obtain⟨u,hu,hvu⟩:=ho.cell hp0' k j v hk hj (by cases k<;>simp[O.cell]at hv ⊢<;>exact hv)
     refine⟨u,hu,VR.pl v u ?_ hvu⟩
     cases k with
     |zero=>exact qu h8 v (List.mem_of_getElem? (by simpa[O.cell]using hv))
     |succ k=>simp[O.cell]at hv
 ·intro i h4 h5
  simp only[Ren.caps]
  rw[if_neg (by omega),if_neg (by omega),List.getElem?_eq_none (by omega)]
  rfl
 ·exfalso
  by_cases hb:ax<=b
  ·rw[aA hb]at h4
   cases hg:G[b-ax]? with
   |none=>simp[List.getD,hg]at h4
   |some o=>obtain⟨_,_,_,_,_,_,_,h⟩:=hh.glob _ o hg;simp only[List.getD,hg,Option.getD_some]at h4;rw[h4]at h;cases h
  ·rw[aB (by omega)]at h4
   unfold hp0 at h4
   simp only[List.getD_eq_getElem?_getD]at h4
   by_cases h5:b<cs.length
   ·rw[List.getElem?_append_left (by simpa using h5)]at h4;simp[h5]at h4
   ·rw[List.getElem?_append_right (by simp;omega)]at h4
    cases hx:b-(cs.map (O.cells false)).length with
    |zero=>rw[hx]at h4;simp at h4
    |succ x=>rw[hx]at h4;simp at h4
 ·intro b r _ ho;rw[hgw]at ho;cases ho
 ·intro b b' r r' _ _ _ _ _ ho;rw[hgw]at ho;cases ho
 ·intro g o hg
  obtain⟨r,h4⟩:=hglob g o hg
  obtain⟨r',h5,h6⟩:=hh.glob g o hg
  have:=hl _ _ (.inr (Nat.le_add_right _ _)) h4
  rw[h5]at this
  cases this
  exact⟨_,by simp only[Ren.caps];rw[if_pos (Nat.le_add_right _ _)];exact h4,h6⟩
def Kept(l:Nat)(W W':World):Prop:=W.heap.size<=W'.heap.size/\∀ k o,k≠l->W.heap[k]?=some o->o.isCells=false->W'.heap[k]?=some o
structure vF(S:Nat)(W W':World):Prop where
 os:W'.os=W.os
 tape:W'.tape=W.tape
 output:W'.output=W.output
 size:W.heap.size<=W'.heap.size
 keep:∀ (k:Nat) (o:Obj),W.heap[k]?=some o->(k<S\/o.isCells=true)->W'.heap[k]?=some o
def qJ(G:List O)(P:Program)(f:FuncId)(cs:List (List V))(L:List (List V)):Prop:=
 ∀ (n l:Nat) (caps:List Value) (ρc:Ren) (J:Nat->World->Prop) (Jx:World->Prop) (W:World),
  VRL ρc (Aw cs.length) caps->ρc cs.length=some (yrg l)->l<W.heap.size ->
  (∀ i W1 W',J i W1->vF W.heap.size W1 W'->J i W')->(∀ W1 W',Jx W1->vF W.heap.size W1 W'->Jx W')->(∀ i W,J i W->HR G W.heap.size ρc (hp0 cs) W)->(∀ W,Jx W->HR G W.heap.size ρc (hp0 cs) W) ->
  (∀ i vs us W1,L[i]?=some vs->(∀ ρ,VRL ρ vs us)->J i W1->YieldAt (Fr none) (n-1) P l us.toArray W1 fun e W'=>(e=.returned (.bool true)/\J (i+1) W'/\Kept l W1 W')\/(e=.returned (.bool false)/\Jx W'/\Kept l W1 W')) ->
  J 0 W->CallsIn (Fr none) n P f (#[.func (.yield l) #[] #[]]++caps.toArray) W fun e W'=>(∃ v,e=.returned v)/\(J L.length W'\/Jx W')
def putPs:List Nat->List V->Tm->Tm
 |p::ps,v::vs,tm=>putPs ps vs ((p,v)::tm)
 |_,_,tm=>tm
theorem TR.putPs{ρ:Ren}:∀ (ps:List Nat) (vs:List V) (us:List Value) (tm:Tm) (t:Array Value) (d d':List Deferred),TR ρ tm { tmps:=t,defers:=d }->VRL ρ vs us->(∀ p∈ps,p<t.size) ->
  TR ρ (putPs ps vs tm) { tmps:=(ps.zip us).foldl (fun t p=>t.setIfInBounds p.1 p.2) t,defers:=d' }
 |[],_,_,tm,t,d,d',h,_,_=>by
  unfold Ab.putPs
  exact h
 |p::ps,[],us,tm,t,d,d',h,hv,_=>by
  cases hv
  unfold Ab.putPs
  exact h
 |p::ps,v::vs,_,tm,t,d,d',h,⟨u,us,rfl,hu,hus⟩,hp=>by
  have h1:=h.put (d:=p) (by simpa using hp p (by simp)) hu
  have:=TR.putPs ps vs us ((p,v)::tm) (t.setIfInBounds p u) d d' h1 hus (fun q hq=>by simpa using hp q (by simp[hq]))
  simpa[Ab.putPs]using this
variable{E:Env}{G:List O}{P:Program}{B:Nat}{w0:World}{S:Nat}{N:Nat}{D:List Deferred}{gs:List (Nat×Obj)}{ρ:Ren}{tm:Tm}{hp:List O}{a:Act}{w:World}
theorem GsOk.below(h:GsOk gs w){w':World}(hb:Below w.heap.size w w'):GsOk gs w':=fun p hp=>
 ⟨(hb.block _ (Array.getElem?_eq_some_iff.1 (h p hp).1).1).trans (h p hp).1,(h p hp).2⟩
theorem zh{l:Nat}{o o':Obj}(hl:w.heap[l]?=some o)(ho:o.isCells=false){ad:Addr}{x:Value}(h:w.cell? ad=some x):(w.putObj l o').cell? ad=some x:=by
 refine(World.cell?_of_block (World.putObj_heap_other ?_)).trans h
 intro e
 obtain⟨o2,h2,h3⟩:=cells_of_cell h
 rw[e,hl]at h2
 cases h2
 rw[ho]at h3;cases h3
theorem OR.putObj{o:O}{r:Rg}(h:OR ρ o r w){l:Nat}{ob o':Obj}(hl:w.heap[l]?=some ob)(ho:ob.isCells=false):OR ρ o r (w.putObj l o') where
 alive:=h.alive
 nrsv:=h.nrsv
 wf:=h.wf
 n:=h.n
 ph0:=h.ph0
 lt:=fun hp=>by simpa using h.lt hp
 m:=h.m
 cp:=h.cp
 cell:=fun hp k j v hk hj hv=>by
  obtain⟨u,hu,hr⟩:=h.cell hp k j v hk hj hv
  exact⟨u,zh hl ho hu,hr⟩
 own:=fun hw hp=>by
  obtain⟨h1,hm,cs,e,hc,hsz⟩:=h.own hw hp
  refine⟨h1,hm,cs,e,?_,hsz⟩
  rw[World.putObj_heap_other]
  ·exact hc
  ·intro e2
   rw[e2,hl]at hc
   cases hc
   simp[Obj.isCells]at ho
theorem HR.putObj(h:HR G B ρ hp w){l:Nat}{ob o':Obj}(hl:w.heap[l]?=some ob)(ho:ob.isCells=false):HR G B ρ hp (w.putObj l o') where
 blocks:=fun b r e al=>(h.blocks b r e al).putObj hl ho
 free:=h.free
 rsv:=h.rsv
 base:=h.base
 apart:=h.apart
 glob:=h.glob
 small:=h.small
theorem kX{w1:World}(h:Below B w1 w){l:Nat}{o':Obj}(hl:B<=l):Below B w1 (w.putObj l o'):=
 h.trans ⟨rfl,rfl,rfl,by simp,fun k hk=>World.putObj_heap_other (by omega)⟩
theorem GsOk.putObj(h:GsOk gs w){l:Nat}{o':Obj}(hl:∀ p∈gs,p.1≠l):GsOk gs (w.putObj l o'):=fun p hp=>
 ⟨(World.putObj_heap_other (hl p hp)).trans (h p hp).1,(h p hp).2⟩
def oth(l:Nat)(W:World):List (Nat×Obj):=(List.range W.heap.size).filterMap fun k=>match W.heap[k]? with
 |some o=>bif k==l||o.isCells then none else some (k,o)
 |none=>none
theorem oA{l:Nat}{W:World}{p:Nat×Obj}:p∈oth l W↔W.heap[p.1]?=some p.2/\p.1≠l/\p.2.isCells=false:=by
 unfold oth
 rw[List.mem_filterMap]
 constructor
 ·rintro⟨k,hk,h⟩
  split at h
  ·rename_i o ho
   cases hb:(k==l||o.isCells) with
   |true=>rw[hb]at h;cases h
   |false=>
    rw[hb]at h
    simp only[cond_false,Option.some.injEq]at h
    subst h
    rw[Bool.or_eq_false_iff]at hb
    exact⟨ho,by simpa using hb.1,hb.2⟩
  ·cases h
 ·rintro⟨h1,h2,h3⟩
  refine⟨p.1,List.mem_range.2 (Array.getElem?_eq_some_iff.1 h1).1,?_⟩
  have:(p.1==l||p.2.isCells)=false:=by simp[h2,h3]
  simp only[h1,this,cond_false]
theorem Is(l:Nat)(W:World):GsOk (oth l W) W:=fun p hp=>by
 obtain⟨h1,_,h3⟩:=oA.1 hp
 exact⟨h1,h3⟩
inductive xE:Exit->Code->Prop
 |ret:xE .ret .ret
 |exit (id:Nat):xE (.exit id) (.exit id)
theorem Good.range{μ μ':Nat}{tmL:Tm}(hμ:Nat.ble μ μ'=true){g:Operand}{ps:Array Tmp}{asg body:Code}{f:FuncId}{caps:List V}{cs L:List (List V)}{R:Exit->Tm->List O->Prop}
  (hg:evA E tm g=.fn f caps) (hsub:∃ ts,tmL=dJ tm ts) (htl:limL μ' (tmL.map (·.2))=true) (hent:fq P f) (hsq:qJ E.G P f cs L) (hpl:(bG asg&&bG body)=true) (hps:ps.toList.all (fun p=>Nat.blt p N)=true) (hL:∀ vs∈L,vs.length=ps.size)
  (I:Nat->List O->Prop) (X:Exit->List O->Prop) (h0:I 0 hp) {bs:List Nat} (hbs:(bs.all (fun b=>Nat.blt b μ')&&Nat.blt (bs.length+1) ax)=true) (hcap:∀ i hp',I i hp'->iW hp' caps=some (bs,cs)) (hcapx:∀ e hp',X e hp'->iW hp' caps=some (bs,cs))
  (hround:∀ i vs hp',L[i]?=some vs->I i hp'->∃ Ra:Tm->List O->Prop,Good E.G P μ' N asg (Ab.putPs ps.toList vs tmL) hp' (fun e tm1 hp1=>e=.normal/\Ra tm1 hp1) /\
   ∀ tm1 hp1,Ra tm1 hp1->Good E.G P μ' N body tm1 hp1 fun e _ hp2=>∃ hp3,Ent E.G μ' [] hp2 [] hp3/\match e with
    |.normal=>I (i+1) hp3
    |.ret=>X .ret hp3
    |.exit id=>X (.exit id) hp3
    |_=>False)
  (hend:∀ hp',I L.length hp'->R .normal tmL hp') (hx:∀ e hp',X e hp'->R e tmL hp'):Good E.G P μ N (.rangeFunc g ps asg body) tm hp R:=by
 intro B w0 S D gs ρ a w n ro hro h
 obtain rfl:ro=none:=by rcases hro with h|h;exact h;simp[bG]at h
 rw[Bool.and_eq_true]at hpl
 have hμ:=Nat.le_of_ble_eq_true hμ
 rw[Bool.and_eq_true]at hbs
 have hbsl:=aM hbs.2
 have hbsm:∀ b∈bs,b<μ':=fun b hb=>aM (List.all_eq_true.1 hbs.1 b hb)
 have hglob0:∀ g o,E.G[g]?=some o->∃ r,ρ (ax+g)=some r:=fun g o hg=>let ⟨r,h1,_⟩:=h.hr.glob g o hg;⟨r,h1⟩
 have htrL:TR ρ tmL a:=by obtain⟨ts,rfl⟩:=hsub;exact h.tr.keep ts
 obtain⟨ms,hd1,hd2,hd3,hd4⟩:=h.df
 have hBw:B<=w.heap.size:=Nat.le_trans h.bs h.bel.size
 have hev:=dz (E:=E) (w:=w) h.tr h.hr.hv g
 rw[hg]at hev
 obtain⟨cus,hga,hcv⟩:=hev
 rw[nI hent.choose_spec.2.2.2]at hga
 refine wpIn_rangeFunc ?_
 intro fn _
 obtain⟨rec,hrec⟩:∃ rec:LoopState->Option Code->Loop,rec=fun st pe=>{ state:=st,pending:=pe,fn,tmps:=a.tmps,params:=ps,assign:=asg,body,defers:=w.heap.size }:=⟨_,rfl⟩
 obtain⟨W1,hW1⟩:∃ W1,(w.alloc (.deferred (some []))).alloc (.loop (rec .ready none))=W1:=⟨_,rfl⟩
 have hL1:W1.heap[w.heap.size+1]?=some (.loop (rec .ready none)):=by
  rw[<-hW1];have:=World.alloc_heap_new (w.alloc (.deferred (some []))) (.loop (rec .ready none));rwa [World.size_alloc]at this
 have hK1:W1.heap[w.heap.size]?=some (.deferred (some [])):=by
  rw[<-hW1];exact(Below.heap_alloc _ _ _ (by simp)).trans (World.alloc_heap_new w _)
 have hb1:Below w.heap.size w W1:=by
  rw[<-hW1];exact((Below.refl _ w).alloc (Nat.le_refl _) _).alloc (by simp) _
 -- what lies beside the heap
 obtain⟨Kp,hKp⟩:∃ Kp:Loop->World->Prop,Kp=fun r W=>Below B w0 W/\GsOk (gs++ms.map marked) W/\w.heap.size+2<=W.heap.size/\W.heap[w.heap.size+1]?=some (.loop r)/\W.heap[w.heap.size]?=some (.deferred (some [])):=⟨_,rfl⟩
 have hgs0:GsOk (gs++ms.map marked) w:=fun p hp=>(List.mem_append.1 hp).elim (h.gs p) (hd2 p)
 have hgslt:∀ p∈gs++ms.map marked,p.1<w.heap.size:=fun p hp=>(Array.getElem?_eq_some_iff.1 (hgs0 p hp).1).1
 have hKp1:Kp (rec .ready none) W1:=by
  rw[hKp]
  refine⟨h.bel.trans (hb1.mono hBw),hgs0.below hb1,?_,hL1,hK1⟩
  rw[<-hW1];simp
 have hKpB:∀ {r:Loop} {W W':World},Kp r W->Below W.heap.size W W'->Kp r W':=by
  intro r W W' hk hb
  rw[hKp]at hk ⊢
  obtain⟨k1,k2,k3,k4,k5⟩:=hk
  exact⟨k1.trans (hb.mono (by omega)),k2.below hb,by have:=hb.size;omega,(hb.block _ (by omega)).trans k4,(hb.block _ (by omega)).trans k5⟩
 have hW1s:W1.heap.size=w.heap.size+2:=by rw[<-hW1];simp
 have hKpL2:∀ {r:Loop} {W W':World},Kp r W->vF W1.heap.size W W'->Kp r W':=by
  intro r W W' hk hb
  rw[hKp]at hk ⊢
  obtain⟨k1,k2,k3,k4,k5⟩:=hk
  refine⟨k1.trans ⟨hb.os,hb.tape,hb.output,hb.size,fun k hk=>?_⟩,fun p hp=>⟨hb.keep _ _ (k2 p hp).1 (.inl ?_),(k2 p hp).2⟩,by have:=hb.size;omega,hb.keep _ _ k4 (.inl (by omega)),hb.keep _ _ k5 (.inl (by omega))⟩
  ·have hlt:k<W.heap.size:=by omega
   rw[Array.getElem?_eq_getElem hlt]
   exact hb.keep _ _ (Array.getElem?_eq_getElem hlt) (.inl (by omega))
  ·have:=hgslt p hp;omega
 have hKpP:∀ {r r':Loop} {W:World},Kp r W->Kp r' (W.putObj (w.heap.size+1) (.loop r')):=by
  intro r r' W hk
  rw[hKp]at hk ⊢
  obtain⟨k1,k2,k3,k4,k5⟩:=hk
  exact⟨kX k1 (by omega),k2.putObj (fun p hp=>by have:=hgslt p hp;omega),by simpa using k3,World.putObj_heap_same (by omega),(World.putObj_heap_other (by omega)).trans k5⟩
 have hKpL:∀ {r:Loop} {W:World},Kp r W->W.heap[w.heap.size+1]?=some (.loop r):=fun hk=>by rw[hKp]at hk;exact hk.2.2.2.1
 -- the state in a round
 have hKpR:∀ {r:Loop} {W:World},Kp r W->GsOk ((w.heap.size+1,.loop r)::(w.heap.size,.deferred (some []))::(gs++ms.map marked)) W/\Below B w0 W/\w.heap.size+2<=W.heap.size:=fun hk=>by
  rw[hKp]at hk
  obtain⟨k1,k2,k3,k4,k5⟩:=hk
  refine⟨fun p hp=>?_,k1,k3⟩
  rcases List.mem_cons.1 hp with rfl|hp
  ·exact⟨k4,rfl⟩
  ·rcases List.mem_cons.1 hp with rfl|hp
   ·exact⟨k5,rfl⟩
   ·exact k2 p hp
 have hKpO:∀ {r:Loop} {W:World} {l':List (Nat×Obj)},GsOk ((w.heap.size+1,.loop r)::(w.heap.size,.deferred (some []))::(gs++ms.map marked)++l') W->Below B w0 W->Kp r W:=fun {r W l'} k1 k2=>by
  rw[hKp]
  have hl:=(k1 (w.heap.size+1,.loop r) (by simp)).1
  have hd:=(k1 (w.heap.size,.deferred (some [])) (by simp)).1
  have:=(Array.getElem?_eq_some_iff.1 hl).1
  exact⟨k2,fun p hp=>k1 p (List.mem_append.2 (.inl (List.mem_cons_of_mem _ (List.mem_cons_of_mem _ hp)))),by omega,hl,hd⟩
 have fin:∀ (jump:Option Code) (W4:World),Kp { rec .ready none with state:=.busy } W4 ->
   (Instr.endRound (w.heap.size+1) jump).run P W4=.ok (.bool jump.isNone) (W4.putObj (w.heap.size+1) (.loop (rec (if jump.isNone then .ready else .done) jump))):=by
  intro jump W4 hk
  have:=run_endRound (P:=P) jump (hKpL hk)
  rw[hrec]at this ⊢
  exact this
 have finRel:∀ {r r':Loop} {W:World} {ρ':Ren} {hp':List O},Kp r W->HR E.G B ρ' hp' W->ρ.leB μ' ρ' ->
   Rel E.G B w0 S N D gs ρ' tmL hp' { tmps:=a.tmps,defers:=[mark w.heap.size]++a.defers } (W.putObj (w.heap.size+1) (.loop r')):=by
  intro r r' W ρ' hp' hk hr hl
  have hk':=hKpP (r':=r') hk
  obtain⟨g1,g2,g3⟩:=hKpR hk'
  refine⟨htrL.leB hl htl,hr.putObj (hKpL hk) rfl,g2,h.sz,⟨w.heap.size::ms,by simp[hd1],fun p hp=>?_,fun d hd=>?_,?_⟩,fun p hp=>g1 p (by simp[hp]),h.bs,h.ss,by have:=h.sw;omega⟩
  ·rcases List.mem_cons.1 hp with rfl|hp
   ·exact g1 _ (by simp[marked])
   ·exact g1 p (by simp only[List.mem_cons,List.mem_append];exact .inr (.inr (.inr hp)))
  ·rcases List.mem_cons.1 hd with rfl|hd
   ·exact h.sw
   ·exact hd3 d hd
  ·refine List.nodup_cons.2 ⟨fun hm=>?_,hd4⟩
   have:=hgslt (marked w.heap.size) (List.mem_append.2 (.inr (List.mem_map.2 ⟨_,hm,rfl⟩)))
   simp[marked]at this
 have hr1:HR E.G B ρ hp W1:=h.hr.frame hb1.size (fun k hk=>hb1.block k hk)
 refine⟨w.heap.size+1,[mark w.heap.size],W1,{ target:=.fn (.func f) cus.toArray,args:=#[.func (.yield (w.heap.size+1)) #[] #[]] },W1,f,
  #[.func (.yield (w.heap.size + 1)) #[] #[]] ++ cus.toArray, W1, ?_, ?_, fun _ _ => trivial, ?_, fun e => by simp [Fr, Fence.wide] at e, ?_⟩
 ·rw[<-hW1,hrec];exact run_enterLoop_outer _ _ _ _ _
 ·simp only[resolve,hga]
  simp[go_sem]
 ·obtain⟨fn',hf1,hf2,hf3,_⟩:=hent
  simp only[invoke]
  exact eR hf1 hf2 hf3 _ _
 ·refine CallsIn.mono (hsq (n-1) (w.heap.size+1) cus (ρ.caps bs (w.heap.size+1)) (fun i W=>∃ hp' ρ',I i hp'/\HR E.G B ρ' hp' W/\ρ.leB μ' ρ'/\Kp (rec .ready none) W)
   (fun W=>∃ e c hp' ρ',xE e c/\X e hp'/\HR E.G B ρ' hp' W/\ρ.leB μ' ρ'/\Kp (rec .done (some c)) W) W1 ?_ ?_ ?_ ?_ ?_ ?_ ?_ ?_ ⟨hp,ρ,h0,hr1,Ren.leB_refl μ' ρ,hKp1⟩) ?_
  ·obtain⟨q1,q2,q3⟩:=jR (hcap 0 hp h0)
   have hv:=VRL.ptrs (ρ:=ρ) (ρ':=ρ.caps bs (w.heap.size+1)) (bs:=bs) (us:=cus) 0 (fun i b r hi hr=>by
    have:=(List.getElem?_eq_some_iff.1 hi).1
    simp only[Ren.caps]
    rw[if_neg (by have:=hbsl;omega),if_neg (by omega),Nat.zero_add,hi]
    exact hr) (by rw[<-q2];exact hcv)
   rw[<-List.range_eq_range',q1]at hv
   exact hv
  ·have q1:=(jR (hcap 0 hp h0)).1
   simp only[Ren.caps]
   rw[if_neg (by have:=hbsl;omega),if_pos q1.symm]
  ·rw[<-hW1];simp
  ·rintro i W W' ⟨hp',ρ',h1,h3,h4,h5⟩ hb
   exact⟨hp',ρ',h1,h3.cellsSame (fun k o ho hc=>hb.keep k o ho (.inr hc)) hb.size,h4,hKpL2 h5 hb⟩
  ·rintro W W' ⟨e,c,hp',ρ',h1,h2,h3,h4,h5⟩ hb
   exact⟨e,c,hp',ρ',h1,h2,h3.cellsSame (fun k o ho hc=>hb.keep k o ho (.inr hc)) hb.size,h4,hKpL2 h5 hb⟩
  ·rintro i W ⟨hp',ρ',h1,h3,h4,h5⟩
   exact Cs h3 h4 hglob0 (hcap i hp' h1) hbsm hbsl _ _
  ·rintro W ⟨e,c,hp',ρ',h1,h2,h3,h4,h5⟩
   exact Cs h3 h4 hglob0 (hcapx e hp' h2) hbsm hbsl _ _
  ·-- one round
   rintro i vs us W hi hvs ⟨hp',ρ',h1,h3,h4,h5⟩
   have hlen:us.length=ps.size:=by rw[(hvs ρ').length];exact hL vs (List.mem_of_getElem? hi)
   obtain⟨Ra,hA,hBd⟩:=hround i vs hp' hi h1
   obtain⟨g1,g2,g3⟩:=hKpR h5
   have hy:=run_yield (P:=P) (args:=us.toArray) (hKpL h5) (by rw[hrec];simpa using hlen)
   rw[hrec]at hy
   refine⟨fn,_,asg,body,hy,roundIn_of_wpIn trivial ?_⟩
   have hfold:((ps.zip us.toArray).foldl (fun tmps x=>tmps.setIfInBounds x.1 x.2) a.tmps)=(ps.toList.zip us).foldl (fun t p=>t.setIfInBounds p.1 p.2) a.tmps:=by
    rw[<-Array.foldl_toList];simp
   have hrel:Rel E.G B w0 W.heap.size N [] ((w.heap.size+1,.loop (rec .ready none))::(w.heap.size,.deferred (some []))::(gs++ms.map marked)++oth (w.heap.size+1) W) ρ' (Ab.putPs ps.toList vs tmL) hp'
     { tmps:=((ps.zip us.toArray).foldl (fun tmps x=>tmps.setIfInBounds x.1 x.2) a.tmps),defers:=[] } W:=by
    refine⟨?_,h3,g2,?_,⟨[],rfl,fun p hp=>by simp at hp,by simp,by simp⟩,fun p hp=>(List.mem_append.1 hp).elim (g1 p) (Is _ W p),h.bs,g2.size,Nat.le_refl _⟩
    ·rw[hfold]
     exact TR.putPs ps.toList vs us tmL a.tmps a.defers [] (htrL.leB h4 htl) (hvs ρ') (fun p hp=>by rw[h.sz];exact aM (List.all_eq_true.1 hps p hp))
    ·rw[hfold,<-h.sz]
     have key:∀ (l:List (Nat×Value)) (t:Array Value),(l.foldl (fun t p=>t.setIfInBounds p.1 p.2) t).size=t.size:=by
      intro l
      induction l with
      |nil=>intro t;rfl
      |cons p l ih=>intro t;simp only[List.foldl_cons,ih,Array.size_setIfInBounds]
     exact key _ _
   refine wpIn_mono (hA B w0 _ [] _ ρ' _ W (n-1-1) (some (w.heap.size+1)) (.inr hpl.1) hrel) ?_
   rintro e a2 W2 ⟨tm2,hp2,ρ2,hrel2,hl2,rfl,hRa⟩
   have hk2:=hKpO hrel2.gs hrel2.bel
   refine⟨_,run_beginRound (hKpL hk2) (by rw[hrec]),?_⟩
   have hk3:=hKpP (r':={ rec .ready none with state:=.busy }) hk2
   have ho2:GsOk (oth (w.heap.size+1) W) W2:=fun p hp=>hrel2.gs p (List.mem_append.2 (.inr hp))
   have ho3:=ho2.putObj (l:=w.heap.size+1) (o':=.loop { rec .ready none with state:=.busy }) (fun p hp=>(oA.1 hp).2.1)
   obtain⟨b1,b2,b3⟩:=hKpR hk3
   obtain⟨ms2,e1,e2,e3,e4⟩:=hrel2.df
   have hrel3:Rel E.G B w0 W.heap.size N [] _ ρ2 tm2 hp2 a2 (W2.putObj (w.heap.size+1) (.loop { rec .ready none with state:=.busy })):=
    ⟨hrel2.tr,hrel2.hr.putObj (hKpL hk2) rfl,b2,hrel2.sz,⟨ms2,e1,e2.putObj (fun p hp e=>by
     have x1:=(e2 p hp).1
     rw[e,hKpL hk2]at x1
     obtain⟨d,_,rfl⟩:=List.mem_map.1 hp
     simp[marked]at x1),e3,e4⟩,fun p hp=>(List.mem_append.1 hp).elim (b1 p) (ho3 p),h.bs,g2.size,by simpa using hrel2.sw⟩
   refine wpIn_mono (hBd tm2 hp2 hRa B w0 _ [] _ ρ2 a2 _ (n-1-1) (some (w.heap.size+1)) (.inr hpl.2) hrel3) ?_
   rintro e a4 W4 ⟨tm4,hp4,ρ4,hrel4,hl4,hp5,hent5,hpost⟩
   have hk4:=hKpO hrel4.gs hrel4.bel
   obtain⟨ρ5,hl5,_,hr5⟩:=hent5 B ρ4 a4 W4 (fun t=>trivial) hrel4.hr
   have hle5:ρ.leB μ' ρ5:=Ren.leB_trans h4 (Ren.leB_trans hl2 (Ren.leB_trans hl4 hl5))
   have hkept:∀ o',Kept (w.heap.size+1) W (W4.putObj (w.heap.size+1) o'):=fun o'=>by
    have ho4:GsOk (oth (w.heap.size+1) W) W4:=fun p hp=>hrel4.gs p (List.mem_append.2 (.inr hp))
    refine⟨?_,fun k o hk ho hc=>(World.putObj_heap_other hk).trans (ho4 (k,o) (oA.2 ⟨ho,hk,hc⟩)).1⟩
    simp only[World.putObj_size]
    exact hrel4.sw
   cases e with
   |normal=>exact⟨_,_,fin none W4 hk4,.inl ⟨rfl,⟨hp5,_,hpost,hr5.putObj (hKpL hk4) rfl,hle5,hKpP hk4⟩,hkept _⟩⟩
   |ret=>exact⟨_,_,fin (some .ret) W4 hk4,.inr ⟨rfl,⟨.ret,.ret,hp5,_,.ret,hpost,hr5.putObj (hKpL hk4) rfl,hle5,hKpP hk4⟩,hkept _⟩⟩
   |exit id=>exact⟨_,_,fin (some (.exit id)) W4 hk4,.inr ⟨rfl,⟨.exit id,.exit id,hp5,_,.exit id,hpost,hr5.putObj (hKpL hk4) rfl,hle5,hKpP hk4⟩,hkept _⟩⟩
   |goto t=>exact hpost.elim
   |panic c=>exact hpost.elim
   |outgrown=>exact hpost.elim
  ·rintro e W ⟨⟨v,rfl⟩,⟨hp',ρ',h1,h3,h4,h5⟩|⟨e,c,hp',ρ',h1,h2,h3,h4,h5⟩⟩
   ·have he:=run_endLoop (P:=P) (hKpL h5) (by rw[hrec];simp)
    rw[hrec]at he
    exact⟨none,_,he,tmL,hp',ρ',finRel h5 h3 h4,Ren.leB_mono h4 hμ,hend hp' h1⟩
   ·have he:=run_endLoop (P:=P) (hKpL h5) (by rw[hrec];simp)
    rw[hrec]at he
    refine⟨some c,_,he,?_⟩
    cases h1 with
    |ret=>exact wpIn_ret ⟨tmL,hp',ρ',finRel h5 h3 h4,Ren.leB_mono h4 hμ,hx _ _ h2⟩
    |exit id=>exact wpIn_exit ⟨tmL,hp',ρ',finRel h5 h3 h4,Ren.leB_mono h4 hμ,hx _ _ h2⟩
end
end Go.Ab
namespace Go.Ab
section
abbrev CF:=List V->List O->Option (Bool×V×List O)
def pfOf(l:List (FuncId×CF))(f:FuncId)(a:List V)(h:List O):Option (Bool×V×List O):=
 match assoc l f with
 |some c=>c a h
 |none=>none
def mkE(ty:List (TypeId×Ty))(G:List O)(cts:List (FuncId×CF))(inl:List (FuncId×Func)):Env:=⟨ty,G,pfOf cts,inl,false,[],false⟩
variable{G:List O}{P:Program}
def CtOk(G:List O)(P:Program)(p:FuncId×CF):Prop:=fq P p.1/\∀ a h c v N,p.2 a h=some (c,v,N)->c=true->ay G P p.1 a h v N
def Ii(G:List O)(P:Program):List (FuncId×CF)->Prop
 |[]=>True
 |p::l=>CtOk G P p/\Ii G P l
def qV(P:Program):List (FuncId×Func)->Prop
 |[]=>True
 |p::l=>(P.funcs[p.1]?=some p.2/\(p.2.name == "runtime.NumGoroutine")=false)/\qV P l
theorem Ir{f:FuncId}{c:CF}:∀ {l:List (FuncId×CF)},Ii G P l->assoc l f=some c->CtOk G P (f,c)
 |[],_,h=>by cases h
 | (i,x)::l,⟨h1,h2⟩,h=>by
  simp only[assoc]at h
  split at h
  ·rename_i hb;cases h;rw[<-Nat.eq_of_beq_eq_true hb];exact h1
  ·exact Ir h2 h
theorem AO{f:FuncId}{fn:Func}:∀ {l:List (FuncId×Func)},qV P l->assoc l f=some fn->P.funcs[f]?=some fn/\(fn.name == "runtime.NumGoroutine")=false
 |[],_,h=>by cases h
 | (i,x)::l,⟨h1,h2⟩,h=>by
  simp only[assoc]at h
  split at h
  ·rename_i hb;cases h;rw[<-Nat.eq_of_beq_eq_true hb];exact h1
  ·exact AO h2 h
theorem MI{ty:List (TypeId×Ty)}{cts:List (FuncId×CF)}{inl:List (FuncId×Func)}(hm:P.follows .mixedOrders=true)(hty:ty.all (fun p=>tyB P p.1 p.2)=true)(hc:Ii G P cts)(hi:qV P inl) :
  (mkE ty G cts inl).Fn P:=by
 refine⟨Env.ok_of hty,hm,fun f a h c v N e hcc=>?_,fun f fn h=>AO hi h,fun f g a b v h=>by cases h⟩
 change pfOf cts f a h=_ at e
 unfold pfOf at e
 split at e
 ·rename_i cf hcf
  obtain⟨h1,h2⟩:=Ir hc hcf
  exact⟨h1,h2 a h c v N e hcc⟩
 ·cases e
theorem ent{f:FuncId}{fn:Func}(h:P.funcs[f]?=some fn)(h2:(fn.name == "runtime.NumGoroutine")=false) (h3:fn.body.isSome=true) (h4:Nat.ble BM f=false:=by rfl):fq P f:=⟨fn,h,h2,h3,h4⟩
theorem aF{f:FuncId}{fn:Func}{cf:CF}(hf:P.funcs[f]?=some fn)(h2:(fn.name == "runtime.NumGoroutine")=false) (h3:fn.body.isSome=true) (h:∀ a h c v N,cf a h=some (c,v,N)->c=true->ay G P f a h v N) (h4:Nat.ble BM f=false:=by rfl):CtOk G P (f,cf):=⟨ent hf h2 h3 h4,h⟩
theorem aq{Q:Exit->Tm->List O->Prop}{b:Bool}{x y:T}(h1:b=true->sat G P Q x)(h2:b=false->sat G P Q y):sat G P Q (.br b x y):=⟨h1,h2⟩
theorem cL{Q:Exit->Tm->List O->Prop}{b:Bool}{x y:T}(hb:b=true)(h1:sat G P Q x):sat G P Q (.br b x y):=⟨fun _=>h1,fun e=>(by rw[hb]at e;cases e)⟩
theorem xl{Q:Exit->Tm->List O->Prop}{b:Bool}{x y:T}(hb:b=false)(h1:sat G P Q y):sat G P Q (.br b x y):=⟨fun e=>(by rw[hb]at e;cases e),fun _=>h1⟩
theorem ag{Q:Exit->Tm->List O->Prop}{b:Bool}{x:T}(h1:b=true)(h2:sat G P Q x):sat G P Q (.need b x):=⟨h1,h2⟩
theorem ai{Q:Exit->Tm->List O->Prop}{b:Bool}{x:T}(h2:sat G P Q x):sat G P Q (.need (!b||b) x):=⟨by simp,h2⟩
theorem AJ{Q:Exit->Tm->List O->Prop}{n:Nat}{f:Bool->T}(h1:n=0->sat G P Q (f true))(h2:sat G P Q (f false)):sat G P Q (.isnil n f):=fun b hb=>by
 cases b
 ·exact h2
 ·exact h1 (hb rfl)
theorem af{Q:Exit->Tm->List O->Prop}{e:Exit}{tm:Tm}{hp:List O}(h:Q e tm hp):sat G P Q (.ret e tm hp):=h
theorem aj{E:Env}{fn:Func}{d:Nat}{v v':V}{e:Exit}{tm:Tm}{hp:List O}{l:List V}(he:e=.normal\/e=.ret)(h1:resV E tm hp fn.results.toList=some l)(h2:V.out [] d (bM l)=some v')(hd:Nat.blt (d+1) ax=true)(hv:v'=v):Fin E fn d v [] e tm hp:=
 ⟨he,l,[],h1,by rw[<-hv];exact h2,List.nodup_nil,by simp,rfl,by simpa using aM hd⟩
theorem dW{E:Env}{fn:Func}{d:Nat}{v v':V}{N:List O}{e:Exit}{tm:Tm}{hp:List O}{l:List V}(b:Nat)(he:e=.normal\/e=.ret)(h1:resV E tm hp fn.results.toList=some l)(h2:V.out [b] d (bM l)=some v')(hb:(Nat.blt b ax&&(hp.getD b .gone).isData)=true)(hd:Nat.blt (d+2) ax=true)(hN:[hp.getD b .gone]=N)(hv:v'=v):Fin E fn d v N e tm hp:=by
 simp only[Bool.and_eq_true]at hb
 exact⟨he,l,[b],h1,by rw[<-hv];exact h2,by simp,by simpa using⟨aM hb.1,hb.2⟩,by simp[<-hN],by simpa using aM hd⟩
theorem jY{E:Env}(hE:E.Fn P)(n:Nat){α:Type}(st:α->Tm×List O)(inv:α->Prop)(meas:α->Nat)(a0:α){μ N:Nat}{body:Code}{tm:Tm}{hp:List O}{k:Exit->Tm->List O->T}{Q:Exit->Tm->List O->Prop}
  (h0:Ent E.G μ tm hp (st a0).1 (st a0).2) (hi:inv a0)
  (hround:∀ a,inv a->sat E.G P (fun e tm' hp'=>match e with
   |.normal=>∃ a',inv a'/\meas a'<meas a/\Ent E.G μ tm' hp' (st a').1 (st a').2
   |e=>sat E.G P Q (k e tm' hp')) (evC E (hdl E n) μ N body (st a).1 (st a).2 .ret)) :
  sat E.G P Q (.loop (.loop body) μ N tm hp k):=by
 refine⟨fun e tm' hp'=>sat E.G P Q (k e tm' hp'),?_,fun _ _ _ h=>h⟩
 refine Good.ent h0 (Good.loop (fun j tm hp=>∃ a,inv a/\meas a<=j/\tm=(st a).1/\hp=(st a).2) (m:=meas a0) ⟨a0,hi,Nat.le_refl _,rfl,rfl⟩ ?_)
 rintro j tm1 hp1 ⟨a,ha,hj,rfl,rfl⟩
 refine(dP hE.mixed hE.ok (gj hE) (eN hE) (cG hE n) body _ _ _ _ (hround a ha)).mono ?_
 intro e tm2 hp2 h
 cases e with
 |normal=>
  obtain⟨a',h1,h2,h3⟩:=h
  exact⟨j-1,_,_,by omega,h3,a',h1,by omega,rfl,rfl⟩
 |_=>exact h
theorem tt1(x y:Bool):(!(x&&y)||x)=true:=by cases x<;>cases y<;>rfl
theorem tt2(x y z:Bool):(!(x&&y&&z)||x)=true:=by cases x<;>cases y<;>cases z<;>rfl
theorem tt4(x y z:Bool):(!(x&&(y&&z))||(x&&y))=true:=by cases x<;>cases y<;>cases z<;>rfl
theorem tt5(x y:Bool):(!(!(x||y))||!x)=true:=by cases x<;>cases y<;>rfl
theorem tt6(x y z:Bool):(!(!(x||y||z))||!x)=true:=by cases x<;>cases y<;>cases z<;>rfl
theorem tt7(x y:Bool):(!x||(!y||(x&&y)))=true:=by cases x<;>cases y<;>rfl
theorem tt8(x y z:Bool):(!x||(!(y&&z)||(x&&y&&z)))=true:=by cases x<;>cases y<;>cases z<;>rfl
theorem tt9(x y z:Bool):(!x||(!(y&&z)||(x&&(y&&z))))=true:=by cases x<;>cases y<;>cases z<;>rfl
theorem tt10(x y:Bool):(!x||(y||(x&&!y)))=true:=by cases x<;>cases y<;>rfl
theorem tt11(x y z:Bool):(!(x&&y&&z)||(x&&y))=true:=by cases x<;>cases y<;>cases z<;>rfl
abbrev I(n:Int):V:=.int .i64 n
abbrev U(n:Int):V:=.int .u64 n
abbrev Bb(b:Bool):V:=.bool b
theorem sat_nd{G:List O}{P:Program}{Q:Exit->Tm->List O->Prop}{b:Bool}{t:T}(h:sat G P Q t)(hb:b=true:=by first|rfl|exact tt1 _ _|exact tt5 _ _|exact tt2 _ _ _|exact tt4 _ _ _|exact tt6 _ _ _|exact tt7 _ _|exact tt8 _ _ _|exact tt9 _ _ _|exact tt10 _ _|exact tt11 _ _ _|exact Bool.or_not_self _|(simp;done)|(simp;omega)):sat G P Q (.need b t):=ag hb h
end
end Go.Ab
namespace Go.Ab
open Go.RowKit
section
variable{E:Env}{P:Program}{n N l S0:Nat}{ρc:Ren}{cs L:List (List V)}{J:Option Nat->World->Prop}
structure ItOk(E:Env)(P:Program)(n l S0:Nat)(ρc:Ren)(cs L:List (List V))(J:Option Nat->World->Prop):Prop where
 hE:E.Fn P
 stab:∀ σ W W',J σ W->vF S0 W W'->J σ W'
 hr:∀ σ W,J σ W->HR E.G W.heap.size ρc (hp0 cs) W
 yl:ρc cs.length=some (yrg l)
 cov:∀ i,i<cs.length->∃ r,ρc i=some r
 small:cs.length+1<ax
 lS:l<S0
 yld:∀ i vs us W1,L[i]?=some vs->(∀ ρ,VRL ρ vs us)->J (some i) W1->YieldAt (Fr none) (n-1) P l us.toArray W1 fun e W'=>∃ b,e=.returned (.bool b)/\J (bif b then some (i+1)else none) W'/\Kept l W1 W'
def It(E:Env)(N S0:Nat)(ρc:Ren)(cs:List (List V))(J:Option Nat->World->Prop)(σ:Option Nat)(tm:Tm)(hp:List O)(a:Act)(w:World):Prop:=
 ∃ (D0:List Nat) (Wy:World) (ρ:Ren),J σ Wy/\S0<=Wy.heap.size/\D0.Nodup/\(∀ d∈D0,S0<=d/\d<Wy.heap.size)/\Rel E.G Wy.heap.size Wy Wy.heap.size N (D0.map mark) (D0.map marked) ρ tm hp a w/\ρc.leB (cs.length+1) ρ
def YG(E:Env)(P:Program)(n N S0:Nat)(ρc:Ren)(cs:List (List V))(J:Option Nat->World->Prop)(c:Code)(σ:Option Nat)(tm:Tm)(hp:List O)(Q:Exit->Option Nat->Tm->List O->Prop):Prop:=
 ∀ a w,It E N S0 ρc cs J σ tm hp a w->c.wpIn (Fr none) n P (fun e a' w'=>∃ σ' tm' hp',It E N S0 ρc cs J σ' tm' hp' a' w'/\Q e σ' tm' hp') a w
variable{c:Code}{σ:Option Nat}{tm:Tm}{hp:List O}{Q Q':Exit->Option Nat->Tm->List O->Prop}
theorem YG.mono(h:YG E P n N S0 ρc cs J c σ tm hp Q)(hq:∀ e σ tm hp,Q e σ tm hp->Q' e σ tm hp):YG E P n N S0 ρc cs J c σ tm hp Q':=
 fun a w hi=>wpIn_mono (h a w hi) fun _ _ _ ⟨σ',tm',hp',h1,h2⟩=>⟨σ',tm',hp',h1,hq _ _ _ _ h2⟩
theorem It.ent{a:Act}{w:World}(h:It E N S0 ρc cs J σ tm hp a w){tm':Tm}{hp':List O}(he:Ent E.G (cs.length+1) tm hp tm' hp'):It E N S0 ρc cs J σ tm' hp' a w:=by
 obtain⟨D0,Wy,ρ,h1,h2,h3,h4,h5,h6⟩:=h
 obtain⟨ρ',l1,h7⟩:=h5.ent he
 exact⟨D0,Wy,ρ',h1,h2,h3,h4,h7,Ren.leB_trans h6 l1⟩
theorem YG.ent{tm':Tm}{hp':List O}(he:Ent E.G (cs.length+1) tm hp tm' hp')(h:YG E P n N S0 ρc cs J c σ tm' hp' Q):YG E P n N S0 ρc cs J c σ tm hp Q:=fun a w hi=>h a w (hi.ent he)
theorem YG.seg(hE:E.Fn P)(m:Nat)(hs:sat E.G P (fun e tm' hp'=>Q e σ tm' hp') (evC E (hdl E m) (cs.length+1) N c tm hp .ret)):YG E P n N S0 ρc cs J c σ tm hp Q:=by
 rintro a w ⟨D0,Wy,ρ,h1,h2,h3,h4,h5,h6⟩
 refine wpIn_mono (dP hE.mixed hE.ok (gj hE) (eN hE) (cG hE m) c tm hp _ _ hs Wy.heap.size Wy Wy.heap.size (D0.map mark) (D0.map marked) ρ a w n none (.inl rfl) h5) ?_
 rintro e a' w' ⟨tm',hp',ρ',h7,h8,h9⟩
 exact⟨σ,tm',hp',⟨D0,Wy,ρ',h1,h2,h3,h4,h7,Ren.leB_trans h6 h8⟩,h9⟩
theorem YG.seq{x y:Code}(h:YG E P n N S0 ρc cs J x σ tm hp (fun e σ' tm' hp'=>match e with|.normal=>YG E P n N S0 ρc cs J y σ' tm' hp' Q|e=>Q e σ' tm' hp')):YG E P n N S0 ρc cs J (.seq x y) σ tm hp Q:=by
 intro a w hi
 refine wpIn_seq (wpIn_mono (h a w hi) ?_)
 rintro e a' w' ⟨σ',tm',hp',h1,h2⟩
 cases e with
 |normal=>exact h2 a' w' h1
 |_=>exact⟨σ',tm',hp',h1,h2⟩
theorem YG.cond{x y:Code}{o:Operand}{b:Bool}(ho:evA E tm o=.bool b)(h1:b=true->YG E P n N S0 ρc cs J x σ tm hp Q)(h2:b=false->YG E P n N S0 ρc cs J y σ tm hp Q):YG E P n N S0 ρc cs J (.cond o x y) σ tm hp Q:=by
 intro a w hi
 have hi':=hi
 obtain⟨D0,Wy,ρ,_,_,_,_,h5,_⟩:=hi'
 have hev:=dz (E:=E) (w:=w) h5.tr h5.hr.hv o
 rw[ho]at hev
 exact wpIn_cond_split hev (fun e=>h1 e a w hi) (fun e=>h2 e a w hi)
theorem YG.block{id:Nat}{x:Code}(h:YG E P n N S0 ρc cs J x σ tm hp (fun e σ' tm' hp'=>match e with|.exit id'=>(match Nat.beq id' id with|true=>Q .normal σ' tm' hp'|false=>Q (.exit id') σ' tm' hp')|e=>Q e σ' tm' hp')):YG E P n N S0 ρc cs J (.block id x) σ tm hp Q:=by
 intro a w hi
 refine wpIn_block (wpIn_mono (h a w hi) ?_)
 rintro e a' w' ⟨σ',tm',hp',h1,h2⟩
 cases e with
 |exit id'=>
  simp only[Exit.inBlock]
  dsimp only at h2
  split at h2
  ·rename_i hb;rw[if_pos (Nat.eq_of_beq_eq_true hb)];exact⟨σ',tm',hp',h1,h2⟩
  ·rename_i hb;rw[if_neg (Nat.ne_of_beq_eq_false hb)];exact⟨σ',tm',hp',h1,h2⟩
 |_=>exact⟨σ',tm',hp',h1,h2⟩
theorem YG.loop{body:Code}{α:Type}(st:α->Option Nat×Tm×List O)(inv:α->Prop)(meas:α->Nat)(a0:α)(hσ:σ=(st a0).1)(h0:Ent E.G (cs.length+1) tm hp (st a0).2.1 (st a0).2.2)(hi:inv a0)
  (hround:∀ x,inv x->YG E P n N S0 ρc cs J body (st x).1 (st x).2.1 (st x).2.2 fun e σ' tm' hp'=>match e with
   |.normal=>∃ x',inv x'/\meas x'<meas x/\σ'=(st x').1/\Ent E.G (cs.length+1) tm' hp' (st x').2.1 (st x').2.2
   |e=>Q e σ' tm' hp'):YG E P n N S0 ρc cs J (.loop body) σ tm hp Q:=by
 subst hσ
 refine YG.ent h0 fun a w hi0=>wpIn_loop_rounds (meas a0+1) ?_
 have key:∀ (k:Nat) (x:α) (a:Act) (w:World),inv x->meas x<=k->It E N S0 ρc cs J (st x).1 (st x).2.1 (st x).2.2 a w ->
   Code.roundsIn (Fr none) n P body (fun e a' w'=>∃ σ' tm' hp',It E N S0 ρc cs J σ' tm' hp' a' w'/\Q e σ' tm' hp') (k+1) a w:=by
  intro k
  induction k with
  |zero=>
   intro x a w hx hk hit
   refine wpIn_mono (hround x hx a w hit) ?_
   rintro e a2 w2 ⟨σ2,tm2,hp2,h2,hq⟩
   cases e with
   |normal=>obtain⟨x',_,h4,_⟩:=hq;omega
   |_=>exact⟨σ2,tm2,hp2,h2,hq⟩
  |succ k ih=>
   intro x a w hx hk hit
   refine wpIn_mono (hround x hx a w hit) ?_
   rintro e a2 w2 ⟨σ2,tm2,hp2,h2,hq⟩
   cases e with
   |normal=>
    obtain⟨x',h3,h4,rfl,h5⟩:=hq
    exact ih x' a2 w2 h3 (by omega) (h2.ent h5)
   |_=>exact⟨σ2,tm2,hp2,h2,hq⟩
 exact key (meas a0) a0 a w hi (Nat.le_refl _) hi0
def okY(μ:Nat):V->Bool
 |.ptr b _ _=>Nat.blt b μ
 |.yl b=>Nat.blt b μ
 |v=>V.pl v
theorem MK{ρ:Ren}{μ:Nat}(hm:∀ b r,b<μ->ρ b=some r->ρc b=some r){v:V}{u:Value}(h:okY μ v=true)(hv:VR ρ v u):VR ρc v u:=by
 cases v with
 |ptr b k j=>obtain⟨r,h1,h2⟩:=hv;exact⟨r,hm b r (aM h) h1,h2⟩
 |yl b=>obtain⟨r,h1,h2⟩:=hv;exact⟨r,hm b r (aM h) h1,h2⟩
 |_=>exact VR.pl _ u h hv
def Ji(E:Env)(P:Program)(m N:Nat)(all:List Oper)(oy:Oper)(suf:List Oper)(σ:Option Nat)(Q:Exit->Option Nat->Tm->List O->Prop)(tm:Tm)(hp:List O):Prop:=
 sat E.G P (fun e tm' hp'=>Q e σ tm' hp') (putV N tm hp oy.dst .junk fun tm hp=>cZ E (hdl E m) N all suf tm hp (.ret .normal) noX)
def YDo(E:Env)(P:Program)(m N:Nat)(cs L:List (List V))(all:List Oper)(oy:Oper)(cl:Call)(f:Operand)(suf:List Oper)(σ:Option Nat)(Q:Exit->Option Nat->Tm->List O->Prop)(tm:Tm):Prop:=
 ∃ i vs ts,σ=some i/\L[i]?=some vs/\evA E tm f=.yl cs.length/\cl.args.toList.map (evA E tm)=vs/\plL vs=true/\(ts.all fun t=>okY (cs.length+1) (look tm t))=true /\
  ∀ b,sat E.G P (fun e tm' hp'=>Q e (bif b then some (i+1)else none) tm' hp') (putV N (dJ tm ts) (hp0 cs) oy.dst (.lit b) fun tm hp=>cZ E (hdl E m) N all suf tm hp (.ret .normal) noX)
def YOp(E:Env)(P:Program)(m N:Nat)(cs L:List (List V))(all:List Oper)(oy:Oper)(cl:Call)(f:Operand)(suf:List Oper)(σ:Option Nat)(Q:Exit->Option Nat->Tm->List O->Prop)(tm:Tm)(hp:List O):Prop:=
 match oy.guard with
 |none=>YDo E P m N cs L all oy cl f suf σ Q tm
 |some (j,want)=>match iD all j with
  |none=>False
  |some d=>match qU E (look tm d) want with
   |.yes=>YDo E P m N cs L all oy cl f suf σ Q tm
   |.no=>Ji E P m N all oy suf σ Q tm hp
   |.grd g=>(g=true->sat E.G P (fun _ tm' _=>YDo E P m N cs L all oy cl f suf σ Q ((d,.lit want)::tm')) (fP g (ko oy.op) tm fun tm'=>.ret .normal tm' []))/\(g=false->Ji E P m N all oy suf σ Q (gno tm d want) hp)
   |.bad=>False
theorem YG.yreg(ok:ItOk E P n l S0 ρc cs L J)(m:Nat){id:Nat}{ops:Array Oper}(pre:List Oper)(oy:Oper)(suf:List Oper){cl:Call}{f:Operand}(hops:ops.toList=pre++oy::suf)(hop:oy.op=.call cl)(hcal:cl.callee=.value f)
  (h:sat E.G P (fun _ tm' hp'=>YOp E P m N cs L ops.toList oy cl f suf σ Q tm' hp') (cZ E (hdl E m) N ops.toList pre tm hp (.ret .normal) noX)):YG E P n N S0 ρc cs J (.region id ops false) σ tm hp Q:=by
 have hE:=ok.hE
 rintro a w ⟨D0,Wy,ρ,h1,h2,h3,h4,h5,h6⟩
 refine wpIn_region ?_
 have hi:ops[pre.length]?=some oy:=by rw[<-Array.getElem?_toList,hops];simp
 have hsz:ops.size=pre.length+(suf.length+1):=by rw[<-Array.length_toList,hops];simp
 have hlist:List.range ops.size=List.range' 0 pre.length++(pre.length::List.range' (pre.length+1) suf.length):=by
  rw[List.range_eq_range',hsz,<-List.range'_append_1,Nat.zero_add,List.range'_succ]
 rw[hlist]
 have suffix:∀ (σ':Option Nat) (tm':Tm) (hp':List O) (a':Act) (w':World),It E N S0 ρc cs J σ' tm' hp' a' w'->sat E.G P (fun e tm' hp'=>Q e σ' tm' hp') (cZ E (hdl E m) N ops.toList suf tm' hp' (.ret .normal) noX) ->
   wpOpsIn (Fr none) n P ops (fun e a' w'=>∃ σ' tm' hp',It E N S0 ρc cs J σ' tm' hp' a' w'/\Q e σ' tm' hp') (List.range' (pre.length+1) suf.length) a' w':=by
  rintro σ' tm' hp' a' w' ⟨D1,W1,ρ1,g1,g2,g3,g4,g5,g6⟩ hs
  have:=jL (n:=n) (ro:=none) (ρ0:=ρ1) hE.ok (eN hE) (cG hE m) (ops:=ops) (Qx:=fun e a' w'=>∃ σ' tm' hp',It E N S0 ρc cs J σ' tm' hp' a' w'/\Q e σ' tm' hp')
   (fun a2 w2 ⟨tm2,hp2,ρ2,q1,q2,q3⟩=>⟨σ',tm2,hp2,⟨D1,W1,ρ2,g1,g2,g3,g4,q1,Ren.leB_trans g6 q2.leB⟩,q3⟩) (fun e a2 w2 ⟨_,_,_,_,_,q⟩=>q.elim) suf (pre++[oy]) tm' hp' ρ1 a' w' (by simp[hops]) hs g5 (Ren.le_refl ρ1)
  simpa using this
 refine nc (n:=n) (ro:=none) (ρ0:=ρ) (suf:=oy::suf) hE.ok (eN hE) (cG hE m) (ops:=ops) ?_ (fun e a2 w2 ⟨_,_,_,_,_,q⟩=>q.elim) pre [] tm hp ρ a w (by rw[hops];simp) h h5 (Ren.le_refl ρ)
 rintro a1 w1 ⟨tm1,hp1,ρ1,r1,r2,r3⟩
 have r3:YOp E P m N cs L ops.toList oy cl f suf σ Q tm1 hp1:=r3
 have hc1:ρc.leB (cs.length+1) ρ1:=Ren.leB_trans h6 r2.leB
 simp only[wpOpsIn,hi]
 -- the call
 have doit:∀ tm2,TR ρ1 tm2 a1->YDo E P m N cs L ops.toList oy cl f suf σ Q tm2->oy.wpIn (Fr none) n P a1 w1 (wpOpsIn (Fr none) n P ops (fun e a' w'=>∃ σ' tm' hp',It E N S0 ρc cs J σ' tm' hp' a' w'/\Q e σ' tm' hp') (List.range' (pre.length+1) suf.length)) (fun e a' w'=>∃ σ' tm' hp',It E N S0 ρc cs J σ' tm' hp' a' w'/\Q e σ' tm' hp'):=by
  rintro tm2 htr ⟨i,vs,ts,rfl,d2,d3,d4,d5,d6,d7⟩
  have hev:=fun x=>dz (E:=E) (w:=w1) htr r1.hr.hv x
  have hf:=hev f
  rw[d3]at hf
  obtain⟨r,hr,hfe⟩:=hf
  have hyl:=hc1 _ _ (.inl (Nat.lt_succ_self _)) ok.yl
  rw[hyl]at hr
  cases hr
  have hav:=VRL.evArgs hev cl.args.toList
  rw[d4]at hav
  obtain⟨us,hus⟩:∃ us,us=cl.args.toList.map a1.eval:=⟨_,rfl⟩
  rw[<-hus]at hav
  have hJ:J (some i) w1:=ok.stab _ _ _ h1 ⟨r1.bel.os,r1.bel.tape,r1.bel.output,r1.bel.size,fun k o hk _=>(r1.bel.block k (Array.getElem?_eq_some_iff.1 hk).1).trans hk⟩
  obtain⟨fn,tmps,asg,body,hy,hround⟩:=ok.yld i vs us w1 d2 (fun ρ'=>VRL.pl _ _ d5 hav) hJ
  obtain⟨dst,op,ty,pos,after,guard⟩:=oy
  dsimp only at hop d7 ⊢
  subst hop
  refine⟨bz none _ w1 _,?_⟩
  have hsem:({ dst:=dst,op:=.call cl,type:=ty,pos:=pos,after:=after,guard:=guard }:Oper).semAt (Fr none).round a1.eval=execOp a1.eval { dst:=dst,op:=.call cl,type:=ty,pos:=pos,after:=after,guard:=guard }:=
   Oper.semAt_eq _ _ _ fun c hc=>by cases hc
  rw[hsem]
  have hargs:cl.args.map a1.eval=us.toArray:=Array.toList_inj.1 (by simp[hus])
  have hof:(Deferred.ofValue (.func (.yield l) #[] #[]) us.toArray).run P w1=.ok { target:=.fn (.yield l) #[],args:=us.toArray } w1:=by simp[Deferred.ofValue]
  have hfe':a1.eval f=.func (.yield l) #[] #[]:=hfe
  have hrw:(execOp a1.eval { dst:=dst,op:=.call cl,type:=ty,pos:=pos,after:=after,guard:=guard }).run P w1=.ok (.round l fn tmps asg body) w1:=by
   simp only[execOp,resolve,hcal,hfe',hargs,Sem.run_bind,hof,Result.andThen_ok,invoke,hy]
  rw[hrw]
  refine⟨fun h=>by simp[Fr,Fence.wide]at h,RoundIn.mono hround ?_⟩
  rintro e W' ⟨b,rfl,hJ',hk1,hk2⟩
  dsimp only
  -- the state behind it
  obtain⟨ms,e1,e2,e3,e4⟩:=r1.df
  have hlim:∀ d∈ms++D0,S0<=d/\d<w1.heap.size:=by
   intro d hd
   rcases List.mem_append.1 hd with hd|hd
   ·exact⟨Nat.le_trans h2 (e3 d hd),(Array.getElem?_eq_some_iff.1 (e2 (marked d) (List.mem_map.2 ⟨d,hd,rfl⟩)).1).1⟩
   ·exact⟨(h4 d hd).1,Nat.lt_of_lt_of_le (h4 d hd).2 r1.bel.size⟩
  have hgsall:∀ p∈(ms++D0).map marked,w1.heap[p.1]?=some p.2/\p.2.isCells=false:=by
   intro p hp
   rw[List.map_append]at hp
   exact(List.mem_append.1 hp).elim (e2 p) (r1.gs p)
  have hgs':GsOk ((ms++D0).map marked) W':=by
   intro p hp
   obtain⟨q1,q2⟩:=hgsall p hp
   obtain⟨d,hd,rfl⟩:=List.mem_map.1 hp
   have hlt:d≠l:=by have:=(hlim d hd).1;have:=ok.lS;omega
   exact⟨hk2 d _ hlt q1 q2,q2⟩
  have hnd:(ms++D0).Nodup:=by
   refine List.nodup_append.2 ⟨e4,h3,fun x hx y hy hxy=>?_⟩
   have:=e3 x hx
   have:=(h4 y hy).2
   omega
  have hmback:∀ b r,b<cs.length+1->ρ1 b=some r->ρc b=some r:=by
   intro b r hb hr
   by_cases hbl:b<cs.length
   ·obtain⟨r',hr'⟩:=ok.cov b hbl
    have:=hc1 b r' (.inl hb) hr'
    rw[hr]at this;cases this;exact hr'
   ·obtain rfl:b=cs.length:=by omega
    rw[hyl]at hr;cases hr;exact ok.yl
  have hTR:TR ρc (dJ tm2 ts) a1:=by
   intro t
   clear d7
   induction ts with
   |nil=>trivial
   |cons x r ih=>
    simp only[List.all_cons,Bool.and_eq_true]at d6
    rw[dJ,bx]
    by_cases e:x=t
    ·subst e;rw[if_pos rfl];exact MK hmback d6.1 (htr x)
    ·rw[if_neg e];exact ih d6.2
  have hrelN:Rel E.G W'.heap.size W' W'.heap.size N ((ms++D0).map mark) ((ms++D0).map marked) ρc (dJ tm2 ts) (hp0 cs) a1 W':=
   ⟨hTR,ok.hr _ _ hJ',Below.refl _ _,r1.sz,⟨[],by rw[e1];simp,fun p hp=>by simp at hp,by simp,by simp⟩,hgs',Nat.le_refl _,Nat.le_refl _,Nat.le_refl _⟩
  obtain⟨tm3,hp3,ρ3,s1,s2,s3⟩:=hrelN.put (Ren.le_refl ρc) hrelN.hr hrelN.bel (KeepsOthers.refl W') (v:=.lit b) (u:=.bool b) rfl (d7 b)
  exact suffix _ tm3 hp3 _ W' ⟨ms++D0,W',ρ3,hJ',by have:=r1.bel.size;omega,hnd,fun d hd=>⟨(hlim d hd).1,by have:=(hlim d hd).2;omega⟩,s1,s2.leB⟩ s3
 have skip:∀ tm2,TR ρ1 tm2 a1->Ji E P m N ops.toList oy suf σ Q tm2 hp1->wpOpsIn (Fr none) n P ops (fun e a' w'=>∃ σ' tm' hp',It E N S0 ρc cs J σ' tm' hp' a' w'/\Q e σ' tm' hp') (List.range' (pre.length+1) suf.length) (a1.put oy.dst undef) w1:=by
  intro tm2 htr hs
  obtain⟨tm3,hp3,ρ3,s1,s2,s3⟩:=(r1.withTm htr).put (u:=undef) (Ren.le_refl ρ1) r1.hr r1.bel (KeepsOthers.refl w1) (v:=.junk) trivial hs
  exact suffix σ tm3 hp3 _ w1 ⟨D0,Wy,ρ3,h1,h2,h3,h4,s1,Ren.leB_trans hc1 s2.leB⟩ s3
 unfold YOp at r3
 split at r3
 ·rename_i hg
  rw[if_pos (by simp[Region.wanted,hg])]
  exact doit tm1 r1.tr r3
 ·rename_i j want hg
  split at r3
  ·exact r3.elim
  ·rename_i d hd'
   have hgv:=me (E:=E) (o:=oy) hg hd' (r1.tr d)
   split at r3
   ·rename_i hb;rw[hb]at hgv;rw[hgv];exact doit tm1 r1.tr r3
   ·rename_i hb;rw[hb]at hgv;rw[hgv];exact⟨bz none oy w1 _,skip tm1 r1.tr r3⟩
   ·rename_i g hb
    rw[hb]at hgv
    dsimp only at hgv
    rw[hgv]
    cases g with
    |true=>
     obtain⟨tm',hun,hs⟩:=dm _ _ (r3.1 rfl)
     exact doit _ ((hun rfl ρ1 a1 r1.tr).lit (gX hg hd' hgv)) hs
    |false=>
     refine⟨bz none oy w1 _,skip _ ?_ (r3.2 rfl)⟩
     unfold gno
     split
     ·rename_i b0 hl
      have h0:=r1.tr d
      rw[hl]at h0
      have h0:a1.tmps.getD d undef=.bool b0:=h0
      have hw:=jC hg hd' h0
      rw[hgv]at hw
      have e:b0=!want:=by cases b0<;>cases want<;>first|rfl|cases hw
      refine r1.tr.lit ?_
      rw[h0,e]
      exact rfl
     ·exact r1.tr
   ·exact r3.elim
theorem YG.yregAt(ok:ItOk E P n l S0 ρc cs L J)(m k:Nat){id:Nat}{ops:Array Oper}{oy:Oper}{cl:Call}{f:Operand}(hoy:ops.toList[k]?=some oy)(hop:oy.op=.call cl)(hcal:cl.callee=.value f)
  (h:sat E.G P (fun _ tm' hp'=>YOp E P m N cs L ops.toList oy cl f (ops.toList.drop (k+1)) σ Q tm' hp') (cZ E (hdl E m) N ops.toList (ops.toList.take k) tm hp (.ret .normal) noX)):YG E P n N S0 ρc cs J (.region id ops false) σ tm hp Q:=by
 refine YG.yreg ok m (ops.toList.take k) oy (ops.toList.drop (k+1)) ?_ hop hcal h
 obtain⟨hlt,he⟩:=List.getElem?_eq_some_iff.1 hoy
 rw[<-he,<-List.drop_eq_getElem_cons hlt,List.take_append_drop]
theorem Gg(hE:E.Fn P){f:FuncId}{fn:Func}{c:Code}(hf:P.funcs[f]?=some fn)(hb:fn.body=some c)(hres:fn.results=#[])(hlen:Nat.ble (cs.length+1) fn.ntmps=true)(hsm:Nat.blt (cs.length+1) ax=true)
  (h:∀ (n l S0:Nat) (ρc:Ren) (J:Option Nat->World->Prop),ItOk E P n l S0 ρc cs L J->YG E P n fn.ntmps S0 ρc cs J c (some 0) (cT 0 (.yl cs.length::Aw cs.length)) (hp0 cs) fun e σ _ _=>(e=.normal\/e=.ret)/\(σ=some L.length\/σ=none)):qJ E.G P f cs L:=by
 intro n l caps ρc J Jx W hv hyl hl hst hstx hJ hJx hy h0
 have hsm:=aM hsm
 have hlen:=Nat.le_of_ble_eq_true hlen
 have hcl:caps.length=cs.length:=by have:=hv.length;simpa[Aw]using this
 have ok:ItOk E P n l W.heap.size ρc cs L (fun σ W=>match σ with|some i=>J i W|none=>Jx W):=by
  refine⟨hE,fun σ W1 W2 h1 h2=>?_,fun σ W1 h1=>?_,hyl,fun i hi=>?_,hsm,hl,fun i vs us W1 h1 h2 h3=>?_⟩
  ·cases σ with
   |none=>exact hstx _ _ h1 h2
   |some i=>exact hst _ _ _ h1 h2
  ·cases σ with
   |none=>exact hJx _ h1
   |some i=>exact hJ _ _ h1
  ·obtain⟨u,_,r,hr,_⟩:=hv.get i (.ptr i 0 0) (by simp[Aw,hi])
   exact⟨r,hr⟩
  ·obtain⟨fn',t,x,y,e1,e2⟩:=hy i vs us W1 h1 h2 h3
   refine⟨fn',t,x,y,e1,e2.mono ?_⟩
   rintro e W' (⟨rfl,q1,q2⟩|⟨rfl,q1,q2⟩)
   ·exact⟨true,rfl,q1,q2⟩
   ·exact⟨false,rfl,q1,q2⟩
 have hyg:=h n l W.heap.size ρc _ ok
 refine callsIn_of_wp_marks hf hb trivial ?_
 have hh:=hJ 0 W h0
 have hus:VRL ρc (.yl cs.length::Aw cs.length) (.func (.yield l) #[] #[]::caps):=⟨_,_,rfl,⟨_,hyl,rfl⟩,hv⟩
 have harr:(#[Value.func (.yield l) #[] #[]]++caps.toArray)=(Value.func (.yield l) #[] #[]::caps).toArray:=by simp
 rw[harr]
 have hit:It E fn.ntmps W.heap.size ρc cs (fun σ W=>match σ with|some i=>J i W|none=>Jx W) (some 0) (cT 0 (.yl cs.length::Aw cs.length)) (hp0 cs)
   { tmps:=(Value.func (.yield l) #[] #[]::caps).toArray++Array.replicate (fn.ntmps-(Value.func (.yield l) #[] #[]::caps).toArray.size) undef,defers:=[] } W:=by
  refine⟨[],W,ρc,h0,Nat.le_refl _,List.nodup_nil,by simp,⟨?_,hh,Below.refl _ W,?_,⟨[],rfl,fun p hp=>by simp at hp,by simp,by simp⟩,fun p hp=>by simp at hp,Nat.le_refl _,Nat.le_refl _,Nat.le_refl _⟩,Ren.leB_refl _ _⟩
  ·simpa using TR.init ρc _ _ fn.ntmps hus
  ·simp[hcl];omega
 refine wpIn_mono (hyg _ _ hit) ?_
 rintro e a' w' ⟨σ,tm,hp,⟨D0,Wy,ρ,g1,g2,g3,g4,g5,g6⟩,he,hσ⟩
 have hpost:LeavesInM (Fr none) n P fn a'.tmps (fun e W'=>(∃ v,e=.returned v)/\(J L.length W'\/Jx W')) a'.defers .returning w':=by
  obtain⟨ms,hd1,hd2,hd3,hd4⟩:=g5.df
  rw[hd1,<-List.map_append]
  have hall:∀ d∈ms++D0,w'.heap[d]?=some (.deferred (some []))/\W.heap.size<=d:=by
   intro d hd
   rcases List.mem_append.1 hd with hd|hd
   ·exact⟨(hd2 (marked d) (List.mem_map.2 ⟨d,hd,rfl⟩)).1,Nat.le_trans g2 (hd3 d hd)⟩
   ·exact⟨(g5.gs (marked d) (List.mem_map.2 ⟨d,hd,rfl⟩)).1,(g4 d hd).1⟩
  refine dK (S:=W.heap.size) (ms++D0) w' (fun p hp=>?_) (List.nodup_append.2 ⟨hd4,g3,fun x hx y hy hxy=>?_⟩) (fun d hd=>(hall d hd).2) ?_
  ·obtain⟨d,hd,rfl⟩:=List.mem_map.1 hp
   exact⟨(hall d hd).1,rfl⟩
  ·have:=hd3 x hx
   have:=(g4 y hy).2
   omega
  intro w2 h1 h2 h3 h4 h5 h6
  have hkeep:∀ (k:Nat) (o:Obj),w'.heap[k]?=some o->(k<W.heap.size\/o.isCells=true)->w2.heap[k]?=some o:=by
   intro k o hk hor
   rw[h5 k fun d hd e=>?_]
   ·exact hk
   ·obtain⟨q1,q2⟩:=hall d hd
    subst e
    rw[q1]at hk
    cases hk
    rcases hor with hor|hor
    ·omega
    ·cases hor
  have hJ2:(fun σ W=>match σ with|some i=>J i W|none=>Jx W) σ w2:=by
   refine ok.stab σ Wy w2 g1 ⟨by rw[h2];exact g5.bel.os,by rw[h3];exact g5.bel.tape,by rw[h4];exact g5.bel.output,by have:=g5.bel.size;omega,fun k o hk hor=>?_⟩
   exact hkeep k o ((g5.bel.block k (Array.getElem?_eq_some_iff.1 hk).1).trans hk) hor
  have hhr:=g5.hr.cellsSame (w':=w2) (fun k ob hk hob=>hkeep k ob hk (.inr hob)) (by omega)
  obtain⟨u,hrun,_⟩:=hO (l:=[]) hE.ok g5.tr hhr (fn:=fn) (by rw[hres];rfl)
  refine⟨u,hrun,⟨u,rfl⟩,?_⟩
  rcases hσ with rfl|rfl
  ·exact .inl hJ2
  ·exact .inr hJ2
 rcases he with rfl|rfl<;>exact hpost
end
end Go.Ab
namespace Go.Ab
section
def yN{α:Type}(n:Int)(k:Int->α):α:=
 match n with
 |.ofNat m=>eY m fun m=>k (.ofNat m)
 |.negSucc m=>eY m fun m=>k (.negSucc m)
theorem ue{α:Type}(n:Int)(k:Int->α):yN n k=k n:=by cases n<;>simp[yN,fO]
def nj{α:Type}:List Int->(List Int->α)->α
 |[],k=>k []
 |n::l,k=>yN n fun n=>nj l fun l=>k (n::l)
theorem pQ{α:Type}(l:List Int)(k:List Int->α):nj l k=k l:=by
 induction l generalizing k with
 |nil=>rfl
 |cons n l ih=>simp[nj,ue,ih]
def Eo{α:Type}(b:Bool)(k:Bool->α):α:=
 match b with
 |true=>k true
 |false=>k false
theorem sS{α:Type}(b:Bool)(k:Bool->α):Eo b k=k b:=by cases b<;>rfl
def xL{α:Type}:List UInt8->(List UInt8->α)->α
 |[],k=>k []
 |n::l,k=>eY n.toNat fun m=>xL l fun l=>k (UInt8.ofNat m::l)
theorem BX{α:Type}(l:List UInt8)(k:List UInt8->α):xL l k=k l:=by
 induction l generalizing k with
 |nil=>rfl
 |cons n l ih=>simp[xL,fO,ih]
def mq{α:Type}:List (List Int)->(List (List Int)->α)->α
 |[],k=>k []
 |n::l,k=>nj n fun n=>mq l fun l=>k (n::l)
theorem vv{α:Type}(l:List (List Int))(k:List (List Int)->α):mq l k=k l:=by
 induction l generalizing k with
 |nil=>rfl
 |cons n l ih=>simp[mq,pQ,ih]
mutual
def tQ{α:Type}:V->(V->α)->α
 |.lit b,k=>Eo b fun b=>k (.lit b)
 |.bool b,k=>Eo b fun b=>k (.lit b)
 |.int q n,k=>yN n fun n=>k (.int q n)
 |.str s,k=>xL s fun s=>k (.str s)
 |.ptr b i j,k=>eY b fun b=>eY i fun i=>eY j fun j=>k (.ptr b i j)
 |.sl b i n c,k=>eY b fun b=>eY i fun i=>eY n fun n=>k (.sl b i n c)
 |.agg l,k=>zf l fun l=>k (.agg l)
 |.tup l,k=>zf l fun l=>k (.tup l)
 |.nilp,k=>k .nilp
 |.nils,k=>k .nils
 |.fn f c,k=>k (.fn f c)
 |.nilf,k=>k .nilf
 |.yl l,k=>k (.yl l)
 |.nili,k=>k .nili
 |.when g w,k=>k (.when g w)
 |.junk,k=>k .junk
def zf{α:Type}:List V->(List V->α)->α
 |[],k=>k []
 |v::l,k=>tQ v fun v=>zf l fun l=>k (v::l)
end
def Like(v v':V):Prop:=∀ ρ u,VR ρ v u->VR ρ v' u
def Oz(l l':List V):Prop:=∀ ρ us,VRL ρ l us->VRL ρ l' us
mutual
theorem qD{α:Type}(v:V)(k:V->α):∃ v',Like v v'/\tQ v k=k v':=by
 cases v with
 |agg l=>
  obtain⟨l',h1,h2⟩:=qL l (fun l=>k (.agg l))
  exact⟨.agg l',fun ρ u ⟨us,e,h⟩=>⟨us,e,h1 ρ us h⟩,by rw[tQ,h2]⟩
 |tup l=>
  obtain⟨l',h1,h2⟩:=qL l (fun l=>k (.tup l))
  exact⟨.tup l',fun ρ u ⟨us,e,h⟩=>⟨us,e,h1 ρ us h⟩,by rw[tQ,h2]⟩
 |bool b=>exact⟨.lit b,fun _ _ h=>h,by simp[tQ,sS]⟩
 |_=>exact⟨_,fun _ _ h=>h,by simp[tQ,sS,ue,BX,fO]⟩
theorem qL{α:Type}(l:List V)(k:List V->α):∃ l',Oz l l'/\zf l k=k l':=by
 cases l with
 |nil=>exact⟨[],fun _ _ h=>h,rfl⟩
 |cons v l=>
  obtain⟨v',h1,h2⟩:=qD v (fun v=>zf l fun l=>k (v::l))
  obtain⟨l',h3,h4⟩:=qL l (fun l=>k (v'::l))
  exact⟨v'::l',fun ρ us ⟨u,r,e,h,h'⟩=>⟨u,r,e,h1 ρ u h,h3 ρ r h'⟩,by rw[zf,h2,h4]⟩
end
def qx{α:Type}:Tm->Nat->(Tm->α)->α
 |[],_,k=>k []
 | (t,v)::r,seen,k=>match Nat.testBit seen t with
  |true=>qx r seen k
  |false=>tQ v fun v=>match v with
   |.junk=>qx r (seen ||| 2^t) k
   |v=>qx r (seen ||| 2^t) fun r=>k ((t,v)::r)
theorem nF(seen t s:Nat):Nat.testBit (seen ||| 2^t) s=(Nat.testBit seen s||decide (t=s)):=by
 rw[Nat.testBit_or,Nat.testBit_two_pow]
theorem mh{α:Type}:∀ (tm:Tm) (seen:Nat) (k:Tm->α),∃ tm',(∀ s,Nat.testBit seen s=false->Like (look tm s) (look tm' s))/\(∀ s,Nat.testBit seen s=true->look tm' s=.junk)/\qx tm seen k=k tm'
 |[],seen,k=>⟨[],fun _ _ _ _ h=>h,fun _ _=>rfl,rfl⟩
 | (t,v)::r,seen,k=>by
  unfold qx
  cases hb:Nat.testBit seen t with
  |true=>
   obtain⟨tm',h1,h2,h3⟩:=mh r seen k
   refine⟨tm',fun s hs=>?_,h2,h3⟩
   rw[bx]
   by_cases e:t=s
   ·subst e;rw[hb]at hs;cases hs
   ·rw[if_neg e];exact h1 s hs
  |false=>
   obtain⟨v',hv,he⟩:=qD v fun v=>match v with
    |.junk=>qx r (seen ||| 2^t) k
    |v=>qx r (seen ||| 2^t) fun r=>k ((t,v)::r)
   dsimp only
   rw[he]
   have main:∃ tm',(∀ s,Nat.testBit seen s=false->Like (look ((t,v)::r) s) (look tm' s))/\(∀ s,Nat.testBit seen s=true->look tm' s=.junk)/\(qx r (seen ||| 2^t) fun r=>k ((t,v')::r))=k tm':=by
    obtain⟨tm',h1,h2,h3⟩:=mh r (seen ||| 2^t) (fun r=>k ((t,v')::r))
    refine⟨(t,v')::tm',fun s hs=>?_,fun s hs=>?_,h3⟩
    ·rw[bx,bx]
     by_cases e:t=s
     ·rw[if_pos e,if_pos e];exact hv
     ·rw[if_neg e,if_neg e];exact h1 s (by rw[nF,hs];simp[e])
    ·have e:t≠s:=by rintro rfl;rw[hb]at hs;cases hs
     rw[bx,if_neg e];exact h2 s (by rw[nF,hs];rfl)
   cases v' with
   |junk=>
    obtain⟨tm',h1,h2,h3⟩:=mh r (seen ||| 2^t) k
    refine⟨tm',fun s hs=>?_,fun s hs=>h2 s (by rw[nF,hs];rfl),h3⟩
    rw[bx]
    by_cases e:t=s
    ·subst e;rw[if_pos rfl,h2 t (by rw[nF];simp)];exact fun _ _ _=>trivial
    ·rw[if_neg e];exact h1 s (by rw[nF,hs];simp[e])
   |_=>exact main
def KE{α:Type}(o:O)(k:O->α):α:=
 match o with
 |.ints w q zs=>nj zs fun zs=>k (.ints w q zs)
 |.rows w ks rs=>mq rs fun rs=>k (.rows w ks rs)
 |o=>k o
theorem Hu{α:Type}(o:O)(k:O->α):KE o k=k o:=by cases o<;>simp[KE,pQ,vv]
def vY{α:Type}:List O->(List O->α)->α
 |[],k=>k []
 |o::l,k=>KE o fun o=>vY l fun l=>k (o::l)
theorem wU{α:Type}(l:List O)(k:List O->α):vY l k=k l:=by
 induction l generalizing k with
 |nil=>rfl
 |cons o l ih=>simp[vY,Hu,ih]
abbrev Out:=Option (Exit×Tm×List O)
def runT(lp:Code->Nat->Nat->Tm->List O->Out):T->Out
 |.ret e tm hp=>some (e,tm,hp)
 |.br b x y=>match b with
  |true=>runT lp x
  |false=>runT lp y
 |.need b x=>match b with
  |true=>runT lp x
  |false=>none
 |.loop c μ N tm hp k=>match lp c μ N tm hp with
  |some (e,tm',hp')=>runT lp (k e tm' hp')
  |none=>none
 |.isnil _ _=>none
 |.fail=>none
def runL(E:Env)(hd:Hd):Nat->Code->Nat->Nat->Tm->List O->Out
 |0,_,_,_,_,_=>none
 |n+1,c,μ,N,tm,hp=>match c with
  |.loop body=>qx tm 0 fun tm=>vY hp fun hp=>match runT (runL E hd n) (evC E hd μ N body tm hp .ret) with
   |some (e,tm',hp')=>match e with
    |.normal=>runL E hd n (.loop body) μ N tm' hp'
    |e=>some (e,tm',hp')
   |none=>none
  |_=>none
section
variable{E:Env}{P:Program}{hd:Hd}
theorem EV{G:List O}{lp:Code->Nat->Nat->Tm->List O->Out}(hlp:∀ c μ N tm hp r,lp c μ N tm hp=some r->Good G P μ N c tm hp fun e tm' hp'=>r=(e,tm',hp')) :
  ∀ (t:T) (r:Exit×Tm×List O),runT lp t=some r->sat G P (fun e tm hp=>r=(e,tm,hp)) t:=by
 intro t
 induction t with
 |ret e tm hp=>intro r h;simp only[runT,Option.some.injEq]at h;exact h.symm
 |br b x y ihx ihy=>
  intro r h
  cases b
  ·exact⟨fun e=>(by cases e),fun _=>ihy r h⟩
  ·exact⟨fun _=>ihx r h,fun e=>(by cases e)⟩
 |need b x ih=>
  intro r h
  cases b
  ·cases h
  ·exact⟨rfl,ih r h⟩
 |loop c μ N tm hp k ih=>
  intro r h
  simp only[runT]at h
  split at h
  ·rename_i e tm' hp' hx
   refine⟨_,hlp _ _ _ _ _ _ hx,?_⟩
   rintro e2 tm2 hp2 h2
   cases h2
   exact ih _ _ _ r h
  ·cases h
 |isnil n f=>intro r h;cases h
 |fail=>intro r h;cases h
theorem nD{F:Fence}{n:Nat}{body:Code}{Q Q':Exit->Act->World->Prop}(hq:∀ e a w,Q e a w->Q' e a w):∀ (m:Nat) (a:Act) (w:World),Code.roundsIn F n P body Q m a w->Code.roundsIn F n P body Q' m a w
 |0,_,_,h=>h
 |m+1,a,w,h=>by
  rw[roundsIn_succ]at h ⊢
  refine wpIn_mono h ?_
  intro e a' w' h'
  cases e with
  |normal=>exact nD hq m a' w' h'
  |_=>exact hq _ _ _ h'
theorem fb{G:List O}{Q Q':Exit->Tm->List O->Prop}(hq:∀ e tm hp,Q e tm hp->Q' e tm hp):∀ {t:T},sat G P Q t->sat G P Q' t:=by
 intro t
 induction t with
 |ret e tm hp=>exact hq e tm hp
 |br b x y ihx ihy=>exact fun h=>⟨fun e=>ihx (h.1 e),fun e=>ihy (h.2 e)⟩
 |need b x ih=>exact fun h=>⟨h.1,ih h.2⟩
 |loop c μ N tm hp k ih=>exact fun⟨R,h1,h2⟩=>⟨R,h1,fun e tm' hp' hr=>ih e tm' hp' (h2 e tm' hp' hr)⟩
 |isnil n f ih=>exact fun h b hb=>ih b (h b hb)
 |fail=>exact id
theorem wk(hm:P.follows .mixedOrders=true)(hE:E.Ok P)(hpg:PgOk E P)(hps:PsOk E P)(hhd:HdOk E.G P hd):∀ (n:Nat) (c:Code) (μ N:Nat) (tm:Tm) (hp:List O) (r:Exit×Tm×List O),runL E hd n c μ N tm hp=some r ->
  ∃ body,c=.loop body/\∀ B w0 S D gs ρ a w k ro,(ro=none\/bG body=true)->Rel E.G B w0 S N D gs ρ tm hp a w ->
   Code.roundsIn (Fr ro) k P body (fun e a' w'=>∃ tm' hp' ρ',Rel E.G B w0 S N D gs ρ' tm' hp' a' w'/\ρ.leB μ ρ'/\r=(e,tm',hp')) n a w:=by
 intro n
 induction n with
 |zero=>intro c μ N tm hp r h;cases h
 |succ n ih=>
  intro c μ N tm hp r h
  have good:∀ c μ N tm hp r,runL E hd n c μ N tm hp=some r->Good E.G P μ N c tm hp fun e tm' hp'=>r=(e,tm',hp'):=by
   intro c μ N tm hp r h
   obtain⟨body,rfl,h2⟩:=ih c μ N tm hp r h
   exact fun B w0 S D gs ρ a w k ro hro hr=>wpIn_loop_rounds n (h2 B w0 S D gs ρ a w k ro hro hr)
  simp only[runL]at h
  split at h
  ·rename_i body
   refine⟨body,rfl,?_⟩
   intro B w0 S D gs ρ a w k ro hro hr
   obtain⟨tm1,h1,_,h2⟩:=mh tm 0 (fun tm=>vY hp fun hp=>match runT (runL E hd n) (evC E hd μ N body tm hp .ret) with
    |some (e,tm',hp')=>match e with
     |.normal=>runL E hd n (.loop body) μ N tm' hp'
     |e=>some (e,tm',hp')
    |none=>none)
   rw[h2,wU]at h
   have hr:=hr.withTm (fun t=>h1 t (Nat.zero_testBit t) ρ _ (hr.tr t))
   split at h
   ·rename_i e tm2 hp2 hx
    have hb:=dP hm hE hpg hps hhd body tm1 hp .ret _ (EV (P:=P) good _ _ hx)
    rw[roundsIn_succ]
    refine wpIn_mono (hb B w0 S D gs ρ a w k ro hro hr) ?_
    rintro e' a' w' ⟨tm',hp',ρ',h',hl,hq⟩
    cases hq
    cases e with
    |normal=>
     obtain⟨body',hb',h3⟩:=ih _ _ _ _ _ _ h
     cases hb'
     refine nD ?_ n a' w' (h3 B w0 S D gs ρ' a' w' k ro hro h')
     rintro e2 a2 w2 ⟨tm3,hp3,ρ3,h3,hl3,hq3⟩
     exact⟨tm3,hp3,ρ3,h3,Ren.leB_trans hl hl3,hq3⟩
    |_=>cases h;exact⟨_,_,ρ',h',hl,rfl⟩
   ·cases h
  ·cases h
theorem Lx(hm:P.follows .mixedOrders=true)(hE:E.Ok P)(hpg:PgOk E P)(hps:PsOk E P)(hhd:HdOk E.G P hd)(n:Nat)(c:Code)(μ N:Nat)(tm:Tm)(hp:List O)(r:Exit×Tm×List O)(h:runL E hd n c μ N tm hp=some r):Good E.G P μ N c tm hp fun e tm' hp'=>r=(e,tm',hp'):=by
 obtain⟨body,rfl,h2⟩:=wk hm hE hpg hps hhd n c μ N tm hp r h
 exact fun B w0 S D gs ρ a w k ro hro hr=>wpIn_loop_rounds n (h2 B w0 S D gs ρ a w k ro hro hr)
mutual
def vQ:V->List Nat->List Nat
 |.sl b _ _ _,acc=>match acc.contains b with
  |true=>acc
  |false=>acc++[b]
 |.agg l,acc=>Jz l acc
 |.tup l,acc=>Jz l acc
 |_,acc=>acc
def Jz:List V->List Nat->List Nat
 |[],acc=>acc
 |v::l,acc=>Jz l (vQ v acc)
end
def sK(E:Env)(n fuel:Nat)(fn:Func)(args:List V)(H:List O):Option (V×List O):=
 match fn.body with
 |none=>none
 |some c=>match Nat.ble args.length fn.ntmps with
  |false=>none
  |true=>match runT (runL E (hdl E n) fuel) (evC E (hdl E n) H.length fn.ntmps c (cT 0 args) H .ret) with
   |none=>none
   |some (e,tm,hp)=>match (match e with|.normal=>true|.ret=>true|_=>false) with
    |false=>none
    |true=>match resV E tm hp fn.results.toList with
     |none=>none
     |some l=>match V.out (vQ (bM l) []) H.length (bM l) with
      |none=>none
      |some v=>match decide (vQ (bM l) []).Nodup&&(vQ (bM l) []).all (fun b=>Nat.blt b ax&&(hp.getD b .gone).isData)&&Nat.blt (H.length+(vQ (bM l) []).length+1) ax with
       |false=>none
       |true=>tQ v fun v=>vY ((vQ (bM l) []).map (hp.getD · .gone)) fun N=>some (v,N)
theorem ay.like{G:List O}{f:FuncId}{args:List V}{H:List O}{v v':V}{N:List O}(h:ay G P f args H v N)(hv:Like v v'):ay G P f args H v' N:=fun ρ us w h1 h2=>
 (h ρ us w h1 h2).mono fun _ _ ⟨u,ρ',e,hu,h3⟩=>⟨u,ρ',e,hv _ _ hu,h3⟩
theorem yL(hE:E.Fn P){n fuel:Nat}{f:FuncId}{fn:Func}(hf:P.funcs[f]?=some fn){args:List V}{H:List O}{v:V}{N:List O}(h:sK E n fuel fn args H=some (v,N)):fn.body.isSome=true/\ay E.G P f args H v N:=by
 unfold sK at h
 split at h
 ·cases h
 ·rename_i c hc
  refine⟨by simp[hc],?_⟩
  split at h
  ·cases h
  ·rename_i hlen
   split at h
   ·cases h
   ·rename_i e tm hp hrun
    split at h
    ·cases h
    ·rename_i he
     split at h
     ·cases h
     ·rename_i l hres
      split at h
      ·cases h
      ·rename_i v0 hout
       split at h
       ·cases h
       ·rename_i hok
        simp only[Bool.and_eq_true,decide_eq_true_eq,List.all_eq_true]at hok
        obtain⟨⟨hnd,hall⟩,hbl⟩:=hok
        obtain⟨v1,hl,h2⟩:=qD v0 (fun v=>vY ((vQ (bM l) []).map (hp.getD · .gone)) fun N=>some (v,N))
        rw[h2,wU]at h
        cases h
        refine ay.like (av hE n hf hc hlen ?_) hl
        have hs:=EV (P:=P) (G:=E.G) (fun c μ N tm hp r h=>Lx hE.mixed hE.ok (gj hE) (eN hE) (cG hE n) fuel c μ N tm hp r h) _ _ hrun
        refine fb (Q:=fun e1 tm1 hp1=>(e,tm,hp)=(e1,tm1,hp1)) ?_ hs
        rintro e' tm' hp' h3
        cases h3
        refine⟨by cases e<;>simp_all,l,_,hres,hout,hnd,fun b hb=>⟨aM (hall b hb).1,(hall b hb).2⟩,rfl,aM hbl⟩
end
def qI(E:Env)(xs:List (FuncId×Func))(fuel:Nat):Nat->FuncId->List V->List O->Option (Bool×V×List O)
 |0=>E.pf
 |d+1=>fun f a h=>match E.pf f a h with
  |some r=>some r
  |none=>match assoc xs f with
   |some fn=>match sK { E with pf:=qI E xs fuel d,cc:=true } 3 fuel fn a h with
    |some (v,N)=>match Nat.ble BM f with
     |false=>some (true,v,N)
     |true=>none
    |none=>none
   |none=>none
theorem yB{E:Env}{P:Program}{xs:List (FuncId×Func)}{fuel:Nat}(hE:E.Fn P)(hx:qV P xs):∀ d,({ E with pf:=qI E xs fuel d,cc:=true }:Env).Fn P
 |0=>⟨⟨hE.ok.ty⟩,hE.mixed,hE.pf,hE.inl,hE.pn⟩
 |d+1=>by
  refine⟨⟨hE.ok.ty⟩,hE.mixed,fun f a h c v N e hc=>?_,hE.inl,hE.pn⟩
  change qI E xs fuel (d+1) f a h=_ at e
  simp only[qI]at e
  split at e
  ·rename_i r hr
   cases e
   exact hE.pf f a h c v N hr hc
  ·split at e
   ·rename_i fn hfn
    split at e
    ·rename_i v1 N1 hrun
     split at e
     ·rename_i hlo
      cases e
      obtain⟨h1,h2⟩:=AO hx hfn
      obtain⟨h3,h4⟩:=yL (yB hE hx d) h1 hrun
      exact⟨⟨fn,h1,h2,h3,hlo⟩,h4⟩
     ·cases e
    ·cases e
   ·cases e
theorem bw{E:Env}{P:Program}(hE:E.Fn P){xs:List (FuncId×Func)}(hx:qV P xs)(fuel d:Nat){f:FuncId}{fn:Func}(hf:P.funcs[f]?=some fn){a:List V}{h:List O}{v:V}{N:List O}
  (hr:sK { E with pf:=qI E xs fuel d,cc:=true } 3 fuel fn a h=some (v,N)):ay E.G P f a h v N:=(yL (yB hE hx d) hf hr).2
end
end Go.Ab
namespace Go.Ab
open IntKind
open Go.RowKit
section
variable{E:Env}{P:Program}{N:Nat}{tm:Tm}{hp:List O}{G:List O}
theorem BI(hE:E.Fn P)(n μ':Nat){μ:Nat}{g:Operand}{ps:Array Tmp}{asg body:Code}{k:Exit->Tm->List O->T}{Q:Exit->Tm->List O->Prop}{tm1:Tm}{hp1:List O}
  {f:FuncId} {caps:List V} {cs L:List (List V)} (bs ts:List Nat) (h0:Ent E.G μ tm hp tm1 hp1)
  (hsq:qJ E.G P f cs L) (hL:∀ vs∈L,vs.length=ps.size) (hent:fq P f)
  (hg:evA E tm1 g=.fn f caps) (hμ:Nat.ble μ μ'=true) (htl:limL μ' ((dJ tm1 ts).map (·.2))=true) (hpl:(bG asg&&bG body)=true) (hps:ps.toList.all (fun p=>Nat.blt p N)=true)
  (hbs:(bs.all (fun b=>Nat.blt b μ')&&Nat.blt (bs.length+1) ax)=true)
  (I:Nat->List O->Prop) (X:Exit->List O->Prop) (hi:I 0 hp1) (hcap:∀ i hp',I i hp'->iW hp' caps=some (bs,cs)) (hcapx:∀ e hp',X e hp'->iW hp' caps=some (bs,cs))
  (hround:∀ i vs hp',L[i]?=some vs->I i hp'->sat E.G P (fun e tm2 hp2=>e=.normal/\sat E.G P (fun e _ hp3=>∃ hp4,Ent E.G μ' [] hp3 [] hp4/\match e with
    |.normal=>I (i+1) hp4
    |.ret=>X .ret hp4
    |.exit id=>X (.exit id) hp4
    |_=>False) (evC E (hdl E n) μ' N body tm2 hp2 .ret)) (evC E (hdl E n) μ' N asg (putPs ps.toList vs (dJ tm1 ts)) hp' .ret))
  (hend:∀ hp',I L.length hp'->sat E.G P Q (k .normal (dJ tm1 ts) hp')) (hx:∀ e hp',X e hp'->sat E.G P Q (k e (dJ tm1 ts) hp')) :
  sat E.G P Q (.loop (.rangeFunc g ps asg body) μ N tm hp k):=by
 refine⟨fun e tm' hp'=>sat E.G P Q (k e tm' hp'),?_,fun _ _ _ h=>h⟩
 refine Good.ent h0 (Good.range (μ:=μ) (μ':=μ') hμ hg ⟨ts,rfl⟩ htl hent hsq hpl hps hL I X hi hbs hcap hcapx ?_ hend hx)
 intro i vs hp' h1 h2
 refine⟨fun tm2 hp2=>sat E.G P (fun e _ hp3=>∃ hp4,Ent E.G μ' [] hp3 [] hp4/\match e with
    |.normal=>I (i+1) hp4
    |.ret=>X .ret hp4
    |.exit id=>X (.exit id) hp4
    |_=>False) (evC E (hdl E n) μ' N body tm2 hp2 .ret),?_,fun tm2 hp2 h3=>?_⟩
 ·exact dP hE.mixed hE.ok (gj hE) (eN hE) (cG hE n) asg _ _ _ _ (hround i vs hp' h1 h2)
 ·exact dP hE.mixed hE.ok (gj hE) (eN hE) (cG hE n) body _ _ _ _ h3
theorem Ent.phanT{μ:Nat}{t:Nat}{o:O}(ht:look tm t=.nils)(ho:o≠.gone/\o≠.rsv/\o.wf/\o.len=0)(hsm:hp.length+1<ax) :
  Ent G μ tm hp ((t,.sl hp.length 0 0 none)::tm) (hp++[o]):=by
 intro B ρ a w htr hh
 have hfree:=hh.free hp.length (Nat.le_refl _) (by omega)
 have hle:=Ren.le_add hfree { blk:=0,base:=0,m:=1,n:=0,cp:=0,ph:=true }
 have hget:∀ i x,ρ i=some x->getO G (hp++[o]) i=getO G hp i:=by
  intro i x hx
  by_cases hi:i<ax
  ·have:i<hp.length:=by
    rcases Nat.lt_or_ge i hp.length with h|h
    ·exact h
    ·rw[hh.free i h hi]at hx;cases hx
   rw[aB hi,aB hi]
   simp[List.getD,List.getElem?_append_left this]
  ·rw[aA (by omega),aA (by omega)]
 have hgetn:getO G (hp++[o]) hp.length=o:=by
  rw[aB (by omega)]
  simp[List.getD]
 have hc:∀ i r,(ρ.add hp.length { blk:=0,base:=0,m:=1,n:=0,cp:=0,ph:=true }) i=some r->(i=hp.length/\r.ph=true/\r.n=0)\/ρ i=some r:=by
  intro i r hr
  by_cases e:i=hp.length
  ·subst e;rw[Ren.add_same]at hr;cases hr;exact .inl ⟨rfl,rfl,rfl⟩
  ·rw[Ren.add_other _ _ e]at hr;exact .inr hr
 refine⟨_,hle.leB,fun t'=>?_,?_,?_,fun i h1=>?_,?_,?_,?_,by simp;omega⟩
 ·rw[bx]
  by_cases e:t=t'
  ·subst e
   rw[if_pos rfl]
   have:=htr t
   rw[ht]at this
   exact⟨_,Ren.add_same _ _ _,Nat.le_refl _,fun _=>⟨rfl,this⟩,fun e=>by cases e⟩
  ·rw[if_neg e];exact VR.mono hle _ _ (htr t')
 ·intro i r hr hal
  rcases hc i r hr with⟨rfl,h2,h3⟩|h2
  ·rw[hgetn]
   exact⟨ho.1,ho.2.1,ho.2.2.1,by rw[ho.2.2.2];exact h3,fun _=>h3,fun e=>(by rw[h2]at e;cases e),fun e=>(by rw[h2]at e;cases e),fun e=>(by rw[h2]at e;cases e),fun e=>(by rw[h2]at e;cases e),fun _ e=>(by rw[h2]at e;cases e)⟩
  ·rw[hget i r h2]at hal ⊢
   exact(hh.blocks i r h2 hal).mono hle
 ·intro i h1 h2
  simp only[List.length_append,List.length_singleton]at h1
  rw[Ren.add_other _ _ (by omega)]
  exact hh.free i (by omega) h2
 ·cases hx:(ρ.add hp.length { blk:=0,base:=0,m:=1,n:=0,cp:=0,ph:=true }) i with
  |none=>rfl
  |some r=>
   rcases hc i r hx with⟨rfl,_⟩|h2
   ·rw[hgetn]at h1;exact absurd h1 ho.2.1
   ·rw[hget i r h2]at h1;rw[hh.rsv i h1]at h2;cases h2
 ·intro i r hr how hp0
  rcases hc i r hr with⟨rfl,h2,h3⟩|h2
  ·rw[h2]at hp0;cases hp0
  ·rw[hget i r h2]at how;exact hh.base i r h2 how hp0
 ·intro i i' r r' hr hr' hal hp0 hp0' how hne
  rcases hc i r hr with⟨rfl,h2,h3⟩|h2
  ·rw[h2]at hp0;cases hp0
  ·rcases hc i' r' hr' with⟨rfl,h2',h3'⟩|h2'
   ·rw[h2']at hp0';cases hp0'
   ·exact hh.apart i i' r r' h2 h2' (by rw[hget i' r' h2']at hal;exact hal) hp0 hp0' (by rw[hget i r h2]at how;exact how) hne
 ·intro g o' hg
  obtain⟨r,h1,h2⟩:=hh.glob g o' hg
  exact⟨r,hle _ _ h1,h2⟩
section
variable{B:Nat}{w0:World}{gs:List (Nat×Obj)}{ρ:Ren}{w:World}
theorem rU(hE:E.Fn P)(m:Nat){f:FuncId}{fn:Func}{c:Code}(hf:P.funcs[f]?=some fn)(hb:fn.body=some c){args:List V}{us:List Value}
  (hus:VRL ρ args us) (hlen:args.length<=fn.ntmps) (hh:HR E.G B ρ hp w) (hbel:Below B w0 w) (hB:B<=w0.heap.size) (hgs:GsOk gs w) {n:Nat} {Q:Exit->Tm->List O->Prop}
  (hs:sat E.G P Q (evC E (hdl E m) hp.length fn.ntmps c (cT 0 args) hp .ret)) {R:V->List O->Prop}
  (hk:∀ e tm hp0,Q e tm hp0->∃ tm2 hp2,Ent E.G hp.length tm hp0 tm2 hp2/\(e=.normal\/e=.ret)/\∃ l,resV E tm2 hp2 fn.results.toList=some l/\R (bM l) hp2) :
  CallsIn (Fr none) n P f us.toArray w fun e w'=>∃ u,e=.returned u/\∃ v hp' ρ',VR ρ' v u/\HR E.G B ρ' hp' w'/\ρ.le ρ'/\Below B w0 w'/\GsOk gs w'/\R v hp':=by
 refine callsIn_of_wp_marks hf hb trivial ?_
 have hl:=hus.length
 have hrel:Rel E.G B w0 w.heap.size fn.ntmps [] gs ρ (cT 0 args) hp { tmps:=us.toArray++Array.replicate (fn.ntmps-us.toArray.size) undef,defers:=[] } w:=
  ⟨by simpa using TR.init ρ args us fn.ntmps hus,hh,hbel,by simp;omega,⟨[],rfl,fun p hp=>by simp at hp,by simp,by simp⟩,hgs,hB,hbel.size,Nat.le_refl _⟩
 refine wpIn_mono (dP hE.mixed hE.ok (gj hE) (eN hE) (cG hE m) c _ _ .ret Q hs B w0 w.heap.size [] gs ρ _ w n none (.inl rfl) hrel) ?_
 rintro e a' w' ⟨tm0,hp0,ρ0,h0,hl0,hs'⟩
 obtain⟨tm',hp',hent,he,l,hres,hR⟩:=hk _ _ _ hs'
 obtain⟨ρ',l1,h'⟩:=h0.ent hent
 have hl':ρ.le ρ':=fun b r e=>by
  have hc:b<hp.length\/ax<=b:=by
   by_cases h1:b<hp.length
   ·exact .inl h1
   ·by_cases h2:ax<=b
    ·exact .inr h2
    ·rw[hh.free b (by omega) (by omega)]at e;cases e
  exact l1 b r hc (hl0 b r hc e)
 have hpost:LeavesInM (Fr none) n P fn a'.tmps (fun e w'=>∃ u,e=.returned u/\∃ v hp' ρ',VR ρ' v u/\HR E.G B ρ' hp' w'/\ρ.le ρ'/\Below B w0 w'/\GsOk gs w'/\R v hp') a'.defers .returning w':=by
  obtain⟨ms,hd1,hd2,hd3,hd4⟩:=h'.df
  rw[hd1,List.append_nil]
  refine dK (S:=w.heap.size) ms w' hd2 hd4 hd3 ?_
  intro w2 h1 h2 h3 h4 h5 h6
  have hdm:∀ d∈ms,w'.heap[d]?=some (.deferred (some [])):=fun d hd=>(hd2 (marked d) (List.mem_map.2 ⟨d,hd,rfl⟩)).1
  have hhr:=h'.hr.cellsSame (w':=w2) (fun k ob hk hob=>by
   rw[h5 k (fun d hd e=>by subst e;rw[hdm k hd]at hk;cases hk;cases hob)];exact hk) (by omega)
  obtain⟨u,hrun,hv⟩:=hO hE.ok h'.tr hhr hres
  refine⟨u,hrun,u,rfl,_,hp',ρ',hv,hhr,hl',?_,?_,hR⟩
  ·refine h'.bel.trans ⟨h2,h3,h4,by omega,fun k hk=>h5 k fun d hd e=>?_⟩
   have:=hd3 d hd
   have:=hbel.size
   omega
  ·intro p hp
   refine⟨?_,(h'.gs p hp).2⟩
   rw[h5 p.1 (fun d hd e=>?_)]
   ·exact(h'.gs p hp).1
   ·have:=(Array.getElem?_eq_some_iff.1 (hgs p hp).1).1
    have:=hd3 d hd
    omega
 rcases he with rfl|rfl<;>exact hpost
end
def FinE(E:Env)(fn:Func)(d:Nat)(v:V)(N:List O):Exit->Tm->List O->Prop:=fun e tm hp=>∃ tm' hp',Ent E.G d tm hp tm' hp'/\Fin E fn d v N e tm' hp'
theorem Ig{E:Env}{fn:Func}{d:Nat}{v:V}{N:List O}{e:Exit}{tm tm':Tm}{hp hp':List O}(h:Ent E.G d tm hp tm' hp')(h2:Fin E fn d v N e tm' hp'):FinE E fn d v N e tm hp:=⟨tm',hp',h,h2⟩
theorem KJ{E:Env}{fn:Func}{d:Nat}{v:V}{N:List O}{e:Exit}{tm:Tm}{hp:List O}(h2:Fin E fn d v N e tm hp):FinE E fn d v N e tm hp:=⟨tm,hp,Ent.refl _ _ _,h2⟩
theorem nx(hE:E.Fn P)(n:Nat){f:FuncId}{fn:Func}{c:Code}(hf:P.funcs[f]?=some fn)(hb:fn.body=some c){args:List V}{H:List O}{v:V}{N:List O}(hlen:Nat.ble args.length fn.ntmps=true)
  (hs:sat E.G P (FinE E fn H.length v N) (evC E (hdl E n) H.length fn.ntmps c (cT 0 args) H .ret)):ay E.G P f args H v N:=by
 intro ρ us w hh hus
 have hbody:=rU (gs:=[]) (n:=0) hE n hf hb hus (Nat.le_of_ble_eq_true hlen) hh (Below.refl _ w) (Nat.le_refl _) (fun p hp=>by simp at hp) hs
  (R:=fun v0 hp=>∃ bs,V.out bs H.length v0=some v/\bs.Nodup/\(∀ b∈bs,b<ax/\(hp.getD b .gone).isData=true)/\N=bs.map (hp.getD · .gone)/\H.length+bs.length+1<ax)
  (fun e tm hp ⟨tm',hp',he,h1,l,bs,h2,h3⟩=>⟨tm',hp',he,h1,l,h2,bs,h3⟩)
 refine(callsIn_wide.1 hbody).mono ?_
 rintro e w' ⟨u,rfl,v0,hp',ρ',hv,hr',hl',hb',_,bs,h1,h2,h3,rfl,h5⟩
 obtain⟨ρ2,hr2,hl2,hm2⟩:=hh.take (Nat.le_refl _) hr' hb' bs h2 h3 h5
 exact⟨u,ρ2,rfl,AL hm2 _ _ _ h1 hv,hr2,hl2,hb'⟩
theorem bX(hE:E.Fn P)(n:Nat){α:Type}(st:Int->α->Tm×List O)(M:Nat)(J:Nat->α->Prop)(x0:α){μ:Nat}{body:Code}{k:Exit->Tm->List O->T}{Q:Exit->Tm->List O->Prop}
  (hM:M<=1000000000) (h0:Ent E.G μ tm hp (st 0 x0).1 (st 0 x0).2) (hi:J 0 x0)
  (hround:∀ (j:Nat) (i:Int) (x:α),i=j->j<=M->J j x->sat E.G P (fun e tm' hp'=>match e with
   |.normal=>j<M/\∃ x',J (j+1) x'/\Ent E.G μ tm' hp' (st (i64.wrap (i+1)) x').1 (st (i64.wrap (i+1)) x').2
   |e=>sat E.G P Q (k e tm' hp')) (evC E (hdl E n) μ N body (st i x).1 (st i x).2 .ret)) :
  sat E.G P Q (.loop (.loop body) μ N tm hp k):=by
 refine jY hE n (fun a:Int×α=>st a.1 a.2) (fun a=>∃ j:Nat,a.1=j/\j<=M/\J j a.2) (fun a=>M-a.1.toNat) (0,x0) h0 ⟨0,rfl,by omega,hi⟩ ?_
 rintro⟨i,x⟩ ⟨j,h1,h2,h3⟩
 dsimp only at h1 h3 ⊢
 refine fb ?_ (hround j i x h1 h2 h3)
 intro e tm' hp' h
 cases e with
 |normal=>
  obtain⟨h4,x',h5,h6⟩:=h
  have hw:i64.wrap (i+1)=((j+1:Nat):Int):=by
   have:i64.wrap (i+1)=i+1:=IntWalk.i64_in _ (by omega)
   rw[this];omega
  exact⟨(i64.wrap (i+1),x'),⟨j+1,hw,h4,h5⟩,by dsimp only;rw[hw];omega,h6⟩
 |_=>exact h
theorem cutE{E:Env}{P:Program}(h:E.Fn P):({ E with cut:=true }:Env).Fn P:=⟨⟨h.ok.ty⟩,h.mixed,h.pf,h.inl,h.pn⟩
theorem nJ(hE:E.Fn P)(n:Nat){μ:Nat}{c:Operand}{x y:Code}{k:Exit->Tm->List O->T}{Q:Exit->Tm->List O->Prop}{b:Bool}(hc:evA E tm c=.bool b)
  (h1:b=true->sat E.G P Q (evC E (hdl E n) μ N x tm hp k)) (h2:b=false->sat E.G P Q (evC E (hdl E n) μ N y tm hp k)):sat E.G P Q (.loop (.cond c x y) μ N tm hp k):=by
 refine⟨fun e tm' hp'=>sat E.G P Q (k e tm' hp'),?_,fun _ _ _ h=>h⟩
 intro B w0 S D gs ρ a w m ro h0 h
 have hx:=h0.imp_right fun e=>(by simpa[bG]using e:bG x=true/\bG y=true)
 have hev:=dz (E:=E) (w:=w) h.tr h.hr.hv c
 rw[hc]at hev
 exact wpIn_cond_split hev (fun e=>dP hE.mixed hE.ok (gj hE) (eN hE) (cG hE n) x _ _ _ _ (h1 e) B w0 S D gs ρ a w m ro (hx.imp_right (·.1)) h) (fun e=>dP hE.mixed hE.ok (gj hE) (eN hE) (cG hE n) y _ _ _ _ (h2 e) B w0 S D gs ρ a w m ro (hx.imp_right (·.2)) h)
theorem FI(hE:E.Fn P)(n:Nat)(R:Exit->Tm->List O->Prop){μ:Nat}{c:Operand}{x y:Code}{k:Exit->Tm->List O->T}{Q:Exit->Tm->List O->Prop}{b:Bool}(hc:evA E tm c=.bool b)
  (h1:b=true->sat E.G P (fun e tm' hp'=>∃ tm2 hp2,Ent E.G μ tm' hp' tm2 hp2/\R e tm2 hp2) (evC E (hdl E n) μ N x tm hp .ret))
  (h2:b=false->sat E.G P (fun e tm' hp'=>∃ tm2 hp2,Ent E.G μ tm' hp' tm2 hp2/\R e tm2 hp2) (evC E (hdl E n) μ N y tm hp .ret))
  (h:∀ e tm2 hp2,R e tm2 hp2->sat E.G P Q (k e tm2 hp2)):sat E.G P Q (.loop (.cond c x y) μ N tm hp k):=by
 refine⟨R,?_,h⟩
 intro B w0 S D gs ρ a w m ro h0 hr
 have hx:=h0.imp_right fun e=>(by simpa[bG]using e:bG x=true/\bG y=true)
 have hev:=dz (E:=E) (w:=w) hr.tr hr.hr.hv c
 rw[hc]at hev
 have fin:∀ e a' w',(∃ tm' hp' ρ',Rel E.G B w0 S N D gs ρ' tm' hp' a' w'/\ρ.leB μ ρ'/\sat E.G P (fun e tm' hp'=>∃ tm2 hp2,Ent E.G μ tm' hp' tm2 hp2/\R e tm2 hp2) (.ret e tm' hp')) ->
   ∃ tm' hp' ρ',Rel E.G B w0 S N D gs ρ' tm' hp' a' w'/\ρ.leB μ ρ'/\R e tm' hp':=by
  rintro e a' w' ⟨tm',hp',ρ',r1,r2,tm2,hp2,r3,r4⟩
  obtain⟨ρ2,l2,r5⟩:=r1.ent r3
  exact⟨tm2,hp2,ρ2,r5,Ren.leB_trans r2 l2,r4⟩
 exact wpIn_cond_split hev (fun e=>wpIn_mono (dP hE.mixed hE.ok (gj hE) (eN hE) (cG hE n) x _ _ _ _ (h1 e) B w0 S D gs ρ a w m ro (hx.imp_right (·.1)) hr) fin) (fun e=>wpIn_mono (dP hE.mixed hE.ok (gj hE) (eN hE) (cG hE n) y _ _ _ _ (h2 e) B w0 S D gs ρ a w m ro (hx.imp_right (·.2)) hr) fin)
def cz(c:Int->Bool)(g:Int->Int)(n:Nat):List Int:=(((List.range n).map Int.ofNat).filter c).map g
theorem fK(c:Int->Bool)(g:Int->Int)(n:Nat):cz c g (n+1)=bif c n then cz c g n++[g n]else cz c g n:=by
 unfold cz
 rw[List.range_succ,List.map_append,List.filter_append]
 cases h:c (n:Int)<;>simp[h]
theorem gB(c:Int->Bool)(g:Int->Int)(n:Nat):(cz c g n).length<=n:=by
 unfold cz
 rw[List.length_map]
 exact Nat.le_trans (List.length_filter_le _ _) (by simp)
theorem bS{c:Int->Bool}{n:Nat}{x:Int}:x∈cz c id n↔0<=x/\x<n/\c x=true:=by
 unfold cz
 rw[List.map_id,List.mem_filter,List.mem_map]
 constructor
 ·rintro⟨⟨a,h,rfl⟩,h2⟩
  have:=List.mem_range.1 h
  exact⟨Int.natCast_nonneg a,by simp only[Int.ofNat_eq_natCast];omega,h2⟩
 ·rintro⟨h1,h2,h3⟩
  exact⟨⟨x.toNat,List.mem_range.2 (by omega),by simp only[Int.ofNat_eq_natCast];omega⟩,h3⟩
def cN{α:Type}(step:α->Int->α)(x0:α):Nat->α
 |0=>x0
 |n+1=>step (cN step x0 n) n
abbrev tk(zs:List Int):List Int:=(zs.drop 0).take zs.length
theorem aX(zs:List Int):tk zs=zs:=by simp[tk]
theorem mA{p:Int->Bool}{zs:List Int}{j:Nat}(h:j<zs.length):(zs.drop j).all p=(p (zs.getD j 0)&&(zs.drop (j+1)).all p):=by
 rw[List.drop_eq_getElem_cons h,List.all_cons];simp[List.getD,h]
end
end Go.Ab
namespace Go.Ab
open Go.RowKit
section
variable{E:Env}{P:Program}{N:Nat}{tm:Tm}{hp:List O}{G:List O}
def rnds(E:Env)(P:Program)(n μ N:Nat)(body:Code)(Q:Exit->Tm->List O->Prop):Nat->Tm->List O->Prop
 |0,_,_=>False
 |m+1,tm,hp=>sat E.G P (fun e tm' hp'=>match e with
   |.normal=>∃ tm2 hp2,Ent E.G μ tm' hp' tm2 hp2/\rnds E P n μ N body Q m tm2 hp2
   |e=>Q e tm' hp') (evC E (hdl E n) μ N body tm hp .ret)
theorem bW(hE:E.Fn P)(n m:Nat){μ:Nat}{body:Code}{k:Exit->Tm->List O->T}{Q:Exit->Tm->List O->Prop}
  (h:rnds E P n μ N body (fun e tm' hp'=>sat E.G P Q (k e tm' hp')) m tm hp) :
  sat E.G P Q (.loop (.loop body) μ N tm hp k):=by
 refine⟨fun e tm' hp'=>sat E.G P Q (k e tm' hp'),?_,fun _ _ _ h=>h⟩
 cases m with
 |zero=>exact h.elim
 |succ m=>
 refine Good.loop (fun j tm hp=>rnds E P n μ N body (fun e tm' hp'=>sat E.G P Q (k e tm' hp')) (j+1) tm hp) (m:=m) h ?_
 intro j tm1 hp1 hj
 refine(dP hE.mixed hE.ok (gj hE) (eN hE) (cG hE n) body _ _ _ _ hj).mono ?_
 intro e tm2 hp2 h
 cases e with
 |normal=>
  obtain⟨tm3,hp3,h1,h2⟩:=h
  cases j with
  |zero=>exact h2.elim
  |succ j=>exact⟨j,tm3,hp3,rfl,h1,h2⟩
 |_=>exact h
theorem rnd{n m μ:Nat}{body:Code}{Q:Exit->Tm->List O->Prop}(h:sat E.G P (fun e tm' hp'=>match e with
   |.normal=>∃ tm2 hp2,Ent E.G μ tm' hp' tm2 hp2/\rnds E P n μ N body Q m tm2 hp2
   |e=>Q e tm' hp') (evC E (hdl E n) μ N body tm hp .ret)):rnds E P n μ N body Q (m+1) tm hp:=h
theorem cn{n m μ:Nat}{body:Code}{Q:Exit->Tm->List O->Prop}(h:rnds E P n μ N body Q m tm hp):∃ tm2 hp2,Ent E.G μ tm hp tm2 hp2/\rnds E P n μ N body Q m tm2 hp2:=⟨tm,hp,Ent.refl _ _ _,h⟩
end
end Go.Ab
namespace Go.Ab
open IntKind
abbrev uor(x y:Int):Int:=band .or .u64 x y
abbrev uand(x y:Int):Int:=band .and .u64 x y
abbrev de(x y:Int):Int:=band .andNot .u64 x y
abbrev ushl(x y:Int):Int:=u64.wrap (x*2^(min y.toNat u64.bits))
abbrev ushr(x y:Int):Int:=x.fdiv (2^(min y.toNat u64.bits))
def Uk(s:Int):Prop:=0<=s/\s<18446744073709551616
def bt(s:Int)(n:Nat):Bool:=s.toNat.testBit n
theorem mg(n:Int):u64.wrap n=n%18446744073709551616:=rfl
theorem ym{n:Int}(h:Uk n):u64.wrap n=n:=by rw[mg];exact Int.emod_eq_of_lt h.1 h.2
theorem jB{x:Int}(h:Uk x):(BitVec.ofInt 64 x).toNat=x.toNat:=by
 obtain⟨h1,h2⟩:=h
 rw[BitVec.toNat_ofInt]
 have:x%((2^64:Nat):Int)=x:=Int.emod_eq_of_lt h1 h2
 rw[this]
theorem zU(v:BitVec 64):Uk (v.toNat:Int):=⟨Int.natCast_nonneg _,by have:=v.isLt;omega⟩
theorem Fh(x y:Int):uor x y=((BitVec.ofInt 64 x ||| BitVec.ofInt 64 y).toNat:Int):=ym (zU _)
theorem qN(x y:Int):uand x y=((BitVec.ofInt 64 x &&& BitVec.ofInt 64 y).toNat:Int):=ym (zU _)
theorem xe(x y:Int):de x y=((BitVec.ofInt 64 x &&& ~~~BitVec.ofInt 64 y).toNat:Int):=ym (zU _)
theorem jE(x y:Int):Uk (uor x y):=by rw[Fh];exact zU _
theorem MB(x y:Int):Uk (uand x y):=by rw[qN];exact zU _
theorem ke(x y:Int):Uk (de x y):=by rw[xe];exact zU _
theorem gl(x y:Int):Uk (ushl x y):=by
 unfold ushl;rw[mg];exact⟨Int.emod_nonneg _ (by decide),Int.emod_lt_of_pos _ (by decide)⟩
theorem uk_0:Uk 0:=⟨by decide,by decide⟩
theorem KL{s:Int}(h:Uk s){n:Nat}(hn:64<=n):bt s n=false:=by
 unfold bt
 refine Nat.testBit_lt_two_pow ?_
 have h2:s.toNat<2^64:=by obtain⟨h1,h2⟩:=h;omega
 exact Nat.lt_of_lt_of_le h2 (Nat.pow_le_pow_right (by decide) hn)
theorem bt_0(n:Nat):bt 0 n=false:=by simp[bt]
theorem iu{x y:Int}(hx:Uk x)(hy:Uk y)(n:Nat):bt (uor x y) n=(bt x n||bt y n):=by
 rw[Fh];unfold bt
 rw[Int.toNat_natCast,BitVec.toNat_or,Nat.testBit_or,jB hx,jB hy]
theorem CM{x y:Int}(hx:Uk x)(hy:Uk y)(n:Nat):bt (uand x y) n=(bt x n&&bt y n):=by
 rw[qN];unfold bt
 rw[Int.toNat_natCast,BitVec.toNat_and,Nat.testBit_and,jB hx,jB hy]
theorem iG{x y:Int}(hx:Uk x)(hy:Uk y)(n:Nat):bt (de x y) n=(bt x n&&!bt y n):=by
 rw[xe];unfold bt
 rw[Int.toNat_natCast,BitVec.toNat_and,Nat.testBit_and,jB hx]
 by_cases hn:n<64
 ·rw[BitVec.testBit_toNat,BitVec.getLsbD_not,<-BitVec.testBit_toNat,jB hy];simp[hn]
 ·have:=KL hx (Nat.le_of_not_lt hn)
  unfold bt at this
  rw[this];simp
theorem OD{x:Int}(h1:0<=x)(h2:x<64):ushl 1 x=((2^x.toNat:Nat):Int):=by
 unfold ushl
 have hb:u64.bits=64:=rfl
 rw[hb,Nat.min_eq_left (by omega),Int.one_mul]
 have h3:(2:Nat)^x.toNat<2^64:=Nat.pow_lt_pow_right (by decide) (by omega)
 rw[show ((2:Int)^x.toNat)=((2^x.toNat:Nat):Int) by norm_cast]
 exact ym ⟨Int.natCast_nonneg _,by omega⟩
theorem fB{x:Int}(h1:0<=x)(h2:x<64)(n:Nat):bt (ushl 1 x) n=decide (x=n):=by
 rw[OD h1 h2];unfold bt
 rw[Int.toNat_natCast,Nat.testBit_two_pow]
 congr 1
 exact propext ⟨fun h=>by omega,fun h=>by omega⟩
theorem DZ{s x:Int}(hs:Uk s)(h1:0<=x)(h2:x<64):ushr s x=((s.toNat >>> x.toNat:Nat):Int):=by
 unfold ushr
 have hb:u64.bits=64:=rfl
 rw[hb,Nat.min_eq_left (by omega),Nat.shiftRight_eq_div_pow]
 obtain⟨n,rfl⟩:∃ n:Nat,s=n:=⟨s.toNat,by have:=hs.1;omega⟩
 rw[Int.toNat_natCast,show ((2:Int)^x.toNat)=((2^x.toNat:Nat):Int) by norm_cast,Int.fdiv_eq_ediv_of_nonneg _ (Int.natCast_nonneg _)]
 norm_cast
theorem DJ{s x:Int}(hs:Uk s)(h1:0<=x)(h2:x<64):Uk (ushr s x):=by
 rw[DZ hs h1 h2]
 refine⟨Int.natCast_nonneg _,?_⟩
 have:s.toNat >>> x.toNat<=s.toNat:=by rw[Nat.shiftRight_eq_div_pow];exact Nat.div_le_self _ _
 have:=hs.2
 omega
theorem Io{s x:Int}(hs:Uk s)(h1:0<=x)(h2:x<64)(n:Nat):bt (ushr s x) n=bt s (x.toNat+n):=by
 rw[DZ hs h1 h2];unfold bt
 rw[Int.toNat_natCast,Nat.testBit_shiftRight]
theorem pS{s x:Int}(hs:Uk s)(h1:0<=x)(h2:x<64):decide (uand (ushr s x) 1=1)=bt s x.toNat:=by
 have hb:=Io hs h1 h2 0
 rw[Nat.add_zero]at hb
 rw[<-hb]
 have e:uand (ushr s x) 1=(((ushr s x).toNat%2:Nat):Int):=by
  rw[qN,BitVec.toNat_and,jB (DJ hs h1 h2),jB ⟨by decide,by decide⟩]
  congr 1
  exact Nat.and_one_is_mod _
 rw[e];unfold bt
 rw[Nat.testBit_zero]
 congr 1
 exact propext ⟨fun h=>by omega,fun h=>by omega⟩
theorem vP{s x:Int}(hs:Uk s)(h1:0<=x)(h2:x<64):decide (uand (ushr s x) 1=0)=!bt s x.toNat:=by
 rw[<-pS hs h1 h2]
 have h3:uand (ushr s x) 1=0\/uand (ushr s x) 1=1:=by
  have e:uand (ushr s x) 1=(((ushr s x).toNat%2:Nat):Int):=by
   rw[qN,BitVec.toNat_and,jB (DJ hs h1 h2),jB ⟨by decide,by decide⟩]
   congr 1
   exact Nat.and_one_is_mod _
  rw[e];omega
 rcases h3 with h|h<;>rw[h]<;>rfl
theorem nw{x y:Int}(hx:Uk x)(hy:Uk y)(h:∀ n,n<64->bt x n=bt y n):x=y:=by
 have:x.toNat=y.toNat:=Nat.eq_of_testBit_eq fun i=>by
  by_cases hi:i<64
  ·exact h i hi
  ·have h1:=KL hx (Nat.le_of_not_lt hi)
   have h2:=KL hy (Nat.le_of_not_lt hi)
   exact h1.trans h2.symm
 have:=hx.1
 have:=hy.1
 omega
theorem nP{x:Int}(hx:Uk x):x=0↔∀ n,n<64->bt x n=false:=
 ⟨fun h n _=>by rw[h,bt_0],fun h=>nw hx uk_0 fun n hn=>by rw[h n hn,bt_0]⟩
end Go.Ab
namespace Go.Ab
open Go.RowKit
section
variable{E:Env}{P:Program}{N:Nat}{tm:Tm}{hp:List O}{G:List O}{n:Nat}
def Took(ms:List Nat)(w w':World):Prop:=
 w'.heap.size=w.heap.size/\w'.os=w.os/\w'.tape=w.tape/\w'.output=w.output/\∀ k,(∀ d∈ms,k≠d)->w'.heap[k]?=w.heap[k]?
theorem Took.refl(w:World):Took [] w w:=⟨rfl,rfl,rfl,rfl,fun _ _=>rfl⟩
end
section
variable{P:Program}
end
section
variable{P:Program}{n:Nat}{F:Fence}
variable{E:Env}{N:Nat}{tm:Tm}{hp:List O}{B:Nat}{w0:World}{S:Nat}{D:List Deferred}{gs:List (Nat×Obj)}{ρ:Ren}{a:Act}{w:World}
end
section
variable{E:Env}{P:Program}{N:Nat}{tm:Tm}{hp:List O}{n:Nat}{B:Nat}{w0:World}{S:Nat}{D:List Deferred}{gs:List (Nat×Obj)}{ρ:Ren}{a:Act}{w:World}
theorem Took.below{ms:List Nat}{w w':World}(h:Took ms w w'){B:Nat}(hB:∀ d∈ms,B<=d):RowKit.Below B w w':=
 ⟨h.2.1,h.2.2.1,h.2.2.2.1,by rw[h.1];exact Nat.le_refl _,fun k hk=>h.2.2.2.2 k fun d hd e=>by have:=hB d hd;omega⟩
end
section
variable{E:Env}{P:Program}{G:List O}
structure DV where
 f:FuncId
 caps:List V
 args:List V
def DRel(ρ:Ren):List DV->List Deferred->Prop
 |[],ds=>ds=[]
 |d::l,ds=>∃ cus us r,ds={ target:=.fn (.func d.f) cus,args:=us }::r/\VRL ρ d.caps cus.toList/\VRL ρ d.args us.toList/\DRel ρ l r
theorem DRel.mono{ρ ρ':Ren}(h:ρ.le ρ'):∀ (l:List DV) (ds:List Deferred),DRel ρ l ds->DRel ρ' l ds
 |[],_,e=>e
 |_::l,_,⟨cus,us,r,e,h1,h2,h3⟩=>⟨cus,us,r,e,VRL.mono h _ _ h1,VRL.mono h _ _ h2,DRel.mono h l r h3⟩
section
variable{N:Nat}{B:Nat}{w0:World}{S:Nat}{gs:List (Nat×Obj)}
end
end
section
variable{E:Env}{P:Program}{G:List O}
end
end Go.Ab
