/- An evaluator of the model on values that are partly known, and its soundness (text G5); no condition. -/
import Derived.Test.YtcmhemipmmckoaaGreatDoorG4
import Derived.Maps.RangeRun
namespace Go.Ab
open Go.RowKit
section
def irg(k:Nat):Rg:={ blk:=k,base:=0,m:=1,n:=1,cp:=1,ph:=false }
structure SS where
 mb:Nat
 l:Array MapEntry
 c:Nat
 it:Option (Nat×Nat×Array Nat×Nat)
def MR(B μ:Nat)(ρ:Ren)(gm:List (Nat×Obj)):Option SS->Prop
 |none=>gm=[]
 |some s=>∃ k,ρ s.mb=some (mrg k)/\s.mb<μ/\B<=k/\match s.it with
  |none=>gm=[(k,.map s.l s.c)]
  |some (ib,since,seen,c0)=>∃ r,ρ ib=some (irg r)/\ib<μ/\B<=r/\r≠k/\gm=[(k,.map s.l s.c),(r,.mapIter (some k) since seen c0)]
theorem MR.mono{B μ:Nat}{ρ ρ':Ren}{gm:List (Nat×Obj)}{s:Option SS}(h:MR B μ ρ gm s)(hl:ρ.leB μ ρ'):MR B μ ρ' gm s:=by
 cases s with
 |none=>exact h
 |some s=>
  obtain⟨k,h1,h2,h3,h4⟩:=h
  refine⟨k,hl _ _ (.inl h2) h1,h2,h3,?_⟩
  cases hi:s.it with
  |none=>rw[hi]at h4;exact h4
  |some x=>
   obtain⟨ib,since,seen,c0⟩:=x
   rw[hi]at h4
   obtain⟨r,q1,q2,q3⟩:=h4
   exact⟨r,hl _ _ (.inl q2) q1,q2,q3⟩
section
variable{E:Env}{P:Program}{n N B S d:Nat}{w0:World}{ρ0:Ren}{w:World}
def ItZ(E:Env)(N B S d:Nat)(w0:World)(ρ0:Ren)(μ:Nat)(mp:Option SS)(tm:Tm)(hp:List O)(a:Act)(w:World):Prop:=
 ∃ (gm:List (Nat×Obj)) (ρ:Ren),Rel E.G B w0 S N [] gm ρ tm hp a w/\ρ0.leB d ρ/\d<=μ/\MR B μ ρ gm mp
def ZM(E:Env)(P:Program)(n N B S d:Nat)(w0:World)(ρ0:Ren)(c:Code)(μ:Nat)(mp:Option SS)(tm:Tm)(hp:List O)(Q:Exit->Nat->Option SS->Tm->List O->Prop):Prop:=
 ∀ a w,ItZ E N B S d w0 ρ0 μ mp tm hp a w->c.wpIn (Fr none) n P (fun e a' w'=>∃ μ' mp' tm' hp',ItZ E N B S d w0 ρ0 μ' mp' tm' hp' a' w'/\Q e μ' mp' tm' hp') a w
variable{μ:Nat}{mp:Option SS}{tm:Tm}{hp:List O}{c:Code}{Q:Exit->Nat->Option SS->Tm->List O->Prop}
theorem ItZ.ent{a:Act}{tm':Tm}{hp':List O}(h:ItZ E N B S d w0 ρ0 μ mp tm hp a w)(he:Ent E.G μ tm hp tm' hp'):ItZ E N B S d w0 ρ0 μ mp tm' hp' a w:=by
 obtain⟨gm,ρ,h1,h2,h3,h4⟩:=h
 obtain⟨ρ',l1,h5⟩:=h1.ent he
 exact⟨gm,ρ',h5,Ren.leB_trans h2 (Ren.leB_mono l1 h3),h3,h4.mono l1⟩
theorem ZM.ent{tm':Tm}{hp':List O}(he:Ent E.G μ tm hp tm' hp')(h:ZM E P n N B S d w0 ρ0 c μ mp tm' hp' Q):ZM E P n N B S d w0 ρ0 c μ mp tm hp Q:=fun a w hi=>h a w (hi.ent he)
theorem ZM.seg(hE:E.Fn P)(m:Nat)(hs:sat E.G P (fun e tm' hp'=>Q e μ mp tm' hp') (evC E (hdl E m) μ N c tm hp .ret)):ZM E P n N B S d w0 ρ0 c μ mp tm hp Q:=by
 rintro a w ⟨gm,ρ,h1,h2,h3,h4⟩
 refine wpIn_mono (dy hE.mixed hE.ok (fA hE) (dD hE) (bV hE m) c tm hp _ _ hs B w0 S [] gm ρ a w n none (.inl rfl) h1) ?_
 rintro e a' w' ⟨tm',hp',ρ',h7,h8,h9⟩
 exact⟨μ,mp,tm',hp',⟨gm,ρ',h7,Ren.leB_trans h2 (Ren.leB_mono h8 h3),h3,h4.mono h8⟩,h9⟩
theorem ZM.seq{x y:Code}(h:ZM E P n N B S d w0 ρ0 x μ mp tm hp (fun e μ' mp' tm' hp'=>match e with|.normal=>ZM E P n N B S d w0 ρ0 y μ' mp' tm' hp' Q|e=>Q e μ' mp' tm' hp')):ZM E P n N B S d w0 ρ0 (.seq x y) μ mp tm hp Q:=by
 intro a w hi
 refine wpIn_seq (wpIn_mono (h a w hi) ?_)
 rintro e a' w' ⟨μ',mp',tm',hp',h1,h2⟩
 cases e with
 |normal=>exact h2 a' w' h1
 |_=>exact⟨μ',mp',tm',hp',h1,h2⟩
theorem ZM.seqX{x y:Code}(I:Nat->Option SS->Tm->List O->Prop)(h:ZM E P n N B S d w0 ρ0 x μ mp tm hp (fun e μ' mp' tm' hp'=>match e with|.normal=>I μ' mp' tm' hp'|e=>Q e μ' mp' tm' hp'))(h2:∀ μ' mp' tm' hp',I μ' mp' tm' hp'->ZM E P n N B S d w0 ρ0 y μ' mp' tm' hp' Q):ZM E P n N B S d w0 ρ0 (.seq x y) μ mp tm hp Q:=by
 intro a w hi
 refine wpIn_seq (wpIn_mono (h a w hi) ?_)
 rintro e a' w' ⟨μ',mp',tm',hp',h1,h3⟩
 cases e with
 |normal=>exact h2 _ _ _ _ h3 a' w' h1
 |_=>exact⟨μ',mp',tm',hp',h1,h3⟩
theorem ZM.cond{x y:Code}{o:Operand}{b:Bool}(ho:evA E tm o=.bool b)(h1:b=true->ZM E P n N B S d w0 ρ0 x μ mp tm hp Q)(h2:b=false->ZM E P n N B S d w0 ρ0 y μ mp tm hp Q):ZM E P n N B S d w0 ρ0 (.cond o x y) μ mp tm hp Q:=by
 intro a w hi
 have hi':=hi
 obtain⟨gm,ρ,h5,_,_,_⟩:=hi'
 have hev:=cn (E:=E) (w:=w) h5.tr h5.hr.hv o
 rw[ho]at hev
 exact wpIn_cond_split hev (fun e=>h1 e a w hi) (fun e=>h2 e a w hi)
theorem ZM.block{id:Nat}{x:Code}(h:ZM E P n N B S d w0 ρ0 x μ mp tm hp (fun e μ' mp' tm' hp'=>match e with|.exit id'=>(match Nat.beq id' id with|true=>Q .normal μ' mp' tm' hp'|false=>Q (.exit id') μ' mp' tm' hp')|e=>Q e μ' mp' tm' hp')):ZM E P n N B S d w0 ρ0 (.block id x) μ mp tm hp Q:=by
 intro a w hi
 refine wpIn_block (wpIn_mono (h a w hi) ?_)
 rintro e a' w' ⟨μ',mp',tm',hp',h1,h2⟩
 cases e with
 |exit id'=>
  simp only[Exit.inBlock]
  dsimp only at h2
  split at h2
  ·rename_i hb;rw[if_pos (Nat.eq_of_beq_eq_true hb)];exact⟨μ',mp',tm',hp',h1,h2⟩
  ·rename_i hb;rw[if_neg (Nat.ne_of_beq_eq_false hb)];exact⟨μ',mp',tm',hp',h1,h2⟩
 |_=>exact⟨μ',mp',tm',hp',h1,h2⟩
def ZO(E:Env)(P:Program)(n N B S d:Nat)(w0:World)(ρ0:Ren)(all rest:List Oper)(μ:Nat)(mp:Option SS)(tm:Tm)(hp:List O)(Q:Exit->Nat->Option SS->Tm->List O->Prop):Prop:=
 ∀ (ops:Array Oper) (pre:List Oper),ops.toList=all->all=pre++rest->∀ a w,ItZ E N B S d w0 ρ0 μ mp tm hp a w ->
  wpOpsIn (Fr none) n P ops (fun e a' w'=>∃ μ' mp' tm' hp',ItZ E N B S d w0 ρ0 μ' mp' tm' hp' a' w'/\Q e μ' mp' tm' hp') (List.range' pre.length rest.length) a w
theorem ZM.region{id:Nat}{ops:Array Oper}(h:ZO E P n N B S d w0 ρ0 ops.toList ops.toList μ mp tm hp Q):ZM E P n N B S d w0 ρ0 (.region id ops false) μ mp tm hp Q:=by
 intro a w hi
 refine wpIn_region ?_
 have:=h ops [] rfl rfl a w hi
 rw[List.length_nil,<-List.range_eq_range',Array.length_toList]at this
 exact this
variable{all rest:List Oper}
theorem ZO.nil(h:Q .normal μ mp tm hp):ZO E P n N B S d w0 ρ0 all [] μ mp tm hp Q:=fun _ _ _ _ _ _ hi=>⟨μ,mp,tm,hp,hi,h⟩
theorem ZO.seg(hE:E.Fn P)(m:Nat)(r1 r2:List Oper)(hr:rest=r1++r2)(h:sat E.G P (fun _ tm' hp'=>ZO E P n N B S d w0 ρ0 all r2 μ mp tm' hp' Q) (cI E (hdl E m) N all r1 tm hp (.ret .normal) noX)):ZO E P n N B S d w0 ρ0 all rest μ mp tm hp Q:=by
 subst hr
 rintro ops pre hops hall a w ⟨gm,ρ,h1,h2,h3,h4⟩
 rw[List.length_append,<-List.range'_append_1]
 subst hops
 refine er (n:=n) (ro:=none) (ρ0:=ρ) (suf:=r2) (tl:=List.range' (pre.length+r1.length) r2.length) hE.ok (dD hE) (bV hE m) (ops:=ops) ?_ (fun e a2 w2 ⟨_,_,_,_,_,q⟩=>q.elim) r1 pre tm hp ρ a w (by rw[hall,List.append_assoc]) h h1 (Ren.le_refl ρ)
 rintro a1 w1 ⟨tm1,hp1,ρ1,q1,q2,q3⟩
 have q3:ZO E P n N B S d w0 ρ0 ops.toList r2 μ mp tm1 hp1 Q:=q3
 have:=q3 ops (pre++r1) rfl (by rw[hall,List.append_assoc]) a1 w1 ⟨gm,ρ1,q1,Ren.leB_trans h2 q2.leB,h3,h4.mono q2.leB⟩
 rwa [List.length_append]at this
theorem ZO.mop{ι:Type}{o:Oper}(hg:o.guard=none)(hd:∀ c,o.op≠.defer c)(R:ι->Prop)(μ':ι->Nat)(mp':ι->Option SS)(tm':ι->Tm)(hp':ι->List O)
  (h1:∀ a w,ItZ E N B S d w0 ρ0 μ mp tm hp a w->∃ i,R i/\((∃ u w',(execOp a.eval o).run P w=.ok (.value u) w'/\ItZ E N B S d w0 ρ0 (μ' i) (mp' i) (tm' i) (hp' i) (a.put o.dst u) w')\/(∃ w',(execOp a.eval o).run P w=.ok .skip w'/\ItZ E N B S d w0 ρ0 (μ' i) (mp' i) (tm' i) (hp' i) (a.put o.dst undef) w')))
  (h2:∀ i,R i->ZO E P n N B S d w0 ρ0 all rest (μ' i) (mp' i) (tm' i) (hp' i) Q):ZO E P n N B S d w0 ρ0 all (o::rest) μ mp tm hp Q:=by
 intro ops pre hops hall a w hi
 rw[List.length_cons,List.range'_succ]
 have hi2:ops[pre.length]?=some o:=by rw[<-Array.getElem?_toList,hops,hall];simp
 simp only[wpOpsIn,hi2]
 rw[if_pos (by simp[Region.wanted,hg])]
 refine⟨aZ none o w _,?_⟩
 have hsem:o.semAt (Fr none).round a.eval=execOp a.eval o:=Oper.semAt_eq _ _ _ hd
 rw[hsem]
 obtain⟨i,hR,h1⟩:=h1 a w hi
 have hrest:=fun a' w' hi'=>h2 i hR ops (pre++[o]) hops (by rw[hall];simp) a' w' hi'
 simp only[List.length_append,List.length_singleton]at hrest
 rcases h1 with⟨u,w',e,hi'⟩|⟨w',e,hi'⟩
 ·rw[e];exact hrest _ _ hi'
 ·rw[e];exact hrest _ _ hi'
theorem ItZ.put{a:Act}{v:V}{u:Value}{dst:Nat}(h:ItZ E N B S d w0 ρ0 μ mp tm hp a w)(hd:dst<N)(hv:∀ gm ρ,Rel E.G B w0 S N [] gm ρ tm hp a w->MR B μ ρ gm mp->VR ρ v u):ItZ E N B S d w0 ρ0 μ mp ((dst,v)::tm) hp (a.put (some dst) u) w:=by
 obtain⟨gm,ρ,h1,h2,h3,h4⟩:=h
 obtain⟨ms,d1,d2,d3,d4⟩:=h1.df
 exact⟨gm,ρ,⟨h1.tr.put (by rw[h1.sz];exact hd) (hv gm ρ h1 h4),h1.hr,h1.bel,by simp[Act.put,h1.sz],⟨ms,by simpa[Act.put]using d1,d2,d3,d4⟩,h1.gs,h1.bs,h1.ss,h1.sw⟩,h2,h3,h4⟩
theorem ZO.callM{o:Oper}{cl:Call}{f:FuncId}{dst:Nat}{es:Mp}(ho:o.op=.call cl)(hcal:cl.callee=.value (.func f))(hargs:cl.args=#[])(hent:dX P f)(hfn:GM E.G P f es)(hdst:o.dst=some dst)(hg:o.guard=none)(hd:Nat.blt dst N=true)(hsm:(Nat.blt (hp.length+2) ax&&Nat.ble μ hp.length)=true)
  (h:∀ l c,fF es l.toList->StO l c->ZO E P n N B S d w0 ρ0 all rest (hp.length+1) (some ⟨hp.length,l,c,none⟩) ((dst,.yl hp.length)::tm) (hp++[.gone]) Q):ZO E P n N B S d w0 ρ0 all (o::rest) μ none tm hp Q:=by
 rw[Bool.and_eq_true]at hsm
 have hsm1:=aH hsm.1
 have hsm2:=Nat.le_of_ble_eq_true hsm.2
 intro ops pre hops hall a w hi
 rw[List.length_cons,List.range'_succ]
 have hi2:ops[pre.length]?=some o:=by rw[<-Array.getElem?_toList,hops,hall];simp
 simp only[wpOpsIn,hi2]
 rw[if_pos (by simp[Region.wanted,hg])]
 refine⟨aZ none o w _,?_⟩
 have hsem:o.semAt (Fr none).round a.eval=execOp a.eval o:=Oper.semAt_eq _ _ _ (fun c hc=>by rw[ho]at hc;cases hc)
 rw[hsem]
 have hrest:=fun l c g3 g4 a' w' hi'=>h l c g3 g4 ops (pre++[o]) hops (by rw[hall];simp) a' w' hi'
 simp only[List.length_append,List.length_singleton]at hrest
 obtain⟨gm,ρ,h1,h2,h3,h4⟩:=hi
 have h4:gm=[]:=h4
 subst h4
 have hrun:(execOp a.eval o).run P w=.ok (.enter f #[]) w:=by
  obtain⟨fn',hf1,hf2,hf3,_⟩:=hent
  obtain⟨_,op,_,_,_,_⟩:=o
  dsimp only at ho
  subst ho
  have hof:(Deferred.ofValue (.func (.func f) #[] #[]) #[]).run P w=.ok { target:=.fn (.func f) #[],args:=#[] } w:=by simp[Deferred.ofValue]
  simp only[execOp,resolve,hcal,hargs,Act.eval,Array.map_empty,Sem.run_bind,hof,Result.andThen_ok,invoke]
  have:=cM hf1 hf2 hf3 (#[]:Array Value) w
  simpa using this
 rw[hrun]
 refine⟨fun e=>by simp[Fr,Fence.wide]at e,CallsIn.mono (hfn (n-1) w ⟨_,(h1.hr.globs w.heap.size).hr⟩) ?_⟩
 rintro e w' ⟨k,l,c,rfl,g1,g2,g3,g4,hb⟩
 have hfr:=(h1.hr.frame hb.size (fun k hk=>hb.block k hk)).pad [.gone] (by simp;omega)
 have hno:ρ hp.length=none:=h1.hr.free _ (Nat.le_refl _) (by omega)
 have hle:=Ren.le_add hno (mrg k)
 have hl:=hfr.lay (r:=mrg k) (b:=hp.length) (by simp) (by simp[List.getD]) hno
 obtain⟨ms,d1,d2,d3,d4⟩:=h1.df
 have hBw:B<=w.heap.size:=Nat.le_trans h1.bs h1.bel.size
 have hko:∀ p:Nat×Obj,w.heap[p.1]?=some p.2->w'.heap[p.1]?=some p.2:=fun p hp=>(hb.block _ (Array.getElem?_eq_some_iff.1 hp).1).trans hp
 rw[hdst]
 refine hrest l c g3 g4 _ _ ⟨[(k,.map l c)],ρ.add hp.length (mrg k),⟨(h1.tr.mono hle).put (by rw[h1.sz];exact aH hd) ⟨_,Ren.add_same _ _ _,rfl⟩,hl,h1.bel.trans (hb.mono hBw),by simp[Act.put,h1.sz],⟨ms,by simpa[Act.put]using d1,fun p hp=>⟨hko p (d2 p hp).1,(d2 p hp).2⟩,d3,d4⟩,fun p hp=>?_,h1.bs,h1.ss,Nat.le_trans h1.sw hb.size⟩,Ren.leB_trans h2 hle.leB,by omega,⟨k,Ren.add_same _ _ _,Nat.lt_succ_self _,by omega,rfl⟩⟩
 have hp:p=(k,.map l c):=by simpa using hp
 subst hp
 exact⟨g2,rfl⟩
theorem ZO.range{o:Oper}{mt kt et:TypeId}{om:Operand}{dst:Nat}{s:SS}(ho:o.op=.range mt om)(hdst:o.dst=some dst)(hg:o.guard=none)(hd:Nat.blt dst N=true)(hm:evA E tm om=.yl s.mb)(hmt:P.underlying mt=some (.map kt et))(hsm:(Nat.blt (hp.length+2) ax&&Nat.ble μ hp.length)=true)
  (h:ZO E P n N B S d w0 ρ0 all rest (hp.length+1) (some ⟨s.mb,s.l,s.c,some (hp.length,s.c,#[],s.c)⟩) ((dst,.ptr hp.length 0 0)::tm) (hp++[.gone]) Q):ZO E P n N B S d w0 ρ0 all (o::rest) μ (some s) tm hp Q:=by
 rw[Bool.and_eq_true]at hsm
 have hsm1:=aH hsm.1
 have hsm2:=Nat.le_of_ble_eq_true hsm.2
 refine ZO.mop (ι:=Unit) hg (fun c hc=>by rw[ho]at hc;cases hc) (fun _=>True) (fun _=>hp.length+1) (fun _=>some ⟨s.mb,s.l,s.c,some (hp.length,s.c,#[],s.c)⟩) (fun _=>(dst,.ptr hp.length 0 0)::tm) (fun _=>hp++[.gone]) (fun a w hi=>⟨(),trivial,.inl ?_⟩) (fun _ _=>h)
 obtain⟨gm,ρ,h1,h2,h3,k,q1,q2,q3,q4⟩:=hi
 have hev:=cn (E:=E) (w:=w) h1.tr h1.hr.hv om
 rw[hm]at hev
 obtain⟨r,hr,em⟩:=hev
 rw[q1]at hr
 cases hr
 have em:a.eval om=.map (some k):=em
 have hhk:w.heap[k]?=some (.map s.l s.c):=by
  cases hi:s.it with
  |none=>rw[hi]at q4;subst q4;exact(h1.gs (k,.map s.l s.c) (by simp)).1
  |some x=>
   obtain⟨ib,since,seen,c0⟩:=x
   rw[hi]at q4
   obtain⟨r,_,_,_,_,rfl⟩:=q4
   exact(h1.gs (k,.map s.l s.c) (by simp)).1
 have hklt:k<w.heap.size:=(Array.getElem?_eq_some_iff.1 hhk).1
 refine⟨.pointer (some ⟨w.heap.size,0,none⟩),w.alloc (.mapIter (some k) s.c #[] s.c),?_,?_⟩
 ·obtain⟨_,op,_,_,_,_⟩:=o
  dsimp only at ho
  subst ho
  simp only[execOp,em,Instr.range,Sem.run_bind,run_underlying hmt,Result.andThen_ok,rgm hhk]
  rfl
 ·have hb:Below w.heap.size w (w.alloc (.mapIter (some k) s.c #[] s.c)):=(Below.refl _ w).alloc (Nat.le_refl _) _
  have hfr:=(h1.hr.frame hb.size (fun k hk=>hb.block k hk)).pad [.gone] (by simp;omega)
  have hno:ρ hp.length=none:=h1.hr.free _ (Nat.le_refl _) (by omega)
  have hle:=Ren.le_add hno (irg w.heap.size)
  have hl:=hfr.lay (r:=irg w.heap.size) (b:=hp.length) (by simp) (by simp[List.getD]) hno
  obtain⟨ms,d1,d2,d3,d4⟩:=h1.df
  have hBw:B<=w.heap.size:=Nat.le_trans h1.bs h1.bel.size
  have hko:∀ p:Nat×Obj,w.heap[p.1]?=some p.2->(w.alloc (.mapIter (some k) s.c #[] s.c)).heap[p.1]?=some p.2:=fun p hp=>(hb.block _ (Array.getElem?_eq_some_iff.1 hp).1).trans hp
  rw[hdst]
  refine⟨[(k,.map s.l s.c),(w.heap.size,.mapIter (some k) s.c #[] s.c)],ρ.add hp.length (irg w.heap.size),⟨(h1.tr.mono hle).put (by rw[h1.sz];exact aH hd) ⟨_,Ren.add_same _ _ _,rfl,Nat.zero_lt_one,rfl⟩,hl,h1.bel.trans (hb.mono hBw),by simp[Act.put,h1.sz],⟨ms,by simpa[Act.put]using d1,fun p hp=>⟨hko p (d2 p hp).1,(d2 p hp).2⟩,d3,d4⟩,fun p hp=>?_,h1.bs,h1.ss,Nat.le_trans h1.sw hb.size⟩,Ren.leB_trans h2 hle.leB,by omega,⟨k,hle _ _ q1,by show s.mb<_;omega,q3,w.heap.size,Ren.add_same _ _ _,Nat.lt_succ_self _,hBw,by omega,rfl⟩⟩
  rcases List.mem_cons.1 hp with rfl|hp
  ·exact⟨hko (k,.map s.l s.c) hhk,rfl⟩
  ·have hp:p=(w.heap.size,.mapIter (some k) s.c #[] s.c):=by simpa using hp
   subst hp
   exact⟨World.alloc_heap_new w _,rfl⟩
theorem Rel.drew{G:List O}{gm:List (Nat×Obj)}{ρ:Ren}{a:Act}(h:Rel G B w0 S N [] gm ρ tm hp a w):Rel G B w0 S N [] gm ρ tm hp a w.drew:=
 ⟨h.tr,h.hr.frame (w':=w.drew) (Nat.le_refl _) (fun _ _=>rfl),h.bel.trans ⟨rfl,rfl,rfl,Nat.le_refl _,fun _ _=>rfl⟩,h.sz,h.df,h.gs,h.bs,h.ss,h.sw⟩
theorem Rel.side{G:List O}{gm gm':List (Nat×Obj)}{ρ:Ren}{a:Act}(h:Rel G B w0 S N [] gm ρ tm hp a w){r:Nat}{ob o':Obj}(hr:w.heap[r]?=some ob)(hc:ob.isCells=false)(hnd:ob≠.deferred (some []))(hB:B<=r)(hgm:GsOk gm' (w.putObj r o')):Rel G B w0 S N [] gm' ρ tm hp a (w.putObj r o'):=by
 obtain⟨ms,d1,d2,d3,d4⟩:=h.df
 refine⟨h.tr,h.hr.putObj hr hc,dz h.bel hB,h.sz,⟨ms,d1,d2.putObj (fun p hp e=>?_),d3,d4⟩,hgm,h.bs,h.ss,by simpa using h.sw⟩
 obtain⟨dd,_,rfl⟩:=List.mem_map.1 hp
 have x1:=(d2 (marked dd) hp).1
 rw[e,hr]at x1
 cases x1
 exact hnd rfl
theorem ZO.next{o:Oper}{oi:Operand}{dst ib since c0:Nat}{seen:Array Nat}{s:SS}(ho:o.op=.next oi false)(hdst:o.dst=some dst)(hg:o.guard=none)(hd:Nat.blt dst N=true)(hi:evA E tm oi=.ptr ib 0 0)(hs:s.it=some (ib,since,seen,c0))
  (hold:∀ x∈s.l.toList,x.born<since) (hsc:since<=c0) (KV:MapEntry->V×V) (hKV:∀ e∈s.l.toList,(∀ ρ,VR ρ (KV e).1 e.key)/\∀ ρ,VR ρ (KV e).2 e.val)
  (h0:(leftOf s.l seen).size=0->ZO E P n N B S d w0 ρ0 all rest μ (some s) ((dst,.tup [.lit false])::tm) hp Q)
  (h1:∀ e∈(leftOf s.l seen).toList,ZO E P n N B S d w0 ρ0 all rest μ (some ⟨s.mb,s.l,s.c,some (ib,since,seen.push e.born,s.c)⟩) ((dst,.tup [.lit true,(KV e).1,(KV e).2])::tm) hp Q):ZO E P n N B S d w0 ρ0 all (o::rest) μ (some s) tm hp Q:=by
 refine ZO.mop (ι:=Option MapEntry) hg (fun c hc=>by rw[ho]at hc;cases hc) (fun i=>match i with|none=>(leftOf s.l seen).size=0|some e=>e∈(leftOf s.l seen).toList) (fun _=>μ)
  (fun i=>match i with|none=>some s|some e=>some ⟨s.mb,s.l,s.c,some (ib,since,seen.push e.born,s.c)⟩)
  (fun i=>match i with|none=>(dst,.tup [.lit false])::tm|some e=>(dst,.tup [.lit true,(KV e).1,(KV e).2])::tm) (fun _=>hp) (fun a w hit=>?_)
  (fun i hR=>by cases i with|none=>exact h0 hR|some e=>exact h1 e hR)
 have hit0:=hit
 obtain⟨gm,ρ,g1,g2,g3,k,q1,q2,q3,q4⟩:=hit
 rw[hs]at q4
 obtain⟨r,r1,r2,r3,r4,rfl⟩:=q4
 have hev:=cn (E:=E) (w:=w) g1.tr g1.hr.hv oi
 rw[hi]at hev
 obtain⟨x,hx,_,_,em⟩:=hev
 rw[r1]at hx
 cases hx
 have em:a.eval oi=.pointer (some ⟨r,0,none⟩):=em
 have hhk:w.heap[k]?=some (.map s.l s.c):=(g1.gs (k,.map s.l s.c) (by simp)).1
 have hhr:w.heap[r]?=some (.mapIter (some k) since seen c0):=(g1.gs (r,.mapIter (some k) since seen c0) (by simp)).1
 rcases run_next_at (P:=P) w o.type r k since c0 seen s.l s.c hhr hhk hold hsc with⟨e0,hrun⟩|⟨e,he,w1,hw1,hrun⟩
 ·refine⟨none,e0,.inl ⟨.tuple #[.bool false],w,?_,?_⟩⟩
  ·obtain⟨_,op,_,_,_,_⟩:=o
   dsimp only at ho hrun
   subst ho
   simp only[execOp,em,Sem.run_bind,hrun,Result.andThen_ok];rfl
  ·rw[hdst];exact hit0.put (aH hd) (fun gm ρ _ _=>⟨_,rfl,_,_,rfl,rfl,rfl⟩)
 ·refine⟨some e,he,.inl ⟨.tuple #[.bool true,e.key,e.val],w1.putObj r (.mapIter (some k) since (seen.push e.born) s.c),?_,?_⟩⟩
  ·obtain⟨_,op,_,_,_,_⟩:=o
   dsimp only at ho hrun
   subst ho
   simp only[execOp,em,Sem.run_bind,hrun,Result.andThen_ok];rfl
  ·have g1':Rel E.G B w0 S N [] [(k,.map s.l s.c),(r,.mapIter (some k) since seen c0)] ρ tm hp a w1:=by
    rcases hw1 with rfl|rfl
    ·exact g1
    ·exact g1.drew
   have hk1:=(g1'.gs (k,.map s.l s.c) (by simp)).1
   have hr1:=(g1'.gs (r,.mapIter (some k) since seen c0) (by simp)).1
   have hlt:r<w1.heap.size:=(Array.getElem?_eq_some_iff.1 hr1).1
   have g5:=g1'.side (o':=.mapIter (some k) since (seen.push e.born) s.c) (gm':=[(k,.map s.l s.c),(r,.mapIter (some k) since (seen.push e.born) s.c)]) hr1 rfl (by intro h;cases h) r3 (fun p hp=>by
    rcases List.mem_cons.1 hp with rfl|hp
    ·exact⟨(World.putObj_heap_other (fun e=>r4 e.symm)).trans hk1,rfl⟩
    ·obtain rfl:=List.mem_singleton.1 hp
     exact⟨World.putObj_heap_same hlt,rfl⟩)
   have hmem:e∈s.l.toList:=(mem_left he).1
   rw[hdst]
   exact ItZ.put (mp:=some ⟨s.mb,s.l,s.c,some (ib,since,seen.push e.born,s.c)⟩) ⟨_,ρ,g5,g2,g3,k,q1,q2,q3,r,r1,r2,r3,r4,rfl⟩ (aH hd) (fun gm ρ _ _=>⟨_,rfl,_,_,rfl,rfl,_,_,rfl,(hKV e hmem).1 ρ,_,_,rfl,(hKV e hmem).2 ρ,rfl⟩)
theorem ZO.entry{o:Oper}{oi:Operand}{dst ib since:Nat}{seen:Array Nat}{s:SS}{e:MapEntry}{K X:V}(ho:o.op=.entry oi)(hdst:o.dst=some dst)(hg:o.guard=none)(hd:Nat.blt dst N=true)(hi:evA E tm oi=.ptr ib 0 0)(hs:s.it=some (ib,since,seen.push e.born,s.c))
  (he:e∈s.l.toList) (hn:(s.l.toList.map (·.born)).Nodup) (hK:∀ ρ,VR ρ K e.key) (hX:∀ ρ,VR ρ X e.val)
  (h:ZO E P n N B S d w0 ρ0 all rest μ (some s) ((dst,.tup [K,X])::tm) hp Q):ZO E P n N B S d w0 ρ0 all (o::rest) μ (some s) tm hp Q:=by
 refine ZO.mop (ι:=Unit) hg (fun c hc=>by rw[ho]at hc;cases hc) (fun _=>True) (fun _=>μ) (fun _=>some s) (fun _=>(dst,.tup [K,X])::tm) (fun _=>hp) (fun a w hit=>⟨(),trivial,.inl ?_⟩) (fun _ _=>h)
 have hit0:=hit
 obtain⟨gm,ρ,g1,g2,g3,k,q1,q2,q3,q4⟩:=hit
 rw[hs]at q4
 obtain⟨r,r1,r2,r3,r4,rfl⟩:=q4
 have hev:=cn (E:=E) (w:=w) g1.tr g1.hr.hv oi
 rw[hi]at hev
 obtain⟨x,hx,_,_,em⟩:=hev
 rw[r1]at hx
 cases hx
 have em:a.eval oi=.pointer (some ⟨r,0,none⟩):=em
 have hhk:w.heap[k]?=some (.map s.l s.c):=(g1.gs (k,.map s.l s.c) (by simp)).1
 have hhr:w.heap[r]?=some (.mapIter (some k) since (seen.push e.born) s.c):=(g1.gs (r,.mapIter (some k) since (seen.push e.born) s.c) (by simp)).1
 have hrun:=run_entry_at (P:=P) w r k since seen s.l s.c e hhr hhk he hn
 refine⟨.tuple #[e.key,e.val],w,?_,?_⟩
 ·obtain⟨_,op,_,_,_,_⟩:=o
  dsimp only at ho
  subst ho
  simp only[execOp,em,Sem.run_bind,hrun,Result.andThen_ok];rfl
 ·rw[hdst];exact hit0.put (aH hd) (fun gm ρ _ _=>⟨_,rfl,_,_,rfl,hK ρ,_,_,rfl,hX ρ,rfl⟩)
theorem ZO.delete{o:Oper}{mt kt:TypeId}{om ok:Operand}{s:SS}{K:V}{i:Nat}(ho:o.op=.call { callee:=.builtin .delete,args:=#[om,ok],argTypes:=#[mt,kt] })(hdst:o.dst=none)(hg:o.guard=none)(hm:evA E tm om=.yl s.mb)(hk:evA E tm ok=K)(hpl:V.pl K=true)
  (hkey:∀ uk,(∀ ρ,VR ρ K uk)->AV P mt kt uk/\∃ x,∀ w,(Instr.findKey kt uk s.l.toList).run P w=.ok (some (i,x)) w)
  (h:ZO E P n N B S d w0 ρ0 all rest μ (some ⟨s.mb,s.l.eraseIdxIfInBounds i,s.c,s.it⟩) tm hp Q):ZO E P n N B S d w0 ρ0 all (o::rest) μ (some s) tm hp Q:=by
 refine ZO.mop (ι:=Unit) hg (fun c hc=>by rw[ho]at hc;cases hc) (fun _=>True) (fun _=>μ) (fun _=>some ⟨s.mb,s.l.eraseIdxIfInBounds i,s.c,s.it⟩) (fun _=>tm) (fun _=>hp) (fun a w hit=>⟨(),trivial,.inl ?_⟩) (fun _ _=>h)
 obtain⟨gm,ρ,g1,g2,g3,k,q1,q2,q3,q4⟩:=hit
 have hev:=fun x=>cn (E:=E) (w:=w) g1.tr g1.hr.hv x
 have em:=hev om
 rw[hm]at em
 obtain⟨r0,hr,em⟩:=em
 rw[q1]at hr
 cases hr
 have em:a.eval om=.map (some k):=em
 have ek:=hev ok
 rw[hk]at ek
 have ek':∀ ρ,VR ρ K (a.eval ok):=fun ρ'=>VR.pl _ _ hpl ek
 obtain⟨⟨⟨et,hmt⟩,hck⟩,x,hfk⟩:=hkey _ ek'
 have hhk:w.heap[k]?=some (.map s.l s.c):=by
  cases hi:s.it with
  |none=>rw[hi]at q4;subst q4;exact(g1.gs (k,.map s.l s.c) (by simp)).1
  |some x=>
   obtain⟨ib,since,seen,c0⟩:=x
   rw[hi]at q4
   obtain⟨r,_,_,_,_,rfl⟩:=q4
   exact(g1.gs (k,.map s.l s.c) (by simp)).1
 have hlt:k<w.heap.size:=(Array.getElem?_eq_some_iff.1 hhk).1
 have hrun:(Builtin.delete_ #[mt,kt] o.type #[.map (some k),a.eval ok]).run P w=.ok (.tuple #[]) (w.putObj k (.map (s.l.eraseIdxIfInBounds i) s.c)):=by
  simp[Builtin.delete_,Sem.run_bind,run_underlying hmt,Result.andThen_ok,rgm hhk,hck,hfk,rsm _ hhk]
 refine⟨.tuple #[],w.putObj k (.map (s.l.eraseIdxIfInBounds i) s.c),?_,?_⟩
 ·obtain⟨_,op,_,_,_,_⟩:=o
  dsimp only at ho hrun
  subst ho
  simp[execOp,resolve,invoke,builtin,em,hrun,Result.andThen]
 ·rw[hdst]
  cases hi:s.it with
  |none=>
   rw[hi]at q4
   subst q4
   exact⟨_,ρ,g1.side (o':=.map (s.l.eraseIdxIfInBounds i) s.c) (gm':=[(k,.map (s.l.eraseIdxIfInBounds i) s.c)]) hhk rfl (by intro h;cases h) q3 (fun p hp=>by
    obtain rfl:=List.mem_singleton.1 hp
    exact⟨World.putObj_heap_same hlt,rfl⟩),g2,g3,k,q1,q2,q3,rfl⟩
  |some x=>
   obtain⟨ib,since,seen,c0⟩:=x
   rw[hi]at q4
   obtain⟨r,r1,r2,r3,r4,rfl⟩:=q4
   have hhr:=(g1.gs (r,.mapIter (some k) since seen c0) (by simp)).1
   exact⟨_,ρ,g1.side (o':=.map (s.l.eraseIdxIfInBounds i) s.c) (gm':=[(k,.map (s.l.eraseIdxIfInBounds i) s.c),(r,.mapIter (some k) since seen c0)]) hhk rfl (by intro h;cases h) q3 (fun p hp=>by
    rcases List.mem_cons.1 hp with rfl|hp
    ·exact⟨World.putObj_heap_same hlt,rfl⟩
    ·obtain rfl:=List.mem_singleton.1 hp
     exact⟨(World.putObj_heap_other r4).trans hhr,rfl⟩),g2,g3,k,q1,q2,q3,r,r1,r2,r3,r4,rfl⟩
theorem ZM.loop{body:Code}{α:Type}(st:α->Option SS×Tm×List O)(inv:α->Prop)(meas:α->Nat)(a0:α)(hm:mp=(st a0).1)(h0:Ent E.G μ tm hp (st a0).2.1 (st a0).2.2)(hi:inv a0)
  (hround:∀ x,inv x->ZM E P n N B S d w0 ρ0 body μ (st x).1 (st x).2.1 (st x).2.2 fun e μ' mp' tm' hp'=>match e with
   |.normal=>μ'=μ/\∃ x',inv x'/\meas x'<meas x/\mp'=(st x').1/\Ent E.G μ tm' hp' (st x').2.1 (st x').2.2
   |e=>Q e μ' mp' tm' hp'):ZM E P n N B S d w0 ρ0 (.loop body) μ mp tm hp Q:=by
 subst hm
 refine ZM.ent h0 fun a w hi0=>wpIn_loop_rounds (meas a0+1) ?_
 have key:∀ (k:Nat) (x:α) (a:Act) (w:World),inv x->meas x<=k->ItZ E N B S d w0 ρ0 μ (st x).1 (st x).2.1 (st x).2.2 a w ->
   Code.roundsIn (Fr none) n P body (fun e a' w'=>∃ μ' mp' tm' hp',ItZ E N B S d w0 ρ0 μ' mp' tm' hp' a' w'/\Q e μ' mp' tm' hp') (k+1) a w:=by
  intro k
  induction k with
  |zero=>
   intro x a w hx hk hit
   refine wpIn_mono (hround x hx a w hit) ?_
   rintro e a2 w2 ⟨μ2,mp2,tm2,hp2,h2,hq⟩
   cases e with
   |normal=>obtain⟨_,x',_,h4,_⟩:=hq;omega
   |_=>exact⟨μ2,mp2,tm2,hp2,h2,hq⟩
  |succ k ih=>
   intro x a w hx hk hit
   refine wpIn_mono (hround x hx a w hit) ?_
   rintro e a2 w2 ⟨μ2,mp2,tm2,hp2,h2,hq⟩
   cases e with
   |normal=>
    obtain⟨rfl,x',h3,h4,rfl,h5⟩:=hq
    exact ih x' a2 w2 h3 (by omega) (h2.ent h5)
   |_=>exact⟨μ2,mp2,tm2,hp2,h2,hq⟩
 exact key (meas a0) a0 a w hi (Nat.le_refl _) hi0
end
theorem DH{E:Env}{P:Program}(hE:E.Fn P){f:FuncId}{fn:Func}{c:Code}(hf:P.funcs[f]?=some fn)(hb:fn.body=some c){args:List V}{H:List O}{v:V}{Ns:List O}(hlen:Nat.ble args.length fn.ntmps=true)
  (hs:∀ (n B S:Nat) (w0:World) (ρ0:Ren),ZM E P n fn.ntmps B S H.length w0 ρ0 c H.length none (bw 0 args) H (fun e μ _ tm hp=>∃ tm2 hp2,Ent E.G μ tm hp tm2 hp2/\FinB E fn args H.length v Ns e tm2 hp2)):aJ E.G P f args H v Ns:=by
 intro ρ us w hh hus
 have hlen:=Nat.le_of_ble_eq_true hlen
 have hl:=hus.length
 have hrel:Rel E.G w.heap.size w w.heap.size fn.ntmps [] [] ρ (bw 0 args) H { tmps:=us.toArray++Array.replicate (fn.ntmps-us.toArray.size) undef,defers:=[] } w:=
  ⟨by simpa using TR.init ρ args us fn.ntmps hus,hh,Below.refl _ w,by simp;omega,⟨[],rfl,fun p hp=>by simp at hp,by simp,by simp⟩,fun p hp=>by simp at hp,Nat.le_refl _,Nat.le_refl _,Nat.le_refl _⟩
 have hbody:CallsIn (Fr none) 0 P f us.toArray w fun e w'=>∃ u,e=.returned u/\∃ v0 hp' ρ',VR ρ' v0 u/\HR E.G w.heap.size ρ' hp' w'/\ρ.le ρ'/\Below w.heap.size w w'/\∃ bs,V.outB ((slsL args).map (·.1)) bs H.length v0=some v/\oZ bs hp' H.length=true/\bs.map (hp'.getD · .gone)=Ns:=by
  refine callsIn_of_wp_marks hf hb trivial ?_
  refine wpIn_mono (hs 0 w.heap.size w.heap.size w ρ _ w ⟨[],ρ,hrel,Ren.leB_refl _ _,Nat.le_refl _,rfl⟩) ?_
  rintro e a' w' ⟨μ',mp',tm0,hp0,⟨gm,ρ1,g1,g2,g3,_⟩,tm2,hp2,hent0,tm',hp',hent,he,l,bs,hres,hv1,hv2,hv3⟩
  obtain⟨ρ2,l1,g4⟩:=g1.ent hent0
  obtain⟨ρ',l2,h'⟩:=g4.ent hent
  have hl':ρ.le ρ':=fun b r e=>by
   have hc:b<H.length\/ax<=b:=by
    by_cases h1:b<H.length
    ·exact .inl h1
    ·by_cases h2:ax<=b
     ·exact .inr h2
     ·rw[hh.free b (by omega) (by omega)]at e;cases e
   exact l2 b r hc (l1 b r (hc.imp_left fun h=>by omega) (g2 b r hc e))
  have hpost:LeavesInM (Fr none) 0 P fn a'.tmps (fun e w'=>∃ u,e=.returned u/\∃ v0 hp' ρ',VR ρ' v0 u/\HR E.G w.heap.size ρ' hp' w'/\ρ.le ρ'/\Below w.heap.size w w'/\∃ bs,V.outB ((slsL args).map (·.1)) bs H.length v0=some v/\oZ bs hp' H.length=true/\bs.map (hp'.getD · .gone)=Ns) a'.defers .returning w':=by
   obtain⟨ms,hd1,hd2,hd3,hd4⟩:=h'.df
   rw[hd1,List.append_nil]
   refine cC (S:=w.heap.size) ms w' hd2 hd4 hd3 ?_
   intro w2 h1 h2 h3 h4 h5 h6
   have hdm:∀ d∈ms,w'.heap[d]?=some (.deferred (some [])):=fun d hd=>(hd2 (marked d) (List.mem_map.2 ⟨d,hd,rfl⟩)).1
   have hhr:=h'.hr.cellsSame (w':=w2) (fun k ob hk hob=>by
    rw[h5 k (fun d hd e=>by subst e;rw[hdm k hd]at hk;cases hk;cases hob)];exact hk) (by omega)
   obtain⟨u,hrun,hv⟩:=cU hE.ok h'.tr hhr hres
   refine⟨u,hrun,u,rfl,_,hp',ρ',hv,hhr,hl',?_,bs,hv1,hv2,hv3⟩
   refine h'.bel.trans ⟨h2,h3,h4,by omega,fun k hk=>h5 k fun d hd e=>?_⟩
   have:=hd3 d hd
   omega
  rcases he with rfl|rfl<;>exact hpost
 refine(callsIn_wide.1 hbody).mono ?_
 rintro e w' ⟨u,rfl,v0,hp',ρ',hv,hr',hl',hb',bs,h1,h2,rfl⟩
 simp only[oZ,Bool.and_eq_true]at h2
 obtain⟨ρ2,hr2,hl2,hm2⟩:=hh.take (Nat.le_refl _) hr' hb' bs (eG h2.1.1) (fun b h=>by have:=List.all_eq_true.1 h2.1.2 b h;simp only[Bool.and_eq_true]at this;exact⟨aH this.1,this.2⟩) (aH h2.2)
 refine⟨u,ρ2,rfl,sD hm2 (fun b r hb hr=>?_) _ _ _ h1 hv,hr2,hl2,hb'⟩
 obtain⟨r0,hr0⟩:=dY args us hus b hb
 have:=hl' _ _ hr0
 rw[hr]at this
 cases this
 exact hl2 _ _ hr0
end
end Go.Ab
namespace Go.Ab
def phRg:Rg:={ blk:=0,base:=0,m:=1,n:=0,cp:=0,ph:=true }
theorem OI(ρ:Ren)(k:IntKind)(w:World):OR ρ (.ints false k []) phRg w:=
 ⟨by simp,by simp,trivial,rfl,fun _=>rfl,fun e=>(by cases e),fun e=>(by cases e),fun e=>(by cases e),fun e=>(by cases e),fun e=>(by cases e)⟩
theorem aJ.nil{G:List O}{P:Program}{f:FuncId}{args' args:List V}{H:List O}{b:Bool}(k:IntKind)(hs:H.length+1<ax)
  (ha:∀ (ρ:Ren) us,ρ H.length=some phRg->VRL ρ args us->VRL ρ args' us) (h:aJ G P f args' (H++[.ints false k []]) (.bool b) []):aJ G P f args H (.bool b) []:=by
 intro ρ us w hr hv
 obtain⟨h1,h2⟩:=hr.extend (o:=.ints false k []) (w':=w) (r:=phRg) (Nat.le_refl _) (fun _ _=>rfl) (OI _ k w) (fun e=>(by cases e)) (fun e=>(by cases e)) (fun e=>(by cases e)) hs
 refine(h _ us w h1 (ha _ us (Ren.add_same _ _ _) (VRL.mono h2 _ _ hv))).mono ?_
 rintro e w' ⟨u,ρ',rfl,hu,hh,_,hb⟩
 refine⟨u,ρ,rfl,hu,?_,Ren.le_refl ρ,hb⟩
 rw[List.append_nil]
 exact hr.frame hb.size (fun k hk=>hb.block k hk)
end Go.Ab
