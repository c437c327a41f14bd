/- An evaluator of the model on values that are partly known, and its soundness (text G4); no condition. -/
import Derived.Test.YtlannahgjgpfcaaGreatDoorG3
import Derived.WalkKit
import Derived.ProofKit
import Derived.OpenShut
import Derived.Deep.DeepHandedRow
import Derived.Lib.LaidTab
import Derived.Stop.LaidErr
namespace Go.Ab
open Go.RowKit Go.ChangeShapes Go.WideShapes
section
variable{P:Program}
def isK(d:Option TypeDesc)(k:IntKind):Bool:=match d with|some (.int k')=>decide (k'=k)|_=>false
theorem Mi{d:Option TypeDesc}{k:IntKind}(h:isK d k=true):d=some (.int k):=by
 unfold isK at h
 split at h
 ·rw[of_decide_eq_true h]
 ·cases h
theorem zI{enc:TypeId×Value->Unit}{W:World}{base:Nat}{sp:Nat->Bool}{held:Bool}{fuel:Nat}{t e:TypeId}{n m:Nat}{k:IntKind}{fs:Array Field}{cs:List Value}{rs:List (List Int)}{p:List MemPlace}
  (ht:P.underlying t=some (.array n e)) (he:P.underlying e=some (.struct fs)) (hce:P.cellsOf e=m) (hfs:fs.size=m) (hf:∀ (j:Nat) (f:Field),fs[j]?=some f->f.offset=j/\P.underlying f.type=some (.int k)/\P.cellsOf f.type=1)
  (h:DataW.trod enc P W base sp held fuel t cs=some (.agg (rs.map fun r=>.agg (r.map fun z=>.lit (.int k z))),p)) (i j:Nat) (r:List Int) (z:Int) (hi:rs[i]?=some r) (hj:r[j]?=some z):cs[i*m+j]?=some (.int k z):=by
 obtain⟨xs,m',rfl,hx,hl,hxl,hel⟩:=DataW.trod_array ht h
 simp only[Prod.mk.injEq,DataW.agg.injEq]at hx
 have hxs:=hx.1
 have hin:i<n:=by
  have h1:=congrArg List.length hxs
  simp at h1
  have:=(List.getElem?_eq_some_iff.1 hi).1
  omega
 have hx1:(xs.map (·.1))[i]?=some (.agg (r.map fun z=>.lit (.int k z))):=by rw[<-hxs];simp[hi]
 simp only[List.getElem?_map,Option.map_eq_some_iff]at hx1
 obtain⟨x,hx2,hx3⟩:=hx1
 have h2:=hel i hin
 rw[hx2]at h2
 obtain⟨ys,m2,rfl,hy,hl2,hyl,hel2⟩:=DataW.trod_struct he h2
 have hy1:(ys.map (·.1))=r.map fun z=>(.lit (.int k z):DataW Unit):=by
  have:x.1=.agg (ys.map (·.1)):=by rw[hy]
  rw[hx3]at this
  simpa using this.symm
 have hjm:j<m:=by
  have h1:=congrArg List.length hy1
  simp at h1
  have:=(List.getElem?_eq_some_iff.1 hj).1
  omega
 obtain⟨f,hff⟩:∃ f,fs[j]?=some f:=⟨fs[j]'(by omega),by simp⟩
 obtain⟨f1,f2,f3⟩:=hf j f hff
 have h3:=hel2 j f hff
 have hy2:(ys.map (·.1))[j]?=some (.lit (.int k z)):=by rw[hy1];simp[hj]
 simp only[List.getElem?_map,Option.map_eq_some_iff]at hy2
 obtain⟨y,hy3,hy4⟩:=hy2
 rw[hy3,f1,f3]at h3
 obtain⟨z',hc,rfl,_⟩:=DataW.trod_int f2 h3
 simp only[DataW.lit.injEq,Lit.int.injEq,true_and]at hy4
 subst hy4
 have h4:=congrArg (fun l:List Value=>l[0]?) hc
 simp only[List.getElem?_take,List.getElem?_drop,hce,Nat.add_zero]at h4
 simpa[hjm]using h4
def td(W:World)(g:Nat)(o:O):Prop:=∀ k j v,k<o.len->j<o.wid->o.cell k j=some v->∃ u,W.cell? ⟨g,k*o.wid+j,none⟩=some u/\∀ ρ,VR ρ v u
theorem jT{W:World}{name:String}{g:Nat}{t e:TypeId}{n m:Nat}{k:IntKind}{fs:Array Field}{rs:List (List Int)}{rest:List (String×DataW Unit)}
  (hg:P.globalNamed name=some g) (hty:(P.globals[g]?).map (·.type)=some t) (ht:P.underlying t=some (.array n e)) (he:P.underlying e=some (.struct fs)) (hce:P.cellsOf e=m) (hfs:fs.size=m)
  (hf:(fs.toList.zipIdx.all fun p=>p.1.offset==p.2&&isK (P.underlying p.1.type) k&&P.cellsOf p.1.type==1)=true)
  (hwf:(rs.all fun r=>r.length==m)=true) (h:laidMet P ((name,.agg (rs.map fun r=>.agg (r.map fun z=>.lit (.int k z))))::rest) W):td W g (.rows false (List.replicate m k) rs):=by
 obtain⟨ps,⟨g',t',cs,fuel,p,q,hg',ht',hvar,hd,_,_⟩,_⟩:=h
 obtain rfl:=Option.some.inj (hg.symm.trans hg')
 obtain rfl:=Option.some.inj (hty.symm.trans ht')
 intro a b v ha hb hv
 simp only[O.len]at ha
 simp only[O.wid,List.length_replicate]at hb
 have hf':∀ (j:Nat) (f:Field),fs[j]?=some f->f.offset=j/\P.underlying f.type=some (.int k)/\P.cellsOf f.type=1:=by
  intro j f hj
  have hmem:(f,j)∈fs.toList.zipIdx:=by
   rw[List.mem_zipIdx_iff_getElem?]
   simpa using hj
  have:=List.all_eq_true.1 hf _ hmem
  simp only[Bool.and_eq_true,beq_iff_eq]at this
  exact⟨this.1.1,Mi this.1.2,this.2⟩
 have hr:rs[a]?=some (rs[a]'ha):=by simp[ha]
 have hlen:(rs[a]'ha).length=m:=by
  have:=List.all_eq_true.1 hwf _ (List.getElem_mem ha)
  simpa using this
 have hz:(rs[a]'ha)[b]?=some ((rs[a]'ha)[b]'(by omega)):=by simp[hlen,hb]
 have hc:=zI ht he hce hfs hf' hd a b _ _ hr hz
 have hcell:=World.var?_cell hg hvar (a*m+b)
 rw[Array.getElem?_toList]at hc
 refine⟨_,by simp only[O.wid,List.length_replicate];rw[hcell];exact hc,fun ρ=>?_⟩
 have hkb:(List.replicate m k)[b]?=some k:=by simp[hb]
 simp only[O.cell,hkb,Option.some.injEq]at hv
 subst hv
 simp[VR,List.getD,hr,hz]
def gRen(G:List O):Ren:=fun i=>match Nat.ble ax i with
 |true=>(G[i-ax]?).map fun o=>{ blk:=i-ax,base:=0,m:=o.wid,n:=o.len,cp:=o.len,ph:=false }
 |false=>none
theorem sH{W W':World}(h:Below W.heap.size W W'){b off:Nat}(hb:b<W.heap.size):W'.frozen? ⟨b,off,none⟩=W.frozen? ⟨b,off,none⟩:=by
 unfold World.frozen?
 rw[h.block b hb]
section
variable{H:Type}{enc:TypeId×Value->H}{w:World}
theorem iU(hl:laidOutB P=true){W W':World}{sp':Nat->Bool}:∀ {ts:List TypeId} {vs:List Value} {ds:List (DataW H)} {ps:List MemPlace},(ts.all fun t=>P.readableRec t&&decide (t<P.types.size))=true ->
  DataW.TrodAll enc P W 0 (fun _=>true) true ts vs ds ps->(∀ p∈ps,W.sameAt W' p)->(∀ p∈ps,sp' p.block=true)->DataW.TrodAll enc P W' 0 sp' true ts vs ds ps
 |[],_,_,_,_,h,_,_=>by
  obtain⟨rfl,rfl,rfl⟩:=trodAll_nil h
  exact trodAll_mk0
 |t::ts,_,_,_,hr,h,h1,h2=>by
  obtain⟨v,vs,d,ds,p,q,rfl,rfl,rfl,ha,hb⟩:=trodAll_cons h
  simp only[List.all_cons,Bool.and_eq_true,decide_eq_true_eq]at hr
  exact trodAll_cons_mk (WideElems.Trod_stays hl hr.1.1 hr.1.2 ha (fun x hx=>h1 x (List.mem_append_left _ hx)) (fun x hx=>h2 x (List.mem_append_left _ hx)))
   (iU hl hr.2 hb (fun x hx=>h1 x (List.mem_append_right _ hx)) (fun x hx=>h2 x (List.mem_append_right _ hx)))
end
theorem GK{H:Type}{enc:TypeId×Value->H}{f:Func}{s:ChangeSpec}{apart fresh handsOn again:Bool}{W W':World}{args:Array Value}{ds gs:List (DataW H)}{before:List MemPlace}{tb:TypeId}
  (hW:DataW.Whole enc P f.params.toList s.vars apart W args.toList ds gs before) (hv:s.vars=[]) (hfn:s.fn H (ds++gs)={ results:=[.lit (.bool true)],args:=ds })
  (hb:Below W.heap.size W W') (hl:laidOutB P=true) (hr:(f.params.toList.all fun t=>P.readableRec t&&decide (t<P.types.size))=true) (hrt:f.resultTypes=#[tb]) (htb:P.underlying tb=some .bool) :
  s.post enc P f apart fresh handsOn again W args (.bool true) W':=by
 have hlt:=hW.lt
 have hW':=hW
 obtain⟨p,q,hA,hV,rfl,hz,hn⟩:=hW
 rw[hv]at hV
 obtain⟨rfl,rfl⟩:=trodVars_none hV
 have hsame:∀ x∈p,W.sameAt W' x:=fun x hx=>hb.same (hlt x (List.mem_append_left _ hx))
 have hargs:∀ sp:Nat->Bool,(∀ x∈p,sp x.block=true)->DataW.TrodAll enc P W' 0 sp true f.params.toList args.toList ds p:=fun sp hs=>iU hl hr hA hsame hs
 have hres:∀ (b:Nat) (sp:Nat->Bool) (hd:Bool),DataW.TrodAll enc P W' b sp hd f.resultTypes.toList ((Value.bool true).resultList f.resultTypes.size) [.lit (.bool true)] []:=fun b sp hd=>by
  rw[hrt]
  exact trodAll_mk1 (shut_bool htb true)
 refine⟨ds,[],p++[],[],p,[],hW',?_,?_,?_,hb.frame _,fun _=>?_⟩
 ·rw[hfn];exact hres _ _ _
 ·rw[hfn];exact hargs _ (fun x hx=>by simpa using hlt x (List.mem_append_left _ hx))
 ·rw[hfn,hv];rfl
 ·refine⟨ok_one hrt rfl (okWide_bool_mk htb true),_,[],(([]++p)++[]),⟨[]++p,[],trodAll_append (hargs _ (fun _ _=>rfl)) (hres _ _ _),by rw[hv];rfl,rfl,?_,?_⟩,?_⟩
  ·intro b off hp
   have hp':MemPlace.cell b off∈p++[]:=by simpa using hp
   rw[sH hb (b:=b) (hlt _ hp')]
   exact hz b off hp'
  ·intro ha
   have:=hn ha
   simpa using this
  ·intro x hx _
   simpa using hx
theorem gQ{W:World}{base:Nat}{t:TypeId}{k:IntKind}{v:Value}(ht:P.underlying t=some (.int k))(h:Cell.okWide P W .any base t v):∃ n,v=.int k n/\k.min<=n/\n<=k.max:=by
 unfold Cell.okWide Cell.ok at h
 rw[ht]at h
 cases v<;>simp at h
 obtain⟨rfl,h1,h2⟩:=h
 exact⟨_,rfl,h1,h2⟩
theorem Dk{W:World}{base:Nat}{t:TypeId}{v:Value}(ht:P.underlying t=some .bool)(h:Cell.okWide P W .any base t v):∃ b,v=.bool b:=by
 unfold Cell.okWide Cell.ok at h
 rw[ht]at h
 cases v<;>simp at h
 exact⟨_,rfl⟩
theorem eW{W:World}{base:Nat}{t:TypeId}{ts:List TypeId}{cs:Array Value}(h:Row.okWide P W .any base t cs)(hts:P.cellTypes P.depth t=some ts)(hn:cs.size=ts.length){i:Nat}{u:TypeId}(hu:ts[i]?=some u):∃ v,cs[i]?=some v/\Cell.okWide P W .any base u v:=by
 obtain⟨ts',h1,_,h3⟩:=h
 rw[hts]at h1
 obtain rfl:=Option.some.inj h1
 have hi:=(List.getElem?_eq_some_iff.1 hu).1
 have hc:cs[i]?=some (cs[i]'(by omega)):=by simp
 obtain⟨u',h4,h5⟩:=h3 i _ hc
 rw[Nat.mod_eq_of_lt hi,hu]at h4
 obtain rfl:=Option.some.inj h4
 exact⟨_,hc,h5⟩
theorem GL{H:Type}{enc:TypeId×Value->H}{W:World}{base:Nat}{sp:Nat->Bool}{held:Bool}{b0 fuel:Nat}{t e:TypeId}{k:IntKind}{v:Value}{x:DataW H×List MemPlace}(ht:P.underlying t=some (.slice e))(he:P.underlying e=some (.int k))(hc:P.cellsOf e=1)
  (hok:Cell.okWide P W .any b0 t v) (h:DataW.trod enc P W base sp held fuel t [v]=some x) :
  ∃ (r:Rg) (zs:List Int),(∀ (ρ:Ren) b,ρ b=some r->VR ρ (.sl b 0 zs.length none) v)/\(∀ ρ,OR ρ (.ints false k zs) r W)/\(∀ n∈zs,(Lit.int k n).wf=true):=by
 rcases open_ints ht he hc h with⟨h1,_⟩|⟨a,len,cap,zs,h1,_,h3,_,h5,_,h7,h8⟩
 ·obtain rfl:v=.slice none 0 0:=by simpa using h1
  refine⟨{ blk:=0,base:=0,m:=1,n:=0,cp:=0,ph:=true },[],fun ρ b hb=>⟨_,hb,by simp,fun _=>⟨rfl,rfl⟩,fun e=>by cases e⟩,fun ρ=>?_,by simp⟩
  exact⟨by simp,by simp,trivial,rfl,fun _=>rfl,fun e=>(by cases e),fun e=>(by cases e),fun e=>(by cases e),fun e=>(by cases e),fun e=>(by cases e)⟩
 ·obtain rfl:v=.slice (some a) len cap:=by simpa using h1
  have hhas:P.underlying t=some (.slice e):=ht
  unfold Cell.okWide Cell.ok at hok
  rw[hhas]at hok
  simp only at hok
  obtain⟨_,_,_,hspot,row,cells,hshape,_⟩:=hok
  have hlt:a.block<W.heap.size:=by
   unfold World.shape? at hshape
   split at hshape
   ·rename_i hx;exact(Array.getElem?_eq_some_iff.1 hx).1
   ·cases hshape
  have hlen:len<=zs.length:=by rw[h5];split<;>omega
  have hl2:(zs.take len).length=len:=by simp;omega
  obtain⟨blk,off,spot⟩:=a
  dsimp only at hspot hlt
  subst hspot
  refine⟨{ blk:=blk,base:=off,m:=1,n:=len,cp:=cap,ph:=false },zs.take len,fun ρ b hb=>⟨_,hb,by simp only[hl2];omega,fun e=>(by cases e),fun _=>⟨by simp only[hl2];simpa using h3,_,by simp only[hl2];rfl,fun _=>by simp⟩⟩,fun ρ=>?_,fun n hn=>h8 n (List.mem_of_mem_take hn)⟩
  refine⟨by simp,by simp,trivial,hl2.symm,fun e=>(by cases e),fun _=>hlt,fun _=>rfl,fun _=>h3,fun _ i j u hi hj hu=>?_,fun e=>(by cases e)⟩
  simp only[O.len,hl2]at hi
  simp only[O.wid]at hj
  obtain rfl:j=0:=by omega
  simp only[O.cell,Option.some.injEq]at hu
  subst hu
  have hcell:=h7 i (by omega)
  rw[add_plain]at hcell
  refine⟨_,by simpa using hcell,?_⟩
  have hi2:i<zs.length:=by omega
  simp[VR,List.getD,hi]
theorem zZ{H:Type}{enc:TypeId×Value->H}{W:World}{base:Nat}{sp:Nat->Bool}{held:Bool}{t:TypeId}{fs:Array Field}{cs:Array Value}{d:DataW H}{ps:List MemPlace}(ht:P.underlying t=some (.struct fs))
  (h:DataW.Trod enc P W base sp held t (.agg cs) d ps) {j:Nat} {f:Field} (hf:fs[j]?=some f) (hc:P.cellsOf f.type=1) {s:Value} (hs:cs[f.offset]?=some s):∃ fuel x,DataW.trod enc P W base sp held fuel f.type [s]=some x:=by
 obtain⟨fuel,h⟩:=h
 obtain⟨xs,m,_,_,_,hxl,hel⟩:=DataW.trod_struct ht h
 have h3:=hel j f hf
 have hj:=(Array.getElem?_eq_some_iff.1 hf).1
 obtain⟨x,hx⟩:∃ x,xs[j]?=some x:=⟨xs[j]'(by omega),by simp⟩
 rw[hx,hc]at h3
 have e:(cs.toList.drop f.offset).take 1=[s]:=by
  have hlt:=(Array.getElem?_eq_some_iff.1 hs).1
  have hl:cs.toList[f.offset]?=some s:=by simpa using hs
  apply List.ext_getElem?
  intro i
  cases i with
  |zero=>simpa[List.getElem?_take,List.getElem?_drop]using hl
  |succ i=>simp[List.getElem?_take]
 refine⟨m,x,?_⟩
 rw[<-e]
 exact h3
end
section
variable{P:Program}
def litV:Lit->V
 |.bool b=>.lit b
 |.int k n=>.int k n
 |.string s=>.str s
 |_=>.junk
def lg(d:Option TypeDesc)(l:Lit):Bool:=match d,l with
 |some (.int k),.int k' _=>decide (k=k')
 |some .bool,.bool _=>true
 |some .string,.string _=>true
 |_,_=>false
theorem mS{enc:TypeId×Value->Unit}{W:World}{base:Nat}{sp:Nat->Bool}{held:Bool}{fuel:Nat}{e:TypeId}{fs:Array Field}{cs:List Value}{r:List Lit}{p:List MemPlace}
  (he:P.underlying e=some (.struct fs)) (hf:(fs.toList.zipIdx.all fun q=>q.1.offset==q.2&&P.cellsOf q.1.type==1&&(match r[q.2]? with|some l=>lg (P.underlying q.1.type) l|none=>false))=true)
  (h:DataW.trod enc P W base sp held fuel e cs=some (.agg (r.map fun l=>.lit l),p)) (j:Nat) (l:Lit) (hj:r[j]?=some l):∃ v,cs[j]?=some v/\∀ ρ,VR ρ (litV l) v:=by
 obtain⟨ys,m2,rfl,hy,hl2,hyl,hel2⟩:=DataW.trod_struct he h
 have hy1:ys.map (·.1)=r.map fun l=>(.lit l:DataW Unit):=by
  simp only[Prod.mk.injEq,DataW.agg.injEq]at hy
  exact hy.1.symm
 have hjm:j<fs.size:=by
  have h1:=congrArg List.length hy1
  simp at h1
  have:=(List.getElem?_eq_some_iff.1 hj).1
  omega
 obtain⟨f,hff⟩:∃ f,fs[j]?=some f:=⟨fs[j]'(by omega),by simp⟩
 have hmem:(f,j)∈fs.toList.zipIdx:=by
  rw[List.mem_zipIdx_iff_getElem?]
  simpa using hff
 have hfj:=List.all_eq_true.1 hf _ hmem
 simp only[Bool.and_eq_true,beq_iff_eq,hj]at hfj
 obtain⟨⟨f1,f2⟩,f3⟩:=hfj
 have h3:=hel2 j f hff
 have hy2:(ys.map (·.1))[j]?=some (.lit l):=by rw[hy1];simp[hj]
 simp only[List.getElem?_map,Option.map_eq_some_iff]at hy2
 obtain⟨y,hy3,hy4⟩:=hy2
 rw[hy3,f1,f2]at h3
 have get:∀ {v:Value},(cs.drop j).take 1=[v]->cs[j]?=some v:=by
  intro v hc
  have h4:=congrArg (fun l:List Value=>l[0]?) hc
  simpa[List.getElem?_take,List.getElem?_drop]using h4
 unfold lg at f3
 split at f3
 ·rename_i k k' n hk
  obtain rfl:=of_decide_eq_true f3
  obtain⟨z',hc,rfl,_⟩:=DataW.trod_int hk h3
  simp only[DataW.lit.injEq,Lit.int.injEq,true_and]at hy4
  subst hy4
  exact⟨_,get hc,fun ρ=>rfl⟩
 ·rename_i b hk
  obtain⟨z',hc,rfl⟩:=DataW.trod_bool hk h3
  simp only[DataW.lit.injEq,Lit.bool.injEq]at hy4
  subst hy4
  exact⟨_,get hc,fun ρ=>rfl⟩
 ·rename_i s hk
  obtain⟨z',hc,rfl,_⟩:=DataW.trod_string hk h3
  simp only[DataW.lit.injEq,Lit.string.injEq]at hy4
  subst hy4
  exact⟨_,get hc,fun ρ=>by show Value.string z'=Value.string ⟨z'.data.toList.toArray⟩;rw[Array.toArray_toList]⟩
 ·cases f3
theorem qo{W:World}{name:String}{g:Nat}{t e:TypeId}{n m:Nat}{fs:Array Field}{rs:List (List Lit)}{rest:List (String×DataW Unit)}
  (hg:P.globalNamed name=some g) (hty:(P.globals[g]?).map (·.type)=some t) (ht:P.underlying t=some (.array n e)) (he:P.underlying e=some (.struct fs)) (hce:P.cellsOf e=m)
  (hf:(rs.all fun r=>r.length==m&&fs.toList.zipIdx.all fun q=>q.1.offset==q.2&&P.cellsOf q.1.type==1&&(match r[q.2]? with|some l=>lg (P.underlying q.1.type) l|none=>false))=true)
  (h:laidMet P ((name,.agg (rs.map fun r=>.agg (r.map fun l=>.lit l)))::rest) W) {l:List (List V)} (hl:l=rs.map fun r=>r.map litV):td W g (.vals false m l):=by
 obtain⟨ps,⟨g',t',cs,fuel,p,q,hg',ht',hvar,hd,_,_⟩,_⟩:=h
 obtain rfl:=Option.some.inj (hg.symm.trans hg')
 obtain rfl:=Option.some.inj (hty.symm.trans ht')
 intro a b v ha hb hv
 subst hl
 simp only[O.len,List.length_map]at ha
 simp only[O.wid]at hb
 simp only[O.cell,List.getElem?_map]at hv
 obtain⟨xs,m',rfl,hx,hl',hxl,hel⟩:=DataW.trod_array ht hd
 simp only[Prod.mk.injEq,DataW.agg.injEq]at hx
 have hxs:=hx.1
 have hrl:rs.length=n:=by
  have h1:=congrArg List.length hxs
  simp at h1
  omega
 obtain⟨r,h1⟩:∃ r,rs[a]?=some r:=⟨rs[a],by simp[ha]⟩
 rw[h1]at hv
 simp only[Option.map_some]at hv
 have h2:(r.map litV)[b]?=some v:=hv
 simp only[List.getElem?_map,Option.map_eq_some_iff]at h2
 obtain⟨lt,h3,rfl⟩:=h2
 have hx1:(xs.map (·.1))[a]?=some (.agg (r.map fun l=>.lit l)):=by rw[<-hxs];simp[h1]
 simp only[List.getElem?_map,Option.map_eq_some_iff]at hx1
 obtain⟨x,hx2,hx3⟩:=hx1
 have h4:=hel a (by omega)
 rw[hx2]at h4
 have hrm:=List.all_eq_true.1 hf r (List.mem_of_getElem? h1)
 simp only[Bool.and_eq_true]at hrm
 have hxe:x=(.agg (r.map fun l=>.lit l),x.2):=by rw[<-hx3]
 rw[hxe]at h4
 obtain⟨v,hc,hvr⟩:=mS he hrm.2 h4 b lt h3
 rw[hce,List.getElem?_take,if_pos hb,List.getElem?_drop]at hc
 have hcell:=World.var?_cell hg hvar (a*m+b)
 rw[Array.getElem?_toList]at hc
 exact⟨v,by simp only[O.wid];rw[hcell];exact hc,hvr⟩
theorem uv{W:World}{name:String}{g:Nat}{e:TypeId}{m:Nat}{k:IntKind}{fs:Array Field}{zs:List Int}{rest:List (String×DataW Unit)}
  (hg:P.globalNamed name=some g) (hty:(P.globals[g]?).map (·.type)=some e) (he:P.underlying e=some (.struct fs)) (hm:zs.length=m)
  (hf:(fs.toList.zipIdx.all fun q=>q.1.offset==q.2&&P.cellsOf q.1.type==1&&(match (zs.map fun z=>Lit.int k z)[q.2]? with|some l=>lg (P.underlying q.1.type) l|none=>false))=true)
  (h:laidMet P ((name,.agg ((zs.map fun z=>Lit.int k z).map fun l=>.lit l))::rest) W):td W g (.rows false (List.replicate m k) [zs]):=by
 obtain⟨ps,⟨g',t',cs,fuel,p,q,hg',ht',hvar,hd,_,_⟩,_⟩:=h
 obtain rfl:=Option.some.inj (hg.symm.trans hg')
 obtain rfl:=Option.some.inj (hty.symm.trans ht')
 intro a b v ha hb hv
 simp only[O.len,List.length_singleton]at ha
 obtain rfl:a=0:=by omega
 simp only[O.wid,List.length_replicate]at hb
 have hkb:(List.replicate m k)[b]?=some k:=by simp[hb]
 simp only[O.cell,hkb,Option.some.injEq]at hv
 subst hv
 have hz:(zs.map fun z=>Lit.int k z)[b]?=some (.int k (zs.getD b 0)):=by
  rw[List.getElem?_map]
  simp[List.getD,show b<zs.length by omega]
 obtain⟨u,hc,hvr⟩:=mS he hf hd b _ hz
 have hcell:=World.var?_cell hg hvar b
 rw[Array.getElem?_toList]at hc
 exact⟨u,by rw[Nat.zero_mul,Nat.zero_add,hcell];exact hc,fun ρ=>hvr ρ⟩
theorem po{W:World}{name:String}{g:Nat}{t e:TypeId}{n:Nat}{k:IntKind}{zs:List Int}{rest:List (String×DataW Unit)}
  (hg:P.globalNamed name=some g) (hty:(P.globals[g]?).map (·.type)=some t) (ht:P.underlying t=some (.array n e)) (he:P.underlying e=some (.int k)) (hce:P.cellsOf e=1) (hct:P.cellsOf t=n)
  (h:laidMet P ((name,.agg (zs.map fun z=>.lit (.int k z)))::rest) W):td W g (.ints false k zs):=by
 have hT:=Lib.tabIs_of_head (zs:=zs) hg hty ht he hce hct h
 intro a b v ha hb hv
 simp only[O.wid]at hb
 obtain rfl:b=0:=by omega
 simp only[O.cell,Option.some.injEq]at hv
 subst hv
 have hc:=hT.cell hg a ha
 exact⟨_,by simpa[O.wid]using hc,fun ρ=>rfl⟩
theorem MM{W:World}{g:Nat}{o:O}(h:td W g o)(hk:Nat.blt 0 o.len=true)(hj:Nat.blt 0 o.wid=true)(hc:(o.cell 0 0).isSome=true):g<W.heap.size:=by
 obtain⟨v,hv⟩:=Option.isSome_iff_exists.1 hc
 obtain⟨u,hu,_⟩:=h 0 0 v (aM hk) (aM hj) hv
 obtain⟨ob,h1,_⟩:=cells_of_cell hu
 exact(Array.getElem?_eq_some_iff.1 h1).1
theorem DC{G:List O}{W:World}{B:Nat}(htab:∀ (g:Nat) o,G[g]?=some o->td W g o)(hlt:∀ (g:Nat) o,G[g]?=some o->g<W.heap.size)(hG:(G.all fun o=>o.tab&&Nat.blt 0 o.len&&Nat.blt 0 o.wid)=true)(hwf:∀ o∈G,o.wf):HR G B (gRen G) [] W:=by
 have hget:∀ b r,gRen G b=some r->ax<=b/\∃ o,G[b-ax]?=some o/\r={ blk:=b-ax,base:=0,m:=o.wid,n:=o.len,cp:=o.len,ph:=false }/\getO G [] b=o:=by
  intro b r h
  unfold gRen at h
  split at h
  ·rename_i hb
   have hb:=Nat.le_of_ble_eq_true hb
   obtain⟨o,ho,rfl⟩:=Option.map_eq_some_iff.1 h
   exact⟨hb,o,ho,rfl,by rw[aA hb];simp[List.getD,ho]⟩
  ·cases h
 have hall:∀ (g:Nat) o,G[g]?=some o->o.tab=true/\0<o.len/\0<o.wid:=by
  intro g o ho
  have:=List.all_eq_true.1 hG o (List.mem_of_getElem? ho)
  simp only[Bool.and_eq_true]at this
  exact⟨this.1.1,aM this.1.2,aM this.2⟩
 have hown:∀ (g:Nat) o,G[g]?=some o->o.own=false:=fun g o ho=>(O.tab_data (hall g o ho).1).2
 refine⟨?_,?_,?_,?_,?_,?_,by simp[ax]⟩
 ·intro b r h _
  obtain⟨hb,o,ho,rfl,hgo⟩:=hget b r h
  rw[hgo]
  obtain⟨a1,a2,a3⟩:=hall _ o ho
  have hne:o≠.gone/\o≠.rsv:=by cases o<;>simp[O.tab]at a1 ⊢
  refine⟨hne.1,hne.2,hwf o (List.mem_of_getElem? ho),rfl,(by simp),fun _=>?_,fun _=>rfl,fun _=>Nat.le_refl _,fun _ k j v hk hj hv=>?_,fun h=>?_⟩
  ·exact hlt _ o ho
  ·obtain⟨u,hu,hv'⟩:=htab _ o ho k j v hk hj hv
   exact⟨u,by simpa using hu,hv' _⟩
  ·rw[hown _ o ho]at h;cases h
 ·intro b _ hb
  unfold gRen
  split
  ·rename_i h;have:=Nat.le_of_ble_eq_true h;omega
  ·rfl
 ·intro b hb
  cases h:gRen G b with
  |none=>rfl
  |some r=>
   obtain⟨_,o,ho,_,hgo⟩:=hget b r h
   rw[hgo]at hb
   subst hb
   have:=(hall _ _ ho).1
   cases this
 ·intro b r h ho
  obtain⟨_,o,ho2,_,hgo⟩:=hget b r h
  rw[hgo,hown _ o ho2]at ho;cases ho
 ·intro b b' r r' h _ _ _ _ ho
  obtain⟨_,o,ho2,_,hgo⟩:=hget b r h
  rw[hgo,hown _ o ho2]at ho;cases ho
 ·intro g o ho
  refine⟨{ blk:=ax+g-ax,base:=0,m:=o.wid,n:=o.len,cp:=o.len,ph:=false },?_,by simp,rfl,rfl,rfl,(hall g o ho).2.1,(hall g o ho).1⟩
  unfold gRen
  rw[show Nat.ble ax (ax+g)=true from Nat.ble_eq_true_of_le (by omega)]
  simp[ho]
end
end Go.Ab
namespace Go.Ab
open Go.RowKit
section
variable{P:Program}
mutual
def V.inA(bs:List Nat):V->Bool
 |.sl b _ _ _=>bs.any (Nat.beq b)
 |.lit _|.bool _|.int _ _|.str _|.nils=>true
 |.agg l=>inAL bs l
 |.tup l=>inAL bs l
 |_=>false
def inAL(bs:List Nat):List V->Bool
 |[]=>true
 |v::l=>V.inA bs v&&inAL bs l
end
mutual
theorem IK{bs:List Nat}{ρ ρ':Ren}(hm:∀ b r,b∈bs->ρ b=some r->ρ' b=some r):∀ (v:V) (u:Value),V.inA bs v=true->VR ρ v u->VR ρ' v u
 |.sl b k len cap,u,h,hv=>by
  simp only[V.inA,List.any_eq_true]at h
  obtain⟨b',hb,e⟩:=h
  obtain rfl:=Nat.eq_of_beq_eq_true e
  obtain⟨r,hr,x⟩:=hv
  exact⟨r,hm _ _ hb hr,x⟩
 |.agg l,u,h,hv=>by obtain⟨us,rfl,hus⟩:=hv;exact⟨us,rfl,wq hm l us h hus⟩
 |.tup l,u,h,hv=>by obtain⟨us,rfl,hus⟩:=hv;exact⟨us,rfl,wq hm l us h hus⟩
 |.lit _,_,_,hv=>hv
 |.bool _,_,_,hv=>hv
 |.int _ _,_,_,hv=>hv
 |.str _,_,_,hv=>hv
 |.nils,_,_,hv=>hv
 |.ptr _ _ _,_,h,_=>by cases h
 |.nilp,_,h,_=>by cases h
 |.fn _ _,_,h,_=>by cases h
 |.nilf,_,h,_=>by cases h
 |.yl _,_,h,_=>by cases h
 |.nili,_,h,_=>by cases h
 |.when _ _,_,h,_=>by cases h
 |.junk,_,h,_=>by cases h
theorem wq{bs:List Nat}{ρ ρ':Ren}(hm:∀ b r,b∈bs->ρ b=some r->ρ' b=some r):∀ (l:List V) (us:List Value),inAL bs l=true->VRL ρ l us->VRL ρ' l us
 |[],_,_,hv=>hv
 |v::l,us,h,hv=>by
  simp only[inAL,Bool.and_eq_true]at h
  obtain⟨u,r,rfl,h1,h2⟩:=hv
  exact⟨u,r,rfl,IK hm v u h.1 h1,wq hm l r h.2 h2⟩
end
mutual
theorem CK{ρ:Ren}:∀ (v:V) (u:Value),VR ρ v u->∀ b,b∈(V.sls v).map (·.1)->∃ r,ρ b=some r
 |.sl b k len cap,u,hv,b',hb=>by
  obtain⟨r,hr,_⟩:=hv
  simp only[V.sls,List.map_cons,List.map_nil,List.mem_singleton]at hb
  exact⟨r,hb▸hr⟩
 |.agg l,u,hv,b',hb=>by obtain⟨us,rfl,hus⟩:=hv;rw[V.sls]at hb;exact fL l us hus b' hb
 |.fn _ l,u,hv,b',hb=>by obtain⟨us,rfl,hus⟩:=hv;rw[V.sls]at hb;exact fL l us hus b' hb
 |.tup _,_,_,_,hb=>by simp[V.sls]at hb
 |.lit _,_,_,_,hb=>by simp[V.sls]at hb
 |.bool _,_,_,_,hb=>by simp[V.sls]at hb
 |.int _ _,_,_,_,hb=>by simp[V.sls]at hb
 |.str _,_,_,_,hb=>by simp[V.sls]at hb
 |.nils,_,_,_,hb=>by simp[V.sls]at hb
 |.ptr _ _ _,_,_,_,hb=>by simp[V.sls]at hb
 |.nilp,_,_,_,hb=>by simp[V.sls]at hb
 |.nilf,_,_,_,hb=>by simp[V.sls]at hb
 |.yl _,_,_,_,hb=>by simp[V.sls]at hb
 |.nili,_,_,_,hb=>by simp[V.sls]at hb
 |.when _ _,_,_,_,hb=>by simp[V.sls]at hb
 |.junk,_,_,_,hb=>by simp[V.sls]at hb
theorem fL{ρ:Ren}:∀ (l:List V) (us:List Value),VRL ρ l us->∀ b,b∈(slsL l).map (·.1)->∃ r,ρ b=some r
 |[],_,_,_,hb=>by simp[slsL]at hb
 |v::l,us,hv,b',hb=>by
  obtain⟨u,r,rfl,h1,h2⟩:=hv
  simp only[slsL,List.map_append,List.mem_append]at hb
  rcases hb with hb|hb
  ·exact CK v u h1 b' hb
  ·exact fL l r h2 b' hb
end
def FinA(E:Env)(fn:Func)(args:List V)(v:V):Exit->Tm->List O->Prop:=fun e tm hp=>
 (e=.normal\/e=.ret)/\∃ l,resV E tm hp fn.results.toList=some l/\bM l=v/\V.inA ((slsL args).map (·.1)) v=true
theorem Ca{E:Env}(hE:E.Fn P)(n:Nat){f:FuncId}{fn:Func}{c:Code}(hf:P.funcs[f]?=some fn)(hb:fn.body=some c){args:List V}{H:List O}{v:V}(hlen:Nat.ble args.length fn.ntmps=true)
  (hs:sat E.G P (FinA E fn args v) (evC E (hdl E n) H.length fn.ntmps c (cT 0 args) H .ret)) (hsm:Nat.blt (H.length+1) ax=true:=by rfl):ay E.G P f args H v []:=by
 intro ρ us w hh hus
 have hbody:=rU (gs:=[]) (n:=0) hE n hf hb hus (Nat.le_of_ble_eq_true hlen) hh (Below.refl _ w) (Nat.le_refl _) (fun p hp=>by simp at hp) hs
  (R:=fun v0 hp=>v0=v/\V.inA ((slsL args).map (·.1)) v=true)
  (fun e tm hp ⟨h1,l,h2,h3,h4⟩=>⟨tm,hp,Ent.refl _ _ _,h1,l,h2,h3,h4⟩)
 refine(callsIn_wide.1 hbody).mono ?_
 rintro e w' ⟨u,rfl,v0,hp',ρ',hv,hr',hl',hb',_,rfl,h4⟩
 obtain⟨ρ2,hr2,hl2,hm2⟩:=hh.take (Nat.le_refl _) hr' hb' [] List.nodup_nil (by simp) (by simpa using aM hsm)
 refine⟨u,ρ2,rfl,IK (fun b r hb hr=>?_) _ _ h4 hv,hr2,hl2,hb'⟩
 obtain⟨r0,hr0⟩:=fL args us hus b hb
 have:=hl' _ _ hr0
 rw[hr]at this
 cases this
 exact hl2 _ _ hr0
end
end Go.Ab
namespace Go.Ab
open Go.RowKit
variable{E:Env}{P:Program}{N:Nat}{tm:Tm}{hp:List O}{G:List O}
def aQ{α:Type}(b:Bool)(k:Option α):Option α:=bif b then k else none
def bn{α β:Type}(o:Option β)(d:β)(F:β->Option α):Option α:=aQ o.isSome (F (o.getD d))
def bp{σ α:Type}(k:Option (σ ⊕ α))(F:σ->Option α):Option α:=
 match k with
 |none=>none
 |some (.inl s)=>F s
 |some (.inr r)=>some r
def escO{σ α:Type}(k:Option α):Option (σ ⊕ α):=k.map .inr
def bV{σ ξ α:Type}(step:σ->Option (σ ⊕ (ξ ⊕ α)))(F:ξ->Option α):Nat->σ->Option α
 |0,_=>none
 |n+1,s=>match step s with
  |none=>none
  |some (.inl s')=>bV step F n s'
  |some (.inr (.inl x))=>F x
  |some (.inr (.inr r))=>some r
@[simp] theorem aV {α:Type} (k:Option α):aQ true k=k:=rfl
@[simp] theorem needO_false {α:Type} (k:Option α):aQ false k=none:=rfl
@[simp] theorem aU {α β:Type} (y d:β) (F:β->Option α):bn (some y) d F=F y:=rfl
@[simp] theorem joinO_inl {σ α:Type} (s:σ) (F:σ->Option α):bp (some (.inl s)) F=F s:=rfl
@[simp] theorem joinO_inr {σ α:Type} (r:α) (F:σ->Option α):bp (some (.inr r)) F=some r:=rfl
@[simp] theorem escO_some {σ α:Type} (r:α):escO (σ:=σ) (some r)=some (.inr r):=rfl
theorem bN{σ ξ α:Type}{step:σ->Option (σ ⊕ (ξ ⊕ α))}{F:ξ->Option α}{n:Nat}{s s':σ}(h:step s=some (.inl s')):bV step F (n+1) s=bV step F n s':=by rw[bV,h]
theorem cE{σ ξ α:Type}{step:σ->Option (σ ⊕ (ξ ⊕ α))}{F:ξ->Option α}{n:Nat}{s:σ}{x:ξ}(h:step s=some (.inr (.inl x))):bV step F (n+1) s=F x:=by rw[bV,h]
theorem tf{σ ξ α:Type}{step:σ->Option (σ ⊕ (ξ ⊕ α))}{F:ξ->Option α}{n:Nat}{s:σ}{r:α}(h:step s=some (.inr (.inr r))):bV step F (n+1) s=some r:=by rw[bV,h]
def satO{α:Type}(E:Env)(P:Program)(R:α->Exit->Tm->List O->Prop)(o:Option α)(t:T):Prop:=∀ r,o=some r->sat E.G P (R r) t
section
variable{α σ ξ:Type}{R:α->Exit->Tm->List O->Prop}{K K1 K2:Option α}{t x y:T}{b c:Bool}
theorem aI(h:satO E P R K t):satO E P R (aQ b K) (.need b t):=fun r hr=>by
 cases b with
 |true=>exact⟨rfl,h r hr⟩
 |false=>cases hr
theorem ah(hb:b=true)(h:satO E P R K t):satO E P R K (.need b t):=fun r hr=>⟨hb,h r hr⟩
theorem fV(hb:c=true->b=true)(h:satO E P R K t):satO E P R (aQ c K) (.need b t):=fun r hr=>by
 cases c with
 |true=>exact⟨hb rfl,h r hr⟩
 |false=>cases hr
theorem KI(h:b=true->satO E P R K t):satO E P R (aQ b K) t:=fun r hr=>by
 cases b with
 |true=>exact h rfl r hr
 |false=>cases hr
theorem aE{β:Type}{o:Option β}{d:β}{F:β->Option α}(hb:o.isSome=true->b=true)(h:satO E P R (F (o.getD d)) t):satO E P R (bn o d F) (.need b t):=fV hb h
theorem cA(h1:satO E P R K1 x)(h2:satO E P R K2 y):satO E P R (bif b then K1 else K2) (.br b x y):=fun r hr=>by
 cases b with
 |true=>exact⟨fun _=>h1 r hr,fun e=>by cases e⟩
 |false=>exact⟨fun e=>(by cases e),fun _=>h2 r hr⟩
theorem aN{r:α}{e:Exit}(h:R r e tm hp):satO E P R (some r) (.ret e tm hp):=fun r' hr=>by cases hr;exact h
theorem aR(hE:E.Fn P)(n:Nat){μ:Nat}{c:Operand}{x y:Code}{k:Exit->Tm->List O->T}(hc:evA E tm c=.bool b)
  (h1:satO E P R K1 (evC E (hdl E n) μ N x tm hp k)) (h2:satO E P R K2 (evC E (hdl E n) μ N y tm hp k)):satO E P R (bif b then K1 else K2) (.loop (.cond c x y) μ N tm hp k):=fun r hr=>by
 refine nJ hE n hc (fun e=>?_) (fun e=>?_)
 ·subst e;exact h1 r hr
 ·subst e;exact h2 r hr
def JR(E:Env)(P:Program)(R:α->Exit->Tm->List O->Prop)(μ:Nat)(st:σ->Tm×List O)(k:Exit->Tm->List O->T):σ ⊕ α->Exit->Tm->List O->Prop
 |.inl s,e,tm,hp=>e=.normal/\Ent E.G μ tm hp (st s).1 (st s).2
 |.inr r,e,tm,hp=>sat E.G P (R r) (k e tm hp)
theorem aW{μ:Nat}{st:σ->Tm×List O}{k:Exit->Tm->List O->T}{s:σ}(h:Ent E.G μ tm hp (st s).1 (st s).2):satO E P (JR E P R μ st k) (some (.inl s)) (.ret .normal tm hp):=aN ⟨rfl,h⟩
theorem bF(hE:E.Fn P)(n:Nat)(st:σ->Tm×List O){K1 K2:Option (σ ⊕ α)}{F:σ->Option α}{μ:Nat}{c:Operand}{x y:Code}{k:Exit->Tm->List O->T}(hc:evA E tm c=.bool b)
  (h1:satO E P (JR E P R μ st k) K1 (evC E (hdl E n) μ N x tm hp .ret)) (h2:satO E P (JR E P R μ st k) K2 (evC E (hdl E n) μ N y tm hp .ret))
  (h:∀ s,satO E P R (F s) (k .normal (st s).1 (st s).2)):satO E P R (bp (bif b then K1 else K2) F) (.loop (.cond c x y) μ N tm hp k):=fun r hr=>by
 have go:∀ {K:Option (σ ⊕ α)} {t:T},satO E P (JR E P R μ st k) K t->bp K F=some r->sat E.G P (fun e tm' hp'=>∃ tm2 hp2,Ent E.G μ tm' hp' tm2 hp2/\sat E.G P (R r) (k e tm2 hp2)) t:=by
  intro K t hk hj
  cases K with
  |none=>cases hj
  |some o=>
   refine fb ?_ (hk o rfl)
   intro e tm' hp' hq
   cases o with
   |inl s=>obtain⟨rfl,hq⟩:=hq;exact⟨_,_,hq,h s r hj⟩
   |inr r'=>cases hj;exact⟨_,_,Ent.refl _ _ _,hq⟩
 refine FI hE n (fun e tm hp=>sat E.G P (R r) (k e tm hp)) hc (fun e=>?_) (fun e=>?_) (fun _ _ _ h=>h)
 ·subst e;exact go h1 hr
 ·subst e;exact go h2 hr
def LR(E:Env)(P:Program)(R:α->Exit->Tm->List O->Prop)(μ:Nat)(st:σ->Tm×List O)(sx:ξ->Tm×List O)(ex:Exit)(k:Exit->Tm->List O->T):σ ⊕ (ξ ⊕ α)->Exit->Tm->List O->Prop
 |.inl s,e,tm,hp=>e=.normal/\Ent E.G μ tm hp (st s).1 (st s).2
 |.inr (.inl x),e,tm,hp=>e=ex/\Ent E.G μ tm hp (sx x).1 (sx x).2/\e≠.normal
 |.inr (.inr r),e,tm,hp=>sat E.G P (R r) (k e tm hp)/\e≠.normal
theorem cr{μ:Nat}{st:σ->Tm×List O}{sx:ξ->Tm×List O}{ex:Exit}{k:Exit->Tm->List O->T}{s:σ}(h:Ent E.G μ tm hp (st s).1 (st s).2):satO E P (LR E P R μ st sx ex k) (some (.inl s)) (.ret .normal tm hp):=aN ⟨rfl,h⟩
theorem cH{μ:Nat}{st:σ->Tm×List O}{sx:ξ->Tm×List O}{i:Nat}{k:Exit->Tm->List O->T}{x:ξ}(h:Ent E.G μ tm hp (sx x).1 (sx x).2):satO E P (LR E P R μ st sx (.exit i) k) (some (.inr (.inl x))) (.ret (.exit i) tm hp):=aN ⟨rfl,h,by simp⟩
theorem sQ{μ:Nat}{st:σ->Tm×List O}{sx:ξ->Tm×List O}{ex:Exit}{k:Exit->Tm->List O->T}{e:Exit}(he:e≠.normal)(h:satO E P R K (k e tm hp)):satO E P (LR E P R μ st sx ex k) (escO (escO K)) (.ret e tm hp):=fun r hr=>by
 cases K with
 |none=>cases hr
 |some r'=>cases hr;exact⟨h r' rfl,he⟩
theorem cI(hE:E.Fn P)(n:Nat)(st:σ->Tm×List O)(sx:ξ->Tm×List O)(ex:Exit){step:σ->Option (σ ⊕ (ξ ⊕ α))}{F:ξ->Option α}{m:Nat}{s0:σ}{μ:Nat}{body:Code}{k:Exit->Tm->List O->T}
  (h0:Ent E.G μ tm hp (st s0).1 (st s0).2)
  (hb:∀ s,satO E P (LR E P R μ st sx ex k) (step s) (evC E (hdl E n) μ N body (st s).1 (st s).2 .ret))
  (h:∀ x,satO E P R (F x) (k ex (sx x).1 (sx x).2)):satO E P R (bV step F m s0) (.loop (.loop body) μ N tm hp k):=fun r hr=>by
 refine⟨fun e tm' hp'=>sat E.G P (R r) (k e tm' hp'),?_,fun _ _ _ h=>h⟩
 refine Good.ent h0 (Good.loop (fun j tm hp=>∃ s,bV step F (j+1) s=some r/\tm=(st s).1/\hp=(st s).2) (m:=m-1) ⟨s0,?_,rfl,rfl⟩ ?_)
 ·cases m with
  |zero=>cases hr
  |succ m=>exact hr
 rintro j tm1 hp1 ⟨s,hs,rfl,rfl⟩
 rw[bV]at hs
 cases ho:step s with
 |none=>rw[ho]at hs;cases hs
 |some o=>
  rw[ho]at hs
  have hg:=dP hE.mixed hE.ok (gj hE) (eN hE) (cG hE n) body _ _ _ _ (hb s o ho)
  cases o with
  |inl s'=>
   refine hg.mono ?_
   rintro e tm2 hp2 ⟨rfl,h2⟩
   dsimp only at hs
   cases j with
   |zero=>cases hs
   |succ j=>exact⟨j,_,_,by omega,h2,s',hs,rfl,rfl⟩
  |inr o=>
   cases o with
   |inl x=>
    -- an exit: what is known of it is named anew
    intro B w0 S D gs ρ a w n ro h0 hrel
    refine wpIn_mono (hg B w0 S D gs ρ a w n ro h0 hrel) ?_
    rintro e a' w' ⟨tm2,hp2,ρ2,hr2,hl2,rfl,h2,hne⟩
    obtain⟨ρ3,l3,hr3⟩:=hr2.ent h2
    refine⟨_,_,ρ3,hr3,Ren.leB_trans hl2 l3,?_⟩
    have hz:=h x r hs
    cases e with
    |normal=>exact absurd rfl hne
    |_=>exact hz
   |inr r'=>
    refine hg.mono ?_
    rintro e tm2 hp2 ⟨h2,h3⟩
    cases hs
    cases e with
    |normal=>exact absurd rfl h3
    |_=>exact h2
end
def ulV:V->V
 |.lit b=>.bool b
 |v=>v
def ulO:O->O
 |.cells w l=>.cells w (l.map ulV)
 |o=>o
def ulT:Tm->Tm
 |[]=>[]
 | (t,v)::r=>(t,ulV v)::ulT r
def ulH:List O->List O
 |[]=>[]
 |o::r=>ulO o::ulH r
theorem IE{ρ:Ren}{v:V}{u:Value}(h:VR ρ v u):VR ρ (ulV v) u:=by cases v<;>exact h
theorem Dh:∀ (hp:List O) (b:Nat),(ulH hp).getD b .gone=ulO (hp.getD b .gone)
 |[],b=>by simp[ulH,ulO]
 |o::r,0=>by simp[ulH]
 |o::r,b+1=>by simpa[ulH]using Dh r b
theorem vE:∀ hp:List O,(ulH hp).length=hp.length
 |[]=>rfl
 |o::r=>by simp[ulH,vE r]
theorem my(hp:List O)(b:Nat):getO G (ulH hp) b=getO G hp b\/getO G (ulH hp) b=ulO (getO G hp b):=by
 by_cases h:b<ax
 ·rw[aB h,aB h];exact .inr (Dh hp b)
 ·rw[aA (by omega),aA (by omega)];exact .inl rfl
theorem ri{o:O}:(ulO o=.gone↔o=.gone)/\(ulO o=.rsv↔o=.rsv)/\(ulO o).own=o.own/\(ulO o).len=o.len/\(ulO o).wid=o.wid:=by
 cases o<;>simp[ulO,O.own,O.len,O.wid]
theorem OR.un{ρ:Ren}{o:O}{r:Rg}{w:World}(h:OR ρ o r w):OR ρ (ulO o) r w:=by
 obtain⟨e1,e2,e3,e4,e5⟩:=ri (o:=o)
 refine⟨fun e=>h.alive (e1.1 e),fun e=>h.nrsv (e2.1 e),?_,by rw[e4];exact h.n,h.ph0,h.lt,fun hp=>by rw[e5];exact h.m hp,h.cp,fun hp k j v hk hj hv=>?_,fun e=>h.own (by rw[<-e3];exact e)⟩
 ·have:=h.wf;cases o<;>exact this
 ·rw[e4]at hk
  rw[e5]at hj
  cases o with
  |cells w' l=>
   cases k with
   |zero=>
    have hv:(l.map ulV)[j]?=some v:=hv
    simp only[List.getElem?_map,Option.map_eq_some_iff]at hv
    obtain⟨v0,h0,rfl⟩:=hv
    obtain⟨u,h1,h2⟩:=h.cell hp 0 _ v0 hk hj h0
    exact⟨u,h1,IE h2⟩
   |succ k=>cases hv
  |_=>exact h.cell hp k j v hk hj hv
theorem xB:∀ (tm:Tm) (t:Nat),look (ulT tm) t=ulV (look tm t)
 |[],_=>rfl
 | (i,v)::r,t=>by
  rw[ulT,bx,bx,xB r t];split<;>rfl
theorem Ent.ul{μ:Nat}:Ent G μ tm hp (ulT tm) (ulH hp):=by
 intro B ρ a w htr hh
 have hal:∀ b,getO G (ulH hp) b≠.gone->getO G hp b≠.gone:=fun b h e=>by
  rcases my (G:=G) hp b with e2|e2
  ·exact h (e2.trans e)
  ·rw[e]at e2;exact h e2
 have how:∀ b,(getO G (ulH hp) b).own=(getO G hp b).own:=fun b=>by
  rcases my (G:=G) hp b with e2|e2
  ·rw[e2]
  ·rw[e2];exact ri.2.2.1
 refine⟨ρ,Ren.leB_refl μ ρ,fun t=>by rw[xB];exact IE (htr t),fun b r hr h=>?_,fun b h=>?_,fun b h=>?_,fun b r hr h=>?_,fun b b' r r' h1 h2 h3 h4 h5 h6=>?_,hh.glob,?_⟩
 ·rcases my (G:=G) hp b with e2|e2
  ·rw[e2];exact hh.blocks b r hr (hal b h)
  ·rw[e2];exact(hh.blocks b r hr (hal b h)).un
 ·rw[vE]at h;exact hh.free b h
 ·rcases my (G:=G) hp b with e2|e2
  ·exact hh.rsv b (e2.symm.trans h)
  ·exact hh.rsv b (ri.2.1.1 (e2.symm.trans h))
 ·rw[how]at h;exact hh.base b r hr h
 ·rw[how]at h6;exact hh.apart b b' r r' h1 h2 (hal _ h3) h4 h5 h6
 ·rw[vE];exact hh.small
theorem Ent.rn{μ:Nat}{tm1 tm':Tm}{hp1 hp':List O}(bs ts:List Nat)(h:jo bs hp bs=some hp1)(ht:wo bs tm ts=some tm1)(hb:(preB bs μ&&rH bs&&(bs.all fun b=>Nat.blt b hp.length)&&Nat.blt bs.length ax)=true)
  (h2:ulH hp1=hp') (h3:ulT tm1=tm'):Ent G μ tm hp tm' hp':=by
 subst h2;subst h3;exact(Ent.ren bs ts h ht hb).trans Ent.ul
def pH:O->Bool
 |.ints _ _ []=>true
 |.rows _ _ []=>true
 |.vals _ _ []=>true
 |_=>false
theorem tL{o:O}(h:pH o=true):o≠.gone/\o≠.rsv/\o.wf/\o.len=0:=by
 unfold pH at h
 split at h<;>simp_all [O.wf,O.len]
theorem Ent.phT{μ:Nat}(t:Nat)(o:O)(ht:look tm t=.nils)(ho:pH o=true)(hsm:Nat.blt (hlen hp+1) ax=true){n:Nat}(hn:hlen hp=n){hp':List O}(hh:hp++[o]=hp'):Ent G μ tm hp ((t,.sl n 0 0 none)::tm) hp':=by
 subst hn;subst hh
 rw[eE]at hsm ⊢
 exact Ent.phanT ht (tL ho) (aM hsm)
theorem Ent.phC{μ:Nat}(b j:Nat)(o:O){ww:Bool}{l:List V}(hb:hp.getD b .gone=.cells ww l)(hj:l[j]?=some .nils)(ho:pH o=true)(hsm:Nat.blt (hlen hp+1) ax=true){hp':List O}(hh:hp.set b (.cells ww (l.set j (.sl (hlen hp) 0 0 none)))++[o]=hp'):Ent G μ tm hp tm hp':=by
 subst hh
 rw[eE]at hsm ⊢
 exact Ent.phan hb hj (tL ho) (aM hsm)
def GC(bs:List Nat)(hp:List O)(d:Nat):Bool:=rH bs&&(bs.all fun b=>Nat.blt b ax&&(hp.getD b .gone).isData)&&Nat.blt (d+bs.length+1) ax
mutual
def V.outB(is bs:List Nat)(d:Nat):V->Option V
 |.sl b k len cap=>match idx b bs with
  |some i=>some (.sl (d+i) k len cap)
  |none=>match is.any (Nat.beq b) with|true=>some (.sl b k len cap)|false=>none
 |.lit b=>some (.bool b)
 |.bool b=>some (.bool b)
 |.int k n=>some (.int k n)
 |.str s=>some (.str s)
 |.nils=>some .nils
 |.agg l=>match BU is bs d l with|some l=>some (.agg l)|none=>none
 |.tup l=>match BU is bs d l with|some l=>some (.tup l)|none=>none
 |_=>none
def BU(is bs:List Nat)(d:Nat):List V->Option (List V)
 |[]=>some []
 |v::l=>match V.outB is bs d v with
  |some v=>match BU is bs d l with
   |some l=>some (v::l)
   |none=>none
  |none=>none
end
mutual
theorem Ev{is bs:List Nat}{d:Nat}{ρ ρ':Ren}(hm:∀ i b r,bs[i]?=some b->ρ b=some r->ρ' (d+i)=some r)(hi:∀ b r,b∈is->ρ b=some r->ρ' b=some r):∀ (v v':V) (u:Value),V.outB is bs d v=some v'->VR ρ v u->VR ρ' v' u
 |.sl b k len cap,v',u,h,hv=>by
  obtain⟨r,hr,x⟩:=hv
  simp only[V.outB]at h
  split at h
  ·rename_i i hi';cases h;exact⟨r,hm i b r (yz bs i hi') hr,x⟩
  ·split at h
   ·rename_i hb
    cases h
    obtain⟨b',hb',e⟩:=List.any_eq_true.1 hb
    obtain rfl:=Nat.eq_of_beq_eq_true e
    exact⟨r,hi _ _ hb' hr,x⟩
   ·cases h
 |.agg l,v',u,h,hv=>by
  simp only[V.outB]at h
  split at h
  ·rename_i l' hl;cases h;obtain⟨us,rfl,hus⟩:=hv;exact⟨us,rfl,rD hm hi l l' us hl hus⟩
  ·cases h
 |.tup l,v',u,h,hv=>by
  simp only[V.outB]at h
  split at h
  ·rename_i l' hl;cases h;obtain⟨us,rfl,hus⟩:=hv;exact⟨us,rfl,rD hm hi l l' us hl hus⟩
  ·cases h
 |.lit _,_,_,h,hv=>by cases h;exact hv
 |.bool _,_,_,h,hv=>by cases h;exact hv
 |.int _ _,_,_,h,hv=>by cases h;exact hv
 |.str _,_,_,h,hv=>by cases h;exact hv
 |.nils,_,_,h,hv=>by cases h;exact hv
 |.ptr _ _ _,_,_,h,_=>by cases h
 |.nilp,_,_,h,_=>by cases h
 |.fn _ _,_,_,h,_=>by cases h
 |.nilf,_,_,h,_=>by cases h
 |.yl _,_,_,h,_=>by cases h
 |.nili,_,_,h,_=>by cases h
 |.when _ _,_,_,h,_=>by cases h
 |.junk,_,_,h,_=>by cases h
theorem rD{is bs:List Nat}{d:Nat}{ρ ρ':Ren}(hm:∀ i b r,bs[i]?=some b->ρ b=some r->ρ' (d+i)=some r)(hi:∀ b r,b∈is->ρ b=some r->ρ' b=some r):∀ (l l':List V) (us:List Value),BU is bs d l=some l'->VRL ρ l us->VRL ρ' l' us
 |[],_,_,h,hv=>by cases h;exact hv
 |v::l,l',us,h,hv=>by
  obtain⟨u,r,rfl,h1,h2⟩:=hv
  simp only[BU]at h
  split at h
  ·rename_i v1 e1
   split at h
   ·rename_i l1 e2;cases h;exact⟨u,r,rfl,Ev hm hi v v1 u e1 h1,rD hm hi l l1 r e2 h2⟩
   ·cases h
  ·cases h
end
def FinB(E:Env)(fn:Func)(args:List V)(d:Nat)(v:V)(N:List O):Exit->Tm->List O->Prop:=fun e tm0 hp0=>
 ∃ tm hp,Ent E.G d tm0 hp0 tm hp/\(e=.normal\/e=.ret)/\∃ l bs,resV E tm hp fn.results.toList=some l/\V.outB ((slsL args).map (·.1)) bs d (bM l)=some v/\GC bs hp d=true/\bs.map (hp.getD · .gone)=N
theorem aJ{fn:Func}{args:List V}{d:Nat}{v v':V}{Ns:List O}{e:Exit}{l:List V}(bs:List Nat)(he:e=.normal\/e=.ret)(h1:resV E tm hp fn.results.toList=some l)(h2:V.outB ((slsL args).map (·.1)) bs d (bM l)=some v')(hb:GC bs hp d=true)(hN:bs.map (hp.getD · .gone)=Ns)(hv:v'=v):FinB E fn args d v Ns e tm hp:=by
 subst hv
 exact⟨tm,hp,Ent.refl _ _ _,he,l,bs,h1,h2,hb,hN⟩
theorem DK{fn:Func}{args:List V}{d:Nat}{v:V}{Ns:List O}{e:Exit}{tm':Tm}{hp':List O}(h:Ent E.G d tm hp tm' hp')(h2:FinB E fn args d v Ns e tm' hp'):FinB E fn args d v Ns e tm hp:=by
 obtain⟨tm2,hp2,h3,h4⟩:=h2
 exact⟨tm2,hp2,h.trans h3,h4⟩
theorem BZ{fn:Func}{args:List V}{d:Nat}{v:V}{Ns:List O}{e:Exit}(t:Nat)(o:O)(ht:look tm t=.nils)(ho:pH o=true)(hsm:Nat.blt (hlen hp+1) ax=true)(h2:FinB E fn args d v Ns e ((t,.sl (hlen hp) 0 0 none)::tm) (hp++[o])):FinB E fn args d v Ns e tm hp:=DK (Ent.phT t o ht ho hsm rfl rfl) h2
theorem Df{fn:Func}{args:List V}{d:Nat}{v:V}{Ns:List O}{e:Exit}(b j:Nat)(o:O){ww:Bool}{l:List V}(hb:hp.getD b .gone=.cells ww l)(hj:l[j]?=some .nils)(ho:pH o=true)(hsm:Nat.blt (hlen hp+1) ax=true)(h2:FinB E fn args d v Ns e tm (hp.set b (.cells ww (l.set j (.sl (hlen hp) 0 0 none)))++[o])):FinB E fn args d v Ns e tm hp:=DK (Ent.phC b j o hb hj ho hsm rfl) h2
theorem Ek(hE:E.Fn P)(n:Nat){f:FuncId}{fn:Func}{c:Code}(hf:P.funcs[f]?=some fn)(hb:fn.body=some c){args:List V}{H:List O}{v:V}{Ns:List O}(hlen:Nat.ble args.length fn.ntmps=true)
  (hs:sat E.G P (FinB E fn args H.length v Ns) (evC E (hdl E n) H.length fn.ntmps c (cT 0 args) H .ret)):ay E.G P f args H v Ns:=by
 intro ρ us w hh hus
 have hbody:=rU (gs:=[]) (n:=0) hE n hf hb hus (Nat.le_of_ble_eq_true hlen) hh (Below.refl _ w) (Nat.le_refl _) (fun p hp=>by simp at hp) hs
  (R:=fun v0 hp=>∃ bs,V.outB ((slsL args).map (·.1)) bs H.length v0=some v/\GC bs hp H.length=true/\bs.map (hp.getD · .gone)=Ns)
  (fun e tm hp ⟨tm',hp',h0,h1,l,bs,h2,h3⟩=>⟨tm',hp',h0,h1,l,h2,bs,h3⟩)
 refine(callsIn_wide.1 hbody).mono ?_
 rintro e w' ⟨u,rfl,v0,hp',ρ',hv,hr',hl',hb',_,bs,h1,h2,rfl⟩
 simp only[GC,Bool.and_eq_true]at h2
 obtain⟨ρ2,hr2,hl2,hm2⟩:=hh.take (Nat.le_refl _) hr' hb' bs (eZ h2.1.1) (fun b h=>by have:=List.all_eq_true.1 h2.1.2 b h;simp only[Bool.and_eq_true]at this;exact⟨aM this.1,this.2⟩) (aM h2.2)
 refine⟨u,ρ2,rfl,Ev hm2 (fun b r hb hr=>?_) _ _ _ h1 hv,hr2,hl2,hb'⟩
 obtain⟨r0,hr0⟩:=fL args us hus b hb
 have:=hl' _ _ hr0
 rw[hr]at this
 cases this
 exact hl2 _ _ hr0
theorem cg{α:Type}{f:FuncId}{fn:Func}{c:Code}{args:List V}{H:List O}{o:Option α}{r:α}{v:V}{Ns:List O}(hE:E.Fn P)(n:Nat)(hf:P.funcs[f]?=some fn)(hb:fn.body=some c)(hlen:Nat.ble args.length fn.ntmps=true)(toV:α->V)(toN:α->List O)(hr:o=some r)
  (h:satO E P (fun r=>FinB E fn args H.length (toV r) (toN r)) o (evC E (hdl E n) H.length fn.ntmps c (cT 0 args) H .ret)) (hv:toV r=v) (hN:toN r=Ns):ay E.G P f args H v Ns:=by
 subst hv;subst hN;exact Ek hE n hf hb hlen (h r hr)
def retC{α:Type}(c:Bool)(o:Option α)(d:α)(toV:α->V)(toN:α->List O):Option (Bool×V×List O):=some (c&&o.isSome,toV (o.getD d),toN (o.getD d))
theorem bu{α:Type}{c c0:Bool}{o:Option α}{d:α}{toV:α->V}{toN:α->List O}{v:V}{Ns:List O}(h:retC c o d toV toN=some (c0,v,Ns))(hc:c0=true):c=true/\∃ r,o=some r/\toV r=v/\toN r=Ns:=by
 cases h
 simp only[Bool.and_eq_true]at hc
 obtain⟨r,rfl⟩:=Option.isSome_iff_exists.1 hc.2
 exact⟨hc.1,r,rfl,rfl,rfl⟩
theorem Nh{α:Type}{R:α->Exit->Tm->List O->Prop}{K:Option α}{t:T}{b c1 c2:Bool}(hb:(c1&&c2)=true->b=true)(h:satO E P R K t):satO E P R (aQ c1 (aQ c2 K)) (.need b t):=fun r hr=>by
 cases c1 with
 |true=>cases c2 with
  |true=>exact⟨hb rfl,h r hr⟩
  |false=>cases hr
 |false=>cases hr
theorem od{α:Type}{R:α->Exit->Tm->List O->Prop}{K:Option α}{t:T}(h:satO E P R K t):satO E P R K t:=h
theorem pa{x y:Bool}(h1:x=true)(h2:y=true):(x&&y)=true:=by rw[h1,h2];rfl
theorem pl{x y c:Bool}(h1:x=true)(h2:c=true->y=true)(h:c=true):(x&&y)=true:=by rw[h1,h2 h];rfl
theorem pr{x y c:Bool}(h1:c=true->x=true)(h2:y=true)(h:c=true):(x&&y)=true:=by rw[h1 h,h2];rfl
theorem pb{x y c d:Bool}(h1:c=true->x=true)(h2:d=true->y=true)(h:(c&&d)=true):(x&&y)=true:=by
 simp only[Bool.and_eq_true]at h
 rw[h1 h.1,h2 h.2];rfl
theorem pg{x y:Bool}(h:y=true):(x||y)=true:=by rw[h];simp
theorem pi{x y c:Bool}(h1:c=true->y=true)(h:(x||c)=true):(x||y)=true:=by
 cases x with
 |true=>rfl
 |false=>exact h1 h
theorem ND{α:Type}{l:List α}{n:Nat}(h:n=l.length):(l.drop 0).take n=l:=by subst h;simp
theorem az{α:Type}{l:List α}{n:Nat}(h:n=l.length):n=((l.drop 0).take n).length:=by rw[ND h,h]
end Go.Ab
namespace Go.Ab
theorem Jd{E:Env}{P:Program}{α:Type}{R:α->Exit->Tm->List O->Prop}{t:T}:satO E P R none t:=fun _ h=>by cases h
end Go.Ab
namespace Go.Ab
section
variable{E:Env}{P:Program}{N:Nat}{tm:Tm}{hp:List O}{α:Type}{R:α->Exit->Tm->List O->Prop}{K:Option α}{b:Bool}
theorem sI(hE:E.Fn P)(n:Nat){μ:Nat}{c:Operand}{x y:Code}{k:Exit->Tm->List O->T}(hc:evA E tm c=.bool b)(hb:b=true)
  (h1:satO E P R K (evC E (hdl E n) μ N x tm hp k)):satO E P R K (.loop (.cond c x y) μ N tm hp k):=fun r hr=>nJ hE n hc (fun _=>h1 r hr) (fun e=>by rw[hb]at e;cases e)
theorem NN(hE:E.Fn P)(n:Nat){μ:Nat}{c:Operand}{x y:Code}{k:Exit->Tm->List O->T}(hc:evA E tm c=.bool b)(hb:b=false)
  (h1:satO E P R K (evC E (hdl E n) μ N y tm hp k)):satO E P R K (.loop (.cond c x y) μ N tm hp k):=fun r hr=>nJ hE n hc (fun e=>by rw[hb]at e;cases e) (fun _=>h1 r hr)
end
end Go.Ab
namespace Go.Ab
open Go.RowKit
section
variable{E:Env}{P:Program}{G:List O}
end
section
variable{E:Env}{G:List O}{P:Program}{N:Nat}{tm:Tm}{hp:List O}
end
section
mutual
def okZ(μ:Nat):V->Bool
 |.ptr b _ _=>Nat.blt b μ
 |.yl b=>Nat.blt b μ
 |.sl b _ _ _=>Nat.blt b μ
 |.agg l=>okZL μ l
 |.fn _ l=>okZL μ l
 |.tup _=>false
 |.when _ _=>false
 |.junk=>false
 |.nilf=>true
 |.nili=>true
 |.nilp=>true
 |.nils=>true
 |.lit _=>true
 |.bool _=>true
 |.int _ _=>true
 |.str _=>true
def okZL(μ:Nat):List V->Bool
 |[]=>true
 |v::l=>okZ μ v&&okZL μ l
end
mutual
theorem CO{ρ ρ':Ren}{μ:Nat}(hm:∀ b r,b<μ->ρ b=some r->ρ' b=some r):∀ (v:V) (u:Value),okZ μ v=true->VR ρ v u->VR ρ' v u
 |.lit _,_,_,e=>e
 |.bool _,_,_,e=>e
 |.int _ _,_,_,e=>e
 |.str _,_,_,e=>e
 |.nilp,_,_,e=>e
 |.nils,_,_,e=>e
 |.nilf,_,_,e=>e
 |.nili,_,_,e=>e
 |.ptr b _ _,_,h,⟨r,e,x⟩=>⟨r,hm b r (aM h) e,x⟩
 |.sl b _ _ _,_,h,⟨r,e,x⟩=>⟨r,hm b r (aM h) e,x⟩
 |.yl b,_,h,⟨r,e,x⟩=>⟨r,hm b r (aM h) e,x⟩
 |.fn _ l,_,h,⟨us,e,x⟩=>⟨us,e,kC hm l us h x⟩
 |.agg l,_,h,⟨us,e,x⟩=>⟨us,e,kC hm l us h x⟩
 |.tup _,_,h,_=>by simp[okZ]at h
 |.when _ _,_,h,_=>by simp[okZ]at h
 |.junk,_,h,_=>by simp[okZ]at h
theorem kC{ρ ρ':Ren}{μ:Nat}(hm:∀ b r,b<μ->ρ b=some r->ρ' b=some r):∀ (l:List V) (us:List Value),okZL μ l=true->VRL ρ l us->VRL ρ' l us
 |[],_,_,e=>e
 |v::l,_,h,⟨u,r,e,x,y⟩=>by
  simp only[okZL,Bool.and_eq_true]at h
  exact⟨u,r,e,CO hm v u h.1 x,kC hm l r h.2 y⟩
end
theorem qh{μ:Nat}:∀ {l:List V},okZL μ l=true->∀ v∈l,okZ μ v=true
 |[],_,v,hv=>by simp at hv
 |x::l,h,v,hv=>by
  simp only[okZL,Bool.and_eq_true]at h
  rcases List.mem_cons.1 hv with rfl|hv
  ·exact h.1
  ·exact qh h.2 v hv
def okZO(μ:Nat):O->Bool
 |.cells _ l=>okZL μ l
 |.vals _ _ rs=>rs.all (okZL μ)
 |.rsv=>false
 |_=>true
theorem Bl{μ:Nat}{o:O}(h:okZO μ o=true){k j:Nat}{v:V}(hc:o.cell k j=some v):okZ μ v=true:=by
 cases o with
 |ints w kd zs=>
  cases j with
  |zero=>simp only[O.cell,Option.some.injEq]at hc;subst hc;rfl
  |succ j=>simp[O.cell]at hc
 |rows w ks rs=>
  simp only[O.cell]at hc
  split at hc
  ·cases hc;rfl
  ·cases hc
 |cells w l=>
  cases k with
  |zero=>exact qh h v (List.mem_of_getElem? (by simpa[O.cell]using hc))
  |succ k=>simp[O.cell]at hc
 |vals w m rs=>
  simp only[O.cell]at hc
  split at hc
  ·rename_i r hr
   exact qh (List.all_eq_true.1 h r (List.mem_of_getElem? hr)) v (List.mem_of_getElem? hc)
  ·cases hc
 |lock=>simp[O.cell]at hc
 |gone=>simp[O.cell]at hc
 |rsv=>simp[O.cell]at hc
def O.ro:O->O
 |.ints _ k zs=>.ints false k zs
 |.rows _ ks rs=>.rows false ks rs
 |.cells _ l=>.cells false l
 |.vals _ m rs=>.vals false m rs
 |.lock _ m n=>.lock false m n
 |.gone=>.gone
 |.rsv=>.rsv
theorem O.ro_facts(o:O):(o.ro=.gone↔o=.gone)/\(o.ro=.rsv↔o=.rsv)/\o.ro.own=false/\o.ro.len=o.len/\o.ro.wid=o.wid/\(∀ k j,o.ro.cell k j=o.cell k j)/\(o.wf->o.ro.wf):=by
 cases o with
 |ints w k zs=>exact⟨by simp[O.ro],by simp[O.ro],rfl,rfl,rfl,fun k j=>by cases j<;>rfl,fun h=>h⟩
 |rows w ks rs=>exact⟨by simp[O.ro],by simp[O.ro],rfl,rfl,rfl,fun k j=>rfl,fun h=>h⟩
 |cells w l=>exact⟨by simp[O.ro],by simp[O.ro],rfl,rfl,rfl,fun k j=>by cases k<;>rfl,fun h=>h⟩
 |vals w m rs=>exact⟨by simp[O.ro],by simp[O.ro],rfl,rfl,rfl,fun k j=>rfl,fun h=>h⟩
 |lock w m n=>exact⟨by simp[O.ro],by simp[O.ro],rfl,rfl,rfl,fun k j=>rfl,fun h=>h⟩
 |gone=>exact⟨by simp[O.ro],by simp[O.ro],rfl,rfl,rfl,fun k j=>rfl,fun h=>h⟩
 |rsv=>exact⟨by simp[O.ro],by simp[O.ro],rfl,rfl,rfl,fun k j=>rfl,fun h=>h⟩
theorem OR.still{ρ ρ':Ren}{o:O}{r:Rg}{w:World}{μ:Nat}(h:OR ρ o r w)(hz:okZO μ o=true)(hm:∀ b r,b<μ->ρ b=some r->ρ' b=some r):OR ρ' o.ro r w:=by
 obtain⟨e1,e2,e3,e4,e5,e6,e7⟩:=O.ro_facts o
 refine⟨fun e=>h.alive (e1.1 e),fun e=>h.nrsv (e2.1 e),e7 h.wf,by rw[e4];exact h.n,h.ph0,h.lt,fun hp=>by rw[e5];exact h.m hp,h.cp,fun hp k j v hk hj hv=>?_,fun e=>by rw[e3]at e;cases e⟩
 rw[e4]at hk
 rw[e5]at hj
 rw[e6]at hv
 obtain⟨u,h1,h2⟩:=h.cell hp k j v hk hj hv
 exact⟨u,h1,CO hm v u (Bl hz hv) h2⟩
variable{E:Env}{G:List O}{P:Program}{B C:Nat}{ρ ρ1 ρ2:Ren}{hp hX:List O}{w:World}
theorem uQ(hX:List O)(b:Nat)(hb:b<ax):getO G (hX.map O.ro) b=(getO G hX b).ro:=by
 rw[aB hb,aB hb]
 simp only[List.getD_eq_getElem?_getD,List.getElem?_map]
 cases hX[b]?<;>rfl
theorem HR.still(hh:HR G B ρ1 hX w)(hz:hX.all (okZO hX.length)=true)(e1:∀ i r,i<hX.length->ρ1 i=some r->ρ2 i=some r)(e2:∀ i r,i<ax->ρ2 i=some r->i<hX.length/\(ρ1 i=some r\/hX.getD i .gone=.gone))
  (e3:∀ i r,ax<=i->ρ2 i=some r->ρ1 i=some r) (e4:∀ g o,G[g]?=some o->∃ r,ρ2 (ax+g)=some r):HR G C ρ2 (hX.map O.ro) w:=by
 have hgw:∀ b,(getO G (hX.map O.ro) b).own=false:=by
  intro b
  by_cases hb:ax<=b
  ·rw[aA hb]
   cases hg:G[b-ax]? with
   |none=>simp[List.getD,hg,O.own]
   |some o=>obtain⟨_,_,_,_,_,_,_,h⟩:=hh.glob _ o hg;simp[List.getD,hg,(O.tab_data h).2]
  ·rw[uQ _ _ (by omega)];exact(O.ro_facts _).2.2.1
 refine⟨?_,?_,fun b h4=>?_,?_,?_,?_,by simpa using hh.small⟩
 ·intro i r hr hal
  by_cases hi:ax<=i
  ·have hr':=e3 i r hi hr
   have ho:=hh.blocks i r hr' (by rw[aA hi]at hal ⊢;exact hal)
   rw[aA hi]at ho hal ⊢
   cases hG:G[i-ax]? with
   |none=>simp[List.getD,hG]at hal
   |some o=>
    obtain⟨_,_,_,_,_,_,_,ht⟩:=hh.glob _ o hG
    refine ho.data ?_ _
    simp[List.getD,hG,(O.tab_data ht).1]
  ·rw[uQ _ _ (by omega)]at hal ⊢
   have hal':getO G hX i≠.gone:=fun e=>hal ((O.ro_facts _).1.2 e)
   obtain⟨h1,h2⟩:=e2 i r (by omega) hr
   rcases h2 with h2|h2
   ·refine(hh.blocks i r h2 hal').still (μ:=hX.length) ?_ (fun b r' hb hb'=>e1 b r' hb hb')
    rw[aB (by omega)]
    simp only[List.getD_eq_getElem?_getD,List.getElem?_eq_getElem h1,Option.getD_some]
    exact List.all_eq_true.1 hz _ (List.getElem_mem h1)
   ·exact absurd (by rw[aB (by omega)];exact h2) hal'
 ·intro b h1 h2
  cases hx:ρ2 b with
  |none=>rfl
  |some r=>have:=(e2 b r h2 hx).1;simp at h1;omega
 ·by_cases hb:ax<=b
  ·rw[aA hb]at h4
   cases hg:G[b-ax]? with
   |none=>simp[List.getD,hg]at h4
   |some o=>obtain⟨_,_,_,_,_,_,_,h⟩:=hh.glob _ o hg;simp only[List.getD,hg,Option.getD_some]at h4;rw[h4]at h;cases h
  ·rw[uQ _ _ (by omega)]at h4
   have h5:=(O.ro_facts _).2.1.1 h4
   rw[aB (by omega)]at h5
   simp only[List.getD_eq_getElem?_getD]at h5
   cases hx:hX[b]? with
   |none=>rw[hx]at h5;cases h5
   |some o=>
    rw[hx]at h5
    have h5:o=.rsv:=h5
    have:=List.all_eq_true.1 hz o (List.mem_of_getElem? hx)
    rw[h5]at this;cases this
 ·intro b r _ ho;rw[hgw]at ho;cases ho
 ·intro b b' r r' _ _ _ _ _ ho;rw[hgw]at ho;cases ho
 ·intro g o hg
  obtain⟨r,h4⟩:=e4 g o hg
  obtain⟨r',h5,h6⟩:=hh.glob g o hg
  have:=e3 _ _ (Nat.le_add_right _ _) h4
  rw[h5]at this
  cases this
  exact⟨_,h4,h6⟩
theorem HR.move(hh:HR G B ρ hp w){i0 b:Nat}{o:O}{r:Rg}(hi:i0<hp.length)(hb:b<hp.length)(hne:i0≠b)(ho:hp.getD i0 .gone=o)(hd:o.data=true)(hr:ρ i0=some r)(hg:hp.getD b .gone=.gone)(hn:ρ b=none) :
  HR G B (ρ.add b r) ((hp.set b o).set i0 .gone) w:=by
 have hsm:=hh.small
 have hle:=Ren.le_add hn r
 have hgi:getO G hp i0=o:=by rw[aB (by omega)];exact ho
 have hgb:getO G ((hp.set b o).set i0 .gone) b=o:=by
  rw[aB (by omega)]
  simp[List.getD,hb,hne]
 have hg0:getO G ((hp.set b o).set i0 .gone) i0=.gone:=by
  rw[aB (by omega)]
  simp[List.getD,hi]
 have hget:∀ i,i≠b->i≠i0->getO G ((hp.set b o).set i0 .gone) i=getO G hp i:=by
  intro i h1 h2
  by_cases hi:i<ax
  ·rw[aB hi,aB hi]
   simp[List.getD,List.getElem?_set_ne (Ne.symm h1),List.getElem?_set_ne (Ne.symm h2)]
  ·rw[aA (by omega),aA (by omega)]
 have hal:∀ i,getO G ((hp.set b o).set i0 .gone) i≠.gone->i≠i0:=fun i h e=>h (by rw[e];exact hg0)
 have hcase:∀ i x,(ρ.add b r) i=some x->getO G ((hp.set b o).set i0 .gone) i≠.gone->∃ j,ρ j=some x/\getO G hp j=getO G ((hp.set b o).set i0 .gone) i/\((i=b/\j=i0)\/(i≠b/\j=i/\i≠i0)):=by
  intro i x hx h1
  by_cases e:i=b
  ·subst e
   rw[Ren.add_same]at hx;cases hx
   exact⟨i0,hr,by rw[hgi,hgb],.inl ⟨rfl,rfl⟩⟩
  ·rw[Ren.add_other ρ r e]at hx
   exact⟨i,hx,(hget i e (hal i h1)).symm,.inr ⟨e,rfl,hal i h1⟩⟩
 refine⟨fun i x hx h1=>?_,fun i h1 h2=>?_,fun i h1=>?_,fun i x hx h1 h2=>?_,fun i i' x x' hx hx' h1 h2 h3 h4 h5=>?_,fun g o' hgo=>?_,by simpa using hsm⟩
 ·by_cases e:i=b
  ·subst e
   rw[Ren.add_same]at hx;cases hx
   rw[hgb]
   have h6:=hh.blocks i0 r hr (by rw[hgi];rw[hgb]at h1;exact h1)
   rw[hgi]at h6
   exact h6.data hd _
  ·rw[Ren.add_other ρ r e]at hx
   have hE:=hget i e (hal i h1)
   rw[hE]at h1 ⊢
   exact(hh.blocks i x hx h1).mono hle
 ·simp only[List.length_set]at h1
  rw[Ren.add_other ρ r (by omega)]
  exact hh.free i h1 h2
 ·by_cases e:i=b
  ·subst e
   rw[hgb]at h1
   rw[h1]at hd;cases hd
  ·rw[Ren.add_other ρ r e]
   by_cases e2:i=i0
   ·subst e2;rw[hg0]at h1;cases h1
   ·rw[hget i e e2]at h1;exact hh.rsv i h1
 ·obtain⟨j,q1,q2,_⟩:=hcase i x hx (fun e=>by rw[e]at h1;cases h1)
  rw[<-q2]at h1
  exact hh.base j x q1 h1 h2
 ·obtain⟨j,q1,q2,q3⟩:=hcase i x hx (fun e=>by rw[e]at h4;cases h4)
  obtain⟨j',p1,p2,p3⟩:=hcase i' x' hx' h1
  rw[<-q2]at h4
  refine hh.apart j j' x x' q1 p1 (by rw[p2];exact h1) h2 h3 h4 fun e=>?_
  rcases q3 with⟨q3,q4⟩|⟨q3,q4,q5⟩<;>rcases p3 with⟨p3,p4⟩|⟨p3,p4,p5⟩
  ·exact h5 (q3.trans p3.symm)
  ·exact p5 (by rw[<-p4,<-e,q4])
  ·exact q5 (by rw[<-q4,e,p4])
  ·exact h5 (by rw[<-q4,e,p4])
 ·obtain⟨x,q1,q2⟩:=hh.glob g o' hgo
  exact⟨x,hle _ _ q1,q2⟩
theorem HR.take2{H:List O}(hh:HR G B ρ H w){hpc:List O}{ρ':Ren}{w':World}(hBw:B<=w.heap.size)(hr':HR G w.heap.size ρ' hpc w')(hbel:Below w.heap.size w w')(bs:List Nat)(hnd:bs.Nodup)
  (hbs:∀ b∈bs,b<ax/\(hpc.getD b .gone).isData=true) (hsm:H.length+bs.length+1<ax) :
  ∃ ρ'',HR G B ρ'' (H++bs.map (hpc.getD · .gone)) w'/\ρ.le ρ''/\(∀ i b r,bs[i]?=some b->ρ' b=some r->ρ'' (H.length+i)=some r)/\∀ i,i<H.length->ρ'' i=ρ i:=by
 have hold:=hh.frame hbel.size (fun k hk=>hbel.block k hk)
 have hin:∀ i,H.length<=i->i<H.length+bs.length->∃ b,bs[i-H.length]?=some b/\getO G (H++bs.map (hpc.getD · .gone)) i=getO G hpc b/\(getO G hpc b).isData=true:=by
  intro i h1 h2
  have hlt:i-H.length<bs.length:=by omega
  have hmem:=List.getElem_mem hlt
  refine⟨bs[i-H.length],by simp[hlt],?_,?_⟩
  ·rw[aB (by omega),aB (hbs _ hmem).1]
   simp[List.getD,List.getElem?_append_right h1,hlt]
  ·rw[aB (hbs _ hmem).1];exact(hbs _ hmem).2
 have hout:∀ i x,ρ i=some x->getO G (H++bs.map (hpc.getD · .gone)) i=getO G H i/\¬ (H.length<=i/\i<H.length+bs.length):=by
  intro i x hx
  by_cases hi:i<ax
  ·have:i<H.length:=by
    rcases Nat.lt_or_ge i H.length with h|h
    ·exact h
    ·rw[hh.free i h hi]at hx;cases hx
   refine⟨?_,by omega⟩
   rw[aB hi,aB hi]
   simp[List.getD,List.getElem?_append_left this]
  ·exact⟨by rw[aA (by omega),aA (by omega)],by omega⟩
 let ρ2:Ren:=fun i=>if H.length<=i/\i<H.length+bs.length then(bs[i-H.length]?).bind ρ' else ρ i
 have hle:ρ.le ρ2:=fun i x hx=>by
  show (if _ then _ else _)=_
  rw[if_neg (hout i x hx).2];exact hx
 have hcase:∀ i x,ρ2 i=some x->(H.length<=i/\i<H.length+bs.length/\(bs[i-H.length]?).bind ρ'=some x)\/(ρ i=some x/\¬ (H.length<=i/\i<H.length+bs.length)):=by
  intro i x hx
  by_cases h:H.length<=i/\i<H.length+bs.length
  ·exact .inl ⟨h.1,h.2,by simpa only[ρ2,if_pos h]using hx⟩
  ·exact .inr ⟨by simpa only[ρ2,if_neg h]using hx,h⟩
 refine⟨ρ2,⟨?_,?_,fun b h1=>?_,?_,?_,?_,by simp;omega⟩,hle,?_⟩
 ·intro b r hr hal
  rcases hcase b r hr with⟨h1,h2,h3⟩|⟨h1,h2⟩
  ·obtain⟨b0,e0,e1,e3⟩:=hin b h1 h2
   rw[e0]at h3
   have:=hr'.blocks b0 r h3 (by rw[<-e1];exact hal)
   rw[e1]
   simp only[O.isData,Bool.and_eq_true]at e3
   exact this.data e3.1 _
  ·rw[(hout b r h1).1]at hal ⊢
   exact(hold.blocks b r h1 hal).mono hle
 ·intro b h1 h2
  simp only[List.length_append,List.length_map]at h1
  show (if _ then _ else _)=_
  rw[if_neg (by omega)]
  exact hh.free b (by omega) h2
 ·cases hx:ρ2 b with
  |none=>rfl
  |some x=>
   rcases hcase b x hx with⟨h2,h3,_⟩|⟨h2,_⟩
   ·obtain⟨b0,_,e1,e3⟩:=hin b h2 h3
    rw[<-e1,h1]at e3;cases e3
   ·rw[(hout b x h2).1]at h1;rw[hh.rsv b h1]at h2;cases h2
 ·intro b r hr ho hp0
  rcases hcase b r hr with⟨h1,h2,h3⟩|⟨h1,h2⟩
  ·obtain⟨b0,e0,e1,e3⟩:=hin b h1 h2
   rw[e0]at h3
   have:=hr'.base b0 r h3 (by rw[<-e1];exact ho) hp0
   omega
  ·rw[(hout b r h1).1]at ho
   exact hh.base b r h1 ho hp0
 ·intro b b' r r' hr hr2 hal hp0 hp0' ho hne
  rcases hcase b r hr with⟨h1,h2,h3⟩|⟨h1,h2⟩
  ·obtain⟨b0,e0,e1,e3⟩:=hin b h1 h2
   rw[e0]at h3
   have hb1:=hr'.base b0 r h3 (by rw[<-e1];exact ho) hp0
   rcases hcase b' r' hr2 with⟨h1',h2',h3'⟩|⟨h1',h2'⟩
   ·obtain⟨b0',e0',e1',_⟩:=hin b' h1' h2'
    rw[e0']at h3'
    refine hr'.apart b0 b0' r r' h3 h3' (by rw[<-e1'];exact hal) hp0 hp0' (by rw[<-e1];exact ho) (fun e=>?_)
    subst e
    have hi1:b-H.length<bs.length:=by omega
    have hi2:b'-H.length<bs.length:=by omega
    rw[List.getElem?_eq_getElem hi1,Option.some.injEq]at e0
    rw[List.getElem?_eq_getElem hi2,Option.some.injEq]at e0'
    have:=mN hnd hi1 hi2 (e0.trans e0'.symm)
    omega
   ·rw[(hout b' r' h1').1]at hal
    have:=(hh.blocks b' r' h1' hal).lt hp0'
    omega
  ·rw[(hout b r h1).1]at ho
   have hl1:=(hh.blocks b r h1 (fun e=>by rw[e]at ho;simp[O.own]at ho)).lt hp0
   rcases hcase b' r' hr2 with⟨h1',h2',h3'⟩|⟨h1',h2'⟩
   ·obtain⟨b0',e0',e1',e3'⟩:=hin b' h1' h2'
    rw[e0']at h3'
    simp only[O.isData,Bool.and_eq_true]at e3'
    have:=hr'.base b0' r' h3' e3'.2 hp0'
    omega
   ·rw[(hout b' r' h1').1]at hal
    exact hh.apart b b' r r' h1 h1' hal hp0 hp0' ho hne
 ·intro g o hg
  obtain⟨r,h1,h2⟩:=hh.glob g o hg
  exact⟨r,hle _ _ h1,h2⟩
 ·refine⟨fun i b r hi hr=>?_,fun i hi=>?_⟩
  ·have hlt:i<bs.length:=(List.getElem?_eq_some_iff.1 hi).1
   show (if _ then _ else _)=_
   rw[if_pos (by omega),show H.length+i-H.length=i by omega,hi]
   exact hr
  ·show (if _ then _ else _)=_
   rw[if_neg (by omega)]
mutual
def notZ(b:Nat):V->Bool
 |.ptr b' _ _=>!Nat.beq b' b
 |.yl b'=>!Nat.beq b' b
 |.sl b' _ _ _=>!Nat.beq b' b
 |.agg l=>kJ b l
 |.fn _ l=>kJ b l
 |.tup l=>kJ b l
 |.when _ v=>notZ b v
 |.junk=>true
 |.nilf=>true
 |.nili=>true
 |.nilp=>true
 |.nils=>true
 |.lit _=>true
 |.bool _=>true
 |.int _ _=>true
 |.str _=>true
def kJ(b:Nat):List V->Bool
 |[]=>true
 |v::l=>notZ b v&&kJ b l
end
def Ren.del(ρ:Ren)(b:Nat):Ren:=fun i=>if i=b then none else ρ i
theorem Ren.del_other(ρ:Ren){b i:Nat}(h:i≠b):ρ.del b i=ρ i:=by simp[Ren.del,h]
theorem Ren.del_same(ρ:Ren)(b:Nat):ρ.del b b=none:=by simp[Ren.del]
theorem Ren.del_le(ρ:Ren)(b:Nat){i:Nat}{r:Rg}(h:ρ.del b i=some r):ρ i=some r/\i≠b:=by
 by_cases e:i=b
 ·subst e;rw[Ren.del_same]at h;cases h
 ·rw[Ren.del_other ρ e]at h;exact⟨h,e⟩
theorem vZ{a b:Nat}(h:(!Nat.beq a b)=true):a≠b:=fun e=>by
 subst e;simp at h
mutual
theorem qp{ρ:Ren}{b:Nat}:∀ (v:V) (u:Value),notZ b v=true->VR ρ v u->VR (ρ.del b) v u
 |.lit _,_,_,e=>e
 |.bool _,_,_,e=>e
 |.int _ _,_,_,e=>e
 |.str _,_,_,e=>e
 |.nilp,_,_,e=>e
 |.nils,_,_,e=>e
 |.nilf,_,_,e=>e
 |.nili,_,_,e=>e
 |.ptr _ _ _,_,h,⟨r,e,x⟩=>⟨r,(Ren.del_other ρ (vZ h)).trans e,x⟩
 |.sl _ _ _ _,_,h,⟨r,e,x⟩=>⟨r,(Ren.del_other ρ (vZ h)).trans e,x⟩
 |.yl _,_,h,⟨r,e,x⟩=>⟨r,(Ren.del_other ρ (vZ h)).trans e,x⟩
 |.fn _ l,_,h,⟨us,e,x⟩=>⟨us,e,jm l us h x⟩
 |.agg l,_,h,⟨us,e,x⟩=>⟨us,e,jm l us h x⟩
 |.tup l,_,h,⟨us,e,x⟩=>⟨us,e,jm l us h x⟩
 |.when _ v,u,h,e=>⟨fun g=>qp v u h (e.1 g),e.2⟩
 |.junk,_,_,_=>trivial
theorem jm{ρ:Ren}{b:Nat}:∀ (l:List V) (us:List Value),kJ b l=true->VRL ρ l us->VRL (ρ.del b) l us
 |[],_,_,e=>e
 |v::l,_,h,⟨u,r,e,x,y⟩=>by
  simp only[kJ,Bool.and_eq_true]at h
  exact⟨u,r,e,qp v u h.1 x,jm l r h.2 y⟩
end
theorem oa{b:Nat}:∀ {l:List V},kJ b l=true->∀ v∈l,notZ b v=true
 |[],_,v,hv=>by simp at hv
 |x::l,h,v,hv=>by
  simp only[kJ,Bool.and_eq_true]at h
  rcases List.mem_cons.1 hv with rfl|hv
  ·exact h.1
  ·exact oa h.2 v hv
def Dz(b:Nat):O->Bool
 |.cells _ l=>kJ b l
 |.vals _ _ rs=>rs.all (kJ b)
 |_=>true
theorem zT{b:Nat}{o:O}(h:Dz b o=true){k j:Nat}{v:V}(hc:o.cell k j=some v):notZ b v=true:=by
 cases o with
 |ints w kd zs=>
  cases j with
  |zero=>simp only[O.cell,Option.some.injEq]at hc;subst hc;rfl
  |succ j=>simp[O.cell]at hc
 |rows w ks rs=>
  simp only[O.cell]at hc
  split at hc
  ·cases hc;rfl
  ·cases hc
 |cells w l=>
  cases k with
  |zero=>exact oa h v (List.mem_of_getElem? (by simpa[O.cell]using hc))
  |succ k=>simp[O.cell]at hc
 |vals w m rs=>
  simp only[O.cell]at hc
  split at hc
  ·rename_i r hr
   exact oa (List.all_eq_true.1 h r (List.mem_of_getElem? hr)) v (List.mem_of_getElem? hc)
  ·cases hc
 |lock=>simp[O.cell]at hc
 |gone=>simp[O.cell]at hc
 |rsv=>simp[O.cell]at hc
theorem HR.clear(hh:HR G B ρ hp w){b:Nat}(hb:b<ax)(hn:hp.all (Dz b)=true):HR G B (ρ.del b) hp w:=by
 refine⟨fun i r hr hal=>?_,fun i h1 h2=>?_,fun i h1=>?_,fun i r hr=>hh.base i r (Ren.del_le ρ b hr).1,fun i i' r r' hr hr'=>hh.apart i i' r r' (Ren.del_le ρ b hr).1 (Ren.del_le ρ b hr').1,fun g o hgo=>?_,hh.small⟩
 ·obtain⟨h1,h2⟩:=Ren.del_le ρ b hr
  have ho:=hh.blocks i r h1 hal
  refine⟨ho.alive,ho.nrsv,ho.wf,ho.n,ho.ph0,ho.lt,ho.m,ho.cp,fun hp0 k j v hk hj hv=>?_,ho.own⟩
  obtain⟨u,h3,h4⟩:=ho.cell hp0 k j v hk hj hv
  by_cases hi:ax<=i
  ·rw[aA hi]at hv
   cases hG:G[i-ax]? with
   |none=>simp[List.getD,hG,O.cell]at hv
   |some o=>
    obtain⟨_,_,_,_,_,_,_,ht⟩:=hh.glob _ o hG
    simp only[List.getD,hG,Option.getD_some]at hv
    exact⟨u,h3,VR.pl v u (O.data_cell (O.tab_data ht).1 hv) h4⟩
  ·rw[aB (by omega)]at hv
   simp only[List.getD_eq_getElem?_getD]at hv
   cases hx:hp[i]? with
   |none=>rw[hx]at hv;simp[O.cell]at hv
   |some o=>
    rw[hx]at hv
    exact⟨u,h3,qp v u (zT (List.all_eq_true.1 hn o (List.mem_of_getElem? hx)) hv) h4⟩
 ·cases hx:ρ.del b i with
  |none=>rfl
  |some r=>have:=(Ren.del_le ρ b hx).1;rw[hh.free i h1 h2]at this;cases this
 ·cases hx:ρ.del b i with
  |none=>rfl
  |some r=>have:=(Ren.del_le ρ b hx).1;rw[hh.rsv i h1]at this;cases this
 ·obtain⟨r,h1,h2⟩:=hh.glob g o hgo
  exact⟨r,by rw[Ren.del_other ρ (by omega)];exact h1,h2⟩
def Bm(e:Nat):V->Bool
 |.sl b _ _ _=>Nat.beq b e
 |.ptr b _ _=>Nat.beq b e
 |_=>false
def Dl(e:Nat):V->Bool
 |.ptr b _ _=>Nat.beq b e
 |_=>false
theorem sM{ρ:Ren}{e:Nat}{v:V}{u:Value}(h:Bm e v=true)(hv:VR ρ v u):∃ r,ρ e=some r:=by
 cases v with
 |sl b k n c=>obtain⟨r,h1,_⟩:=hv;exact⟨r,by rw[<-Nat.eq_of_beq_eq_true h];exact h1⟩
 |ptr b k j=>obtain⟨r,h1,_⟩:=hv;exact⟨r,by rw[<-Nat.eq_of_beq_eq_true h];exact h1⟩
 |_=>cases h
theorem Aa{ρ:Ren}{e:Nat}{v:V}{u:Value}(h:Dl e v=true)(hv:VR ρ v u):∃ r,ρ e=some r/\r.ph=false:=by
 cases v with
 |ptr b k j=>obtain⟨r,h1,h2,_⟩:=hv;exact⟨r,by rw[<-Nat.eq_of_beq_eq_true h];exact h1,h2⟩
 |_=>cases h
def covB(hp:List O)(known:List V):List Nat->Bool
 |[]=>true
 |b::r=>match hp.getD b .gone with
  |.cells _ l=>known.any (Dl b)&&covB hp (known++l) r
  |_=>known.any (Bm b)&&covB hp known r
theorem xS:∀ {bs:List Nat} {known:List V},covB hp known bs=true->HR G B ρ hp w->(∀ b∈bs,b<ax)->(∀ v∈known,∃ u,VR ρ v u)->∀ b∈bs,∃ r,ρ b=some r
 |[],_,_,_,_,_,b,hb=>by simp at hb
 |c::r,known,h,hh,hlt,hk,b,hb=>by
  unfold covB at h
  split at h
  ·rename_i ww l ho
   rw[Bool.and_eq_true]at h
   obtain⟨v,hv,hp⟩:=List.any_eq_true.1 h.1
   obtain⟨u,hu⟩:=hk v hv
   obtain⟨x,hx,hph⟩:=Aa hp hu
   have hg:getO G _ c=_:=(aB (hlt c (by simp))).trans ho
   have hor:=hh.blocks c x hx (by rw[hg];simp)
   rw[hg]at hor
   have hk2:∀ v∈known++l,∃ u,VR ρ v u:=by
    intro v hv
    rcases List.mem_append.1 hv with hv|hv
    ·exact hk v hv
    ·obtain⟨j,hj,e⟩:=List.mem_iff_getElem.1 hv
     obtain⟨u,_,h2⟩:=hor.cell hph 0 j v (by simp[O.len]) hj (by show l[j]?=some v;rw[List.getElem?_eq_getElem hj,e])
     exact⟨u,h2⟩
   rcases List.mem_cons.1 hb with rfl|hb
   ·exact⟨x,hx⟩
   ·exact xS h.2 hh (fun b hb=>hlt b (by simp[hb])) hk2 b hb
  ·rw[Bool.and_eq_true]at h
   obtain⟨v,hv,hp⟩:=List.any_eq_true.1 h.1
   obtain⟨u,hu⟩:=hk v hv
   rcases List.mem_cons.1 hb with rfl|hb
   ·exact sM hp hu
   ·exact xS h.2 hh (fun b hb=>hlt b (by simp[hb])) hk b hb
def hidR(ρ:Ren)(n:Nat)(rs:List Rg):Ren:=fun i=>if ax<=i then ρ i else if i<n then ρ i else rs[i-n]?
def SqH(G:List O)(P:Program)(f:FuncId)(hc:List O)(capv:List V)(hid:List O)(L:List (List V×List O)):Prop:=
 ∀ (n l:Nat) (caps:List Value) (ρc:Ren) (J:Option Nat->List Rg->World->Prop) (W:World),
  VRL ρc capv caps->ρc 0=some (yrg l)->l<W.heap.size ->
  (∀ σ rs W1 W',J σ rs W1->vF W.heap.size W1 W'->J σ rs W') ->
  (∀ σ rs W1,J σ rs W1->(rs=[]\/rs.length=hid.length)/\HR G W1.heap.size (hidR ρc (hc.length+1) rs) ((.gone::hc++hid.take rs.length).map O.ro) W1) ->
  (∀ (i:Nat) (vs:List V) (ns:List O) (us:List Value) (rs rsN:List Rg) (W1 W2:World) (hpi:List O) (ρi:Ren) (bs:List Nat),L[i]?=some (vs,ns)->J (some i) rs W1->HR G W1.heap.size ρi hpi W2->Below W1.heap.size W1 W2->bs.Nodup->(∀ b∈bs,b<ax/\(hpi.getD b .gone).isData=true) ->
   bs.map (hpi.getD · .gone)=hid.drop rs.length++ns->(bs.take (hid.length-rs.length)).map ρi=rsN.map some->(∀ ρ2:Ren,(∀ j b r,(bs.drop (hid.length-rs.length))[j]?=some b->ρi b=some r->ρ2 j=some r)->(∀ c r,c<hc.length->ρc (c+1)=some r->ρ2 (50+c)=some r)->VRL ρ2 vs us) ->
   YieldAt (Fr none) (n-1) P l us.toArray W2 fun e W'=>∃ b,e=.returned (.bool b)/\J (bif b then some (i+1)else none) (rs++rsN) W'/\Kept l W2 W') ->
  J (some 0) [] W->CallsIn (Fr none) n P f (#[.func (.yield l) #[] #[]]++caps.toArray) W fun e W'=>(∃ v,e=.returned v)/\∃ rs,J (some L.length) rs W'\/J none rs W'
end
section
variable{E:Env}{P:Program}{n N l S0:Nat}{ρc:Ren}{hc hid:List O}{L:List (List V×List O)}{J:Option Nat->List Rg->World->Prop}
def kpH(hid:List O):Bool->Nat
 |true=>hid.length
 |false=>0
def muH(hc hid:List O)(σ:Option Nat×Bool):Nat:=hc.length+1+kpH hid σ.2
structure Hq(E:Env)(P:Program)(n l S0:Nat)(ρc:Ren)(hc hid:List O)(L:List (List V×List O))(J:Option Nat->List Rg->World->Prop):Prop where
 hE:E.Fn P
 stab:∀ σ rs W W',J σ rs W->vF S0 W W'->J σ rs W'
 hr:∀ σ rs W,J σ rs W->(rs=[]\/rs.length=hid.length)/\HR E.G W.heap.size (hidR ρc (hc.length+1) rs) ((.gone::hc++hid.take rs.length).map O.ro) W
 yl:ρc 0=some (yrg l)
 cov:∀ i,i<hc.length+1->∃ r,ρc i=some r
 small:hc.length+1+hid.length<ax
 lS:l<S0
 yld:∀ (i:Nat) (vs:List V) (ns:List O) (us:List Value) (rs rsN:List Rg) (W1 W2:World) (hpi:List O) (ρi:Ren) (bs:List Nat),L[i]?=some (vs,ns)->J (some i) rs W1->HR E.G W1.heap.size ρi hpi W2->Below W1.heap.size W1 W2->bs.Nodup->(∀ b∈bs,b<ax/\(hpi.getD b .gone).isData=true) ->
   bs.map (hpi.getD · .gone)=hid.drop rs.length++ns->(bs.take (hid.length-rs.length)).map ρi=rsN.map some->(∀ ρ2:Ren,(∀ j b r,(bs.drop (hid.length-rs.length))[j]?=some b->ρi b=some r->ρ2 j=some r)->(∀ c r,c<hc.length->ρc (c+1)=some r->ρ2 (50+c)=some r)->VRL ρ2 vs us) ->
   YieldAt (Fr none) (n-1) P l us.toArray W2 fun e W'=>∃ b,e=.returned (.bool b)/\J (bif b then some (i+1)else none) (rs++rsN) W'/\Kept l W2 W'
def ItH(E:Env)(N S0:Nat)(ρc:Ren)(hc hid:List O)(J:Option Nat->List Rg->World->Prop)(σ:Option Nat×Bool)(tm:Tm)(hp:List O)(a:Act)(w:World):Prop:=
 ∃ (D0:List Nat) (Wy:World) (ρ:Ren) (rs:List Rg),J σ.1 rs Wy/\rs.length=kpH hid σ.2/\S0<=Wy.heap.size/\D0.Nodup/\(∀ d∈D0,S0<=d/\d<Wy.heap.size)/\Rel E.G Wy.heap.size Wy Wy.heap.size N (D0.map mark) (D0.map marked) ρ tm hp a w/\(hidR ρc (hc.length+1) rs).leB (muH hc hid σ) ρ
def YH(E:Env)(P:Program)(n N S0:Nat)(ρc:Ren)(hc hid:List O)(J:Option Nat->List Rg->World->Prop)(c:Code)(σ:Option Nat×Bool)(tm:Tm)(hp:List O)(Q:Exit->Option Nat×Bool->Tm->List O->Prop):Prop:=
 ∀ a w,ItH E N S0 ρc hc hid J σ tm hp a w->c.wpIn (Fr none) n P (fun e a' w'=>∃ σ' tm' hp',ItH E N S0 ρc hc hid J σ' tm' hp' a' w'/\Q e σ' tm' hp') a w
variable{c:Code}{σ:Option Nat×Bool}{tm:Tm}{hp:List O}{Q Q':Exit->Option Nat×Bool->Tm->List O->Prop}
theorem YH.mono(h:YH E P n N S0 ρc hc hid J c σ tm hp Q)(hq:∀ e σ tm hp,Q e σ tm hp->Q' e σ tm hp):YH E P n N S0 ρc hc hid J c σ tm hp Q':=
 fun a w hi=>wpIn_mono (h a w hi) fun _ _ _ ⟨σ',tm',hp',h1,h2⟩=>⟨σ',tm',hp',h1,hq _ _ _ _ h2⟩
theorem ItH.ent{a:Act}{w:World}(h:ItH E N S0 ρc hc hid J σ tm hp a w){tm':Tm}{hp':List O}(he:Ent E.G (muH hc hid σ) tm hp tm' hp'):ItH E N S0 ρc hc hid J σ tm' hp' a w:=by
 obtain⟨D0,Wy,ρ,rs,h1,hrs,h2,h3,h4,h5,h6⟩:=h
 obtain⟨ρ',l1,h7⟩:=h5.ent he
 exact⟨D0,Wy,ρ',rs,h1,hrs,h2,h3,h4,h7,Ren.leB_trans h6 l1⟩
theorem YH.ent{tm':Tm}{hp':List O}(he:Ent E.G (muH hc hid σ) tm hp tm' hp')(h:YH E P n N S0 ρc hc hid J c σ tm' hp' Q):YH E P n N S0 ρc hc hid J c σ tm hp Q:=fun a w hi=>h a w (hi.ent he)
theorem YH.seg(hE:E.Fn P)(m:Nat)(hs:sat E.G P (fun e tm' hp'=>Q e σ tm' hp') (evC E (hdl E m) (muH hc hid σ) N c tm hp .ret)):YH E P n N S0 ρc hc hid J c σ tm hp Q:=by
 rintro a w ⟨D0,Wy,ρ,rs,h1,hrs,h2,h3,h4,h5,h6⟩
 refine wpIn_mono (dP hE.mixed hE.ok (gj hE) (eN hE) (cG hE m) c tm hp _ _ hs Wy.heap.size Wy Wy.heap.size (D0.map mark) (D0.map marked) ρ a w n none (.inl rfl) h5) ?_
 rintro e a' w' ⟨tm',hp',ρ',h7,h8,h9⟩
 exact⟨σ,tm',hp',⟨D0,Wy,ρ',rs,h1,hrs,h2,h3,h4,h7,Ren.leB_trans h6 h8⟩,h9⟩
theorem YH.seq{x y:Code}(h:YH E P n N S0 ρc hc hid J x σ tm hp (fun e σ' tm' hp'=>match e with|.normal=>YH E P n N S0 ρc hc hid J y σ' tm' hp' Q|e=>Q e σ' tm' hp')):YH E P n N S0 ρc hc hid J (.seq x y) σ tm hp Q:=by
 intro a w hi
 refine wpIn_seq (wpIn_mono (h a w hi) ?_)
 rintro e a' w' ⟨σ',tm',hp',h1,h2⟩
 cases e with
 |normal=>exact h2 a' w' h1
 |_=>exact⟨σ',tm',hp',h1,h2⟩
theorem YH.cond{x y:Code}{o:Operand}{b:Bool}(ho:evA E tm o=.bool b)(h1:b=true->YH E P n N S0 ρc hc hid J x σ tm hp Q)(h2:b=false->YH E P n N S0 ρc hc hid J y σ tm hp Q):YH E P n N S0 ρc hc hid J (.cond o x y) σ tm hp Q:=by
 intro a w hi
 have hi':=hi
 obtain⟨D0,Wy,ρ,_,_,_,_,_,_,h5,_⟩:=hi'
 have hev:=dz (E:=E) (w:=w) h5.tr h5.hr.hv o
 rw[ho]at hev
 exact wpIn_cond_split hev (fun e=>h1 e a w hi) (fun e=>h2 e a w hi)
theorem YH.block{id:Nat}{x:Code}(h:YH E P n N S0 ρc hc hid J x σ tm hp (fun e σ' tm' hp'=>match e with|.exit id'=>(match Nat.beq id' id with|true=>Q .normal σ' tm' hp'|false=>Q (.exit id') σ' tm' hp')|e=>Q e σ' tm' hp')):YH E P n N S0 ρc hc hid J (.block id x) σ tm hp Q:=by
 intro a w hi
 refine wpIn_block (wpIn_mono (h a w hi) ?_)
 rintro e a' w' ⟨σ',tm',hp',h1,h2⟩
 cases e with
 |exit id'=>
  simp only[Exit.inBlock]
  dsimp only at h2
  split at h2
  ·rename_i hb;rw[if_pos (Nat.eq_of_beq_eq_true hb)];exact⟨σ',tm',hp',h1,h2⟩
  ·rename_i hb;rw[if_neg (Nat.ne_of_beq_eq_false hb)];exact⟨σ',tm',hp',h1,h2⟩
 |_=>exact⟨σ',tm',hp',h1,h2⟩
theorem YH.loop{body:Code}{α:Type}(st:α->(Option Nat×Bool)×Tm×List O)(inv:α->Prop)(meas:α->Nat)(a0:α)(hσ:σ=(st a0).1)(h0:Ent E.G (muH hc hid σ) tm hp (st a0).2.1 (st a0).2.2)(hi:inv a0)
  (hround:∀ x,inv x->YH E P n N S0 ρc hc hid J body (st x).1 (st x).2.1 (st x).2.2 fun e σ' tm' hp'=>match e with
   |.normal=>∃ x',inv x'/\meas x'<meas x/\σ'=(st x').1/\Ent E.G (muH hc hid σ') tm' hp' (st x').2.1 (st x').2.2
   |e=>Q e σ' tm' hp'):YH E P n N S0 ρc hc hid J (.loop body) σ tm hp Q:=by
 subst hσ
 refine YH.ent h0 fun a w hi0=>wpIn_loop_rounds (meas a0+1) ?_
 have key:∀ (k:Nat) (x:α) (a:Act) (w:World),inv x->meas x<=k->ItH E N S0 ρc hc hid J (st x).1 (st x).2.1 (st x).2.2 a w ->
   Code.roundsIn (Fr none) n P body (fun e a' w'=>∃ σ' tm' hp',ItH E N S0 ρc hc hid J σ' tm' hp' a' w'/\Q e σ' tm' hp') (k+1) a w:=by
  intro k
  induction k with
  |zero=>
   intro x a w hx hk hit
   refine wpIn_mono (hround x hx a w hit) ?_
   rintro e a2 w2 ⟨σ2,tm2,hp2,h2,hq⟩
   cases e with
   |normal=>obtain⟨x',_,h4,_⟩:=hq;omega
   |_=>exact⟨σ2,tm2,hp2,h2,hq⟩
  |succ k ih=>
   intro x a w hx hk hit
   refine wpIn_mono (hround x hx a w hit) ?_
   rintro e a2 w2 ⟨σ2,tm2,hp2,h2,hq⟩
   cases e with
   |normal=>
    obtain⟨x',h3,h4,rfl,h5⟩:=hq
    exact ih x' a2 w2 h3 (by omega) (h2.ent h5)
   |_=>exact⟨σ2,tm2,hp2,h2,hq⟩
 exact key (meas a0) a0 a w hi (Nat.le_refl _) hi0
def DG(E:Env)(P:Program)(m N:Nat)(all:List Oper)(oy:Oper)(suf:List Oper)(σ:Option Nat×Bool)(Q:Exit->Option Nat×Bool->Tm->List O->Prop)(tm:Tm)(hp:List O):Prop:=
 sat E.G P (fun e tm' hp'=>Q e σ tm' hp') (putV N tm hp oy.dst .junk fun tm hp=>cZ E (hdl E m) N all suf tm hp (.ret .normal) noX)
def ndH(hid:List O)(hd:Bool):Nat:=hid.length-kpH hid hd
def padY(bs:List Nat)(m:Nat):List Nat:=bs++(List.replicate (50-bs.length) (ax-1)++List.range' 1 m)
def YDoH(E:Env)(P:Program)(m N:Nat)(hc hid:List O)(L:List (List V×List O))(all:List Oper)(oy:Oper)(cl:Call)(f:Operand)(suf:List Oper)(σ:Option Nat×Bool)(Q:Exit->Option Nat×Bool->Tm->List O->Prop)(tm:Tm)(hp:List O):Prop:=
 ∃ i vs ns ts bs tm1,σ.1=some i/\L[i]?=some (vs,ns)/\evA E tm f=.yl 0/\(rH bs&&bs.all fun b=>Nat.blt b hp.length&&(hp.getD b .gone).isData)=true/\bs.map (hp.getD · .gone)=hid.drop (kpH hid σ.2)++ns /\
  renL (padY (bs.drop (ndH hid σ.2)) hc.length) (cl.args.toList.map (evA E tm))=some vs/\(okZL (50+hc.length) vs&&Nat.ble ns.length 50&&Nat.ble hc.length 50)=true/\wo (List.range (muH hc hid σ)++bs.take (ndH hid σ.2)) tm ts=some tm1/\(tm1.all fun p=>okZ (hc.length+1+hid.length) p.2)=true /\
  ((bs.take (ndH hid σ.2)).all fun e=>ts.any fun t=>Bm e (look tm t))=true /\
  ∀ b,sat E.G P (fun e tm' hp'=>Q e (bif b then some (i+1)else none,true) tm' hp') (putV N tm1 ((.gone::hc++hid).map O.ro) oy.dst (.lit b) fun tm hp=>cZ E (hdl E m) N all suf tm hp (.ret .normal) noX)
def YOpH(E:Env)(P:Program)(m N:Nat)(hc hid:List O)(L:List (List V×List O))(all:List Oper)(oy:Oper)(cl:Call)(f:Operand)(suf:List Oper)(σ:Option Nat×Bool)(Q:Exit->Option Nat×Bool->Tm->List O->Prop)(tm:Tm)(hp:List O):Prop:=
 match oy.guard with
 |none=>YDoH E P m N hc hid L all oy cl f suf σ Q tm hp
 |some (j,want)=>match iD all j with
  |none=>False
  |some d=>match qU E (look tm d) want with
   |.yes=>YDoH E P m N hc hid L all oy cl f suf σ Q tm hp
   |.no=>DG E P m N all oy suf σ Q tm hp
   |.grd g=>(g=true->sat E.G P (fun _ tm' _=>YDoH E P m N hc hid L all oy cl f suf σ Q ((d,.lit want)::tm') hp) (fP g (ko oy.op) tm fun tm'=>.ret .normal tm' []))/\(g=false->DG E P m N all oy suf σ Q (gno tm d want) hp)
   |.bad=>False
theorem ru{p:V->Bool}:∀ {tm:Tm},(tm.all fun x=>p x.2)=true->∀ t,look tm t=.junk\/p (look tm t)=true
 |[],_,t=>.inl rfl
 | (i,v)::r,h,t=>by
  rw[List.all_cons,Bool.and_eq_true]at h
  rw[bx]
  by_cases e:i=t
  ·rw[if_pos e];exact .inr h.1
  ·rw[if_neg e];exact ru h.2 t
theorem tA{ρ:Ren}:∀ {bs:List Nat},(∀ b∈bs,∃ r,ρ b=some r)->∃ rs:List Rg,bs.map ρ=rs.map some
 |[],_=>⟨[],rfl⟩
 |b::r,h=>by
  obtain⟨x,hx⟩:=h b (by simp)
  obtain⟨rs,hr⟩:=tA (bs:=r) fun b hb=>h b (List.mem_cons_of_mem _ hb)
  exact⟨x::rs,by simp[hx,hr]⟩
theorem gG:∀ {n:Nat} {l:List Nat},l.Nodup->(∀ b∈l,b<n)->l.length<=n:=by
 intro n
 induction n with
 |zero=>
  intro l _ h
  cases l with
  |nil=>simp
  |cons b r=>have:=h b (by simp);omega
 |succ n ih=>
  intro l hn h
  by_cases hm:n∈l
  ·have h1:=ih (hn.erase n) (fun b hb=>by
    have h2:=h b (List.mem_of_mem_erase hb)
    have h3:b≠n:=fun e=>by subst e;exact absurd hb (List.Nodup.not_mem_erase hn)
    omega)
   rw[List.length_erase_of_mem hm]at h1
   omega
  ·have:=ih hn (fun b hb=>by
    have h2:=h b hb
    have h3:b≠n:=fun e=>hm (by rw[<-e];exact hb)
    omega)
   omega
theorem YH.yreg(ok:Hq E P n l S0 ρc hc hid L J)(m:Nat){id:Nat}{ops:Array Oper}(pre:List Oper)(oy:Oper)(suf:List Oper){cl:Call}{f:Operand}(hops:ops.toList=pre++oy::suf)(hop:oy.op=.call cl)(hcal:cl.callee=.value f)
  (h:sat E.G P (fun _ tm' hp'=>YOpH E P m N hc hid L ops.toList oy cl f suf σ Q tm' hp') (cZ E (hdl E m) N ops.toList pre tm hp (.ret .normal) noX)):YH E P n N S0 ρc hc hid J (.region id ops false) σ tm hp Q:=by
 have hE:=ok.hE
 rintro a w ⟨D0,Wy,ρ,rs,h1,hrs,h2,h3,h4,h5,h6⟩
 refine wpIn_region ?_
 have hi:ops[pre.length]?=some oy:=by rw[<-Array.getElem?_toList,hops];simp
 have hsz:ops.size=pre.length+(suf.length+1):=by rw[<-Array.length_toList,hops];simp
 have hlist:List.range ops.size=List.range' 0 pre.length++(pre.length::List.range' (pre.length+1) suf.length):=by
  rw[List.range_eq_range',hsz,<-List.range'_append_1,Nat.zero_add,List.range'_succ]
 rw[hlist]
 have suffix:∀ (σ':Option Nat×Bool) (tm':Tm) (hp':List O) (a':Act) (w':World),ItH E N S0 ρc hc hid J σ' tm' hp' a' w'->sat E.G P (fun e tm' hp'=>Q e σ' tm' hp') (cZ E (hdl E m) N ops.toList suf tm' hp' (.ret .normal) noX) ->
   wpOpsIn (Fr none) n P ops (fun e a' w'=>∃ σ' tm' hp',ItH E N S0 ρc hc hid J σ' tm' hp' a' w'/\Q e σ' tm' hp') (List.range' (pre.length+1) suf.length) a' w':=by
  rintro σ' tm' hp' a' w' ⟨D1,W1,ρ1,rs1,g1,grs,g2,g3,g4,g5,g6⟩ hs
  have:=jL (n:=n) (ro:=none) (ρ0:=ρ1) hE.ok (eN hE) (cG hE m) (ops:=ops) (Qx:=fun e a' w'=>∃ σ' tm' hp',ItH E N S0 ρc hc hid J σ' tm' hp' a' w'/\Q e σ' tm' hp')
   (fun a2 w2 ⟨tm2,hp2,ρ2,q1,q2,q3⟩=>⟨σ',tm2,hp2,⟨D1,W1,ρ2,rs1,g1,grs,g2,g3,g4,q1,Ren.leB_trans g6 q2.leB⟩,q3⟩) (fun e a2 w2 ⟨_,_,_,_,_,q⟩=>q.elim) suf (pre++[oy]) tm' hp' ρ1 a' w' (by simp[hops]) hs g5 (Ren.le_refl ρ1)
  simpa using this
 refine nc (n:=n) (ro:=none) (ρ0:=ρ) (suf:=oy::suf) hE.ok (eN hE) (cG hE m) (ops:=ops) ?_ (fun e a2 w2 ⟨_,_,_,_,_,q⟩=>q.elim) pre [] tm hp ρ a w (by rw[hops];simp) h h5 (Ren.le_refl ρ)
 rintro a1 w1 ⟨tm1,hp1,ρ1,r1,r2,r3⟩
 have r3:YOpH E P m N hc hid L ops.toList oy cl f suf σ Q tm1 hp1:=r3
 have hc1:(hidR ρc (hc.length+1) rs).leB (muH hc hid σ) ρ1:=Ren.leB_trans h6 r2.leB
 have hsml:=ok.small
 have hrc:∀ b,b<hc.length+1->hidR ρc (hc.length+1) rs b=ρc b:=fun b hb=>by
  simp only[hidR];rw[if_neg (by omega),if_pos hb]
 have hμ0:hc.length+1<=muH hc hid σ:=Nat.le_add_right _ _
 simp only[wpOpsIn,hi]
 -- the call
 have doit:∀ tm2,TR ρ1 tm2 a1->YDoH E P m N hc hid L ops.toList oy cl f suf σ Q tm2 hp1->oy.wpIn (Fr none) n P a1 w1 (wpOpsIn (Fr none) n P ops (fun e a' w'=>∃ σ' tm' hp',ItH E N S0 ρc hc hid J σ' tm' hp' a' w'/\Q e σ' tm' hp') (List.range' (pre.length+1) suf.length)) (fun e a' w'=>∃ σ' tm' hp',ItH E N S0 ρc hc hid J σ' tm' hp' a' w'/\Q e σ' tm' hp'):=by
  rintro tm2 htr ⟨i,vs,ns,ts,bs,tm3,d1,d2,d3,d4,d5,d6,d7,d8,d9,d10,d11⟩
  have hev:=fun x=>dz (E:=E) (w:=w1) htr r1.hr.hv x
  have hf:=hev f
  rw[d3]at hf
  obtain⟨r,hr,hfe⟩:=hf
  have hyl:=hc1 0 _ (.inl (by omega)) ((hrc 0 (by omega)).trans ok.yl)
  rw[hyl]at hr
  cases hr
  have hav:=VRL.evArgs hev cl.args.toList
  obtain⟨us,hus⟩:∃ us,us=cl.args.toList.map a1.eval:=⟨_,rfl⟩
  rw[<-hus]at hav
  rw[Bool.and_eq_true]at d4
  have hnd:=eZ d4.1
  have hdat:∀ b∈bs,b<ax/\(hp1.getD b .gone).isData=true:=fun b hb=>by
   have:=List.all_eq_true.1 d4.2 b hb
   rw[Bool.and_eq_true]at this
   have h7:=aM this.1
   have:=r1.hr.small
   exact⟨by omega,‹_/\_›.2⟩
  have hnds:hid.length-rs.length=ndH hid σ.2:=by rw[hrs];rfl
  have hblen:bs.length=hid.length-kpH hid σ.2+ns.length:=by
   have:=congrArg List.length d5
   simpa using this
  have hbsm:bs.length<ax:=by
   have h7:=r1.hr.small
   have h8:bs.length<=hp1.length:=by
    have hlt:∀ b∈bs,b<hp1.length:=fun b hb=>by
     have:=List.all_eq_true.1 d4.2 b hb
     rw[Bool.and_eq_true]at this
     exact aM this.1
    exact gG hnd hlt
   omega
  obtain⟨rsN,hrsN⟩:∃ rsN:List Rg,(bs.take (ndH hid σ.2)).map ρ1=rsN.map some:=tA fun e he=>by
   obtain⟨t,_,hn⟩:=List.any_eq_true.1 (List.all_eq_true.1 d10 e he)
   exact sM hn (htr t)
  have hrsl:(rs++rsN).length=hid.length:=by
   have h7:=congrArg List.length hrsN
   simp only[List.length_map,List.length_take]at h7
   rw[List.length_append,<-h7,hrs,hblen]
   unfold ndH
   have:kpH hid σ.2<=hid.length:=by cases σ.2<;>simp[kpH]
   omega
  obtain⟨fn,tmps,asg,body,hy,hround⟩:=ok.yld i vs ns us rs rsN Wy w1 hp1 ρ1 bs d2 (d1▸h1) r1.hr r1.bel hnd hdat (by rw[hrs];exact d5) (by rw[hnds];exact hrsN) (fun ρ2 h2 h2c=>by
   rw[hnds]at h2
   simp only[Bool.and_eq_true]at d7
   have hn50:=Nat.le_of_ble_eq_true d7.1.2
   have hc50:=Nat.le_of_ble_eq_true d7.2
   have hdl:(bs.drop (ndH hid σ.2)).length=ns.length:=by rw[List.length_drop,hblen];unfold ndH;omega
   have hpl:(padY (bs.drop (ndH hid σ.2)) hc.length).length=50+hc.length:=by
    unfold padY
    rw[List.length_append,List.length_append,List.length_replicate,List.length_range',hdl];omega
   have h7:=VRL.ren (ρ:=ρ1) (bs:=padY (bs.drop (ndH hid σ.2)) hc.length) (by rw[hpl];simp only[ax];omega) _ _ us d6 hav
   refine kC (fun b r hb hr=>?_) vs us d7.1.1 h7
   simp only[Ren.re]at hr
   rw[if_neg (by simp only[ax];omega)]at hr
   by_cases hb1:b<ns.length
   ·unfold padY at hr
    rw[List.getElem?_append_left (by rw[hdl];exact hb1)]at hr
    cases hx:(bs.drop (ndH hid σ.2))[b]? with
    |none=>rw[hx]at hr;cases hr
    |some b0=>rw[hx]at hr;exact h2 b b0 r hx hr
   ·unfold padY at hr
    rw[List.getElem?_append_right (by rw[hdl];omega),hdl]at hr
    by_cases hb2:b<50
    ·rw[List.getElem?_append_left (by rw[List.length_replicate];omega),List.getElem?_replicate,if_pos (by omega)]at hr
     have hr:ρ1 (ax-1)=some r:=hr
     have hsm:=r1.hr.small
     rw[r1.hr.free _ (by omega) (by simp only[ax];omega)]at hr
     cases hr
    ·rw[List.getElem?_append_right (by rw[List.length_replicate];omega),List.length_replicate]at hr
     rw[List.getElem?_range' (by omega)]at hr
     have e1:1+1*(b-ns.length-(50-ns.length))=(b-50)+1:=by omega
     rw[e1]at hr
     have hr:ρ1 (b-50+1)=some r:=hr
     obtain⟨r',hr'⟩:=ok.cov (b-50+1) (by omega)
     have h9:=hc1 (b-50+1) r' (.inl (by omega)) ((hrc _ (by omega)).trans hr')
     rw[hr]at h9
     cases h9
     have:=h2c (b-50) r (by omega) hr'
     rwa [show 50+(b-50)=b by omega]at this)
  obtain⟨dst,op,ty,pos,after,guard⟩:=oy
  dsimp only at hop d11 ⊢
  subst hop
  refine⟨bz none _ w1 _,?_⟩
  have hsem:({ dst:=dst,op:=.call cl,type:=ty,pos:=pos,after:=after,guard:=guard }:Oper).semAt (Fr none).round a1.eval=execOp a1.eval { dst:=dst,op:=.call cl,type:=ty,pos:=pos,after:=after,guard:=guard }:=
   Oper.semAt_eq _ _ _ fun c hc=>by cases hc
  rw[hsem]
  have hargs:cl.args.map a1.eval=us.toArray:=Array.toList_inj.1 (by simp[hus])
  have hof:(Deferred.ofValue (.func (.yield l) #[] #[]) us.toArray).run P w1=.ok { target:=.fn (.yield l) #[],args:=us.toArray } w1:=by simp[Deferred.ofValue]
  have hfe':a1.eval f=.func (.yield l) #[] #[]:=hfe
  have hrw:(execOp a1.eval { dst:=dst,op:=.call cl,type:=ty,pos:=pos,after:=after,guard:=guard }).run P w1=.ok (.round l fn tmps asg body) w1:=by
   simp only[execOp,resolve,hcal,hfe',hargs,Sem.run_bind,hof,Result.andThen_ok,invoke,hy]
  rw[hrw]
  refine⟨fun h=>by simp[Fr,Fence.wide]at h,RoundIn.mono hround ?_⟩
  rintro e W' ⟨b,rfl,hJ',hk1,hk2⟩
  dsimp only
  -- the state behind it
  obtain⟨ms,e1,e2,e3,e4⟩:=r1.df
  have hlim:∀ d∈ms++D0,S0<=d/\d<w1.heap.size:=by
   intro d hd
   rcases List.mem_append.1 hd with hd|hd
   ·exact⟨Nat.le_trans h2 (e3 d hd),(Array.getElem?_eq_some_iff.1 (e2 (marked d) (List.mem_map.2 ⟨d,hd,rfl⟩)).1).1⟩
   ·exact⟨(h4 d hd).1,Nat.lt_of_lt_of_le (h4 d hd).2 r1.bel.size⟩
  have hgsall:∀ p∈(ms++D0).map marked,w1.heap[p.1]?=some p.2/\p.2.isCells=false:=by
   intro p hp
   rw[List.map_append]at hp
   exact(List.mem_append.1 hp).elim (e2 p) (r1.gs p)
  have hgs':GsOk ((ms++D0).map marked) W':=by
   intro p hp
   obtain⟨q1,q2⟩:=hgsall p hp
   obtain⟨d,hd,rfl⟩:=List.mem_map.1 hp
   have hlt:d≠l:=by have:=(hlim d hd).1;have:=ok.lS;omega
   exact⟨hk2 d _ hlt q1 q2,q2⟩
  have hnd2:(ms++D0).Nodup:=by
   refine List.nodup_append.2 ⟨e4,h3,fun x hx y hy hxy=>?_⟩
   have:=e3 x hx
   have:=(h4 y hy).2
   omega
  have hmback:∀ b r,b<hc.length+1+hid.length->(ρ1.re (List.range (muH hc hid σ)++bs.take (ndH hid σ.2))) b=some r->hidR ρc (hc.length+1) (rs++rsN) b=some r:=by
   intro b r hb hr
   simp only[Ren.re]at hr
   rw[if_neg (by omega)]at hr
   by_cases hbl:b<hc.length+1
   ·rw[List.getElem?_append_left (by simp;omega),List.getElem?_range (by omega)]at hr
    have hr:ρ1 b=some r:=hr
    obtain⟨r',hr'⟩:=ok.cov b hbl
    have:=hc1 b r' (.inl (by omega)) ((hrc b hbl).trans hr')
    rw[hr]at this;cases this
    simp only[hidR];rw[if_neg (by omega),if_pos hbl];exact hr'
   ·simp only[hidR];rw[if_neg (by omega),if_neg hbl]
    by_cases hm:b<muH hc hid σ
    ·rw[List.getElem?_append_left (by simpa using hm),List.getElem?_range hm]at hr
     have hr:ρ1 b=some r:=hr
     have hlt:b-(hc.length+1)<rs.length:=by rw[hrs];unfold muH at hm;omega
     rw[List.getElem?_append_left hlt]
     have:=hc1 b rs[b-(hc.length+1)] (.inl hm) (by simp only[hidR];rw[if_neg (by omega),if_neg hbl];exact List.getElem?_eq_getElem hlt)
     rw[hr]at this;cases this
     exact List.getElem?_eq_getElem hlt
    ·rw[List.getElem?_append_right (by simpa using hm),List.length_range]at hr
     have hk:b-(hc.length+1)-rs.length=b-muH hc hid σ:=by rw[hrs];unfold muH;omega
     have hge:rs.length<=b-(hc.length+1):=by rw[hrs];unfold muH at hm;omega
     rw[List.getElem?_append_right hge,hk]
     cases hx:(bs.take (ndH hid σ.2))[b-muH hc hid σ]? with
     |none=>rw[hx]at hr;cases hr
     |some b0=>
      rw[hx]at hr
      have hr:ρ1 b0=some r:=hr
      have h7:=congrArg (fun l:List (Option Rg)=>l[b-muH hc hid σ]?) hrsN
      simp only[List.getElem?_map,hx,Option.map_some]at h7
      rw[hr]at h7
      cases hy:rsN[b-muH hc hid σ]? with
      |none=>rw[hy]at h7;cases h7
      |some y=>rw[hy]at h7;simp only[Option.map_some,Option.some.injEq]at h7;rw[h7]
  have hTR:TR (hidR ρc (hc.length+1) (rs++rsN)) tm3 a1:=by
   intro t
   rcases kg d8 t with e|e
   ·rw[e];trivial
   ·rcases ru d9 t with e0|e0
    ·rw[e0];trivial
    ·refine CO hmback _ _ e0 (VR.ren ?_ _ _ _ e (htr t))
     simp only[List.length_append,List.length_range,List.length_take]
     have:muH hc hid σ+Min.min (ndH hid σ.2) bs.length<=hc.length+1+hid.length:=by
      unfold muH ndH
      have:kpH hid σ.2<=hid.length:=by cases σ.2<;>simp[kpH]
      omega
     omega
  have hhr:=(ok.hr _ _ _ hJ').2
  rw[hrsl,List.take_length]at hhr
  have hrelN:Rel E.G W'.heap.size W' W'.heap.size N ((ms++D0).map mark) ((ms++D0).map marked) (hidR ρc (hc.length+1) (rs++rsN)) tm3 ((.gone::hc++hid).map O.ro) a1 W':=
   ⟨hTR,hhr,Below.refl _ _,r1.sz,⟨[],by rw[e1];simp,fun p hp=>by simp at hp,by simp,by simp⟩,hgs',Nat.le_refl _,Nat.le_refl _,Nat.le_refl _⟩
  obtain⟨tm4,hp4,ρ4,s1,s2,s3⟩:=hrelN.put (Ren.le_refl _) hrelN.hr hrelN.bel (KeepsOthers.refl W') (v:=.lit b) (u:=.bool b) rfl (d11 b)
  exact suffix (bif b then some (i+1)else none,true) tm4 hp4 _ W' ⟨ms++D0,W',ρ4,rs++rsN,hJ',hrsl,by have:=r1.bel.size;omega,hnd2,fun d hd=>⟨(hlim d hd).1,by have:=(hlim d hd).2;omega⟩,s1,s2.leB⟩ s3
 have skip:∀ tm2,TR ρ1 tm2 a1->DG E P m N ops.toList oy suf σ Q tm2 hp1->wpOpsIn (Fr none) n P ops (fun e a' w'=>∃ σ' tm' hp',ItH E N S0 ρc hc hid J σ' tm' hp' a' w'/\Q e σ' tm' hp') (List.range' (pre.length+1) suf.length) (a1.put oy.dst undef) w1:=by
  intro tm2 htr hs
  obtain⟨tm3,hp3,ρ3,s1,s2,s3⟩:=(r1.withTm htr).put (u:=undef) (Ren.le_refl ρ1) r1.hr r1.bel (KeepsOthers.refl w1) (v:=.junk) trivial hs
  exact suffix σ tm3 hp3 _ w1 ⟨D0,Wy,ρ3,rs,h1,hrs,h2,h3,h4,s1,Ren.leB_trans hc1 s2.leB⟩ s3
 unfold YOpH at r3
 split at r3
 ·rename_i hg
  rw[if_pos (by simp[Region.wanted,hg])]
  exact doit tm1 r1.tr r3
 ·rename_i j want hg
  split at r3
  ·exact r3.elim
  ·rename_i d hd'
   have hgv:=me (E:=E) (o:=oy) hg hd' (r1.tr d)
   split at r3
   ·rename_i hb;rw[hb]at hgv;rw[hgv];exact doit tm1 r1.tr r3
   ·rename_i hb;rw[hb]at hgv;rw[hgv];exact⟨bz none oy w1 _,skip tm1 r1.tr r3⟩
   ·rename_i g hb
    rw[hb]at hgv
    dsimp only at hgv
    rw[hgv]
    cases g with
    |true=>
     obtain⟨tm',hun,hs⟩:=dm _ _ (r3.1 rfl)
     exact doit _ ((hun rfl ρ1 a1 r1.tr).lit (gX hg hd' hgv)) hs
    |false=>
     refine⟨bz none oy w1 _,skip _ ?_ (r3.2 rfl)⟩
     unfold gno
     split
     ·rename_i b0 hl
      have h0:=r1.tr d
      rw[hl]at h0
      have h0:a1.tmps.getD d undef=.bool b0:=h0
      have hw:=jC hg hd' h0
      rw[hgv]at hw
      have e:b0=!want:=by cases b0<;>cases want<;>first|rfl|cases hw
      refine r1.tr.lit ?_
      rw[h0,e]
      exact rfl
     ·exact r1.tr
   ·exact r3.elim
theorem YH.yregAt(ok:Hq E P n l S0 ρc hc hid L J)(m k:Nat){id:Nat}{ops:Array Oper}{oy:Oper}{cl:Call}{f:Operand}(hoy:ops.toList[k]?=some oy)(hop:oy.op=.call cl)(hcal:cl.callee=.value f)
  (h:sat E.G P (fun _ tm' hp'=>YOpH E P m N hc hid L ops.toList oy cl f (ops.toList.drop (k+1)) σ Q tm' hp') (cZ E (hdl E m) N ops.toList (ops.toList.take k) tm hp (.ret .normal) noX)):YH E P n N S0 ρc hc hid J (.region id ops false) σ tm hp Q:=by
 refine YH.yreg ok m (ops.toList.take k) oy (ops.toList.drop (k+1)) ?_ hop hcal h
 obtain⟨hlt,he⟩:=List.getElem?_eq_some_iff.1 hoy
 rw[<-he,<-List.drop_eq_getElem_cons hlt,List.take_append_drop]
theorem ox(hE:E.Fn P){f:FuncId}{fn:Func}{c:Code}{capv:List V}(hf:P.funcs[f]?=some fn)(hb:fn.body=some c)(hres:fn.results=#[])(hlen:Nat.ble (capv.length+1) fn.ntmps=true)(hsm:Nat.blt (hc.length+1+hid.length) ax=true)
  (hcv:(okZL (hc.length+1) capv&&covB ((.gone::hc).map O.ro) capv (List.range' 1 hc.length))=true)
  (h:∀ (n l S0:Nat) (ρc:Ren) (J:Option Nat->List Rg->World->Prop),Hq E P n l S0 ρc hc hid L J->YH E P n fn.ntmps S0 ρc hc hid J c (some 0,false) (cT 0 (.yl 0::capv)) ((.gone::hc).map O.ro) fun e σ _ _=>(e=.normal\/e=.ret)/\(σ.1=some L.length\/σ.1=none)):SqH E.G P f hc capv hid L:=by
 intro n l caps ρc J W hv hyl hl hst hJ hy h0
 have hsm:=aM hsm
 have hlen:=Nat.le_of_ble_eq_true hlen
 have hcl:caps.length=capv.length:=hv.length
 rw[Bool.and_eq_true]at hcv
 have hag:∀ b r,b<hc.length+1->ρc b=some r->hidR ρc (hc.length+1) [] b=some r:=fun b r hb hr=>by
  simp only[hidR];rw[if_neg (by omega),if_pos hb];exact hr
 have hv2:VRL (hidR ρc (hc.length+1) []) capv caps:=kC hag capv caps hcv.1 hv
 have hh:=(hJ _ _ _ h0).2
 simp only[List.length_nil,List.take_zero,List.append_nil]at hh
 have hcov:∀ i,i<hc.length+1->∃ r,ρc i=some r:=by
  intro i hi
  rcases Nat.eq_zero_or_pos i with rfl|hpos
  ·exact⟨_,hyl⟩
  ·obtain⟨r,hr⟩:=xS hcv.2 hh (fun b hb=>by have:=List.mem_range'_1.1 hb;omega) (fun v hv=>by
    obtain⟨j,hj,e⟩:=List.mem_iff_getElem.1 hv
    obtain⟨u,_,h2⟩:=hv2.get j v (by rw[List.getElem?_eq_getElem hj,e])
    exact⟨u,h2⟩) i (List.mem_range'_1.2 ⟨hpos,by omega⟩)
   refine⟨r,?_⟩
   simp only[hidR]at hr
   rw[if_neg (by omega),if_pos hi]at hr
   exact hr
 have ok:Hq E P n l W.heap.size ρc hc hid L J:=⟨hE,hst,hJ,hyl,hcov,hsm,hl,hy⟩
 have hyg:=h n l W.heap.size ρc J ok
 refine callsIn_of_wp_marks hf hb trivial ?_
 have hus:VRL (hidR ρc (hc.length+1) []) (.yl 0::capv) (.func (.yield l) #[] #[]::caps):=⟨_,_,rfl,⟨_,hag 0 _ (by omega) hyl,rfl⟩,hv2⟩
 have harr:(#[Value.func (.yield l) #[] #[]]++caps.toArray)=(Value.func (.yield l) #[] #[]::caps).toArray:=by simp
 rw[harr]
 have hit:ItH E fn.ntmps W.heap.size ρc hc hid J (some 0,false) (cT 0 (.yl 0::capv)) ((.gone::hc).map O.ro)
   { tmps:=(Value.func (.yield l) #[] #[]::caps).toArray++Array.replicate (fn.ntmps-(Value.func (.yield l) #[] #[]::caps).toArray.size) undef,defers:=[] } W:=by
  refine⟨[],W,hidR ρc (hc.length+1) [],[],h0,rfl,Nat.le_refl _,List.nodup_nil,by simp,⟨?_,hh,Below.refl _ W,?_,⟨[],rfl,fun p hp=>by simp at hp,by simp,by simp⟩,fun p hp=>by simp at hp,Nat.le_refl _,Nat.le_refl _,Nat.le_refl _⟩,Ren.leB_refl _ _⟩
  ·simpa using TR.init _ _ _ fn.ntmps hus
  ·simp[hcl];omega
 refine wpIn_mono (hyg _ _ hit) ?_
 rintro e a' w' ⟨σ,tm,hp,⟨D0,Wy,ρ,rs,g1,grs,g2,g3,g4,g5,g6⟩,he,hσ⟩
 have hpost:LeavesInM (Fr none) n P fn a'.tmps (fun e W'=>(∃ v,e=.returned v)/\∃ rs,J (some L.length) rs W'\/J none rs W') a'.defers .returning w':=by
  obtain⟨ms,hd1,hd2,hd3,hd4⟩:=g5.df
  rw[hd1,<-List.map_append]
  have hall:∀ d∈ms++D0,w'.heap[d]?=some (.deferred (some []))/\W.heap.size<=d:=by
   intro d hd
   rcases List.mem_append.1 hd with hd|hd
   ·exact⟨(hd2 (marked d) (List.mem_map.2 ⟨d,hd,rfl⟩)).1,Nat.le_trans g2 (hd3 d hd)⟩
   ·exact⟨(g5.gs (marked d) (List.mem_map.2 ⟨d,hd,rfl⟩)).1,(g4 d hd).1⟩
  refine dK (S:=W.heap.size) (ms++D0) w' (fun p hp=>?_) (List.nodup_append.2 ⟨hd4,g3,fun x hx y hy hxy=>?_⟩) (fun d hd=>(hall d hd).2) ?_
  ·obtain⟨d,hd,rfl⟩:=List.mem_map.1 hp
   exact⟨(hall d hd).1,rfl⟩
  ·have:=hd3 x hx
   have:=(g4 y hy).2
   omega
  intro w2 h1 h2 h3 h4 h5 h6
  have hkeep:∀ (k:Nat) (o:Obj),w'.heap[k]?=some o->(k<W.heap.size\/o.isCells=true)->w2.heap[k]?=some o:=by
   intro k o hk hor
   rw[h5 k fun d hd e=>?_]
   ·exact hk
   ·obtain⟨q1,q2⟩:=hall d hd
    subst e
    rw[q1]at hk
    cases hk
    rcases hor with hor|hor
    ·omega
    ·cases hor
  have hJ2:J σ.1 rs w2:=by
   refine ok.stab σ.1 rs Wy w2 g1 ⟨by rw[h2];exact g5.bel.os,by rw[h3];exact g5.bel.tape,by rw[h4];exact g5.bel.output,by have:=g5.bel.size;omega,fun k o hk hor=>?_⟩
   exact hkeep k o ((g5.bel.block k (Array.getElem?_eq_some_iff.1 hk).1).trans hk) hor
  have hhr:=g5.hr.cellsSame (w':=w2) (fun k ob hk hob=>hkeep k ob hk (.inr hob)) (by omega)
  obtain⟨u,hrun,_⟩:=hO (l:=[]) hE.ok g5.tr hhr (fn:=fn) (by rw[hres];rfl)
  refine⟨u,hrun,⟨u,rfl⟩,rs,?_⟩
  rcases hσ with hσ|hσ
  ·rw[hσ]at hJ2;exact .inl hJ2
  ·rw[hσ]at hJ2;exact .inr hJ2
 rcases he with rfl|rfl<;>exact hpost
end
end Go.Ab
namespace Go.Ab
open Go.RowKit
variable{E:Env}{P:Program}{N:Nat}{tm:Tm}{hp:List O}{G:List O}
def IT{β σ ξ α:Type}(step:β->σ->Option (σ ⊕ (ξ ⊕ α)))(F:σ->Option α)(Fx:ξ->Option α):List β->σ->Option α
 |[],s=>F s
 |x::l,s=>match step x s with
  |none=>none
  |some (.inl s')=>IT step F Fx l s'
  |some (.inr (.inl y))=>Fx y
  |some (.inr (.inr r))=>some r
@[simp] theorem rangeO_nil {β σ ξ α:Type} {step:β->σ->Option (σ ⊕ (ξ ⊕ α))} {F:σ->Option α} {Fx:ξ->Option α} {s:σ}:IT step F Fx [] s=F s:=rfl
section
variable{α β σ ξ:Type}{R:α->Exit->Tm->List O->Prop}
variable{μ':Nat}{st:σ->List O}{sx:ξ->List O}{ex:Nat}{tk:Tm}{C:List O->Prop}{k:Exit->Tm->List O->T}
end
end Go.Ab
namespace Go.Ab
open Go.RowKit
variable{E:Env}{P:Program}{N:Nat}{tm:Tm}{hp:List O}{G:List O}
section
variable{α σ:Type}{R:α->Exit->Tm->List O->Prop}
def Hx(E:Env)(P:Program)(R:α->Exit->Tm->List O->Prop)(n μ N:Nat)(body:Code)(k:Exit->Tm->List O->T)(m:Nat)(K:Option α)(tm:Tm)(hp:List O):Prop:=
 ∀ r,K=some r->rnds E P n μ N body (fun e tm hp=>sat E.G P (R r) (k e tm hp)) m tm hp
theorem EK(hE:E.Fn P)(n m:Nat){μ:Nat}{body:Code}{k:Exit->Tm->List O->T}{K:Option α}(h:Hx E P R n μ N body k m K tm hp):satO E P R K (.loop (.loop body) μ N tm hp k):=fun r hr=>bW hE n m (h r hr)
def UR(E:Env)(P:Program)(R:α->Exit->Tm->List O->Prop)(μ:Nat)(st:σ->Tm×List O)(k:Exit->Tm->List O->T):σ ⊕ α->Exit->Tm->List O->Prop
 |.inl s,e,tm,hp=>e=.normal/\Ent E.G μ tm hp (st s).1 (st s).2
 |.inr r,e,tm,hp=>e≠.normal/\sat E.G P (R r) (k e tm hp)
theorem rm{μ:Nat}{st:σ->Tm×List O}{k:Exit->Tm->List O->T}{s:σ}(h:Ent E.G μ tm hp (st s).1 (st s).2):satO E P (UR E P R μ st k) (some (.inl s)) (.ret .normal tm hp):=aN ⟨rfl,h⟩
theorem Ke{μ:Nat}{st:σ->Tm×List O}{k:Exit->Tm->List O->T}{e:Exit}{K:Option α}(he:e≠.normal)(h:satO E P R K (k e tm hp)):satO E P (UR E P R μ st k) (escO K) (.ret e tm hp):=fun r hr=>by
 cases K with
 |none=>cases hr
 |some r'=>cases hr;exact⟨he,h r' rfl⟩
theorem ud{n m μ:Nat}{body:Code}{k:Exit->Tm->List O->T}(st:σ->Tm×List O){K:Option (σ ⊕ α)}{F:σ->Option α}(h1:satO E P (UR E P R μ st k) K (evC E (hdl E n) μ N body tm hp .ret))
  (h2:∀ s,Hx E P R n μ N body k m (F s) (st s).1 (st s).2):Hx E P R n μ N body k (m+1) (bp K F) tm hp:=fun r hr=>by
 cases K with
 |none=>cases hr
 |some o=>
  refine rnd (fb ?_ (h1 o rfl))
  intro e tm' hp' hq
  cases o with
  |inl s=>obtain⟨rfl,hq⟩:=hq;exact⟨_,_,hq,h2 s r hr⟩
  |inr r'=>
   obtain⟨he,hq⟩:=hq
   cases hr
   cases e with
   |normal=>exact absurd rfl he
   |_=>exact hq
theorem KY{n m μ:Nat}{body:Code}{k:Exit->Tm->List O->T}{s:σ->Tm×List O}:∀ u,Hx E P R n μ N body k m (none:Option α) (s u).1 (s u).2:=fun _ _ h=>by cases h
end
end Go.Ab
namespace Go.Ab
open Go.RowKit
section
variable{E:Env}{G:List O}{P:Program}{B C:Nat}{w0:World}{S:Nat}{N:Nat}{D:List Deferred}{gs:List (Nat×Obj)}{ρ ρ':Ren}{tm:Tm}{hp:List O}{a:Act}{w:World}
def upN(d:Nat)(bs:List Nat)(b:Nat):Nat:=match Nat.blt b 50 with
 |true=>b+d
 |false=>bs.getD (b-50) 0
mutual
def upV(d:Nat)(bs:List Nat):V->V
 |.ptr b k j=>.ptr (upN d bs b) k j
 |.sl b k n c=>.sl (upN d bs b) k n c
 |.yl b=>.yl (upN d bs b)
 |.fn f l=>.fn f (upL d bs l)
 |.agg l=>.agg (upL d bs l)
 |.tup l=>.tup (upL d bs l)
 |.when g v=>.when g (upV d bs v)
 |.lit b=>.lit b
 |.bool b=>.bool b
 |.int k n=>.int k n
 |.str s=>.str s
 |.nilp=>.nilp
 |.nils=>.nils
 |.nilf=>.nilf
 |.nili=>.nili
 |.junk=>.junk
def upL(d:Nat)(bs:List Nat):List V->List V
 |[]=>[]
 |v::l=>upV d bs v::upL d bs l
end
mutual
theorem ID{ρ ρ':Ren}{d:Nat}{bs:List Nat}(hm:∀ b r,ρ b=some r->ρ' (upN d bs b)=some r):∀ (v:V) (u:Value),VR ρ v u->VR ρ' (upV d bs v) u
 |.lit _,_,e=>e
 |.bool _,_,e=>e
 |.int _ _,_,e=>e
 |.str _,_,e=>e
 |.nilp,_,e=>e
 |.nils,_,e=>e
 |.nilf,_,e=>e
 |.nili,_,e=>e
 |.ptr _ _ _,_,⟨r,e,x⟩=>⟨r,hm _ _ e,x⟩
 |.sl _ _ _ _,_,⟨r,e,x⟩=>⟨r,hm _ _ e,x⟩
 |.yl _,_,⟨r,e,x⟩=>⟨r,hm _ _ e,x⟩
 |.fn _ l,_,⟨us,e,x⟩=>⟨us,e,sn hm l us x⟩
 |.agg l,_,⟨us,e,x⟩=>⟨us,e,sn hm l us x⟩
 |.tup l,_,⟨us,e,x⟩=>⟨us,e,sn hm l us x⟩
 |.when _ v,u,e=>⟨fun g=>ID hm v u (e.1 g),e.2⟩
 |.junk,_,_=>trivial
theorem sn{ρ ρ':Ren}{d:Nat}{bs:List Nat}(hm:∀ b r,ρ b=some r->ρ' (upN d bs b)=some r):∀ (l:List V) (us:List Value),VRL ρ l us->VRL ρ' (upL d bs l) us
 |[],_,e=>e
 |v::l,_,⟨u,r,e,x,y⟩=>⟨u,r,e,ID hm v u x,sn hm l r y⟩
end
theorem CL{d:Nat}{bs:List Nat}:∀ l:List V,(upL d bs l).length=l.length
 |[]=>rfl
 |v::l=>by simp[upL,CL l]
def fY(hp:List O)(sb:Nat):List O->List O
 |[]=>hp
 |o::_=>hp.set sb o
theorem ez(hp:List O)(sb:Nat)(l:List O):(fY hp sb l).length=hp.length:=by
 cases l<;>simp[fY]
def lbH(hp:List O)(bs:List Nat)(sb m:Nat):List Nat:=hp.length::(bs++List.range' sb m)
structure oH(hp:List O)(bs:List Nat)(sb:Nat)(hid hc:List O):Prop where
 small:Nat.blt (hp.length+100) ax=true
 slot:hid≠[]->sb<hp.length/\hp.getD sb .gone=.gone
 cap:∀ m,m=0\/m=hid.length->∃ hX,jo (lbH hp bs sb m) (fY hp sb (hid.take m)++[.gone]) (lbH hp bs sb m)=some hX/\hX.map O.ro=(.gone::hc++hid.take m).map O.ro/\hX.all (okZO hX.length)=true /\
  (rH (lbH hp bs sb m)&&(lbH hp bs sb m).all fun b=>Nat.blt b (hp.length+1))=true
def rJ(ρ:Ren)(bs:List Nat)(l:Nat):Ren:=fun i=>if ax<=i then ρ i else match i with
 |0=>some (yrg l)
 |i+1=>(bs[i]?).bind ρ
theorem FE{μ sb l:Nat}{hid hc:List O}{rs:List Rg}{bs:List Nat}(hh:HR G B ρ' (fY hp sb (hid.take rs.length)) w)(hl:ρ.leB μ ρ')(hglob:∀ g o,G[g]?=some o->∃ r,ρ (ax+g)=some r)(hcap:oH hp bs sb hid hc)(hm:rs=[]\/rs.length=hid.length)(hlen:bs.length=hc.length)
  (hμ:∀ b∈bs,b<μ) (hcov:∀ b∈bs,∃ r,ρ b=some r) (hreg:∀ j r,rs[j]?=some r->ρ' (sb+j)=some r):HR G C (hidR (rJ ρ bs l) (hc.length+1) rs) ((.gone::hc++hid.take rs.length).map O.ro) w:=by
 obtain⟨hX,h1,h2,h3,h4⟩:=hcap.cap rs.length (hm.imp (fun e=>by rw[e];rfl) id)
 have hsm:=aM hcap.small
 rw[Bool.and_eq_true]at h4
 have hnd:=eZ h4.1
 have hlt:∀ b∈lbH hp bs sb rs.length,b<hp.length+1:=fun b hb=>aM (List.all_eq_true.1 h4.2 b hb)
 have hll:=gG hnd hlt
 have hll2:(lbH hp bs sb rs.length).length=1+hc.length+rs.length:=by simp[lbH,hlen];omega
 have hp1:=hh.pad [.gone] (by rw[ez];simp;omega)
 have hr:=hp1.ren hnd (fun b hb=>by rw[List.length_append,ez];exact hlt b hb) (by omega) h1
 have hXl:hX.length=1+hc.length+rs.length:=by rw[(mU h1).1,hll2]
 have hre:∀ i,i<ax->(ρ'.re (lbH hp bs sb rs.length)) i=((lbH hp bs sb rs.length)[i]?).bind ρ':=fun i hi=>by
  simp only[Ren.re];rw[if_neg (by omega)]
 have hy:ρ' hp.length=none:=hh.free _ (by rw[ez];exact Nat.le_refl _) (by omega)
 have hget:∀ i,(lbH hp bs sb rs.length)[i+1]?=if i<hc.length then bs[i]? else if i<hc.length+rs.length then some (sb+(i-hc.length))else none:=by
  intro i
  simp only[lbH,List.getElem?_cons_succ]
  by_cases h7:i<hc.length
  ·rw[if_pos h7,List.getElem?_append_left (by omega)]
  ·rw[if_neg h7,List.getElem?_append_right (by omega),hlen]
   by_cases h8:i<hc.length+rs.length
   ·rw[if_pos h8,List.getElem?_range' (by omega)];simp
   ·rw[if_neg h8,List.getElem?_eq_none (by simp;omega)]
 have:=hr.still (C:=C) (ρ2:=hidR (rJ ρ bs l) (hc.length+1) rs) h3 (fun i r hi hr'=>?_) (fun i r hi hr'=>?_) (fun i r hi hr'=>?_) (fun g o hg=>?_)
 ·rw[h2]at this;exact this
 ·rw[hre i (by omega)]at hr'
  cases i with
  |zero=>
   have hr':ρ' hp.length=some r:=hr'
   rw[hy]at hr';cases hr'
  |succ i=>
   rw[hget]at hr'
   simp only[hidR,rJ]
   rw[if_neg (by omega)]
   by_cases h7:i<hc.length
   ·rw[if_pos h7]at hr'
    rw[if_pos (by omega),if_neg (by omega)]
    cases hx:bs[i]? with
    |none=>rw[hx]at hr';cases hr'
    |some b=>
     rw[hx]at hr'
     have hr':ρ' b=some r:=hr'
     obtain⟨r0,h8⟩:=hcov b (List.mem_of_getElem? hx)
     have:=hl b r0 (.inl (hμ b (List.mem_of_getElem? hx))) h8
     rw[hr']at this;cases this
     exact h8
   ·rw[if_neg h7]at hr'
    rw[if_neg (by omega)]
    by_cases h8:i<hc.length+rs.length
    ·rw[if_pos h8]at hr'
     have hr':ρ' (sb+(i-hc.length))=some r:=hr'
     have hlt2:i-hc.length<rs.length:=by omega
     have:=hreg (i-hc.length) rs[i-hc.length] (List.getElem?_eq_getElem hlt2)
     rw[hr']at this;cases this
     rw[show i+1-(hc.length+1)=i-hc.length by omega]
     exact List.getElem?_eq_getElem hlt2
    ·rw[if_neg h8]at hr';cases hr'
 ·simp only[hidR,rJ]at hr'
  rw[if_neg (by omega)]at hr'
  cases i with
  |zero=>
   refine⟨by omega,.inr ?_⟩
   have h7:=congrArg (fun l:List O=>l[0]?) h2
   simp only[List.getElem?_map,List.cons_append,List.map_cons,List.getElem?_cons_zero]at h7
   cases hx:hX[0]? with
   |none=>rw[hx]at h7;cases h7
   |some o=>
    rw[hx]at h7
    simp only[Option.map_some,Option.some.injEq]at h7
    simp only[List.getD_eq_getElem?_getD,hx,Option.getD_some]
    exact(O.ro_facts o).1.1 h7
  |succ i=>
   by_cases h7:i<hc.length
   ·rw[if_pos (by omega),if_neg (by omega)]at hr'
    refine⟨by omega,.inl ?_⟩
    rw[hre _ hi,hget,if_pos h7]
    cases hx:bs[i]? with
    |none=>have hr':(bs[i]?).bind ρ=some r:=hr';rw[hx]at hr';cases hr'
    |some b=>
     have hr':(bs[i]?).bind ρ=some r:=hr'
     rw[hx]at hr'
     exact hl b r (.inl (hμ b (List.mem_of_getElem? hx))) hr'
   ·rw[if_neg (by omega),show i+1-(hc.length+1)=i-hc.length by omega]at hr'
    have h8:=(List.getElem?_eq_some_iff.1 hr').1
    refine⟨by omega,.inl ?_⟩
    rw[hre _ hi,hget,if_neg h7,if_pos (by omega)]
    exact hreg _ _ hr'
 ·simp only[hidR,rJ]at hr'
  rw[if_pos hi,if_pos hi]at hr'
  simp only[Ren.re]
  rw[if_pos hi]
  exact hl _ _ (.inr hi) hr'
 ·obtain⟨r,h7⟩:=hglob g o hg
  exact⟨r,by simp only[hidR,rJ];rw[if_pos (by omega),if_pos (by omega)];exact h7⟩
theorem TR.del{sb:Nat}(h:TR ρ tm a)(hn:(tm.all fun p=>notZ sb p.2)=true):TR (ρ.del sb) tm a:=fun t=>by
 rcases ru hn t with e|e
 ·rw[e];trivial
 ·exact qp _ _ e (h t)
theorem Good.rangeH{μ μ':Nat}{tmL:Tm}(hμ:Nat.ble μ μ'=true){g:Operand}{ps:Array Tmp}{asg body:Code}{f:FuncId}{caps capv:List V}{hc hid:List O}{L:List (List V×List O)}{R:Exit->Tm->List O->Prop}
  (hg:evA E tm g=.fn f caps) (hsub:∃ ts,tmL=dJ tm ts) (htl:limL μ' (tmL.map (·.2))=true) (hent:fq P f) (hsq:SqH E.G P f hc capv hid L) (hpl:(bG asg&&bG body)=true) (hps:ps.toList.all (fun p=>Nat.blt p N)=true)
  (hL:∀ x∈L,x.1.length=ps.size/\x.2.length<=50) (sb:Nat) (hh1:Nat.ble hid.length 1=true)
  (hsb:hid≠[]->(Nat.ble μ sb&&Nat.blt sb μ'&&(tmL.all (fun p=>notZ sb p.2))&&kJ sb caps&&hp.all (Dz sb))=true) (hhd:hid.all O.data=true)
  (I:Nat->List O->Prop) (X:Exit->List O->Prop) (h0:I 0 hp) {bs:List Nat} (hbs:(bs.all fun b=>Nat.blt b μ')=true) (hbl:bs.length=hc.length) (hcv:renL (hp.length::bs) caps=some capv) (okcv:okZL (hc.length+1) capv=true) (hcov:covB hp caps bs=true)
  (hcap:∀ i hp',I i hp'->oH hp' bs sb hid hc) (hcapx:∀ e hp',X e hp'->oH hp' bs sb hid hc)
  (hround:∀ i vs ns hp',L[i]?=some (vs,ns)->I i hp'->∃ Ra:Tm->List O->Prop,Good E.G P μ' N asg (Ab.putPs ps.toList (upL (hp'.length+hid.length) bs vs) tmL) (fY hp' sb hid++hid.map (fun _=>.gone)++ns) (fun e tm1 hp1=>e=.normal/\Ra tm1 hp1) /\
   ∀ tm1 hp1,Ra tm1 hp1->Good E.G P μ' N body tm1 hp1 fun e _ hp2=>∃ hp3,Ent E.G μ' [] hp2 [] (fY hp3 sb hid)/\match e with
    |.normal=>I (i+1) hp3
    |.ret=>X .ret hp3
    |.exit id=>X (.exit id) hp3
    |_=>False)
  (hend:∀ hp',I L.length hp'->R .normal tmL hp') (hx:∀ e hp',X e hp'->R e tmL hp'):Good E.G P μ N (.rangeFunc g ps asg body) tm hp R:=by
 intro B w0 S D gs ρ a w n ro hro h
 obtain rfl:ro=none:=by rcases hro with h|h;exact h;simp[bG]at h
 rw[Bool.and_eq_true]at hpl
 have hμ:=Nat.le_of_ble_eq_true hμ
 have hh1:=Nat.le_of_ble_eq_true hh1
 have hbsm:∀ b∈bs,b<μ':=fun b hb=>aM (List.all_eq_true.1 hbs b hb)
 have htrL:TR ρ tmL a:=by obtain⟨ts,rfl⟩:=hsub;exact h.tr.keep ts
 obtain⟨ms,hd1,hd2,hd3,hd4⟩:=h.df
 have hBw:B<=w.heap.size:=Nat.le_trans h.bs h.bel.size
 have hev:=dz (E:=E) (w:=w) h.tr h.hr.hv g
 rw[hg]at hev
 obtain⟨cus,hga,hcvR⟩:=hev
 rw[nI hent.choose_spec.2.2.2]at hga
 -- the place of what is kept,made free
 obtain⟨ρ0,hr0,htr0,hle0,hfree0,hcv0⟩:∃ ρ0:Ren,HR E.G B ρ0 hp w/\TR ρ0 tmL a/\ρ.leB μ ρ0/\(hid≠[]->ρ0 sb=none)/\VRL ρ0 caps cus:=by
  by_cases e:hid=[]
  ·exact⟨ρ,h.hr,htrL,Ren.leB_refl μ ρ,fun h=>absurd e h,hcvR⟩
  ·have hb:=hsb e
   simp only[Bool.and_eq_true]at hb
   obtain⟨⟨⟨⟨q1,q2⟩,q3⟩,q4⟩,q5⟩:=hb
   have q1:=Nat.le_of_ble_eq_true q1
   have q6:=(hcap 0 hp h0).slot e
   have q7:=h.hr.small
   refine⟨ρ.del sb,h.hr.clear (by omega) q5,htrL.del q3,fun b r hb hr=>?_,fun _=>Ren.del_same ρ sb,jm _ _ q4 hcvR⟩
   rw[Ren.del_other ρ (by rcases hb with hb|hb<;>omega)]
   exact hr
 have hglob0:∀ g o,E.G[g]?=some o->∃ r,ρ0 (ax+g)=some r:=fun g o hg=>let ⟨r,h1,_⟩:=hr0.glob g o hg;⟨r,h1⟩
 have hsm0:=aM (hcap 0 hp h0).small
 have hblt:∀ b∈bs,b<hp.length+1:=by
  obtain⟨_,_,_,_,q4⟩:=(hcap 0 hp h0).cap 0 (.inl rfl)
  rw[Bool.and_eq_true]at q4
  exact fun b hb=>aM (List.all_eq_true.1 q4.2 b (by simp[lbH,hb]))
 have hcov0:∀ b∈bs,∃ r,ρ0 b=some r:=xS hcov hr0 (fun b hb=>by have:=hblt b hb;omega) (fun v hv=>by
  obtain⟨j,hj,e⟩:=List.mem_iff_getElem.1 hv
  obtain⟨u,_,h2⟩:=hcv0.get j v (by rw[List.getElem?_eq_getElem hj,e])
  exact⟨u,h2⟩)
 refine wpIn_rangeFunc ?_
 intro fn _
 obtain⟨rec,hrec⟩:∃ rec:LoopState->Option Code->Loop,rec=fun st pe=>{ state:=st,pending:=pe,fn,tmps:=a.tmps,params:=ps,assign:=asg,body,defers:=w.heap.size }:=⟨_,rfl⟩
 obtain⟨W1,hW1⟩:∃ W1,(w.alloc (.deferred (some []))).alloc (.loop (rec .ready none))=W1:=⟨_,rfl⟩
 have hL1:W1.heap[w.heap.size+1]?=some (.loop (rec .ready none)):=by
  rw[<-hW1];have:=World.alloc_heap_new (w.alloc (.deferred (some []))) (.loop (rec .ready none));rwa [World.size_alloc]at this
 have hK1:W1.heap[w.heap.size]?=some (.deferred (some [])):=by
  rw[<-hW1];exact(Below.heap_alloc _ _ _ (by simp)).trans (World.alloc_heap_new w _)
 have hb1:Below w.heap.size w W1:=by
  rw[<-hW1];exact((Below.refl _ w).alloc (Nat.le_refl _) _).alloc (by simp) _
 -- what lies beside the heap
 obtain⟨Kp,hKp⟩:∃ Kp:Loop->World->Prop,Kp=fun r W=>Below B w0 W/\GsOk (gs++ms.map marked) W/\w.heap.size+2<=W.heap.size/\W.heap[w.heap.size+1]?=some (.loop r)/\W.heap[w.heap.size]?=some (.deferred (some [])):=⟨_,rfl⟩
 have hgs0:GsOk (gs++ms.map marked) w:=fun p hp=>(List.mem_append.1 hp).elim (h.gs p) (hd2 p)
 have hgslt:∀ p∈gs++ms.map marked,p.1<w.heap.size:=fun p hp=>(Array.getElem?_eq_some_iff.1 (hgs0 p hp).1).1
 have hKp1:Kp (rec .ready none) W1:=by
  rw[hKp]
  refine⟨h.bel.trans (hb1.mono hBw),hgs0.below hb1,?_,hL1,hK1⟩
  rw[<-hW1];simp
 have hKpB:∀ {r:Loop} {W W':World},Kp r W->Below W.heap.size W W'->Kp r W':=by
  intro r W W' hk hb
  rw[hKp]at hk ⊢
  obtain⟨k1,k2,k3,k4,k5⟩:=hk
  exact⟨k1.trans (hb.mono (by omega)),k2.below hb,by have:=hb.size;omega,(hb.block _ (by omega)).trans k4,(hb.block _ (by omega)).trans k5⟩
 have hW1s:W1.heap.size=w.heap.size+2:=by rw[<-hW1];simp
 have hKpL2:∀ {r:Loop} {W W':World},Kp r W->vF W1.heap.size W W'->Kp r W':=by
  intro r W W' hk hb
  rw[hKp]at hk ⊢
  obtain⟨k1,k2,k3,k4,k5⟩:=hk
  refine⟨k1.trans ⟨hb.os,hb.tape,hb.output,hb.size,fun k hk=>?_⟩,fun p hp=>⟨hb.keep _ _ (k2 p hp).1 (.inl ?_),(k2 p hp).2⟩,by have:=hb.size;omega,hb.keep _ _ k4 (.inl (by omega)),hb.keep _ _ k5 (.inl (by omega))⟩
  ·have hlt:k<W.heap.size:=by omega
   rw[Array.getElem?_eq_getElem hlt]
   exact hb.keep _ _ (Array.getElem?_eq_getElem hlt) (.inl (by omega))
  ·have:=hgslt p hp;omega
 have hKpP:∀ {r r':Loop} {W:World},Kp r W->Kp r' (W.putObj (w.heap.size+1) (.loop r')):=by
  intro r r' W hk
  rw[hKp]at hk ⊢
  obtain⟨k1,k2,k3,k4,k5⟩:=hk
  exact⟨kX k1 (by omega),k2.putObj (fun p hp=>by have:=hgslt p hp;omega),by simpa using k3,World.putObj_heap_same (by omega),(World.putObj_heap_other (by omega)).trans k5⟩
 have hKpL:∀ {r:Loop} {W:World},Kp r W->W.heap[w.heap.size+1]?=some (.loop r):=fun hk=>by rw[hKp]at hk;exact hk.2.2.2.1
 -- the state in a round
 have hKpR:∀ {r:Loop} {W:World},Kp r W->GsOk ((w.heap.size+1,.loop r)::(w.heap.size,.deferred (some []))::(gs++ms.map marked)) W/\Below B w0 W/\w.heap.size+2<=W.heap.size:=fun hk=>by
  rw[hKp]at hk
  obtain⟨k1,k2,k3,k4,k5⟩:=hk
  refine⟨fun p hp=>?_,k1,k3⟩
  rcases List.mem_cons.1 hp with rfl|hp
  ·exact⟨k4,rfl⟩
  ·rcases List.mem_cons.1 hp with rfl|hp
   ·exact⟨k5,rfl⟩
   ·exact k2 p hp
 have hKpO:∀ {r:Loop} {W:World} {l':List (Nat×Obj)},GsOk ((w.heap.size+1,.loop r)::(w.heap.size,.deferred (some []))::(gs++ms.map marked)++l') W->Below B w0 W->Kp r W:=fun {r W l'} k1 k2=>by
  rw[hKp]
  have hl:=(k1 (w.heap.size+1,.loop r) (by simp)).1
  have hd:=(k1 (w.heap.size,.deferred (some [])) (by simp)).1
  have:=(Array.getElem?_eq_some_iff.1 hl).1
  exact⟨k2,fun p hp=>k1 p (List.mem_append.2 (.inl (List.mem_cons_of_mem _ (List.mem_cons_of_mem _ hp)))),by omega,hl,hd⟩
 have fin:∀ (jump:Option Code) (W4:World),Kp { rec .ready none with state:=.busy } W4 ->
   (Instr.endRound (w.heap.size+1) jump).run P W4=.ok (.bool jump.isNone) (W4.putObj (w.heap.size+1) (.loop (rec (if jump.isNone then .ready else .done) jump))):=by
  intro jump W4 hk
  have:=run_endRound (P:=P) jump (hKpL hk)
  rw[hrec]at this ⊢
  exact this
 have finRel:∀ {r r':Loop} {W:World} {ρ':Ren} {hp':List O},Kp r W->HR E.G B ρ' hp' W->ρ0.leB μ' ρ' ->
   Rel E.G B w0 S N D gs ρ' tmL hp' { tmps:=a.tmps,defers:=[mark w.heap.size]++a.defers } (W.putObj (w.heap.size+1) (.loop r')):=by
  intro r r' W ρ' hp' hk hr hl
  have hk':=hKpP (r':=r') hk
  obtain⟨g1,g2,g3⟩:=hKpR hk'
  refine⟨htr0.leB hl htl,hr.putObj (hKpL hk) rfl,g2,h.sz,⟨w.heap.size::ms,by simp[hd1],fun p hp=>?_,fun d hd=>?_,?_⟩,fun p hp=>g1 p (by simp[hp]),h.bs,h.ss,by have:=h.sw;omega⟩
  ·rcases List.mem_cons.1 hp with rfl|hp
   ·exact g1 _ (by simp[marked])
   ·exact g1 p (by simp only[List.mem_cons,List.mem_append];exact .inr (.inr (.inr hp)))
  ·rcases List.mem_cons.1 hd with rfl|hd
   ·exact h.sw
   ·exact hd3 d hd
  ·refine List.nodup_cons.2 ⟨fun hm=>?_,hd4⟩
   have:=hgslt (marked w.heap.size) (List.mem_append.2 (.inr (List.mem_map.2 ⟨_,hm,rfl⟩)))
   simp[marked]at this
 have hr1:HR E.G B ρ0 hp W1:=hr0.frame hb1.size (fun k hk=>hb1.block k hk)
 refine⟨w.heap.size+1,[mark w.heap.size],W1,{ target:=.fn (.func f) cus.toArray,args:=#[.func (.yield (w.heap.size+1)) #[] #[]] },W1,f,
  #[.func (.yield (w.heap.size + 1)) #[] #[]] ++ cus.toArray, W1, ?_, ?_, fun _ _ => trivial, ?_, fun e => by simp [Fr, Fence.wide] at e, ?_⟩
 ·rw[<-hW1,hrec];exact run_enterLoop_outer _ _ _ _ _
 ·simp only[resolve,hga]
  simp[go_sem]
 ·obtain⟨fn',hf1,hf2,hf3,_⟩:=hent
  simp only[invoke]
  exact eR hf1 hf2 hf3 _ _
 ·have hfin:∀ {rs:List Rg} {ρ':Ren} {hp':List O} {W:World},oH hp' bs sb hid hc->(rs=[]\/rs.length=hid.length)->HR E.G B ρ' (fY hp' sb (hid.take rs.length)) W->HR E.G B ρ' hp' W:=by
   intro rs ρ' hp' W q1 q2 q3
   rcases q2 with rfl|q2
   ·exact q3
   ·rw[q2,List.take_length]at q3
    cases hid with
    |nil=>exact q3
    |cons o r=>
     obtain⟨q4,q5⟩:=q1.slot (by simp)
     have q6:=q3.small
     rw[ez]at q6
     have q7:=q3.kill (b:=sb) (by omega)
     have q8:((fY hp' sb (o::r)).set sb .gone)=hp':=by
      unfold fY
      rw[List.set_set]
      refine List.ext_getElem? fun i=>?_
      by_cases hi:i=sb
      ·subst hi
       rw[List.getElem?_set_self (by simpa using q4)]
       simp only[List.getD_eq_getElem?_getD,List.getElem?_eq_getElem q4,Option.getD_some]at q5
       rw[List.getElem?_eq_getElem q4,q5]
      ·rw[List.getElem?_set_ne (Ne.symm hi)]
     rw[q8]at q7
     exact q7
  refine CallsIn.mono (hsq (n-1) (w.heap.size+1) cus (rJ ρ0 bs (w.heap.size+1)) (fun σ rs W=>(rs=[]\/rs.length=hid.length)/\∃ hp' ρ',(match σ with
    |some i=>I i hp'/\Kp (rec .ready none) W
    |none=>∃ e c,xE e c/\X e hp'/\Kp (rec .done (some c)) W)/\HR E.G B ρ' (fY hp' sb (hid.take rs.length)) W/\(∀ j r,rs[j]?=some r->ρ' (sb+j)=some r)/\ρ0.leB μ' ρ'/\(rs=[]->hid≠[]->ρ'=ρ0)) W1 ?_ ?_ ?_ ?_ ?_ ?_ ⟨.inl rfl,hp,ρ0,⟨h0,hKp1⟩,hr1,fun j r hj=>by simp at hj,Ren.leB_refl μ' ρ0,fun _ _=>rfl⟩) ?_
  ·have q1:=VRL.ren (ρ:=ρ0) (bs:=hp.length::bs) (by
    obtain⟨_,_,_,_,q4⟩:=(hcap 0 hp h0).cap 0 (.inl rfl)
    rw[Bool.and_eq_true]at q4
    have q5:=gG (eZ q4.1) (fun b hb=>aM (List.all_eq_true.1 q4.2 b hb))
    simp only[lbH,List.length_cons,List.length_append,List.length_range']at q5
    simp only[List.length_cons];omega) _ _ _ hcv hcv0
   refine kC (fun b r hb hr=>?_) capv cus okcv q1
   have hbg:b<ax:=by
    obtain⟨_,_,_,_,q4⟩:=(hcap 0 hp h0).cap 0 (.inl rfl)
    rw[Bool.and_eq_true]at q4
    have q5:=gG (eZ q4.1) (fun b hb=>aM (List.all_eq_true.1 q4.2 b hb))
    simp only[lbH,List.length_cons,List.length_append,List.length_range']at q5
    omega
   simp only[Ren.re]at hr
   rw[if_neg (by omega)]at hr
   simp only[rJ]
   rw[if_neg (by omega)]
   cases b with
   |zero=>
    have hr:ρ0 hp.length=some r:=hr
    rw[hr0.free _ (Nat.le_refl _) (by omega)]at hr;cases hr
   |succ b=>simpa using hr
  ·simp only[rJ]
   rw[if_neg (by simp[ax])]
  ·rw[<-hW1];simp
  ·rintro σ rs W W' ⟨q0,hp',ρ',h1,h3,h4,h5,h6⟩ hb
   refine⟨q0,hp',ρ',?_,h3.cellsSame (fun k o ho hc=>hb.keep k o ho (.inr hc)) hb.size,h4,h5,h6⟩
   cases σ with
   |some i=>exact⟨h1.1,hKpL2 h1.2 hb⟩
   |none=>obtain⟨e,c,h1,h2,h7⟩:=h1;exact⟨e,c,h1,h2,hKpL2 h7 hb⟩
  ·rintro σ rs W ⟨q0,hp',ρ',h1,h3,h4,h5,h6⟩
   refine⟨q0,FE h3 h5 hglob0 ?_ q0 hbl hbsm hcov0 h4⟩
   cases σ with
   |some i=>exact hcap i hp' h1.1
   |none=>obtain⟨e,c,_,h2,_⟩:=h1;exact hcapx e hp' h2
  ·-- one round
   rintro i vs ns us rs rsN W0 W hpi ρi bsN hi ⟨hrs,hp',ρ',⟨h1,h50⟩,h30,hreg,h40,hz⟩ hri hbel hndN hdatN hmap hrsN hvs
   have h5:=hKpB h50 hbel
   have hcp:=hcap i hp' h1
   have hsm:=aM hcp.small
   obtain⟨hlen0,hns⟩:=hL _ (List.mem_of_getElem? hi)
   have hlen0:vs.length=ps.size:=hlen0
   have hns:ns.length<=50:=hns
   have hBW:B<=W0.heap.size:=by
    rw[hKp]at h50
    have:=h50.2.2.1
    omega
   have hNl:bsN.length=hid.length-rs.length+ns.length:=by
    have:=congrArg List.length hmap
    simpa using this
   obtain⟨ρb,h3,h4,hregb,hnew⟩:∃ ρb,HR E.G B ρb (fY hp' sb hid++hid.map (fun _=>.gone)++ns) W/\ρ0.leB μ' ρb/\(∀ j r,(rs++rsN)[j]?=some r->ρb (sb+j)=some r) /\
     (∀ j b r,(bsN.drop (hid.length-rs.length))[j]?=some b->ρi b=some r->ρb (hp'.length+hid.length+j)=some r):=by
    by_cases hfull:rs.length=hid.length
    ·rw[hfull,List.take_length]at h30
     rw[hfull,Nat.sub_self,List.take_zero]at hrsN
     rw[hfull,List.drop_length,List.nil_append]at hmap
     have hrsN0:rsN=[]:=by cases rsN with|nil=>rfl|cons x y=>cases hrsN
     have hpd:=h30.pad (hid.map fun _=>.gone) (by rw[ez,List.length_map];omega)
     obtain⟨ρb,q1,q2,q3,_⟩:=hpd.take2 hBW hri hbel bsN hndN hdatN (by rw[List.length_append,ez,List.length_map];omega)
     rw[hmap]at q1
     refine⟨ρb,q1,Ren.leB_trans h40 q2.leB,fun j r hj=>?_,fun j b r hj hr=>?_⟩
     ·rw[hrsN0,List.append_nil]at hj;exact q2 _ _ (hreg j r hj)
     ·rw[hfull,Nat.sub_self,List.drop_zero]at hj
      have:=q3 j b r hj hr
      rwa [List.length_append,ez,List.length_map]at this
    ·have hrs0:rs=[]:=hrs.resolve_right hfull
     subst hrs0
     have hne:hid≠[]:=fun e=>hfull (by rw[e];rfl)
     obtain⟨o,rfl⟩:∃ o,hid=[o]:=by
      cases hid with
      |nil=>exact absurd rfl hne
      |cons o r=>cases r with
       |nil=>exact⟨o,rfl⟩
       |cons x y=>simp at hh1
     have hzz:=hz rfl hne
     subst hzz
     have hsl:=hcp.slot hne
     have h30:HR E.G B ρ' hp' W0:=h30
     have hmap:bsN.map (hpi.getD · .gone)=o::ns:=hmap
     obtain⟨ρa,q1,q2,q3,q4⟩:=h30.take2 hBW hri hbel bsN hndN hdatN (by simp at hNl;omega)
     rw[hmap]at q1
     cases bsN with
     |nil=>cases hmap
     |cons e bsT=>
      have hrsN:[ρi e]=rsN.map some:=hrsN
      cases rsN with
      |nil=>cases hrsN
      |cons r0 rT=>
       simp only[List.map_cons,List.cons.injEq]at hrsN
       obtain⟨hr0e,hrT⟩:=hrsN
       have hrT0:rT=[]:=by cases rT with|nil=>rfl|cons x y=>cases hrT
       subst hrT0
       have q5:=q3 0 e r0 rfl hr0e
       rw[Nat.add_zero]at q5
       have hlt1:sb<(hp'++o::ns).length:=by rw[List.length_append];omega
       have hmv:=q1.move (i0:=hp'.length) (b:=sb) (o:=o) (r:=r0) (by simp) hlt1 (by omega) (by simp[List.getD]) (by simpa using hhd) q5 (by
        have h9:=hsl.2;simp only[List.getD_eq_getElem?_getD]at h9 ⊢;rw[List.getElem?_append_left hsl.1];exact h9) (by rw[q4 sb hsl.1];exact hfree0 hne)
       have hlist:(((hp'++o::ns).set sb o).set hp'.length .gone)=fY hp' sb [o]++[o].map (fun _=>O.gone)++ns:=by
        rw[List.set_append_left _ _ hsl.1,List.set_append_right _ _ (by simp)]
        simp[fY]
       rw[hlist]at hmv
       refine⟨_,hmv,fun b r hb hr=>?_,fun j r hj=>?_,fun j b r hj hr=>?_⟩
       ·have hbne:b≠sb:=fun e=>by rw[e,hfree0 hne]at hr;cases hr
        rw[Ren.add_other _ _ hbne]
        exact q2 _ _ (h40 b r hb hr)
       ·cases j with
        |zero=>simp only[List.nil_append,List.getElem?_cons_zero,Option.some.injEq]at hj;subst hj;exact Ren.add_same _ _ _
        |succ j=>simp at hj
       ·have hj:bsT[j]?=some b:=hj
        have:=q3 (j+1) b r (by simpa using hj) hr
        rw[Ren.add_other _ _ (by simp;omega)]
        simpa[Nat.add_assoc,Nat.add_comm 1]using this
   have hrl:(rs++rsN).length=hid.length:=by
    have:=congrArg List.length hrsN
    simp only[List.length_map,List.length_take]at this
    rw[List.length_append,<-this,hNl]
    have:rs.length<=hid.length:=by rcases hrs with e|e;rw[e];exact Nat.zero_le _;omega
    omega
   have hNs:(bsN.drop (hid.length-rs.length)).length<=50:=by rw[List.length_drop];omega
   have hvb:VRL ρb (upL (hp'.length+hid.length) bs vs) us:=sn (ρ:=fun j=>if j<50 then ρb (hp'.length+hid.length+j) else(bs[j-50]?).bind ρb) (fun b r hb=>by
    unfold upN
    try dsimp only at hb
    by_cases h9:b<50
    ·rw[if_pos h9]at hb
     rw[show Nat.blt b 50=true from Nat.ble_eq_true_of_le h9]
     dsimp only
     rw[Nat.add_comm];exact hb
    ·rw[if_neg h9]at hb
     rw[show Nat.blt b 50=false by cases hb9:Nat.blt b 50;rfl;exact absurd (aM hb9) h9]
     dsimp only
     cases hx:bs[b-50]? with
     |none=>rw[hx]at hb;cases hb
     |some b0=>rw[hx]at hb;rw[List.getD_eq_getElem?_getD,hx];exact hb) vs us (hvs _ (fun j b r hj hr=>by
    have h9:j<50:=by have:=(List.getElem?_eq_some_iff.1 hj).1;omega
    try dsimp only
    rw[if_pos h9]
    exact hnew j b r hj hr) (fun c r hc9 hr=>by
    try dsimp only
    rw[if_neg (by omega),show 50+c-50=c by omega]
    have hr:(if ax<=c+1 then ρ0 (c+1) else(bs[c]?).bind ρ0)=some r:=hr
    have hbl9:bs.length<ax:=by
     obtain⟨_,_,_,_,q4⟩:=(hcap 0 hp h0).cap 0 (.inl rfl)
     rw[Bool.and_eq_true]at q4
     have q5:=gG (eZ q4.1) (fun b hb=>aM (List.all_eq_true.1 q4.2 b hb))
     simp only[lbH,List.length_cons,List.length_append,List.length_range']at q5
     have:=aM (hcap 0 hp h0).small
     omega
    rw[if_neg (by omega)]at hr
    cases hx:bs[c]? with
    |none=>rw[hx]at hr;cases hr
    |some b0=>
     rw[hx]at hr
     have hr:ρ0 b0=some r:=hr
     exact h4 b0 r (.inl (hbsm b0 (List.mem_of_getElem? hx))) hr))
   have hlen:us.length=ps.size:=by rw[hvb.length,CL];exact hlen0
   obtain⟨Ra,hA,hBd⟩:=hround i vs ns hp' hi h1
   obtain⟨g1,g2,g3⟩:=hKpR h5
   have hy:=run_yield (P:=P) (args:=us.toArray) (hKpL h5) (by rw[hrec];simpa using hlen)
   rw[hrec]at hy
   refine⟨fn,_,asg,body,hy,roundIn_of_wpIn trivial ?_⟩
   have hfold:((ps.zip us.toArray).foldl (fun tmps x=>tmps.setIfInBounds x.1 x.2) a.tmps)=(ps.toList.zip us).foldl (fun t p=>t.setIfInBounds p.1 p.2) a.tmps:=by
    rw[<-Array.foldl_toList];simp
   have hrel:Rel E.G B w0 W.heap.size N [] ((w.heap.size+1,.loop (rec .ready none))::(w.heap.size,.deferred (some []))::(gs++ms.map marked)++oth (w.heap.size+1) W) ρb (Ab.putPs ps.toList (upL (hp'.length+hid.length) bs vs) tmL) (fY hp' sb hid++hid.map (fun _=>.gone)++ns)
     { tmps:=((ps.zip us.toArray).foldl (fun tmps x=>tmps.setIfInBounds x.1 x.2) a.tmps),defers:=[] } W:=by
    refine⟨?_,h3,g2,?_,⟨[],rfl,fun p hp=>by simp at hp,by simp,by simp⟩,fun p hp=>(List.mem_append.1 hp).elim (g1 p) (Is _ W p),h.bs,g2.size,Nat.le_refl _⟩
    ·rw[hfold]
     exact TR.putPs ps.toList _ us tmL a.tmps a.defers [] (htr0.leB h4 htl) hvb (fun p hp=>by rw[h.sz];exact aM (List.all_eq_true.1 hps p hp))
    ·rw[hfold,<-h.sz]
     have key:∀ (l:List (Nat×Value)) (t:Array Value),(l.foldl (fun t p=>t.setIfInBounds p.1 p.2) t).size=t.size:=by
      intro l
      induction l with
      |nil=>intro t;rfl
      |cons p l ih=>intro t;simp only[List.foldl_cons,ih,Array.size_setIfInBounds]
     exact key _ _
   refine wpIn_mono (hA B w0 _ [] _ ρb _ W (n-1-1) (some (w.heap.size+1)) (.inr hpl.1) hrel) ?_
   rintro e a2 W2 ⟨tm2,hp2,ρ2,hrel2,hl2,rfl,hRa⟩
   have hk2:=hKpO hrel2.gs hrel2.bel
   refine⟨_,run_beginRound (hKpL hk2) (by rw[hrec]),?_⟩
   have hk3:=hKpP (r':={ rec .ready none with state:=.busy }) hk2
   have ho2:GsOk (oth (w.heap.size+1) W) W2:=fun p hp=>hrel2.gs p (List.mem_append.2 (.inr hp))
   have ho3:=ho2.putObj (l:=w.heap.size+1) (o':=.loop { rec .ready none with state:=.busy }) (fun p hp=>(oA.1 hp).2.1)
   obtain⟨b1,b2,b3⟩:=hKpR hk3
   obtain⟨ms2,e1,e2,e3,e4⟩:=hrel2.df
   have hrel3:Rel E.G B w0 W.heap.size N [] _ ρ2 tm2 hp2 a2 (W2.putObj (w.heap.size+1) (.loop { rec .ready none with state:=.busy })):=
    ⟨hrel2.tr,hrel2.hr.putObj (hKpL hk2) rfl,b2,hrel2.sz,⟨ms2,e1,e2.putObj (fun p hp e=>by
     have x1:=(e2 p hp).1
     rw[e,hKpL hk2]at x1
     obtain⟨d,_,rfl⟩:=List.mem_map.1 hp
     simp[marked]at x1),e3,e4⟩,fun p hp=>(List.mem_append.1 hp).elim (b1 p) (ho3 p),h.bs,g2.size,by simpa using hrel2.sw⟩
   refine wpIn_mono (hBd tm2 hp2 hRa B w0 _ [] _ ρ2 a2 _ (n-1-1) (some (w.heap.size+1)) (.inr hpl.2) hrel3) ?_
   rintro e a4 W4 ⟨tm4,hp4,ρ4,hrel4,hl4,hp5,hent5,hpost⟩
   have hk4:=hKpO hrel4.gs hrel4.bel
   obtain⟨ρ5,hl5,_,hr5⟩:=hent5 B ρ4 a4 W4 (fun t=>trivial) hrel4.hr
   have hle25:ρb.leB μ' ρ5:=Ren.leB_trans hl2 (Ren.leB_trans hl4 hl5)
   have hle5:ρ0.leB μ' ρ5:=Ren.leB_trans h4 hle25
   have hreg5:∀ j r,(rs++rsN)[j]?=some r->ρ5 (sb+j)=some r:=fun j r hj=>by
    have hj1:=(List.getElem?_eq_some_iff.1 hj).1
    rw[hrl]at hj1
    have hne:hid≠[]:=fun e=>by rw[e]at hj1;simp at hj1
    have hb:=hsb hne
    simp only[Bool.and_eq_true]at hb
    have:=aM hb.1.1.1.2
    exact hle25 _ _ (.inl (by omega)) (hregb j r hj)
   have hz5:rs++rsN=[]->hid≠[]->ρ5=ρ0:=fun e hne=>by
    rw[e]at hrl
    exact absurd (List.eq_nil_of_length_eq_zero hrl.symm) hne
   have htk:hid.take (rs++rsN).length=hid:=by rw[hrl,List.take_length]
   have hkept:∀ o',Kept (w.heap.size+1) W (W4.putObj (w.heap.size+1) o'):=fun o'=>by
    have ho4:GsOk (oth (w.heap.size+1) W) W4:=fun p hp=>hrel4.gs p (List.mem_append.2 (.inr hp))
    refine⟨?_,fun k o hk ho hc=>(World.putObj_heap_other hk).trans (ho4 (k,o) (oA.2 ⟨ho,hk,hc⟩)).1⟩
    simp only[World.putObj_size]
    exact hrel4.sw
   cases e with
   |normal=>exact⟨_,_,fin none W4 hk4,true,rfl,⟨.inr hrl,hp5,_,⟨hpost,hKpP hk4⟩,by rw[htk];exact hr5.putObj (hKpL hk4) rfl,hreg5,hle5,hz5⟩,hkept _⟩
   |ret=>exact⟨_,_,fin (some .ret) W4 hk4,false,rfl,⟨.inr hrl,hp5,_,⟨.ret,.ret,.ret,hpost,hKpP hk4⟩,by rw[htk];exact hr5.putObj (hKpL hk4) rfl,hreg5,hle5,hz5⟩,hkept _⟩
   |exit id=>exact⟨_,_,fin (some (.exit id)) W4 hk4,false,rfl,⟨.inr hrl,hp5,_,⟨.exit id,.exit id,.exit id,hpost,hKpP hk4⟩,by rw[htk];exact hr5.putObj (hKpL hk4) rfl,hreg5,hle5,hz5⟩,hkept _⟩
   |goto t=>exact hpost.elim
   |panic c=>exact hpost.elim
   |outgrown=>exact hpost.elim
  ·rintro e W ⟨⟨v,rfl⟩,rs,⟨q0,hp',ρ',⟨h1,h5⟩,h3,_,h4,_⟩|⟨q0,hp',ρ',⟨e,c,h1,h2,h5⟩,h3,_,h4,_⟩⟩
   ·have he:=run_endLoop (P:=P) (hKpL h5) (by rw[hrec];simp)
    rw[hrec]at he
    exact⟨none,_,he,tmL,hp',ρ',finRel h5 (hfin (hcap _ hp' h1) q0 h3) h4,Ren.leB_trans hle0 (Ren.leB_mono h4 hμ),hend hp' h1⟩
   ·have he:=run_endLoop (P:=P) (hKpL h5) (by rw[hrec];simp)
    rw[hrec]at he
    refine⟨some c,_,he,?_⟩
    have hh:=hfin (hcapx _ hp' h2) q0 h3
    cases h1 with
    |ret=>exact wpIn_ret ⟨tmL,hp',ρ',finRel h5 hh h4,Ren.leB_trans hle0 (Ren.leB_mono h4 hμ),hx _ _ h2⟩
    |exit id=>exact wpIn_exit ⟨tmL,hp',ρ',finRel h5 hh h4,Ren.leB_trans hle0 (Ren.leB_mono h4 hμ),hx _ _ h2⟩
end
section
variable{E:Env}{P:Program}{N:Nat}{tm:Tm}{hp:List O}{G:List O}
def begH(hp:List O)(sb:Nat)(hid ns:List O):List O:=fY hp sb hid++hid.map (fun _=>.gone)++ns
theorem pK(hE:E.Fn P)(n μ':Nat){μ:Nat}{g:Operand}{ps:Array Tmp}{asg body:Code}{k:Exit->Tm->List O->T}{Q:Exit->Tm->List O->Prop}{tm1:Tm}{hp1:List O}
  {f:FuncId} {caps capv:List V} {hc hid:List O} {L:List (List V×List O)} (sb:Nat) (bs ts:List Nat) (h0:Ent E.G μ tm hp tm1 hp1)
  (hsq:SqH E.G P f hc capv hid L) (hL:∀ x∈L,x.1.length=ps.size/\x.2.length<=50) (hent:fq P f)
  (hg:evA E tm1 g=.fn f caps) (hμ:Nat.ble μ μ'=true) (htl:limL μ' ((dJ tm1 ts).map (·.2))=true) (hpl:(bG asg&&bG body)=true) (hps:ps.toList.all (fun p=>Nat.blt p N)=true)
  (hh1:Nat.ble hid.length 1=true) (hsb:hid≠[]->(Nat.ble μ sb&&Nat.blt sb μ'&&((dJ tm1 ts).all (fun p=>notZ sb p.2))&&kJ sb caps&&hp1.all (Dz sb))=true) (hhd:hid.all O.data=true)
  (I:Nat->List O->Prop) (X:Exit->List O->Prop) (hi:I 0 hp1) (hbs:(bs.all fun b=>Nat.blt b μ')=true) (hbl:bs.length=hc.length) (hcv:renL (hp1.length::bs) caps=some capv) (okcv:okZL (hc.length+1) capv=true) (hcov:covB hp1 caps bs=true)
  (hcap:∀ i hp',I i hp'->oH hp' bs sb hid hc) (hcapx:∀ e hp',X e hp'->oH hp' bs sb hid hc)
  (hround:∀ i vs ns hp',L[i]?=some (vs,ns)->I i hp'->sat E.G P (fun e tm2 hp2=>e=.normal/\sat E.G P (fun e _ hp3=>∃ hp4,Ent E.G μ' [] hp3 [] (fY hp4 sb hid)/\match e with
    |.normal=>I (i+1) hp4
    |.ret=>X .ret hp4
    |.exit id=>X (.exit id) hp4
    |_=>False) (evC E (hdl E n) μ' N body tm2 hp2 .ret)) (evC E (hdl E n) μ' N asg (putPs ps.toList (upL (hp'.length+hid.length) bs vs) (dJ tm1 ts)) (begH hp' sb hid ns) .ret))
  (hend:∀ hp',I L.length hp'->sat E.G P Q (k .normal (dJ tm1 ts) hp')) (hx:∀ e hp',X e hp'->sat E.G P Q (k e (dJ tm1 ts) hp')) :
  sat E.G P Q (.loop (.rangeFunc g ps asg body) μ N tm hp k):=by
 refine⟨fun e tm' hp'=>sat E.G P Q (k e tm' hp'),?_,fun _ _ _ h=>h⟩
 refine Good.ent h0 (Good.rangeH (μ:=μ) (μ':=μ') hμ hg ⟨ts,rfl⟩ htl hent hsq hpl hps hL sb hh1 hsb hhd I X hi hbs hbl hcv okcv hcov hcap hcapx ?_ hend hx)
 intro i vs ns hp' h1 h2
 refine⟨fun tm2 hp2=>sat E.G P (fun e _ hp3=>∃ hp4,Ent E.G μ' [] hp3 [] (fY hp4 sb hid)/\match e with
    |.normal=>I (i+1) hp4
    |.ret=>X .ret hp4
    |.exit id=>X (.exit id) hp4
    |_=>False) (evC E (hdl E n) μ' N body tm2 hp2 .ret),?_,fun tm2 hp2 h3=>?_⟩
 ·exact dP hE.mixed hE.ok (gj hE) (eN hE) (cG hE n) asg _ _ _ _ (hround i vs ns hp' h1 h2)
 ·exact dP hE.mixed hE.ok (gj hE) (eN hE) (cG hE n) body _ _ _ _ h3
section
variable{α β σ ξ:Type}{R:α->Exit->Tm->List O->Prop}
variable{μ' sb:Nat}{st:σ->List O}{sx:ξ->List O}{ex:Nat}{tk:Tm}{C:List O->Prop}{k:Exit->Tm->List O->T}{hid:List O}
def capB(hp:List O)(bs:List Nat)(sb:Nat)(_:List O)(m:Nat):Bool:=Nat.blt (hp.length+100) ax&&Nat.blt sb hp.length&&rH (lbH hp bs sb m)&&(lbH hp bs sb m).all fun b=>Nat.blt b (hp.length+1)
theorem bD{bs:List Nat}{o:O}{hc hX0 hX1:List O}(hb0:(capB hp bs sb [o] 0&&capB hp bs sb [o] 1)=true)(hs:hp.getD sb .gone=.gone)(h0:jo (lbH hp bs sb 0) (hp++[.gone]) (lbH hp bs sb 0)=some hX0)(e0:hX0.map O.ro=(.gone::hc).map O.ro)(z0:hX0.all (okZO hX0.length)=true)
  (h1:jo (lbH hp bs sb 1) (hp.set sb o++[.gone]) (lbH hp bs sb 1)=some hX1) (e1:hX1.map O.ro=(.gone::(hc++[o])).map O.ro) (z1:hX1.all (okZO hX1.length)=true):oH hp bs sb [o] hc:=by
 simp only[capB,Bool.and_eq_true]at hb0
 obtain⟨⟨⟨⟨a1,a2⟩,a3⟩,a4⟩,⟨⟨b1,b2⟩,b3⟩,b4⟩:=hb0
 refine⟨a1,fun _=>⟨aM a2,hs⟩,fun m hm=>?_⟩
 rcases hm with rfl|rfl
 ·exact⟨hX0,h0,by rw[e0];simp,z0,by rw[a3,a4];rfl⟩
 ·exact⟨hX1,h1,by rw[e1];simp,z1,by simpa[b3]using b4⟩
theorem Ent.gap{μ:Nat}(hsm:Nat.blt (hlen hp+2) ax=true){hp':List O}(hh:hp++[.gone]=hp'):Ent G μ tm hp tm hp':=by
 subst hh
 rw[eE]at hsm
 have:=aM hsm
 intro B ρ a w h1 h2
 exact⟨ρ,Ren.leB_refl μ ρ,h1,h2.pad [.gone] (by simp;omega)⟩
end
end
section
variable{E:Env}{P:Program}{N:Nat}{tm:Tm}{hp:List O}{G:List O}
theorem AR{bs:List Nat}{hc hX0:List O}(hb0:capB hp bs 0 [] 0=true)(h0:jo (lbH hp bs 0 0) (hp++[.gone]) (lbH hp bs 0 0)=some hX0)(e0:hX0.map O.ro=(.gone::hc).map O.ro)(z0:hX0.all (okZO hX0.length)=true):oH hp bs 0 [] hc:=by
 simp only[capB,Bool.and_eq_true]at hb0
 obtain⟨⟨⟨a1,a2⟩,a3⟩,a4⟩:=hb0
 refine⟨a1,fun h=>absurd rfl h,fun m hm=>?_⟩
 have hm:m=0:=by rcases hm with h|h;exact h;simpa using h
 subst hm
 exact⟨hX0,h0,by rw[e0];simp,z0,by rw[a3,a4];rfl⟩
section
variable{α β σ:Type}{R:α->Exit->Tm->List O->Prop}
theorem dU{b:Bool}{x y:T}{K:Option α}(hb:b=false)(h:satO E P R K y):satO E P R K (.br b x y):=fun r hr=>⟨fun e=>(by rw[hb]at e;cases e),fun _=>h r hr⟩
theorem cy{b:Bool}{x y:T}{K:Option α}(hb:b=true)(h:satO E P R K x):satO E P R K (.br b x y):=fun r hr=>⟨fun _=>h r hr,fun e=>(by rw[hb]at e;cases e)⟩
def kS(step:β->σ->Option σ)(F:σ->Option α):List β->σ->Option α
 |[],s=>F s
 |x::xs,s=>match step x s with
  |some s'=>kS step F xs s'
  |none=>none
theorem ED(hE:E.Fn P)(n μ':Nat)(st:σ->List O)(xs:List β)(enc:β->List V)(ns:β->List O)(hc:List O)(capv:List V)(tmA:β->σ->Tm)(hpA:β->σ->List O)(bs ts:List Nat){step:β->σ->Option σ}{F:σ->Option α}{s0:σ}{μ:Nat}{g:Operand}{ps:Array Tmp}{asg body:Code}
  {tm1:Tm} {f:FuncId} {caps:List V} {k:Exit->Tm->List O->T}
  (h0:Ent E.G μ tm hp tm1 (st s0)) (hsq:SqH E.G P f hc capv [] (xs.map fun x=>(enc x,ns x))) (hL:∀ x,(enc x).length=ps.size/\(ns x).length<=50) (hent:fq P f)
  (hg:evA E tm1 g=.fn f caps) (hμ:Nat.ble μ μ'=true) (htl:limL μ' ((dJ tm1 ts).map (·.2))=true) (hpl:(bG asg&&bG body)=true) (hps:ps.toList.all (fun p=>Nat.blt p N)=true)
  (hbs:(bs.all fun b=>Nat.blt b μ')=true) (hbl:bs.length=hc.length) (hcv:renL ((st s0).length::bs) caps=some capv) (okcv:okZL (hc.length+1) capv=true) (hcov:covB (st s0) caps bs=true)
  (hcap:∀ s,oH (st s) bs 0 [] hc)
  (hasg:∀ x s,evC E (hdl E n) μ' N asg (putPs ps.toList (upL (st s).length bs (enc x)) (dJ tm1 ts)) (st s++ns x) .ret=.ret .normal (tmA x s) (hpA x s))
  (hb:∀ x s,satO E P (fun s' e _ hp=>e=.normal/\Ent E.G μ' [] hp [] (st s')) (step x s) (evC E (hdl E n) μ' N body (tmA x s) (hpA x s) .ret))
  (h:∀ s,satO E P R (F s) (k .normal (dJ tm1 ts) (st s))) :
  satO E P R (kS step F xs s0) (.loop (.rangeFunc g ps asg body) μ N tm hp k):=fun r hr=>by
 refine pK hE n μ' 0 bs ts h0 hsq (fun vs hvs=>by obtain⟨x,_,rfl⟩:=List.mem_map.1 hvs;exact hL x) hent hg hμ htl hpl hps rfl (fun h=>absurd rfl h) rfl
  (fun i hp'=>∃ s,hp'=st s/\kS step F (xs.drop i) s=some r) (fun _ _=>False)
  ⟨s0,rfl,by rw[List.drop_zero];exact hr⟩ hbs hbl hcv okcv hcov ?_ (fun _ _ h=>h.elim) ?_ ?_ (fun _ _ h=>h.elim)
 ·rintro i hp' ⟨s,rfl,_⟩;exact hcap s
 ·rintro i vs ns' hp' hvs ⟨s,rfl,hs⟩
  rw[List.getElem?_map,Option.map_eq_some_iff]at hvs
  obtain⟨x,hxi,he⟩:=hvs
  simp only[Prod.mk.injEq]at he
  obtain⟨rfl,rfl⟩:=he
  obtain⟨hi,rfl⟩:=List.getElem?_eq_some_iff.1 hxi
  have ha:=hasg xs[i] s
  have hbeg:begH (st s) 0 [] (ns xs[i])=st s++ns xs[i]:=by simp[begH,fY]
  rw[hbeg,show ((st s).length+([]:List O).length)=(st s).length from rfl,ha]
  refine⟨rfl,?_⟩
  rw[List.drop_eq_getElem_cons hi,kS]at hs
  cases ho:step xs[i] s with
  |none=>rw[ho]at hs;cases hs
  |some s'=>
   rw[ho]at hs
   refine fb ?_ (hb xs[i] s s' ho)
   rintro e tm' hp3 ⟨rfl,h2⟩
   exact⟨st s',h2,s',rfl,hs⟩
 ·rintro hp' ⟨s,rfl,hs⟩
  rw[List.length_map,List.drop_length]at hs
  exact h s r hs
end
end
end Go.Ab
namespace Go.Ab
def phRg:Rg:={ blk:=0,base:=0,m:=1,n:=0,cp:=0,ph:=true }
theorem OC(ρ:Ren)(k:IntKind)(w:World):OR ρ (.ints false k []) phRg w:=
 ⟨by simp,by simp,trivial,rfl,fun _=>rfl,fun e=>(by cases e),fun e=>(by cases e),fun e=>(by cases e),fun e=>(by cases e),fun e=>(by cases e)⟩
theorem Ol{ρ:Ren}{b:Nat}{u:Value}(h:ρ b=some phRg)(hu:VR ρ .nils u):VR ρ (.sl b 0 0 none) u:=by
 have hu:u=.slice none 0 0:=hu
 subst hu
 exact⟨_,h,by simp[phRg],fun _=>⟨rfl,rfl⟩,fun e=>(by cases e)⟩
theorem ay.nil{G:List O}{P:Program}{f:FuncId}{args' args:List V}{H:List O}{b:Bool}(k:IntKind)(hs:H.length+1<ax)
  (ha:∀ (ρ:Ren) us,ρ H.length=some phRg->VRL ρ args us->VRL ρ args' us) (h:ay G P f args' (H++[.ints false k []]) (.bool b) []):ay G P f args H (.bool b) []:=by
 intro ρ us w hr hv
 obtain⟨h1,h2⟩:=hr.extend (o:=.ints false k []) (w':=w) (r:=phRg) (Nat.le_refl _) (fun _ _=>rfl) (OC _ k w) (fun e=>(by cases e)) (fun e=>(by cases e)) (fun e=>(by cases e)) hs
 refine(h _ us w h1 (ha _ us (Ren.add_same _ _ _) (VRL.mono h2 _ _ hv))).mono ?_
 rintro e w' ⟨u,ρ',rfl,hu,hh,_,hb⟩
 refine⟨u,ρ,rfl,hu,?_,Ren.le_refl ρ,hb⟩
 rw[List.append_nil]
 exact hr.frame hb.size (fun k hk=>hb.block k hk)
section
noncomputable def altC (x:T) (l:List Nat) (y:T):T:=match l with
 |[]=>x
 |_::_=>.isnil 0 fun b=>Bool.rec y x b
noncomputable def alts (F:Nat->T) (l:List Nat):T:=List.rec .fail (fun j l y=>altC (F j) l y) l
theorem xP{G:List O}{P:Program}{Q:Exit->Tm->List O->Prop}{F:Nat->T}:∀ {l:List Nat},sat G P Q (alts F l)->∀ j∈l,sat G P Q (F j)
 |[],_,_,h=>by cases h
 |[x],h,_,hy=>by
  obtain rfl:=List.mem_singleton.1 hy
  exact h
 |x::x2::l,h,y,hy=>by
  rcases List.mem_cons.1 hy with rfl|hy
  ·exact h true fun _=>rfl
  ·exact xP (l:=x2::l) (h false fun e=>by cases e) y hy
def rdy(ops:List Oper)(listed:List Bool):List Nat:=
 (List.range ops.length).filter fun i=>!listed.getD i true&&(match ops[i]? with
  |some o=>o.after.toList.all fun e=>!Region.binds .any e||listed.getD e.on false
  |none=>false)
theorem CP(ops:Array Oper)(listed:List Bool):Region.ready .any ops listed.toArray=rdy ops.toList listed:=by
 unfold Region.ready rdy
 rw[Array.length_toList]
 refine List.filter_congr fun i _=>?_
 have hg:∀ (j:Nat) (d:Bool),listed.toArray.getD j d=listed.getD j d:=fun j d=>by simp[List.getD]
 simp only[hg,Array.getElem?_toList]
 cases ops[i]?<;>simp
abbrev AnyR:=List Bool->Tm->List O->(Tm->List O->T)->T
def any0(ops:List Oper):AnyR:=fun listed tm hp k=>match rdy ops listed with
 |[]=>k tm hp
 |_::_=>.fail
noncomputable def anyS (E:Env) (hd:Hd) (N:Nat) (ops:List Oper) (r:AnyR):AnyR:=fun listed tm hp k=>match rdy ops listed with
 |[]=>k tm hp
 |j::l=>alts (fun j=>match ops[j]? with
  |some o=>(match o.guard with
   |none=>opK E hd N o tm hp fun tm hp=>r (listed.set j true) tm hp k
   |some _=>.fail)
  |none=>.fail) (j::l)
noncomputable def anyT (E:Env) (hd:Hd) (N:Nat) (ops:List Oper) (n:Nat):AnyR:=Nat.rec (any0 ops) (fun _ r=>anyS E hd N ops r) n
theorem AY(E:Env)(hd:Hd)(N:Nat)(ops:List Oper)(n:Nat):anyT E hd N ops (n+1)=anyS E hd N ops (anyT E hd N ops n):=rfl
theorem Dj(E:Env)(hd:Hd)(N:Nat)(ops:List Oper):anyT E hd N ops 0=any0 ops:=rfl
variable{E:Env}{P:Program}{tm:Tm}{hp:List O}
theorem IS(hE:E.Ok P){hd:Hd}(hhd:HdOk E.G P hd){N:Nat}{ops:Array Oper}{k:Tm->List O->T}{Q:Exit->Tm->List O->Prop}{n:Nat}{ro:Option Nat}{Qx:Exit->Act->World->Prop}{ρ0:Ren}{B:Nat}{w0:World}{S:Nat}{D:List Deferred}{gs:List (Nat×Obj)}
  (hQx:∀ a' w',(∃ tm' hp' ρ',Rel E.G B w0 S N D gs ρ' tm' hp' a' w'/\ρ0.le ρ'/\sat E.G P Q (k tm' hp'))->Qx .normal a' w') :
  ∀ (fuel:Nat) (listed:List Bool) (tm:Tm) (hp:List O) (ρ:Ren) (a:Act) (w:World),sat E.G P Q (anyT E hd N ops.toList fuel listed tm hp k)->Rel E.G B w0 S N D gs ρ tm hp a w->ρ0.le ρ ->
   wpAnyIn (Fr ro) n P .any ops Qx fuel listed.toArray a w
 |0,listed,tm,hp,ρ,a,w,hs,h,hle=>by
  rw[Dj]at hs
  unfold any0 at hs
  split at hs
  ·rename_i hr
   rw[<-CP]at hr
   exact⟨hr,hQx a w ⟨tm,hp,ρ,h,hle,hs⟩⟩
  ·cases hs
 |fuel+1,listed,tm,hp,ρ,a,w,hs,h,hle=>by
  rw[AY]at hs
  unfold anyS at hs
  split at hs
  ·rename_i hr
   rw[<-CP]at hr
   exact⟨fun _=>hQx a w ⟨tm,hp,ρ,h,hle,hs⟩,by rw[hr];simp⟩
  ·rename_i j l hr
   rw[<-CP]at hr
   refine⟨fun e=>(by rw[hr]at e;cases e),fun i hi=>?_⟩
   rw[hr]at hi
   have hx:=xP hs _ hi
   split at hx
   ·rename_i o ho
    split at hx
    ·rename_i hg
     unfold wpOpIn
     rw[Array.getElem?_toList]at ho
     rw[ho]
     dsimp only
     rw[if_pos (by simp[Region.wanted,hg])]
     exact Iq hE hhd hx B w0 S D gs ρ a w n ro _ _ h fun a' w' ⟨tm',hp',ρ',h',hl',hs'⟩=>
      (by simpa using IS hE hhd hQx fuel _ tm' hp' ρ' a' w' hs' h' (Ren.le_trans hle hl'))
    ·cases hx
   ·cases hx
theorem Good.any(hE:E.Fn P)(m:Nat){μ N id:Nat}{ops:Array Oper}{R:Exit->Tm->List O->Prop}
  (h:sat E.G P (fun e tm' hp'=>∃ tm2 hp2,Ent E.G μ tm' hp' tm2 hp2/\R e tm2 hp2) (anyT E (hdl E m) N ops.toList ops.toList.length (List.replicate ops.toList.length false) tm hp (.ret .normal))):Good E.G P μ N (.region id ops true) tm hp R:=by
 intro B w0 S D gs ρ a w n ro _ hr
 refine wpIn_region_any hE.mixed ?_
 have hl:Array.replicate ops.size false=(List.replicate ops.toList.length false).toArray:=by simp
 rw[hl,<-Array.length_toList]
 refine(IS (ρ0:=ρ) hE.ok (cG hE m) (Q:=fun e tm' hp'=>∃ tm2 hp2,Ent E.G μ tm' hp' tm2 hp2/\R e tm2 hp2) (k:=.ret .normal) ?_ _ _ _ _ ρ _ _ h (hr.draw _) (Ren.le_refl ρ))
 rintro a' w' ⟨tm',hp',ρ',r1,r2,tm2,hp2,r3,r4⟩
 obtain⟨ρ2,l2,r5⟩:=r1.ent r3
 exact⟨tm2,hp2,ρ2,r5,Ren.leB_trans r2.leB l2,r4⟩
variable{α σ:Type}{R:α->Exit->Tm->List O->Prop}
end
end Go.Ab
