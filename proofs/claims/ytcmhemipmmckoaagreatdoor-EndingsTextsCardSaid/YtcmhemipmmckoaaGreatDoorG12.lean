/- Contracts of the functions that the laws reach, and plain laws of what they compute (text G12); no condition. -/
import Derived.Test.YtcmhemipmmckoaaGreatDoorG7
import Derived.Test.YtcmhemipmmckoaaGreatDoorG11
namespace Go.Ab
open Go.Proofs Go.Proofs.YtcmhemipmmckoaaGreatDoor Go.RowKit Go.ChangeShapes Go.WideShapes Go.ChangeAt
set_option maxRecDepth 100000
namespace endingsTexts
theorem contract(H:Type)(enc:TypeId×Value->H)(W:World)(base:Nat)(args:Array Value)(ds gs:List (DataW H))(before:List MemPlace)
  (hval:∀ (j:Nat) t v,Tryz.f6.params[j]?=some t->args[j]?=some v->Value.okWide Tryz.prog W .any base t v)
  (hW:DataW.Whole enc Tryz.prog Tryz.f6.params.toList Rows.endingsTextsSpec.vars false W args.toList ds gs before) (hL:laidMetH Tryz.prog Rows.endingsTextsRow.laid W) :
  Calls Tryz.prog 6 args W fun e W'=>∃ v,e=.returned v/\Rows.endingsTextsSpec.post enc Tryz.prog Tryz.f6 false true false false W args v W':=by
 have hW':=hW
 obtain⟨p,q,hA0,hV,rfl,hfz,hnd⟩:=hW
 have hA:DataW.TrodAll enc Tryz.prog W 0 (fun _=>true) true Tryz.f6.params.toList args.toList ds p:=hA0
 obtain⟨rfl,rfl⟩:=trodVars_none hV
 rw[Tryz.params6]at hA hval
 clear hA0 hV hfz hnd
 obtain⟨v0,w0,d0,ds0,p0,q0,e0,g0,rfl,h0,r0⟩:=trodAll_cons hA
 obtain⟨v1,w1,d1,ds1,p1,q1,e1,g1,rfl,h1,r1⟩:=trodAll_cons r0
 obtain⟨v2,w2,d2,ds2,p2,q2,e2,g2,rfl,h2,r2⟩:=trodAll_cons r1
 obtain⟨en,gn,rfl⟩:=trodAll_nil r2
 obtain rfl:args=#[v0,v1,v2]:=Array.toList_inj.1 (by rw[e0,e1,e2,en])
 obtain rfl:ds=[d0,d1,d2]:=by rw[g0,g1,g2,gn]
 obtain⟨x0,hv0,_,_,hw0⟩:=open_int Tryz.underlying3 (hval 0 3 v0 rfl rfl) h0
 obtain⟨x1,hv1,_,_⟩:=open_bool Tryz.underlying4 (hval 1 4 v1 rfl rfl) h1
 obtain⟨x2,hv2,_,_⟩:=Go.ChangeMaps.open_string Tryz.underlying9 (hval 2 9 v2 rfl rfl) h2
 have hr0:=TLg.hr hL W.heap.size
 refine seat_lawH (tb:=4) (vs:=[.int .i64 x0,.bool x1,.str x2.data.toList]) (us:=[v0,v1,v2]) hW' hr0 rfl rfl (by kernel_rfl) (by kernel_rfl) Tryz.underlying4 ?_ ⟨_,_,rfl,hv0,_,_,rfl,hv1,_,_,rfl,(by rw[hv2];show Value.string x2=Value.string ⟨x2.data.toList.toArray⟩;rw[Array.toArray_toList]),rfl⟩ rfl
 exact(Dk _ _ _ (Bh _ _ _))
theorem laid_met(os:Os):laidMet Tryz.prog Rows.endingsTextsRow.laid ((laidWorld os).forCall (fun _ _=>0) ⟨#[],#[.int .i64 0,.bool false,.string ⟨#[]⟩],[]⟩).memory:=
 laidMet_of_run' 8 (by kernel_rfl) (by kernel_rfl)
theorem reads(os:Os){H:Type}(enc:TypeId×Value->H):∃ places,DataW.whole enc Tryz.prog ((laidWorld os).forCall (fun _ _=>0) ⟨#[],#[.int .i64 0,.bool false,.string ⟨#[]⟩],[]⟩).memory Tryz.f6.params.toList Rows.endingsTextsSpec.vars false (#[.int .i64 0,.bool false,.string ⟨#[]⟩]:Array Value).toList 8=some ([.lit (.int .i64 0),.lit (.bool false),.lit (.string [])],[],places):=
 ⟨[],by kernel_rfl⟩
theorem lifted(os:Os)(started:os.Started)(H:Type)(enc:TypeId×Value->H)(F:Stop.Interp) :
  ReturnsInHanded {} Tryz.checked os 6 .any ((OpenSpec.ofChange Rows.endingsTextsSpec).preRow enc Tryz.prog Tryz.f6 Rows.endingsTextsRow.domain false Rows.endingsTextsRow.laid) (((OpenSpec.ofChange Rows.endingsTextsSpec).at F).post enc Tryz.prog Tryz.f6 false true false false):=by
 obtain⟨places,hx⟩:=reads os enc
 refine returnsInHanded_of_row (C:=Tryz.checked) (s:=OpenSpec.ofChange Rows.endingsTextsSpec) seat_own started (by kernel_rfl) Tryz.func6
  (witness_row_at (enc:=enc) (C:=Tryz.checked) false (laidWorld os) #[.int .i64 0,.bool false,.string ⟨#[]⟩] rfl (by kernel_rfl) (by kernel_rfl) (by kernel_rfl)
   (OpenSpec.preRow_of_cond 8 hx (by kernel_rfl) (fun k hk=>by cases hk) (by kernel_rfl) (laid_met os))) ?_
 intro W base args ds gs before hval hW _ _ _ hL _ _
 exact contract H enc W base args ds gs before hval hW hL
theorem said:Rows.EndingsTextsSaid:=
 OpenClaim.holds_of_cond 6 Tryz.f6 rfl rfl rfl rfl rfl rfl rfl ⟨rfl,rfl,rfl,rfl,rfl⟩ rfl rfl rfl rfl rfl (by kernel_rfl) Tryz.func6 (by kernel_rfl)
  (of_decide_eq_true (by kernel_rfl)) (by unfold Func.isWrapper;first|(rw[if_pos (by decide +kernel)];kernel_rfl)|(rw[if_neg (by decide +kernel)];exact⟨rfl,rfl⟩))
  (fun os started H enc _ F=>by rw[OpenClaim.pre_eq_preRow];exact lifted os started H enc F)
theorem plain(f:FuncId)(fn:Func)(hf:Tryz.pinned.checked.prog.funcNamed "caissa/caissalaw12.EndingsTexts" = some f) (hfn:Tryz.pinned.checked.prog.funcs[f]?=some fn) :
  true=Tryz.pinned.checked.prog.looks []/\∀ (j:Nat) t,fn.params[j]?=some t->Tryz.pinned.checked.prog.wantsStandIn t=false:=by
 obtain rfl:f=6:=Option.some.inj ((show Tryz.prog.funcNamed "caissa/caissalaw12.EndingsTexts" = some 6 by kernel_rfl).symm.trans hf)|>.symm
 obtain rfl:fn=Tryz.f6:=(Option.some.inj (Tryz.func6.symm.trans hfn)).symm
 refine⟨by kernel_rfl,fun j t ht=>?_⟩
 rw[Tryz.params6]at ht
 have hm:=Array.mem_of_getElem? ht
 have hall:(Tryz.f6.params.toList.all fun t=>!Tryz.prog.wantsStandIn t)=true:=by kernel_rfl
 rw[Tryz.params6]at hall
 have h2:=List.all_eq_true.1 hall t (Array.mem_toList_iff.2 hm)
 rw[Bool.not_eq_true']at h2
 exact h2
theorem card:Rows.EndingsTextsCardSaid:=
 Claim7.holds_tied_plain_at .later [] _ _ _ _ said (fun _ h=>by cases h) (by kernel_rfl) (fun _ h=>by cases h) endingsTexts_row_tie rfl ⟨rfl,rfl⟩ (by kernel_rfl) rfl plain (by kernel_rfl)
end endingsTexts
#print axioms endingsTexts.card
end Go.Ab
