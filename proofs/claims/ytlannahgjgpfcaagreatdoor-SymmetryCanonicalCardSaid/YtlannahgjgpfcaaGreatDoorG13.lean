/- Contracts of the functions that the laws reach, and plain laws of what they compute (text G13); no condition. -/
import Derived.Test.YtlannahgjgpfcaaGreatDoorG6
import Derived.Test.YtlannahgjgpfcaaGreatDoorG12
namespace Go.Ab
open Go.Proofs Go.Proofs.YtlannahgjgpfcaaGreatDoor Go.RowKit Go.ChangeShapes Go.WideShapes Go.ChangeAt
set_option maxRecDepth 100000
namespace symmetryCanonical
theorem contract(H:Type)(enc:TypeId×Value->H)(W:World)(base:Nat)(args:Array Value)(ds gs:List (DataW H))(before:List MemPlace)
  (hval:∀ (j:Nat) t v,Tryz.f4.params[j]?=some t->args[j]?=some v->Value.okWide Tryz.prog W .any base t v)
  (hW:DataW.Whole enc Tryz.prog Tryz.f4.params.toList Rows.symmetryCanonicalSpec.vars false W args.toList ds gs before) (hL:laidMetH Tryz.prog Rows.symmetryCanonicalRow.laid W) :
  Calls Tryz.prog 4 args W fun e W'=>∃ v,e=.returned v/\Rows.symmetryCanonicalSpec.post enc Tryz.prog Tryz.f4 false true false false W args v W':=by
 have hW':=hW
 obtain⟨p,q,hA0,hV,rfl,hfz,hnd⟩:=hW
 have hA:DataW.TrodAll enc Tryz.prog W 0 (fun _=>true) true Tryz.f4.params.toList args.toList ds p:=hA0
 obtain⟨rfl,rfl⟩:=trodVars_none hV
 rw[Tryz.params4]at hA hval
 clear hA0 hV hfz hnd
 obtain⟨v0,w0,d0,ds0,p0,q0,e0,g0,rfl,h0,r0⟩:=trodAll_cons hA
 obtain⟨en,gn,rfl⟩:=trodAll_nil r0
 obtain rfl:args=#[v0]:=Array.toList_inj.1 (by rw[e0,en])
 obtain rfl:ds=[d0]:=by rw[g0,gn]
 obtain⟨xf0,xr0,s0,bl0,ca0,pa0,ha0,fu0,rg0,zs0,hv0,hc0,sv0,so0⟩:=arg_pos (hval 0 35 v0 rfl rfl) h0
 have hr0:=TSy.hr hL W.heap.size
 obtain⟨hr1,le1,no1⟩:=hr0.view (r:=rg0) (so0 _) rfl TSy.none (aM rfl)
 refine seat_lawH (tb:=4) (vs:=[.agg [.int .i64 xf0,.int .i64 xr0,.sl 0 0 zs0.length none,.bool bl0,.int .u8 ca0,.int .i64 pa0,.int .i64 ha0,.int .i64 fu0]]) (us:=[v0]) hW' hr1 rfl rfl (by kernel_rfl) (by kernel_rfl) Tryz.underlying4 ?_ ⟨_,_,rfl,(by rw[hv0];exact vr_pos _ _ _ _ _ _ _ (sv0 _ _ (Ren.add_same _ _ _))),rfl⟩ rfl
 exact(EP ⟨xf0,xr0,zs0,bl0,ca0,pa0,ha0,fu0⟩ (zz hc0.1))
theorem laid_met(os:Os):laidMet Tryz.prog Rows.symmetryCanonicalRow.laid ((laidWorld os).forCall (fun _ _=>0) ⟨#[],#[.agg #[.int .i64 0,.int .i64 0,.slice none 0 0,.bool false,.int .u8 0,.int .i64 0,.int .i64 0,.int .i64 0]],[]⟩).memory:=
 laidMet_of_run' 8 (by kernel_rfl) (by kernel_rfl)
theorem reads(os:Os){H:Type}(enc:TypeId×Value->H):∃ places,DataW.whole enc Tryz.prog ((laidWorld os).forCall (fun _ _=>0) ⟨#[],#[.agg #[.int .i64 0,.int .i64 0,.slice none 0 0,.bool false,.int .u8 0,.int .i64 0,.int .i64 0,.int .i64 0]],[]⟩).memory Tryz.f4.params.toList Rows.symmetryCanonicalSpec.vars false (#[.agg #[.int .i64 0,.int .i64 0,.slice none 0 0,.bool false,.int .u8 0,.int .i64 0,.int .i64 0,.int .i64 0]]:Array Value).toList 8=some ([.agg [.agg [.lit (.int .i64 0),.lit (.int .i64 0)],.nil,.lit (.bool false),.lit (.int .u8 0),.lit (.int .i64 0),.lit (.int .i64 0),.lit (.int .i64 0)]],[],places):=
 ⟨[],by kernel_rfl⟩
theorem lifted(os:Os)(started:os.Started)(H:Type)(enc:TypeId×Value->H)(F:Stop.Interp) :
  ReturnsInHanded {} Tryz.checked os 4 .any ((OpenSpec.ofChange Rows.symmetryCanonicalSpec).preRow enc Tryz.prog Tryz.f4 Rows.symmetryCanonicalRow.domain false Rows.symmetryCanonicalRow.laid) (((OpenSpec.ofChange Rows.symmetryCanonicalSpec).at F).post enc Tryz.prog Tryz.f4 false true false false):=by
 obtain⟨places,hx⟩:=reads os enc
 refine returnsInHanded_of_row (C:=Tryz.checked) (s:=OpenSpec.ofChange Rows.symmetryCanonicalSpec) seat_own started (by kernel_rfl) Tryz.func4
  (witness_row_at (enc:=enc) (C:=Tryz.checked) false (laidWorld os) #[.agg #[.int .i64 0,.int .i64 0,.slice none 0 0,.bool false,.int .u8 0,.int .i64 0,.int .i64 0,.int .i64 0]] rfl (by kernel_rfl) (by kernel_rfl) (by kernel_rfl)
   (OpenSpec.preRow_of_cond 8 hx (by kernel_rfl) (fun k hk=>by cases hk) (by kernel_rfl) (laid_met os))) ?_
 intro W base args ds gs before hval hW _ _ _ hL _ _
 exact contract H enc W base args ds gs before hval hW hL
theorem said:Rows.SymmetryCanonicalSaid:=
 OpenClaim.holds_of_cond 4 Tryz.f4 rfl rfl rfl rfl rfl rfl rfl ⟨rfl,rfl,rfl,rfl,rfl⟩ rfl rfl rfl rfl rfl (by kernel_rfl) Tryz.func4 (by kernel_rfl)
  (of_decide_eq_true (by kernel_rfl)) (by unfold Func.isWrapper;first|(rw[if_pos (by decide +kernel)];kernel_rfl)|(rw[if_neg (by decide +kernel)];exact⟨rfl,rfl⟩))
  (fun os started H enc _ F=>by rw[OpenClaim.pre_eq_preRow];exact lifted os started H enc F)
theorem plain(f:FuncId)(fn:Func)(hf:Tryz.pinned.checked.prog.funcNamed "caissa/caissalaw19.SymmetryCanonical" = some f) (hfn:Tryz.pinned.checked.prog.funcs[f]?=some fn) :
  true=Tryz.pinned.checked.prog.looks []/\∀ (j:Nat) t,fn.params[j]?=some t->Tryz.pinned.checked.prog.wantsStandIn t=false:=by
 obtain rfl:f=4:=Option.some.inj ((show Tryz.prog.funcNamed "caissa/caissalaw19.SymmetryCanonical" = some 4 by kernel_rfl).symm.trans hf)|>.symm
 obtain rfl:fn=Tryz.f4:=(Option.some.inj (Tryz.func4.symm.trans hfn)).symm
 refine⟨by kernel_rfl,fun j t ht=>?_⟩
 rw[Tryz.params4]at ht
 have hm:=Array.mem_of_getElem? ht
 have hall:(Tryz.f4.params.toList.all fun t=>!Tryz.prog.wantsStandIn t)=true:=by kernel_rfl
 rw[Tryz.params4]at hall
 have h2:=List.all_eq_true.1 hall t (Array.mem_toList_iff.2 hm)
 rw[Bool.not_eq_true']at h2
 exact h2
theorem card:Rows.SymmetryCanonicalCardSaid:=
 Claim7.holds_tied_plain_at .later [] _ _ _ _ said (fun _ h=>by cases h) (by kernel_rfl) (fun _ h=>by cases h) symmetryCanonical_row_tie rfl ⟨rfl,rfl⟩ (by kernel_rfl) rfl plain (by kernel_rfl)
end symmetryCanonical
#print axioms symmetryCanonical.card
end Go.Ab
