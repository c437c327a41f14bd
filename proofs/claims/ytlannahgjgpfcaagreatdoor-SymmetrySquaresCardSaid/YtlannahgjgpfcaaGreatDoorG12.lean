/- Contracts of the functions that the laws reach, and plain laws of what they compute (text G12); no condition. -/
import Derived.Test.YtlannahgjgpfcaaGreatDoorG6
import Derived.Test.YtlannahgjgpfcaaGreatDoorG10
namespace Go.Ab
open Go.Proofs Go.Proofs.YtlannahgjgpfcaaGreatDoor Go.RowKit Go.ChangeShapes Go.WideShapes Go.ChangeAt
set_option maxRecDepth 100000
namespace symmetrySquares
theorem contract(H:Type)(enc:TypeId×Value->H)(W:World)(base:Nat)(args:Array Value)(ds gs:List (DataW H))(before:List MemPlace)
  (hval:∀ (j:Nat) t v,Tryz.f7.params[j]?=some t->args[j]?=some v->Value.okWide Tryz.prog W .any base t v)
  (hW:DataW.Whole enc Tryz.prog Tryz.f7.params.toList Rows.symmetrySquaresSpec.vars false W args.toList ds gs before) (hL:laidMetH Tryz.prog Rows.symmetrySquaresRow.laid W) :
  Calls Tryz.prog 7 args W fun e W'=>∃ v,e=.returned v/\Rows.symmetrySquaresSpec.post enc Tryz.prog Tryz.f7 false true false false W args v W':=by
 have hW':=hW
 obtain⟨p,q,hA0,hV,rfl,hfz,hnd⟩:=hW
 have hA:DataW.TrodAll enc Tryz.prog W 0 (fun _=>true) true Tryz.f7.params.toList args.toList ds p:=hA0
 obtain⟨rfl,rfl⟩:=trodVars_none hV
 rw[Tryz.params7]at hA hval
 clear hA0 hV hfz hnd
 obtain⟨v0,w0,d0,ds0,p0,q0,e0,g0,rfl,h0,r0⟩:=trodAll_cons hA
 obtain⟨v1,w1,d1,ds1,p1,q1,e1,g1,rfl,h1,r1⟩:=trodAll_cons r0
 obtain⟨v2,w2,d2,ds2,p2,q2,e2,g2,rfl,h2,r2⟩:=trodAll_cons r1
 obtain⟨v3,w3,d3,ds3,p3,q3,e3,g3,rfl,h3,r3⟩:=trodAll_cons r2
 obtain⟨en,gn,rfl⟩:=trodAll_nil r3
 obtain rfl:args=#[v0,v1,v2,v3]:=Array.toList_inj.1 (by rw[e0,e1,e2,e3,en])
 obtain rfl:ds=[d0,d1,d2,d3]:=by rw[g0,g1,g2,g3,gn]
 obtain⟨a0,b0,hv0,_,_⟩:=arg_size (hval 0 32 v0 rfl rfl) h0
 obtain⟨x1,hv1,_,_,hw1⟩:=open_int Tryz.underlying22 (hval 1 22 v1 rfl rfl) h1
 obtain⟨x2,hv2,_,_,hw2⟩:=open_int Tryz.underlying3 (hval 2 3 v2 rfl rfl) h2
 obtain⟨x3,hv3,_,_,hw3⟩:=open_int Tryz.underlying65 (hval 3 65 v3 rfl rfl) h3
 have hr0:=TSy.hr hL W.heap.size
 refine seat_lawH (tb:=4) (vs:=[.agg [.int .i64 a0,.int .i64 b0],.int .u8 x1,.int .i64 x2,.int .u64 x3]) (us:=[v0,v1,v2,v3]) hW' hr0 rfl rfl (by kernel_rfl) (by kernel_rfl) Tryz.underlying4 ?_ ⟨_,_,rfl,(by rw[hv0];exact vr_pair _ _),_,_,rfl,hv1,_,_,rfl,hv2,_,_,rfl,hv3,rfl⟩ rfl
 exact(BS ⟨a0,b0⟩ x1 x2 x3 (xe (nn_wf hw1) (uk_wf hw3)))
theorem laid_met(os:Os):laidMet Tryz.prog Rows.symmetrySquaresRow.laid ((laidWorld os).forCall (fun _ _=>0) ⟨#[],#[.agg #[.int .i64 0,.int .i64 0],.int .u8 0,.int .i64 0,.int .u64 0],[]⟩).memory:=
 laidMet_of_run' 8 (by kernel_rfl) (by kernel_rfl)
theorem reads(os:Os){H:Type}(enc:TypeId×Value->H):∃ places,DataW.whole enc Tryz.prog ((laidWorld os).forCall (fun _ _=>0) ⟨#[],#[.agg #[.int .i64 0,.int .i64 0],.int .u8 0,.int .i64 0,.int .u64 0],[]⟩).memory Tryz.f7.params.toList Rows.symmetrySquaresSpec.vars false (#[.agg #[.int .i64 0,.int .i64 0],.int .u8 0,.int .i64 0,.int .u64 0]:Array Value).toList 8=some ([.agg [.lit (.int .i64 0),.lit (.int .i64 0)],.lit (.int .u8 0),.lit (.int .i64 0),.lit (.int .u64 0)],[],places):=
 ⟨[],by kernel_rfl⟩
theorem lifted(os:Os)(started:os.Started)(H:Type)(enc:TypeId×Value->H)(F:Stop.Interp) :
  ReturnsInHanded {} Tryz.checked os 7 .any ((OpenSpec.ofChange Rows.symmetrySquaresSpec).preRow enc Tryz.prog Tryz.f7 Rows.symmetrySquaresRow.domain false Rows.symmetrySquaresRow.laid) (((OpenSpec.ofChange Rows.symmetrySquaresSpec).at F).post enc Tryz.prog Tryz.f7 false true false false):=by
 obtain⟨places,hx⟩:=reads os enc
 refine returnsInHanded_of_row (C:=Tryz.checked) (s:=OpenSpec.ofChange Rows.symmetrySquaresSpec) seat_own started (by kernel_rfl) Tryz.func7
  (witness_row_at (enc:=enc) (C:=Tryz.checked) false (laidWorld os) #[.agg #[.int .i64 0,.int .i64 0],.int .u8 0,.int .i64 0,.int .u64 0] rfl (by kernel_rfl) (by kernel_rfl) (by kernel_rfl)
   (OpenSpec.preRow_of_cond 8 hx (by kernel_rfl) (fun k hk=>by cases hk) (by kernel_rfl) (laid_met os))) ?_
 intro W base args ds gs before hval hW _ _ _ hL _ _
 exact contract H enc W base args ds gs before hval hW hL
theorem said:Rows.SymmetrySquaresSaid:=
 OpenClaim.holds_of_cond 7 Tryz.f7 rfl rfl rfl rfl rfl rfl rfl ⟨rfl,rfl,rfl,rfl,rfl⟩ rfl rfl rfl rfl rfl (by kernel_rfl) Tryz.func7 (by kernel_rfl)
  (of_decide_eq_true (by kernel_rfl)) (by unfold Func.isWrapper;first|(rw[if_pos (by decide +kernel)];kernel_rfl)|(rw[if_neg (by decide +kernel)];exact⟨rfl,rfl⟩))
  (fun os started H enc _ F=>by rw[OpenClaim.pre_eq_preRow];exact lifted os started H enc F)
theorem plain(f:FuncId)(fn:Func)(hf:Tryz.pinned.checked.prog.funcNamed "caissa/caissalaw19.SymmetrySquares" = some f) (hfn:Tryz.pinned.checked.prog.funcs[f]?=some fn) :
  true=Tryz.pinned.checked.prog.looks []/\∀ (j:Nat) t,fn.params[j]?=some t->Tryz.pinned.checked.prog.wantsStandIn t=false:=by
 obtain rfl:f=7:=Option.some.inj ((show Tryz.prog.funcNamed "caissa/caissalaw19.SymmetrySquares" = some 7 by kernel_rfl).symm.trans hf)|>.symm
 obtain rfl:fn=Tryz.f7:=(Option.some.inj (Tryz.func7.symm.trans hfn)).symm
 refine⟨by kernel_rfl,fun j t ht=>?_⟩
 rw[Tryz.params7]at ht
 have hm:=Array.mem_of_getElem? ht
 have hall:(Tryz.f7.params.toList.all fun t=>!Tryz.prog.wantsStandIn t)=true:=by kernel_rfl
 rw[Tryz.params7]at hall
 have h2:=List.all_eq_true.1 hall t (Array.mem_toList_iff.2 hm)
 rw[Bool.not_eq_true']at h2
 exact h2
theorem card:Rows.SymmetrySquaresCardSaid:=
 Claim7.holds_tied_plain_at .later [] _ _ _ _ said (fun _ h=>by cases h) (by kernel_rfl) (fun _ h=>by cases h) symmetrySquares_row_tie rfl ⟨rfl,rfl⟩ (by kernel_rfl) rfl plain (by kernel_rfl)
end symmetrySquares
#print axioms symmetrySquares.card
end Go.Ab
