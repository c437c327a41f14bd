/- Contracts of the functions that the laws reach, and plain laws of what they compute (text G13); no condition. -/
import Derived.Test.YtlannahgjgpfcaaGreatDoorG6
import Derived.Test.YtlannahgjgpfcaaGreatDoorG10
namespace Go.Ab
open Go.Proofs Go.Proofs.YtlannahgjgpfcaaGreatDoor Go.RowKit Go.ChangeShapes Go.WideShapes Go.ChangeAt
set_option maxRecDepth 100000
namespace symmetryGroup
theorem contract(H:Type)(enc:TypeId×Value->H)(W:World)(base:Nat)(args:Array Value)(ds gs:List (DataW H))(before:List MemPlace)
  (hval:∀ (j:Nat) t v,Tryz.f3.params[j]?=some t->args[j]?=some v->Value.okWide Tryz.prog W .any base t v)
  (hW:DataW.Whole enc Tryz.prog Tryz.f3.params.toList Rows.symmetryGroupSpec.vars false W args.toList ds gs before) (hL:laidMetH Tryz.prog Rows.symmetryGroupRow.laid W) :
  Calls Tryz.prog 3 args W fun e W'=>∃ v,e=.returned v/\Rows.symmetryGroupSpec.post enc Tryz.prog Tryz.f3 false true false false W args v W':=by
 have hW':=hW
 obtain⟨p,q,hA0,hV,rfl,hfz,hnd⟩:=hW
 have hA:DataW.TrodAll enc Tryz.prog W 0 (fun _=>true) true Tryz.f3.params.toList args.toList ds p:=hA0
 obtain⟨rfl,rfl⟩:=trodVars_none hV
 rw[Tryz.params3]at hA hval
 clear hA0 hV hfz hnd
 obtain⟨v0,w0,d0,ds0,p0,q0,e0,g0,rfl,h0,r0⟩:=trodAll_cons hA
 obtain⟨v1,w1,d1,ds1,p1,q1,e1,g1,rfl,h1,r1⟩:=trodAll_cons r0
 obtain⟨en,gn,rfl⟩:=trodAll_nil r1
 obtain rfl:args=#[v0,v1]:=Array.toList_inj.1 (by rw[e0,e1,en])
 obtain rfl:ds=[d0,d1]:=by rw[g0,g1,gn]
 obtain⟨x0,hv0,_,_,hw0⟩:=open_int Tryz.underlying22 (hval 0 22 v0 rfl rfl) h0
 obtain⟨x1,hv1,_,_,hw1⟩:=open_int Tryz.underlying22 (hval 1 22 v1 rfl rfl) h1
 have hr0:=TSy.hr hL W.heap.size
 refine seat_lawH (tb:=4) (vs:=[.int .u8 x0,.int .u8 x1]) (us:=[v0,v1]) hW' hr0 rfl rfl (by kernel_rfl) (by kernel_rfl) Tryz.underlying4 ?_ ⟨_,_,rfl,hv0,_,_,rfl,hv1,rfl⟩ rfl
 exact(zY x0 x1 (xk (nn_wf hw0) (nn_wf hw1)))
theorem laid_met(os:Os):laidMet Tryz.prog Rows.symmetryGroupRow.laid ((laidWorld os).forCall (fun _ _=>0) ⟨#[],#[.int .u8 0,.int .u8 0],[]⟩).memory:=
 laidMet_of_run' 8 (by kernel_rfl) (by kernel_rfl)
theorem reads(os:Os){H:Type}(enc:TypeId×Value->H):∃ places,DataW.whole enc Tryz.prog ((laidWorld os).forCall (fun _ _=>0) ⟨#[],#[.int .u8 0,.int .u8 0],[]⟩).memory Tryz.f3.params.toList Rows.symmetryGroupSpec.vars false (#[.int .u8 0,.int .u8 0]:Array Value).toList 8=some ([.lit (.int .u8 0),.lit (.int .u8 0)],[],places):=
 ⟨[],by kernel_rfl⟩
theorem lifted(os:Os)(started:os.Started)(H:Type)(enc:TypeId×Value->H)(F:Stop.Interp) :
  ReturnsInHanded {} Tryz.checked os 3 .any ((OpenSpec.ofChange Rows.symmetryGroupSpec).preRow enc Tryz.prog Tryz.f3 Rows.symmetryGroupRow.domain false Rows.symmetryGroupRow.laid) (((OpenSpec.ofChange Rows.symmetryGroupSpec).at F).post enc Tryz.prog Tryz.f3 false true false false):=by
 obtain⟨places,hx⟩:=reads os enc
 refine returnsInHanded_of_row (C:=Tryz.checked) (s:=OpenSpec.ofChange Rows.symmetryGroupSpec) seat_own started (by kernel_rfl) Tryz.func3
  (witness_row_at (enc:=enc) (C:=Tryz.checked) false (laidWorld os) #[.int .u8 0,.int .u8 0] rfl (by kernel_rfl) (by kernel_rfl) (by kernel_rfl)
   (OpenSpec.preRow_of_cond 8 hx (by kernel_rfl) (fun k hk=>by cases hk) (by kernel_rfl) (laid_met os))) ?_
 intro W base args ds gs before hval hW _ _ _ hL _ _
 exact contract H enc W base args ds gs before hval hW hL
theorem said:Rows.SymmetryGroupSaid:=
 OpenClaim.holds_of_cond 3 Tryz.f3 rfl rfl rfl rfl rfl rfl rfl ⟨rfl,rfl,rfl,rfl,rfl⟩ rfl rfl rfl rfl rfl (by kernel_rfl) Tryz.func3 (by kernel_rfl)
  (of_decide_eq_true (by kernel_rfl)) (by unfold Func.isWrapper;first|(rw[if_pos (by decide +kernel)];kernel_rfl)|(rw[if_neg (by decide +kernel)];exact⟨rfl,rfl⟩))
  (fun os started H enc _ F=>by rw[OpenClaim.pre_eq_preRow];exact lifted os started H enc F)
theorem plain(f:FuncId)(fn:Func)(hf:Tryz.pinned.checked.prog.funcNamed "caissa/caissalaw19.SymmetryGroup" = some f) (hfn:Tryz.pinned.checked.prog.funcs[f]?=some fn) :
  true=Tryz.pinned.checked.prog.looks []/\∀ (j:Nat) t,fn.params[j]?=some t->Tryz.pinned.checked.prog.wantsStandIn t=false:=by
 obtain rfl:f=3:=Option.some.inj ((show Tryz.prog.funcNamed "caissa/caissalaw19.SymmetryGroup" = some 3 by kernel_rfl).symm.trans hf)|>.symm
 obtain rfl:fn=Tryz.f3:=(Option.some.inj (Tryz.func3.symm.trans hfn)).symm
 refine⟨by kernel_rfl,fun j t ht=>?_⟩
 rw[Tryz.params3]at ht
 have hm:=Array.mem_of_getElem? ht
 have hall:(Tryz.f3.params.toList.all fun t=>!Tryz.prog.wantsStandIn t)=true:=by kernel_rfl
 rw[Tryz.params3]at hall
 have h2:=List.all_eq_true.1 hall t (Array.mem_toList_iff.2 hm)
 rw[Bool.not_eq_true']at h2
 exact h2
theorem card:Rows.SymmetryGroupCardSaid:=
 Claim7.holds_tied_plain_at .later [] _ _ _ _ said (fun _ h=>by cases h) (by kernel_rfl) (fun _ h=>by cases h) symmetryGroup_row_tie rfl ⟨rfl,rfl⟩ (by kernel_rfl) rfl plain (by kernel_rfl)
end symmetryGroup
#print axioms symmetryGroup.card
end Go.Ab
