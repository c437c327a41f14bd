/- Contracts of the functions that the laws reach, and plain laws of what they compute (text G14); no condition. -/
import Derived.Test.YtcmhemipmmckoaaGreatDoorG13
import Derived.Test.YtcmhemipmmckoaaGreatDoorG8
import Derived.Test.YtcmhemipmmckoaaGreatDoorG5
import Derived.Test.YtcmhemipmmckoaaGreatDoorG11
import Derived.Test.YtcmhemipmmckoaaGreatDoorG10
set_option maxRecDepth 100000
set_option maxHeartbeats 4000000
namespace Go.Ab
open IntKind
open Go.Proofs
section
variable{kCa kDb:Bool}
def qJ(p:Psn):Option (Bool):=some (decide (Int.ofNat p.zs.length<=64))
def nq(R:Bool):V:=Bb R
def nW(_R:Bool):List O:=[]
def nV:CF
 |[.agg [.int .i64 p_0,.int .i64 p_1,.sl 0 0 p_2n none,.bool p_3,.int .u8 p_4,.int .i64 p_5,.int .i64 p_6,.int .i64 p_7]],[.ints false .i8 p_2]=>retC (decide (p_2n=p_2.length)) (qJ ⟨p_0,p_1,p_2,p_3,p_4,p_5,p_6,p_7⟩) false nq nW
 |_,_=>none
theorem vL(p:Psn){r}(hr:qJ p=some r):aG (GGx kCa kDb) PP 8 [.agg [.int .i64 p.f,.int .i64 p.r,.sl 0 0 p.zs.length none,Bb p.bl,.int .u8 p.ca,.int .i64 p.pa,.int .i64 p.ha,.int .i64 p.fu]] [.ints false .i8 p.zs] (nq r) (nW r):=by
 have hE:=cutE (aC (kCa:=kCa) (kDb:=kDb) (cts:=[]) (inl:=[]) trivial trivial)
 refine dA hE 2 Tryz.func8 rfl rfl nq nW hr ?_ rfl rfl
 exact aQ (aN [] (.inr rfl) rfl rfl rfl rfl rfl)
theorem sY:CtOk (GGx kCa kDb) PP (8,nV):=by
 refine aD Tryz.func8 (by kernel_rfl) rfl fun a0 h0 c0 v0 N0 e hc=>?_
 unfold nV at e
 split at e
 ·rename_i p_0 p_1 p_2n p_3 p_4 p_5 p_6 p_7 p_2
  obtain⟨hl,r,hr,rfl,rfl⟩:=bS e hc
  simp only[decide_eq_true_eq]at hl
  obtain rfl:=hl
  exact vL ⟨p_0,p_1,p_2,p_3,p_4,p_5,p_6,p_7⟩ hr
 ·cases e
def eOf(p:Psn):Option (Int):=let x4:=List.take p.zs.length (List.drop 0 p.zs);let x2:=(aZ p.f p.r x4 p.bl).fst;let x3:=x4.length;bp (decide (x3<=64)) (cn (lany (Psn.mk p.f p.r x4 p.bl p.ca p.pa p.ha p.fu)) (false,0) fun(y1:Bool×Int)=>some (endV (!decide (x2=0)) y1.1))
def Kg(R:Int):V:=.int .i64 R
def Jt(_R:Int):List O:=[]
def AR:CF
 |[.agg [.int .i64 p_0,.int .i64 p_1,.sl 0 0 p_2n none,.bool p_3,.int .u8 p_4,.int .i64 p_5,.int .i64 p_6,.int .i64 p_7]],[.ints false .i8 p_2]=>retC (decide (p_2n=p_2.length)) (eOf ⟨p_0,p_1,p_2,p_3,p_4,p_5,p_6,p_7⟩) 0 Kg Jt
 |_,_=>none
theorem HW(p:Psn){r}(hr:eOf p=some r):aG (GGx true true) PP 34 [.agg [.int .i64 p.f,.int .i64 p.r,.sl 0 0 p.zs.length none,Bb p.bl,.int .u8 p.ca,.int .i64 p.pa,.int .i64 p.ha,.int .i64 p.fu]] [.ints false .i8 p.zs] (Kg r) (Jt r):=by
 have hE:=cutE (aC (kCa:=true) (kDb:=true) (cts:=[(27,xZ),(28,ej),(77,rN)]) (inl:=[]) ⟨tD,dX,wK,trivial⟩ trivial)
 refine dA hE 2 Tryz.func34 rfl rfl Kg Jt hr ?_ rfl rfl
 refine dJ (pl (decide_eq_true (aS rfl)) id) ?_
 refine aR (pl (decide_eq_true (aS rfl)) id) ?_
 refine aj rfl ?_
 exact aQ (aN [] (.inr rfl) rfl rfl rfl rfl rfl)
theorem qo:CtOk (GGx true true) PP (34,AR):=by
 refine aD Tryz.func34 (by kernel_rfl) rfl fun a0 h0 c0 v0 N0 e hc=>?_
 unfold AR at e
 split at e
 ·rename_i p_0 p_1 p_2n p_3 p_4 p_5 p_6 p_7 p_2
  obtain⟨hl,r,hr,rfl,rfl⟩:=bS e hc
  simp only[decide_eq_true_eq]at hl
  obtain rfl:=hl
  exact HW ⟨p_0,p_1,p_2,p_3,p_4,p_5,p_6,p_7⟩ hr
 ·cases e
def eeOf(p:Psn):Option (Int×Int):=let x4:=List.take p.zs.length (List.drop 0 p.zs);let x2:=Psn.mk p.f p.r x4 p.bl p.ca p.pa p.ha p.fu;let x3:=x4.length;bp (decide (x3<=64)) (bif !x2.ok then some (0,2)else cn (eOf x2) 0 fun(y1:Int)=>some (y1,0))
def CA(R:Int×Int):V:=.tup [.int .i64 R.1,.int .i64 R.2]
def BQ(_R:Int×Int):List O:=[]
def sX:CF
 |[.agg [.int .i64 p_0,.int .i64 p_1,.sl 0 0 p_2n none,.bool p_3,.int .u8 p_4,.int .i64 p_5,.int .i64 p_6,.int .i64 p_7]],[.ints false .i8 p_2]=>retC (decide (p_2n=p_2.length)) (eeOf ⟨p_0,p_1,p_2,p_3,p_4,p_5,p_6,p_7⟩) (0,0) CA BQ
 |_,_=>none
theorem EG(p:Psn){r}(hr:eeOf p=some r):aG (GGx true true) PP 10 [.agg [.int .i64 p.f,.int .i64 p.r,.sl 0 0 p.zs.length none,Bb p.bl,.int .u8 p.ca,.int .i64 p.pa,.int .i64 p.ha,.int .i64 p.fu]] [.ints false .i8 p.zs] (CA r) (BQ r):=by
 have hE:=cutE (aC (kCa:=true) (kDb:=true) (cts:=[(33,dF),(34,AR)]) (inl:=[]) ⟨cm,qo,trivial⟩ trivial)
 refine dA hE 2 Tryz.func10 rfl rfl CA BQ hr ?_ rfl rfl
 refine dJ (pl (decide_eq_true (aS rfl)) id) ?_
 refine aI hE 2 rfl ?_ ?_
 ·exact aQ (aN [] (.inr rfl) rfl rfl rfl rfl rfl)
 refine aR (pl (decide_eq_true (aS rfl)) id) ?_
 exact aQ (aN [] (.inr rfl) rfl rfl rfl rfl rfl)
theorem nu:CtOk (GGx true true) PP (10,sX):=by
 refine aD Tryz.func10 (by kernel_rfl) rfl fun a0 h0 c0 v0 N0 e hc=>?_
 unfold sX at e
 split at e
 ·rename_i p_0 p_1 p_2n p_3 p_4 p_5 p_6 p_7 p_2
  obtain⟨hl,r,hr,rfl,rfl⟩:=bS e hc
  simp only[decide_eq_true_eq]at hl
  obtain rfl:=hl
  exact EG ⟨p_0,p_1,p_2,p_3,p_4,p_5,p_6,p_7⟩ hr
 ·cases e
def Hj:Psn->Int->Int->Option (Int ⊕ Int ⊕ Int×Int):=fun(p:Psn) (e2 s8:Int)=>cn (sJ (Siz.mk p.f p.r) (bE p.f p.r (List.take p.zs.length (List.drop 0 p.zs)) p.bl).fst e2) (0,0) fun(y9:Int×Int)=>dN (bif !decide (y9.1=1)then bp (decide (0<=e2)) (some (Sum.inl (band Go.BinOp.andNot u64 s8 (u64.wrap (1*2^Min.min e2.toNat u64.bits)))))else some (Sum.inl s8)) fun(s11:Int)=>some (Sum.inl s11)
def eFl(p:Psn):Option (Int×Int):=let x24:=List.take p.zs.length (List.drop 0 p.zs);let x22:=Psn.mk p.f p.r x24 p.bl p.ca p.pa p.ha p.fu;let x23:=x24.length;let x21:=decide (x23<=64);bp x21 (bif !x22.ok then some (0,2)else bp x21 (cn (dG x22 (bE p.f p.r x24 p.bl).fst) (0,0) fun(y1:Int×Int)=>cI (Hj p) (fun(s8:Int)=>some (s8,0)) (fun(_s8:Int)=>none) (jb y1.1) y1.1))
def Ji(R:Int×Int):V:=.tup [.int .u64 R.1,.int .i64 R.2]
def Kl(_R:Int×Int):List O:=[]
def FC:CF
 |[.agg [.int .i64 p_0,.int .i64 p_1,.sl 0 0 p_2n none,.bool p_3,.int .u8 p_4,.int .i64 p_5,.int .i64 p_6,.int .i64 p_7]],[.ints false .i8 p_2]=>retC (decide (p_2n=p_2.length)) (eFl ⟨p_0,p_1,p_2,p_3,p_4,p_5,p_6,p_7⟩) (0,0) Ji Kl
 |_,_=>none
theorem IT(p:Psn){r}(hr:eFl p=some r):aG (GGx true true) PP 21 [.agg [.int .i64 p.f,.int .i64 p.r,.sl 0 0 p.zs.length none,Bb p.bl,.int .u8 p.ca,.int .i64 p.pa,.int .i64 p.ha,.int .i64 p.fu]] [.ints false .i8 p.zs] (Ji r) (Kl r):=by
 have hE:=cutE (aC (kCa:=true) (kDb:=true) (cts:=[(33,dF),(49,tW),(50,kp),(52,wU)]) (inl:=[(51,Tryz.f51)]) ⟨cm,mz,rP,zY,trivial⟩ ⟨⟨Tryz.func51,by kernel_rfl⟩,trivial⟩)
 refine dA hE 2 Tryz.func21 rfl rfl Ji Kl hr ?_ rfl rfl
 refine dJ (pl (decide_eq_true (aS rfl)) id) ?_
 refine aI hE 2 rfl ?_ ?_
 ·exact aQ (aN [] (.inr rfl) rfl rfl rfl rfl rfl)
 refine dJ (pl (decide_eq_true (aS rfl)) id) ?_
 refine aR (pl (decide_eq_true (aS rfl)) id) ?_
 refine qC hE 2 5 (let x29:=List.take p.zs.length (List.drop 0 p.zs);let x28:=(bE p.f p.r x29 p.bl).fst;fun(s8:Int)=>[O.ints false i8 p.zs,O.cells true [I p.f,I p.r,V.sl 0 0 p.zs.length none,Bb p.bl,V.int u8 p.ca,I p.pa,I p.ha,I p.fu],O.cells true [I x28],O.cells true [U s8],O.cells true [U ((dG (Psn.mk p.f p.r x29 p.bl p.ca p.pa p.ha p.fu) x28).getD (0,0)).fst]]) (let x32:=List.take p.zs.length (List.drop 0 p.zs);let x31:=(bE p.f p.r x32 p.bl).fst;fun(s8:Int)=>[O.ints false i8 p.zs,O.cells true [I p.f,I p.r,V.sl 0 0 p.zs.length none,Bb p.bl,V.int u8 p.ca,I p.pa,I p.ha,I p.fu],O.cells true [I x31],O.cells true [U s8],O.cells true [U ((dG (Psn.mk p.f p.r x32 p.bl p.ca p.pa p.ha p.fu) x31).getD (0,0)).fst]]) 0 (jb ((dG (Psn.mk p.f p.r (List.take p.zs.length (List.drop 0 p.zs)) p.bl p.ca p.pa p.ha p.fu) (bE p.f p.r (List.take p.zs.length (List.drop 0 p.zs)) p.bl).fst).getD (0,0)).fst) (fun(e2:Int)=>[I e2]) (fun(e2 s8:Int)=>(8,I e2)::putPs (#[33]:Array Nat).toList [I e2] [(1,V.ptr 1 0 0),(2,U 0),(3,I 0),(4,V.ptr 2 0 0),(6,V.ptr 3 0 0),(32,V.fn 95 [V.ptr 4 0 0])]) [4] [1,2,3,4,6,32] ((Ent.rn [0,1,2,3,4] [1,2,3,4,6,32] rfl rfl rfl rfl rfl).trans ((Ent.rn [0,1,2,3,4] [1,2,3,4,6,32] rfl rfl rfl rfl rfl))) (rJ (kCa:=true) _) (fun _=>rfl) (ent Tryz.func95 (by kernel_rfl) rfl) rfl rfl rfl rfl rfl rfl (fun _=>rfl) (fun _=>rfl) (fun _ _=>rfl) (fun e2 s8=>?_) (fun s8=>?_) (fun s8=>jX)
 ·refine aR (pl rfl id) ?_
  refine dc hE 2 (let x37:=List.take p.zs.length (List.drop 0 p.zs);let x36:=(bE p.f p.r x37 p.bl).fst;fun(s11:Int)=>([],[O.ints false i8 p.zs,O.cells true [I p.f,I p.r,V.sl 0 0 p.zs.length none,Bb p.bl,V.int u8 p.ca,I p.pa,I p.ha,I p.fu],O.cells true [I x36],O.cells true [U s11],O.cells true [U ((dG (Psn.mk p.f p.r x37 p.bl p.ca p.pa p.ha p.fu) x36).getD (0,0)).fst]])) rfl ?_ ?_ (fun s11=>?_)
  ·refine aj rfl ?_
   refine bZ ?_
   exact bN ((Ent.rn [0,1,2,3,4] [] rfl rfl rfl rfl rfl))
  ·exact bN ((Ent.rn [0,1,2,3,4] [] rfl rfl rfl rfl rfl))
  exact lF ((Ent.rn [0,1,2,3,4] [] rfl rfl rfl rfl rfl))
 exact aQ (aN [] (.inr rfl) rfl rfl rfl rfl rfl)
theorem yK:CtOk (GGx true true) PP (21,FC):=by
 refine aD Tryz.func21 (by kernel_rfl) rfl fun a0 h0 c0 v0 N0 e hc=>?_
 unfold FC at e
 split at e
 ·rename_i p_0 p_1 p_2n p_3 p_4 p_5 p_6 p_7 p_2
  obtain⟨hl,r,hr,rfl,rfl⟩:=bS e hc
  simp only[decide_eq_true_eq]at hl
  obtain rfl:=hl
  exact IT ⟨p_0,p_1,p_2,p_3,p_4,p_5,p_6,p_7⟩ hr
 ·cases e
instance:Inhabited Psn:=⟨⟨0,0,[],false,0,0,0,0⟩⟩
end
end Go.Ab
namespace Go.Ab
open Go.Proofs
def resW(bl:Bool)(x:Int):Int×Bool:=bif decide (x=2) then(bif bl then 1 else -1,true)else bif decide (x=3) then(0,true) else(0,false)
def eRes(p:Psn):Option (Int×Bool×Int):=cn (eeOf (Psn.mk p.f p.r (List.take p.zs.length (List.drop 0 p.zs)) p.bl p.ca p.pa p.ha p.fu)) (0,0) fun y=>bif !decide (y.2=0)then some (0,false,y.2)else some ((resW p.bl y.1).1,(resW p.bl y.1).2,0)
theorem LW(x:Int)(w:World)(b:Bool):(Instr.checkKey b 10000 29 (.int .i64 x)).run PP w=.ok () w:=by kernel_rfl
theorem Jw:PP.underlying 72=some (.map 29 3):=by kernel_rfl
theorem EU:PP.underlying 29=some (.int .i64):=by kernel_rfl
theorem Ig(w:World):(zeroValue 3).run PP w=.ok (.int .i64 0) w:=by kernel_rfl
theorem oK{x:Int}{uk:Value}(h:∀ ρ,VR ρ (I x) uk):uk=.int .i64 x:=h fun _=>none
theorem BZ{x:Int}{uk:Value}(h:∀ ρ,VR ρ (I x) uk):Af PP 72 29 uk:=by
 rw[oK h]
 exact⟨⟨_,Jw⟩,fun w b=>LW x w b⟩
def resM(bl:Bool):Mp:=[(I 2,I (bif bl then 1 else -1)),(I 3,I 0)]
theorem yd{bl:Bool}{x:Int}{l:List MapEntry}(hl:fC (resM bl) l)(w:World) :
  (do let y <-Instr.findKey 29 (.int .i64 x) l;match y with|some (_,v)=>pure (v,true)|none=>pure (<-zeroValue 3,false):Sem (Value×Bool)).run PP w=.ok (.int .i64 (resW bl x).1,(resW bl x).2) w:=by
 have h1:=lD (zs:=[(2,I (bif bl then 1 else -1)),(3,I 0)]) EU (x:=x) hl w
 obtain⟨e0,l0,rfl,_,v0,e1,l1,rfl,_,v1,hl1⟩:=hl
 have hl1:l1=[]:=hl1
 subst hl1
 have v0:e0.val=.int .i64 (bif bl then 1 else -1):=v0 fun _=>none
 have v1:e1.val=.int .i64 0:=v1 fun _=>none
 rw[Sem.run_bind,h1,Result.andThen_ok]
 unfold resW
 simp only[List.map_cons,List.map_nil]
 cases decide (x=2) with
 |true=>simp only[eE,cond_true,v0];rfl
 |false=>
 cases decide (x=3) with
 |true=>simp only[eE,cond_true,cond_false,v1];rfl
 |false=>simp only[eE,cond_false,Sem.run_bind,Ig,Result.andThen_ok];rfl
theorem Ds{l:List MapEntry}(hl:fC (resM true) l):∃ e,l[0]?=some e/\e.key=.int .i64 2/\Instr.sameBits 10000 (.int .i64 2) (.int .i64 2)=true/\∀ w,(Instr.findKey 29 (.int .i64 2) l).run PP w=.ok (some (0,e.val)) w:=by
 have h1:=fun w=>lD (zs:=[(2,I 1),(3,I 0)]) EU (x:=2) hl w
 obtain⟨e0,l0,rfl,k0,v0,e1,l1,rfl,_,v1,hl1⟩:=hl
 exact⟨e0,rfl,k0 fun _=>none,by kernel_rfl,fun w=>(h1 w).trans rfl⟩
def Hl(R:Int×Bool×Int):V:=.tup [.int .i64 R.1,.bool R.2.1,.int .i64 R.2.2]
def HE(_:Int×Bool×Int):List O:=[]
theorem Ez(p:Psn){r}(hr:eRes p=some r):aG (GGx true true) PP 11 [.agg [.int .i64 p.f,.int .i64 p.r,.sl 0 0 p.zs.length none,Bb p.bl,.int .u8 p.ca,.int .i64 p.pa,.int .i64 p.ha,.int .i64 p.fu]] [.ints false .i8 p.zs] (Hl r) (HE r):=by
 have hE:=aC (kCa:=true) (kDb:=true) (cts:=[(10,sX)]) (inl:=[]) ⟨nu,trivial⟩ trivial
 refine mC hE (fn:=Tryz.f11) Tryz.func11 rfl rfl fun n B S w0 ρ0=>?_
 unfold eRes cn bp at hr
 obtain⟨o,ho⟩:∃ o,o=eeOf (Psn.mk p.f p.r (List.take p.zs.length (List.drop 0 p.zs)) p.bl p.ca p.pa p.ha p.fu):=⟨_,rfl⟩
 rw[<-ho]at hr
 cases hs:o.isSome with
 |false=>rw[hs]at hr;cases hr
 |true=>
 rw[hs,cond_true]at hr
 dsimp only at hr
 refine YM.seq (YM.seg hE 2 ?_)
 refine ae ?_
 refine YM.seq (YM.seg hE 2 ?_)
 refine ag (pl (decide_eq_true (aS rfl)) (fun _=>by rw[<-ho];exact hs) hs) ?_
 refine ae ?_
 refine YM.seq (YM.seg hE 2 ?_)
 refine ax (fun h=>ae ?_) (fun h=>ae ?_)
 ·rw[<-ho]at h ⊢
  rw[h,cond_true]at hr
  cases hr
  exact⟨_,_,Ent.refl _ _ _,aN [] (.inr rfl) rfl rfl rfl rfl rfl⟩
 rw[<-ho]at h ⊢
 rw[h,cond_false]at hr
 cases hr
 refine YM.seq (YM.region ?_)
 refine YO.make rfl rfl rfl rfl rfl rfl ?_
 refine YO.insert (kt:=29) (K:=I 2) (X:=I 1) (.inl rfl) rfl rfl rfl rfl rfl rfl (fun uk hk=>⟨BZ hk,fun l hl w=>?_⟩) ?_
 ·rw[oK hk];exact lD (zs:=[]) EU hl w
 refine YO.insert (kt:=29) (K:=I 3) (X:=I 0) (.inl rfl) rfl rfl rfl rfl rfl rfl (fun uk hk=>⟨BZ hk,fun l hl w=>?_⟩) ?_
 ·rw[oK hk];exact(lD (zs:=[(2,I 1)]) EU hl w).trans (by rw[fM rfl])
 refine YO.seg hE 2 [_,_] [] rfl ?_
 refine ae ?_
 refine YO.nil ?_
 refine YM.seq (YM.seq (YM.seg hE 2 ?_))
 refine ae ?_
 refine(YM.cond (b:=!p.bl) rfl (fun hb=>?_) (fun hb=>?_))
 ·have hb:p.bl=false:=by simpa using hb
  refine YM.region ?_
  refine YO.seg hE 2 [_] [_] rfl ?_
  refine ae ?_
  refine YO.update (kt:=29) (i:=0) (K:=I 2) (X:=I (-1)) rfl rfl rfl rfl rfl rfl rfl (fun uk hk=>⟨BZ hk,fun l hl=>?_⟩) rfl ?_
  ·rw[oK hk];exact Ds hl
  refine YO.nil ?_
  refine YM.seq (YM.region ?_)
  refine YO.seg hE 2 [_,_] [_,_,_,_,_,_] rfl ?_
  refine ae ?_
  refine YO.lookup (kt:=29) (K:=I (o.getD (0,0)).1) (v:=.tup [I (resW p.bl (o.getD (0,0)).1).1,.bool (resW p.bl (o.getD (0,0)).1).2]) rfl rfl rfl rfl rfl (by rw[ho];rfl) rfl (fun uk hk=>⟨BZ hk,fun l hl=>⟨3,.int .i64 (resW p.bl (o.getD (0,0)).1).1,(resW p.bl (o.getD (0,0)).1).2,Jw,fun w=>?_,fun ρ=>⟨_,rfl,_,_,rfl,rfl,_,_,rfl,rfl,rfl⟩⟩⟩) ?_
  ·rw[oK hk,hb];exact yd (bl:=false) hl w
  refine YO.seg hE 2 [_,_,_,_,_] [] rfl ?_
  refine ae ?_
  refine YO.nil ?_
  refine YM.seg hE 2 ?_
  refine ae ?_
  exact⟨_,_,Ent.refl _ _ _,aN [] (.inr rfl) rfl rfl rfl rfl rfl⟩
 ·have hb:p.bl=true:=by simpa using hb
  refine YM.seg hE 2 ?_
  refine ae ?_
  refine YM.seq (YM.region ?_)
  refine YO.seg hE 2 [_,_] [_,_,_,_,_,_] rfl ?_
  refine ae ?_
  refine YO.lookup (kt:=29) (K:=I (o.getD (0,0)).1) (v:=.tup [I (resW p.bl (o.getD (0,0)).1).1,.bool (resW p.bl (o.getD (0,0)).1).2]) rfl rfl rfl rfl rfl (by rw[ho];rfl) rfl (fun uk hk=>⟨BZ hk,fun l hl=>⟨3,.int .i64 (resW p.bl (o.getD (0,0)).1).1,(resW p.bl (o.getD (0,0)).1).2,Jw,fun w=>?_,fun ρ=>⟨_,rfl,_,_,rfl,rfl,_,_,rfl,rfl,rfl⟩⟩⟩) ?_
  ·rw[oK hk,hb];exact yd (bl:=true) hl w
  refine YO.seg hE 2 [_,_,_,_,_] [] rfl ?_
  refine ae ?_
  refine YO.nil ?_
  refine YM.seg hE 2 ?_
  refine ae ?_
  exact⟨_,_,Ent.refl _ _ _,aN [] (.inr rfl) rfl rfl rfl rfl rfl⟩
def xN:CF
 |[.agg [.int .i64 p_0,.int .i64 p_1,.sl 0 0 p_2n none,.bool p_3,.int .u8 p_4,.int .i64 p_5,.int .i64 p_6,.int .i64 p_7]],[.ints false .i8 p_2]=>retC (decide (p_2n=p_2.length)) (eRes ⟨p_0,p_1,p_2,p_3,p_4,p_5,p_6,p_7⟩) (0,false,0) Hl HE
 |_,_=>none
theorem ug:CtOk (GGx true true) PP (11,xN):=by
 refine aD Tryz.func11 (by kernel_rfl) rfl fun a0 h0 c0 v0 N0 e hc=>?_
 unfold xN at e
 split at e
 ·rename_i p_0 p_1 p_2n p_3 p_4 p_5 p_6 p_7 p_2
  obtain⟨hl,r,hr,rfl,rfl⟩:=bS e hc
  simp only[Bool.and_eq_true,decide_eq_true_eq]at hl
  obtain rfl:=hl
  exact Ez ⟨p_0,p_1,p_2,p_3,p_4,p_5,p_6,p_7⟩ hr
 ·cases e
end Go.Ab
namespace Go.Ab
open IntKind
open Go.Proofs
section
variable{kCa kDb:Bool}
def eD:List Int->Int->Int->Option (Int ⊕ Unit ⊕ Bool):=fun(g:List Int) (x s6:Int)=>let x13:=decide (s6<Int.ofNat g.length);bif x13 then bp (decide (0<=s6)&&x13) (bif decide (x=g.getD s6.toNat 0)then escO (escO (some true))else some (Sum.inl (i64.wrap (s6+1))))else some (Sum.inr (Sum.inl ()))
def has(g:List Int)(x:Int):Option (Bool):=dg (eD g x) (fun(_s11:Unit)=>some false) 1000000 0
def Ic(R:Bool):V:=Bb R
def IB(_R:Bool):List O:=[]
def Gl:CF
 |[.sl 0 0 g_0n none,.int .i64 x_0],[.ints false .i64 g_0]=>retC (decide (g_0n=g_0.length)) (has g_0 x_0) false Ic IB
 |_,_=>none
theorem JT(g:List Int)(x:Int){r}(hr:has g x=some r):aG (GGx kCa kDb) PP 44 [.sl 0 0 g.length none,.int .i64 x] [.ints false .i64 g] (Ic r) (IB r):=by
 have hE:=cutE (aC (kCa:=kCa) (kDb:=kDb) (cts:=[]) (inl:=[]) trivial trivial)
 refine dA hE 2 Tryz.func44 rfl rfl Ic IB hr ?_ rfl rfl
 refine eJ hE 2 (fun(s6:Int)=>([(1,I x),(4,Bb false),(7,V.sl 0 0 g.length none),(8,I (Int.ofNat g.length)),(9,I s6)],[O.ints false i64 g])) (fun(s11:Unit)=>([(4,Bb false)],[O.ints false i64 g])) (.exit 0) ((Ent.rn [0] [1,4,7,8,9] rfl rfl rfl rfl rfl)) (fun s6=>?_) (fun s11=>?_)
 ·refine aI hE 2 rfl ?_ ?_
  ·refine bZ ?_
   refine aI hE 2 rfl ?_ ?_
   ·refine tE (by simp) (mF ?_)
    exact aQ (aN [] (.inr rfl) rfl rfl rfl rfl rfl)
   exact eo ((Ent.rn [0] [1,4,7,8,9] rfl rfl rfl rfl rfl))
  exact dV ((Ent.rn [0] [4] rfl rfl rfl rfl rfl))
 exact aQ (aN [] (.inr rfl) rfl rfl rfl rfl rfl)
theorem xQ:CtOk (GGx kCa kDb) PP (44,Gl):=by
 refine aD Tryz.func44 (by kernel_rfl) rfl fun a0 h0 c0 v0 N0 e hc=>?_
 unfold Gl at e
 split at e
 ·rename_i g_0n x_0 g_0
  obtain⟨hl,r,hr,rfl,rfl⟩:=bS e hc
  simp only[decide_eq_true_eq]at hl
  obtain rfl:=hl
  exact JT g_0 x_0 hr
 ·cases e
def zf:Mov×Psn->List (List Int)->Option (List (List Int) ⊕ List (List Int) ⊕ List (List Int)×Int):=fun(e1:Mov×Psn) (s8:List (List Int))=>let x19:=(s8.length+1)*24;cn (eOf (Psn.mk e1.2.f e1.2.r (List.take e1.2.zs.length (List.drop 0 e1.2.zs)) e1.2.bl e1.2.ca e1.2.pa e1.2.ha e1.2.fu)) 0 fun(y9:Int)=>cn (has (List.take 1 (List.drop 0 (iL [2]))) y9) false fun(y10:Bool)=>dN (bif y10 then bp (decide (x19<=140737488355328)) (some (Sum.inl (s8++List.take 1 (List.drop 0 [iL [e1.1.a,e1.1.b,e1.1.p]]))))else some (Sum.inl s8)) fun(s12:List (List Int))=>some (Sum.inl s12)
def eMt(p:Psn):Option (List (List Int)×Int):=let x27:=List.take p.zs.length (List.drop 0 p.zs);let x25:=Psn.mk p.f p.r x27 p.bl p.ca p.pa p.ha p.fu;let x26:=x27.length;let x24:=decide (x26<=64);bp x24 (bif !x25.ok then some ([],2)else bp x24 (bp (afOk x25) (cI zf (fun(s8:List (List Int))=>some (s8,0)) (fun(_s8:List (List Int))=>none) (afLs x25) [])))
def IG(R:List (List Int)×Int):V:=.tup [.sl 1 0 R.1.length none,.int .i64 R.2]
def Jl(R:List (List Int)×Int):List O:=[.rows true [.i64,.i64,.i8] R.1]
def Et:CF
 |[.agg [.int .i64 p_0,.int .i64 p_1,.sl 0 0 p_2n none,.bool p_3,.int .u8 p_4,.int .i64 p_5,.int .i64 p_6,.int .i64 p_7]],[.ints false .i8 p_2]=>retC (decide (p_2n=p_2.length)) (eMt ⟨p_0,p_1,p_2,p_3,p_4,p_5,p_6,p_7⟩) ([],0) IG Jl
 |_,_=>none
theorem Ip(p:Psn){r}(hr:eMt p=some r):aG (GGx true true) PP 16 [.agg [.int .i64 p.f,.int .i64 p.r,.sl 0 0 p.zs.length none,Bb p.bl,.int .u8 p.ca,.int .i64 p.pa,.int .i64 p.ha,.int .i64 p.fu]] [.ints false .i8 p.zs] (IG r) (Jl r):=by
 have hE:=cutE (aC (kCa:=true) (kDb:=true) (cts:=[(33,dF),(34,AR),(44,Gl),(60,jH)]) (inl:=[(45,Tryz.f45),(30,Tryz.f30)]) ⟨cm,qo,xQ,gJ,trivial⟩ ⟨⟨Tryz.func45,by kernel_rfl⟩,⟨Tryz.func30,by kernel_rfl⟩,trivial⟩)
 refine dA hE 3 Tryz.func16 rfl rfl IG Jl hr ?_ rfl rfl
 refine dJ (pl (decide_eq_true (aS rfl)) id) ?_
 refine aI hE 3 rfl ?_ ?_
 ·exact aQ (nD 2 (.rows true [.i64,.i64,.i8] []) rfl rfl rfl<|aN [5] (.inr rfl) rfl rfl rfl rfl rfl)
 refine dJ (pl (decide_eq_true (aS rfl)) id) ?_
 refine Cr (fun qr91319=>?_)
 refine mo hE 3 9 (let x31:=[Bb p.bl,V.int u8 p.ca,I p.pa,I p.ha,I p.fu];let x32:=List.take p.zs.length (List.drop 0 p.zs);let x30:=I p.f::I p.r::V.sl 0 0 p.zs.length none::x31;fun(s8:List (List Int))=>[O.ints false i8 p.zs,O.cells true x30,O.ints true i64 (iL [2]),O.cells true x30,O.cells true [V.fn (BM+44) [V.sl 2 0 1 none]],O.cells true [V.sl 9 0 s8.length none],O.cells true (I p.f::I p.r::V.sl 7 0 x32.length none::x31),O.ints true i8 x32,O.gone,O.rows true [i64,i64,i8] s8]) (let x35:=[Bb p.bl,V.int u8 p.ca,I p.pa,I p.ha,I p.fu];let x36:=List.take p.zs.length (List.drop 0 p.zs);let x34:=I p.f::I p.r::V.sl 0 0 p.zs.length none::x35;fun(s8:List (List Int))=>[O.ints false i8 p.zs,O.cells true x34,O.ints true i64 (iL [2]),O.cells true x34,O.cells true [V.fn (BM+44) [V.sl 2 0 1 none]],O.cells true [V.sl 9 0 s8.length none],O.cells true (I p.f::I p.r::V.sl 7 0 x36.length none::x35),O.ints true i8 x36,O.gone,O.rows true [i64,i64,i8] s8]) 0 (afLs (Psn.mk p.f p.r (List.take p.zs.length (List.drop 0 p.zs)) p.bl p.ca p.pa p.ha p.fu)) vh afNs (Bi (Psn.mk p.f p.r (List.take p.zs.length (List.drop 0 p.zs)) p.bl p.ca p.pa p.ha p.fu)) (afHc (Psn.mk p.f p.r (List.take p.zs.length (List.drop 0 p.zs)) p.bl p.ca p.pa p.ha p.fu)) EH 8 (let x38:=(Psn.mk p.f p.r (List.take p.zs.length (List.drop 0 p.zs)) p.bl p.ca p.pa p.ha p.fu).ok;fun(e1:Mov×Psn) (s8:List (List Int))=>(8,V.ptr 13 0 0)::(7,V.ptr 12 0 0)::putPs (#[14,15]:Array Nat).toList [V.agg [I e1.1.a,I e1.1.b,V.int i8 e1.1.p],V.agg [I e1.2.f,I e1.2.r,V.sl 11 0 e1.2.zs.length none,Bb e1.2.bl,V.int u8 e1.2.ca,I e1.2.pa,I e1.2.ha,I e1.2.fu]] [(1,V.fn (BM+44) [V.sl 2 0 1 none]),(2,V.ptr 3 0 0),(3,V.ptr 4 0 0),(4,V.nils),(5,I 0),(6,V.ptr 5 0 0),(9,V.agg [I p.f,I p.r,V.sl 0 0 p.zs.length none,Bb p.bl,V.int u8 p.ca,I p.pa,I p.ha,I p.fu]),(10,Bb x38),(11,Bb !x38),(13,V.fn 61 [V.ptr 6 0 0])]) _ [6,7] [1,2,3,4,5,6,9,10,11,13] ((Ent.gap rfl rfl).trans ((Ent.rn [0,1,2,3,4,5,8,7,9] [1,2,3,4,5,6,9,10,11,13] rfl rfl rfl rfl rfl).trans ((Ent.phC 5 0 (O.rows true [i64,i64,i8] []) rfl rfl rfl rfl rfl).trans (Ent.rn [0,1,2,3,4,5,6,7,8,9] [1,2,3,4,5,6,9,10,11,13] rfl rfl rfl rfl rfl)))) (Dy _ qr91319) (fun _=>⟨rfl,Nat.le_of_ble_eq_true rfl⟩) (ent Tryz.func61 (by kernel_rfl) rfl) rfl rfl rfl rfl rfl rfl rfl rfl rfl rfl rfl rfl (fun _=>(ez rfl rfl rfl rfl rfl rfl rfl rfl)) (fun _=>(ez rfl rfl rfl rfl rfl rfl rfl rfl)) (fun _ _=>rfl) (fun e1 s8=>?_) (fun s8=>?_) (fun s8=>jX)
 ·refine aj rfl ?_
  first|unfold zf|unfold xM
  refine aR (pl (decide_eq_true (aS rfl)) id) ?_
  refine aR (pl rfl id) ?_
  refine dc hE 3 (let x42:=[Bb p.bl,V.int u8 p.ca,I p.pa,I p.ha,I p.fu];let x43:=List.take p.zs.length (List.drop 0 p.zs);let x41:=I p.f::I p.r::V.sl 0 0 p.zs.length none::x42;fun(s12:List (List Int))=>([],[O.ints false i8 p.zs,O.cells true x41,O.ints true i64 (iL [2]),O.cells true x41,O.cells true [V.fn (BM+44) [V.sl 2 0 1 none]],O.cells true [V.sl 9 0 s12.length none],O.cells true (I p.f::I p.r::V.sl 7 0 x43.length none::x42),O.ints true i8 x43,O.rows true [i64,i64,i8] (afL (Psn.mk p.f p.r x43 p.bl p.ca p.pa p.ha p.fu)),O.rows true [i64,i64,i8] s12])) rfl ?_ ?_ (fun s12=>?_)
  ·refine dJ (pr (pl (decide_eq_true rfl) id) rfl) ?_
   exact bN ((Ent.rn [0,1,2,3,4,5,6,7,8,15] [] rfl rfl rfl rfl rfl))
  ·exact bN ((Ent.rn [0,1,2,3,4,5,6,7,8,9] [] rfl rfl rfl rfl rfl))
  exact mh ((Ent.rn [0,1,2,3,4,5,6,7,8,9] [] rfl rfl rfl rfl rfl)) rfl
 exact aQ (aN [9] (.inr rfl) rfl rfl rfl rfl rfl)
theorem xX:CtOk (GGx true true) PP (16,Et):=by
 refine aD Tryz.func16 (by kernel_rfl) rfl fun a0 h0 c0 v0 N0 e hc=>?_
 unfold Et at e
 split at e
 ·rename_i p_0 p_1 p_2n p_3 p_4 p_5 p_6 p_7 p_2
  obtain⟨hl,r,hr,rfl,rfl⟩:=bS e hc
  simp only[decide_eq_true_eq]at hl
  obtain rfl:=hl
  exact Ip ⟨p_0,p_1,p_2,p_3,p_4,p_5,p_6,p_7⟩ hr
 ·cases e
def xM:Mov×Psn->List (List Int)->Option (List (List Int) ⊕ List (List Int) ⊕ List (List Int)×Int):=fun(e1:Mov×Psn) (s8:List (List Int))=>let x19:=(s8.length+1)*24;cn (eOf (Psn.mk e1.2.f e1.2.r (List.take e1.2.zs.length (List.drop 0 e1.2.zs)) e1.2.bl e1.2.ca e1.2.pa e1.2.ha e1.2.fu)) 0 fun(y9:Int)=>cn (has (List.take 2 (List.drop 0 (iL [1,2]))) y9) false fun(y10:Bool)=>dN (bif y10 then bp (decide (x19<=140737488355328)) (some (Sum.inl (s8++List.take 1 (List.drop 0 [iL [e1.1.a,e1.1.b,e1.1.p]]))))else some (Sum.inl s8)) fun(s12:List (List Int))=>some (Sum.inl s12)
def eCk(p:Psn):Option (List (List Int)×Int):=let x27:=List.take p.zs.length (List.drop 0 p.zs);let x25:=Psn.mk p.f p.r x27 p.bl p.ca p.pa p.ha p.fu;let x26:=x27.length;let x24:=decide (x26<=64);bp x24 (bif !x25.ok then some ([],2)else bp x24 (bp (afOk x25) (cI xM (fun(s8:List (List Int))=>some (s8,0)) (fun(_s8:List (List Int))=>none) (afLs x25) [])))
def Iq(R:List (List Int)×Int):V:=.tup [.sl 1 0 R.1.length none,.int .i64 R.2]
def HT(R:List (List Int)×Int):List O:=[.rows true [.i64,.i64,.i8] R.1]
def EJ:CF
 |[.agg [.int .i64 p_0,.int .i64 p_1,.sl 0 0 p_2n none,.bool p_3,.int .u8 p_4,.int .i64 p_5,.int .i64 p_6,.int .i64 p_7]],[.ints false .i8 p_2]=>retC (decide (p_2n=p_2.length)) (eCk ⟨p_0,p_1,p_2,p_3,p_4,p_5,p_6,p_7⟩) ([],0) Iq HT
 |_,_=>none
theorem JJ(p:Psn){r}(hr:eCk p=some r):aG (GGx true true) PP 17 [.agg [.int .i64 p.f,.int .i64 p.r,.sl 0 0 p.zs.length none,Bb p.bl,.int .u8 p.ca,.int .i64 p.pa,.int .i64 p.ha,.int .i64 p.fu]] [.ints false .i8 p.zs] (Iq r) (HT r):=by
 have hE:=cutE (aC (kCa:=true) (kDb:=true) (cts:=[(33,dF),(34,AR),(44,Gl),(60,jH)]) (inl:=[(45,Tryz.f45),(30,Tryz.f30)]) ⟨cm,qo,xQ,gJ,trivial⟩ ⟨⟨Tryz.func45,by kernel_rfl⟩,⟨Tryz.func30,by kernel_rfl⟩,trivial⟩)
 refine dA hE 3 Tryz.func17 rfl rfl Iq HT hr ?_ rfl rfl
 refine dJ (pl (decide_eq_true (aS rfl)) id) ?_
 refine aI hE 3 rfl ?_ ?_
 ·exact aQ (nD 2 (.rows true [.i64,.i64,.i8] []) rfl rfl rfl<|aN [5] (.inr rfl) rfl rfl rfl rfl rfl)
 refine dJ (pl (decide_eq_true (aS rfl)) id) ?_
 refine Cr (fun qr38762=>?_)
 refine mo hE 3 9 (let x31:=[Bb p.bl,V.int u8 p.ca,I p.pa,I p.ha,I p.fu];let x32:=List.take p.zs.length (List.drop 0 p.zs);let x30:=I p.f::I p.r::V.sl 0 0 p.zs.length none::x31;fun(s8:List (List Int))=>[O.ints false i8 p.zs,O.cells true x30,O.ints true i64 (iL [1,2]),O.cells true x30,O.cells true [V.fn (BM+44) [V.sl 2 0 2 none]],O.cells true [V.sl 9 0 s8.length none],O.cells true (I p.f::I p.r::V.sl 7 0 x32.length none::x31),O.ints true i8 x32,O.gone,O.rows true [i64,i64,i8] s8]) (let x35:=[Bb p.bl,V.int u8 p.ca,I p.pa,I p.ha,I p.fu];let x36:=List.take p.zs.length (List.drop 0 p.zs);let x34:=I p.f::I p.r::V.sl 0 0 p.zs.length none::x35;fun(s8:List (List Int))=>[O.ints false i8 p.zs,O.cells true x34,O.ints true i64 (iL [1,2]),O.cells true x34,O.cells true [V.fn (BM+44) [V.sl 2 0 2 none]],O.cells true [V.sl 9 0 s8.length none],O.cells true (I p.f::I p.r::V.sl 7 0 x36.length none::x35),O.ints true i8 x36,O.gone,O.rows true [i64,i64,i8] s8]) 0 (afLs (Psn.mk p.f p.r (List.take p.zs.length (List.drop 0 p.zs)) p.bl p.ca p.pa p.ha p.fu)) vh afNs (Bi (Psn.mk p.f p.r (List.take p.zs.length (List.drop 0 p.zs)) p.bl p.ca p.pa p.ha p.fu)) (afHc (Psn.mk p.f p.r (List.take p.zs.length (List.drop 0 p.zs)) p.bl p.ca p.pa p.ha p.fu)) EH 8 (let x38:=(Psn.mk p.f p.r (List.take p.zs.length (List.drop 0 p.zs)) p.bl p.ca p.pa p.ha p.fu).ok;fun(e1:Mov×Psn) (s8:List (List Int))=>(8,V.ptr 13 0 0)::(7,V.ptr 12 0 0)::putPs (#[14,15]:Array Nat).toList [V.agg [I e1.1.a,I e1.1.b,V.int i8 e1.1.p],V.agg [I e1.2.f,I e1.2.r,V.sl 11 0 e1.2.zs.length none,Bb e1.2.bl,V.int u8 e1.2.ca,I e1.2.pa,I e1.2.ha,I e1.2.fu]] [(1,V.fn (BM+44) [V.sl 2 0 2 none]),(2,V.ptr 3 0 0),(3,V.ptr 4 0 0),(4,V.nils),(5,I 0),(6,V.ptr 5 0 0),(9,V.agg [I p.f,I p.r,V.sl 0 0 p.zs.length none,Bb p.bl,V.int u8 p.ca,I p.pa,I p.ha,I p.fu]),(10,Bb x38),(11,Bb !x38),(13,V.fn 61 [V.ptr 6 0 0])]) _ [6,7] [1,2,3,4,5,6,9,10,11,13] ((Ent.gap rfl rfl).trans ((Ent.rn [0,1,2,3,4,5,8,7,9] [1,2,3,4,5,6,9,10,11,13] rfl rfl rfl rfl rfl).trans ((Ent.phC 5 0 (O.rows true [i64,i64,i8] []) rfl rfl rfl rfl rfl).trans (Ent.rn [0,1,2,3,4,5,6,7,8,9] [1,2,3,4,5,6,9,10,11,13] rfl rfl rfl rfl rfl)))) (Dy _ qr38762) (fun _=>⟨rfl,Nat.le_of_ble_eq_true rfl⟩) (ent Tryz.func61 (by kernel_rfl) rfl) rfl rfl rfl rfl rfl rfl rfl rfl rfl rfl rfl rfl (fun _=>(ez rfl rfl rfl rfl rfl rfl rfl rfl)) (fun _=>(ez rfl rfl rfl rfl rfl rfl rfl rfl)) (fun _ _=>rfl) (fun e1 s8=>?_) (fun s8=>?_) (fun s8=>jX)
 ·refine aj rfl ?_
  first|unfold zf|unfold xM
  refine aR (pl (decide_eq_true (aS rfl)) id) ?_
  refine aR (pl rfl id) ?_
  refine dc hE 3 (let x42:=[Bb p.bl,V.int u8 p.ca,I p.pa,I p.ha,I p.fu];let x43:=List.take p.zs.length (List.drop 0 p.zs);let x41:=I p.f::I p.r::V.sl 0 0 p.zs.length none::x42;fun(s12:List (List Int))=>([],[O.ints false i8 p.zs,O.cells true x41,O.ints true i64 (iL [1,2]),O.cells true x41,O.cells true [V.fn (BM+44) [V.sl 2 0 2 none]],O.cells true [V.sl 9 0 s12.length none],O.cells true (I p.f::I p.r::V.sl 7 0 x43.length none::x42),O.ints true i8 x43,O.rows true [i64,i64,i8] (afL (Psn.mk p.f p.r x43 p.bl p.ca p.pa p.ha p.fu)),O.rows true [i64,i64,i8] s12])) rfl ?_ ?_ (fun s12=>?_)
  ·refine dJ (pr (pl (decide_eq_true rfl) id) rfl) ?_
   exact bN ((Ent.rn [0,1,2,3,4,5,6,7,8,15] [] rfl rfl rfl rfl rfl))
  ·exact bN ((Ent.rn [0,1,2,3,4,5,6,7,8,9] [] rfl rfl rfl rfl rfl))
  exact mh ((Ent.rn [0,1,2,3,4,5,6,7,8,9] [] rfl rfl rfl rfl rfl)) rfl
 exact aQ (aN [9] (.inr rfl) rfl rfl rfl rfl rfl)
theorem yy:CtOk (GGx true true) PP (17,EJ):=by
 refine aD Tryz.func17 (by kernel_rfl) rfl fun a0 h0 c0 v0 N0 e hc=>?_
 unfold EJ at e
 split at e
 ·rename_i p_0 p_1 p_2n p_3 p_4 p_5 p_6 p_7 p_2
  obtain⟨hl,r,hr,rfl,rfl⟩:=bS e hc
  simp only[decide_eq_true_eq]at hl
  obtain rfl:=hl
  exact JJ ⟨p_0,p_1,p_2,p_3,p_4,p_5,p_6,p_7⟩ hr
 ·cases e
end
end Go.Ab
namespace Go.Ab
open Go.Proofs
section
variable{kCa kDb:Bool}
def kx:Nat->Int|0=>0|1=>-1|2=>0|_=>1
def kb:Nat->Bool|0=>false|_=>true
def kt:Nat->List UInt8|0=>[42]|1=>[48,45,49]|2=>[49,47,50,45,49,47,50]|_=>[49,45,48]
def keyV(j:Nat):Value:=.agg #[.int .i64 (kx j),.bool (kb j)]
theorem lt4{j:Nat}(h:j<4):j=0\/j=1\/j=2\/j=3:=by omega
theorem Lp{j i:Nat}(hj:j<4)(hi:i<4)(w:World):(Op.equal 102 (keyV j) (keyV i)).run PP w=.ok (Nat.beq j i) w:=by
 rcases lt4 hj with rfl|rfl|rfl|rfl<;>rcases lt4 hi with rfl|rfl|rfl|rfl<;>kernel_rfl
structure EOk(e:MapEntry):Prop where
 lt:e.born<4
 key:e.key=keyV e.born
 val:e.val=.string ⟨(kt e.born).toArray⟩
structure LOk(l:List MapEntry):Prop where
 all:∀ e∈l,EOk e
 nd:(l.map (·.born)).Nodup
theorem ue{j:Nat}(hj:j<4):∀ (l:List MapEntry) (i:Nat),(∀ e∈l,EOk e)->(∃ e∈l,e.born=j)->∃ k x,(∀ w,(Instr.findAsking 102 (keyV j) l i).run PP w=.ok (some (i+k,x)) w)/\∃ e,l[k]?=some e/\e.born=j
 |[],_,_,⟨e,he,_⟩=>by simp at he
 |e::l,i,h,hx=>by
  have h1:=h e (by simp)
  have he:∀ w,(Op.equal 102 (keyV j) e.key).run PP w=.ok (Nat.beq j e.born) w:=fun w=>by rw[h1.key];exact Lp hj h1.lt w
  cases hb:Nat.beq j e.born with
  |true=>
   rw[hb]at he
   exact⟨0,e.val,fun w=>by simp only[Instr.findAsking,Sem.run_bind,he,Result.andThen_ok,if_true];rfl,e,rfl,(Nat.eq_of_beq_eq_true hb).symm⟩
  |false=>
   rw[hb]at he
   have hne:e.born≠j:=fun q=>Nat.ne_of_beq_eq_false hb q.symm
   obtain⟨k,x,q1,e',q2,q3⟩:=ue hj l (i+1) (fun e he=>h e (by simp[he])) (by
    obtain⟨e',m1,m2⟩:=hx
    rcases List.mem_cons.1 m1 with rfl|m1
    ·exact absurd m2 hne
    ·exact⟨e',m1,m2⟩)
   refine⟨k+1,x,fun w=>?_,e',by simpa using q2,q3⟩
   have:i+(k+1)=i+1+k:=by omega
   rw[this,<-q1 w]
   simp only[Instr.findAsking,Sem.run_bind,he,Result.andThen_ok,Bool.false_eq_true,if_false]
theorem LOk.erase{l:List MapEntry}(h:LOk l){k j:Nat}{e:MapEntry}(hk:l[k]?=some e)(hj:e.born=j):LOk (l.eraseIdx k)/\(∀ x∈l.eraseIdx k,x∈l/\x.born≠j)/\∀ x∈l,x.born≠j->x∈l.eraseIdx k:=by
 have hsub:∀ x∈l.eraseIdx k,x∈l:=fun x hx=>List.mem_of_mem_eraseIdx hx
 refine⟨⟨fun x hx=>h.all x (hsub x hx),?_⟩,fun x hx=>⟨hsub x hx,fun hb=>?_⟩,fun x hx hb=>?_⟩
 ·exact h.nd.sublist ((List.eraseIdx_sublist l k).map _)
 ·obtain⟨i,hi,hik⟩:=List.mem_eraseIdx_iff_getElem?.1 hx
  have hik':=hik
  obtain⟨i',h1⟩:=List.getElem?_eq_some_iff.1 hik
  obtain⟨k',h2⟩:=List.getElem?_eq_some_iff.1 hk
  have hnd:=h.nd
  have:=(List.getElem?_inj (by simpa using i') hnd (j:=k)).1 (by rw[List.getElem?_map,List.getElem?_map,hik,hk];simp[hb,hj])
  exact hi this
 ·obtain⟨i,hi⟩:=List.mem_iff_getElem?.1 hx
  refine List.mem_eraseIdx_iff_getElem?.2 ⟨i,fun e=>?_,hi⟩
  subst e
  rw[hk]at hi
  cases hi
  exact hb hj
def parse(s:List UInt8):Int×Bool×Int:=bif decide (s=kt 0) then(kx 0,kb 0,0)else bif decide (s=kt 1) then(kx 1,kb 1,0)else bif decide (s=kt 2) then(kx 2,kb 2,0)else bif decide (s=kt 3) then(kx 3,kb 3,0) else(0,false,6)
theorem Eu{j:Nat}(hj:j<4):parse (kt j)=(kx j,kb j,0):=by
 rcases lt4 hj with rfl|rfl|rfl|rfl<;>rfl
theorem Ar{s:List UInt8}(h:∀ i,i<4->kt i≠s):parse s=(0,false,6):=by
 unfold parse
 rw[decide_eq_false (fun e=>h 0 (by decide) e.symm),decide_eq_false (fun e=>h 1 (by decide) e.symm),decide_eq_false (fun e=>h 2 (by decide) e.symm),decide_eq_false (fun e=>h 3 (by decide) e.symm)]
 rfl
def ym(seen:Array Nat):Nat:=(bif seen.contains 0 then 0 else 1)+(bif seen.contains 1 then 0 else 1)+(bif seen.contains 2 then 0 else 1)+(bif seen.contains 3 then 0 else 1)
theorem nE{seen:Array Nat}{j:Nat}(hj:j<4)(h:seen.contains j=false):ym (seen.push j)<ym seen:=by
 unfold ym
 simp only[Array.contains_push]
 rcases lt4 hj with rfl|rfl|rfl|rfl<;>rw[h]<;>cases seen.contains 0<;>cases seen.contains 1<;>cases seen.contains 2<;>cases seen.contains 3<;>decide
theorem GR{l:Array MapEntry}{c:Nat}(h:fC txE l.toList)(hc:StO l c):LOk l.toList/\c=4/\∀ i,i<4->∃ e∈l.toList,e.born=i:=by
 obtain⟨e0,l0,q0,k0,v0,e1,l1,rfl,k1,v1,e2,l2,rfl,k2,v2,e3,l3,rfl,k3,v3,hl3⟩:=h
 have hl3:l3=[]:=hl3
 subst hl3
 obtain⟨c1,c2⟩:=hc
 have hs:l.size=4:=by rw[<-Array.length_toList,q0];rfl
 rw[hs,q0]at c2
 simp only[List.map_cons,List.map_nil]at c2
 rw[show List.range 4=[0,1,2,3]from rfl]at c2
 simp only[List.cons.injEq,and_true]at c2
 obtain⟨b0,b1,b2,b3⟩:=c2
 have k0:=gP (k0:∀ ρ,VR ρ (.agg [I 0,.bool false]) e0.key)
 have k1:=gP (k1:∀ ρ,VR ρ (.agg [I (-1),.bool true]) e1.key)
 have k2:=gP (k2:∀ ρ,VR ρ (.agg [I 0,.bool true]) e2.key)
 have k3:=gP (k3:∀ ρ,VR ρ (.agg [I 1,.bool true]) e3.key)
 have v0:e0.val=.string ⟨(kt 0).toArray⟩:=v0 fun _=>none
 have v1:e1.val=.string ⟨(kt 1).toArray⟩:=v1 fun _=>none
 have v2:e2.val=.string ⟨(kt 2).toArray⟩:=v2 fun _=>none
 have v3:e3.val=.string ⟨(kt 3).toArray⟩:=v3 fun _=>none
 refine⟨⟨?_,?_⟩,by rw[c1,hs],?_⟩
 ·rw[q0]
  intro e he
  simp only[List.mem_cons,List.not_mem_nil,or_false]at he
  rcases he with rfl|rfl|rfl|rfl
  ·exact⟨by rw[b0];decide,by rw[b0];exact k0,by rw[b0];exact v0⟩
  ·exact⟨by rw[b1];decide,by rw[b1];exact k1,by rw[b1];exact v1⟩
  ·exact⟨by rw[b2];decide,by rw[b2];exact k2,by rw[b2];exact v2⟩
  ·exact⟨by rw[b3];decide,by rw[b3];exact k3,by rw[b3];exact v3⟩
 ·rw[q0]
  simp only[List.map_cons,List.map_nil,b0,b1,b2,b3]
  decide
 ·rw[q0]
  intro i hi
  rcases lt4 hi with rfl|rfl|rfl|rfl
  ·exact⟨e0,by simp,b0⟩
  ·exact⟨e1,by simp,b1⟩
  ·exact⟨e2,by simp,b2⟩
  ·exact⟨e3,by simp,b3⟩
structure PI(s:List UInt8)(l:Array MapEntry)(seen:Array Nat):Prop where
 ok:LOk l.toList
 keep:∀ i,i<4->kt i=s->∃ e∈l.toList,e.born=i
 done:∀ e∈l.toList,seen.contains e.born=true->kt e.born=s
def KF(R:Int×Bool×Int):V:=.tup [.int .i64 R.1,.bool R.2.1,.int .i64 R.2.2]
theorem Ju(s:List UInt8):aG (GGx kCa kDb) PP 26 [.str s] [] (KF (parse s)) []:=by
 have hE:=aC (kCa:=kCa) (kDb:=kDb) (cts:=[]) (inl:=[]) trivial trivial
 refine BC hE (fn:=Tryz.f26) Tryz.func26 rfl rfl fun n B S w0 ρ0=>?_
 refine ZM.seq (ZM.seg hE 2 ?_)
 refine ae ?_
 refine ZM.seq (ZM.region ?_)
 refine ZO.callM rfl rfl rfl (ent Tryz.func56 (by kernel_rfl) rfl) sO rfl rfl rfl rfl fun l0 c hl0 hc0=>?_
 obtain⟨hok,rfl,hall⟩:=GR hl0 hc0
 refine ZO.seg hE 2 [_] [] rfl ?_
 refine ae ?_
 refine ZO.nil ?_
 refine ZM.seqX (fun μ' mp' tm' hp'=>μ'=2/\∃ l seen,mp'=some ⟨0,l,4,some (1,4,seen,4)⟩/\PI s l seen/\(∀ e∈l.toList,kt e.born=s)/\Ent (EE kCa kDb [] []).G 2 tm' hp' [(0,.str s),(5,.yl 0)] [.gone,.gone]) ?_ ?_
 ·refine ZM.seq (ZM.region ?_)
  refine ZO.seg hE 2 [_] [_] rfl ?_
  refine ae ?_
  refine ZO.range (kt:=102) (et:=9) rfl rfl rfl rfl rfl qS rfl ?_
  refine ZO.nil ?_
  refine ZM.block (ZM.loop (fun x:Array MapEntry×Array Nat=>(some ⟨0,x.1,4,some (1,4,x.2,4)⟩,[(0,.str s),(5,.yl 0),(11,.ptr 1 0 0)],[.gone,.gone])) (fun x=>PI s x.1 x.2) (fun x=>ym x.2) (l0,#[]) rfl ?_ ?_ ?_)
  ·exact Ent.ren [0,1] [0,5,11] rfl rfl rfl
  ·exact⟨hok,fun i hi _=>hall i hi,fun e _ h=>by simp at h⟩
  rintro⟨l,seen⟩ hI
  dsimp only at hI ⊢
  refine ZM.seq (ZM.region ?_)
  refine ZO.next (KV:=fun e=>(.agg [I (kx e.born),.bool (kb e.born)],.str (kt e.born))) rfl rfl rfl rfl rfl rfl (fun x hx=>(hI.ok.all x hx).lt) (Nat.le_refl 4) (fun e he=>⟨fun ρ=>?_,fun ρ=>?_⟩) (fun h0=>?_) (fun e he=>?_)
  ·rw[(hI.ok.all e he).key];exact⟨_,rfl,_,_,rfl,rfl,_,_,rfl,rfl,rfl⟩
  ·exact(hI.ok.all e he).val
  ·refine ZO.seg hE 2 [_] [] rfl ?_
   refine ae ?_
   refine ZO.nil ?_
   refine ZM.seg hE 2 ?_
   refine ae ⟨rfl,l,seen,rfl,hI,fun e he=>hI.done e he ?_,Ent.ren [0,1] [0,5] rfl rfl rfl⟩
   refine Decidable.byContradiction fun hne=>?_
   have hm:e∈(leftOf l seen).toList:=by
    unfold leftOf
    simp only[Array.toList_filter,List.mem_filter,he,true_and,Bool.not_eq_true']
    simpa using hne
   rw[<-Array.length_toList]at h0
   rw[List.length_eq_zero_iff.1 h0]at hm
   cases hm
  ·obtain⟨hel,hns⟩:=mem_left he
   have heo:=hI.ok.all e hel
   refine ZO.seg hE 2 [_] [] rfl ?_
   refine ae ?_
   refine ZO.nil ?_
   refine ZM.seq (ZM.seg hE 2 ?_)
   refine ae ?_
   refine ZM.block (ZM.seq (ZM.region ?_))
   refine ZO.entry (e:=e) (K:=.agg [I (kx e.born),.bool (kb e.born)]) (X:=.str (kt e.born)) rfl rfl rfl rfl rfl rfl hel hI.ok.nd (fun ρ=>?_) (fun ρ=>heo.val) ?_
   ·rw[heo.key];exact⟨_,rfl,_,_,rfl,rfl,_,_,rfl,rfl,rfl⟩
   refine ZO.seg hE 2 [_,_,_,_,_] [] rfl ?_
   refine ae ?_
   refine ZO.nil ?_
   refine ZM.seq (ZM.seg hE 2 ?_)
   refine ae ?_
   refine ZM.cond (b:=!(kt e.born==s)) rfl (fun hb=>?_) (fun hb=>?_)
   ·have hb:kt e.born≠s:=by simpa using hb
    obtain⟨k,x,q1,e',q2,q3⟩:=ue heo.lt l.toList 0 hI.ok.all ⟨e,hel,rfl⟩
    obtain⟨w1,w2,w3⟩:=hI.ok.erase q2 q3
    refine ZM.region ?_
    refine ZO.seg hE 2 [_,_] [_] rfl ?_
    refine ae ?_
    refine ZO.delete (kt:=102) (i:=k) (K:=.agg [I (kx e.born),.bool (kb e.born)]) rfl rfl rfl rfl rfl rfl (fun uk hk=>⟨gC hk,x,fun w=>?_⟩) ?_
    ·rw[run_findKey_eq w jJ,gP hk]
     exact(q1 w).trans (by rw[Nat.zero_add])
    refine ZO.nil ⟨rfl,(l.eraseIdxIfInBounds k,seen.push e.born),⟨?_,fun i hi ht=>?_,fun x hx hs=>?_⟩,nE heo.lt hns,rfl,?_⟩
    ·simpa using w1
    ·obtain⟨x,x1,x2⟩:=hI.keep i hi ht
     refine⟨x,?_,x2⟩
     have:=w3 x x1 (fun e2=>hb (by rw[<-e2,x2];exact ht))
     simpa using this
    ·have hx:x∈l.toList.eraseIdx k:=by simpa using hx
     obtain⟨y1,y2⟩:=w2 x hx
     refine hI.done x y1 ?_
     rw[Array.contains_push]at hs
     simpa[y2]using hs
    ·exact Ent.ren [0,1] [0,5,11] rfl rfl rfl
   ·have hb:kt e.born=s:=by simpa using hb
    refine ZM.seg hE 2 ?_
    refine ae ⟨rfl,(l,seen.push e.born),⟨hI.ok,hI.keep,fun x hx hs=>?_⟩,nE heo.lt hns,rfl,Ent.ren [0,1] [0,5,11] rfl rfl rfl⟩
    rw[Array.contains_push]at hs
    rcases Bool.or_eq_true_iff.1 hs with hs|hs
    ·exact hI.done x hx hs
    ·rw[show x.born=e.born by simpa using hs];exact hb
 ·rintro _ _ tm' hp' ⟨rfl,l,seen,rfl,hI,hall2,hent⟩
  refine ZM.ent hent ?_
  refine ZM.seqX (fun μ' mp' tm' hp'=>(∀ i,i<4->kt i≠s)) ?_ ?_
  ·refine ZM.seq (ZM.region ?_)
   refine ZO.seg hE 2 [_] [_] rfl ?_
   refine ae ?_
   refine ZO.range (kt:=102) (et:=9) rfl rfl rfl rfl rfl qS rfl ?_
   refine ZO.nil ?_
   refine ZM.block (ZM.loop (fun _:Unit=>(some ⟨0,l,4,some (2,4,#[],4)⟩,[(0,.str s),(5,.yl 0),(23,.ptr 2 0 0)],[.gone,.gone,.gone])) (fun _=>True) (fun _=>0) () rfl ?_ trivial ?_)
   ·exact Ent.ren [0,1,2] [0,5,23] rfl rfl rfl
   rintro _ _
   dsimp only
   refine ZM.seq (ZM.region ?_)
   refine ZO.next (KV:=fun e=>(.agg [I (kx e.born),.bool (kb e.born)],.str (kt e.born))) rfl rfl rfl rfl rfl rfl (fun x hx=>(hI.ok.all x hx).lt) (Nat.le_refl 4) (fun e he=>⟨fun ρ=>?_,fun ρ=>?_⟩) (fun h0=>?_) (fun e he=>?_)
   ·rw[(hI.ok.all e he).key];exact⟨_,rfl,_,_,rfl,rfl,_,_,rfl,rfl,rfl⟩
   ·exact(hI.ok.all e he).val
   ·refine ZO.seg hE 2 [_] [] rfl ?_
    refine ae ?_
    refine ZO.nil ?_
    refine ZM.seg hE 2 ?_
    refine ae fun i hi ht=>?_
    obtain⟨e,he,hb⟩:=hI.keep i hi ht
    have hm:e∈(leftOf l #[]).toList:=by
     unfold leftOf
     simp only[Array.toList_filter,List.mem_filter,he,true_and]
     simp
    rw[<-Array.length_toList]at h0
    rw[List.length_eq_zero_iff.1 h0]at hm
    cases hm
   ·obtain⟨hel,hns⟩:=mem_left he
    have heo:=hI.ok.all e hel
    refine ZO.seg hE 2 [_] [] rfl ?_
    refine ae ?_
    refine ZO.nil ?_
    refine ZM.seq (ZM.seg hE 2 ?_)
    refine ae ?_
    refine ZM.block (ZM.seq (ZM.region ?_))
    refine ZO.entry (seen:=#[]) (e:=e) (K:=.agg [I (kx e.born),.bool (kb e.born)]) (X:=.str (kt e.born)) rfl rfl rfl rfl rfl rfl hel hI.ok.nd (fun ρ=>?_) (fun ρ=>heo.val) ?_
    ·rw[heo.key];exact⟨_,rfl,_,_,rfl,rfl,_,_,rfl,rfl,rfl⟩
    refine ZO.seg hE 2 [_,_,_] [] rfl ?_
    refine ae ?_
    refine ZO.nil ?_
    refine ZM.seg hE 2 ?_
    refine ag rfl ?_
    refine ae ?_
    rw[<-hall2 e hel,Eu heo.lt]
    exact⟨_,_,Ent.refl _ _ _,aN [] (.inr rfl) rfl rfl rfl rfl rfl⟩
  ·rintro μ' mp' tm' hp' hno
   refine ZM.seg hE 2 ?_
   refine ae ?_
   rw[Ar hno]
   exact⟨_,_,Ent.refl _ _ _,aN [] (.inr rfl) rfl rfl rfl rfl rfl⟩
def EV:CF
 |[.str s],[]=>some (true,KF (parse s),[])
 |_,_=>none
theorem za:CtOk (GGx kCa kDb) PP (26,EV):=by
 refine aD Tryz.func26 (by kernel_rfl) rfl fun a0 h0 c0 v0 N0 e hc=>?_
 unfold EV at e
 split at e
 ·cases e;exact Ju _
 ·cases e
end
noncomputable abbrev Ea:Env:=EE true true [(12,lH),(124,qM),(125,tj),(29,Gu),(178,gr),(158,qB),(123,vM)] []
theorem Fb:Ea.Fn PP:=aC ⟨nw,pq,nN,xx,gh,uR,zZ,trivial⟩ trivial
noncomputable abbrev xsa:List (FuncId×Func):=[(31,Tryz.f31),(64,Tryz.f64),(119,Tryz.f119),(122,Tryz.f122),(121,Tryz.f121),(120,Tryz.f120),(158,Tryz.f158),(32,Tryz.f32),(65,Tryz.f65),(84,Tryz.f84),(132,Tryz.f132)]
theorem uE:tT PP xsa:=⟨⟨Tryz.func31,by kernel_rfl⟩,⟨Tryz.func64,by kernel_rfl⟩,⟨Tryz.func119,by kernel_rfl⟩,⟨Tryz.func122,by kernel_rfl⟩,⟨Tryz.func121,by kernel_rfl⟩,⟨Tryz.func120,by kernel_rfl⟩,⟨Tryz.func158,by kernel_rfl⟩,⟨Tryz.func32,by kernel_rfl⟩,⟨Tryz.func65,by kernel_rfl⟩,⟨Tryz.func84,by kernel_rfl⟩,⟨Tryz.func132,by kernel_rfl⟩,trivial⟩
def HQ:List UInt8:=[51,120,51,32,107,50,47,49,81,49,47,75,50,32,98,32,45,32,45,32,48,32,49]
def Lx:V×List O:=(.agg [I 3,I 3,.sl 0 0 9 none,.lit true,.int .u8 0,I (-1),I 0,I 1],[.ints true .i8 [6,0,0,0,5,0,-6,0,0]])
theorem Me:oa { Ea with pf:=mZ Ea xsa 1000 8,cc:=true } 3 1000 Tryz.f31 [.str HQ] []=some Lx:=by kernel_rfl
def JA:List UInt8:=[51,120,51,32,107,50,47,50,81,47,49,75,49,32,98,32,45,32,45,32,48,32,49]
def LF:V×List O:=(.agg [I 3,I 3,.sl 0 0 9 none,.lit true,.int .u8 0,I (-1),I 0,I 1],[.ints true .i8 [0,6,0,0,0,5,-6,0,0]])
theorem LU:oa { Ea with pf:=mZ Ea xsa 1000 8,cc:=true } 3 1000 Tryz.f31 [.str JA] []=some LF:=by kernel_rfl
def Jr:List UInt8:=[51,120,51,32,107,81,49,47,51,47,75,50,32,98,32,45,32,45,32,48,32,49]
def LC:V×List O:=(.agg [I 3,I 3,.sl 0 0 9 none,.lit true,.int .u8 0,I (-1),I 0,I 1],[.ints true .i8 [6,0,0,0,0,0,-6,5,0]])
theorem Mi:oa { Ea with pf:=mZ Ea xsa 1000 8,cc:=true } 3 1000 Tryz.f31 [.str Jr] []=some LC:=by kernel_rfl
def IE:List UInt8:=[51,120,51,32,107,50,47,50,81,47,75,50,32,119,32,45,32,45,32,48,32,49]
def Kz:V×List O:=(.agg [I 3,I 3,.sl 0 0 9 none,.lit false,.int .u8 0,I (-1),I 0,I 1],[.ints true .i8 [6,0,0,0,0,5,-6,0,0]])
theorem LV:oa { Ea with pf:=mZ Ea xsa 1000 8,cc:=true } 3 1000 Tryz.f31 [.str IE] []=some Kz:=by kernel_rfl
def polT(s:List UInt8):Option (V×List O):=if s=HQ then some Lx else if s=JA then some LF else if s=Jr then some LC else if s=IE then some Kz else none
theorem JH{s:List UInt8}{x:V×List O}(h:polT s=some x):aG (GGx true true) PP 31 [.str s] [] x.1 x.2:=by
 unfold polT at h
 by_cases e0:s=HQ
 ·rw[if_pos e0]at h;cases h;subst e0;exact pA Fb uE 1000 8 Tryz.func31 Me
 rw[if_neg e0]at h
 by_cases e1:s=JA
 ·rw[if_pos e1]at h;cases h;subst e1;exact pA Fb uE 1000 8 Tryz.func31 LU
 rw[if_neg e1]at h
 by_cases e2:s=Jr
 ·rw[if_pos e2]at h;cases h;subst e2;exact pA Fb uE 1000 8 Tryz.func31 Mi
 rw[if_neg e2]at h
 by_cases e3:s=IE
 ·rw[if_pos e3]at h;cases h;subst e3;exact pA Fb uE 1000 8 Tryz.func31 LV
 rw[if_neg e3]at h
 cases h
def vI:CF
 |[.str s],[]=>match polT s with
  |some x=>some (true,x.1,x.2)
  |none=>none
 |_,_=>none
theorem Ax:CtOk (GGx true true) PP (31,vI):=by
 refine aD Tryz.func31 (by kernel_rfl) rfl fun a0 h0 c0 v0 N0 e hc=>?_
 unfold vI at e
 split at e
 ·split at e
  ·rename_i h
   cases e
   exact JH h
  ·cases e
 ·cases e
noncomputable abbrev Eb:Env:=EE true true [(10,sX),(11,xN),(21,FC),(16,Et),(17,EJ),(24,rH),(26,EV),(31,vI),(125,tj),(178,gr),(101,eL),(146,c_vs)] []
theorem LY:Eb.Fn PP:=aC ⟨nu,ug,yK,xX,yy,oH,za,Ax,nN,gh,cz,kf,trivial⟩ trivial
theorem Mg:oa { Eb with pf:=mZ Eb xsa 1000 8,cc:=true } 3 1000 Tryz.f9 [] []=some (.lit true,[]):=by kernel_rfl
def mI:CF
 |[],[]=>some (true,.bool true,[])
 |_,_=>none
theorem tQ:CtOk (GGx true true) PP (9,mI):=by
 refine aD Tryz.func9 (by kernel_rfl) rfl fun a0 h0 c0 v0 N0 e hc=>?_
 unfold mI at e
 split at e
 ·cases e
  exact aG.like (pA LY uE 1000 8 Tryz.func9 Mg) (fun _ _ h=>h)
 ·cases e
end Go.Ab
namespace Go.Ab
open IntKind
open Go.Proofs
section
variable{kCa kDb:Bool}
def dZ:List (List Int)×Int->Mov×Psn->Bool×Int->Option (Bool×Int ⊕ Bool ⊕ Unit ⊕ Unit ⊕ Bool):=fun(y6:List (List Int)×Int) (e8:Mov×Psn) (s13:Bool×Int)=>let x28:=decide (s13.2<Int.ofNat y6.1.length);let x32:=y6.1.getD s13.2.toNat [];let x29:=x32.getD 1 0;let x30:=x32.getD 0 0;let x31:=x32.getD 2 0;bif x28 then bp (decide (0<=s13.2)&&x28) (some (Sum.inl (s13.1||decide (x30=e8.1.a)&&(decide (x29=e8.1.b)&&decide (x31=e8.1.p)),i64.wrap (s13.2+1))))else some (Sum.inr (Sum.inl s13.1))
def lz:Psn->List (List Int)×Int->(List (List Int)×Int->Mov×Psn->Bool×Int->Option (Bool×Int ⊕ Bool ⊕ Unit ⊕ Unit ⊕ Bool))->Mov×Psn->Unit->Option (Unit ⊕ Unit ⊕ Bool):=fun(p:Psn) (y6:List (List Int)×Int) (dZ:List (List Int)×Int->Mov×Psn->Bool×Int->Option (Bool×Int ⊕ Bool ⊕ Unit ⊕ Unit ⊕ Bool)) (e8:Mov×Psn) (_s9:Unit)=>dg (dZ y6 e8) (fun(s21:Bool)=>cn (eRes (Psn.mk e8.2.f e8.2.r (List.take e8.2.zs.length (List.drop 0 e8.2.zs)) e8.2.bl e8.2.ca e8.2.pa e8.2.ha e8.2.fu)) (0,false,0) fun(y22:Int×Bool×Int)=>dN (bif p.bl then some (Sum.inl (-1))else some (Sum.inl 1)) fun(s24:Int)=>bif !decide (y22.2.2=0)||!s21==(y22.2.1&&decide (y22.1=s24))then escO (escO (some false))else some (Sum.inl ())) 1000000 (false,0)
def EC(p:Psn):Option (Bool):=let x46:=List.take p.zs.length (List.drop 0 p.zs);let x42:=Psn.mk p.f p.r x46 p.bl p.ca p.pa p.ha p.fu;let x43:=(aZ p.f p.r x46 p.bl).fst;let x44:=(aZ p.f p.r x46 p.bl).snd;let x45:=x46.length;let x40:=decide (x43=0);let x41:=decide (x45<=64);cn (qJ x42) false fun(y1:Bool)=>bp (!!!y1||x41) (bif !y1||!lV x42 then some true else cn (eeOf x42) (0,0) fun(y2:Int×Int)=>let x49:=decide (y2.1=2);cn (eRes x42) (0,false,0) fun(y3:Int×Bool×Int)=>let x52:=decide (y3.1=0);let x54:=(eTx y3.1 y3.2.1).fst;let x55:=(eTx y3.1 y3.2.1).snd;let x51:=(parse x54).snd.2;let x53:=(parse x54).fst;cn (lany x42) (false,0) fun(y4:Bool×Int)=>cn (eFl x42) (0,0) fun(y5:Int×Int)=>bp x41 (bif !decide (y2.2=0)||!decide (y3.2.2=0)||!decide (y4.2=0)||!decide (y5.2=0)||!decide (x44=0)||y3.2.1==y4.1||!y3.2.1==(x49||decide (y2.1=3))then some false else bif x49&&(!decide (y5.1=0)||x40||x52)||decide (y2.1=1)&&x40||!x49&&!x52 then some false else bif !decide (x55=0)||!decide (x51=0)||!decide (x53=y3.1)||!(parse x54).snd.1==y3.2.1 then some false else cn (eMt x42) ([],0) fun(y6:List (List Int)×Int)=>cn (eCk x42) ([],0) fun(y7:List (List Int)×Int)=>bif !decide (y6.2=0)||!decide (y7.2=0)||decide (Int.ofNat y7.1.length<Int.ofNat y6.1.length)then some false else bp x41 (bp (afOk x42) (cI (lz p y6 dZ) (fun(_s9:Unit)=>some true) (fun(_s9:Unit)=>none) (afLs x42) ()))))
def Dl(R:Bool):V:=Bb R
def BH(_R:Bool):List O:=[]
theorem DG(p:Psn){r}(hr:EC p=some r):aG (GGx true true) PP 7 [.agg [.int .i64 p.f,.int .i64 p.r,.sl 0 0 p.zs.length none,Bb p.bl,.int .u8 p.ca,.int .i64 p.pa,.int .i64 p.ha,.int .i64 p.fu]] [.ints false .i8 p.zs] (Dl r) (BH r):=by
 have hE:=cutE (aC (kCa:=true) (kDb:=true) (cts:=[(8,nV),(9,mI),(10,sX),(11,xN),(12,lH),(16,Et),(17,EJ),(21,FC),(24,rH),(26,EV),(27,xZ),(28,ej),(29,Gu),(60,jH)]) (inl:=[(30,Tryz.f30)]) ⟨sY,tQ,nu,ug,nw,xX,yy,yK,oH,za,tD,dX,xx,gJ,trivial⟩ ⟨⟨Tryz.func30,by kernel_rfl⟩,trivial⟩)
 refine dA hE 2 Tryz.func7 rfl rfl Dl BH hr ?_ rfl rfl
 unfold EC
 refine aR (pl (decide_eq_true (aS rfl)) id) ?_
 refine aj (Bool.not_or_self _) ?_
 refine dJ (pi (pl (decide_eq_true (aS rfl)) id)) ?_
 refine aj (Bool.not_or_self _) ?_
 refine aj (Bool.or_not_self _) ?_
 refine aI hE 2 rfl ?_ ?_
 ·refine aj rfl ?_
  exact aQ (aN [] (.inr rfl) rfl rfl rfl rfl rfl)
 refine aR (pl (decide_eq_true (aS rfl)) id) ?_
 refine aR (pl (decide_eq_true (aS rfl)) id) ?_
 refine aR (pl (decide_eq_true (aS rfl)) id) ?_
 refine aR (pl (decide_eq_true (aS rfl)) id) ?_
 refine aj rfl ?_
 refine aj rfl ?_
 refine dJ (pl (decide_eq_true (aS rfl)) id) ?_
 refine aj (Bool.not_or_self _) ?_
 refine aj (Bool.or_not_self _) ?_
 refine aj (Bool.not_or_self _) ?_
 refine aj (Bool.or_not_self _) ?_
 refine aj (Bool.not_or_self _) ?_
 refine aj (Bool.or_not_self _) ?_
 refine aj (Bool.not_or_self _) ?_
 refine aj (Bool.or_not_self _) ?_
 refine aj (Bool.not_or_self _) ?_
 refine aj (Bool.not_or_self _) ?_
 refine aj (Bool.or_not_self _) ?_
 refine aj (Bool.not_or_self _) ?_
 refine aj (Bool.not_or_self _) ?_
 refine aj (Bool.not_or_self _) ?_
 refine aj (Bool.not_or_self _) ?_
 refine aj (tt10 _ _) ?_
 refine aj (Bool.not_or_self _) ?_
 refine aj (Bool.not_or_self _) ?_
 refine aj (Bool.or_not_self _) ?_
 refine aI hE 2 rfl ?_ ?_
 ·exact aQ (aN [] (.inr rfl) rfl rfl rfl rfl rfl)
 refine aj (Bool.not_or_self _) ?_
 refine aj (Bool.not_or_self _) ?_
 refine aj (Bool.not_or_self _) ?_
 refine aj (Bool.not_or_self _) ?_
 refine aj (tt10 _ _) ?_
 refine aj (Bool.not_or_self _) ?_
 refine aj (Bool.not_or_self _) ?_
 refine aj (Bool.not_or_self _) ?_
 refine aj (tt10 _ _) ?_
 refine aj (Bool.not_or_self _) ?_
 refine aj (Bool.not_or_self _) ?_
 refine aj (Bool.not_or_self _) ?_
 refine aj (Bool.not_or_self _) ?_
 refine aj (Bool.not_or_self _) ?_
 refine aj (tt7 _ _) ?_
 refine aj (Bool.or_not_self _) ?_
 refine aj (Bool.not_or_self _) ?_
 refine aj (Bool.not_or_self _) ?_
 refine aj (Bool.not_or_self _) ?_
 refine aj (Bool.not_or_self _) ?_
 refine aj (tt7 _ _) ?_
 refine aj (Bool.or_not_self _) ?_
 refine aI hE 2 rfl ?_ ?_
 ·exact aQ (aN [] (.inr rfl) rfl rfl rfl rfl rfl)
 refine aj rfl ?_
 refine aj rfl ?_
 refine aj (Bool.not_or_self _) ?_
 refine aj (Bool.or_not_self _) ?_
 refine aj (Bool.not_or_self _) ?_
 refine aj (Bool.not_or_self _) ?_
 refine aj (Bool.or_not_self _) ?_
 refine aj (Bool.not_or_self _) ?_
 refine aj (Bool.not_or_self _) ?_
 refine aj (Bool.or_not_self _) ?_
 refine aI hE 2 rfl ?_ ?_
 ·exact aQ (aN [] (.inr rfl) rfl rfl rfl rfl rfl)
 refine aR (pl (decide_eq_true (aS rfl)) id) ?_
 refine aR (pl (decide_eq_true (aS rfl)) id) ?_
 refine aj (Bool.not_or_self _) ?_
 refine aj (Bool.or_not_self _) ?_
 refine aj (Bool.not_or_self _) ?_
 refine aj (Bool.not_or_self _) ?_
 refine aj (Bool.not_or_self _) ?_
 refine aj (Bool.not_or_self _) ?_
 refine aj (Bool.or_not_self _) ?_
 refine aI hE 2 rfl ?_ ?_
 ·exact aQ (aN [] (.inr rfl) rfl rfl rfl rfl rfl)
 refine dJ (pl (decide_eq_true (aS rfl)) id) ?_
 refine Cr (fun qr84165=>?_)
 refine mo hE 2 7 (let x63:=[Bb p.bl,V.int u8 p.ca,I p.pa,I p.ha,I p.fu];let x64:=List.take p.zs.length (List.drop 0 p.zs);let x62:=((eMt (Psn.mk p.f p.r x64 p.bl p.ca p.pa p.ha p.fu)).getD ([],0)).fst;fun(s9:Unit)=>[O.ints false i8 p.zs,O.cells true (I p.f::I p.r::V.sl 0 0 p.zs.length none::x63),O.cells true [Bb false],O.cells true [V.sl 7 0 x62.length none],O.cells true (I p.f::I p.r::V.sl 5 0 x64.length none::x63),O.ints true i8 x64,O.gone,O.rows true [i64,i64,i8] x62]) (let x67:=[Bb p.bl,V.int u8 p.ca,I p.pa,I p.ha,I p.fu];let x68:=List.take p.zs.length (List.drop 0 p.zs);let x66:=((eMt (Psn.mk p.f p.r x68 p.bl p.ca p.pa p.ha p.fu)).getD ([],0)).fst;fun(s9:Unit)=>[O.ints false i8 p.zs,O.cells true (I p.f::I p.r::V.sl 0 0 p.zs.length none::x67),O.cells true [Bb false],O.cells true [V.sl 7 0 x66.length none],O.cells true (I p.f::I p.r::V.sl 5 0 x68.length none::x67),O.ints true i8 x68,O.gone,O.rows true [i64,i64,i8] x66]) 0 (afLs (Psn.mk p.f p.r (List.take p.zs.length (List.drop 0 p.zs)) p.bl p.ca p.pa p.ha p.fu)) vh afNs (Bi (Psn.mk p.f p.r (List.take p.zs.length (List.drop 0 p.zs)) p.bl p.ca p.pa p.ha p.fu)) (afHc (Psn.mk p.f p.r (List.take p.zs.length (List.drop 0 p.zs)) p.bl p.ca p.pa p.ha p.fu)) EH 6 (fun(e8:Mov×Psn) (s9:Unit)=>(21,V.ptr 11 0 0)::(20,V.ptr 10 0 0)::putPs (#[186,187]:Array Nat).toList [V.agg [I e8.1.a,I e8.1.b,V.int i8 e8.1.p],V.agg [I e8.2.f,I e8.2.r,V.sl 9 0 e8.2.zs.length none,Bb e8.2.bl,V.int u8 e8.2.ca,I e8.2.pa,I e8.2.ha,I e8.2.fu]] [(1,V.ptr 1 0 0),(2,V.ptr 2 0 0),(17,V.ptr 3 0 0),(185,V.fn 61 [V.ptr 4 0 0])]) _ [4,5] [1,2,17,185] ((Ent.gap rfl rfl).trans ((Ent.rn [0,1,2,4,8,7,9,3] [1,2,17,185] rfl rfl rfl rfl rfl).trans ((Ent.rn [0,1,2,3,4,5,6,7] [1,2,17,185] rfl rfl rfl rfl rfl)))) (Dy _ qr84165) (fun _=>⟨rfl,Nat.le_of_ble_eq_true rfl⟩) (ent Tryz.func61 (by kernel_rfl) rfl) rfl rfl rfl rfl rfl rfl rfl rfl rfl rfl rfl rfl (fun _=>(ez rfl rfl rfl rfl rfl rfl rfl rfl)) (fun _=>(ez rfl rfl rfl rfl rfl rfl rfl rfl)) (fun _ _=>rfl) (fun e8 s9=>?_) (fun s9=>?_) (fun s9=>jX)
 ·refine eJ hE 2 (let x74:=[Bb p.bl,V.int u8 p.ca,I p.pa,I p.ha,I p.fu];let x76:=List.take p.zs.length (List.drop 0 p.zs);let x75:=Psn.mk p.f p.r x76 p.bl p.ca p.pa p.ha p.fu;let x73:=((eMt x75).getD ([],0)).fst;let x72:=x73.length;fun(s13:Bool×Int)=>([(1,V.ptr 1 0 0),(2,V.ptr 2 0 0),(20,V.ptr 7 0 0),(21,V.ptr 8 0 0),(22,Bb s13.1),(188,V.sl 9 0 x72 none),(189,I (Int.ofNat x72)),(190,I s13.2)],[O.ints false i8 p.zs,O.cells true (I p.f::I p.r::V.sl 0 0 p.zs.length none::x74),O.cells true [Bb false],O.cells true [V.sl 9 0 x72 none],O.cells true (I p.f::I p.r::V.sl 5 0 x76.length none::x74),O.ints true i8 x76,O.rows true [i64,i64,i8] (afL x75),O.cells true [I e8.1.a,I e8.1.b,V.int i8 e8.1.p],O.cells true [I e8.2.f,I e8.2.r,V.sl 10 0 e8.2.zs.length none,Bb e8.2.bl,V.int u8 e8.2.ca,I e8.2.pa,I e8.2.ha,I e8.2.fu],O.rows true [i64,i64,i8] x73,O.ints true i8 e8.2.zs])) (let x79:=[Bb p.bl,V.int u8 p.ca,I p.pa,I p.ha,I p.fu];let x81:=List.take p.zs.length (List.drop 0 p.zs);let x80:=Psn.mk p.f p.r x81 p.bl p.ca p.pa p.ha p.fu;let x78:=((eMt x80).getD ([],0)).fst;fun(s21:Bool)=>([(1,V.ptr 1 0 0),(2,V.ptr 2 0 0),(21,V.ptr 7 0 0),(22,Bb s21)],[O.ints false i8 p.zs,O.cells true (I p.f::I p.r::V.sl 0 0 p.zs.length none::x79),O.cells true [Bb false],O.cells true [V.sl 8 0 x78.length none],O.cells true (I p.f::I p.r::V.sl 5 0 x81.length none::x79),O.ints true i8 x81,O.rows true [i64,i64,i8] (afL x80),O.cells true [I e8.2.f,I e8.2.r,V.sl 9 0 e8.2.zs.length none,Bb e8.2.bl,V.int u8 e8.2.ca,I e8.2.pa,I e8.2.ha,I e8.2.fu],O.rows true [i64,i64,i8] x78,O.ints true i8 e8.2.zs])) (.exit 2) ((Ent.rn [0,1,2,3,4,5,6,10,11,7,9] [1,2,20,21,22,188,189,190] rfl rfl rfl rfl rfl)) (fun s13=>?_) (fun s21=>?_)
  ·refine aI hE 2 rfl ?_ ?_
   ·refine bZ ?_
    refine aj (Bool.not_or_self _) ?_
    refine aj (Bool.not_or_self _) ?_
    refine aj (Bool.or_not_self _) ?_
    exact eo ((Ent.rn [0,1,2,3,4,5,6,7,8,9,10] [1,2,20,21,22,188,189,190] rfl rfl rfl rfl rfl))
   exact dV ((Ent.rn [0,1,2,3,4,5,6,8,9,10] [1,2,21,22] rfl rfl rfl rfl rfl))
  refine aR (pl (decide_eq_true (aS rfl)) id) ?_
  refine dc hE 2 (let x84:=Psn.mk e8.2.f e8.2.r (List.take e8.2.zs.length (List.drop 0 e8.2.zs)) e8.2.bl e8.2.ca e8.2.pa e8.2.ha e8.2.fu;let x85:=[Bb p.bl,V.int u8 p.ca,I p.pa,I p.ha,I p.fu];let x87:=List.take p.zs.length (List.drop 0 p.zs);let x86:=Psn.mk p.f p.r x87 p.bl p.ca p.pa p.ha p.fu;let x83:=((eMt x86).getD ([],0)).fst;fun(s24:Int)=>([(2,V.ptr 2 0 0),(22,Bb s21),(25,I ((eRes x84).getD (0,false,0)).fst),(26,Bb ((eRes x84).getD (0,false,0)).snd.1),(27,I ((eRes x84).getD (0,false,0)).snd.2),(28,I s24)],[O.ints false i8 p.zs,O.cells true (I p.f::I p.r::V.sl 0 0 p.zs.length none::x85),O.cells true [Bb false],O.cells true [V.sl 7 0 x83.length none],O.cells true (I p.f::I p.r::V.sl 5 0 x87.length none::x85),O.ints true i8 x87,O.rows true [i64,i64,i8] (afL x86),O.rows true [i64,i64,i8] x83])) rfl ?_ ?_ (fun s24=>?_)
  ·exact bN ((Ent.rn [0,1,2,3,4,5,6,8] [2,22,25,26,27,28] rfl rfl rfl rfl rfl))
  ·exact bN ((Ent.rn [0,1,2,3,4,5,6,8] [2,22,25,26,27,28] rfl rfl rfl rfl rfl))
  refine aj (Bool.not_or_self _) ?_
  refine aj (Bool.not_or_self _) ?_
  refine aj (Bool.not_or_self _) ?_
  refine aj (Bool.not_or_self _) ?_
  refine aj (tt7 _ _) ?_
  refine aj (Bool.not_or_self _) ?_
  refine aj (Bool.not_or_self _) ?_
  refine aj (Bool.or_not_self _) ?_
  refine aI hE 2 rfl ?_ ?_
  ·refine GH (hp4:=[O.ints false i8 p.zs,O.cells true [I p.f,I p.r,V.sl 0 0 p.zs.length none,Bb p.bl,V.int u8 p.ca,I p.pa,I p.ha,I p.fu],O.cells true [Bb false],O.cells true [V.sl 7 0 ((eMt (Psn.mk p.f p.r (List.take p.zs.length (List.drop 0 p.zs)) p.bl p.ca p.pa p.ha p.fu)).getD ([],0)).fst.length none],O.cells true [I p.f,I p.r,V.sl 5 0 (List.take p.zs.length (List.drop 0 p.zs)).length none,Bb p.bl,V.int u8 p.ca,I p.pa,I p.ha,I p.fu],O.ints true i8 (List.take p.zs.length (List.drop 0 p.zs)),O.gone,O.rows true [i64,i64,i8] ((eMt (Psn.mk p.f p.r (List.take p.zs.length (List.drop 0 p.zs)) p.bl p.ca p.pa p.ha p.fu)).getD ([],0)).fst]) (Ent.rn [0,1,2,3,4,5,6,7] [] rfl rfl rfl rfl rfl) rfl (ez rfl rfl rfl rfl rfl rfl rfl rfl) ?_
   exact aQ (aN [] (.inr rfl) rfl rfl rfl rfl rfl)
  exact mh ((Ent.rn [0,1,2,3,4,5,6,7] [] rfl rfl rfl rfl rfl)) rfl
 refine aj rfl ?_
 exact aQ (aN [] (.inr rfl) rfl rfl rfl rfl rfl)
end
end Go.Ab
namespace Go.Ab
open Go.Proofs
section
variable{p:Psn}
theorem qh(o:PsH p):bE p.f p.r p.zs p.bl=(aP p.zs p.bl,0)/\ak p.f p.r (aP p.zs p.bl)=true:=by
 have hk:=o.ok
 simp only[Psn.ok,eC,Bool.and_eq_true,decide_eq_true_eq]at hk
 have hk:=hk.1.1.1.1.2.1.1
 rcases jk (bl:=p.bl) o.h o.hl with⟨_,h2⟩|⟨h1,h2,_⟩
 ·rw[h2]at hk;cases hk
 ·exact⟨h1,h2⟩
theorem HC(o:PsH p):(!decide ((aZ p.f p.r p.zs p.bl).fst=0))=chkL p.f p.r p.zs p.bl:=(HL o.h o.hl (by rw[(qh o).1])).symm
def endP(p:Psn):Int:=endV (chkL p.f p.r p.zs p.bl) ((allL p).any (legF p))
theorem Bl(o:PsH p):eOf p=some (endP p):=by
 unfold eOf
 simp only[List.drop_zero,List.take_length,bH,decide_eq_true o.hl,aV]
 rw[Bt o,aJ,HC o]
 rfl
theorem Bj(o:PsH p):eeOf p=some (endP p,0):=by
 unfold eeOf
 simp only[List.drop_zero,List.take_length,bH,decide_eq_true o.hl,aV,o.ok,Bool.not_true,cond_false]
 rw[Bl o,aJ]
theorem CQ(o:PsH p):eRes p=some ((resW p.bl (endP p)).1,(resW p.bl (endP p)).2,0):=by
 unfold eRes
 simp only[List.drop_zero,List.take_length,bH]
 rw[Bj o,aJ]
 rfl
end
end Go.Ab
