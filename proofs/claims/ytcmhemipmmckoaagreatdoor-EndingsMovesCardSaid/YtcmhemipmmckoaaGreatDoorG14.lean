/- Contracts of the functions that the laws reach, and plain laws of what they compute (text G14); no condition. -/
import Derived.Test.YtcmhemipmmckoaaGreatDoorG13
import Derived.Test.YtcmhemipmmckoaaGreatDoorG8
import Derived.Test.YtcmhemipmmckoaaGreatDoorG5
import Derived.Test.YtcmhemipmmckoaaGreatDoorG11
import Derived.Test.YtcmhemipmmckoaaGreatDoorG10
set_option maxRecDepth 100000
set_option maxHeartbeats 4000000
namespace Go.Ab
open IntKind
open Go.Proofs
section
variable{kCa kDb:Bool}
def sK(p:Psn):Option (Bool):=some (decide (Int.ofNat p.zs.length<=64))
def oL(R:Bool):V:=Bb R
def nD(_R:Bool):List O:=[]
def nq:CF
 |[.agg [.int .i64 p_0,.int .i64 p_1,.sl 0 0 p_2n none,.bool p_3,.int .u8 p_4,.int .i64 p_5,.int .i64 p_6,.int .i64 p_7]],[.ints false .i8 p_2]=>retC (decide (p_2n=p_2.length)) (sK ⟨p_0,p_1,p_2,p_3,p_4,p_5,p_6,p_7⟩) false oL nD
 |_,_=>none
theorem wQ(p:Psn){r}(hr:sK p=some r):aJ (GGx kCa kDb) PP 8 [.agg [.int .i64 p.f,.int .i64 p.r,.sl 0 0 p.zs.length none,Bb p.bl,.int .u8 p.ca,.int .i64 p.pa,.int .i64 p.ha,.int .i64 p.fu]] [.ints false .i8 p.zs] (oL r) (nD r):=by
 have hE:=cutE (aB (kCa:=kCa) (kDb:=kDb) (cts:=[]) (inl:=[]) trivial trivial)
 refine cH hE 2 Tryz.func8 rfl rfl oL nD hr ?_ rfl rfl
 exact aR (aO [] (.inr rfl) rfl rfl rfl rfl rfl)
theorem uL:CtOk (GGx kCa kDb) PP (8,nq):=by
 refine aD Tryz.func8 (by kernel_rfl) rfl fun a0 h0 c0 v0 N0 e hc=>?_
 unfold nq at e
 split at e
 ·rename_i p_0 p_1 p_2n p_3 p_4 p_5 p_6 p_7 p_2
  obtain⟨hl,r,hr,rfl,rfl⟩:=bJ e hc
  simp only[decide_eq_true_eq]at hl
  obtain rfl:=hl
  exact wQ ⟨p_0,p_1,p_2,p_3,p_4,p_5,p_6,p_7⟩ hr
 ·cases e
def eOf(p:Psn):Option (Int):=let x4:=List.take p.zs.length (List.drop 0 p.zs);let x2:=(bH p.f p.r x4 p.bl).fst;let x3:=x4.length;aX (decide (x3<=64)) (cr (lany (Psn.mk p.f p.r x4 p.bl p.ca p.pa p.ha p.fu)) (false,0) fun(y1:Bool×Int)=>some (endV (!decide (x2=0)) y1.1))
def LF(R:Int):V:=.int .i64 R
def Kh(_R:Int):List O:=[]
def Ds:CF
 |[.agg [.int .i64 p_0,.int .i64 p_1,.sl 0 0 p_2n none,.bool p_3,.int .u8 p_4,.int .i64 p_5,.int .i64 p_6,.int .i64 p_7]],[.ints false .i8 p_2]=>retC (decide (p_2n=p_2.length)) (eOf ⟨p_0,p_1,p_2,p_3,p_4,p_5,p_6,p_7⟩) 0 LF Kh
 |_,_=>none
theorem KU(p:Psn){r}(hr:eOf p=some r):aJ (GGx true true) PP 34 [.agg [.int .i64 p.f,.int .i64 p.r,.sl 0 0 p.zs.length none,Bb p.bl,.int .u8 p.ca,.int .i64 p.pa,.int .i64 p.ha,.int .i64 p.fu]] [.ints false .i8 p.zs] (LF r) (Kh r):=by
 have hE:=cutE (aB (kCa:=true) (kDb:=true) (cts:=[(27,DU),(28,fL),(77,sJ)]) (inl:=[]) ⟨Gg,gj,vI,trivial⟩ trivial)
 refine cH hE 2 Tryz.func34 rfl rfl LF Kh hr ?_ rfl rfl
 refine cN (pl (decide_eq_true (aN rfl)) id) ?_
 refine aQ (pl (decide_eq_true (aN rfl)) id) ?_
 refine av rfl ?_
 exact aR (aO [] (.inr rfl) rfl rfl rfl rfl rfl)
theorem rf:CtOk (GGx true true) PP (34,Ds):=by
 refine aD Tryz.func34 (by kernel_rfl) rfl fun a0 h0 c0 v0 N0 e hc=>?_
 unfold Ds at e
 split at e
 ·rename_i p_0 p_1 p_2n p_3 p_4 p_5 p_6 p_7 p_2
  obtain⟨hl,r,hr,rfl,rfl⟩:=bJ e hc
  simp only[decide_eq_true_eq]at hl
  obtain rfl:=hl
  exact KU ⟨p_0,p_1,p_2,p_3,p_4,p_5,p_6,p_7⟩ hr
 ·cases e
def eeOf(p:Psn):Option (Int×Int):=let x4:=List.take p.zs.length (List.drop 0 p.zs);let x2:=Psn.mk p.f p.r x4 p.bl p.ca p.pa p.ha p.fu;let x3:=x4.length;aX (decide (x3<=64)) (bif !x2.ok then some (0,2)else cr (eOf x2) 0 fun(y1:Int)=>some (y1,0))
def DA(R:Int×Int):V:=.tup [.int .i64 R.1,.int .i64 R.2]
def EU(_R:Int×Int):List O:=[]
def An:CF
 |[.agg [.int .i64 p_0,.int .i64 p_1,.sl 0 0 p_2n none,.bool p_3,.int .u8 p_4,.int .i64 p_5,.int .i64 p_6,.int .i64 p_7]],[.ints false .i8 p_2]=>retC (decide (p_2n=p_2.length)) (eeOf ⟨p_0,p_1,p_2,p_3,p_4,p_5,p_6,p_7⟩) (0,0) DA EU
 |_,_=>none
theorem GI(p:Psn){r}(hr:eeOf p=some r):aJ (GGx true true) PP 10 [.agg [.int .i64 p.f,.int .i64 p.r,.sl 0 0 p.zs.length none,Bb p.bl,.int .u8 p.ca,.int .i64 p.pa,.int .i64 p.ha,.int .i64 p.fu]] [.ints false .i8 p.zs] (DA r) (EU r):=by
 have hE:=cutE (aB (kCa:=true) (kDb:=true) (cts:=[(33,ei),(34,Ds)]) (inl:=[]) ⟨cQ,rf,trivial⟩ trivial)
 refine cH hE 2 Tryz.func10 rfl rfl DA EU hr ?_ rfl rfl
 refine cN (pl (decide_eq_true (aN rfl)) id) ?_
 refine aK hE 2 rfl ?_ ?_
 ·exact aR (aO [] (.inr rfl) rfl rfl rfl rfl rfl)
 refine aQ (pl (decide_eq_true (aN rfl)) id) ?_
 exact aR (aO [] (.inr rfl) rfl rfl rfl rfl rfl)
theorem ur:CtOk (GGx true true) PP (10,An):=by
 refine aD Tryz.func10 (by kernel_rfl) rfl fun a0 h0 c0 v0 N0 e hc=>?_
 unfold An at e
 split at e
 ·rename_i p_0 p_1 p_2n p_3 p_4 p_5 p_6 p_7 p_2
  obtain⟨hl,r,hr,rfl,rfl⟩:=bJ e hc
  simp only[decide_eq_true_eq]at hl
  obtain rfl:=hl
  exact GI ⟨p_0,p_1,p_2,p_3,p_4,p_5,p_6,p_7⟩ hr
 ·cases e
def Nx:Psn->Int->Int->Option (Int ⊕ Int ⊕ Int×Int):=fun(p:Psn) (e2 s8:Int)=>cr (AS (Siz.mk p.f p.r) (bT p.f p.r (List.take p.zs.length (List.drop 0 p.zs)) p.bl).fst e2) (0,0) fun(y9:Int×Int)=>dN (bif !decide (y9.1=1)then aX (decide (0<=e2)) (some (Sum.inl (band Go.BinOp.andNot u64 s8 (u64.wrap (1*2^Min.min e2.toNat u64.bits)))))else some (Sum.inl s8)) fun(s11:Int)=>some (Sum.inl s11)
def eFl(p:Psn):Option (Int×Int):=let x24:=List.take p.zs.length (List.drop 0 p.zs);let x22:=Psn.mk p.f p.r x24 p.bl p.ca p.pa p.ha p.fu;let x23:=x24.length;let x21:=decide (x23<=64);aX x21 (bif !x22.ok then some (0,2)else aX x21 (cr (fh x22 (bT p.f p.r x24 p.bl).fst) (0,0) fun(y1:Int×Int)=>dQ (Nx p) (fun(s8:Int)=>some (s8,0)) (fun(_s8:Int)=>none) (iZ y1.1) y1.1))
def Lb(R:Int×Int):V:=.tup [.int .u64 R.1,.int .i64 R.2]
def LS(_R:Int×Int):List O:=[]
def KO:CF
 |[.agg [.int .i64 p_0,.int .i64 p_1,.sl 0 0 p_2n none,.bool p_3,.int .u8 p_4,.int .i64 p_5,.int .i64 p_6,.int .i64 p_7]],[.ints false .i8 p_2]=>retC (decide (p_2n=p_2.length)) (eFl ⟨p_0,p_1,p_2,p_3,p_4,p_5,p_6,p_7⟩) (0,0) Lb LS
 |_,_=>none
theorem Mk(p:Psn){r}(hr:eFl p=some r):aJ (GGx true true) PP 21 [.agg [.int .i64 p.f,.int .i64 p.r,.sl 0 0 p.zs.length none,Bb p.bl,.int .u8 p.ca,.int .i64 p.pa,.int .i64 p.ha,.int .i64 p.fu]] [.ints false .i8 p.zs] (Lb r) (LS r):=by
 have hE:=cutE (aB (kCa:=true) (kDb:=true) (cts:=[(33,ei),(49,vq),(50,kT),(52,yb)]) (inl:=[(51,Tryz.f51)]) ⟨cQ,nB,qz,Bp,trivial⟩ ⟨⟨Tryz.func51,by kernel_rfl⟩,trivial⟩)
 refine cH hE 2 Tryz.func21 rfl rfl Lb LS hr ?_ rfl rfl
 refine cN (pl (decide_eq_true (aN rfl)) id) ?_
 refine aK hE 2 rfl ?_ ?_
 ·exact aR (aO [] (.inr rfl) rfl rfl rfl rfl rfl)
 refine cN (pl (decide_eq_true (aN rfl)) id) ?_
 refine aQ (pl (decide_eq_true (aN rfl)) id) ?_
 refine qQ hE 2 5 (let x29:=List.take p.zs.length (List.drop 0 p.zs);let x28:=(bT p.f p.r x29 p.bl).fst;fun(s8:Int)=>[O.ints false i8 p.zs,O.cells true [I p.f,I p.r,V.sl 0 0 p.zs.length none,Bb p.bl,V.int u8 p.ca,I p.pa,I p.ha,I p.fu],O.cells true [I x28],O.cells true [U s8],O.cells true [U ((fh (Psn.mk p.f p.r x29 p.bl p.ca p.pa p.ha p.fu) x28).getD (0,0)).fst]]) (let x32:=List.take p.zs.length (List.drop 0 p.zs);let x31:=(bT p.f p.r x32 p.bl).fst;fun(s8:Int)=>[O.ints false i8 p.zs,O.cells true [I p.f,I p.r,V.sl 0 0 p.zs.length none,Bb p.bl,V.int u8 p.ca,I p.pa,I p.ha,I p.fu],O.cells true [I x31],O.cells true [U s8],O.cells true [U ((fh (Psn.mk p.f p.r x32 p.bl p.ca p.pa p.ha p.fu) x31).getD (0,0)).fst]]) 0 (iZ ((fh (Psn.mk p.f p.r (List.take p.zs.length (List.drop 0 p.zs)) p.bl p.ca p.pa p.ha p.fu) (bT p.f p.r (List.take p.zs.length (List.drop 0 p.zs)) p.bl).fst).getD (0,0)).fst) (fun(e2:Int)=>[I e2]) (fun(e2 s8:Int)=>(8,I e2)::putPs (#[33]:Array Nat).toList [I e2] [(1,V.ptr 1 0 0),(2,U 0),(3,I 0),(4,V.ptr 2 0 0),(6,V.ptr 3 0 0),(32,V.fn 95 [V.ptr 4 0 0])]) [4] [1,2,3,4,6,32] ((Ent.rn [0,1,2,3,4] [1,2,3,4,6,32] rfl rfl rfl rfl rfl).trans ((Ent.rn [0,1,2,3,4] [1,2,3,4,6,32] rfl rfl rfl rfl rfl))) (qM (kCa:=true) _) (fun _=>rfl) (ent Tryz.func95 (by kernel_rfl) rfl) rfl rfl rfl rfl rfl rfl (fun _=>rfl) (fun _=>rfl) (fun _ _=>rfl) (fun e2 s8=>?_) (fun s8=>?_) (fun s8=>ox)
 ·refine aQ (pl rfl id) ?_
  refine dg hE 2 (let x37:=List.take p.zs.length (List.drop 0 p.zs);let x36:=(bT p.f p.r x37 p.bl).fst;fun(s11:Int)=>([],[O.ints false i8 p.zs,O.cells true [I p.f,I p.r,V.sl 0 0 p.zs.length none,Bb p.bl,V.int u8 p.ca,I p.pa,I p.ha,I p.fu],O.cells true [I x36],O.cells true [U s11],O.cells true [U ((fh (Psn.mk p.f p.r x37 p.bl p.ca p.pa p.ha p.fu) x36).getD (0,0)).fst]])) rfl ?_ ?_ (fun s11=>?_)
  ·refine av rfl ?_
   refine bI ?_
   exact bR ((Ent.rn [0,1,2,3,4] [] rfl rfl rfl rfl rfl))
  ·exact bR ((Ent.rn [0,1,2,3,4] [] rfl rfl rfl rfl rfl))
  exact mz ((Ent.rn [0,1,2,3,4] [] rfl rfl rfl rfl rfl))
 exact aR (aO [] (.inr rfl) rfl rfl rfl rfl rfl)
theorem Jg:CtOk (GGx true true) PP (21,KO):=by
 refine aD Tryz.func21 (by kernel_rfl) rfl fun a0 h0 c0 v0 N0 e hc=>?_
 unfold KO at e
 split at e
 ·rename_i p_0 p_1 p_2n p_3 p_4 p_5 p_6 p_7 p_2
  obtain⟨hl,r,hr,rfl,rfl⟩:=bJ e hc
  simp only[decide_eq_true_eq]at hl
  obtain rfl:=hl
  exact Mk ⟨p_0,p_1,p_2,p_3,p_4,p_5,p_6,p_7⟩ hr
 ·cases e
def rEnd(p:Psn):Option (Int):=let x5:=List.take p.zs.length (List.drop 0 p.zs);let x4:=x5.length;cr (lF (Psn.mk p.f p.r x5 p.bl p.ca p.pa p.ha p.fu)) [] fun(y3:List (List Int))=>let x7:=decide (0<Int.ofNat y3.length);aX (decide (x4<=64)&&vsB p.f p.r) (bif chkL p.f p.r x5 p.bl then bif x7 then some 1 else some 2 else bif x7 then some 0 else some 3)
def EL(R:Int):V:=.int .i64 R
def FH(_R:Int):List O:=[]
def Dj:CF
 |[.agg [.int .i64 p_0,.int .i64 p_1,.sl 0 0 p_2n none,.bool p_3,.int .u8 p_4,.int .i64 p_5,.int .i64 p_6,.int .i64 p_7]],[.ints false .i8 p_2]=>retC (decide (p_2n=p_2.length)) (rEnd ⟨p_0,p_1,p_2,p_3,p_4,p_5,p_6,p_7⟩) 0 EL FH
 |_,_=>none
theorem Ih(p:Psn){r}(hr:rEnd p=some r):aJ (GGx kCa kDb) PP 14 [.agg [.int .i64 p.f,.int .i64 p.r,.sl 0 0 p.zs.length none,Bb p.bl,.int .u8 p.ca,.int .i64 p.pa,.int .i64 p.ha,.int .i64 p.fu]] [.ints false .i8 p.zs] (EL r) (FH r):=by
 have hE:=cutE (aB (kCa:=kCa) (kDb:=kDb) (cts:=[(29,uh),(37,jM),(43,mq)]) (inl:=[]) ⟨hU,iG,nL,trivial⟩ trivial)
 refine cH hE 2 Tryz.func14 rfl rfl EL FH hr ?_ rfl rfl
 unfold rEnd
 refine aQ (pl (decide_eq_true (aN rfl)) id) ?_
 refine av rfl ?_
 refine av rfl ?_
 refine cN (pb (pl (decide_eq_true (aN rfl)) id) id) ?_
 refine aK hE 2 rfl ?_ ?_
 ·refine aK hE 2 rfl ?_ ?_
  ·exact aR (aO [] (.inr rfl) rfl rfl rfl rfl rfl)
  exact aR (aO [] (.inr rfl) rfl rfl rfl rfl rfl)
 refine aK hE 2 rfl ?_ ?_
 ·exact aR (aO [] (.inr rfl) rfl rfl rfl rfl rfl)
 exact aR (aO [] (.inr rfl) rfl rfl rfl rfl rfl)
theorem FB:CtOk (GGx kCa kDb) PP (14,Dj):=by
 refine aD Tryz.func14 (by kernel_rfl) rfl fun a0 h0 c0 v0 N0 e hc=>?_
 unfold Dj at e
 split at e
 ·rename_i p_0 p_1 p_2n p_3 p_4 p_5 p_6 p_7 p_2
  obtain⟨hl,r,hr,rfl,rfl⟩:=bJ e hc
  simp only[decide_eq_true_eq]at hl
  obtain rfl:=hl
  exact Ih ⟨p_0,p_1,p_2,p_3,p_4,p_5,p_6,p_7⟩ hr
 ·cases e
instance:Inhabited Psn:=⟨⟨0,0,[],false,0,0,0,0⟩⟩
def qU:Psn->Bool->List (List Int)->List (List Int)×Int->Option (List (List Int)×Int ⊕ List (List Int) ⊕ List (List Int)):=fun(p:Psn) (check:Bool) (y4:List (List Int))=>let x27:=Psn.mk 0 0 [] false 0 0 0 0;let x28:=Psn.mk p.f p.r (List.take p.zs.length (List.drop 0 p.zs)) p.bl p.ca p.pa p.ha p.fu;fun(s13:List (List Int)×Int)=>let x36:=(s13.1.length+1)*24;let x37:=decide (s13.2<Int.ofNat y4.length);let x38:=(y4.getD s13.2.toNat []).getD 2 0;let x39:=(y4.getD s13.2.toNat []).getD 1 0;let x40:=(y4.getD s13.2.toNat []).getD 0 0;let x41:=i64.wrap (s13.2+1);let x34:=Mov.mk x40 x39 x38;let x35:=decide (0<=s13.2)&&x37;let x33:=(rAft x28 x34).getD x27;let x32:=x33.zs;let x31:=Psn.mk x33.f x33.r (List.take x32.length (List.drop 0 x32)) x33.bl x33.ca x33.pa x33.ha x33.fu;let x30:=(rEnd x31).getD 0;bif x37 then aX x35 (cr (vF x28 x34) Inhabited.default fun(_y14:Bool)=>bif (vF x28 x34).getD false then some (Sum.inl (s13.1,x41))else aX x35 (cr (rAft x28 x34) Inhabited.default fun(_y15:Psn)=>cr (rEnd x31) Inhabited.default fun(_y16:Int)=>dN (bif decide (x30=2)||check&&decide (x30=1)then aX x35 (aX (decide (x36<=140737488355328)) (some (Sum.inl (s13.1++List.take 1 (List.drop 0 [iL [x40,x39,x38]])))))else some (Sum.inl s13.1)) fun(s18:List (List Int))=>some (Sum.inl (s18,x41))))else some (Sum.inr (Sum.inl s13.1))
def rGiv(p:Psn)(check:Bool):Option (List (List Int)):=cr (lF (Psn.mk p.f p.r (List.take p.zs.length (List.drop 0 p.zs)) p.bl p.ca p.pa p.ha p.fu)) [] fun(y4:List (List Int))=>cV (qU p check y4) (fun(s26:List (List Int))=>some s26) 1000000 ([],0)
def En(R:List (List Int)):V:=.sl 1 0 R.length none
def Gb(R:List (List Int)):List O:=[.rows true [.i64,.i64,.i8] R]
def Gk:CF
 |[.agg [.int .i64 p_0,.int .i64 p_1,.sl 0 0 p_2n none,.bool p_3,.int .u8 p_4,.int .i64 p_5,.int .i64 p_6,.int .i64 p_7],.bool check_0],[.ints false .i8 p_2]=>retC (decide (p_2n=p_2.length)) (rGiv ⟨p_0,p_1,p_2,p_3,p_4,p_5,p_6,p_7⟩ check_0) [] En Gb
 |_,_=>none
theorem HB(p:Psn)(check:Bool){r}(hr:rGiv p check=some r):aJ (GGx kCa kDb) PP 20 [.agg [.int .i64 p.f,.int .i64 p.r,.sl 0 0 p.zs.length none,Bb p.bl,.int .u8 p.ca,.int .i64 p.pa,.int .i64 p.ha,.int .i64 p.fu],Bb check] [.ints false .i8 p.zs] (En r) (Gb r):=by
 have hE:=cutE (aB (kCa:=kCa) (kDb:=kDb) (cts:=[(14,Dj),(43,mq),(47,wB),(48,zC)]) (inl:=[]) ⟨FB,nL,Bl,tJ,trivial⟩ trivial)
 refine cH hE 2 Tryz.func20 rfl rfl En Gb hr ?_ rfl rfl
 unfold rGiv
 refine aQ (pl (decide_eq_true (aN rfl)) id) ?_
 refine dc hE 2 (let x49:=(lF (Psn.mk p.f p.r (List.take p.zs.length (List.drop 0 p.zs)) p.bl p.ca p.pa p.ha p.fu)).getD [];fun(s13:List (List Int)×Int)=>([(1,Bb check),(2,V.ptr 1 0 0),(4,V.nils),(5,V.sl 2 0 s13.1.length none),(6,V.sl 3 0 x49.length none),(7,I s13.2)],[O.ints false i8 p.zs,O.cells true [I p.f,I p.r,V.sl 0 0 p.zs.length none,Bb p.bl,V.int u8 p.ca,I p.pa,I p.ha,I p.fu],O.rows true [i64,i64,i8] s13.1,O.rows true [i64,i64,i8] x49])) (fun(s26:List (List Int))=>([(4,V.nils),(5,V.sl 1 0 s26.length none)],[O.ints false i8 p.zs,O.rows true [i64,i64,i8] s26])) (.exit 0) ((Ent.phT 5 (O.rows true [i64,i64,i8] []) rfl rfl rfl rfl rfl).trans (Ent.rn [0,1,3,2] [1,2,4,5,6,7] rfl rfl rfl rfl rfl)) (fun s13=>?_) (fun s26=>?_)
 ·refine aK hE 2 rfl ?_ ?_
  ·refine av rfl ?_
   refine bI ?_
   refine aQ (pl (decide_eq_true (aN rfl)) id) ?_
   refine aK hE 2 rfl ?_ ?_
   ·exact cO ((Ent.rn [0,1,2,3] [1,2,4,5,6,7] rfl rfl rfl rfl rfl))
   refine av rfl ?_
   refine bI ?_
   refine aQ (pl (decide_eq_true (aN rfl)) id) ?_
   refine aQ (pl (decide_eq_true (aN rfl)) id) ?_
   refine av (Bool.not_or_self _) ?_
   refine av (Bool.not_or_self _) ?_
   refine av (Bool.not_or_self _) ?_
   refine av (tt7 _ _) ?_
   refine av (Bool.or_not_self _) ?_
   refine dg hE 2 (let x52:=(lF (Psn.mk p.f p.r (List.take p.zs.length (List.drop 0 p.zs)) p.bl p.ca p.pa p.ha p.fu)).getD [];fun(s18:List (List Int))=>([(1,Bb check),(2,V.ptr 1 0 0),(4,V.nils),(5,V.sl 2 0 s18.length none),(6,V.sl 3 0 x52.length none),(7,I s13.2)],[O.ints false i8 p.zs,O.cells true [I p.f,I p.r,V.sl 0 0 p.zs.length none,Bb p.bl,V.int u8 p.ca,I p.pa,I p.ha,I p.fu],O.rows true [i64,i64,i8] s18,O.rows true [i64,i64,i8] x52])) rfl ?_ ?_ (fun s18=>?_)
   ·refine bI ?_
    refine cN (pr (pl (decide_eq_true rfl) id) rfl) ?_
    exact bR ((Ent.rn [0,1,6,3] [1,2,4,5,6,7] rfl rfl rfl rfl rfl))
   ·exact bR ((Ent.rn [0,1,2,3] [1,2,4,5,6,7] rfl rfl rfl rfl rfl))
   exact cO ((Ent.rn [0,1,2,3] [1,2,4,5,6,7] rfl rfl rfl rfl rfl))
  exact cS ((Ent.rn [0,2] [4,5] rfl rfl rfl rfl rfl))
 exact aR (aO [1] (.inr rfl) rfl rfl rfl rfl rfl)
theorem Ev:CtOk (GGx kCa kDb) PP (20,Gk):=by
 refine aD Tryz.func20 (by kernel_rfl) rfl fun a0 h0 c0 v0 N0 e hc=>?_
 unfold Gk at e
 split at e
 ·rename_i p_0 p_1 p_2n p_3 p_4 p_5 p_6 p_7 check_0 p_2
  obtain⟨hl,r,hr,rfl,rfl⟩:=bJ e hc
  simp only[decide_eq_true_eq]at hl
  obtain rfl:=hl
  exact HB ⟨p_0,p_1,p_2,p_3,p_4,p_5,p_6,p_7⟩ check_0 hr
 ·cases e
end
end Go.Ab
namespace Go.Ab
open Go.Proofs
def resW(bl:Bool)(x:Int):Int×Bool:=bif decide (x=2) then(bif bl then 1 else -1,true)else bif decide (x=3) then(0,true) else(0,false)
def eRes(p:Psn):Option (Int×Bool×Int):=cr (eeOf (Psn.mk p.f p.r (List.take p.zs.length (List.drop 0 p.zs)) p.bl p.ca p.pa p.ha p.fu)) (0,0) fun y=>bif !decide (y.2=0)then some (0,false,y.2)else some ((resW p.bl y.1).1,(resW p.bl y.1).2,0)
theorem Ol(x:Int)(w:World)(b:Bool):(Instr.checkKey b 10000 29 (.int .i64 x)).run PP w=.ok () w:=by kernel_rfl
theorem Mw:PP.underlying 72=some (.map 29 3):=by kernel_rfl
theorem Hx:PP.underlying 29=some (.int .i64):=by kernel_rfl
theorem Kv(w:World):(zeroValue 3).run PP w=.ok (.int .i64 0) w:=by kernel_rfl
theorem qp{x:Int}{uk:Value}(h:∀ ρ,VR ρ (I x) uk):uk=.int .i64 x:=h fun _=>none
theorem Fp{x:Int}{uk:Value}(h:∀ ρ,VR ρ (I x) uk):AV PP 72 29 uk:=by
 rw[qp h]
 exact⟨⟨_,Mw⟩,fun w b=>Ol x w b⟩
def resM(bl:Bool):Mp:=[(I 2,I (bif bl then 1 else -1)),(I 3,I 0)]
theorem yC{bl:Bool}{x:Int}{l:List MapEntry}(hl:fF (resM bl) l)(w:World) :
  (do let y <-Instr.findKey 29 (.int .i64 x) l;match y with|some (_,v)=>pure (v,true)|none=>pure (<-zeroValue 3,false):Sem (Value×Bool)).run PP w=.ok (.int .i64 (resW bl x).1,(resW bl x).2) w:=by
 have h1:=mM (zs:=[(2,I (bif bl then 1 else -1)),(3,I 0)]) Hx (x:=x) hl w
 obtain⟨e0,l0,rfl,_,v0,e1,l1,rfl,_,v1,hl1⟩:=hl
 have hl1:l1=[]:=hl1
 subst hl1
 have v0:e0.val=.int .i64 (bif bl then 1 else -1):=v0 fun _=>none
 have v1:e1.val=.int .i64 0:=v1 fun _=>none
 rw[Sem.run_bind,h1,Result.andThen_ok]
 unfold resW
 simp only[List.map_cons,List.map_nil]
 cases decide (x=2) with
 |true=>simp only[eL,cond_true,v0];rfl
 |false=>
 cases decide (x=3) with
 |true=>simp only[eL,cond_true,cond_false,v1];rfl
 |false=>simp only[eL,cond_false,Sem.run_bind,Kv,Result.andThen_ok];rfl
theorem CD{l:List MapEntry}(hl:fF (resM true) l):∃ e,l[0]?=some e/\e.key=.int .i64 2/\Instr.sameBits 10000 (.int .i64 2) (.int .i64 2)=true/\∀ w,(Instr.findKey 29 (.int .i64 2) l).run PP w=.ok (some (0,e.val)) w:=by
 have h1:=fun w=>mM (zs:=[(2,I 1),(3,I 0)]) Hx (x:=2) hl w
 obtain⟨e0,l0,rfl,k0,v0,e1,l1,rfl,_,v1,hl1⟩:=hl
 exact⟨e0,rfl,k0 fun _=>none,by kernel_rfl,fun w=>(h1 w).trans rfl⟩
def Jt(R:Int×Bool×Int):V:=.tup [.int .i64 R.1,.bool R.2.1,.int .i64 R.2.2]
def JS(_:Int×Bool×Int):List O:=[]
theorem HJ(p:Psn){r}(hr:eRes p=some r):aJ (GGx true true) PP 11 [.agg [.int .i64 p.f,.int .i64 p.r,.sl 0 0 p.zs.length none,Bb p.bl,.int .u8 p.ca,.int .i64 p.pa,.int .i64 p.ha,.int .i64 p.fu]] [.ints false .i8 p.zs] (Jt r) (JS r):=by
 have hE:=aB (kCa:=true) (kDb:=true) (cts:=[(10,An)]) (inl:=[]) ⟨ur,trivial⟩ trivial
 refine oP hE (fn:=Tryz.f11) Tryz.func11 rfl rfl fun n B S w0 ρ0=>?_
 unfold eRes cr aX at hr
 obtain⟨o,ho⟩:∃ o,o=eeOf (Psn.mk p.f p.r (List.take p.zs.length (List.drop 0 p.zs)) p.bl p.ca p.pa p.ha p.fu):=⟨_,rfl⟩
 rw[<-ho]at hr
 cases hs:o.isSome with
 |false=>rw[hs]at hr;cases hr
 |true=>
 rw[hs,cond_true]at hr
 dsimp only at hr
 refine YM.seq (YM.seg hE 2 ?_)
 refine ag ?_
 refine YM.seq (YM.seg hE 2 ?_)
 refine ae (pl (decide_eq_true (aN rfl)) (fun _=>by rw[<-ho];exact hs) hs) ?_
 refine ag ?_
 refine YM.seq (YM.seg hE 2 ?_)
 refine aq (fun h=>ag ?_) (fun h=>ag ?_)
 ·rw[<-ho]at h ⊢
  rw[h,cond_true]at hr
  cases hr
  exact⟨_,_,Ent.refl _ _ _,aO [] (.inr rfl) rfl rfl rfl rfl rfl⟩
 rw[<-ho]at h ⊢
 rw[h,cond_false]at hr
 cases hr
 refine YM.seq (YM.region ?_)
 refine YO.make rfl rfl rfl rfl rfl rfl ?_
 refine YO.insert (kt:=29) (K:=I 2) (X:=I 1) (.inl rfl) rfl rfl rfl rfl rfl rfl (fun uk hk=>⟨Fp hk,fun l hl w=>?_⟩) ?_
 ·rw[qp hk];exact mM (zs:=[]) Hx hl w
 refine YO.insert (kt:=29) (K:=I 3) (X:=I 0) (.inl rfl) rfl rfl rfl rfl rfl rfl (fun uk hk=>⟨Fp hk,fun l hl w=>?_⟩) ?_
 ·rw[qp hk];exact(mM (zs:=[(2,I 1)]) Hx hl w).trans (by rw[gr rfl])
 refine YO.seg hE 2 [_,_] [] rfl ?_
 refine ag ?_
 refine YO.nil ?_
 refine YM.seq (YM.seq (YM.seg hE 2 ?_))
 refine ag ?_
 refine(YM.cond (b:=!p.bl) rfl (fun hb=>?_) (fun hb=>?_))
 ·have hb:p.bl=false:=by simpa using hb
  refine YM.region ?_
  refine YO.seg hE 2 [_] [_] rfl ?_
  refine ag ?_
  refine YO.update (kt:=29) (i:=0) (K:=I 2) (X:=I (-1)) rfl rfl rfl rfl rfl rfl rfl (fun uk hk=>⟨Fp hk,fun l hl=>?_⟩) rfl ?_
  ·rw[qp hk];exact CD hl
  refine YO.nil ?_
  refine YM.seq (YM.region ?_)
  refine YO.seg hE 2 [_,_] [_,_,_,_,_,_] rfl ?_
  refine ag ?_
  refine YO.lookup (kt:=29) (K:=I (o.getD (0,0)).1) (v:=.tup [I (resW p.bl (o.getD (0,0)).1).1,.bool (resW p.bl (o.getD (0,0)).1).2]) rfl rfl rfl rfl rfl (by rw[ho];rfl) rfl (fun uk hk=>⟨Fp hk,fun l hl=>⟨3,.int .i64 (resW p.bl (o.getD (0,0)).1).1,(resW p.bl (o.getD (0,0)).1).2,Mw,fun w=>?_,fun ρ=>⟨_,rfl,_,_,rfl,rfl,_,_,rfl,rfl,rfl⟩⟩⟩) ?_
  ·rw[qp hk,hb];exact yC (bl:=false) hl w
  refine YO.seg hE 2 [_,_,_,_,_] [] rfl ?_
  refine ag ?_
  refine YO.nil ?_
  refine YM.seg hE 2 ?_
  refine ag ?_
  exact⟨_,_,Ent.refl _ _ _,aO [] (.inr rfl) rfl rfl rfl rfl rfl⟩
 ·have hb:p.bl=true:=by simpa using hb
  refine YM.seg hE 2 ?_
  refine ag ?_
  refine YM.seq (YM.region ?_)
  refine YO.seg hE 2 [_,_] [_,_,_,_,_,_] rfl ?_
  refine ag ?_
  refine YO.lookup (kt:=29) (K:=I (o.getD (0,0)).1) (v:=.tup [I (resW p.bl (o.getD (0,0)).1).1,.bool (resW p.bl (o.getD (0,0)).1).2]) rfl rfl rfl rfl rfl (by rw[ho];rfl) rfl (fun uk hk=>⟨Fp hk,fun l hl=>⟨3,.int .i64 (resW p.bl (o.getD (0,0)).1).1,(resW p.bl (o.getD (0,0)).1).2,Mw,fun w=>?_,fun ρ=>⟨_,rfl,_,_,rfl,rfl,_,_,rfl,rfl,rfl⟩⟩⟩) ?_
  ·rw[qp hk,hb];exact yC (bl:=true) hl w
  refine YO.seg hE 2 [_,_,_,_,_] [] rfl ?_
  refine ag ?_
  refine YO.nil ?_
  refine YM.seg hE 2 ?_
  refine ag ?_
  exact⟨_,_,Ent.refl _ _ _,aO [] (.inr rfl) rfl rfl rfl rfl rfl⟩
def DI:CF
 |[.agg [.int .i64 p_0,.int .i64 p_1,.sl 0 0 p_2n none,.bool p_3,.int .u8 p_4,.int .i64 p_5,.int .i64 p_6,.int .i64 p_7]],[.ints false .i8 p_2]=>retC (decide (p_2n=p_2.length)) (eRes ⟨p_0,p_1,p_2,p_3,p_4,p_5,p_6,p_7⟩) (0,false,0) Jt JS
 |_,_=>none
theorem Dl:CtOk (GGx true true) PP (11,DI):=by
 refine aD Tryz.func11 (by kernel_rfl) rfl fun a0 h0 c0 v0 N0 e hc=>?_
 unfold DI at e
 split at e
 ·rename_i p_0 p_1 p_2n p_3 p_4 p_5 p_6 p_7 p_2
  obtain⟨hl,r,hr,rfl,rfl⟩:=bJ e hc
  simp only[Bool.and_eq_true,decide_eq_true_eq]at hl
  obtain rfl:=hl
  exact HJ ⟨p_0,p_1,p_2,p_3,p_4,p_5,p_6,p_7⟩ hr
 ·cases e
end Go.Ab
namespace Go.Ab
open IntKind
open Go.Proofs
section
variable{kCa kDb:Bool}
def eM:List Int->Int->Int->Option (Int ⊕ Unit ⊕ Bool):=fun(g:List Int) (x s6:Int)=>let x13:=decide (s6<Int.ofNat g.length);bif x13 then aX (decide (0<=s6)&&x13) (bif decide (x=g.getD s6.toNat 0)then escO (escO (some true))else some (Sum.inl (i64.wrap (s6+1))))else some (Sum.inr (Sum.inl ()))
def has(g:List Int)(x:Int):Option (Bool):=cV (eM g x) (fun(_s11:Unit)=>some false) 1000000 0
def KZ(R:Bool):V:=Bb R
def Ml(_R:Bool):List O:=[]
def HQ:CF
 |[.sl 0 0 g_0n none,.int .i64 x_0],[.ints false .i64 g_0]=>retC (decide (g_0n=g_0.length)) (has g_0 x_0) false KZ Ml
 |_,_=>none
theorem Lz(g:List Int)(x:Int){r}(hr:has g x=some r):aJ (GGx kCa kDb) PP 44 [.sl 0 0 g.length none,.int .i64 x] [.ints false .i64 g] (KZ r) (Ml r):=by
 have hE:=cutE (aB (kCa:=kCa) (kDb:=kDb) (cts:=[]) (inl:=[]) trivial trivial)
 refine cH hE 2 Tryz.func44 rfl rfl KZ Ml hr ?_ rfl rfl
 refine dc hE 2 (fun(s6:Int)=>([(1,I x),(4,Bb false),(7,V.sl 0 0 g.length none),(8,I (Int.ofNat g.length)),(9,I s6)],[O.ints false i64 g])) (fun(s11:Unit)=>([(4,Bb false)],[O.ints false i64 g])) (.exit 0) ((Ent.rn [0] [1,4,7,8,9] rfl rfl rfl rfl rfl)) (fun s6=>?_) (fun s11=>?_)
 ·refine aK hE 2 rfl ?_ ?_
  ·refine bI ?_
   refine aK hE 2 rfl ?_ ?_
   ·refine pM (by simp) (kP ?_)
    exact aR (aO [] (.inr rfl) rfl rfl rfl rfl rfl)
   exact cO ((Ent.rn [0] [1,4,7,8,9] rfl rfl rfl rfl rfl))
  exact cS ((Ent.rn [0] [4] rfl rfl rfl rfl rfl))
 exact aR (aO [] (.inr rfl) rfl rfl rfl rfl rfl)
theorem za:CtOk (GGx kCa kDb) PP (44,HQ):=by
 refine aD Tryz.func44 (by kernel_rfl) rfl fun a0 h0 c0 v0 N0 e hc=>?_
 unfold HQ at e
 split at e
 ·rename_i g_0n x_0 g_0
  obtain⟨hl,r,hr,rfl,rfl⟩:=bJ e hc
  simp only[decide_eq_true_eq]at hl
  obtain rfl:=hl
  exact Lz g_0 x_0 hr
 ·cases e
def yT:Mov×Psn->List (List Int)->Option (List (List Int) ⊕ List (List Int) ⊕ List (List Int)×Int):=fun(e1:Mov×Psn) (s8:List (List Int))=>let x19:=(s8.length+1)*24;cr (eOf (Psn.mk e1.2.f e1.2.r (List.take e1.2.zs.length (List.drop 0 e1.2.zs)) e1.2.bl e1.2.ca e1.2.pa e1.2.ha e1.2.fu)) 0 fun(y9:Int)=>cr (has (List.take 1 (List.drop 0 (iL [2]))) y9) false fun(y10:Bool)=>dN (bif y10 then aX (decide (x19<=140737488355328)) (some (Sum.inl (s8++List.take 1 (List.drop 0 [iL [e1.1.a,e1.1.b,e1.1.p]]))))else some (Sum.inl s8)) fun(s12:List (List Int))=>some (Sum.inl s12)
def eMt(p:Psn):Option (List (List Int)×Int):=let x27:=List.take p.zs.length (List.drop 0 p.zs);let x25:=Psn.mk p.f p.r x27 p.bl p.ca p.pa p.ha p.fu;let x26:=x27.length;let x24:=decide (x26<=64);aX x24 (bif !x25.ok then some ([],2)else aX x24 (aX (afOk x25) (dQ yT (fun(s8:List (List Int))=>some (s8,0)) (fun(_s8:List (List Int))=>none) (afLs x25) [])))
def Mh(R:List (List Int)×Int):V:=.tup [.sl 1 0 R.1.length none,.int .i64 R.2]
def LH(R:List (List Int)×Int):List O:=[.rows true [.i64,.i64,.i8] R.1]
def HY:CF
 |[.agg [.int .i64 p_0,.int .i64 p_1,.sl 0 0 p_2n none,.bool p_3,.int .u8 p_4,.int .i64 p_5,.int .i64 p_6,.int .i64 p_7]],[.ints false .i8 p_2]=>retC (decide (p_2n=p_2.length)) (eMt ⟨p_0,p_1,p_2,p_3,p_4,p_5,p_6,p_7⟩) ([],0) Mh LH
 |_,_=>none
theorem Mb(p:Psn){r}(hr:eMt p=some r):aJ (GGx true true) PP 16 [.agg [.int .i64 p.f,.int .i64 p.r,.sl 0 0 p.zs.length none,Bb p.bl,.int .u8 p.ca,.int .i64 p.pa,.int .i64 p.ha,.int .i64 p.fu]] [.ints false .i8 p.zs] (Mh r) (LH r):=by
 have hE:=cutE (aB (kCa:=true) (kDb:=true) (cts:=[(33,ei),(34,Ds),(44,HQ),(60,oN)]) (inl:=[(45,Tryz.f45),(30,Tryz.f30)]) ⟨cQ,rf,za,lz,trivial⟩ ⟨⟨Tryz.func45,by kernel_rfl⟩,⟨Tryz.func30,by kernel_rfl⟩,trivial⟩)
 refine cH hE 3 Tryz.func16 rfl rfl Mh LH hr ?_ rfl rfl
 refine cN (pl (decide_eq_true (aN rfl)) id) ?_
 refine aK hE 3 rfl ?_ ?_
 ·exact aR (nw 2 (.rows true [.i64,.i64,.i8] []) rfl rfl rfl<|aO [5] (.inr rfl) rfl rfl rfl rfl rfl)
 refine cN (pl (decide_eq_true (aN rfl)) id) ?_
 refine JL (fun qr91319=>?_)
 refine tW hE 3 9 (let x31:=[Bb p.bl,V.int u8 p.ca,I p.pa,I p.ha,I p.fu];let x32:=List.take p.zs.length (List.drop 0 p.zs);let x30:=I p.f::I p.r::V.sl 0 0 p.zs.length none::x31;fun(s8:List (List Int))=>[O.ints false i8 p.zs,O.cells true x30,O.ints true i64 (iL [2]),O.cells true x30,O.cells true [V.fn (BM+44) [V.sl 2 0 1 none]],O.cells true [V.sl 9 0 s8.length none],O.cells true (I p.f::I p.r::V.sl 7 0 x32.length none::x31),O.ints true i8 x32,O.gone,O.rows true [i64,i64,i8] s8]) (let x35:=[Bb p.bl,V.int u8 p.ca,I p.pa,I p.ha,I p.fu];let x36:=List.take p.zs.length (List.drop 0 p.zs);let x34:=I p.f::I p.r::V.sl 0 0 p.zs.length none::x35;fun(s8:List (List Int))=>[O.ints false i8 p.zs,O.cells true x34,O.ints true i64 (iL [2]),O.cells true x34,O.cells true [V.fn (BM+44) [V.sl 2 0 1 none]],O.cells true [V.sl 9 0 s8.length none],O.cells true (I p.f::I p.r::V.sl 7 0 x36.length none::x35),O.ints true i8 x36,O.gone,O.rows true [i64,i64,i8] s8]) 0 (afLs (Psn.mk p.f p.r (List.take p.zs.length (List.drop 0 p.zs)) p.bl p.ca p.pa p.ha p.fu)) BW afNs (Jb (Psn.mk p.f p.r (List.take p.zs.length (List.drop 0 p.zs)) p.bl p.ca p.pa p.ha p.fu)) (afHc (Psn.mk p.f p.r (List.take p.zs.length (List.drop 0 p.zs)) p.bl p.ca p.pa p.ha p.fu)) Ku 8 (let x38:=(Psn.mk p.f p.r (List.take p.zs.length (List.drop 0 p.zs)) p.bl p.ca p.pa p.ha p.fu).ok;fun(e1:Mov×Psn) (s8:List (List Int))=>(8,V.ptr 13 0 0)::(7,V.ptr 12 0 0)::putPs (#[14,15]:Array Nat).toList [V.agg [I e1.1.a,I e1.1.b,V.int i8 e1.1.p],V.agg [I e1.2.f,I e1.2.r,V.sl 11 0 e1.2.zs.length none,Bb e1.2.bl,V.int u8 e1.2.ca,I e1.2.pa,I e1.2.ha,I e1.2.fu]] [(1,V.fn (BM+44) [V.sl 2 0 1 none]),(2,V.ptr 3 0 0),(3,V.ptr 4 0 0),(4,V.nils),(5,I 0),(6,V.ptr 5 0 0),(9,V.agg [I p.f,I p.r,V.sl 0 0 p.zs.length none,Bb p.bl,V.int u8 p.ca,I p.pa,I p.ha,I p.fu]),(10,Bb x38),(11,Bb !x38),(13,V.fn 61 [V.ptr 6 0 0])]) _ [6,7] [1,2,3,4,5,6,9,10,11,13] ((Ent.gap rfl rfl).trans ((Ent.rn [0,1,2,3,4,5,8,7,9] [1,2,3,4,5,6,9,10,11,13] rfl rfl rfl rfl rfl).trans ((Ent.phC 5 0 (O.rows true [i64,i64,i8] []) rfl rfl rfl rfl rfl).trans (Ent.rn [0,1,2,3,4,5,6,7,8,9] [1,2,3,4,5,6,9,10,11,13] rfl rfl rfl rfl rfl)))) (JT _ qr91319) (fun _=>⟨rfl,Nat.le_of_ble_eq_true rfl⟩) (ent Tryz.func61 (by kernel_rfl) rfl) rfl rfl rfl rfl rfl rfl rfl rfl rfl rfl rfl rfl (fun _=>(ji rfl rfl rfl rfl rfl rfl rfl rfl)) (fun _=>(ji rfl rfl rfl rfl rfl rfl rfl rfl)) (fun _ _=>rfl) (fun e1 s8=>?_) (fun s8=>?_) (fun s8=>ox)
 ·refine av rfl ?_
  first|unfold yT|unfold Ah
  refine aQ (pl (decide_eq_true (aN rfl)) id) ?_
  refine aQ (pl rfl id) ?_
  refine dg hE 3 (let x42:=[Bb p.bl,V.int u8 p.ca,I p.pa,I p.ha,I p.fu];let x43:=List.take p.zs.length (List.drop 0 p.zs);let x41:=I p.f::I p.r::V.sl 0 0 p.zs.length none::x42;fun(s12:List (List Int))=>([],[O.ints false i8 p.zs,O.cells true x41,O.ints true i64 (iL [2]),O.cells true x41,O.cells true [V.fn (BM+44) [V.sl 2 0 1 none]],O.cells true [V.sl 9 0 s12.length none],O.cells true (I p.f::I p.r::V.sl 7 0 x43.length none::x42),O.ints true i8 x43,O.rows true [i64,i64,i8] (afL (Psn.mk p.f p.r x43 p.bl p.ca p.pa p.ha p.fu)),O.rows true [i64,i64,i8] s12])) rfl ?_ ?_ (fun s12=>?_)
  ·refine cN (pr (pl (decide_eq_true rfl) id) rfl) ?_
   exact bR ((Ent.rn [0,1,2,3,4,5,6,7,8,15] [] rfl rfl rfl rfl rfl))
  ·exact bR ((Ent.rn [0,1,2,3,4,5,6,7,8,9] [] rfl rfl rfl rfl rfl))
  exact tx ((Ent.rn [0,1,2,3,4,5,6,7,8,9] [] rfl rfl rfl rfl rfl)) rfl
 exact aR (aO [9] (.inr rfl) rfl rfl rfl rfl rfl)
theorem Aq:CtOk (GGx true true) PP (16,HY):=by
 refine aD Tryz.func16 (by kernel_rfl) rfl fun a0 h0 c0 v0 N0 e hc=>?_
 unfold HY at e
 split at e
 ·rename_i p_0 p_1 p_2n p_3 p_4 p_5 p_6 p_7 p_2
  obtain⟨hl,r,hr,rfl,rfl⟩:=bJ e hc
  simp only[decide_eq_true_eq]at hl
  obtain rfl:=hl
  exact Mb ⟨p_0,p_1,p_2,p_3,p_4,p_5,p_6,p_7⟩ hr
 ·cases e
def Ah:Mov×Psn->List (List Int)->Option (List (List Int) ⊕ List (List Int) ⊕ List (List Int)×Int):=fun(e1:Mov×Psn) (s8:List (List Int))=>let x19:=(s8.length+1)*24;cr (eOf (Psn.mk e1.2.f e1.2.r (List.take e1.2.zs.length (List.drop 0 e1.2.zs)) e1.2.bl e1.2.ca e1.2.pa e1.2.ha e1.2.fu)) 0 fun(y9:Int)=>cr (has (List.take 2 (List.drop 0 (iL [1,2]))) y9) false fun(y10:Bool)=>dN (bif y10 then aX (decide (x19<=140737488355328)) (some (Sum.inl (s8++List.take 1 (List.drop 0 [iL [e1.1.a,e1.1.b,e1.1.p]]))))else some (Sum.inl s8)) fun(s12:List (List Int))=>some (Sum.inl s12)
def eCk(p:Psn):Option (List (List Int)×Int):=let x27:=List.take p.zs.length (List.drop 0 p.zs);let x25:=Psn.mk p.f p.r x27 p.bl p.ca p.pa p.ha p.fu;let x26:=x27.length;let x24:=decide (x26<=64);aX x24 (bif !x25.ok then some ([],2)else aX x24 (aX (afOk x25) (dQ Ah (fun(s8:List (List Int))=>some (s8,0)) (fun(_s8:List (List Int))=>none) (afLs x25) [])))
def Kq(R:List (List Int)×Int):V:=.tup [.sl 1 0 R.1.length none,.int .i64 R.2]
def LJ(R:List (List Int)×Int):List O:=[.rows true [.i64,.i64,.i8] R.1]
def Gz:CF
 |[.agg [.int .i64 p_0,.int .i64 p_1,.sl 0 0 p_2n none,.bool p_3,.int .u8 p_4,.int .i64 p_5,.int .i64 p_6,.int .i64 p_7]],[.ints false .i8 p_2]=>retC (decide (p_2n=p_2.length)) (eCk ⟨p_0,p_1,p_2,p_3,p_4,p_5,p_6,p_7⟩) ([],0) Kq LJ
 |_,_=>none
theorem KB(p:Psn){r}(hr:eCk p=some r):aJ (GGx true true) PP 17 [.agg [.int .i64 p.f,.int .i64 p.r,.sl 0 0 p.zs.length none,Bb p.bl,.int .u8 p.ca,.int .i64 p.pa,.int .i64 p.ha,.int .i64 p.fu]] [.ints false .i8 p.zs] (Kq r) (LJ r):=by
 have hE:=cutE (aB (kCa:=true) (kDb:=true) (cts:=[(33,ei),(34,Ds),(44,HQ),(60,oN)]) (inl:=[(45,Tryz.f45),(30,Tryz.f30)]) ⟨cQ,rf,za,lz,trivial⟩ ⟨⟨Tryz.func45,by kernel_rfl⟩,⟨Tryz.func30,by kernel_rfl⟩,trivial⟩)
 refine cH hE 3 Tryz.func17 rfl rfl Kq LJ hr ?_ rfl rfl
 refine cN (pl (decide_eq_true (aN rfl)) id) ?_
 refine aK hE 3 rfl ?_ ?_
 ·exact aR (nw 2 (.rows true [.i64,.i64,.i8] []) rfl rfl rfl<|aO [5] (.inr rfl) rfl rfl rfl rfl rfl)
 refine cN (pl (decide_eq_true (aN rfl)) id) ?_
 refine JL (fun qr38762=>?_)
 refine tW hE 3 9 (let x31:=[Bb p.bl,V.int u8 p.ca,I p.pa,I p.ha,I p.fu];let x32:=List.take p.zs.length (List.drop 0 p.zs);let x30:=I p.f::I p.r::V.sl 0 0 p.zs.length none::x31;fun(s8:List (List Int))=>[O.ints false i8 p.zs,O.cells true x30,O.ints true i64 (iL [1,2]),O.cells true x30,O.cells true [V.fn (BM+44) [V.sl 2 0 2 none]],O.cells true [V.sl 9 0 s8.length none],O.cells true (I p.f::I p.r::V.sl 7 0 x32.length none::x31),O.ints true i8 x32,O.gone,O.rows true [i64,i64,i8] s8]) (let x35:=[Bb p.bl,V.int u8 p.ca,I p.pa,I p.ha,I p.fu];let x36:=List.take p.zs.length (List.drop 0 p.zs);let x34:=I p.f::I p.r::V.sl 0 0 p.zs.length none::x35;fun(s8:List (List Int))=>[O.ints false i8 p.zs,O.cells true x34,O.ints true i64 (iL [1,2]),O.cells true x34,O.cells true [V.fn (BM+44) [V.sl 2 0 2 none]],O.cells true [V.sl 9 0 s8.length none],O.cells true (I p.f::I p.r::V.sl 7 0 x36.length none::x35),O.ints true i8 x36,O.gone,O.rows true [i64,i64,i8] s8]) 0 (afLs (Psn.mk p.f p.r (List.take p.zs.length (List.drop 0 p.zs)) p.bl p.ca p.pa p.ha p.fu)) BW afNs (Jb (Psn.mk p.f p.r (List.take p.zs.length (List.drop 0 p.zs)) p.bl p.ca p.pa p.ha p.fu)) (afHc (Psn.mk p.f p.r (List.take p.zs.length (List.drop 0 p.zs)) p.bl p.ca p.pa p.ha p.fu)) Ku 8 (let x38:=(Psn.mk p.f p.r (List.take p.zs.length (List.drop 0 p.zs)) p.bl p.ca p.pa p.ha p.fu).ok;fun(e1:Mov×Psn) (s8:List (List Int))=>(8,V.ptr 13 0 0)::(7,V.ptr 12 0 0)::putPs (#[14,15]:Array Nat).toList [V.agg [I e1.1.a,I e1.1.b,V.int i8 e1.1.p],V.agg [I e1.2.f,I e1.2.r,V.sl 11 0 e1.2.zs.length none,Bb e1.2.bl,V.int u8 e1.2.ca,I e1.2.pa,I e1.2.ha,I e1.2.fu]] [(1,V.fn (BM+44) [V.sl 2 0 2 none]),(2,V.ptr 3 0 0),(3,V.ptr 4 0 0),(4,V.nils),(5,I 0),(6,V.ptr 5 0 0),(9,V.agg [I p.f,I p.r,V.sl 0 0 p.zs.length none,Bb p.bl,V.int u8 p.ca,I p.pa,I p.ha,I p.fu]),(10,Bb x38),(11,Bb !x38),(13,V.fn 61 [V.ptr 6 0 0])]) _ [6,7] [1,2,3,4,5,6,9,10,11,13] ((Ent.gap rfl rfl).trans ((Ent.rn [0,1,2,3,4,5,8,7,9] [1,2,3,4,5,6,9,10,11,13] rfl rfl rfl rfl rfl).trans ((Ent.phC 5 0 (O.rows true [i64,i64,i8] []) rfl rfl rfl rfl rfl).trans (Ent.rn [0,1,2,3,4,5,6,7,8,9] [1,2,3,4,5,6,9,10,11,13] rfl rfl rfl rfl rfl)))) (JT _ qr38762) (fun _=>⟨rfl,Nat.le_of_ble_eq_true rfl⟩) (ent Tryz.func61 (by kernel_rfl) rfl) rfl rfl rfl rfl rfl rfl rfl rfl rfl rfl rfl rfl (fun _=>(ji rfl rfl rfl rfl rfl rfl rfl rfl)) (fun _=>(ji rfl rfl rfl rfl rfl rfl rfl rfl)) (fun _ _=>rfl) (fun e1 s8=>?_) (fun s8=>?_) (fun s8=>ox)
 ·refine av rfl ?_
  first|unfold yT|unfold Ah
  refine aQ (pl (decide_eq_true (aN rfl)) id) ?_
  refine aQ (pl rfl id) ?_
  refine dg hE 3 (let x42:=[Bb p.bl,V.int u8 p.ca,I p.pa,I p.ha,I p.fu];let x43:=List.take p.zs.length (List.drop 0 p.zs);let x41:=I p.f::I p.r::V.sl 0 0 p.zs.length none::x42;fun(s12:List (List Int))=>([],[O.ints false i8 p.zs,O.cells true x41,O.ints true i64 (iL [1,2]),O.cells true x41,O.cells true [V.fn (BM+44) [V.sl 2 0 2 none]],O.cells true [V.sl 9 0 s12.length none],O.cells true (I p.f::I p.r::V.sl 7 0 x43.length none::x42),O.ints true i8 x43,O.rows true [i64,i64,i8] (afL (Psn.mk p.f p.r x43 p.bl p.ca p.pa p.ha p.fu)),O.rows true [i64,i64,i8] s12])) rfl ?_ ?_ (fun s12=>?_)
  ·refine cN (pr (pl (decide_eq_true rfl) id) rfl) ?_
   exact bR ((Ent.rn [0,1,2,3,4,5,6,7,8,15] [] rfl rfl rfl rfl rfl))
  ·exact bR ((Ent.rn [0,1,2,3,4,5,6,7,8,9] [] rfl rfl rfl rfl rfl))
  exact tx ((Ent.rn [0,1,2,3,4,5,6,7,8,9] [] rfl rfl rfl rfl rfl)) rfl
 exact aR (aO [9] (.inr rfl) rfl rfl rfl rfl rfl)
theorem zi:CtOk (GGx true true) PP (17,Gz):=by
 refine aD Tryz.func17 (by kernel_rfl) rfl fun a0 h0 c0 v0 N0 e hc=>?_
 unfold Gz at e
 split at e
 ·rename_i p_0 p_1 p_2n p_3 p_4 p_5 p_6 p_7 p_2
  obtain⟨hl,r,hr,rfl,rfl⟩:=bJ e hc
  simp only[decide_eq_true_eq]at hl
  obtain rfl:=hl
  exact KB ⟨p_0,p_1,p_2,p_3,p_4,p_5,p_6,p_7⟩ hr
 ·cases e
end
end Go.Ab
namespace Go.Ab
open Go.Proofs
section
variable{kCa kDb:Bool}
def kx:Nat->Int|0=>0|1=>-1|2=>0|_=>1
def kb:Nat->Bool|0=>false|_=>true
def kt:Nat->List UInt8|0=>[42]|1=>[48,45,49]|2=>[49,47,50,45,49,47,50]|_=>[49,45,48]
def keyV(j:Nat):Value:=.agg #[.int .i64 (kx j),.bool (kb j)]
theorem lt4{j:Nat}(h:j<4):j=0\/j=1\/j=2\/j=3:=by omega
theorem NU{j i:Nat}(hj:j<4)(hi:i<4)(w:World):(Op.equal 102 (keyV j) (keyV i)).run PP w=.ok (Nat.beq j i) w:=by
 rcases lt4 hj with rfl|rfl|rfl|rfl<;>rcases lt4 hi with rfl|rfl|rfl|rfl<;>kernel_rfl
structure EOk(e:MapEntry):Prop where
 lt:e.born<4
 key:e.key=keyV e.born
 val:e.val=.string ⟨(kt e.born).toArray⟩
structure LOk(l:List MapEntry):Prop where
 all:∀ e∈l,EOk e
 nd:(l.map (·.born)).Nodup
theorem vm{j:Nat}(hj:j<4):∀ (l:List MapEntry) (i:Nat),(∀ e∈l,EOk e)->(∃ e∈l,e.born=j)->∃ k x,(∀ w,(Instr.findAsking 102 (keyV j) l i).run PP w=.ok (some (i+k,x)) w)/\∃ e,l[k]?=some e/\e.born=j
 |[],_,_,⟨e,he,_⟩=>by simp at he
 |e::l,i,h,hx=>by
  have h1:=h e (by simp)
  have he:∀ w,(Op.equal 102 (keyV j) e.key).run PP w=.ok (Nat.beq j e.born) w:=fun w=>by rw[h1.key];exact NU hj h1.lt w
  cases hb:Nat.beq j e.born with
  |true=>
   rw[hb]at he
   exact⟨0,e.val,fun w=>by simp only[Instr.findAsking,Sem.run_bind,he,Result.andThen_ok,if_true];rfl,e,rfl,(Nat.eq_of_beq_eq_true hb).symm⟩
  |false=>
   rw[hb]at he
   have hne:e.born≠j:=fun q=>Nat.ne_of_beq_eq_false hb q.symm
   obtain⟨k,x,q1,e',q2,q3⟩:=vm hj l (i+1) (fun e he=>h e (by simp[he])) (by
    obtain⟨e',m1,m2⟩:=hx
    rcases List.mem_cons.1 m1 with rfl|m1
    ·exact absurd m2 hne
    ·exact⟨e',m1,m2⟩)
   refine⟨k+1,x,fun w=>?_,e',by simpa using q2,q3⟩
   have:i+(k+1)=i+1+k:=by omega
   rw[this,<-q1 w]
   simp only[Instr.findAsking,Sem.run_bind,he,Result.andThen_ok,Bool.false_eq_true,if_false]
theorem LOk.erase{l:List MapEntry}(h:LOk l){k j:Nat}{e:MapEntry}(hk:l[k]?=some e)(hj:e.born=j):LOk (l.eraseIdx k)/\(∀ x∈l.eraseIdx k,x∈l/\x.born≠j)/\∀ x∈l,x.born≠j->x∈l.eraseIdx k:=by
 have hsub:∀ x∈l.eraseIdx k,x∈l:=fun x hx=>List.mem_of_mem_eraseIdx hx
 refine⟨⟨fun x hx=>h.all x (hsub x hx),?_⟩,fun x hx=>⟨hsub x hx,fun hb=>?_⟩,fun x hx hb=>?_⟩
 ·exact h.nd.sublist ((List.eraseIdx_sublist l k).map _)
 ·obtain⟨i,hi,hik⟩:=List.mem_eraseIdx_iff_getElem?.1 hx
  have hik':=hik
  obtain⟨i',h1⟩:=List.getElem?_eq_some_iff.1 hik
  obtain⟨k',h2⟩:=List.getElem?_eq_some_iff.1 hk
  have hnd:=h.nd
  have:=(List.getElem?_inj (by simpa using i') hnd (j:=k)).1 (by rw[List.getElem?_map,List.getElem?_map,hik,hk];simp[hb,hj])
  exact hi this
 ·obtain⟨i,hi⟩:=List.mem_iff_getElem?.1 hx
  refine List.mem_eraseIdx_iff_getElem?.2 ⟨i,fun e=>?_,hi⟩
  subst e
  rw[hk]at hi
  cases hi
  exact hb hj
def parse(s:List UInt8):Int×Bool×Int:=bif decide (s=kt 0) then(kx 0,kb 0,0)else bif decide (s=kt 1) then(kx 1,kb 1,0)else bif decide (s=kt 2) then(kx 2,kb 2,0)else bif decide (s=kt 3) then(kx 3,kb 3,0) else(0,false,6)
theorem Hf{j:Nat}(hj:j<4):parse (kt j)=(kx j,kb j,0):=by
 rcases lt4 hj with rfl|rfl|rfl|rfl<;>rfl
theorem AQ{s:List UInt8}(h:∀ i,i<4->kt i≠s):parse s=(0,false,6):=by
 unfold parse
 rw[decide_eq_false (fun e=>h 0 (by decide) e.symm),decide_eq_false (fun e=>h 1 (by decide) e.symm),decide_eq_false (fun e=>h 2 (by decide) e.symm),decide_eq_false (fun e=>h 3 (by decide) e.symm)]
 rfl
def Au(seen:Array Nat):Nat:=(bif seen.contains 0 then 0 else 1)+(bif seen.contains 1 then 0 else 1)+(bif seen.contains 2 then 0 else 1)+(bif seen.contains 3 then 0 else 1)
theorem nK{seen:Array Nat}{j:Nat}(hj:j<4)(h:seen.contains j=false):Au (seen.push j)<Au seen:=by
 unfold Au
 simp only[Array.contains_push]
 rcases lt4 hj with rfl|rfl|rfl|rfl<;>rw[h]<;>cases seen.contains 0<;>cases seen.contains 1<;>cases seen.contains 2<;>cases seen.contains 3<;>decide
theorem IL{l:Array MapEntry}{c:Nat}(h:fF txE l.toList)(hc:StO l c):LOk l.toList/\c=4/\∀ i,i<4->∃ e∈l.toList,e.born=i:=by
 obtain⟨e0,l0,q0,k0,v0,e1,l1,rfl,k1,v1,e2,l2,rfl,k2,v2,e3,l3,rfl,k3,v3,hl3⟩:=h
 have hl3:l3=[]:=hl3
 subst hl3
 obtain⟨c1,c2⟩:=hc
 have hs:l.size=4:=by rw[<-Array.length_toList,q0];rfl
 rw[hs,q0]at c2
 simp only[List.map_cons,List.map_nil]at c2
 rw[show List.range 4=[0,1,2,3]from rfl]at c2
 simp only[List.cons.injEq,and_true]at c2
 obtain⟨b0,b1,b2,b3⟩:=c2
 have k0:=ia (k0:∀ ρ,VR ρ (.agg [I 0,.bool false]) e0.key)
 have k1:=ia (k1:∀ ρ,VR ρ (.agg [I (-1),.bool true]) e1.key)
 have k2:=ia (k2:∀ ρ,VR ρ (.agg [I 0,.bool true]) e2.key)
 have k3:=ia (k3:∀ ρ,VR ρ (.agg [I 1,.bool true]) e3.key)
 have v0:e0.val=.string ⟨(kt 0).toArray⟩:=v0 fun _=>none
 have v1:e1.val=.string ⟨(kt 1).toArray⟩:=v1 fun _=>none
 have v2:e2.val=.string ⟨(kt 2).toArray⟩:=v2 fun _=>none
 have v3:e3.val=.string ⟨(kt 3).toArray⟩:=v3 fun _=>none
 refine⟨⟨?_,?_⟩,by rw[c1,hs],?_⟩
 ·rw[q0]
  intro e he
  simp only[List.mem_cons,List.not_mem_nil,or_false]at he
  rcases he with rfl|rfl|rfl|rfl
  ·exact⟨by rw[b0];decide,by rw[b0];exact k0,by rw[b0];exact v0⟩
  ·exact⟨by rw[b1];decide,by rw[b1];exact k1,by rw[b1];exact v1⟩
  ·exact⟨by rw[b2];decide,by rw[b2];exact k2,by rw[b2];exact v2⟩
  ·exact⟨by rw[b3];decide,by rw[b3];exact k3,by rw[b3];exact v3⟩
 ·rw[q0]
  simp only[List.map_cons,List.map_nil,b0,b1,b2,b3]
  decide
 ·rw[q0]
  intro i hi
  rcases lt4 hi with rfl|rfl|rfl|rfl
  ·exact⟨e0,by simp,b0⟩
  ·exact⟨e1,by simp,b1⟩
  ·exact⟨e2,by simp,b2⟩
  ·exact⟨e3,by simp,b3⟩
structure PI(s:List UInt8)(l:Array MapEntry)(seen:Array Nat):Prop where
 ok:LOk l.toList
 keep:∀ i,i<4->kt i=s->∃ e∈l.toList,e.born=i
 done:∀ e∈l.toList,seen.contains e.born=true->kt e.born=s
def NC(R:Int×Bool×Int):V:=.tup [.int .i64 R.1,.bool R.2.1,.int .i64 R.2.2]
theorem Mz(s:List UInt8):aJ (GGx kCa kDb) PP 26 [.str s] [] (NC (parse s)) []:=by
 have hE:=aB (kCa:=kCa) (kDb:=kDb) (cts:=[]) (inl:=[]) trivial trivial
 refine DH hE (fn:=Tryz.f26) Tryz.func26 rfl rfl fun n B S w0 ρ0=>?_
 refine ZM.seq (ZM.seg hE 2 ?_)
 refine ag ?_
 refine ZM.seq (ZM.region ?_)
 refine ZO.callM rfl rfl rfl (ent Tryz.func56 (by kernel_rfl) rfl) tQ rfl rfl rfl rfl fun l0 c hl0 hc0=>?_
 obtain⟨hok,rfl,hall⟩:=IL hl0 hc0
 refine ZO.seg hE 2 [_] [] rfl ?_
 refine ag ?_
 refine ZO.nil ?_
 refine ZM.seqX (fun μ' mp' tm' hp'=>μ'=2/\∃ l seen,mp'=some ⟨0,l,4,some (1,4,seen,4)⟩/\PI s l seen/\(∀ e∈l.toList,kt e.born=s)/\Ent (EE kCa kDb [] []).G 2 tm' hp' [(0,.str s),(5,.yl 0)] [.gone,.gone]) ?_ ?_
 ·refine ZM.seq (ZM.region ?_)
  refine ZO.seg hE 2 [_] [_] rfl ?_
  refine ag ?_
  refine ZO.range (kt:=102) (et:=9) rfl rfl rfl rfl rfl sA rfl ?_
  refine ZO.nil ?_
  refine ZM.block (ZM.loop (fun x:Array MapEntry×Array Nat=>(some ⟨0,x.1,4,some (1,4,x.2,4)⟩,[(0,.str s),(5,.yl 0),(11,.ptr 1 0 0)],[.gone,.gone])) (fun x=>PI s x.1 x.2) (fun x=>Au x.2) (l0,#[]) rfl ?_ ?_ ?_)
  ·exact Ent.ren [0,1] [0,5,11] rfl rfl rfl
  ·exact⟨hok,fun i hi _=>hall i hi,fun e _ h=>by simp at h⟩
  rintro⟨l,seen⟩ hI
  dsimp only at hI ⊢
  refine ZM.seq (ZM.region ?_)
  refine ZO.next (KV:=fun e=>(.agg [I (kx e.born),.bool (kb e.born)],.str (kt e.born))) rfl rfl rfl rfl rfl rfl (fun x hx=>(hI.ok.all x hx).lt) (Nat.le_refl 4) (fun e he=>⟨fun ρ=>?_,fun ρ=>?_⟩) (fun h0=>?_) (fun e he=>?_)
  ·rw[(hI.ok.all e he).key];exact⟨_,rfl,_,_,rfl,rfl,_,_,rfl,rfl,rfl⟩
  ·exact(hI.ok.all e he).val
  ·refine ZO.seg hE 2 [_] [] rfl ?_
   refine ag ?_
   refine ZO.nil ?_
   refine ZM.seg hE 2 ?_
   refine ag ⟨rfl,l,seen,rfl,hI,fun e he=>hI.done e he ?_,Ent.ren [0,1] [0,5] rfl rfl rfl⟩
   refine Decidable.byContradiction fun hne=>?_
   have hm:e∈(leftOf l seen).toList:=by
    unfold leftOf
    simp only[Array.toList_filter,List.mem_filter,he,true_and,Bool.not_eq_true']
    simpa using hne
   rw[<-Array.length_toList]at h0
   rw[List.length_eq_zero_iff.1 h0]at hm
   cases hm
  ·obtain⟨hel,hns⟩:=mem_left he
   have heo:=hI.ok.all e hel
   refine ZO.seg hE 2 [_] [] rfl ?_
   refine ag ?_
   refine ZO.nil ?_
   refine ZM.seq (ZM.seg hE 2 ?_)
   refine ag ?_
   refine ZM.block (ZM.seq (ZM.region ?_))
   refine ZO.entry (e:=e) (K:=.agg [I (kx e.born),.bool (kb e.born)]) (X:=.str (kt e.born)) rfl rfl rfl rfl rfl rfl hel hI.ok.nd (fun ρ=>?_) (fun ρ=>heo.val) ?_
   ·rw[heo.key];exact⟨_,rfl,_,_,rfl,rfl,_,_,rfl,rfl,rfl⟩
   refine ZO.seg hE 2 [_,_,_,_,_] [] rfl ?_
   refine ag ?_
   refine ZO.nil ?_
   refine ZM.seq (ZM.seg hE 2 ?_)
   refine ag ?_
   refine ZM.cond (b:=!(kt e.born==s)) rfl (fun hb=>?_) (fun hb=>?_)
   ·have hb:kt e.born≠s:=by simpa using hb
    obtain⟨k,x,q1,e',q2,q3⟩:=vm heo.lt l.toList 0 hI.ok.all ⟨e,hel,rfl⟩
    obtain⟨w1,w2,w3⟩:=hI.ok.erase q2 q3
    refine ZM.region ?_
    refine ZO.seg hE 2 [_,_] [_] rfl ?_
    refine ag ?_
    refine ZO.delete (kt:=102) (i:=k) (K:=.agg [I (kx e.born),.bool (kb e.born)]) rfl rfl rfl rfl rfl rfl (fun uk hk=>⟨hO hk,x,fun w=>?_⟩) ?_
    ·rw[run_findKey_eq w kX,ia hk]
     exact(q1 w).trans (by rw[Nat.zero_add])
    refine ZO.nil ⟨rfl,(l.eraseIdxIfInBounds k,seen.push e.born),⟨?_,fun i hi ht=>?_,fun x hx hs=>?_⟩,nK heo.lt hns,rfl,?_⟩
    ·simpa using w1
    ·obtain⟨x,x1,x2⟩:=hI.keep i hi ht
     refine⟨x,?_,x2⟩
     have:=w3 x x1 (fun e2=>hb (by rw[<-e2,x2];exact ht))
     simpa using this
    ·have hx:x∈l.toList.eraseIdx k:=by simpa using hx
     obtain⟨y1,y2⟩:=w2 x hx
     refine hI.done x y1 ?_
     rw[Array.contains_push]at hs
     simpa[y2]using hs
    ·exact Ent.ren [0,1] [0,5,11] rfl rfl rfl
   ·have hb:kt e.born=s:=by simpa using hb
    refine ZM.seg hE 2 ?_
    refine ag ⟨rfl,(l,seen.push e.born),⟨hI.ok,hI.keep,fun x hx hs=>?_⟩,nK heo.lt hns,rfl,Ent.ren [0,1] [0,5,11] rfl rfl rfl⟩
    rw[Array.contains_push]at hs
    rcases Bool.or_eq_true_iff.1 hs with hs|hs
    ·exact hI.done x hx hs
    ·rw[show x.born=e.born by simpa using hs];exact hb
 ·rintro _ _ tm' hp' ⟨rfl,l,seen,rfl,hI,hall2,hent⟩
  refine ZM.ent hent ?_
  refine ZM.seqX (fun μ' mp' tm' hp'=>(∀ i,i<4->kt i≠s)) ?_ ?_
  ·refine ZM.seq (ZM.region ?_)
   refine ZO.seg hE 2 [_] [_] rfl ?_
   refine ag ?_
   refine ZO.range (kt:=102) (et:=9) rfl rfl rfl rfl rfl sA rfl ?_
   refine ZO.nil ?_
   refine ZM.block (ZM.loop (fun _:Unit=>(some ⟨0,l,4,some (2,4,#[],4)⟩,[(0,.str s),(5,.yl 0),(23,.ptr 2 0 0)],[.gone,.gone,.gone])) (fun _=>True) (fun _=>0) () rfl ?_ trivial ?_)
   ·exact Ent.ren [0,1,2] [0,5,23] rfl rfl rfl
   rintro _ _
   dsimp only
   refine ZM.seq (ZM.region ?_)
   refine ZO.next (KV:=fun e=>(.agg [I (kx e.born),.bool (kb e.born)],.str (kt e.born))) rfl rfl rfl rfl rfl rfl (fun x hx=>(hI.ok.all x hx).lt) (Nat.le_refl 4) (fun e he=>⟨fun ρ=>?_,fun ρ=>?_⟩) (fun h0=>?_) (fun e he=>?_)
   ·rw[(hI.ok.all e he).key];exact⟨_,rfl,_,_,rfl,rfl,_,_,rfl,rfl,rfl⟩
   ·exact(hI.ok.all e he).val
   ·refine ZO.seg hE 2 [_] [] rfl ?_
    refine ag ?_
    refine ZO.nil ?_
    refine ZM.seg hE 2 ?_
    refine ag fun i hi ht=>?_
    obtain⟨e,he,hb⟩:=hI.keep i hi ht
    have hm:e∈(leftOf l #[]).toList:=by
     unfold leftOf
     simp only[Array.toList_filter,List.mem_filter,he,true_and]
     simp
    rw[<-Array.length_toList]at h0
    rw[List.length_eq_zero_iff.1 h0]at hm
    cases hm
   ·obtain⟨hel,hns⟩:=mem_left he
    have heo:=hI.ok.all e hel
    refine ZO.seg hE 2 [_] [] rfl ?_
    refine ag ?_
    refine ZO.nil ?_
    refine ZM.seq (ZM.seg hE 2 ?_)
    refine ag ?_
    refine ZM.block (ZM.seq (ZM.region ?_))
    refine ZO.entry (seen:=#[]) (e:=e) (K:=.agg [I (kx e.born),.bool (kb e.born)]) (X:=.str (kt e.born)) rfl rfl rfl rfl rfl rfl hel hI.ok.nd (fun ρ=>?_) (fun ρ=>heo.val) ?_
    ·rw[heo.key];exact⟨_,rfl,_,_,rfl,rfl,_,_,rfl,rfl,rfl⟩
    refine ZO.seg hE 2 [_,_,_] [] rfl ?_
    refine ag ?_
    refine ZO.nil ?_
    refine ZM.seg hE 2 ?_
    refine ae rfl ?_
    refine ag ?_
    rw[<-hall2 e hel,Hf heo.lt]
    exact⟨_,_,Ent.refl _ _ _,aO [] (.inr rfl) rfl rfl rfl rfl rfl⟩
  ·rintro μ' mp' tm' hp' hno
   refine ZM.seg hE 2 ?_
   refine ag ?_
   rw[AQ hno]
   exact⟨_,_,Ent.refl _ _ _,aO [] (.inr rfl) rfl rfl rfl rfl rfl⟩
def Ks:CF
 |[.str s],[]=>some (true,NC (parse s),[])
 |_,_=>none
theorem He:CtOk (GGx kCa kDb) PP (26,Ks):=by
 refine aD Tryz.func26 (by kernel_rfl) rfl fun a0 h0 c0 v0 N0 e hc=>?_
 unfold Ks at e
 split at e
 ·cases e;exact Mz _
 ·cases e
end
noncomputable abbrev Ea:Env:=EE true true [(12,mw),(124,nv),(125,tR),(29,uh),(178,gF),(158,rP),(123,xF)] []
theorem HS:Ea.Fn PP:=aB ⟨mV,kp,nG,hU,gK,xw,AU,trivial⟩ trivial
noncomputable abbrev xsa:List (FuncId×Func):=[(31,Tryz.f31),(64,Tryz.f64),(119,Tryz.f119),(122,Tryz.f122),(121,Tryz.f121),(120,Tryz.f120),(158,Tryz.f158),(32,Tryz.f32),(65,Tryz.f65),(84,Tryz.f84),(132,Tryz.f132)]
theorem vv:ve PP xsa:=⟨⟨Tryz.func31,by kernel_rfl⟩,⟨Tryz.func64,by kernel_rfl⟩,⟨Tryz.func119,by kernel_rfl⟩,⟨Tryz.func122,by kernel_rfl⟩,⟨Tryz.func121,by kernel_rfl⟩,⟨Tryz.func120,by kernel_rfl⟩,⟨Tryz.func158,by kernel_rfl⟩,⟨Tryz.func32,by kernel_rfl⟩,⟨Tryz.func65,by kernel_rfl⟩,⟨Tryz.func84,by kernel_rfl⟩,⟨Tryz.func132,by kernel_rfl⟩,trivial⟩
def KG:List UInt8:=[51,120,51,32,107,50,47,49,81,49,47,75,50,32,98,32,45,32,45,32,48,32,49]
def Nk:V×List O:=(.agg [I 3,I 3,.sl 0 0 9 none,.lit true,.int .u8 0,I (-1),I 0,I 1],[.ints true .i8 [6,0,0,0,5,0,-6,0,0]])
theorem OD:pz { Ea with pf:=nu Ea xsa 1000 8,cc:=true } 3 1000 Tryz.f31 [.str KG] []=some Nk:=by kernel_rfl
def Mo:List UInt8:=[51,120,51,32,107,50,47,50,81,47,49,75,49,32,98,32,45,32,45,32,48,32,49]
def Oc:V×List O:=(.agg [I 3,I 3,.sl 0 0 9 none,.lit true,.int .u8 0,I (-1),I 0,I 1],[.ints true .i8 [0,6,0,0,0,5,-6,0,0]])
theorem OJ:pz { Ea with pf:=nu Ea xsa 1000 8,cc:=true } 3 1000 Tryz.f31 [.str Mo] []=some Oc:=by kernel_rfl
def LM:List UInt8:=[51,120,51,32,107,81,49,47,51,47,75,50,32,98,32,45,32,45,32,48,32,49]
def Nj:V×List O:=(.agg [I 3,I 3,.sl 0 0 9 none,.lit true,.int .u8 0,I (-1),I 0,I 1],[.ints true .i8 [6,0,0,0,0,0,-6,5,0]])
theorem Ow:pz { Ea with pf:=nu Ea xsa 1000 8,cc:=true } 3 1000 Tryz.f31 [.str LM] []=some Nj:=by kernel_rfl
def KT:List UInt8:=[51,120,51,32,107,50,47,50,81,47,75,50,32,119,32,45,32,45,32,48,32,49]
def MG:V×List O:=(.agg [I 3,I 3,.sl 0 0 9 none,.lit false,.int .u8 0,I (-1),I 0,I 1],[.ints true .i8 [6,0,0,0,0,5,-6,0,0]])
theorem Ot:pz { Ea with pf:=nu Ea xsa 1000 8,cc:=true } 3 1000 Tryz.f31 [.str KT] []=some MG:=by kernel_rfl
def polT(s:List UInt8):Option (V×List O):=if s=KG then some Nk else if s=Mo then some Oc else if s=LM then some Nj else if s=KT then some MG else none
theorem KW{s:List UInt8}{x:V×List O}(h:polT s=some x):aJ (GGx true true) PP 31 [.str s] [] x.1 x.2:=by
 unfold polT at h
 by_cases e0:s=KG
 ·rw[if_pos e0]at h;cases h;subst e0;exact pG HS vv 1000 8 Tryz.func31 OD
 rw[if_neg e0]at h
 by_cases e1:s=Mo
 ·rw[if_pos e1]at h;cases h;subst e1;exact pG HS vv 1000 8 Tryz.func31 OJ
 rw[if_neg e1]at h
 by_cases e2:s=LM
 ·rw[if_pos e2]at h;cases h;subst e2;exact pG HS vv 1000 8 Tryz.func31 Ow
 rw[if_neg e2]at h
 by_cases e3:s=KT
 ·rw[if_pos e3]at h;cases h;subst e3;exact pG HS vv 1000 8 Tryz.func31 Ot
 rw[if_neg e3]at h
 cases h
def xW:CF
 |[.str s],[]=>match polT s with
  |some x=>some (true,x.1,x.2)
  |none=>none
 |_,_=>none
theorem BL:CtOk (GGx true true) PP (31,xW):=by
 refine aD Tryz.func31 (by kernel_rfl) rfl fun a0 h0 c0 v0 N0 e hc=>?_
 unfold xW at e
 split at e
 ·split at e
  ·rename_i h
   cases e
   exact KW h
  ·cases e
 ·cases e
noncomputable abbrev Eb:Env:=EE true true [(10,An),(11,DI),(21,KO),(16,HY),(17,Gz),(24,xN),(26,Ks),(31,xW),(125,tR),(178,gF),(101,eN),(146,c_vs)] []
theorem Og:Eb.Fn PP:=aB ⟨ur,Dl,Jg,Aq,zi,Bh,He,BL,nG,gK,cW,kj,trivial⟩ trivial
theorem OA:pz { Eb with pf:=nu Eb xsa 1000 8,cc:=true } 3 1000 Tryz.f9 [] []=some (.lit true,[]):=by kernel_rfl
def mX:CF
 |[],[]=>some (true,.bool true,[])
 |_,_=>none
theorem uC:CtOk (GGx true true) PP (9,mX):=by
 refine aD Tryz.func9 (by kernel_rfl) rfl fun a0 h0 c0 v0 N0 e hc=>?_
 unfold mX at e
 split at e
 ·cases e
  exact aJ.like (pG Og vv 1000 8 Tryz.func9 OA) (fun _ _ h=>h)
 ·cases e
section
variable{kCa kDb:Bool}
def HH(p:Psn):Option (Bool):=let x13:=List.take p.zs.length (List.drop 0 p.zs);let x11:=Psn.mk p.f p.r x13 p.bl p.ca p.pa p.ha p.fu;let x12:=x13.length;let x8:=decide (x12<=64);let x10:=List.take x12 (List.drop 0 x13);let x9:=x10.length;cr (sK x11) false fun(y1:Bool)=>bif !y1 then some true else aX x8 (cr (eMt x11) ([],0) fun(y2:List (List Int)×Int)=>let x16:=decide (y2.2=0);cr (eCk x11) ([],0) fun(y3:List (List Int)×Int)=>aX (decide (x9<=64)&&x8) (bif !yY (Psn.mk p.f p.r x10 p.bl p.ca p.pa p.ha p.fu) x11 then some false else aX x8 (bif !oK x11 then some (decide (Int.ofNat y2.1.length=0)&&decide (y2.2=2)&&decide (Int.ofNat y3.1.length=0)&&decide (y3.2=2)&&true)else cr (rGiv x11 false) [] fun(y4:List (List Int))=>cr (Be (List.take y2.1.length (List.drop 0 y2.1)) (List.take y4.length (List.drop 0 y4))) false fun(y5:Bool)=>bif y5&&x16 then cr (rGiv x11 true) [] fun(y6:List (List Int))=>aX (!true||y5&&x16) (cr (Be (List.take y3.1.length (List.drop 0 y3.1)) (List.take y6.length (List.drop 0 y6))) false fun(y7:Bool)=>some (y7&&decide (y3.2=0)&&true))else some false)))
def Cl(R:Bool):V:=Bb R
def CE(_R:Bool):List O:=[]
theorem EZ(p:Psn){r}(hr:HH p=some r):aJ (GGx true true) PP 4 [.agg [.int .i64 p.f,.int .i64 p.r,.sl 0 0 p.zs.length none,Bb p.bl,.int .u8 p.ca,.int .i64 p.pa,.int .i64 p.ha,.int .i64 p.fu]] [.ints false .i8 p.zs] (Cl r) (CE r):=by
 have hE:=cutE (aB (kCa:=true) (kDb:=true) (cts:=[(8,nq),(9,mX),(12,mw),(15,sI),(16,HY),(17,Gz),(18,qW),(19,wk),(20,Gk)]) (inl:=[]) ⟨uL,uC,mV,pQ,Aq,zi,xS,BK,Ev,trivial⟩ trivial)
 refine cH hE 2 Tryz.func4 rfl rfl Cl CE hr ?_ rfl rfl
 unfold HH
 refine aQ (pl (decide_eq_true (aN rfl)) id) ?_
 refine aK hE 2 rfl ?_ ?_
 ·refine av rfl ?_
  exact aR (aO [] (.inr rfl) rfl rfl rfl rfl rfl)
 refine cN (pl (decide_eq_true (aN rfl)) id) ?_
 refine aQ (pl (decide_eq_true (aN rfl)) id) ?_
 refine aQ (pl (decide_eq_true (aN rfl)) id) ?_
 refine cN (pb (pr (pl (decide_eq_true (aN rfl)) id) (decide_eq_true (aN rfl))) id) ?_
 refine aK hE 2 rfl ?_ ?_
 ·exact aR (aO [] (.inr rfl) rfl rfl rfl rfl rfl)
 refine cN (pl (decide_eq_true (aN rfl)) id) ?_
 refine aK hE 2 rfl ?_ ?_
 ·refine av (Bool.not_or_self _) ?_
  refine av (Bool.not_or_self _) ?_
  refine av (Bool.not_or_self _) ?_
  refine av (Bool.not_or_self _) ?_
  refine av (Bool.not_or_self _) ?_
  refine av (Bool.not_or_self _) ?_
  refine av (Bool.not_or_self _) ?_
  refine av (pg rfl) ?_
  refine av (Bool.not_or_self _) ?_
  exact aR (aO [] (.inr rfl) rfl rfl rfl rfl rfl)
 refine aQ (pl (decide_eq_true (aN rfl)) id) ?_
 refine aQ (pl (pa (decide_eq_true (aN rfl)) (decide_eq_true (aN rfl))) id) ?_
 refine av (Bool.not_or_self _) ?_
 refine av (Bool.not_or_self _) ?_
 refine av (Bool.not_or_self _) ?_
 refine Oe ?_ ?_
 ·refine aQ (pl (decide_eq_true (aN rfl)) id) ?_
  refine bI ?_
  refine aQ (pl (pa (decide_eq_true (aN rfl)) (decide_eq_true (aN rfl))) id) ?_
  refine av (Bool.not_or_self _) ?_
  refine av (Bool.not_or_self _) ?_
  refine av (pg rfl) ?_
  refine av (Bool.not_or_self _) ?_
  exact aR (aO [] (.inr rfl) rfl rfl rfl rfl rfl)
 exact aR (aO [] (.inr rfl) rfl rfl rfl rfl rfl)
end
section
variable{p:Psn}
theorem MC(o:PsH p):bT p.f p.r p.zs p.bl=(bp p.zs p.bl,0)/\aj p.f p.r (bp p.zs p.bl)=true:=by
 have hk:=o.ok
 simp only[Psn.ok,eF,Bool.and_eq_true,decide_eq_true_eq]at hk
 have hk:=hk.1.1.1.1.2.1.1
 rcases ki (bl:=p.bl) o.h o.hl with⟨_,h2⟩|⟨h1,h2,_⟩
 ·rw[h2]at hk;cases hk
 ·exact⟨h1,h2⟩
theorem Nv(o:PsH p):(!decide ((bH p.f p.r p.zs p.bl).fst=0))=chkL p.f p.r p.zs p.bl:=(zz o.h o.hl (by rw[(MC o).1])).symm
theorem Ox(o:PsH p):vsB p.f p.r=true:=by
 have hk:=o.ok
 simp only[Psn.ok,Bool.and_eq_true]at hk
 exact(bg hk.1.1.1.1.1).1
def endP(p:Psn):Int:=endV (chkL p.f p.r p.zs p.bl) ((allL p).any (legF p))
theorem JJ(o:PsH p):eOf p=some (endP p):=by
 unfold eOf
 simp only[List.drop_zero,List.take_length,bC,decide_eq_true o.hl,aS]
 rw[Ln o,aP,Nv o]
 rfl
theorem LP(o:PsH p):rEnd p=some (endP p):=by
 unfold rEnd
 simp only[List.drop_zero,List.take_length,bC]
 rw[um o,aP]
 simp only[decide_eq_true o.hl,Ox o,Bool.and_self,aS]
 unfold endP
 rw[Mq]
 cases chkL p.f p.r p.zs p.bl<;>cases decide (0<Int.ofNat ((allL p).filter (legF p)).length)<;>rfl
end
end Go.Ab
