/- Contracts of the functions that the laws reach, and plain laws of what they compute (text G9); no condition. -/
import Derived.Test.YtlannahgjgpfcaaGreatDoorG7
import Derived.Test.YtlannahgjgpfcaaGreatDoorG8
import Derived.Test.YtlannahgjgpfcaaGreatDoorG4
import Derived.Test.YtlannahgjgpfcaaGreatDoorG3
set_option maxRecDepth 100000
set_option maxHeartbeats 4000000
namespace Go.Ab
open IntKind
open Go.Proofs
section
variable{kCa kDb:Bool}
def yhas(y:Int)(b:Int):Option (Bool):=some !decide (band Go.BinOp.and u8 y b=0)
def CG(R:Bool):V:=Bb R
def EF(_:Bool):List O:=[]
def si:CF
 |[.int .u8 y_0,.int .u8 b_0],[]=>retC true (yhas y_0 b_0) false CG EF
 |_,_=>none
theorem Fu(y:Int)(b:Int){r}(hr:yhas y b=some r):ay (GGx kCa kDb) PP 95 [.int .u8 y,.int .u8 b] [] (CG r) (EF r):=by
 have hE:=cutE (aD (kCa:=kCa) (kDb:=kDb) (cts:=[]) (inl:=[]) trivial trivial)
 refine cg hE 2 Tryz.func95 rfl rfl CG EF hr ?_ rfl rfl
 exact aN (aJ [] (.inr rfl) rfl rfl rfl rfl rfl)
theorem ou:CtOk (GGx kCa kDb) PP (95,si):=by
 refine aF Tryz.func95 (by kernel_rfl) rfl fun a0 h0 c0 v0 N0 e hc=>?_
 unfold si at e
 split at e
 ·rename_i y_0 b_0
  obtain⟨hl,r,hr,rfl,rfl⟩:=bu e hc
  exact Fu y_0 b_0 hr
 ·cases e
def ymir(y:Int)(after:Bool):Option (Int):=let x6:=2^Min.min (Int.toNat 1) u8.bits;bp (bif after then some (Sum.inl (band Go.BinOp.or u8 ((band Go.BinOp.and u8 y 3).fdiv x6) (u8.wrap (band Go.BinOp.and u8 (band Go.BinOp.and u8 y 3) 1*x6))))else some (Sum.inl (band Go.BinOp.and u8 y 3))) fun(s5:Int)=>some s5
def DY(R:Int):V:=.int .u8 R
def DE(_:Int):List O:=[]
def Cg:CF
 |[.int .u8 y_0,.bool after_0],[]=>retC true (ymir y_0 after_0) 0 DY DE
 |_,_=>none
theorem FU(y:Int)(after:Bool){r}(hr:ymir y after=some r):ay (GGx kCa kDb) PP 94 [.int .u8 y,Bb after] [] (DY r) (DE r):=by
 have hE:=cutE (aD (kCa:=kCa) (kDb:=kDb) (cts:=[]) (inl:=[]) trivial trivial)
 refine cg hE 2 Tryz.func94 rfl rfl DY DE hr ?_ rfl rfl
 refine bF hE 2 (fun(s5:Int)=>([(4,V.int u8 0),(5,V.int u8 s5)],[])) rfl ?_ ?_ (fun s5=>?_)
 ·refine ah rfl ?_
  refine ah rfl ?_
  exact aW ((Ent.rn [] [4,5] rfl rfl rfl rfl rfl))
 ·exact aW ((Ent.rn [] [4,5] rfl rfl rfl rfl rfl))
 exact aN (aJ [] (.inr rfl) rfl rfl rfl rfl rfl)
theorem De:CtOk (GGx kCa kDb) PP (94,Cg):=by
 refine aF Tryz.func94 (by kernel_rfl) rfl fun a0 h0 c0 v0 N0 e hc=>?_
 unfold Cg at e
 split at e
 ·rename_i y_0 after_0
  obtain⟨hl,r,hr,rfl,rfl⟩:=bu e hc
  exact FU y_0 after_0 hr
 ·cases e
def ythn(y:Int)(z:Int):Option (Int):=bn (ymir y false) 0 fun(y4:Int)=>bn (yhas y 4) false fun(y5:Bool)=>bn (ymir z y5) 0 fun(y6:Int)=>some (band Go.BinOp.or u8 (band Go.BinOp.xor u8 y4 y6) (band Go.BinOp.and u8 (band Go.BinOp.xor u8 y z) 4))
def Eh(R:Int):V:=.int .u8 R
def Cf(_:Int):List O:=[]
def yg:CF
 |[.int .u8 y_0,.int .u8 z_0],[]=>retC true (ythn y_0 z_0) 0 Eh Cf
 |_,_=>none
theorem HC(y:Int)(z:Int){r}(hr:ythn y z=some r):ay (GGx kCa kDb) PP 41 [.int .u8 y,.int .u8 z] [] (Eh r) (Cf r):=by
 have hE:=cutE (aD (kCa:=kCa) (kDb:=kDb) (cts:=[(94,Cg),(95,si)]) (inl:=[]) ⟨De,ou,trivial⟩ trivial)
 refine cg hE 2 Tryz.func41 rfl rfl Eh Cf hr ?_ rfl rfl
 unfold ythn
 refine aE (pl rfl id) ?_
 refine aE (pl rfl id) ?_
 refine aE (pl rfl id) ?_
 exact aN (aJ [] (.inr rfl) rfl rfl rfl rfl rfl)
theorem sZ:CtOk (GGx kCa kDb) PP (41,yg):=by
 refine aF Tryz.func41 (by kernel_rfl) rfl fun a0 h0 c0 v0 N0 e hc=>?_
 unfold yg at e
 split at e
 ·rename_i y_0 z_0
  obtain⟨hl,r,hr,rfl,rfl⟩:=bu e hc
  exact HC y_0 z_0 hr
 ·cases e
def yof(y:Int)(s:Siz):Option (Bool):=bn (yhas y 4) false fun(y4:Bool)=>some (!y4||decide (s.f=s.r))
def KR(R:Bool):V:=Bb R
def LN(_:Bool):List O:=[]
def Gk:CF
 |[.int .u8 y_0,.agg [.int .i64 s_0,.int .i64 s_1]],[]=>retC true (yof y_0 ⟨s_0,s_1⟩) false KR LN
 |_,_=>none
theorem JV(y:Int)(s:Siz){r}(hr:yof y s=some r):ay (GGx kCa kDb) PP 74 [.int .u8 y,.agg [.int .i64 s.f,.int .i64 s.r]] [] (KR r) (LN r):=by
 have hE:=cutE (aD (kCa:=kCa) (kDb:=kDb) (cts:=[(95,si)]) (inl:=[]) ⟨ou,trivial⟩ trivial)
 refine cg hE 2 Tryz.func74 rfl rfl KR LN hr ?_ rfl rfl
 unfold yof
 refine aE (pl rfl id) ?_
 refine ah (Bool.not_or_self _) ?_
 refine ah (Bool.not_or_self _) ?_
 refine ah (Bool.not_or_self _) ?_
 refine ah (Bool.not_or_self _) ?_
 refine ah (Bool.or_not_self _) ?_
 exact aN (aJ [] (.inr rfl) rfl rfl rfl rfl rfl)
theorem xC:CtOk (GGx kCa kDb) PP (74,Gk):=by
 refine aF Tryz.func74 (by kernel_rfl) rfl fun a0 h0 c0 v0 N0 e hc=>?_
 unfold Gk at e
 split at e
 ·rename_i y_0 s_0 s_1
  obtain⟨hl,r,hr,rfl,rfl⟩:=bu e hc
  exact JV y_0 ⟨s_0,s_1⟩ hr
 ·cases e
def ysq(y:Int)(s:Siz)(at_:Int):Option (Int):=let x15:=!decide (s.f=0);aQ x15 (aQ x15 (bn (yhas y 1) false fun(y5:Bool)=>bp (bif y5 then some (Sum.inl (i64.wrap (i64.wrap (s.f-1)-at_.tmod s.f)))else some (Sum.inl (at_.tmod s.f))) fun(s7:Int)=>bn (yhas y 2) false fun(y8:Bool)=>bp (bif y8 then some (Sum.inl (i64.wrap (i64.wrap (s.r-1)-i64.wrap (at_.tdiv s.f))))else some (Sum.inl (i64.wrap (at_.tdiv s.f)))) fun(s10:Int)=>bn (yhas y 4) false fun(y11:Bool)=>bp (bif y11 then some (Sum.inl (s10,s7))else some (Sum.inl (s7,s10))) fun(s14:Int×Int)=>some (i64.wrap (i64.wrap (s14.2*s.f)+s14.1))))
def Lw(R:Int):V:=.int .i64 R
def La(_:Int):List O:=[]
def FX:CF
 |[.int .u8 y_0,.agg [.int .i64 s_0,.int .i64 s_1],.int .i64 at__0],[]=>retC true (ysq y_0 ⟨s_0,s_1⟩ at__0) 0 Lw La
 |_,_=>none
theorem JD(y:Int)(s:Siz)(at_:Int){r}(hr:ysq y s at_=some r):ay (GGx kCa kDb) PP 72 [.int .u8 y,.agg [.int .i64 s.f,.int .i64 s.r],.int .i64 at_] [] (Lw r) (La r):=by
 have hE:=cutE (aD (kCa:=kCa) (kDb:=kDb) (cts:=[(95,si)]) (inl:=[]) ⟨ou,trivial⟩ trivial)
 refine cg hE 2 Tryz.func72 rfl rfl Lw La hr ?_ rfl rfl
 refine ah rfl ?_
 refine aI ?_
 refine aI ?_
 refine aE (pl rfl id) ?_
 refine bF hE 2 (fun(s7:Int)=>([(0,V.int u8 y),(4,V.ptr 0 0 0),(6,I 0),(7,I s7),(8,I (i64.wrap (at_.tdiv s.f)))],[O.cells true [I s.f,I s.r]])) rfl ?_ ?_ (fun s7=>?_)
 ·exact aW ((Ent.rn [0] [0,4,6,7,8] rfl rfl rfl rfl rfl))
 ·exact aW ((Ent.rn [0] [0,4,6,7,8] rfl rfl rfl rfl rfl))
 refine aE (pl rfl id) ?_
 refine bF hE 2 (fun(s10:Int)=>([(0,V.int u8 y),(4,V.ptr 0 0 0),(6,I 0),(7,I s7),(8,I s10)],[O.cells true [I s.f,I s.r]])) rfl ?_ ?_ (fun s10=>?_)
 ·exact aW ((Ent.rn [0] [0,4,6,7,8] rfl rfl rfl rfl rfl))
 ·exact aW ((Ent.rn [0] [0,4,6,7,8] rfl rfl rfl rfl rfl))
 refine aE (pl rfl id) ?_
 refine bF hE 2 (fun(s14:Int×Int)=>([(4,V.ptr 0 0 0),(6,I 0),(7,I s14.1),(8,I s14.2)],[O.cells true [I s.f,I s.r]])) rfl ?_ ?_ (fun s14=>?_)
 ·exact aW ((Ent.rn [0] [4,6,7,8] rfl rfl rfl rfl rfl))
 ·exact aW ((Ent.rn [0] [4,6,7,8] rfl rfl rfl rfl rfl))
 exact aN (aJ [] (.inr rfl) rfl rfl rfl rfl rfl)
theorem xK:CtOk (GGx kCa kDb) PP (72,FX):=by
 refine aF Tryz.func72 (by kernel_rfl) rfl fun a0 h0 c0 v0 N0 e hc=>?_
 unfold FX at e
 split at e
 ·rename_i y_0 s_0 s_1 at__0
  obtain⟨hl,r,hr,rfl,rfl⟩:=bu e hc
  exact JD y_0 ⟨s_0,s_1⟩ at__0 hr
 ·cases e
def ychk(s:Siz)(y:Int)(fine:Bool):Option (Int):=bif !vsB s.f s.r||decide (8<=y)||!fine then some 2 else bn (yof y (Siz.mk s.f s.r)) false fun(y6:Bool)=>bif !y6 then some 3 else some 0
def AW(R:Int):V:=.int .i64 R
def BR(_:Int):List O:=[]
def DS:CF
 |[.agg [.int .i64 s_0,.int .i64 s_1],.int .u8 y_0,.bool fine_0],[]=>retC true (ychk ⟨s_0,s_1⟩ y_0 fine_0) 0 AW BR
 |_,_=>none
theorem HI(s:Siz)(y:Int)(fine:Bool){r}(hr:ychk s y fine=some r):ay (GGx kCa kDb) PP 69 [.agg [.int .i64 s.f,.int .i64 s.r],.int .u8 y,Bb fine] [] (AW r) (BR r):=by
 have hE:=cutE (aD (kCa:=kCa) (kDb:=kDb) (cts:=[(70,c_vs),(74,Gk)]) (inl:=[]) ⟨kK,xC,trivial⟩ trivial)
 refine cg hE 2 Tryz.func69 rfl rfl AW BR hr ?_ rfl rfl
 refine ah rfl ?_
 refine ah (Bool.not_or_self _) ?_
 refine ah (Bool.or_not_self _) ?_
 refine ah (Bool.not_or_self _) ?_
 refine ah (Bool.or_not_self _) ?_
 refine aR hE 2 rfl ?_ ?_
 ·exact aN (aJ [] (.inr rfl) rfl rfl rfl rfl rfl)
 refine aE (pl rfl id) ?_
 refine aR hE 2 rfl ?_ ?_
 ·exact aN (aJ [] (.inr rfl) rfl rfl rfl rfl rfl)
 exact aN (aJ [] (.inr rfl) rfl rfl rfl rfl rfl)
theorem Cu:CtOk (GGx kCa kDb) PP (69,DS):=by
 refine aF Tryz.func69 (by kernel_rfl) rfl fun a0 h0 c0 v0 N0 e hc=>?_
 unfold DS at e
 split at e
 ·rename_i s_0 s_1 y_0 fine_0
  obtain⟨hl,r,hr,rfl,rfl⟩:=bu e hc
  exact HI ⟨s_0,s_1⟩ y_0 fine_0 hr
 ·cases e
def Cp:Siz->List Int×Int->Option (List Int×Int ⊕ List Int ⊕ List Int×Int):=fun(s:Siz) (s9:List Int×Int)=>let x22:=(s9.1.length+1)*1;bif decide (s9.2<8)then bn (yof s9.2 (Siz.mk s.f s.r)) false fun(y10:Bool)=>bp (bif y10 then aQ (decide (x22<=140737488355328)) (some (Sum.inl (s9.1++List.take 1 (List.drop 0 (iL [s9.2])))))else some (Sum.inl s9.1)) fun(s12:List Int)=>some (Sum.inl (s12,u8.wrap (s9.2+1)))else some (Sum.inr (Sum.inl s9.1))
def yall(s:Siz):Option (List Int×Int):=bif !vsB s.f s.r then some ([],2)else bV (Cp s) (fun(s20:List Int)=>some (s20,0)) 1000000 ([],0)
def AI(R:List Int×Int):V:=.tup [.sl 0 0 R.1.length none,.int .i64 R.2]
def Cb(R:List Int×Int):List O:=[.ints true .u8 R.1]
def yH:CF
 |[.agg [.int .i64 s_0,.int .i64 s_1]],[]=>retC true (yall ⟨s_0,s_1⟩) ([],0) AI Cb
 |_,_=>none
theorem Hl(s:Siz){r}(hr:yall s=some r):ay (GGx kCa kDb) PP 28 [.agg [.int .i64 s.f,.int .i64 s.r]] [] (AI r) (Cb r):=by
 have hE:=cutE (aD (kCa:=kCa) (kDb:=kDb) (cts:=[(70,c_vs),(74,Gk)]) (inl:=[]) ⟨kK,xC,trivial⟩ trivial)
 refine cg hE 2 Tryz.func28 rfl rfl AI Cb hr ?_ rfl rfl
 refine ah rfl ?_
 refine aR hE 2 rfl ?_ ?_
 ·exact aN (BZ 2 (.ints true .u8 []) rfl rfl rfl<|aJ [1] (.inr rfl) rfl rfl rfl rfl rfl)
 refine cI hE 2 (fun(s9:List Int×Int)=>([(1,V.ptr 0 0 0),(2,V.nils),(3,I 0),(4,V.sl 1 0 s9.1.length none),(9,V.int u8 s9.2)],[O.cells true [I s.f,I s.r],O.ints true u8 s9.1])) (fun(s20:List Int)=>([(2,V.nils),(3,I 0),(4,V.sl 0 0 s20.length none)],[O.ints true u8 s20])) (.exit 0) ((Ent.phT 4 (O.ints true u8 []) rfl rfl rfl rfl rfl).trans (Ent.rn [0,1] [1,2,3,4,9] rfl rfl rfl rfl rfl)) (fun s9=>?_) (fun s20=>?_)
 ·refine aR hE 2 rfl ?_ ?_
  ·refine aE (pl rfl id) ?_
   refine bF hE 2 (fun(s12:List Int)=>([(1,V.ptr 0 0 0),(2,V.nils),(3,I 0),(4,V.sl 1 0 s12.length none),(9,V.int u8 s9.2)],[O.cells true [I s.f,I s.r],O.ints true u8 s12])) rfl ?_ ?_ (fun s12=>?_)
   ·refine fV (pr (pl (decide_eq_true rfl) id) rfl) ?_
    exact aW ((Ent.rn [0,3] [1,2,3,4,9] rfl rfl rfl rfl rfl))
   ·exact aW ((Ent.rn [0,1] [1,2,3,4,9] rfl rfl rfl rfl rfl))
   exact cr ((Ent.rn [0,1] [1,2,3,4,9] rfl rfl rfl rfl rfl))
  exact cH ((Ent.rn [1] [2,3,4] rfl rfl rfl rfl rfl))
 exact aN (aJ [0] (.inr rfl) rfl rfl rfl rfl rfl)
theorem sU:CtOk (GGx kCa kDb) PP (28,yH):=by
 refine aF Tryz.func28 (by kernel_rfl) rfl fun a0 h0 c0 v0 N0 e hc=>?_
 unfold yH at e
 split at e
 ·rename_i s_0 s_1
  obtain⟨hl,r,hr,rfl,rfl⟩:=bu e hc
  exact Hl ⟨s_0,s_1⟩ hr
 ·cases e
def ysqE(s:Siz)(y:Int)(at_:Int):Option (Int×Int):=bn (ychk (Siz.mk s.f s.r) y (ak s.f s.r at_)) 0 fun(y5:Int)=>bif !decide (y5=0)then some (0,y5)else bn (ysq y (Siz.mk s.f s.r) at_) 0 fun(y6:Int)=>some (y6,0)
def ES(R:Int×Int):V:=.tup [.int .i64 R.1,.int .i64 R.2]
def BV(_:Int×Int):List O:=[]
def AM:CF
 |[.agg [.int .i64 s_0,.int .i64 s_1],.int .u8 y_0,.int .i64 at__0],[]=>retC true (ysqE ⟨s_0,s_1⟩ y_0 at__0) (0,0) ES BV
 |_,_=>none
theorem HW(s:Siz)(y:Int)(at_:Int){r}(hr:ysqE s y at_=some r):ay (GGx kCa kDb) PP 29 [.agg [.int .i64 s.f,.int .i64 s.r],.int .u8 y,.int .i64 at_] [] (ES r) (BV r):=by
 have hE:=cutE (aD (kCa:=kCa) (kDb:=kDb) (cts:=[(69,DS),(72,FX),(75,iJ)]) (inl:=[]) ⟨Cu,xK,fy,trivial⟩ trivial)
 refine cg hE 2 Tryz.func29 rfl rfl ES BV hr ?_ rfl rfl
 refine ah rfl ?_
 refine ah rfl ?_
 refine aE (pl rfl id) ?_
 refine aR hE 2 rfl ?_ ?_
 ·exact aN (aJ [] (.inr rfl) rfl rfl rfl rfl rfl)
 refine aE (pl rfl id) ?_
 exact aN (aJ [] (.inr rfl) rfl rfl rfl rfl rfl)
theorem Ez:CtOk (GGx kCa kDb) PP (29,AM):=by
 refine aF Tryz.func29 (by kernel_rfl) rfl fun a0 h0 c0 v0 N0 e hc=>?_
 unfold AM at e
 split at e
 ·rename_i s_0 s_1 y_0 at__0
  obtain⟨hl,r,hr,rfl,rfl⟩:=bu e hc
  exact HW ⟨s_0,s_1⟩ y_0 at__0 hr
 ·cases e
def ycmp(a:Int)(b:Int):Option (Int×Int):=bif decide (8<=a)||decide (8<=b)then some (0,2)else bn (ythn a b) 0 fun(y4:Int)=>some (y4,0)
def BF(R:Int×Int):V:=.tup [.int .u8 R.1,.int .i64 R.2]
def DB(_:Int×Int):List O:=[]
def AK:CF
 |[.int .u8 a_0,.int .u8 b_0],[]=>retC true (ycmp a_0 b_0) (0,0) BF DB
 |_,_=>none
theorem Ia(a:Int)(b:Int){r}(hr:ycmp a b=some r):ay (GGx kCa kDb) PP 9 [.int .u8 a,.int .u8 b] [] (BF r) (DB r):=by
 have hE:=cutE (aD (kCa:=kCa) (kDb:=kDb) (cts:=[(41,yg)]) (inl:=[]) ⟨sZ,trivial⟩ trivial)
 refine cg hE 2 Tryz.func9 rfl rfl BF DB hr ?_ rfl rfl
 refine ah (Bool.not_or_self _) ?_
 refine ah (Bool.or_not_self _) ?_
 refine aR hE 2 rfl ?_ ?_
 ·exact aN (aJ [] (.inr rfl) rfl rfl rfl rfl rfl)
 refine aE (pl rfl id) ?_
 exact aN (aJ [] (.inr rfl) rfl rfl rfl rfl rfl)
theorem DM:CtOk (GGx kCa kDb) PP (9,AK):=by
 refine aF Tryz.func9 (by kernel_rfl) rfl fun a0 h0 c0 v0 N0 e hc=>?_
 unfold AK at e
 split at e
 ·rename_i a_0 b_0
  obtain⟨hl,r,hr,rfl,rfl⟩:=bu e hc
  exact Ia a_0 b_0 hr
 ·cases e
def qQ:Int->Psn->List Int×Int->Option (List Int×Int ⊕ List Int ⊕ Psn):=fun(y:Int) (p:Psn)=>let x29:=Int.ofNat (List.take p.zs.length (List.drop 0 p.zs)).length;fun(s8:List Int×Int)=>let x31:=decide (s8.2<Int.ofNat p.zs.length);bif x31 then aQ (decide (0<=s8.2)&&x31) (bn (ysq y (Siz.mk p.f p.r) s8.2) 0 fun(y9:Int)=>aQ (decide (0<=y9)&&decide (y9<x29)) (some (Sum.inl (s8.1.set y9.toNat (p.zs.getD s8.2.toNat 0),i64.wrap (s8.2+1)))))else some (Sum.inr (Sum.inl s8.1))
def ypos(y:Int)(p:Psn):Option (Psn):=let x35:=List.take p.zs.length (List.drop 0 p.zs);let x34:=x35.length;aQ (decide (x34<=64)) (bV (qQ y p) (fun(s17:List Int)=>bp (bif decide (0<=p.pa)then bn (ysq y (Siz.mk p.f p.r) p.pa) 0 fun(y18:Int)=>some (Sum.inl y18)else some (Sum.inl p.pa)) fun(s20:Int)=>aQ (decide (x34=s17.length)) (some (Psn.mk p.f p.r s17 p.bl p.ca s20 p.ha p.fu))) 1000000 (x35,0))
def wX(R:Psn):V:=.agg [.int .i64 R.f,.int .i64 R.r,.sl 1 0 R.zs.length none,Bb R.bl,.int .u8 R.ca,.int .i64 R.pa,.int .i64 R.ha,.int .i64 R.fu]
def Bx(R:Psn):List O:=[.ints true .i8 R.zs]
def sL:CF
 |[.int .u8 y_0,.agg [.int .i64 p_0,.int .i64 p_1,.sl 0 0 p_2n none,.bool p_3,.int .u8 p_4,.int .i64 p_5,.int .i64 p_6,.int .i64 p_7]],[.ints false .i8 p_2]=>retC (decide (p_2n=p_2.length)) (ypos y_0 ⟨p_0,p_1,p_2,p_3,p_4,p_5,p_6,p_7⟩) ⟨0,0,[],false,0,0,0,0⟩ wX Bx
 |_,_=>none
theorem HB(y:Int)(p:Psn){r}(hr:ypos y p=some r):ay (GGx kCa kDb) PP 67 [.int .u8 y,.agg [.int .i64 p.f,.int .i64 p.r,.sl 0 0 p.zs.length none,Bb p.bl,.int .u8 p.ca,.int .i64 p.pa,.int .i64 p.ha,.int .i64 p.fu]] [.ints false .i8 p.zs] (wX r) (Bx r):=by
 have hE:=cutE (aD (kCa:=kCa) (kDb:=kDb) (cts:=[(72,FX),(122,vz)]) (inl:=[]) ⟨xK,Ao,trivial⟩ trivial)
 refine cg hE 2 Tryz.func67 rfl rfl wX Bx hr ?_ rfl rfl
 refine fV (pl (decide_eq_true (az rfl)) id) ?_
 refine cI hE 2 (let x39:=[Bb p.bl,V.int u8 p.ca,I p.pa,I p.ha,I p.fu];fun(s8:List Int×Int)=>([(0,V.int u8 y),(3,V.ptr 1 0 0),(4,V.ptr 2 0 0),(5,V.ptr 3 0 0),(11,V.sl 0 0 p.zs.length none),(12,I (Int.ofNat p.zs.length)),(13,I s8.2)],[O.ints false i8 p.zs,O.cells true (I p.f::I p.r::V.sl 0 0 p.zs.length none::x39),O.cells true [I 0,I 0,V.nils,Bb false,V.int u8 0,I 0,I 0,I 0],O.cells true (I p.f::I p.r::V.sl 4 0 (List.take p.zs.length (List.drop 0 p.zs)).length none::x39),O.ints true i8 s8.1])) (let x41:=[Bb p.bl,V.int u8 p.ca,I p.pa,I p.ha,I p.fu];fun(s17:List Int)=>([(0,V.int u8 y),(3,V.ptr 1 0 0),(4,V.ptr 2 0 0),(5,V.ptr 3 0 0)],[O.ints false i8 p.zs,O.cells true (I p.f::I p.r::V.sl 0 0 p.zs.length none::x41),O.cells true [I 0,I 0,V.nils,Bb false,V.int u8 0,I 0,I 0,I 0],O.cells true (I p.f::I p.r::V.sl 4 0 (List.take p.zs.length (List.drop 0 p.zs)).length none::x41),O.ints true i8 s17])) (.exit 0) ((Ent.rn [0,1,2,4,3] [0,3,4,5,11,12,13] rfl rfl rfl rfl rfl)) (fun s8=>?_) (fun s17=>?_)
 ·refine aR hE 2 rfl ?_ ?_
  ·refine aI ?_
   refine ah rfl ?_
   refine aE (pl rfl id) ?_
   refine aI ?_
   exact cr ((Ent.rn [0,1,2,3,4] [0,3,4,5,11,12,13] rfl rfl rfl rfl rfl))
  exact cH ((Ent.rn [0,1,2,3,4] [0,3,4,5] rfl rfl rfl rfl rfl))
 refine bF hE 2 (fun(s20:Int)=>([(4,V.ptr 1 0 0),(5,V.ptr 2 0 0)],[O.ints false i8 p.zs,O.cells true [I 0,I 0,V.nils,Bb false,V.int u8 0,I 0,I 0,I 0],O.cells true [I p.f,I p.r,V.sl 3 0 (List.take p.zs.length (List.drop 0 p.zs)).length none,Bb p.bl,V.int u8 p.ca,I s20,I p.ha,I p.fu],O.ints true i8 s17])) rfl ?_ ?_ (fun s20=>?_)
 ·refine aE (pl rfl id) ?_
  exact aW ((Ent.rn [0,2,3,4] [4,5] rfl rfl rfl rfl rfl))
 ·exact aW ((Ent.rn [0,2,3,4] [4,5] rfl rfl rfl rfl rfl))
 refine KI (fun h0=>?_)
 exact aN (aJ [3] (.inr rfl) rfl rfl rfl rfl (by have qh0:=of_decide_eq_true h0;simp_all [wX]))
theorem nT:CtOk (GGx kCa kDb) PP (67,sL):=by
 refine aF Tryz.func67 (by kernel_rfl) rfl fun a0 h0 c0 v0 N0 e hc=>?_
 unfold sL at e
 split at e
 ·rename_i y_0 p_0 p_1 p_2n p_3 p_4 p_5 p_6 p_7 p_2
  obtain⟨hl,r,hr,rfl,rfl⟩:=bu e hc
  simp only[decide_eq_true_eq]at hl
  obtain rfl:=hl
  exact HB y_0 ⟨p_0,p_1,p_2,p_3,p_4,p_5,p_6,p_7⟩ hr
 ·cases e
def Gs:Psn->List Int×Int->Option (List Int×Int ⊕ List Int ⊕ Psn×Int):=fun(y3:Psn) (s7:List Int×Int)=>let x34:=decide (s7.2<Int.ofNat y3.zs.length);let x33:=decide (0<=s7.2)&&x34;bif x34 then aQ x33 (aQ x33 (some (Sum.inl (s7.1.set s7.2.toNat (i8.wrap (s7.1.getD s7.2.toNat 0*-1)),i64.wrap (s7.2+1)))))else some (Sum.inr (Sum.inl s7.1))
def Ny(p:Psn):Option (Psn×Int):=let x36:=Psn.mk 0 0 [] false 0 0 0 0;let x38:=2^Min.min (Int.toNat 2) u8.bits;let x40:=List.take p.zs.length (List.drop 0 p.zs);let x37:=Psn.mk p.f p.r x40 p.bl p.ca p.pa p.ha p.fu;let x39:=x40.length;aQ (decide (x39<=64)) (bif !x37.ok then some (x36,2)else bn (ypos 2 x37) x36 fun(y3:Psn)=>bV (Gs y3) (fun(s15:List Int)=>aQ (decide (y3.zs.length=s15.length)) (some (Psn.mk y3.f y3.r s15 (!y3.bl) (band Go.BinOp.or u8 (y3.ca.fdiv x38) (u8.wrap (band Go.BinOp.and u8 y3.ca 3*x38))) y3.pa y3.ha y3.fu,0))) 1000000 (y3.zs,0))
def qZ(R:Psn×Int):V:=.tup [.agg [.int .i64 R.1.f,.int .i64 R.1.r,.sl 1 0 R.1.zs.length none,Bb R.1.bl,.int .u8 R.1.ca,.int .i64 R.1.pa,.int .i64 R.1.ha,.int .i64 R.1.fu],.int .i64 R.2]
def uT(R:Psn×Int):List O:=[.ints true .i8 R.1.zs]
def vn:CF
 |[.agg [.int .i64 p_0,.int .i64 p_1,.sl 0 0 p_2n none,.bool p_3,.int .u8 p_4,.int .i64 p_5,.int .i64 p_6,.int .i64 p_7]],[.ints false .i8 p_2]=>retC (decide (p_2n=p_2.length)) (Ny ⟨p_0,p_1,p_2,p_3,p_4,p_5,p_6,p_7⟩) (⟨0,0,[],false,0,0,0,0⟩,0) qZ uT
 |_,_=>none
theorem Di(p:Psn){r}(hr:Ny p=some r):ay (GGx kCa kDb) PP 26 [.agg [.int .i64 p.f,.int .i64 p.r,.sl 0 0 p.zs.length none,Bb p.bl,.int .u8 p.ca,.int .i64 p.pa,.int .i64 p.ha,.int .i64 p.fu]] [.ints false .i8 p.zs] (qZ r) (uT r):=by
 have hE:=cutE (aD (kCa:=kCa) (kDb:=kDb) (cts:=[(37,dH),(67,sL)]) (inl:=[]) ⟨cP,nT,trivial⟩ trivial)
 refine cg hE 2 Tryz.func26 rfl rfl qZ uT hr ?_ rfl rfl
 refine fV (pl (decide_eq_true (az rfl)) id) ?_
 refine aR hE 2 rfl ?_ ?_
 ·exact aN (Df 2 2 (.ints true .i8 []) rfl rfl rfl rfl<|aJ [3] (.inr rfl) rfl rfl rfl rfl rfl)
 refine aE (pl (decide_eq_true (az rfl)) id) ?_
 refine cI hE 2 (let x44:=(ypos 2 (Psn.mk p.f p.r (List.take p.zs.length (List.drop 0 p.zs)) p.bl p.ca p.pa p.ha p.fu)).getD (Psn.mk 0 0 [] false 0 0 0 0);let x43:=x44.zs.length;fun(s7:List Int×Int)=>([(2,V.ptr 1 0 0),(3,I 0),(4,V.ptr 2 0 0),(14,I (Int.ofNat x43)),(15,I s7.2)],[O.ints false i8 p.zs,O.cells true [I 0,I 0,V.nils,Bb false,V.int u8 0,I 0,I 0,I 0],O.cells true [I x44.f,I x44.r,V.sl 3 0 x43 none,Bb x44.bl,V.int u8 x44.ca,I x44.pa,I x44.ha,I x44.fu],O.ints true i8 s7.1])) (let x46:=(ypos 2 (Psn.mk p.f p.r (List.take p.zs.length (List.drop 0 p.zs)) p.bl p.ca p.pa p.ha p.fu)).getD (Psn.mk 0 0 [] false 0 0 0 0);fun(s15:List Int)=>([(2,V.ptr 1 0 0),(3,I 0),(4,V.ptr 2 0 0)],[O.ints false i8 p.zs,O.cells true [I 0,I 0,V.nils,Bb false,V.int u8 0,I 0,I 0,I 0],O.cells true [I x46.f,I x46.r,V.sl 3 0 x46.zs.length none,Bb x46.bl,V.int u8 x46.ca,I x46.pa,I x46.ha,I x46.fu],O.ints true i8 s15])) (.exit 0) ((Ent.rn [0,2,4,3] [2,3,4,14,15] rfl rfl rfl rfl rfl)) (fun s7=>?_) (fun s15=>?_)
 ·refine aR hE 2 rfl ?_ ?_
  ·refine aI ?_
   refine aI ?_
   exact cr ((Ent.rn [0,1,2,3] [2,3,4,14,15] rfl rfl rfl rfl rfl))
  exact cH ((Ent.rn [0,1,2,3] [2,3,4] rfl rfl rfl rfl rfl))
 refine ah rfl ?_
 refine ah rfl ?_
 refine KI (fun h0=>?_)
 exact aN (aJ [3] (.inr rfl) rfl rfl rfl rfl (by have qh0:=of_decide_eq_true h0;simp_all [qZ]))
theorem zS:CtOk (GGx kCa kDb) PP (26,vn):=by
 refine aF Tryz.func26 (by kernel_rfl) rfl fun a0 h0 c0 v0 N0 e hc=>?_
 unfold vn at e
 split at e
 ·rename_i p_0 p_1 p_2n p_3 p_4 p_5 p_6 p_7 p_2
  obtain⟨hl,r,hr,rfl,rfl⟩:=bu e hc
  simp only[decide_eq_true_eq]at hl
  obtain rfl:=hl
  exact Di ⟨p_0,p_1,p_2,p_3,p_4,p_5,p_6,p_7⟩ hr
 ·cases e
end
section
variable{kCa kDb:Bool}
def kI(y:Int)(bit:Int):Option (Bool):=aQ (!decide (bit=0)) (some (decide ((i64.wrap ((i64.wrap y).tdiv bit)).tmod 2=1)))
def uL(R:Bool):V:=Bb R
def vk(_:Bool):List O:=[]
def uP:CF
 |[.int .u8 y_0,.int .i64 bit_0],[]=>retC true (kI y_0 bit_0) false uL vk
 |_,_=>none
theorem Bi(y:Int)(bit:Int){r}(hr:kI y bit=some r):ay (GGx kCa kDb) PP 102 [.int .u8 y,.int .i64 bit] [] (uL r) (vk r):=by
 have hE:=cutE (aD (kCa:=kCa) (kDb:=kDb) (cts:=[]) (inl:=[]) trivial trivial)
 refine cg hE 2 Tryz.func102 rfl rfl uL vk hr ?_ rfl rfl
 refine aI ?_
 refine ah rfl ?_
 exact aN (aJ [] (.inr rfl) rfl rfl rfl rfl rfl)
theorem yW:CtOk (GGx kCa kDb) PP (102,uP):=by
 refine aF Tryz.func102 (by kernel_rfl) rfl fun a0 h0 c0 v0 N0 e hc=>?_
 unfold uP at e
 split at e
 ·rename_i y_0 bit_0
  obtain⟨hl,r,hr,rfl,rfl⟩:=bu e hc
  exact Bi y_0 bit_0 hr
 ·cases e
def yrB(s:Siz)(y:Int):Option (Bool):=some (decide (y<4)||decide (y<8)&&decide (s.f=s.r))
def Jk(R:Bool):V:=Bb R
def Lm(_:Bool):List O:=[]
def Jh:CF
 |[.agg [.int .i64 s_0,.int .i64 s_1],.int .u8 y_0],[]=>retC true (yrB ⟨s_0,s_1⟩ y_0) false Jk Lm
 |_,_=>none
theorem Km(s:Siz)(y:Int){r}(hr:yrB s y=some r):ay (GGx kCa kDb) PP 35 [.agg [.int .i64 s.f,.int .i64 s.r],.int .u8 y] [] (Jk r) (Lm r):=by
 have hE:=cutE (aD (kCa:=kCa) (kDb:=kDb) (cts:=[]) (inl:=[]) trivial trivial)
 refine cg hE 2 Tryz.func35 rfl rfl Jk Lm hr ?_ rfl rfl
 refine ah (Bool.not_or_self _) ?_
 refine ah (Bool.not_or_self _) ?_
 refine ah (Bool.not_or_self _) ?_
 refine ah (Bool.not_or_self _) ?_
 refine ah (Bool.not_or_self _) ?_
 refine ah (Bool.not_or_self _) ?_
 refine ah (Bool.not_or_self _) ?_
 refine ah (tt7 _ _) ?_
 refine ah (Bool.or_not_self _) ?_
 exact aN (aJ [] (.inr rfl) rfl rfl rfl rfl rfl)
theorem Hz:CtOk (GGx kCa kDb) PP (35,Jh):=by
 refine aF Tryz.func35 (by kernel_rfl) rfl fun a0 h0 c0 v0 N0 e hc=>?_
 unfold Jh at e
 split at e
 ·rename_i s_0 s_1 y_0
  obtain⟨hl,r,hr,rfl,rfl⟩:=bu e hc
  exact Km ⟨s_0,s_1⟩ y_0 hr
 ·cases e
def yrSq(s:Siz)(y:Int)(at_:Int):Option (Int):=let x15:=!decide (s.f=0);aQ x15 (aQ x15 (bn (kI y 1) false fun(y5:Bool)=>bp (bif y5 then some (Sum.inl (i64.wrap (i64.wrap (s.f-1)-at_.tmod s.f)))else some (Sum.inl (at_.tmod s.f))) fun(s7:Int)=>bn (kI y 2) false fun(y8:Bool)=>bp (bif y8 then some (Sum.inl (i64.wrap (i64.wrap (s.r-1)-i64.wrap (at_.tdiv s.f))))else some (Sum.inl (i64.wrap (at_.tdiv s.f)))) fun(s10:Int)=>bn (kI y 4) false fun(y11:Bool)=>bp (bif y11 then some (Sum.inl (s10,s7))else some (Sum.inl (s7,s10))) fun(s14:Int×Int)=>some (i64.wrap (s14.1+i64.wrap (s14.2*s.f)))))
def EI(R:Int):V:=.int .i64 R
def BS(_:Int):List O:=[]
def Ef:CF
 |[.agg [.int .i64 s_0,.int .i64 s_1],.int .u8 y_0,.int .i64 at__0],[]=>retC true (yrSq ⟨s_0,s_1⟩ y_0 at__0) 0 EI BS
 |_,_=>none
theorem FZ(s:Siz)(y:Int)(at_:Int){r}(hr:yrSq s y at_=some r):ay (GGx kCa kDb) PP 47 [.agg [.int .i64 s.f,.int .i64 s.r],.int .u8 y,.int .i64 at_] [] (EI r) (BS r):=by
 have hE:=cutE (aD (kCa:=kCa) (kDb:=kDb) (cts:=[(102,uP)]) (inl:=[]) ⟨yW,trivial⟩ trivial)
 refine cg hE 2 Tryz.func47 rfl rfl EI BS hr ?_ rfl rfl
 refine ah rfl ?_
 refine aI ?_
 refine aI ?_
 refine aE (pl rfl id) ?_
 refine bF hE 2 (fun(s7:Int)=>([(1,V.int u8 y),(3,V.ptr 0 0 0),(6,I 0),(7,I s7),(8,I (i64.wrap (at_.tdiv s.f)))],[O.cells true [I s.f,I s.r]])) rfl ?_ ?_ (fun s7=>?_)
 ·exact aW ((Ent.rn [0] [1,3,6,7,8] rfl rfl rfl rfl rfl))
 ·exact aW ((Ent.rn [0] [1,3,6,7,8] rfl rfl rfl rfl rfl))
 refine aE (pl rfl id) ?_
 refine bF hE 2 (fun(s10:Int)=>([(1,V.int u8 y),(3,V.ptr 0 0 0),(6,I 0),(7,I s7),(8,I s10)],[O.cells true [I s.f,I s.r]])) rfl ?_ ?_ (fun s10=>?_)
 ·exact aW ((Ent.rn [0] [1,3,6,7,8] rfl rfl rfl rfl rfl))
 ·exact aW ((Ent.rn [0] [1,3,6,7,8] rfl rfl rfl rfl rfl))
 refine aE (pl rfl id) ?_
 refine bF hE 2 (fun(s14:Int×Int)=>([(3,V.ptr 0 0 0),(6,I 0),(7,I s14.1),(8,I s14.2)],[O.cells true [I s.f,I s.r]])) rfl ?_ ?_ (fun s14=>?_)
 ·exact aW ((Ent.rn [0] [3,6,7,8] rfl rfl rfl rfl rfl))
 ·exact aW ((Ent.rn [0] [3,6,7,8] rfl rfl rfl rfl rfl))
 exact aN (aJ [] (.inr rfl) rfl rfl rfl rfl rfl)
theorem Bh:CtOk (GGx kCa kDb) PP (47,Ef):=by
 refine aF Tryz.func47 (by kernel_rfl) rfl fun a0 h0 c0 v0 N0 e hc=>?_
 unfold Ef at e
 split at e
 ·rename_i s_0 s_1 y_0 at__0
  obtain⟨hl,r,hr,rfl,rfl⟩:=bu e hc
  exact FZ ⟨s_0,s_1⟩ y_0 at__0 hr
 ·cases e
def yw:Siz->List Int×Int->Option (List Int×Int ⊕ List Int ⊕ List Int):=fun(s:Siz) (s9:List Int×Int)=>let x22:=(s9.1.length+1)*1;bif decide (s9.2<8)then bn (yrB (Siz.mk s.f s.r) s9.2) false fun(y10:Bool)=>bp (bif y10 then aQ (decide (x22<=140737488355328)) (some (Sum.inl (s9.1++List.take 1 (List.drop 0 (iL [s9.2])))))else some (Sum.inl s9.1)) fun(s12:List Int)=>some (Sum.inl (s12,u8.wrap (s9.2+1)))else some (Sum.inr (Sum.inl s9.1))
def CB(s:Siz):Option (List Int):=bV (yw s) (fun(s20:List Int)=>some s20) 1000000 ([],0)
def vh(R:List Int):V:=.sl 0 0 R.length none
def uI(R:List Int):List O:=[.ints true .u8 R]
def wh:CF
 |[.agg [.int .i64 s_0,.int .i64 s_1]],[]=>retC true (CB ⟨s_0,s_1⟩) [] vh uI
 |_,_=>none
theorem DT(s:Siz){r}(hr:CB s=some r):ay (GGx kCa kDb) PP 34 [.agg [.int .i64 s.f,.int .i64 s.r]] [] (vh r) (uI r):=by
 have hE:=cutE (aD (kCa:=kCa) (kDb:=kDb) (cts:=[(35,Jh)]) (inl:=[]) ⟨Hz,trivial⟩ trivial)
 refine cg hE 2 Tryz.func34 rfl rfl vh uI hr ?_ rfl rfl
 refine cI hE 2 (fun(s9:List Int×Int)=>([(1,V.ptr 0 0 0),(2,V.nils),(3,V.sl 1 0 s9.1.length none),(4,V.int u8 s9.2)],[O.cells true [I s.f,I s.r],O.ints true u8 s9.1])) (fun(s20:List Int)=>([(2,V.nils),(3,V.sl 0 0 s20.length none)],[O.ints true u8 s20])) (.exit 0) ((Ent.phT 3 (O.ints true u8 []) rfl rfl rfl rfl rfl).trans (Ent.rn [0,1] [1,2,3,4] rfl rfl rfl rfl rfl)) (fun s9=>?_) (fun s20=>?_)
 ·refine aR hE 2 rfl ?_ ?_
  ·refine aE (pl rfl id) ?_
   refine bF hE 2 (fun(s12:List Int)=>([(1,V.ptr 0 0 0),(2,V.nils),(3,V.sl 1 0 s12.length none),(4,V.int u8 s9.2)],[O.cells true [I s.f,I s.r],O.ints true u8 s12])) rfl ?_ ?_ (fun s12=>?_)
   ·refine fV (pr (pl (decide_eq_true rfl) id) rfl) ?_
    exact aW ((Ent.rn [0,3] [1,2,3,4] rfl rfl rfl rfl rfl))
   ·exact aW ((Ent.rn [0,1] [1,2,3,4] rfl rfl rfl rfl rfl))
   exact cr ((Ent.rn [0,1] [1,2,3,4] rfl rfl rfl rfl rfl))
  exact cH ((Ent.rn [1] [2,3] rfl rfl rfl rfl rfl))
 exact aN (aJ [0] (.inr rfl) rfl rfl rfl rfl rfl)
theorem zK:CtOk (GGx kCa kDb) PP (34,wh):=by
 refine aF Tryz.func34 (by kernel_rfl) rfl fun a0 h0 c0 v0 N0 e hc=>?_
 unfold wh at e
 split at e
 ·rename_i s_0 s_1
  obtain⟨hl,r,hr,rfl,rfl⟩:=bu e hc
  exact DT ⟨s_0,s_1⟩ hr
 ·cases e
def kB:Psn->Int->Option (Int ⊕ Unit ⊕ Bool):=fun(p:Psn) (s5:Int)=>let x12:=decide (p.zs.getD s5.toNat 0=1);let x14:=decide (s5<Int.ofNat p.zs.length);let x13:=decide (0<=s5)&&x14;bif x14 then aQ x13 (aQ (!!x12||x13) (bif x12||decide (p.zs.getD s5.toNat 0=-1)then escO (escO (some true))else some (Sum.inl (i64.wrap (s5+1)))))else some (Sum.inr (Sum.inl ()))
def yrPa(p:Psn):Option (Bool):=bV (kB p) (fun(_s10:Unit)=>some false) 1000000 0
def CR(R:Bool):V:=Bb R
def Eb(_:Bool):List O:=[]
def Dq:CF
 |[.agg [.int .i64 p_0,.int .i64 p_1,.sl 0 0 p_2n none,.bool p_3,.int .u8 p_4,.int .i64 p_5,.int .i64 p_6,.int .i64 p_7]],[.ints false .i8 p_2]=>retC (decide (p_2n=p_2.length)) (yrPa ⟨p_0,p_1,p_2,p_3,p_4,p_5,p_6,p_7⟩) false CR Eb
 |_,_=>none
theorem Hs(p:Psn){r}(hr:yrPa p=some r):ay (GGx kCa kDb) PP 68 [.agg [.int .i64 p.f,.int .i64 p.r,.sl 0 0 p.zs.length none,Bb p.bl,.int .u8 p.ca,.int .i64 p.pa,.int .i64 p.ha,.int .i64 p.fu]] [.ints false .i8 p.zs] (CR r) (Eb r):=by
 have hE:=cutE (aD (kCa:=kCa) (kDb:=kDb) (cts:=[]) (inl:=[]) trivial trivial)
 refine cg hE 2 Tryz.func68 rfl rfl CR Eb hr ?_ rfl rfl
 refine cI hE 2 (fun(s5:Int)=>([(1,V.ptr 1 0 0),(2,Bb false),(3,I s5)],[O.ints false i8 p.zs,O.cells true [I p.f,I p.r,V.sl 0 0 p.zs.length none,Bb p.bl,V.int u8 p.ca,I p.pa,I p.ha,I p.fu]])) (fun(s10:Unit)=>([(2,Bb false)],[O.ints false i8 p.zs])) (.exit 0) ((Ent.rn [0,1] [1,2,3] rfl rfl rfl rfl rfl)) (fun s5=>?_) (fun s10=>?_)
 ·refine aR hE 2 rfl ?_ ?_
  ·refine aI ?_
   refine ah (Bool.not_or_self _) ?_
   refine ah (Bool.not_or_self _) ?_
   refine ah (Bool.not_or_self _) ?_
   refine aI ?_
   refine ah (Bool.not_or_self _) ?_
   refine ah (Bool.not_or_self _) ?_
   refine ah (Bool.or_not_self _) ?_
   refine aR hE 2 rfl ?_ ?_
   ·refine sQ (by simp) (od ?_)
    exact aN (aJ [] (.inr rfl) rfl rfl rfl rfl rfl)
   exact cr ((Ent.rn [0,1] [1,2,3] rfl rfl rfl rfl rfl))
  exact cH ((Ent.rn [0] [2] rfl rfl rfl rfl rfl))
 exact aN (aJ [] (.inr rfl) rfl rfl rfl rfl rfl)
theorem Eu:CtOk (GGx kCa kDb) PP (68,Dq):=by
 refine aF Tryz.func68 (by kernel_rfl) rfl fun a0 h0 c0 v0 N0 e hc=>?_
 unfold Dq at e
 split at e
 ·rename_i p_0 p_1 p_2n p_3 p_4 p_5 p_6 p_7 p_2
  obtain⟨hl,r,hr,rfl,rfl⟩:=bu e hc
  simp only[decide_eq_true_eq]at hl
  obtain rfl:=hl
  exact Hs ⟨p_0,p_1,p_2,p_3,p_4,p_5,p_6,p_7⟩ hr
 ·cases e
def yrAl(p:Psn):Option (List Int):=bif !decide (p.ca=0)then some (iL [0])else bn (yrPa (Psn.mk p.f p.r (List.take p.zs.length (List.drop 0 p.zs)) p.bl p.ca p.pa p.ha p.fu)) false fun(y3:Bool)=>bif y3 then some (iL [0,1])else bn (CB (Siz.mk p.f p.r)) [] fun(y4:List Int)=>some y4
def EA(R:List Int):V:=.sl 1 0 R.length none
def Fa(R:List Int):List O:=[.ints true .u8 R]
def Fg:CF
 |[.agg [.int .i64 p_0,.int .i64 p_1,.sl 0 0 p_2n none,.bool p_3,.int .u8 p_4,.int .i64 p_5,.int .i64 p_6,.int .i64 p_7]],[.ints false .i8 p_2]=>retC (decide (p_2n=p_2.length)) (yrAl ⟨p_0,p_1,p_2,p_3,p_4,p_5,p_6,p_7⟩) [] EA Fa
 |_,_=>none
theorem Fy(p:Psn){r}(hr:yrAl p=some r):ay (GGx kCa kDb) PP 22 [.agg [.int .i64 p.f,.int .i64 p.r,.sl 0 0 p.zs.length none,Bb p.bl,.int .u8 p.ca,.int .i64 p.pa,.int .i64 p.ha,.int .i64 p.fu]] [.ints false .i8 p.zs] (EA r) (Fa r):=by
 have hE:=cutE (aD (kCa:=kCa) (kDb:=kDb) (cts:=[(34,wh),(68,Dq)]) (inl:=[]) ⟨zK,Eu,trivial⟩ trivial)
 refine cg hE 2 Tryz.func22 rfl rfl EA Fa hr ?_ rfl rfl
 refine aR hE 2 rfl ?_ ?_
 ·exact aN (aJ [2] (.inr rfl) rfl rfl rfl rfl rfl)
 refine aE (pl (decide_eq_true (az rfl)) id) ?_
 refine aR hE 2 rfl ?_ ?_
 ·exact aN (aJ [2] (.inr rfl) rfl rfl rfl rfl rfl)
 refine aE (pl rfl id) ?_
 exact aN (aJ [2] (.inr rfl) rfl rfl rfl rfl rfl)
theorem Cw:CtOk (GGx kCa kDb) PP (22,Fg):=by
 refine aF Tryz.func22 (by kernel_rfl) rfl fun a0 h0 c0 v0 N0 e hc=>?_
 unfold Fg at e
 split at e
 ·rename_i p_0 p_1 p_2n p_3 p_4 p_5 p_6 p_7 p_2
  obtain⟨hl,r,hr,rfl,rfl⟩:=bu e hc
  simp only[decide_eq_true_eq]at hl
  obtain rfl:=hl
  exact Fy ⟨p_0,p_1,p_2,p_3,p_4,p_5,p_6,p_7⟩ hr
 ·cases e
def lY:Psn->Int->List Int×Int->Option (List Int×Int ⊕ List Int ⊕ Psn):=fun(p:Psn) (y:Int)=>let x29:=Int.ofNat (List.replicate p.zs.length (0:Int)).length;fun(s8:List Int×Int)=>let x31:=decide (s8.2<Int.ofNat p.zs.length);bif x31 then bn (yrSq (Siz.mk p.f p.r) y s8.2) 0 fun(y9:Int)=>aQ (decide (0<=s8.2)&&x31) (aQ (decide (0<=y9)&&decide (y9<x29)) (some (Sum.inl (s8.1.set y9.toNat (p.zs.getD s8.2.toNat 0),i64.wrap (s8.2+1)))))else some (Sum.inr (Sum.inl s8.1))
def qX(p:Psn)(y:Int):Option (Psn):=let x34:=p.zs.length*1;aQ (decide (x34<=140737488355328)&&decide (p.zs.length<=140737488355328)) (bV (lY p y) (fun(s17:List Int)=>bp (bif decide (0<=p.pa)then bn (yrSq (Siz.mk p.f p.r) y p.pa) 0 fun(y18:Int)=>some (Sum.inl y18)else some (Sum.inl p.pa)) fun(s20:Int)=>aQ (decide ((List.replicate p.zs.length (0:Int)).length=s17.length)) (some (Psn.mk p.f p.r s17 p.bl p.ca s20 p.ha p.fu))) 1000000 (List.replicate p.zs.length (0:Int),0))
def qS(R:Psn):V:=.agg [.int .i64 R.f,.int .i64 R.r,.sl 1 0 R.zs.length none,Bb R.bl,.int .u8 R.ca,.int .i64 R.pa,.int .i64 R.ha,.int .i64 R.fu]
def vC(R:Psn):List O:=[.ints true .i8 R.zs]
def uJ:CF
 |[.agg [.int .i64 p_0,.int .i64 p_1,.sl 0 0 p_2n none,.bool p_3,.int .u8 p_4,.int .i64 p_5,.int .i64 p_6,.int .i64 p_7],.int .u8 y_0],[.ints false .i8 p_2]=>retC (decide (p_2n=p_2.length)) (qX ⟨p_0,p_1,p_2,p_3,p_4,p_5,p_6,p_7⟩ y_0) ⟨0,0,[],false,0,0,0,0⟩ qS vC
 |_,_=>none
theorem Bj(p:Psn)(y:Int){r}(hr:qX p y=some r):ay (GGx kCa kDb) PP 63 [.agg [.int .i64 p.f,.int .i64 p.r,.sl 0 0 p.zs.length none,Bb p.bl,.int .u8 p.ca,.int .i64 p.pa,.int .i64 p.ha,.int .i64 p.fu],.int .u8 y] [.ints false .i8 p.zs] (qS r) (vC r):=by
 have hE:=cutE (aD (kCa:=kCa) (kDb:=kDb) (cts:=[(47,Ef)]) (inl:=[]) ⟨Bh,trivial⟩ trivial)
 refine cg hE 2 Tryz.func63 rfl rfl qS vC hr ?_ rfl rfl
 refine fV (pb (pl (decide_eq_true rfl) id) id) ?_
 refine cI hE 2 (let x38:=[Bb p.bl,V.int u8 p.ca,I p.pa,I p.ha,I p.fu];fun(s8:List Int×Int)=>([(1,V.int u8 y),(2,V.ptr 1 0 0),(4,V.ptr 2 0 0),(5,V.ptr 3 0 0),(6,I s8.2)],[O.ints false i8 p.zs,O.cells true (I p.f::I p.r::V.sl 0 0 p.zs.length none::x38),O.cells true [I 0,I 0,V.nils,Bb false,V.int u8 0,I 0,I 0,I 0],O.cells true (I p.f::I p.r::V.sl 4 0 (List.replicate p.zs.length (0:Int)).length none::x38),O.ints true i8 s8.1])) (let x40:=[Bb p.bl,V.int u8 p.ca,I p.pa,I p.ha,I p.fu];fun(s17:List Int)=>([(1,V.int u8 y),(2,V.ptr 1 0 0),(4,V.ptr 2 0 0),(5,V.ptr 3 0 0)],[O.ints false i8 p.zs,O.cells true (I p.f::I p.r::V.sl 0 0 p.zs.length none::x40),O.cells true [I 0,I 0,V.nils,Bb false,V.int u8 0,I 0,I 0,I 0],O.cells true (I p.f::I p.r::V.sl 4 0 (List.replicate p.zs.length (0:Int)).length none::x40),O.ints true i8 s17])) (.exit 0) ((Ent.rn [0,1,2,3,4] [1,2,4,5,6] rfl rfl rfl rfl rfl)) (fun s8=>?_) (fun s17=>?_)
 ·refine aR hE 2 rfl ?_ ?_
  ·refine ah rfl ?_
   refine aE (pl rfl id) ?_
   refine aI ?_
   refine aI ?_
   exact cr ((Ent.rn [0,1,2,3,4] [1,2,4,5,6] rfl rfl rfl rfl rfl))
  exact cH ((Ent.rn [0,1,2,3,4] [1,2,4,5] rfl rfl rfl rfl rfl))
 refine bF hE 2 (fun(s20:Int)=>([(4,V.ptr 1 0 0),(5,V.ptr 2 0 0)],[O.ints false i8 p.zs,O.cells true [I 0,I 0,V.nils,Bb false,V.int u8 0,I 0,I 0,I 0],O.cells true [I p.f,I p.r,V.sl 3 0 (List.replicate p.zs.length (0:Int)).length none,Bb p.bl,V.int u8 p.ca,I s20,I p.ha,I p.fu],O.ints true i8 s17])) rfl ?_ ?_ (fun s20=>?_)
 ·refine aE (pl rfl id) ?_
  exact aW ((Ent.rn [0,2,3,4] [4,5] rfl rfl rfl rfl rfl))
 ·exact aW ((Ent.rn [0,2,3,4] [4,5] rfl rfl rfl rfl rfl))
 refine KI (fun h0=>?_)
 exact aN (aJ [3] (.inr rfl) rfl rfl rfl rfl (by have qh0:=of_decide_eq_true h0;simp_all [qS]))
theorem Ap:CtOk (GGx kCa kDb) PP (63,uJ):=by
 refine aF Tryz.func63 (by kernel_rfl) rfl fun a0 h0 c0 v0 N0 e hc=>?_
 unfold uJ at e
 split at e
 ·rename_i p_0 p_1 p_2n p_3 p_4 p_5 p_6 p_7 y_0 p_2
  obtain⟨hl,r,hr,rfl,rfl⟩:=bu e hc
  simp only[decide_eq_true_eq]at hl
  obtain rfl:=hl
  exact Bj ⟨p_0,p_1,p_2,p_3,p_4,p_5,p_6,p_7⟩ y_0 hr
 ·cases e
def FD:List Int->List Int->Int->Option (Int ⊕ Unit ⊕ Bool):=fun(l want:List Int) (s7:Int)=>let x14:=decide (0<=s7);let x15:=decide (s7<Int.ofNat want.length);bif x15 then aQ (x14&&decide (s7<Int.ofNat l.length)) (aQ (x14&&x15) (bif !decide (l.getD s7.toNat 0=want.getD s7.toNat 0)then escO (escO (some false))else some (Sum.inl (i64.wrap (s7+1)))))else some (Sum.inr (Sum.inl ()))
def Gy(l:List Int)(e:Int)(want:List Int):Option (Bool):=bif !decide (e=0)||!decide (Int.ofNat l.length=Int.ofNat want.length)then some false else bV (FD l want) (fun(_s12:Unit)=>some true) 1000000 0
def uy(R:Bool):V:=Bb R
def wj(_:Bool):List O:=[]
def vO:CF
 |[.sl 0 0 l_0n none,.int .i64 e_0,.sl 1 0 want_0n none],[.ints false .u8 l_0,.ints false .u8 want_0]=>retC (decide (l_0n=l_0.length)&&decide (want_0n=want_0.length)) (Gy l_0 e_0 want_0) false uy wj
 |_,_=>none
theorem AU(l:List Int)(e:Int)(want:List Int){r}(hr:Gy l e want=some r):ay (GGx kCa kDb) PP 21 [.sl 0 0 l.length none,.int .i64 e,.sl 1 0 want.length none] [.ints false .u8 l,.ints false .u8 want] (uy r) (wj r):=by
 have hE:=cutE (aD (kCa:=kCa) (kDb:=kDb) (cts:=[]) (inl:=[]) trivial trivial)
 refine cg hE 2 Tryz.func21 rfl rfl uy wj hr ?_ rfl rfl
 refine ah (Bool.not_or_self _) ?_
 refine ah (Bool.not_or_self _) ?_
 refine ah (Bool.not_or_self _) ?_
 refine ah (Bool.not_or_self _) ?_
 refine ah (Bool.or_not_self _) ?_
 refine aR hE 2 rfl ?_ ?_
 ·exact aN (aJ [] (.inr rfl) rfl rfl rfl rfl rfl)
 refine cI hE 2 (fun(s7:Int)=>([(0,V.sl 0 0 l.length none),(2,V.sl 1 0 want.length none),(6,Bb false),(7,I s7)],[O.ints false u8 l,O.ints false u8 want])) (fun(s12:Unit)=>([(6,Bb false)],[O.ints false u8 l,O.ints false u8 want])) (.exit 0) ((Ent.rn [0,1] [0,2,6,7] rfl rfl rfl rfl rfl)) (fun s7=>?_) (fun s12=>?_)
 ·refine aR hE 2 rfl ?_ ?_
  ·refine ah rfl ?_
   refine aI ?_
   refine aI ?_
   refine aR hE 2 rfl ?_ ?_
   ·refine sQ (by simp) (od ?_)
    exact aN (aJ [] (.inr rfl) rfl rfl rfl rfl rfl)
   exact cr ((Ent.rn [0,1] [0,2,6,7] rfl rfl rfl rfl rfl))
  exact cH ((Ent.rn [0,1] [6] rfl rfl rfl rfl rfl))
 exact aN (aJ [] (.inr rfl) rfl rfl rfl rfl rfl)
theorem zy:CtOk (GGx kCa kDb) PP (21,vO):=by
 refine aF Tryz.func21 (by kernel_rfl) rfl fun a0 h0 c0 v0 N0 e hc=>?_
 unfold vO at e
 split at e
 ·rename_i l_0n e_0 want_0n l_0 want_0
  obtain⟨hl,r,hr,rfl,rfl⟩:=bu e hc
  simp only[Bool.and_eq_true,decide_eq_true_eq]at hl
  obtain⟨rfl,rfl⟩:=hl
  exact AU l_0 e_0 want_0 hr
 ·cases e
end
end Go.Ab
namespace Go.Ab
def ynv(a:Int):Int:=([0,1,2,3,4,6,5,7]:List Int).getD a.toNat 0
theorem of8{a:Int}(h0:0<=a)(h8:a<8):∃ n,n∈List.range 8/\a=Int.ofNat n:=⟨a.toNat,List.mem_range.2 (by omega),by simp only[Int.ofNat_eq_natCast];omega⟩
theorem HE:((List.range 8).all fun a=>decide (yhas (Int.ofNat a) 1=kI (Int.ofNat a) 1)&&decide (yhas (Int.ofNat a) 2=kI (Int.ofNat a) 2)&&decide (yhas (Int.ofNat a) 4=kI (Int.ofNat a) 4)
 && decide (kI (Int.ofNat a) 4=some (!decide (Int.ofNat a<4))))=true:=by kernel_rfl
theorem Kl{y:Int}(h0:0<=y)(h8:y<8):yhas y 1=kI y 1/\yhas y 2=kI y 2/\yhas y 4=kI y 4/\kI y 4=some (!decide (y<4)):=by
 obtain⟨n,hn,rfl⟩:=of8 h0 h8
 have:=List.all_eq_true.1 HE n hn
 simp only[Bool.and_eq_true,decide_eq_true_eq]at this
 exact⟨this.1.1.1,this.1.1.2,this.1.2,this.2⟩
theorem II{y:Int}(h0:0<=y)(h8:y<8)(s:Siz)(a:Int):ysq y s a=yrSq s y a:=by
 obtain⟨h1,h2,h3,_⟩:=Kl h0 h8
 unfold ysq yrSq
 rw[h1,h2,h3]
 simp only[Int.add_comm]
def yaL(b:Bool):List Int:=bif b then[0,1,2,3,4,5,6,7] else[0,1,2,3]
def yaS(b:Bool)(s9:List Int×Int):Option (List Int×Int ⊕ List Int ⊕ List Int×Int):=let x22:=(s9.1.length+1)*1;bif decide (s9.2<8)then bn (bn (yhas s9.2 4) false fun y4=>some (!y4||b)) false fun(y10:Bool)=>bp (bif y10 then aQ (decide (x22<=140737488355328)) (some (.inl (s9.1++List.take 1 (List.drop 0 (iL [s9.2])))))else some (.inl s9.1)) fun(s12:List Int)=>some (.inl (s12,IntKind.u8.wrap (s9.2+1)))else some (.inr (.inl s9.1))
def yrS(b:Bool)(s9:List Int×Int):Option (List Int×Int ⊕ List Int ⊕ List Int):=let x22:=(s9.1.length+1)*1;bif decide (s9.2<8)then bn (some (decide (s9.2<4)||decide (s9.2<8)&&b)) false fun(y10:Bool)=>bp (bif y10 then aQ (decide (x22<=140737488355328)) (some (.inl (s9.1++List.take 1 (List.drop 0 (iL [s9.2])))))else some (.inl s9.1)) fun(s12:List Int)=>some (.inl (s12,IntKind.u8.wrap (s9.2+1)))else some (.inr (.inl s9.1))
theorem Jo(b:Bool):bV (yaS b) (fun(s20:List Int)=>some (s20,(0:Int))) 1000000 ([],0)=some (yaL b,0):=by cases b<;>kernel_rfl
theorem LV(b:Bool):bV (yrS b) (fun(s20:List Int)=>some s20) 1000000 ([],0)=some (yaL b):=by cases b<;>kernel_rfl
theorem Ld(s:Siz):yall s=bif vsB s.f s.r then some (yaL (decide (s.f=s.r)),0)else some ([],2):=by
 unfold yall
 rw[show Cp s=yaS (decide (s.f=s.r))from rfl,Jo]
 cases vsB s.f s.r<;>rfl
theorem GI(s:Siz):CB s=some (yaL (decide (s.f=s.r))):=by
 unfold CB
 rw[show yw s=yrS (decide (s.f=s.r))from rfl,LV]
def Mx(f r y j:Nat):Bool:=match yrSq ⟨Int.ofNat f,Int.ofNat r⟩ (Int.ofNat y) (Int.ofNat j) with
 |some q=>decide (0<=q)&&decide (q<Int.ofNat (f*r))&&decide (yrSq ⟨Int.ofNat f,Int.ofNat r⟩ (ynv (Int.ofNat y)) q=some (Int.ofNat j))
 |none=>false
theorem Nb:((List.range' 3 6).all fun f=>(List.range' 3 6).all fun r=>(List.range 8).all fun y=>(decide (4<=y)&&!decide (f=r))||(List.range (f*r)).all fun j=>Mx f r y j)=true:=by kernel_rfl
theorem NP{f r y j:Int}(hv:vsB f r=true)(h0:0<=y)(h8:y<8)(hb:y<4\/f=r)(j0:0<=j)(jn:j<f*r) :
  ∃ q,yrSq ⟨f,r⟩ y j=some q/\0<=q/\q<f*r/\yrSq ⟨f,r⟩ (ynv y) q=some j:=by
 obtain⟨f1,f2,r1,r2⟩:=cY hv
 obtain⟨F,rfl⟩:∃ F:Nat,f=Int.ofNat F:=⟨f.toNat,by simp only[Int.ofNat_eq_natCast];omega⟩
 obtain⟨R,rfl⟩:∃ R:Nat,r=Int.ofNat R:=⟨r.toNat,by simp only[Int.ofNat_eq_natCast];omega⟩
 obtain⟨Y,rfl⟩:∃ Y:Nat,y=Int.ofNat Y:=⟨y.toNat,by simp only[Int.ofNat_eq_natCast];omega⟩
 obtain⟨J,rfl⟩:∃ J:Nat,j=Int.ofNat J:=⟨j.toNat,by simp only[Int.ofNat_eq_natCast];omega⟩
 simp only[Int.ofNat_eq_natCast]at f1 f2 r1 r2 h8 hb jn
 have h1:=List.all_eq_true.1 Nb F (List.mem_range'_1.2 ⟨by omega,by omega⟩)
 have h2:=List.all_eq_true.1 h1 R (List.mem_range'_1.2 ⟨by omega,by omega⟩)
 have h3:=List.all_eq_true.1 h2 Y (List.mem_range.2 (by omega))
 rw[Bool.or_eq_true]at h3
 rcases h3 with h3|h3
 ·simp only[Bool.and_eq_true,decide_eq_true_eq,Bool.not_eq_true',decide_eq_false_iff_not]at h3
  omega
 ·have h4:=List.all_eq_true.1 h3 J (List.mem_range.2 (by have:((F*R:Nat):Int)=(F:Int)*(R:Int):=Int.natCast_mul F R;omega))
  unfold Mx at h4
  split at h4
  ·rename_i q hq
   simp only[Bool.and_eq_true,decide_eq_true_eq]at h4
   refine⟨q,hq,h4.1.1,?_,h4.2⟩
   have:(Int.ofNat (F*R))=Int.ofNat F*Int.ofNat R:=Int.natCast_mul F R
   rw[<-this];exact h4.1.2
  ·cases h4
section
variable{f r y set:Int}(hv:vsB f r=true)(h0:0<=y)(h8:y<8)(hb:y<4\/f=r)(hs:Uk set)
def qv(f r y:Int)(j:Nat):Int:=bif decide ((j:Int)<f*r) then(yrSq ⟨f,r⟩ y j).getD 0 else 0
include hv h0 h8 hb in
theorem jX{j:Nat}(hj:(j:Int)<f*r):yrSq ⟨f,r⟩ y j=some (qv f r y j)/\0<=qv f r y j/\qv f r y j<f*r/\yrSq ⟨f,r⟩ (ynv y) (qv f r y j)=some (j:Int):=by
 obtain⟨q,h1,h2,h3,h4⟩:=NP hv h0 h8 hb (Int.natCast_nonneg j) hj
 have:qv f r y j=q:=by unfold qv;rw[decide_eq_true hj,h1];rfl
 rw[this];exact⟨h1,h2,h3,h4⟩
include hv h0 h8 hb in
theorem NL{i j:Nat}(hi:(i:Int)<f*r)(hj:(j:Int)<f*r)(h:qv f r y i=qv f r y j):i=j:=by
 obtain⟨_,_,_,h4⟩:=jX hv h0 h8 hb hi
 obtain⟨_,_,_,h5⟩:=jX hv h0 h8 hb hj
 rw[h,h5]at h4
 have:=Option.some.inj h4
 omega
include hv in
theorem OH:IntKind.i64.wrap (f*r)=f*r:=by
 obtain⟨m1,m2⟩:=cV hv
 exact aC (by omega) (by omega)
include hv h0 h8 hb hs in
def bk(k:Nat):Int:=IntKind.u64.wrap ((2^k:Nat):Int)
end
section
variable{f r:Int}(hv:vsB f r=true)
include hv in
end
section
theorem Nj{y:Int}(h0:0<=y)(h8:y<8):0<=ynv y/\ynv y<8/\ynv (ynv y)=y/\(y<4->ynv y<4):=by
 obtain⟨n,hn,rfl⟩:=of8 h0 h8
 have:((List.range 8).all fun n=>decide (0<=ynv (Int.ofNat n))&&decide (ynv (Int.ofNat n)<8)&&decide (ynv (ynv (Int.ofNat n))=Int.ofNat n)&&(!decide (Int.ofNat n<4)||decide (ynv (Int.ofNat n)<4)))=true:=by kernel_rfl
 have:=List.all_eq_true.1 this n hn
 simp only[Bool.and_eq_true,decide_eq_true_eq,Bool.or_eq_true,Bool.not_eq_true',decide_eq_false_iff_not]at this
 exact⟨this.1.1.1,this.1.1.2,this.1.2,fun h=>this.2.resolve_left fun g=>g h⟩
section
variable{f r y:Int}(hv:vsB f r=true)(h0:0<=y)(h8:y<8)(hb:y<4\/f=r)
def qi(f r y:Int)(m:Nat):Nat:=(qv f r (ynv y) m).toNat
include hv h0 h8 hb in
theorem qW{m:Nat}(hm:(m:Int)<f*r):(qi f r y m:Int)<f*r/\qv f r y (qi f r y m)=m:=by
 obtain⟨a1,a2,a3,a4⟩:=Nj h0 h8
 obtain⟨b1,b2,b3,b4⟩:=jX hv a1 a2 (hb.imp_left a4) hm
 have hq:((qi f r y m:Nat):Int)=qv f r (ynv y) m:=by unfold qi;omega
 refine⟨by rw[hq];exact b3,?_⟩
 rw[a3]at b4
 obtain⟨c1,_⟩:=jX hv h0 h8 hb (j:=qi f r y m) (by rw[hq];exact b3)
 rw[hq,b4]at c1
 exact(Option.some.inj c1).symm
include hv h0 h8 hb in
theorem NF{k:Nat}(hk:(k:Int)<f*r):qi f r y (qv f r y k).toNat=k:=by
 obtain⟨b1,b2,b3,b4⟩:=jX hv h0 h8 hb hk
 have hm:(((qv f r y k).toNat:Nat):Int)<f*r:=by omega
 obtain⟨c1,c2⟩:=qW hv h0 h8 hb hm
 exact NL hv h0 h8 hb c1 hk (by rw[c2];omega)
def mvK(f r y:Int)(zs base:List Int)(n k:Nat):List Int:=(List.range n).map fun m=>if qi f r y m<k then zs.getD (qi f r y m) 0 else base.getD m 0
include hv h0 h8 hb in
theorem xF(zs base:List Int){n k:Nat}(hn:f*r=n)(hk:k<n):(mvK f r y zs base n k).set (qv f r y k).toNat (zs.getD k 0)=mvK f r y zs base n (k+1):=by
 refine List.ext_getElem (by simp[mvK]) fun m h1 h2=>?_
 have hm:m<n:=by simpa[mvK]using h2
 have hmI:(m:Int)<f*r:=by omega
 obtain⟨b1,b2⟩:=qW hv h0 h8 hb hmI
 rw[List.getElem_set]
 by_cases e:(qv f r y k).toNat=m
 ·rw[if_pos e]
  have:qi f r y m=k:=by rw[<-e];exact NF hv h0 h8 hb (by omega)
  simp[mvK,this]
 ·rw[if_neg e]
  have:qi f r y m≠k:=fun h=>e (by rw[h]at b2;omega)
  simp only[mvK,List.getElem_map,List.getElem_range]
  by_cases h3:qi f r y m<k
  ·rw[if_pos h3,if_pos (by omega)]
  ·rw[if_neg h3,if_neg (by omega)]
theorem Mw(zs:List Int){base:List Int}{n:Nat}(hl:base.length=n):mvK f r y zs base n 0=base:=by
 refine List.ext_getElem (by simp[mvK,hl]) fun m h1 h2=>?_
 simp[mvK,List.getD,h2]
include hv h0 h8 hb in
theorem Mt(zs base:List Int){n:Nat}(hn:f*r=n):mvK f r y zs base n n=mvK f r y zs [] n n:=by
 unfold mvK
 refine List.map_congr_left fun m hm=>?_
 have hm:=List.mem_range.1 hm
 obtain⟨b1,_⟩:=qW hv h0 h8 hb (m:=m) (by omega)
 rw[if_pos (by omega),if_pos (by omega)]
theorem vW(zs base:List Int)(n k:Nat):(mvK f r y zs base n k).length=n:=by simp[mvK]
end
variable{p:Psn}{y:Int}(hv:vsB p.f p.r=true)(h0:0<=y)(h8:y<8)(hb:y<4\/p.f=p.r){n:Nat}(hn:p.f*p.r=n)(hl:p.zs.length=n)
def mvZ(p:Psn)(y:Int):List Int:=mvK p.f p.r y p.zs [] (p.f*p.r).toNat (p.f*p.r).toNat
include hv h0 h8 hb hn hl in
theorem su(F:List Int->Option Psn)(e:Nat):∀ (d k:Nat),k+d=n->bV (qQ y p) F (d+1+e) (mvK p.f p.r y p.zs p.zs n k,(k:Int))=F (mvK p.f p.r y p.zs p.zs n (k+d))
 |0,k,hk=>by
  rw[show 0+1+e=e+1 by omega]
  refine cE ?_
  unfold qQ
  dsimp only
  rw[decide_eq_false (show ¬ ((k:Int)<Int.ofNat p.zs.length) by rw[hl];simp only[Int.ofNat_eq_natCast];omega)]
  rfl
 |d+1,k,hk=>by
  obtain⟨m1,m2⟩:=cV hv
  obtain⟨b1,b2,b3,_⟩:=jX hv h0 h8 hb (j:=k) (by omega)
  have hw:IntKind.i64.wrap ((k:Int)+1)=((k+1:Nat):Int):=by rw[aC (by omega) (by omega)];omega
  rw[show d+1+1+e=(d+1+e)+1 by omega]
  rw[bN (s':=(mvK p.f p.r y p.zs p.zs n (k+1),((k+1:Nat):Int))) (by
   unfold qQ
   dsimp only
   rw[II h0 h8,b1,hw,List.drop_zero,List.take_length,decide_eq_true (show ((k:Int)<Int.ofNat p.zs.length) by rw[hl];simp only[Int.ofNat_eq_natCast];omega),decide_eq_true (Int.natCast_nonneg k),aU,decide_eq_true b2,decide_eq_true (show (qv p.f p.r y k<Int.ofNat p.zs.length) by rw[hl];simp only[Int.ofNat_eq_natCast];omega)]
   simp only[cond_true,Bool.and_self,aV,Int.toNat_natCast]
   rw[xF hv h0 h8 hb p.zs p.zs hn (by omega)])]
  rw[su F e d (k+1) (by omega),show k+1+d=k+(d+1) by omega]
include hv h0 h8 hb hn hl in
theorem oP(F:List Int->Option Psn)(e:Nat):∀ (d k:Nat),k+d=n->bV (lY p y) F (d+1+e) (mvK p.f p.r y p.zs (List.replicate p.zs.length 0) n k,(k:Int))=F (mvK p.f p.r y p.zs (List.replicate p.zs.length 0) n (k+d))
 |0,k,hk=>by
  rw[show 0+1+e=e+1 by omega]
  refine cE ?_
  unfold lY
  dsimp only
  rw[decide_eq_false (show ¬ ((k:Int)<Int.ofNat p.zs.length) by rw[hl];simp only[Int.ofNat_eq_natCast];omega)]
  rfl
 |d+1,k,hk=>by
  obtain⟨m1,m2⟩:=cV hv
  obtain⟨b1,b2,b3,_⟩:=jX hv h0 h8 hb (j:=k) (by omega)
  have hw:IntKind.i64.wrap ((k:Int)+1)=((k+1:Nat):Int):=by rw[aC (by omega) (by omega)];omega
  rw[show d+1+1+e=(d+1+e)+1 by omega]
  rw[bN (s':=(mvK p.f p.r y p.zs (List.replicate p.zs.length 0) n (k+1),((k+1:Nat):Int))) (by
   unfold lY
   dsimp only
   rw[b1,hw,List.length_replicate,decide_eq_true (show ((k:Int)<Int.ofNat p.zs.length) by rw[hl];simp only[Int.ofNat_eq_natCast];omega),decide_eq_true (Int.natCast_nonneg k),aU,decide_eq_true b2,decide_eq_true (show (qv p.f p.r y k<Int.ofNat p.zs.length) by rw[hl];simp only[Int.ofNat_eq_natCast];omega)]
   simp only[cond_true,Bool.and_self,aV,Int.toNat_natCast]
   rw[xF hv h0 h8 hb p.zs _ hn (by omega)])]
  rw[oP F e d (k+1) (by omega),show k+1+d=k+(d+1) by omega]
def mvP(p:Psn)(y:Int):Psn:=⟨p.f,p.r,mvZ p y,p.bl,p.ca,bif decide (0<=p.pa) then(yrSq ⟨p.f,p.r⟩ y p.pa).getD 0 else p.pa,p.ha,p.fu⟩
include hv h0 h8 hb hn hl in
theorem KF(hpa:p.pa<p.f*p.r):ypos y p=some (mvP p y)/\qX p y=some (mvP p y):=by
 obtain⟨m1,m2⟩:=cV hv
 have hz:mvZ p y=mvK p.f p.r y p.zs [] n n:=by unfold mvZ;rw[show (p.f*p.r).toNat=n by omega]
 have hlen:(mvZ p y).length=n:=by rw[hz,vW]
 have hP:(bp (bif decide (0<=p.pa)then bn (yrSq ⟨p.f,p.r⟩ y p.pa) 0 fun(y18:Int)=>some (Sum.inl y18)else some (Sum.inl p.pa)) fun(s20:Int)=>some (⟨p.f,p.r,mvZ p y,p.bl,p.ca,s20,p.ha,p.fu⟩:Psn))=some (mvP p y):=by
  unfold mvP
  by_cases h:0<=p.pa
  ·obtain⟨q,hq,_⟩:=NP hv h0 h8 hb h hpa
   rw[decide_eq_true h,hq];rfl
  ·rw[decide_eq_false h];rfl
 constructor
 ·have h:=su hv h0 h8 hb hn hl (fun(s17:List Int)=>bp (bif decide (0<=p.pa)then bn (ysq y ⟨p.f,p.r⟩ p.pa) 0 fun(y18:Int)=>some (Sum.inl y18)else some (Sum.inl p.pa)) fun(s20:Int)=>aQ (decide (p.zs.length=s17.length)) (some (Psn.mk p.f p.r s17 p.bl p.ca s20 p.ha p.fu))) (999999-n) n 0 (by omega)
  rw[show n+1+(999999-n)=1000000 by omega,Nat.zero_add,Mw p.zs hl,Mt hv h0 h8 hb p.zs p.zs hn,<-hz]at h
  unfold ypos
  simp only[List.drop_zero,List.take_length]
  rw[decide_eq_true (show p.zs.length<=64 by omega),aV]
  refine Eq.trans h ?_
  simp only[hlen,hl,decide_true,aV]
  rw[II h0 h8]
  exact hP
 ·have h:=oP hv h0 h8 hb hn hl (fun(s17:List Int)=>bp (bif decide (0<=p.pa)then bn (yrSq ⟨p.f,p.r⟩ y p.pa) 0 fun(y18:Int)=>some (Sum.inl y18)else some (Sum.inl p.pa)) fun(s20:Int)=>aQ (decide ((List.replicate p.zs.length (0:Int)).length=s17.length)) (some (Psn.mk p.f p.r s17 p.bl p.ca s20 p.ha p.fu))) (999999-n) n 0 (by omega)
  rw[show n+1+(999999-n)=1000000 by omega,Nat.zero_add,Mw p.zs (by rw[List.length_replicate,hl]),Mt hv h0 h8 hb p.zs _ hn,<-hz]at h
  unfold qX
  dsimp only
  rw[decide_eq_true (show p.zs.length*1<=140737488355328 by omega),decide_eq_true (show p.zs.length<=140737488355328 by omega),Bool.and_self,aV]
  refine Eq.trans h ?_
  simp only[hlen,hl,List.length_replicate,decide_true,aV]
  exact hP
end
end Go.Ab
namespace Go.Ab
open Go.Proofs
theorem xT{ca:Int}(h:0<=ca/\ca<=15){bit:Int}(hb:bit=1\/bit=2\/bit=4\/bit=8):decide ((IntKind.u8.wrap (ca.tdiv bit)).tmod 2=1)=!decide (JI ca bit=0):=by
 obtain⟨h1,h2⟩:=h
 have:ca=0\/ca=1\/ca=2\/ca=3\/ca=4\/ca=5\/ca=6\/ca=7\/ca=8\/ca=9\/ca=10\/ca=11\/ca=12\/ca=13\/ca=14\/ca=15:=by omega
 rcases hb with rfl|rfl|rfl|rfl<;>rcases this with rfl|rfl|rfl|rfl|rfl|rfl|rfl|rfl|rfl|rfl|rfl|rfl|rfl|rfl|rfl|rfl<;>decide
theorem Lp{f r:Int}{zs:List Int}:(lI f r zs 1=!((!is88 f r||!decide (zs.getD 4 0=ofP 6 false))||!decide (zs.getD 7 0=ofP 4 false)))/\(lI f r zs 2=!((!is88 f r||!decide (zs.getD 4 0=ofP 6 false))||!decide (zs.getD 0 0=ofP 4 false)))/\(lI f r zs 4=!((!is88 f r||!decide (zs.getD 60 0=ofP 6 true))||!decide (zs.getD 63 0=ofP 4 true)))/\(lI f r zs 8=!((!is88 f r||!decide (zs.getD 60 0=ofP 6 true))||!decide (zs.getD 56 0=ofP 4 true))):=by
 have e1:ofP 6 false=6:=by decide
 have e2:ofP 4 false=4:=by decide
 have e3:ofP 6 true=-6:=by decide
 have e4:ofP 4 true=-4:=by decide
 rw[e1,e2,e3,e4]
 unfold lI is88
 cases decide (f=8)<;>cases decide (r=8)<;>simp
theorem cast_eq{f r:Int}{zs:List Int}{ca:Int}(h0:0<=ca):lG f r zs ca=gw f r zs ca:=by
 unfold lG gw
 rcases Int.lt_or_le 15 ca with h|h
 ·have h2:¬ ca<16:=by omega
  simp[h,h2]
 ·have h2:ca<16:=by omega
  have h1:¬ 15<ca:=by omega
  obtain⟨a1,a2,a3,a4⟩:=Lp (f:=f) (r:=r) (zs:=zs)
  have hx:0<=ca/\ca<=15:=⟨h0,h⟩
  simp only[rXL,rtX,xT hx (.inl rfl),xT hx (.inr (.inl rfl)),xT hx (.inr (.inr (.inl rfl))),xT hx (.inr (.inr (.inr rfl))),a1,a2,a3,a4,Bool.not_not,decide_eq_true h2,decide_eq_false h1,cond_false,Bool.and_true,Bool.not_or,Bool.not_and]
theorem pN(p:Int->Bool):∀ (l:List Int) (k:Int),(cC p l k=-1/\∀ i,i<l.length->p (l.getD i 0)=false)\/(∃ j,j<l.length/\cC p l k=k+(j:Nat)/\p (l.getD j 0)=true/\∀ i,i<j->p (l.getD i 0)=false)
 |[],k=>.inl ⟨rfl,fun i h=>by simp at h⟩
 |x::l,k=>by
  rw[cC]
  cases hx:p x with
  |true=>right;exact⟨0,by simp,by simp,by simpa using hx,fun i h=>by omega⟩
  |false=>
   rw[cond_false]
   rcases pN p l (k+1) with⟨h1,h2⟩|⟨j,h1,h2,h3,h4⟩
   ·left
    refine⟨h1,fun i hi=>?_⟩
    cases i with
    |zero=>simpa using hx
    |succ i=>have:=h2 i (by simpa using hi);simpa using this
   ·right
    refine⟨j+1,by simpa using h1,by rw[h2];push_cast;omega,by simpa using h3,fun i hi=>?_⟩
    cases i with
    |zero=>simpa using hx
    |succ i=>have:=h4 i (by omega);simpa using this
theorem nQ{c:Int->Bool}:∀ (n:Nat),(∀ i:Nat,i<n->c i=false)->cz c id n=[]
 |0,_=>rfl
 |n+1,h=>by rw[fK,h n (by omega),cond_false];exact nQ n fun i hi=>h i (by omega)
theorem lV{c:Int->Bool}{a:Nat}(ha:c a=true):∀ (n:Nat),a<n->(∀ i:Nat,i<n->c i=true->i=a)->cz c id n=[(a:Int)]
 |0,h,_=>by omega
 |n+1,h,hu=>by
  rw[fK]
  by_cases e:n=a
  ·subst e
   rw[ha,cond_true,nQ n fun i hi=>?_]
   ·rfl
   ·cases hc:c i with
    |false=>rfl
    |true=>have:=hu i (by omega) hc;omega
  ·have:c n=false:=by
    cases hc:c n with
    |false=>rfl
    |true=>exact absurd (hu n (by omega) hc) e
   rw[this,cond_false]
   exact lV ha n (by omega) fun i hi=>hu i (by omega)
theorem Ki(bl:Bool):w8 (IntKind.i64.wrap (6*sdI bl))=kgP bl:=by cases bl<;>decide
theorem gN{zs:List Int}{p:Int->Bool}{k:Nat}:(zs.drop k).any p=true↔∃ i,k<=i/\i<zs.length/\p (zs.getD i 0)=true:=by
 rw[List.any_eq_true]
 constructor
 ·rintro⟨x,hx,hp⟩
  obtain⟨i,hi,rfl⟩:=List.mem_iff_getElem.1 hx
  rw[List.getElem_drop]at hp
  rw[List.length_drop]at hi
  exact⟨k+i,by omega,by omega,by simpa[List.getD,show k+i<zs.length by omega]using hp⟩
 ·rintro⟨i,h1,h2,h3⟩
  refine⟨zs.getD i 0,?_,h3⟩
  rw[List.mem_iff_getElem]
  refine⟨i-k,by rw[List.length_drop];omega,?_⟩
  rw[List.getElem_drop]
  simp[List.getD,h2,show k+(i-k)=i by omega]
theorem yJ(zs:List Int)(bl:Bool)(hl:zs.length<=64):(nL zs bl=true/\aG zs bl=-1)\/(nL zs bl=false/\aG zs bl=gh zs bl/\0<=gh zs bl/\gh zs bl<zs.length/\zs.getD (gh zs bl).toNat 0=kgP bl/\∀ i:Nat,i<zs.length->zs.getD i 0=kgP bl->(i:Int)=gh zs bl):=by
 unfold aG nL
 rw[Ki]
 rcases pN (isV (kgP bl)) zs 0 with⟨h1,h2⟩|⟨j,h1,h2,h3,h4⟩
 ·left
  have hn:gr zs (kgP bl)=[]:=nQ _ fun i hi=>by
   have:=h2 i hi
   simp only[isV,decide_eq_false_iff_not]at this
   simp only[iM,Int.toNat_natCast,decide_eq_false_iff_not]
   exact fun e=>this e.symm
  rw[hn]
  refine⟨?_,rfl⟩
  rw[show gh zs bl=-1 from h1];rfl
 ·have hK:gh zs bl=(j:Int):=by unfold gh;rw[h2];omega
  simp only[isV,decide_eq_true_eq]at h3
  rw[hK,show IntKind.i64.wrap ((j:Int)+1)=((j+1:Nat):Int) by rw[aC (by omega) (by omega)];omega,Int.toNat_natCast,show decide ((j:Int)<0)=false by simp,Bool.false_or]
  cases ha:(zs.drop (j+1)).any (isV (kgP bl)) with
  |true=>
   left
   refine⟨rfl,?_⟩
   obtain⟨i,g1,g2,g3⟩:=gN.1 ha
   simp only[isV,decide_eq_true_eq]at g3
   have m1:(j:Int)∈gr zs (kgP bl):=bS.2 ⟨by omega,by omega,by simp[iM,h3]⟩
   have m2:(i:Int)∈gr zs (kgP bl):=bS.2 ⟨by omega,by omega,by simp[iM,g3]⟩
   cases hd:decide (((gr zs (kgP bl)).length:Int)=1) with
   |false=>rfl
   |true=>
    have:(gr zs (kgP bl)).length=1:=by have:=of_decide_eq_true hd;omega
    obtain⟨x,hx⟩:=List.length_eq_one_iff.1 this
    rw[hx]at m1 m2
    simp at m1 m2
    omega
  |false=>
   right
   have hno:∀ i:Nat,i<zs.length->zs.getD i 0=kgP bl->i=j:=by
    intro i hi he
    rcases Nat.lt_trichotomy i j with g|g|g
    ·have:=h4 i g
     simp only[isV,decide_eq_false_iff_not]at this
     exact absurd he.symm this
    ·exact g
    ·have:(zs.drop (j+1)).any (isV (kgP bl))=true:=gN.2 ⟨i,by omega,hi,by simp only[isV,decide_eq_true_eq];exact he.symm⟩
     rw[ha]at this;cases this
   have hone:gr zs (kgP bl)=[(j:Int)]:=lV (by simp[iM,h3]) _ h1 fun i hi hc=>hno i hi (by simpa[iM]using hc)
   refine⟨rfl,by rw[hone];rfl,by omega,by omega,by rw[h3,Int.toNat_natCast],fun i hi he=>by rw[hno i hi he]⟩
theorem gM{f r:Int}{zs:List Int}{bl:Bool}(h:aO f r zs=true)(hl:zs.length<=64):(aG zs bl<0/\bK f r zs bl=(0,9))\/(bK f r zs bl=(aG zs bl,0)/\ak f r (aG zs bl)=true/\aG zs bl=gh zs bl):=by
 rcases yJ zs bl hl with⟨h1,h2⟩|⟨h1,h2,h3,h4,_⟩
 ·left;exact⟨by rw[h2];decide,by unfold bK;rw[h,h1];rfl⟩
 ·right;exact⟨by unfold bK;rw[h,h1,h2];rfl,(cW h).2 (by rw[h2];exact⟨h3,h4⟩),h2⟩
end Go.Ab
namespace Go.Ab
open IntKind
open Go.Proofs
theorem HD{f r:Int}{zs:List Int}{to:Int}{bl:Bool}(h:aO f r zs=true)(hl:zs.length<=64)(ht:ak f r to=true):decide (attR f r zs to bl=0)=decide (((attL f r zs to bl).length:Int)=0):=by
 obtain⟨hu,hb⟩:=nB (bl:=bl) h hl ht
 rw[decide_eq_decide,nP hu]
 constructor
 ·intro h0
  have:attL f r zs to bl=[]:=List.eq_nil_iff_forall_not_mem.2 fun x hx=>by
   have hx':=eS.1 hx
   have:=h0 x.toNat (by omega)
   rw[hb,show ((x.toNat:Nat):Int)=x by omega]at this
   simp[hx]at this
  rw[this];rfl
 ·intro h0 n _
  have:attL f r zs to bl=[]:=List.eq_nil_of_length_eq_zero (by omega)
  rw[hb,this];simp
theorem NS{f r:Int}{zs:List Int}{bl:Bool}(h:aO f r zs=true)(hl:zs.length<=64)(hk:(bK f r zs bl).2=0):chkL f r zs bl=chkB f r zs bl:=by
 rcases gM (bl:=bl) h hl with⟨_,h2⟩|⟨h1,h2,_⟩
 ·rw[h2]at hk;cases hk
 ·unfold chkL chkB bH
  rw[h1]
  simp only[decide_true,cond_true]
  rw[HD h hl h2]
  have:(0:Int)<=((attL f r zs (aG zs bl) (!bl)).length:Int):=Int.natCast_nonneg _
  by_cases h0:((attL f r zs (aG zs bl) (!bl)).length:Int)=0
  ·simp[h0]
  ·have:0<((attL f r zs (aG zs bl) (!bl)).length:Int):=by omega
   rw[decide_eq_false h0,decide_eq_true this];rfl
theorem Ho{f r:Int}{zs:List Int}{bl:Bool}(hl:zs.length<=64):(aL f r zs&&eJ f r zs bl)=(aO f r zs&&!decide (aG zs false<0)&&!decide (aG zs true<0)&&!chkL f r zs (!bl)):=by
 cases ho:aO f r zs with
 |false=>
  have:eJ f r zs bl=false:=by unfold eJ bK;rw[ho];simp
  rw[this];simp
 |true=>
  have hv:=(aK ho).2.2.1
  rw[hv]
  simp only[Bool.true_and]
  have key:∀ b,decide (aG zs b<0)=!decide ((bK f r zs b).2=0):=fun b=>by
   rcases gM (bl:=b) ho hl with⟨h1,h2⟩|⟨h1,h2,_⟩
   ·rw[h2];simp[h1]
   ·rw[h1];have:=(aS h2).1;simp;omega
  rw[key,key]
  unfold eJ
  have hch:∀ b,(bH f r zs b).2=0↔(bK f r zs b).2=0:=fun b=>by
   unfold bH
   by_cases h:(bK f r zs b).2=0
   ·simp[h]
   ·simp[h]
  cases hk1:decide ((bK f r zs bl).2=0) with
  |false=>cases bl<;>rw[hk1]<;>simp
  |true=>
   cases hk2:decide ((bK f r zs (!bl)).2=0) with
   |false=>
    have:decide ((bH f r zs (!bl)).2=0)=false:=by rw[decide_eq_false_iff_not,hch];exact of_decide_eq_false hk2
    rw[this]
    cases bl<;>simp only[Bool.not_true,Bool.not_false]at hk2 ⊢<;>rw[hk2]<;>simp
   |true=>
    have h1:decide ((bH f r zs (!bl)).2=0)=true:=by rw[decide_eq_true_eq,hch];exact of_decide_eq_true hk2
    rw[h1,NS ho hl (of_decide_eq_true hk2)]
    unfold chkB
    cases bl<;>simp only[Bool.not_true,Bool.not_false]at hk2 ⊢<;>rw[hk1,hk2]<;>simp
theorem He{zs:List Int}{p:Int->Bool}:zs.any p=true↔∃ i,i<zs.length/\p (zs.getD i 0)=true:=by
 have:=gN (zs:=zs) (p:=p) (k:=0)
 rw[List.drop_zero]at this
 rw[this];exact⟨fun⟨i,_,h⟩=>⟨i,h⟩,fun⟨i,h⟩=>⟨i,by omega,h⟩⟩
theorem Ic{zs:List Int}{p:Int->Bool}{k:Nat}:(zs.take k).any p=true↔∃ i,i<k/\i<zs.length/\p (zs.getD i 0)=true:=by
 rw[He]
 constructor
 ·rintro⟨i,h1,h2⟩
  rw[List.length_take]at h1
  exact⟨i,by omega,by omega,by simpa[List.getD,List.getElem?_take,show i<k by omega]using h2⟩
 ·rintro⟨i,h1,h2,h3⟩
  exact⟨i,by rw[List.length_take];omega,by simpa[List.getD,List.getElem?_take,h1]using h3⟩
theorem FK{f r:Int}{zs:List Int}(h:aO f r zs=true)(_hl:zs.length<=64):fC f zs=!oJ f r zs:=by
 obtain⟨hv,hn,hbd,hp⟩:=aK h
 have hb:=cY hv
 have hpw:∀ i:Nat,i<zs.length->(pwL f r zs i=true↔(zs.getD i 0=1/\zs.length-f.toNat<=i)\/(zs.getD i 0=-1/\i<f.toNat)):=by
  intro i hi
  have hvi:ak f r (i:Int)=true:=(iX hbd).2 ⟨by omega,by omega⟩
  obtain⟨hd,x0,x1,y0,y1,he,_⟩:=lE hvi
  have hpc:=dZ h (i:=(i:Int)) (by omega) (by omega)
  have hl0:kF r (decide ((1:Int)<0))=r-1:=aC (by omega) (by omega)
  have hl1:kF r (decide ((-1:Int)<0))=0:=rfl
  have hmul:f*r=(r-1)*f+f:=by rw[Int.sub_mul,Int.mul_comm r f];omega
  rw[Int.toNat_natCast]at hpc
  unfold pwL
  rw[hd,Int.toNat_natCast,fQ hpc]
  simp only[Bool.and_eq_true,decide_eq_true_eq]
  constructor
  ·rintro⟨h1,h2⟩
   have:zs.getD i 0=1\/zs.getD i 0=-1:=by omega
   rcases this with e|e
   ·left
    rw[e,hl0]at h2
    rw[h2]at he
    exact⟨e,by omega⟩
   ·right
    rw[e,hl1]at h2
    rw[h2]at he
    exact⟨e,by omega⟩
  ·rintro(⟨e,h2⟩|⟨e,h2⟩)
   ·rw[e,hl0]
    refine⟨by decide,?_⟩
    have h5:¬ py f i<r-1:=by
     intro h6
     have:(py f i+1)*f<=(r-1)*f:=Int.mul_le_mul_of_nonneg_right (by omega) (by omega)
     rw[Int.add_mul]at this
     omega
    omega
   ·rw[e,hl1]
    refine⟨by decide,?_⟩
    have h5:¬ 1<=py f i:=by
     intro h6
     have:1*f<=py f i*f:=Int.mul_le_mul_of_nonneg_right h6 (by omega)
     omega
    omega
 have hiff:oJ f r zs=true↔((zs.drop (zs.length-f.toNat)).any (isV 1)=true\/(zs.take f.toNat).any (isV (-1))=true):=by
  rw[gN,Ic]
  unfold oJ
  rw[List.any_eq_true]
  constructor
  ·rintro⟨i,hi,hp⟩
   have hi:=List.mem_range.1 hi
   rcases(hpw i hi).1 hp with⟨e,g⟩|⟨e,g⟩
   ·left;exact⟨i,g,hi,by rw[e];rfl⟩
   ·right;exact⟨i,g,hi,by rw[e];rfl⟩
  ·rintro(⟨i,g1,g2,g3⟩|⟨i,g1,g2,g3⟩)
   ·simp only[isV,decide_eq_true_eq]at g3
    exact⟨i,List.mem_range.2 g2,(hpw i g2).2 (.inl ⟨g3.symm,g1⟩)⟩
   ·simp only[isV,decide_eq_true_eq]at g3
    exact⟨i,List.mem_range.2 g2,(hpw i g2).2 (.inr ⟨g3.symm,g1⟩)⟩
 unfold fC
 cases h1:(zs.drop (zs.length-f.toNat)).any (isV 1)<;>cases h2:(zs.take f.toNat).any (isV (-1))<;>rw[h1,h2]at hiff<;>cases h3:oJ f r zs<;>rw[h3]at hiff<;>simp at hiff ⊢
theorem Ow{f r n k:Int}{zs:List Int}(hbd:aL f r zs=true)(hn:ak f r n=true)(_hk:k=1\/k=-1)(hb:ak f r (n+k*f)=true):px f (n+k*f)=px f n/\py f (n+k*f)=py f n+k:=by
 obtain⟨_,a1,a2,a3,a4,a5,a6⟩:=lE hn
 obtain⟨_,b1,b2,b3,b4,b5,_⟩:=lE hb
 have:=hbd
 refine wN (f:=f) (by omega) b1 b2 a1 a2 ?_
 rw[b5,Int.add_mul];omega
theorem Jj{f r:Int}{zs:List Int}{bl:Bool}{pa ha:Int}(hbd:aL f r zs=true):pasL f r zs bl pa ha=fo f r zs bl pa ha:=by
 unfold pasL fo
 cases h1:decide (pa=-1) with
 |true=>rfl
 |false=>
  rw[cond_false,Bool.false_or]
  by_cases h2:6<=r
  ·have e2:decide (r<6)=false:=by simp;omega
   rw[e2,decide_eq_true h2]
   cases h3:decide (ha=0) with
   |false=>simp
   |true=>
    cases h4:ak f r pa with
    |false=>simp
    |true=>
     have hv:=(bT hbd).1
     have hb:=cY hv
     obtain⟨hd,x0,x1,y0,y1,he,_⟩:=lE h4
     have hm:pa.tmod f=px f pa:=rfl
     have hr2:ej r (!bl) 2=(bif bl then 1 else r-2):=by
      unfold ej;cases bl
      ·exact aC (by omega) (by omega)
      ·rfl
     have hr4:ej r (!bl) 4=(bif bl then 3 else r-4):=by
      unfold ej;cases bl
      ·exact aC (by omega) (by omega)
      ·rfl
     have hk:decide (i64.wrap (2*i64.wrap (pa.tdiv f))=i64.wrap (ej r (!bl) 2+ej r (!bl) 4))=decide (i64.wrap (pa.tdiv f)=rkP r bl):=by
      rw[hd,hr2,hr4,decide_eq_decide]
      rw[aC (n:=2*py f pa) (by omega) (by omega)]
      unfold rkP
      cases bl
      ·simp only[cond_false]
       rw[aC (by omega) (by omega),aC (by omega) (by omega)];omega
      ·simp only[cond_true]
       rw[aC (by omega) (by omega)];omega
     rw[hk]
     cases h5:decide (i64.wrap (pa.tdiv f)=rkP r bl) with
     |false=>simp
     |true=>
      obtain⟨n1,n2,n3,n4,n5,n6,n7⟩:=jh (bl:=bl) hbd h2 h4 (of_decide_eq_true h5)
      have hlt:=(iX hbd).1 h4
      have hm1:ak f r (pa+-1*f)=true:=(iX hbd).2 ⟨by omega,by omega⟩
      have hp1:ak f r (pa+1*f)=true:=(iX hbd).2 ⟨by omega,by omega⟩
      have hy:py f pa=(bif bl then 2 else r-3):=by
       have:=of_decide_eq_true h5
       rw[hd]at this
       rw[this];unfold rkP;cases bl
       ·exact aC (by omega) (by omega)
       ·rfl
      have hnum:∀ {k R:Int},(k=1\/k=-1)->R=py f pa+k->ak f r (pa+k*f)=true->numR f r (pa.tmod f) R=pa+k*f:=by
       intro k R hk hR hvk
       obtain⟨p1,p2⟩:=Ow hbd h4 hk hvk
       have ho:onB f r (pa.tmod f) R=true:=by
        obtain⟨_,_,_,q3,q4,_⟩:=lE hvk
        rw[p2,<-hR]at q3 q4
        exact iH (by rw[hm];exact x0) (by rw[hm];exact x1) q3 q4
       exact(gH hv ho hvk).2 ⟨by rw[p1,hm],by rw[p2,hR]⟩
      have hpc:pc 1 (!bl)=ofP 1 (!bl):=rfl
      rw[hr2,hr4,hpc]
      cases bl
      ·simp only[cond_false]at hy ⊢
       have q1:=hnum (k:=1) (R:=r-2) (.inl rfl) (by omega) hp1
       have q2:=hnum (k:=-1) (R:=r-4) (.inr rfl) (by omega) hm1
       simp only[q1,q2,upP,cond_false,n5,n6,n7]
       have z1:pa+1*f=pa+f:=by omega
       have z2:pa+-1*f=pa-f:=by omega
       simp only[z1,z2]
       simp[Bool.and_assoc]
      ·simp only[cond_true]at hy ⊢
       have q1:=hnum (k:=-1) (R:=1) (.inr rfl) (by omega) hm1
       have q2:=hnum (k:=1) (R:=3) (.inl rfl) (by omega) hp1
       simp only[q1,q2,upP,cond_true,n3,n4]
       have z1:pa+1*f=pa+f:=by omega
       have z2:pa+-1*f=pa-f:=by omega
       simp only[z1,z2]
       simp[Bool.and_assoc]
  ·have e2:decide (r<6)=true:=by simp;omega
   rw[e2,decide_eq_false h2];simp
theorem Co{p:Psn}(hl:p.zs.length<=64)(hca:0<=p.ca):fA p=p.ok:=by
 have hk:=Ho (f:=p.f) (r:=p.r) (bl:=p.bl) hl
 unfold fA Psn.ok
 cases ho:aO p.f p.r p.zs with
 |false=>
  rw[ho]at hk
  rw[hk];simp
 |true=>
  rw[ho]at hk
  rw[hk,FK ho hl,cast_eq hca,Jj (aK ho).2.2.1]
  cases decide (aG p.zs false<0)<;>cases decide (aG p.zs true<0)<;>cases chkL p.f p.r p.zs (!p.bl)<;>cases oJ p.f p.r p.zs<;>simp[cntB,Bool.and_assoc]
section
variable{kCa kDb:Bool}
def jQ:Psn->List Int×Int->Int->Option (Int ⊕ Int ⊕ List Int×Nat):=fun(p:Psn) (y3:List Int×Int) (s15:Int)=>let x23:=decide (0<=s15);let x24:=decide (s15<Int.ofNat p.zs.length);bif x24 then aQ (x23&&x24) (bif decide (p.zs.getD s15.toNat 0=1)||decide (p.zs.getD s15.toNat 0=-1)then escO (escO (bif x23 then aQ (decide (2<=Int.ofNat y3.1.length)) (some (y3.1,2))else some (y3.1,y3.1.length)))else some (Sum.inl (i64.wrap (s15+1))))else some (Sum.inr (Sum.inl s15))
def yalW(p:Psn):Option (List Int×Nat):=bn (yall (Siz.mk p.f p.r)) ([],0) fun(y3:List Int×Int)=>bif !decide (p.ca=0)then aQ (decide (1<=Int.ofNat y3.1.length)) (some (y3.1,1))else bV (jQ p y3) (fun(_:Int)=>some (y3.1,y3.1.length)) 1000000 0
def CT(R:List Int×Nat):V:=.sl 1 0 R.2 none
def DI(R:List Int×Nat):List O:=[.ints true .u8 R.1]
def tZ:CF
 |[.agg [.int .i64 p_0,.int .i64 p_1,.sl 0 0 p_2n none,.bool p_3,.int .u8 p_4,.int .i64 p_5,.int .i64 p_6,.int .i64 p_7]],[.ints false .i8 p_2]=>retC (decide (p_2n=p_2.length)) (yalW ⟨p_0,p_1,p_2,p_3,p_4,p_5,p_6,p_7⟩) ([],0) CT DI
 |_,_=>none
theorem Gw(p:Psn){r}(hr:yalW p=some r):ay (GGx kCa kDb) PP 65 [.agg [.int .i64 p.f,.int .i64 p.r,.sl 0 0 p.zs.length none,Bb p.bl,.int .u8 p.ca,.int .i64 p.pa,.int .i64 p.ha,.int .i64 p.fu]] [.ints false .i8 p.zs] (CT r) (DI r):=by
 have hE:=cutE (aD (kCa:=kCa) (kDb:=kDb) (cts:=[(28,yH)]) (inl:=[(119,Tryz.f119),(149,Tryz.f149),(120,Tryz.f120)]) ⟨sU,trivial⟩ ⟨⟨Tryz.func119,by kernel_rfl⟩,⟨Tryz.func149,by kernel_rfl⟩,⟨Tryz.func120,by kernel_rfl⟩,trivial⟩)
 refine cg hE 2 Tryz.func65 rfl rfl CT DI hr ?_ rfl rfl
 unfold yalW
 refine aE (pl rfl id) ?_
 refine aR hE 2 rfl ?_ ?_
 ·refine fV (pl rfl id) ?_
  exact aN (aJ [2] (.inr rfl) rfl rfl rfl rfl rfl)
 refine cI hE 2 (fun(s15:Int)=>([(0,V.sl 0 0 p.zs.length none),(1,V.fn 120 []),(6,V.sl 0 0 p.zs.length none),(7,I (Int.ofNat p.zs.length)),(8,I s15)],[O.ints false i8 p.zs,O.cells true [I p.f,I p.r,V.sl 0 0 p.zs.length none,Bb p.bl,V.int u8 p.ca,I p.pa,I p.ha,I p.fu],O.ints true u8 ((yall (Siz.mk p.f p.r)).getD ([],0)).fst])) (fun(s21:Int)=>([(0,V.sl 0 0 p.zs.length none),(1,V.fn 120 []),(6,V.sl 0 0 p.zs.length none),(7,I (Int.ofNat p.zs.length)),(8,I s21)],[O.ints false i8 p.zs,O.cells true [I p.f,I p.r,V.sl 0 0 p.zs.length none,Bb p.bl,V.int u8 p.ca,I p.pa,I p.ha,I p.fu],O.ints true u8 ((yall (Siz.mk p.f p.r)).getD ([],0)).fst])) (.exit 0) ((Ent.rn [0,1,2] [0,1,6,7,8] rfl rfl rfl rfl rfl)) (fun s15=>?_) (fun s21=>?_)
 ·refine aR hE 2 rfl ?_ ?_
  ·refine aI ?_
   refine ah (Bool.not_or_self _) ?_
   refine ah (Bool.or_not_self _) ?_
   refine aR hE 2 rfl ?_ ?_
   ·refine sQ (by simp) (od ?_)
    refine aR hE 2 rfl ?_ ?_
    ·refine fV (pl rfl id) ?_
     exact aN (aJ [2] (.inr rfl) rfl rfl rfl rfl rfl)
    exact aN (aJ [2] (.inr rfl) rfl rfl rfl rfl rfl)
   exact cr ((Ent.rn [0,1,2] [0,1,6,7,8] rfl rfl rfl rfl rfl))
  exact cH ((Ent.rn [0,1,2] [0,1,6,7,8] rfl rfl rfl rfl rfl))
 refine NN hE 2 rfl rfl ?_
 exact aN (aJ [2] (.inr rfl) rfl rfl rfl rfl rfl)
theorem nH:CtOk (GGx kCa kDb) PP (65,tZ):=by
 refine aF Tryz.func65 (by kernel_rfl) rfl fun a0 h0 c0 v0 N0 e hc=>?_
 unfold tZ at e
 split at e
 ·rename_i p_0 p_1 p_2n p_3 p_4 p_5 p_6 p_7 p_2
  obtain⟨hl,r,hr,rfl,rfl⟩:=bu e hc
  simp only[decide_eq_true_eq]at hl
  obtain rfl:=hl
  exact Gw ⟨p_0,p_1,p_2,p_3,p_4,p_5,p_6,p_7⟩ hr
 ·cases e
def NH(p:Psn):Option ((List Int×Nat)×Int):=let x6:=List.take p.zs.length (List.drop 0 p.zs);let x4:=Psn.mk p.f p.r x6 p.bl p.ca p.pa p.ha p.fu;let x5:=x6.length;aQ (decide (x5<=64)) (bif !x4.ok then some (([],0),2)else bn (yalW x4) ([],0) fun(y3:List Int×Nat)=>some (y3,0))
def vw(R:(List Int×Nat)×Int):V:=.tup [.sl 1 0 R.1.2 none,.int .i64 R.2]
def uU(R:(List Int×Nat)×Int):List O:=[.ints true .u8 R.1.1]
def vU:CF
 |[.agg [.int .i64 p_0,.int .i64 p_1,.sl 0 0 p_2n none,.bool p_3,.int .u8 p_4,.int .i64 p_5,.int .i64 p_6,.int .i64 p_7]],[.ints false .i8 p_2]=>retC (decide (p_2n=p_2.length)) (NH ⟨p_0,p_1,p_2,p_3,p_4,p_5,p_6,p_7⟩) (([],0),0) vw uU
 |_,_=>none
theorem Er(p:Psn){r}(hr:NH p=some r):ay (GGx kCa kDb) PP 18 [.agg [.int .i64 p.f,.int .i64 p.r,.sl 0 0 p.zs.length none,Bb p.bl,.int .u8 p.ca,.int .i64 p.pa,.int .i64 p.ha,.int .i64 p.fu]] [.ints false .i8 p.zs] (vw r) (uU r):=by
 have hE:=cutE (aD (kCa:=kCa) (kDb:=kDb) (cts:=[(37,dH),(65,tZ)]) (inl:=[]) ⟨cP,nH,trivial⟩ trivial)
 refine cg hE 2 Tryz.func18 rfl rfl vw uU hr ?_ rfl rfl
 refine fV (pl (decide_eq_true (az rfl)) id) ?_
 refine aR hE 2 rfl ?_ ?_
 ·exact aN (BZ 2 (.ints true .u8 []) rfl rfl rfl<|aJ [2] (.inr rfl) rfl rfl rfl rfl rfl)
 refine aE (pl (decide_eq_true (az rfl)) id) ?_
 exact aN (aJ [2] (.inr rfl) rfl rfl rfl rfl rfl)
theorem An:CtOk (GGx kCa kDb) PP (18,vU):=by
 refine aF Tryz.func18 (by kernel_rfl) rfl fun a0 h0 c0 v0 N0 e hc=>?_
 unfold vU at e
 split at e
 ·rename_i p_0 p_1 p_2n p_3 p_4 p_5 p_6 p_7 p_2
  obtain⟨hl,r,hr,rfl,rfl⟩:=bu e hc
  simp only[decide_eq_true_eq]at hl
  obtain rfl:=hl
  exact Er ⟨p_0,p_1,p_2,p_3,p_4,p_5,p_6,p_7⟩ hr
 ·cases e
end
end Go.Ab
namespace Go.Ab
open Go.Proofs
section
variable{kCa kDb:Bool}
def mZ:CF
 |[.agg [.int .i64 f,.int .i64 r,.sl 0 0 len none,.bool bl,.int .u8 ca,.int .i64 pa,.int .i64 ha,.int .i64 fu]],[.ints false .i8 zs]=>some (decide (len=zs.length)&&decide (zs.length<=1000000),.bool (Psn.ok ⟨f,r,zs,bl,ca,pa,ha,fu⟩),[])
 |_,_=>none
theorem sC:CtOk (GGx kCa kDb) PP (37,mZ):=by
 refine aF Tryz.func37 (by kernel_rfl) rfl fun a0 h0 c0 v0 N0 e hc=>?_
 unfold mZ at e
 split at e
 ·rename_i f r len bl ca pa ha fu zs
  cases e
  have hE:=aD (kCa:=kCa) (kDb:=kDb) (cts:=[(83,fU),(85,mu),(87,lP),(89,gZ),(91,rV)]) (inl:=[(82,Tryz.f82),(84,Tryz.f84),(86,Tryz.f86),(88,Tryz.f88),(90,Tryz.f90),(92,Tryz.f92)]) ⟨eK,ng,nv,js,pO,trivial⟩ ⟨⟨Tryz.func82,by kernel_rfl⟩,⟨Tryz.func84,by kernel_rfl⟩,⟨Tryz.func86,by kernel_rfl⟩,⟨Tryz.func88,by kernel_rfl⟩,⟨Tryz.func90,by kernel_rfl⟩,⟨Tryz.func92,by kernel_rfl⟩,trivial⟩
  refine av hE 3 Tryz.func37 rfl rfl ?_
  simp only[Bool.and_eq_true,decide_eq_true_eq]at hc
  obtain⟨rfl,hc2⟩:=hc
  repeat (first|refine ai ?_|refine sat_nd ?_)
  refine bW hE 3 7 ?_
  refine rnd ?_
  refine cL (by rfl) ?_
  repeat (first|(first|refine ai ?_|refine sat_nd ?_)|refine ag (ck hc2 rfl) ?_)
  refine aq (fun h0=>?_) (fun h0=>?_)
  ·have h0:(!aL f r (tk zs))=true:=h0
   rw[aX,Bool.not_eq_true']at h0
   exact af (af (aj (.inr rfl) rfl rfl rfl (by simp[Psn.ok,h0])))
  have h0:(!aL f r (tk zs))=false:=h0
  have h0t:aL f r (tk zs)=true:=by simpa using h0
  rw[aX,Bool.not_eq_false']at h0
  have hc3:zs.length<=64:=by
   obtain⟨hv,hl⟩:=bT h0
   obtain⟨m1,m2⟩:=cV hv
   omega
  refine af ⟨[(1,.ptr 1 0 0),(13,.sl 2 0 6 none),(14,I 6),(15,I 1)],[.ints false .i8 zs,.cells true [I f,I r,.sl 0 0 zs.length none,Bb bl,.int .u8 ca,I pa,I ha,I fu],.vals true 1 [[.fn 82 [.ptr 1 0 0]],[.fn 84 [.ptr 1 0 0]],[.fn 86 [.ptr 1 0 0]],[.fn 88 [.ptr 1 0 0]],[.fn 90 [.ptr 1 0 0]],[.fn 92 [.ptr 1 0 0]]]],Ent.ren [0,1,2] [1,13,14,15] rfl rfl rfl,?_⟩
  refine rnd ?_
  refine cL (by rfl) ?_
  repeat (first|(first|refine ai ?_|refine sat_nd ?_)|refine ag (ck hc3 rfl) ?_|refine ag (cx hc3 rfl h0t) ?_)
  refine aq (fun h1=>?_) (fun h1=>?_)
  ·have h1:(!eJ f r (tk zs) bl)=true:=h1
   rw[aX,Bool.not_eq_true']at h1
   exact af (af (aj (.inr rfl) rfl rfl rfl (by simp[Psn.ok,h0,h1])))
  have h1:(!eJ f r (tk zs) bl)=false:=h1
  rw[aX,Bool.not_eq_false']at h1
  refine af ⟨[(1,.ptr 1 0 0),(13,.sl 2 0 6 none),(14,I 6),(15,I 2)],[.ints false .i8 zs,.cells true [I f,I r,.sl 0 0 zs.length none,Bb bl,.int .u8 ca,I pa,I ha,I fu],.vals true 1 [[.fn 82 [.ptr 1 0 0]],[.fn 84 [.ptr 1 0 0]],[.fn 86 [.ptr 1 0 0]],[.fn 88 [.ptr 1 0 0]],[.fn 90 [.ptr 1 0 0]],[.fn 92 [.ptr 1 0 0]]]],Ent.ren [0,1,2] [1,13,14,15] rfl rfl rfl,?_⟩
  refine rnd ?_
  refine cL (by rfl) ?_
  repeat (first|(first|refine ai ?_|refine sat_nd ?_)|refine ag (ck hc3 rfl) ?_|refine ag (cx hc3 rfl h0t) ?_)
  refine aq (fun h2=>?_) (fun h2=>?_)
  ·have h2:(!fC f (tk zs))=true:=h2
   rw[aX,Bool.not_eq_true']at h2
   exact af (af (aj (.inr rfl) rfl rfl rfl (by simp[Psn.ok,h0,h1,h2])))
  have h2:(!fC f (tk zs))=false:=h2
  rw[aX,Bool.not_eq_false']at h2
  refine af ⟨[(1,.ptr 1 0 0),(13,.sl 2 0 6 none),(14,I 6),(15,I 3)],[.ints false .i8 zs,.cells true [I f,I r,.sl 0 0 zs.length none,Bb bl,.int .u8 ca,I pa,I ha,I fu],.vals true 1 [[.fn 82 [.ptr 1 0 0]],[.fn 84 [.ptr 1 0 0]],[.fn 86 [.ptr 1 0 0]],[.fn 88 [.ptr 1 0 0]],[.fn 90 [.ptr 1 0 0]],[.fn 92 [.ptr 1 0 0]]]],Ent.ren [0,1,2] [1,13,14,15] rfl rfl rfl,?_⟩
  refine rnd ?_
  refine cL (by rfl) ?_
  repeat (first|(first|refine ai ?_|refine sat_nd ?_)|refine ag (ck hc3 rfl) ?_|refine ag (cx hc3 rfl h0t) ?_)
  refine aq (fun h3=>?_) (fun h3=>?_)
  ·have h3:(!gw f r (tk zs) ca)=true:=h3
   rw[aX,Bool.not_eq_true']at h3
   exact af (af (aj (.inr rfl) rfl rfl rfl (by simp[Psn.ok,h0,h1,h2,h3])))
  have h3:(!gw f r (tk zs) ca)=false:=h3
  rw[aX,Bool.not_eq_false']at h3
  refine af ⟨[(1,.ptr 1 0 0),(13,.sl 2 0 6 none),(14,I 6),(15,I 4)],[.ints false .i8 zs,.cells true [I f,I r,.sl 0 0 zs.length none,Bb bl,.int .u8 ca,I pa,I ha,I fu],.vals true 1 [[.fn 82 [.ptr 1 0 0]],[.fn 84 [.ptr 1 0 0]],[.fn 86 [.ptr 1 0 0]],[.fn 88 [.ptr 1 0 0]],[.fn 90 [.ptr 1 0 0]],[.fn 92 [.ptr 1 0 0]]]],Ent.ren [0,1,2] [1,13,14,15] rfl rfl rfl,?_⟩
  refine rnd ?_
  refine cL (by rfl) ?_
  repeat (first|(first|refine ai ?_|refine sat_nd ?_)|refine ag (ck hc3 rfl) ?_|refine ag (cx hc3 rfl h0t) ?_)
  refine aq (fun h4=>?_) (fun h4=>?_)
  ·have h4:(!fo f r (tk zs) bl pa ha)=true:=h4
   rw[aX,Bool.not_eq_true']at h4
   exact af (af (aj (.inr rfl) rfl rfl rfl (by simp[Psn.ok,h0,h1,h2,h3,h4])))
  have h4:(!fo f r (tk zs) bl pa ha)=false:=h4
  rw[aX,Bool.not_eq_false']at h4
  refine af ⟨[(1,.ptr 1 0 0),(13,.sl 2 0 6 none),(14,I 6),(15,I 5)],[.ints false .i8 zs,.cells true [I f,I r,.sl 0 0 zs.length none,Bb bl,.int .u8 ca,I pa,I ha,I fu],.vals true 1 [[.fn 82 [.ptr 1 0 0]],[.fn 84 [.ptr 1 0 0]],[.fn 86 [.ptr 1 0 0]],[.fn 88 [.ptr 1 0 0]],[.fn 90 [.ptr 1 0 0]],[.fn 92 [.ptr 1 0 0]]]],Ent.ren [0,1,2] [1,13,14,15] rfl rfl rfl,?_⟩
  refine rnd ?_
  refine cL (by rfl) ?_
  repeat (first|(first|refine ai ?_|refine sat_nd ?_)|refine ag (ck hc3 rfl) ?_|refine ag (cx hc3 rfl h0t) ?_)
  refine aq (fun h5=>?_) (fun h5=>?_)
  ·have h5:(!cntB ha fu)=true:=h5
   rw[Bool.not_eq_true']at h5
   exact af (af (aj (.inr rfl) rfl rfl rfl (by simp[Psn.ok,h0,h1,h2,h3,h4,h5])))
  have h5:(!cntB ha fu)=false:=h5
  rw[Bool.not_eq_false']at h5
  refine af ⟨[(1,.ptr 1 0 0),(13,.sl 2 0 6 none),(14,I 6),(15,I 6)],[.ints false .i8 zs,.cells true [I f,I r,.sl 0 0 zs.length none,Bb bl,.int .u8 ca,I pa,I ha,I fu],.vals true 1 [[.fn 82 [.ptr 1 0 0]],[.fn 84 [.ptr 1 0 0]],[.fn 86 [.ptr 1 0 0]],[.fn 88 [.ptr 1 0 0]],[.fn 90 [.ptr 1 0 0]],[.fn 92 [.ptr 1 0 0]]]],Ent.ren [0,1,2] [1,13,14,15] rfl rfl rfl,?_⟩
  refine rnd ?_
  refine xl (by rfl) ?_
  refine af (af (aj (.inr rfl) rfl rfl rfl (by simp[Psn.ok,h0,h1,h2,h3,h4,h5])))
 ·cases e
end
section
variable{kCa kDb:Bool}
end
end Go.Ab
namespace Go.Ab
open IntKind
open Go.Proofs
section
variable{kCa kDb:Bool}
theorem HZ{zs:List Int}(h:zs.length<=70){n:Nat}(hn:n=zs.length):(decide (n=(tk zs).length)&&decide ((tk zs).length<=70))=true:=by rw[eD,hn];simp;omega
theorem xu{zs ws:List Int}{g:Bool}(h1:zs.length<=70)(h2:ws.length<=70):(!g||(decide (zs.length=(tk zs).length)&&decide ((tk zs).length<=70)&&decide (ws.length=(tk ws).length)&&decide ((tk ws).length<=70)))=true:=by
 rw[eD,eD];simp[h1,h2]
theorem tM{zs ws:List Int}(h1:zs.length<=70)(h2:ws.length<=70):(decide (zs.length=(tk zs).length)&&decide ((tk zs).length<=70)&&decide (ws.length=(tk ws).length)&&decide ((tk ws).length<=70))=true:=by
 rw[eD,eD];simp[h1,h2]
def jU:CF
 |[.agg [.int .i64 f,.int .i64 r,.sl 0 0 len none]],[.ints false .i8 zs]=>some (decide (len=zs.length)&&decide (zs.length<=70),.bool (aL f r zs),[])
 |_,_=>none
theorem qa:CtOk (GGx kCa kDb) PP (107,jU):=by
 refine aF Tryz.func107 (by kernel_rfl) rfl fun a0 h0 c0 v0 N0 e hc=>?_
 unfold jU at e
 split at e
 ·rename_i f r len zs
  cases e
  have hE:=aD (kCa:=kCa) (kDb:=kDb) (cts:=[(33,tH),(143,qs)]) (inl:=[]) ⟨nR,pP,trivial⟩ trivial
  refine av hE 2 Tryz.func107 rfl rfl ?_
  simp only[Bool.and_eq_true,decide_eq_true_eq]at hc
  obtain⟨rfl,hc2⟩:=hc
  repeat (first|refine ai ?_|refine sat_nd ?_)
  refine aq (fun h=>?_) (fun h=>?_)
  ·have h:(vsB f r&&decide ((zs.length:Int)=i64.wrap (f*r)))=false:=by
    have h:(!vsB f r||!decide ((zs.length:Int)=i64.wrap (f*r)))=true:=h
    cases h1:vsB f r<;>cases h2:decide ((zs.length:Int)=i64.wrap (f*r))<;>simp_all
   exact af (aj (.inr rfl) rfl rfl rfl (by rw[<-gV,h];rfl))
  have h:(vsB f r&&decide ((zs.length:Int)=i64.wrap (f*r)))=true:=by
   have h:(!vsB f r||!decide ((zs.length:Int)=i64.wrap (f*r)))=false:=h
   cases h1:vsB f r<;>cases h2:decide ((zs.length:Int)=i64.wrap (f*r))<;>simp_all
  refine bX hE 2 (fun i (_:Unit)=>([(1,.ptr 1 0 0),(3,I i)],[.ints false .i8 zs,.cells true [I f,I r,.sl 0 0 zs.length none]])) zs.length (fun j _=>(zs.drop j).all okP=zs.all okP) () (by omega) (Ent.ren [0,1] [1,3] rfl rfl rfl) rfl ?_
  intro j i _ hij hj hz
  refine aq (fun hlt=>?_) (fun hlt=>?_)
  ·have hlt':j<zs.length:=by simp at hlt;omega
   rw[mA hlt',show j=i.toNat by omega]at hz
   refine ag (by simp;omega) ?_
   repeat (first|(first|refine ai ?_|refine sat_nd ?_)|refine ag (by simp;omega) ?_)
   refine aq (fun hon=>?_) (fun hon=>?_)
   ·have hon:(!okP (zs.getD i.toNat 0))=true:=hon
    have hon:okP (zs.getD i.toNat 0)=false:=by simpa using hon
    rw[hon]at hz
    exact af (af (aj (.inr rfl) rfl rfl rfl (by rw[<-gV,h,<-hz];rfl)))
   ·have hon:(!okP (zs.getD i.toNat 0))=false:=hon
    have hon:okP (zs.getD i.toNat 0)=true:=by simpa using hon
    rw[hon]at hz
    exact af ⟨hlt',(),by rw[<-hz,show i.toNat=j by omega];rfl,Ent.ren [0,1] [1,3] rfl rfl rfl⟩
  ·obtain rfl:j=zs.length:=by simp at hlt;omega
   rw[List.drop_length]at hz
   have hz:zs.all okP=true:=hz.symm
   exact af (af (aj (.inr rfl) rfl rfl rfl (by rw[<-gV,h,hz];rfl)))
 ·cases e
def qe:CF
 |[.agg [.int .i64 f,.int .i64 r,.sl 0 0 len none]],[.ints false .i8 zs]=>some (decide (len=zs.length)&&decide (zs.length<=70),.bool (aO f r zs),[])
 |_,_=>none
theorem wA:CtOk (GGx kCa kDb) PP (54,qe):=by
 refine aF Tryz.func54 (by kernel_rfl) rfl fun a0 h0 c0 v0 N0 e hc=>?_
 unfold qe at e
 split at e
 ·rename_i f r len zs
  cases e
  have hE:=aD (kCa:=kCa) (kDb:=kDb) (cts:=[(107,jU),(108,mj)]) (inl:=[]) ⟨qa,nW,trivial⟩ trivial
  refine av hE 2 Tryz.func54 rfl rfl ?_
  simp only[Bool.and_eq_true,decide_eq_true_eq]at hc
  obtain⟨rfl,hc2⟩:=hc
  repeat (first|refine ai ?_|refine sat_nd ?_)
  refine aq (fun h=>?_) (fun h=>?_)
  ·have h:aL f r zs=false:=by simpa using h
   exact af (aj (.inr rfl) rfl rfl rfl (by rw[<-ki,h];rfl))
  have h:aL f r zs=true:=by simpa using h
  refine bX hE 2 (fun i (_:Unit)=>([(1,.ptr 1 0 0),(3,I i)],[.ints false .i8 zs,.cells true [I f,I r,.sl 0 0 zs.length none]])) zs.length (fun j _=>(zs.drop j).all nnP=zs.all nnP) () (by omega) (Ent.ren [0,1] [1,3] rfl rfl rfl) rfl ?_
  intro j i _ hij hj hz
  refine aq (fun hlt=>?_) (fun hlt=>?_)
  ·have hlt':j<zs.length:=by simp at hlt;omega
   rw[mA hlt',show j=i.toNat by omega]at hz
   refine ag (by simp;omega) ?_
   repeat (first|(first|refine ai ?_|refine sat_nd ?_)|refine ag (by simp;omega) ?_)
   refine aq (fun hon=>?_) (fun hon=>?_)
   ·have hon:(!nnP (zs.getD i.toNat 0))=true:=(Bool.not_not _).trans hon
    have hon:nnP (zs.getD i.toNat 0)=false:=by simpa using hon
    rw[hon]at hz
    exact af (af (aj (.inr rfl) rfl rfl rfl (by rw[<-ki,h,show zs.all (fun p=>!norP p)=zs.all nnP from rfl,<-hz];rfl)))
   ·have hon:(!nnP (zs.getD i.toNat 0))=false:=(Bool.not_not _).trans hon
    have hon:nnP (zs.getD i.toNat 0)=true:=by simpa using hon
    rw[hon]at hz
    exact af ⟨hlt',(),by rw[<-hz,show i.toNat=j by omega];rfl,Ent.ren [0,1] [1,3] rfl rfl rfl⟩
  ·obtain rfl:j=zs.length:=by simp at hlt;omega
   rw[List.drop_length]at hz
   have hz:zs.all nnP=true:=hz.symm
   exact af (af (aj (.inr rfl) rfl rfl rfl (by rw[<-ki,h,show zs.all (fun p=>!norP p)=zs.all nnP from rfl,hz];rfl)))
 ·cases e
def qd:CF
 |[.agg [.int .i64 f,.int .i64 r,.sl 0 0 len none],.agg [.int .i64 f2,.int .i64 r2,.sl 1 0 len2 none]],[.ints false .i8 zs,.ints false .i8 ws]=>some (decide (len=zs.length)&&decide (zs.length<=70)&&decide (len2=ws.length)&&decide (ws.length<=70),.bool (zw f r zs f2 r2 ws),[])
 |_,_=>none
theorem wJ:CtOk (GGx kCa kDb) PP (116,qd):=by
 refine aF Tryz.func116 (by kernel_rfl) rfl fun a0 h0 c0 v0 N0 e hc=>?_
 unfold qd at e
 split at e
 ·rename_i f r len f2 r2 len2 zs ws
  cases e
  have hE:=aD (kCa:=kCa) (kDb:=kDb) (cts:=[]) (inl:=[]) trivial trivial
  refine av hE 2 Tryz.func116 rfl rfl ?_
  simp only[Bool.and_eq_true,decide_eq_true_eq]at hc
  obtain⟨⟨⟨rfl,hz64⟩,rfl⟩,hw64⟩:=hc
  repeat (first|refine ai ?_|refine sat_nd ?_)
  refine aq (fun h=>?_) (fun h=>?_)
  ·have h:(!(decide (f=f2)&&decide (r=r2))||!decide ((zs.length:Int)=ws.length))=true:=h
   exact af (aj (.inr rfl) rfl rfl rfl (congrArg V.bool (by
    rw[Bool.or_eq_true]at h
    rcases h with h|h
    ·rw[Bool.not_eq_true']at h;rw[zw,h];rfl
    ·have hne:¬ zs=ws:=by intro h2;subst h2;simp at h
     simp[zw,hne])))
  have h:(!(decide (f=f2)&&decide (r=r2))||!decide ((zs.length:Int)=ws.length))=false:=h
  simp only[Bool.or_eq_false_iff,Bool.not_eq_false',decide_eq_true_eq]at h
  obtain⟨hfr,hl⟩:=h
  have hl:zs.length=ws.length:=by omega
  refine bX hE 2 (fun i (_:Unit)=>([(2,.ptr 2 0 0),(3,.ptr 3 0 0),(5,I i)],[.ints false .i8 zs,.ints false .i8 ws,.cells true [I f,I r,.sl 0 0 zs.length none],.cells true [I f2,I r2,.sl 1 0 ws.length none]])) zs.length (fun j _=>decide (zs.drop j=ws.drop j)=decide (zs=ws)) () (by omega) (Ent.ren [0,1,2,3] [2,3,5] rfl rfl rfl) rfl ?_
  intro j i _ hij hj hz
  refine aq (fun hlt=>?_) (fun hlt=>?_)
  ·have hlt':j<zs.length:=by simp at hlt;omega
   rw[Oo hlt' (by omega),show j=i.toNat by omega]at hz
   repeat (first|(first|refine ai ?_|refine sat_nd ?_)|refine ag (by simp only[Bool.and_eq_true,decide_eq_true_eq];omega) ?_)
   refine aq (fun hon=>?_) (fun hon=>?_)
   ·have hon:(!decide (zs.getD i.toNat 0=ws.getD i.toNat 0))=true:=hon
    rw[Bool.not_eq_true']at hon
    rw[hon,Bool.false_and]at hz
    exact af (af (aj (.inr rfl) rfl rfl rfl (by rw[zw,<-hz];simp)))
   ·have hon:(!decide (zs.getD i.toNat 0=ws.getD i.toNat 0))=false:=hon
    rw[Bool.not_eq_false']at hon
    rw[hon,Bool.true_and]at hz
    exact af ⟨hlt',(),by rw[<-hz,show i.toNat=j by omega],Ent.ren [0,1,2,3] [2,3,5] rfl rfl rfl⟩
  ·obtain rfl:j=zs.length:=by simp at hlt;omega
   rw[List.drop_length,hl,List.drop_length]at hz
   exact af (af (aj (.inr rfl) rfl rfl rfl (by rw[zw,hfr,<-hz];simp)))
 ·cases e
def pY:CF
 |[.agg [.int .i64 f,.int .i64 r,.sl 0 0 len none,.bool bl,.int .u8 ca,.int .i64 pa,.int .i64 ha,.int .i64 fu],.agg [.int .i64 f2,.int .i64 r2,.sl 1 0 len2 none,.bool bl2,.int .u8 ca2,.int .i64 pa2,.int .i64 ha2,.int .i64 fu2]],[.ints false .i8 zs,.ints false .i8 ws]=>some (decide (len=zs.length)&&decide (zs.length<=70)&&decide (len2=ws.length)&&decide (ws.length<=70),.bool (FB ⟨f,r,zs,bl,ca,pa,ha,fu⟩ ⟨f2,r2,ws,bl2,ca2,pa2,ha2,fu2⟩),[])
 |_,_=>none
theorem uA:CtOk (GGx kCa kDb) PP (62,pY):=by
 refine aF Tryz.func62 (by kernel_rfl) rfl fun a0 h0 c0 v0 N0 e hc=>?_
 unfold pY at e
 split at e
 ·rename_i f r len bl ca pa ha fu f2 r2 len2 bl2 ca2 pa2 ha2 fu2 zs ws
  cases e
  have hE:=aD (kCa:=kCa) (kDb:=kDb) (cts:=[(53,za),(116,qd)]) (inl:=[]) ⟨mE,wJ,trivial⟩ trivial
  refine av hE 2 Tryz.func62 rfl rfl ?_
  simp only[Bool.and_eq_true,decide_eq_true_eq]at hc
  obtain⟨⟨⟨rfl,hz64⟩,rfl⟩,hw64⟩:=hc
  repeat (first|(first|refine ai ?_|refine sat_nd ?_)|refine ag (xu hz64 hw64) ?_|refine ag (tM hz64 hw64) ?_)
  exact af (aj (.inr rfl) rfl rfl rfl (congrArg V.bool (by
   show (zw f r (tk zs) f2 r2 (tk ws)&&(bl==bl2)&&decide (ca=ca2)&&decide (pa=pa2))=_
   rw[aX,aX];rfl)))
 ·cases e
def mT:CF
 |[.agg [.int .i64 f,.int .i64 r,.sl 0 0 len none,.bool bl,.int .u8 ca,.int .i64 pa,.int .i64 ha,.int .i64 fu],.agg [.int .i64 f2,.int .i64 r2,.sl 1 0 len2 none,.bool bl2,.int .u8 ca2,.int .i64 pa2,.int .i64 ha2,.int .i64 fu2]],[.ints false .i8 zs,.ints false .i8 ws]=>some (decide (len=zs.length)&&decide (zs.length<=70)&&decide (len2=ws.length)&&decide (ws.length<=70),.bool (pL ⟨f,r,zs,bl,ca,pa,ha,fu⟩ ⟨f2,r2,ws,bl2,ca2,pa2,ha2,fu2⟩),[])
 |_,_=>none
theorem kV:CtOk (GGx kCa kDb) PP (16,mT):=by
 refine aF Tryz.func16 (by kernel_rfl) rfl fun a0 h0 c0 v0 N0 e hc=>?_
 unfold mT at e
 split at e
 ·rename_i f r len bl ca pa ha fu f2 r2 len2 bl2 ca2 pa2 ha2 fu2 zs ws
  cases e
  have hE:=aD (kCa:=kCa) (kDb:=kDb) (cts:=[(62,pY)]) (inl:=[]) ⟨uA,trivial⟩ trivial
  refine av hE 2 Tryz.func16 rfl rfl ?_
  simp only[Bool.and_eq_true,decide_eq_true_eq]at hc
  obtain⟨⟨⟨rfl,hz64⟩,rfl⟩,hw64⟩:=hc
  repeat (first|(first|refine ai ?_|refine sat_nd ?_)|refine ag (xu hz64 hw64) ?_|refine ag (tM hz64 hw64) ?_)
  exact af (aj (.inr rfl) rfl rfl rfl (congrArg V.bool (by
   show (FB ⟨f,r,tk zs,bl,ca,pa,ha,fu⟩ ⟨f2,r2,tk ws,bl2,ca2,pa2,ha2,fu2⟩&&decide (ha=ha2)&&decide (fu=fu2))=_
   rw[aX,aX];rfl)))
 ·cases e
theorem mL{f r:Int}{zs:List Int}(h:aO f r zs=true):zs.length<=64:=by
 obtain⟨hv,_,hbd,_⟩:=aK h
 obtain⟨_,hl⟩:=bT hbd
 obtain⟨m1,m2⟩:=cV hv
 omega
theorem Gi{f r:Int}{zs:List Int}{n:Nat}(hn:n=zs.length):(!(!(!aO f r (tk zs)))||(decide (n=(tk zs).length)&&decide ((tk zs).length<=64)))=true:=by
 subst hn
 cases h:aO f r (tk zs) with
 |false=>simp
 |true=>have:=mL h;rw[eD]at *;simp[this]
theorem AN{f r:Int}{zs:List Int}{x:Bool}{n:Nat}(hn:n=zs.length):(!(!(!aO f r (tk zs)||x))||(decide (n=(tk zs).length)&&decide ((tk zs).length<=64)))=true:=by
 subst hn
 cases h:aO f r (tk zs) with
 |false=>simp
 |true=>have:=mL h;rw[eD]at *;simp[this]
theorem DX{f r:Int}{zs:List Int}{_bl:Bool}{x y:Bool}:(!(!(!aO f r (tk zs)||x||y))||(decide (zs.length=(tk zs).length)&&decide ((tk zs).length<=64)&&vsB f r))=true:=by
 cases h:aO f r (tk zs) with
 |false=>simp
 |true=>have:=mL h;rw[eD]at *;rw[(aK h).1];simp[this]
def nl:CF
 |[.agg [.int .i64 f,.int .i64 r,.sl 0 0 len none,.bool bl,.int .u8 ca,.int .i64 pa,.int .i64 ha,.int .i64 fu]],[.ints false .i8 zs]=>some (decide (len=zs.length)&&decide (zs.length<=70),.bool (fA ⟨f,r,zs,bl,ca,pa,ha,fu⟩),[])
 |_,_=>none
theorem tV:CtOk (GGx kCa kDb) PP (15,nl):=by
 refine aF Tryz.func15 (by kernel_rfl) rfl fun a0 h0 c0 v0 N0 e hc=>?_
 unfold nl at e
 split at e
 ·rename_i f r len bl ca pa ha fu zs
  cases e
  have hE:=aD (kCa:=kCa) (kDb:=kDb) (cts:=[(54,qe),(55,gA),(56,lO),(57,iV),(58,eF),(59,qP),(60,ja),(61,ia)]) (inl:=[(53,Tryz.f53)]) ⟨wA,gz,oh,iI,cD,pD,kU,jO,trivial⟩ ⟨⟨Tryz.func53,by kernel_rfl⟩,trivial⟩
  refine av hE 2 Tryz.func15 rfl rfl ?_
  simp only[Bool.and_eq_true,decide_eq_true_eq]at hc
  obtain⟨rfl,hc7⟩:=hc
  repeat (first|(first|refine ai ?_|refine sat_nd ?_)|refine ag (HZ hc7 rfl) ?_|refine ag (Gi rfl) ?_|refine ag (AN rfl) ?_|refine ag (DX (_bl:=bl)) ?_)
  refine aq (fun h=>?_) (fun h=>?_)
  ·have h:(!aO f r (tk zs)||decide (aG (tk zs) false<0)||decide (aG (tk zs) true<0)||chkL f r (tk zs) (!bl))=true:=h
   rw[aX]at h
   exact af (aj (.inr rfl) rfl rfl rfl (by simp only[fA,h,cond_true]))
  have h:(!aO f r (tk zs)||decide (aG (tk zs) false<0)||decide (aG (tk zs) true<0)||chkL f r (tk zs) (!bl))=false:=h
  rw[aX]at h
  have h':=h
  simp only[Bool.or_eq_false_iff,Bool.not_eq_false']at h'
  obtain⟨hvs,_,hbd,_⟩:=aK h'.1.1.1
  have hc2:zs.length<=64:=mL h'.1.1.1
  have hf0:(!decide (f=0))=true:=by have:=cY hvs;simp;omega
  have hf1:∀ g:Bool,(!g||!decide (f=0))=true:=fun g=>by rw[hf0];simp
  have h88:=v88 hbd
  have h88t:(!decide (f=8)||!decide (r=8)||decide ((tk zs).length=64))=true:=by rw[aX];exact h88
  have hbdt:aL f r (tk zs)=true:=by rw[aX];exact hbd
  refine bX hE 2 (fun i (_:Unit)=>([(1,.ptr 1 0 0),(4,I i)],[.ints false .i8 zs,.cells true [I f,I r,.sl 0 0 zs.length none,Bb bl,.int .u8 ca,I pa,I ha,I fu]])) zs.length (fun j _=>∀ k,k<j->pwL f r zs (k:Nat)=false) () (by omega) (Ent.ren [0,1] [1,4] rfl rfl rfl) (fun k hk=>absurd hk (by omega)) ?_
  intro j i _ hij hj hz
  refine aq (fun hlt=>?_) (fun hlt=>?_)
  ·have hlt':j<zs.length:=by simp at hlt;omega
   repeat (first|(first|refine ai ?_|refine sat_nd ?_)|refine ag (by simp only[Bool.and_eq_true,decide_eq_true_eq];omega) ?_|refine ag (hf1 _) ?_|refine ag (pX ⟨by omega,by omega⟩) ?_)
   refine aq (fun hon=>?_) (fun hon=>?_)
   ·have hon:pwL f r zs i=true:=hon
    have hpw:oJ f r zs=true:=List.any_eq_true.2 ⟨j,List.mem_range.2 hlt',by rw[<-hij];exact hon⟩
    exact af (af (aj (.inr rfl) rfl rfl rfl (by simp only[fA,h,hpw,cond_true,cond_false])))
   ·have hon:pwL f r zs i=false:=hon
    refine af ⟨hlt',(),fun k hk=>?_,Ent.ren [0,1] [1,4] rfl rfl rfl⟩
    rcases Nat.lt_or_ge k j with hk2|hk2
    ·exact hz k hk2
    ·obtain rfl:k=j:=by omega
     rw[<-hij];exact hon
  ·obtain rfl:j=zs.length:=by simp at hlt;omega
   have hpw:oJ f r zs=false:=List.any_eq_false.2 fun k hk=>by rw[hz k (List.mem_range.1 hk)];simp
   refine af ?_
   repeat (first|(first|refine ai ?_|refine sat_nd ?_)|refine ag (ck hc2 rfl) ?_|refine ag (cx hc2 rfl h88t) ?_|refine ag (mD hc2 hbdt) ?_|refine ag (mD hc2 h88t) ?_)
   exact af (aj (.inr rfl) rfl rfl rfl (by
    show V.bool (lG f r (tk zs) ca&&pasL f r (tk zs) bl pa ha&&decide (0<=ha)&&decide (ha<=10000)&&decide (1<=fu)&&decide (fu<=10000))=_
    rw[aX];simp only[fA,h,hpw,cond_false]))
 ·cases e
end
end Go.Ab
namespace Go.Ab
open Go.Proofs
section
variable{kCa kDb:Bool}
end
end Go.Ab
namespace Go.Ab
def isPw(x:Int):Bool:=decide (x=1)||decide (x=-1)
def alN(p:Psn):Nat:=bif !decide (p.ca=0)then 1 else bif p.zs.any isPw then 2 else(yaL (decide (p.f=p.r))).length
theorem xm{zs:List Int}{k:Nat}(h:k<zs.length):(zs.drop k).any isPw=(isPw (zs.getD k 0)||(zs.drop (k+1)).any isPw):=by
 rw[List.drop_eq_getElem_cons h,List.any_cons];simp[List.getD,h]
theorem tE(p:Psn)(hl:p.zs.length<=64)(e:Nat):∀ (d k:Nat),k+d=p.zs.length->bV (kB p) (fun(_:Unit)=>some false) (d+1+e) (k:Int)=some ((p.zs.drop k).any isPw)
 |0,k,hk=>by
  rw[show 0+1+e=e+1 by omega,List.drop_eq_nil_of_le (by omega)]
  refine cE (x:=()) ?_
  unfold kB
  dsimp only
  rw[decide_eq_false (show ¬ ((k:Int)<Int.ofNat p.zs.length) by simp only[Int.ofNat_eq_natCast];omega)]
  rfl
 |d+1,k,hk=>by
  have hlt:k<p.zs.length:=by omega
  have hw:IntKind.i64.wrap ((k:Int)+1)=((k+1:Nat):Int):=by rw[aC (by omega) (by omega)];omega
  have d1:decide ((k:Int)<Int.ofNat p.zs.length)=true:=decide_eq_true (by simp only[Int.ofNat_eq_natCast];omega)
  have d2:decide ((0:Int)<=k)=true:=decide_eq_true (Int.natCast_nonneg k)
  rw[xm hlt,show d+1+1+e=(d+1+e)+1 by omega]
  cases hp:isPw (p.zs.getD k 0) with
  |true=>
   refine tf ?_
   unfold kB
   unfold isPw at hp
   dsimp only
   rw[Int.toNat_natCast,d1,d2,hp]
   cases decide (p.zs.getD k 0=1)<;>rfl
  |false=>
   rw[bN (s':=((k+1:Nat):Int)) (by
    unfold kB
    unfold isPw at hp
    dsimp only
    rw[Int.toNat_natCast,d1,d2,hp,hw]
    cases decide (p.zs.getD k 0=1)<;>rfl),tE p hl e d (k+1) (by omega)]
   rfl
theorem sF(p:Psn)(hl:p.zs.length<=64)(b:Bool)(c:Int)(e:Nat):∀ (d k:Nat),k+d=p.zs.length->bV (jQ p (yaL b,c)) (fun(_:Int)=>some (yaL b,(yaL b).length)) (d+1+e) (k:Int)=some (yaL b,bif (p.zs.drop k).any isPw then 2 else(yaL b).length)
 |0,k,hk=>by
  rw[show 0+1+e=e+1 by omega,List.drop_eq_nil_of_le (by omega)]
  refine cE (x:=(k:Int)) ?_
  unfold jQ
  dsimp only
  rw[decide_eq_false (show ¬ ((k:Int)<Int.ofNat p.zs.length) by simp only[Int.ofNat_eq_natCast];omega)]
  rfl
 |d+1,k,hk=>by
  have hlt:k<p.zs.length:=by omega
  have hw:IntKind.i64.wrap ((k:Int)+1)=((k+1:Nat):Int):=by rw[aC (by omega) (by omega)];omega
  have d1:decide ((k:Int)<Int.ofNat p.zs.length)=true:=decide_eq_true (by simp only[Int.ofNat_eq_natCast];omega)
  have d2:decide ((0:Int)<=k)=true:=decide_eq_true (Int.natCast_nonneg k)
  rw[xm hlt,show d+1+1+e=(d+1+e)+1 by omega]
  cases hp:isPw (p.zs.getD k 0) with
  |true=>
   refine tf ?_
   unfold jQ
   unfold isPw at hp
   dsimp only
   rw[Int.toNat_natCast,d1,d2,hp]
   cases b<;>rfl
  |false=>
   rw[bN (s':=((k+1:Nat):Int)) (by
    unfold jQ
    unfold isPw at hp
    dsimp only
    rw[Int.toNat_natCast,d1,d2,hp,hw]
    rfl),sF p hl b c e d (k+1) (by omega)]
   rfl
theorem Lf{p:Psn}(hv:vsB p.f p.r=true)(hl:p.zs.length<=64):yalW p=some (yaL (decide (p.f=p.r)),alN p):=by
 unfold yalW
 rw[Ld]
 dsimp only
 rw[hv,cond_true,aU]
 have h:=sF p hl (decide (p.f=p.r)) 0 (999999-p.zs.length) p.zs.length 0 (by omega)
 rw[show p.zs.length+1+(999999-p.zs.length)=1000000 by omega,List.drop_zero]at h
 have h:bV (jQ p (yaL (decide (p.f=p.r)),0)) (fun(_:Int)=>some (yaL (decide (p.f=p.r)),(yaL (decide (p.f=p.r))).length)) 1000000 0=_:=h
 dsimp only
 rw[h]
 unfold alN
 cases decide (p.ca=0) with
 |true=>rfl
 |false=>cases decide (p.f=p.r)<;>rfl
theorem JU{p:Psn}(hl:p.zs.length<=64):yrAl p=some ((yaL (decide (p.f=p.r))).take (alN p)):=by
 unfold yrAl yrPa
 simp only[List.drop_zero,List.take_length]
 have h:=tE p hl (999999-p.zs.length) p.zs.length 0 (by omega)
 rw[show p.zs.length+1+(999999-p.zs.length)=1000000 by omega,List.drop_zero]at h
 have h:bV (kB p) (fun(_:Unit)=>some false) 1000000 0=_:=h
 rw[h,GI]
 unfold alN
 cases decide (p.ca=0) with
 |false=>cases decide (p.f=p.r)<;>rfl
 |true=>cases p.zs.any isPw<;>cases decide (p.f=p.r)<;>rfl
def inA(b:Bool)(n:Nat)(y:Int):Bool:=((yaL b).take n).any fun x=>decide (x=y)
def syT(b:Bool)(n:Nat):Bool:=decide (n=(List.take n (List.drop 0 (yaL b))).length)&&decide (Gy (List.take n (List.drop 0 (yaL b))) 0 (List.take (List.take n (yaL b)).length (List.drop 0 (List.take n (yaL b))))=some true)
theorem Nw:([true,false].all fun b=>[1,2,(yaL b).length].all (syT b))=true:=by kernel_rfl
theorem En(p:Psn):alN p∈[1,2,(yaL (decide (p.f=p.r))).length]:=by
 unfold alN
 cases decide (p.ca=0) with
 |false=>simp
 |true=>cases p.zs.any isPw<;>simp
theorem Ob(b:Bool):b∈[true,false]:=by cases b<;>simp
theorem OG(p:Psn):alN p=(List.take (alN p) (List.drop 0 (yaL (decide (p.f=p.r))))).length/\Gy (List.take (alN p) (List.drop 0 (yaL (decide (p.f=p.r))))) 0 (List.take (List.take (alN p) (yaL (decide (p.f=p.r)))).length (List.drop 0 (List.take (alN p) (yaL (decide (p.f=p.r))))))=some true:=by
 have:=List.all_eq_true.1 (List.all_eq_true.1 Nw _ (Ob (decide (p.f=p.r)))) _ (En p)
 unfold syT at this
 rw[Bool.and_eq_true,decide_eq_true_eq,decide_eq_true_eq]at this
 exact this
theorem zA{p:Psn}(h:p.ok=true):vsB p.f p.r=true/\(p.zs.length:Int)=p.f*p.r/\p.zs.length<=64/\p.pa<p.f*p.r/\gw p.f p.r p.zs p.ca=true:=by
 unfold Psn.ok at h
 simp only[Bool.and_eq_true]at h
 obtain⟨⟨⟨⟨⟨hb,_⟩,_⟩,hc⟩,hp⟩,_⟩:=h
 obtain⟨hv,hl⟩:=bT hb
 obtain⟨m1,m2⟩:=cV hv
 refine⟨hv,hl,by omega,?_,hc⟩
 unfold fo at hp
 simp only[Bool.or_eq_true,Bool.and_eq_true,decide_eq_true_eq]at hp
 rcases hp with hp|⟨⟨⟨⟨⟨_,hp⟩,_⟩,_⟩,_⟩,_⟩
 ·omega
 ·unfold ak at hp
  simp only[Bool.and_eq_true,decide_eq_true_eq]at hp
  rw[OH hv]at hp
  omega
theorem Ah{p:Psn}(hca:0<=p.ca):fA p=p.ok:=by
 by_cases hl:p.zs.length<=64
 ·exact Co hl hca
 ·have h1:p.ok=false:=by
   cases h:p.ok with
   |false=>rfl
   |true=>exact absurd (zA h).2.2.1 hl
  have h2:aO p.f p.r p.zs=false:=by
   cases h:aO p.f p.r p.zs with
   |false=>rfl
   |true=>exact absurd (mL h) hl
  rw[h1,fA,h2];rfl
theorem Lb{p:Psn}{y:Int}:(mvP p y).zs.length=(p.f*p.r).toNat:=by simp[mvP,mvZ,vW]
end Go.Ab
namespace Go.Ab
open Go.Proofs
def Lurk(f r:Int)(zs:List Int)(bl:Bool)(K x:Int):Prop:=isP (zs.getD x.toNat 0) (!bl)=true/\3<=(zs.getD x.toNat 0).natAbs/\(zs.getD x.toNat 0).natAbs<=5/\bh f r ((zs.getD x.toNat 0).natAbs:Int) x K 0=true
def Only(f r:Int)(zs:List Int)(K x j:Int):Prop:=∀ m,(m∈bU f r x K/\zs.getD m.toNat 0≠0)↔m=j
theorem cU{f r kd x K occ:Int}(h3:3<=kd)(h5:kd<=5):bh f r kd x K occ=(bh f r kd x K 0&&dG occ (bU f r x K))/\(bh f r kd x K 0=true->(bj f x K).2.2=true):=by
 have hz:dG 0 (bU f r x K)=true:=ei.2 fun y _=>by rw[nV uk_0,bt_0];simp
 unfold bh
 rw[show decide (kd=2)=false by simp;omega,show decide (kd=6)=false by simp;omega,hz]
 simp only[cond_false,Bool.and_true]
 refine⟨trivial,fun h=>?_⟩
 simp only[Bool.and_eq_true]at h
 exact h.1
theorem Gh{f r:Int}{zs:List Int}{bl:Bool}{K x:Int}(h:aO f r zs=true)(hK:ak f r K=true)(h0:0<=x)(h1:x<zs.length):(zq zs bl x||zk f r zs K x)=false↔Lurk f r zs bl K x:=by
 have hx:=(cW h).2 ⟨h0,h1⟩
 have hb:=dZ h h0 h1
 have hkv:=aS hK
 unfold zq zk Lurk
 rw[xV hb]
 simp only[Bool.or_eq_false_iff,Bool.not_eq_false',decide_eq_false_iff_not,decide_eq_true_eq]
 have e0:Uk 0:=uk_0
 have on0:OnS f r 0:=fun m _ hm=>by rw[bt_0]at hm;cases hm
 have hr:=(ju e0).2 ⟨hx,on0⟩
 constructor
 ·rintro⟨⟨⟨a1,a2⟩,a3⟩,a4,a5⟩
  have hk:ga ((zs.getD x.toNat 0).natAbs:Int):=by unfold ga;omega
  obtain⟨p1,_,p3⟩:=mc hr e0 hk
  have:decide (uand (ushr (lq f r ((zs.getD x.toNat 0).natAbs:Int) x 0) K) 1=0)=false:=decide_eq_false a5
  rw[vP p1 hkv.1 hkv.2.2,p3 K hK,Bool.not_eq_false']at this
  exact⟨a1,by omega,by omega,this⟩
 ·rintro⟨a1,a2,a3,a4⟩
  have hk:ga ((zs.getD x.toNat 0).natAbs:Int):=by unfold ga;omega
  obtain⟨p1,_,p3⟩:=mc hr e0 hk
  have hl:=(cU (f:=f) (r:=r) (x:=x) (K:=K) (occ:=0) (kd:=((zs.getD x.toNat 0).natAbs:Int)) (by omega) (by omega)).2 a4
  refine⟨⟨⟨a1,by omega⟩,by omega⟩,by rw[(yu hx hK hl).2],?_⟩
  have:decide (uand (ushr (lq f r ((zs.getD x.toNat 0).natAbs:Int) x 0) K) 1=0)=false:=by rw[vP p1 hkv.1 hkv.2.2,p3 K hK,a4];rfl
  exact of_decide_eq_false this
theorem Bv{f r:Int}{x K:Int}(hx:ak f r x=true)(hK:ak f r K=true)(hl:(bj f x K).2.2=true):Uk (oB f r x K).1/\∀ m:Nat,bt (oB f r x K).1 m=decide ((m:Int)∈bU f r x K):=by
 rw[(yu hx hK hl).2]
 obtain⟨h1,h2⟩:=iC (bU f r x K) 0 (fun y hy=>⟨(aS ((dI hx).2 y hy)).1,(aS ((dI hx).2 y hy)).2.2⟩) uk_0
 exact⟨h1,fun m=>by rw[h2,bt_0,Bool.false_or]⟩
theorem yy{f r:Int}{zs:List Int}{bl:Bool}{K x j:Int}(h:aO f r zs=true)(hz:zs.length<=64)(hx:ak f r x=true)(hK:ak f r K=true)(hl:(bj f x K).2.2=true)(hj0:0<=j)(hj1:j<zs.length) :
  pinC f r zs bl K (occR f r zs) x j=true↔Only f r zs K x j/\isP (zs.getD j.toNat 0) bl=true:=by
 obtain⟨b1,b2⟩:=Bv hx hK hl
 obtain⟨o1,o2⟩:=gC (aK h).2.2.1 hz
 unfold pinC
 rw[Bool.and_eq_true,decide_eq_true_eq]
 refine and_congr_left' ?_
 have hbd:=(dI (f:=f) (r:=r) (b:=K) hx).2
 constructor
 ·intro he m
  constructor
  ·rintro⟨m1,m2⟩
   have hm:=(cW h).1 (hbd m m1)
   have hb:bt (uand (oB f r x K).1 (occR f r zs)) m.toNat=bt (ushl 1 j) m.toNat:=congrArg (fun s=>bt s m.toNat) he
   rw[CM b1 o1,b2,o2,fB hj0 (by omega),show ((m.toNat:Nat):Int)=m by omega,decide_eq_true m1,decide_eq_true (show m.toNat<zs.length by omega)]at hb
   simp only[m2,decide_false,Bool.not_false,Bool.and_self]at hb
   exact(of_decide_eq_true hb.symm).symm
  ·rintro rfl
   have hb:bt (uand (oB f r x K).1 (occR f r zs)) m.toNat=bt (ushl 1 m) m.toNat:=congrArg (fun s=>bt s m.toNat) he
   rw[CM b1 o1,b2,o2,fB hj0 (by omega),show ((m.toNat:Nat):Int)=m by omega]at hb
   simp only[decide_true,Bool.and_eq_true,decide_eq_true_eq,Bool.not_eq_true',decide_eq_false_iff_not]at hb
   exact⟨hb.1,hb.2.2⟩
 ·intro ho
  refine nw (MB _ _) (gl _ _) fun n hn=>?_
  rw[CM b1 o1,b2,o2,fB hj0 (by omega),Bool.eq_iff_iff]
  simp only[Bool.and_eq_true,decide_eq_true_eq,Bool.not_eq_true',decide_eq_false_iff_not]
  have:=ho n
  rw[Int.toNat_natCast]at this
  constructor
  ·rintro⟨a1,_,a3⟩;exact(this.1 ⟨a1,a3⟩).symm
  ·intro e
   have h2:=this.2 e.symm
   exact⟨h2.1,by omega,h2.2⟩
def Pins(f r:Int)(zs:List Int)(bl:Bool)(K x j:Int):Prop:=0<=x/\x<zs.length/\Lurk f r zs bl K x/\Only f r zs K x j
theorem Fi{zs:List Int}{j x:Int}{bl:Bool}(hj:0<=j)(hx:0<=x)(h1:x<zs.length):isP ((zs.set j.toNat 0).getD x.toNat 0) bl=(!decide (x=j)&&isP (zs.getD x.toNat 0) bl):=by
 by_cases e:x=j
 ·subst e
  have:(zs.set x.toNat 0).getD x.toNat 0=0:=by simp[List.getD,show x.toNat<zs.length by omega]
  rw[this];cases bl<;>simp[isP]
 ·have:(zs.set j.toNat 0).getD x.toNat 0=zs.getD x.toNat 0:=by simp[List.getD,show ¬ j.toNat=x.toNat by omega]
  rw[this];simp[e]
theorem dM{zs:List Int}{j x v:Int}(hj:0<=j)(hx:0<=x)(h1:x<zs.length):(zs.set j.toNat v).getD x.toNat 0=if x=j then v else zs.getD x.toNat 0:=by
 by_cases e:x=j
 ·subst e;simp[List.getD,show x.toNat<zs.length by omega]
 ·rw[if_neg e];simp[List.getD,show ¬ j.toNat=x.toNat by omega]
theorem qR{f r:Int}{zs:List Int}{j v:Int}(h:aO f r zs=true)(hv:-6<=v/\v<=6):aO f r (zs.set j.toNat v)=true:=by
 simp only[aO,aL,Bool.and_eq_true,Bool.not_eq_true',List.any_eq_false]at h ⊢
 rw[List.length_set]
 refine⟨⟨h.1.1,fun p hp=>?_⟩,fun p hp=>?_⟩
 ·rcases List.mem_or_eq_of_mem_set hp with hp|rfl
  ·exact h.1.2 p hp
  ·simp[badP,okP];omega
 ·rcases List.mem_or_eq_of_mem_set hp with hp|rfl
  ·exact h.2 p hp
  ·simp[norP,orP];omega
theorem EH{f r:Int}{zs:List Int}{bl:Bool}{K j x:Int}(h:aO f r zs=true)(hz:zs.length<=64)(hK:ak f r K=true)(hj0:0<=j)(hj1:j<zs.length)(hjp:isP (zs.getD j.toNat 0) bl=true) :
  (x∈attL f r (zs.set j.toNat 0) K (!bl)/\x∉attL f r zs K (!bl))↔Pins f r zs bl K x j:=by
 have hs:=qR (j:=j) (v:=0) h (by omega)
 have hzs:(zs.set j.toNat 0).length<=64:=by rw[List.length_set];exact hz
 obtain⟨o1,o2⟩:=gC (aK h).2.2.1 hz
 obtain⟨q1,q2⟩:=gC (aK hs).2.2.1 hzs
 rw[eS,eS,List.length_set,iA (aK h).2.2.1 hz,iA (aK hs).2.2.1 hzs]
 unfold Pins
 by_cases hx:0<=x/\x<zs.length
 ·obtain⟨h0,h1⟩:=hx
  have hxv:=(cW h).2 ⟨h0,h1⟩
  have hb:=dZ h h0 h1
  rw[Fi hj0 h0 h1]
  by_cases hp:isP (zs.getD x.toNat 0) (!bl)=true
  ·have hne:x≠j:=by
    rintro rfl
    rw[kj,decide_eq_true_eq]at hp hjp
    cases bl<;>simp[sdI]at hp hjp<;>omega
   have hq:occR f r (zs.set j.toNat 0)=occR f r (zs.set j.toNat 0):=rfl
   have e1:gk f r (zs.set j.toNat 0) x K (occR f r (zs.set j.toNat 0))=gk f r zs x K (occR f r (zs.set j.toNat 0)):=by
    unfold gk
    rw[dM hj0 h0 h1,if_neg hne]
   rw[e1]
   simp only[hp,hne,decide_false,Bool.not_false,Bool.true_and,h0,h1,true_and]
   have hbits:∀ y,ak f r y=true->hasB (occR f r (zs.set j.toNat 0)) y=(!decide (y=j)&&hasB (occR f r zs) y):=by
    intro y hy
    have hyl:=(cW h).1 hy
    rw[gE q1 hy,gE o1 hy,q2,o2,List.length_set,dM hj0 hyl.1 hyl.2]
    by_cases e:y=j
    ·simp[e]
    ·simp[e]
   have hbits2:∀ y,ak f r y=true->hasB (occR f r zs) y=!decide (zs.getD y.toNat 0=0):=by
    intro y hy
    have hyl:=(cW h).1 hy
    rw[gE o1 hy,o2,decide_eq_true (show y.toNat<zs.length by omega),Bool.true_and]
   unfold gk Lurk
   rw[fQ hb]
   have hjz:=iw hjp
   by_cases hk:3<=(zs.getD x.toNat 0).natAbs/\(zs.getD x.toNat 0).natAbs<=5
   ·rw[show decide (((zs.getD x.toNat 0).natAbs:Int)=1)=false by rw[decide_eq_false_iff_not];omega]
    simp only[cond_false]
    obtain⟨r1,_⟩:=cU (f:=f) (r:=r) (x:=x) (K:=K) (occ:=occR f r zs) (kd:=((zs.getD x.toNat 0).natAbs:Int)) (by omega) (by omega)
    obtain⟨r2,_⟩:=cU (f:=f) (r:=r) (x:=x) (K:=K) (occ:=occR f r (zs.set j.toNat 0)) (kd:=((zs.getD x.toNat 0).natAbs:Int)) (by omega) (by omega)
    rw[r1,r2]
    have hbd:=(dI (f:=f) (r:=r) (b:=K) hxv).2
    have hxK:bh f r ((zs.getD x.toNat 0).natAbs:Int) x K 0=true->x≠K:=by
     rintro hr rfl
     rw[ld hxv (by unfold ga;omega)]at hr;cases hr
    cases hr:bh f r ((zs.getD x.toNat 0).natAbs:Int) x K 0 with
    |false=>simp
    |true=>
     have hxK:=hxK hr
     simp only[hxK,decide_false,Bool.not_false,Bool.true_and,hp,hk,true_and]
     unfold Only
     constructor
     ·rintro⟨f1,f2⟩
      have f1':=ei.1 f1
      have:¬ ∀ y∈bU f r x K,hasB (occR f r zs) y=false:=fun hh=>f2 (ei.2 hh)
      obtain⟨y,hyy⟩:=Classical.not_forall.1 this
      obtain⟨hy,hyo⟩:=Classical.not_imp.1 hyy
      have hyv:=hbd y hy
      have hyj:y=j:=by
       have:=f1' y hy
       rw[hbits y hyv]at this
       by_cases e:y=j
       ·exact e
       ·simp[e]at this;exact absurd this hyo
      subst hyj
      intro m
      constructor
      ·rintro⟨m1,m2⟩
       have:=f1' m m1
       rw[hbits m (hbd m m1),hbits2 m (hbd m m1)]at this
       by_cases e:m=y
       ·exact e
       ·simp[e]at this;exact absurd this m2
      ·rintro rfl;exact⟨hy,hjz⟩
     ·intro ho
      refine⟨ei.2 fun y hy=>?_,fun hf=>?_⟩
      ·rw[hbits y (hbd y hy),hbits2 y (hbd y hy)]
       by_cases e:y=j
       ·simp[e]
       ·have:=Classical.not_not.1 (mt (fun h2=>(ho y).1 ⟨hy,h2⟩) e)
        rw[decide_eq_true this];simp
      ·have hjm:=(ho j).2 rfl
       have:=ei.1 hf j hjm.1
       rw[hbits2 j (hbd j hjm.1),decide_eq_false hjm.2]at this
       cases this
   ·have hsame:(bif decide (((zs.getD x.toNat 0).natAbs:Int)=1)then hasL K (cz (eL f (decide (zs.getD x.toNat 0<0)) x) id (f*r).toNat)else !decide (x=K)&&bh f r ((zs.getD x.toNat 0).natAbs:Int) x K (occR f r (zs.set j.toNat 0)))=(bif decide (((zs.getD x.toNat 0).natAbs:Int)=1)then hasL K (cz (eL f (decide (zs.getD x.toNat 0<0)) x) id (f*r).toNat)else !decide (x=K)&&bh f r ((zs.getD x.toNat 0).natAbs:Int) x K (occR f r zs)):=by
     have hnz:=iw hp
     by_cases h1:(zs.getD x.toNat 0).natAbs=1
     ·rw[show decide (((zs.getD x.toNat 0).natAbs:Int)=1)=true by rw[decide_eq_true_eq];omega];rfl
     ·have h26:(zs.getD x.toNat 0).natAbs=2\/(zs.getD x.toNat 0).natAbs=6:=by omega
      rcases h26 with h2|h2<;>simp only[h2]<;>rfl
    rw[hsame]
    constructor
    ·rintro⟨a,b⟩;exact absurd a b
    ·rintro⟨⟨_,a2,a3,_⟩,_⟩;exact absurd ⟨a2,a3⟩ hk
  ·constructor
   ·rintro⟨⟨_,_,a,_⟩,_⟩
    rw[Bool.and_eq_true]at a
    exact absurd a.2 hp
   ·rintro⟨_,_,⟨a,_⟩,_⟩;exact absurd a hp
 ·constructor
  ·rintro⟨⟨a,b,_⟩,_⟩;exact absurd ⟨a,b⟩ hx
  ·rintro⟨a,b,_⟩;exact absurd ⟨a,b⟩ hx
end Go.Ab
