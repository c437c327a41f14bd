/- Contracts of the functions that the laws reach, and plain laws of what they compute (text G9); no condition. -/
import Derived.Test.YtlannahgjgpfcaaGreatDoorG7
import Derived.Test.YtlannahgjgpfcaaGreatDoorG8
import Derived.Test.YtlannahgjgpfcaaGreatDoorG4
import Derived.Test.YtlannahgjgpfcaaGreatDoorG3
set_option maxRecDepth 100000
set_option maxHeartbeats 4000000
namespace Go.Ab
open IntKind
open Go.Proofs
section
variable{kCa kDb:Bool}
def yhas(y:Int)(b:Int):Option (Bool):=some !decide (band Go.BinOp.and u8 y b=0)
def Cp(R:Bool):V:=Bb R
def Bm(_:Bool):List O:=[]
def qp:CF
 |[.int .u8 y_0,.int .u8 b_0],[]=>retC true (yhas y_0 b_0) false Cp Bm
 |_,_=>none
theorem Gs(y:Int)(b:Int){r}(hr:yhas y b=some r):aj (GGx kCa kDb) PP 95 [.int .u8 y,.int .u8 b] [] (Cp r) (Bm r):=by
 have hE:=cutE (aF (kCa:=kCa) (kDb:=kDb) (cts:=[]) (inl:=[]) trivial trivial)
 refine bn hE 2 Tryz.func95 rfl rfl Cp Bm hr ?_ rfl rfl
 exact aB (aD [] (.inr rfl) rfl rfl rfl rfl rfl)
theorem lZ:CtOk (GGx kCa kDb) PP (95,qp):=by
 refine aG Tryz.func95 (by kernel_rfl) rfl fun a0 h0 c0 v0 N0 e hc=>?_
 unfold qp at e
 split at e
 ·rename_i y_0 b_0
  obtain⟨hl,r,hr,rfl,rfl⟩:=aQ e hc
  exact Gs y_0 b_0 hr
 ·cases e
def ymir(y:Int)(after:Bool):Option (Int):=let x6:=2^Min.min (Int.toNat 1) u8.bits;bG (bif after then some (Sum.inl (band Go.BinOp.or u8 ((band Go.BinOp.and u8 y 3).fdiv x6) (u8.wrap (band Go.BinOp.and u8 (band Go.BinOp.and u8 y 3) 1*x6))))else some (Sum.inl (band Go.BinOp.and u8 y 3))) fun(s5:Int)=>some s5
def Dr(R:Int):V:=.int .u8 R
def zy(_:Int):List O:=[]
def zh:CF
 |[.int .u8 y_0,.bool after_0],[]=>retC true (ymir y_0 after_0) 0 Dr zy
 |_,_=>none
theorem Gg(y:Int)(after:Bool){r}(hr:ymir y after=some r):aj (GGx kCa kDb) PP 94 [.int .u8 y,Bb after] [] (Dr r) (zy r):=by
 have hE:=cutE (aF (kCa:=kCa) (kDb:=kDb) (cts:=[]) (inl:=[]) trivial trivial)
 refine bn hE 2 Tryz.func94 rfl rfl Dr zy hr ?_ rfl rfl
 refine bz hE 2 (fun(s5:Int)=>([(4,V.int u8 0),(5,V.int u8 s5)],[])) rfl ?_ ?_ (fun s5=>?_)
 ·refine af rfl ?_
  refine af rfl ?_
  exact aU ((Ent.rn [] [4,5] rfl rfl rfl rfl rfl))
 ·exact aU ((Ent.rn [] [4,5] rfl rfl rfl rfl rfl))
 exact aB (aD [] (.inr rfl) rfl rfl rfl rfl rfl)
theorem Bz:CtOk (GGx kCa kDb) PP (94,zh):=by
 refine aG Tryz.func94 (by kernel_rfl) rfl fun a0 h0 c0 v0 N0 e hc=>?_
 unfold zh at e
 split at e
 ·rename_i y_0 after_0
  obtain⟨hl,r,hr,rfl,rfl⟩:=aQ e hc
  exact Gg y_0 after_0 hr
 ·cases e
def ythn(y:Int)(z:Int):Option (Int):=aN (ymir y false) 0 fun(y4:Int)=>aN (yhas y 4) false fun(y5:Bool)=>aN (ymir z y5) 0 fun(y6:Int)=>some (band Go.BinOp.or u8 (band Go.BinOp.xor u8 y4 y6) (band Go.BinOp.and u8 (band Go.BinOp.xor u8 y z) 4))
def Ap(R:Int):V:=.int .u8 R
def AH(_:Int):List O:=[]
def vz:CF
 |[.int .u8 y_0,.int .u8 z_0],[]=>retC true (ythn y_0 z_0) 0 Ap AH
 |_,_=>none
theorem Ef(y:Int)(z:Int){r}(hr:ythn y z=some r):aj (GGx kCa kDb) PP 41 [.int .u8 y,.int .u8 z] [] (Ap r) (AH r):=by
 have hE:=cutE (aF (kCa:=kCa) (kDb:=kDb) (cts:=[(94,zh),(95,qp)]) (inl:=[]) ⟨Bz,lZ,trivial⟩ trivial)
 refine bn hE 2 Tryz.func41 rfl rfl Ap AH hr ?_ rfl rfl
 unfold ythn
 refine aq (pl rfl id) ?_
 refine aq (pl rfl id) ?_
 refine aq (pl rfl id) ?_
 exact aB (aD [] (.inr rfl) rfl rfl rfl rfl rfl)
theorem rq:CtOk (GGx kCa kDb) PP (41,vz):=by
 refine aG Tryz.func41 (by kernel_rfl) rfl fun a0 h0 c0 v0 N0 e hc=>?_
 unfold vz at e
 split at e
 ·rename_i y_0 z_0
  obtain⟨hl,r,hr,rfl,rfl⟩:=aQ e hc
  exact Ef y_0 z_0 hr
 ·cases e
def yof(y:Int)(s:Siz):Option (Bool):=aN (yhas y 4) false fun(y4:Bool)=>some (!y4||decide (s.f=s.r))
def Hy(R:Bool):V:=Bb R
def Kk(_:Bool):List O:=[]
def DX:CF
 |[.int .u8 y_0,.agg [.int .i64 s_0,.int .i64 s_1]],[]=>retC true (yof y_0 ⟨s_0,s_1⟩) false Hy Kk
 |_,_=>none
theorem Hx(y:Int)(s:Siz){r}(hr:yof y s=some r):aj (GGx kCa kDb) PP 74 [.int .u8 y,.agg [.int .i64 s.f,.int .i64 s.r]] [] (Hy r) (Kk r):=by
 have hE:=cutE (aF (kCa:=kCa) (kDb:=kDb) (cts:=[(95,qp)]) (inl:=[]) ⟨lZ,trivial⟩ trivial)
 refine bn hE 2 Tryz.func74 rfl rfl Hy Kk hr ?_ rfl rfl
 unfold yof
 refine aq (pl rfl id) ?_
 refine af (Bool.not_or_self _) ?_
 refine af (Bool.not_or_self _) ?_
 refine af (Bool.not_or_self _) ?_
 refine af (Bool.not_or_self _) ?_
 refine af (Bool.or_not_self _) ?_
 exact aB (aD [] (.inr rfl) rfl rfl rfl rfl rfl)
theorem wv:CtOk (GGx kCa kDb) PP (74,DX):=by
 refine aG Tryz.func74 (by kernel_rfl) rfl fun a0 h0 c0 v0 N0 e hc=>?_
 unfold DX at e
 split at e
 ·rename_i y_0 s_0 s_1
  obtain⟨hl,r,hr,rfl,rfl⟩:=aQ e hc
  exact Hx y_0 ⟨s_0,s_1⟩ hr
 ·cases e
def ysq(y:Int)(s:Siz)(at_:Int):Option (Int):=let x15:=!decide (s.f=0);aM x15 (aM x15 (aN (yhas y 1) false fun(y5:Bool)=>bG (bif y5 then some (Sum.inl (i64.wrap (i64.wrap (s.f-1)-at_.tmod s.f)))else some (Sum.inl (at_.tmod s.f))) fun(s7:Int)=>aN (yhas y 2) false fun(y8:Bool)=>bG (bif y8 then some (Sum.inl (i64.wrap (i64.wrap (s.r-1)-i64.wrap (at_.tdiv s.f))))else some (Sum.inl (i64.wrap (at_.tdiv s.f)))) fun(s10:Int)=>aN (yhas y 4) false fun(y11:Bool)=>bG (bif y11 then some (Sum.inl (s10,s7))else some (Sum.inl (s7,s10))) fun(s14:Int×Int)=>some (i64.wrap (i64.wrap (s14.2*s.f)+s14.1))))
def Hv(R:Int):V:=.int .i64 R
def Ku(_:Int):List O:=[]
def xL:CF
 |[.int .u8 y_0,.agg [.int .i64 s_0,.int .i64 s_1],.int .i64 at__0],[]=>retC true (ysq y_0 ⟨s_0,s_1⟩ at__0) 0 Hv Ku
 |_,_=>none
theorem HT(y:Int)(s:Siz)(at_:Int){r}(hr:ysq y s at_=some r):aj (GGx kCa kDb) PP 72 [.int .u8 y,.agg [.int .i64 s.f,.int .i64 s.r],.int .i64 at_] [] (Hv r) (Ku r):=by
 have hE:=cutE (aF (kCa:=kCa) (kDb:=kDb) (cts:=[(95,qp)]) (inl:=[]) ⟨lZ,trivial⟩ trivial)
 refine bn hE 2 Tryz.func72 rfl rfl Hv Ku hr ?_ rfl rfl
 refine af rfl ?_
 refine aO ?_
 refine aO ?_
 refine aq (pl rfl id) ?_
 refine bz hE 2 (fun(s7:Int)=>([(0,V.int u8 y),(4,V.ptr 0 0 0),(6,I 0),(7,I s7),(8,I (i64.wrap (at_.tdiv s.f)))],[O.cells true [I s.f,I s.r]])) rfl ?_ ?_ (fun s7=>?_)
 ·exact aU ((Ent.rn [0] [0,4,6,7,8] rfl rfl rfl rfl rfl))
 ·exact aU ((Ent.rn [0] [0,4,6,7,8] rfl rfl rfl rfl rfl))
 refine aq (pl rfl id) ?_
 refine bz hE 2 (fun(s10:Int)=>([(0,V.int u8 y),(4,V.ptr 0 0 0),(6,I 0),(7,I s7),(8,I s10)],[O.cells true [I s.f,I s.r]])) rfl ?_ ?_ (fun s10=>?_)
 ·exact aU ((Ent.rn [0] [0,4,6,7,8] rfl rfl rfl rfl rfl))
 ·exact aU ((Ent.rn [0] [0,4,6,7,8] rfl rfl rfl rfl rfl))
 refine aq (pl rfl id) ?_
 refine bz hE 2 (fun(s14:Int×Int)=>([(4,V.ptr 0 0 0),(6,I 0),(7,I s14.1),(8,I s14.2)],[O.cells true [I s.f,I s.r]])) rfl ?_ ?_ (fun s14=>?_)
 ·exact aU ((Ent.rn [0] [4,6,7,8] rfl rfl rfl rfl rfl))
 ·exact aU ((Ent.rn [0] [4,6,7,8] rfl rfl rfl rfl rfl))
 exact aB (aD [] (.inr rfl) rfl rfl rfl rfl rfl)
theorem jQ:CtOk (GGx kCa kDb) PP (72,xL):=by
 refine aG Tryz.func72 (by kernel_rfl) rfl fun a0 h0 c0 v0 N0 e hc=>?_
 unfold xL at e
 split at e
 ·rename_i y_0 s_0 s_1 at__0
  obtain⟨hl,r,hr,rfl,rfl⟩:=aQ e hc
  exact HT y_0 ⟨s_0,s_1⟩ at__0 hr
 ·cases e
def ychk(s:Siz)(y:Int)(fine:Bool):Option (Int):=bif !vsB s.f s.r||decide (8<=y)||!fine then some 2 else aN (yof y (Siz.mk s.f s.r)) false fun(y6:Bool)=>bif !y6 then some 3 else some 0
def Cz(R:Int):V:=.int .i64 R
def zq(_:Int):List O:=[]
def qV:CF
 |[.agg [.int .i64 s_0,.int .i64 s_1],.int .u8 y_0,.bool fine_0],[]=>retC true (ychk ⟨s_0,s_1⟩ y_0 fine_0) 0 Cz zq
 |_,_=>none
theorem Ej(s:Siz)(y:Int)(fine:Bool){r}(hr:ychk s y fine=some r):aj (GGx kCa kDb) PP 69 [.agg [.int .i64 s.f,.int .i64 s.r],.int .u8 y,Bb fine] [] (Cz r) (zq r):=by
 have hE:=cutE (aF (kCa:=kCa) (kDb:=kDb) (cts:=[(70,c_vs),(74,DX)]) (inl:=[]) ⟨gb,wv,trivial⟩ trivial)
 refine bn hE 2 Tryz.func69 rfl rfl Cz zq hr ?_ rfl rfl
 refine af rfl ?_
 refine af (Bool.not_or_self _) ?_
 refine af (Bool.or_not_self _) ?_
 refine af (Bool.not_or_self _) ?_
 refine af (Bool.or_not_self _) ?_
 refine ay hE 2 rfl ?_ ?_
 ·exact aB (aD [] (.inr rfl) rfl rfl rfl rfl rfl)
 refine aq (pl rfl id) ?_
 refine ay hE 2 rfl ?_ ?_
 ·exact aB (aD [] (.inr rfl) rfl rfl rfl rfl rfl)
 exact aB (aD [] (.inr rfl) rfl rfl rfl rfl rfl)
theorem kN:CtOk (GGx kCa kDb) PP (69,qV):=by
 refine aG Tryz.func69 (by kernel_rfl) rfl fun a0 h0 c0 v0 N0 e hc=>?_
 unfold qV at e
 split at e
 ·rename_i s_0 s_1 y_0 fine_0
  obtain⟨hl,r,hr,rfl,rfl⟩:=aQ e hc
  exact Ej ⟨s_0,s_1⟩ y_0 fine_0 hr
 ·cases e
def zj:Siz->List Int×Int->Option (List Int×Int ⊕ List Int ⊕ List Int×Int):=fun(s:Siz) (s9:List Int×Int)=>let x22:=(s9.1.length+1)*1;bif decide (s9.2<8)then aN (yof s9.2 (Siz.mk s.f s.r)) false fun(y10:Bool)=>bG (bif y10 then aM (decide (x22<=140737488355328)) (some (Sum.inl (s9.1++List.take 1 (List.drop 0 (iL [s9.2])))))else some (Sum.inl s9.1)) fun(s12:List Int)=>some (Sum.inl (s12,u8.wrap (s9.2+1)))else some (Sum.inr (Sum.inl s9.1))
def yall(s:Siz):Option (List Int×Int):=bif !vsB s.f s.r then some ([],2)else bx (zj s) (fun(s20:List Int)=>some (s20,0)) 1000000 ([],0)
def Cx(R:List Int×Int):V:=.tup [.sl 0 0 R.1.length none,.int .i64 R.2]
def CX(R:List Int×Int):List O:=[.ints true .u8 R.1]
def qI:CF
 |[.agg [.int .i64 s_0,.int .i64 s_1]],[]=>retC true (yall ⟨s_0,s_1⟩) ([],0) Cx CX
 |_,_=>none
theorem Gc(s:Siz){r}(hr:yall s=some r):aj (GGx kCa kDb) PP 28 [.agg [.int .i64 s.f,.int .i64 s.r]] [] (Cx r) (CX r):=by
 have hE:=cutE (aF (kCa:=kCa) (kDb:=kDb) (cts:=[(70,c_vs),(74,DX)]) (inl:=[]) ⟨gb,wv,trivial⟩ trivial)
 refine bn hE 2 Tryz.func28 rfl rfl Cx CX hr ?_ rfl rfl
 refine af rfl ?_
 refine ay hE 2 rfl ?_ ?_
 ·exact aB (ur 2 (.ints true .u8 []) rfl rfl rfl<|aD [1] (.inr rfl) rfl rfl rfl rfl rfl)
 refine bB hE 2 (fun(s9:List Int×Int)=>([(1,V.ptr 0 0 0),(2,V.nils),(3,I 0),(4,V.sl 1 0 s9.1.length none),(9,V.int u8 s9.2)],[O.cells true [I s.f,I s.r],O.ints true u8 s9.1])) (fun(s20:List Int)=>([(2,V.nils),(3,I 0),(4,V.sl 0 0 s20.length none)],[O.ints true u8 s20])) (.exit 0) ((Ent.phT 4 (O.ints true u8 []) rfl rfl rfl rfl rfl).trans (Ent.rn [0,1] [1,2,3,4,9] rfl rfl rfl rfl rfl)) (fun s9=>?_) (fun s20=>?_)
 ·refine ay hE 2 rfl ?_ ?_
  ·refine aq (pl rfl id) ?_
   refine bz hE 2 (fun(s12:List Int)=>([(1,V.ptr 0 0 0),(2,V.nils),(3,I 0),(4,V.sl 1 0 s12.length none),(9,V.int u8 s9.2)],[O.cells true [I s.f,I s.r],O.ints true u8 s12])) rfl ?_ ?_ (fun s12=>?_)
   ·refine cr (pr (pl (decide_eq_true rfl) id) rfl) ?_
    exact aU ((Ent.rn [0,3] [1,2,3,4,9] rfl rfl rfl rfl rfl))
   ·exact aU ((Ent.rn [0,1] [1,2,3,4,9] rfl rfl rfl rfl rfl))
   exact bu ((Ent.rn [0,1] [1,2,3,4,9] rfl rfl rfl rfl rfl))
  exact bA ((Ent.rn [1] [2,3,4] rfl rfl rfl rfl rfl))
 exact aB (aD [0] (.inr rfl) rfl rfl rfl rfl rfl)
theorem lJ:CtOk (GGx kCa kDb) PP (28,qI):=by
 refine aG Tryz.func28 (by kernel_rfl) rfl fun a0 h0 c0 v0 N0 e hc=>?_
 unfold qI at e
 split at e
 ·rename_i s_0 s_1
  obtain⟨hl,r,hr,rfl,rfl⟩:=aQ e hc
  exact Gc ⟨s_0,s_1⟩ hr
 ·cases e
def ysqE(s:Siz)(y:Int)(at_:Int):Option (Int×Int):=aN (ychk (Siz.mk s.f s.r) y (aA s.f s.r at_)) 0 fun(y5:Int)=>bif !decide (y5=0)then some (0,y5)else aN (ysq y (Siz.mk s.f s.r) at_) 0 fun(y6:Int)=>some (y6,0)
def zL(R:Int×Int):V:=.tup [.int .i64 R.1,.int .i64 R.2]
def BJ(_:Int×Int):List O:=[]
def wq:CF
 |[.agg [.int .i64 s_0,.int .i64 s_1],.int .u8 y_0,.int .i64 at__0],[]=>retC true (ysqE ⟨s_0,s_1⟩ y_0 at__0) (0,0) zL BJ
 |_,_=>none
theorem EK(s:Siz)(y:Int)(at_:Int){r}(hr:ysqE s y at_=some r):aj (GGx kCa kDb) PP 29 [.agg [.int .i64 s.f,.int .i64 s.r],.int .u8 y,.int .i64 at_] [] (zL r) (BJ r):=by
 have hE:=cutE (aF (kCa:=kCa) (kDb:=kDb) (cts:=[(69,qV),(72,xL),(75,fb)]) (inl:=[]) ⟨kN,jQ,dx,trivial⟩ trivial)
 refine bn hE 2 Tryz.func29 rfl rfl zL BJ hr ?_ rfl rfl
 refine af rfl ?_
 refine af rfl ?_
 refine aq (pl rfl id) ?_
 refine ay hE 2 rfl ?_ ?_
 ·exact aB (aD [] (.inr rfl) rfl rfl rfl rfl rfl)
 refine aq (pl rfl id) ?_
 exact aB (aD [] (.inr rfl) rfl rfl rfl rfl rfl)
theorem qz:CtOk (GGx kCa kDb) PP (29,wq):=by
 refine aG Tryz.func29 (by kernel_rfl) rfl fun a0 h0 c0 v0 N0 e hc=>?_
 unfold wq at e
 split at e
 ·rename_i s_0 s_1 y_0 at__0
  obtain⟨hl,r,hr,rfl,rfl⟩:=aQ e hc
  exact EK ⟨s_0,s_1⟩ y_0 at__0 hr
 ·cases e
def zv(set:Int)(at_:Int):Option (Bool):=let x4:=band Go.BinOp.and u64 (set.fdiv (2^Min.min at_.toNat u64.bits)) 1;some (decide (0<=at_)&&decide (at_<64)&&decide (x4=1))
def tV(R:Bool):V:=Bb R
def uz(_:Bool):List O:=[]
def uA:CF
 |[.int .u64 set_0,.int .i64 at__0],[]=>retC true (zv set_0 at__0) false tV uz
 |_,_=>none
theorem BE(set:Int)(at_:Int){r}(hr:zv set at_=some r):aj (GGx kCa kDb) PP 77 [.int .u64 set,.int .i64 at_] [] (tV r) (uz r):=by
 have hE:=cutE (aF (kCa:=kCa) (kDb:=kDb) (cts:=[]) (inl:=[]) trivial trivial)
 refine bn hE 2 Tryz.func77 rfl rfl tV uz hr ?_ rfl rfl
 refine af (Bool.not_or_self _) ?_
 refine af (Bool.not_or_self _) ?_
 refine af (Bool.not_or_self _) ?_
 refine af (Bool.not_or_self _) ?_
 refine af (tt1 _ _) ?_
 refine af (Bool.not_or_self _) ?_
 refine af (Bool.not_or_self _) ?_
 refine af (Bool.not_or_self _) ?_
 exact aB (aD [] (.inr rfl) rfl rfl rfl rfl rfl)
theorem yp:CtOk (GGx kCa kDb) PP (77,uA):=by
 refine aG Tryz.func77 (by kernel_rfl) rfl fun a0 h0 c0 v0 N0 e hc=>?_
 unfold uA at e
 split at e
 ·rename_i set_0 at__0
  obtain⟨hl,r,hr,rfl,rfl⟩:=aQ e hc
  exact BE set_0 at__0 hr
 ·cases e
def iT:Siz->Int->Int->Int×Int->Option (Int×Int ⊕ Int ⊕ Int×Int):=fun(s:Siz) (y set:Int) (s13:Int×Int)=>bif decide (s13.2<i64.wrap (s.f*s.r))then aN (zv set s13.2) false fun(y14:Bool)=>bG (bif y14 then aN (ysq y (Siz.mk s.f s.r) s13.2) 0 fun(y15:Int)=>aM (decide (0<=y15)) (some (Sum.inl (band Go.BinOp.or u64 s13.1 (u64.wrap (1*2^Min.min y15.toNat u64.bits)))))else some (Sum.inl s13.1)) fun(s17:Int)=>some (Sum.inl (s17,i64.wrap (s13.2+1)))else some (Sum.inr (Sum.inl s13.1))
def yset(s:Siz)(y:Int)(set:Int):Option (Int×Int):=let x31:=band Go.BinOp.andNot u64 set (bif vsB s.f s.r then allU s.f s.r else 0);aN (ychk (Siz.mk s.f s.r) y (decide (x31=0))) 0 fun(y5:Int)=>bif !decide (y5=0)then some (0,y5)else bx (iT s y set) (fun(s25:Int)=>some (s25,0)) 1000000 (0,0)
def zB(R:Int×Int):V:=.tup [.int .u64 R.1,.int .i64 R.2]
def Bj(_:Int×Int):List O:=[]
def zV:CF
 |[.agg [.int .i64 s_0,.int .i64 s_1],.int .u8 y_0,.int .u64 set_0],[]=>retC true (yset ⟨s_0,s_1⟩ y_0 set_0) (0,0) zB Bj
 |_,_=>none
theorem Eh(s:Siz)(y:Int)(set:Int){r}(hr:yset s y set=some r):aj (GGx kCa kDb) PP 30 [.agg [.int .i64 s.f,.int .i64 s.r],.int .u8 y,.int .u64 set] [] (zB r) (Bj r):=by
 have hE:=cutE (aF (kCa:=kCa) (kDb:=kDb) (cts:=[(69,qV),(72,xL),(76,Gi),(77,uA)]) (inl:=[]) ⟨kN,jQ,vq,yp,trivial⟩ trivial)
 refine bn hE 2 Tryz.func30 rfl rfl zB Bj hr ?_ rfl rfl
 refine af rfl ?_
 unfold yset
 dsimp only
 refine aq (pl rfl id) ?_
 refine ay hE 2 rfl ?_ ?_
 ·exact aB (aD [] (.inr rfl) rfl rfl rfl rfl rfl)
 refine bB hE 2 (fun(s13:Int×Int)=>([(1,V.int u8 y),(2,U set),(3,V.ptr 0 0 0),(6,U 0),(7,I 0),(11,U s13.1),(32,I (i64.wrap (s.f*s.r))),(33,I s13.2)],[O.cells true [I s.f,I s.r]])) (fun(s25:Int)=>([(6,U 0),(7,I 0),(11,U s25)],[])) (.exit 0) ((Ent.rn [0] [1,2,3,6,7,11,32,33] rfl rfl rfl rfl rfl)) (fun s13=>?_) (fun s25=>?_)
 ·refine ay hE 2 rfl ?_ ?_
  ·refine aq (pl rfl id) ?_
   refine bz hE 2 (fun(s17:Int)=>([(1,V.int u8 y),(2,U set),(3,V.ptr 0 0 0),(6,U 0),(7,I 0),(11,U s17),(32,I (i64.wrap (s.f*s.r))),(33,I s13.2)],[O.cells true [I s.f,I s.r]])) rfl ?_ ?_ (fun s17=>?_)
   ·refine aq (pl rfl id) ?_
    refine aO ?_
    exact aU ((Ent.rn [0] [1,2,3,6,7,11,32,33] rfl rfl rfl rfl rfl))
   ·exact aU ((Ent.rn [0] [1,2,3,6,7,11,32,33] rfl rfl rfl rfl rfl))
   exact bu ((Ent.rn [0] [1,2,3,6,7,11,32,33] rfl rfl rfl rfl rfl))
  exact bA ((Ent.rn [] [6,7,11] rfl rfl rfl rfl rfl))
 exact aB (aD [] (.inr rfl) rfl rfl rfl rfl rfl)
theorem zU:CtOk (GGx kCa kDb) PP (30,zV):=by
 refine aG Tryz.func30 (by kernel_rfl) rfl fun a0 h0 c0 v0 N0 e hc=>?_
 unfold zV at e
 split at e
 ·rename_i s_0 s_1 y_0 set_0
  obtain⟨hl,r,hr,rfl,rfl⟩:=aQ e hc
  exact Eh ⟨s_0,s_1⟩ y_0 set_0 hr
 ·cases e
def ycmp(a:Int)(b:Int):Option (Int×Int):=bif decide (8<=a)||decide (8<=b)then some (0,2)else aN (ythn a b) 0 fun(y4:Int)=>some (y4,0)
def Dz(R:Int×Int):V:=.tup [.int .u8 R.1,.int .i64 R.2]
def Ar(_:Int×Int):List O:=[]
def vx:CF
 |[.int .u8 a_0,.int .u8 b_0],[]=>retC true (ycmp a_0 b_0) (0,0) Dz Ar
 |_,_=>none
theorem FZ(a:Int)(b:Int){r}(hr:ycmp a b=some r):aj (GGx kCa kDb) PP 9 [.int .u8 a,.int .u8 b] [] (Dz r) (Ar r):=by
 have hE:=cutE (aF (kCa:=kCa) (kDb:=kDb) (cts:=[(41,vz)]) (inl:=[]) ⟨rq,trivial⟩ trivial)
 refine bn hE 2 Tryz.func9 rfl rfl Dz Ar hr ?_ rfl rfl
 refine af (Bool.not_or_self _) ?_
 refine af (Bool.or_not_self _) ?_
 refine ay hE 2 rfl ?_ ?_
 ·exact aB (aD [] (.inr rfl) rfl rfl rfl rfl rfl)
 refine aq (pl rfl id) ?_
 exact aB (aD [] (.inr rfl) rfl rfl rfl rfl rfl)
theorem rA:CtOk (GGx kCa kDb) PP (9,vx):=by
 refine aG Tryz.func9 (by kernel_rfl) rfl fun a0 h0 c0 v0 N0 e hc=>?_
 unfold vx at e
 split at e
 ·rename_i a_0 b_0
  obtain⟨hl,r,hr,rfl,rfl⟩:=aQ e hc
  exact FZ a_0 b_0 hr
 ·cases e
def oO:Int->Psn->List Int×Int->Option (List Int×Int ⊕ List Int ⊕ Psn):=fun(y:Int) (p:Psn)=>let x29:=Int.ofNat (List.take p.zs.length (List.drop 0 p.zs)).length;fun(s8:List Int×Int)=>let x31:=decide (s8.2<Int.ofNat p.zs.length);bif x31 then aM (decide (0<=s8.2)&&x31) (aN (ysq y (Siz.mk p.f p.r) s8.2) 0 fun(y9:Int)=>aM (decide (0<=y9)&&decide (y9<x29)) (some (Sum.inl (s8.1.set y9.toNat (p.zs.getD s8.2.toNat 0),i64.wrap (s8.2+1)))))else some (Sum.inr (Sum.inl s8.1))
def ypos(y:Int)(p:Psn):Option (Psn):=let x35:=List.take p.zs.length (List.drop 0 p.zs);let x34:=x35.length;aM (decide (x34<=64)) (bx (oO y p) (fun(s17:List Int)=>bG (bif decide (0<=p.pa)then aN (ysq y (Siz.mk p.f p.r) p.pa) 0 fun(y18:Int)=>some (Sum.inl y18)else some (Sum.inl p.pa)) fun(s20:Int)=>aM (decide (x34=s17.length)) (some (Psn.mk p.f p.r s17 p.bl p.ca s20 p.ha p.fu))) 1000000 (x35,0))
def vu(R:Psn):V:=.agg [.int .i64 R.f,.int .i64 R.r,.sl 1 0 R.zs.length none,Bb R.bl,.int .u8 R.ca,.int .i64 R.pa,.int .i64 R.ha,.int .i64 R.fu]
def za(R:Psn):List O:=[.ints true .i8 R.zs]
def nu:CF
 |[.int .u8 y_0,.agg [.int .i64 p_0,.int .i64 p_1,.sl 0 0 p_2n none,.bool p_3,.int .u8 p_4,.int .i64 p_5,.int .i64 p_6,.int .i64 p_7]],[.ints false .i8 p_2]=>retC (decide (p_2n=p_2.length)) (ypos y_0 ⟨p_0,p_1,p_2,p_3,p_4,p_5,p_6,p_7⟩) ⟨0,0,[],false,0,0,0,0⟩ vu za
 |_,_=>none
theorem FO(y:Int)(p:Psn){r}(hr:ypos y p=some r):aj (GGx kCa kDb) PP 67 [.int .u8 y,.agg [.int .i64 p.f,.int .i64 p.r,.sl 0 0 p.zs.length none,Bb p.bl,.int .u8 p.ca,.int .i64 p.pa,.int .i64 p.ha,.int .i64 p.fu]] [.ints false .i8 p.zs] (vu r) (za r):=by
 have hE:=cutE (aF (kCa:=kCa) (kDb:=kDb) (cts:=[(72,xL),(122,ud)]) (inl:=[]) ⟨jQ,yn,trivial⟩ trivial)
 refine bn hE 2 Tryz.func67 rfl rfl vu za hr ?_ rfl rfl
 refine cr (pl (decide_eq_true (az rfl)) id) ?_
 refine bB hE 2 (let x39:=[Bb p.bl,V.int u8 p.ca,I p.pa,I p.ha,I p.fu];fun(s8:List Int×Int)=>([(0,V.int u8 y),(3,V.ptr 1 0 0),(4,V.ptr 2 0 0),(5,V.ptr 3 0 0),(11,V.sl 0 0 p.zs.length none),(12,I (Int.ofNat p.zs.length)),(13,I s8.2)],[O.ints false i8 p.zs,O.cells true (I p.f::I p.r::V.sl 0 0 p.zs.length none::x39),O.cells true [I 0,I 0,V.nils,Bb false,V.int u8 0,I 0,I 0,I 0],O.cells true (I p.f::I p.r::V.sl 4 0 (List.take p.zs.length (List.drop 0 p.zs)).length none::x39),O.ints true i8 s8.1])) (let x41:=[Bb p.bl,V.int u8 p.ca,I p.pa,I p.ha,I p.fu];fun(s17:List Int)=>([(0,V.int u8 y),(3,V.ptr 1 0 0),(4,V.ptr 2 0 0),(5,V.ptr 3 0 0)],[O.ints false i8 p.zs,O.cells true (I p.f::I p.r::V.sl 0 0 p.zs.length none::x41),O.cells true [I 0,I 0,V.nils,Bb false,V.int u8 0,I 0,I 0,I 0],O.cells true (I p.f::I p.r::V.sl 4 0 (List.take p.zs.length (List.drop 0 p.zs)).length none::x41),O.ints true i8 s17])) (.exit 0) ((Ent.rn [0,1,2,4,3] [0,3,4,5,11,12,13] rfl rfl rfl rfl rfl)) (fun s8=>?_) (fun s17=>?_)
 ·refine ay hE 2 rfl ?_ ?_
  ·refine aO ?_
   refine af rfl ?_
   refine aq (pl rfl id) ?_
   refine aO ?_
   exact bu ((Ent.rn [0,1,2,3,4] [0,3,4,5,11,12,13] rfl rfl rfl rfl rfl))
  exact bA ((Ent.rn [0,1,2,3,4] [0,3,4,5] rfl rfl rfl rfl rfl))
 refine bz hE 2 (fun(s20:Int)=>([(4,V.ptr 1 0 0),(5,V.ptr 2 0 0)],[O.ints false i8 p.zs,O.cells true [I 0,I 0,V.nils,Bb false,V.int u8 0,I 0,I 0,I 0],O.cells true [I p.f,I p.r,V.sl 3 0 (List.take p.zs.length (List.drop 0 p.zs)).length none,Bb p.bl,V.int u8 p.ca,I s20,I p.ha,I p.fu],O.ints true i8 s17])) rfl ?_ ?_ (fun s20=>?_)
 ·refine aq (pl rfl id) ?_
  exact aU ((Ent.rn [0,2,3,4] [4,5] rfl rfl rfl rfl rfl))
 ·exact aU ((Ent.rn [0,2,3,4] [4,5] rfl rfl rfl rfl rfl))
 refine BP (fun h0=>?_)
 exact aB (aD [3] (.inr rfl) rfl rfl rfl rfl (by have qh0:=of_decide_eq_true h0;simp_all [vu]))
theorem gC:CtOk (GGx kCa kDb) PP (67,nu):=by
 refine aG Tryz.func67 (by kernel_rfl) rfl fun a0 h0 c0 v0 N0 e hc=>?_
 unfold nu at e
 split at e
 ·rename_i y_0 p_0 p_1 p_2n p_3 p_4 p_5 p_6 p_7 p_2
  obtain⟨hl,r,hr,rfl,rfl⟩:=aQ e hc
  simp only[decide_eq_true_eq]at hl
  obtain rfl:=hl
  exact FO y_0 ⟨p_0,p_1,p_2,p_3,p_4,p_5,p_6,p_7⟩ hr
 ·cases e
def Il:List Int->Int->Int->Option (Int ⊕ Unit ⊕ Int):=fun(s:List Int) (v s6:Int)=>let x13:=decide (s6<Int.ofNat s.length);bif x13 then aM (decide (0<=s6)&&x13) (bif decide (v=s.getD s6.toNat 0)then escO (escO (some s6))else some (Sum.inl (i64.wrap (s6+1))))else some (Sum.inr (Sum.inl ()))
def yidx(s:List Int)(v:Int):Option (Int):=bx (Il s v) (fun(_s11:Unit)=>some (-1)) 1000000 0
def Cy(R:Int):V:=.int .i64 R
def DP(_:Int):List O:=[]
def Ch:CF
 |[.sl 0 0 s_0n none,.int .u8 v_0],[.ints false .u8 s_0]=>retC (decide (s_0n=s_0.length)) (yidx s_0 v_0) 0 Cy DP
 |_,_=>none
theorem DW(s:List Int)(v:Int){r}(hr:yidx s v=some r):aj (GGx kCa kDb) PP 121 [.sl 0 0 s.length none,.int .u8 v] [.ints false .u8 s] (Cy r) (DP r):=by
 have hE:=cutE (aF (kCa:=kCa) (kDb:=kDb) (cts:=[]) (inl:=[]) trivial trivial)
 refine bn hE 2 Tryz.func121 rfl rfl Cy DP hr ?_ rfl rfl
 refine bB hE 2 (fun(s6:Int)=>([(0,V.sl 0 0 s.length none),(1,V.int u8 v),(4,I 0),(7,I (Int.ofNat s.length)),(8,I s6)],[O.ints false u8 s])) (fun(s11:Unit)=>([(4,I 0)],[O.ints false u8 s])) (.exit 0) ((Ent.rn [0] [0,1,4,7,8] rfl rfl rfl rfl rfl)) (fun s6=>?_) (fun s11=>?_)
 ·refine ay hE 2 rfl ?_ ?_
  ·refine aO ?_
   refine ay hE 2 rfl ?_ ?_
   ·refine gR (by simp) (eL ?_)
    exact aB (aD [] (.inr rfl) rfl rfl rfl rfl rfl)
   exact bu ((Ent.rn [0] [0,1,4,7,8] rfl rfl rfl rfl rfl))
  exact bA ((Ent.rn [0] [4] rfl rfl rfl rfl rfl))
 exact aB (aD [] (.inr rfl) rfl rfl rfl rfl rfl)
theorem Bl:CtOk (GGx kCa kDb) PP (121,Ch):=by
 refine aG Tryz.func121 (by kernel_rfl) rfl fun a0 h0 c0 v0 N0 e hc=>?_
 unfold Ch at e
 split at e
 ·rename_i s_0n v_0 s_0
  obtain⟨hl,r,hr,rfl,rfl⟩:=aQ e hc
  simp only[decide_eq_true_eq]at hl
  obtain rfl:=hl
  exact DW s_0 v_0 hr
 ·cases e
def ycon(s:List Int)(v:Int):Option (Bool):=aN (yidx (List.take s.length (List.drop 0 s)) v) 0 fun(y4:Int)=>some (decide (0<=y4))
def AK(R:Bool):V:=Bb R
def Bg(_:Bool):List O:=[]
def zk:CF
 |[.sl 0 0 s_0n none,.int .u8 v_0],[.ints false .u8 s_0]=>retC (decide (s_0n=s_0.length)) (ycon s_0 v_0) false AK Bg
 |_,_=>none
theorem En(s:List Int)(v:Int){r}(hr:ycon s v=some r):aj (GGx kCa kDb) PP 66 [.sl 0 0 s.length none,.int .u8 v] [.ints false .u8 s] (AK r) (Bg r):=by
 have hE:=cutE (aF (kCa:=kCa) (kDb:=kDb) (cts:=[(121,Ch)]) (inl:=[]) ⟨Bl,trivial⟩ trivial)
 refine bn hE 2 Tryz.func66 rfl rfl AK Bg hr ?_ rfl rfl
 unfold ycon
 refine aq (pl (decide_eq_true (az rfl)) id) ?_
 exact aB (aD [] (.inr rfl) rfl rfl rfl rfl rfl)
theorem DB:CtOk (GGx kCa kDb) PP (66,zk):=by
 refine aG Tryz.func66 (by kernel_rfl) rfl fun a0 h0 c0 v0 N0 e hc=>?_
 unfold zk at e
 split at e
 ·rename_i s_0n v_0 s_0
  obtain⟨hl,r,hr,rfl,rfl⟩:=aQ e hc
  simp only[decide_eq_true_eq]at hl
  obtain rfl:=hl
  exact En s_0 v_0 hr
 ·cases e
def yMov(s:Siz)(y:Int)(m:Mov):Option (Mov×Int):=aN (ychk (Siz.mk s.f s.r) y (vsB s.f s.r&&mvB s.f s.r m.a m.b m.p)) 0 fun(y5:Int)=>bif !decide (y5=0)then some (Mov.mk 0 0 0,y5)else aN (ysq y (Siz.mk s.f s.r) m.a) 0 fun(y6:Int)=>aN (ysq y (Siz.mk s.f s.r) m.b) 0 fun(y7:Int)=>some (Mov.mk y6 y7 m.p,0)
def BF(R:Mov×Int):V:=.tup [.agg [.int .i64 R.1.a,.int .i64 R.1.b,.int .i8 R.1.p],.int .i64 R.2]
def zg(_:Mov×Int):List O:=[]
def wh:CF
 |[.agg [.int .i64 s_0,.int .i64 s_1],.int .u8 y_0,.agg [.int .i64 m_0,.int .i64 m_1,.int .i8 m_2]],[]=>retC true (yMov ⟨s_0,s_1⟩ y_0 ⟨m_0,m_1,m_2⟩) (⟨0,0,0⟩,0) BF zg
 |_,_=>none
theorem FW(s:Siz)(y:Int)(m:Mov){r}(hr:yMov s y m=some r):aj (GGx kCa kDb) PP 23 [.agg [.int .i64 s.f,.int .i64 s.r],.int .u8 y,.agg [.int .i64 m.a,.int .i64 m.b,.int .i8 m.p]] [] (BF r) (zg r):=by
 have hE:=cutE (aF (kCa:=kCa) (kDb:=kDb) (cts:=[(69,qV),(70,c_vs),(71,oT),(72,xL)]) (inl:=[]) ⟨kN,gb,sY,jQ,trivial⟩ trivial)
 refine bn hE 2 Tryz.func23 rfl rfl BF zg hr ?_ rfl rfl
 refine af rfl ?_
 refine af rfl ?_
 refine af (Bool.not_or_self _) ?_
 refine af (Bool.not_or_self _) ?_
 refine af (pg rfl) ?_
 refine af (Bool.not_or_self _) ?_
 refine aq (pl rfl id) ?_
 refine ay hE 2 rfl ?_ ?_
 ·exact aB (aD [] (.inr rfl) rfl rfl rfl rfl rfl)
 refine af rfl ?_
 refine aq (pl rfl id) ?_
 refine aq (pl rfl id) ?_
 exact aB (aD [] (.inr rfl) rfl rfl rfl rfl rfl)
theorem rM:CtOk (GGx kCa kDb) PP (23,wh):=by
 refine aG Tryz.func23 (by kernel_rfl) rfl fun a0 h0 c0 v0 N0 e hc=>?_
 unfold wh at e
 split at e
 ·rename_i s_0 s_1 y_0 m_0 m_1 m_2
  obtain⟨hl,r,hr,rfl,rfl⟩:=aQ e hc
  exact FW ⟨s_0,s_1⟩ y_0 ⟨m_0,m_1,m_2⟩ hr
 ·cases e
def yFM(s:Siz)(m:Mov):Option (Mov×Int):=aN (yMov (Siz.mk s.f s.r) 2 (Mov.mk m.a m.b m.p)) (Mov.mk 0 0 0,0) fun(y4:Mov×Int)=>some (Mov.mk y4.1.a y4.1.b y4.1.p,y4.2)
def Jq(R:Mov×Int):V:=.tup [.agg [.int .i64 R.1.a,.int .i64 R.1.b,.int .i8 R.1.p],.int .i64 R.2]
def Je(_:Mov×Int):List O:=[]
def Hw:CF
 |[.agg [.int .i64 s_0,.int .i64 s_1],.agg [.int .i64 m_0,.int .i64 m_1,.int .i8 m_2]],[]=>retC true (yFM ⟨s_0,s_1⟩ ⟨m_0,m_1,m_2⟩) (⟨0,0,0⟩,0) Jq Je
 |_,_=>none
theorem HE(s:Siz)(m:Mov){r}(hr:yFM s m=some r):aj (GGx kCa kDb) PP 25 [.agg [.int .i64 s.f,.int .i64 s.r],.agg [.int .i64 m.a,.int .i64 m.b,.int .i8 m.p]] [] (Jq r) (Je r):=by
 have hE:=cutE (aF (kCa:=kCa) (kDb:=kDb) (cts:=[(23,wh)]) (inl:=[]) ⟨rM,trivial⟩ trivial)
 refine bn hE 2 Tryz.func25 rfl rfl Jq Je hr ?_ rfl rfl
 unfold yFM
 refine aq (pl rfl id) ?_
 exact aB (aD [] (.inr rfl) rfl rfl rfl rfl rfl)
theorem Ed:CtOk (GGx kCa kDb) PP (25,Hw):=by
 refine aG Tryz.func25 (by kernel_rfl) rfl fun a0 h0 c0 v0 N0 e hc=>?_
 unfold Hw at e
 split at e
 ·rename_i s_0 s_1 m_0 m_1 m_2
  obtain⟨hl,r,hr,rfl,rfl⟩:=aQ e hc
  exact HE ⟨s_0,s_1⟩ ⟨m_0,m_1,m_2⟩ hr
 ·cases e
def FL:Psn->List Int×Int->Option (List Int×Int ⊕ List Int ⊕ Psn×Int):=fun(y3:Psn) (s7:List Int×Int)=>let x34:=decide (s7.2<Int.ofNat y3.zs.length);let x33:=decide (0<=s7.2)&&x34;bif x34 then aM x33 (aM x33 (some (Sum.inl (s7.1.set s7.2.toNat (i8.wrap (s7.1.getD s7.2.toNat 0*-1)),i64.wrap (s7.2+1)))))else some (Sum.inr (Sum.inl s7.1))
def KP(p:Psn):Option (Psn×Int):=let x36:=Psn.mk 0 0 [] false 0 0 0 0;let x38:=2^Min.min (Int.toNat 2) u8.bits;let x40:=List.take p.zs.length (List.drop 0 p.zs);let x37:=Psn.mk p.f p.r x40 p.bl p.ca p.pa p.ha p.fu;let x39:=x40.length;aM (decide (x39<=64)) (bif !x37.ok then some (x36,2)else aN (ypos 2 x37) x36 fun(y3:Psn)=>bx (FL y3) (fun(s15:List Int)=>aM (decide (y3.zs.length=s15.length)) (some (Psn.mk y3.f y3.r s15 (!y3.bl) (band Go.BinOp.or u8 (y3.ca.fdiv x38) (u8.wrap (band Go.BinOp.and u8 y3.ca 3*x38))) y3.pa y3.ha y3.fu,0))) 1000000 (y3.zs,0))
def oX(R:Psn×Int):V:=.tup [.agg [.int .i64 R.1.f,.int .i64 R.1.r,.sl 1 0 R.1.zs.length none,Bb R.1.bl,.int .u8 R.1.ca,.int .i64 R.1.pa,.int .i64 R.1.ha,.int .i64 R.1.fu],.int .i64 R.2]
def ue(R:Psn×Int):List O:=[.ints true .i8 R.1.zs]
def sZ:CF
 |[.agg [.int .i64 p_0,.int .i64 p_1,.sl 0 0 p_2n none,.bool p_3,.int .u8 p_4,.int .i64 p_5,.int .i64 p_6,.int .i64 p_7]],[.ints false .i8 p_2]=>retC (decide (p_2n=p_2.length)) (KP ⟨p_0,p_1,p_2,p_3,p_4,p_5,p_6,p_7⟩) (⟨0,0,[],false,0,0,0,0⟩,0) oX ue
 |_,_=>none
theorem Bq(p:Psn){r}(hr:KP p=some r):aj (GGx kCa kDb) PP 26 [.agg [.int .i64 p.f,.int .i64 p.r,.sl 0 0 p.zs.length none,Bb p.bl,.int .u8 p.ca,.int .i64 p.pa,.int .i64 p.ha,.int .i64 p.fu]] [.ints false .i8 p.zs] (oX r) (ue r):=by
 have hE:=cutE (aF (kCa:=kCa) (kDb:=kDb) (cts:=[(37,eJ),(67,nu)]) (inl:=[]) ⟨eI,gC,trivial⟩ trivial)
 refine bn hE 2 Tryz.func26 rfl rfl oX ue hr ?_ rfl rfl
 refine cr (pl (decide_eq_true (az rfl)) id) ?_
 refine ay hE 2 rfl ?_ ?_
 ·exact aB (iJ 2 2 (.ints true .i8 []) rfl rfl rfl rfl<|aD [3] (.inr rfl) rfl rfl rfl rfl rfl)
 refine aq (pl (decide_eq_true (az rfl)) id) ?_
 refine bB hE 2 (let x44:=(ypos 2 (Psn.mk p.f p.r (List.take p.zs.length (List.drop 0 p.zs)) p.bl p.ca p.pa p.ha p.fu)).getD (Psn.mk 0 0 [] false 0 0 0 0);let x43:=x44.zs.length;fun(s7:List Int×Int)=>([(2,V.ptr 1 0 0),(3,I 0),(4,V.ptr 2 0 0),(14,I (Int.ofNat x43)),(15,I s7.2)],[O.ints false i8 p.zs,O.cells true [I 0,I 0,V.nils,Bb false,V.int u8 0,I 0,I 0,I 0],O.cells true [I x44.f,I x44.r,V.sl 3 0 x43 none,Bb x44.bl,V.int u8 x44.ca,I x44.pa,I x44.ha,I x44.fu],O.ints true i8 s7.1])) (let x46:=(ypos 2 (Psn.mk p.f p.r (List.take p.zs.length (List.drop 0 p.zs)) p.bl p.ca p.pa p.ha p.fu)).getD (Psn.mk 0 0 [] false 0 0 0 0);fun(s15:List Int)=>([(2,V.ptr 1 0 0),(3,I 0),(4,V.ptr 2 0 0)],[O.ints false i8 p.zs,O.cells true [I 0,I 0,V.nils,Bb false,V.int u8 0,I 0,I 0,I 0],O.cells true [I x46.f,I x46.r,V.sl 3 0 x46.zs.length none,Bb x46.bl,V.int u8 x46.ca,I x46.pa,I x46.ha,I x46.fu],O.ints true i8 s15])) (.exit 0) ((Ent.rn [0,2,4,3] [2,3,4,14,15] rfl rfl rfl rfl rfl)) (fun s7=>?_) (fun s15=>?_)
 ·refine ay hE 2 rfl ?_ ?_
  ·refine aO ?_
   refine aO ?_
   exact bu ((Ent.rn [0,1,2,3] [2,3,4,14,15] rfl rfl rfl rfl rfl))
  exact bA ((Ent.rn [0,1,2,3] [2,3,4] rfl rfl rfl rfl rfl))
 refine af rfl ?_
 refine af rfl ?_
 refine BP (fun h0=>?_)
 exact aB (aD [3] (.inr rfl) rfl rfl rfl rfl (by have qh0:=of_decide_eq_true h0;simp_all [oX]))
theorem xH:CtOk (GGx kCa kDb) PP (26,sZ):=by
 refine aG Tryz.func26 (by kernel_rfl) rfl fun a0 h0 c0 v0 N0 e hc=>?_
 unfold sZ at e
 split at e
 ·rename_i p_0 p_1 p_2n p_3 p_4 p_5 p_6 p_7 p_2
  obtain⟨hl,r,hr,rfl,rfl⟩:=aQ e hc
  simp only[decide_eq_true_eq]at hl
  obtain rfl:=hl
  exact Bq ⟨p_0,p_1,p_2,p_3,p_4,p_5,p_6,p_7⟩ hr
 ·cases e
end
section
variable{kCa kDb:Bool}
def iX(y:Int)(bit:Int):Option (Bool):=aM (!decide (bit=0)) (some (decide ((i64.wrap ((i64.wrap y).tdiv bit)).tmod 2=1)))
def uk(R:Bool):V:=Bb R
def tI(_:Bool):List O:=[]
def tU:CF
 |[.int .u8 y_0,.int .i64 bit_0],[]=>retC true (iX y_0 bit_0) false uk tI
 |_,_=>none
theorem Cf(y:Int)(bit:Int){r}(hr:iX y bit=some r):aj (GGx kCa kDb) PP 102 [.int .u8 y,.int .i64 bit] [] (uk r) (tI r):=by
 have hE:=cutE (aF (kCa:=kCa) (kDb:=kDb) (cts:=[]) (inl:=[]) trivial trivial)
 refine bn hE 2 Tryz.func102 rfl rfl uk tI hr ?_ rfl rfl
 refine aO ?_
 refine af rfl ?_
 exact aB (aD [] (.inr rfl) rfl rfl rfl rfl rfl)
theorem ye:CtOk (GGx kCa kDb) PP (102,tU):=by
 refine aG Tryz.func102 (by kernel_rfl) rfl fun a0 h0 c0 v0 N0 e hc=>?_
 unfold tU at e
 split at e
 ·rename_i y_0 bit_0
  obtain⟨hl,r,hr,rfl,rfl⟩:=aQ e hc
  exact Cf y_0 bit_0 hr
 ·cases e
def yrB(s:Siz)(y:Int):Option (Bool):=some (decide (y<4)||decide (y<8)&&decide (s.f=s.r))
def HF(R:Bool):V:=Bb R
def Ja(_:Bool):List O:=[]
def yu:CF
 |[.agg [.int .i64 s_0,.int .i64 s_1],.int .u8 y_0],[]=>retC true (yrB ⟨s_0,s_1⟩ y_0) false HF Ja
 |_,_=>none
theorem IC(s:Siz)(y:Int){r}(hr:yrB s y=some r):aj (GGx kCa kDb) PP 35 [.agg [.int .i64 s.f,.int .i64 s.r],.int .u8 y] [] (HF r) (Ja r):=by
 have hE:=cutE (aF (kCa:=kCa) (kDb:=kDb) (cts:=[]) (inl:=[]) trivial trivial)
 refine bn hE 2 Tryz.func35 rfl rfl HF Ja hr ?_ rfl rfl
 refine af (Bool.not_or_self _) ?_
 refine af (Bool.not_or_self _) ?_
 refine af (Bool.not_or_self _) ?_
 refine af (Bool.not_or_self _) ?_
 refine af (Bool.not_or_self _) ?_
 refine af (Bool.not_or_self _) ?_
 refine af (Bool.not_or_self _) ?_
 refine af (tt7 _ _) ?_
 refine af (Bool.or_not_self _) ?_
 exact aB (aD [] (.inr rfl) rfl rfl rfl rfl rfl)
theorem jF:CtOk (GGx kCa kDb) PP (35,yu):=by
 refine aG Tryz.func35 (by kernel_rfl) rfl fun a0 h0 c0 v0 N0 e hc=>?_
 unfold yu at e
 split at e
 ·rename_i s_0 s_1 y_0
  obtain⟨hl,r,hr,rfl,rfl⟩:=aQ e hc
  exact IC ⟨s_0,s_1⟩ y_0 hr
 ·cases e
def yrSq(s:Siz)(y:Int)(at_:Int):Option (Int):=let x15:=!decide (s.f=0);aM x15 (aM x15 (aN (iX y 1) false fun(y5:Bool)=>bG (bif y5 then some (Sum.inl (i64.wrap (i64.wrap (s.f-1)-at_.tmod s.f)))else some (Sum.inl (at_.tmod s.f))) fun(s7:Int)=>aN (iX y 2) false fun(y8:Bool)=>bG (bif y8 then some (Sum.inl (i64.wrap (i64.wrap (s.r-1)-i64.wrap (at_.tdiv s.f))))else some (Sum.inl (i64.wrap (at_.tdiv s.f)))) fun(s10:Int)=>aN (iX y 4) false fun(y11:Bool)=>bG (bif y11 then some (Sum.inl (s10,s7))else some (Sum.inl (s7,s10))) fun(s14:Int×Int)=>some (i64.wrap (s14.1+i64.wrap (s14.2*s.f)))))
def Cn(R:Int):V:=.int .i64 R
def Ay(_:Int):List O:=[]
def kq:CF
 |[.agg [.int .i64 s_0,.int .i64 s_1],.int .u8 y_0,.int .i64 at__0],[]=>retC true (yrSq ⟨s_0,s_1⟩ y_0 at__0) 0 Cn Ay
 |_,_=>none
theorem Er(s:Siz)(y:Int)(at_:Int){r}(hr:yrSq s y at_=some r):aj (GGx kCa kDb) PP 47 [.agg [.int .i64 s.f,.int .i64 s.r],.int .u8 y,.int .i64 at_] [] (Cn r) (Ay r):=by
 have hE:=cutE (aF (kCa:=kCa) (kDb:=kDb) (cts:=[(102,tU)]) (inl:=[]) ⟨ye,trivial⟩ trivial)
 refine bn hE 2 Tryz.func47 rfl rfl Cn Ay hr ?_ rfl rfl
 refine af rfl ?_
 refine aO ?_
 refine aO ?_
 refine aq (pl rfl id) ?_
 refine bz hE 2 (fun(s7:Int)=>([(1,V.int u8 y),(3,V.ptr 0 0 0),(6,I 0),(7,I s7),(8,I (i64.wrap (at_.tdiv s.f)))],[O.cells true [I s.f,I s.r]])) rfl ?_ ?_ (fun s7=>?_)
 ·exact aU ((Ent.rn [0] [1,3,6,7,8] rfl rfl rfl rfl rfl))
 ·exact aU ((Ent.rn [0] [1,3,6,7,8] rfl rfl rfl rfl rfl))
 refine aq (pl rfl id) ?_
 refine bz hE 2 (fun(s10:Int)=>([(1,V.int u8 y),(3,V.ptr 0 0 0),(6,I 0),(7,I s7),(8,I s10)],[O.cells true [I s.f,I s.r]])) rfl ?_ ?_ (fun s10=>?_)
 ·exact aU ((Ent.rn [0] [1,3,6,7,8] rfl rfl rfl rfl rfl))
 ·exact aU ((Ent.rn [0] [1,3,6,7,8] rfl rfl rfl rfl rfl))
 refine aq (pl rfl id) ?_
 refine bz hE 2 (fun(s14:Int×Int)=>([(3,V.ptr 0 0 0),(6,I 0),(7,I s14.1),(8,I s14.2)],[O.cells true [I s.f,I s.r]])) rfl ?_ ?_ (fun s14=>?_)
 ·exact aU ((Ent.rn [0] [3,6,7,8] rfl rfl rfl rfl rfl))
 ·exact aU ((Ent.rn [0] [3,6,7,8] rfl rfl rfl rfl rfl))
 exact aB (aD [] (.inr rfl) rfl rfl rfl rfl rfl)
theorem fe:CtOk (GGx kCa kDb) PP (47,kq):=by
 refine aG Tryz.func47 (by kernel_rfl) rfl fun a0 h0 c0 v0 N0 e hc=>?_
 unfold kq at e
 split at e
 ·rename_i s_0 s_1 y_0 at__0
  obtain⟨hl,r,hr,rfl,rfl⟩:=aQ e hc
  exact Er ⟨s_0,s_1⟩ y_0 at__0 hr
 ·cases e
def cD:Siz->Int->Int×Int×Int->Int×Int->Option (Int×Int ⊕ Int ⊕ Int ⊕ Int×Int×Int ⊕ Int ⊕ Int):=fun(s:Siz) (y:Int) (s25:Int×Int×Int) (s30:Int×Int)=>aN (yrSq (Siz.mk s.f s.r) y s25.2.2) 0 fun(y31:Int)=>bif decide (s30.2<y31)then some (Sum.inl (u64.wrap (s30.1*2),i64.wrap (s30.2+1)))else some (Sum.inr (Sum.inl s30.1))
def eR:Siz->Int->Int->(Siz->Int->Int×Int×Int->Int×Int->Option (Int×Int ⊕ Int ⊕ Int ⊕ Int×Int×Int ⊕ Int ⊕ Int))->Int×Int×Int->Option (Int×Int×Int ⊕ Int ⊕ Int):=fun(s:Siz) (y set:Int) (cD:Siz->Int->Int×Int×Int->Int×Int->Option (Int×Int ⊕ Int ⊕ Int ⊕ Int×Int×Int ⊕ Int ⊕ Int)) (s25:Int×Int×Int)=>let x56:=(u64.wrap (set.tdiv s25.2.1)).tmod 2;bif decide (s25.2.2<i64.wrap (s.f*s.r))then aM (!decide (s25.2.1=0)) (bG (bif decide (x56=1)then bx (cD s y s25) (fun(s39:Int)=>some (Sum.inl (u64.wrap (s25.1+s39)))) 1000000 (1,0)else some (Sum.inl s25.1)) fun(s41:Int)=>some (Sum.inl (s41,u64.wrap (s25.2.1*2),i64.wrap (s25.2.2+1))))else some (Sum.inr (Sum.inl s25.1))
def Bh(s:Siz)(y:Int)(set:Int):Option (Int):=bx (eR s y set cD) (fun(s51:Int)=>some s51) 1000000 (0,1,0)
def tc(R:Int):V:=.int .u64 R
def uK(_:Int):List O:=[]
def sI:CF
 |[.agg [.int .i64 s_0,.int .i64 s_1],.int .u8 y_0,.int .u64 set_0],[]=>retC true (Bh ⟨s_0,s_1⟩ y_0 set_0) 0 tc uK
 |_,_=>none
theorem Dm(s:Siz)(y:Int)(set:Int){r}(hr:Bh s y set=some r):aj (GGx kCa kDb) PP 79 [.agg [.int .i64 s.f,.int .i64 s.r],.int .u8 y,.int .u64 set] [] (tc r) (uK r):=by
 have hE:=cutE (aF (kCa:=kCa) (kDb:=kDb) (cts:=[(47,kq)]) (inl:=[]) ⟨fe,trivial⟩ trivial)
 refine bn hE 2 Tryz.func79 rfl rfl tc uK hr ?_ rfl rfl
 refine bB hE 2 (fun(s25:Int×Int×Int)=>([(1,V.int u8 y),(2,U set),(3,V.ptr 0 0 0),(6,U 0),(7,U s25.1),(8,U s25.2.1),(9,I s25.2.2)],[O.cells true [I s.f,I s.r]])) (fun(s51:Int)=>([(6,U 0),(7,U s51)],[])) (.exit 0) ((Ent.rn [0] [1,2,3,6,7,8,9] rfl rfl rfl rfl rfl)) (fun s25=>?_) (fun s51=>?_)
 ·refine ay hE 2 rfl ?_ ?_
  ·refine aO ?_
   refine af rfl ?_
   refine bz hE 2 (fun(s41:Int)=>([(1,V.int u8 y),(2,U set),(3,V.ptr 0 0 0),(6,U 0),(7,U s41),(8,U s25.2.1),(9,I s25.2.2)],[O.cells true [I s.f,I s.r]])) rfl ?_ ?_ (fun s41=>?_)
   ·refine bB hE 2 (fun(s30:Int×Int)=>([(1,V.int u8 y),(2,U set),(3,V.ptr 0 0 0),(6,U 0),(7,U s25.1),(8,U s25.2.1),(9,I s25.2.2),(10,U s30.1),(11,I s30.2)],[O.cells true [I s.f,I s.r]])) (fun(s39:Int)=>([(1,V.int u8 y),(2,U set),(3,V.ptr 0 0 0),(6,U 0),(7,U s25.1),(8,U s25.2.1),(9,I s25.2.2),(10,U s39)],[O.cells true [I s.f,I s.r]])) (.exit 2) ((Ent.rn [0] [1,2,3,6,7,8,9,10,11] rfl rfl rfl rfl rfl)) (fun s30=>?_) (fun s39=>?_)
    ·refine aq (pl rfl id) ?_
     refine ay hE 2 rfl ?_ ?_
     ·exact bu ((Ent.rn [0] [1,2,3,6,7,8,9,10,11] rfl rfl rfl rfl rfl))
     exact bA ((Ent.rn [0] [1,2,3,6,7,8,9,10] rfl rfl rfl rfl rfl))
    exact aU ((Ent.rn [0] [1,2,3,6,7,8,9] rfl rfl rfl rfl rfl))
   ·exact aU ((Ent.rn [0] [1,2,3,6,7,8,9] rfl rfl rfl rfl rfl))
   exact bu ((Ent.rn [0] [1,2,3,6,7,8,9] rfl rfl rfl rfl rfl))
  exact bA ((Ent.rn [] [6,7] rfl rfl rfl rfl rfl))
 exact aB (aD [] (.inr rfl) rfl rfl rfl rfl rfl)
theorem yF:CtOk (GGx kCa kDb) PP (79,sI):=by
 refine aG Tryz.func79 (by kernel_rfl) rfl fun a0 h0 c0 v0 N0 e hc=>?_
 unfold sI at e
 split at e
 ·rename_i s_0 s_1 y_0 set_0
  obtain⟨hl,r,hr,rfl,rfl⟩:=aQ e hc
  exact Dm ⟨s_0,s_1⟩ y_0 set_0 hr
 ·cases e
def pL:Siz->Int×Int->Option (Int×Int ⊕ Int ⊕ Bool):=fun(s:Siz) (s7:Int×Int)=>bif decide (s7.2<i64.wrap (s.f*s.r))then some (Sum.inl (u64.wrap (s7.1.tdiv 2),i64.wrap (s7.2+1)))else some (Sum.inr (Sum.inl s7.1))
def yrWi(s:Siz)(set:Int):Option (Bool):=bx (pL s) (fun(s15:Int)=>some (decide (s15=0))) 1000000 (set,0)
def AD(R:Bool):V:=Bb R
def zI(_:Bool):List O:=[]
def AR:CF
 |[.agg [.int .i64 s_0,.int .i64 s_1],.int .u64 set_0],[]=>retC true (yrWi ⟨s_0,s_1⟩ set_0) false AD zI
 |_,_=>none
theorem EC(s:Siz)(set:Int){r}(hr:yrWi s set=some r):aj (GGx kCa kDb) PP 78 [.agg [.int .i64 s.f,.int .i64 s.r],.int .u64 set] [] (AD r) (zI r):=by
 have hE:=cutE (aF (kCa:=kCa) (kDb:=kDb) (cts:=[]) (inl:=[]) trivial trivial)
 refine bn hE 2 Tryz.func78 rfl rfl AD zI hr ?_ rfl rfl
 refine bB hE 2 (fun(s7:Int×Int)=>([(1,U s7.1),(2,V.ptr 0 0 0),(4,Bb false),(5,I s7.2)],[O.cells true [I s.f,I s.r]])) (fun(s15:Int)=>([(1,U s15),(4,Bb false)],[])) (.exit 0) ((Ent.rn [0] [1,2,4,5] rfl rfl rfl rfl rfl)) (fun s7=>?_) (fun s15=>?_)
 ·refine ay hE 2 rfl ?_ ?_
  ·refine af rfl ?_
   exact bu ((Ent.rn [0] [1,2,4,5] rfl rfl rfl rfl rfl))
  exact bA ((Ent.rn [] [1,4] rfl rfl rfl rfl rfl))
 exact aB (aD [] (.inr rfl) rfl rfl rfl rfl rfl)
theorem AY:CtOk (GGx kCa kDb) PP (78,AR):=by
 refine aG Tryz.func78 (by kernel_rfl) rfl fun a0 h0 c0 v0 N0 e hc=>?_
 unfold AR at e
 split at e
 ·rename_i s_0 s_1 set_0
  obtain⟨hl,r,hr,rfl,rfl⟩:=aQ e hc
  exact EC ⟨s_0,s_1⟩ set_0 hr
 ·cases e
def vb:Int->Int->Int->Bool×Int->Option (Bool×Int ⊕ Bool ⊕ Int ⊕ Unit ⊕ Int):=fun(a b s18:Int) (s22:Bool×Int)=>let x38:=(yrSq (Siz.mk 4 4) a s22.2).getD 0;let x39:=(yrSq (Siz.mk 4 4) s18 s22.2).getD 0;let x37:=(yrSq (Siz.mk 4 4) b x38).getD 0;bif decide (s22.2<16)then aM (!s22.1||(yrSq (Siz.mk 4 4) s18 s22.2).isSome) (aM (!s22.1||(yrSq (Siz.mk 4 4) a s22.2).isSome) (aM (!s22.1||(yrSq (Siz.mk 4 4) b x38).isSome) (some (Sum.inl (s22.1&&decide (x39=x37),i64.wrap (s22.2+1))))))else some (Sum.inr (Sum.inl s22.1))
def HZ:Int->Int->(Int->Int->Int->Bool×Int->Option (Bool×Int ⊕ Bool ⊕ Int ⊕ Unit ⊕ Int))->Int->Option (Int ⊕ Unit ⊕ Int):=fun(a b:Int) (vb:Int->Int->Int->Bool×Int->Option (Bool×Int ⊕ Bool ⊕ Int ⊕ Unit ⊕ Int)) (s18:Int)=>bif decide (s18<8)then bx (vb a b s18) (fun(s30:Bool)=>bif s30 then escO (escO (some s18))else some (Sum.inl (u8.wrap (s18+1)))) 1000000 (true,0)else some (Sum.inr (Sum.inl ()))
def yrCo(a:Int)(b:Int):Option (Int):=bx (HZ a b vb) (fun(_s35:Unit)=>some 0) 1000000 0
def BC(R:Int):V:=.int .u8 R
def BR(_:Int):List O:=[]
def wK:CF
 |[.int .u8 a_0,.int .u8 b_0],[]=>retC true (yrCo a_0 b_0) 0 BC BR
 |_,_=>none
theorem Gd(a:Int)(b:Int){r}(hr:yrCo a b=some r):aj (GGx kCa kDb) PP 13 [.int .u8 a,.int .u8 b] [] (BC r) (BR r):=by
 have hE:=cutE (aF (kCa:=kCa) (kDb:=kDb) (cts:=[(47,kq)]) (inl:=[]) ⟨fe,trivial⟩ trivial)
 refine bn hE 2 Tryz.func13 rfl rfl BC BR hr ?_ rfl rfl
 refine bB hE 2 (fun(s18:Int)=>([(0,V.int u8 a),(1,V.int u8 b),(4,V.int u8 0),(5,V.ptr 0 0 0),(6,V.int u8 s18)],[O.cells true [I 4,I 4]])) (fun(s35:Unit)=>([(4,V.int u8 0)],[])) (.exit 0) ((Ent.rn [0] [0,1,4,5,6] rfl rfl rfl rfl rfl)) (fun s18=>?_) (fun s35=>?_)
 ·refine ay hE 2 rfl ?_ ?_
  ·refine bB hE 2 (fun(s22:Bool×Int)=>([(0,V.int u8 a),(1,V.int u8 b),(4,V.int u8 0),(5,V.ptr 0 0 0),(6,V.int u8 s18),(7,Bb s22.1),(8,I s22.2)],[O.cells true [I 4,I 4]])) (fun(s30:Bool)=>([(0,V.int u8 a),(1,V.int u8 b),(4,V.int u8 0),(5,V.ptr 0 0 0),(6,V.int u8 s18),(7,Bb s30)],[O.cells true [I 4,I 4]])) (.exit 2) ((Ent.rn [0] [0,1,4,5,6,7,8] rfl rfl rfl rfl rfl)) (fun s22=>?_) (fun s30=>?_)
   ·refine ay hE 2 rfl ?_ ?_
    ·refine af rfl ?_
     refine af (Bool.not_or_self _) ?_
     refine af (Bool.not_or_self _) ?_
     refine af (Bool.not_or_self _) ?_
     refine cr (pi (pl rfl id)) ?_
     refine af (Bool.not_or_self _) ?_
     refine af (Bool.not_or_self _) ?_
     refine af (Bool.not_or_self _) ?_
     refine cr (pi (pl rfl id)) ?_
     refine af (Bool.not_or_self _) ?_
     refine af (Bool.not_or_self _) ?_
     refine af (Bool.not_or_self _) ?_
     refine cr (pi (pl rfl id)) ?_
     refine af (Bool.not_or_self _) ?_
     refine af (Bool.not_or_self _) ?_
     refine af (Bool.not_or_self _) ?_
     exact bu ((Ent.rn [0] [0,1,4,5,6,7,8] rfl rfl rfl rfl rfl))
    exact bA ((Ent.rn [0] [0,1,4,5,6,7] rfl rfl rfl rfl rfl))
   refine ay hE 2 rfl ?_ ?_
   ·refine gR (by simp) (eL ?_)
    exact aB (aD [] (.inr rfl) rfl rfl rfl rfl rfl)
   exact bu ((Ent.rn [0] [0,1,4,5,6] rfl rfl rfl rfl rfl))
  exact bA ((Ent.rn [] [4] rfl rfl rfl rfl rfl))
 exact aB (aD [] (.inr rfl) rfl rfl rfl rfl rfl)
theorem pS:CtOk (GGx kCa kDb) PP (13,wK):=by
 refine aG Tryz.func13 (by kernel_rfl) rfl fun a0 h0 c0 v0 N0 e hc=>?_
 unfold wK at e
 split at e
 ·rename_i a_0 b_0
  obtain⟨hl,r,hr,rfl,rfl⟩:=aQ e hc
  exact Gd a_0 b_0 hr
 ·cases e
def Ee:Int->Int->Option (Int ⊕ Unit ⊕ Int):=fun(y s6:Int)=>bif decide (s6<8)then aN (yrCo y s6) 0 fun(y7:Int)=>let x15:=decide (y7=0);aM (!x15||(yrCo s6 y).isSome) (bif x15&&decide ((yrCo s6 y).getD 0=0)then escO (escO (some s6))else some (Sum.inl (u8.wrap (s6+1))))else some (Sum.inr (Sum.inl ()))
def yj(y:Int):Option (Int):=bx (Ee y) (fun(_s12:Unit)=>some 0) 1000000 0
def uO(R:Int):V:=.int .u8 R
def sL(_:Int):List O:=[]
def sR:CF
 |[.int .u8 y_0],[]=>retC true (yj y_0) 0 uO sL
 |_,_=>none
theorem zb(y:Int){r}(hr:yj y=some r):aj (GGx kCa kDb) PP 12 [.int .u8 y] [] (uO r) (sL r):=by
 have hE:=cutE (aF (kCa:=kCa) (kDb:=kDb) (cts:=[(13,wK)]) (inl:=[]) ⟨pS,trivial⟩ trivial)
 refine bn hE 2 Tryz.func12 rfl rfl uO sL hr ?_ rfl rfl
 refine bB hE 2 (fun(s6:Int)=>([(0,V.int u8 y),(2,V.int u8 0),(3,V.int u8 s6)],[])) (fun(s12:Unit)=>([(2,V.int u8 0)],[])) (.exit 0) ((Ent.rn [] [0,2,3] rfl rfl rfl rfl rfl)) (fun s6=>?_) (fun s12=>?_)
 ·refine ay hE 2 rfl ?_ ?_
  ·refine aq (pl rfl id) ?_
   refine af (Bool.not_or_self _) ?_
   refine af (Bool.not_or_self _) ?_
   refine cr (pi (pl rfl id)) ?_
   refine af (Bool.not_or_self _) ?_
   refine af (Bool.not_or_self _) ?_
   refine ay hE 2 rfl ?_ ?_
   ·refine gR (by simp) (eL ?_)
    exact aB (aD [] (.inr rfl) rfl rfl rfl rfl rfl)
   exact bu ((Ent.rn [] [0,2,3] rfl rfl rfl rfl rfl))
  exact bA ((Ent.rn [] [2] rfl rfl rfl rfl rfl))
 exact aB (aD [] (.inr rfl) rfl rfl rfl rfl rfl)
theorem yL:CtOk (GGx kCa kDb) PP (12,sR):=by
 refine aG Tryz.func12 (by kernel_rfl) rfl fun a0 h0 c0 v0 N0 e hc=>?_
 unfold sR at e
 split at e
 ·rename_i y_0
  obtain⟨hl,r,hr,rfl,rfl⟩:=aQ e hc
  exact zb y_0 hr
 ·cases e
def vQ:Siz->List Int×Int->Option (List Int×Int ⊕ List Int ⊕ List Int):=fun(s:Siz) (s9:List Int×Int)=>let x22:=(s9.1.length+1)*1;bif decide (s9.2<8)then aN (yrB (Siz.mk s.f s.r) s9.2) false fun(y10:Bool)=>bG (bif y10 then aM (decide (x22<=140737488355328)) (some (Sum.inl (s9.1++List.take 1 (List.drop 0 (iL [s9.2])))))else some (Sum.inl s9.1)) fun(s12:List Int)=>some (Sum.inl (s12,u8.wrap (s9.2+1)))else some (Sum.inr (Sum.inl s9.1))
def yb(s:Siz):Option (List Int):=bx (vQ s) (fun(s20:List Int)=>some s20) 1000000 ([],0)
def uj(R:List Int):V:=.sl 0 0 R.length none
def uT(R:List Int):List O:=[.ints true .u8 R]
def nJ:CF
 |[.agg [.int .i64 s_0,.int .i64 s_1]],[]=>retC true (yb ⟨s_0,s_1⟩) [] uj uT
 |_,_=>none
theorem zM(s:Siz){r}(hr:yb s=some r):aj (GGx kCa kDb) PP 34 [.agg [.int .i64 s.f,.int .i64 s.r]] [] (uj r) (uT r):=by
 have hE:=cutE (aF (kCa:=kCa) (kDb:=kDb) (cts:=[(35,yu)]) (inl:=[]) ⟨jF,trivial⟩ trivial)
 refine bn hE 2 Tryz.func34 rfl rfl uj uT hr ?_ rfl rfl
 refine bB hE 2 (fun(s9:List Int×Int)=>([(1,V.ptr 0 0 0),(2,V.nils),(3,V.sl 1 0 s9.1.length none),(4,V.int u8 s9.2)],[O.cells true [I s.f,I s.r],O.ints true u8 s9.1])) (fun(s20:List Int)=>([(2,V.nils),(3,V.sl 0 0 s20.length none)],[O.ints true u8 s20])) (.exit 0) ((Ent.phT 3 (O.ints true u8 []) rfl rfl rfl rfl rfl).trans (Ent.rn [0,1] [1,2,3,4] rfl rfl rfl rfl rfl)) (fun s9=>?_) (fun s20=>?_)
 ·refine ay hE 2 rfl ?_ ?_
  ·refine aq (pl rfl id) ?_
   refine bz hE 2 (fun(s12:List Int)=>([(1,V.ptr 0 0 0),(2,V.nils),(3,V.sl 1 0 s12.length none),(4,V.int u8 s9.2)],[O.cells true [I s.f,I s.r],O.ints true u8 s12])) rfl ?_ ?_ (fun s12=>?_)
   ·refine cr (pr (pl (decide_eq_true rfl) id) rfl) ?_
    exact aU ((Ent.rn [0,3] [1,2,3,4] rfl rfl rfl rfl rfl))
   ·exact aU ((Ent.rn [0,1] [1,2,3,4] rfl rfl rfl rfl rfl))
   exact bu ((Ent.rn [0,1] [1,2,3,4] rfl rfl rfl rfl rfl))
  exact bA ((Ent.rn [1] [2,3] rfl rfl rfl rfl rfl))
 exact aB (aD [0] (.inr rfl) rfl rfl rfl rfl rfl)
theorem mG:CtOk (GGx kCa kDb) PP (34,nJ):=by
 refine aG Tryz.func34 (by kernel_rfl) rfl fun a0 h0 c0 v0 N0 e hc=>?_
 unfold nJ at e
 split at e
 ·rename_i s_0 s_1
  obtain⟨hl,r,hr,rfl,rfl⟩:=aQ e hc
  exact zM ⟨s_0,s_1⟩ hr
 ·cases e
def iw:Psn->Int->Option (Int ⊕ Unit ⊕ Bool):=fun(p:Psn) (s5:Int)=>let x12:=decide (p.zs.getD s5.toNat 0=1);let x14:=decide (s5<Int.ofNat p.zs.length);let x13:=decide (0<=s5)&&x14;bif x14 then aM x13 (aM (!!x12||x13) (bif x12||decide (p.zs.getD s5.toNat 0=-1)then escO (escO (some true))else some (Sum.inl (i64.wrap (s5+1)))))else some (Sum.inr (Sum.inl ()))
def yrPa(p:Psn):Option (Bool):=bx (iw p) (fun(_s10:Unit)=>some false) 1000000 0
def BW(R:Bool):V:=Bb R
def Cm(_:Bool):List O:=[]
def Ae:CF
 |[.agg [.int .i64 p_0,.int .i64 p_1,.sl 0 0 p_2n none,.bool p_3,.int .u8 p_4,.int .i64 p_5,.int .i64 p_6,.int .i64 p_7]],[.ints false .i8 p_2]=>retC (decide (p_2n=p_2.length)) (yrPa ⟨p_0,p_1,p_2,p_3,p_4,p_5,p_6,p_7⟩) false BW Cm
 |_,_=>none
theorem Gt(p:Psn){r}(hr:yrPa p=some r):aj (GGx kCa kDb) PP 68 [.agg [.int .i64 p.f,.int .i64 p.r,.sl 0 0 p.zs.length none,Bb p.bl,.int .u8 p.ca,.int .i64 p.pa,.int .i64 p.ha,.int .i64 p.fu]] [.ints false .i8 p.zs] (BW r) (Cm r):=by
 have hE:=cutE (aF (kCa:=kCa) (kDb:=kDb) (cts:=[]) (inl:=[]) trivial trivial)
 refine bn hE 2 Tryz.func68 rfl rfl BW Cm hr ?_ rfl rfl
 refine bB hE 2 (fun(s5:Int)=>([(1,V.ptr 1 0 0),(2,Bb false),(3,I s5)],[O.ints false i8 p.zs,O.cells true [I p.f,I p.r,V.sl 0 0 p.zs.length none,Bb p.bl,V.int u8 p.ca,I p.pa,I p.ha,I p.fu]])) (fun(s10:Unit)=>([(2,Bb false)],[O.ints false i8 p.zs])) (.exit 0) ((Ent.rn [0,1] [1,2,3] rfl rfl rfl rfl rfl)) (fun s5=>?_) (fun s10=>?_)
 ·refine ay hE 2 rfl ?_ ?_
  ·refine aO ?_
   refine af (Bool.not_or_self _) ?_
   refine af (Bool.not_or_self _) ?_
   refine af (Bool.not_or_self _) ?_
   refine aO ?_
   refine af (Bool.not_or_self _) ?_
   refine af (Bool.not_or_self _) ?_
   refine af (Bool.or_not_self _) ?_
   refine ay hE 2 rfl ?_ ?_
   ·refine gR (by simp) (eL ?_)
    exact aB (aD [] (.inr rfl) rfl rfl rfl rfl rfl)
   exact bu ((Ent.rn [0,1] [1,2,3] rfl rfl rfl rfl rfl))
  exact bA ((Ent.rn [0] [2] rfl rfl rfl rfl rfl))
 exact aB (aD [] (.inr rfl) rfl rfl rfl rfl rfl)
theorem CO:CtOk (GGx kCa kDb) PP (68,Ae):=by
 refine aG Tryz.func68 (by kernel_rfl) rfl fun a0 h0 c0 v0 N0 e hc=>?_
 unfold Ae at e
 split at e
 ·rename_i p_0 p_1 p_2n p_3 p_4 p_5 p_6 p_7 p_2
  obtain⟨hl,r,hr,rfl,rfl⟩:=aQ e hc
  simp only[decide_eq_true_eq]at hl
  obtain rfl:=hl
  exact Gt ⟨p_0,p_1,p_2,p_3,p_4,p_5,p_6,p_7⟩ hr
 ·cases e
def yrAl(p:Psn):Option (List Int):=bif !decide (p.ca=0)then some (iL [0])else aN (yrPa (Psn.mk p.f p.r (List.take p.zs.length (List.drop 0 p.zs)) p.bl p.ca p.pa p.ha p.fu)) false fun(y3:Bool)=>bif y3 then some (iL [0,1])else aN (yb (Siz.mk p.f p.r)) [] fun(y4:List Int)=>some y4
def As(R:List Int):V:=.sl 1 0 R.length none
def Bu(R:List Int):List O:=[.ints true .u8 R]
def vp:CF
 |[.agg [.int .i64 p_0,.int .i64 p_1,.sl 0 0 p_2n none,.bool p_3,.int .u8 p_4,.int .i64 p_5,.int .i64 p_6,.int .i64 p_7]],[.ints false .i8 p_2]=>retC (decide (p_2n=p_2.length)) (yrAl ⟨p_0,p_1,p_2,p_3,p_4,p_5,p_6,p_7⟩) [] As Bu
 |_,_=>none
theorem Gv(p:Psn){r}(hr:yrAl p=some r):aj (GGx kCa kDb) PP 22 [.agg [.int .i64 p.f,.int .i64 p.r,.sl 0 0 p.zs.length none,Bb p.bl,.int .u8 p.ca,.int .i64 p.pa,.int .i64 p.ha,.int .i64 p.fu]] [.ints false .i8 p.zs] (As r) (Bu r):=by
 have hE:=cutE (aF (kCa:=kCa) (kDb:=kDb) (cts:=[(34,nJ),(68,Ae)]) (inl:=[]) ⟨mG,CO,trivial⟩ trivial)
 refine bn hE 2 Tryz.func22 rfl rfl As Bu hr ?_ rfl rfl
 refine ay hE 2 rfl ?_ ?_
 ·exact aB (aD [2] (.inr rfl) rfl rfl rfl rfl rfl)
 refine aq (pl (decide_eq_true (az rfl)) id) ?_
 refine ay hE 2 rfl ?_ ?_
 ·exact aB (aD [2] (.inr rfl) rfl rfl rfl rfl rfl)
 refine aq (pl rfl id) ?_
 exact aB (aD [2] (.inr rfl) rfl rfl rfl rfl rfl)
theorem pQ:CtOk (GGx kCa kDb) PP (22,vp):=by
 refine aG Tryz.func22 (by kernel_rfl) rfl fun a0 h0 c0 v0 N0 e hc=>?_
 unfold vp at e
 split at e
 ·rename_i p_0 p_1 p_2n p_3 p_4 p_5 p_6 p_7 p_2
  obtain⟨hl,r,hr,rfl,rfl⟩:=aQ e hc
  simp only[decide_eq_true_eq]at hl
  obtain rfl:=hl
  exact Gv ⟨p_0,p_1,p_2,p_3,p_4,p_5,p_6,p_7⟩ hr
 ·cases e
def HB:List Int->Int->Int->Option (Int ⊕ Unit ⊕ Bool):=fun(l:List Int) (y s6:Int)=>let x13:=decide (s6<Int.ofNat l.length);bif x13 then aM (decide (0<=s6)&&x13) (bif decide (l.getD s6.toNat 0=y)then escO (escO (some true))else some (Sum.inl (i64.wrap (s6+1))))else some (Sum.inr (Sum.inl ()))
def yrIn(l:List Int)(y:Int):Option (Bool):=bx (HB l y) (fun(_s11:Unit)=>some false) 1000000 0
def DJ(R:Bool):V:=Bb R
def BA(_:Bool):List O:=[]
def Ao:CF
 |[.sl 0 0 l_0n none,.int .u8 y_0],[.ints false .u8 l_0]=>retC (decide (l_0n=l_0.length)) (yrIn l_0 y_0) false DJ BA
 |_,_=>none
theorem Fv(l:List Int)(y:Int){r}(hr:yrIn l y=some r):aj (GGx kCa kDb) PP 39 [.sl 0 0 l.length none,.int .u8 y] [.ints false .u8 l] (DJ r) (BA r):=by
 have hE:=cutE (aF (kCa:=kCa) (kDb:=kDb) (cts:=[]) (inl:=[]) trivial trivial)
 refine bn hE 2 Tryz.func39 rfl rfl DJ BA hr ?_ rfl rfl
 refine bB hE 2 (fun(s6:Int)=>([(0,V.sl 0 0 l.length none),(1,V.int u8 y),(4,Bb false),(5,I s6)],[O.ints false u8 l])) (fun(s11:Unit)=>([(4,Bb false)],[O.ints false u8 l])) (.exit 0) ((Ent.rn [0] [0,1,4,5] rfl rfl rfl rfl rfl)) (fun s6=>?_) (fun s11=>?_)
 ·refine ay hE 2 rfl ?_ ?_
  ·refine aO ?_
   refine ay hE 2 rfl ?_ ?_
   ·refine gR (by simp) (eL ?_)
    exact aB (aD [] (.inr rfl) rfl rfl rfl rfl rfl)
   exact bu ((Ent.rn [0] [0,1,4,5] rfl rfl rfl rfl rfl))
  exact bA ((Ent.rn [0] [4] rfl rfl rfl rfl rfl))
 exact aB (aD [] (.inr rfl) rfl rfl rfl rfl rfl)
theorem CY:CtOk (GGx kCa kDb) PP (39,Ao):=by
 refine aG Tryz.func39 (by kernel_rfl) rfl fun a0 h0 c0 v0 N0 e hc=>?_
 unfold Ao at e
 split at e
 ·rename_i l_0n y_0 l_0
  obtain⟨hl,r,hr,rfl,rfl⟩:=aQ e hc
  simp only[decide_eq_true_eq]at hl
  obtain rfl:=hl
  exact Fv l_0 y_0 hr
 ·cases e
def jM:Psn->Int->List Int×Int->Option (List Int×Int ⊕ List Int ⊕ Psn):=fun(p:Psn) (y:Int)=>let x29:=Int.ofNat (List.replicate p.zs.length (0:Int)).length;fun(s8:List Int×Int)=>let x31:=decide (s8.2<Int.ofNat p.zs.length);bif x31 then aN (yrSq (Siz.mk p.f p.r) y s8.2) 0 fun(y9:Int)=>aM (decide (0<=s8.2)&&x31) (aM (decide (0<=y9)&&decide (y9<x29)) (some (Sum.inl (s8.1.set y9.toNat (p.zs.getD s8.2.toNat 0),i64.wrap (s8.2+1)))))else some (Sum.inr (Sum.inl s8.1))
def rj(p:Psn)(y:Int):Option (Psn):=let x34:=p.zs.length*1;aM (decide (x34<=140737488355328)&&decide (p.zs.length<=140737488355328)) (bx (jM p y) (fun(s17:List Int)=>bG (bif decide (0<=p.pa)then aN (yrSq (Siz.mk p.f p.r) y p.pa) 0 fun(y18:Int)=>some (Sum.inl y18)else some (Sum.inl p.pa)) fun(s20:Int)=>aM (decide ((List.replicate p.zs.length (0:Int)).length=s17.length)) (some (Psn.mk p.f p.r s17 p.bl p.ca s20 p.ha p.fu))) 1000000 (List.replicate p.zs.length (0:Int),0))
def oN(R:Psn):V:=.agg [.int .i64 R.f,.int .i64 R.r,.sl 1 0 R.zs.length none,Bb R.bl,.int .u8 R.ca,.int .i64 R.pa,.int .i64 R.ha,.int .i64 R.fu]
def uo(R:Psn):List O:=[.ints true .i8 R.zs]
def pG:CF
 |[.agg [.int .i64 p_0,.int .i64 p_1,.sl 0 0 p_2n none,.bool p_3,.int .u8 p_4,.int .i64 p_5,.int .i64 p_6,.int .i64 p_7],.int .u8 y_0],[.ints false .i8 p_2]=>retC (decide (p_2n=p_2.length)) (rj ⟨p_0,p_1,p_2,p_3,p_4,p_5,p_6,p_7⟩ y_0) ⟨0,0,[],false,0,0,0,0⟩ oN uo
 |_,_=>none
theorem CT(p:Psn)(y:Int){r}(hr:rj p y=some r):aj (GGx kCa kDb) PP 63 [.agg [.int .i64 p.f,.int .i64 p.r,.sl 0 0 p.zs.length none,Bb p.bl,.int .u8 p.ca,.int .i64 p.pa,.int .i64 p.ha,.int .i64 p.fu],.int .u8 y] [.ints false .i8 p.zs] (oN r) (uo r):=by
 have hE:=cutE (aF (kCa:=kCa) (kDb:=kDb) (cts:=[(47,kq)]) (inl:=[]) ⟨fe,trivial⟩ trivial)
 refine bn hE 2 Tryz.func63 rfl rfl oN uo hr ?_ rfl rfl
 refine cr (pb (pl (decide_eq_true rfl) id) id) ?_
 refine bB hE 2 (let x38:=[Bb p.bl,V.int u8 p.ca,I p.pa,I p.ha,I p.fu];fun(s8:List Int×Int)=>([(1,V.int u8 y),(2,V.ptr 1 0 0),(4,V.ptr 2 0 0),(5,V.ptr 3 0 0),(6,I s8.2)],[O.ints false i8 p.zs,O.cells true (I p.f::I p.r::V.sl 0 0 p.zs.length none::x38),O.cells true [I 0,I 0,V.nils,Bb false,V.int u8 0,I 0,I 0,I 0],O.cells true (I p.f::I p.r::V.sl 4 0 (List.replicate p.zs.length (0:Int)).length none::x38),O.ints true i8 s8.1])) (let x40:=[Bb p.bl,V.int u8 p.ca,I p.pa,I p.ha,I p.fu];fun(s17:List Int)=>([(1,V.int u8 y),(2,V.ptr 1 0 0),(4,V.ptr 2 0 0),(5,V.ptr 3 0 0)],[O.ints false i8 p.zs,O.cells true (I p.f::I p.r::V.sl 0 0 p.zs.length none::x40),O.cells true [I 0,I 0,V.nils,Bb false,V.int u8 0,I 0,I 0,I 0],O.cells true (I p.f::I p.r::V.sl 4 0 (List.replicate p.zs.length (0:Int)).length none::x40),O.ints true i8 s17])) (.exit 0) ((Ent.rn [0,1,2,3,4] [1,2,4,5,6] rfl rfl rfl rfl rfl)) (fun s8=>?_) (fun s17=>?_)
 ·refine ay hE 2 rfl ?_ ?_
  ·refine af rfl ?_
   refine aq (pl rfl id) ?_
   refine aO ?_
   refine aO ?_
   exact bu ((Ent.rn [0,1,2,3,4] [1,2,4,5,6] rfl rfl rfl rfl rfl))
  exact bA ((Ent.rn [0,1,2,3,4] [1,2,4,5] rfl rfl rfl rfl rfl))
 refine bz hE 2 (fun(s20:Int)=>([(4,V.ptr 1 0 0),(5,V.ptr 2 0 0)],[O.ints false i8 p.zs,O.cells true [I 0,I 0,V.nils,Bb false,V.int u8 0,I 0,I 0,I 0],O.cells true [I p.f,I p.r,V.sl 3 0 (List.replicate p.zs.length (0:Int)).length none,Bb p.bl,V.int u8 p.ca,I s20,I p.ha,I p.fu],O.ints true i8 s17])) rfl ?_ ?_ (fun s20=>?_)
 ·refine aq (pl rfl id) ?_
  exact aU ((Ent.rn [0,2,3,4] [4,5] rfl rfl rfl rfl rfl))
 ·exact aU ((Ent.rn [0,2,3,4] [4,5] rfl rfl rfl rfl rfl))
 refine BP (fun h0=>?_)
 exact aB (aD [3] (.inr rfl) rfl rfl rfl rfl (by have qh0:=of_decide_eq_true h0;simp_all [oN]))
theorem nv:CtOk (GGx kCa kDb) PP (63,pG):=by
 refine aG Tryz.func63 (by kernel_rfl) rfl fun a0 h0 c0 v0 N0 e hc=>?_
 unfold pG at e
 split at e
 ·rename_i p_0 p_1 p_2n p_3 p_4 p_5 p_6 p_7 y_0 p_2
  obtain⟨hl,r,hr,rfl,rfl⟩:=aQ e hc
  simp only[decide_eq_true_eq]at hl
  obtain rfl:=hl
  exact CT ⟨p_0,p_1,p_2,p_3,p_4,p_5,p_6,p_7⟩ y_0 hr
 ·cases e
def Dw(s:Siz)(y:Int)(m:Mov):Option (Mov):=aN (yrSq (Siz.mk s.f s.r) y m.a) 0 fun(y5:Int)=>aN (yrSq (Siz.mk s.f s.r) y m.b) 0 fun(y6:Int)=>some (Mov.mk y5 y6 m.p)
def rV(R:Mov):V:=.agg [.int .i64 R.a,.int .i64 R.b,.int .i8 R.p]
def uR(_:Mov):List O:=[]
def tG:CF
 |[.agg [.int .i64 s_0,.int .i64 s_1],.int .u8 y_0,.agg [.int .i64 m_0,.int .i64 m_1,.int .i8 m_2]],[]=>retC true (Dw ⟨s_0,s_1⟩ y_0 ⟨m_0,m_1,m_2⟩) ⟨0,0,0⟩ rV uR
 |_,_=>none
theorem Du(s:Siz)(y:Int)(m:Mov){r}(hr:Dw s y m=some r):aj (GGx kCa kDb) PP 73 [.agg [.int .i64 s.f,.int .i64 s.r],.int .u8 y,.agg [.int .i64 m.a,.int .i64 m.b,.int .i8 m.p]] [] (rV r) (uR r):=by
 have hE:=cutE (aF (kCa:=kCa) (kDb:=kDb) (cts:=[(47,kq)]) (inl:=[]) ⟨fe,trivial⟩ trivial)
 refine bn hE 2 Tryz.func73 rfl rfl rV uR hr ?_ rfl rfl
 refine af rfl ?_
 refine aq (pl rfl id) ?_
 refine aq (pl rfl id) ?_
 exact aB (aD [] (.inr rfl) rfl rfl rfl rfl rfl)
theorem yH:CtOk (GGx kCa kDb) PP (73,tG):=by
 refine aG Tryz.func73 (by kernel_rfl) rfl fun a0 h0 c0 v0 N0 e hc=>?_
 unfold tG at e
 split at e
 ·rename_i s_0 s_1 y_0 m_0 m_1 m_2
  obtain⟨hl,r,hr,rfl,rfl⟩:=aQ e hc
  exact Du ⟨s_0,s_1⟩ y_0 ⟨m_0,m_1,m_2⟩ hr
 ·cases e
def pK:Psn->List Int×Int->Option (List Int×Int ⊕ List Int ⊕ Psn):=fun(y3:Psn) (s7:List Int×Int)=>let x26:=decide (s7.2<Int.ofNat y3.zs.length);let x25:=decide (0<=s7.2)&&x26;bif x26 then aM x25 (aM x25 (some (Sum.inl (s7.1.set s7.2.toNat (i8.wrap (0-s7.1.getD s7.2.toNat 0)),i64.wrap (s7.2+1)))))else some (Sum.inr (Sum.inl s7.1))
def yrFl(p:Psn):Option (Psn):=aN (rj (Psn.mk p.f p.r (List.take p.zs.length (List.drop 0 p.zs)) p.bl p.ca p.pa p.ha p.fu) 2) (Psn.mk 0 0 [] false 0 0 0 0) fun(y3:Psn)=>bx (pK y3) (fun(s15:List Int)=>aM (decide (y3.zs.length=s15.length)) (some (Psn.mk y3.f y3.r s15 (!p.bl) (u8.wrap (u8.wrap (p.ca.tmod 4*4)+u8.wrap (p.ca.tdiv 4))) y3.pa y3.ha y3.fu))) 1000000 (y3.zs,0)
def wE(R:Psn):V:=.agg [.int .i64 R.f,.int .i64 R.r,.sl 1 0 R.zs.length none,Bb R.bl,.int .u8 R.ca,.int .i64 R.pa,.int .i64 R.ha,.int .i64 R.fu]
def CW(R:Psn):List O:=[.ints true .i8 R.zs]
def zG:CF
 |[.agg [.int .i64 p_0,.int .i64 p_1,.sl 0 0 p_2n none,.bool p_3,.int .u8 p_4,.int .i64 p_5,.int .i64 p_6,.int .i64 p_7]],[.ints false .i8 p_2]=>retC (decide (p_2n=p_2.length)) (yrFl ⟨p_0,p_1,p_2,p_3,p_4,p_5,p_6,p_7⟩) ⟨0,0,[],false,0,0,0,0⟩ wE CW
 |_,_=>none
theorem FC(p:Psn){r}(hr:yrFl p=some r):aj (GGx kCa kDb) PP 27 [.agg [.int .i64 p.f,.int .i64 p.r,.sl 0 0 p.zs.length none,Bb p.bl,.int .u8 p.ca,.int .i64 p.pa,.int .i64 p.ha,.int .i64 p.fu]] [.ints false .i8 p.zs] (wE r) (CW r):=by
 have hE:=cutE (aF (kCa:=kCa) (kDb:=kDb) (cts:=[(63,pG)]) (inl:=[]) ⟨nv,trivial⟩ trivial)
 refine bn hE 2 Tryz.func27 rfl rfl wE CW hr ?_ rfl rfl
 unfold yrFl
 refine aq (pl (decide_eq_true (az rfl)) id) ?_
 refine bB hE 2 (let x30:=(rj (Psn.mk p.f p.r (List.take p.zs.length (List.drop 0 p.zs)) p.bl p.ca p.pa p.ha p.fu) 2).getD (Psn.mk 0 0 [] false 0 0 0 0);fun(s7:List Int×Int)=>([(1,V.ptr 1 0 0),(2,V.ptr 2 0 0),(3,V.ptr 3 0 0),(4,I s7.2)],[O.ints false i8 p.zs,O.cells true [I p.f,I p.r,V.sl 0 0 p.zs.length none,Bb p.bl,V.int u8 p.ca,I p.pa,I p.ha,I p.fu],O.cells true [I 0,I 0,V.nils,Bb false,V.int u8 0,I 0,I 0,I 0],O.cells true [I x30.f,I x30.r,V.sl 4 0 x30.zs.length none,Bb x30.bl,V.int u8 x30.ca,I x30.pa,I x30.ha,I x30.fu],O.ints true i8 s7.1])) (let x32:=(rj (Psn.mk p.f p.r (List.take p.zs.length (List.drop 0 p.zs)) p.bl p.ca p.pa p.ha p.fu) 2).getD (Psn.mk 0 0 [] false 0 0 0 0);fun(s15:List Int)=>([(1,V.ptr 1 0 0),(2,V.ptr 2 0 0),(3,V.ptr 3 0 0)],[O.ints false i8 p.zs,O.cells true [I p.f,I p.r,V.sl 0 0 p.zs.length none,Bb p.bl,V.int u8 p.ca,I p.pa,I p.ha,I p.fu],O.cells true [I 0,I 0,V.nils,Bb false,V.int u8 0,I 0,I 0,I 0],O.cells true [I x32.f,I x32.r,V.sl 4 0 x32.zs.length none,Bb x32.bl,V.int u8 x32.ca,I x32.pa,I x32.ha,I x32.fu],O.ints true i8 s15])) (.exit 0) ((Ent.rn [0,1,2,4,3] [1,2,3,4] rfl rfl rfl rfl rfl)) (fun s7=>?_) (fun s15=>?_)
 ·refine ay hE 2 rfl ?_ ?_
  ·refine af rfl ?_
   refine aO ?_
   refine aO ?_
   exact bu ((Ent.rn [0,1,2,3,4] [1,2,3,4] rfl rfl rfl rfl rfl))
  exact bA ((Ent.rn [0,1,2,3,4] [1,2,3] rfl rfl rfl rfl rfl))
 refine af rfl ?_
 refine af rfl ?_
 refine BP (fun h0=>?_)
 exact aB (aD [4] (.inr rfl) rfl rfl rfl rfl (by have qh0:=of_decide_eq_true h0;simp_all [wE]))
theorem Cc:CtOk (GGx kCa kDb) PP (27,zG):=by
 refine aG Tryz.func27 (by kernel_rfl) rfl fun a0 h0 c0 v0 N0 e hc=>?_
 unfold zG at e
 split at e
 ·rename_i p_0 p_1 p_2n p_3 p_4 p_5 p_6 p_7 p_2
  obtain⟨hl,r,hr,rfl,rfl⟩:=aQ e hc
  simp only[decide_eq_true_eq]at hl
  obtain rfl:=hl
  exact FC ⟨p_0,p_1,p_2,p_3,p_4,p_5,p_6,p_7⟩ hr
 ·cases e
def tw(s:Siz)(y:Int)(at_:Int):Option (Int×Int):=bif !vsB s.f s.r||decide (7<y)||decide (at_<0)||decide (i64.wrap (s.f*s.r)<=at_)then some (0,2)else aN (yrB (Siz.mk s.f s.r) y) false fun(y5:Bool)=>bif !y5 then some (0,3)else aN (yrSq (Siz.mk s.f s.r) y at_) 0 fun(y6:Int)=>some (y6,0)
def uW(R:Int×Int):V:=.tup [.int .i64 R.1,.int .i64 R.2]
def si(_:Int×Int):List O:=[]
def vh:CF
 |[.agg [.int .i64 s_0,.int .i64 s_1],.int .u8 y_0,.int .i64 at__0],[]=>retC true (tw ⟨s_0,s_1⟩ y_0 at__0) (0,0) uW si
 |_,_=>none
theorem Bt(s:Siz)(y:Int)(at_:Int){r}(hr:tw s y at_=some r):aj (GGx kCa kDb) PP 31 [.agg [.int .i64 s.f,.int .i64 s.r],.int .u8 y,.int .i64 at_] [] (uW r) (si r):=by
 have hE:=cutE (aF (kCa:=kCa) (kDb:=kDb) (cts:=[(33,gq),(35,yu),(47,kq)]) (inl:=[]) ⟨dD,jF,fe,trivial⟩ trivial)
 refine bn hE 2 Tryz.func31 rfl rfl uW si hr ?_ rfl rfl
 refine af rfl ?_
 refine af (Bool.not_or_self _) ?_
 refine af (Bool.or_not_self _) ?_
 refine af (Bool.not_or_self _) ?_
 refine af (Bool.or_not_self _) ?_
 refine af (Bool.not_or_self _) ?_
 refine af (Bool.not_or_self _) ?_
 refine af (Bool.not_or_self _) ?_
 refine af (Bool.not_or_self _) ?_
 refine af (Bool.not_or_self _) ?_
 refine af (Bool.not_or_self _) ?_
 refine af (Bool.or_not_self _) ?_
 refine ay hE 2 rfl ?_ ?_
 ·exact aB (aD [] (.inr rfl) rfl rfl rfl rfl rfl)
 refine aq (pl rfl id) ?_
 refine ay hE 2 rfl ?_ ?_
 ·exact aB (aD [] (.inr rfl) rfl rfl rfl rfl rfl)
 refine aq (pl rfl id) ?_
 exact aB (aD [] (.inr rfl) rfl rfl rfl rfl rfl)
theorem xn:CtOk (GGx kCa kDb) PP (31,vh):=by
 refine aG Tryz.func31 (by kernel_rfl) rfl fun a0 h0 c0 v0 N0 e hc=>?_
 unfold vh at e
 split at e
 ·rename_i s_0 s_1 y_0 at__0
  obtain⟨hl,r,hr,rfl,rfl⟩:=aQ e hc
  exact Bt ⟨s_0,s_1⟩ y_0 at__0 hr
 ·cases e
def uC(s:Siz)(y:Int)(set:Int):Option (Int×Int):=let x7:=!vsB s.f s.r||decide (7<y);aM (!!x7||(yrWi (Siz.mk s.f s.r) set).isSome) (bif x7||!(yrWi (Siz.mk s.f s.r) set).getD false then some (0,2)else aN (yrB (Siz.mk s.f s.r) y) false fun(y5:Bool)=>bif !y5 then some (0,3)else aN (Bh (Siz.mk s.f s.r) y set) 0 fun(y6:Int)=>some (y6,0))
def vj(R:Int×Int):V:=.tup [.int .u64 R.1,.int .i64 R.2]
def uV(_:Int×Int):List O:=[]
def ug:CF
 |[.agg [.int .i64 s_0,.int .i64 s_1],.int .u8 y_0,.int .u64 set_0],[]=>retC true (uC ⟨s_0,s_1⟩ y_0 set_0) (0,0) vj uV
 |_,_=>none
theorem AG(s:Siz)(y:Int)(set:Int){r}(hr:uC s y set=some r):aj (GGx kCa kDb) PP 32 [.agg [.int .i64 s.f,.int .i64 s.r],.int .u8 y,.int .u64 set] [] (vj r) (uV r):=by
 have hE:=cutE (aF (kCa:=kCa) (kDb:=kDb) (cts:=[(33,gq),(35,yu),(78,AR),(79,sI)]) (inl:=[]) ⟨dD,jF,AY,yF,trivial⟩ trivial)
 refine bn hE 2 Tryz.func32 rfl rfl vj uV hr ?_ rfl rfl
 refine af rfl ?_
 refine af (Bool.not_or_self _) ?_
 refine af (Bool.or_not_self _) ?_
 refine af (Bool.not_or_self _) ?_
 refine af (Bool.not_or_self _) ?_
 refine cr (pi (pl rfl id)) ?_
 refine af (Bool.not_or_self _) ?_
 refine af (Bool.or_not_self _) ?_
 refine ay hE 2 rfl ?_ ?_
 ·exact aB (aD [] (.inr rfl) rfl rfl rfl rfl rfl)
 refine aq (pl rfl id) ?_
 refine ay hE 2 rfl ?_ ?_
 ·exact aB (aD [] (.inr rfl) rfl rfl rfl rfl rfl)
 refine aq (pl rfl id) ?_
 exact aB (aD [] (.inr rfl) rfl rfl rfl rfl rfl)
theorem xA:CtOk (GGx kCa kDb) PP (32,ug):=by
 refine aG Tryz.func32 (by kernel_rfl) rfl fun a0 h0 c0 v0 N0 e hc=>?_
 unfold ug at e
 split at e
 ·rename_i s_0 s_1 y_0 set_0
  obtain⟨hl,r,hr,rfl,rfl⟩:=aQ e hc
  exact AG ⟨s_0,s_1⟩ y_0 set_0 hr
 ·cases e
def iG(s:Siz)(y:Int)(m:Mov):Option (Mov×Int):=let x16:=Mov.mk 0 0 0;bif !vsB s.f s.r||decide (7<y)||!mvB s.f s.r m.a m.b m.p then some (x16,2)else aN (yrB (Siz.mk s.f s.r) y) false fun(y5:Bool)=>bif !y5 then some (x16,3)else aN (Dw (Siz.mk s.f s.r) y (Mov.mk m.a m.b m.p)) x16 fun(y6:Mov)=>some (Mov.mk y6.a y6.b y6.p,0)
def uy(R:Mov×Int):V:=.tup [.agg [.int .i64 R.1.a,.int .i64 R.1.b,.int .i8 R.1.p],.int .i64 R.2]
def tu(_:Mov×Int):List O:=[]
def sC:CF
 |[.agg [.int .i64 s_0,.int .i64 s_1],.int .u8 y_0,.agg [.int .i64 m_0,.int .i64 m_1,.int .i8 m_2]],[]=>retC true (iG ⟨s_0,s_1⟩ y_0 ⟨m_0,m_1,m_2⟩) (⟨0,0,0⟩,0) uy tu
 |_,_=>none
theorem yZ(s:Siz)(y:Int)(m:Mov){r}(hr:iG s y m=some r):aj (GGx kCa kDb) PP 24 [.agg [.int .i64 s.f,.int .i64 s.r],.int .u8 y,.agg [.int .i64 m.a,.int .i64 m.b,.int .i8 m.p]] [] (uy r) (tu r):=by
 have hE:=cutE (aF (kCa:=kCa) (kDb:=kDb) (cts:=[(33,gq),(35,yu),(40,ko),(73,tG)]) (inl:=[]) ⟨dD,jF,rB,yH,trivial⟩ trivial)
 refine bn hE 2 Tryz.func24 rfl rfl uy tu hr ?_ rfl rfl
 refine af rfl ?_
 refine af (Bool.not_or_self _) ?_
 refine af (Bool.or_not_self _) ?_
 refine af (Bool.not_or_self _) ?_
 refine af (Bool.not_or_self _) ?_
 refine af (pg rfl) ?_
 refine af (Bool.not_or_self _) ?_
 refine af (Bool.or_not_self _) ?_
 refine ay hE 2 rfl ?_ ?_
 ·exact aB (aD [] (.inr rfl) rfl rfl rfl rfl rfl)
 refine aq (pl rfl id) ?_
 refine ay hE 2 rfl ?_ ?_
 ·exact aB (aD [] (.inr rfl) rfl rfl rfl rfl rfl)
 refine aq (pl rfl id) ?_
 exact aB (aD [] (.inr rfl) rfl rfl rfl rfl rfl)
theorem xx:CtOk (GGx kCa kDb) PP (24,sC):=by
 refine aG Tryz.func24 (by kernel_rfl) rfl fun a0 h0 c0 v0 N0 e hc=>?_
 unfold sC at e
 split at e
 ·rename_i s_0 s_1 y_0 m_0 m_1 m_2
  obtain⟨hl,r,hr,rfl,rfl⟩:=aQ e hc
  exact yZ ⟨s_0,s_1⟩ y_0 ⟨m_0,m_1,m_2⟩ hr
 ·cases e
def Gp:List Int->List Int->Int->Option (Int ⊕ Unit ⊕ Bool):=fun(l want:List Int) (s7:Int)=>let x14:=decide (0<=s7);let x15:=decide (s7<Int.ofNat want.length);bif x15 then aM (x14&&decide (s7<Int.ofNat l.length)) (aM (x14&&x15) (bif !decide (l.getD s7.toNat 0=want.getD s7.toNat 0)then escO (escO (some false))else some (Sum.inl (i64.wrap (s7+1)))))else some (Sum.inr (Sum.inl ()))
def mj(l:List Int)(e:Int)(want:List Int):Option (Bool):=bif !decide (e=0)||!decide (Int.ofNat l.length=Int.ofNat want.length)then some false else bx (Gp l want) (fun(_s12:Unit)=>some true) 1000000 0
def tE(R:Bool):V:=Bb R
def vf(_:Bool):List O:=[]
def lY:CF
 |[.sl 0 0 l_0n none,.int .i64 e_0,.sl 1 0 want_0n none],[.ints false .u8 l_0,.ints false .u8 want_0]=>retC (decide (l_0n=l_0.length)&&decide (want_0n=want_0.length)) (mj l_0 e_0 want_0) false tE vf
 |_,_=>none
theorem AP(l:List Int)(e:Int)(want:List Int){r}(hr:mj l e want=some r):aj (GGx kCa kDb) PP 21 [.sl 0 0 l.length none,.int .i64 e,.sl 1 0 want.length none] [.ints false .u8 l,.ints false .u8 want] (tE r) (vf r):=by
 have hE:=cutE (aF (kCa:=kCa) (kDb:=kDb) (cts:=[]) (inl:=[]) trivial trivial)
 refine bn hE 2 Tryz.func21 rfl rfl tE vf hr ?_ rfl rfl
 refine af (Bool.not_or_self _) ?_
 refine af (Bool.not_or_self _) ?_
 refine af (Bool.not_or_self _) ?_
 refine af (Bool.not_or_self _) ?_
 refine af (Bool.or_not_self _) ?_
 refine ay hE 2 rfl ?_ ?_
 ·exact aB (aD [] (.inr rfl) rfl rfl rfl rfl rfl)
 refine bB hE 2 (fun(s7:Int)=>([(0,V.sl 0 0 l.length none),(2,V.sl 1 0 want.length none),(6,Bb false),(7,I s7)],[O.ints false u8 l,O.ints false u8 want])) (fun(s12:Unit)=>([(6,Bb false)],[O.ints false u8 l,O.ints false u8 want])) (.exit 0) ((Ent.rn [0,1] [0,2,6,7] rfl rfl rfl rfl rfl)) (fun s7=>?_) (fun s12=>?_)
 ·refine ay hE 2 rfl ?_ ?_
  ·refine af rfl ?_
   refine aO ?_
   refine aO ?_
   refine ay hE 2 rfl ?_ ?_
   ·refine gR (by simp) (eL ?_)
    exact aB (aD [] (.inr rfl) rfl rfl rfl rfl rfl)
   exact bu ((Ent.rn [0,1] [0,2,6,7] rfl rfl rfl rfl rfl))
  exact bA ((Ent.rn [0,1] [6] rfl rfl rfl rfl rfl))
 exact aB (aD [] (.inr rfl) rfl rfl rfl rfl rfl)
theorem iy:CtOk (GGx kCa kDb) PP (21,lY):=by
 refine aG Tryz.func21 (by kernel_rfl) rfl fun a0 h0 c0 v0 N0 e hc=>?_
 unfold lY at e
 split at e
 ·rename_i l_0n e_0 want_0n l_0 want_0
  obtain⟨hl,r,hr,rfl,rfl⟩:=aQ e hc
  simp only[Bool.and_eq_true,decide_eq_true_eq]at hl
  obtain⟨rfl,rfl⟩:=hl
  exact AP l_0 e_0 want_0 hr
 ·cases e
end
end Go.Ab
namespace Go.Ab
def ynv(a:Int):Int:=([0,1,2,3,4,6,5,7]:List Int).getD a.toNat 0
theorem KM:((List.range 8).all fun a=>(List.range 8).all fun b=>decide (ythn (Int.ofNat a) (Int.ofNat b)=yrCo (Int.ofNat a) (Int.ofNat b))&&(yrCo (Int.ofNat a) (Int.ofNat b)).isSome)=true:=by kernel_rfl
theorem Ls:((List.range 8).all fun a=>decide (yj (Int.ofNat a)=some (ynv (Int.ofNat a))))=true:=by kernel_rfl
theorem of8{a:Int}(h0:0<=a)(h8:a<8):∃ n,n∈List.range 8/\a=Int.ofNat n:=⟨a.toNat,List.mem_range.2 (by omega),by simp only[Int.ofNat_eq_natCast];omega⟩
theorem MD{a b:Int}(ha:0<=a)(ha8:a<8)(hb:0<=b)(hb8:b<8):∃ c,ythn a b=some c/\yrCo a b=some c:=by
 obtain⟨n,hn,rfl⟩:=of8 ha ha8
 obtain⟨m,hm,rfl⟩:=of8 hb hb8
 have:=List.all_eq_true.1 (List.all_eq_true.1 KM n hn) m hm
 rw[Bool.and_eq_true,decide_eq_true_eq]at this
 obtain⟨h1,h2⟩:=this
 obtain⟨c,hc⟩:=Option.isSome_iff_exists.1 h2
 exact⟨c,by rw[h1,hc],hc⟩
theorem MO{a:Int}(ha:0<=a)(ha8:a<8):yj a=some (ynv a):=by
 obtain⟨n,hn,rfl⟩:=of8 ha ha8
 exact of_decide_eq_true (List.all_eq_true.1 Ls n hn)
theorem EU:((List.range 8).all fun a=>decide (yhas (Int.ofNat a) 1=iX (Int.ofNat a) 1)&&decide (yhas (Int.ofNat a) 2=iX (Int.ofNat a) 2)&&decide (yhas (Int.ofNat a) 4=iX (Int.ofNat a) 4)
 && decide (iX (Int.ofNat a) 4=some (!decide (Int.ofNat a<4))))=true:=by kernel_rfl
theorem zz{y:Int}(h0:0<=y)(h8:y<8):yhas y 1=iX y 1/\yhas y 2=iX y 2/\yhas y 4=iX y 4/\iX y 4=some (!decide (y<4)):=by
 obtain⟨n,hn,rfl⟩:=of8 h0 h8
 have:=List.all_eq_true.1 EU n hn
 simp only[Bool.and_eq_true,decide_eq_true_eq]at this
 exact⟨this.1.1.1,this.1.1.2,this.1.2,this.2⟩
theorem ng{y:Int}(h0:0<=y)(h8:y<8)(s:Siz)(a:Int):ysq y s a=yrSq s y a:=by
 obtain⟨h1,h2,h3,_⟩:=zz h0 h8
 unfold ysq yrSq
 rw[h1,h2,h3]
 simp only[Int.add_comm]
theorem Ly{y:Int}(h0:0<=y)(h8:y<8)(s:Siz):yof y s=yrB s y:=by
 obtain⟨_,_,h3,h4⟩:=zz h0 h8
 unfold yof yrB
 rw[h3,h4,aH,decide_eq_true h8]
 simp
theorem sg{y:Int}(h0:0<=y)(s:Siz)(fine:Bool):ychk s y fine=bif !vsB s.f s.r||decide (7<y)||!fine then some 2 else aN (yrB s y) false fun b=>bif !b then some 3 else some 0:=by
 unfold ychk
 rw[show decide (8<=y)=decide (7<y)from rfl]
 by_cases h:y<8
 ·rw[Ly h0 h]
 ·have:decide (7<y)=true:=by simp;omega
  rw[this];simp
theorem DN(a b:Int):decide (b<=a)=!decide (a<b):=by by_cases h:a<b<;>simp[h]<;>omega
theorem JE{y:Int}(h0:0<=y)(s:Siz)(a:Int):ysqE s y a=tw s y a:=by
 unfold ysqE tw
 rw[sg h0]
 unfold aA
 rw[DN a (IntKind.i64.wrap (s.f*s.r)),show decide (a<0)=!decide (0<=a) by rw[DN a 0];simp]
 cases vsB s.f s.r with
 |false=>rfl
 |true=>
  by_cases hy:y<8
  ·rw[show decide (7<y)=false by simp;omega]
   cases decide (0<=a) with
   |false=>rfl
   |true=>
    cases decide (a<IntKind.i64.wrap (s.f*s.r)) with
    |false=>rfl
    |true=>
     rw[ng h0 hy]
     unfold yrB
     cases(decide (y<4)||decide (y<8)&&decide (s.f=s.r))<;>rfl
  ·rw[show decide (7<y)=true by simp;omega]
   simp
theorem yV{y:Int}(h0:0<=y)(s:Siz)(m:Mov):yMov s y m=iG s y m:=by
 unfold yMov iG
 rw[sg h0]
 cases vsB s.f s.r with
 |false=>rfl
 |true=>
  by_cases hy:y<8
  ·rw[show decide (7<y)=false by simp;omega]
   cases mvB s.f s.r m.a m.b m.p with
   |false=>rfl
   |true=>
    rw[ng h0 hy,ng h0 hy]
    unfold yrB Dw
    cases(decide (y<4)||decide (y<8)&&decide (s.f=s.r)) with
    |false=>rfl
    |true=>
     show (aN (yrSq ⟨s.f,s.r⟩ y m.a) 0 fun a=>aN (yrSq ⟨s.f,s.r⟩ y m.b) 0 fun b=>some ((⟨a,b,m.p⟩:Mov),(0:Int)))=_
     cases yrSq ⟨s.f,s.r⟩ y m.a with
     |none=>rfl
     |some a=>cases yrSq ⟨s.f,s.r⟩ y m.b<;>rfl
  ·rw[show decide (7<y)=true by simp;omega]
   simp
def yaL(b:Bool):List Int:=bif b then[0,1,2,3,4,5,6,7] else[0,1,2,3]
def yaS(b:Bool)(s9:List Int×Int):Option (List Int×Int ⊕ List Int ⊕ List Int×Int):=let x22:=(s9.1.length+1)*1;bif decide (s9.2<8)then aN (aN (yhas s9.2 4) false fun y4=>some (!y4||b)) false fun(y10:Bool)=>bG (bif y10 then aM (decide (x22<=140737488355328)) (some (.inl (s9.1++List.take 1 (List.drop 0 (iL [s9.2])))))else some (.inl s9.1)) fun(s12:List Int)=>some (.inl (s12,IntKind.u8.wrap (s9.2+1)))else some (.inr (.inl s9.1))
def yrS(b:Bool)(s9:List Int×Int):Option (List Int×Int ⊕ List Int ⊕ List Int):=let x22:=(s9.1.length+1)*1;bif decide (s9.2<8)then aN (some (decide (s9.2<4)||decide (s9.2<8)&&b)) false fun(y10:Bool)=>bG (bif y10 then aM (decide (x22<=140737488355328)) (some (.inl (s9.1++List.take 1 (List.drop 0 (iL [s9.2])))))else some (.inl s9.1)) fun(s12:List Int)=>some (.inl (s12,IntKind.u8.wrap (s9.2+1)))else some (.inr (.inl s9.1))
theorem Iy(b:Bool):bx (yaS b) (fun(s20:List Int)=>some (s20,(0:Int))) 1000000 ([],0)=some (yaL b,0):=by cases b<;>kernel_rfl
theorem HC(b:Bool):bx (yrS b) (fun(s20:List Int)=>some s20) 1000000 ([],0)=some (yaL b):=by cases b<;>kernel_rfl
theorem Af(s:Siz):yall s=bif vsB s.f s.r then some (yaL (decide (s.f=s.r)),0)else some ([],2):=by
 unfold yall
 rw[show zj s=yaS (decide (s.f=s.r))from rfl,Iy]
 cases vsB s.f s.r<;>rfl
theorem vw(s:Siz):yb s=some (yaL (decide (s.f=s.r))):=by
 unfold yb
 rw[show vQ s=yrS (decide (s.f=s.r))from rfl,HC]
def KK(f r y j:Nat):Bool:=match yrSq ⟨Int.ofNat f,Int.ofNat r⟩ (Int.ofNat y) (Int.ofNat j) with
 |some q=>decide (0<=q)&&decide (q<Int.ofNat (f*r))&&decide (yrSq ⟨Int.ofNat f,Int.ofNat r⟩ (ynv (Int.ofNat y)) q=some (Int.ofNat j))
 |none=>false
theorem LL:((List.range' 3 6).all fun f=>(List.range' 3 6).all fun r=>(List.range 8).all fun y=>(decide (4<=y)&&!decide (f=r))||(List.range (f*r)).all fun j=>KK f r y j)=true:=by kernel_rfl
theorem AF{f r y j:Int}(hv:vsB f r=true)(h0:0<=y)(h8:y<8)(hb:y<4\/f=r)(j0:0<=j)(jn:j<f*r) :
  ∃ q,yrSq ⟨f,r⟩ y j=some q/\0<=q/\q<f*r/\yrSq ⟨f,r⟩ (ynv y) q=some j:=by
 obtain⟨f1,f2,r1,r2⟩:=cS hv
 obtain⟨F,rfl⟩:∃ F:Nat,f=Int.ofNat F:=⟨f.toNat,by simp only[Int.ofNat_eq_natCast];omega⟩
 obtain⟨R,rfl⟩:∃ R:Nat,r=Int.ofNat R:=⟨r.toNat,by simp only[Int.ofNat_eq_natCast];omega⟩
 obtain⟨Y,rfl⟩:∃ Y:Nat,y=Int.ofNat Y:=⟨y.toNat,by simp only[Int.ofNat_eq_natCast];omega⟩
 obtain⟨J,rfl⟩:∃ J:Nat,j=Int.ofNat J:=⟨j.toNat,by simp only[Int.ofNat_eq_natCast];omega⟩
 simp only[Int.ofNat_eq_natCast]at f1 f2 r1 r2 h8 hb jn
 have h1:=List.all_eq_true.1 LL F (List.mem_range'_1.2 ⟨by omega,by omega⟩)
 have h2:=List.all_eq_true.1 h1 R (List.mem_range'_1.2 ⟨by omega,by omega⟩)
 have h3:=List.all_eq_true.1 h2 Y (List.mem_range.2 (by omega))
 rw[Bool.or_eq_true]at h3
 rcases h3 with h3|h3
 ·simp only[Bool.and_eq_true,decide_eq_true_eq,Bool.not_eq_true',decide_eq_false_iff_not]at h3
  omega
 ·have h4:=List.all_eq_true.1 h3 J (List.mem_range.2 (by have:((F*R:Nat):Int)=(F:Int)*(R:Int):=Int.natCast_mul F R;omega))
  unfold KK at h4
  split at h4
  ·rename_i q hq
   simp only[Bool.and_eq_true,decide_eq_true_eq]at h4
   refine⟨q,hq,h4.1.1,?_,h4.2⟩
   have:(Int.ofNat (F*R))=Int.ofNat F*Int.ofNat R:=Int.natCast_mul F R
   rw[<-this];exact h4.1.2
  ·cases h4
end Go.Ab
namespace Go.Ab
open IntKind
section
def tS(set:Int)(q:Nat->Int):Nat->Int
 |0=>0
 |k+1=>bif bt set k then uor (tS set q k) (ushl 1 (q k))else tS set q k
theorem JY(set:Int)(q:Nat->Int):∀ k,Uk (tS set q k)
 |0=>uk_0
 |k+1=>by
  unfold tS
  cases bt set k
  ·exact JY set q k
  ·exact pJ _ _
theorem Jf{set:Int}{q:Nat->Int}(hq:∀ j,0<=q j/\q j<64){m:Nat}:∀ k,bt (tS set q k) m=true->∃ j,j<k/\q j=m
 |0,h=>by rw[tS,bt_0]at h;cases h
 |k+1,h=>by
  unfold tS at h
  cases hb:bt set k with
  |false=>
   rw[hb]at h
   obtain⟨j,h1,h2⟩:=Jf hq k h
   exact⟨j,by omega,h2⟩
  |true=>
   rw[hb]at h
   have h:bt (uor (tS set q k) (ushl 1 (q k))) m=true:=h
   rw[kJ (JY set q k) (lB _ _),mb (hq k).1 (hq k).2,Bool.or_eq_true]at h
   rcases h with h|h
   ·obtain⟨j,h1,h2⟩:=Jf hq k h
    exact⟨j,by omega,h2⟩
   ·exact⟨k,by omega,of_decide_eq_true h⟩
section
variable{f r y set:Int}(hv:vsB f r=true)(h0:0<=y)(h8:y<8)(hb:y<4\/f=r)(hs:Uk set)
def qv(f r y:Int)(j:Nat):Int:=bif decide ((j:Int)<f*r) then(yrSq ⟨f,r⟩ y j).getD 0 else 0
include hv h0 h8 hb in
theorem jv{j:Nat}(hj:(j:Int)<f*r):yrSq ⟨f,r⟩ y j=some (qv f r y j)/\0<=qv f r y j/\qv f r y j<f*r/\yrSq ⟨f,r⟩ (ynv y) (qv f r y j)=some (j:Int):=by
 obtain⟨q,h1,h2,h3,h4⟩:=AF hv h0 h8 hb (Int.natCast_nonneg j) hj
 have:qv f r y j=q:=by unfold qv;rw[decide_eq_true hj,h1];rfl
 rw[this];exact⟨h1,h2,h3,h4⟩
include hv h0 h8 hb in
theorem La(j:Nat):0<=qv f r y j/\qv f r y j<64:=by
 obtain⟨m1,m2⟩:=bF hv
 by_cases hj:(j:Int)<f*r
 ·obtain⟨_,h1,h2,_⟩:=jv hv h0 h8 hb hj
  exact⟨h1,by omega⟩
 ·have:qv f r y j=0:=by unfold qv;rw[decide_eq_false hj];rfl
  rw[this];exact⟨Int.le_refl _,by decide⟩
include hv h0 h8 hb in
theorem GN{i j:Nat}(hi:(i:Int)<f*r)(hj:(j:Int)<f*r)(h:qv f r y i=qv f r y j):i=j:=by
 obtain⟨_,_,_,h4⟩:=jv hv h0 h8 hb hi
 obtain⟨_,_,_,h5⟩:=jv hv h0 h8 hb hj
 rw[h,h5]at h4
 have:=Option.some.inj h4
 omega
include hv in
theorem nC:i64.wrap (f*r)=f*r:=by
 obtain⟨m1,m2⟩:=bF hv
 exact aK (by omega) (by omega)
include hv h0 h8 hb hs in
theorem BQ{k:Nat}(hk:(k:Int)<f*r):iT ⟨f,r⟩ y set (tS set (qv f r y) k,(k:Int))=some (.inl (tS set (qv f r y) (k+1),((k+1:Nat):Int))):=by
 obtain⟨m1,m2⟩:=bF hv
 obtain⟨a1,a2,a3,_⟩:=jv hv h0 h8 hb hk
 have hw:i64.wrap ((k:Int)+1)=((k+1:Nat):Int):=by rw[aK (by omega) (by omega)];omega
 have hH:zv set (k:Int)=some (bt set k):=by
  unfold zv
  have:=vv hs (Int.natCast_nonneg k) (show (k:Int)<64 by omega)
  rw[Int.toNat_natCast]at this
  simp only[uand,ushr,Int.toNat_natCast]at this
  simp only[Int.toNat_natCast]
  rw[this,decide_eq_true (Int.natCast_nonneg k),decide_eq_true (show (k:Int)<64 by omega)]
  rfl
 unfold iT
 dsimp only
 rw[nC hv,decide_eq_true hk,hH,ng h0 h8,a1,hw]
 cases h:bt set k with
 |false=>simp only[aH,cond_false,cond_true,bG,tS,h]
 |true=>
  simp only[aH,cond_true,bG,tS,h,decide_eq_true a2,aP]
include hv h0 h8 hb hs in
theorem rF(F:Int->Option (Int×Int))(e:Nat):∀ (d k:Nat),((k+d:Nat):Int)=f*r->bx (iT ⟨f,r⟩ y set) F (d+1+e) (tS set (qv f r y) k,(k:Int))=F (tS set (qv f r y) (k+d))
 |0,k,hk=>by
  rw[show 0+1+e=e+1 by omega]
  refine bR ?_
  unfold iT
  dsimp only
  rw[nC hv,decide_eq_false (by omega)]
  rfl
 |d+1,k,hk=>by
  rw[show d+1+1+e=(d+1+e)+1 by omega]
  rw[bQ (BQ hv h0 h8 hb hs (by omega))]
  rw[rF F e d (k+1) (by rw[<-hk];omega)]
  rw[show k+1+d=k+(d+1) by omega]
include hv in
theorem k_lt{k:Nat}(hk:(k:Int)<f*r):k<64:=by
 obtain⟨m1,m2⟩:=bF hv
 omega
theorem p64{k:Nat}(hk:k<64):(2:Nat)^k<2^64:=Nat.pow_lt_pow_right (by decide) hk
theorem Jj(hs:Uk set)(k:Nat):decide ((u64.wrap (set.tdiv ((2^k:Nat):Int))).tmod 2=1)=bt set k:=by
 obtain⟨s1,s2⟩:=hs
 obtain⟨S,rfl⟩:∃ S:Nat,set=(S:Int):=⟨set.toNat,by omega⟩
 have h1:(S:Int).tdiv ((2^k:Nat):Int)=((S/2^k:Nat):Int):=by
  rw[Int.tdiv_eq_ediv_of_nonneg (Int.natCast_nonneg S)];rfl
 have h2:S/2^k<=S:=Nat.div_le_self _ _
 rw[h1,ja ⟨Int.natCast_nonneg _,by omega⟩]
 have h3:((S/2^k:Nat):Int).tmod 2=((S/2^k%2:Nat):Int):=by
  rw[Int.tmod_eq_emod_of_nonneg (Int.natCast_nonneg _)];rfl
 rw[h3]
 unfold bt
 rw[Int.toNat_natCast,Nat.testBit_eq_decide_div_mod_eq]
 by_cases h:S/2^k%2=1
 ·rw[h];rfl
 ·rw[decide_eq_false h,decide_eq_false (by omega)]
include hv h0 h8 hb in
theorem wk{k:Nat}(hk:(k:Int)<f*r)(o b:Int)(F:Int->Option (Int ⊕ Int×Int×Int ⊕ Int ⊕ Int))(e:Nat):∀ (d i:Nat),((i+d:Nat):Int)=qv f r y k->bx (cD ⟨f,r⟩ y (o,b,(k:Int))) F (d+1+e) (((2^i:Nat):Int),(i:Int))=F ((2^(i+d):Nat):Int)
 |0,i,hi=>by
  obtain⟨a1,_,_,_⟩:=jv hv h0 h8 hb hk
  rw[show 0+1+e=e+1 by omega]
  refine bR ?_
  unfold cD
  dsimp only
  rw[a1,aH,decide_eq_false (by omega)]
  rfl
 |d+1,i,hi=>by
  obtain⟨a1,a2,a3,_⟩:=jv hv h0 h8 hb hk
  obtain⟨m1,m2⟩:=bF hv
  have hp:(2:Nat)^(i+1)<2^64:=p64 (by omega)
  have h1:u64.wrap (((2^i:Nat):Int)*2)=((2^(i+1):Nat):Int):=by
   rw[show ((2^i:Nat):Int)*2=((2^(i+1):Nat):Int) by rw[Nat.pow_succ,Int.natCast_mul];rfl]
   exact ja ⟨Int.natCast_nonneg _,by omega⟩
  have h2:i64.wrap ((i:Int)+1)=((i+1:Nat):Int):=by rw[aK (by omega) (by omega)];omega
  rw[show d+1+1+e=(d+1+e)+1 by omega]
  rw[bQ (s':=(((2^(i+1):Nat):Int),((i+1:Nat):Int))) (by
   unfold cD
   dsimp only
   rw[a1,aH,decide_eq_true (by omega),h1,h2]
   rfl)]
  rw[wk hk o b F e d (i+1) (by rw[<-hi];omega)]
  rw[show i+1+d=i+(d+1) by omega]
def bk(k:Nat):Int:=u64.wrap ((2^k:Nat):Int)
theorem Mo{k:Nat}(hk:k<64):bk k=((2^k:Nat):Int):=by
 have:=p64 hk
 exact ja ⟨Int.natCast_nonneg _,by omega⟩
include hv h0 h8 hb hs in
theorem xj{k:Nat}(hk:(k:Int)<f*r):eR ⟨f,r⟩ y set cD (tS set (qv f r y) k,bk k,(k:Int))=some (.inl (tS set (qv f r y) (k+1),bk (k+1),((k+1:Nat):Int))):=by
 have k64:=k_lt hv hk
 obtain⟨a1,a2,a3,_⟩:=jv hv h0 h8 hb hk
 obtain⟨q1,q2⟩:=La hv h0 h8 hb k
 have hw:i64.wrap ((k:Int)+1)=((k+1:Nat):Int):=by rw[aK (by omega) (by omega)];omega
 have hbk:u64.wrap (((2^k:Nat):Int)*2)=bk (k+1):=by
  unfold bk
  rw[show ((2^k:Nat):Int)*2=((2^(k+1):Nat):Int) by rw[Nat.pow_succ,Int.natCast_mul];rfl]
 have hpos:(0:Int)<((2^k:Nat):Int):=by exact_mod_cast Nat.two_pow_pos k
 unfold eR
 dsimp only
 rw[Mo k64,Jj hs k,nC hv,decide_eq_true hk,hw,hbk,decide_eq_false (show ¬ ((2^k:Nat):Int)=0 by omega)]
 cases h:bt set k with
 |false=>simp only[cond_true,cond_false,bG,tS,h,aP,Bool.not_false]
 |true=>
  obtain⟨Q,hQ⟩:∃ Q:Nat,qv f r y k=Q:=⟨(qv f r y k).toNat,by omega⟩
  have hin:=wk hv h0 h8 hb hk (tS set (qv f r y) k) ((2^k:Nat):Int) (fun(s39:Int)=>some (Sum.inl (u64.wrap (tS set (qv f r y) k+s39)))) (999999-Q) Q 0 (by rw[hQ];omega)
  rw[show Q+1+(999999-Q)=1000000 by omega,Nat.zero_add]at hin
  have hin:bx (cD ⟨f,r⟩ y (tS set (qv f r y) k,((2^k:Nat):Int),(k:Int))) (fun(s39:Int)=>some (Sum.inl (u64.wrap (tS set (qv f r y) k+s39)))) 1000000 (1,0)=_:=hin
  simp only[cond_true,aP,Bool.not_false]
  rw[hin]
  have hsh:((2^Q:Nat):Int)=ushl 1 (qv f r y k):=by rw[Lj q1 q2,hQ,Int.toNat_natCast]
  have hno:bt (tS set (qv f r y) k) (qv f r y k).toNat=false:=by
   cases hx:bt (tS set (qv f r y) k) (qv f r y k).toNat with
   |false=>rfl
   |true=>
    obtain⟨j,j1,j2⟩:=Jf (La hv h0 h8 hb) k hx
    have:j=k:=GN hv h0 h8 hb (by omega) hk (by rw[j2];omega)
    omega
  simp only[bG]
  rw[hsh,GQ (JY _ _ _) q1 q2 hno]
  simp only[tS,h,cond_true]
include hv h0 h8 hb hs in
theorem iv(F:Int->Option Int)(e:Nat):∀ (d k:Nat),((k+d:Nat):Int)=f*r->bx (eR ⟨f,r⟩ y set cD) F (d+1+e) (tS set (qv f r y) k,bk k,(k:Int))=F (tS set (qv f r y) (k+d))
 |0,k,hk=>by
  rw[show 0+1+e=e+1 by omega]
  refine bR ?_
  unfold eR
  dsimp only
  rw[nC hv,decide_eq_false (by omega)]
  rfl
 |d+1,k,hk=>by
  rw[show d+1+1+e=(d+1+e)+1 by omega]
  rw[bQ (xj hv h0 h8 hb hs (by omega))]
  rw[iv F e d (k+1) (by rw[<-hk];omega)]
  rw[show k+1+d=k+(d+1) by omega]
end
end
end Go.Ab
namespace Go.Ab
section
variable{f r:Int}(hv:vsB f r=true)
include hv in
theorem qN(F:Int->Option Bool)(e:Nat){S:Nat}(hS:S<18446744073709551616):∀ (d k:Nat),((k+d:Nat):Int)=f*r->bx (pL ⟨f,r⟩) F (d+1+e) (((S/2^k:Nat):Int),(k:Int))=F ((S/2^(k+d):Nat):Int)
 |0,k,hk=>by
  rw[show 0+1+e=e+1 by omega]
  refine bR ?_
  unfold pL
  dsimp only
  rw[nC hv,decide_eq_false (by omega)]
  rfl
 |d+1,k,hk=>by
  obtain⟨m1,m2⟩:=bF hv
  have hw:IntKind.i64.wrap ((k:Int)+1)=((k+1:Nat):Int):=by rw[aK (by omega) (by omega)];omega
  have hd:((S/2^k:Nat):Int).tdiv 2=((S/2^(k+1):Nat):Int):=by
   rw[Int.tdiv_eq_ediv_of_nonneg (Int.natCast_nonneg _),Nat.pow_succ,<-Nat.div_div_eq_div_mul];rfl
  have hle:S/2^(k+1)<=S:=Nat.div_le_self _ _
  rw[show d+1+1+e=(d+1+e)+1 by omega]
  rw[bQ (s':=(((S/2^(k+1):Nat):Int),((k+1:Nat):Int))) (by
   unfold pL
   dsimp only
   rw[nC hv,decide_eq_true (by omega),hd,hw,ja ⟨Int.natCast_nonneg _,by omega⟩]
   rfl)]
  rw[qN F e hS d (k+1) (by rw[<-hk];omega)]
  rw[show k+1+d=k+(d+1) by omega]
include hv in
theorem zK{set:Int}(hs:Uk set):yrWi ⟨f,r⟩ set=some (decide (qG set (allU f r)=0)):=by
 obtain⟨m1,m2⟩:=bF hv
 have hs':=hs
 obtain⟨s1,s2⟩:=hs'
 obtain⟨S,rfl⟩:∃ S:Nat,set=(S:Int):=⟨set.toNat,by omega⟩
 obtain⟨n,hn⟩:∃ n:Nat,f*r=n:=⟨(f*r).toNat,by omega⟩
 have h1:=qN hv (fun(s15:Int)=>some (decide (s15=0))) (999999-n) (S:=S) (by omega) n 0 (by rw[hn];omega)
 rw[show n+1+(999999-n)=1000000 by omega,Nat.zero_add]at h1
 have h1:yrWi ⟨f,r⟩ (S:Int)=some (decide (((S/2^n:Nat):Int)=0)):=by
  unfold yrWi
  rw[<-h1,Nat.pow_zero,Nat.div_one];rfl
 rw[h1]
 congr 1
 have hiff:(((S/2^n:Nat):Int)=0)↔qG (S:Int) (allU f r)=0:=by
  obtain⟨ha,hb⟩:=Hs hv
  rw[tP (yW _ _)]
  constructor
  ·intro h m hm
   rw[nE hs ha,hb]
   by_cases hmn:m<n
   ·rw[decide_eq_true (by omega)];simp
   ·have hlt:S<2^n:=by
     have:S/2^n=0:=by omega
     rcases Nat.lt_or_ge S (2^n)with h|h
     ·exact h
     ·have:=Nat.div_pos h (Nat.two_pow_pos n);omega
    have:bt (S:Int) m=false:=by
     unfold bt
     rw[Int.toNat_natCast]
     exact Nat.testBit_lt_two_pow (Nat.lt_of_lt_of_le hlt (Nat.pow_le_pow_right (by decide) (by omega)))
    rw[this];rfl
  ·intro h
   have hlt:S<2^n:=by
    refine Nat.lt_pow_two_of_testBit S fun m hm=>?_
    by_cases h64:m<64
    ·have:=h m h64
     rw[nE hs ha,hb,decide_eq_false (by omega)]at this
     unfold bt at this
     simpa using this
    ·have:=FB hs (Nat.le_of_not_lt h64)
     unfold bt at this
     simpa using this
   have:=Nat.div_eq_of_lt hlt
   omega
 by_cases h:qG (S:Int) (allU f r)=0
 ·rw[decide_eq_true h,decide_eq_true (hiff.2 h)]
 ·rw[decide_eq_false h,decide_eq_false fun e=>h (hiff.1 e)]
end
theorem II{y set:Int}(h0:0<=y)(hs:Uk set)(s:Siz):yset s y set=uC s y set:=by
 obtain⟨f,r⟩:=s
 unfold yset uC
 dsimp only
 rw[sg h0]
 dsimp only
 cases hv:vsB f r with
 |false=>rfl
 |true=>
  by_cases hy:y<8
  ·rw[show decide (7<y)=false by simp;omega,zK hv hs]
   simp only[Bool.not_true,Bool.not_false,Bool.false_or,Bool.or_false,Option.isSome_some,Bool.or_true,aP,Option.getD_some,cond_true]
   cases decide (band BinOp.andNot IntKind.u64 set (allU f r)=0) with
   |false=>rfl
   |true=>
    simp only[Bool.not_true,cond_false]
    cases hb:(decide (y<4)||decide (y<8)&&decide (f=r)) with
    |false=>unfold yrB;dsimp only;rw[hb];rfl
    |true=>
     unfold yrB
     dsimp only
     rw[hb]
     have hb:y<4\/f=r:=by
      simp only[Bool.or_eq_true,Bool.and_eq_true,decide_eq_true_eq]at hb
      exact hb.imp_right (·.2)
     obtain⟨m1,m2⟩:=bF hv
     obtain⟨n,hn⟩:∃ n:Nat,f*r=n:=⟨(f*r).toNat,by omega⟩
     have e1:=rF hv h0 hy hb hs (fun(s25:Int)=>some (s25,(0:Int))) (999999-n) n 0 (by rw[hn];omega)
     have e2:=iv hv h0 hy hb hs (fun(s51:Int)=>some s51) (999999-n) n 0 (by rw[hn];omega)
     rw[show n+1+(999999-n)=1000000 by omega,Nat.zero_add]at e1 e2
     have e1:bx (iT ⟨f,r⟩ y set) (fun(s25:Int)=>some (s25,(0:Int))) 1000000 (0,0)=_:=e1
     have e2:bx (eR ⟨f,r⟩ y set cD) (fun(s51:Int)=>some s51) 1000000 (0,1,0)=_:=e2
     simp only[aH,Bool.not_true,cond_false,decide_true]
     unfold Bh
     rw[e1,e2]
     rfl
  ·rw[show decide (7<y)=true by simp;omega]
   simp
end Go.Ab
namespace Go.Ab
open IntKind
open Go.Proofs
section
variable{kCa kDb:Bool}
def iS:Psn->List Int×Int->Int->Option (Int ⊕ Int ⊕ List Int×Nat):=fun(p:Psn) (y3:List Int×Int) (s15:Int)=>let x23:=decide (0<=s15);let x24:=decide (s15<Int.ofNat p.zs.length);bif x24 then aM (x23&&x24) (bif decide (p.zs.getD s15.toNat 0=1)||decide (p.zs.getD s15.toNat 0=-1)then escO (escO (bif x23 then aM (decide (2<=Int.ofNat y3.1.length)) (some (y3.1,2))else some (y3.1,y3.1.length)))else some (Sum.inl (i64.wrap (s15+1))))else some (Sum.inr (Sum.inl s15))
def yalW(p:Psn):Option (List Int×Nat):=aN (yall (Siz.mk p.f p.r)) ([],0) fun(y3:List Int×Int)=>bif !decide (p.ca=0)then aM (decide (1<=Int.ofNat y3.1.length)) (some (y3.1,1))else bx (iS p y3) (fun(_:Int)=>some (y3.1,y3.1.length)) 1000000 0
def zX(R:List Int×Nat):V:=.sl 1 0 R.2 none
def An(R:List Int×Nat):List O:=[.ints true .u8 R.1]
def mE:CF
 |[.agg [.int .i64 p_0,.int .i64 p_1,.sl 0 0 p_2n none,.bool p_3,.int .u8 p_4,.int .i64 p_5,.int .i64 p_6,.int .i64 p_7]],[.ints false .i8 p_2]=>retC (decide (p_2n=p_2.length)) (yalW ⟨p_0,p_1,p_2,p_3,p_4,p_5,p_6,p_7⟩) ([],0) zX An
 |_,_=>none
theorem Eu(p:Psn){r}(hr:yalW p=some r):aj (GGx kCa kDb) PP 65 [.agg [.int .i64 p.f,.int .i64 p.r,.sl 0 0 p.zs.length none,Bb p.bl,.int .u8 p.ca,.int .i64 p.pa,.int .i64 p.ha,.int .i64 p.fu]] [.ints false .i8 p.zs] (zX r) (An r):=by
 have hE:=cutE (aF (kCa:=kCa) (kDb:=kDb) (cts:=[(28,qI)]) (inl:=[(119,Tryz.f119),(149,Tryz.f149),(120,Tryz.f120)]) ⟨lJ,trivial⟩ ⟨⟨Tryz.func119,by kernel_rfl⟩,⟨Tryz.func149,by kernel_rfl⟩,⟨Tryz.func120,by kernel_rfl⟩,trivial⟩)
 refine bn hE 2 Tryz.func65 rfl rfl zX An hr ?_ rfl rfl
 unfold yalW
 refine aq (pl rfl id) ?_
 refine ay hE 2 rfl ?_ ?_
 ·refine cr (pl rfl id) ?_
  exact aB (aD [2] (.inr rfl) rfl rfl rfl rfl rfl)
 refine bB hE 2 (fun(s15:Int)=>([(0,V.sl 0 0 p.zs.length none),(1,V.fn 120 []),(6,V.sl 0 0 p.zs.length none),(7,I (Int.ofNat p.zs.length)),(8,I s15)],[O.ints false i8 p.zs,O.cells true [I p.f,I p.r,V.sl 0 0 p.zs.length none,Bb p.bl,V.int u8 p.ca,I p.pa,I p.ha,I p.fu],O.ints true u8 ((yall (Siz.mk p.f p.r)).getD ([],0)).fst])) (fun(s21:Int)=>([(0,V.sl 0 0 p.zs.length none),(1,V.fn 120 []),(6,V.sl 0 0 p.zs.length none),(7,I (Int.ofNat p.zs.length)),(8,I s21)],[O.ints false i8 p.zs,O.cells true [I p.f,I p.r,V.sl 0 0 p.zs.length none,Bb p.bl,V.int u8 p.ca,I p.pa,I p.ha,I p.fu],O.ints true u8 ((yall (Siz.mk p.f p.r)).getD ([],0)).fst])) (.exit 0) ((Ent.rn [0,1,2] [0,1,6,7,8] rfl rfl rfl rfl rfl)) (fun s15=>?_) (fun s21=>?_)
 ·refine ay hE 2 rfl ?_ ?_
  ·refine aO ?_
   refine af (Bool.not_or_self _) ?_
   refine af (Bool.or_not_self _) ?_
   refine ay hE 2 rfl ?_ ?_
   ·refine gR (by simp) (eL ?_)
    refine ay hE 2 rfl ?_ ?_
    ·refine cr (pl rfl id) ?_
     exact aB (aD [2] (.inr rfl) rfl rfl rfl rfl rfl)
    exact aB (aD [2] (.inr rfl) rfl rfl rfl rfl rfl)
   exact bu ((Ent.rn [0,1,2] [0,1,6,7,8] rfl rfl rfl rfl rfl))
  exact bA ((Ent.rn [0,1,2] [0,1,6,7,8] rfl rfl rfl rfl rfl))
 refine LZ hE 2 rfl rfl ?_
 exact aB (aD [2] (.inr rfl) rfl rfl rfl rfl rfl)
theorem gK:CtOk (GGx kCa kDb) PP (65,mE):=by
 refine aG Tryz.func65 (by kernel_rfl) rfl fun a0 h0 c0 v0 N0 e hc=>?_
 unfold mE at e
 split at e
 ·rename_i p_0 p_1 p_2n p_3 p_4 p_5 p_6 p_7 p_2
  obtain⟨hl,r,hr,rfl,rfl⟩:=aQ e hc
  simp only[decide_eq_true_eq]at hl
  obtain rfl:=hl
  exact Eu ⟨p_0,p_1,p_2,p_3,p_4,p_5,p_6,p_7⟩ hr
 ·cases e
def Lt(p:Psn):Option ((List Int×Nat)×Int):=let x6:=List.take p.zs.length (List.drop 0 p.zs);let x4:=Psn.mk p.f p.r x6 p.bl p.ca p.pa p.ha p.fu;let x5:=x6.length;aM (decide (x5<=64)) (bif !x4.ok then some (([],0),2)else aN (yalW x4) ([],0) fun(y3:List Int×Nat)=>some (y3,0))
def sA(R:(List Int×Nat)×Int):V:=.tup [.sl 1 0 R.1.2 none,.int .i64 R.2]
def sX(R:(List Int×Nat)×Int):List O:=[.ints true .u8 R.1.1]
def vg:CF
 |[.agg [.int .i64 p_0,.int .i64 p_1,.sl 0 0 p_2n none,.bool p_3,.int .u8 p_4,.int .i64 p_5,.int .i64 p_6,.int .i64 p_7]],[.ints false .i8 p_2]=>retC (decide (p_2n=p_2.length)) (Lt ⟨p_0,p_1,p_2,p_3,p_4,p_5,p_6,p_7⟩) (([],0),0) sA sX
 |_,_=>none
theorem CI(p:Psn){r}(hr:Lt p=some r):aj (GGx kCa kDb) PP 18 [.agg [.int .i64 p.f,.int .i64 p.r,.sl 0 0 p.zs.length none,Bb p.bl,.int .u8 p.ca,.int .i64 p.pa,.int .i64 p.ha,.int .i64 p.fu]] [.ints false .i8 p.zs] (sA r) (sX r):=by
 have hE:=cutE (aF (kCa:=kCa) (kDb:=kDb) (cts:=[(37,eJ),(65,mE)]) (inl:=[]) ⟨eI,gK,trivial⟩ trivial)
 refine bn hE 2 Tryz.func18 rfl rfl sA sX hr ?_ rfl rfl
 refine cr (pl (decide_eq_true (az rfl)) id) ?_
 refine ay hE 2 rfl ?_ ?_
 ·exact aB (ur 2 (.ints true .u8 []) rfl rfl rfl<|aD [2] (.inr rfl) rfl rfl rfl rfl rfl)
 refine aq (pl (decide_eq_true (az rfl)) id) ?_
 exact aB (aD [2] (.inr rfl) rfl rfl rfl rfl rfl)
theorem yP:CtOk (GGx kCa kDb) PP (18,vg):=by
 refine aG Tryz.func18 (by kernel_rfl) rfl fun a0 h0 c0 v0 N0 e hc=>?_
 unfold vg at e
 split at e
 ·rename_i p_0 p_1 p_2n p_3 p_4 p_5 p_6 p_7 p_2
  obtain⟨hl,r,hr,rfl,rfl⟩:=aQ e hc
  simp only[decide_eq_true_eq]at hl
  obtain rfl:=hl
  exact CI ⟨p_0,p_1,p_2,p_3,p_4,p_5,p_6,p_7⟩ hr
 ·cases e
end
end Go.Ab
namespace Go.Ab
section
theorem LN{y:Int}(h0:0<=y)(h8:y<8):0<=ynv y/\ynv y<8/\ynv (ynv y)=y/\(y<4->ynv y<4):=by
 obtain⟨n,hn,rfl⟩:=of8 h0 h8
 have:((List.range 8).all fun n=>decide (0<=ynv (Int.ofNat n))&&decide (ynv (Int.ofNat n)<8)&&decide (ynv (ynv (Int.ofNat n))=Int.ofNat n)&&(!decide (Int.ofNat n<4)||decide (ynv (Int.ofNat n)<4)))=true:=by kernel_rfl
 have:=List.all_eq_true.1 this n hn
 simp only[Bool.and_eq_true,decide_eq_true_eq,Bool.or_eq_true,Bool.not_eq_true',decide_eq_false_iff_not]at this
 exact⟨this.1.1.1,this.1.1.2,this.1.2,fun h=>this.2.resolve_left fun g=>g h⟩
section
variable{f r y:Int}(hv:vsB f r=true)(h0:0<=y)(h8:y<8)(hb:y<4\/f=r)
def qi(f r y:Int)(m:Nat):Nat:=(qv f r (ynv y) m).toNat
include hv h0 h8 hb in
theorem HJ{m:Nat}(hm:(m:Int)<f*r):(qi f r y m:Int)<f*r/\qv f r y (qi f r y m)=m:=by
 obtain⟨a1,a2,a3,a4⟩:=LN h0 h8
 obtain⟨b1,b2,b3,b4⟩:=jv hv a1 a2 (hb.imp_left a4) hm
 have hq:((qi f r y m:Nat):Int)=qv f r (ynv y) m:=by unfold qi;omega
 refine⟨by rw[hq];exact b3,?_⟩
 rw[a3]at b4
 obtain⟨c1,_⟩:=jv hv h0 h8 hb (j:=qi f r y m) (by rw[hq];exact b3)
 rw[hq,b4]at c1
 exact(Option.some.inj c1).symm
include hv h0 h8 hb in
theorem MI{k:Nat}(hk:(k:Int)<f*r):qi f r y (qv f r y k).toNat=k:=by
 obtain⟨b1,b2,b3,b4⟩:=jv hv h0 h8 hb hk
 have hm:(((qv f r y k).toNat:Nat):Int)<f*r:=by omega
 obtain⟨c1,c2⟩:=HJ hv h0 h8 hb hm
 exact GN hv h0 h8 hb c1 hk (by rw[c2];omega)
def mvK(f r y:Int)(zs base:List Int)(n k:Nat):List Int:=(List.range n).map fun m=>if qi f r y m<k then zs.getD (qi f r y m) 0 else base.getD m 0
include hv h0 h8 hb in
theorem wO(zs base:List Int){n k:Nat}(hn:f*r=n)(hk:k<n):(mvK f r y zs base n k).set (qv f r y k).toNat (zs.getD k 0)=mvK f r y zs base n (k+1):=by
 refine List.ext_getElem (by simp[mvK]) fun m h1 h2=>?_
 have hm:m<n:=by simpa[mvK]using h2
 have hmI:(m:Int)<f*r:=by omega
 obtain⟨b1,b2⟩:=HJ hv h0 h8 hb hmI
 rw[List.getElem_set]
 by_cases e:(qv f r y k).toNat=m
 ·rw[if_pos e]
  have:qi f r y m=k:=by rw[<-e];exact MI hv h0 h8 hb (by omega)
  simp[mvK,this]
 ·rw[if_neg e]
  have:qi f r y m≠k:=fun h=>e (by rw[h]at b2;omega)
  simp only[mvK,List.getElem_map,List.getElem_range]
  by_cases h3:qi f r y m<k
  ·rw[if_pos h3,if_pos (by omega)]
  ·rw[if_neg h3,if_neg (by omega)]
theorem KU(zs:List Int){base:List Int}{n:Nat}(hl:base.length=n):mvK f r y zs base n 0=base:=by
 refine List.ext_getElem (by simp[mvK,hl]) fun m h1 h2=>?_
 simp[mvK,List.getD,h2]
include hv h0 h8 hb in
theorem Kz(zs base:List Int){n:Nat}(hn:f*r=n):mvK f r y zs base n n=mvK f r y zs [] n n:=by
 unfold mvK
 refine List.map_congr_left fun m hm=>?_
 have hm:=List.mem_range.1 hm
 obtain⟨b1,_⟩:=HJ hv h0 h8 hb (m:=m) (by omega)
 rw[if_pos (by omega),if_pos (by omega)]
theorem uH(zs base:List Int)(n k:Nat):(mvK f r y zs base n k).length=n:=by simp[mvK]
end
variable{p:Psn}{y:Int}(hv:vsB p.f p.r=true)(h0:0<=y)(h8:y<8)(hb:y<4\/p.f=p.r){n:Nat}(hn:p.f*p.r=n)(hl:p.zs.length=n)
def mvZ(p:Psn)(y:Int):List Int:=mvK p.f p.r y p.zs [] (p.f*p.r).toNat (p.f*p.r).toNat
include hv h0 h8 hb hn hl in
theorem qP(F:List Int->Option Psn)(e:Nat):∀ (d k:Nat),k+d=n->bx (oO y p) F (d+1+e) (mvK p.f p.r y p.zs p.zs n k,(k:Int))=F (mvK p.f p.r y p.zs p.zs n (k+d))
 |0,k,hk=>by
  rw[show 0+1+e=e+1 by omega]
  refine bR ?_
  unfold oO
  dsimp only
  rw[decide_eq_false (show ¬ ((k:Int)<Int.ofNat p.zs.length) by rw[hl];simp only[Int.ofNat_eq_natCast];omega)]
  rfl
 |d+1,k,hk=>by
  obtain⟨m1,m2⟩:=bF hv
  obtain⟨b1,b2,b3,_⟩:=jv hv h0 h8 hb (j:=k) (by omega)
  have hw:IntKind.i64.wrap ((k:Int)+1)=((k+1:Nat):Int):=by rw[aK (by omega) (by omega)];omega
  rw[show d+1+1+e=(d+1+e)+1 by omega]
  rw[bQ (s':=(mvK p.f p.r y p.zs p.zs n (k+1),((k+1:Nat):Int))) (by
   unfold oO
   dsimp only
   rw[ng h0 h8,b1,hw,List.drop_zero,List.take_length,decide_eq_true (show ((k:Int)<Int.ofNat p.zs.length) by rw[hl];simp only[Int.ofNat_eq_natCast];omega),decide_eq_true (Int.natCast_nonneg k),aH,decide_eq_true b2,decide_eq_true (show (qv p.f p.r y k<Int.ofNat p.zs.length) by rw[hl];simp only[Int.ofNat_eq_natCast];omega)]
   simp only[cond_true,Bool.and_self,aP,Int.toNat_natCast]
   rw[wO hv h0 h8 hb p.zs p.zs hn (by omega)])]
  rw[qP F e d (k+1) (by omega),show k+1+d=k+(d+1) by omega]
include hv h0 h8 hb hn hl in
theorem nl(F:List Int->Option Psn)(e:Nat):∀ (d k:Nat),k+d=n->bx (jM p y) F (d+1+e) (mvK p.f p.r y p.zs (List.replicate p.zs.length 0) n k,(k:Int))=F (mvK p.f p.r y p.zs (List.replicate p.zs.length 0) n (k+d))
 |0,k,hk=>by
  rw[show 0+1+e=e+1 by omega]
  refine bR ?_
  unfold jM
  dsimp only
  rw[decide_eq_false (show ¬ ((k:Int)<Int.ofNat p.zs.length) by rw[hl];simp only[Int.ofNat_eq_natCast];omega)]
  rfl
 |d+1,k,hk=>by
  obtain⟨m1,m2⟩:=bF hv
  obtain⟨b1,b2,b3,_⟩:=jv hv h0 h8 hb (j:=k) (by omega)
  have hw:IntKind.i64.wrap ((k:Int)+1)=((k+1:Nat):Int):=by rw[aK (by omega) (by omega)];omega
  rw[show d+1+1+e=(d+1+e)+1 by omega]
  rw[bQ (s':=(mvK p.f p.r y p.zs (List.replicate p.zs.length 0) n (k+1),((k+1:Nat):Int))) (by
   unfold jM
   dsimp only
   rw[b1,hw,List.length_replicate,decide_eq_true (show ((k:Int)<Int.ofNat p.zs.length) by rw[hl];simp only[Int.ofNat_eq_natCast];omega),decide_eq_true (Int.natCast_nonneg k),aH,decide_eq_true b2,decide_eq_true (show (qv p.f p.r y k<Int.ofNat p.zs.length) by rw[hl];simp only[Int.ofNat_eq_natCast];omega)]
   simp only[cond_true,Bool.and_self,aP,Int.toNat_natCast]
   rw[wO hv h0 h8 hb p.zs _ hn (by omega)])]
  rw[nl F e d (k+1) (by omega),show k+1+d=k+(d+1) by omega]
def mvP(p:Psn)(y:Int):Psn:=⟨p.f,p.r,mvZ p y,p.bl,p.ca,bif decide (0<=p.pa) then(yrSq ⟨p.f,p.r⟩ y p.pa).getD 0 else p.pa,p.ha,p.fu⟩
include hv h0 h8 hb hn hl in
theorem nx(hpa:p.pa<p.f*p.r):ypos y p=some (mvP p y)/\rj p y=some (mvP p y):=by
 obtain⟨m1,m2⟩:=bF hv
 have hz:mvZ p y=mvK p.f p.r y p.zs [] n n:=by unfold mvZ;rw[show (p.f*p.r).toNat=n by omega]
 have hlen:(mvZ p y).length=n:=by rw[hz,uH]
 have hP:(bG (bif decide (0<=p.pa)then aN (yrSq ⟨p.f,p.r⟩ y p.pa) 0 fun(y18:Int)=>some (Sum.inl y18)else some (Sum.inl p.pa)) fun(s20:Int)=>some (⟨p.f,p.r,mvZ p y,p.bl,p.ca,s20,p.ha,p.fu⟩:Psn))=some (mvP p y):=by
  unfold mvP
  by_cases h:0<=p.pa
  ·obtain⟨q,hq,_⟩:=AF hv h0 h8 hb h hpa
   rw[decide_eq_true h,hq];rfl
  ·rw[decide_eq_false h];rfl
 constructor
 ·have h:=qP hv h0 h8 hb hn hl (fun(s17:List Int)=>bG (bif decide (0<=p.pa)then aN (ysq y ⟨p.f,p.r⟩ p.pa) 0 fun(y18:Int)=>some (Sum.inl y18)else some (Sum.inl p.pa)) fun(s20:Int)=>aM (decide (p.zs.length=s17.length)) (some (Psn.mk p.f p.r s17 p.bl p.ca s20 p.ha p.fu))) (999999-n) n 0 (by omega)
  rw[show n+1+(999999-n)=1000000 by omega,Nat.zero_add,KU p.zs hl,Kz hv h0 h8 hb p.zs p.zs hn,<-hz]at h
  unfold ypos
  simp only[List.drop_zero,List.take_length]
  rw[decide_eq_true (show p.zs.length<=64 by omega),aP]
  refine Eq.trans h ?_
  simp only[hlen,hl,decide_true,aP]
  rw[ng h0 h8]
  exact hP
 ·have h:=nl hv h0 h8 hb hn hl (fun(s17:List Int)=>bG (bif decide (0<=p.pa)then aN (yrSq ⟨p.f,p.r⟩ y p.pa) 0 fun(y18:Int)=>some (Sum.inl y18)else some (Sum.inl p.pa)) fun(s20:Int)=>aM (decide ((List.replicate p.zs.length (0:Int)).length=s17.length)) (some (Psn.mk p.f p.r s17 p.bl p.ca s20 p.ha p.fu))) (999999-n) n 0 (by omega)
  rw[show n+1+(999999-n)=1000000 by omega,Nat.zero_add,KU p.zs (by rw[List.length_replicate,hl]),Kz hv h0 h8 hb p.zs _ hn,<-hz]at h
  unfold rj
  dsimp only
  rw[decide_eq_true (show p.zs.length*1<=140737488355328 by omega),decide_eq_true (show p.zs.length<=140737488355328 by omega),Bool.and_self,aP]
  refine Eq.trans h ?_
  simp only[hlen,hl,List.length_replicate,decide_true,aP]
  exact hP
end
end Go.Ab
namespace Go.Ab
open Go.Proofs
theorem vG{ca:Int}(h:0<=ca/\ca<=15){bit:Int}(hb:bit=1\/bit=2\/bit=4\/bit=8):decide ((IntKind.u8.wrap (ca.tdiv bit)).tmod 2=1)=!decide (LW ca bit=0):=by
 obtain⟨h1,h2⟩:=h
 have:ca=0\/ca=1\/ca=2\/ca=3\/ca=4\/ca=5\/ca=6\/ca=7\/ca=8\/ca=9\/ca=10\/ca=11\/ca=12\/ca=13\/ca=14\/ca=15:=by omega
 rcases hb with rfl|rfl|rfl|rfl<;>rcases this with rfl|rfl|rfl|rfl|rfl|rfl|rfl|rfl|rfl|rfl|rfl|rfl|rfl|rfl|rfl|rfl<;>decide
theorem Jl{f r:Int}{zs:List Int}:(jw f r zs 1=!((!is88 f r||!decide (zs.getD 4 0=ofP 6 false))||!decide (zs.getD 7 0=ofP 4 false)))/\(jw f r zs 2=!((!is88 f r||!decide (zs.getD 4 0=ofP 6 false))||!decide (zs.getD 0 0=ofP 4 false)))/\(jw f r zs 4=!((!is88 f r||!decide (zs.getD 60 0=ofP 6 true))||!decide (zs.getD 63 0=ofP 4 true)))/\(jw f r zs 8=!((!is88 f r||!decide (zs.getD 60 0=ofP 6 true))||!decide (zs.getD 56 0=ofP 4 true))):=by
 have e1:ofP 6 false=6:=by decide
 have e2:ofP 4 false=4:=by decide
 have e3:ofP 6 true=-6:=by decide
 have e4:ofP 4 true=-4:=by decide
 rw[e1,e2,e3,e4]
 unfold jw is88
 cases decide (f=8)<;>cases decide (r=8)<;>simp
theorem cast_eq{f r:Int}{zs:List Int}{ca:Int}(h0:0<=ca):ju f r zs ca=gj f r zs ca:=by
 unfold ju gj
 rcases Int.lt_or_le 15 ca with h|h
 ·have h2:¬ ca<16:=by omega
  simp[h,h2]
 ·have h2:ca<16:=by omega
  have h1:¬ 15<ca:=by omega
  obtain⟨a1,a2,a3,a4⟩:=Jl (f:=f) (r:=r) (zs:=zs)
  have hx:0<=ca/\ca<=15:=⟨h0,h⟩
  simp only[rXL,rtX,vG hx (.inl rfl),vG hx (.inr (.inl rfl)),vG hx (.inr (.inr (.inl rfl))),vG hx (.inr (.inr (.inr rfl))),a1,a2,a3,a4,Bool.not_not,decide_eq_true h2,decide_eq_false h1,cond_false,Bool.and_true,Bool.not_or,Bool.not_and]
theorem nj(p:Int->Bool):∀ (l:List Int) (k:Int),(bZ p l k=-1/\∀ i,i<l.length->p (l.getD i 0)=false)\/(∃ j,j<l.length/\bZ p l k=k+(j:Nat)/\p (l.getD j 0)=true/\∀ i,i<j->p (l.getD i 0)=false)
 |[],k=>.inl ⟨rfl,fun i h=>by simp at h⟩
 |x::l,k=>by
  rw[bZ]
  cases hx:p x with
  |true=>right;exact⟨0,by simp,by simp,by simpa using hx,fun i h=>by omega⟩
  |false=>
   rw[cond_false]
   rcases nj p l (k+1) with⟨h1,h2⟩|⟨j,h1,h2,h3,h4⟩
   ·left
    refine⟨h1,fun i hi=>?_⟩
    cases i with
    |zero=>simpa using hx
    |succ i=>have:=h2 i (by simpa using hi);simpa using this
   ·right
    refine⟨j+1,by simpa using h1,by rw[h2];push_cast;omega,by simpa using h3,fun i hi=>?_⟩
    cases i with
    |zero=>simpa using hx
    |succ i=>have:=h4 i (by omega);simpa using this
theorem kM{c:Int->Bool}:∀ (n:Nat),(∀ i:Nat,i<n->c i=false)->dc c id n=[]
 |0,_=>rfl
 |n+1,h=>by rw[eE,h n (by omega),cond_false];exact kM n fun i hi=>h i (by omega)
theorem vy{c:Int->Bool}{a:Nat}(ha:c a=true):∀ (n:Nat),a<n->(∀ i:Nat,i<n->c i=true->i=a)->dc c id n=[(a:Int)]
 |0,h,_=>by omega
 |n+1,h,hu=>by
  rw[eE]
  by_cases e:n=a
  ·subst e
   rw[ha,cond_true,kM n fun i hi=>?_]
   ·rfl
   ·cases hc:c i with
    |false=>rfl
    |true=>have:=hu i (by omega) hc;omega
  ·have:c n=false:=by
    cases hc:c n with
    |false=>rfl
    |true=>exact absurd (hu n (by omega) hc) e
   rw[this,cond_false]
   exact vy ha n (by omega) fun i hi=>hu i (by omega)
theorem Mq(bl:Bool):w8 (IntKind.i64.wrap (6*sdI bl))=kgP bl:=by cases bl<;>decide
theorem jI{zs:List Int}{p:Int->Bool}{k:Nat}:(zs.drop k).any p=true↔∃ i,k<=i/\i<zs.length/\p (zs.getD i 0)=true:=by
 rw[List.any_eq_true]
 constructor
 ·rintro⟨x,hx,hp⟩
  obtain⟨i,hi,rfl⟩:=List.mem_iff_getElem.1 hx
  rw[List.getElem_drop]at hp
  rw[List.length_drop]at hi
  exact⟨k+i,by omega,by omega,by simpa[List.getD,show k+i<zs.length by omega]using hp⟩
 ·rintro⟨i,h1,h2,h3⟩
  refine⟨zs.getD i 0,?_,h3⟩
  rw[List.mem_iff_getElem]
  refine⟨i-k,by rw[List.length_drop];omega,?_⟩
  rw[List.getElem_drop]
  simp[List.getD,h2,show k+(i-k)=i by omega]
theorem Gf(zs:List Int)(bl:Bool)(hl:zs.length<=64):(lj zs bl=true/\bh zs bl=-1)\/(lj zs bl=false/\bh zs bl=fz zs bl/\0<=fz zs bl/\fz zs bl<zs.length/\zs.getD (fz zs bl).toNat 0=kgP bl/\∀ i:Nat,i<zs.length->zs.getD i 0=kgP bl->(i:Int)=fz zs bl):=by
 unfold bh lj
 rw[Mq]
 rcases nj (isV (kgP bl)) zs 0 with⟨h1,h2⟩|⟨j,h1,h2,h3,h4⟩
 ·left
  have hn:ga zs (kgP bl)=[]:=kM _ fun i hi=>by
   have:=h2 i hi
   simp only[isV,decide_eq_false_iff_not]at this
   simp only[kW,Int.toNat_natCast,decide_eq_false_iff_not]
   exact fun e=>this e.symm
  rw[hn]
  refine⟨?_,rfl⟩
  rw[show fz zs bl=-1 from h1];rfl
 ·have hK:fz zs bl=(j:Int):=by unfold fz;rw[h2];omega
  simp only[isV,decide_eq_true_eq]at h3
  rw[hK,show IntKind.i64.wrap ((j:Int)+1)=((j+1:Nat):Int) by rw[aK (by omega) (by omega)];omega,Int.toNat_natCast,show decide ((j:Int)<0)=false by simp,Bool.false_or]
  cases ha:(zs.drop (j+1)).any (isV (kgP bl)) with
  |true=>
   left
   refine⟨rfl,?_⟩
   obtain⟨i,g1,g2,g3⟩:=jI.1 ha
   simp only[isV,decide_eq_true_eq]at g3
   have m1:(j:Int)∈ga zs (kgP bl):=hO.2 ⟨by omega,by omega,by simp[kW,h3]⟩
   have m2:(i:Int)∈ga zs (kgP bl):=hO.2 ⟨by omega,by omega,by simp[kW,g3]⟩
   cases hd:decide (((ga zs (kgP bl)).length:Int)=1) with
   |false=>rfl
   |true=>
    have:(ga zs (kgP bl)).length=1:=by have:=of_decide_eq_true hd;omega
    obtain⟨x,hx⟩:=List.length_eq_one_iff.1 this
    rw[hx]at m1 m2
    simp at m1 m2
    omega
  |false=>
   right
   have hno:∀ i:Nat,i<zs.length->zs.getD i 0=kgP bl->i=j:=by
    intro i hi he
    rcases Nat.lt_trichotomy i j with g|g|g
    ·have:=h4 i g
     simp only[isV,decide_eq_false_iff_not]at this
     exact absurd he.symm this
    ·exact g
    ·have:(zs.drop (j+1)).any (isV (kgP bl))=true:=jI.2 ⟨i,by omega,hi,by simp only[isV,decide_eq_true_eq];exact he.symm⟩
     rw[ha]at this;cases this
   have hone:ga zs (kgP bl)=[(j:Int)]:=vy (by simp[kW,h3]) _ h1 fun i hi hc=>hno i hi (by simpa[kW]using hc)
   refine⟨rfl,by rw[hone];rfl,by omega,by omega,by rw[h3,Int.toNat_natCast],fun i hi he=>by rw[hno i hi he]⟩
theorem wL{f r:Int}{zs:List Int}{bl:Bool}(h:aZ f r zs=true)(hl:zs.length<=64):(bh zs bl<0/\ct f r zs bl=(0,9))\/(ct f r zs bl=(bh zs bl,0)/\aA f r (bh zs bl)=true/\bh zs bl=fz zs bl):=by
 rcases Gf zs bl hl with⟨h1,h2⟩|⟨h1,h2,h3,h4,_⟩
 ·left;exact⟨by rw[h2];decide,by unfold ct;rw[h,h1];rfl⟩
 ·right;exact⟨by unfold ct;rw[h,h1,h2];rfl,(zi h).2 (by rw[h2];exact⟨h3,h4⟩),h2⟩
end Go.Ab
namespace Go.Ab
open IntKind
open Go.Proofs
theorem Ea{f r:Int}{zs:List Int}{to:Int}{bl:Bool}(h:aZ f r zs=true)(hl:zs.length<=64)(ht:aA f r to=true):decide (attR f r zs to bl=0)=decide (((attL f r zs to bl).length:Int)=0):=by
 obtain⟨hu,hb⟩:=Jc (bl:=bl) h hl ht
 rw[decide_eq_decide,tP hu]
 constructor
 ·intro h0
  have:attL f r zs to bl=[]:=List.eq_nil_iff_forall_not_mem.2 fun x hx=>by
   have hx':=pC.1 hx
   have:=h0 x.toNat (by omega)
   rw[hb,show ((x.toNat:Nat):Int)=x by omega]at this
   simp[hx]at this
  rw[this];rfl
 ·intro h0 n _
  have:attL f r zs to bl=[]:=List.eq_nil_of_length_eq_zero (by omega)
  rw[hb,this];simp
theorem LU{f r:Int}{zs:List Int}{bl:Bool}(h:aZ f r zs=true)(hl:zs.length<=64)(hk:(ct f r zs bl).2=0):chkL f r zs bl=chkB f r zs bl:=by
 rcases wL (bl:=bl) h hl with⟨_,h2⟩|⟨h1,h2,_⟩
 ·rw[h2]at hk;cases hk
 ·unfold chkL chkB bJ
  rw[h1]
  simp only[decide_true,cond_true]
  rw[Ea h hl h2]
  have:(0:Int)<=((attL f r zs (bh zs bl) (!bl)).length:Int):=Int.natCast_nonneg _
  by_cases h0:((attL f r zs (bh zs bl) (!bl)).length:Int)=0
  ·simp[h0]
  ·have:0<((attL f r zs (bh zs bl) (!bl)).length:Int):=by omega
   rw[decide_eq_false h0,decide_eq_true this];rfl
theorem DR{f r:Int}{zs:List Int}{bl:Bool}(hl:zs.length<=64):(aL f r zs&&fW f r zs bl)=(aZ f r zs&&!decide (bh zs false<0)&&!decide (bh zs true<0)&&!chkL f r zs (!bl)):=by
 cases ho:aZ f r zs with
 |false=>
  have:fW f r zs bl=false:=by unfold fW ct;rw[ho];simp
  rw[this];simp
 |true=>
  have hv:=(bw ho).2.2.1
  rw[hv]
  simp only[Bool.true_and]
  have key:∀ b,decide (bh zs b<0)=!decide ((ct f r zs b).2=0):=fun b=>by
   rcases wL (bl:=b) ho hl with⟨h1,h2⟩|⟨h1,h2,_⟩
   ·rw[h2];simp[h1]
   ·rw[h1];have:=(bT h2).1;simp;omega
  rw[key,key]
  unfold fW
  have hch:∀ b,(bJ f r zs b).2=0↔(ct f r zs b).2=0:=fun b=>by
   unfold bJ
   by_cases h:(ct f r zs b).2=0
   ·simp[h]
   ·simp[h]
  cases hk1:decide ((ct f r zs bl).2=0) with
  |false=>cases bl<;>rw[hk1]<;>simp
  |true=>
   cases hk2:decide ((ct f r zs (!bl)).2=0) with
   |false=>
    have:decide ((bJ f r zs (!bl)).2=0)=false:=by rw[decide_eq_false_iff_not,hch];exact of_decide_eq_false hk2
    rw[this]
    cases bl<;>simp only[Bool.not_true,Bool.not_false]at hk2 ⊢<;>rw[hk2]<;>simp
   |true=>
    have h1:decide ((bJ f r zs (!bl)).2=0)=true:=by rw[decide_eq_true_eq,hch];exact of_decide_eq_true hk2
    rw[h1,LU ho hl (of_decide_eq_true hk2)]
    unfold chkB
    cases bl<;>simp only[Bool.not_true,Bool.not_false]at hk2 ⊢<;>rw[hk1,hk2]<;>simp
theorem Gx{zs:List Int}{p:Int->Bool}:zs.any p=true↔∃ i,i<zs.length/\p (zs.getD i 0)=true:=by
 have:=jI (zs:=zs) (p:=p) (k:=0)
 rw[List.drop_zero]at this
 rw[this];exact⟨fun⟨i,_,h⟩=>⟨i,h⟩,fun⟨i,h⟩=>⟨i,by omega,h⟩⟩
theorem Fb{zs:List Int}{p:Int->Bool}{k:Nat}:(zs.take k).any p=true↔∃ i,i<k/\i<zs.length/\p (zs.getD i 0)=true:=by
 rw[Gx]
 constructor
 ·rintro⟨i,h1,h2⟩
  rw[List.length_take]at h1
  exact⟨i,by omega,by omega,by simpa[List.getD,List.getElem?_take,show i<k by omega]using h2⟩
 ·rintro⟨i,h1,h2,h3⟩
  exact⟨i,by rw[List.length_take];omega,by simpa[List.getD,List.getElem?_take,h1]using h3⟩
theorem Fj{f r:Int}{zs:List Int}(h:aZ f r zs=true)(_hl:zs.length<=64):gx f zs=!mu f r zs:=by
 obtain⟨hv,hn,hbd,hp⟩:=bw h
 have hb:=cS hv
 have hpw:∀ i:Nat,i<zs.length->(pwL f r zs i=true↔(zs.getD i 0=1/\zs.length-f.toNat<=i)\/(zs.getD i 0=-1/\i<f.toNat)):=by
  intro i hi
  have hvi:aA f r (i:Int)=true:=(sE hbd).2 ⟨by omega,by omega⟩
  obtain⟨hd,x0,x1,y0,y1,he,_⟩:=tN hvi
  have hpc:=wQ h (i:=(i:Int)) (by omega) (by omega)
  have hl0:rX r (decide ((1:Int)<0))=r-1:=aK (by omega) (by omega)
  have hl1:rX r (decide ((-1:Int)<0))=0:=rfl
  have hmul:f*r=(r-1)*f+f:=by rw[Int.sub_mul,Int.mul_comm r f];omega
  rw[Int.toNat_natCast]at hpc
  unfold pwL
  rw[hd,Int.toNat_natCast,vo hpc]
  simp only[Bool.and_eq_true,decide_eq_true_eq]
  constructor
  ·rintro⟨h1,h2⟩
   have:zs.getD i 0=1\/zs.getD i 0=-1:=by omega
   rcases this with e|e
   ·left
    rw[e,hl0]at h2
    rw[h2]at he
    exact⟨e,by omega⟩
   ·right
    rw[e,hl1]at h2
    rw[h2]at he
    exact⟨e,by omega⟩
  ·rintro(⟨e,h2⟩|⟨e,h2⟩)
   ·rw[e,hl0]
    refine⟨by decide,?_⟩
    have h5:¬ py f i<r-1:=by
     intro h6
     have:(py f i+1)*f<=(r-1)*f:=Int.mul_le_mul_of_nonneg_right (by omega) (by omega)
     rw[Int.add_mul]at this
     omega
    omega
   ·rw[e,hl1]
    refine⟨by decide,?_⟩
    have h5:¬ 1<=py f i:=by
     intro h6
     have:1*f<=py f i*f:=Int.mul_le_mul_of_nonneg_right h6 (by omega)
     omega
    omega
 have hiff:mu f r zs=true↔((zs.drop (zs.length-f.toNat)).any (isV 1)=true\/(zs.take f.toNat).any (isV (-1))=true):=by
  rw[jI,Fb]
  unfold mu
  rw[List.any_eq_true]
  constructor
  ·rintro⟨i,hi,hp⟩
   have hi:=List.mem_range.1 hi
   rcases(hpw i hi).1 hp with⟨e,g⟩|⟨e,g⟩
   ·left;exact⟨i,g,hi,by rw[e];rfl⟩
   ·right;exact⟨i,g,hi,by rw[e];rfl⟩
  ·rintro(⟨i,g1,g2,g3⟩|⟨i,g1,g2,g3⟩)
   ·simp only[isV,decide_eq_true_eq]at g3
    exact⟨i,List.mem_range.2 g2,(hpw i g2).2 (.inl ⟨g3.symm,g1⟩)⟩
   ·simp only[isV,decide_eq_true_eq]at g3
    exact⟨i,List.mem_range.2 g2,(hpw i g2).2 (.inr ⟨g3.symm,g1⟩)⟩
 unfold gx
 cases h1:(zs.drop (zs.length-f.toNat)).any (isV 1)<;>cases h2:(zs.take f.toNat).any (isV (-1))<;>rw[h1,h2]at hiff<;>cases h3:mu f r zs<;>rw[h3]at hiff<;>simp at hiff ⊢
theorem Ms{f r n k:Int}{zs:List Int}(hbd:aL f r zs=true)(hn:aA f r n=true)(_hk:k=1\/k=-1)(hb:aA f r (n+k*f)=true):px f (n+k*f)=px f n/\py f (n+k*f)=py f n+k:=by
 obtain⟨_,a1,a2,a3,a4,a5,a6⟩:=tN hn
 obtain⟨_,b1,b2,b3,b4,b5,_⟩:=tN hb
 have:=hbd
 refine sN (f:=f) (by omega) b1 b2 a1 a2 ?_
 rw[b5,Int.add_mul];omega
theorem Kq{f r:Int}{zs:List Int}{bl:Bool}{pa ha:Int}(hbd:aL f r zs=true):pasL f r zs bl pa ha=jx f r zs bl pa ha:=by
 unfold pasL jx
 cases h1:decide (pa=-1) with
 |true=>rfl
 |false=>
  rw[cond_false,Bool.false_or]
  by_cases h2:6<=r
  ·have e2:decide (r<6)=false:=by simp;omega
   rw[e2,decide_eq_true h2]
   cases h3:decide (ha=0) with
   |false=>simp
   |true=>
    cases h4:aA f r pa with
    |false=>simp
    |true=>
     have hv:=(bS hbd).1
     have hb:=cS hv
     obtain⟨hd,x0,x1,y0,y1,he,_⟩:=tN h4
     have hm:pa.tmod f=px f pa:=rfl
     have hr2:dj r (!bl) 2=(bif bl then 1 else r-2):=by
      unfold dj;cases bl
      ·exact aK (by omega) (by omega)
      ·rfl
     have hr4:dj r (!bl) 4=(bif bl then 3 else r-4):=by
      unfold dj;cases bl
      ·exact aK (by omega) (by omega)
      ·rfl
     have hk:decide (i64.wrap (2*i64.wrap (pa.tdiv f))=i64.wrap (dj r (!bl) 2+dj r (!bl) 4))=decide (i64.wrap (pa.tdiv f)=rkP r bl):=by
      rw[hd,hr2,hr4,decide_eq_decide]
      rw[aK (n:=2*py f pa) (by omega) (by omega)]
      unfold rkP
      cases bl
      ·simp only[cond_false]
       rw[aK (by omega) (by omega),aK (by omega) (by omega)];omega
      ·simp only[cond_true]
       rw[aK (by omega) (by omega)];omega
     rw[hk]
     cases h5:decide (i64.wrap (pa.tdiv f)=rkP r bl) with
     |false=>simp
     |true=>
      obtain⟨n1,n2,n3,n4,n5,n6,n7⟩:=kH (bl:=bl) hbd h2 h4 (of_decide_eq_true h5)
      have hlt:=(sE hbd).1 h4
      have hm1:aA f r (pa+-1*f)=true:=(sE hbd).2 ⟨by omega,by omega⟩
      have hp1:aA f r (pa+1*f)=true:=(sE hbd).2 ⟨by omega,by omega⟩
      have hy:py f pa=(bif bl then 2 else r-3):=by
       have:=of_decide_eq_true h5
       rw[hd]at this
       rw[this];unfold rkP;cases bl
       ·exact aK (by omega) (by omega)
       ·rfl
      have hnum:∀ {k R:Int},(k=1\/k=-1)->R=py f pa+k->aA f r (pa+k*f)=true->numR f r (pa.tmod f) R=pa+k*f:=by
       intro k R hk hR hvk
       obtain⟨p1,p2⟩:=Ms hbd h4 hk hvk
       have ho:onB f r (pa.tmod f) R=true:=by
        obtain⟨_,_,_,q3,q4,_⟩:=tN hvk
        rw[p2,<-hR]at q3 q4
        exact qx (by rw[hm];exact x0) (by rw[hm];exact x1) q3 q4
       exact(zN hv ho hvk).2 ⟨by rw[p1,hm],by rw[p2,hR]⟩
      have hpc:mD 1 (!bl)=ofP 1 (!bl):=rfl
      rw[hr2,hr4,hpc]
      cases bl
      ·simp only[cond_false]at hy ⊢
       have q1:=hnum (k:=1) (R:=r-2) (.inl rfl) (by omega) hp1
       have q2:=hnum (k:=-1) (R:=r-4) (.inr rfl) (by omega) hm1
       simp only[q1,q2,upP,cond_false,n5,n6,n7]
       have z1:pa+1*f=pa+f:=by omega
       have z2:pa+-1*f=pa-f:=by omega
       simp only[z1,z2]
       simp[Bool.and_assoc]
      ·simp only[cond_true]at hy ⊢
       have q1:=hnum (k:=-1) (R:=1) (.inr rfl) (by omega) hm1
       have q2:=hnum (k:=1) (R:=3) (.inl rfl) (by omega) hp1
       simp only[q1,q2,upP,cond_true,n3,n4]
       have z1:pa+1*f=pa+f:=by omega
       have z2:pa+-1*f=pa-f:=by omega
       simp only[z1,z2]
       simp[Bool.and_assoc]
  ·have e2:decide (r<6)=true:=by simp;omega
   rw[e2,decide_eq_false h2];simp
theorem CJ{p:Psn}(hl:p.zs.length<=64)(hca:0<=p.ca):dy p=p.ok:=by
 have hk:=DR (f:=p.f) (r:=p.r) (bl:=p.bl) hl
 unfold dy Psn.ok
 cases ho:aZ p.f p.r p.zs with
 |false=>
  rw[ho]at hk
  rw[hk];simp
 |true=>
  rw[ho]at hk
  rw[hk,Fj ho hl,cast_eq hca,Kq (bw ho).2.2.1]
  cases decide (bh p.zs false<0)<;>cases decide (bh p.zs true<0)<;>cases chkL p.f p.r p.zs (!p.bl)<;>cases mu p.f p.r p.zs<;>simp[cntB,Bool.and_assoc]
end Go.Ab
namespace Go.Ab
open Go.Proofs
section
variable{kCa kDb:Bool}
def ff:CF
 |[.agg [.int .i64 f,.int .i64 r,.sl 0 0 len none,.bool bl,.int .u8 ca,.int .i64 pa,.int .i64 ha,.int .i64 fu]],[.ints false .i8 zs]=>some (decide (len=zs.length)&&decide (zs.length<=1000000),.bool (Psn.ok ⟨f,r,zs,bl,ca,pa,ha,fu⟩),[])
 |_,_=>none
theorem fC:CtOk (GGx kCa kDb) PP (37,ff):=by
 refine aG Tryz.func37 (by kernel_rfl) rfl fun a0 h0 c0 v0 N0 e hc=>?_
 unfold ff at e
 split at e
 ·rename_i f r len bl ca pa ha fu zs
  cases e
  have hE:=aF (kCa:=kCa) (kDb:=kDb) (cts:=[(83,eM),(85,jH),(87,jY),(89,fN),(91,oE)]) (inl:=[(82,Tryz.f82),(84,Tryz.f84),(86,Tryz.f86),(88,Tryz.f88),(90,Tryz.f90),(92,Tryz.f92)]) ⟨dB,lX,lN,gZ,nk,trivial⟩ ⟨⟨Tryz.func82,by kernel_rfl⟩,⟨Tryz.func84,by kernel_rfl⟩,⟨Tryz.func86,by kernel_rfl⟩,⟨Tryz.func88,by kernel_rfl⟩,⟨Tryz.func90,by kernel_rfl⟩,⟨Tryz.func92,by kernel_rfl⟩,trivial⟩
  refine ak hE 3 Tryz.func37 rfl rfl ?_
  simp only[Bool.and_eq_true,decide_eq_true_eq]at hc
  obtain⟨rfl,hc2⟩:=hc
  repeat (first|refine ah ?_|refine sat_nd ?_)
  refine dn hE 3 7 ?_
  refine rnd ?_
  refine ck (by rfl) ?_
  repeat (first|(first|refine ah ?_|refine sat_nd ?_)|refine ag (bL hc2 rfl) ?_)
  refine ax (fun h0=>?_) (fun h0=>?_)
  ·have h0:(!aL f r (tk zs))=true:=h0
   rw[aS,Bool.not_eq_true']at h0
   exact ae (ae (ai (.inr rfl) rfl rfl rfl (by simp[Psn.ok,h0])))
  have h0:(!aL f r (tk zs))=false:=h0
  have h0t:aL f r (tk zs)=true:=by simpa using h0
  rw[aS,Bool.not_eq_false']at h0
  have hc3:zs.length<=64:=by
   obtain⟨hv,hl⟩:=bS h0
   obtain⟨m1,m2⟩:=bF hv
   omega
  refine ae ⟨[(1,.ptr 1 0 0),(13,.sl 2 0 6 none),(14,I 6),(15,I 1)],[.ints false .i8 zs,.cells true [I f,I r,.sl 0 0 zs.length none,Bb bl,.int .u8 ca,I pa,I ha,I fu],.vals true 1 [[.fn 82 [.ptr 1 0 0]],[.fn 84 [.ptr 1 0 0]],[.fn 86 [.ptr 1 0 0]],[.fn 88 [.ptr 1 0 0]],[.fn 90 [.ptr 1 0 0]],[.fn 92 [.ptr 1 0 0]]]],Ent.ren [0,1,2] [1,13,14,15] rfl rfl rfl,?_⟩
  refine rnd ?_
  refine ck (by rfl) ?_
  repeat (first|(first|refine ah ?_|refine sat_nd ?_)|refine ag (bL hc3 rfl) ?_|refine ag (bU hc3 rfl h0t) ?_)
  refine ax (fun h1=>?_) (fun h1=>?_)
  ·have h1:(!fW f r (tk zs) bl)=true:=h1
   rw[aS,Bool.not_eq_true']at h1
   exact ae (ae (ai (.inr rfl) rfl rfl rfl (by simp[Psn.ok,h0,h1])))
  have h1:(!fW f r (tk zs) bl)=false:=h1
  rw[aS,Bool.not_eq_false']at h1
  refine ae ⟨[(1,.ptr 1 0 0),(13,.sl 2 0 6 none),(14,I 6),(15,I 2)],[.ints false .i8 zs,.cells true [I f,I r,.sl 0 0 zs.length none,Bb bl,.int .u8 ca,I pa,I ha,I fu],.vals true 1 [[.fn 82 [.ptr 1 0 0]],[.fn 84 [.ptr 1 0 0]],[.fn 86 [.ptr 1 0 0]],[.fn 88 [.ptr 1 0 0]],[.fn 90 [.ptr 1 0 0]],[.fn 92 [.ptr 1 0 0]]]],Ent.ren [0,1,2] [1,13,14,15] rfl rfl rfl,?_⟩
  refine rnd ?_
  refine ck (by rfl) ?_
  repeat (first|(first|refine ah ?_|refine sat_nd ?_)|refine ag (bL hc3 rfl) ?_|refine ag (bU hc3 rfl h0t) ?_)
  refine ax (fun h2=>?_) (fun h2=>?_)
  ·have h2:(!gx f (tk zs))=true:=h2
   rw[aS,Bool.not_eq_true']at h2
   exact ae (ae (ai (.inr rfl) rfl rfl rfl (by simp[Psn.ok,h0,h1,h2])))
  have h2:(!gx f (tk zs))=false:=h2
  rw[aS,Bool.not_eq_false']at h2
  refine ae ⟨[(1,.ptr 1 0 0),(13,.sl 2 0 6 none),(14,I 6),(15,I 3)],[.ints false .i8 zs,.cells true [I f,I r,.sl 0 0 zs.length none,Bb bl,.int .u8 ca,I pa,I ha,I fu],.vals true 1 [[.fn 82 [.ptr 1 0 0]],[.fn 84 [.ptr 1 0 0]],[.fn 86 [.ptr 1 0 0]],[.fn 88 [.ptr 1 0 0]],[.fn 90 [.ptr 1 0 0]],[.fn 92 [.ptr 1 0 0]]]],Ent.ren [0,1,2] [1,13,14,15] rfl rfl rfl,?_⟩
  refine rnd ?_
  refine ck (by rfl) ?_
  repeat (first|(first|refine ah ?_|refine sat_nd ?_)|refine ag (bL hc3 rfl) ?_|refine ag (bU hc3 rfl h0t) ?_)
  refine ax (fun h3=>?_) (fun h3=>?_)
  ·have h3:(!gj f r (tk zs) ca)=true:=h3
   rw[aS,Bool.not_eq_true']at h3
   exact ae (ae (ai (.inr rfl) rfl rfl rfl (by simp[Psn.ok,h0,h1,h2,h3])))
  have h3:(!gj f r (tk zs) ca)=false:=h3
  rw[aS,Bool.not_eq_false']at h3
  refine ae ⟨[(1,.ptr 1 0 0),(13,.sl 2 0 6 none),(14,I 6),(15,I 4)],[.ints false .i8 zs,.cells true [I f,I r,.sl 0 0 zs.length none,Bb bl,.int .u8 ca,I pa,I ha,I fu],.vals true 1 [[.fn 82 [.ptr 1 0 0]],[.fn 84 [.ptr 1 0 0]],[.fn 86 [.ptr 1 0 0]],[.fn 88 [.ptr 1 0 0]],[.fn 90 [.ptr 1 0 0]],[.fn 92 [.ptr 1 0 0]]]],Ent.ren [0,1,2] [1,13,14,15] rfl rfl rfl,?_⟩
  refine rnd ?_
  refine ck (by rfl) ?_
  repeat (first|(first|refine ah ?_|refine sat_nd ?_)|refine ag (bL hc3 rfl) ?_|refine ag (bU hc3 rfl h0t) ?_)
  refine ax (fun h4=>?_) (fun h4=>?_)
  ·have h4:(!jx f r (tk zs) bl pa ha)=true:=h4
   rw[aS,Bool.not_eq_true']at h4
   exact ae (ae (ai (.inr rfl) rfl rfl rfl (by simp[Psn.ok,h0,h1,h2,h3,h4])))
  have h4:(!jx f r (tk zs) bl pa ha)=false:=h4
  rw[aS,Bool.not_eq_false']at h4
  refine ae ⟨[(1,.ptr 1 0 0),(13,.sl 2 0 6 none),(14,I 6),(15,I 5)],[.ints false .i8 zs,.cells true [I f,I r,.sl 0 0 zs.length none,Bb bl,.int .u8 ca,I pa,I ha,I fu],.vals true 1 [[.fn 82 [.ptr 1 0 0]],[.fn 84 [.ptr 1 0 0]],[.fn 86 [.ptr 1 0 0]],[.fn 88 [.ptr 1 0 0]],[.fn 90 [.ptr 1 0 0]],[.fn 92 [.ptr 1 0 0]]]],Ent.ren [0,1,2] [1,13,14,15] rfl rfl rfl,?_⟩
  refine rnd ?_
  refine ck (by rfl) ?_
  repeat (first|(first|refine ah ?_|refine sat_nd ?_)|refine ag (bL hc3 rfl) ?_|refine ag (bU hc3 rfl h0t) ?_)
  refine ax (fun h5=>?_) (fun h5=>?_)
  ·have h5:(!cntB ha fu)=true:=h5
   rw[Bool.not_eq_true']at h5
   exact ae (ae (ai (.inr rfl) rfl rfl rfl (by simp[Psn.ok,h0,h1,h2,h3,h4,h5])))
  have h5:(!cntB ha fu)=false:=h5
  rw[Bool.not_eq_false']at h5
  refine ae ⟨[(1,.ptr 1 0 0),(13,.sl 2 0 6 none),(14,I 6),(15,I 6)],[.ints false .i8 zs,.cells true [I f,I r,.sl 0 0 zs.length none,Bb bl,.int .u8 ca,I pa,I ha,I fu],.vals true 1 [[.fn 82 [.ptr 1 0 0]],[.fn 84 [.ptr 1 0 0]],[.fn 86 [.ptr 1 0 0]],[.fn 88 [.ptr 1 0 0]],[.fn 90 [.ptr 1 0 0]],[.fn 92 [.ptr 1 0 0]]]],Ent.ren [0,1,2] [1,13,14,15] rfl rfl rfl,?_⟩
  refine rnd ?_
  refine vS (by rfl) ?_
  refine ae (ae (ai (.inr rfl) rfl rfl rfl (by simp[Psn.ok,h0,h1,h2,h3,h4,h5])))
 ·cases e
end
end Go.Ab
namespace Go.Ab
open IntKind
open Go.Proofs
section
variable{kCa kDb:Bool}
def qH(p:Psn):Option ((List Int×Nat)×Int):=let x6:=List.take p.zs.length (List.drop 0 p.zs);let x4:=Psn.mk p.f p.r x6 p.bl p.ca p.pa p.ha p.fu;let x5:=x6.length;aM (decide (x5<=1000000)) (bif !x4.ok then some (([],0),2)else aN (yalW x4) ([],0) fun(y3:List Int×Nat)=>some (y3,0))
def uZ(R:(List Int×Nat)×Int):V:=.tup [.sl 1 0 R.1.2 none,.int .i64 R.2]
def sG(R:(List Int×Nat)×Int):List O:=[.ints true .u8 R.1.1]
def uN:CF
 |[.agg [.int .i64 p_0,.int .i64 p_1,.sl 0 0 p_2n none,.bool p_3,.int .u8 p_4,.int .i64 p_5,.int .i64 p_6,.int .i64 p_7]],[.ints false .i8 p_2]=>retC (decide (p_2n=p_2.length)) (qH ⟨p_0,p_1,p_2,p_3,p_4,p_5,p_6,p_7⟩) (([],0),0) uZ sG
 |_,_=>none
theorem BL(p:Psn){r}(hr:qH p=some r):aj (GGx kCa kDb) PP 18 [.agg [.int .i64 p.f,.int .i64 p.r,.sl 0 0 p.zs.length none,Bb p.bl,.int .u8 p.ca,.int .i64 p.pa,.int .i64 p.ha,.int .i64 p.fu]] [.ints false .i8 p.zs] (uZ r) (sG r):=by
 have hE:=cutE (aF (kCa:=kCa) (kDb:=kDb) (cts:=[(37,ff),(65,mE)]) (inl:=[]) ⟨fC,gK,trivial⟩ trivial)
 refine bn hE 2 Tryz.func18 rfl rfl uZ sG hr ?_ rfl rfl
 refine cr (pl (decide_eq_true (az rfl)) id) ?_
 refine ay hE 2 rfl ?_ ?_
 ·exact aB (ur 2 (.ints true .u8 []) rfl rfl rfl<|aD [2] (.inr rfl) rfl rfl rfl rfl rfl)
 refine aq (pl (decide_eq_true (az rfl)) id) ?_
 exact aB (aD [2] (.inr rfl) rfl rfl rfl rfl rfl)
theorem xh:CtOk (GGx kCa kDb) PP (18,uN):=by
 refine aG Tryz.func18 (by kernel_rfl) rfl fun a0 h0 c0 v0 N0 e hc=>?_
 unfold uN at e
 split at e
 ·rename_i p_0 p_1 p_2n p_3 p_4 p_5 p_6 p_7 p_2
  obtain⟨hl,r,hr,rfl,rfl⟩:=aQ e hc
  simp only[decide_eq_true_eq]at hl
  obtain rfl:=hl
  exact BL ⟨p_0,p_1,p_2,p_3,p_4,p_5,p_6,p_7⟩ hr
 ·cases e
def sP(p:Psn)(y:Int):Option (Psn×Int):=let x33:=Psn.mk 0 0 [] false 0 0 0 0;let x36:=List.take p.zs.length (List.drop 0 p.zs);let x34:=Psn.mk p.f p.r x36 p.bl p.ca p.pa p.ha p.fu;let x35:=x36.length;aM (decide (x35<=1000000)) (bif !x34.ok||decide (8<=y)then some (x33,2)else aN (yalW x34) ([],0) fun(y6:List Int×Nat)=>aM (decide (y6.2=(List.take y6.2 (List.drop 0 y6.1)).length))<|aN (ycon (List.take y6.2 (List.drop 0 y6.1)) y) false fun(y7:Bool)=>bif !y7 then some (x33,3)else aN (ypos y x34) x33 fun(y8:Psn)=>some (Psn.mk y8.f y8.r y8.zs y8.bl y8.ca y8.pa y8.ha y8.fu,0))
def uI(R:Psn×Int):V:=.tup [.agg [.int .i64 R.1.f,.int .i64 R.1.r,.sl 1 0 R.1.zs.length none,Bb R.1.bl,.int .u8 R.1.ca,.int .i64 R.1.pa,.int .i64 R.1.ha,.int .i64 R.1.fu],.int .i64 R.2]
def uq(R:Psn×Int):List O:=[.ints true .i8 R.1.zs]
def tB:CF
 |[.agg [.int .i64 p_0,.int .i64 p_1,.sl 0 0 p_2n none,.bool p_3,.int .u8 p_4,.int .i64 p_5,.int .i64 p_6,.int .i64 p_7],.int .u8 y_0],[.ints false .i8 p_2]=>retC (decide (p_2n=p_2.length)) (sP ⟨p_0,p_1,p_2,p_3,p_4,p_5,p_6,p_7⟩ y_0) (⟨0,0,[],false,0,0,0,0⟩,0) uI uq
 |_,_=>none
theorem BB(p:Psn)(y:Int){r}(hr:sP p y=some r):aj (GGx kCa kDb) PP 19 [.agg [.int .i64 p.f,.int .i64 p.r,.sl 0 0 p.zs.length none,Bb p.bl,.int .u8 p.ca,.int .i64 p.pa,.int .i64 p.ha,.int .i64 p.fu],.int .u8 y] [.ints false .i8 p.zs] (uI r) (uq r):=by
 have hE:=cutE (aF (kCa:=kCa) (kDb:=kDb) (cts:=[(37,ff),(65,mE),(66,zk),(67,nu)]) (inl:=[]) ⟨fC,gK,DB,gC,trivial⟩ trivial)
 refine bn hE 2 Tryz.func19 rfl rfl uI uq hr ?_ rfl rfl
 refine cr (pl (decide_eq_true (az rfl)) id) ?_
 refine af (Bool.not_or_self _) ?_
 refine af (Bool.or_not_self _) ?_
 refine ay hE 2 rfl ?_ ?_
 ·exact aB (iJ 2 2 (.ints true .i8 []) rfl rfl rfl rfl<|aD [3] (.inr rfl) rfl rfl rfl rfl rfl)
 refine aq (pl (decide_eq_true (az rfl)) id) ?_
 refine Bv (pb id id) ?_
 refine ay hE 2 rfl ?_ ?_
 ·exact aB (iJ 2 2 (.ints true .i8 []) rfl rfl rfl rfl<|aD [4] (.inr rfl) rfl rfl rfl rfl rfl)
 refine aq (pl (decide_eq_true (az rfl)) id) ?_
 exact aB (aD [4] (.inr rfl) rfl rfl rfl rfl rfl)
theorem yB:CtOk (GGx kCa kDb) PP (19,tB):=by
 refine aG Tryz.func19 (by kernel_rfl) rfl fun a0 h0 c0 v0 N0 e hc=>?_
 unfold tB at e
 split at e
 ·rename_i p_0 p_1 p_2n p_3 p_4 p_5 p_6 p_7 y_0 p_2
  obtain⟨hl,r,hr,rfl,rfl⟩:=aQ e hc
  simp only[decide_eq_true_eq]at hl
  obtain rfl:=hl
  exact BB ⟨p_0,p_1,p_2,p_3,p_4,p_5,p_6,p_7⟩ y_0 hr
 ·cases e
def gJ:Psn->List Int×Int->Option (List Int×Int ⊕ List Int ⊕ Psn×Int):=fun(y3:Psn) (s7:List Int×Int)=>let x34:=decide (s7.2<Int.ofNat y3.zs.length);let x33:=decide (0<=s7.2)&&x34;bif x34 then aM x33 (aM x33 (some (Sum.inl (s7.1.set s7.2.toNat (i8.wrap (s7.1.getD s7.2.toNat 0*-1)),i64.wrap (s7.2+1)))))else some (Sum.inr (Sum.inl s7.1))
def ry(p:Psn):Option (Psn×Int):=let x36:=Psn.mk 0 0 [] false 0 0 0 0;let x38:=2^Min.min (Int.toNat 2) u8.bits;let x40:=List.take p.zs.length (List.drop 0 p.zs);let x37:=Psn.mk p.f p.r x40 p.bl p.ca p.pa p.ha p.fu;let x39:=x40.length;aM (decide (x39<=1000000)) (bif !x37.ok then some (x36,2)else aN (ypos 2 x37) x36 fun(y3:Psn)=>bx (gJ y3) (fun(s15:List Int)=>aM (decide (y3.zs.length=s15.length)) (some (Psn.mk y3.f y3.r s15 (!y3.bl) (band Go.BinOp.or u8 (y3.ca.fdiv x38) (u8.wrap (band Go.BinOp.and u8 y3.ca 3*x38))) y3.pa y3.ha y3.fu,0))) 1000000 (y3.zs,0))
def jU(R:Psn×Int):V:=.tup [.agg [.int .i64 R.1.f,.int .i64 R.1.r,.sl 1 0 R.1.zs.length none,Bb R.1.bl,.int .u8 R.1.ca,.int .i64 R.1.pa,.int .i64 R.1.ha,.int .i64 R.1.fu],.int .i64 R.2]
def oA(R:Psn×Int):List O:=[.ints true .i8 R.1.zs]
def nD:CF
 |[.agg [.int .i64 p_0,.int .i64 p_1,.sl 0 0 p_2n none,.bool p_3,.int .u8 p_4,.int .i64 p_5,.int .i64 p_6,.int .i64 p_7]],[.ints false .i8 p_2]=>retC (decide (p_2n=p_2.length)) (ry ⟨p_0,p_1,p_2,p_3,p_4,p_5,p_6,p_7⟩) (⟨0,0,[],false,0,0,0,0⟩,0) jU oA
 |_,_=>none
theorem xw(p:Psn){r}(hr:ry p=some r):aj (GGx kCa kDb) PP 26 [.agg [.int .i64 p.f,.int .i64 p.r,.sl 0 0 p.zs.length none,Bb p.bl,.int .u8 p.ca,.int .i64 p.pa,.int .i64 p.ha,.int .i64 p.fu]] [.ints false .i8 p.zs] (jU r) (oA r):=by
 have hE:=cutE (aF (kCa:=kCa) (kDb:=kDb) (cts:=[(37,ff),(67,nu)]) (inl:=[]) ⟨fC,gC,trivial⟩ trivial)
 refine bn hE 2 Tryz.func26 rfl rfl jU oA hr ?_ rfl rfl
 refine cr (pl (decide_eq_true (az rfl)) id) ?_
 refine ay hE 2 rfl ?_ ?_
 ·exact aB (iJ 2 2 (.ints true .i8 []) rfl rfl rfl rfl<|aD [3] (.inr rfl) rfl rfl rfl rfl rfl)
 refine aq (pl (decide_eq_true (az rfl)) id) ?_
 refine bB hE 2 (let x44:=(ypos 2 (Psn.mk p.f p.r (List.take p.zs.length (List.drop 0 p.zs)) p.bl p.ca p.pa p.ha p.fu)).getD (Psn.mk 0 0 [] false 0 0 0 0);let x43:=x44.zs.length;fun(s7:List Int×Int)=>([(2,V.ptr 1 0 0),(3,I 0),(4,V.ptr 2 0 0),(14,I (Int.ofNat x43)),(15,I s7.2)],[O.ints false i8 p.zs,O.cells true [I 0,I 0,V.nils,Bb false,V.int u8 0,I 0,I 0,I 0],O.cells true [I x44.f,I x44.r,V.sl 3 0 x43 none,Bb x44.bl,V.int u8 x44.ca,I x44.pa,I x44.ha,I x44.fu],O.ints true i8 s7.1])) (let x46:=(ypos 2 (Psn.mk p.f p.r (List.take p.zs.length (List.drop 0 p.zs)) p.bl p.ca p.pa p.ha p.fu)).getD (Psn.mk 0 0 [] false 0 0 0 0);fun(s15:List Int)=>([(2,V.ptr 1 0 0),(3,I 0),(4,V.ptr 2 0 0)],[O.ints false i8 p.zs,O.cells true [I 0,I 0,V.nils,Bb false,V.int u8 0,I 0,I 0,I 0],O.cells true [I x46.f,I x46.r,V.sl 3 0 x46.zs.length none,Bb x46.bl,V.int u8 x46.ca,I x46.pa,I x46.ha,I x46.fu],O.ints true i8 s15])) (.exit 0) ((Ent.rn [0,2,4,3] [2,3,4,14,15] rfl rfl rfl rfl rfl)) (fun s7=>?_) (fun s15=>?_)
 ·refine ay hE 2 rfl ?_ ?_
  ·refine aO ?_
   refine aO ?_
   exact bu ((Ent.rn [0,1,2,3] [2,3,4,14,15] rfl rfl rfl rfl rfl))
  exact bA ((Ent.rn [0,1,2,3] [2,3,4] rfl rfl rfl rfl rfl))
 refine af rfl ?_
 refine af rfl ?_
 refine BP (fun h0=>?_)
 exact aB (aD [3] (.inr rfl) rfl rfl rfl rfl (by have qh0:=of_decide_eq_true h0;simp_all [jU]))
theorem vc:CtOk (GGx kCa kDb) PP (26,nD):=by
 refine aG Tryz.func26 (by kernel_rfl) rfl fun a0 h0 c0 v0 N0 e hc=>?_
 unfold nD at e
 split at e
 ·rename_i p_0 p_1 p_2n p_3 p_4 p_5 p_6 p_7 p_2
  obtain⟨hl,r,hr,rfl,rfl⟩:=aQ e hc
  simp only[decide_eq_true_eq]at hl
  obtain rfl:=hl
  exact xw ⟨p_0,p_1,p_2,p_3,p_4,p_5,p_6,p_7⟩ hr
 ·cases e
end
section
variable{kCa kDb:Bool}
theorem Gh{zs:List Int}(h:zs.length<=70){n:Nat}(hn:n=zs.length):(decide (n=(tk zs).length)&&decide ((tk zs).length<=70))=true:=by rw[dI,hn];simp;omega
theorem wA{zs ws:List Int}{g:Bool}(h1:zs.length<=70)(h2:ws.length<=70):(!g||(decide (zs.length=(tk zs).length)&&decide ((tk zs).length<=70)&&decide (ws.length=(tk ws).length)&&decide ((tk ws).length<=70)))=true:=by
 rw[dI,dI];simp[h1,h2]
theorem qF{zs ws:List Int}(h1:zs.length<=70)(h2:ws.length<=70):(decide (zs.length=(tk zs).length)&&decide ((tk zs).length<=70)&&decide (ws.length=(tk ws).length)&&decide ((tk ws).length<=70))=true:=by
 rw[dI,dI];simp[h1,h2]
def iU:CF
 |[.agg [.int .i64 f,.int .i64 r,.sl 0 0 len none]],[.ints false .i8 zs]=>some (decide (len=zs.length)&&decide (zs.length<=70),.bool (aL f r zs),[])
 |_,_=>none
theorem nL:CtOk (GGx kCa kDb) PP (107,iU):=by
 refine aG Tryz.func107 (by kernel_rfl) rfl fun a0 h0 c0 v0 N0 e hc=>?_
 unfold iU at e
 split at e
 ·rename_i f r len zs
  cases e
  have hE:=aF (kCa:=kCa) (kDb:=kDb) (cts:=[(33,gq),(143,oU)]) (inl:=[]) ⟨dD,mH,trivial⟩ trivial
  refine ak hE 2 Tryz.func107 rfl rfl ?_
  simp only[Bool.and_eq_true,decide_eq_true_eq]at hc
  obtain⟨rfl,hc2⟩:=hc
  repeat (first|refine ah ?_|refine sat_nd ?_)
  refine ax (fun h=>?_) (fun h=>?_)
  ·have h:(vsB f r&&decide ((zs.length:Int)=i64.wrap (f*r)))=false:=by
    have h:(!vsB f r||!decide ((zs.length:Int)=i64.wrap (f*r)))=true:=h
    cases h1:vsB f r<;>cases h2:decide ((zs.length:Int)=i64.wrap (f*r))<;>simp_all
   exact ae (ai (.inr rfl) rfl rfl rfl (by rw[<-fI,h];rfl))
  have h:(vsB f r&&decide ((zs.length:Int)=i64.wrap (f*r)))=true:=by
   have h:(!vsB f r||!decide ((zs.length:Int)=i64.wrap (f*r)))=false:=h
   cases h1:vsB f r<;>cases h2:decide ((zs.length:Int)=i64.wrap (f*r))<;>simp_all
  refine bK hE 2 (fun i (_:Unit)=>([(1,.ptr 1 0 0),(3,I i)],[.ints false .i8 zs,.cells true [I f,I r,.sl 0 0 zs.length none]])) zs.length (fun j _=>(zs.drop j).all okP=zs.all okP) () (by omega) (Ent.ren [0,1] [1,3] rfl rfl rfl) rfl ?_
  intro j i _ hij hj hz
  refine ax (fun hlt=>?_) (fun hlt=>?_)
  ·have hlt':j<zs.length:=by simp at hlt;omega
   rw[jT hlt',show j=i.toNat by omega]at hz
   refine ag (by simp;omega) ?_
   repeat (first|(first|refine ah ?_|refine sat_nd ?_)|refine ag (by simp;omega) ?_)
   refine ax (fun hon=>?_) (fun hon=>?_)
   ·have hon:(!okP (zs.getD i.toNat 0))=true:=hon
    have hon:okP (zs.getD i.toNat 0)=false:=by simpa using hon
    rw[hon]at hz
    exact ae (ae (ai (.inr rfl) rfl rfl rfl (by rw[<-fI,h,<-hz];rfl)))
   ·have hon:(!okP (zs.getD i.toNat 0))=false:=hon
    have hon:okP (zs.getD i.toNat 0)=true:=by simpa using hon
    rw[hon]at hz
    exact ae ⟨hlt',(),by rw[<-hz,show i.toNat=j by omega];rfl,Ent.ren [0,1] [1,3] rfl rfl rfl⟩
  ·obtain rfl:j=zs.length:=by simp at hlt;omega
   rw[List.drop_length]at hz
   have hz:zs.all okP=true:=hz.symm
   exact ae (ae (ai (.inr rfl) rfl rfl rfl (by rw[<-fI,h,hz];rfl)))
 ·cases e
def pI:CF
 |[.agg [.int .i64 f,.int .i64 r,.sl 0 0 len none]],[.ints false .i8 zs]=>some (decide (len=zs.length)&&decide (zs.length<=70),.bool (aZ f r zs),[])
 |_,_=>none
theorem sM:CtOk (GGx kCa kDb) PP (54,pI):=by
 refine aG Tryz.func54 (by kernel_rfl) rfl fun a0 h0 c0 v0 N0 e hc=>?_
 unfold pI at e
 split at e
 ·rename_i f r len zs
  cases e
  have hE:=aF (kCa:=kCa) (kDb:=kDb) (cts:=[(107,iU),(108,jZ)]) (inl:=[]) ⟨nL,lK,trivial⟩ trivial
  refine ak hE 2 Tryz.func54 rfl rfl ?_
  simp only[Bool.and_eq_true,decide_eq_true_eq]at hc
  obtain⟨rfl,hc2⟩:=hc
  repeat (first|refine ah ?_|refine sat_nd ?_)
  refine ax (fun h=>?_) (fun h=>?_)
  ·have h:aL f r zs=false:=by simpa using h
   exact ae (ai (.inr rfl) rfl rfl rfl (by rw[<-iR,h];rfl))
  have h:aL f r zs=true:=by simpa using h
  refine bK hE 2 (fun i (_:Unit)=>([(1,.ptr 1 0 0),(3,I i)],[.ints false .i8 zs,.cells true [I f,I r,.sl 0 0 zs.length none]])) zs.length (fun j _=>(zs.drop j).all nnP=zs.all nnP) () (by omega) (Ent.ren [0,1] [1,3] rfl rfl rfl) rfl ?_
  intro j i _ hij hj hz
  refine ax (fun hlt=>?_) (fun hlt=>?_)
  ·have hlt':j<zs.length:=by simp at hlt;omega
   rw[jT hlt',show j=i.toNat by omega]at hz
   refine ag (by simp;omega) ?_
   repeat (first|(first|refine ah ?_|refine sat_nd ?_)|refine ag (by simp;omega) ?_)
   refine ax (fun hon=>?_) (fun hon=>?_)
   ·have hon:(!nnP (zs.getD i.toNat 0))=true:=(Bool.not_not _).trans hon
    have hon:nnP (zs.getD i.toNat 0)=false:=by simpa using hon
    rw[hon]at hz
    exact ae (ae (ai (.inr rfl) rfl rfl rfl (by rw[<-iR,h,show zs.all (fun p=>!norP p)=zs.all nnP from rfl,<-hz];rfl)))
   ·have hon:(!nnP (zs.getD i.toNat 0))=false:=(Bool.not_not _).trans hon
    have hon:nnP (zs.getD i.toNat 0)=true:=by simpa using hon
    rw[hon]at hz
    exact ae ⟨hlt',(),by rw[<-hz,show i.toNat=j by omega];rfl,Ent.ren [0,1] [1,3] rfl rfl rfl⟩
  ·obtain rfl:j=zs.length:=by simp at hlt;omega
   rw[List.drop_length]at hz
   have hz:zs.all nnP=true:=hz.symm
   exact ae (ae (ai (.inr rfl) rfl rfl rfl (by rw[<-iR,h,show zs.all (fun p=>!norP p)=zs.all nnP from rfl,hz];rfl)))
 ·cases e
def oo:CF
 |[.agg [.int .i64 f,.int .i64 r,.sl 0 0 len none],.agg [.int .i64 f2,.int .i64 r2,.sl 1 0 len2 none]],[.ints false .i8 zs,.ints false .i8 ws]=>some (decide (len=zs.length)&&decide (zs.length<=70)&&decide (len2=ws.length)&&decide (ws.length<=70),.bool (xX f r zs f2 r2 ws),[])
 |_,_=>none
theorem th:CtOk (GGx kCa kDb) PP (116,oo):=by
 refine aG Tryz.func116 (by kernel_rfl) rfl fun a0 h0 c0 v0 N0 e hc=>?_
 unfold oo at e
 split at e
 ·rename_i f r len f2 r2 len2 zs ws
  cases e
  have hE:=aF (kCa:=kCa) (kDb:=kDb) (cts:=[]) (inl:=[]) trivial trivial
  refine ak hE 2 Tryz.func116 rfl rfl ?_
  simp only[Bool.and_eq_true,decide_eq_true_eq]at hc
  obtain⟨⟨⟨rfl,hz64⟩,rfl⟩,hw64⟩:=hc
  repeat (first|refine ah ?_|refine sat_nd ?_)
  refine ax (fun h=>?_) (fun h=>?_)
  ·have h:(!(decide (f=f2)&&decide (r=r2))||!decide ((zs.length:Int)=ws.length))=true:=h
   exact ae (ai (.inr rfl) rfl rfl rfl (congrArg V.bool (by
    rw[Bool.or_eq_true]at h
    rcases h with h|h
    ·rw[Bool.not_eq_true']at h;rw[xX,h];rfl
    ·have hne:¬ zs=ws:=by intro h2;subst h2;simp at h
     simp[xX,hne])))
  have h:(!(decide (f=f2)&&decide (r=r2))||!decide ((zs.length:Int)=ws.length))=false:=h
  simp only[Bool.or_eq_false_iff,Bool.not_eq_false',decide_eq_true_eq]at h
  obtain⟨hfr,hl⟩:=h
  have hl:zs.length=ws.length:=by omega
  refine bK hE 2 (fun i (_:Unit)=>([(2,.ptr 2 0 0),(3,.ptr 3 0 0),(5,I i)],[.ints false .i8 zs,.ints false .i8 ws,.cells true [I f,I r,.sl 0 0 zs.length none],.cells true [I f2,I r2,.sl 1 0 ws.length none]])) zs.length (fun j _=>decide (zs.drop j=ws.drop j)=decide (zs=ws)) () (by omega) (Ent.ren [0,1,2,3] [2,3,5] rfl rfl rfl) rfl ?_
  intro j i _ hij hj hz
  refine ax (fun hlt=>?_) (fun hlt=>?_)
  ·have hlt':j<zs.length:=by simp at hlt;omega
   rw[My hlt' (by omega),show j=i.toNat by omega]at hz
   repeat (first|(first|refine ah ?_|refine sat_nd ?_)|refine ag (by simp only[Bool.and_eq_true,decide_eq_true_eq];omega) ?_)
   refine ax (fun hon=>?_) (fun hon=>?_)
   ·have hon:(!decide (zs.getD i.toNat 0=ws.getD i.toNat 0))=true:=hon
    rw[Bool.not_eq_true']at hon
    rw[hon,Bool.false_and]at hz
    exact ae (ae (ai (.inr rfl) rfl rfl rfl (by rw[xX,<-hz];simp)))
   ·have hon:(!decide (zs.getD i.toNat 0=ws.getD i.toNat 0))=false:=hon
    rw[Bool.not_eq_false']at hon
    rw[hon,Bool.true_and]at hz
    exact ae ⟨hlt',(),by rw[<-hz,show i.toNat=j by omega],Ent.ren [0,1,2,3] [2,3,5] rfl rfl rfl⟩
  ·obtain rfl:j=zs.length:=by simp at hlt;omega
   rw[List.drop_length,hl,List.drop_length]at hz
   exact ae (ae (ai (.inr rfl) rfl rfl rfl (by rw[xX,hfr,<-hz];simp)))
 ·cases e
def nI:CF
 |[.agg [.int .i64 f,.int .i64 r,.sl 0 0 len none,.bool bl,.int .u8 ca,.int .i64 pa,.int .i64 ha,.int .i64 fu],.agg [.int .i64 f2,.int .i64 r2,.sl 1 0 len2 none,.bool bl2,.int .u8 ca2,.int .i64 pa2,.int .i64 ha2,.int .i64 fu2]],[.ints false .i8 zs,.ints false .i8 ws]=>some (decide (len=zs.length)&&decide (zs.length<=70)&&decide (len2=ws.length)&&decide (ws.length<=70),.bool (FN ⟨f,r,zs,bl,ca,pa,ha,fu⟩ ⟨f2,r2,ws,bl2,ca2,pa2,ha2,fu2⟩),[])
 |_,_=>none
theorem sJ:CtOk (GGx kCa kDb) PP (62,nI):=by
 refine aG Tryz.func62 (by kernel_rfl) rfl fun a0 h0 c0 v0 N0 e hc=>?_
 unfold nI at e
 split at e
 ·rename_i f r len bl ca pa ha fu f2 r2 len2 bl2 ca2 pa2 ha2 fu2 zs ws
  cases e
  have hE:=aF (kCa:=kCa) (kDb:=kDb) (cts:=[(53,CL),(116,oo)]) (inl:=[]) ⟨pE,th,trivial⟩ trivial
  refine ak hE 2 Tryz.func62 rfl rfl ?_
  simp only[Bool.and_eq_true,decide_eq_true_eq]at hc
  obtain⟨⟨⟨rfl,hz64⟩,rfl⟩,hw64⟩:=hc
  repeat (first|(first|refine ah ?_|refine sat_nd ?_)|refine ag (wA hz64 hw64) ?_|refine ag (qF hz64 hw64) ?_)
  exact ae (ai (.inr rfl) rfl rfl rfl (congrArg V.bool (by
   show (xX f r (tk zs) f2 r2 (tk ws)&&(bl==bl2)&&decide (ca=ca2)&&decide (pa=pa2))=_
   rw[aS,aS];rfl)))
 ·cases e
def gB:CF
 |[.agg [.int .i64 f,.int .i64 r,.sl 0 0 len none,.bool bl,.int .u8 ca,.int .i64 pa,.int .i64 ha,.int .i64 fu],.agg [.int .i64 f2,.int .i64 r2,.sl 1 0 len2 none,.bool bl2,.int .u8 ca2,.int .i64 pa2,.int .i64 ha2,.int .i64 fu2]],[.ints false .i8 zs,.ints false .i8 ws]=>some (decide (len=zs.length)&&decide (zs.length<=70)&&decide (len2=ws.length)&&decide (ws.length<=70),.bool (jq ⟨f,r,zs,bl,ca,pa,ha,fu⟩ ⟨f2,r2,ws,bl2,ca2,pa2,ha2,fu2⟩),[])
 |_,_=>none
theorem eZ:CtOk (GGx kCa kDb) PP (16,gB):=by
 refine aG Tryz.func16 (by kernel_rfl) rfl fun a0 h0 c0 v0 N0 e hc=>?_
 unfold gB at e
 split at e
 ·rename_i f r len bl ca pa ha fu f2 r2 len2 bl2 ca2 pa2 ha2 fu2 zs ws
  cases e
  have hE:=aF (kCa:=kCa) (kDb:=kDb) (cts:=[(62,nI)]) (inl:=[]) ⟨sJ,trivial⟩ trivial
  refine ak hE 2 Tryz.func16 rfl rfl ?_
  simp only[Bool.and_eq_true,decide_eq_true_eq]at hc
  obtain⟨⟨⟨rfl,hz64⟩,rfl⟩,hw64⟩:=hc
  repeat (first|(first|refine ah ?_|refine sat_nd ?_)|refine ag (wA hz64 hw64) ?_|refine ag (qF hz64 hw64) ?_)
  exact ae (ai (.inr rfl) rfl rfl rfl (congrArg V.bool (by
   show (FN ⟨f,r,tk zs,bl,ca,pa,ha,fu⟩ ⟨f2,r2,tk ws,bl2,ca2,pa2,ha2,fu2⟩&&decide (ha=ha2)&&decide (fu=fu2))=_
   rw[aS,aS];rfl)))
 ·cases e
theorem kF{f r:Int}{zs:List Int}(h:aZ f r zs=true):zs.length<=64:=by
 obtain⟨hv,_,hbd,_⟩:=bw h
 obtain⟨_,hl⟩:=bS hbd
 obtain⟨m1,m2⟩:=bF hv
 omega
theorem FK{f r:Int}{zs:List Int}{n:Nat}(hn:n=zs.length):(!(!(!aZ f r (tk zs)))||(decide (n=(tk zs).length)&&decide ((tk zs).length<=64)))=true:=by
 subst hn
 cases h:aZ f r (tk zs) with
 |false=>simp
 |true=>have:=kF h;rw[dI]at *;simp[this]
theorem Dg{f r:Int}{zs:List Int}{x:Bool}{n:Nat}(hn:n=zs.length):(!(!(!aZ f r (tk zs)||x))||(decide (n=(tk zs).length)&&decide ((tk zs).length<=64)))=true:=by
 subst hn
 cases h:aZ f r (tk zs) with
 |false=>simp
 |true=>have:=kF h;rw[dI]at *;simp[this]
theorem DE{f r:Int}{zs:List Int}{_bl:Bool}{x y:Bool}:(!(!(!aZ f r (tk zs)||x||y))||(decide (zs.length=(tk zs).length)&&decide ((tk zs).length<=64)&&vsB f r))=true:=by
 cases h:aZ f r (tk zs) with
 |false=>simp
 |true=>have:=kF h;rw[dI]at *;rw[(bw h).1];simp[this]
def fm:CF
 |[.agg [.int .i64 f,.int .i64 r,.sl 0 0 len none,.bool bl,.int .u8 ca,.int .i64 pa,.int .i64 ha,.int .i64 fu]],[.ints false .i8 zs]=>some (decide (len=zs.length)&&decide (zs.length<=70),.bool (dy ⟨f,r,zs,bl,ca,pa,ha,fu⟩),[])
 |_,_=>none
theorem fG:CtOk (GGx kCa kDb) PP (15,fm):=by
 refine aG Tryz.func15 (by kernel_rfl) rfl fun a0 h0 c0 v0 N0 e hc=>?_
 unfold fm at e
 split at e
 ·rename_i f r len bl ca pa ha fu zs
  cases e
  have hE:=aF (kCa:=kCa) (kDb:=kDb) (cts:=[(54,pI),(55,fk),(56,kg),(57,hY),(58,dJ),(59,nR),(60,hU),(61,fS)]) (inl:=[(53,Tryz.f53)]) ⟨sM,fF,kK,gi,cj,mO,je,gI,trivial⟩ ⟨⟨Tryz.func53,by kernel_rfl⟩,trivial⟩
  refine ak hE 2 Tryz.func15 rfl rfl ?_
  simp only[Bool.and_eq_true,decide_eq_true_eq]at hc
  obtain⟨rfl,hc7⟩:=hc
  repeat (first|(first|refine ah ?_|refine sat_nd ?_)|refine ag (Gh hc7 rfl) ?_|refine ag (FK rfl) ?_|refine ag (Dg rfl) ?_|refine ag (DE (_bl:=bl)) ?_)
  refine ax (fun h=>?_) (fun h=>?_)
  ·have h:(!aZ f r (tk zs)||decide (bh (tk zs) false<0)||decide (bh (tk zs) true<0)||chkL f r (tk zs) (!bl))=true:=h
   rw[aS]at h
   exact ae (ai (.inr rfl) rfl rfl rfl (by simp only[dy,h,cond_true]))
  have h:(!aZ f r (tk zs)||decide (bh (tk zs) false<0)||decide (bh (tk zs) true<0)||chkL f r (tk zs) (!bl))=false:=h
  rw[aS]at h
  have h':=h
  simp only[Bool.or_eq_false_iff,Bool.not_eq_false']at h'
  obtain⟨hvs,_,hbd,_⟩:=bw h'.1.1.1
  have hc2:zs.length<=64:=kF h'.1.1.1
  have hf0:(!decide (f=0))=true:=by have:=cS hvs;simp;omega
  have hf1:∀ g:Bool,(!g||!decide (f=0))=true:=fun g=>by rw[hf0];simp
  have h88:=v88 hbd
  have h88t:(!decide (f=8)||!decide (r=8)||decide ((tk zs).length=64))=true:=by rw[aS];exact h88
  have hbdt:aL f r (tk zs)=true:=by rw[aS];exact hbd
  refine bK hE 2 (fun i (_:Unit)=>([(1,.ptr 1 0 0),(4,I i)],[.ints false .i8 zs,.cells true [I f,I r,.sl 0 0 zs.length none,Bb bl,.int .u8 ca,I pa,I ha,I fu]])) zs.length (fun j _=>∀ k,k<j->pwL f r zs (k:Nat)=false) () (by omega) (Ent.ren [0,1] [1,4] rfl rfl rfl) (fun k hk=>absurd hk (by omega)) ?_
  intro j i _ hij hj hz
  refine ax (fun hlt=>?_) (fun hlt=>?_)
  ·have hlt':j<zs.length:=by simp at hlt;omega
   repeat (first|(first|refine ah ?_|refine sat_nd ?_)|refine ag (by simp only[Bool.and_eq_true,decide_eq_true_eq];omega) ?_|refine ag (hf1 _) ?_|refine ag (ox ⟨by omega,by omega⟩) ?_)
   refine ax (fun hon=>?_) (fun hon=>?_)
   ·have hon:pwL f r zs i=true:=hon
    have hpw:mu f r zs=true:=List.any_eq_true.2 ⟨j,List.mem_range.2 hlt',by rw[<-hij];exact hon⟩
    exact ae (ae (ai (.inr rfl) rfl rfl rfl (by simp only[dy,h,hpw,cond_true,cond_false])))
   ·have hon:pwL f r zs i=false:=hon
    refine ae ⟨hlt',(),fun k hk=>?_,Ent.ren [0,1] [1,4] rfl rfl rfl⟩
    rcases Nat.lt_or_ge k j with hk2|hk2
    ·exact hz k hk2
    ·obtain rfl:k=j:=by omega
     rw[<-hij];exact hon
  ·obtain rfl:j=zs.length:=by simp at hlt;omega
   have hpw:mu f r zs=false:=List.any_eq_false.2 fun k hk=>by rw[hz k (List.mem_range.1 hk)];simp
   refine ae ?_
   repeat (first|(first|refine ah ?_|refine sat_nd ?_)|refine ag (bL hc2 rfl) ?_|refine ag (bU hc2 rfl h88t) ?_|refine ag (jR hc2 hbdt) ?_|refine ag (jR hc2 h88t) ?_)
   exact ae (ai (.inr rfl) rfl rfl rfl (by
    show V.bool (ju f r (tk zs) ca&&pasL f r (tk zs) bl pa ha&&decide (0<=ha)&&decide (ha<=10000)&&decide (1<=fu)&&decide (fu<=10000))=_
    rw[aS];simp only[dy,h,hpw,cond_false]))
 ·cases e
end
end Go.Ab
namespace Go.Ab
open Go.Proofs
section
variable{kCa kDb:Bool}
def CH(p:Psn)(y:Int):Option (Psn×Int):=let x31:=Psn.mk 0 0 [] false 0 0 0 0;let x34:=List.take p.zs.length (List.drop 0 p.zs);let x32:=Psn.mk p.f p.r x34 p.bl p.ca p.pa p.ha p.fu;let x33:=x34.length;aM (decide (x33<=70)) (bif !dy x32||decide (7<y)then some (x31,2)else aN (yrAl x32) [] fun(y4:List Int)=>aN (yrIn (List.take y4.length (List.drop 0 y4)) y) false fun(y5:Bool)=>bif !y5 then some (x31,3)else aN (rj x32 y) x31 fun(y6:Psn)=>some (Psn.mk y6.f y6.r y6.zs y6.bl y6.ca y6.pa y6.ha y6.fu,0))
def sj(R:Psn×Int):V:=.tup [.agg [.int .i64 R.1.f,.int .i64 R.1.r,.sl 1 0 R.1.zs.length none,Bb R.1.bl,.int .u8 R.1.ca,.int .i64 R.1.pa,.int .i64 R.1.ha,.int .i64 R.1.fu],.int .i64 R.2]
def uh(R:Psn×Int):List O:=[.ints true .i8 R.1.zs]
def ve:CF
 |[.agg [.int .i64 p_0,.int .i64 p_1,.sl 0 0 p_2n none,.bool p_3,.int .u8 p_4,.int .i64 p_5,.int .i64 p_6,.int .i64 p_7],.int .u8 y_0],[.ints false .i8 p_2]=>retC (decide (p_2n=p_2.length)) (CH ⟨p_0,p_1,p_2,p_3,p_4,p_5,p_6,p_7⟩ y_0) (⟨0,0,[],false,0,0,0,0⟩,0) sj uh
 |_,_=>none
theorem DI(p:Psn)(y:Int){r}(hr:CH p y=some r):aj (GGx kCa kDb) PP 20 [.agg [.int .i64 p.f,.int .i64 p.r,.sl 0 0 p.zs.length none,Bb p.bl,.int .u8 p.ca,.int .i64 p.pa,.int .i64 p.ha,.int .i64 p.fu],.int .u8 y] [.ints false .i8 p.zs] (sj r) (uh r):=by
 have hE:=cutE (aF (kCa:=kCa) (kDb:=kDb) (cts:=[(15,fm),(22,vp),(39,Ao),(63,pG)]) (inl:=[]) ⟨fG,pQ,CY,nv,trivial⟩ trivial)
 refine bn hE 2 Tryz.func20 rfl rfl sj uh hr ?_ rfl rfl
 refine cr (pl (decide_eq_true (az rfl)) id) ?_
 refine af (Bool.not_or_self _) ?_
 refine af (Bool.or_not_self _) ?_
 refine ay hE 2 rfl ?_ ?_
 ·exact aB (iJ 2 2 (.ints true .i8 []) rfl rfl rfl rfl<|aD [3] (.inr rfl) rfl rfl rfl rfl rfl)
 refine aq (pl (decide_eq_true (az rfl)) id) ?_
 refine aq (pl (decide_eq_true (az rfl)) id) ?_
 refine ay hE 2 rfl ?_ ?_
 ·exact aB (iJ 2 2 (.ints true .i8 []) rfl rfl rfl rfl<|aD [4] (.inr rfl) rfl rfl rfl rfl rfl)
 refine aq (pl (decide_eq_true (az rfl)) id) ?_
 exact aB (aD [4] (.inr rfl) rfl rfl rfl rfl rfl)
theorem yo:CtOk (GGx kCa kDb) PP (20,ve):=by
 refine aG Tryz.func20 (by kernel_rfl) rfl fun a0 h0 c0 v0 N0 e hc=>?_
 unfold ve at e
 split at e
 ·rename_i p_0 p_1 p_2n p_3 p_4 p_5 p_6 p_7 y_0 p_2
  obtain⟨hl,r,hr,rfl,rfl⟩:=aQ e hc
  simp only[decide_eq_true_eq]at hl
  obtain rfl:=hl
  exact DI ⟨p_0,p_1,p_2,p_3,p_4,p_5,p_6,p_7⟩ y_0 hr
 ·cases e
end
end Go.Ab
namespace Go.Ab
def isPw(x:Int):Bool:=decide (x=1)||decide (x=-1)
def alN(p:Psn):Nat:=bif !decide (p.ca=0)then 1 else bif p.zs.any isPw then 2 else(yaL (decide (p.f=p.r))).length
theorem vX{zs:List Int}{k:Nat}(h:k<zs.length):(zs.drop k).any isPw=(isPw (zs.getD k 0)||(zs.drop (k+1)).any isPw):=by
 rw[List.drop_eq_getElem_cons h,List.any_cons];simp[List.getD,h]
theorem qE(p:Psn)(hl:p.zs.length<=64)(e:Nat):∀ (d k:Nat),k+d=p.zs.length->bx (iw p) (fun(_:Unit)=>some false) (d+1+e) (k:Int)=some ((p.zs.drop k).any isPw)
 |0,k,hk=>by
  rw[show 0+1+e=e+1 by omega,List.drop_eq_nil_of_le (by omega)]
  refine bR (x:=()) ?_
  unfold iw
  dsimp only
  rw[decide_eq_false (show ¬ ((k:Int)<Int.ofNat p.zs.length) by simp only[Int.ofNat_eq_natCast];omega)]
  rfl
 |d+1,k,hk=>by
  have hlt:k<p.zs.length:=by omega
  have hw:IntKind.i64.wrap ((k:Int)+1)=((k+1:Nat):Int):=by rw[aK (by omega) (by omega)];omega
  have d1:decide ((k:Int)<Int.ofNat p.zs.length)=true:=decide_eq_true (by simp only[Int.ofNat_eq_natCast];omega)
  have d2:decide ((0:Int)<=k)=true:=decide_eq_true (Int.natCast_nonneg k)
  rw[vX hlt,show d+1+1+e=(d+1+e)+1 by omega]
  cases hp:isPw (p.zs.getD k 0) with
  |true=>
   refine rQ ?_
   unfold iw
   unfold isPw at hp
   dsimp only
   rw[Int.toNat_natCast,d1,d2,hp]
   cases decide (p.zs.getD k 0=1)<;>rfl
  |false=>
   rw[bQ (s':=((k+1:Nat):Int)) (by
    unfold iw
    unfold isPw at hp
    dsimp only
    rw[Int.toNat_natCast,d1,d2,hp,hw]
    cases decide (p.zs.getD k 0=1)<;>rfl),qE p hl e d (k+1) (by omega)]
   rfl
theorem qW(p:Psn)(hl:p.zs.length<=64)(b:Bool)(c:Int)(e:Nat):∀ (d k:Nat),k+d=p.zs.length->bx (iS p (yaL b,c)) (fun(_:Int)=>some (yaL b,(yaL b).length)) (d+1+e) (k:Int)=some (yaL b,bif (p.zs.drop k).any isPw then 2 else(yaL b).length)
 |0,k,hk=>by
  rw[show 0+1+e=e+1 by omega,List.drop_eq_nil_of_le (by omega)]
  refine bR (x:=(k:Int)) ?_
  unfold iS
  dsimp only
  rw[decide_eq_false (show ¬ ((k:Int)<Int.ofNat p.zs.length) by simp only[Int.ofNat_eq_natCast];omega)]
  rfl
 |d+1,k,hk=>by
  have hlt:k<p.zs.length:=by omega
  have hw:IntKind.i64.wrap ((k:Int)+1)=((k+1:Nat):Int):=by rw[aK (by omega) (by omega)];omega
  have d1:decide ((k:Int)<Int.ofNat p.zs.length)=true:=decide_eq_true (by simp only[Int.ofNat_eq_natCast];omega)
  have d2:decide ((0:Int)<=k)=true:=decide_eq_true (Int.natCast_nonneg k)
  rw[vX hlt,show d+1+1+e=(d+1+e)+1 by omega]
  cases hp:isPw (p.zs.getD k 0) with
  |true=>
   refine rQ ?_
   unfold iS
   unfold isPw at hp
   dsimp only
   rw[Int.toNat_natCast,d1,d2,hp]
   cases b<;>rfl
  |false=>
   rw[bQ (s':=((k+1:Nat):Int)) (by
    unfold iS
    unfold isPw at hp
    dsimp only
    rw[Int.toNat_natCast,d1,d2,hp,hw]
    rfl),qW p hl b c e d (k+1) (by omega)]
   rfl
theorem Bo{p:Psn}(hv:vsB p.f p.r=true)(hl:p.zs.length<=64):yalW p=some (yaL (decide (p.f=p.r)),alN p):=by
 unfold yalW
 rw[Af]
 dsimp only
 rw[hv,cond_true,aH]
 have h:=qW p hl (decide (p.f=p.r)) 0 (999999-p.zs.length) p.zs.length 0 (by omega)
 rw[show p.zs.length+1+(999999-p.zs.length)=1000000 by omega,List.drop_zero]at h
 have h:bx (iS p (yaL (decide (p.f=p.r)),0)) (fun(_:Int)=>some (yaL (decide (p.f=p.r)),(yaL (decide (p.f=p.r))).length)) 1000000 0=_:=h
 dsimp only
 rw[h]
 unfold alN
 cases decide (p.ca=0) with
 |true=>rfl
 |false=>cases decide (p.f=p.r)<;>rfl
theorem Dh{p:Psn}(hl:p.zs.length<=64):yrAl p=some ((yaL (decide (p.f=p.r))).take (alN p)):=by
 unfold yrAl yrPa
 simp only[List.drop_zero,List.take_length]
 have h:=qE p hl (999999-p.zs.length) p.zs.length 0 (by omega)
 rw[show p.zs.length+1+(999999-p.zs.length)=1000000 by omega,List.drop_zero]at h
 have h:bx (iw p) (fun(_:Unit)=>some false) 1000000 0=_:=h
 rw[h,vw]
 unfold alN
 cases decide (p.ca=0) with
 |false=>cases decide (p.f=p.r)<;>rfl
 |true=>cases p.zs.any isPw<;>cases decide (p.f=p.r)<;>rfl
def inA(b:Bool)(n:Nat)(y:Int):Bool:=((yaL b).take n).any fun x=>decide (x=y)
def inT(b:Bool)(n:Nat)(y:Nat):Bool:=decide (ycon (List.take n (List.drop 0 (yaL b))) (Int.ofNat y)=some (inA b n (Int.ofNat y)))&&decide (yrIn (List.take (List.take n (yaL b)).length (List.drop 0 (List.take n (yaL b)))) (Int.ofNat y)=some (inA b n (Int.ofNat y)))&&(!inA b n (Int.ofNat y)||(decide (Int.ofNat y<4)||b))
theorem KF:([true,false].all fun b=>[1,2,(yaL b).length].all fun n=>(List.range 8).all (inT b n))=true:=by kernel_rfl
def syT(b:Bool)(n:Nat):Bool:=decide (n=(List.take n (List.drop 0 (yaL b))).length)&&decide (mj (List.take n (List.drop 0 (yaL b))) 0 (List.take (List.take n (yaL b)).length (List.drop 0 (List.take n (yaL b))))=some true)
theorem LG:([true,false].all fun b=>[1,2,(yaL b).length].all (syT b))=true:=by kernel_rfl
theorem Df(p:Psn):alN p∈[1,2,(yaL (decide (p.f=p.r))).length]:=by
 unfold alN
 cases decide (p.ca=0) with
 |false=>simp
 |true=>cases p.zs.any isPw<;>simp
theorem Mc(b:Bool):b∈[true,false]:=by cases b<;>simp
theorem LF(p:Psn){y:Int}(h0:0<=y)(h8:y<8):ycon (List.take (alN p) (List.drop 0 (yaL (decide (p.f=p.r))))) y=some (inA (decide (p.f=p.r)) (alN p) y)/\yrIn (List.take (List.take (alN p) (yaL (decide (p.f=p.r)))).length (List.drop 0 (List.take (alN p) (yaL (decide (p.f=p.r)))))) y=some (inA (decide (p.f=p.r)) (alN p) y)/\(inA (decide (p.f=p.r)) (alN p) y=true->y<4\/p.f=p.r):=by
 obtain⟨n,hn,rfl⟩:=of8 h0 h8
 have:=List.all_eq_true.1 (List.all_eq_true.1 (List.all_eq_true.1 KF _ (Mc (decide (p.f=p.r)))) _ (Df p)) n hn
 unfold inT at this
 rw[Bool.and_eq_true,Bool.and_eq_true,decide_eq_true_eq,decide_eq_true_eq]at this
 obtain⟨⟨h1,h2⟩,h3⟩:=this
 refine⟨h1,h2,fun h=>?_⟩
 rw[h]at h3
 simpa using h3
theorem LQ(p:Psn):alN p=(List.take (alN p) (List.drop 0 (yaL (decide (p.f=p.r))))).length/\mj (List.take (alN p) (List.drop 0 (yaL (decide (p.f=p.r))))) 0 (List.take (List.take (alN p) (yaL (decide (p.f=p.r)))).length (List.drop 0 (List.take (alN p) (yaL (decide (p.f=p.r))))))=some true:=by
 have:=List.all_eq_true.1 (List.all_eq_true.1 LG _ (Mc (decide (p.f=p.r)))) _ (Df p)
 unfold syT at this
 rw[Bool.and_eq_true,decide_eq_true_eq,decide_eq_true_eq]at this
 exact this
theorem nY{p:Psn}(h:p.ok=true):vsB p.f p.r=true/\(p.zs.length:Int)=p.f*p.r/\p.zs.length<=64/\p.pa<p.f*p.r/\gj p.f p.r p.zs p.ca=true:=by
 unfold Psn.ok at h
 simp only[Bool.and_eq_true]at h
 obtain⟨⟨⟨⟨⟨hb,_⟩,_⟩,hc⟩,hp⟩,_⟩:=h
 obtain⟨hv,hl⟩:=bS hb
 obtain⟨m1,m2⟩:=bF hv
 refine⟨hv,hl,by omega,?_,hc⟩
 unfold jx at hp
 simp only[Bool.or_eq_true,Bool.and_eq_true,decide_eq_true_eq]at hp
 rcases hp with hp|⟨⟨⟨⟨⟨_,hp⟩,_⟩,_⟩,_⟩,_⟩
 ·omega
 ·unfold aA at hp
  simp only[Bool.and_eq_true,decide_eq_true_eq]at hp
  rw[nC hv]at hp
  omega
theorem iI{p:Psn}(hca:0<=p.ca):dy p=p.ok:=by
 by_cases hl:p.zs.length<=64
 ·exact CJ hl hca
 ·have h1:p.ok=false:=by
   cases h:p.ok with
   |false=>rfl
   |true=>exact absurd (nY h).2.2.1 hl
  have h2:aZ p.f p.r p.zs=false:=by
   cases h:aZ p.f p.r p.zs with
   |false=>rfl
   |true=>exact absurd (kF h) hl
  rw[h1,dy,h2];rfl
theorem Ei{p:Psn}(hl:p.zs.length<=70):qH p=some (bif p.ok then((yaL (decide (p.f=p.r)),alN p),0) else(([],0),2)):=by
 unfold qH
 simp only[List.drop_zero,List.take_length]
 rw[decide_eq_true (show p.zs.length<=1000000 by omega),aP]
 cases h:p.ok with
 |false=>rfl
 |true=>
  obtain⟨hv,hn,h6,_⟩:=nY h
  rw[Bo hv h6];rfl
def noP:Psn:=⟨0,0,[],false,0,0,0,0⟩
def yPR(p:Psn)(y:Int):Psn×Int:=bif !p.ok||decide (8<=y) then(noP,2)else bif !inA (decide (p.f=p.r)) (alN p) y then(noP,3) else(mvP p y,0)
theorem ED{p:Psn}{y:Int}(hl:p.zs.length<=70)(h0:0<=y):sP p y=some (yPR p y):=by
 unfold sP yPR
 simp only[List.drop_zero,List.take_length]
 rw[decide_eq_true (show p.zs.length<=1000000 by omega),aP]
 cases h:p.ok with
 |false=>rfl
 |true=>
  obtain⟨hv,hn,h6,hpa,_⟩:=nY h
  by_cases h8:y<8
  ·rw[decide_eq_false (show ¬ 8<=y by omega),Bo hv h6,aH]
   obtain⟨i1,_,i3⟩:=LF p h0 h8
   have hs:=(LQ p).1
   rw[List.drop_zero]at i1 hs
   dsimp only
   rw[<-hs,i1,aH]
   cases hi:inA (decide (p.f=p.r)) (alN p) y with
   |false=>simp;rfl
   |true=>
    obtain⟨e1,_⟩:=nx hv h0 h8 (i3 hi) hn.symm rfl hpa
    simp[e1,aH]
  ·rw[decide_eq_true (show 8<=y by omega)];rfl
theorem Fz{p:Psn}{y:Int}(hca:0<=p.ca)(hl:p.zs.length<=70)(h0:0<=y):CH p y=some (yPR p y):=by
 unfold CH yPR
 simp only[List.drop_zero,List.take_length]
 rw[decide_eq_true hl,aP,iI hca]
 cases h:p.ok with
 |false=>rfl
 |true=>
  obtain⟨hv,hn,h6,hpa,_⟩:=nY h
  by_cases h8:y<8
  ·rw[decide_eq_false (show ¬ 8<=y by omega),decide_eq_false (show ¬ 7<y by omega),Dh h6,aH]
   obtain⟨_,i2,i3⟩:=LF p h0 h8
   rw[List.drop_zero,List.take_length]at i2
   rw[i2,aH]
   cases hi:inA (decide (p.f=p.r)) (alN p) y with
   |false=>simp;rfl
   |true=>
    obtain⟨_,e1⟩:=nx hv h0 h8 (i3 hi) hn.symm rfl hpa
    simp[e1,aH]
  ·rw[decide_eq_true (show 8<=y by omega),decide_eq_true (show 7<y by omega)];rfl
theorem tX{p:Psn}{y:Int}:(mvP p y).zs.length=(p.f*p.r).toNat:=by simp[mvP,mvZ,uH]
theorem IP{p:Psn}{y:Int}:(yPR p y).1.zs.length<=64:=by
 unfold yPR
 cases h:p.ok with
 |false=>simp[noP]
 |true=>
  obtain⟨hv,_⟩:=nY h
  have m:=bF hv
  cases(decide (8<=y)) with
  |true=>simp[noP]
  |false=>cases inA (decide (p.f=p.r)) (alN p) y with
   |false=>simp[noP]
   |true=>simp only[Bool.not_true,Bool.or_self,cond_false,tX];omega
end Go.Ab
namespace Go.Ab
open IntKind
def flK(zs:List Int)(k:Nat):List Int:=(List.range zs.length).map fun m=>if m<k then i8.wrap (0-zs.getD m 0)else zs.getD m 0
theorem sV(zs:List Int)(k:Nat):(flK zs k).length=zs.length:=by simp[flK]
theorem Lv(zs:List Int):flK zs 0=zs:=by
 refine List.ext_getElem (by simp[flK]) fun m h1 h2=>?_
 simp[flK,List.getD,h2]
theorem DD{zs:List Int}{k:Nat}(hk:k<zs.length):(flK zs k).getD k 0=zs.getD k 0:=by simp[flK,List.getD,hk]
theorem wg{zs:List Int}{k:Nat}(_hk:k<zs.length):(flK zs k).set k (i8.wrap (0-zs.getD k 0))=flK zs (k+1):=by
 refine List.ext_getElem (by simp[flK]) fun m h1 h2=>?_
 rw[List.getElem_set]
 simp only[flK,List.getElem_map,List.getElem_range]
 by_cases e:k=m
 ·subst e;rw[if_pos rfl,if_pos (by omega)]
 ·rw[if_neg e]
  by_cases h3:m<k
  ·rw[if_pos h3,if_pos (by omega)]
  ·rw[if_neg h3,if_neg (by omega)]
theorem pY(q:Psn)(hl:q.zs.length<=64)(F:List Int->Option Psn)(e:Nat):∀ (d k:Nat),k+d=q.zs.length->bx (pK q) F (d+1+e) (flK q.zs k,(k:Int))=F (flK q.zs (k+d))
 |0,k,hk=>by
  rw[show 0+1+e=e+1 by omega]
  refine bR ?_
  unfold pK
  dsimp only
  rw[decide_eq_false (show ¬ ((k:Int)<Int.ofNat q.zs.length) by simp only[Int.ofNat_eq_natCast];omega)]
  rfl
 |d+1,k,hk=>by
  have hlt:k<q.zs.length:=by omega
  have hw:i64.wrap ((k:Int)+1)=((k+1:Nat):Int):=by rw[aK (by omega) (by omega)];omega
  have d1:decide ((k:Int)<Int.ofNat q.zs.length)=true:=decide_eq_true (by simp only[Int.ofNat_eq_natCast];omega)
  have d2:decide ((0:Int)<=k)=true:=decide_eq_true (Int.natCast_nonneg k)
  rw[show d+1+1+e=(d+1+e)+1 by omega,bQ (s':=(flK q.zs (k+1),((k+1:Nat):Int))) (by
   unfold pK
   dsimp only
   rw[Int.toNat_natCast,d1,d2,hw,DD hlt,wg hlt]
   rfl),pY q hl F e d (k+1) (by omega),show k+1+d=k+(d+1) by omega]
theorem neg_mul(x:Int):x*-1=0-x:=by omega
theorem kC(q:Psn)(hl:q.zs.length<=64)(F:List Int->Option (Psn×Int))(e:Nat):∀ (d k:Nat),k+d=q.zs.length->bx (gJ q) F (d+1+e) (flK q.zs k,(k:Int))=F (flK q.zs (k+d))
 |0,k,hk=>by
  rw[show 0+1+e=e+1 by omega]
  refine bR ?_
  unfold gJ
  dsimp only
  rw[decide_eq_false (show ¬ ((k:Int)<Int.ofNat q.zs.length) by simp only[Int.ofNat_eq_natCast];omega)]
  rfl
 |d+1,k,hk=>by
  have hlt:k<q.zs.length:=by omega
  have hw:i64.wrap ((k:Int)+1)=((k+1:Nat):Int):=by rw[aK (by omega) (by omega)];omega
  have d1:decide ((k:Int)<Int.ofNat q.zs.length)=true:=decide_eq_true (by simp only[Int.ofNat_eq_natCast];omega)
  have d2:decide ((0:Int)<=k)=true:=decide_eq_true (Int.natCast_nonneg k)
  rw[show d+1+1+e=(d+1+e)+1 by omega,bQ (s':=(flK q.zs (k+1),((k+1:Nat):Int))) (by
   unfold gJ
   dsimp only
   rw[Int.toNat_natCast,d1,d2,hw,DD hlt,neg_mul,wg hlt]
   rfl),kC q hl F e d (k+1) (by omega),show k+1+d=k+(d+1) by omega]
def flC(c:Int):Int:=u8.wrap (u8.wrap (c.tmod 4*4)+u8.wrap (c.tdiv 4))
theorem IL:((List.range 16).all fun c=>decide (band Go.BinOp.or u8 ((Int.ofNat c).fdiv (2^Min.min (Int.toNat 2) u8.bits)) (u8.wrap (band Go.BinOp.and u8 (Int.ofNat c) 3*2^Min.min (Int.toNat 2) u8.bits))=flC (Int.ofNat c)))=true:=by kernel_rfl
theorem Mg{c:Int}(h0:0<=c)(h:c<16):band Go.BinOp.or u8 (c.fdiv (2^Min.min (Int.toNat 2) u8.bits)) (u8.wrap (band Go.BinOp.and u8 c 3*2^Min.min (Int.toNat 2) u8.bits))=flC c:=by
 have:=List.all_eq_true.1 IL c.toNat (List.mem_range.2 (by omega))
 have e:Int.ofNat c.toNat=c:=by simp only[Int.ofNat_eq_natCast];omega
 rw[e]at this
 exact of_decide_eq_true this
def flP(p:Psn):Psn:=⟨p.f,p.r,flK (mvZ p 2) (mvZ p 2).length,!p.bl,flC p.ca,(mvP p 2).pa,p.ha,p.fu⟩
theorem HP{p:Psn}(h:p.ok=true):yrFl p=some (flP p):=by
 obtain⟨hv,hn,h6,hpa,hc⟩:=nY h
 obtain⟨_,e2⟩:=nx (y:=2) hv (by omega) (by omega) (.inl (by omega)) hn.symm rfl hpa
 have m:=bF hv
 have hz:(mvP p 2).zs.length<=64:=by rw[tX];omega
 have hl:=pY (mvP p 2) hz (fun(s15:List Int)=>aM (decide ((mvP p 2).zs.length=s15.length)) (some (Psn.mk (mvP p 2).f (mvP p 2).r s15 (!p.bl) (flC p.ca) (mvP p 2).pa (mvP p 2).ha (mvP p 2).fu))) (999999-(mvP p 2).zs.length) (mvP p 2).zs.length 0 (by omega)
 rw[show (mvP p 2).zs.length+1+(999999-(mvP p 2).zs.length)=1000000 by omega,Lv,Nat.zero_add,sV,decide_eq_true rfl,aP]at hl
 unfold yrFl
 simp only[List.drop_zero,List.take_length]
 rw[e2,aH]
 exact hl
theorem zl{p:Psn}(hca:0<=p.ca)(hl:p.zs.length<=70):ry p=some (bif p.ok then(flP p,0) else(noP,2)):=by
 unfold ry
 simp only[List.drop_zero,List.take_length]
 rw[decide_eq_true (show p.zs.length<=1000000 by omega),aP]
 cases h:p.ok with
 |false=>rfl
 |true=>
  obtain⟨hv,hn,h6,hpa,hc⟩:=nY h
  obtain⟨e1,_⟩:=nx (y:=2) hv (by omega) (by omega) (.inl (by omega)) hn.symm rfl hpa
  have m:=bF hv
  have hz:(mvP p 2).zs.length<=64:=by rw[tX];omega
  have hc16:p.ca<16:=by
   unfold gj at hc
   simp only[Bool.and_eq_true,decide_eq_true_eq]at hc
   exact hc.2
  have hl:=kC (mvP p 2) hz (fun(s15:List Int)=>aM (decide ((mvP p 2).zs.length=s15.length)) (some (Psn.mk (mvP p 2).f (mvP p 2).r s15 (!p.bl) (flC p.ca) (mvP p 2).pa (mvP p 2).ha (mvP p 2).fu,0))) (999999-(mvP p 2).zs.length) (mvP p 2).zs.length 0 (by omega)
  rw[show (mvP p 2).zs.length+1+(999999-(mvP p 2).zs.length)=1000000 by omega,Lv,Nat.zero_add,sV,decide_eq_true rfl,aP]at hl
  rw[Bool.not_true,cond_false,e1,aH,cond_true]
  rw[show (mvP p 2).ca=p.ca from rfl,Mg hca hc16]
  exact hl
theorem JF{p:Psn}(h:p.ok=true):(flP p).zs.length<=64:=by
 obtain⟨hv,_⟩:=nY h
 have m:=bF hv
 have:(flP p).zs.length=(p.f*p.r).toNat:=by simp[flP,sV,mvZ,uH]
 omega
end Go.Ab
