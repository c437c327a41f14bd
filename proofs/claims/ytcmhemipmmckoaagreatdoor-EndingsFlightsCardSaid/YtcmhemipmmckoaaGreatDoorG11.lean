/- Contracts of the functions that the laws reach, and plain laws of what they compute (text G11); no condition. -/
import Derived.Test.YtcmhemipmmckoaaGreatDoorG10
import Derived.Test.YtcmhemipmmckoaaGreatDoorG4
import Derived.Test.YtcmhemipmmckoaaGreatDoorG9
import Derived.Test.YtcmhemipmmckoaaGreatDoorG8
import Derived.Test.YtcmhemipmmckoaaGreatDoorG5
set_option maxRecDepth 100000
set_option maxHeartbeats 4000000
namespace Go.Ab
open IntKind
open Go.Proofs
section
variable{kCa kDb:Bool}
def qs(p:Int):Option (Int):=let x5:=(#[112,110,98,114,113,107,97,99,100,101,102,103,104,105,106]:Array UInt8).toList;let x6:=(#[80,78,66,82,81,75,65,67,68,69,70,71,72,73,74]:Array UInt8).toList;let x7:=i8.wrap (i8.wrap (0-p)-1);let x8:=i8.wrap (p-1);let x3:=Int.ofNat x6.length;let x4:=Int.ofNat x5.length;bif decide (p<0)then be (decide (0<=x7)&&decide (x7<x4)) (some (Int.ofNat (x5.getD x7.toNat 0).toNat))else be (decide (0<=x8)&&decide (x8<x3)) (some (Int.ofNat (x6.getD x8.toNat 0).toNat))
def nv(R:Int):V:=.int .u8 R
def nJ(_R:Int):List O:=[]
def gS:CF
 |[.int .i8 p_0],[]=>retC true (qs p_0) 0 nv nJ
 |_,_=>none
theorem xh(p:Int){r}(hr:qs p=some r):aK (GGx kCa kDb) PP 178 [.int .i8 p] [] (nv r) (nJ r):=by
 have hE:=cutE (aA (kCa:=kCa) (kDb:=kDb) (cts:=[]) (inl:=[]) trivial trivial)
 refine cE hE 2 Tryz.func178 rfl rfl nv nJ hr ?_ rfl rfl
 refine aE hE 2 rfl ?_ ?_
 ·refine bP ?_
  exact aM (aL [] (.inr rfl) rfl rfl rfl rfl rfl)
 refine bP ?_
 exact aM (aL [] (.inr rfl) rfl rfl rfl rfl rfl)
theorem gI:CtOk (GGx kCa kDb) PP (178,gS):=by
 refine aD Tryz.func178 (by kernel_rfl) rfl fun a0 h0 c0 v0 N0 e hc=>?_
 unfold gS at e
 split at e
 ·rename_i p_0
  obtain⟨hl,r,hr,rfl,rfl⟩:=bH e hc
  exact xh p_0 hr
 ·cases e
def CC:Int->Int->Option (Int ⊕ Unit ⊕ Int):=fun(c s5:Int)=>let x12:=!decide (s5=0);bif decide (s5<=15)then be (!x12||(qs s5).isSome) (bif x12&&decide ((qs s5).getD 0=c)then escO (escO (some s5))else some (Sum.inl (i8.wrap (s5+1))))else some (Sum.inr (Sum.inl ()))
def Iz(c:Int):Option (Int):=cR (CC c) (fun(_s10:Unit)=>some 0) 1000000 (-15)
def sO(R:Int):V:=.int .i8 R
def rM(_R:Int):List O:=[]
def ri:CF
 |[.int .u8 c_0],[]=>retC true (Iz c_0) 0 sO rM
 |_,_=>none
theorem Bc(c:Int){r}(hr:Iz c=some r):aK (GGx kCa kDb) PP 158 [.int .u8 c] [] (sO r) (rM r):=by
 have hE:=cutE (aA (kCa:=kCa) (kDb:=kDb) (cts:=[(178,gS)]) (inl:=[]) ⟨gI,trivial⟩ trivial)
 refine cE hE 2 Tryz.func158 rfl rfl sO rM hr ?_ rfl rfl
 refine da hE 2 (fun(s5:Int)=>([(0,V.int u8 c),(2,V.int i8 0),(3,V.int i8 s5)],[])) (fun(s10:Unit)=>([(2,V.int i8 0)],[])) (.exit 0) ((Ent.rn [] [0,2,3] rfl rfl rfl rfl rfl)) (fun s5=>?_) (fun s10=>?_)
 ·refine aE hE 2 rfl ?_ ?_
  ·refine ak (Bool.not_or_self _) ?_
   refine cN (pi (pl rfl id)) ?_
   refine ak (Bool.not_or_self _) ?_
   refine ak (Bool.not_or_self _) ?_
   refine ak (Bool.not_or_self _) ?_
   refine aE hE 2 rfl ?_ ?_
   ·refine pH (by simp) (kM ?_)
    exact aM (aL [] (.inr rfl) rfl rfl rfl rfl rfl)
   exact cX ((Ent.rn [] [0,2,3] rfl rfl rfl rfl rfl))
  exact cJ ((Ent.rn [] [2] rfl rfl rfl rfl rfl))
 exact aM (aL [] (.inr rfl) rfl rfl rfl rfl rfl)
theorem xb:CtOk (GGx kCa kDb) PP (158,ri):=by
 refine aD Tryz.func158 (by kernel_rfl) rfl fun a0 h0 c0 v0 N0 e hc=>?_
 unfold ri at e
 split at e
 ·rename_i c_0
  obtain⟨hl,r,hr,rfl,rfl⟩:=bH e hc
  exact Bc c_0 hr
 ·cases e
end
end Go.Ab
namespace Go.Ab
open Go.Proofs
section
variable{kCa kDb:Bool}
end
section
variable{kCa kDb:Bool}
def sG:Int->List UInt8×Int->Option (List UInt8×Int ⊕ List UInt8×Int×Bool ⊕ Int ⊕ Unit ⊕ Int):=fun(s27:Int)=>let x54:=(#[75,81,107,113]:Array UInt8).toList;let x53:=Int.ofNat x54.length;fun(s33:List UInt8×Int)=>let x58:=(s27.fdiv (2^Min.min s33.2.toNat IntKind.i64.bits)).tmod 2;let x59:=decide (s33.2<4);let x60:=decide (0<=s33.2);let x61:=IntKind.i64.wrap (s33.2+1);let x57:=List.take (x61.toNat-s33.2.toNat) (List.drop s33.2.toNat x54);let x56:=s33.1.length+x57.length;bif x59 then be x60 (dz (bif decide (x58=1)then be (x60&&decide (s33.2<=x61)&&decide (x61<=x53)) (be (decide (x56<=4611686018427387904)) (some (Sum.inl (s33.1++x57))))else some (Sum.inl s33.1)) fun(s35:List UInt8)=>some (Sum.inl (s35,x61)))else some (Sum.inr (Sum.inl (s33.1,s33.2,x59)))
def Hl:List UInt8->(Int->List UInt8×Int->Option (List UInt8×Int ⊕ List UInt8×Int×Bool ⊕ Int ⊕ Unit ⊕ Int))->Int->Option (Int ⊕ Unit ⊕ Int):=fun(s:List UInt8) (sG:Int->List UInt8×Int->Option (List UInt8×Int ⊕ List UInt8×Int×Bool ⊕ Int ⊕ Unit ⊕ Int)) (s27:Int)=>bif decide (s27<16)then cR (sG s27) (fun(s45:List UInt8×Int×Bool)=>dz (bif s45.1==(#[]:Array UInt8).toList then some (Sum.inl (#[45]:Array UInt8).toList)else some (Sum.inl s45.1)) fun(s47:List UInt8)=>bif s47==s then escO (escO (some s27))else some (Sum.inl (IntKind.i64.wrap (s27+1)))) 1000000 ((#[]:Array UInt8).toList,0)else some (Sum.inr (Sum.inl ()))
def MM(s:List UInt8):Option (Int):=cR (Hl s sG) (fun(_s52:Unit)=>some (-1)) 1000000 0
def xy(R:Int):V:=.int .i64 R
def vu(_R:Int):List O:=[]
def vR:CF
 |[.str s_0],[]=>retC true (MM s_0) 0 xy vu
 |_,_=>none
theorem BN(s:List UInt8){r}(hr:MM s=some r):aK (GGx kCa kDb) PP 123 [.str s] [] (xy r) (vu r):=by
 have hE:=cutE (aA (kCa:=kCa) (kDb:=kDb) (cts:=[]) (inl:=[]) trivial trivial)
 refine cE hE 2 Tryz.func123 rfl rfl xy vu hr ?_ rfl rfl
 refine da hE 2 (fun(s27:Int)=>([(0,V.str s),(2,I 0),(3,I s27)],[])) (fun(s52:Unit)=>([(2,I 0)],[])) (.exit 0) ((Ent.rn [] [0,2,3] rfl rfl rfl rfl rfl)) (fun s27=>?_) (fun s52=>?_)
 ·refine aE hE 2 rfl ?_ ?_
  ·refine da hE 2 (fun(s33:List UInt8×Int)=>([(0,V.str s),(2,I 0),(3,I s27),(4,V.str s33.1),(5,I s33.2),(6,I s27),(7,Bb (decide (s27<16)))],[])) (fun(s45:List UInt8×Int×Bool)=>([(0,V.str s),(2,I 0),(3,I s27),(4,V.str s45.1),(5,I s45.2.1),(6,I s27),(7,Bb (decide (s27<16))),(10,I s45.2.1),(11,Bb s45.2.2)],[])) (.exit 2) ((Ent.rn [] [0,2,3,4,5,6,7] rfl rfl rfl rfl rfl)) (fun s33=>?_) (fun s45=>?_)
   ·refine aE hE 2 rfl ?_ ?_
    ·refine bP ?_
     refine ak rfl ?_
     refine cH hE 2 (let x74:=s27.fdiv (2^Min.min s33.2.toNat IntKind.i64.bits);let x73:=x74.tmod 2;fun(s35:List UInt8)=>([(0,V.str s),(2,I 0),(3,I s27),(4,V.str s35),(5,I s33.2),(6,I s27),(7,Bb (decide (s27<16))),(10,I s33.2),(11,Bb (decide (s33.2<4))),(14,I s27),(15,I s33.2),(16,I x74),(17,I x73),(18,Bb (decide (x73=1)))],[])) rfl ?_ ?_ (fun s35=>?_)
     ·refine bP ?_
      refine bP ?_
      exact bK ((Ent.rn [] [0,2,3,4,5,6,7,10,11,14,15,16,17,18] rfl rfl rfl rfl rfl))
     ·exact bK ((Ent.rn [] [0,2,3,4,5,6,7,10,11,14,15,16,17,18] rfl rfl rfl rfl rfl))
     exact cX ((Ent.rn [] [0,2,3,4,5,6,7] rfl rfl rfl rfl rfl))
    exact cJ ((Ent.rn [] [0,2,3,4,5,6,7,10,11] rfl rfl rfl rfl rfl))
   refine cH hE 2 (fun(s47:List UInt8)=>([(0,V.str s),(2,I 0),(3,I s27),(4,V.str s47),(5,I s45.2.1),(6,I s27),(7,Bb (decide (s27<16))),(10,I s45.2.1),(11,Bb s45.2.2),(25,V.str s45.1),(26,Bb (s45.1==(#[]:Array UInt8).toList))],[])) rfl ?_ ?_ (fun s47=>?_)
   ·exact bK ((Ent.rn [] [0,2,3,4,5,6,7,10,11,25,26] rfl rfl rfl rfl rfl))
   ·exact bK ((Ent.rn [] [0,2,3,4,5,6,7,10,11,25,26] rfl rfl rfl rfl rfl))
   refine aE hE 2 rfl ?_ ?_
   ·refine pH (by simp) (kM ?_)
    exact aM (aL [] (.inr rfl) rfl rfl rfl rfl rfl)
   exact cX ((Ent.rn [] [0,2,3] rfl rfl rfl rfl rfl))
  exact cJ ((Ent.rn [] [2] rfl rfl rfl rfl rfl))
 exact aM (aL [] (.inr rfl) rfl rfl rfl rfl rfl)
theorem zY:CtOk (GGx kCa kDb) PP (123,vR):=by
 refine aD Tryz.func123 (by kernel_rfl) rfl fun a0 h0 c0 v0 N0 e hc=>?_
 unfold vR at e
 split at e
 ·rename_i s_0
  obtain⟨hl,r,hr,rfl,rfl⟩:=bH e hc
  exact BN s_0 hr
 ·cases e
end
end Go.Ab
namespace Go.Ab
open IntKind
open Go.Proofs
section
variable{kCa kDb:Bool}
def rE:Siz->List Int->Int×Int->Option (Int×Int ⊕ Int ⊕ Int×Int):=fun(s:Siz) (squares:List Int) (s7:Int×Int)=>let x17:=decide (s7.2<Int.ofNat squares.length);bif x17 then be (decide (0<=s7.2)&&x17) (bif !aj s.f s.r (squares.getD s7.2.toNat 0)then escO (escO (some (0,2)))else be (decide (0<=squares.getD s7.2.toNat 0)) (some (Sum.inl (band Go.BinOp.or u64 s7.1 (u64.wrap (1*2^Min.min (squares.getD s7.2.toNat 0).toNat u64.bits)),i64.wrap (s7.2+1)))))else some (Sum.inr (Sum.inl s7.1))
def sqOf(s:Siz)(squares:List Int):Option (Int×Int):=bif !vsB s.f s.r then some (0,2)else cR (rE s squares) (fun(s15:Int)=>some (s15,0)) 1000000 (0,0)
def EL(R:Int×Int):V:=.tup [.int .u64 R.1,.int .i64 R.2]
def Cx(_R:Int×Int):List O:=[]
def BR:CF
 |[.agg [.int .i64 s_0,.int .i64 s_1],.sl 0 0 squares_0n none],[.ints false .i64 squares_0]=>retC (decide (squares_0n=squares_0.length)) (sqOf ⟨s_0,s_1⟩ squares_0) (0,0) EL Cx
 |_,_=>none
theorem Ib(s:Siz)(squares:List Int){r}(hr:sqOf s squares=some r):aK (GGx kCa kDb) PP 94 [.agg [.int .i64 s.f,.int .i64 s.r],.sl 0 0 squares.length none] [.ints false .i64 squares] (EL r) (Cx r):=by
 have hE:=cutE (aA (kCa:=kCa) (kDb:=kDb) (cts:=[(101,eK),(146,c_vs)]) (inl:=[]) ⟨cS,kX,trivial⟩ trivial)
 refine cE hE 2 Tryz.func94 rfl rfl EL Cx hr ?_ rfl rfl
 refine ak rfl ?_
 refine aE hE 2 rfl ?_ ?_
 ·exact aM (aL [] (.inr rfl) rfl rfl rfl rfl rfl)
 refine da hE 2 (fun(s7:Int×Int)=>([(2,V.ptr 1 0 0),(4,U 0),(5,I 0),(6,U s7.1),(12,V.sl 0 0 squares.length none),(13,I (Int.ofNat squares.length)),(14,I s7.2)],[O.ints false i64 squares,O.cells true [I s.f,I s.r]])) (fun(s15:Int)=>([(4,U 0),(5,I 0),(6,U s15)],[O.ints false i64 squares])) (.exit 0) ((Ent.rn [0,1] [2,4,5,6,12,13,14] rfl rfl rfl rfl rfl)) (fun s7=>?_) (fun s15=>?_)
 ·refine aE hE 2 rfl ?_ ?_
  ·refine bP ?_
   refine ak rfl ?_
   refine aE hE 2 rfl ?_ ?_
   ·refine pH (by simp) (kM ?_)
    exact aM (aL [] (.inr rfl) rfl rfl rfl rfl rfl)
   refine bP ?_
   exact cX ((Ent.rn [0,1] [2,4,5,6,12,13,14] rfl rfl rfl rfl rfl))
  exact cJ ((Ent.rn [0] [4,5,6] rfl rfl rfl rfl rfl))
 exact aM (aL [] (.inr rfl) rfl rfl rfl rfl rfl)
theorem BC:CtOk (GGx kCa kDb) PP (94,BR):=by
 refine aD Tryz.func94 (by kernel_rfl) rfl fun a0 h0 c0 v0 N0 e hc=>?_
 unfold BR at e
 split at e
 ·rename_i s_0 s_1 squares_0n squares_0
  obtain⟨hl,r,hr,rfl,rfl⟩:=bH e hc
  simp only[decide_eq_true_eq]at hl
  obtain rfl:=hl
  exact Ib ⟨s_0,s_1⟩ squares_0 hr
 ·cases e
def sN:Psn->List (List Int)->List (List Int)×Int->Option (List (List Int)×Int ⊕ List (List Int) ⊕ List (List Int)):=fun(p:Psn) (l:List (List Int))=>let x21:=Psn.mk p.f p.r (List.take p.zs.length (List.drop 0 p.zs)) p.bl p.ca p.pa p.ha p.fu;fun(s9:List (List Int)×Int)=>let x24:=(s9.1.length+1)*24;let x25:=decide (s9.2<Int.ofNat l.length);let x26:=(l.getD s9.2.toNat []).getD 0 0;let x27:=(l.getD s9.2.toNat []).getD 1 0;let x28:=(l.getD s9.2.toNat []).getD 2 0;let x23:=Mov.mk x26 x27 x28;bif x25 then be (decide (0<=s9.2)&&x25) (cm (keeps x21 x23) Inhabited.default fun(_y10:Bool)=>dz (bif (keeps x21 x23).getD false then be (decide (x24<=140737488355328)) (some (Sum.inl (s9.1++List.take 1 (List.drop 0 [iL [x26,x27,x28]]))))else some (Sum.inl s9.1)) fun(s12:List (List Int))=>some (Sum.inl (s12,i64.wrap (s9.2+1))))else some (Sum.inr (Sum.inl s9.1))
def kept(p:Psn)(l:List (List Int)):Option (List (List Int)):=cR (sN p l) (fun(s20:List (List Int))=>let x33:=decide (Int.ofNat s20.length<=Int.ofNat s20.length);let x34:=(Int.ofNat s20.length).toNat-Int.toNat 0;be (decide (0<=Int.ofNat s20.length)&&x33&&x33) (be (decide (x34=s20.length)) (some s20))) 1000000 ([],0)
def yd(R:List (List Int)):V:=.sl 2 0 R.length (some R.length)
def DF(R:List (List Int)):List O:=[.rows true [.i64,.i64,.i8] R]
def EF:CF
 |[.agg [.int .i64 p_0,.int .i64 p_1,.sl 0 0 p_2n none,.bool p_3,.int .u8 p_4,.int .i64 p_5,.int .i64 p_6,.int .i64 p_7],.sl 1 0 l_0n none],[.ints false .i8 p_2,.rows false [.i64,.i64,.i8] l_0]=>retC (decide (p_2n=p_2.length)&&decide (l_0n=l_0.length)) (kept ⟨p_0,p_1,p_2,p_3,p_4,p_5,p_6,p_7⟩ l_0) [] yd DF
 |_,_=>none
theorem GB(p:Psn)(l:List (List Int)){r}(hr:kept p l=some r):aK (GGx true kDb) PP 93 [.agg [.int .i64 p.f,.int .i64 p.r,.sl 0 0 p.zs.length none,Bb p.bl,.int .u8 p.ca,.int .i64 p.pa,.int .i64 p.ha,.int .i64 p.fu],.sl 1 0 l.length none] [.ints false .i8 p.zs,.rows false [.i64,.i64,.i8] l] (yd r) (DF r):=by
 have hE:=cutE (aA (kCa:=true) (kDb:=kDb) (cts:=[(58,qP)]) (inl:=[]) ⟨pA,trivial⟩ trivial)
 refine cE hE 2 Tryz.func93 rfl rfl yd DF hr ?_ rfl rfl
 refine da hE 2 (fun(s9:List (List Int)×Int)=>([(2,V.ptr 2 0 0),(4,V.nils),(5,V.fn 58 []),(6,V.sl 3 0 s9.1.length none),(9,V.sl 1 0 l.length none),(10,I (Int.ofNat l.length)),(11,I s9.2)],[O.ints false i8 p.zs,O.rows false [i64,i64,i8] l,O.cells true [I p.f,I p.r,V.sl 0 0 p.zs.length none,Bb p.bl,V.int u8 p.ca,I p.pa,I p.ha,I p.fu],O.rows true [i64,i64,i8] s9.1])) (fun(s20:List (List Int))=>([(4,V.nils),(6,V.sl 2 0 s20.length none)],[O.ints false i8 p.zs,O.rows false [i64,i64,i8] l,O.rows true [i64,i64,i8] s20])) (.exit 0) ((Ent.phT 6 (O.rows true [i64,i64,i8] []) rfl rfl rfl rfl rfl).trans (Ent.rn [0,1,2,3] [2,4,5,6,9,10,11] rfl rfl rfl rfl rfl)) (fun s9=>?_) (fun s20=>?_)
 ·refine aE hE 2 rfl ?_ ?_
  ·refine bP ?_
   refine aP (pl (decide_eq_true (aQ rfl)) id) ?_
   refine cH hE 2 (fun(s12:List (List Int))=>([(2,V.ptr 2 0 0),(4,V.nils),(5,V.fn 58 []),(6,V.sl 3 0 s12.length none),(9,V.sl 1 0 l.length none),(10,I (Int.ofNat l.length)),(11,I s9.2)],[O.ints false i8 p.zs,O.rows false [i64,i64,i8] l,O.cells true [I p.f,I p.r,V.sl 0 0 p.zs.length none,Bb p.bl,V.int u8 p.ca,I p.pa,I p.ha,I p.fu],O.rows true [i64,i64,i8] s12])) rfl ?_ ?_ (fun s12=>?_)
   ·refine cN (pr (pl (decide_eq_true rfl) id) rfl) ?_
    exact bK ((Ent.rn [0,1,2,6] [2,4,5,6,9,10,11] rfl rfl rfl rfl rfl))
   ·exact bK ((Ent.rn [0,1,2,3] [2,4,5,6,9,10,11] rfl rfl rfl rfl rfl))
   exact cX ((Ent.rn [0,1,2,3] [2,4,5,6,9,10,11] rfl rfl rfl rfl rfl))
  exact cJ ((Ent.rn [0,1,3] [4,6] rfl rfl rfl rfl rfl))
 refine cN (pb (pb (pl rfl id) id) id) ?_
 refine NP (fun h0=>?_)
 exact aM (aL [2] (.inr rfl) rfl rfl rfl rfl (by have qh0:=of_decide_eq_true h0;simp_all [yd,addN]))
theorem Cz:CtOk (GGx true kDb) PP (93,EF):=by
 refine aD Tryz.func93 (by kernel_rfl) rfl fun a0 h0 c0 v0 N0 e hc=>?_
 unfold EF at e
 split at e
 ·rename_i p_0 p_1 p_2n p_3 p_4 p_5 p_6 p_7 l_0n p_2 l_0
  obtain⟨hl,r,hr,rfl,rfl⟩:=bH e hc
  simp only[Bool.and_eq_true,decide_eq_true_eq]at hl
  obtain⟨rfl,rfl⟩:=hl
  exact GB ⟨p_0,p_1,p_2,p_3,p_4,p_5,p_6,p_7⟩ l_0 hr
 ·cases e
def eP:Psn->List (List Int)->Int×Int->Option (Int×Int ⊕ Int ⊕ Int×Int):=fun(p:Psn) (y3:List (List Int)) (s8:Int×Int)=>let x20:=List.take 1 (List.drop 0 (iL [(y3.getD s8.2.toNat []).getD 1 0]));let x21:=decide (s8.2<Int.ofNat y3.length);let x19:=x20.length;bif x21 then be (decide (0<=s8.2)&&x21) (be (decide (1=x19)) (cm (sqOf (Siz.mk p.f p.r) x20) Inhabited.default fun(_y9:Int×Int)=>some (Sum.inl (band Go.BinOp.or u64 s8.1 ((sqOf (Siz.mk p.f p.r) x20).getD (0,0)).fst,i64.wrap (s8.2+1)))))else some (Sum.inr (Sum.inl s8.1))
def dY(p:Psn)(at_:Int):Option (Int×Int):=let x24:=Psn.mk p.f p.r (List.take p.zs.length (List.drop 0 p.zs)) p.bl p.ca p.pa p.ha p.fu;cm (tu x24 at_) ([],0) fun(y2:List (List Int)×Int)=>bif !decide (y2.2=0)then some (0,y2.2)else cm (kept x24 (List.take y2.1.length (List.drop 0 y2.1))) [] fun(y3:List (List Int))=>cR (eP p y3) (fun(s17:Int)=>some (s17,0)) 1000000 (0,0)
def kP(R:Int×Int):V:=.tup [.int .u64 R.1,.int .i64 R.2]
def kf(_R:Int×Int):List O:=[]
def kr:CF
 |[.agg [.int .i64 p_0,.int .i64 p_1,.sl 0 0 p_2n none,.bool p_3,.int .u8 p_4,.int .i64 p_5,.int .i64 p_6,.int .i64 p_7],.int .i64 at__0],[.ints false .i8 p_2]=>retC (decide (p_2n=p_2.length)) (dY ⟨p_0,p_1,p_2,p_3,p_4,p_5,p_6,p_7⟩ at__0) (0,0) kP kf
 |_,_=>none
theorem tL(p:Psn)(at_:Int){r}(hr:dY p at_=some r):aK (GGx true true) PP 50 [.agg [.int .i64 p.f,.int .i64 p.r,.sl 0 0 p.zs.length none,Bb p.bl,.int .u8 p.ca,.int .i64 p.pa,.int .i64 p.ha,.int .i64 p.fu],.int .i64 at_] [.ints false .i8 p.zs] (kP r) (kf r):=by
 have hE:=cutE (aA (kCa:=true) (kDb:=true) (cts:=[(57,qi),(93,EF),(94,BR)]) (inl:=[]) ⟨pR,Cz,BC,trivial⟩ trivial)
 refine cE hE 2 Tryz.func50 rfl rfl kP kf hr ?_ rfl rfl
 unfold dY
 refine aP (pl (decide_eq_true (aQ rfl)) id) ?_
 refine aE hE 2 rfl ?_ ?_
 ·exact aM (aL [] (.inr rfl) rfl rfl rfl rfl rfl)
 refine aP (pl (pa (decide_eq_true (aQ rfl)) (decide_eq_true (aQ rfl))) id) ?_
 refine da hE 2 (let x31:=Psn.mk p.f p.r (List.take p.zs.length (List.drop 0 p.zs)) p.bl p.ca p.pa p.ha p.fu;let x30:=((tu x31 at_).getD ([],0)).fst;let x29:=(kept x31 (List.take x30.length (List.drop 0 x30))).getD [];let x28:=x29.length;fun(s8:Int×Int)=>([(2,V.ptr 1 0 0),(4,U 0),(5,I 0),(8,U s8.1),(24,V.sl 2 0 x28 (some x28)),(25,I (Int.ofNat x28)),(26,I s8.2)],[O.ints false i8 p.zs,O.cells true [I p.f,I p.r,V.sl 0 0 p.zs.length none,Bb p.bl,V.int u8 p.ca,I p.pa,I p.ha,I p.fu],O.rows true [i64,i64,i8] x29])) (fun(s17:Int)=>([(4,U 0),(5,I 0),(8,U s17)],[O.ints false i8 p.zs])) (.exit 0) ((Ent.rn [0,1,3] [2,4,5,8,24,25,26] rfl rfl rfl rfl rfl)) (fun s8=>?_) (fun s17=>?_)
 ·refine aE hE 2 rfl ?_ ?_
  ·refine bP ?_
   refine BZ id ?_
   exact cX ((Ent.rn [0,1,2] [2,4,5,8,24,25,26] rfl rfl rfl rfl rfl))
  exact cJ ((Ent.rn [0] [4,5,8] rfl rfl rfl rfl rfl))
 exact aM (aL [] (.inr rfl) rfl rfl rfl rfl rfl)
theorem ru:CtOk (GGx true true) PP (50,kr):=by
 refine aD Tryz.func50 (by kernel_rfl) rfl fun a0 h0 c0 v0 N0 e hc=>?_
 unfold kr at e
 split at e
 ·rename_i p_0 p_1 p_2n p_3 p_4 p_5 p_6 p_7 at__0 p_2
  obtain⟨hl,r,hr,rfl,rfl⟩:=bH e hc
  simp only[decide_eq_true_eq]at hl
  obtain rfl:=hl
  exact tL ⟨p_0,p_1,p_2,p_3,p_4,p_5,p_6,p_7⟩ at__0 hr
 ·cases e
def mg:Psn->List (List Int)->List (List Int)×Int->Option (List (List Int)×Int ⊕ List (List Int) ⊕ List (List Int)):=fun(p:Psn) (y4:List (List Int)) (s10:List (List Int)×Int)=>let x23:=(s10.1.length+1)*24;let x24:=decide (s10.2<Int.ofNat y4.length);let x25:=(y4.getD s10.2.toNat []).getD 1 0;let x26:=(y4.getD s10.2.toNat []).getD 2 0;let x27:=(y4.getD s10.2.toNat []).getD 0 0;let x22:=decide (0<=s10.2)&&x24;bif x24 then be x22 (be (decide ((List.take p.zs.length (List.drop 0 p.zs)).length<=64)&&(aC p.f p.r (List.take p.zs.length (List.drop 0 p.zs))&&cV p.f p.r (List.take p.zs.length (List.drop 0 p.zs)) p.ca&&aj p.f p.r x27&&aj p.f p.r x25)) (dz (bif sfL (Psn.mk p.f p.r (List.take p.zs.length (List.drop 0 p.zs)) p.bl p.ca p.pa p.ha p.fu) (Mov.mk x27 x25 x26)then be x22 (be (decide (x23<=140737488355328)) (some (Sum.inl (s10.1++List.take 1 (List.drop 0 [iL [x27,x25,x26]])))))else some (Sum.inl s10.1)) fun(s12:List (List Int))=>some (Sum.inl (s12,i64.wrap (s10.2+1)))))else some (Sum.inr (Sum.inl s10.1))
def rB(p:Psn)(from_:Int):Option (List (List Int)):=cm (xJ (Psn.mk p.f p.r (List.take p.zs.length (List.drop 0 p.zs)) p.bl p.ca p.pa p.ha p.fu) from_) [] fun(y4:List (List Int))=>cR (mg p y4) (fun(s20:List (List Int))=>some s20) 1000000 ([],0)
def wA(R:List (List Int)):V:=.sl 1 0 R.length none
def we(R:List (List Int)):List O:=[.rows true [.i64,.i64,.i8] R]
def rK:CF
 |[.agg [.int .i64 p_0,.int .i64 p_1,.sl 0 0 p_2n none,.bool p_3,.int .u8 p_4,.int .i64 p_5,.int .i64 p_6,.int .i64 p_7],.int .i64 from__0],[.ints false .i8 p_2]=>retC (decide (p_2n=p_2.length)) (rB ⟨p_0,p_1,p_2,p_3,p_4,p_5,p_6,p_7⟩ from__0) [] wA we
 |_,_=>none
theorem DN(p:Psn)(from_:Int){r}(hr:rB p from_=some r):aK (GGx kCa kDb) PP 54 [.agg [.int .i64 p.f,.int .i64 p.r,.sl 0 0 p.zs.length none,Bb p.bl,.int .u8 p.ca,.int .i64 p.pa,.int .i64 p.ha,.int .i64 p.fu],.int .i64 from_] [.ints false .i8 p.zs] (wA r) (we r):=by
 have hE:=cutE (aA (kCa:=kCa) (kDb:=kDb) (cts:=[(98,wv),(99,wh)]) (inl:=[]) ⟨Af,Bq,trivial⟩ trivial)
 refine cE hE 2 Tryz.func54 rfl rfl wA we hr ?_ rfl rfl
 unfold rB
 refine aP (pl (decide_eq_true (aQ rfl)) id) ?_
 refine da hE 2 (let x32:=(xJ (Psn.mk p.f p.r (List.take p.zs.length (List.drop 0 p.zs)) p.bl p.ca p.pa p.ha p.fu) from_).getD [];fun(s10:List (List Int)×Int)=>([(2,V.ptr 1 0 0),(4,V.nils),(5,V.sl 2 0 s10.1.length none),(6,V.sl 3 0 x32.length none),(7,I s10.2)],[O.ints false i8 p.zs,O.cells true [I p.f,I p.r,V.sl 0 0 p.zs.length none,Bb p.bl,V.int u8 p.ca,I p.pa,I p.ha,I p.fu],O.rows true [i64,i64,i8] s10.1,O.rows true [i64,i64,i8] x32])) (fun(s20:List (List Int))=>([(4,V.nils),(5,V.sl 1 0 s20.length none)],[O.ints false i8 p.zs,O.rows true [i64,i64,i8] s20])) (.exit 0) ((Ent.phT 5 (O.rows true [i64,i64,i8] []) rfl rfl rfl rfl rfl).trans (Ent.rn [0,1,3,2] [2,4,5,6,7] rfl rfl rfl rfl rfl)) (fun s10=>?_) (fun s20=>?_)
 ·refine aE hE 2 rfl ?_ ?_
  ·refine ak rfl ?_
   refine bP ?_
   refine cN (pb (pl (decide_eq_true (aQ rfl)) id) id) ?_
   refine cH hE 2 (let x35:=(xJ (Psn.mk p.f p.r (List.take p.zs.length (List.drop 0 p.zs)) p.bl p.ca p.pa p.ha p.fu) from_).getD [];fun(s12:List (List Int))=>([(2,V.ptr 1 0 0),(4,V.nils),(5,V.sl 2 0 s12.length none),(6,V.sl 3 0 x35.length none),(7,I s10.2)],[O.ints false i8 p.zs,O.cells true [I p.f,I p.r,V.sl 0 0 p.zs.length none,Bb p.bl,V.int u8 p.ca,I p.pa,I p.ha,I p.fu],O.rows true [i64,i64,i8] s12,O.rows true [i64,i64,i8] x35])) rfl ?_ ?_ (fun s12=>?_)
   ·refine bP ?_
    refine cN (pr (pl (decide_eq_true rfl) id) rfl) ?_
    exact bK ((Ent.rn [0,1,5,3] [2,4,5,6,7] rfl rfl rfl rfl rfl))
   ·exact bK ((Ent.rn [0,1,2,3] [2,4,5,6,7] rfl rfl rfl rfl rfl))
   exact cX ((Ent.rn [0,1,2,3] [2,4,5,6,7] rfl rfl rfl rfl rfl))
  exact cJ ((Ent.rn [0,2] [4,5] rfl rfl rfl rfl rfl))
 exact aM (aL [1] (.inr rfl) rfl rfl rfl rfl rfl)
theorem pN:CtOk (GGx kCa kDb) PP (54,rK):=by
 refine aD Tryz.func54 (by kernel_rfl) rfl fun a0 h0 c0 v0 N0 e hc=>?_
 unfold rK at e
 split at e
 ·rename_i p_0 p_1 p_2n p_3 p_4 p_5 p_6 p_7 from__0 p_2
  obtain⟨hl,r,hr,rfl,rfl⟩:=bH e hc
  simp only[decide_eq_true_eq]at hl
  obtain rfl:=hl
  exact DN ⟨p_0,p_1,p_2,p_3,p_4,p_5,p_6,p_7⟩ from__0 hr
 ·cases e
def ja:Psn->List (List Int)×Int->Option (List (List Int)×Int ⊕ List (List Int) ⊕ List (List Int)):=fun(p:Psn) (s7:List (List Int)×Int)=>bif decide (s7.2<Int.ofNat p.zs.length)then cm (rB (Psn.mk p.f p.r (List.take p.zs.length (List.drop 0 p.zs)) p.bl p.ca p.pa p.ha p.fu) s7.2) [] fun(y8:List (List Int))=>let x19:=(s7.1.length+y8.length)*24;be (decide (x19<=140737488355328)&&!Nat.beq 2 (1-hlen ([]++[O.ints false i8 (List.take p.zs.length (List.drop 0 p.zs))])+2+1)) (some (Sum.inl (s7.1++List.take y8.length (List.drop 0 y8),i64.wrap (s7.2+1))))else some (Sum.inr (Sum.inl s7.1))
def uu(p:Psn):Option (List (List Int)):=cR (ja p) (fun(s16:List (List Int))=>some s16) 1000000 ([],0)
def rh(R:List (List Int)):V:=.sl 1 0 R.length none
def sE(R:List (List Int)):List O:=[.rows true [.i64,.i64,.i8] R]
def rO:CF
 |[.agg [.int .i64 p_0,.int .i64 p_1,.sl 0 0 p_2n none,.bool p_3,.int .u8 p_4,.int .i64 p_5,.int .i64 p_6,.int .i64 p_7]],[.ints false .i8 p_2]=>retC (decide (p_2n=p_2.length)) (uu ⟨p_0,p_1,p_2,p_3,p_4,p_5,p_6,p_7⟩) [] rh sE
 |_,_=>none
theorem Bj(p:Psn){r}(hr:uu p=some r):aK (GGx kCa kDb) PP 43 [.agg [.int .i64 p.f,.int .i64 p.r,.sl 0 0 p.zs.length none,Bb p.bl,.int .u8 p.ca,.int .i64 p.pa,.int .i64 p.ha,.int .i64 p.fu]] [.ints false .i8 p.zs] (rh r) (sE r):=by
 have hE:=cutE (aA (kCa:=kCa) (kDb:=kDb) (cts:=[(54,rK)]) (inl:=[]) ⟨pN,trivial⟩ trivial)
 refine cE hE 2 Tryz.func43 rfl rfl rh sE hr ?_ rfl rfl
 refine da hE 2 (fun(s7:List (List Int)×Int)=>([(1,V.ptr 1 0 0),(2,V.nils),(3,V.sl 2 0 s7.1.length none),(4,I s7.2)],[O.ints false i8 p.zs,O.cells true [I p.f,I p.r,V.sl 0 0 p.zs.length none,Bb p.bl,V.int u8 p.ca,I p.pa,I p.ha,I p.fu],O.rows true [i64,i64,i8] s7.1])) (fun(s16:List (List Int))=>([(2,V.nils),(3,V.sl 1 0 s16.length none)],[O.ints false i8 p.zs,O.rows true [i64,i64,i8] s16])) (.exit 0) ((Ent.phT 3 (O.rows true [i64,i64,i8] []) rfl rfl rfl rfl rfl).trans (Ent.rn [0,1,2] [1,2,3,4] rfl rfl rfl rfl rfl)) (fun s7=>?_) (fun s16=>?_)
 ·refine aE hE 2 rfl ?_ ?_
  ·refine aP (pl (decide_eq_true (aQ rfl)) id) ?_
   refine cN (pb (pl (decide_eq_true rfl) id) id) ?_
   exact cX ((Ent.rn [0,1,4] [1,2,3,4] rfl rfl rfl rfl rfl))
  exact cJ ((Ent.rn [0,2] [2,3] rfl rfl rfl rfl rfl))
 exact aM (aL [1] (.inr rfl) rfl rfl rfl rfl rfl)
theorem vF:CtOk (GGx kCa kDb) PP (43,rO):=by
 refine aD Tryz.func43 (by kernel_rfl) rfl fun a0 h0 c0 v0 N0 e hc=>?_
 unfold rO at e
 split at e
 ·rename_i p_0 p_1 p_2n p_3 p_4 p_5 p_6 p_7 p_2
  obtain⟨hl,r,hr,rfl,rfl⟩:=bH e hc
  simp only[decide_eq_true_eq]at hl
  obtain rfl:=hl
  exact Bj ⟨p_0,p_1,p_2,p_3,p_4,p_5,p_6,p_7⟩ hr
 ·cases e
def gg:Psn->Bool×Int->List (List Int)×Int->Bool×Int->Option (Bool×Int ⊕ Bool ⊕ Bool×Int ⊕ Bool ⊕ Bool×Int):=fun(p:Psn) (s19:Bool×Int) (y20:List (List Int)×Int)=>let x43:=Psn.mk p.f p.r (List.take p.zs.length (List.drop 0 p.zs)) p.bl p.ca p.pa p.ha p.fu;fun(s25:Bool×Int)=>let x47:=decide (s25.2<Int.ofNat y20.1.length);let x48:=y20.1.getD s25.2.toNat [];let x46:=Mov.mk (x48.getD 0 0) (x48.getD 1 0) (x48.getD 2 0);let x45:=(keeps x43 x46).getD false;bif x47 then be (decide (0<=s25.2)&&x47) (cm (keeps x43 x46) Inhabited.default fun(_y26:Bool)=>bif x45 then some (Sum.inr (Sum.inl x45))else some (Sum.inl (x45,i64.wrap (s25.2+1))))else escO (escO (some (Sum.inl (s25.1,i64.wrap (s19.2+1)))))
def ni:Psn->(Psn->Bool×Int->List (List Int)×Int->Bool×Int->Option (Bool×Int ⊕ Bool ⊕ Bool×Int ⊕ Bool ⊕ Bool×Int))->Bool×Int->Option (Bool×Int ⊕ Bool ⊕ Bool×Int):=fun(p:Psn) (gg:Psn->Bool×Int->List (List Int)×Int->Bool×Int->Option (Bool×Int ⊕ Bool ⊕ Bool×Int ⊕ Bool ⊕ Bool×Int)) (s19:Bool×Int)=>bif decide (s19.2<Int.ofNat p.zs.length)then cm (tu (Psn.mk p.f p.r (List.take p.zs.length (List.drop 0 p.zs)) p.bl p.ca p.pa p.ha p.fu) s19.2) ([],0) fun(y20:List (List Int)×Int)=>cR (gg p s19 y20) (fun(s34:Bool)=>some (Sum.inr (Sum.inl s34))) 1000000 (s19.1,0)else some (Sum.inr (Sum.inl s19.1))
def lany(p:Psn):Option (Bool×Int):=let x56:=List.take p.zs.length (List.drop 0 p.zs);let x55:=x56.length;be (decide (x55<=64)) (bif !(Psn.mk p.f p.r x56 p.bl p.ca p.pa p.ha p.fu).ok then some (false,2)else cR (ni p gg) (fun(s42:Bool)=>some (s42,0)) 1000000 (false,0))
def CB(R:Bool×Int):V:=.tup [Bb R.1,.int .i64 R.2]
def Da(_R:Bool×Int):List O:=[]
def Ej:CF
 |[.agg [.int .i64 p_0,.int .i64 p_1,.sl 0 0 p_2n none,.bool p_3,.int .u8 p_4,.int .i64 p_5,.int .i64 p_6,.int .i64 p_7]],[.ints false .i8 p_2]=>retC (decide (p_2n=p_2.length)) (lany ⟨p_0,p_1,p_2,p_3,p_4,p_5,p_6,p_7⟩) (false,0) CB Da
 |_,_=>none
theorem Hr(p:Psn){r}(hr:lany p=some r):aK (GGx true true) PP 27 [.agg [.int .i64 p.f,.int .i64 p.r,.sl 0 0 p.zs.length none,Bb p.bl,.int .u8 p.ca,.int .i64 p.pa,.int .i64 p.ha,.int .i64 p.fu]] [.ints false .i8 p.zs] (CB r) (Da r):=by
 have hE:=cutE (aA (kCa:=true) (kDb:=true) (cts:=[(33,dZ),(57,qi),(58,qP)]) (inl:=[]) ⟨cM,pR,pA,trivial⟩ trivial)
 refine cE hE 2 Tryz.func27 rfl rfl CB Da hr ?_ rfl rfl
 refine cN (pl (decide_eq_true (aQ rfl)) id) ?_
 refine aE hE 2 rfl ?_ ?_
 ·exact aM (aL [] (.inr rfl) rfl rfl rfl rfl rfl)
 refine da hE 2 (fun(s19:Bool×Int)=>([(1,V.ptr 1 0 0),(2,Bb false),(3,I 0),(4,Bb s19.1),(15,I (Int.ofNat p.zs.length)),(16,I s19.2)],[O.ints false i8 p.zs,O.cells true [I p.f,I p.r,V.sl 0 0 p.zs.length none,Bb p.bl,V.int u8 p.ca,I p.pa,I p.ha,I p.fu]])) (fun(s42:Bool)=>([(2,Bb false),(3,I 0),(4,Bb s42)],[O.ints false i8 p.zs])) (.exit 0) ((Ent.rn [0,1] [1,2,3,4,15,16] rfl rfl rfl rfl rfl)) (fun s19=>?_) (fun s42=>?_)
 ·refine aE hE 2 rfl ?_ ?_
  ·refine aP (pl (decide_eq_true (aQ rfl)) id) ?_
   refine da hE 2 (let x61:=((tu (Psn.mk p.f p.r (List.take p.zs.length (List.drop 0 p.zs)) p.bl p.ca p.pa p.ha p.fu) s19.2).getD ([],0)).fst;let x60:=x61.length;fun(s25:Bool×Int)=>([(1,V.ptr 1 0 0),(2,Bb false),(3,I 0),(4,Bb s25.1),(15,I (Int.ofNat p.zs.length)),(16,I s19.2),(25,V.sl 2 0 x60 none),(26,I (Int.ofNat x60)),(27,I s25.2)],[O.ints false i8 p.zs,O.cells true [I p.f,I p.r,V.sl 0 0 p.zs.length none,Bb p.bl,V.int u8 p.ca,I p.pa,I p.ha,I p.fu],O.rows true [i64,i64,i8] x61])) (fun(s34:Bool)=>([(1,V.ptr 1 0 0),(2,Bb false),(3,I 0),(4,Bb s34),(15,I (Int.ofNat p.zs.length)),(16,I s19.2)],[O.ints false i8 p.zs,O.cells true [I p.f,I p.r,V.sl 0 0 p.zs.length none,Bb p.bl,V.int u8 p.ca,I p.pa,I p.ha,I p.fu]])) (.exit 0) ((Ent.rn [0,1,2] [1,2,3,4,15,16,25,26,27] rfl rfl rfl rfl rfl)) (fun s25=>?_) (fun s34=>?_)
   ·refine aE hE 2 rfl ?_ ?_
    ·refine bP ?_
     refine aP (pl (decide_eq_true (aQ rfl)) id) ?_
     refine aE hE 2 rfl ?_ ?_
     ·exact cJ ((Ent.rn [0,1] [1,2,3,4,15,16] rfl rfl rfl rfl rfl))
     exact cX ((Ent.rn [0,1,2] [1,2,3,4,15,16,25,26,27] rfl rfl rfl rfl rfl))
    refine pH (by simp) (kM ?_)
    exact cX ((Ent.rn [0,1] [1,2,3,4,15,16] rfl rfl rfl rfl rfl))
   exact cJ ((Ent.rn [0] [2,3,4] rfl rfl rfl rfl rfl))
  exact cJ ((Ent.rn [0] [2,3,4] rfl rfl rfl rfl rfl))
 exact aM (aL [] (.inr rfl) rfl rfl rfl rfl rfl)
theorem Bz:CtOk (GGx true true) PP (27,Ej):=by
 refine aD Tryz.func27 (by kernel_rfl) rfl fun a0 h0 c0 v0 N0 e hc=>?_
 unfold Ej at e
 split at e
 ·rename_i p_0 p_1 p_2n p_3 p_4 p_5 p_6 p_7 p_2
  obtain⟨hl,r,hr,rfl,rfl⟩:=bH e hc
  simp only[decide_eq_true_eq]at hl
  obtain rfl:=hl
  exact Hr ⟨p_0,p_1,p_2,p_3,p_4,p_5,p_6,p_7⟩ hr
 ·cases e
end
end Go.Ab
namespace Go.Ab
open Go.Proofs
def afM(r:List Int):Mov:=⟨r.getD 0 0,r.getD 1 0,r.getD 2 0⟩
def dG(p:Psn)(l:List (List Int)):List (Mov×Psn):=l.filterMap fun r=>bif decide (mkE5 p (afM r)=0)then some (afM r,mkP p (afM r))else none
def Be(x:Mov×Psn):List V:=[.agg [I x.1.a,I x.1.b,.int .i8 x.1.p],.agg [I x.2.f,I x.2.r,.sl 0 0 x.2.zs.length none,Bb x.2.bl,.int .u8 x.2.ca,I x.2.pa,I x.2.ha,I x.2.fu]]
def afNs(x:Mov×Psn):List O:=[.ints true .i8 x.2.zs]
def afHc(p:Psn):List O:=[.cells false [I p.f,I p.r,.sl 2 0 p.zs.length none,Bb p.bl,.int .u8 p.ca,I p.pa,I p.ha,I p.fu],.ints false .i8 p.zs]
theorem CU{p:Psn}:∀ {l:List (List Int)} {j:Nat} (hj:j<l.length),mkE5 p (afM l[j])=0->(dG p l)[(dG p (l.take j)).length]?=some (afM l[j],mkP p (afM l[j]))/\(dG p (l.take (j+1))).length=(dG p (l.take j)).length+1:=by
 intro l j hj he
 have h1:l.take (j+1)=l.take j++[l[j]]:=by rw[List.take_succ_eq_append_getElem hj]
 have h2:l=l.take j++l[j]::l.drop (j+1):=by rw[List.getElem_cons_drop,List.take_append_drop]
 have h3:dG p [l[j]]=[(afM l[j],mkP p (afM l[j]))]:=by simp[dG,he]
 refine⟨?_,?_⟩
 ·have h4:dG p l=dG p (l.take j)++(afM l[j],mkP p (afM l[j]))::dG p (l.drop (j+1)):=by
   have h5:dG p l=dG p (l.take j++l[j]::l.drop (j+1)):=by rw[<-h2]
   rw[h5]
   unfold dG
   rw[List.filterMap_append,List.filterMap_cons,he]
   rfl
  rw[h4,List.getElem?_append_right (Nat.le_refl _)];simp
 ·rw[h1]
  unfold dG at h3 ⊢
  rw[List.filterMap_append,h3];simp
theorem Dr{p:Psn}:∀ {l:List (List Int)} {j:Nat} (hj:j<l.length),mkE5 p (afM l[j])≠0->(dG p (l.take (j+1))).length=(dG p (l.take j)).length:=by
 intro l j hj he
 have h1:l.take (j+1)=l.take j++[l[j]]:=by rw[List.take_succ_eq_append_getElem hj]
 rw[h1]
 unfold dG
 rw[List.filterMap_append]
 simp[he]
theorem HW(p:Psn){l:List (List Int)}{e:Int}(hp:pJ p=some (l,e))(hl:p.zs.length<=64)(hn:l.length<=100000):SqH (GGx true true) PP 61 (afHc p) [.ptr 1 0 0] [.rows true [.i64,.i64,.i8] l] ((dG p l).map fun x=>(Be x,afNs x)):=by
 have hE:=aA (kCa:=true) (kDb:=true) (cts:=[(62,qW),(63,ym)]) (inl:=[]) ⟨vK,uh,trivial⟩ trivial
 refine Er hE Tryz.func61 rfl rfl rfl rfl rfl fun nn l0 S0 ρc J ok=>?_
 refine YH.seq (YH.seg hE 2 ?_)
 have e1:(⟨p.f,p.r,List.take p.zs.length (List.drop 0 p.zs),p.bl,p.ca,p.pa,p.ha,p.fu⟩:Psn)=p:=by rw[List.drop_zero,List.take_length]
 refine ae (by rw[e1,hp,List.drop_zero,List.take_length];simp) ?_
 refine ag ?_
 rw[e1,hp]
 refine YH.seq (YH.seg hE 2 ?_)
 repeat (first|refine ah ?_|refine ae (by first|rfl|(simp;done)|(simp;omega)) ?_)
 refine ag ?_
 refine YH.block (YH.loop (fun a:Nat×Nat×Bool=>((some a.2.1,a.2.2),[(0,.yl 0),(1,.ptr 1 0 0),(15,.sl 3 0 l.length none),(16,I l.length),(17,I a.1)],
   [.gone,.cells false [I p.f,I p.r,.sl 2 0 p.zs.length none,Bb p.bl,.int .u8 p.ca,I p.pa,I p.ha,I p.fu],.ints false .i8 p.zs,match a.2.2 with|true=>.rows false [.i64,.i64,.i8] l|false=>.rows true [.i64,.i64,.i8] l]))
  (fun a=>a.1<=l.length/\a.2.1=(dG p (l.take a.1)).length) (fun a=>l.length-a.1) (0,0,false) rfl (Ent.ren [0,1,2,3] [0,1,15,16,17] rfl rfl rfl) ⟨Nat.zero_le _,rfl⟩ ?_)
 rintro⟨j,i,hd⟩ ⟨i1,i2⟩
 dsimp only at i1 i2 ⊢
 have hrow:∀ (x:Bool),(match x with|true=>O.rows false [.i64,.i64,.i8] l|false=>.rows true [.i64,.i64,.i8] l)=O.rows (!x) [.i64,.i64,.i8] l:=by intro x;cases x<;>rfl
 cases hd with
 |false=>
  refine YH.seq (YH.seg hE 2 ?_)
  repeat (first|refine ah ?_|refine sat_nd ?_)
  refine ag ?_
  refine YH.seq (YH.seg hE 2 ?_)
  refine av (fun h1=>ag ?_) (fun h1=>ag ?_)
  ·have hj:j<l.length:=by have h1:=of_decide_eq_true h1;omega
   have hw:IntKind.i64.wrap ((j:Int)+1)=((j+1:Nat):Int):=aI (by omega) (by omega)
   have hx:l.getD (j:Int).toNat []=l[j]:=by simp[List.getD,hj]
   refine YH.seq (YH.block (YH.seq (YH.seg hE 2 ?_)))
   repeat (first|refine ah ?_|refine sat_nd ?_)
   refine ag ?_
   refine YH.seq (YH.seg hE 2 ?_)
   refine ae (by rw[List.drop_zero,List.take_length];simpa using hl) ?_
   repeat (first|refine ah ?_|refine sat_nd ?_)
   refine ag ?_
   rw[e1]
   refine YH.seq (YH.yregAt ok 2 6 rfl rfl rfl ?_)
   repeat (first|refine ah ?_|refine sat_nd ?_)
   refine ag ?_
   have hmv:(⟨(l.getD (j:Int).toNat []).getD 0 0,(l.getD (j:Int).toNat []).getD 1 0,(l.getD (j:Int).toNat []).getD 2 0⟩:Mov)=afM l[j]:=by rw[hx];rfl
   refine And.intro (fun hg=>?_) (fun hg=>?_)
   ·repeat (first|refine ah ?_|refine sat_nd ?_)
    refine ag ?_
    have he:mkE5 p (afM l[j])=0:=by rw[<-hmv];exact of_decide_eq_true hg
    obtain⟨n1,n2⟩:=CU hj he
    refine⟨i,Be (afM l[j],mkP p (afM l[j])),afNs (afM l[j],mkP p (afM l[j])),[0,1,15,16,17,30],[3,5],_,rfl,by rw[List.getElem?_map,i2,n1];rfl,rfl,rfl,by rw[<-hmv];rfl,by rw[<-hmv];rfl,rfl,rfl,rfl,rfl,fun b=>?_⟩
    cases b with
    |true=>
     repeat (first|refine ah ?_|refine sat_nd ?_)
     refine ag ?_
     refine YH.seg hE 2 ?_
     repeat (first|refine ah ?_|refine sat_nd ?_)
     refine ag ?_
     refine YH.seg hE 2 ?_
     repeat (first|refine ah ?_|refine sat_nd ?_)
     refine ag ⟨(j+1,i+1,true),⟨hj,by dsimp only;omega⟩,by dsimp only;omega,rfl,?_⟩
     dsimp only
     rw[hw]
     exact Ent.ren [0,1,2,3] [0,1,15,16,17] rfl rfl rfl
    |false=>
     repeat (first|refine ah ?_|refine sat_nd ?_)
     refine ag ?_
     refine YH.seg hE 2 ?_
     repeat (first|refine ah ?_|refine sat_nd ?_)
     exact ag ⟨.inr rfl,.inr rfl⟩
   ·repeat (first|refine ah ?_|refine sat_nd ?_)
    refine ag ?_
    have he:mkE5 p (afM l[j])≠0:=by rw[<-hmv];exact of_decide_eq_false hg
    refine YH.seg hE 2 ?_
    repeat (first|refine ah ?_|refine sat_nd ?_)
    refine ag ?_
    refine YH.seg hE 2 ?_
    repeat (first|refine ah ?_|refine sat_nd ?_)
    refine ag ⟨(j+1,i,false),⟨hj,by dsimp only;rw[Dr hj he];exact i2⟩,by dsimp only;omega,rfl,?_⟩
    dsimp only
    rw[hw]
    exact Ent.ren [0,1,2,3] [0,1,15,16,17] rfl rfl rfl
  ·have hj:j=l.length:=by have h1:=of_decide_eq_false h1;omega
   refine⟨.inl rfl,.inl ?_⟩
   dsimp only
   rw[i2,hj,List.take_length,List.length_map]
 |true=>
  refine YH.seq (YH.seg hE 2 ?_)
  repeat (first|refine ah ?_|refine sat_nd ?_)
  refine ag ?_
  refine YH.seq (YH.seg hE 2 ?_)
  refine av (fun h1=>ag ?_) (fun h1=>ag ?_)
  ·have hj:j<l.length:=by have h1:=of_decide_eq_true h1;omega
   have hw:IntKind.i64.wrap ((j:Int)+1)=((j+1:Nat):Int):=aI (by omega) (by omega)
   have hx:l.getD (j:Int).toNat []=l[j]:=by simp[List.getD,hj]
   refine YH.seq (YH.block (YH.seq (YH.seg hE 2 ?_)))
   repeat (first|refine ah ?_|refine sat_nd ?_)
   refine ag ?_
   refine YH.seq (YH.seg hE 2 ?_)
   refine ae (by rw[List.drop_zero,List.take_length];simpa using hl) ?_
   repeat (first|refine ah ?_|refine sat_nd ?_)
   refine ag ?_
   rw[e1]
   refine YH.seq (YH.yregAt ok 2 6 rfl rfl rfl ?_)
   repeat (first|refine ah ?_|refine sat_nd ?_)
   refine ag ?_
   have hmv:(⟨(l.getD (j:Int).toNat []).getD 0 0,(l.getD (j:Int).toNat []).getD 1 0,(l.getD (j:Int).toNat []).getD 2 0⟩:Mov)=afM l[j]:=by rw[hx];rfl
   refine And.intro (fun hg=>?_) (fun hg=>?_)
   ·repeat (first|refine ah ?_|refine sat_nd ?_)
    refine ag ?_
    have he:mkE5 p (afM l[j])=0:=by rw[<-hmv];exact of_decide_eq_true hg
    obtain⟨n1,n2⟩:=CU hj he
    refine⟨i,Be (afM l[j],mkP p (afM l[j])),afNs (afM l[j],mkP p (afM l[j])),[0,1,15,16,17,30],[5],_,rfl,by rw[List.getElem?_map,i2,n1];rfl,rfl,rfl,by rw[<-hmv];rfl,by rw[<-hmv];rfl,rfl,rfl,rfl,rfl,fun b=>?_⟩
    cases b with
    |true=>
     repeat (first|refine ah ?_|refine sat_nd ?_)
     refine ag ?_
     refine YH.seg hE 2 ?_
     repeat (first|refine ah ?_|refine sat_nd ?_)
     refine ag ?_
     refine YH.seg hE 2 ?_
     repeat (first|refine ah ?_|refine sat_nd ?_)
     refine ag ⟨(j+1,i+1,true),⟨hj,by dsimp only;omega⟩,by dsimp only;omega,rfl,?_⟩
     dsimp only
     rw[hw]
     exact Ent.ren [0,1,2,3] [0,1,15,16,17] rfl rfl rfl
    |false=>
     repeat (first|refine ah ?_|refine sat_nd ?_)
     refine ag ?_
     refine YH.seg hE 2 ?_
     repeat (first|refine ah ?_|refine sat_nd ?_)
     exact ag ⟨.inr rfl,.inr rfl⟩
   ·repeat (first|refine ah ?_|refine sat_nd ?_)
    refine ag ?_
    have he:mkE5 p (afM l[j])≠0:=by rw[<-hmv];exact of_decide_eq_false hg
    refine YH.seg hE 2 ?_
    repeat (first|refine ah ?_|refine sat_nd ?_)
    refine ag ?_
    refine YH.seg hE 2 ?_
    repeat (first|refine ah ?_|refine sat_nd ?_)
    refine ag ⟨(j+1,i,true),⟨hj,by dsimp only;rw[Dr hj he];exact i2⟩,by dsimp only;omega,rfl,?_⟩
    dsimp only
    rw[hw]
    exact Ent.ren [0,1,2,3] [0,1,15,16,17] rfl rfl rfl
  ·have hj:j=l.length:=by have h1:=of_decide_eq_false h1;omega
   refine⟨.inl rfl,.inl ?_⟩
   dsimp only
   rw[i2,hj,List.take_length,List.length_map]
def afL(p:Psn):List (List Int):=((pJ p).getD ([],0)).1
def afLs(p:Psn):List (Mov×Psn):=dG p (afL p)
def HT(p:Psn):O:=.rows true [.i64,.i64,.i8] (afL p)
abbrev KJ:List V:=[.ptr 1 0 0]
def afOk(p:Psn):Bool:=(pJ p).isSome&&decide (p.zs.length<=64)&&decide ((afL p).length<=100000)
theorem IK(p:Psn)(h:afOk p=true):SqH (GGx true true) PP 61 (afHc p) KJ [HT p] ((afLs p).map fun x=>(Be x,afNs x)):=by
 unfold afOk at h
 simp only[Bool.and_eq_true,decide_eq_true_eq]at h
 obtain⟨⟨h1,h2⟩,h3⟩:=h
 cases hp:pJ p with
 |none=>rw[hp]at h1;cases h1
 |some r=>
  obtain⟨l,e⟩:=r
  have hl:afL p=l:=by unfold afL;rw[hp];rfl
  have:=HW p hp h2 (by rw[<-hl];exact h3)
  unfold HT afLs
  rw[hl]
  exact this
section
variable{kCa kDb:Bool}
end
end Go.Ab
namespace Go.Ab
open IntKind
open Go.Proofs
section
variable{kCa kDb:Bool}
def kL(p:Psn):Option (Bool):=some (decide (Int.ofNat p.zs.length<=64))
def oh(R:Bool):V:=Bb R
def mQ(_R:Bool):List O:=[]
def jc:CF
 |[.agg [.int .i64 p_0,.int .i64 p_1,.sl 0 0 p_2n none,.bool p_3,.int .u8 p_4,.int .i64 p_5,.int .i64 p_6,.int .i64 p_7]],[.ints false .i8 p_2]=>retC (decide (p_2n=p_2.length)) (kL ⟨p_0,p_1,p_2,p_3,p_4,p_5,p_6,p_7⟩) false oh mQ
 |_,_=>none
theorem xg(p:Psn){r}(hr:kL p=some r):aK (GGx kCa kDb) PP 8 [.agg [.int .i64 p.f,.int .i64 p.r,.sl 0 0 p.zs.length none,Bb p.bl,.int .u8 p.ca,.int .i64 p.pa,.int .i64 p.ha,.int .i64 p.fu]] [.ints false .i8 p.zs] (oh r) (mQ r):=by
 have hE:=cutE (aA (kCa:=kCa) (kDb:=kDb) (cts:=[]) (inl:=[]) trivial trivial)
 refine cE hE 2 Tryz.func8 rfl rfl oh mQ hr ?_ rfl rfl
 exact aM (aL [] (.inr rfl) rfl rfl rfl rfl rfl)
theorem lE:CtOk (GGx kCa kDb) PP (8,jc):=by
 refine aD Tryz.func8 (by kernel_rfl) rfl fun a0 h0 c0 v0 N0 e hc=>?_
 unfold jc at e
 split at e
 ·rename_i p_0 p_1 p_2n p_3 p_4 p_5 p_6 p_7 p_2
  obtain⟨hl,r,hr,rfl,rfl⟩:=bH e hc
  simp only[decide_eq_true_eq]at hl
  obtain rfl:=hl
  exact xg ⟨p_0,p_1,p_2,p_3,p_4,p_5,p_6,p_7⟩ hr
 ·cases e
def eOf(p:Psn):Option (Int):=let x4:=List.take p.zs.length (List.drop 0 p.zs);let x2:=(bM p.f p.r x4 p.bl).fst;let x3:=x4.length;be (decide (x3<=64)) (cm (lany (Psn.mk p.f p.r x4 p.bl p.ca p.pa p.ha p.fu)) (false,0) fun(y1:Bool×Int)=>some (endV (!decide (x2=0)) y1.1))
def JN(R:Int):V:=.int .i64 R
def LG(_R:Int):List O:=[]
def EH:CF
 |[.agg [.int .i64 p_0,.int .i64 p_1,.sl 0 0 p_2n none,.bool p_3,.int .u8 p_4,.int .i64 p_5,.int .i64 p_6,.int .i64 p_7]],[.ints false .i8 p_2]=>retC (decide (p_2n=p_2.length)) (eOf ⟨p_0,p_1,p_2,p_3,p_4,p_5,p_6,p_7⟩) 0 JN LG
 |_,_=>none
theorem KU(p:Psn){r}(hr:eOf p=some r):aK (GGx true true) PP 34 [.agg [.int .i64 p.f,.int .i64 p.r,.sl 0 0 p.zs.length none,Bb p.bl,.int .u8 p.ca,.int .i64 p.pa,.int .i64 p.ha,.int .i64 p.fu]] [.ints false .i8 p.zs] (JN r) (LG r):=by
 have hE:=cutE (aA (kCa:=true) (kDb:=true) (cts:=[(27,Ej),(28,fJ),(77,sQ)]) (inl:=[]) ⟨Bz,fZ,wV,trivial⟩ trivial)
 refine cE hE 2 Tryz.func34 rfl rfl JN LG hr ?_ rfl rfl
 refine cN (pl (decide_eq_true (aQ rfl)) id) ?_
 refine aP (pl (decide_eq_true (aQ rfl)) id) ?_
 refine ak rfl ?_
 exact aM (aL [] (.inr rfl) rfl rfl rfl rfl rfl)
theorem qB:CtOk (GGx true true) PP (34,EH):=by
 refine aD Tryz.func34 (by kernel_rfl) rfl fun a0 h0 c0 v0 N0 e hc=>?_
 unfold EH at e
 split at e
 ·rename_i p_0 p_1 p_2n p_3 p_4 p_5 p_6 p_7 p_2
  obtain⟨hl,r,hr,rfl,rfl⟩:=bH e hc
  simp only[decide_eq_true_eq]at hl
  obtain rfl:=hl
  exact KU ⟨p_0,p_1,p_2,p_3,p_4,p_5,p_6,p_7⟩ hr
 ·cases e
def eeOf(p:Psn):Option (Int×Int):=let x4:=List.take p.zs.length (List.drop 0 p.zs);let x2:=Psn.mk p.f p.r x4 p.bl p.ca p.pa p.ha p.fu;let x3:=x4.length;be (decide (x3<=64)) (bif !x2.ok then some (0,2)else cm (eOf x2) 0 fun(y1:Int)=>some (y1,0))
def Dw(R:Int×Int):V:=.tup [.int .i64 R.1,.int .i64 R.2]
def Dn(_R:Int×Int):List O:=[]
def uX:CF
 |[.agg [.int .i64 p_0,.int .i64 p_1,.sl 0 0 p_2n none,.bool p_3,.int .u8 p_4,.int .i64 p_5,.int .i64 p_6,.int .i64 p_7]],[.ints false .i8 p_2]=>retC (decide (p_2n=p_2.length)) (eeOf ⟨p_0,p_1,p_2,p_3,p_4,p_5,p_6,p_7⟩) (0,0) Dw Dn
 |_,_=>none
theorem Gx(p:Psn){r}(hr:eeOf p=some r):aK (GGx true true) PP 10 [.agg [.int .i64 p.f,.int .i64 p.r,.sl 0 0 p.zs.length none,Bb p.bl,.int .u8 p.ca,.int .i64 p.pa,.int .i64 p.ha,.int .i64 p.fu]] [.ints false .i8 p.zs] (Dw r) (Dn r):=by
 have hE:=cutE (aA (kCa:=true) (kDb:=true) (cts:=[(33,dZ),(34,EH)]) (inl:=[]) ⟨cM,qB,trivial⟩ trivial)
 refine cE hE 2 Tryz.func10 rfl rfl Dw Dn hr ?_ rfl rfl
 refine cN (pl (decide_eq_true (aQ rfl)) id) ?_
 refine aE hE 2 rfl ?_ ?_
 ·exact aM (aL [] (.inr rfl) rfl rfl rfl rfl rfl)
 refine aP (pl (decide_eq_true (aQ rfl)) id) ?_
 exact aM (aL [] (.inr rfl) rfl rfl rfl rfl rfl)
theorem mY:CtOk (GGx true true) PP (10,uX):=by
 refine aD Tryz.func10 (by kernel_rfl) rfl fun a0 h0 c0 v0 N0 e hc=>?_
 unfold uX at e
 split at e
 ·rename_i p_0 p_1 p_2n p_3 p_4 p_5 p_6 p_7 p_2
  obtain⟨hl,r,hr,rfl,rfl⟩:=bH e hc
  simp only[decide_eq_true_eq]at hl
  obtain rfl:=hl
  exact Gx ⟨p_0,p_1,p_2,p_3,p_4,p_5,p_6,p_7⟩ hr
 ·cases e
def Jf:Psn->Int->Int->Option (Int ⊕ Int ⊕ Int×Int):=fun(p:Psn) (e2 s8:Int)=>cm (va (Siz.mk p.f p.r) (bW p.f p.r (List.take p.zs.length (List.drop 0 p.zs)) p.bl).fst e2) (0,0) fun(y9:Int×Int)=>dz (bif !decide (y9.1=1)then be (decide (0<=e2)) (some (Sum.inl (band Go.BinOp.andNot u64 s8 (u64.wrap (1*2^Min.min e2.toNat u64.bits)))))else some (Sum.inl s8)) fun(s11:Int)=>some (Sum.inl s11)
def eFl(p:Psn):Option (Int×Int):=let x24:=List.take p.zs.length (List.drop 0 p.zs);let x22:=Psn.mk p.f p.r x24 p.bl p.ca p.pa p.ha p.fu;let x23:=x24.length;let x21:=decide (x23<=64);be x21 (bif !x22.ok then some (0,2)else be x21 (cm (dY x22 (bW p.f p.r x24 p.bl).fst) (0,0) fun(y1:Int×Int)=>dN (Jf p) (fun(s8:Int)=>some (s8,0)) (fun(_s8:Int)=>none) (jy y1.1) y1.1))
def LD(R:Int×Int):V:=.tup [.int .u64 R.1,.int .i64 R.2]
def Ki(_R:Int×Int):List O:=[]
def Gk:CF
 |[.agg [.int .i64 p_0,.int .i64 p_1,.sl 0 0 p_2n none,.bool p_3,.int .u8 p_4,.int .i64 p_5,.int .i64 p_6,.int .i64 p_7]],[.ints false .i8 p_2]=>retC (decide (p_2n=p_2.length)) (eFl ⟨p_0,p_1,p_2,p_3,p_4,p_5,p_6,p_7⟩) (0,0) LD Ki
 |_,_=>none
theorem Lm(p:Psn){r}(hr:eFl p=some r):aK (GGx true true) PP 21 [.agg [.int .i64 p.f,.int .i64 p.r,.sl 0 0 p.zs.length none,Bb p.bl,.int .u8 p.ca,.int .i64 p.pa,.int .i64 p.ha,.int .i64 p.fu]] [.ints false .i8 p.zs] (LD r) (Ki r):=by
 have hE:=cutE (aA (kCa:=true) (kDb:=true) (cts:=[(33,dZ),(49,uY),(50,kr),(52,xn)]) (inl:=[(51,Tryz.f51)]) ⟨cM,nK,ru,Aj,trivial⟩ ⟨⟨Tryz.func51,by kernel_rfl⟩,trivial⟩)
 refine cE hE 2 Tryz.func21 rfl rfl LD Ki hr ?_ rfl rfl
 refine cN (pl (decide_eq_true (aQ rfl)) id) ?_
 refine aE hE 2 rfl ?_ ?_
 ·exact aM (aL [] (.inr rfl) rfl rfl rfl rfl rfl)
 refine cN (pl (decide_eq_true (aQ rfl)) id) ?_
 refine aP (pl (decide_eq_true (aQ rfl)) id) ?_
 refine rA hE 2 5 (let x29:=List.take p.zs.length (List.drop 0 p.zs);let x28:=(bW p.f p.r x29 p.bl).fst;fun(s8:Int)=>[O.ints false i8 p.zs,O.cells true [I p.f,I p.r,V.sl 0 0 p.zs.length none,Bb p.bl,V.int u8 p.ca,I p.pa,I p.ha,I p.fu],O.cells true [I x28],O.cells true [U s8],O.cells true [U ((dY (Psn.mk p.f p.r x29 p.bl p.ca p.pa p.ha p.fu) x28).getD (0,0)).fst]]) (let x32:=List.take p.zs.length (List.drop 0 p.zs);let x31:=(bW p.f p.r x32 p.bl).fst;fun(s8:Int)=>[O.ints false i8 p.zs,O.cells true [I p.f,I p.r,V.sl 0 0 p.zs.length none,Bb p.bl,V.int u8 p.ca,I p.pa,I p.ha,I p.fu],O.cells true [I x31],O.cells true [U s8],O.cells true [U ((dY (Psn.mk p.f p.r x32 p.bl p.ca p.pa p.ha p.fu) x31).getD (0,0)).fst]]) 0 (jy ((dY (Psn.mk p.f p.r (List.take p.zs.length (List.drop 0 p.zs)) p.bl p.ca p.pa p.ha p.fu) (bW p.f p.r (List.take p.zs.length (List.drop 0 p.zs)) p.bl).fst).getD (0,0)).fst) (fun(e2:Int)=>[I e2]) (fun(e2 s8:Int)=>(8,I e2)::putPs (#[33]:Array Nat).toList [I e2] [(1,V.ptr 1 0 0),(2,U 0),(3,I 0),(4,V.ptr 2 0 0),(6,V.ptr 3 0 0),(32,V.fn 95 [V.ptr 4 0 0])]) [4] [1,2,3,4,6,32] ((Ent.rn [0,1,2,3,4] [1,2,3,4,6,32] rfl rfl rfl rfl rfl).trans ((Ent.rn [0,1,2,3,4] [1,2,3,4,6,32] rfl rfl rfl rfl rfl))) (qI (kCa:=true) _) (fun _=>rfl) (ent Tryz.func95 (by kernel_rfl) rfl) rfl rfl rfl rfl rfl rfl (fun _=>rfl) (fun _=>rfl) (fun _ _=>rfl) (fun e2 s8=>?_) (fun s8=>?_) (fun s8=>ox)
 ·refine aP (pl rfl id) ?_
  refine cH hE 2 (let x37:=List.take p.zs.length (List.drop 0 p.zs);let x36:=(bW p.f p.r x37 p.bl).fst;fun(s11:Int)=>([],[O.ints false i8 p.zs,O.cells true [I p.f,I p.r,V.sl 0 0 p.zs.length none,Bb p.bl,V.int u8 p.ca,I p.pa,I p.ha,I p.fu],O.cells true [I x36],O.cells true [U s11],O.cells true [U ((dY (Psn.mk p.f p.r x37 p.bl p.ca p.pa p.ha p.fu) x36).getD (0,0)).fst]])) rfl ?_ ?_ (fun s11=>?_)
  ·refine ak rfl ?_
   refine bP ?_
   exact bK ((Ent.rn [0,1,2,3,4] [] rfl rfl rfl rfl rfl))
  ·exact bK ((Ent.rn [0,1,2,3,4] [] rfl rfl rfl rfl rfl))
  exact mu ((Ent.rn [0,1,2,3,4] [] rfl rfl rfl rfl rfl))
 exact aM (aL [] (.inr rfl) rfl rfl rfl rfl rfl)
theorem xW:CtOk (GGx true true) PP (21,Gk):=by
 refine aD Tryz.func21 (by kernel_rfl) rfl fun a0 h0 c0 v0 N0 e hc=>?_
 unfold Gk at e
 split at e
 ·rename_i p_0 p_1 p_2n p_3 p_4 p_5 p_6 p_7 p_2
  obtain⟨hl,r,hr,rfl,rfl⟩:=bH e hc
  simp only[decide_eq_true_eq]at hl
  obtain rfl:=hl
  exact Lm ⟨p_0,p_1,p_2,p_3,p_4,p_5,p_6,p_7⟩ hr
 ·cases e
def rEnd(p:Psn):Option (Int):=let x5:=List.take p.zs.length (List.drop 0 p.zs);let x4:=x5.length;cm (uu (Psn.mk p.f p.r x5 p.bl p.ca p.pa p.ha p.fu)) [] fun(y3:List (List Int))=>let x7:=decide (0<Int.ofNat y3.length);be (decide (x4<=64)&&vsB p.f p.r) (bif chkL p.f p.r x5 p.bl then bif x7 then some 1 else some 2 else bif x7 then some 0 else some 3)
def Fc(R:Int):V:=.int .i64 R
def BE(_R:Int):List O:=[]
def yu:CF
 |[.agg [.int .i64 p_0,.int .i64 p_1,.sl 0 0 p_2n none,.bool p_3,.int .u8 p_4,.int .i64 p_5,.int .i64 p_6,.int .i64 p_7]],[.ints false .i8 p_2]=>retC (decide (p_2n=p_2.length)) (rEnd ⟨p_0,p_1,p_2,p_3,p_4,p_5,p_6,p_7⟩) 0 Fc BE
 |_,_=>none
theorem Hj(p:Psn){r}(hr:rEnd p=some r):aK (GGx kCa kDb) PP 14 [.agg [.int .i64 p.f,.int .i64 p.r,.sl 0 0 p.zs.length none,Bb p.bl,.int .u8 p.ca,.int .i64 p.pa,.int .i64 p.ha,.int .i64 p.fu]] [.ints false .i8 p.zs] (Fc r) (BE r):=by
 have hE:=cutE (aA (kCa:=kCa) (kDb:=kDb) (cts:=[(29,um),(37,iW),(43,rO)]) (inl:=[]) ⟨ic,iP,vF,trivial⟩ trivial)
 refine cE hE 2 Tryz.func14 rfl rfl Fc BE hr ?_ rfl rfl
 unfold rEnd
 refine aP (pl (decide_eq_true (aQ rfl)) id) ?_
 refine ak rfl ?_
 refine ak rfl ?_
 refine cN (pb (pl (decide_eq_true (aQ rfl)) id) id) ?_
 refine aE hE 2 rfl ?_ ?_
 ·refine aE hE 2 rfl ?_ ?_
  ·exact aM (aL [] (.inr rfl) rfl rfl rfl rfl rfl)
  exact aM (aL [] (.inr rfl) rfl rfl rfl rfl rfl)
 refine aE hE 2 rfl ?_ ?_
 ·exact aM (aL [] (.inr rfl) rfl rfl rfl rfl rfl)
 exact aM (aL [] (.inr rfl) rfl rfl rfl rfl rfl)
theorem vb:CtOk (GGx kCa kDb) PP (14,yu):=by
 refine aD Tryz.func14 (by kernel_rfl) rfl fun a0 h0 c0 v0 N0 e hc=>?_
 unfold yu at e
 split at e
 ·rename_i p_0 p_1 p_2n p_3 p_4 p_5 p_6 p_7 p_2
  obtain⟨hl,r,hr,rfl,rfl⟩:=bH e hc
  simp only[decide_eq_true_eq]at hl
  obtain rfl:=hl
  exact Hj ⟨p_0,p_1,p_2,p_3,p_4,p_5,p_6,p_7⟩ hr
 ·cases e
def rRes(p:Psn):Option (Int×Bool):=cm (rEnd (Psn.mk p.f p.r (List.take p.zs.length (List.drop 0 p.zs)) p.bl p.ca p.pa p.ha p.fu)) 0 fun(y3:Int)=>bif decide (y3=2)then bif p.bl then some (1,true)else some (-1,true)else bif decide (y3=3)then some (0,true)else some (0,false)
def Cv(R:Int×Bool):V:=.tup [.int .i64 R.1,Bb R.2]
def DE(_R:Int×Bool):List O:=[]
def Co:CF
 |[.agg [.int .i64 p_0,.int .i64 p_1,.sl 0 0 p_2n none,.bool p_3,.int .u8 p_4,.int .i64 p_5,.int .i64 p_6,.int .i64 p_7]],[.ints false .i8 p_2]=>retC (decide (p_2n=p_2.length)) (rRes ⟨p_0,p_1,p_2,p_3,p_4,p_5,p_6,p_7⟩) (0,false) Cv DE
 |_,_=>none
theorem HY(p:Psn){r}(hr:rRes p=some r):aK (GGx kCa kDb) PP 13 [.agg [.int .i64 p.f,.int .i64 p.r,.sl 0 0 p.zs.length none,Bb p.bl,.int .u8 p.ca,.int .i64 p.pa,.int .i64 p.ha,.int .i64 p.fu]] [.ints false .i8 p.zs] (Cv r) (DE r):=by
 have hE:=cutE (aA (kCa:=kCa) (kDb:=kDb) (cts:=[(14,yu)]) (inl:=[]) ⟨vb,trivial⟩ trivial)
 refine cE hE 2 Tryz.func13 rfl rfl Cv DE hr ?_ rfl rfl
 unfold rRes
 refine aP (pl (decide_eq_true (aQ rfl)) id) ?_
 refine aE hE 2 rfl ?_ ?_
 ·refine aE hE 2 rfl ?_ ?_
  ·exact aM (aL [] (.inr rfl) rfl rfl rfl rfl rfl)
  exact aM (aL [] (.inr rfl) rfl rfl rfl rfl rfl)
 refine aE hE 2 rfl ?_ ?_
 ·exact aM (aL [] (.inr rfl) rfl rfl rfl rfl rfl)
 exact aM (aL [] (.inr rfl) rfl rfl rfl rfl rfl)
theorem CP:CtOk (GGx kCa kDb) PP (13,Co):=by
 refine aD Tryz.func13 (by kernel_rfl) rfl fun a0 h0 c0 v0 N0 e hc=>?_
 unfold Co at e
 split at e
 ·rename_i p_0 p_1 p_2n p_3 p_4 p_5 p_6 p_7 p_2
  obtain⟨hl,r,hr,rfl,rfl⟩:=bH e hc
  simp only[decide_eq_true_eq]at hl
  obtain rfl:=hl
  exact HY ⟨p_0,p_1,p_2,p_3,p_4,p_5,p_6,p_7⟩ hr
 ·cases e
def xT:Psn->List (List Int)->List Int×Int->Option (List Int×Int ⊕ List Int ⊕ List Int):=fun(p:Psn) (y3:List (List Int))=>let x20:=aV (List.take p.zs.length (List.drop 0 p.zs)) p.bl;fun(s9:List Int×Int)=>let x23:=(s9.1.length+1)*8;let x25:=decide (s9.2<Int.ofNat y3.length);let x26:=(y3.getD s9.2.toNat []).getD 1 0;let x22:=decide (0<=s9.2)&&x25;let x24:=eA p.f x20 x26;bif x25 then be x22 (be (!decide (p.f=0)) (dz (bif decide (x24=1)then be x22 (be (decide (x23<=140737488355328)) (some (Sum.inl (s9.1++List.take 1 (List.drop 0 (iL [x26]))))))else some (Sum.inl s9.1)) fun(s11:List Int)=>some (Sum.inl (s11,i64.wrap (s9.2+1)))))else some (Sum.inr (Sum.inl s9.1))
def rFl(p:Psn):Option (List Int):=let x30:=List.take p.zs.length (List.drop 0 p.zs);let x29:=x30.length;be (decide (x29<=64)) (cm (rB (Psn.mk p.f p.r x30 p.bl p.ca p.pa p.ha p.fu) (aV x30 p.bl)) [] fun(y3:List (List Int))=>cR (xT p y3) (fun(s19:List Int)=>some s19) 1000000 ([],0))
def JP(R:List Int):V:=.sl 1 0 R.length none
def Jt(R:List Int):List O:=[.ints true .i64 R]
def Ko:CF
 |[.agg [.int .i64 p_0,.int .i64 p_1,.sl 0 0 p_2n none,.bool p_3,.int .u8 p_4,.int .i64 p_5,.int .i64 p_6,.int .i64 p_7]],[.ints false .i8 p_2]=>retC (decide (p_2n=p_2.length)) (rFl ⟨p_0,p_1,p_2,p_3,p_4,p_5,p_6,p_7⟩) [] JP Jt
 |_,_=>none
theorem KY(p:Psn){r}(hr:rFl p=some r):aK (GGx kCa kDb) PP 23 [.agg [.int .i64 p.f,.int .i64 p.r,.sl 0 0 p.zs.length none,Bb p.bl,.int .u8 p.ca,.int .i64 p.pa,.int .i64 p.ha,.int .i64 p.fu]] [.ints false .i8 p.zs] (JP r) (Jt r):=by
 have hE:=cutE (aA (kCa:=kCa) (kDb:=kDb) (cts:=[(29,um),(36,gN),(54,rK),(55,yS)]) (inl:=[]) ⟨ic,gR,pN,uG,trivial⟩ trivial)
 refine cE hE 2 Tryz.func23 rfl rfl JP Jt hr ?_ rfl rfl
 refine ak rfl ?_
 refine ak rfl ?_
 refine cN (pl (decide_eq_true (aQ rfl)) id) ?_
 refine aP (pl (decide_eq_true (aQ rfl)) id) ?_
 refine da hE 2 (let x35:=List.take p.zs.length (List.drop 0 p.zs);let x34:=aV x35 p.bl;let x33:=(rB (Psn.mk p.f p.r x35 p.bl p.ca p.pa p.ha p.fu) x34).getD [];fun(s9:List Int×Int)=>([(1,V.ptr 1 0 0),(2,V.nils),(3,V.sl 2 0 s9.1.length none),(4,I x34),(5,V.sl 3 0 x33.length none),(6,I s9.2)],[O.ints false i8 p.zs,O.cells true [I p.f,I p.r,V.sl 0 0 p.zs.length none,Bb p.bl,V.int u8 p.ca,I p.pa,I p.ha,I p.fu],O.ints true i64 s9.1,O.rows true [i64,i64,i8] x33])) (fun(s19:List Int)=>([(2,V.nils),(3,V.sl 1 0 s19.length none)],[O.ints false i8 p.zs,O.ints true i64 s19])) (.exit 0) ((Ent.phT 3 (O.ints true i64 []) rfl rfl rfl rfl rfl).trans (Ent.rn [0,1,3,2] [1,2,3,4,5,6] rfl rfl rfl rfl rfl)) (fun s9=>?_) (fun s19=>?_)
 ·refine aE hE 2 rfl ?_ ?_
  ·refine ak rfl ?_
   refine bP ?_
   refine bP ?_
   refine cH hE 2 (let x40:=List.take p.zs.length (List.drop 0 p.zs);let x39:=aV x40 p.bl;let x38:=(rB (Psn.mk p.f p.r x40 p.bl p.ca p.pa p.ha p.fu) x39).getD [];fun(s11:List Int)=>([(1,V.ptr 1 0 0),(2,V.nils),(3,V.sl 2 0 s11.length none),(4,I x39),(5,V.sl 3 0 x38.length none),(6,I s9.2)],[O.ints false i8 p.zs,O.cells true [I p.f,I p.r,V.sl 0 0 p.zs.length none,Bb p.bl,V.int u8 p.ca,I p.pa,I p.ha,I p.fu],O.ints true i64 s11,O.rows true [i64,i64,i8] x38])) rfl ?_ ?_ (fun s11=>?_)
   ·refine bP ?_
    refine cN (pr (pl (decide_eq_true rfl) id) rfl) ?_
    exact bK ((Ent.rn [0,1,5,3] [1,2,3,4,5,6] rfl rfl rfl rfl rfl))
   ·exact bK ((Ent.rn [0,1,2,3] [1,2,3,4,5,6] rfl rfl rfl rfl rfl))
   exact cX ((Ent.rn [0,1,2,3] [1,2,3,4,5,6] rfl rfl rfl rfl rfl))
  exact cJ ((Ent.rn [0,2] [2,3] rfl rfl rfl rfl rfl))
 exact aM (aL [1] (.inr rfl) rfl rfl rfl rfl rfl)
theorem GD:CtOk (GGx kCa kDb) PP (23,Ko):=by
 refine aD Tryz.func23 (by kernel_rfl) rfl fun a0 h0 c0 v0 N0 e hc=>?_
 unfold Ko at e
 split at e
 ·rename_i p_0 p_1 p_2n p_3 p_4 p_5 p_6 p_7 p_2
  obtain⟨hl,r,hr,rfl,rfl⟩:=bH e hc
  simp only[decide_eq_true_eq]at hl
  obtain rfl:=hl
  exact KY ⟨p_0,p_1,p_2,p_3,p_4,p_5,p_6,p_7⟩ hr
 ·cases e
instance:Inhabited Psn:=⟨⟨0,0,[],false,0,0,0,0⟩⟩
def rTxt(result:Int)(ended:Bool):Option (List UInt8):=let x4:=decide (result=0);bif !ended then bif x4 then some (#[42]:Array UInt8).toList else some (#[]:Array UInt8).toList else bif decide (result=1)then some (#[49,45,48]:Array UInt8).toList else bif decide (result=-1)then some (#[48,45,49]:Array UInt8).toList else bif x4 then some (#[49,47,50,45,49,47,50]:Array UInt8).toList else some (#[]:Array UInt8).toList
def Cm(R:List UInt8):V:=.str R
def DH(_R:List UInt8):List O:=[]
def EX:CF
 |[.int .i64 result_0,.bool ended_0],[]=>retC true (rTxt result_0 ended_0) [] Cm DH
 |_,_=>none
theorem Gv(result:Int)(ended:Bool){r}(hr:rTxt result ended=some r):aK (GGx kCa kDb) PP 25 [.int .i64 result,Bb ended] [] (Cm r) (DH r):=by
 have hE:=cutE (aA (kCa:=kCa) (kDb:=kDb) (cts:=[]) (inl:=[]) trivial trivial)
 refine cE hE 2 Tryz.func25 rfl rfl Cm DH hr ?_ rfl rfl
 refine aE hE 2 rfl ?_ ?_
 ·refine aE hE 2 rfl ?_ ?_
  ·exact aM (aL [] (.inr rfl) rfl rfl rfl rfl rfl)
  exact aM (aL [] (.inr rfl) rfl rfl rfl rfl rfl)
 refine aE hE 2 rfl ?_ ?_
 ·exact aM (aL [] (.inr rfl) rfl rfl rfl rfl rfl)
 refine aE hE 2 rfl ?_ ?_
 ·exact aM (aL [] (.inr rfl) rfl rfl rfl rfl rfl)
 refine aE hE 2 rfl ?_ ?_
 ·exact aM (aL [] (.inr rfl) rfl rfl rfl rfl rfl)
 exact aM (aL [] (.inr rfl) rfl rfl rfl rfl rfl)
theorem Ck:CtOk (GGx kCa kDb) PP (25,EX):=by
 refine aD Tryz.func25 (by kernel_rfl) rfl fun a0 h0 c0 v0 N0 e hc=>?_
 unfold EX at e
 split at e
 ·rename_i result_0 ended_0
  obtain⟨hl,r,hr,rfl,rfl⟩:=bH e hc
  exact Gv result_0 ended_0 hr
 ·cases e
end
end Go.Ab
namespace Go.Ab
open Go.Proofs
def resW(bl:Bool)(x:Int):Int×Bool:=bif decide (x=2) then(bif bl then 1 else -1,true)else bif decide (x=3) then(0,true) else(0,false)
def eRes(p:Psn):Option (Int×Bool×Int):=cm (eeOf (Psn.mk p.f p.r (List.take p.zs.length (List.drop 0 p.zs)) p.bl p.ca p.pa p.ha p.fu)) (0,0) fun y=>bif !decide (y.2=0)then some (0,false,y.2)else some ((resW p.bl y.1).1,(resW p.bl y.1).2,0)
theorem NL(x:Int)(w:World)(b:Bool):(Instr.checkKey b 10000 29 (.int .i64 x)).run PP w=.ok () w:=by kernel_rfl
theorem Km:PP.underlying 72=some (.map 29 3):=by kernel_rfl
theorem Hz:PP.underlying 29=some (.int .i64):=by kernel_rfl
theorem LP(w:World):(zeroValue 3).run PP w=.ok (.int .i64 0) w:=by kernel_rfl
theorem pW{x:Int}{uk:Value}(h:∀ ρ,VR ρ (I x) uk):uk=.int .i64 x:=h fun _=>none
theorem BG{x:Int}{uk:Value}(h:∀ ρ,VR ρ (I x) uk):Bh PP 72 29 uk:=by
 rw[pW h]
 exact⟨⟨_,Km⟩,fun w b=>NL x w b⟩
def resM(bl:Bool):Mp:=[(I 2,I (bif bl then 1 else -1)),(I 3,I 0)]
theorem xZ{bl:Bool}{x:Int}{l:List MapEntry}(hl:fU (resM bl) l)(w:World) :
  (do let y <-Instr.findKey 29 (.int .i64 x) l;match y with|some (_,v)=>pure (v,true)|none=>pure (<-zeroValue 3,false):Sem (Value×Bool)).run PP w=.ok (.int .i64 (resW bl x).1,(resW bl x).2) w:=by
 have h1:=lY (zs:=[(2,I (bif bl then 1 else -1)),(3,I 0)]) Hz (x:=x) hl w
 obtain⟨e0,l0,rfl,_,v0,e1,l1,rfl,_,v1,hl1⟩:=hl
 have hl1:l1=[]:=hl1
 subst hl1
 have v0:e0.val=.int .i64 (bif bl then 1 else -1):=v0 fun _=>none
 have v1:e1.val=.int .i64 0:=v1 fun _=>none
 rw[Sem.run_bind,h1,Result.andThen_ok]
 unfold resW
 simp only[List.map_cons,List.map_nil]
 cases decide (x=2) with
 |true=>simp only[eV,cond_true,v0];rfl
 |false=>
 cases decide (x=3) with
 |true=>simp only[eV,cond_true,cond_false,v1];rfl
 |false=>simp only[eV,cond_false,Sem.run_bind,LP,Result.andThen_ok];rfl
theorem BK{l:List MapEntry}(hl:fU (resM true) l):∃ e,l[0]?=some e/\e.key=.int .i64 2/\Instr.sameBits 10000 (.int .i64 2) (.int .i64 2)=true/\∀ w,(Instr.findKey 29 (.int .i64 2) l).run PP w=.ok (some (0,e.val)) w:=by
 have h1:=fun w=>lY (zs:=[(2,I 1),(3,I 0)]) Hz (x:=2) hl w
 obtain⟨e0,l0,rfl,k0,v0,e1,l1,rfl,_,v1,hl1⟩:=hl
 exact⟨e0,rfl,k0 fun _=>none,by kernel_rfl,fun w=>(h1 w).trans rfl⟩
def Iv(R:Int×Bool×Int):V:=.tup [.int .i64 R.1,.bool R.2.1,.int .i64 R.2.2]
def IV(_:Int×Bool×Int):List O:=[]
theorem HL(p:Psn){r}(hr:eRes p=some r):aK (GGx true true) PP 11 [.agg [.int .i64 p.f,.int .i64 p.r,.sl 0 0 p.zs.length none,Bb p.bl,.int .u8 p.ca,.int .i64 p.pa,.int .i64 p.ha,.int .i64 p.fu]] [.ints false .i8 p.zs] (Iv r) (IV r):=by
 have hE:=aA (kCa:=true) (kDb:=true) (cts:=[(10,uX)]) (inl:=[]) ⟨mY,trivial⟩ trivial
 refine mO hE (fn:=Tryz.f11) Tryz.func11 rfl rfl fun n B S w0 ρ0=>?_
 unfold eRes cm be at hr
 obtain⟨o,ho⟩:∃ o,o=eeOf (Psn.mk p.f p.r (List.take p.zs.length (List.drop 0 p.zs)) p.bl p.ca p.pa p.ha p.fu):=⟨_,rfl⟩
 rw[<-ho]at hr
 cases hs:o.isSome with
 |false=>rw[hs]at hr;cases hr
 |true=>
 rw[hs,cond_true]at hr
 dsimp only at hr
 refine YM.seq (YM.seg hE 2 ?_)
 refine ag ?_
 refine YM.seq (YM.seg hE 2 ?_)
 refine ae (pl (decide_eq_true (aQ rfl)) (fun _=>by rw[<-ho];exact hs) hs) ?_
 refine ag ?_
 refine YM.seq (YM.seg hE 2 ?_)
 refine av (fun h=>ag ?_) (fun h=>ag ?_)
 ·rw[<-ho]at h ⊢
  rw[h,cond_true]at hr
  cases hr
  exact⟨_,_,Ent.refl _ _ _,aL [] (.inr rfl) rfl rfl rfl rfl rfl⟩
 rw[<-ho]at h ⊢
 rw[h,cond_false]at hr
 cases hr
 refine YM.seq (YM.region ?_)
 refine YO.make rfl rfl rfl rfl rfl rfl ?_
 refine YO.insert (kt:=29) (K:=I 2) (X:=I 1) (.inl rfl) rfl rfl rfl rfl rfl rfl (fun uk hk=>⟨BG hk,fun l hl w=>?_⟩) ?_
 ·rw[pW hk];exact lY (zs:=[]) Hz hl w
 refine YO.insert (kt:=29) (K:=I 3) (X:=I 0) (.inl rfl) rfl rfl rfl rfl rfl rfl (fun uk hk=>⟨BG hk,fun l hl w=>?_⟩) ?_
 ·rw[pW hk];exact(lY (zs:=[(2,I 1)]) Hz hl w).trans (by rw[gq rfl])
 refine YO.seg hE 2 [_,_] [] rfl ?_
 refine ag ?_
 refine YO.nil ?_
 refine YM.seq (YM.seq (YM.seg hE 2 ?_))
 refine ag ?_
 refine(YM.cond (b:=!p.bl) rfl (fun hb=>?_) (fun hb=>?_))
 ·have hb:p.bl=false:=by simpa using hb
  refine YM.region ?_
  refine YO.seg hE 2 [_] [_] rfl ?_
  refine ag ?_
  refine YO.update (kt:=29) (i:=0) (K:=I 2) (X:=I (-1)) rfl rfl rfl rfl rfl rfl rfl (fun uk hk=>⟨BG hk,fun l hl=>?_⟩) rfl ?_
  ·rw[pW hk];exact BK hl
  refine YO.nil ?_
  refine YM.seq (YM.region ?_)
  refine YO.seg hE 2 [_,_] [_,_,_,_,_,_] rfl ?_
  refine ag ?_
  refine YO.lookup (kt:=29) (K:=I (o.getD (0,0)).1) (v:=.tup [I (resW p.bl (o.getD (0,0)).1).1,.bool (resW p.bl (o.getD (0,0)).1).2]) rfl rfl rfl rfl rfl (by rw[ho];rfl) rfl (fun uk hk=>⟨BG hk,fun l hl=>⟨3,.int .i64 (resW p.bl (o.getD (0,0)).1).1,(resW p.bl (o.getD (0,0)).1).2,Km,fun w=>?_,fun ρ=>⟨_,rfl,_,_,rfl,rfl,_,_,rfl,rfl,rfl⟩⟩⟩) ?_
  ·rw[pW hk,hb];exact xZ (bl:=false) hl w
  refine YO.seg hE 2 [_,_,_,_,_] [] rfl ?_
  refine ag ?_
  refine YO.nil ?_
  refine YM.seg hE 2 ?_
  refine ag ?_
  exact⟨_,_,Ent.refl _ _ _,aL [] (.inr rfl) rfl rfl rfl rfl rfl⟩
 ·have hb:p.bl=true:=by simpa using hb
  refine YM.seg hE 2 ?_
  refine ag ?_
  refine YM.seq (YM.region ?_)
  refine YO.seg hE 2 [_,_] [_,_,_,_,_,_] rfl ?_
  refine ag ?_
  refine YO.lookup (kt:=29) (K:=I (o.getD (0,0)).1) (v:=.tup [I (resW p.bl (o.getD (0,0)).1).1,.bool (resW p.bl (o.getD (0,0)).1).2]) rfl rfl rfl rfl rfl (by rw[ho];rfl) rfl (fun uk hk=>⟨BG hk,fun l hl=>⟨3,.int .i64 (resW p.bl (o.getD (0,0)).1).1,(resW p.bl (o.getD (0,0)).1).2,Km,fun w=>?_,fun ρ=>⟨_,rfl,_,_,rfl,rfl,_,_,rfl,rfl,rfl⟩⟩⟩) ?_
  ·rw[pW hk,hb];exact xZ (bl:=true) hl w
  refine YO.seg hE 2 [_,_,_,_,_] [] rfl ?_
  refine ag ?_
  refine YO.nil ?_
  refine YM.seg hE 2 ?_
  refine ag ?_
  exact⟨_,_,Ent.refl _ _ _,aL [] (.inr rfl) rfl rfl rfl rfl rfl⟩
def yC:CF
 |[.agg [.int .i64 p_0,.int .i64 p_1,.sl 0 0 p_2n none,.bool p_3,.int .u8 p_4,.int .i64 p_5,.int .i64 p_6,.int .i64 p_7]],[.ints false .i8 p_2]=>retC (decide (p_2n=p_2.length)) (eRes ⟨p_0,p_1,p_2,p_3,p_4,p_5,p_6,p_7⟩) (0,false,0) Iv IV
 |_,_=>none
theorem tJ:CtOk (GGx true true) PP (11,yC):=by
 refine aD Tryz.func11 (by kernel_rfl) rfl fun a0 h0 c0 v0 N0 e hc=>?_
 unfold yC at e
 split at e
 ·rename_i p_0 p_1 p_2n p_3 p_4 p_5 p_6 p_7 p_2
  obtain⟨hl,r,hr,rfl,rfl⟩:=bH e hc
  simp only[Bool.and_eq_true,decide_eq_true_eq]at hl
  obtain rfl:=hl
  exact HL ⟨p_0,p_1,p_2,p_3,p_4,p_5,p_6,p_7⟩ hr
 ·cases e
end Go.Ab
namespace Go.Ab
open IntKind
open Go.Proofs
section
variable{kCa kDb:Bool}
def Mx:List Int->Int->Int->Option (Int ⊕ Unit ⊕ Bool):=fun(g:List Int) (x s6:Int)=>let x13:=decide (s6<Int.ofNat g.length);bif x13 then be (decide (0<=s6)&&x13) (bif decide (x=g.getD s6.toNat 0)then escO (escO (some true))else some (Sum.inl (i64.wrap (s6+1))))else some (Sum.inr (Sum.inl ()))
def has(g:List Int)(x:Int):Option (Bool):=cR (Mx g x) (fun(_s11:Unit)=>some false) 1000000 0
def KL(R:Bool):V:=Bb R
def Ln(_R:Bool):List O:=[]
def GJ:CF
 |[.sl 0 0 g_0n none,.int .i64 x_0],[.ints false .i64 g_0]=>retC (decide (g_0n=g_0.length)) (has g_0 x_0) false KL Ln
 |_,_=>none
theorem Ks(g:List Int)(x:Int){r}(hr:has g x=some r):aK (GGx kCa kDb) PP 44 [.sl 0 0 g.length none,.int .i64 x] [.ints false .i64 g] (KL r) (Ln r):=by
 have hE:=cutE (aA (kCa:=kCa) (kDb:=kDb) (cts:=[]) (inl:=[]) trivial trivial)
 refine cE hE 2 Tryz.func44 rfl rfl KL Ln hr ?_ rfl rfl
 refine da hE 2 (fun(s6:Int)=>([(1,I x),(4,Bb false),(7,V.sl 0 0 g.length none),(8,I (Int.ofNat g.length)),(9,I s6)],[O.ints false i64 g])) (fun(s11:Unit)=>([(4,Bb false)],[O.ints false i64 g])) (.exit 0) ((Ent.rn [0] [1,4,7,8,9] rfl rfl rfl rfl rfl)) (fun s6=>?_) (fun s11=>?_)
 ·refine aE hE 2 rfl ?_ ?_
  ·refine bP ?_
   refine aE hE 2 rfl ?_ ?_
   ·refine pH (by simp) (kM ?_)
    exact aM (aL [] (.inr rfl) rfl rfl rfl rfl rfl)
   exact cX ((Ent.rn [0] [1,4,7,8,9] rfl rfl rfl rfl rfl))
  exact cJ ((Ent.rn [0] [4] rfl rfl rfl rfl rfl))
 exact aM (aL [] (.inr rfl) rfl rfl rfl rfl rfl)
theorem yn:CtOk (GGx kCa kDb) PP (44,GJ):=by
 refine aD Tryz.func44 (by kernel_rfl) rfl fun a0 h0 c0 v0 N0 e hc=>?_
 unfold GJ at e
 split at e
 ·rename_i g_0n x_0 g_0
  obtain⟨hl,r,hr,rfl,rfl⟩:=bH e hc
  simp only[decide_eq_true_eq]at hl
  obtain rfl:=hl
  exact Ks g_0 x_0 hr
 ·cases e
def CG:Mov×Psn->List (List Int)->Option (List (List Int) ⊕ List (List Int) ⊕ List (List Int)×Int):=fun(e1:Mov×Psn) (s8:List (List Int))=>let x19:=(s8.length+1)*24;cm (eOf (Psn.mk e1.2.f e1.2.r (List.take e1.2.zs.length (List.drop 0 e1.2.zs)) e1.2.bl e1.2.ca e1.2.pa e1.2.ha e1.2.fu)) 0 fun(y9:Int)=>cm (has (List.take 1 (List.drop 0 (iL [2]))) y9) false fun(y10:Bool)=>dz (bif y10 then be (decide (x19<=140737488355328)) (some (Sum.inl (s8++List.take 1 (List.drop 0 [iL [e1.1.a,e1.1.b,e1.1.p]]))))else some (Sum.inl s8)) fun(s12:List (List Int))=>some (Sum.inl s12)
def eMt(p:Psn):Option (List (List Int)×Int):=let x27:=List.take p.zs.length (List.drop 0 p.zs);let x25:=Psn.mk p.f p.r x27 p.bl p.ca p.pa p.ha p.fu;let x26:=x27.length;let x24:=decide (x26<=64);be x24 (bif !x25.ok then some ([],2)else be x24 (be (afOk x25) (dN CG (fun(s8:List (List Int))=>some (s8,0)) (fun(_s8:List (List Int))=>none) (afLs x25) [])))
def Jo(R:List (List Int)×Int):V:=.tup [.sl 1 0 R.1.length none,.int .i64 R.2]
def JG(R:List (List Int)×Int):List O:=[.rows true [.i64,.i64,.i8] R.1]
def LN:CF
 |[.agg [.int .i64 p_0,.int .i64 p_1,.sl 0 0 p_2n none,.bool p_3,.int .u8 p_4,.int .i64 p_5,.int .i64 p_6,.int .i64 p_7]],[.ints false .i8 p_2]=>retC (decide (p_2n=p_2.length)) (eMt ⟨p_0,p_1,p_2,p_3,p_4,p_5,p_6,p_7⟩) ([],0) Jo JG
 |_,_=>none
theorem LO(p:Psn){r}(hr:eMt p=some r):aK (GGx true true) PP 16 [.agg [.int .i64 p.f,.int .i64 p.r,.sl 0 0 p.zs.length none,Bb p.bl,.int .u8 p.ca,.int .i64 p.pa,.int .i64 p.ha,.int .i64 p.fu]] [.ints false .i8 p.zs] (Jo r) (JG r):=by
 have hE:=cutE (aA (kCa:=true) (kDb:=true) (cts:=[(33,dZ),(34,EH),(44,GJ),(60,ny)]) (inl:=[(45,Tryz.f45),(30,Tryz.f30)]) ⟨cM,qB,yn,ke,trivial⟩ ⟨⟨Tryz.func45,by kernel_rfl⟩,⟨Tryz.func30,by kernel_rfl⟩,trivial⟩)
 refine cE hE 3 Tryz.func16 rfl rfl Jo JG hr ?_ rfl rfl
 refine cN (pl (decide_eq_true (aQ rfl)) id) ?_
 refine aE hE 3 rfl ?_ ?_
 ·exact aM (nE 2 (.rows true [.i64,.i64,.i8] []) rfl rfl rfl<|aL [5] (.inr rfl) rfl rfl rfl rfl rfl)
 refine cN (pl (decide_eq_true (aQ rfl)) id) ?_
 refine IG (fun qr91319=>?_)
 refine uF hE 3 9 (let x31:=[Bb p.bl,V.int u8 p.ca,I p.pa,I p.ha,I p.fu];let x32:=List.take p.zs.length (List.drop 0 p.zs);let x30:=I p.f::I p.r::V.sl 0 0 p.zs.length none::x31;fun(s8:List (List Int))=>[O.ints false i8 p.zs,O.cells true x30,O.ints true i64 (iL [2]),O.cells true x30,O.cells true [V.fn (BM+44) [V.sl 2 0 1 none]],O.cells true [V.sl 9 0 s8.length none],O.cells true (I p.f::I p.r::V.sl 7 0 x32.length none::x31),O.ints true i8 x32,O.gone,O.rows true [i64,i64,i8] s8]) (let x35:=[Bb p.bl,V.int u8 p.ca,I p.pa,I p.ha,I p.fu];let x36:=List.take p.zs.length (List.drop 0 p.zs);let x34:=I p.f::I p.r::V.sl 0 0 p.zs.length none::x35;fun(s8:List (List Int))=>[O.ints false i8 p.zs,O.cells true x34,O.ints true i64 (iL [2]),O.cells true x34,O.cells true [V.fn (BM+44) [V.sl 2 0 1 none]],O.cells true [V.sl 9 0 s8.length none],O.cells true (I p.f::I p.r::V.sl 7 0 x36.length none::x35),O.ints true i8 x36,O.gone,O.rows true [i64,i64,i8] s8]) 0 (afLs (Psn.mk p.f p.r (List.take p.zs.length (List.drop 0 p.zs)) p.bl p.ca p.pa p.ha p.fu)) Be afNs (HT (Psn.mk p.f p.r (List.take p.zs.length (List.drop 0 p.zs)) p.bl p.ca p.pa p.ha p.fu)) (afHc (Psn.mk p.f p.r (List.take p.zs.length (List.drop 0 p.zs)) p.bl p.ca p.pa p.ha p.fu)) KJ 8 (let x38:=(Psn.mk p.f p.r (List.take p.zs.length (List.drop 0 p.zs)) p.bl p.ca p.pa p.ha p.fu).ok;fun(e1:Mov×Psn) (s8:List (List Int))=>(8,V.ptr 13 0 0)::(7,V.ptr 12 0 0)::putPs (#[14,15]:Array Nat).toList [V.agg [I e1.1.a,I e1.1.b,V.int i8 e1.1.p],V.agg [I e1.2.f,I e1.2.r,V.sl 11 0 e1.2.zs.length none,Bb e1.2.bl,V.int u8 e1.2.ca,I e1.2.pa,I e1.2.ha,I e1.2.fu]] [(1,V.fn (BM+44) [V.sl 2 0 1 none]),(2,V.ptr 3 0 0),(3,V.ptr 4 0 0),(4,V.nils),(5,I 0),(6,V.ptr 5 0 0),(9,V.agg [I p.f,I p.r,V.sl 0 0 p.zs.length none,Bb p.bl,V.int u8 p.ca,I p.pa,I p.ha,I p.fu]),(10,Bb x38),(11,Bb !x38),(13,V.fn 61 [V.ptr 6 0 0])]) _ [6,7] [1,2,3,4,5,6,9,10,11,13] ((Ent.gap rfl rfl).trans ((Ent.rn [0,1,2,3,4,5,8,7,9] [1,2,3,4,5,6,9,10,11,13] rfl rfl rfl rfl rfl).trans ((Ent.phC 5 0 (O.rows true [i64,i64,i8] []) rfl rfl rfl rfl rfl).trans (Ent.rn [0,1,2,3,4,5,6,7,8,9] [1,2,3,4,5,6,9,10,11,13] rfl rfl rfl rfl rfl)))) (IK _ qr91319) (fun _=>⟨rfl,Nat.le_of_ble_eq_true rfl⟩) (ent Tryz.func61 (by kernel_rfl) rfl) rfl rfl rfl rfl rfl rfl rfl rfl rfl rfl rfl rfl (fun _=>(jx rfl rfl rfl rfl rfl rfl rfl rfl)) (fun _=>(jx rfl rfl rfl rfl rfl rfl rfl rfl)) (fun _ _=>rfl) (fun e1 s8=>?_) (fun s8=>?_) (fun s8=>ox)
 ·refine ak rfl ?_
  first|unfold CG|unfold Ec
  refine aP (pl (decide_eq_true (aQ rfl)) id) ?_
  refine aP (pl rfl id) ?_
  refine cH hE 3 (let x42:=[Bb p.bl,V.int u8 p.ca,I p.pa,I p.ha,I p.fu];let x43:=List.take p.zs.length (List.drop 0 p.zs);let x41:=I p.f::I p.r::V.sl 0 0 p.zs.length none::x42;fun(s12:List (List Int))=>([],[O.ints false i8 p.zs,O.cells true x41,O.ints true i64 (iL [2]),O.cells true x41,O.cells true [V.fn (BM+44) [V.sl 2 0 1 none]],O.cells true [V.sl 9 0 s12.length none],O.cells true (I p.f::I p.r::V.sl 7 0 x43.length none::x42),O.ints true i8 x43,O.rows true [i64,i64,i8] (afL (Psn.mk p.f p.r x43 p.bl p.ca p.pa p.ha p.fu)),O.rows true [i64,i64,i8] s12])) rfl ?_ ?_ (fun s12=>?_)
  ·refine cN (pr (pl (decide_eq_true rfl) id) rfl) ?_
   exact bK ((Ent.rn [0,1,2,3,4,5,6,7,8,15] [] rfl rfl rfl rfl rfl))
  ·exact bK ((Ent.rn [0,1,2,3,4,5,6,7,8,9] [] rfl rfl rfl rfl rfl))
  exact tS ((Ent.rn [0,1,2,3,4,5,6,7,8,9] [] rfl rfl rfl rfl rfl)) rfl
 exact aM (aL [9] (.inr rfl) rfl rfl rfl rfl rfl)
theorem HJ:CtOk (GGx true true) PP (16,LN):=by
 refine aD Tryz.func16 (by kernel_rfl) rfl fun a0 h0 c0 v0 N0 e hc=>?_
 unfold LN at e
 split at e
 ·rename_i p_0 p_1 p_2n p_3 p_4 p_5 p_6 p_7 p_2
  obtain⟨hl,r,hr,rfl,rfl⟩:=bH e hc
  simp only[decide_eq_true_eq]at hl
  obtain rfl:=hl
  exact LO ⟨p_0,p_1,p_2,p_3,p_4,p_5,p_6,p_7⟩ hr
 ·cases e
def Ec:Mov×Psn->List (List Int)->Option (List (List Int) ⊕ List (List Int) ⊕ List (List Int)×Int):=fun(e1:Mov×Psn) (s8:List (List Int))=>let x19:=(s8.length+1)*24;cm (eOf (Psn.mk e1.2.f e1.2.r (List.take e1.2.zs.length (List.drop 0 e1.2.zs)) e1.2.bl e1.2.ca e1.2.pa e1.2.ha e1.2.fu)) 0 fun(y9:Int)=>cm (has (List.take 2 (List.drop 0 (iL [1,2]))) y9) false fun(y10:Bool)=>dz (bif y10 then be (decide (x19<=140737488355328)) (some (Sum.inl (s8++List.take 1 (List.drop 0 [iL [e1.1.a,e1.1.b,e1.1.p]]))))else some (Sum.inl s8)) fun(s12:List (List Int))=>some (Sum.inl s12)
def eCk(p:Psn):Option (List (List Int)×Int):=let x27:=List.take p.zs.length (List.drop 0 p.zs);let x25:=Psn.mk p.f p.r x27 p.bl p.ca p.pa p.ha p.fu;let x26:=x27.length;let x24:=decide (x26<=64);be x24 (bif !x25.ok then some ([],2)else be x24 (be (afOk x25) (dN Ec (fun(s8:List (List Int))=>some (s8,0)) (fun(_s8:List (List Int))=>none) (afLs x25) [])))
def Kq(R:List (List Int)×Int):V:=.tup [.sl 1 0 R.1.length none,.int .i64 R.2]
def Js(R:List (List Int)×Int):List O:=[.rows true [.i64,.i64,.i8] R.1]
def Lj:CF
 |[.agg [.int .i64 p_0,.int .i64 p_1,.sl 0 0 p_2n none,.bool p_3,.int .u8 p_4,.int .i64 p_5,.int .i64 p_6,.int .i64 p_7]],[.ints false .i8 p_2]=>retC (decide (p_2n=p_2.length)) (eCk ⟨p_0,p_1,p_2,p_3,p_4,p_5,p_6,p_7⟩) ([],0) Kq Js
 |_,_=>none
theorem Ky(p:Psn){r}(hr:eCk p=some r):aK (GGx true true) PP 17 [.agg [.int .i64 p.f,.int .i64 p.r,.sl 0 0 p.zs.length none,Bb p.bl,.int .u8 p.ca,.int .i64 p.pa,.int .i64 p.ha,.int .i64 p.fu]] [.ints false .i8 p.zs] (Kq r) (Js r):=by
 have hE:=cutE (aA (kCa:=true) (kDb:=true) (cts:=[(33,dZ),(34,EH),(44,GJ),(60,ny)]) (inl:=[(45,Tryz.f45),(30,Tryz.f30)]) ⟨cM,qB,yn,ke,trivial⟩ ⟨⟨Tryz.func45,by kernel_rfl⟩,⟨Tryz.func30,by kernel_rfl⟩,trivial⟩)
 refine cE hE 3 Tryz.func17 rfl rfl Kq Js hr ?_ rfl rfl
 refine cN (pl (decide_eq_true (aQ rfl)) id) ?_
 refine aE hE 3 rfl ?_ ?_
 ·exact aM (nE 2 (.rows true [.i64,.i64,.i8] []) rfl rfl rfl<|aL [5] (.inr rfl) rfl rfl rfl rfl rfl)
 refine cN (pl (decide_eq_true (aQ rfl)) id) ?_
 refine IG (fun qr38762=>?_)
 refine uF hE 3 9 (let x31:=[Bb p.bl,V.int u8 p.ca,I p.pa,I p.ha,I p.fu];let x32:=List.take p.zs.length (List.drop 0 p.zs);let x30:=I p.f::I p.r::V.sl 0 0 p.zs.length none::x31;fun(s8:List (List Int))=>[O.ints false i8 p.zs,O.cells true x30,O.ints true i64 (iL [1,2]),O.cells true x30,O.cells true [V.fn (BM+44) [V.sl 2 0 2 none]],O.cells true [V.sl 9 0 s8.length none],O.cells true (I p.f::I p.r::V.sl 7 0 x32.length none::x31),O.ints true i8 x32,O.gone,O.rows true [i64,i64,i8] s8]) (let x35:=[Bb p.bl,V.int u8 p.ca,I p.pa,I p.ha,I p.fu];let x36:=List.take p.zs.length (List.drop 0 p.zs);let x34:=I p.f::I p.r::V.sl 0 0 p.zs.length none::x35;fun(s8:List (List Int))=>[O.ints false i8 p.zs,O.cells true x34,O.ints true i64 (iL [1,2]),O.cells true x34,O.cells true [V.fn (BM+44) [V.sl 2 0 2 none]],O.cells true [V.sl 9 0 s8.length none],O.cells true (I p.f::I p.r::V.sl 7 0 x36.length none::x35),O.ints true i8 x36,O.gone,O.rows true [i64,i64,i8] s8]) 0 (afLs (Psn.mk p.f p.r (List.take p.zs.length (List.drop 0 p.zs)) p.bl p.ca p.pa p.ha p.fu)) Be afNs (HT (Psn.mk p.f p.r (List.take p.zs.length (List.drop 0 p.zs)) p.bl p.ca p.pa p.ha p.fu)) (afHc (Psn.mk p.f p.r (List.take p.zs.length (List.drop 0 p.zs)) p.bl p.ca p.pa p.ha p.fu)) KJ 8 (let x38:=(Psn.mk p.f p.r (List.take p.zs.length (List.drop 0 p.zs)) p.bl p.ca p.pa p.ha p.fu).ok;fun(e1:Mov×Psn) (s8:List (List Int))=>(8,V.ptr 13 0 0)::(7,V.ptr 12 0 0)::putPs (#[14,15]:Array Nat).toList [V.agg [I e1.1.a,I e1.1.b,V.int i8 e1.1.p],V.agg [I e1.2.f,I e1.2.r,V.sl 11 0 e1.2.zs.length none,Bb e1.2.bl,V.int u8 e1.2.ca,I e1.2.pa,I e1.2.ha,I e1.2.fu]] [(1,V.fn (BM+44) [V.sl 2 0 2 none]),(2,V.ptr 3 0 0),(3,V.ptr 4 0 0),(4,V.nils),(5,I 0),(6,V.ptr 5 0 0),(9,V.agg [I p.f,I p.r,V.sl 0 0 p.zs.length none,Bb p.bl,V.int u8 p.ca,I p.pa,I p.ha,I p.fu]),(10,Bb x38),(11,Bb !x38),(13,V.fn 61 [V.ptr 6 0 0])]) _ [6,7] [1,2,3,4,5,6,9,10,11,13] ((Ent.gap rfl rfl).trans ((Ent.rn [0,1,2,3,4,5,8,7,9] [1,2,3,4,5,6,9,10,11,13] rfl rfl rfl rfl rfl).trans ((Ent.phC 5 0 (O.rows true [i64,i64,i8] []) rfl rfl rfl rfl rfl).trans (Ent.rn [0,1,2,3,4,5,6,7,8,9] [1,2,3,4,5,6,9,10,11,13] rfl rfl rfl rfl rfl)))) (IK _ qr38762) (fun _=>⟨rfl,Nat.le_of_ble_eq_true rfl⟩) (ent Tryz.func61 (by kernel_rfl) rfl) rfl rfl rfl rfl rfl rfl rfl rfl rfl rfl rfl rfl (fun _=>(jx rfl rfl rfl rfl rfl rfl rfl rfl)) (fun _=>(jx rfl rfl rfl rfl rfl rfl rfl rfl)) (fun _ _=>rfl) (fun e1 s8=>?_) (fun s8=>?_) (fun s8=>ox)
 ·refine ak rfl ?_
  first|unfold CG|unfold Ec
  refine aP (pl (decide_eq_true (aQ rfl)) id) ?_
  refine aP (pl rfl id) ?_
  refine cH hE 3 (let x42:=[Bb p.bl,V.int u8 p.ca,I p.pa,I p.ha,I p.fu];let x43:=List.take p.zs.length (List.drop 0 p.zs);let x41:=I p.f::I p.r::V.sl 0 0 p.zs.length none::x42;fun(s12:List (List Int))=>([],[O.ints false i8 p.zs,O.cells true x41,O.ints true i64 (iL [1,2]),O.cells true x41,O.cells true [V.fn (BM+44) [V.sl 2 0 2 none]],O.cells true [V.sl 9 0 s12.length none],O.cells true (I p.f::I p.r::V.sl 7 0 x43.length none::x42),O.ints true i8 x43,O.rows true [i64,i64,i8] (afL (Psn.mk p.f p.r x43 p.bl p.ca p.pa p.ha p.fu)),O.rows true [i64,i64,i8] s12])) rfl ?_ ?_ (fun s12=>?_)
  ·refine cN (pr (pl (decide_eq_true rfl) id) rfl) ?_
   exact bK ((Ent.rn [0,1,2,3,4,5,6,7,8,15] [] rfl rfl rfl rfl rfl))
  ·exact bK ((Ent.rn [0,1,2,3,4,5,6,7,8,9] [] rfl rfl rfl rfl rfl))
  exact tS ((Ent.rn [0,1,2,3,4,5,6,7,8,9] [] rfl rfl rfl rfl rfl)) rfl
 exact aM (aL [9] (.inr rfl) rfl rfl rfl rfl rfl)
theorem Gm:CtOk (GGx true true) PP (17,Lj):=by
 refine aD Tryz.func17 (by kernel_rfl) rfl fun a0 h0 c0 v0 N0 e hc=>?_
 unfold Lj at e
 split at e
 ·rename_i p_0 p_1 p_2n p_3 p_4 p_5 p_6 p_7 p_2
  obtain⟨hl,r,hr,rfl,rfl⟩:=bH e hc
  simp only[decide_eq_true_eq]at hl
  obtain rfl:=hl
  exact Ky ⟨p_0,p_1,p_2,p_3,p_4,p_5,p_6,p_7⟩ hr
 ·cases e
end
end Go.Ab
namespace Go.Ab
open Go.Proofs
section
variable{kCa kDb:Bool}
def kx:Nat->Int|0=>0|1=>-1|2=>0|_=>1
def kb:Nat->Bool|0=>false|_=>true
def kt:Nat->List UInt8|0=>[42]|1=>[48,45,49]|2=>[49,47,50,45,49,47,50]|_=>[49,45,48]
def keyV(j:Nat):Value:=.agg #[.int .i64 (kx j),.bool (kb j)]
theorem lt4{j:Nat}(h:j<4):j=0\/j=1\/j=2\/j=3:=by omega
theorem Mi{j i:Nat}(hj:j<4)(hi:i<4)(w:World):(Op.equal 102 (keyV j) (keyV i)).run PP w=.ok (Nat.beq j i) w:=by
 rcases lt4 hj with rfl|rfl|rfl|rfl<;>rcases lt4 hi with rfl|rfl|rfl|rfl<;>kernel_rfl
structure EOk(e:MapEntry):Prop where
 lt:e.born<4
 key:e.key=keyV e.born
 val:e.val=.string ⟨(kt e.born).toArray⟩
structure LOk(l:List MapEntry):Prop where
 all:∀ e∈l,EOk e
 nd:(l.map (·.born)).Nodup
theorem tI{j:Nat}(hj:j<4):∀ (l:List MapEntry) (i:Nat),(∀ e∈l,EOk e)->(∃ e∈l,e.born=j)->∃ k x,(∀ w,(Instr.findAsking 102 (keyV j) l i).run PP w=.ok (some (i+k,x)) w)/\∃ e,l[k]?=some e/\e.born=j
 |[],_,_,⟨e,he,_⟩=>by simp at he
 |e::l,i,h,hx=>by
  have h1:=h e (by simp)
  have he:∀ w,(Op.equal 102 (keyV j) e.key).run PP w=.ok (Nat.beq j e.born) w:=fun w=>by rw[h1.key];exact Mi hj h1.lt w
  cases hb:Nat.beq j e.born with
  |true=>
   rw[hb]at he
   exact⟨0,e.val,fun w=>by simp only[Instr.findAsking,Sem.run_bind,he,Result.andThen_ok,if_true];rfl,e,rfl,(Nat.eq_of_beq_eq_true hb).symm⟩
  |false=>
   rw[hb]at he
   have hne:e.born≠j:=fun q=>Nat.ne_of_beq_eq_false hb q.symm
   obtain⟨k,x,q1,e',q2,q3⟩:=tI hj l (i+1) (fun e he=>h e (by simp[he])) (by
    obtain⟨e',m1,m2⟩:=hx
    rcases List.mem_cons.1 m1 with rfl|m1
    ·exact absurd m2 hne
    ·exact⟨e',m1,m2⟩)
   refine⟨k+1,x,fun w=>?_,e',by simpa using q2,q3⟩
   have:i+(k+1)=i+1+k:=by omega
   rw[this,<-q1 w]
   simp only[Instr.findAsking,Sem.run_bind,he,Result.andThen_ok,Bool.false_eq_true,if_false]
theorem LOk.erase{l:List MapEntry}(h:LOk l){k j:Nat}{e:MapEntry}(hk:l[k]?=some e)(hj:e.born=j):LOk (l.eraseIdx k)/\(∀ x∈l.eraseIdx k,x∈l/\x.born≠j)/\∀ x∈l,x.born≠j->x∈l.eraseIdx k:=by
 have hsub:∀ x∈l.eraseIdx k,x∈l:=fun x hx=>List.mem_of_mem_eraseIdx hx
 refine⟨⟨fun x hx=>h.all x (hsub x hx),?_⟩,fun x hx=>⟨hsub x hx,fun hb=>?_⟩,fun x hx hb=>?_⟩
 ·exact h.nd.sublist ((List.eraseIdx_sublist l k).map _)
 ·obtain⟨i,hi,hik⟩:=List.mem_eraseIdx_iff_getElem?.1 hx
  have hik':=hik
  obtain⟨i',h1⟩:=List.getElem?_eq_some_iff.1 hik
  obtain⟨k',h2⟩:=List.getElem?_eq_some_iff.1 hk
  have hnd:=h.nd
  have:=(List.getElem?_inj (by simpa using i') hnd (j:=k)).1 (by rw[List.getElem?_map,List.getElem?_map,hik,hk];simp[hb,hj])
  exact hi this
 ·obtain⟨i,hi⟩:=List.mem_iff_getElem?.1 hx
  refine List.mem_eraseIdx_iff_getElem?.2 ⟨i,fun e=>?_,hi⟩
  subst e
  rw[hk]at hi
  cases hi
  exact hb hj
def parse(s:List UInt8):Int×Bool×Int:=bif decide (s=kt 0) then(kx 0,kb 0,0)else bif decide (s=kt 1) then(kx 1,kb 1,0)else bif decide (s=kt 2) then(kx 2,kb 2,0)else bif decide (s=kt 3) then(kx 3,kb 3,0) else(0,false,6)
theorem FN{j:Nat}(hj:j<4):parse (kt j)=(kx j,kb j,0):=by
 rcases lt4 hj with rfl|rfl|rfl|rfl<;>rfl
theorem pD{s:List UInt8}(h:∀ i,i<4->kt i≠s):parse s=(0,false,6):=by
 unfold parse
 rw[decide_eq_false (fun e=>h 0 (by decide) e.symm),decide_eq_false (fun e=>h 1 (by decide) e.symm),decide_eq_false (fun e=>h 2 (by decide) e.symm),decide_eq_false (fun e=>h 3 (by decide) e.symm)]
 rfl
def yw(seen:Array Nat):Nat:=(bif seen.contains 0 then 0 else 1)+(bif seen.contains 1 then 0 else 1)+(bif seen.contains 2 then 0 else 1)+(bif seen.contains 3 then 0 else 1)
theorem oC{seen:Array Nat}{j:Nat}(hj:j<4)(h:seen.contains j=false):yw (seen.push j)<yw seen:=by
 unfold yw
 simp only[Array.contains_push]
 rcases lt4 hj with rfl|rfl|rfl|rfl<;>rw[h]<;>cases seen.contains 0<;>cases seen.contains 1<;>cases seen.contains 2<;>cases seen.contains 3<;>decide
theorem Gb{l:Array MapEntry}{c:Nat}(h:fU txE l.toList)(hc:StO l c):LOk l.toList/\c=4/\∀ i,i<4->∃ e∈l.toList,e.born=i:=by
 obtain⟨e0,l0,q0,k0,v0,e1,l1,rfl,k1,v1,e2,l2,rfl,k2,v2,e3,l3,rfl,k3,v3,hl3⟩:=h
 have hl3:l3=[]:=hl3
 subst hl3
 obtain⟨c1,c2⟩:=hc
 have hs:l.size=4:=by rw[<-Array.length_toList,q0];rfl
 rw[hs,q0]at c2
 simp only[List.map_cons,List.map_nil]at c2
 rw[show List.range 4=[0,1,2,3]from rfl]at c2
 simp only[List.cons.injEq,and_true]at c2
 obtain⟨b0,b1,b2,b3⟩:=c2
 have k0:=hH (k0:∀ ρ,VR ρ (.agg [I 0,.bool false]) e0.key)
 have k1:=hH (k1:∀ ρ,VR ρ (.agg [I (-1),.bool true]) e1.key)
 have k2:=hH (k2:∀ ρ,VR ρ (.agg [I 0,.bool true]) e2.key)
 have k3:=hH (k3:∀ ρ,VR ρ (.agg [I 1,.bool true]) e3.key)
 have v0:e0.val=.string ⟨(kt 0).toArray⟩:=v0 fun _=>none
 have v1:e1.val=.string ⟨(kt 1).toArray⟩:=v1 fun _=>none
 have v2:e2.val=.string ⟨(kt 2).toArray⟩:=v2 fun _=>none
 have v3:e3.val=.string ⟨(kt 3).toArray⟩:=v3 fun _=>none
 refine⟨⟨?_,?_⟩,by rw[c1,hs],?_⟩
 ·rw[q0]
  intro e he
  simp only[List.mem_cons,List.not_mem_nil,or_false]at he
  rcases he with rfl|rfl|rfl|rfl
  ·exact⟨by rw[b0];decide,by rw[b0];exact k0,by rw[b0];exact v0⟩
  ·exact⟨by rw[b1];decide,by rw[b1];exact k1,by rw[b1];exact v1⟩
  ·exact⟨by rw[b2];decide,by rw[b2];exact k2,by rw[b2];exact v2⟩
  ·exact⟨by rw[b3];decide,by rw[b3];exact k3,by rw[b3];exact v3⟩
 ·rw[q0]
  simp only[List.map_cons,List.map_nil,b0,b1,b2,b3]
  decide
 ·rw[q0]
  intro i hi
  rcases lt4 hi with rfl|rfl|rfl|rfl
  ·exact⟨e0,by simp,b0⟩
  ·exact⟨e1,by simp,b1⟩
  ·exact⟨e2,by simp,b2⟩
  ·exact⟨e3,by simp,b3⟩
structure PI(s:List UInt8)(l:Array MapEntry)(seen:Array Nat):Prop where
 ok:LOk l.toList
 keep:∀ i,i<4->kt i=s->∃ e∈l.toList,e.born=i
 done:∀ e∈l.toList,seen.contains e.born=true->kt e.born=s
def Mg(R:Int×Bool×Int):V:=.tup [.int .i64 R.1,.bool R.2.1,.int .i64 R.2.2]
theorem Kf(s:List UInt8):aK (GGx kCa kDb) PP 26 [.str s] [] (Mg (parse s)) []:=by
 have hE:=aA (kCa:=kCa) (kDb:=kDb) (cts:=[]) (inl:=[]) trivial trivial
 refine Cd hE (fn:=Tryz.f26) Tryz.func26 rfl rfl fun n B S w0 ρ0=>?_
 refine ZM.seq (ZM.seg hE 2 ?_)
 refine ag ?_
 refine ZM.seq (ZM.region ?_)
 refine ZO.callM rfl rfl rfl (ent Tryz.func56 (by kernel_rfl) rfl) tc rfl rfl rfl rfl fun l0 c hl0 hc0=>?_
 obtain⟨hok,rfl,hall⟩:=Gb hl0 hc0
 refine ZO.seg hE 2 [_] [] rfl ?_
 refine ag ?_
 refine ZO.nil ?_
 refine ZM.seqX (fun μ' mp' tm' hp'=>μ'=2/\∃ l seen,mp'=some ⟨0,l,4,some (1,4,seen,4)⟩/\PI s l seen/\(∀ e∈l.toList,kt e.born=s)/\Ent (EE kCa kDb [] []).G 2 tm' hp' [(0,.str s),(5,.yl 0)] [.gone,.gone]) ?_ ?_
 ·refine ZM.seq (ZM.region ?_)
  refine ZO.seg hE 2 [_] [_] rfl ?_
  refine ag ?_
  refine ZO.range (kt:=102) (et:=9) rfl rfl rfl rfl rfl sK rfl ?_
  refine ZO.nil ?_
  refine ZM.block (ZM.loop (fun x:Array MapEntry×Array Nat=>(some ⟨0,x.1,4,some (1,4,x.2,4)⟩,[(0,.str s),(5,.yl 0),(11,.ptr 1 0 0)],[.gone,.gone])) (fun x=>PI s x.1 x.2) (fun x=>yw x.2) (l0,#[]) rfl ?_ ?_ ?_)
  ·exact Ent.ren [0,1] [0,5,11] rfl rfl rfl
  ·exact⟨hok,fun i hi _=>hall i hi,fun e _ h=>by simp at h⟩
  rintro⟨l,seen⟩ hI
  dsimp only at hI ⊢
  refine ZM.seq (ZM.region ?_)
  refine ZO.next (KV:=fun e=>(.agg [I (kx e.born),.bool (kb e.born)],.str (kt e.born))) rfl rfl rfl rfl rfl rfl (fun x hx=>(hI.ok.all x hx).lt) (Nat.le_refl 4) (fun e he=>⟨fun ρ=>?_,fun ρ=>?_⟩) (fun h0=>?_) (fun e he=>?_)
  ·rw[(hI.ok.all e he).key];exact⟨_,rfl,_,_,rfl,rfl,_,_,rfl,rfl,rfl⟩
  ·exact(hI.ok.all e he).val
  ·refine ZO.seg hE 2 [_] [] rfl ?_
   refine ag ?_
   refine ZO.nil ?_
   refine ZM.seg hE 2 ?_
   refine ag ⟨rfl,l,seen,rfl,hI,fun e he=>hI.done e he ?_,Ent.ren [0,1] [0,5] rfl rfl rfl⟩
   refine Decidable.byContradiction fun hne=>?_
   have hm:e∈(leftOf l seen).toList:=by
    unfold leftOf
    simp only[Array.toList_filter,List.mem_filter,he,true_and,Bool.not_eq_true']
    simpa using hne
   rw[<-Array.length_toList]at h0
   rw[List.length_eq_zero_iff.1 h0]at hm
   cases hm
  ·obtain⟨hel,hns⟩:=mem_left he
   have heo:=hI.ok.all e hel
   refine ZO.seg hE 2 [_] [] rfl ?_
   refine ag ?_
   refine ZO.nil ?_
   refine ZM.seq (ZM.seg hE 2 ?_)
   refine ag ?_
   refine ZM.block (ZM.seq (ZM.region ?_))
   refine ZO.entry (e:=e) (K:=.agg [I (kx e.born),.bool (kb e.born)]) (X:=.str (kt e.born)) rfl rfl rfl rfl rfl rfl hel hI.ok.nd (fun ρ=>?_) (fun ρ=>heo.val) ?_
   ·rw[heo.key];exact⟨_,rfl,_,_,rfl,rfl,_,_,rfl,rfl,rfl⟩
   refine ZO.seg hE 2 [_,_,_,_,_] [] rfl ?_
   refine ag ?_
   refine ZO.nil ?_
   refine ZM.seq (ZM.seg hE 2 ?_)
   refine ag ?_
   refine ZM.cond (b:=!(kt e.born==s)) rfl (fun hb=>?_) (fun hb=>?_)
   ·have hb:kt e.born≠s:=by simpa using hb
    obtain⟨k,x,q1,e',q2,q3⟩:=tI heo.lt l.toList 0 hI.ok.all ⟨e,hel,rfl⟩
    obtain⟨w1,w2,w3⟩:=hI.ok.erase q2 q3
    refine ZM.region ?_
    refine ZO.seg hE 2 [_,_] [_] rfl ?_
    refine ag ?_
    refine ZO.delete (kt:=102) (i:=k) (K:=.agg [I (kx e.born),.bool (kb e.born)]) rfl rfl rfl rfl rfl rfl (fun uk hk=>⟨ij hk,x,fun w=>?_⟩) ?_
    ·rw[run_findKey_eq w kq,hH hk]
     exact(q1 w).trans (by rw[Nat.zero_add])
    refine ZO.nil ⟨rfl,(l.eraseIdxIfInBounds k,seen.push e.born),⟨?_,fun i hi ht=>?_,fun x hx hs=>?_⟩,oC heo.lt hns,rfl,?_⟩
    ·simpa using w1
    ·obtain⟨x,x1,x2⟩:=hI.keep i hi ht
     refine⟨x,?_,x2⟩
     have:=w3 x x1 (fun e2=>hb (by rw[<-e2,x2];exact ht))
     simpa using this
    ·have hx:x∈l.toList.eraseIdx k:=by simpa using hx
     obtain⟨y1,y2⟩:=w2 x hx
     refine hI.done x y1 ?_
     rw[Array.contains_push]at hs
     simpa[y2]using hs
    ·exact Ent.ren [0,1] [0,5,11] rfl rfl rfl
   ·have hb:kt e.born=s:=by simpa using hb
    refine ZM.seg hE 2 ?_
    refine ag ⟨rfl,(l,seen.push e.born),⟨hI.ok,hI.keep,fun x hx hs=>?_⟩,oC heo.lt hns,rfl,Ent.ren [0,1] [0,5,11] rfl rfl rfl⟩
    rw[Array.contains_push]at hs
    rcases Bool.or_eq_true_iff.1 hs with hs|hs
    ·exact hI.done x hx hs
    ·rw[show x.born=e.born by simpa using hs];exact hb
 ·rintro _ _ tm' hp' ⟨rfl,l,seen,rfl,hI,hall2,hent⟩
  refine ZM.ent hent ?_
  refine ZM.seqX (fun μ' mp' tm' hp'=>(∀ i,i<4->kt i≠s)) ?_ ?_
  ·refine ZM.seq (ZM.region ?_)
   refine ZO.seg hE 2 [_] [_] rfl ?_
   refine ag ?_
   refine ZO.range (kt:=102) (et:=9) rfl rfl rfl rfl rfl sK rfl ?_
   refine ZO.nil ?_
   refine ZM.block (ZM.loop (fun _:Unit=>(some ⟨0,l,4,some (2,4,#[],4)⟩,[(0,.str s),(5,.yl 0),(23,.ptr 2 0 0)],[.gone,.gone,.gone])) (fun _=>True) (fun _=>0) () rfl ?_ trivial ?_)
   ·exact Ent.ren [0,1,2] [0,5,23] rfl rfl rfl
   rintro _ _
   dsimp only
   refine ZM.seq (ZM.region ?_)
   refine ZO.next (KV:=fun e=>(.agg [I (kx e.born),.bool (kb e.born)],.str (kt e.born))) rfl rfl rfl rfl rfl rfl (fun x hx=>(hI.ok.all x hx).lt) (Nat.le_refl 4) (fun e he=>⟨fun ρ=>?_,fun ρ=>?_⟩) (fun h0=>?_) (fun e he=>?_)
   ·rw[(hI.ok.all e he).key];exact⟨_,rfl,_,_,rfl,rfl,_,_,rfl,rfl,rfl⟩
   ·exact(hI.ok.all e he).val
   ·refine ZO.seg hE 2 [_] [] rfl ?_
    refine ag ?_
    refine ZO.nil ?_
    refine ZM.seg hE 2 ?_
    refine ag fun i hi ht=>?_
    obtain⟨e,he,hb⟩:=hI.keep i hi ht
    have hm:e∈(leftOf l #[]).toList:=by
     unfold leftOf
     simp only[Array.toList_filter,List.mem_filter,he,true_and]
     simp
    rw[<-Array.length_toList]at h0
    rw[List.length_eq_zero_iff.1 h0]at hm
    cases hm
   ·obtain⟨hel,hns⟩:=mem_left he
    have heo:=hI.ok.all e hel
    refine ZO.seg hE 2 [_] [] rfl ?_
    refine ag ?_
    refine ZO.nil ?_
    refine ZM.seq (ZM.seg hE 2 ?_)
    refine ag ?_
    refine ZM.block (ZM.seq (ZM.region ?_))
    refine ZO.entry (seen:=#[]) (e:=e) (K:=.agg [I (kx e.born),.bool (kb e.born)]) (X:=.str (kt e.born)) rfl rfl rfl rfl rfl rfl hel hI.ok.nd (fun ρ=>?_) (fun ρ=>heo.val) ?_
    ·rw[heo.key];exact⟨_,rfl,_,_,rfl,rfl,_,_,rfl,rfl,rfl⟩
    refine ZO.seg hE 2 [_,_,_] [] rfl ?_
    refine ag ?_
    refine ZO.nil ?_
    refine ZM.seg hE 2 ?_
    refine ae rfl ?_
    refine ag ?_
    rw[<-hall2 e hel,FN heo.lt]
    exact⟨_,_,Ent.refl _ _ _,aL [] (.inr rfl) rfl rfl rfl rfl rfl⟩
  ·rintro μ' mp' tm' hp' hno
   refine ZM.seg hE 2 ?_
   refine ag ?_
   rw[pD hno]
   exact⟨_,_,Ent.refl _ _ _,aL [] (.inr rfl) rfl rfl rfl rfl rfl⟩
def Ic:CF
 |[.str s],[]=>some (true,Mg (parse s),[])
 |_,_=>none
theorem zx:CtOk (GGx kCa kDb) PP (26,Ic):=by
 refine aD Tryz.func26 (by kernel_rfl) rfl fun a0 h0 c0 v0 N0 e hc=>?_
 unfold Ic at e
 split at e
 ·cases e;exact Kf _
 ·cases e
end
noncomputable abbrev Ea:Env:=EE true true [(12,ju),(124,nu),(125,tw),(29,um),(178,gS),(158,ri),(123,vR)] []
theorem HZ:Ea.Fn PP:=aA ⟨iO,ku,nj,ic,gI,xb,zY,trivial⟩ trivial
noncomputable abbrev xsa:List (FuncId×Func):=[(31,Tryz.f31),(64,Tryz.f64),(119,Tryz.f119),(122,Tryz.f122),(121,Tryz.f121),(120,Tryz.f120),(158,Tryz.f158),(32,Tryz.f32),(65,Tryz.f65),(84,Tryz.f84),(132,Tryz.f132)]
theorem tf:tj PP xsa:=⟨⟨Tryz.func31,by kernel_rfl⟩,⟨Tryz.func64,by kernel_rfl⟩,⟨Tryz.func119,by kernel_rfl⟩,⟨Tryz.func122,by kernel_rfl⟩,⟨Tryz.func121,by kernel_rfl⟩,⟨Tryz.func120,by kernel_rfl⟩,⟨Tryz.func158,by kernel_rfl⟩,⟨Tryz.func32,by kernel_rfl⟩,⟨Tryz.func65,by kernel_rfl⟩,⟨Tryz.func84,by kernel_rfl⟩,⟨Tryz.func132,by kernel_rfl⟩,trivial⟩
def JC:List UInt8:=[51,120,51,32,107,50,47,49,81,49,47,75,50,32,98,32,45,32,45,32,48,32,49]
def Nl:V×List O:=(.agg [I 3,I 3,.sl 0 0 9 none,.lit true,.int .u8 0,I (-1),I 0,I 1],[.ints true .i8 [6,0,0,0,5,0,-6,0,0]])
theorem NT:oJ { Ea with pf:=oo Ea xsa 1000 8,cc:=true } 3 1000 Tryz.f31 [.str JC] []=some Nl:=by kernel_rfl
def JH:List UInt8:=[51,120,51,32,107,50,47,50,81,47,49,75,49,32,98,32,45,32,45,32,48,32,49]
def Nt:V×List O:=(.agg [I 3,I 3,.sl 0 0 9 none,.lit true,.int .u8 0,I (-1),I 0,I 1],[.ints true .i8 [0,6,0,0,0,5,-6,0,0]])
theorem Nx:oJ { Ea with pf:=oo Ea xsa 1000 8,cc:=true } 3 1000 Tryz.f31 [.str JH] []=some Nt:=by kernel_rfl
def KT:List UInt8:=[51,120,51,32,107,81,49,47,51,47,75,50,32,98,32,45,32,45,32,48,32,49]
def LV:V×List O:=(.agg [I 3,I 3,.sl 0 0 9 none,.lit true,.int .u8 0,I (-1),I 0,I 1],[.ints true .i8 [6,0,0,0,0,0,-6,5,0]])
theorem NM:oJ { Ea with pf:=oo Ea xsa 1000 8,cc:=true } 3 1000 Tryz.f31 [.str KT] []=some LV:=by kernel_rfl
def KM:List UInt8:=[51,120,51,32,107,50,47,50,81,47,75,50,32,119,32,45,32,45,32,48,32,49]
def Nr:V×List O:=(.agg [I 3,I 3,.sl 0 0 9 none,.lit false,.int .u8 0,I (-1),I 0,I 1],[.ints true .i8 [6,0,0,0,0,5,-6,0,0]])
theorem NJ:oJ { Ea with pf:=oo Ea xsa 1000 8,cc:=true } 3 1000 Tryz.f31 [.str KM] []=some Nr:=by kernel_rfl
def polT(s:List UInt8):Option (V×List O):=if s=JC then some Nl else if s=JH then some Nt else if s=KT then some LV else if s=KM then some Nr else none
theorem Lq{s:List UInt8}{x:V×List O}(h:polT s=some x):aK (GGx true true) PP 31 [.str s] [] x.1 x.2:=by
 unfold polT at h
 by_cases e0:s=JC
 ·rw[if_pos e0]at h;cases h;subst e0;exact pP HZ tf 1000 8 Tryz.func31 NT
 rw[if_neg e0]at h
 by_cases e1:s=JH
 ·rw[if_pos e1]at h;cases h;subst e1;exact pP HZ tf 1000 8 Tryz.func31 Nx
 rw[if_neg e1]at h
 by_cases e2:s=KT
 ·rw[if_pos e2]at h;cases h;subst e2;exact pP HZ tf 1000 8 Tryz.func31 NM
 rw[if_neg e2]at h
 by_cases e3:s=KM
 ·rw[if_pos e3]at h;cases h;subst e3;exact pP HZ tf 1000 8 Tryz.func31 NJ
 rw[if_neg e3]at h
 cases h
def wO:CF
 |[.str s],[]=>match polT s with
  |some x=>some (true,x.1,x.2)
  |none=>none
 |_,_=>none
theorem Ag:CtOk (GGx true true) PP (31,wO):=by
 refine aD Tryz.func31 (by kernel_rfl) rfl fun a0 h0 c0 v0 N0 e hc=>?_
 unfold wO at e
 split at e
 ·split at e
  ·rename_i h
   cases e
   exact Lq h
  ·cases e
 ·cases e
noncomputable abbrev Eb:Env:=EE true true [(10,uX),(11,yC),(21,Gk),(16,LN),(17,Lj),(24,qN),(26,Ic),(31,wO),(125,tw),(178,gS),(101,eK),(146,c_vs)] []
theorem NS:Eb.Fn PP:=aA ⟨mY,tJ,xW,HJ,Gm,oV,zx,Ag,nj,gI,cS,kX,trivial⟩ trivial
theorem NN:oJ { Eb with pf:=oo Eb xsa 1000 8,cc:=true } 3 1000 Tryz.f9 [] []=some (.lit true,[]):=by kernel_rfl
def gH:CF
 |[],[]=>some (true,.bool true,[])
 |_,_=>none
theorem gC:CtOk (GGx true true) PP (9,gH):=by
 refine aD Tryz.func9 (by kernel_rfl) rfl fun a0 h0 c0 v0 N0 e hc=>?_
 unfold gH at e
 split at e
 ·cases e
  exact aK.like (pP NS tf 1000 8 Tryz.func9 NN) (fun _ _ h=>h)
 ·cases e
section
variable{kCa kDb:Bool}
def GK(p:Psn):Option (Bool):=let x8:=List.take p.zs.length (List.drop 0 p.zs);let x6:=Psn.mk p.f p.r x8 p.bl p.ca p.pa p.ha p.fu;let x7:=x8.length;cm (kL x6) false fun(y1:Bool)=>bif !y1 then some true else cm (eeOf x6) (0,0) fun(y2:Int×Int)=>cm (eRes x6) (0,false,0) fun(y3:Int×Bool×Int)=>be (decide (x7<=64)) (bif !lN x6 then some (decide (y2.1=0)&&decide (y2.2=2)&&decide (y3.1=0)&&!y3.2.1&&decide (y3.2.2=2)&&true)else cm (rRes x6) (0,false) fun(y4:Int×Bool)=>cm (rEnd x6) 0 fun(y5:Int)=>some (decide (y2.1=y5)&&decide (y2.2=0)&&decide (y3.1=y4.1)&&y3.2.1==y4.2&&decide (y3.2.2=0)&&true))
def Ce(R:Bool):V:=Bb R
def Ed(_R:Bool):List O:=[]
theorem CQ(p:Psn){r}(hr:GK p=some r):aK (GGx true true) PP 3 [.agg [.int .i64 p.f,.int .i64 p.r,.sl 0 0 p.zs.length none,Bb p.bl,.int .u8 p.ca,.int .i64 p.pa,.int .i64 p.ha,.int .i64 p.fu]] [.ints false .i8 p.zs] (Ce r) (Ed r):=by
 have hE:=cutE (aA (kCa:=true) (kDb:=true) (cts:=[(8,jc),(9,gH),(10,uX),(11,yC),(12,ju),(13,Co),(14,yu)]) (inl:=[]) ⟨lE,gC,mY,tJ,iO,CP,vb,trivial⟩ trivial)
 refine cE hE 2 Tryz.func3 rfl rfl Ce Ed hr ?_ rfl rfl
 unfold GK
 refine aP (pl (decide_eq_true (aQ rfl)) id) ?_
 refine aE hE 2 rfl ?_ ?_
 ·refine ak rfl ?_
  exact aM (aL [] (.inr rfl) rfl rfl rfl rfl rfl)
 refine aP (pl (decide_eq_true (aQ rfl)) id) ?_
 refine aP (pl (decide_eq_true (aQ rfl)) id) ?_
 refine cN (pl (decide_eq_true (aQ rfl)) id) ?_
 refine aE hE 2 rfl ?_ ?_
 ·refine ak (Bool.not_or_self _) ?_
  refine ak (Bool.not_or_self _) ?_
  refine ak (Bool.not_or_self _) ?_
  refine ak (Bool.not_or_self _) ?_
  refine ak (Bool.not_or_self _) ?_
  refine ak (Bool.not_or_self _) ?_
  refine ak (Bool.not_or_self _) ?_
  refine ak (Bool.not_or_self _) ?_
  refine ak (pg rfl) ?_
  refine ak (Bool.not_or_self _) ?_
  exact aM (aL [] (.inr rfl) rfl rfl rfl rfl rfl)
 refine aP (pl (decide_eq_true (aQ rfl)) id) ?_
 refine aP (pl (decide_eq_true (aQ rfl)) id) ?_
 refine ak (Bool.not_or_self _) ?_
 refine ak (Bool.not_or_self _) ?_
 refine ak (Bool.not_or_self _) ?_
 refine ak (Bool.not_or_self _) ?_
 refine ak (Bool.not_or_self _) ?_
 refine ak (Bool.not_or_self _) ?_
 refine ak (Bool.not_or_self _) ?_
 refine ak (Bool.not_or_self _) ?_
 refine ak (Bool.not_or_self _) ?_
 refine ak (Bool.not_or_self _) ?_
 refine ak (pg rfl) ?_
 refine ak (Bool.not_or_self _) ?_
 exact aM (aL [] (.inr rfl) rfl rfl rfl rfl rfl)
def Hx(p:Psn):Option (Bool):=let x6:=List.take p.zs.length (List.drop 0 p.zs);let x4:=Psn.mk p.f p.r x6 p.bl p.ca p.pa p.ha p.fu;let x5:=x6.length;cm (kL x4) false fun(y1:Bool)=>bif !y1 then some true else cm (eFl x4) (0,0) fun(y2:Int×Int)=>be (decide (x5<=64)) (bif !lN x4 then some (decide (y2.1=0)&&decide (y2.2=2)&&true)else cm (rFl x4) [] fun(y3:List Int)=>let x10:=ofL (List.take y3.length (List.drop 0 y3)) 0;let x11:=(List.take y3.length (List.drop 0 y3)).length;be (decide (x11<=1000000)&&(List.take y3.length (List.drop 0 y3)).all fun(x:Int)=>decide (0<=x)) (some (decide (y2.1=x10)&&decide (y2.2=0)&&true)))
def Cf(R:Bool):V:=Bb R
def Br(_R:Bool):List O:=[]
theorem EN(p:Psn){r}(hr:Hx p=some r):aK (GGx true true) PP 5 [.agg [.int .i64 p.f,.int .i64 p.r,.sl 0 0 p.zs.length none,Bb p.bl,.int .u8 p.ca,.int .i64 p.pa,.int .i64 p.ha,.int .i64 p.fu]] [.ints false .i8 p.zs] (Cf r) (Br r):=by
 have hE:=cutE (aA (kCa:=true) (kDb:=true) (cts:=[(8,jc),(9,gH),(12,ju),(21,Gk),(22,c_Of),(23,Ko)]) (inl:=[]) ⟨lE,gC,iO,xW,Df,GD,trivial⟩ trivial)
 refine cE hE 2 Tryz.func5 rfl rfl Cf Br hr ?_ rfl rfl
 unfold Hx
 refine aP (pl (decide_eq_true (aQ rfl)) id) ?_
 refine aE hE 2 rfl ?_ ?_
 ·refine ak rfl ?_
  exact aM (aL [] (.inr rfl) rfl rfl rfl rfl rfl)
 refine aP (pl (decide_eq_true (aQ rfl)) id) ?_
 refine cN (pl (decide_eq_true (aQ rfl)) id) ?_
 refine aE hE 2 rfl ?_ ?_
 ·refine ak (Bool.not_or_self _) ?_
  refine ak (Bool.not_or_self _) ?_
  refine ak (pg rfl) ?_
  refine ak (Bool.not_or_self _) ?_
  exact aM (aL [] (.inr rfl) rfl rfl rfl rfl rfl)
 refine aP (pl (decide_eq_true (aQ rfl)) id) ?_
 refine cN (pb (pl (decide_eq_true (aQ rfl)) id) id) ?_
 refine ak (Bool.not_or_self _) ?_
 refine ak (Bool.not_or_self _) ?_
 refine ak (pg rfl) ?_
 refine ak (Bool.not_or_self _) ?_
 exact aM (aL [] (.inr rfl) rfl rfl rfl rfl rfl)
def fh:List UInt8->Int->Option (Int ⊕ Unit ⊕ Bool):=fun(s:List UInt8) (s7:Int)=>bif decide (s7<=1)then cm (rTxt s7 true) [] fun(y8:List UInt8)=>bif s==y8 then escO (escO (some (decide ((parse s).fst=s7)&&(parse s).snd.1&&decide ((parse s).snd.2=0)&&true)))else some (Sum.inl (IntKind.i64.wrap (s7+1)))else some (Sum.inr (Sum.inl ()))
def LI(result:Int)(ended:Bool)(s:List UInt8):Option (Bool):=let x17:=decide ((parse s).fst=0)&&!(parse s).snd.1;bif decide (20<Int.ofNat s.length)then some true else cm (rTxt result ended) [] fun(y3:List UInt8)=>dz (bif y3==(#[]:Array UInt8).toList then bif !(eTx result ended).fst==(#[]:Array UInt8).toList||!decide ((eTx result ended).snd=2)then escO (some false)else some (Sum.inl ())else bif !(eTx result ended).fst==y3||!decide ((eTx result ended).snd=0)then escO (some false)else some (Sum.inl ())) fun(_s4:Unit)=>cR (fh s) (fun(_s13:Unit)=>bif s==(#[42]:Array UInt8).toList then some (x17&&decide ((parse s).snd.2=0)&&true)else some (x17&&decide ((parse s).snd.2=6)&&true)) 1000000 (-1)
def Fp(R:Bool):V:=Bb R
def FD(_R:Bool):List O:=[]
theorem CL(result:Int)(ended:Bool)(s:List UInt8){r}(hr:LI result ended s=some r):aK (GGx true true) PP 6 [.int .i64 result,Bb ended,.str s] [] (Fp r) (FD r):=by
 have hE:=cutE (aA (kCa:=true) (kDb:=true) (cts:=[(9,gH),(24,qN),(25,EX),(26,Ic)]) (inl:=[]) ⟨gC,oV,Ck,zx,trivial⟩ trivial)
 refine cE hE 2 Tryz.func6 rfl rfl Fp FD hr ?_ rfl rfl
 refine aE hE 2 rfl ?_ ?_
 ·refine ak rfl ?_
  exact aM (aL [] (.inr rfl) rfl rfl rfl rfl rfl)
 refine ak rfl ?_
 refine aP (pl rfl id) ?_
 refine cH hE 2 (fun(s4:Unit)=>([(2,V.str s),(6,Bb false)],[])) rfl ?_ ?_ (fun s4=>?_)
 ·refine ak (Bool.not_or_self _) ?_
  refine ak (Bool.or_not_self _) ?_
  refine aE hE 2 rfl ?_ ?_
  ·refine ID ?_
   exact aM (aL [] (.inr rfl) rfl rfl rfl rfl rfl)
  exact bK ((Ent.rn [] [2,6] rfl rfl rfl rfl rfl))
 ·refine ak (Bool.not_or_self _) ?_
  refine ak (Bool.or_not_self _) ?_
  refine aE hE 2 rfl ?_ ?_
  ·refine ID ?_
   exact aM (aL [] (.inr rfl) rfl rfl rfl rfl rfl)
  exact bK ((Ent.rn [] [2,6] rfl rfl rfl rfl rfl))
 refine ak rfl ?_
 refine da hE 2 (fun(s7:Int)=>([(2,V.str s),(6,Bb false),(10,I (parse s).fst),(11,Bb (parse s).snd.1),(12,I (parse s).snd.2),(13,I s7)],[])) (fun(s13:Unit)=>([(2,V.str s),(6,Bb false),(10,I (parse s).fst),(11,Bb (parse s).snd.1),(12,I (parse s).snd.2)],[])) (.exit 0) ((Ent.rn [] [2,6,10,11,12,13] rfl rfl rfl rfl rfl)) (fun s7=>?_) (fun s13=>?_)
 ·refine aE hE 2 rfl ?_ ?_
  ·refine aP (pl rfl id) ?_
   refine aE hE 2 rfl ?_ ?_
   ·refine ak (Bool.not_or_self _) ?_
    refine ak (Bool.not_or_self _) ?_
    refine ak (Bool.not_or_self _) ?_
    refine ak (pg rfl) ?_
    refine ak (Bool.not_or_self _) ?_
    refine pH (by simp) (kM ?_)
    exact aM (aL [] (.inr rfl) rfl rfl rfl rfl rfl)
   exact cX ((Ent.rn [] [2,6,10,11,12,13] rfl rfl rfl rfl rfl))
  exact cJ ((Ent.rn [] [2,6,10,11,12] rfl rfl rfl rfl rfl))
 refine aE hE 2 rfl ?_ ?_
 ·refine ak (Bool.not_or_self _) ?_
  refine ak (Bool.not_or_self _) ?_
  refine ak (Bool.not_or_self _) ?_
  refine ak (Bool.not_or_self _) ?_
  refine ak (pg rfl) ?_
  refine ak (Bool.not_or_self _) ?_
  exact aM (aL [] (.inr rfl) rfl rfl rfl rfl rfl)
 refine ak (Bool.not_or_self _) ?_
 refine ak (Bool.not_or_self _) ?_
 refine ak (Bool.not_or_self _) ?_
 refine ak (Bool.not_or_self _) ?_
 refine ak (pg rfl) ?_
 refine ak (Bool.not_or_self _) ?_
 exact aM (aL [] (.inr rfl) rfl rfl rfl rfl rfl)
end
theorem NY(r:Int)(e:Bool)(F:Unit->Option Bool) :
  (cm (rTxt r e) [] fun(y3:List UInt8)=>dz (bif y3==(#[]:Array UInt8).toList then bif !(eTx r e).fst==(#[]:Array UInt8).toList||!decide ((eTx r e).snd=2)then escO (some false)else some (Sum.inl ())else bif !(eTx r e).fst==y3||!decide ((eTx r e).snd=0)then escO (some false)else some (Sum.inl ())) F)=F ():=by
 unfold rTxt eTx txt
 by_cases h0:r=0
 ·subst h0;cases e<;>rfl
 ·by_cases h1:r=1
  ·subst h1;cases e<;>rfl
  ·by_cases h2:r=-1
   ·subst h2;cases e<;>rfl
   ·rw[decide_eq_false h0,decide_eq_false h1,decide_eq_false h2]
    cases e<;>rfl
theorem IL{s t:List UInt8}(h:s≠t):(s==t)=false:=beq_eq_false_iff_ne.2 h
theorem wN{s:List UInt8}{j k:Int}{t:List UInt8}(hj:decide (j<=1)=true)(hw:IntKind.i64.wrap (j+1)=k)(ht:rTxt j true=some t)(h:s≠t):fh s j=some (.inl k):=by
 unfold fh
 rw[hj,cond_true,ht,aO,IL h,cond_false,hw]
theorem ME(s:List UInt8)(F:Unit->Option Bool)(hF:s≠kt 1->s≠kt 2->s≠kt 3->F ()=some true):cR (fh s) F 1000000 (-1)=some true:=by
 by_cases h1:s=kt 1
 ·subst h1
  have:fh (kt 1) (-1)=some (.inr (.inr true)):=by kernel_rfl
  exact jN this
 rw[bC (wN (k:=0) rfl rfl (t:=kt 1) rfl h1)]
 by_cases h2:s=kt 2
 ·subst h2
  have:fh (kt 2) 0=some (.inr (.inr true)):=by kernel_rfl
  exact jN this
 rw[bC (wN (k:=1) rfl rfl (t:=kt 2) rfl h2)]
 by_cases h3:s=kt 3
 ·subst h3
  have:fh (kt 3) 1=some (.inr (.inr true)):=by kernel_rfl
  exact jN this
 rw[bC (wN (k:=2) rfl rfl (t:=kt 3) rfl h3)]
 have:fh s 2=some (.inr (.inl ())):=rfl
 rw[dn this]
 exact hF h1 h2 h3
theorem Av(r:Int)(e:Bool)(s:List UInt8):LI r e s=some true:=by
 unfold LI
 cases decide (20<Int.ofNat s.length) with
 |true=>rfl
 |false=>
  rw[cond_false]
  refine(NY r e _).trans (ME s _ fun h1 h2 h3=>?_)
  by_cases h0:s=kt 0
  ·subst h0;kernel_rfl
  ·have hp:parse s=(0,false,6):=pD fun i hi=>by
    rcases lt4 hi with rfl|rfl|rfl|rfl
    ·exact fun e=>h0 e.symm
    ·exact fun e=>h1 e.symm
    ·exact fun e=>h2 e.symm
    ·exact fun e=>h3 e.symm
   rw[hp,IL (show s≠(#[42]:Array UInt8).toList from h0)]
   rfl
end Go.Ab
