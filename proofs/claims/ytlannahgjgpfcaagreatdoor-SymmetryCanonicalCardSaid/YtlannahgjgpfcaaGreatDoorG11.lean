/- Contracts of the functions that the laws reach, and plain laws of what they compute (text G11); no condition. -/
import Derived.Test.YtlannahgjgpfcaaGreatDoorG10
import Derived.Test.YtlannahgjgpfcaaGreatDoorG8
import Derived.Test.YtlannahgjgpfcaaGreatDoorG7
import Derived.Test.YtlannahgjgpfcaaGreatDoorG4
import Derived.Test.YtlannahgjgpfcaaGreatDoorG9
import Derived.Test.YtlannahgjgpfcaaGreatDoorG3
set_option maxRecDepth 100000
set_option maxHeartbeats 4000000
namespace Go.Ab
open IntKind
open Go.Proofs
section
variable{kCa kDb:Bool}
def ptxt(p:Psn):Option (List UInt8×Int):=let x35:=List.take p.zs.length (List.drop 0 p.zs);let x36:=(#[120]:Array UInt8).toList.length;let x34:=x35.length;aQ (decide (x34<=64)) (bif !(Psn.mk p.f p.r x35 p.bl p.ca p.pa p.ha p.fu).ok then some ((#[]:Array UInt8).toList,2)else bn (cX p.f) [] fun(y3:List UInt8)=>let x39:=y3++(#[120]:Array UInt8).toList;let x38:=x39.length;aQ (decide (y3.length+x36<=4611686018427387904)) (bn (cX p.r) [] fun(y4:List UInt8)=>let x41:=x39++y4;aQ (decide (x38+y4.length<=4611686018427387904)) (bn (pbTx (Bd.mk p.f p.r x35)) ([],0) fun(y5:List UInt8×Int)=>bp (bif p.bl then some (Sum.inl (#[98]:Array UInt8).toList)else some (Sum.inl (#[119]:Array UInt8).toList)) fun(s7:List UInt8)=>bp (bp (bif !decide (band Go.BinOp.and u8 p.ca 1=0)then some (Sum.inl ((#[]:Array UInt8).toList++[75]))else some (Sum.inl (#[]:Array UInt8).toList)) fun(s9:List UInt8)=>some (Sum.inl s9)) fun(s11:List UInt8)=>let x46:=s11.length+[81].length;bp (bp (bif !decide (band Go.BinOp.and u8 p.ca 2=0)then aQ (decide (x46<=4611686018427387904)) (some (Sum.inl (s11++[81])))else some (Sum.inl s11)) fun(s13:List UInt8)=>some (Sum.inl s13)) fun(s15:List UInt8)=>let x49:=s15.length+[107].length;bp (bp (bif !decide (band Go.BinOp.and u8 p.ca 4=0)then aQ (decide (x49<=4611686018427387904)) (some (Sum.inl (s15++[107])))else some (Sum.inl s15)) fun(s17:List UInt8)=>some (Sum.inl s17)) fun(s19:List UInt8)=>let x52:=s19.length+[113].length;bp (bp (bif !decide (band Go.BinOp.and u8 p.ca 8=0)then aQ (decide (x52<=4611686018427387904)) (some (Sum.inl (s19++[113])))else some (Sum.inl s19)) fun(s21:List UInt8)=>some (Sum.inl s21)) fun(s23:List UInt8)=>bp (escO (bp (bif s23==(#[]:Array UInt8).toList then some (Sum.inl (#[45]:Array UInt8).toList)else some (Sum.inl s23)) fun(s25:List UInt8)=>bp (bif decide (0<=p.pa)then bn (zW (Siz.mk p.f p.r) p.pa) ([],0) fun(y26:List UInt8×Int)=>some (Sum.inl y26.1)else some (Sum.inl (#[45]:Array UInt8).toList)) fun(s28:List UInt8)=>bn (cX p.ha) [] fun(y29:List UInt8)=>bn (cX p.fu) [] fun(y30:List UInt8)=>let x63:List (List V):=[[V.str x41],[V.str y5.1],[V.str s7],[V.str s25],[V.str s28],[V.str y29],[V.str y30]];let x62:=x63.length;aQ (decide (7=x62)) (bn (cQ x63 (#[32]:Array UInt8).toList) [] fun(y31:List UInt8)=>some (y31,0)))) fun(_s32:Unit)=>none)))
def EY(R:List UInt8×Int):V:=.tup [.str R.1,.int .i64 R.2]
def Dr(_:List UInt8×Int):List O:=[]
def yO:CF
 |[.agg [.int .i64 p_0,.int .i64 p_1,.sl 0 0 p_2n none,.bool p_3,.int .u8 p_4,.int .i64 p_5,.int .i64 p_6,.int .i64 p_7]],[.ints false .i8 p_2]=>retC (decide (p_2n=p_2.length)) (ptxt ⟨p_0,p_1,p_2,p_3,p_4,p_5,p_6,p_7⟩) ([],0) EY Dr
 |_,_=>none
theorem Ie(p:Psn){r}(hr:ptxt p=some r):ay (GGx kCa kDb) PP 105 [.agg [.int .i64 p.f,.int .i64 p.r,.sl 0 0 p.zs.length none,Bb p.bl,.int .u8 p.ca,.int .i64 p.pa,.int .i64 p.ha,.int .i64 p.fu]] [.ints false .i8 p.zs] (EY r) (Dr r):=by
 have hE:=cutE (aD (kCa:=kCa) (kDb:=kDb) (cts:=[(37,dH),(135,lT),(138,uY),(139,Ce),(140,vT),(165,qk)]) (inl:=[(141,Tryz.f141)]) ⟨cP,mW,Ax,Cz,zQ,pM,trivial⟩ ⟨⟨Tryz.func141,by kernel_rfl⟩,trivial⟩)
 refine cg hE 2 Tryz.func105 rfl rfl EY Dr hr ?_ rfl rfl
 refine fV (pl (decide_eq_true (az rfl)) id) ?_
 refine aR hE 2 rfl ?_ ?_
 ·exact aN (aJ [] (.inr rfl) rfl rfl rfl rfl rfl)
 refine ah rfl ?_
 refine aE (pl rfl id) ?_
 refine aI ?_
 refine aE (pl rfl id) ?_
 refine aI ?_
 refine aE (pl (decide_eq_true (az rfl)) id) ?_
 refine bF hE 2 (fun(s7:List UInt8)=>([(1,V.ptr 1 0 0),(2,V.str (#[]:Array UInt8).toList),(3,I 0),(4,V.str ((cX p.f).getD []++(#[120]:Array UInt8).toList++(cX p.r).getD [])),(5,V.str ((pbTx (Bd.mk p.f p.r (List.take p.zs.length (List.drop 0 p.zs)))).getD ([],0)).fst),(7,V.str s7),(8,V.str (#[]:Array UInt8).toList),(9,V.str (#[45]:Array UInt8).toList)],[O.ints false i8 p.zs,O.cells true [I p.f,I p.r,V.sl 0 0 p.zs.length none,Bb p.bl,V.int u8 p.ca,I p.pa,I p.ha,I p.fu]])) rfl ?_ ?_ (fun s7=>?_)
 ·exact aW ((Ent.rn [0,1] [1,2,3,4,5,7,8,9] rfl rfl rfl rfl rfl))
 ·exact aW ((Ent.rn [0,1] [1,2,3,4,5,7,8,9] rfl rfl rfl rfl rfl))
 refine ah rfl ?_
 refine EK hE 2 5 ?_
 refine ud (let x96:=[I 4,I 7];let x97:=i64.wrap (0+1);fun(s11:List UInt8)=>([(1,V.ptr 1 0 0),(2,V.str (#[]:Array UInt8).toList),(3,I 0),(4,V.str ((cX p.f).getD []++(#[120]:Array UInt8).toList++(cX p.r).getD [])),(5,V.str ((pbTx (Bd.mk p.f p.r (List.take p.zs.length (List.drop 0 p.zs)))).getD ([],0)).fst),(7,V.str s7),(8,V.str s11),(9,V.str (#[45]:Array UInt8).toList),(11,V.ptr 2 0 0),(36,V.agg [V.int u8 1,V.str [75],V.lit false,I 4,I 7,V.int u8 2,V.str [81],V.lit false,I 4,I 0,V.int u8 4,V.str [107],V.lit true,I 60,I 63,V.int u8 8,V.str [113],V.lit true,I 60,I 56]),(37,I x97),(38,Bb (decide (0<4))),(39,V.agg (V.int u8 1::V.str [75]::V.lit false::x96)),(40,V.ptr 1 0 4),(41,V.int u8 p.ca),(42,V.ptr 2 0 0),(43,V.int u8 1),(44,V.int u8 (band Go.BinOp.and u8 p.ca 1)),(45,Bb !decide (band Go.BinOp.and u8 p.ca 1=0)),(50,I x97)],[O.ints false i8 p.zs,O.cells true [I p.f,I p.r,V.sl 0 0 p.zs.length none,Bb p.bl,V.int u8 p.ca,I p.pa,I p.ha,I p.fu],O.cells true (V.int u8 1::V.str [75]::Bb false::x96)])) ?_ (fun s11=>?_)
 ·refine sI hE 2 rfl rfl ?_
  refine ah rfl ?_
  refine bF hE 2 (let x68:=[I 4,I 7];fun(s9:List UInt8)=>([(1,V.ptr 1 0 0),(2,V.str (#[]:Array UInt8).toList),(3,I 0),(4,V.str ((cX p.f).getD []++(#[120]:Array UInt8).toList++(cX p.r).getD [])),(5,V.str ((pbTx (Bd.mk p.f p.r (List.take p.zs.length (List.drop 0 p.zs)))).getD ([],0)).fst),(7,V.str s7),(8,V.str s9),(9,V.str (#[45]:Array UInt8).toList),(11,V.ptr 2 0 0),(36,V.agg [V.int u8 1,V.str [75],V.lit false,I 4,I 7,V.int u8 2,V.str [81],V.lit false,I 4,I 0,V.int u8 4,V.str [107],V.lit true,I 60,I 63,V.int u8 8,V.str [113],V.lit true,I 60,I 56]),(37,I 0),(38,Bb (decide (0<4))),(39,V.agg (V.int u8 1::V.str [75]::V.lit false::x68)),(40,V.ptr 1 0 4),(41,V.int u8 p.ca),(42,V.ptr 2 0 0),(43,V.int u8 1),(44,V.int u8 (band Go.BinOp.and u8 p.ca 1)),(45,Bb !decide (band Go.BinOp.and u8 p.ca 1=0))],[O.ints false i8 p.zs,O.cells true [I p.f,I p.r,V.sl 0 0 p.zs.length none,Bb p.bl,V.int u8 p.ca,I p.pa,I p.ha,I p.fu],O.cells true (V.int u8 1::V.str [75]::Bb false::x68)])) rfl ?_ ?_ (fun s9=>?_)
  ·refine ah rfl ?_
   exact aW ((Ent.rn [0,1,2] [1,2,3,4,5,7,8,9,11,36,37,38,39,40,41,42,43,44,45] rfl rfl rfl rfl rfl))
  ·exact aW ((Ent.rn [0,1,2] [1,2,3,4,5,7,8,9,11,36,37,38,39,40,41,42,43,44,45] rfl rfl rfl rfl rfl))
  exact rm ((Ent.rn [0,1,2] [1,2,3,4,5,7,8,9,11,36,37,38,39,40,41,42,43,44,45,50] rfl rfl rfl rfl rfl))
 refine ud (let x93:=[I 4,I 0];let x94:=i64.wrap (0+1);let x92:=i64.wrap (x94+1);fun(s15:List UInt8)=>([(1,V.ptr 1 0 0),(2,V.str (#[]:Array UInt8).toList),(3,I 0),(4,V.str ((cX p.f).getD []++(#[120]:Array UInt8).toList++(cX p.r).getD [])),(5,V.str ((pbTx (Bd.mk p.f p.r (List.take p.zs.length (List.drop 0 p.zs)))).getD ([],0)).fst),(7,V.str s7),(8,V.str s15),(9,V.str (#[45]:Array UInt8).toList),(11,V.ptr 2 0 0),(36,V.agg [V.int u8 1,V.str [75],V.lit false,I 4,I 7,V.int u8 2,V.str [81],V.lit false,I 4,I 0,V.int u8 4,V.str [107],V.lit true,I 60,I 63,V.int u8 8,V.str [113],V.lit true,I 60,I 56]),(37,I x92),(38,Bb (decide (x94<4))),(39,V.agg (V.int u8 2::V.str [81]::V.lit false::x93)),(40,V.ptr 1 0 4),(41,V.int u8 p.ca),(42,V.ptr 2 0 0),(43,V.int u8 2),(44,V.int u8 (band Go.BinOp.and u8 p.ca 2)),(45,Bb !decide (band Go.BinOp.and u8 p.ca 2=0)),(50,I x92)],[O.ints false i8 p.zs,O.cells true [I p.f,I p.r,V.sl 0 0 p.zs.length none,Bb p.bl,V.int u8 p.ca,I p.pa,I p.ha,I p.fu],O.cells true (V.int u8 2::V.str [81]::Bb false::x93)])) ?_ (fun s15=>?_)
 ·refine sI hE 2 rfl rfl ?_
  refine ah rfl ?_
  refine bF hE 2 (let x70:=[I 4,I 0];let x71:=i64.wrap (0+1);fun(s13:List UInt8)=>([(1,V.ptr 1 0 0),(2,V.str (#[]:Array UInt8).toList),(3,I 0),(4,V.str ((cX p.f).getD []++(#[120]:Array UInt8).toList++(cX p.r).getD [])),(5,V.str ((pbTx (Bd.mk p.f p.r (List.take p.zs.length (List.drop 0 p.zs)))).getD ([],0)).fst),(7,V.str s7),(8,V.str s13),(9,V.str (#[45]:Array UInt8).toList),(11,V.ptr 2 0 0),(36,V.agg [V.int u8 1,V.str [75],V.lit false,I 4,I 7,V.int u8 2,V.str [81],V.lit false,I 4,I 0,V.int u8 4,V.str [107],V.lit true,I 60,I 63,V.int u8 8,V.str [113],V.lit true,I 60,I 56]),(37,I x71),(38,Bb (decide (x71<4))),(39,V.agg (V.int u8 2::V.str [81]::V.lit false::x70)),(40,V.ptr 1 0 4),(41,V.int u8 p.ca),(42,V.ptr 2 0 0),(43,V.int u8 2),(44,V.int u8 (band Go.BinOp.and u8 p.ca 2)),(45,Bb !decide (band Go.BinOp.and u8 p.ca 2=0)),(50,I x71)],[O.ints false i8 p.zs,O.cells true [I p.f,I p.r,V.sl 0 0 p.zs.length none,Bb p.bl,V.int u8 p.ca,I p.pa,I p.ha,I p.fu],O.cells true (V.int u8 2::V.str [81]::Bb false::x70)])) rfl ?_ ?_ (fun s13=>?_)
  ·refine aI ?_
   exact aW ((Ent.rn [0,1,3] [1,2,3,4,5,7,8,9,11,36,37,38,39,40,41,42,43,44,45,50] rfl rfl rfl rfl rfl))
  ·exact aW ((Ent.rn [0,1,3] [1,2,3,4,5,7,8,9,11,36,37,38,39,40,41,42,43,44,45,50] rfl rfl rfl rfl rfl))
  exact rm ((Ent.rn [0,1,2] [1,2,3,4,5,7,8,9,11,36,37,38,39,40,41,42,43,44,45,50] rfl rfl rfl rfl rfl))
 refine ud (let x89:=i64.wrap (i64.wrap (0+1)+1);let x90:=[I 60,I 63];let x88:=i64.wrap (x89+1);fun(s19:List UInt8)=>([(1,V.ptr 1 0 0),(2,V.str (#[]:Array UInt8).toList),(3,I 0),(4,V.str ((cX p.f).getD []++(#[120]:Array UInt8).toList++(cX p.r).getD [])),(5,V.str ((pbTx (Bd.mk p.f p.r (List.take p.zs.length (List.drop 0 p.zs)))).getD ([],0)).fst),(7,V.str s7),(8,V.str s19),(9,V.str (#[45]:Array UInt8).toList),(11,V.ptr 2 0 0),(36,V.agg [V.int u8 1,V.str [75],V.lit false,I 4,I 7,V.int u8 2,V.str [81],V.lit false,I 4,I 0,V.int u8 4,V.str [107],V.lit true,I 60,I 63,V.int u8 8,V.str [113],V.lit true,I 60,I 56]),(37,I x88),(38,Bb (decide (x89<4))),(39,V.agg (V.int u8 4::V.str [107]::V.lit true::x90)),(40,V.ptr 1 0 4),(41,V.int u8 p.ca),(42,V.ptr 2 0 0),(43,V.int u8 4),(44,V.int u8 (band Go.BinOp.and u8 p.ca 4)),(45,Bb !decide (band Go.BinOp.and u8 p.ca 4=0)),(50,I x88)],[O.ints false i8 p.zs,O.cells true [I p.f,I p.r,V.sl 0 0 p.zs.length none,Bb p.bl,V.int u8 p.ca,I p.pa,I p.ha,I p.fu],O.cells true (V.int u8 4::V.str [107]::Bb true::x90)])) ?_ (fun s19=>?_)
 ·refine sI hE 2 rfl rfl ?_
  refine ah rfl ?_
  refine bF hE 2 (let x73:=i64.wrap (i64.wrap (0+1)+1);let x74:=[I 60,I 63];fun(s17:List UInt8)=>([(1,V.ptr 1 0 0),(2,V.str (#[]:Array UInt8).toList),(3,I 0),(4,V.str ((cX p.f).getD []++(#[120]:Array UInt8).toList++(cX p.r).getD [])),(5,V.str ((pbTx (Bd.mk p.f p.r (List.take p.zs.length (List.drop 0 p.zs)))).getD ([],0)).fst),(7,V.str s7),(8,V.str s17),(9,V.str (#[45]:Array UInt8).toList),(11,V.ptr 2 0 0),(36,V.agg [V.int u8 1,V.str [75],V.lit false,I 4,I 7,V.int u8 2,V.str [81],V.lit false,I 4,I 0,V.int u8 4,V.str [107],V.lit true,I 60,I 63,V.int u8 8,V.str [113],V.lit true,I 60,I 56]),(37,I x73),(38,Bb (decide (x73<4))),(39,V.agg (V.int u8 4::V.str [107]::V.lit true::x74)),(40,V.ptr 1 0 4),(41,V.int u8 p.ca),(42,V.ptr 2 0 0),(43,V.int u8 4),(44,V.int u8 (band Go.BinOp.and u8 p.ca 4)),(45,Bb !decide (band Go.BinOp.and u8 p.ca 4=0)),(50,I x73)],[O.ints false i8 p.zs,O.cells true [I p.f,I p.r,V.sl 0 0 p.zs.length none,Bb p.bl,V.int u8 p.ca,I p.pa,I p.ha,I p.fu],O.cells true (V.int u8 4::V.str [107]::Bb true::x74)])) rfl ?_ ?_ (fun s17=>?_)
  ·refine aI ?_
   exact aW ((Ent.rn [0,1,3] [1,2,3,4,5,7,8,9,11,36,37,38,39,40,41,42,43,44,45,50] rfl rfl rfl rfl rfl))
  ·exact aW ((Ent.rn [0,1,3] [1,2,3,4,5,7,8,9,11,36,37,38,39,40,41,42,43,44,45,50] rfl rfl rfl rfl rfl))
  exact rm ((Ent.rn [0,1,2] [1,2,3,4,5,7,8,9,11,36,37,38,39,40,41,42,43,44,45,50] rfl rfl rfl rfl rfl))
 refine ud (let x84:=i64.wrap (i64.wrap (i64.wrap (0+1)+1)+1);let x86:=[I 60,I 56];let x83:=i64.wrap (x84+1);let x85:=V.int u8 8::V.str [113]::V.lit true::x86;fun(s23:List UInt8)=>([(1,V.ptr 1 0 0),(2,V.str (#[]:Array UInt8).toList),(3,I 0),(4,V.str ((cX p.f).getD []++(#[120]:Array UInt8).toList++(cX p.r).getD [])),(5,V.str ((pbTx (Bd.mk p.f p.r (List.take p.zs.length (List.drop 0 p.zs)))).getD ([],0)).fst),(7,V.str s7),(8,V.str s23),(9,V.str (#[45]:Array UInt8).toList),(11,V.ptr 2 0 0),(36,V.agg (V.int u8 1::V.str [75]::V.lit false::I 4::I 7::V.int u8 2::V.str [81]::V.lit false::I 4::I 0::V.int u8 4::V.str [107]::V.lit true::I 60::I 63::x85)),(37,I x83),(38,Bb (decide (x84<4))),(39,V.agg x85),(40,V.ptr 1 0 4),(41,V.int u8 p.ca),(42,V.ptr 2 0 0),(43,V.int u8 8),(44,V.int u8 (band Go.BinOp.and u8 p.ca 8)),(45,Bb !decide (band Go.BinOp.and u8 p.ca 8=0)),(50,I x83)],[O.ints false i8 p.zs,O.cells true [I p.f,I p.r,V.sl 0 0 p.zs.length none,Bb p.bl,V.int u8 p.ca,I p.pa,I p.ha,I p.fu],O.cells true (V.int u8 8::V.str [113]::Bb true::x86)])) ?_ (fun s23=>?_)
 ·refine sI hE 2 rfl rfl ?_
  refine ah rfl ?_
  refine bF hE 2 (let x76:=i64.wrap (i64.wrap (i64.wrap (0+1)+1)+1);let x78:=[I 60,I 56];let x77:=V.int u8 8::V.str [113]::V.lit true::x78;fun(s21:List UInt8)=>([(1,V.ptr 1 0 0),(2,V.str (#[]:Array UInt8).toList),(3,I 0),(4,V.str ((cX p.f).getD []++(#[120]:Array UInt8).toList++(cX p.r).getD [])),(5,V.str ((pbTx (Bd.mk p.f p.r (List.take p.zs.length (List.drop 0 p.zs)))).getD ([],0)).fst),(7,V.str s7),(8,V.str s21),(9,V.str (#[45]:Array UInt8).toList),(11,V.ptr 2 0 0),(36,V.agg (V.int u8 1::V.str [75]::V.lit false::I 4::I 7::V.int u8 2::V.str [81]::V.lit false::I 4::I 0::V.int u8 4::V.str [107]::V.lit true::I 60::I 63::x77)),(37,I x76),(38,Bb (decide (x76<4))),(39,V.agg x77),(40,V.ptr 1 0 4),(41,V.int u8 p.ca),(42,V.ptr 2 0 0),(43,V.int u8 8),(44,V.int u8 (band Go.BinOp.and u8 p.ca 8)),(45,Bb !decide (band Go.BinOp.and u8 p.ca 8=0)),(50,I x76)],[O.ints false i8 p.zs,O.cells true [I p.f,I p.r,V.sl 0 0 p.zs.length none,Bb p.bl,V.int u8 p.ca,I p.pa,I p.ha,I p.fu],O.cells true (V.int u8 8::V.str [113]::Bb true::x78)])) rfl ?_ ?_ (fun s21=>?_)
  ·refine aI ?_
   exact aW ((Ent.rn [0,1,3] [1,2,3,4,5,7,8,9,11,36,37,38,39,40,41,42,43,44,45,50] rfl rfl rfl rfl rfl))
  ·exact aW ((Ent.rn [0,1,3] [1,2,3,4,5,7,8,9,11,36,37,38,39,40,41,42,43,44,45,50] rfl rfl rfl rfl rfl))
  exact rm ((Ent.rn [0,1,2] [1,2,3,4,5,7,8,9,11,36,37,38,39,40,41,42,43,44,45,50] rfl rfl rfl rfl rfl))
 refine ud (fun(s:Unit)=>([],[])) ?_ KY
 refine NN hE 2 rfl rfl ?_
 refine Ke (by simp) ?_
 refine bF hE 2 (fun(s25:List UInt8)=>([(1,V.ptr 1 0 0),(2,V.str (#[]:Array UInt8).toList),(3,I 0),(4,V.str ((cX p.f).getD []++(#[120]:Array UInt8).toList++(cX p.r).getD [])),(5,V.str ((pbTx (Bd.mk p.f p.r (List.take p.zs.length (List.drop 0 p.zs)))).getD ([],0)).fst),(7,V.str s7),(8,V.str s25),(9,V.str (#[45]:Array UInt8).toList)],[O.ints false i8 p.zs,O.cells true [I p.f,I p.r,V.sl 0 0 p.zs.length none,Bb p.bl,V.int u8 p.ca,I p.pa,I p.ha,I p.fu]])) rfl ?_ ?_ (fun s25=>?_)
 ·exact aW ((Ent.rn [0,1] [1,2,3,4,5,7,8,9] rfl rfl rfl rfl rfl))
 ·exact aW ((Ent.rn [0,1] [1,2,3,4,5,7,8,9] rfl rfl rfl rfl rfl))
 refine bF hE 2 (fun(s28:List UInt8)=>([(1,V.ptr 1 0 0),(2,V.str (#[]:Array UInt8).toList),(3,I 0),(4,V.str ((cX p.f).getD []++(#[120]:Array UInt8).toList++(cX p.r).getD [])),(5,V.str ((pbTx (Bd.mk p.f p.r (List.take p.zs.length (List.drop 0 p.zs)))).getD ([],0)).fst),(7,V.str s7),(8,V.str s25),(9,V.str s28)],[O.ints false i8 p.zs,O.cells true [I p.f,I p.r,V.sl 0 0 p.zs.length none,Bb p.bl,V.int u8 p.ca,I p.pa,I p.ha,I p.fu]])) rfl ?_ ?_ (fun s28=>?_)
 ·refine aE (pl rfl id) ?_
  exact aW ((Ent.rn [0,1] [1,2,3,4,5,7,8,9] rfl rfl rfl rfl rfl))
 ·exact aW ((Ent.rn [0,1] [1,2,3,4,5,7,8,9] rfl rfl rfl rfl rfl))
 refine ah rfl ?_
 refine aE (pl rfl id) ?_
 refine aE (pl rfl id) ?_
 refine Nh id ?_
 exact aN (aJ [] (.inr rfl) rfl rfl rfl rfl rfl)
theorem sP:CtOk (GGx kCa kDb) PP (105,yO):=by
 refine aF Tryz.func105 (by kernel_rfl) rfl fun a0 h0 c0 v0 N0 e hc=>?_
 unfold yO at e
 split at e
 ·rename_i p_0 p_1 p_2n p_3 p_4 p_5 p_6 p_7 p_2
  obtain⟨hl,r,hr,rfl,rfl⟩:=bu e hc
  simp only[decide_eq_true_eq]at hl
  obtain rfl:=hl
  exact Ie ⟨p_0,p_1,p_2,p_3,p_4,p_5,p_6,p_7⟩ hr
 ·cases e
end
end Go.Ab
namespace Go.Ab
open Go.Proofs
section
variable{kCa kDb:Bool}
def orCF(c1 c2:CF):CF:=fun a h=>match c1 a h with
 |some x=>some x
 |none=>c2 a h
theorem JF{G:List O}{P:Program}{f:FuncId}{c1 c2:CF}(h1:CtOk G P (f,c1))(h2:CtOk G P (f,c2)):CtOk G P (f,orCF c1 c2):=by
 refine⟨h1.1,fun a h c v N e hc=>?_⟩
 change orCF c1 c2 a h=_ at e
 unfold orCF at e
 split at e
 ·rename_i x hx
  cases e
  exact h1.2 a h c v N hx hc
 ·exact h2.2 a h c v N e hc
end
section
variable{kCa kDb:Bool}
instance:Inhabited Psn:=⟨⟨0,0,[],false,0,0,0,0⟩⟩
def jW:CF
 |[.agg [.int .i64 f,.int .i64 r,.sl 0 0 len none,.bool bl,.int .u8 ca,.int .i64 pa,.int .i64 ha,.int .i64 fu],.agg [.int .i64 f2,.int .i64 r2,.nils,.bool bl2,.int .u8 ca2,.int .i64 pa2,.int .i64 ha2,.int .i64 fu2]],[.ints false .i8 zs]=>some (decide (len=zs.length)&&decide (zs.length<=70),.bool (pL ⟨f,r,zs,bl,ca,pa,ha,fu⟩ ⟨f2,r2,[],bl2,ca2,pa2,ha2,fu2⟩),[])
 |_,_=>none
theorem pZ:CtOk (GGx kCa kDb) PP (16,jW):=by
 refine aF Tryz.func16 (by kernel_rfl) rfl fun a0 h0 c0 v0 N0 e hc=>?_
 unfold jW at e
 split at e
 ·rename_i f r len bl ca pa ha fu f2 r2 bl2 ca2 pa2 ha2 fu2 zs
  cases e
  simp only[Bool.and_eq_true,decide_eq_true_eq]at hc
  obtain⟨rfl,hc2⟩:=hc
  refine ay.nil (args':=[.agg [.int .i64 f,.int .i64 r,.sl 0 0 zs.length none,.bool bl,.int .u8 ca,.int .i64 pa,.int .i64 ha,.int .i64 fu],.agg [.int .i64 f2,.int .i64 r2,.sl 1 0 0 none,.bool bl2,.int .u8 ca2,.int .i64 pa2,.int .i64 ha2,.int .i64 fu2]]) .i8 (aM rfl) ?_ ((kV (kCa:=kCa) (kDb:=kDb)).2 _ _ _ _ _ rfl (by simp[hc2]))
  rintro ρ us h1 ⟨u1,r1,rfl,h2,u2,r2,rfl,⟨ws,rfl,x0,y0,rfl,e0,x1,y1,rfl,e1,x2,y2,rfl,e2,e3⟩,e4⟩
  exact⟨u1,_,rfl,h2,_,_,rfl,⟨_,rfl,x0,_,rfl,e0,x1,_,rfl,e1,x2,_,rfl,Ol h1 e2,e3⟩,e4⟩
 ·cases e
def pE:CF:=orCF mT jW
theorem rG:CtOk (GGx kCa kDb) PP (16,pE):=JF kV pZ
end
end Go.Ab
namespace Go.Ab
open IntKind
open Go.Proofs
section
variable{kCa kDb:Bool}
def rC:Psn->List UInt8×Int->Option (List UInt8×Int ⊕ List UInt8 ⊕ List UInt8):=fun(p:Psn)=>let x31:=(#[75,81,107,113]:Array UInt8).toList;let x30:=Int.ofNat x31.length;fun(s13:List UInt8×Int)=>let x35:=(p.ca.fdiv (2^Min.min s13.2.toNat u8.bits)).tmod 2;let x36:=decide (0<=s13.2);let x37:=i64.wrap (s13.2+1);let x34:=List.take (x37.toNat-s13.2.toNat) (List.drop s13.2.toNat x31);let x33:=s13.1.length+x34.length;bif decide (s13.2<4)then aQ x36 (bp (bif decide (x35=1)then aQ (x36&&decide (s13.2<=x37)&&decide (x37<=x30)) (aQ (decide (x33<=4611686018427387904)) (some (Sum.inl (s13.1++x34))))else some (Sum.inl s13.1)) fun(s15:List UInt8)=>some (Sum.inl (s15,x37)))else some (Sum.inr (Sum.inl s13.1))
def rtxt(p:Psn):Option (List UInt8):=let x43:=(#[32,45]:Array UInt8).toList;let x44:=(#[98,32]:Array UInt8).toList;let x45:=(#[119,32]:Array UInt8).toList;let x46:=(#[45]:Array UInt8).toList.length;let x47:=(#[120]:Array UInt8).toList.length;let x48:=(#[32]:Array UInt8).toList.length;let x40:=x43.length;let x41:=x44.length;let x42:=x45.length;bn (decm p.f) [] fun(y3:List UInt8)=>let x51:=y3++(#[120]:Array UInt8).toList;let x50:=x51.length;aQ (decide (y3.length+x47<=4611686018427387904)) (bn (decm p.r) [] fun(y4:List UInt8)=>let x56:=x51++y4;let x54:=x56++(#[32]:Array UInt8).toList;let x55:=x56.length+x48;let x53:=x54.length;aQ (decide (x50+y4.length<=4611686018427387904)) (aQ (decide (x55<=4611686018427387904)) (bn (Am (Bd.mk p.f p.r (List.take p.zs.length (List.drop 0 p.zs)))) [] fun(y5:List UInt8)=>let x63:=x54++y5;let x61:=x63++(#[32]:Array UInt8).toList;let x62:=x63.length+x48;let x60:=x61.length;let x58:=x60+x42;let x59:=x60+x41;aQ (decide (x53+y5.length<=4611686018427387904)) (aQ (decide (x62<=4611686018427387904)) (bp (bif p.bl then aQ (decide (x59<=4611686018427387904)) (some (Sum.inl (x61++x44)))else aQ (decide (x58<=4611686018427387904)) (some (Sum.inl (x61++x45)))) fun(s7:List UInt8)=>bV (rC p) (fun(s23:List UInt8)=>bp (bif decide (p.ca=0)then aQ (decide (s23.length+x46<=4611686018427387904)) (some (Sum.inl (s23++(#[45]:Array UInt8).toList)))else some (Sum.inl s23)) fun(s25:List UInt8)=>let x68:=s25++(#[32]:Array UInt8).toList;let x67:=x68.length+(jZ p.f p.r p.pa).length;bp (bif decide (p.pa<0)then aQ (decide (s25.length+x40<=4611686018427387904)) (some (Sum.inl (s25++x43)))else aQ (decide (s25.length+x48<=4611686018427387904)) (aQ (ak p.f p.r p.pa) (aQ (decide (x67<=4611686018427387904)) (some (Sum.inl (x68++jZ p.f p.r p.pa)))))) fun(s27:List UInt8)=>let x71:=s27++(#[32]:Array UInt8).toList;let x70:=x71.length;aQ (decide (s27.length+x48<=4611686018427387904)) (bn (decm p.ha) [] fun(y28:List UInt8)=>let x76:=x71++y28;let x74:=x76++(#[32]:Array UInt8).toList;let x75:=x76.length+x48;let x73:=x74.length;aQ (decide (x70+y28.length<=4611686018427387904)) (aQ (decide (x75<=4611686018427387904)) (bn (decm p.fu) [] fun(y29:List UInt8)=>aQ (decide (x73+y29.length<=4611686018427387904)) (some (x74++y29)))))) 1000000 (s7,0))))))
def Ep(R:List UInt8):V:=.str R
def Dy(_:List UInt8):List O:=[]
def Du:CF
 |[.agg [.int .i64 p_0,.int .i64 p_1,.sl 0 0 p_2n none,.bool p_3,.int .u8 p_4,.int .i64 p_5,.int .i64 p_6,.int .i64 p_7]],[.ints false .i8 p_2]=>retC (decide (p_2n=p_2.length)) (rtxt ⟨p_0,p_1,p_2,p_3,p_4,p_5,p_6,p_7⟩) [] Ep Dy
 |_,_=>none
theorem HK(p:Psn){r}(hr:rtxt p=some r):ay (GGx kCa kDb) PP 64 [.agg [.int .i64 p.f,.int .i64 p.r,.sl 0 0 p.zs.length none,Bb p.bl,.int .u8 p.ca,.int .i64 p.pa,.int .i64 p.ha,.int .i64 p.fu]] [.ints false .i8 p.zs] (Ep r) (Dy r):=by
 have hE:=cutE (aD (kCa:=kCa) (kDb:=kDb) (cts:=[(53,za),(98,EC),(117,rB),(118,oX)]) (inl:=[]) ⟨mE,Dw,oO,jG,trivial⟩ trivial)
 refine cg hE 2 Tryz.func64 rfl rfl Ep Dy hr ?_ rfl rfl
 refine ah rfl ?_
 unfold rtxt
 dsimp only
 refine aE (pl rfl id) ?_
 refine aI ?_
 refine aE (pl rfl id) ?_
 refine aI ?_
 refine aI ?_
 refine ah rfl ?_
 refine aE (pl (decide_eq_true (az rfl)) id) ?_
 refine aI ?_
 refine aI ?_
 refine bF hE 2 (fun(s7:List UInt8)=>([(1,V.ptr 1 0 0),(2,V.str (#[]:Array UInt8).toList),(3,V.str s7)],[O.ints false i8 p.zs,O.cells true [I p.f,I p.r,V.sl 0 0 p.zs.length none,Bb p.bl,V.int u8 p.ca,I p.pa,I p.ha,I p.fu]])) rfl ?_ ?_ (fun s7=>?_)
 ·refine aI ?_
  exact aW ((Ent.rn [0,1] [1,2,3] rfl rfl rfl rfl rfl))
 ·refine aI ?_
  exact aW ((Ent.rn [0,1] [1,2,3] rfl rfl rfl rfl rfl))
 refine cI hE 2 (fun(s13:List UInt8×Int)=>([(1,V.ptr 1 0 0),(2,V.str (#[]:Array UInt8).toList),(3,V.str s13.1),(4,I s13.2)],[O.ints false i8 p.zs,O.cells true [I p.f,I p.r,V.sl 0 0 p.zs.length none,Bb p.bl,V.int u8 p.ca,I p.pa,I p.ha,I p.fu]])) (fun(s23:List UInt8)=>([(1,V.ptr 1 0 0),(2,V.str (#[]:Array UInt8).toList),(3,V.str s23)],[O.ints false i8 p.zs,O.cells true [I p.f,I p.r,V.sl 0 0 p.zs.length none,Bb p.bl,V.int u8 p.ca,I p.pa,I p.ha,I p.fu]])) (.exit 0) ((Ent.rn [0,1] [1,2,3,4] rfl rfl rfl rfl rfl)) (fun s13=>?_) (fun s23=>?_)
 ·refine aR hE 2 rfl ?_ ?_
  ·refine aI ?_
   refine ah rfl ?_
   refine bF hE 2 (fun(s15:List UInt8)=>([(1,V.ptr 1 0 0),(2,V.str (#[]:Array UInt8).toList),(3,V.str s15),(4,I s13.2)],[O.ints false i8 p.zs,O.cells true [I p.f,I p.r,V.sl 0 0 p.zs.length none,Bb p.bl,V.int u8 p.ca,I p.pa,I p.ha,I p.fu]])) rfl ?_ ?_ (fun s15=>?_)
   ·refine aI ?_
    refine aI ?_
    exact aW ((Ent.rn [0,1] [1,2,3,4] rfl rfl rfl rfl rfl))
   ·exact aW ((Ent.rn [0,1] [1,2,3,4] rfl rfl rfl rfl rfl))
   exact cr ((Ent.rn [0,1] [1,2,3,4] rfl rfl rfl rfl rfl))
  exact cH ((Ent.rn [0,1] [1,2,3] rfl rfl rfl rfl rfl))
 refine bF hE 2 (fun(s25:List UInt8)=>([(1,V.ptr 1 0 0),(2,V.str (#[]:Array UInt8).toList),(3,V.str s25)],[O.ints false i8 p.zs,O.cells true [I p.f,I p.r,V.sl 0 0 p.zs.length none,Bb p.bl,V.int u8 p.ca,I p.pa,I p.ha,I p.fu]])) rfl ?_ ?_ (fun s25=>?_)
 ·refine aI ?_
  exact aW ((Ent.rn [0,1] [1,2,3] rfl rfl rfl rfl rfl))
 ·exact aW ((Ent.rn [0,1] [1,2,3] rfl rfl rfl rfl rfl))
 refine bF hE 2 (fun(s27:List UInt8)=>([(1,V.ptr 1 0 0),(2,V.str (#[]:Array UInt8).toList),(3,V.str s27)],[O.ints false i8 p.zs,O.cells true [I p.f,I p.r,V.sl 0 0 p.zs.length none,Bb p.bl,V.int u8 p.ca,I p.pa,I p.ha,I p.fu]])) rfl ?_ ?_ (fun s27=>?_)
 ·refine aI ?_
  exact aW ((Ent.rn [0,1] [1,2,3] rfl rfl rfl rfl rfl))
 ·refine aI ?_
  refine aI ?_
  refine aI ?_
  exact aW ((Ent.rn [0,1] [1,2,3] rfl rfl rfl rfl rfl))
 refine ah rfl ?_
 refine aI ?_
 refine aE (pl rfl id) ?_
 refine aI ?_
 refine aI ?_
 refine aE (pl rfl id) ?_
 refine aI ?_
 exact aN (aJ [] (.inr rfl) rfl rfl rfl rfl rfl)
theorem Cr:CtOk (GGx kCa kDb) PP (64,Du):=by
 refine aF Tryz.func64 (by kernel_rfl) rfl fun a0 h0 c0 v0 N0 e hc=>?_
 unfold Du at e
 split at e
 ·rename_i p_0 p_1 p_2n p_3 p_4 p_5 p_6 p_7 p_2
  obtain⟨hl,r,hr,rfl,rfl⟩:=bu e hc
  simp only[decide_eq_true_eq]at hl
  obtain rfl:=hl
  exact HK ⟨p_0,p_1,p_2,p_3,p_4,p_5,p_6,p_7⟩ hr
 ·cases e
def jt:Psn->List Int->List Int×Int×Int×Bool×Int×Int×Int×Int×Int×Int->Option (List Int×Int×Int×Bool×Int×Int×Int×Int×Int×Int ⊕ List Int×Int×Int×Bool×Int×Int×Int×Int×Int ⊕ Psn×Int):=fun(p:Psn) (y3:List Int)=>let x83:=Psn.mk 0 0 [] false 0 0 0 0;let x84:=Psn.mk p.f p.r (List.take p.zs.length (List.drop 0 p.zs)) p.bl p.ca p.pa p.ha p.fu;fun(s29:List Int×Int×Int×Bool×Int×Int×Int×Int×Int×Int)=>let x99:=s29.2.2.2.2.2.2.2.2.2;let x100:=s29.2.2.2.2.2.2.2.2.1;let x101:=s29.2.2.2.2.2.2.2.1;let x102:=s29.2.2.2.2.2.2.1;let x103:=s29.2.2.2.2.2.1;let x104:=s29.2.2.2.2.1;let x105:=s29.2.2.2.1;let x106:=s29.2.2.1;let x107:=s29.2.1;let x108:=s29.1;let x88:=decide (x99<Int.ofNat y3.length);let x98:=y3.getD x99.toNat 0;let x87:=decide (0<=x99)&&x88;let x97:=(qX x84 x98).getD x83;let x89:=x97.bl;let x90:=x97.fu;let x91:=x97.r;let x92:=x97.pa;let x93:=x97.ca;let x94:=x97.f;let x95:=x97.ha;let x96:=x97.zs;let x86:=Psn.mk x94 x91 (List.take x96.length (List.drop 0 x96)) x89 x93 x92 x95 x90;bif x88 then aQ x87 (bn (qX x84 x98) Inhabited.default fun(_y30:Psn)=>bn (rtxt x86) Inhabited.default fun(_y31:List UInt8)=>bn (rtxt (Psn.mk x107 x106 (List.take x108.length (List.drop 0 x108)) x105 x104 x103 x102 x101)) [] fun(y32:List UInt8)=>bp (bif Go.Op.bytesLess ((rtxt x86).getD []) y32 then aQ x87 (some (Sum.inl (x96,x94,x91,x89,x93,x92,x95,x90,x98)))else some (Sum.inl (x108,x107,x106,x105,x104,x103,x102,x101,x100))) fun(s42:List Int×Int×Int×Bool×Int×Int×Int×Int×Int)=>some (Sum.inl (s42.1,s42.2.1,s42.2.2.1,s42.2.2.2.1,s42.2.2.2.2.1,s42.2.2.2.2.2.1,s42.2.2.2.2.2.2.1,s42.2.2.2.2.2.2.2.1,s42.2.2.2.2.2.2.2.2,i64.wrap (x99+1))))else some (Sum.inr (Sum.inl (x108,x107,x106,x105,x104,x103,x102,x101,x100)))
def zo(p:Psn):Option (Psn×Int):=let x114:=Psn.mk 0 0 [] false 0 0 0 0;let x115:=Psn.mk p.f p.r (List.take p.zs.length (List.drop 0 p.zs)) p.bl p.ca p.pa p.ha p.fu;bn (yrAl x115) [] fun(y3:List Int)=>let x117:=decide (0<Int.ofNat y3.length);let x119:=y3.getD (Int.toNat 0) 0;let x118:=(qX x115 x119).getD x114;aQ x117 (bn (qX x115 x119) Inhabited.default fun(_y4:Psn)=>aQ x117 (bV (jt p y3) (fun(s74:List Int×Int×Int×Bool×Int×Int×Int×Int×Int)=>some (Psn.mk s74.2.1 s74.2.2.1 s74.1 s74.2.2.2.1 s74.2.2.2.2.1 s74.2.2.2.2.2.1 s74.2.2.2.2.2.2.1 s74.2.2.2.2.2.2.2.1,s74.2.2.2.2.2.2.2.2)) 1000000 (x118.zs,x118.f,x118.r,x118.bl,x118.ca,x118.pa,x118.ha,x118.fu,x119,1)))
def uZ(R:Psn×Int):V:=.tup [.agg [.int .i64 R.1.f,.int .i64 R.1.r,.sl 1 0 R.1.zs.length none,Bb R.1.bl,.int .u8 R.1.ca,.int .i64 R.1.pa,.int .i64 R.1.ha,.int .i64 R.1.fu],.int .u8 R.2]
def va(R:Psn×Int):List O:=[.ints true .i8 R.1.zs]
def wD:CF
 |[.agg [.int .i64 p_0,.int .i64 p_1,.sl 0 0 p_2n none,.bool p_3,.int .u8 p_4,.int .i64 p_5,.int .i64 p_6,.int .i64 p_7]],[.ints false .i8 p_2]=>retC (decide (p_2n=p_2.length)) (zo ⟨p_0,p_1,p_2,p_3,p_4,p_5,p_6,p_7⟩) (⟨0,0,[],false,0,0,0,0⟩,0) uZ va
 |_,_=>none
theorem Ec(p:Psn){r}(hr:zo p=some r):ay (GGx kCa kDb) PP 17 [.agg [.int .i64 p.f,.int .i64 p.r,.sl 0 0 p.zs.length none,Bb p.bl,.int .u8 p.ca,.int .i64 p.pa,.int .i64 p.ha,.int .i64 p.fu]] [.ints false .i8 p.zs] (uZ r) (va r):=by
 have hE:=cutE (aD (kCa:=kCa) (kDb:=kDb) (cts:=[(22,Fg),(63,uJ),(64,Du)]) (inl:=[]) ⟨Cw,Ap,Cr,trivial⟩ trivial)
 refine cg hE 2 Tryz.func17 rfl rfl uZ va hr ?_ rfl rfl
 unfold zo
 refine aE (pl (decide_eq_true (az rfl)) id) ?_
 refine ah rfl ?_
 refine fV (pl rfl id) ?_
 refine aE (pl (decide_eq_true (az rfl)) id) ?_
 refine fV (pl rfl id) ?_
 refine cI hE 2 (let x122:=(yrAl (Psn.mk p.f p.r (List.take p.zs.length (List.drop 0 p.zs)) p.bl p.ca p.pa p.ha p.fu)).getD [];fun(s29:List Int×Int×Int×Bool×Int×Int×Int×Int×Int×Int)=>let x124:=s29.1;([(1,V.ptr 1 0 0),(2,V.ptr 2 0 0),(3,V.int u8 0),(4,V.sl 3 0 x122.length none),(5,V.ptr 4 0 0),(6,V.int u8 s29.2.2.2.2.2.2.2.2.1),(7,I s29.2.2.2.2.2.2.2.2.2)],[O.ints false i8 p.zs,O.cells true [I p.f,I p.r,V.sl 0 0 p.zs.length none,Bb p.bl,V.int u8 p.ca,I p.pa,I p.ha,I p.fu],O.cells true [I 0,I 0,V.nils,Bb false,V.int u8 0,I 0,I 0,I 0],O.ints true u8 x122,O.cells true [I s29.2.1,I s29.2.2.1,V.sl 5 0 x124.length none,Bb s29.2.2.2.1,V.int u8 s29.2.2.2.2.1,I s29.2.2.2.2.2.1,I s29.2.2.2.2.2.2.1,I s29.2.2.2.2.2.2.2.1],O.ints true i8 x124])) (fun(s74:List Int×Int×Int×Bool×Int×Int×Int×Int×Int)=>let x126:=s74.1;([(2,V.ptr 1 0 0),(3,V.int u8 0),(5,V.ptr 2 0 0),(6,V.int u8 s74.2.2.2.2.2.2.2.2)],[O.ints false i8 p.zs,O.cells true [I 0,I 0,V.nils,Bb false,V.int u8 0,I 0,I 0,I 0],O.cells true [I s74.2.1,I s74.2.2.1,V.sl 3 0 x126.length none,Bb s74.2.2.2.1,V.int u8 s74.2.2.2.2.1,I s74.2.2.2.2.2.1,I s74.2.2.2.2.2.2.1,I s74.2.2.2.2.2.2.2.1],O.ints true i8 x126])) (.exit 0) ((Ent.rn [0,1,2,3,4,5] [1,2,3,4,5,6,7] rfl rfl rfl rfl rfl)) (fun s29=>?_) (fun s74=>?_)
 ·refine aR hE 2 rfl ?_ ?_
  ·refine ah rfl ?_
   refine aI ?_
   refine aE (pl (decide_eq_true (az rfl)) id) ?_
   refine ah rfl ?_
   refine aE (pl (decide_eq_true (az rfl)) id) ?_
   refine aE (pl (decide_eq_true (az rfl)) id) ?_
   refine bF hE 2 (let x127:=(yrAl (Psn.mk p.f p.r (List.take p.zs.length (List.drop 0 p.zs)) p.bl p.ca p.pa p.ha p.fu)).getD [];fun(s42:List Int×Int×Int×Bool×Int×Int×Int×Int×Int)=>let x129:=s42.1;([(1,V.ptr 1 0 0),(2,V.ptr 2 0 0),(3,V.int u8 0),(4,V.sl 3 0 x127.length none),(5,V.ptr 4 0 0),(6,V.int u8 s42.2.2.2.2.2.2.2.2),(7,I s29.2.2.2.2.2.2.2.2.2)],[O.ints false i8 p.zs,O.cells true [I p.f,I p.r,V.sl 0 0 p.zs.length none,Bb p.bl,V.int u8 p.ca,I p.pa,I p.ha,I p.fu],O.cells true [I 0,I 0,V.nils,Bb false,V.int u8 0,I 0,I 0,I 0],O.ints true u8 x127,O.cells true [I s42.2.1,I s42.2.2.1,V.sl 5 0 x129.length none,Bb s42.2.2.2.1,V.int u8 s42.2.2.2.2.1,I s42.2.2.2.2.2.1,I s42.2.2.2.2.2.2.1,I s42.2.2.2.2.2.2.2.1],O.ints true i8 x129])) rfl ?_ ?_ (fun s42=>?_)
   ·refine ah rfl ?_
    refine aI ?_
    exact aW ((Ent.rn [0,1,2,3,4,7] [1,2,3,4,5,6,7] rfl rfl rfl rfl rfl))
   ·exact aW ((Ent.rn [0,1,2,3,4,5] [1,2,3,4,5,6,7] rfl rfl rfl rfl rfl))
   exact cr ((Ent.rn [0,1,2,3,4,5] [1,2,3,4,5,6,7] rfl rfl rfl rfl rfl))
  exact cH ((Ent.rn [0,2,4,5] [2,3,5,6] rfl rfl rfl rfl rfl))
 exact aN (aJ [3] (.inr rfl) rfl rfl rfl rfl rfl)
theorem yY:CtOk (GGx kCa kDb) PP (17,wD):=by
 refine aF Tryz.func17 (by kernel_rfl) rfl fun a0 h0 c0 v0 N0 e hc=>?_
 unfold wD at e
 split at e
 ·rename_i p_0 p_1 p_2n p_3 p_4 p_5 p_6 p_7 p_2
  obtain⟨hl,r,hr,rfl,rfl⟩:=bu e hc
  simp only[decide_eq_true_eq]at hl
  obtain rfl:=hl
  exact Ec ⟨p_0,p_1,p_2,p_3,p_4,p_5,p_6,p_7⟩ hr
 ·cases e
end
def rkT(zs:List Int)(F n:Nat):List UInt8:=rowG (rowL zs F n) 0
theorem oS{β σ α:Type}{step:β->List σ->Option (List σ)}{F:List σ->Option α}(g:β->σ)(N:Nat):∀ (l:List β) (s:List σ),s.length+l.length<=N->(∀ x∈l,∀ s:List σ,s.length<=N->step x s=some (s++[g x]))->kS step F l s=F (s++l.map g)
 |[],s,_,_=>by simp[kS]
 |x::l,s,hN,h=>by
  unfold kS
  rw[List.length_cons]at hN
  rw[h x (by simp) s (by omega)]
  have:=oS (F:=F) g N l (s++[g x]) (by simp;omega) fun y hy=>h y (by simp[hy])
  refine this.trans ?_
  simp
theorem Nr:∀ {l:List (List UInt8)},3<=l.length->l.length<=8->pbF l=pbJ l.reverse
 |[],h,_|[_],h,_|[_,_],h,_=>by simp at h
 |[_,_,_],_,_|[_,_,_,_],_,_|[_,_,_,_,_],_,_|[_,_,_,_,_,_],_,_|[_,_,_,_,_,_,_],_,_|[_,_,_,_,_,_,_,_],_,_=>rfl
 |_::_::_::_::_::_::_::_::_::_,_,h=>by simp at h
theorem CJ{zs:List Int}{F R:Nat}(hF:0<F)(hF8:F<=8)(hR3:3<=R)(hR:R<=8)(hn:zs.length=R*F)(hz:∀ x∈zs,-15<=x/\x<=15):yo F R zs=some (bdT zs F R [],0):=by
 have hrF:∀ n,n<R->n*F+F<=zs.length:=fun n h=>by
  have:=Nat.mul_le_mul_right F (show n+1<=R by omega)
  rw[Nat.add_mul,Nat.one_mul]at this;omega
 unfold yo
 rw[oS (rkT zs F) 100 (List.range R) [] (by simp;omega) (fun n hm s hs=>?_)]
 ·rw[List.nil_append,Nr (by simp;omega) (by simp;omega),wT (by omega) hF hn,<-List.map_reverse]
  unfold pbJ strR
  rw[yE (M:=17) (by simp;omega) (fun t ht=>?_) (by omega) (by simp),aU]
  ·rfl
  ·obtain⟨n,hn2,rfl⟩:=List.mem_map.1 ht
   have hnR:n<R:=by simpa using hn2
   have:=jd (rowL zs F n) 0
   rw[gY (hrF n hnR)]at this
   unfold rkT;omega
 ·have hnR:n<R:=by simpa using hm
  unfold pbS
  have hb:ux ((zs.drop (n*F)).take F)=some (rkT zs F n):=FR (by rw[List.length_take];omega) fun x hx=>hz x (List.mem_of_mem_drop (List.mem_of_mem_take hx))
  rw[hb]
  dsimp only
  rw[decide_eq_true (show ((strR s).length+1)*16<=140737488355328 by rw[Gt];omega),decide_eq_true (hrF n hnR)]
  rfl
def bitc(ca:Int)(i:Nat):Bool:=decide ((ca.fdiv (2^Min.min i u8.bits)).tmod 2=1)
theorem xG:∀ c:_root_.Fin 16,(!decide (band Go.BinOp.and u8 (c.val:Int) 1=0))=bitc (c.val:Int) 0/\(!decide (band Go.BinOp.and u8 (c.val:Int) 2=0))=bitc (c.val:Int) 1/\(!decide (band Go.BinOp.and u8 (c.val:Int) 4=0))=bitc (c.val:Int) 2/\(!decide (band Go.BinOp.and u8 (c.val:Int) 8=0))=bitc (c.val:Int) 3/\decide ((c.val:Int)=0)=(!bitc (c.val:Int) 0&&!bitc (c.val:Int) 1&&!bitc (c.val:Int) 2&&!bitc (c.val:Int) 3):=by decide +kernel
def letC(b:Bool)(x:UInt8):List UInt8:=bif b then[x] else[]
def casL(ca:Int):List UInt8:=letC (bitc ca 0) 75++letC (bitc ca 1) 81++letC (bitc ca 2) 107++letC (bitc ca 3) 113
def casW(ca:Int):List UInt8:=bif decide (ca=0) then[45]else casL ca
theorem Ff:∀ a b:_root_.Fin 8,dQ (List.take 2 (List.drop 0 (iL [u8.wrap (97+u8.wrap (a.val:Int)),u8.wrap (49+u8.wrap (b.val:Int))])))=subS [97,98,99,100,101,102,103,104] (a.val:Int) (i64.wrap ((a.val:Int)+1))++subS [49,50,51,52,53,54,55,56] (b.val:Int) (i64.wrap ((b.val:Int)+1)):=by decide +kernel
theorem Ft{f r n:Int}(h:ak f r n=true):zW ⟨f,r⟩ n=some (jZ f r n,0):=by
 obtain⟨a0,a1,a2,a3,a4,a5,a6,a7,a8⟩:=cO h
 unfold zW aZ
 rw[h]
 simp only[cond_true,decide_true,Bool.not_true,cond_false]
 have hx:n.tmod f=((n.tmod f).toNat:Int):=by have:px f n=n.tmod f:=rfl;omega
 have hy:i64.wrap (n.tdiv f)=((n.tdiv f).toNat:Int):=by have:py f n=n.tdiv f:=rfl;rw[<-this,a4];omega
 have:=Ff ⟨(n.tmod f).toNat,by have:px f n=n.tmod f:=rfl;omega⟩ ⟨(n.tdiv f).toNat,by have:py f n=n.tdiv f:=rfl;omega⟩
 dsimp only at this
 rw[<-hx,<-hy]at this
 rw[this];rfl
def behW(p:Psn):List UInt8:=bif decide (p.pa<0) then[45]else jZ p.f p.r p.pa
def txtW(p:Psn):List (List UInt8):=[Lib.decDigits p.f.toNat++[120]++Lib.decDigits p.r.toNat,bdT p.zs p.f.toNat p.r.toNat [],bif p.bl then[98] else[119],casW p.ca,behW p,Lib.decDigits p.ha.toNat,Lib.decDigits p.fu.toNat]
def txt(p:Psn):List UInt8:=Lib.join (txtW p) [32]
end Go.Ab
namespace Go.Ab
open Go.Proofs
section
variable{kCa kDb:Bool}
end
section
variable{kDb:Bool}
end
section
variable{kDb:Bool}
end
section
variable{kCa kDb:Bool}
end
section
variable{kCa kDb:Bool}
end
section
variable{kCa kDb:Bool}
end
section
variable{kCa:Bool}
theorem w0(y:Int):0<=IntKind.u64.wrap y/\IntKind.u64.wrap y<18446744073709551616:=by
 rw[mg]
 exact⟨Int.emod_nonneg _ (by decide),Int.emod_lt_of_pos _ (by decide)⟩
end
section
variable{kCa kDb:Bool}
end
section
structure PsH(p:Psn):Prop where
 h:aO p.f p.r p.zs=true
 hl:p.zs.length<=64
 ok:p.ok=true
 ca:0<=p.ca
theorem psh{p:Psn}(hl:p.zs.length<=64)(hca:0<=p.ca)(hok:p.ok=true):PsH p:=by
 refine⟨?_,hl,hok,hca⟩
 have hk:=hok
 simp only[Psn.ok,eJ,Bool.and_eq_true,decide_eq_true_eq]at hk
 cases h:aO p.f p.r p.zs with
 |true=>rfl
 |false=>have:=hk.1.1.1.1.2.1.1;unfold bK at this;rw[h]at this;cases this
section
variable{p:Psn}
theorem PsH.bd(o:PsH p):aL p.f p.r p.zs=true:=(aK o.h).2.2.1
theorem PsH.pass(o:PsH p):fo p.f p.r p.zs p.bl p.pa p.ha=true:=by have:=o.ok;simp only[Psn.ok,Bool.and_eq_true]at this;exact this.1.2
end
end
theorem GB{α:Type}(b0 b1 b2 b3:Bool)(K:List UInt8->Option α) :
  (bp (bp (bif b0 then some (Sum.inl ((#[]:Array UInt8).toList++[75]))else some (Sum.inl (#[]:Array UInt8).toList)) fun(s9:List UInt8)=>some (Sum.inl s9)) fun(s11:List UInt8)=>bp (bp (bif b1 then aQ (decide (s11.length+[(81:UInt8)].length<=4611686018427387904)) (some (Sum.inl (s11++[81])))else some (Sum.inl s11)) fun(s13:List UInt8)=>some (Sum.inl s13)) fun(s15:List UInt8)=>bp (bp (bif b2 then aQ (decide (s15.length+[(107:UInt8)].length<=4611686018427387904)) (some (Sum.inl (s15++[107])))else some (Sum.inl s15)) fun(s17:List UInt8)=>some (Sum.inl s17)) fun(s19:List UInt8)=>bp (bp (bif b3 then aQ (decide (s19.length+[(113:UInt8)].length<=4611686018427387904)) (some (Sum.inl (s19++[113])))else some (Sum.inl s19)) fun(s21:List UInt8)=>some (Sum.inl s21)) fun(s23:List UInt8)=>K s23)=K (letC b0 75++letC b1 81++letC b2 107++letC b3 113):=by
 cases b0<;>cases b1<;>cases b2<;>cases b3<;>rfl
theorem EZ{α:Type}(X:Option α)(F:Unit->Option α):bp (escO X) F=X:=by cases X<;>rfl
theorem Br{ca:Int}(h:0<=ca/\ca<16):(bif casL ca==(#[]:Array UInt8).toList then[45]else casL ca)=casW ca/\casW ca=(bif decide (ca=0) then[45]else casL ca)/\(ca=0->casL ca=[]):=by
 have:=xG ⟨ca.toNat,by omega⟩
 rw[show (((⟨ca.toNat,by omega⟩:_root_.Fin 16).val:Nat):Int)=ca by show ((ca.toNat:Nat):Int)=ca;omega]at this
 obtain⟨_,_,_,_,h5⟩:=this
 refine⟨?_,rfl,fun e=>?_⟩
 ·unfold casW casL
  rw[h5]
  cases bitc ca 0<;>cases bitc ca 1<;>cases bitc ca 2<;>cases bitc ca 3<;>rfl
 ·rw[decide_eq_true e]at h5
  unfold casL
  revert h5
  cases bitc ca 0<;>cases bitc ca 1<;>cases bitc ca 2<;>cases bitc ca 3<;>simp[letC]
theorem xN{α:Type}(b:Bool)(x y:List UInt8)(K:List UInt8->Option α):bp (bif b then some (.inl x)else some (.inl y)) K=K (bif b then x else y):=by cases b<;>rfl
structure TxOk(p:Psn)(F R:Nat):Prop where
 f:p.f=F
 r:p.r=R
 f1:3<=F
 f2:F<=8
 r1:3<=R
 r2:R<=8
 n:p.zs.length=R*F
 z:∀ x∈p.zs,-15<=x/\x<=15
 ok:p.ok=true
 l:p.zs.length<=64
 bd:aL p.f p.r p.zs=true
 ca:0<=p.ca/\p.ca<16
 ha:0<=p.ha/\p.ha<=10000
 fu:0<=p.fu/\p.fu<=10000
 pa:p.pa<0\/ak p.f p.r p.pa=true
theorem txok{p:Psn}(hok:p.ok=true)(hca:0<=p.ca):∃ F R,TxOk p F R:=by
 have hk:=hok
 unfold Psn.ok at hk
 simp only[Bool.and_eq_true]at hk
 obtain⟨⟨⟨⟨⟨hb,_⟩,_⟩,hc⟩,hp⟩,hcnt⟩:=hk
 obtain⟨hv,hl⟩:=bT hb
 have hv2:=cY hv
 obtain⟨m1,m2⟩:=cV hv
 have h64:p.zs.length<=64:=by omega
 have o:=psh h64 hca hok
 refine⟨p.f.toNat,p.r.toNat,by omega,by omega,by omega,by omega,by omega,by omega,?_,fun x hx=>?_,hok,h64,hb,⟨hca,?_⟩,?_,?_,?_⟩
 ·have:((p.r.toNat*p.f.toNat:Nat):Int)=p.f*p.r:=by
   rw[Int.natCast_mul,show ((p.r.toNat:Nat):Int)=p.r by omega,show ((p.f.toNat:Nat):Int)=p.f by omega,Int.mul_comm]
  omega
 ·have:=(aK o.h).2.2.2 x hx
  omega
 ·unfold gw at hc
  simp only[Bool.and_eq_true,decide_eq_true_eq]at hc
  exact hc.2
 ·unfold cntB at hcnt
  simp only[Bool.and_eq_true,decide_eq_true_eq]at hcnt
  omega
 ·unfold cntB at hcnt
  simp only[Bool.and_eq_true,decide_eq_true_eq]at hcnt
  omega
 ·unfold fo at hp
  simp only[Bool.or_eq_true,Bool.and_eq_true,decide_eq_true_eq]at hp
  rcases hp with hp|⟨⟨⟨⟨⟨_,hp⟩,_⟩,_⟩,_⟩,_⟩
  ·left;omega
  ·right;exact hp
theorem mF{f r n:Int}:(jZ f r n).length<=16:=by
 unfold jZ subS
 rw[List.length_append,List.length_take,List.length_take,List.length_drop,List.length_drop]
 simp only[List.length_cons,List.length_nil];omega
theorem eO(b:Bool)(x:UInt8):(letC b x).length<=1:=by cases b<;>simp[letC]
theorem yn(ca:Int):(casL ca).length<=4:=by
 have h0:=eO (bitc ca 0) 75
 have h1:=eO (bitc ca 1) 81
 have h2:=eO (bitc ca 2) 107
 have h3:=eO (bitc ca 3) 113
 unfold casL
 simp only[List.length_append];omega
theorem xM(ca:Int):(casW ca).length<=4:=by
 unfold casW
 cases decide (ca=0) with
 |true=>simp
 |false=>exact yn ca
theorem EU{zs:List Int}{F R:Nat}(hR:0<R)(hR8:R<=8)(hF:0<F)(hF8:F<=8)(hn:zs.length=R*F):(bdT zs F R []).length<=144:=by
 rw[wT hR hF hn]
 have:=yR [47] 17 ((List.range R).reverse.map fun n=>rowG (rowL zs F n) 0) (fun t ht=>by
  obtain⟨n,hn2,rfl⟩:=List.mem_map.1 ht
  have hnR:n<R:=by simpa using hn2
  have h:=jd (rowL zs F n) 0
  have h2:=Nat.mul_le_mul_right F (show n+1<=R by omega)
  rw[Nat.add_mul,Nat.one_mul]at h2
  rw[gY (by omega)]at h
  omega)
 rw[List.length_map,List.length_reverse,List.length_range]at this
 simp only[List.length_singleton]at this
 omega
theorem Jf{p:Psn}(hok:p.ok=true)(hca:0<=p.ca):ptxt p=some (txt p,0):=by
 obtain⟨F,R,o⟩:=txok hok hca
 have hF:p.f.toNat=F:=by have:=o.f;omega
 have hR:p.r.toNat=R:=by have:=o.r;omega
 have lF:=fm (u:=p.f.toNat) (by have:=o.f2;omega)
 have lR:=fm (u:=p.r.toNat) (by have:=o.r2;omega)
 have lH:=fm (u:=p.ha.toNat) (by have:=o.ha;omega)
 have lU:=fm (u:=p.fu.toNat) (by have:=o.fu;omega)
 have hb:pbTx ⟨p.f,p.r,p.zs⟩=some (bdT p.zs p.f.toNat p.r.toNat [],0):=by
  unfold pbTx
  dsimp only
  have f1:=o.f1
  rw[o.bd,hF,hR,CJ (by omega) o.f2 o.r1 o.r2 o.n o.z]
  rw[decide_eq_true (show 0<p.f by have:=o.f;omega),decide_eq_true (show 0<=p.r by have:=o.r;omega),decide_eq_true o.n,decide_eq_true (show p.zs.length<=100000 by have:=o.l;omega)]
  rfl
 have lB:=EU (zs:=p.zs) (F:=F) (R:=R) (by have:=o.r1;omega) o.r2 (by have:=o.f1;omega) o.f2 o.n
 have hbit:=xG ⟨p.ca.toNat,by have:=o.ca;omega⟩
 rw[show (((⟨p.ca.toNat,by have:=o.ca;omega⟩:_root_.Fin 16).val:Nat):Int)=p.ca by show ((p.ca.toNat:Nat):Int)=p.ca;have:=o.ca;omega]at hbit
 obtain⟨c0,c1,c2,c3,_⟩:=hbit
 unfold ptxt
 simp only[List.drop_zero,List.take_length]
 rw[decide_eq_true o.l,aV,show (⟨p.f,p.r,p.zs,p.bl,p.ca,p.pa,p.ha,p.fu⟩:Psn)=p from rfl,hok,Bool.not_true,cond_false]
 rw[mb (n:=p.f) (by have:=o.f;omega) (by have:=o.f;have:=o.f2;omega),aU,decide_eq_true (show (Lib.decDigits p.f.toNat).length+(#[120]:Array UInt8).toList.length<=4611686018427387904 by show _+1<=_;omega),aV]
 rw[mb (n:=p.r) (by have:=o.r;omega) (by have:=o.r;have:=o.r2;omega),aU,decide_eq_true (show (Lib.decDigits p.f.toNat++(#[120]:Array UInt8).toList).length+(Lib.decDigits p.r.toNat).length<=4611686018427387904 by rw[List.length_append];show _+1+_<=_;omega),aV]
 rw[hb,aU,c0,c1,c2,c3,xN]
 refine(GB _ _ _ _ _).trans ?_
 have hcw:(bif letC (bitc p.ca 0) 75++letC (bitc p.ca 1) 81++letC (bitc p.ca 2) 107++letC (bitc p.ca 3) 113==(#[]:Array UInt8).toList then(#[45]:Array UInt8).toList else letC (bitc p.ca 0) 75++letC (bitc p.ca 1) 81++letC (bitc p.ca 2) 107++letC (bitc p.ca 3) 113)=casW p.ca:=(Br o.ca).1
 rw[EZ,xN,hcw]
 have hbeh:∀ {α:Type} (K:List UInt8->Option α),(bp (bif decide (0<=p.pa)then bn (zW ⟨p.f,p.r⟩ p.pa) ([],0) fun(y26:List UInt8×Int)=>some (.inl y26.1)else some (.inl (#[45]:Array UInt8).toList)) K)=K (behW p):=by
  intro α K
  unfold behW
  by_cases h:p.pa<0
  ·rw[decide_eq_true h,decide_eq_false (show ¬ 0<=p.pa by omega)];rfl
  ·rw[decide_eq_false h,decide_eq_true (show 0<=p.pa by omega),Ft (o.pa.resolve_left h)];rfl
 rw[hbeh,mb o.ha.1 (by have:=o.ha;omega),aU,mb o.fu.1 (by have:=o.fu;omega),aU]
 have hW:∀ t∈txtW p,t.length<=200:=by
  intro t ht
  have h4:=xM p.ca
  have h16:(behW p).length<=16:=by
   unfold behW
   cases decide (p.pa<0) with
   |true=>simp
   |false=>exact mF (r:=p.r)
  have hs:(bif p.bl then[98] else[119]:List UInt8).length<=1:=by cases p.bl<;>simp
  simp only[txtW,List.mem_cons,List.not_mem_nil,or_false]at ht
  rcases ht with rfl|rfl|rfl|rfl|rfl|rfl|rfl
  ·simp only[List.length_append,List.length_singleton];omega
  ·rw[hF,hR];omega
  ·omega
  ·omega
  ·omega
  ·omega
  ·omega
 have hj:cQ ((txtW p).map fun t=>[V.str t]) [32]=some (Lib.join (txtW p) [32]):=yE (M:=200) (by simp[txtW]) hW (by omega) (by simp)
 exact(congrArg (fun z=>bn z [] fun(y31:List UInt8)=>(some (y31,0):Option (List UInt8×Int))) hj)
theorem da{α:Type}{b:Bool}{k:Option α}(h:b=true):aQ b k=k:=by rw[h];rfl
def kq(i:Nat):UInt8:=([75,81,107,113]:List UInt8).getD i 0
theorem MZ:∀ i:Nat,i<4->List.take (((i+1:Nat):Int).toNat-((i:Nat):Int).toNat) (List.drop ((i:Nat):Int).toNat (#[75,81,107,113]:Array UInt8).toList)=[kq i]:=by decide +kernel
theorem qm{p:Psn}{out:List UInt8}{i:Nat}(hi:i<4)(ho:out.length<=1000):rC p (out,(i:Int))=some (.inl (out++letC (bitc p.ca i) (kq i),((i+1:Nat):Int))):=by
 have hw:IntKind.i64.wrap ((i:Int)+1)=((i+1:Nat):Int):=by rw[aC (by omega) (by omega)];omega
 unfold rC
 dsimp only
 rw[hw,MZ i hi,Int.toNat_natCast,decide_eq_true (show (i:Int)<4 by omega),decide_eq_true (show (0:Int)<=(i:Int) by omega),decide_eq_true (show (i:Int)<=((i+1:Nat):Int) by omega),decide_eq_true (show ((i+1:Nat):Int)<=Int.ofNat (#[75,81,107,113]:Array UInt8).toList.length by show ((i+1:Nat):Int)<=((4:Nat):Int);omega)]
 rw[show (decide ((p.ca.fdiv (2^Min.min i IntKind.u8.bits)).tmod 2=1))=bitc p.ca i from rfl]
 cases bitc p.ca i with
 |false=>simp[aV,bp,letC]
 |true=>
  simp only[cond_true,Bool.and_self,aV,List.length_singleton]
  rw[decide_eq_true (show out.length+1<=4611686018427387904 by omega)]
  simp[aV,bp,letC]
theorem JW{p:Psn}{out:List UInt8}(ho:out.length<=900){F:List UInt8->Option (List UInt8)}:bV (rC p) F 1000000 (out,0)=F (out++casL p.ca):=by
 have l0:=eO (bitc p.ca 0) (kq 0)
 have l1:=eO (bitc p.ca 1) (kq 1)
 have l2:=eO (bitc p.ca 2) (kq 2)
 have l3:=eO (bitc p.ca 3) (kq 3)
 refine(bN (n:=999999) (qm (i:=0) (by omega) (by omega))).trans ?_
 refine(bN (n:=999998) (qm (i:=1) (by omega) (by rw[List.length_append];omega))).trans ?_
 refine(bN (n:=999997) (qm (i:=2) (by omega) (by rw[List.length_append,List.length_append];omega))).trans ?_
 refine(bN (n:=999996) (qm (i:=3) (by omega) (by rw[List.length_append,List.length_append,List.length_append];omega))).trans ?_
 refine(cE (n:=999995) (x:=out++letC (bitc p.ca 0) (kq 0)++letC (bitc p.ca 1) (kq 1)++letC (bitc p.ca 2) (kq 2)++letC (bitc p.ca 3) (kq 3)) rfl).trans ?_
 unfold casL
 rw[show kq 0=75 from rfl,show kq 1=81 from rfl,show kq 2=107 from rfl,show kq 3=113 from rfl]
 simp only[List.append_assoc]
theorem Dm{p:Psn}(hok:p.ok=true)(hca:0<=p.ca):rtxt p=some (txt p):=by
 obtain⟨F,R,o⟩:=txok hok hca
 have hF:p.f.toNat=F:=by have:=o.f;omega
 have hR:p.r.toNat=R:=by have:=o.r;omega
 have lF:=fm (u:=p.f.toNat) (by have:=o.f2;omega)
 have lR:=fm (u:=p.r.toNat) (by have:=o.r2;omega)
 have lH:=fm (u:=p.ha.toNat) (by have:=o.ha;omega)
 have lU:=fm (u:=p.fu.toNat) (by have:=o.fu;omega)
 have lB:=EU (zs:=p.zs) (F:=F) (R:=R) (by have:=o.r1;omega) o.r2 (by have:=o.f1;omega) o.f2 o.n
 have hb:Am ⟨p.f,p.r,p.zs⟩=some (bdT p.zs p.f.toNat p.r.toNat []):=by
  rw[hF,hR,<-FM o.f2 o.r2 o.n o.z,o.f,o.r]
 rw[<-hF,<-hR]at lB
 have lC:=yn p.ca
 have lN:=mF (f:=p.f) (r:=p.r) (n:=p.pa)
 unfold rtxt
 simp only[List.drop_zero,List.take_length]
 rw[qn (n:=p.f) (by have:=o.f;omega) (by have:=o.f;have:=o.f2;omega),aU]
 refine(da (decide_eq_true (by simp only[List.length_cons,List.length_nil];omega))).trans ?_
 rw[qn (n:=p.r) (by have:=o.r;omega) (by have:=o.r;have:=o.r2;omega),aU]
 refine(da (decide_eq_true (by simp only[List.length_append,List.length_cons,List.length_nil];omega))).trans ?_
 refine(da (decide_eq_true (by simp only[List.length_append,List.length_cons,List.length_nil];omega))).trans ?_
 rw[hb,aU]
 refine(da (decide_eq_true (by simp only[List.length_append,List.length_cons,List.length_nil];omega))).trans ?_
 refine(da (decide_eq_true (by simp only[List.length_append,List.length_cons,List.length_nil];omega))).trans ?_
 generalize hA:Lib.decDigits p.f.toNat++([120]:List UInt8)++Lib.decDigits p.r.toNat++([32]:List UInt8)++bdT p.zs p.f.toNat p.r.toNat []++([32]:List UInt8)=A
 have lA:A.length<=200:=by rw[<-hA];simp only[List.length_append,List.length_cons,List.length_nil];omega
 have hside:∀ {α:Type} (K:List UInt8->Option α),(bp (bif p.bl then aQ (decide (A.length+([98,32]:List UInt8).length<=4611686018427387904)) (some (.inl (A++([98,32]:List UInt8))))else aQ (decide (A.length+([119,32]:List UInt8).length<=4611686018427387904)) (some (.inl (A++([119,32]:List UInt8))))) K)=K (A++((bif p.bl then[98] else[119])++[32])):=by
  intro α K
  cases p.bl with
  |true=>rw[cond_true,decide_eq_true (show A.length+([98,32]:List UInt8).length<=4611686018427387904 by simp only[List.length_cons,List.length_nil];omega)];rfl
  |false=>rw[cond_false,decide_eq_true (show A.length+([119,32]:List UInt8).length<=4611686018427387904 by simp only[List.length_cons,List.length_nil];omega)];rfl
 rw[hside]
 generalize hS:A++((bif p.bl then[98] else[119])++[32])=S
 have lS:S.length<=202:=by rw[<-hS];cases p.bl<;>simp<;>omega
 rw[JW (by omega)]
 have hcas:∀ {α:Type} (K:List UInt8->Option α),(bp (bif decide (p.ca=0)then aQ (decide ((S++casL p.ca).length+([45]:List UInt8).length<=4611686018427387904)) (some (.inl (S++casL p.ca++([45]:List UInt8))))else some (.inl (S++casL p.ca))) K)=K (S++casW p.ca):=by
  intro α K
  obtain⟨_,h2,h3⟩:=Br o.ca
  rw[h2]
  by_cases h:p.ca=0
  ·rw[decide_eq_true h,h3 h,cond_true,cond_true,List.append_nil,decide_eq_true (show S.length+([45]:List UInt8).length<=4611686018427387904 by simp only[List.length_cons,List.length_nil];omega)];rfl
  ·rw[decide_eq_false h];rfl
 rw[hcas]
 generalize hC:S++casW p.ca=C
 have lCw:=xM p.ca
 have lC2:C.length<=206:=by rw[<-hC,List.length_append];omega
 have hbeh:∀ {α:Type} (K:List UInt8->Option α),(bp (bif decide (p.pa<0)then aQ (decide (C.length+([32,45]:List UInt8).length<=4611686018427387904)) (some (.inl (C++([32,45]:List UInt8))))else aQ (decide (C.length+([32]:List UInt8).length<=4611686018427387904)) (aQ (ak p.f p.r p.pa) (aQ (decide ((C++([32]:List UInt8)).length+(jZ p.f p.r p.pa).length<=4611686018427387904)) (some (.inl (C++([32]:List UInt8)++jZ p.f p.r p.pa)))))) K)=K (C++([32]++behW p)):=by
  intro α K
  unfold behW
  by_cases h:p.pa<0
  ·rw[decide_eq_true h,cond_true,cond_true,decide_eq_true (show C.length+([32,45]:List UInt8).length<=4611686018427387904 by simp only[List.length_cons,List.length_nil];omega)];rfl
  ·rw[decide_eq_false h,cond_false,cond_false,o.pa.resolve_left h,decide_eq_true (show C.length+([32]:List UInt8).length<=4611686018427387904 by simp only[List.length_cons,List.length_nil];omega),decide_eq_true (show (C++([32]:List UInt8)).length+(jZ p.f p.r p.pa).length<=4611686018427387904 by simp only[List.length_append,List.length_cons,List.length_nil];omega)]
   rw[List.append_assoc];rfl
 rw[hbeh]
 have lBe:(behW p).length<=16:=by
  unfold behW
  cases decide (p.pa<0) with
  |true=>simp
  |false=>exact mF (r:=p.r)
 generalize hD:C++([32]++behW p)=D
 have lD:D.length<=230:=by rw[<-hD];simp only[List.length_append,List.length_cons,List.length_nil];omega
 refine(da (decide_eq_true (by simp only[List.length_cons,List.length_nil];omega))).trans ?_
 rw[qn o.ha.1 (by have:=o.ha;omega),aU]
 refine(da (decide_eq_true (by simp only[List.length_append,List.length_cons,List.length_nil];omega))).trans ?_
 refine(da (decide_eq_true (by simp only[List.length_append,List.length_cons,List.length_nil];omega))).trans ?_
 rw[qn o.fu.1 (by have:=o.fu;omega),aU]
 refine(da (decide_eq_true (by simp only[List.length_append,List.length_cons,List.length_nil];omega))).trans ?_
 unfold txt txtW
 rw[join_cons,<-hD,<-hC,<-hS,<-hA]
 simp
end Go.Ab
set_option maxRecDepth 100000
namespace Go.Ab
end Go.Ab
namespace Go.Ab
open Go.Proofs
def fmX(p:Psn)(y:Int):List UInt8×Psn×Int:=(((ptxt ((ypos y p).getD ⟨0,0,[],false,0,0,0,0⟩)).getD ([],0)).1,(ypos y p).getD ⟨0,0,[],false,0,0,0,0⟩,y)
def ot(x:List UInt8×Psn×Int):List V:=[.agg [.str x.1,I x.2.1.f,I x.2.1.r,.sl 0 0 x.2.1.zs.length none,Bb x.2.1.bl,.int .u8 x.2.1.ca,I x.2.1.pa,I x.2.1.ha,I x.2.1.fu,.int .u8 x.2.2]]
def fmNs(x:List UInt8×Psn×Int):List O:=[.ints true .i8 x.2.1.zs]
def fmHc(p:Psn):List O:=[.cells false [I p.f,I p.r,.sl 2 0 p.zs.length none,Bb p.bl,.int .u8 p.ca,I p.pa,I p.ha,I p.fu],.ints false .i8 p.zs]
theorem HX{kCa kDb:Bool}(p:Psn){l:List Int}(hp:yalW p=some (l,l.length))(_hl:p.zs.length<=64)(hn:l.length<=100000)
  (hall:∀ y∈l,(ypos y p).isSome=true/\(ptxt (fmX p y).2.1).isSome=true):SqH (GGx kCa kDb) PP 104 (fmHc p) [.ptr 1 0 0] [.ints true .u8 l] (l.map fun y=>(ot (fmX p y),fmNs (fmX p y))):=by
 have hE:=aD (kCa:=kCa) (kDb:=kDb) (cts:=[(65,tZ),(67,sL),(105,yO)]) (inl:=[]) ⟨nH,nT,sP,trivial⟩ trivial
 refine ox hE Tryz.func104 rfl rfl rfl rfl rfl fun nn l0 S0 ρc J ok=>?_
 refine YH.seq (YH.seg hE 2 ?_)
 have e1:(⟨p.f,p.r,List.take p.zs.length (List.drop 0 p.zs),p.bl,p.ca,p.pa,p.ha,p.fu⟩:Psn)=p:=by rw[List.drop_zero,List.take_length]
 refine ag (by rw[e1,hp,List.drop_zero,List.take_length];simp) ?_
 refine af ?_
 rw[e1,hp]
 refine YH.block (YH.loop (fun a:Nat×Bool=>((some a.1,a.2),[(0,.yl 0),(1,.ptr 1 0 0),(9,.sl 3 0 l.length none),(10,I l.length),(11,I a.1)],
   [.gone,.cells false [I p.f,I p.r,.sl 2 0 p.zs.length none,Bb p.bl,.int .u8 p.ca,I p.pa,I p.ha,I p.fu],.ints false .i8 p.zs,match a.2 with|true=>.ints false .u8 l|false=>.ints true .u8 l]))
  (fun a=>a.1<=l.length) (fun a=>l.length-a.1) (0,false) rfl (Ent.ren [0,1,2,3] [0,1,9,10,11] rfl rfl rfl) (Nat.zero_le _) ?_)
 rintro⟨j,hd⟩ i1
 cases hd
 all_goals
  dsimp only at i1 ⊢
  refine YH.seq (YH.seg hE 2 ?_)
  repeat (first|refine ai ?_|refine ag (by first|rfl|exact tt1 _ _|exact tt5 _ _|(simp;done)|(simp;omega)) ?_)
  refine af ?_
  refine YH.seq (YH.seg hE 2 ?_)
  refine aq (fun h1=>af ?_) (fun h1=>af ?_)
  ·have hj:j<l.length:=by have h1:=of_decide_eq_true h1;omega
   have hw:IntKind.i64.wrap ((j:Int)+1)=((j+1:Nat):Int):=aC (by omega) (by omega)
   have hx:l.getD (j:Int).toNat 0=l[j]:=by simp[List.getD,hj]
   obtain⟨ha1,ha2⟩:=hall l[j] (List.getElem_mem hj)
   refine YH.seq (YH.block (YH.seq (YH.seg hE 2 ?_)))
   repeat (first|refine ai ?_|refine ag (by first|rfl|exact tt1 _ _|exact tt5 _ _|(simp;done)|(simp;omega)) ?_)
   refine af ?_
   refine YH.seq (YH.seg hE 2 ?_)
   have hx':l.getD (addN 0 ((j:Nat):Int).toNat) 0=l[j]:=hx
   refine ag (by rw[hx',e1,List.drop_zero,List.take_length,ha1];simp) ?_
   refine af ?_
   rw[hx',e1]
   have hfx:fmX p l[j]=(((ptxt ((ypos l[j] p).getD ⟨0,0,[],false,0,0,0,0⟩)).getD ([],0)).1,(ypos l[j] p).getD ⟨0,0,[],false,0,0,0,0⟩,l[j]):=rfl
   rw[hfx]at ha2
   generalize (ypos l[j] p).getD ⟨0,0,[],false,0,0,0,0⟩=q at hfx ha2 ⊢
   dsimp only at ha2
   have e2:(⟨q.f,q.r,List.take q.zs.length (List.drop 0 q.zs),q.bl,q.ca,q.pa,q.ha,q.fu⟩:Psn)=q:=by rw[List.drop_zero,List.take_length]
   refine YH.seq (YH.seg hE 2 ?_)
   refine ag (by rw[e2,List.drop_zero,List.take_length,ha2];simp) ?_
   repeat (first|refine ai ?_|refine ag (by first|rfl|(simp;done)) ?_)
   refine af ?_
   rw[e2]
   refine YH.seq (YH.yregAt ok 2 5 rfl rfl rfl ?_)
   repeat (first|refine ai ?_|refine ag (by first|rfl|exact tt1 _ _|exact tt5 _ _|(simp;done)|(simp;omega)) ?_)
   refine af ?_
   have hg:(l.map fun y=>(ot (fmX p y),fmNs (fmX p y)))[j]?=some (ot (fmX p l[j]),fmNs (fmX p l[j])):=by rw[List.getElem?_map,List.getElem?_eq_getElem hj];rfl
   rw[hfx]at hg
   first
    |refine⟨j,_,_,[0,1,9,10,11],[3,4],_,rfl,hg,rfl,rfl,rfl,rfl,rfl,rfl,rfl,rfl,fun b=>?_⟩
    |refine⟨j,_,_,[0,1,9,10,11],[4],_,rfl,hg,rfl,rfl,rfl,rfl,rfl,rfl,rfl,rfl,fun b=>?_⟩
   cases b with
   |true=>
    repeat (first|refine ai ?_|refine ag (by first|rfl|exact tt1 _ _|exact tt5 _ _|(simp;done)|(simp;omega)) ?_)
    refine af ?_
    refine YH.seg hE 2 ?_
    repeat (first|refine ai ?_|refine ag (by first|rfl|exact tt1 _ _|exact tt5 _ _|(simp;done)|(simp;omega)) ?_)
    refine af ?_
    refine YH.seg hE 2 ?_
    repeat (first|refine ai ?_|refine ag (by first|rfl|exact tt1 _ _|exact tt5 _ _|(simp;done)|(simp;omega)) ?_)
    refine af ⟨(j+1,true),hj,by dsimp only;omega,rfl,?_⟩
    dsimp only
    rw[hw]
    exact Ent.ren [0,1,2,3] [0,1,9,10,11] rfl rfl rfl
   |false=>
    repeat (first|refine ai ?_|refine ag (by first|rfl|exact tt1 _ _|exact tt5 _ _|(simp;done)|(simp;omega)) ?_)
    refine af ?_
    refine YH.seg hE 2 ?_
    repeat (first|refine ai ?_|refine ag (by first|rfl|exact tt1 _ _|exact tt5 _ _|(simp;done)|(simp;omega)) ?_)
    exact af ⟨.inr rfl,.inr rfl⟩
  ·have hj:j=l.length:=by have h1:=of_decide_eq_false h1;omega
   refine⟨.inl rfl,.inl ?_⟩
   dsimp only
   rw[hj,List.length_map]
section
variable{kCa kDb:Bool}
structure Frm where
 t:List UInt8
 f:Int
 r:Int
 zs:List Int
 bl:Bool
 ca:Int
 pa:Int
 ha:Int
 fu:Int
 y:Int
def ycl(a:Frm)(b:Frm):Option (Int):=bn (cmpS a.t b.t) 0 fun(y4:Int)=>some y4
def LY(R:Int):V:=.int .i64 R
def KK(_:Int):List O:=[]
def wM:CF
 |[.agg [.str a_0,.int .i64 a_1,.int .i64 a_2,.sl 0 0 a_3n none,.bool a_4,.int .u8 a_5,.int .i64 a_6,.int .i64 a_7,.int .i64 a_8,.int .u8 a_9],.agg [.str b_0,.int .i64 b_1,.int .i64 b_2,.sl 1 0 b_3n none,.bool b_4,.int .u8 b_5,.int .i64 b_6,.int .i64 b_7,.int .i64 b_8,.int .u8 b_9]],[.ints false .i8 a_3,.ints false .i8 b_3]=>retC (decide (a_3n=a_3.length)&&decide (b_3n=b_3.length)) (ycl ⟨a_0,a_1,a_2,a_3,a_4,a_5,a_6,a_7,a_8,a_9⟩ ⟨b_0,b_1,b_2,b_3,b_4,b_5,b_6,b_7,b_8,b_9⟩) 0 LY KK
 |_,_=>none
theorem JY(a:Frm)(b:Frm){r}(hr:ycl a b=some r):ay (GGx kCa kDb) PP 51 [.agg [.str a.t,.int .i64 a.f,.int .i64 a.r,.sl 0 0 a.zs.length none,Bb a.bl,.int .u8 a.ca,.int .i64 a.pa,.int .i64 a.ha,.int .i64 a.fu,.int .u8 a.y],.agg [.str b.t,.int .i64 b.f,.int .i64 b.r,.sl 1 0 b.zs.length none,Bb b.bl,.int .u8 b.ca,.int .i64 b.pa,.int .i64 b.ha,.int .i64 b.fu,.int .u8 b.y]] [.ints false .i8 a.zs,.ints false .i8 b.zs] (LY r) (KK r):=by
 have hE:=cutE (aD (kCa:=kCa) (kDb:=kDb) (cts:=[(52,BA)]) (inl:=[]) ⟨Fb,trivial⟩ trivial)
 refine cg hE 2 Tryz.func51 rfl rfl LY KK hr ?_ rfl rfl
 unfold ycl
 refine aE (pl rfl id) ?_
 exact aN (aJ [] (.inr rfl) rfl rfl rfl rfl rfl)
theorem mC:CtOk (GGx kCa kDb) PP (51,wM):=by
 refine aF Tryz.func51 (by kernel_rfl) rfl fun a0 h0 c0 v0 N0 e hc=>?_
 unfold wM at e
 split at e
 ·rename_i a_0 a_1 a_2 a_3n a_4 a_5 a_6 a_7 a_8 a_9 b_0 b_1 b_2 b_3n b_4 b_5 b_6 b_7 b_8 b_9 a_3 b_3
  obtain⟨hl,r,hr,rfl,rfl⟩:=bu e hc
  simp only[Bool.and_eq_true,decide_eq_true_eq]at hl
  obtain⟨rfl,rfl⟩:=hl
  exact JY ⟨a_0,a_1,a_2,a_3,a_4,a_5,a_6,a_7,a_8,a_9⟩ ⟨b_0,b_1,b_2,b_3,b_4,b_5,b_6,b_7,b_8,b_9⟩ hr
 ·cases e
end
end Go.Ab
