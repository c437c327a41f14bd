/- Contracts of the functions that the laws reach, and plain laws of what they compute (text G7); no condition. -/
import Derived.Test.YtlannahgjgpfcaaGreatDoorG5
import Derived.Test.YtlannahgjgpfcaaGreatDoorG3
set_option maxRecDepth 100000
namespace Go.Ab
open Go.Proofs
section
variable{kCa kDb:Bool}
def Ct(n:Int):Bool:=decide (3<=n)&&decide (n<=8)
def vsB(f r:Int):Bool:=Ct f&&Ct r
def onB(f r x y:Int):Bool:=decide (0<=x)&&decide (x<f)&&decide (0<=y)&&decide (y<r)
def ak(f r n:Int):Bool:=vsB f r&&decide (0<=n)&&decide (n<IntKind.i64.wrap (f*r))
def atR(f r x y:Int):Int×Int:=bif vsB f r then(bif onB f r x y then(IntKind.i64.wrap (x+IntKind.i64.wrap (y*f)),0) else(0,3)) else(0,2)
def aZ(f r n:Int):Int×Int×Int:=bif ak f r n then(n.tmod f,IntKind.i64.wrap (n.tdiv f),0) else(0,0,2)
def Ee:CF
 |[.int .i64 n],[]=>some (true,.bool (Ct n),[])
 |_,_=>none
theorem DH:CtOk (GGx kCa kDb) PP (123,Ee):=by
 refine aF Tryz.func123 (by kernel_rfl) rfl fun a0 h0 c0 v0 N0 e hc=>?_
 unfold Ee at e
 split at e
 ·rename_i n
  cases e
  have hE:=aD (kCa:=kCa) (kDb:=kDb) (cts:=[]) (inl:=[]) trivial trivial
  refine av hE 2 Tryz.func123 rfl rfl ?_
  repeat (first|refine ai ?_|refine sat_nd ?_)
  exact af (aj (.inr rfl) rfl rfl rfl rfl)
 ·cases e
def c_vs:CF
 |[.agg [.int .i64 f,.int .i64 r]],[]=>some (true,.bool (vsB f r),[])
 |_,_=>none
theorem kK:CtOk (GGx kCa kDb) PP (70,c_vs):=by
 refine aF Tryz.func70 (by kernel_rfl) rfl fun a0 h0 c0 v0 N0 e hc=>?_
 unfold c_vs at e
 split at e
 ·rename_i f r
  cases e
  have hE:=aD (kCa:=kCa) (kDb:=kDb) (cts:=[(123,Ee)]) (inl:=[]) ⟨DH,trivial⟩ trivial
  refine av hE 2 Tryz.func70 rfl rfl ?_
  repeat (first|refine ai ?_|refine sat_nd ?_)
  exact af (aj (.inr rfl) rfl rfl rfl rfl)
 ·cases e
def c_on:CF
 |[.agg [.int .i64 f,.int .i64 r],.int .i64 x,.int .i64 y],[]=>some (true,.bool (onB f r x y),[])
 |_,_=>none
theorem LD:CtOk (GGx kCa kDb) PP (232,c_on):=by
 refine aF Tryz.func232 (by kernel_rfl) rfl fun a0 h0 c0 v0 N0 e hc=>?_
 unfold c_on at e
 split at e
 ·rename_i f r x y
  cases e
  have hE:=aD (kCa:=kCa) (kDb:=kDb) (cts:=[]) (inl:=[]) trivial trivial
  refine av hE 2 Tryz.func232 rfl rfl ?_
  repeat (first|refine ai ?_|refine sat_nd ?_)
  exact af (aj (.inr rfl) rfl rfl rfl rfl)
 ·cases e
def iJ:CF
 |[.agg [.int .i64 f,.int .i64 r],.int .i64 n],[]=>some (true,.bool (ak f r n),[])
 |_,_=>none
theorem fy:CtOk (GGx kCa kDb) PP (75,iJ):=by
 refine aF Tryz.func75 (by kernel_rfl) rfl fun a0 h0 c0 v0 N0 e hc=>?_
 unfold iJ at e
 split at e
 ·rename_i f r n
  cases e
  have hE:=aD (kCa:=kCa) (kDb:=kDb) (cts:=[(70,c_vs)]) (inl:=[]) ⟨kK,trivial⟩ trivial
  refine av hE 2 Tryz.func75 rfl rfl ?_
  repeat (first|refine ai ?_|refine sat_nd ?_)
  exact af (aj (.inr rfl) rfl rfl rfl rfl)
 ·cases e
def c_at:CF
 |[.agg [.int .i64 f,.int .i64 r],.int .i64 x,.int .i64 y],[]=>some (true,.tup [I (atR f r x y).1,I (atR f r x y).2],[])
 |_,_=>none
theorem EL:CtOk (GGx kCa kDb) PP (222,c_at):=by
 refine aF Tryz.func222 (by kernel_rfl) rfl fun a0 h0 c0 v0 N0 e hc=>?_
 unfold c_at at e
 split at e
 ·rename_i f r x y
  cases e
  have hE:=aD (kCa:=kCa) (kDb:=kDb) (cts:=[(70,c_vs),(232,c_on)]) (inl:=[]) ⟨kK,LD,trivial⟩ trivial
  refine av hE 2 Tryz.func222 rfl rfl ?_
  repeat (first|refine ai ?_|refine sat_nd ?_)
  refine aq (fun h1=>?_) (fun h1=>?_)
  ·exact af (aj (.inr rfl) rfl rfl rfl (by simp_all [atR]))
  ·repeat (first|refine ai ?_|refine sat_nd ?_)
   refine aq (fun h2=>?_) (fun h2=>?_)
   ·exact af (aj (.inr rfl) rfl rfl rfl (by simp_all [atR]))
   ·exact af (aj (.inr rfl) rfl rfl rfl (by simp_all [atR]))
 ·cases e
theorem cY{f r:Int}(h:vsB f r=true):3<=f/\f<=8/\3<=r/\r<=8:=by
 simp[vsB,Ct]at h;omega
theorem bO{f r n:Int}(h:ak f r n=true):vsB f r=true:=by
 simp only[ak,Bool.and_eq_true]at h;exact h.1.1
def mX:CF
 |[.agg [.int .i64 f,.int .i64 r],.int .i64 n],[]=>some (true,.tup [I (aZ f r n).1,I (aZ f r n).2.1,I (aZ f r n).2.2],[])
 |_,_=>none
theorem jP:CtOk (GGx kCa kDb) PP (166,mX):=by
 refine aF Tryz.func166 (by kernel_rfl) rfl fun a0 h0 c0 v0 N0 e hc=>?_
 unfold mX at e
 split at e
 ·rename_i f r n
  cases e
  have hE:=aD (kCa:=kCa) (kDb:=kDb) (cts:=[(75,iJ)]) (inl:=[]) ⟨fy,trivial⟩ trivial
  refine av hE 2 Tryz.func166 rfl rfl ?_
  repeat (first|refine ai ?_|refine sat_nd ?_)
  refine aq (fun h1=>?_) (fun h1=>?_)
  ·exact af (aj (.inr rfl) rfl rfl rfl (by simp_all [aZ]))
  ·simp only[Bool.not_eq_false']at h1
   have hf:=cY (bO h1)
   repeat (first|refine ai ?_|refine ag (by first|rfl|(simp;omega)) ?_)
   exact af (aj (.inr rfl) rfl rfl rfl (by simp_all [aZ]))
 ·cases e
end
end Go.Ab
namespace Go.Ab
open IntKind
open Go.Proofs
section
variable{kCa kDb:Bool}
def allU(f r:Int):Int:=ushr 18446744073709551615 (i64.wrap (64-i64.wrap (f*r)))
theorem aC{n:Int}(h1:-9223372036854775808<=n)(h2:n<=9223372036854775807):i64.wrap n=n:=IntWalk.i64_in _ (by omega)
theorem cV{f r:Int}(h:vsB f r=true):9<=f*r/\f*r<=64:=by
 obtain⟨h1,h2,h3,h4⟩:=cY h
 have e1:3*3<=f*r:=Int.mul_le_mul h1 h3 (by omega) (by omega)
 have e2:f*r<=8*8:=Int.mul_le_mul h2 h4 (by omega) (by omega)
 omega
theorem fj{f r:Int}(h:vsB f r=true):i64.wrap (f*r)=f*r:=aC (by have:=cV h;omega) (by have:=cV h;omega)
def Jl:CF
 |[.agg [.int .i64 f,.int .i64 r]],[]=>some (vsB f r,.int .u64 (allU f r),[])
 |_,_=>none
theorem Ge:CtOk (GGx kCa kDb) PP (124,Jl):=by
 refine aF Tryz.func124 (by kernel_rfl) rfl fun a0 h0 c0 v0 N0 e hc=>?_
 unfold Jl at e
 split at e
 ·rename_i f r
  cases e
  have hE:=aD (kCa:=kCa) (kDb:=kDb) (cts:=[]) (inl:=[]) trivial trivial
  refine av hE 2 Tryz.func124 rfl rfl ?_
  have hm:=cV hc
  refine ag (by rw[fj hc,aC (by omega) (by omega)];simp;omega) ?_
  exact af (aj (.inr rfl) rfl rfl rfl rfl)
 ·cases e
def Kx:CF
 |[.agg [.int .i64 f,.int .i64 r]],[]=>some (true,.tup [U (bif vsB f r then allU f r else 0),I (bif vsB f r then 0 else 2)],[])
 |_,_=>none
theorem Ij:CtOk (GGx kCa kDb) PP (76,Kx):=by
 refine aF Tryz.func76 (by kernel_rfl) rfl fun a0 h0 c0 v0 N0 e hc=>?_
 unfold Kx at e
 split at e
 ·rename_i f r
  cases e
  have hE:=aD (kCa:=kCa) (kDb:=kDb) (cts:=[(70,c_vs),(124,Jl)]) (inl:=[]) ⟨kK,Ge,trivial⟩ trivial
  refine av hE 2 Tryz.func76 rfl rfl ?_
  repeat (first|refine ai ?_|refine sat_nd ?_)
  refine aq (fun h1=>?_) (fun h1=>?_)
  ·exact af (aj (.inr rfl) rfl rfl rfl (by simp_all))
  ·refine ag (by simpa using h1) ?_
   exact af (aj (.inr rfl) rfl rfl rfl (by simp_all))
 ·cases e
def fwd(b:Bool):Int:=bif b then -1 else 1
def sgn(n:Int):Int:=bif decide (n<0)then -1 else bif decide (0<n)then 1 else 0
def kz(f r n set:Int):Bool:=ak f r n&&decide (de set (allU f r)=0)
def ov:CF
 |[.bool b],[]=>some (true,.int .i64 (fwd b),[])
 |_,_=>none
theorem tv:CtOk (GGx kCa kDb) PP (221,ov):=by
 refine aF Tryz.func221 (by kernel_rfl) rfl fun a0 h0 c0 v0 N0 e hc=>?_
 unfold ov at e
 split at e
 ·rename_i b
  cases e
  have hE:=aD (kCa:=kCa) (kDb:=kDb) (cts:=[]) (inl:=[]) trivial trivial
  refine av hE 2 Tryz.func221 rfl rfl ?_
  refine aq (fun h1=>?_) (fun h1=>?_)
  ·exact af (aj (.inr rfl) rfl rfl rfl (by simp_all [fwd]))
  ·exact af (aj (.inr rfl) rfl rfl rfl (by simp_all [fwd]))
 ·cases e
def vx:CF
 |[.agg [.int .i64 f,.int .i64 r],.int .i64 n,.int .u64 set],[]=>some (true,.bool (kz f r n set),[])
 |_,_=>none
theorem zN:CtOk (GGx kCa kDb) PP (207,vx):=by
 refine aF Tryz.func207 (by kernel_rfl) rfl fun a0 h0 c0 v0 N0 e hc=>?_
 unfold vx at e
 split at e
 ·rename_i f r n set
  cases e
  have hE:=aD (kCa:=kCa) (kDb:=kDb) (cts:=[(76,Kx),(75,iJ)]) (inl:=[]) ⟨Ij,fy,trivial⟩ trivial
  refine av hE 2 Tryz.func207 rfl rfl ?_
  repeat (first|refine ai ?_|refine sat_nd ?_)
  exact af (aj (.inr rfl) rfl rfl rfl (by cases h:vsB f r<;>simp[kz,ak,h]))
 ·cases e
def dirR(f r a b:Int):Int×Int×Int:=
 bif ak f r a&&ak f r b then
  (let x:=i64.wrap (b.tmod f-a.tmod f);let y:=i64.wrap (i64.wrap (b.tdiv f)-i64.wrap (a.tdiv f))
   bif decide (a=b)||(!decide (x=0)&&!decide (y=0)&&!decide (x=y)&&!decide (x=i64.wrap (0-y))) then(0,0,9) else(sgn x,sgn y,0))
 else(0,0,2)
end
section
variable{kCa kDb:Bool}
def sY(f r x y:Int)(row:List Int):Int×Int:=atR f r (i64.wrap (x+row.getD 0 0)) (i64.wrap (y+row.getD 1 0))
def fS(f r x y set:Int)(row:List Int):Int:=bif decide ((sY f r x y row).2=0)then uor set (ushl 1 (sY f r x y row).1)else set
def bZ(f r n:Int)(rs:List (List Int)):Int:=rs.foldl (fS f r (aZ f r n).1 (aZ f r n).2.1) 0
theorem kZ{f r x y:Int}(h:(atR f r x y).2=0):0<=(atR f r x y).1/\(atR f r x y).1<64/\vsB f r=true/\onB f r x y=true/\(atR f r x y).1=x+y*f:=by
 unfold atR at h ⊢
 cases h1:vsB f r
 ·simp[h1]at h
 ·cases h2:onB f r x y
  ·simp[h1,h2]at h
  ·simp only[cond_true]
   obtain⟨a1,a2,a3,a4⟩:=cY h1
   simp only[onB,Bool.and_eq_true,decide_eq_true_eq]at h2
   obtain⟨⟨⟨b1,b2⟩,b3⟩,b4⟩:=h2
   have hm:=cV h1
   have e1:0<=y*f:=Int.mul_nonneg b3 (by omega)
   have e2:(y+1)*f<=r*f:=Int.mul_le_mul_of_nonneg_right (by omega) (by omega)
   rw[Int.add_mul,Int.mul_comm r f]at e2
   have e3:i64.wrap (y*f)=y*f:=aC (by omega) (by omega)
   have e4:i64.wrap (x+y*f)=x+y*f:=aC (by omega) (by omega)
   rw[e3,e4]
   refine⟨by omega,by omega,?_,?_,?_⟩<;>first|rfl|trivial
theorem sj{α β:Type}(l:List α)(d:α)(f:β->α->β)(b:β){k:Nat}(h:k<l.length):(l.take (k+1)).foldl f b=f ((l.take k).foldl f b) (l.getD k d):=by
 rw[List.take_succ_eq_append_getElem h,List.foldl_append]
 simp[List.getD,h]
def xR:CF
 |[.agg [.int .i64 f,.int .i64 r],.int .i64 n,.sl 0 0 len none],[.rows false [.i64,.i64] rs]=>some (decide (len=rs.length)&&decide (rs.length<=1000000),.int .u64 (bZ f r n rs),[])
 |_,_=>none
theorem tG:CtOk (GGx kCa kDb) PP (208,xR):=by
 refine aF Tryz.func208 (by kernel_rfl) rfl fun a0 h0 c0 v0 N0 e hc=>?_
 unfold xR at e
 split at e
 ·rename_i f r n len rs
  cases e
  have hE:=aD (kCa:=kCa) (kDb:=kDb) (cts:=[(222,c_at),(166,mX)]) (inl:=[]) ⟨EL,jP,trivial⟩ trivial
  refine av hE 2 Tryz.func208 rfl rfl ?_
  simp only[Bool.and_eq_true,decide_eq_true_eq]at hc
  obtain⟨hc1,hc2⟩:=hc
  subst hc1
  repeat (first|refine ai ?_|refine sat_nd ?_)
  refine jY hE 2 (fun a:Int×Int=>([(3,.ptr 1 0 0),(7,I (aZ f r n).1),(8,I (aZ f r n).2.1),(10,U a.2),(22,.sl 0 0 rs.length none),(23,I rs.length),(24,I a.1)],[.rows false [.i64,.i64] rs,.cells true [I f,I r]]))
   (fun a=>∃ k:Nat,k<=rs.length/\a.1=k/\a.2=(rs.take k).foldl (fS f r (aZ f r n).1 (aZ f r n).2.1) 0) (fun a=>rs.length-a.1.toNat) (0,0)
   (Ent.ren [0,1] [3,7,8,10,22,23,24] rfl rfl rfl) ⟨0,Nat.zero_le _,rfl,rfl⟩ ?_
  rintro⟨i,set⟩ ⟨k,hk,h1,h2⟩
  dsimp only at h1 h2 ⊢
  refine aq (fun hlt=>?_) (fun hlt=>?_)
  ·simp only[decide_eq_true_eq]at hlt
   have hki:i.toNat=k:=by omega
   refine ag (by simp;omega) ?_
   repeat (first|refine ai ?_|refine sat_nd ?_)
   have hstep:=sj rs [] (fS f r (aZ f r n).1 (aZ f r n).2.1) 0 (show k<rs.length by omega)
   rw[<-h2,<-hki]at hstep
   have hnext:i64.wrap (i+1)=((k+1:Nat):Int):=by rw[aC (by omega) (by omega)];omega
   refine aq (fun hon=>?_) (fun hon=>?_)
   ·have hon':decide ((sY f r (aZ f r n).1 (aZ f r n).2.1 (rs.getD i.toNat [])).2=0)=true:=hon
    refine ag (by have:=(kZ (of_decide_eq_true hon)).1;exact decide_eq_true this) ?_
    refine af ⟨(_,_),⟨k+1,by omega,hnext,?_⟩,?_,Ent.ren [0,1] [3,7,8,10,22,23,24] rfl rfl rfl⟩
    ·rw[<-hki,hstep,fS,hon'];rfl
    ·show _-(i64.wrap (i+1)).toNat<_
     rw[hnext];omega
   ·have hon':decide ((sY f r (aZ f r n).1 (aZ f r n).2.1 (rs.getD i.toNat [])).2=0)=false:=hon
    refine af ⟨(_,_),⟨k+1,by omega,hnext,?_⟩,?_,Ent.ren [0,1] [3,7,8,10,22,23,24] rfl rfl rfl⟩
    ·rw[<-hki,hstep,fS,hon'];rfl
    ·show _-(i64.wrap (i+1)).toNat<_
     rw[hnext];omega
  ·simp only[decide_eq_false_iff_not]at hlt
   obtain rfl:k=rs.length:=by omega
   rw[List.take_length]at h2
   refine af (af (aj (.inr rfl) rfl rfl rfl (by rw[h2];rfl)))
 ·cases e
end
end Go.Ab
namespace Go.Ab
open Go.Proofs
section
variable{kCa kDb:Bool}
def kG(f r df dr:Int):Nat->Int->Int->List Int
 |0,_,_=>[]
 |k+1,x,y=>bif decide ((atR f r (IntKind.i64.wrap (x+df)) (IntKind.i64.wrap (y+dr))).2=0) then(atR f r (IntKind.i64.wrap (x+df)) (IntKind.i64.wrap (y+dr))).1::kG f r df dr k (IntKind.i64.wrap (x+df)) (IntKind.i64.wrap (y+dr)) else[]
def gD(df dr:Int):Bool:=decide (8<=imax true (imax true (imax true df (IntKind.i64.wrap (0-df))) dr) (IntKind.i64.wrap (0-dr)))||decide (df < -8)||decide (dr < -8)
def rayL(f r n df dr:Int):List Int:=bif ak f r n&&!(decide (df=0)&&decide (dr=0))&&!gD df dr then kG f r df dr 9 (aZ f r n).1 (aZ f r n).2.1 else[]
def rayV(f r n df dr:Int):List (List V):=(rayL f r n df dr).map fun x=>[I x]
theorem Dt{df dr:Int}(h:gD df dr=false):-7<=df/\df<=7/\-7<=dr/\dr<=7:=by
 simp only[gD,Bool.or_eq_false_iff,decide_eq_false_iff_not]at h
 obtain⟨⟨h1,h2⟩,h3⟩:=h
 have m:∀ x y:Int,x<=imax true x y/\y<=imax true x y:=fun x y=>by
  unfold imax
  by_cases h:x<y<;>simp[h]<;>omega
 have e1:=m df (IntKind.i64.wrap (0-df))
 have e2:=m (imax true df (IntKind.i64.wrap (0-df))) dr
 have e3:=m (imax true (imax true df (IntKind.i64.wrap (0-df))) dr) (IntKind.i64.wrap (0-dr))
 have f1:df<=7:=by omega
 have f2:dr<=7:=by omega
 rw[aC (n:=0-df) (by omega) (by omega)]at e1 e2 e3
 rw[aC (n:=0-dr) (by omega) (by omega)]at e3
 rw[aC (n:=0-df) (by omega) (by omega),aC (n:=0-dr) (by omega) (by omega)]at h1
 omega
theorem qz{f r n:Int}(h:ak f r n=true):0<=(aZ f r n).1/\(aZ f r n).1<f/\0<=(aZ f r n).2.1/\(aZ f r n).2.1<r/\(aZ f r n).1=n%f/\(aZ f r n).2.1=n/f:=by
 have hv:=bO h
 obtain⟨a1,a2,a3,a4⟩:=cY hv
 have hm:=cV hv
 simp only[aZ,h,cond_true]
 simp only[ak,Bool.and_eq_true,decide_eq_true_eq]at h
 obtain⟨⟨h1,h2⟩,h3⟩:=h
 rw[fj hv]at h3
 have e1:n.tmod f=n%f:=Int.tmod_eq_emod_of_nonneg h2
 have e2:n.tdiv f=n/f:=Int.tdiv_eq_ediv_of_nonneg h2
 have b1:=Int.emod_nonneg n (show f≠0 by omega)
 have b2:=Int.emod_lt_of_pos n (show 0<f by omega)
 have b3:0<=n/f:=Int.ediv_nonneg h2 (by omega)
 have b4:n/f<r:=Int.ediv_lt_of_lt_mul (by omega) (by rw[Int.mul_comm];exact h3)
 rw[e1,e2,aC (by omega) (by omega)]
 exact⟨b1,b2,b3,b4,rfl,rfl⟩
theorem oG{f r x y:Int}(h:onB f r x y=true):0<=x/\x<f/\0<=y/\y<r:=by
 simp only[onB,Bool.and_eq_true,decide_eq_true_eq]at h
 obtain⟨⟨⟨b1,b2⟩,b3⟩,b4⟩:=h
 exact⟨b1,b2,b3,b4⟩
theorem Mr(f r n df dr:Int):qJ (GGx kCa kDb) PP 233 [[I f,I r],[I n],[I df],[I dr]] (rayV f r n df dr):=by
 have hE:=aD (kCa:=kCa) (kDb:=kDb) (cts:=[(166,mX),(222,c_at)]) (inl:=[]) ⟨jP,EL,trivial⟩ trivial
 refine Gg hE Tryz.func233 rfl rfl rfl rfl fun nn l S0 ρc J ok=>?_
 refine YG.seq (YG.seg hE 2 ?_)
 repeat (first|refine ai ?_|refine sat_nd ?_)
 refine af ?_
 refine YG.seq (YG.seg hE 2 ?_)
 repeat (first|refine ai ?_|refine sat_nd ?_)
 refine aq (fun h1=>af ⟨.inr rfl,.inl ?_⟩) (fun h1=>af ?_)
 ·have:rayV f r n df dr=[]:=by
   cases hv:ak f r n<;>simp_all [rayV,rayL,aZ]
  rw[this];rfl
 have hv:ak f r n=true:=by cases hv:ak f r n<;>simp_all [aZ]
 have hnz:(decide (df=0)&&decide (dr=0))=false:=by
  cases h:(decide (df=0)&&decide (dr=0))<;>simp_all
 refine YG.seq (YG.seg hE 2 ?_)
 repeat (first|refine ai ?_|refine sat_nd ?_)
 refine aq (fun h2=>af ⟨.inr rfl,.inl ?_⟩) (fun h2=>af ?_)
 ·have h2:gD df dr=true:=h2
  have:rayV f r n df dr=[]:=by simp[rayV,rayL,h2]
  rw[this];rfl
 have h2:gD df dr=false:=h2
 have hL:rayL f r n df dr=kG f r df dr 9 (aZ f r n).1 (aZ f r n).2.1:=by simp only[rayL,hv,hnz,h2];rfl
 have hb:=Dt h2
 have hp:=qz hv
 have hsz:=cY (bO hv)
 have hdd:df≠0\/dr≠0:=by
  by_cases e:df=0
  ·right;rintro rfl;simp[e]at hnz
  ·exact .inl e
 refine YG.block (YG.loop (fun a:Nat×Int×Int=>(some a.1,[(0,.yl 4),(1,.ptr 0 0 0),(2,.ptr 1 0 0),(3,.ptr 2 0 0),(4,.ptr 3 0 0),(6,I a.2.1),(7,I a.2.2)],hp0 [[I f,I r],[I n],[I df],[I dr]]))
  (fun a=>0<=a.2.1/\a.2.1<f/\0<=a.2.2/\a.2.2<r/\(1<=df->a.1<=a.2.1)/\(df<=-1->a.2.1+a.1<=7)/\(1<=dr->a.1<=a.2.2)/\(dr<=-1->a.2.2+a.1<=7)/\a.1<=(rayL f r n df dr).length/\(rayL f r n df dr).drop a.1=kG f r df dr (9-a.1) a.2.1 a.2.2)
  (fun a=>8-a.1) (0,(aZ f r n).1,(aZ f r n).2.1) rfl (Ent.ren [0,1,2,3,4] [0,1,2,3,4,6,7] rfl rfl rfl) ?_ ?_)
 ·exact⟨hp.1,hp.2.1,hp.2.2.1,hp.2.2.2.1,by intro;simp;omega,by intro;simp;omega,by intro;simp;omega,by intro;simp;omega,Nat.zero_le _,by simpa using hL⟩
 rintro⟨i,x,y⟩ ⟨i1,i2,i3,i4,i5,i6,i7,i8,i9,i10⟩
 dsimp only at i1 i2 i3 i4 i5 i6 i7 i8 i9 i10 ⊢
 have hi8:i<=7:=by omega
 refine YG.block (YG.seq (YG.seg hE 2 ?_))
 repeat (first|refine ai ?_|refine sat_nd ?_)
 refine af ?_
 refine YG.seq (YG.seg hE 2 ?_)
 repeat (first|refine ai ?_|refine sat_nd ?_)
 refine af ?_
 refine YG.seq (YG.yregAt ok 2 5 rfl rfl rfl ?_)
 refine af ?_
 have hgo:∀ b,decide ((atR f r (IntKind.i64.wrap (x+df)) (IntKind.i64.wrap (y+dr))).2=0)=b->kG f r df dr (9-i) x y=bif b then(atR f r (IntKind.i64.wrap (x+df)) (IntKind.i64.wrap (y+dr))).1::kG f r df dr (8-i) (IntKind.i64.wrap (x+df)) (IntKind.i64.wrap (y+dr)) else[]:=by
  intro b hb
  rw[show 9-i=(8-i)+1 by omega]
  simp only[kG,hb]
 refine⟨fun hg=>?_,fun hg=>?_⟩
 ·have hg:decide ((atR f r (IntKind.i64.wrap (x+df)) (IntKind.i64.wrap (y+dr))).2=0)=true:=by simpa using hg
  have he:=of_decide_eq_true hg
  obtain⟨p1,p2,p3,p4,p5⟩:=kZ he
  have hon:=oG p4
  have hwx:IntKind.i64.wrap (x+df)=x+df:=aC (by omega) (by omega)
  have hwy:IntKind.i64.wrap (y+dr)=y+dr:=aC (by omega) (by omega)
  have hr:=hgo true hg
  rw[cond_true]at hr
  rw[hr]at i10
  have hlt:i<(rayL f r n df dr).length:=by
   have:=congrArg List.length i10
   simp only[List.length_drop,List.length_cons]at this
   omega
  have hat:(rayL f r n df dr)[i]?=some (atR f r (IntKind.i64.wrap (x+df)) (IntKind.i64.wrap (y+dr))).1:=by
   have:=congrArg (fun l:List Int=>l[0]?) i10
   simpa using this
  have hdr:(rayL f r n df dr).drop (i+1)=kG f r df dr (8-i) (IntKind.i64.wrap (x+df)) (IntKind.i64.wrap (y+dr)):=by
   have:=congrArg (List.drop 1) i10
   simpa[List.drop_drop,Nat.add_comm]using this
  repeat (first|refine ai ?_|refine sat_nd ?_)
  refine af ?_
  refine⟨i,[I (atR f r (IntKind.i64.wrap (x+df)) (IntKind.i64.wrap (y+dr))).1],[0,1,2,3,4,6,7,59],rfl,by simp[rayV,hat],rfl,rfl,rfl,rfl,fun b=>?_⟩
  cases b with
  |true=>
   refine af ?_
   refine YG.seg hE 2 ?_
   refine af ⟨(i+1,IntKind.i64.wrap (x+df),IntKind.i64.wrap (y+dr)),?_,?_,rfl,Ent.ren [0,1,2,3,4] [0,1,2,3,4,6,7] rfl rfl rfl⟩
   ·dsimp only
    rw[hwx,hwy]at hon
    rw[hdr,hwx,hwy,show 9-(i+1)=8-i by omega]
    refine⟨hon.1,hon.2.1,hon.2.2.1,hon.2.2.2,?_,?_,?_,?_,by omega,rfl⟩<;>intro h<;>push_cast<;>omega
   ·dsimp only;omega
  |false=>
   refine af ?_
   refine YG.seg hE 2 ?_
   exact af ⟨.inr rfl,.inr rfl⟩
 ·have hg:decide ((atR f r (IntKind.i64.wrap (x+df)) (IntKind.i64.wrap (y+dr))).2=0)=false:=by simpa using hg
  have hr:=hgo false hg
  rw[cond_false]at hr
  rw[hr]at i10
  have hlen:i=(rayL f r n df dr).length:=by
   have:=congrArg List.length i10
   simp only[List.length_drop,List.length_nil]at this
   omega
  refine af ?_
  refine YG.seg hE 2 ?_
  exact af ⟨.inr rfl,.inl (by simp[rayV,<-hlen])⟩
end
end Go.Ab
namespace Go.Ab
open IntKind
open Go.Proofs
section
variable{kCa kDb:Bool}
theorem GR{f r n df dr:Int}{i:Nat}{vs:List V}(h:(rayV f r n df dr)[i]?=some vs):∃ x,(rayL f r n df dr)[i]?=some x/\vs=[I x]/\0<=x/\x<64:=by
 simp only[rayV,List.getElem?_map,Option.map_eq_some_iff]at h
 obtain⟨x,h1,rfl⟩:=h
 refine⟨x,h1,rfl,?_⟩
 have hm:=List.mem_of_getElem? h1
 have key:∀ (k:Nat) (a b:Int),x∈kG f r df dr k a b->0<=x/\x<64:=by
  intro k
  induction k with
  |zero=>intro a b h;simp[kG]at h
  |succ k ih=>
   intro a b h
   rw[kG]at h
   cases hb:decide ((atR f r (i64.wrap (a+df)) (i64.wrap (b+dr))).2=0) with
   |false=>rw[hb]at h;simp at h
   |true=>
    rw[hb,cond_true]at h
    rcases List.mem_cons.1 h with rfl|h
    ·have:=kZ (of_decide_eq_true hb);exact⟨this.1,this.2.1⟩
    ·exact ih _ _ h
 unfold rayL at hm
 cases hc:(ak f r n&&!(decide (df=0)&&decide (dr=0))&&!gD df dr) with
 |false=>rw[hc]at hm;simp at hm
 |true=>rw[hc,cond_true]at hm;exact key _ _ _ hm
theorem HP{f r n df dr:Int}:∀ vs∈rayV f r n df dr,vs.length=1:=by
 intro vs h
 simp only[rayV,List.mem_map]at h
 obtain⟨x,_,rfl⟩:=h
 rfl
theorem wF{f r n df dr:Int}:(rayV f r n df dr).length=(rayL f r n df dr).length:=by simp[rayV]
theorem KU:fq PP 233:=ent Tryz.func233 rfl rfl
def mP(b:Int):List Int->Int->Int
 |[],s=>s
 |x::l,s=>bif decide (x=b)then s else mP b l (uor s (ushl 1 x))
def oB(f r a b:Int):Int×Int:=bif decide ((dirR f r a b).2.2=0) then(mP b (rayL f r a (dirR f r a b).1 (dirR f r a b).2.1) 0,0) else(0,(dirR f r a b).2.2)
def dD(occ:Int):List Int->Int->Int
 |[],s=>s
 |x::l,s=>bif decide (uand (ushr occ x) 1=1)then uor s (ushl 1 x)else dD occ l (uor s (ushl 1 x))
theorem zM{b:Int}{l:List Int}{i:Nat}{x s:Int}(h:l[i]?=some x):dD b (l.drop i) s=bif decide (uand (ushr b x) 1=1)then uor s (ushl 1 x)else dD b (l.drop (i+1)) (uor s (ushl 1 x)):=by
 obtain⟨h1,h2⟩:=List.getElem?_eq_some_iff.1 h
 rw[List.drop_eq_getElem_cons h1,h2,dD]
def eB(f r n occ s:Int)(row:List Int):Int:=dD occ (rayL f r n (row.getD 0 0) (row.getD 1 0)) s
def dB(f r n occ:Int)(rs:List (List Int)):Int:=rs.foldl (eB f r n occ) 0
def uH:CF
 |[.agg [.int .i64 f,.int .i64 r],.int .i64 n,.int .u64 occ,.sl 0 0 len none],[.rows false [.i64,.i64] rs]=>some (decide (len=rs.length)&&decide (rs.length<=1000000),.int .u64 (dB f r n occ rs),[])
 |_,_=>none
theorem Aj:CtOk (GGx kCa kDb) PP (209,uH):=by
 refine aF Tryz.func209 (by kernel_rfl) rfl fun a0 h0 c0 v0 N0 e hc=>?_
 unfold uH at e
 split at e
 ·rename_i f r n occ len rs
  cases e
  have hE:=aD (kCa:=kCa) (kDb:=kDb) (cts:=[]) (inl:=[(223,Tryz.f223)]) trivial ⟨⟨Tryz.func223,by kernel_rfl⟩,trivial⟩
  refine av hE 2 Tryz.func209 rfl rfl ?_
  simp only[Bool.and_eq_true,decide_eq_true_eq]at hc
  obtain⟨hc1,hc2⟩:=hc
  subst hc1
  repeat (first|refine ai ?_|refine sat_nd ?_)
  refine jY hE 2 (fun a:Int×Int=>([(1,I n),(4,.ptr 1 0 0),(6,.ptr 2 0 0),(9,.ptr 3 0 0),(13,.sl 0 0 rs.length none),(14,I rs.length),(15,I a.1)],[.rows false [.i64,.i64] rs,.cells true [I f,I r],.cells true [U occ],.cells true [U a.2]]))
   (fun a=>∃ k:Nat,k<=rs.length/\a.1=k/\a.2=(rs.take k).foldl (eB f r n occ) 0) (fun a=>rs.length-a.1.toNat) (0,0)
   (Ent.ren [0,1,2,3] [1,4,6,9,13,14,15] rfl rfl rfl) ⟨0,Nat.zero_le _,rfl,rfl⟩ ?_
  rintro⟨i,set⟩ ⟨k,hk,h1,h2⟩
  dsimp only at h1 h2 ⊢
  refine aq (fun hlt=>?_) (fun hlt=>?_)
  ·simp only[decide_eq_true_eq]at hlt
   have hki:i.toNat=k:=by omega
   refine ag (by simp;omega) ?_
   repeat (first|refine ai ?_|refine sat_nd ?_)
   have hstep:=sj rs [] (eB f r n occ) 0 (show k<rs.length by omega)
   rw[<-h2,<-hki]at hstep
   have hnext:i64.wrap (i+1)=((k+1:Nat):Int):=by rw[aC (by omega) (by omega)];omega
   generalize hL:rayL f r n ((rs.getD i.toNat []).getD 0 0) ((rs.getD i.toNat []).getD 1 0)=L
   refine BI hE 2 9 [5,6,7,8] [1,4,6,9,13,14,15] (Ent.ren [0,1,2,3,4,5,6,7,8] [1,4,6,9,13,14,15,25] rfl rfl rfl) (Mr f r n ((rs.getD i.toNat []).getD 0 0) ((rs.getD i.toNat []).getD 1 0)) HP KU rfl rfl rfl rfl rfl rfl
    (fun j hp'=>∃ s,dD occ (L.drop j) s=dD occ L set/\hp'=[.rows false [.i64,.i64] rs,.cells true [I f,I r],.cells true [U occ],.cells true [U s],.cells true [I ((rs.getD i.toNat []).getD 0 0),I ((rs.getD i.toNat []).getD 1 0)],.cells true [I f,I r],.cells true [I n],.cells true [I ((rs.getD i.toNat []).getD 0 0)],.cells true [I ((rs.getD i.toNat []).getD 1 0)]])
    (fun e hp'=>e=.exit 2/\∃ s,s=dD occ L set/\hp'=[.rows false [.i64,.i64] rs,.cells true [I f,I r],.cells true [U occ],.cells true [U s],.cells true [I ((rs.getD i.toNat []).getD 0 0),I ((rs.getD i.toNat []).getD 1 0)],.cells true [I f,I r],.cells true [I n],.cells true [I ((rs.getD i.toNat []).getD 0 0)],.cells true [I ((rs.getD i.toNat []).getD 1 0)]])
    ⟨set,rfl,rfl⟩ ?_ ?_ ?_ ?_ ?_
   ·rintro j hp' ⟨s,_,rfl⟩;rfl
   ·rintro e hp' ⟨_,s,_,rfl⟩;rfl
   ·rintro j vs hp' hi ⟨s,hs,rfl⟩
    obtain⟨x,hx,rfl,x0,x1⟩:=GR hi
    rw[hL]at hx
    rw[zM hx]at hs
    refine af ⟨rfl,?_⟩
    repeat (first|refine ai ?_|refine sat_nd ?_)
    refine aq (fun h2=>?_) (fun h2=>?_)
    ·have h2:decide (uand (ushr occ x) 1=1)=true:=h2
     rw[h2,cond_true]at hs
     exact af ⟨_,Ent.ren [0,1,2,3,4,5,6,7,8] [] rfl rfl rfl,rfl,_,hs,rfl⟩
    ·have h2:decide (uand (ushr occ x) 1=1)=false:=h2
     rw[h2,cond_false]at hs
     exact af ⟨_,Ent.ren [0,1,2,3,4,5,6,7,8] [] rfl rfl rfl,_,hs,rfl⟩
   ·rintro hp' ⟨s,hs,rfl⟩
    rw[wF,hL,List.drop_length]at hs
    have hs:s=dD occ L set:=hs
    refine af ⟨(_,_),⟨k+1,by omega,hnext,?_⟩,?_,Ent.ren [0,1,2,3] [1,4,6,9,13,14,15] rfl rfl rfl⟩
    ·rw[<-hki,hstep,eB,hL];exact hs
    ·show _-(i64.wrap (i+1)).toNat<_
     rw[hnext];omega
   ·rintro e hp' ⟨rfl,s,hs,rfl⟩
    refine af ⟨(_,_),⟨k+1,by omega,hnext,?_⟩,?_,Ent.ren [0,1,2,3] [1,4,6,9,13,14,15] rfl rfl rfl⟩
    ·rw[<-hki,hstep,eB,hL];exact hs
    ·show _-(i64.wrap (i+1)).toNat<_
     rw[hnext];omega
  ·simp only[decide_eq_false_iff_not]at hlt
   obtain rfl:k=rs.length:=by omega
   rw[List.take_length]at h2
   exact af (af (aj (.inr rfl) rfl rfl rfl (by rw[h2];rfl)))
 ·cases e
end
end Go.Ab
namespace Go.Ab
open Go.Proofs
section
variable{kCa kDb:Bool}
def dY(f r kd n occ:Int):Int×Int:=
 bif kz f r n occ then
  (bif decide (kd=2) then(bZ f r n iy,0)else bif decide (kd=3) then(dB f r n occ fI,0)else bif decide (kd=4) then(dB f r n occ fD,0)
   else bif decide (kd=5) then(uor (dB f r n occ fI) (dB f r n occ fD),0)else bif decide (kd=6) then(uor (bZ f r n fI) (bZ f r n fD),0) else(0,2))
 else(0,2)
def jV(f r:Int)(bl:Bool)(n:Int):Int×Int:=bif ak f r n then(bZ f r n [[-1,fwd bl],[1,fwd bl]],0) else(0,2)
def one1(f r:Int)(bl:Bool)(n occ:Int):Int:=de (bZ f r n [[0,fwd bl]]) occ
def Ip(f r:Int)(bl:Bool)(n occ:Int):Bool:=decide (one1 f r bl n occ=0)||decide (r<6)||!decide (IntKind.i64.wrap (n.tdiv f)=bif bl then IntKind.i64.wrap (r-2)else 1)
def oT(f r:Int)(bl:Bool)(n occ:Int):Int×Int:=
 bif kz f r n occ then
  (bif Ip f r bl n occ then(one1 f r bl n occ,0)
   else(uor (one1 f r bl n occ) (de (bZ f r n [[0,IntKind.i64.wrap (2*fwd bl)]]) occ),0))
 else(0,2)
def vu:CF
 |[.agg [.int .i64 f,.int .i64 r],.int .i8 kd,.int .i64 n,.int .u64 occ],[]=>some (true,.tup [U (dY f r kd n occ).1,I (dY f r kd n occ).2],[])
 |_,_=>none
theorem zj:CtOk (GGx kCa kDb) PP (176,vu):=by
 refine aF Tryz.func176 (by kernel_rfl) rfl fun a0 h0 c0 v0 N0 e hc=>?_
 unfold vu at e
 split at e
 ·rename_i f r kd n occ
  cases e
  have hE:=aD (kCa:=kCa) (kDb:=kDb) (cts:=[(207,vx),(208,xR),(209,uH)]) (inl:=[]) ⟨zN,tG,Aj,trivial⟩ trivial
  refine av hE 2 Tryz.func176 rfl rfl ?_
  repeat (first|refine ai ?_|refine sat_nd ?_)
  refine aq (fun h1=>?_) (fun h1=>?_)
  ·have h1:kz f r n occ=false:=by simpa using h1
   exact af (aj (.inr rfl) rfl rfl rfl (by rw[dY,h1];rfl))
  have h1:kz f r n occ=true:=by simpa using h1
  refine aq (fun h2=>?_) (fun h2=>?_)
  ·repeat (first|refine ai ?_|refine sat_nd ?_)
   exact af (aj (.inr rfl) rfl rfl rfl (by rw[dY,h1,cond_true,h2];rfl))
  refine aq (fun h3=>?_) (fun h3=>?_)
  ·repeat (first|refine ai ?_|refine sat_nd ?_)
   exact af (aj (.inr rfl) rfl rfl rfl (by rw[dY,h1,cond_true,h2,h3];rfl))
  refine aq (fun h4=>?_) (fun h4=>?_)
  ·repeat (first|refine ai ?_|refine sat_nd ?_)
   exact af (aj (.inr rfl) rfl rfl rfl (by rw[dY,h1,cond_true,h2,h3,h4];rfl))
  refine aq (fun h5=>?_) (fun h5=>?_)
  ·repeat (first|refine ai ?_|refine sat_nd ?_)
   exact af (aj (.inr rfl) rfl rfl rfl (by rw[dY,h1,cond_true,h2,h3,h4,h5];rfl))
  refine aq (fun h6=>?_) (fun h6=>?_)
  ·repeat (first|refine ai ?_|refine sat_nd ?_)
   exact af (aj (.inr rfl) rfl rfl rfl (by rw[dY,h1,cond_true,h2,h3,h4,h5,h6];rfl))
  exact af (aj (.inr rfl) rfl rfl rfl (by rw[dY,h1,cond_true,h2,h3,h4,h5,h6];rfl))
 ·cases e
def AE:CF
 |[.agg [.int .i64 f,.int .i64 r],.bool bl,.int .i64 n],[]=>some (true,.tup [U (jV f r bl n).1,I (jV f r bl n).2],[])
 |_,_=>none
theorem AG:CtOk (GGx kCa kDb) PP (206,AE):=by
 refine aF Tryz.func206 (by kernel_rfl) rfl fun a0 h0 c0 v0 N0 e hc=>?_
 unfold AE at e
 split at e
 ·rename_i f r bl n
  cases e
  have hE:=aD (kCa:=kCa) (kDb:=kDb) (cts:=[(75,iJ),(221,ov),(208,xR)]) (inl:=[]) ⟨fy,tv,tG,trivial⟩ trivial
  refine av hE 2 Tryz.func206 rfl rfl ?_
  repeat (first|refine ai ?_|refine sat_nd ?_)
  refine aq (fun h1=>?_) (fun h1=>?_)
  ·have h1:ak f r n=false:=by simpa using h1
   exact af (aj (.inr rfl) rfl rfl rfl (by rw[jV,h1];rfl))
  have h1:ak f r n=true:=by simpa using h1
  repeat (first|refine ai ?_|refine sat_nd ?_)
  exact af (aj (.inr rfl) rfl rfl rfl (by rw[jV,h1];rfl))
 ·cases e
end
end Go.Ab
namespace Go.Ab
open IntKind
open Go.Proofs
section
variable{kCa kDb:Bool}
def numB(f r x y:Int):Bool:=decide (x<0)||decide (f<=x)||decide (y<0)||decide (r<=y)
def numR(f r x y:Int):Int:=bif numB f r x y then -1 else i64.wrap (i64.wrap (y*f)+x)
def hasB(s n:Int):Bool:=decide (0<=n)&&decide (n<64)&&decide ((ushr s n).tmod 2=1)
def tH:CF
 |[.agg [.int .i64 f,.int .i64 r]],[]=>some (true,.bool (vsB f r),[])
 |_,_=>none
theorem nR:CtOk (GGx kCa kDb) PP (33,tH):=by
 refine aF Tryz.func33 (by kernel_rfl) rfl fun a0 h0 c0 v0 N0 e hc=>?_
 unfold tH at e
 split at e
 ·rename_i f r
  cases e
  have hE:=aD (kCa:=kCa) (kDb:=kDb) (cts:=[]) (inl:=[]) trivial trivial
  refine av hE 2 Tryz.func33 rfl rfl ?_
  repeat (first|refine ai ?_|refine sat_nd ?_)
  exact af (aj (.inr rfl) rfl rfl rfl (by simp[vsB,Ct,Bool.and_assoc]))
 ·cases e
def qt:CF
 |[.agg [.int .i64 f,.int .i64 r],.int .i64 n],[]=>some (true,.bool (ak f r n),[])
 |_,_=>none
theorem pU:CtOk (GGx kCa kDb) PP (93,qt):=by
 refine aF Tryz.func93 (by kernel_rfl) rfl fun a0 h0 c0 v0 N0 e hc=>?_
 unfold qt at e
 split at e
 ·rename_i f r n
  cases e
  have hE:=aD (kCa:=kCa) (kDb:=kDb) (cts:=[(33,tH)]) (inl:=[]) ⟨nR,trivial⟩ trivial
  refine av hE 2 Tryz.func93 rfl rfl ?_
  repeat (first|refine ai ?_|refine sat_nd ?_)
  exact af (aj (.inr rfl) rfl rfl rfl rfl)
 ·cases e
def mz:CF
 |[.agg [.int .i64 f,.int .i64 r],.int .i64 x,.int .i64 y],[]=>some (true,.int .i64 (numR f r x y),[])
 |_,_=>none
theorem nC:CtOk (GGx kCa kDb) PP (114,mz):=by
 refine aF Tryz.func114 (by kernel_rfl) rfl fun a0 h0 c0 v0 N0 e hc=>?_
 unfold mz at e
 split at e
 ·rename_i f r x y
  cases e
  have hE:=aD (kCa:=kCa) (kDb:=kDb) (cts:=[]) (inl:=[]) trivial trivial
  refine av hE 2 Tryz.func114 rfl rfl ?_
  repeat (first|refine ai ?_|refine sat_nd ?_)
  refine aq (fun h1=>?_) (fun h1=>?_)
  ·have h1:numB f r x y=true:=h1
   exact af (aj (.inr rfl) rfl rfl rfl (by rw[numR,h1];rfl))
  ·have h1:numB f r x y=false:=h1
   exact af (aj (.inr rfl) rfl rfl rfl (by rw[numR,h1];rfl))
 ·cases e
def eF:CF
 |[.agg [.int .i64 f,.int .i64 _r],.int .i64 n],[]=>some (!decide (f=0),.agg [I (n.tmod f),I (i64.wrap (n.tdiv f))],[])
 |_,_=>none
theorem cD:CtOk (GGx kCa kDb) PP (58,eF):=by
 refine aF Tryz.func58 (by kernel_rfl) rfl fun a0 h0 c0 v0 N0 e hc=>?_
 unfold eF at e
 split at e
 ·rename_i f r n
  cases e
  have hE:=aD (kCa:=kCa) (kDb:=kDb) (cts:=[]) (inl:=[]) trivial trivial
  refine av hE 2 Tryz.func58 rfl rfl ?_
  have hc:¬ f=0:=by simpa using hc
  repeat (first|refine ai ?_|refine sat_nd ?_)
  exact af (aj (.inr rfl) rfl rfl rfl rfl)
 ·cases e
def Gz:CF
 |[.int .u64 s,.int .i64 n],[]=>some (true,.bool (hasB s n),[])
 |_,_=>none
theorem yQ:CtOk (GGx kCa kDb) PP (199,Gz):=by
 refine aF Tryz.func199 (by kernel_rfl) rfl fun a0 h0 c0 v0 N0 e hc=>?_
 unfold Gz at e
 split at e
 ·rename_i s n
  cases e
  have hE:=aD (kCa:=kCa) (kDb:=kDb) (cts:=[]) (inl:=[]) trivial trivial
  refine av hE 2 Tryz.func199 rfl rfl ?_
  repeat (first|refine ai ?_|refine sat_nd ?_)
  exact af (aj (.inr rfl) rfl rfl rfl rfl)
 ·cases e
def Dd(s:Int)(k:Nat):List Int:=((List.range k).map Int.ofNat).filter fun x=>hasB s x
def ofL:List Int->Int->Int
 |[],s=>s
 |x::l,s=>ofL l (bif hasB s x then s else u64.wrap (s+ushl 1 x))
theorem Mo{l:List Int}{i:Nat}{x s:Int}(h:l[i]?=some x):ofL (l.drop i) s=ofL (l.drop (i+1)) (bif hasB s x then s else u64.wrap (s+ushl 1 x)):=by
 obtain⟨h1,h2⟩:=List.getElem?_eq_some_iff.1 h
 rw[List.drop_eq_getElem_cons h1,h2,ofL]
def c_Of:CF
 |[.sl 0 0 len none],[.ints false .i64 zs]=>some (decide (len=zs.length)&&decide (zs.length<=1000000)&&zs.all fun x=>decide (0<=x),.int .u64 (ofL zs 0),[])
 |_,_=>none
theorem IX:CtOk (GGx kCa kDb) PP (168,c_Of):=by
 refine aF Tryz.func168 (by kernel_rfl) rfl fun a0 h0 c0 v0 N0 e hc=>?_
 unfold c_Of at e
 split at e
 ·rename_i len zs
  cases e
  have hE:=aD (kCa:=kCa) (kDb:=kDb) (cts:=[(199,Gz)]) (inl:=[]) ⟨yQ,trivial⟩ trivial
  refine av hE 2 Tryz.func168 rfl rfl ?_
  simp only[Bool.and_eq_true,decide_eq_true_eq,List.all_eq_true]at hc
  obtain⟨⟨hc1,hc2⟩,hc3⟩:=hc
  subst hc1
  refine jY hE 2 (fun a:Int×Int=>([(0,.sl 0 0 zs.length none),(3,U a.2),(4,I a.1)],[.ints false .i64 zs]))
   (fun a=>∃ k:Nat,k<=zs.length/\a.1=k/\ofL (zs.drop k) a.2=ofL zs 0) (fun a=>zs.length-a.1.toNat) (0,0)
   (Ent.ren [0] [0,3,4] rfl rfl rfl) ⟨0,by omega,rfl,rfl⟩ ?_
  rintro⟨i,set⟩ ⟨k,hk,h1,h2⟩
  dsimp only at h1 h2 ⊢
  refine aq (fun hlt=>?_) (fun hlt=>?_)
  ·simp only[decide_eq_true_eq]at hlt
   have hnext:i64.wrap (i+1)=((k+1:Nat):Int):=by rw[aC (by omega) (by omega)];omega
   have hki:i.toNat=k:=by omega
   have hlt':k<zs.length:=by omega
   have hget:zs[k]?=some (zs.getD i.toNat 0):=by simp[hki,List.getD,hlt']
   have hmem:=hc3 _ (List.mem_of_getElem? hget)
   rw[Mo hget]at h2
   refine ag (by simp;omega) ?_
   repeat (first|refine ai ?_|refine sat_nd ?_)
   refine aq (fun hon=>?_) (fun hon=>?_)
   ·have hon:(!hasB set (zs.getD i.toNat 0))=true:=hon
    rw[Bool.not_eq_true']at hon
    rw[hon,cond_false]at h2
    repeat (first|(first|refine ai ?_|refine sat_nd ?_)|refine ag (decide_eq_true hmem) ?_)
    refine af ⟨(i64.wrap (i+1),_),⟨k+1,by omega,hnext,h2⟩,?_,Ent.ren [0] [0,3,4] rfl rfl rfl⟩
    show _-(i64.wrap (i+1)).toNat<_
    rw[hnext];omega
   ·have hon:(!hasB set (zs.getD i.toNat 0))=false:=hon
    rw[Bool.not_eq_false']at hon
    repeat (first|refine ai ?_|refine sat_nd ?_)
    rw[hon,cond_true]at h2
    refine af ⟨(i64.wrap (i+1),_),⟨k+1,by omega,hnext,h2⟩,?_,Ent.ren [0] [0,3,4] rfl rfl rfl⟩
    show _-(i64.wrap (i+1)).toNat<_
    rw[hnext];omega
  ·simp only[decide_eq_false_iff_not]at hlt
   obtain rfl:k=zs.length:=by omega
   rw[List.drop_length]at h2
   exact af (af (aj (.inr rfl) rfl rfl rfl (by rw[<-h2];rfl)))
 ·cases e
end
section
variable{kCa kDb:Bool}
def eH(f r df dr px py:Int):Nat->Int->List Int
 |0,_=>[]
 |m+1,k=>bif decide (numR f r (i64.wrap (px+i64.wrap (k*df))) (i64.wrap (py+i64.wrap (k*dr)))<0) then[]else numR f r (i64.wrap (px+i64.wrap (k*df))) (i64.wrap (py+i64.wrap (k*dr)))::eH f r df dr px py m (i64.wrap (k+1))
def cj(f r n df dr:Int):List Int:=bif !ak f r n||(decide (df=0)&&decide (dr=0)) then[]else eH f r df dr (n.tmod f) (i64.wrap (n.tdiv f)) 8 1
theorem BB(f r df dr px py:Int)(m:Nat):∀ k,(eH f r df dr px py m k).length<=m:=by
 induction m with
 |zero=>intro k;simp[eH]
 |succ m ih=>
  intro k
  rw[eH]
  cases decide (numR f r (i64.wrap (px+i64.wrap (k*df))) (i64.wrap (py+i64.wrap (k*dr)))<0) with
  |true=>simp
  |false=>have:=ih (i64.wrap (k+1));simp;omega
theorem kE(f r n df dr:Int):(cj f r n df dr).length<=8:=by
 unfold cj
 cases(!ak f r n||(decide (df=0)&&decide (dr=0))) with
 |true=>simp
 |false=>exact BB ..
def qO:CF
 |[.agg [.int .i64 f,.int .i64 r],.int .i64 n,.int .i64 df,.int .i64 dr],[]=>some (true,.sl 0 0 (cj f r n df dr).length none,[.ints true .i64 (cj f r n df dr)])
 |_,_=>none
theorem wv:CtOk (GGx kCa kDb) PP (220,qO):=by
 refine aF Tryz.func220 (by kernel_rfl) rfl fun a0 h0 c0 v0 N0 e hc=>?_
 unfold qO at e
 split at e
 ·rename_i f r n df dr
  cases e
  have hE:=aD (kCa:=kCa) (kDb:=kDb) (cts:=[(93,qt),(58,eF),(114,mz)]) (inl:=[]) ⟨pU,cD,nC,trivial⟩ trivial
  refine nx hE 2 Tryz.func220 rfl rfl ?_
  repeat (first|refine ai ?_|refine sat_nd ?_)
  refine aq (fun h0=>?_) (fun h0=>?_)
  ·have hz:cj f r n df dr=[]:=by rw[cj,show (!ak f r n||(decide (df=0)&&decide (dr=0)))=true from h0];rfl
   rw[hz]
   exact af (Ig ((Ent.phanT (t:=8) (o:=.ints true .i64 []) rfl ⟨by simp,by simp,trivial,rfl⟩ (aM rfl))) (dW 1 (.inr rfl) rfl rfl rfl rfl rfl rfl))
  have hz:cj f r n df dr=eH f r df dr (n.tmod f) (i64.wrap (n.tdiv f)) 8 1:=by rw[cj,show (!ak f r n||(decide (df=0)&&decide (dr=0)))=false from h0];rfl
  have hv:ak f r n=true:=by cases h:ak f r n<;>simp_all
  have hf:=cY (bO hv)
  refine ag (by simp;omega) ?_
  refine jY hE 2 (fun a:Int×List Int=>([(2,I df),(3,I dr),(4,.ptr 0 0 0),(9,.ptr 1 0 0),(10,.sl 2 0 a.2.length none),(11,I a.1)],[.cells true [I f,I r],.cells true [I (n.tmod f),I (i64.wrap (n.tdiv f))],.ints true .i64 a.2]))
   (fun a=>∃ k:Nat,1<=k/\k<=9/\a.1=k/\a.2++eH f r df dr (n.tmod f) (i64.wrap (n.tdiv f)) (9-k) k=cj f r n df dr) (fun a=>9-a.1.toNat) (1,[])
   ((Ent.phanT (t:=10) (o:=.ints true .i64 []) rfl ⟨by simp,by simp,trivial,rfl⟩ (aM rfl)).trans (Ent.ren [0,1,2] [2,3,4,9,10,11] rfl rfl rfl)) ⟨1,by omega,by omega,rfl,hz.symm⟩ ?_
  rintro⟨i,zs⟩ ⟨k,hk1,hk,h1,h3⟩
  dsimp only at h1 h3 ⊢
  have hb:zs.length<=8:=by have:=congrArg List.length h3;have:=kE f r n df dr;simp at *;omega
  refine aq (fun hlt=>?_) (fun hlt=>?_)
  ·simp only[decide_eq_true_eq]at hlt
   have hnext:i64.wrap (i+1)=((k+1:Nat):Int):=by rw[aC (by omega) (by omega)];omega
   rw[show 9-k=(9-(k+1))+1 by omega,eH,<-h1,hnext]at h3
   repeat (first|refine ai ?_|refine sat_nd ?_)
   refine aq (fun hon=>?_) (fun hon=>?_)
   ·have hon:decide (numR f r (i64.wrap (n.tmod f+i64.wrap (i*df))) (i64.wrap (i64.wrap (n.tdiv f)+i64.wrap (i*dr)))<0)=true:=hon
    rw[hon,cond_true,List.append_nil]at h3
    subst h3
    refine af (af (KJ (dW 2 (.inr rfl) rfl rfl rfl rfl rfl rfl)))
   ·have hon:decide (numR f r (i64.wrap (n.tmod f+i64.wrap (i*df))) (i64.wrap (i64.wrap (n.tdiv f)+i64.wrap (i*dr)))<0)=false:=hon
    rw[hon,cond_false]at h3
    refine ag (b:=decide (zs.length=zs.length)&&decide ((zs.length+1)*8<=140737488355328)&&true) (by simp;omega) ?_
    refine af ⟨(i64.wrap (i+1),zs++[numR f r (i64.wrap (n.tmod f+i64.wrap (i*df))) (i64.wrap (i64.wrap (n.tdiv f)+i64.wrap (i*dr)))]),⟨k+1,by omega,by omega,hnext,by rw[<-h3];simp⟩,?_,Ent.ren [0,1,4] [2,3,4,9,10,11] rfl rfl rfl⟩
    show _-(i64.wrap (i+1)).toNat<_
    rw[hnext];omega
  ·simp only[decide_eq_false_iff_not]at hlt
   obtain rfl:k=9:=by omega
   rw[eH,List.append_nil]at h3
   subst h3
   refine af (af (KJ (dW 2 (.inr rfl) rfl rfl rfl rfl rfl rfl)))
 ·cases e
end
section
variable{kCa kDb:Bool}
def subS(s:List UInt8)(a b:Int):List UInt8:=(s.drop a.toNat).take (b.toNat-a.toNat)
def jZ(f _r n:Int):List UInt8:=subS [97,98,99,100,101,102,103,104] (n.tmod f) (i64.wrap (n.tmod f+1))++subS [49,50,51,52,53,54,55,56] (i64.wrap (n.tdiv f)) (i64.wrap (i64.wrap (n.tdiv f)+1))
theorem Iw{f r n:Int}(h:ak f r n=true):0<=n.tmod f/\n.tmod f<f/\0<=n.tdiv f/\n.tdiv f<r/\i64.wrap (n.tdiv f)=n.tdiv f/\i64.wrap (n.tmod f+1)=n.tmod f+1/\i64.wrap (n.tdiv f+1)=n.tdiv f+1:=by
 have hp:=qz h
 simp only[aZ,h,cond_true]at hp
 obtain⟨a1,a2,a3,a4⟩:=cY (bO h)
 have hv:0<=n:=by simp only[ak,Bool.and_eq_true,decide_eq_true_eq]at h;exact h.1.2
 have e2:n.tdiv f=n/f:=Int.tdiv_eq_ediv_of_nonneg hv
 have e3:i64.wrap (n.tdiv f)=n.tdiv f:=by rw[hp.2.2.2.2.2,e2]
 rw[e3]at hp
 refine⟨hp.1,hp.2.1,hp.2.2.1,hp.2.2.2.1,e3,aC (by omega) (by omega),aC (by omega) (by omega)⟩
def oX:CF
 |[.agg [.int .i64 f,.int .i64 r],.int .i64 n],[]=>some (ak f r n,.str (jZ f r n),[])
 |_,_=>none
theorem jG:CtOk (GGx kCa kDb) PP (118,oX):=by
 refine aF Tryz.func118 (by kernel_rfl) rfl fun a0 h0 c0 v0 N0 e hc=>?_
 unfold oX at e
 split at e
 ·rename_i f r n
  cases e
  have hE:=aD (kCa:=kCa) (kDb:=kDb) (cts:=[(58,eF)]) (inl:=[]) ⟨cD,trivial⟩ trivial
  refine av hE 2 Tryz.func118 rfl rfl ?_
  obtain⟨a1,a2,a3,a4⟩:=cY (bO hc)
  obtain⟨b1,b2,b3,b4,b5,b6,b7⟩:=Iw hc
  refine ag (by simp;omega) ?_
  repeat (first|refine ai ?_|refine ag (by first|rfl|(simp[b5,b6,b7];omega)) ?_)
  exact af (aj (.inr rfl) rfl rfl rfl rfl)
 ·cases e
def mI(f r:Int)(s:List UInt8):Nat->Nat->Int
 |0,_=>-1
 |m+1,k=>bif jZ f r k==s then k else mI f r s m (k+1)
def cq(f r:Int)(s:List UInt8):Int:=mI f r s (f*r).toNat 0
def rI:CF
 |[.agg [.int .i64 f,.int .i64 r],.str s],[]=>some (vsB f r,.int .i64 (cq f r s),[])
 |_,_=>none
theorem pR:CtOk (GGx kCa kDb) PP (101,rI):=by
 refine aF Tryz.func101 (by kernel_rfl) rfl fun a0 h0 c0 v0 N0 e hc=>?_
 unfold rI at e
 split at e
 ·rename_i f r s
  cases e
  have hE:=aD (kCa:=kCa) (kDb:=kDb) (cts:=[(118,oX)]) (inl:=[]) ⟨jG,trivial⟩ trivial
  refine av hE 2 Tryz.func101 rfl rfl ?_
  have hm:=cV hc
  have hw:=fj hc
  refine jY hE 2 (fun a:Int=>([(1,.str s),(2,.ptr 0 0 0),(5,I a)],[.cells true [I f,I r]]))
   (fun a=>∃ k:Nat,k<=(f*r).toNat/\a=k/\mI f r s ((f*r).toNat-k) k=cq f r s) (fun a=>(f*r).toNat-a.toNat) 0
   (Ent.ren [0] [1,2,5] rfl rfl rfl) ⟨0,by omega,rfl,rfl⟩ ?_
  rintro i ⟨k,hk,h1,h3⟩
  dsimp only at h1 h3 ⊢
  refine aq (fun hlt=>?_) (fun hlt=>?_)
  ·simp only[decide_eq_true_eq]at hlt
   rw[hw]at hlt
   have hnext:i64.wrap (i+1)=((k+1:Nat):Int):=by rw[aC (by omega) (by omega)];omega
   rw[show (f*r).toNat-k=((f*r).toNat-(k+1))+1 by omega,mI,<-h1]at h3
   refine ag (by simp only[ak,Bool.and_eq_true,decide_eq_true_eq];rw[hw];exact⟨⟨hc,by omega⟩,hlt⟩) ?_
   refine aq (fun hon=>?_) (fun hon=>?_)
   ·have hon:(jZ f r i==s)=true:=hon
    rw[hon,cond_true]at h3
    refine af (af (aj (.inr rfl) rfl rfl rfl (by rw[<-h3])))
   ·have hon:(jZ f r i==s)=false:=hon
    rw[hon,cond_false]at h3
    refine af ⟨i64.wrap (i+1),⟨k+1,by omega,hnext,h3⟩,?_,Ent.ren [0] [1,2,5] rfl rfl rfl⟩
    show _-(i64.wrap (i+1)).toNat<_
    rw[hnext];omega
  ·simp only[decide_eq_false_iff_not]at hlt
   rw[hw]at hlt
   obtain rfl:k=(f*r).toNat:=by omega
   rw[Nat.sub_self,mI]at h3
   refine af (af (aj (.inr rfl) rfl rfl rfl (by rw[<-h3])))
 ·cases e
end
end Go.Ab
namespace Go.Ab
open Go.Proofs
end Go.Ab
namespace Go.Ab
open IntKind
open Go.Proofs
theorem wC{f r X Y:Int}(h:vsB f r=true):decide ((atR f r X Y).2=0)=onB f r X Y:=by
 unfold atR
 cases h2:onB f r X Y<;>simp[h]
theorem vM{f r X Y:Int}:numB f r X Y=!onB f r X Y:=by
 rw[Bool.eq_iff_iff]
 simp only[numB,onB,Bool.or_eq_true,decide_eq_true_eq,Bool.not_eq_true',Bool.and_eq_false_iff,decide_eq_false_iff_not]
 omega
theorem rY{f r X Y:Int}(h:vsB f r=true)(h2:onB f r X Y=true):numR f r X Y=(atR f r X Y).1:=by
 simp only[numR,vM,h2,atR,h,Bool.not_true,cond_true,cond_false,Int.add_comm]
theorem mH{f r X Y:Int}(h:vsB f r=true):decide (numR f r X Y<0)=!onB f r X Y:=by
 cases h2:onB f r X Y with
 |false=>simp[numR,vM,h2]
 |true=>
  rw[rY h h2]
  have h3:=wC (X:=X) (Y:=Y) h
  rw[h2]at h3
  have:=kZ (of_decide_eq_true h3)
  simp;omega
theorem iH{f r x y:Int}(h1:0<=x)(h2:x<f)(h3:0<=y)(h4:y<r):onB f r x y=true:=by simp[onB, *]
theorem Oq{f r df dr px py:Int}(h:vsB f r=true)(hb:-7<=df/\df<=7/\-7<=dr/\dr<=7)(hnz:df≠0\/dr≠0)(hp:onB f r px py=true) :
  ∀ (m k:Nat),m+k=9->1<=k->onB f r (px+((k:Int)-1)*df) (py+((k:Int)-1)*dr)=true->kG f r df dr (m+1) (px+((k:Int)-1)*df) (py+((k:Int)-1)*dr)=eH f r df dr px py m k:=by
 have hv:=cY h
 have hp:=oG hp
 intro m
 induction m with
 |zero=>
  intro k hk h1 hon
  obtain rfl:k=9:=by omega
  have:=oG hon
  exfalso
  rcases hnz with e|e<;>omega
 |succ m ih=>
  intro k hk h1 hon
  have hon:=oG hon
  have hX:i64.wrap (px+((k:Int)-1)*df+df)=px+((k:Int)+1-1)*df/\i64.wrap (py+((k:Int)-1)*dr+dr)=py+((k:Int)+1-1)*dr/\i64.wrap (px+i64.wrap (k*df))=px+((k:Int)+1-1)*df/\i64.wrap (py+i64.wrap (k*dr))=py+((k:Int)+1-1)*dr/\i64.wrap ((k:Int)+1)=((k+1:Nat):Int):=by
   have hk8:k=1\/k=2\/k=3\/k=4\/k=5\/k=6\/k=7\/k=8:=by omega
   rcases hk8 with rfl|rfl|rfl|rfl|rfl|rfl|rfl|rfl <;>
   ·refine⟨?_,?_,?_,?_,?_⟩
    ·rw[aC (by omega) (by omega)];omega
    ·rw[aC (by omega) (by omega)];omega
    ·rw[aC (n:=_*df) (by omega) (by omega),aC (by omega) (by omega)];omega
    ·rw[aC (n:=_*dr) (by omega) (by omega),aC (by omega) (by omega)];omega
    ·rw[aC (by omega) (by omega)];omega
  obtain⟨e1,e2,e3,e4,e5⟩:=hX
  rw[kG,eH,e1,e2,e3,e4,e5,wC h,mH h]
  cases h2:onB f r (px+((k:Int)+1-1)*df) (py+((k:Int)+1-1)*dr) with
  |false=>rfl
  |true=>
   rw[rY h h2]
   have:=ih (k+1) (by omega) (by omega) (by push_cast;exact h2)
   push_cast at this ⊢
   simp only[cond_true,Bool.not_true,cond_false,this]
def inR(df dr:Int):Bool:=decide (-8<=df)&&decide (df<=8)&&decide (-8<=dr)&&decide (dr<=8)
theorem Og{df dr:Int}(h:inR df dr=true)(h2:gD df dr=true):df=8\/df=-8\/dr=8\/dr=-8:=by
 simp only[inR,Bool.and_eq_true,decide_eq_true_eq]at h
 obtain⟨⟨⟨a1,a2⟩,a3⟩,a4⟩:=h
 simp only[gD,Bool.or_eq_true,decide_eq_true_eq]at h2
 rw[aC (n:=0-df) (by omega) (by omega),aC (n:=0-dr) (by omega) (by omega)]at h2
 have m:∀ x y:Int,imax true x y=x\/imax true x y=y:=fun x y=>by
  unfold imax
  by_cases h:x<y<;>simp[h]
 have m1:=m df (0-df)
 have m2:=m (imax true df (0-df)) dr
 have m3:=m (imax true (imax true df (0-df)) dr) (0-dr)
 omega
theorem JQ{df dr:Int}(h:inR df dr=false):gD df dr=true:=by
 cases hb:gD df dr with
 |true=>rfl
 |false=>
  have:=Dt hb
  simp[inR]at h
  omega
theorem IB(f r n df dr:Int):rayL f r n df dr=bif inR df dr then cj f r n df dr else[]:=by
 cases hv:ak f r n with
 |false=>simp[rayL,cj,hv]
 |true=>
  cases hz:(decide (df=0)&&decide (dr=0)) with
  |true=>simp[rayL,cj,hv,hz]
  |false=>
   have hnz:df≠0\/dr≠0:=by
    by_cases e:df=0
    ·right;rintro rfl;simp[e]at hz
    ·exact .inl e
   have hvs:=bO hv
   have hb:=cY hvs
   have hp:=qz hv
   have hr:cj f r n df dr=eH f r df dr (aZ f r n).1 (aZ f r n).2.1 8 1:=by simp[cj,hv,hz,aZ]
   cases hbig:gD df dr with
   |true=>
    have hl:rayL f r n df dr=[]:=by simp[rayL,hbig]
    rw[hl]
    cases hi:inR df dr with
    |false=>rfl
    |true=>
     have h8:=Og hi hbig
     simp only[inR,Bool.and_eq_true,decide_eq_true_eq]at hi
     obtain⟨⟨⟨a1,a2⟩,a3⟩,a4⟩:=hi
     rw[cond_true,hr,eH,mH hvs]
     have hoff:onB f r (i64.wrap ((aZ f r n).1+i64.wrap (1*df))) (i64.wrap ((aZ f r n).2.1+i64.wrap (1*dr)))=false:=by
      rw[aC (n:=1*df) (by omega) (by omega),aC (n:=1*dr) (by omega) (by omega),aC (by omega) (by omega),aC (by omega) (by omega)]
      cases ho:onB f r ((aZ f r n).1+1*df) ((aZ f r n).2.1+1*dr) with
      |false=>rfl
      |true=>have:=oG ho;omega
     rw[hoff];rfl
   |false=>
    have hi:inR df dr=true:=by
     cases hi:inR df dr with
     |true=>rfl
     |false=>rw[JQ hi]at hbig;cases hbig
    have hg:=Oq (f:=f) (r:=r) (df:=df) (dr:=dr) (px:=(aZ f r n).1) (py:=(aZ f r n).2.1) hvs (Dt hbig) hnz (iH hp.1 hp.2.1 hp.2.2.1 hp.2.2.2.1) 8 1 rfl (Nat.le_refl _) (by simpa using iH hp.1 hp.2.1 hp.2.2.1 hp.2.2.2.1)
    rw[hi,cond_true,hr]
    simp only[rayL,hv,hz,hbig,Bool.not_false,Bool.and_self,cond_true]
    simpa using hg
section
variable{kCa kDb:Bool}
theorem FW{f:Int}(h:(!decide (f=0))=true):¬ f=0:=by simpa using h
def absI(n:Int):Int:=bif decide (n<0)then i64.wrap (0-n)else n
def yZ(f a b:Int):Bool:=decide (a=b)||(!decide (i64.wrap (b.tmod f-a.tmod f)=0)&&!decide (i64.wrap (i64.wrap (b.tdiv f)-i64.wrap (a.tdiv f))=0)&&!decide (i64.wrap (b.tmod f-a.tmod f)=i64.wrap (i64.wrap (b.tdiv f)-i64.wrap (a.tdiv f)))&&!decide (i64.wrap (i64.wrap (b.tmod f-a.tmod f)+i64.wrap (i64.wrap (b.tdiv f)-i64.wrap (a.tdiv f)))=0))
def bj(f a b:Int):Int×Int×Bool:=bif yZ f a b then(0,0,false) else(sgn (i64.wrap (b.tmod f-a.tmod f)),sgn (i64.wrap (i64.wrap (b.tdiv f)-i64.wrap (a.tdiv f))),true)
def vG:CF
 |[.int .i64 n],[]=>some (true,.int .i64 (sgn n),[])
 |_,_=>none
theorem Ac:CtOk (GGx kCa kDb) PP (219,vG):=by
 refine aF Tryz.func219 (by kernel_rfl) rfl fun a0 h0 c0 v0 N0 e hc=>?_
 unfold vG at e
 split at e
 ·rename_i n
  cases e
  have hE:=aD (kCa:=kCa) (kDb:=kDb) (cts:=[]) (inl:=[]) trivial trivial
  refine av hE 2 Tryz.func219 rfl rfl ?_
  repeat' first|(first|refine ai ?_|refine sat_nd ?_)|refine aq (fun h=>?_) (fun h=>?_)
  all_goals exact af (aj (.inr rfl) rfl rfl rfl (by first|rfl|(simp only[sgn, *,cond_true,cond_false];done)|(simp only[sgn, *,cond_true,cond_false,Bool.not_true,Bool.not_false,Bool.and_true,Bool.true_and,Bool.and_false,Bool.false_and,Bool.or_true,Bool.true_or,Bool.or_false,Bool.false_or];done)|simp_all [sgn]))
 ·cases e
def AD:CF
 |[.int .i64 n],[]=>some (true,.int .i64 (absI n),[])
 |_,_=>none
theorem CV:CtOk (GGx kCa kDb) PP (218,AD):=by
 refine aF Tryz.func218 (by kernel_rfl) rfl fun a0 h0 c0 v0 N0 e hc=>?_
 unfold AD at e
 split at e
 ·rename_i n
  cases e
  have hE:=aD (kCa:=kCa) (kDb:=kDb) (cts:=[]) (inl:=[]) trivial trivial
  refine av hE 2 Tryz.func218 rfl rfl ?_
  repeat' first|(first|refine ai ?_|refine sat_nd ?_)|refine aq (fun h=>?_) (fun h=>?_)
  all_goals exact af (aj (.inr rfl) rfl rfl rfl (by first|rfl|(simp only[absI, *,cond_true,cond_false];done)|(simp only[absI, *,cond_true,cond_false,Bool.not_true,Bool.not_false,Bool.and_true,Bool.true_and,Bool.and_false,Bool.false_and,Bool.or_true,Bool.true_or,Bool.or_false,Bool.false_or];done)|simp_all [absI]))
 ·cases e
def xO:CF
 |[.agg [.int .i64 f,.int .i64 _r],.int .i64 a,.int .i64 b],[]=>some (!decide (f=0),.tup [I (bj f a b).1,I (bj f a b).2.1,Bb (bj f a b).2.2],[])
 |_,_=>none
theorem tJ:CtOk (GGx kCa kDb) PP (202,xO):=by
 refine aF Tryz.func202 (by kernel_rfl) rfl fun a0 h0 c0 v0 N0 e hc=>?_
 unfold xO at e
 split at e
 ·rename_i f r a b
  cases e
  have hE:=aD (kCa:=kCa) (kDb:=kDb) (cts:=[(58,eF),(219,vG)]) (inl:=[]) ⟨cD,Ac,trivial⟩ trivial
  refine av hE 2 Tryz.func202 rfl rfl ?_
  have hf:=FW hc
  repeat (first|refine ai ?_|refine sat_nd ?_)
  refine aq (fun h=>?_) (fun h=>?_)
  ·have h:yZ f a b=true:=h
   exact af (aj (.inr rfl) rfl rfl rfl (by rw[bj,h];rfl))
  ·have h:yZ f a b=false:=h
   repeat (first|refine ai ?_|refine sat_nd ?_)
   exact af (aj (.inr rfl) rfl rfl rfl (by rw[bj,h];rfl))
 ·cases e
def Me:CF
 |[.bool b],[]=>some (true,.int .i64 (fwd b),[])
 |_,_=>none
theorem Ih:CtOk (GGx kCa kDb) PP (200,Me):=by
 refine aF Tryz.func200 (by kernel_rfl) rfl fun a0 h0 c0 v0 N0 e hc=>?_
 unfold Me at e
 split at e
 ·rename_i b
  cases e
  have hE:=aD (kCa:=kCa) (kDb:=kDb) (cts:=[]) (inl:=[]) trivial trivial
  refine av hE 2 Tryz.func200 rfl rfl ?_
  repeat' first|(first|refine ai ?_|refine sat_nd ?_)|refine aq (fun h=>?_) (fun h=>?_)
  all_goals exact af (aj (.inr rfl) rfl rfl rfl (by first|rfl|(simp only[fwd, *,cond_true,cond_false];done)|(simp only[fwd, *,cond_true,cond_false,Bool.not_true,Bool.not_false,Bool.and_true,Bool.true_and,Bool.and_false,Bool.false_and,Bool.or_true,Bool.true_or,Bool.or_false,Bool.false_or];done)|simp_all [fwd]))
 ·cases e
def secR(r:Int)(bl:Bool):Int:=bif bl then i64.wrap (r-2)else 1
def uC(f a b:Int):Int:=bif decide (absI (i64.wrap (i64.wrap (a.tdiv f)-i64.wrap (b.tdiv f)))<absI (i64.wrap (a.tmod f-b.tmod f)))then absI (i64.wrap (a.tmod f-b.tmod f))else absI (i64.wrap (i64.wrap (a.tdiv f)-i64.wrap (b.tdiv f)))
def idxL(b:Int):List Int->Nat
 |[]=>0
 |x::l=>bif decide (x=b)then 0 else idxL b l+1
def hasL(b:Int):List Int->Bool
 |[]=>false
 |x::l=>decide (x=b)||hasL b l
def dn(f r a b:Int):List Int:=cj f r a (bj f a b).1 (bj f a b).2.1
def bU(f r a b:Int):List Int:=bif hasL b (dn f r a b) then(dn f r a b).take (idxL b (dn f r a b)) else[]
def dG(s:Int):List Int->Bool
 |[]=>true
 |x::l=>bif hasB s x then false else dG s l
theorem Gv{s:Int}{l:List Int}{i:Nat}(h:i<l.length):dG s (l.drop i)=bif hasB s (l.getD i 0)then false else dG s (l.drop (i+1)):=by
 rw[List.drop_eq_getElem_cons h,dG];simp[List.getD,h]
theorem Bs{b:Int}{l:List Int}{i:Nat}(h:i<l.length):hasL b (l.drop i)=(decide (l.getD i 0=b)||hasL b (l.drop (i+1))):=by
 rw[List.drop_eq_getElem_cons h,hasL];simp[List.getD,h]
theorem KQ{b:Int}{l:List Int}{i:Nat}(h:i<l.length):idxL b (l.drop i)=bif decide (l.getD i 0=b)then 0 else idxL b (l.drop (i+1))+1:=by
 rw[List.drop_eq_getElem_cons h,idxL];simp[List.getD,h]
def EO:CF
 |[.agg [.int .i64 f,.int .i64 _r],.int .i64 a,.int .i64 b],[]=>some (!decide (f=0),.int .i64 (uC f a b),[])
 |_,_=>none
theorem BH:CtOk (GGx kCa kDb) PP (201,EO):=by
 refine aF Tryz.func201 (by kernel_rfl) rfl fun a0 h0 c0 v0 N0 e hc=>?_
 unfold EO at e
 split at e
 ·rename_i f r a b
  cases e
  have hE:=aD (kCa:=kCa) (kDb:=kDb) (cts:=[(58,eF),(218,AD)]) (inl:=[]) ⟨cD,CV,trivial⟩ trivial
  refine av hE 2 Tryz.func201 rfl rfl ?_
  have hf:=FW hc
  repeat (first|refine ai ?_|refine sat_nd ?_)
  refine aq (fun h=>?_) (fun h=>?_)
  all_goals
   repeat (first|refine ai ?_|refine sat_nd ?_)
   exact af (aj (.inr rfl) rfl rfl rfl (by simp only[uC, *,cond_true,cond_false]))
 ·cases e
def DR:CF
 |[.sl 0 0 len none,.int .u64 s],[.ints false .i64 zs]=>some (decide (len=zs.length)&&decide (zs.length<=1000000),.bool (dG s zs),[])
 |_,_=>none
theorem Fj:CtOk (GGx kCa kDb) PP (203,DR):=by
 refine aF Tryz.func203 (by kernel_rfl) rfl fun a0 h0 c0 v0 N0 e hc=>?_
 unfold DR at e
 split at e
 ·rename_i len s zs
  cases e
  have hE:=aD (kCa:=kCa) (kDb:=kDb) (cts:=[(199,Gz)]) (inl:=[]) ⟨yQ,trivial⟩ trivial
  refine av hE 2 Tryz.func203 rfl rfl ?_
  simp only[Bool.and_eq_true,decide_eq_true_eq]at hc
  obtain⟨rfl,hc2⟩:=hc
  refine bX hE 2 (fun i (_:Unit)=>([(0,.sl 0 0 zs.length none),(1,U s),(5,I i)],[.ints false .i64 zs])) zs.length (fun j _=>dG s (zs.drop j)=dG s zs) () (by omega) (Ent.ren [0] [0,1,5] rfl rfl rfl) rfl ?_
  intro j i _ hij hj hz
  refine aq (fun hlt=>?_) (fun hlt=>?_)
  ·have hlt':j<zs.length:=by simp at hlt;omega
   rw[Gv hlt',show j=i.toNat by omega]at hz
   refine ag (by simp;omega) ?_
   repeat (first|refine ai ?_|refine sat_nd ?_)
   refine aq (fun hon=>?_) (fun hon=>?_)
   ·have hon:hasB s (zs.getD i.toNat 0)=true:=hon
    rw[hon]at hz
    exact af (af (aj (.inr rfl) rfl rfl rfl (by rw[<-hz];rfl)))
   ·have hon:hasB s (zs.getD i.toNat 0)=false:=hon
    rw[hon]at hz
    exact af ⟨hlt',(),by rw[<-hz,show i.toNat=j by omega];rfl,Ent.ren [0] [0,1,5] rfl rfl rfl⟩
  ·obtain rfl:j=zs.length:=by simp at hlt;omega
   rw[List.drop_length]at hz
   exact af (af (aj (.inr rfl) rfl rfl rfl (by rw[<-hz];rfl)))
 ·cases e
end
section
variable{kCa kDb:Bool}
theorem Mc(b:Int)(l:List Int):idxL b l<=l.length:=by
 induction l with
 |nil=>simp[idxL]
 |cons x l ih=>rw[idxL];cases decide (x=b)<;>simp<;>omega
theorem nO(f r a b:Int):(bU f r a b).length=bif hasL b (dn f r a b)then idxL b (dn f r a b)else 0:=by
 unfold bU
 have:=Mc b (dn f r a b)
 cases hasL b (dn f r a b)<;>simp;omega
def sy(f r a b:Int):List Int:=bif hasL b (dn f r a b)then dn f r a b else[]
theorem oW(f r a b:Int):((sy f r a b).drop 0).take (bU f r a b).length=bU f r a b:=by
 rw[nO]
 unfold sy bU
 cases hasL b (dn f r a b)<;>simp
theorem CN(f r a b:Int):(sy f r a b).length<=8:=by
 unfold sy dn
 cases hasL b _<;>simp[kE]
theorem oU(f r a b:Int):(bU f r a b).length<=8:=by
 rw[<-oW,List.length_take]
 have:=CN f r a b
 simp;omega
def mJ:CF
 |[.agg [.int .i64 f,.int .i64 r],.int .i64 a,.int .i64 b],[]=>some (!decide (f=0),.sl 0 0 (bU f r a b).length none,[.ints true .i64 (sy f r a b)])
 |_,_=>none
theorem uq:CtOk (GGx kCa kDb) PP (204,mJ):=by
 refine aF Tryz.func204 (by kernel_rfl) rfl fun a0 h0 c0 v0 N0 e hc=>?_
 unfold mJ at e
 split at e
 ·rename_i f r a b
  cases e
  have hE:=aD (kCa:=kCa) (kDb:=kDb) (cts:=[(202,xO),(220,qO)]) (inl:=[]) ⟨tJ,wv,trivial⟩ trivial
  refine nx hE 2 Tryz.func204 rfl rfl ?_
  have hf:=FW hc
  repeat (first|refine ai ?_|refine sat_nd ?_)
  obtain⟨zs,hzs⟩:∃ zs,cj f r a (bj f a b).1 (bj f a b).2.1=zs:=⟨_,rfl⟩
  have hlen:=kE f r a (bj f a b).1 (bj f a b).2.1
  rw[hzs]at hlen ⊢
  have hZ:dn f r a b=zs:=hzs
  refine bX hE 2 (fun i (_:Unit)=>([(2,I b),(6,.nils),(10,.sl 1 0 zs.length none),(11,I i)],[.cells true [I f,I r],.ints true .i64 zs])) zs.length (fun j _=>hasL b (zs.drop j)=hasL b zs/\(hasL b zs=true->idxL b (zs.drop j)+j=idxL b zs)) () (by omega) (Ent.ren [0,1] [2,6,10,11] rfl rfl rfl) ⟨rfl,fun _=>rfl⟩ ?_
  intro j i _ hij hj hz
  obtain⟨hz1,hz2⟩:=hz
  refine aq (fun hlt=>?_) (fun hlt=>?_)
  ·have hlt':j<zs.length:=by simp at hlt;omega
   rw[Bs hlt',show j=i.toNat by omega]at hz1
   rw[KQ hlt',show j=i.toNat by omega]at hz2
   refine ag (by simp;omega) ?_
   repeat (first|refine ai ?_|refine sat_nd ?_)
   refine aq (fun hon=>?_) (fun hon=>?_)
   ·have hon:decide (zs.getD i.toNat 0=b)=true:=hon
    rw[hon]at hz1 hz2
    have hx:hasL b zs=true:=hz1.symm
    have hy:i.toNat=idxL b zs:=by have:=hz2 hx;simpa using this
    refine ag (by simp;omega) ?_
    refine af (af (KJ (dW 1 (.inr rfl) rfl rfl rfl rfl (by simp only[sy,hZ,hx,cond_true];rfl) (by rw[nO,hZ,hx,cond_true,<-hy];rfl))))
   ·have hon:decide (zs.getD i.toNat 0=b)=false:=hon
    rw[hon,Bool.false_or]at hz1
    rw[hon,cond_false]at hz2
    exact af ⟨hlt',(),⟨by rw[<-hz1,show i.toNat=j by omega],fun h=>by have:=hz2 h;rw[show i.toNat=j by omega]at this;omega⟩,Ent.ren [0,1] [2,6,10,11] rfl rfl rfl⟩
  ·obtain rfl:j=zs.length:=by simp at hlt;omega
   rw[List.drop_length]at hz1
   have hx:hasL b zs=false:=hz1.symm
   refine af (af ?_)
   refine Ig ((Ent.phanT (t:=6) (o:=.ints true .i64 []) rfl ⟨by simp,by simp,trivial,rfl⟩ (aM rfl))) (dW 2 (.inr rfl) rfl rfl rfl rfl (by simp only[sy,hZ,hx,cond_false];rfl) (by rw[nO,hZ,hx];rfl))
 ·cases e
def bh(f r kd a b occ:Int):Bool:=
 bif decide (kd=2)then decide (i64.wrap (i64.wrap (i64.wrap (b.tmod f-a.tmod f)*i64.wrap (b.tmod f-a.tmod f))+i64.wrap (i64.wrap (i64.wrap (b.tdiv f)-i64.wrap (a.tdiv f))*i64.wrap (i64.wrap (b.tdiv f)-i64.wrap (a.tdiv f))))=5)
 else bif decide (kd=6)then decide (uC f a b=1)
 else(bj f a b).2.2&&(decide (kd=5)||((decide (i64.wrap (b.tmod f-a.tmod f)=0)||decide (i64.wrap (i64.wrap (b.tdiv f)-i64.wrap (a.tdiv f))=0))==decide (kd=4)))&&dG occ (bU f r a b)
def mY:CF
 |[.agg [.int .i64 f,.int .i64 r],.int .i8 kd,.int .i64 a,.int .i64 b,.int .u64 occ],[]=>some (!decide (f=0),.bool (bh f r kd a b occ),[])
 |_,_=>none
theorem uj:CtOk (GGx kCa kDb) PP (171,mY):=by
 refine aF Tryz.func171 (by kernel_rfl) rfl fun a0 h0 c0 v0 N0 e hc=>?_
 unfold mY at e
 split at e
 ·rename_i f r kd a b occ
  cases e
  have hE:=aD (kCa:=kCa) (kDb:=kDb) (cts:=[(58,eF),(201,EO),(202,xO),(204,mJ),(203,DR)]) (inl:=[]) ⟨cD,BH,tJ,uq,Fj,trivial⟩ trivial
  refine av hE 2 Tryz.func171 rfl rfl ?_
  have hf:=FW hc
  repeat (first|refine ai ?_|refine sat_nd ?_)
  refine aq (fun h1=>?_) (fun h1=>?_)
  ·repeat (first|refine ai ?_|refine sat_nd ?_)
   exact af (aj (.inr rfl) rfl rfl rfl (by rw[bh,h1];rfl))
  refine aq (fun h2=>?_) (fun h2=>?_)
  ·repeat (first|refine ai ?_|refine sat_nd ?_)
   exact af (aj (.inr rfl) rfl rfl rfl (by rw[bh,h1,h2];rfl))
  have ht:=oW f r a b
  have hl:=oU f r a b
  repeat (first|refine ai ?_|refine sat_nd ?_)
  refine aq (fun h3=>?_) (fun h3=>?_)
  ·repeat (first|refine ai ?_|refine sat_nd ?_)
   refine ag (by rw[ht];simp;omega) ?_
   repeat (first|refine ai ?_|refine sat_nd ?_)
   exact af (aj (.inr rfl) rfl rfl rfl (by
    show V.bool (dG occ (((sy f r a b).drop 0).take (bU f r a b).length))=_
    rw[ht,bh,h1,h2,cond_false,cond_false,h3];rfl))
  ·repeat (first|refine ai ?_|refine sat_nd ?_)
   exact af (aj (.inr rfl) rfl rfl rfl (by rw[bh,h1,h2,cond_false,cond_false,h3];rfl))
 ·cases e
end
abbrev px(f n:Int):Int:=n.tmod f
abbrev py(f n:Int):Int:=n.tdiv f
theorem cO{f r n:Int}(h:ak f r n=true):0<=px f n/\px f n<f/\0<=py f n/\py f n<r/\i64.wrap (py f n)=py f n/\3<=f/\f<=8/\3<=r/\r<=8:=by
 obtain⟨b1,b2,b3,b4,b5,_,_⟩:=Iw h
 have:=cY (bO h)
 exact⟨b1,b2,b3,b4,b5,this.1,this.2.1,this.2.2.1,this.2.2.2⟩
theorem iQ{f r n:Int}(_h:ak f r n=true):px f n+py f n*f=n:=by
 have:=Int.tmod_add_mul_tdiv n f
 rw[Int.mul_comm]at this
 exact this
theorem wN{f X Y x y:Int}(hf:0<f)(h1:0<=X)(h2:X<f)(h3:0<=x)(h4:x<f)(h:X+Y*f=x+y*f):X=x/\Y=y:=by
 have e:(Y-y)*f=x-X:=by rw[Int.sub_mul];omega
 have hz:Y-y=0:=by
  rcases Int.lt_trichotomy (Y-y) 0 with h|h|h
  ·have:(Y-y)*f<=-1*f:=Int.mul_le_mul_of_nonneg_right (by omega) (by omega)
   omega
  ·exact h
  ·have:1*f<=(Y-y)*f:=Int.mul_le_mul_of_nonneg_right (by omega) (by omega)
   omega
 rw[hz,Int.zero_mul]at e
 omega
theorem gH{f r X Y b:Int}(hv:vsB f r=true)(ho:onB f r X Y=true)(hb:ak f r b=true):numR f r X Y=b↔px f b=X/\py f b=Y:=by
 have h:=wC (X:=X) (Y:=Y) hv
 rw[ho]at h
 have hp:=kZ (of_decide_eq_true h)
 have hx:=oG ho
 have hq:=cO hb
 rw[rY hv ho,hp.2.2.2.2]
 constructor
 ·intro e
  rw[<-iQ hb]at e
  have:=wN (by omega) hx.1 hx.2.1 hq.1 hq.2.1 e
  exact⟨this.1.symm,this.2.symm⟩
 ·rintro⟨rfl,rfl⟩;exact iQ hb
theorem gy{f r a b:Int}(ha:ak f r a=true)(hb:ak f r b=true):a=b↔px f a=px f b/\py f a=py f b:=by
 constructor
 ·rintro rfl;exact⟨rfl,rfl⟩
 ·rintro⟨h1,h2⟩;rw[<-iQ ha,<-iQ hb,h1,h2]
def unit(df dr:Int):Prop:=-1<=df/\df<=1/\-1<=dr/\dr<=1/\(df≠0\/dr≠0)
theorem bI{df dr:Int}(h:unit df dr):(df=1/\dr=0)\/(df=0/\dr=1)\/(df=-1/\dr=0)\/(df=0/\dr=-1)\/(df=1/\dr=1)\/(df=-1/\dr=1)\/(df=-1/\dr=-1)\/(df=1/\dr=-1):=by
 obtain⟨h1,h2,h3,h4,h5⟩:=h
 omega
theorem IJ{df dr x y:Int}(hu:unit df dr)(hx:0<=x/\x<=7)(hy:0<=y/\y<=7){k:Nat}(hk:k<=9):i64.wrap (x+i64.wrap (k*df))=x+k*df/\i64.wrap (y+i64.wrap (k*dr))=y+k*dr/\i64.wrap ((k:Int)+1)=((k+1:Nat):Int):=by
 rcases bI hu with⟨rfl,rfl⟩|⟨rfl,rfl⟩|⟨rfl,rfl⟩|⟨rfl,rfl⟩|⟨rfl,rfl⟩|⟨rfl,rfl⟩|⟨rfl,rfl⟩|⟨rfl,rfl⟩ <;>
 ·refine⟨?_,?_,?_⟩
  ·rw[aC (n:=(k:Int)*_) (by omega) (by omega),aC (by omega) (by omega)]
  ·rw[aC (n:=(k:Int)*_) (by omega) (by omega),aC (by omega) (by omega)]
  ·rw[aC (by omega) (by omega)];omega
theorem NA{f r df dr x y b:Int}(hv:vsB f r=true)(hu:unit df dr)(ho:onB f r x y=true)(hb:ak f r b=true):∀ (m k:Nat),m+k=9->1<=k ->
  (hasL b (eH f r df dr x y m k)=true↔∃ i:Nat,k<=i/\i<=8/\px f b=x+i*df/\py f b=y+i*dr):=by
 have hx:=oG ho
 have hq:=cO hb
 intro m
 induction m with
 |zero=>intro k hk h1;simp only[eH,hasL];exact⟨fun h=>(by cases h),fun⟨i,h2,h3,_⟩=>by omega⟩
 |succ m ih=>
  intro k hk h1
  obtain⟨e1,e2,e3⟩:=IJ (x:=x) (y:=y) hu ⟨by omega,by omega⟩ ⟨by omega,by omega⟩ (k:=k) (by omega)
  rw[eH,e1,e2,e3,mH hv]
  cases h2:onB f r (x+(k:Int)*df) (y+(k:Int)*dr) with
  |false=>
   simp only[Bool.not_false,cond_true,hasL]
   refine⟨fun h=>(by cases h),fun⟨i,h3,h4,h5,h6⟩=>?_⟩
   have:onB f r (x+(k:Int)*df) (y+(k:Int)*dr)=true:=by
    rcases bI hu with⟨rfl,rfl⟩|⟨rfl,rfl⟩|⟨rfl,rfl⟩|⟨rfl,rfl⟩|⟨rfl,rfl⟩|⟨rfl,rfl⟩|⟨rfl,rfl⟩|⟨rfl,rfl⟩<;>exact iH (by omega) (by omega) (by omega) (by omega)
   rw[h2]at this;cases this
  |true=>
   simp only[Bool.not_true,cond_false,hasL,Bool.or_eq_true,decide_eq_true_eq]
   rw[gH hv h2 hb,ih (k+1) (by omega) (by omega)]
   constructor
   ·rintro(⟨h3,h4⟩|⟨i,h3,h4,h5⟩)
    ·exact⟨k,Nat.le_refl _,by omega,h3,h4⟩
    ·exact⟨i,by omega,h4,h5⟩
   ·rintro⟨i,h3,h4,h5,h6⟩
    rcases Nat.lt_or_ge k i with h|h
    ·exact .inr ⟨i,h,h4,h5,h6⟩
    ·obtain rfl:i=k:=by omega
     exact .inl ⟨h5,h6⟩
theorem KV{df dr:Int}(hu:unit df dr):(decide (df=0)&&decide (dr=0))=false:=by
 obtain⟨_,_,_,_,h⟩:=hu
 simp only[Bool.and_eq_false_iff,decide_eq_false_iff_not];exact h
theorem Iy{f r a df dr:Int}(ha:ak f r a=true)(hu:unit df dr):cj f r a df dr=eH f r df dr (px f a) (py f a) 8 ((1:Nat):Int):=by
 have hp:=cO ha
 simp[cj,ha,KV hu,hp.2.2.2.2.1]
theorem rO{f r a b df dr:Int}(ha:ak f r a=true)(hb:ak f r b=true)(hu:unit df dr) :
  hasL b (cj f r a df dr)=true↔∃ i:Nat,1<=i/\i<=8/\px f b=px f a+i*df/\py f b=py f a+i*dr:=by
 have hp:=cO ha
 rw[Iy ha hu]
 exact NA (bO ha) hu (iH hp.1 hp.2.1 hp.2.2.1 hp.2.2.2.1) hb 8 1 rfl (Nat.le_refl _)
theorem jw(n:Int):(n<0/\sgn n=-1)\/(n=0/\sgn n=0)\/(0<n/\sgn n=1):=by
 unfold sgn
 rcases Int.lt_trichotomy n 0 with h|h|h
 ·left;simp[h]
 ·right;left;simp[h]
 ·right;right
  have:¬ n<0:=by omega
  simp[h,this]
theorem fZ{f r a b:Int}(ha:ak f r a=true)(hb:ak f r b=true):i64.wrap (b.tmod f-a.tmod f)=px f b-px f a/\i64.wrap (i64.wrap (b.tdiv f)-i64.wrap (a.tdiv f))=py f b-py f a:=by
 have hp:=cO ha
 have hq:=cO hb
 show i64.wrap (px f b-px f a)=_/\i64.wrap (i64.wrap (py f b)-i64.wrap (py f a))=_
 rw[hp.2.2.2.2.1,hq.2.2.2.2.1]
 exact⟨aC (by omega) (by omega),aC (by omega) (by omega)⟩
def onLine(x y:Int):Prop:=(x≠0\/y≠0)/\(x=0\/y=0\/x=y\/x=-y)
theorem FT{f r a b:Int}(ha:ak f r a=true)(hb:ak f r b=true):yZ f a b=false↔onLine (px f b-px f a) (py f b-py f a):=by
 have hp:=cO ha
 have hq:=cO hb
 obtain⟨e1,e2⟩:=fZ ha hb
 unfold yZ
 rw[e1,e2,aC (by omega) (by omega)]
 simp only[Bool.or_eq_false_iff,Bool.and_eq_false_iff,decide_eq_false_iff_not,Bool.not_eq_false',decide_eq_true_eq]
 rw[gy ha hb]
 unfold onLine
 omega
theorem gF{f r a b:Int}(ha:ak f r a=true)(hb:ak f r b=true):(bj f a b=(0,0,false)/\¬ onLine (px f b-px f a) (py f b-py f a))\/(bj f a b=(sgn (px f b-px f a),sgn (py f b-py f a),true)/\onLine (px f b-px f a) (py f b-py f a)):=by
 obtain⟨e1,e2⟩:=fZ ha hb
 have h:=FT ha hb
 unfold bj
 rw[e1,e2]
 cases hl:yZ f a b with
 |true=>left;rw[hl]at h;exact⟨rfl,fun h2=>by have:=h.2 h2;cases this⟩
 |false=>right;exact⟨rfl,h.1 hl⟩
theorem xq{x y:Int}(h:onLine x y):unit (sgn x) (sgn y):=by
 obtain⟨h1,_⟩:=h
 unfold unit
 have:=jw x
 have:=jw y
 omega
theorem lX{f r a b:Int}(ha:ak f r a=true)(hb:ak f r b=true)(h:(bj f a b).2.2=true):unit (bj f a b).1 (bj f a b).2.1/\hasL b (dn f r a b)=true:=by
 have hp:=cO ha
 have hq:=cO hb
 rcases gF ha hb with⟨e,_⟩|⟨e,h2⟩
 ·rw[e]at h;cases h
 ·rw[e]
  refine⟨xq h2,?_⟩
  unfold dn
  rw[e]
  rw[rO ha hb (xq h2)]
  obtain⟨h3,h4⟩:=h2
  have s1:=jw (px f b-px f a)
  have s2:=jw (py f b-py f a)
  rcases s1 with⟨g1,s1⟩|⟨g1,s1⟩|⟨g1,s1⟩<;>rcases s2 with⟨g2,s2⟩|⟨g2,s2⟩|⟨g2,s2⟩<;>simp only[s1,s2] <;>
  first
   | (exfalso;omega)
   |exact⟨(px f b-px f a).natAbs,by omega,by omega,by omega,by omega⟩
   |exact⟨(py f b-py f a).natAbs,by omega,by omega,by omega,by omega⟩
theorem xZ{f r a b df dr:Int}(ha:ak f r a=true)(hb:ak f r b=true)(hu:unit df dr)(h:hasL b (cj f r a df dr)=true):bj f a b=(df,dr,true):=by
 have hp:=cO ha
 have hq:=cO hb
 obtain⟨i,h1,h2,h3,h4⟩:=(rO ha hb hu).1 h
 have s1:=jw (px f b-px f a)
 have s2:=jw (py f b-py f a)
 rcases gF ha hb with⟨e,h5⟩|⟨e,_⟩
 ·exfalso
  apply h5
  unfold onLine
  rcases bI hu with⟨rfl,rfl⟩|⟨rfl,rfl⟩|⟨rfl,rfl⟩|⟨rfl,rfl⟩|⟨rfl,rfl⟩|⟨rfl,rfl⟩|⟨rfl,rfl⟩|⟨rfl,rfl⟩<;>omega
 ·rw[e]
  have e1:sgn (px f b-px f a)=df:=by rcases bI hu with⟨rfl,rfl⟩|⟨rfl,rfl⟩|⟨rfl,rfl⟩|⟨rfl,rfl⟩|⟨rfl,rfl⟩|⟨rfl,rfl⟩|⟨rfl,rfl⟩|⟨rfl,rfl⟩<;>omega
  have e2:sgn (py f b-py f a)=dr:=by rcases bI hu with⟨rfl,rfl⟩|⟨rfl,rfl⟩|⟨rfl,rfl⟩|⟨rfl,rfl⟩|⟨rfl,rfl⟩|⟨rfl,rfl⟩|⟨rfl,rfl⟩|⟨rfl,rfl⟩<;>omega
  rw[e1,e2]
theorem gP{f r X Y:Int}(hv:vsB f r=true)(ho:onB f r X Y=true):ak f r (X+Y*f)=true/\px f (X+Y*f)=X/\py f (X+Y*f)=Y:=by
 have hb:=cY hv
 have hx:=oG ho
 have hm:=cV hv
 have e1:0<=Y*f:=Int.mul_nonneg hx.2.2.1 (by omega)
 have e2:(Y+1)*f<=r*f:=Int.mul_le_mul_of_nonneg_right (by omega) (by omega)
 rw[Int.add_mul,Int.mul_comm r f]at e2
 have hval:ak f r (X+Y*f)=true:=by
  simp only[ak,Bool.and_eq_true,decide_eq_true_eq]
  rw[fj hv]
  exact⟨⟨hv,by omega⟩,by omega⟩
 have hq:=cO hval
 have:=wN (f:=f) (by omega) hx.1 hx.2.1 hq.1 hq.2.1 (iQ hval).symm
 exact⟨hval,this.1.symm,this.2.symm⟩
theorem aS{f r n:Int}(h:ak f r n=true):0<=n/\n<f*r/\n<64:=by
 have hm:=cV (bO h)
 simp only[ak,Bool.and_eq_true,decide_eq_true_eq]at h
 rw[fj h.1.1]at h
 exact⟨h.1.2,h.2,by omega⟩
theorem ee{f r n:Int}(hv:vsB f r=true)(h1:0<=n)(h2:n<f*r):ak f r n=true:=by
 simp only[ak,Bool.and_eq_true,decide_eq_true_eq]
 rw[fj hv]
 exact⟨⟨hv,h1⟩,h2⟩
theorem nV{s n:Int}(hs:Uk s):hasB s n=(decide (0<=n)&&decide (n<64)&&bt s n.toNat):=by
 unfold hasB
 by_cases h1:0<=n
 ·by_cases h2:n<64
  ·simp only[h1,h2,decide_true,Bool.true_and]
   rw[DZ hs h1 h2]
   unfold bt
   have:(((s.toNat >>> n.toNat:Nat):Int).tmod 2)=((s.toNat >>> n.toNat%2:Nat):Int):=by
    rw[Int.tmod_eq_emod_of_nonneg (Int.natCast_nonneg _)];norm_cast
   rw[this]
   have h3:s.toNat.testBit n.toNat=(s.toNat >>> n.toNat).testBit 0:=by rw[Nat.testBit_shiftRight,Nat.add_zero]
   rw[h3,Nat.testBit_zero]
   congr 1
   exact propext ⟨fun h=>by omega,fun h=>by omega⟩
  ·simp[h2]
 ·simp[h1]
theorem gE{f r s n:Int}(hs:Uk s)(hn:ak f r n=true):hasB s n=bt s n.toNat:=by
 have:=aS hn
 rw[nV hs];simp[this.1,this.2.2]
theorem eA{f r a df dr x:Int}(ha:ak f r a=true)(h:x∈cj f r a df dr):ak f r x=true:=by
 have hv:=bO ha
 have key:∀ (m:Nat) (k:Int),x∈eH f r df dr (a.tmod f) (i64.wrap (a.tdiv f)) m k->ak f r x=true:=by
  intro m
  induction m with
  |zero=>intro k h;simp[eH]at h
  |succ m ih=>
   intro k h
   rw[eH,mH hv]at h
   cases h2:onB f r (i64.wrap (a.tmod f+i64.wrap (k*df))) (i64.wrap (i64.wrap (a.tdiv f)+i64.wrap (k*dr))) with
   |false=>rw[h2]at h;simp at h
   |true=>
    rw[h2]at h
    simp only[Bool.not_true,cond_false,List.mem_cons]at h
    rcases h with rfl|h
    ·have h3:=wC (X:=i64.wrap (a.tmod f+i64.wrap (k*df))) (Y:=i64.wrap (i64.wrap (a.tdiv f)+i64.wrap (k*dr))) hv
     rw[h2]at h3
     have hp:=kZ (of_decide_eq_true h3)
     rw[rY hv h2,hp.2.2.2.2]
     exact(gP hv h2).1
    ·exact ih _ h
 unfold cj at h
 cases hc:(!ak f r a||(decide (df=0)&&decide (dr=0))) with
 |true=>rw[hc]at h;simp at h
 |false=>rw[hc,cond_false]at h;exact key _ _ h
def OnS(f r s:Int):Prop:=∀ m,m<64->bt s m=true->ak f r m=true
theorem vb{α:Type}(step:Int->α->Int)(p:α->Nat->Bool):∀ (rs:List α) (s:Int),(∀ s row,row∈rs->Uk s->Uk (step s row)/\∀ m,bt (step s row) m=(bt s m||p row m))->Uk s->Uk (rs.foldl step s)/\∀ m,bt (rs.foldl step s) m=(bt s m||rs.any (p · m))
 |[],s,_,hs=>⟨hs,fun m=>by simp⟩
 |row::rs,s,h,hs=>by
  obtain⟨h1,h2⟩:=h s row (by simp) hs
  obtain⟨h3,h4⟩:=vb step p rs (step s row) (fun s r hr=>h s r (by simp[hr])) h1
  refine⟨h3,fun m=>?_⟩
  rw[List.foldl_cons,h4,h2,List.any_cons,Bool.or_assoc]
def lu(f r a:Int)(row:List Int)(m:Nat):Bool:=ak f r m&&decide (px f m-px f a=row.getD 0 0)&&decide (py f m-py f a=row.getD 1 0)
theorem mG{f r a:Int}(ha:ak f r a=true)(rs:List (List Int))(hrs:∀ row∈rs,-8<=row.getD 0 0/\row.getD 0 0<=8/\-8<=row.getD 1 0/\row.getD 1 0<=8):Uk (bZ f r a rs)/\∀ m,bt (bZ f r a rs) m=rs.any (lu f r a · m):=by
 have hv:=bO ha
 have hp:=cO ha
 have hpl:(aZ f r a).1=px f a/\(aZ f r a).2.1=py f a:=by simp only[aZ,ha,cond_true];exact⟨by first|rfl|trivial,hp.2.2.2.2.1⟩
 have h:=vb (fS f r (aZ f r a).1 (aZ f r a).2.1) (lu f r a) rs 0 ?_ uk_0
 ·refine⟨h.1,fun m=>?_⟩
  unfold bZ
  rw[h.2,bt_0,Bool.false_or]
 ·intro s row hrow hs
  have hb:=hrs row hrow
  unfold fS sY
  rw[hpl.1,hpl.2,aC (n:=px f a+_) (by omega) (by omega),aC (n:=py f a+_) (by omega) (by omega),wC hv]
  cases ho:onB f r (px f a+row.getD 0 0) (py f a+row.getD 1 0) with
  |false=>
   refine⟨hs,fun m=>?_⟩
   rw[cond_false]
   have:lu f r a row m=false:=by
    cases hl:lu f r a row m with
    |false=>rfl
    |true=>
     simp only[lu,Bool.and_eq_true,decide_eq_true_eq]at hl
     have hq:=cO hl.1.1
     have:onB f r (px f a+row.getD 0 0) (py f a+row.getD 1 0)=true:=iH (by omega) (by omega) (by omega) (by omega)
     rw[ho]at this;cases this
   rw[this,Bool.or_false]
  |true=>
   rw[cond_true]
   have h3:=wC (X:=px f a+row.getD 0 0) (Y:=py f a+row.getD 1 0) hv
   rw[ho]at h3
   have hq:=kZ (of_decide_eq_true h3)
   obtain⟨v1,v2,v3⟩:=gP hv ho
   rw[<-hq.2.2.2.2]at v1 v2 v3
   generalize (atR f r (px f a+row.getD 0 0) (py f a+row.getD 1 0)).1=x at *
   refine⟨jE _ _,fun m=>?_⟩
   rw[iu hs (gl _ _),fB hq.1 hq.2.1]
   congr 1
   unfold lu
   by_cases e:x=(m:Int)
   ·subst e
    simp only[v1,decide_true,Bool.true_and]
    rw[v2,v3];simp;omega
   ·simp only[e,decide_false]
    symm
    cases hl:(ak f r m&&decide (px f m-px f a=row.getD 0 0)&&decide (py f m-py f a=row.getD 1 0)) with
    |false=>rfl
    |true=>
     simp only[Bool.and_eq_true,decide_eq_true_eq]at hl
     exact absurd ((gy v1 hl.1.1).2 ⟨by omega,by omega⟩) e
def hitB(occ:Int)(m:Int):List Int->Bool
 |[]=>false
 |x::l=>decide (x=m)||(!bt occ x.toNat&&hitB occ m l)
theorem pq{occ:Int}(ho:Uk occ):∀ (L:List Int) (s:Int),(∀ x∈L,0<=x/\x<64)->Uk s->Uk (dD occ L s)/\∀ m:Nat,bt (dD occ L s) m=(bt s m||hitB occ m L)
 |[],s,_,hs=>⟨hs,fun m=>by simp[dD,hitB]⟩
 |x::L,s,hL,hs=>by
  have hx:=hL x (by simp)
  unfold dD
  rw[pS ho hx.1 hx.2]
  cases hb:bt occ x.toNat with
  |true=>
   refine⟨jE _ _,fun m=>?_⟩
   rw[cond_true,iu hs (gl _ _),fB hx.1 hx.2]
   simp[hitB,hb]
  |false=>
   obtain⟨h1,h2⟩:=pq ho L (uor s (ushl 1 x)) (fun y hy=>hL y (by simp[hy])) (jE _ _)
   refine⟨h1,fun m=>?_⟩
   rw[cond_false,h2,iu hs (gl _ _),fB hx.1 hx.2]
   simp[hitB,hb,Bool.or_assoc]
theorem Dp{occ m:Int}:∀ {L:List Int},hitB occ m L=true->hasL m L=true
 |x::L,h=>by
  simp only[hitB,Bool.or_eq_true,Bool.and_eq_true,decide_eq_true_eq]at h
  simp only[hasL,Bool.or_eq_true,decide_eq_true_eq]
  exact h.imp id fun h=>Dp h.2
theorem xA{f r occ m:Int}(ho:Uk occ):∀ (L:List Int),(∀ x∈L,ak f r x=true)->hitB occ m L=(hasL m L&&dG occ (L.take (idxL m L)))
 |[],_=>rfl
 |x::L,hL=>by
  have ih:=xA (m:=m) ho L fun y hy=>hL y (by simp[hy])
  have hx:=gE ho (hL x (by simp))
  by_cases e:x=m
  ·simp[hitB,hasL,idxL,e,dG]
  ·simp only[hitB,hasL,idxL,e,decide_false,Bool.false_or,cond_false,List.take_succ_cons,dG,hx,ih]
   cases bt occ x.toNat<;>simp
def kP(f r a occ:Int)(row:List Int)(m:Nat):Bool:=hitB occ m (cj f r a (row.getD 0 0) (row.getD 1 0))
theorem EW{df dr:Int}(h:unit df dr):inR df dr=true:=by
 obtain⟨h1,h2,h3,h4,_⟩:=h
 simp only[inR,Bool.and_eq_true,decide_eq_true_eq];omega
theorem xz{f r a occ:Int}(ha:ak f r a=true)(ho:Uk occ)(rs:List (List Int))(hrs:∀ row∈rs,unit (row.getD 0 0) (row.getD 1 0)):Uk (dB f r a occ rs)/\∀ m,bt (dB f r a occ rs) m=rs.any (kP f r a occ · m):=by
 have h:=vb (eB f r a occ) (kP f r a occ) rs 0 ?_ uk_0
 ·refine⟨h.1,fun m=>?_⟩
  unfold dB
  rw[h.2,bt_0,Bool.false_or]
 ·intro s row hrow hs
  unfold eB kP
  rw[IB,EW (hrs row hrow),cond_true]
  exact pq ho _ s (fun x hx=>⟨(aS (eA ha hx)).1,(aS (eA ha hx)).2.2⟩) hs
theorem fX{m:Int}{L:List Int}:hasL m L=true↔m∈L:=by
 induction L with
 |nil=>simp[hasL]
 |cons x L ih=>simp only[hasL,Bool.or_eq_true,decide_eq_true_eq,ih,List.mem_cons];exact⟨fun h=>h.imp Eq.symm id,fun h=>h.imp Eq.symm id⟩
theorem yj(P:Int->Int->Bool)(h:∀ i j:_root_.Fin 15,P ((i.val:Int)-7) ((j.val:Int)-7)=true){x y:Int}(hx:-7<=x/\x<=7)(hy:-7<=y/\y<=7):P x y=true:=by
 have:=h ⟨(x+7).toNat,by omega⟩ ⟨(y+7).toNat,by omega⟩
 simp only at this
 rw[show (((x+7).toNat:Int)-7)=x by omega,show (((y+7).toNat:Int)-7)=y by omega]at this
 exact this
def fJ(rs:List (List Int))(x y:Int):Bool:=rs.any fun row=>decide (x=row.getD 0 0)&&decide (y=row.getD 1 0)
theorem iT{f r a b:Int}(hb:ak f r b=true)(rs:List (List Int)):rs.any (lu f r a · b.toNat)=fJ rs (px f b-px f a) (py f b-py f a):=by
 have:=aS hb
 unfold fJ lu
 rw[show ((b.toNat:Nat):Int)=b by omega,hb]
 rfl
theorem ny{f r a b:Int}(ha:ak f r a=true)(hb:ak f r b=true):(-7<=px f b-px f a/\px f b-px f a<=7)/\(-7<=py f b-py f a/\py f b-py f a<=7):=by
 have:=cO ha
 have:=cO hb
 omega
def DP(x y:Int):Bool:=fJ iy x y==decide (i64.wrap (i64.wrap (x*x)+i64.wrap (y*y))=5)
theorem Av:∀ i j:_root_.Fin 15,DP ((i.val:Int)-7) ((j.val:Int)-7)=true:=by decide +kernel
def gi(x y:Int):Int:=bif decide (absI (i64.wrap (0-y))<absI (i64.wrap (0-x)))then absI (i64.wrap (0-x))else absI (i64.wrap (0-y))
def Nn(x y:Int):Bool:=(fJ fI x y||fJ fD x y)==decide (gi x y=1)
theorem HN:∀ i j:_root_.Fin 15,Nn ((i.val:Int)-7) ((j.val:Int)-7)=true:=by decide +kernel
theorem DD{f r a b:Int}(ha:ak f r a=true)(hb:ak f r b=true):uC f a b=gi (px f b-px f a) (py f b-py f a):=by
 obtain⟨e1,e2⟩:=fZ hb ha
 have h:=ny ha hb
 unfold uC gi
 rw[e1,e2,aC (n:=0-(px f b-px f a)) (by omega) (by omega),aC (n:=0-(py f b-py f a)) (by omega) (by omega)]
 rw[show 0-(px f b-px f a)=px f a-px f b by omega,show 0-(py f b-py f a)=py f a-py f b by omega]
theorem jf{f r a b occ:Int}(ha:ak f r a=true)(hb:ak f r b=true)(ho:Uk occ)(rs:List (List Int))(hrs:∀ row∈rs,unit (row.getD 0 0) (row.getD 1 0)) :
  rs.any (kP f r a occ · b.toNat)=((bj f a b).2.2&&fJ rs (bj f a b).1 (bj f a b).2.1&&dG occ (bU f r a b)):=by
 have hl:=aS hb
 have pt:∀ row∈rs,kP f r a occ row b.toNat=((bj f a b).2.2&&(decide ((bj f a b).1=row.getD 0 0)&&decide ((bj f a b).2.1=row.getD 1 0))&&dG occ (bU f r a b)):=by
  intro row hrow
  have hu:=hrs row hrow
  unfold kP
  rw[show ((b.toNat:Nat):Int)=b by omega,xA (f:=f) (r:=r) ho _ (fun x hx=>eA ha hx)]
  cases hh:hasL b (cj f r a (row.getD 0 0) (row.getD 1 0)) with
  |true=>
   have e:=xZ ha hb hu hh
   have hz:dn f r a b=cj f r a (row.getD 0 0) (row.getD 1 0):=by rw[dn,e]
   unfold bU
   rw[hz,hh,e];simp
  |false=>
   rw[Bool.false_and]
   symm
   cases h2:(bj f a b).2.2 with
   |false=>rfl
   |true=>
    obtain⟨_,h3⟩:=lX ha hb h2
    by_cases e:(bj f a b).1=row.getD 0 0/\(bj f a b).2.1=row.getD 1 0
    ·rw[dn,e.1,e.2,hh]at h3;cases h3
    ·simp only[Bool.true_and]
     rw[show (decide ((bj f a b).1=row.getD 0 0)&&decide ((bj f a b).2.1=row.getD 1 0))=false by simp only[Bool.and_eq_false_iff,decide_eq_false_iff_not];omega]
     rfl
 have gen:∀ l:List (List Int),(∀ row∈l,row∈rs)->l.any (kP f r a occ · b.toNat)=((bj f a b).2.2&&fJ l (bj f a b).1 (bj f a b).2.1&&dG occ (bU f r a b)):=by
  intro l
  induction l with
  |nil=>intro _;simp[fJ]
  |cons row l ih=>
   intro h
   rw[List.any_cons,ih (fun x hx=>h x (by simp[hx])),pt row (h row (by simp))]
   unfold fJ
   rw[List.any_cons]
   cases(bj f a b).2.2<;>cases(decide ((bj f a b).1=row.getD 0 0)&&decide ((bj f a b).2.1=row.getD 1 0))<;>cases dG occ (bU f r a b)<;>simp
 exact gen rs fun _ h=>h
theorem GM:∀ row∈iy,-8<=row.getD 0 0/\row.getD 0 0<=8/\-8<=row.getD 1 0/\row.getD 1 0<=8:=by decide
theorem jH:∀ row∈fI,unit (row.getD 0 0) (row.getD 1 0):=by unfold unit;decide
theorem jJ:∀ row∈fD,unit (row.getD 0 0) (row.getD 1 0):=by unfold unit;decide
theorem Ei{rs:List (List Int)}(h:∀ row∈rs,unit (row.getD 0 0) (row.getD 1 0)):∀ row∈rs,-8<=row.getD 0 0/\row.getD 0 0<=8/\-8<=row.getD 1 0/\row.getD 1 0<=8:=fun row hr=>by
 obtain⟨h1,h2,h3,h4,_⟩:=h row hr
 omega
theorem jb{x y:Int}(h:unit x y):fJ fI x y=!(decide (x=0)||decide (y=0))/\fJ fD x y=(decide (x=0)||decide (y=0)):=by
 rcases bI h with⟨rfl,rfl⟩|⟨rfl,rfl⟩|⟨rfl,rfl⟩|⟨rfl,rfl⟩|⟨rfl,rfl⟩|⟨rfl,rfl⟩|⟨rfl,rfl⟩|⟨rfl,rfl⟩<;>decide
theorem Oi(n:Int):decide (sgn n=0)=decide (n=0):=by
 have:=jw n
 congr 1
 exact propext ⟨fun h=>by omega,fun h=>by omega⟩
def lq(f r kd a occ:Int):Int:=(dY f r kd a occ).1
def ga(kd:Int):Prop:=kd=2\/kd=3\/kd=4\/kd=5\/kd=6
theorem GW{f r kd a occ:Int}(h:kz f r a occ=true)(hk:ga kd):(dY f r kd a occ).2=0/\lq f r kd a occ=bif decide (kd=2)then bZ f r a iy else bif decide (kd=3)then dB f r a occ fI else bif decide (kd=4)then dB f r a occ fD
     else bif decide (kd=5)then uor (dB f r a occ fI) (dB f r a occ fD)else uor (bZ f r a fI) (bZ f r a fD):=by
 unfold lq dY
 rw[h,cond_true]
 rcases hk with rfl|rfl|rfl|rfl|rfl<;>exact⟨rfl,rfl⟩
theorem mc{f r kd a occ:Int}(h:kz f r a occ=true)(ho:Uk occ)(hk:ga kd):Uk (lq f r kd a occ)/\OnS f r (lq f r kd a occ)/\∀ b,ak f r b=true->bt (lq f r kd a occ) b.toNat=bh f r kd a b occ:=by
 have ha:ak f r a=true:=by simp only[kz,Bool.and_eq_true]at h;exact h.1
 have L1:=mG ha iy GM
 have L2:=mG ha fI (Ei jH)
 have L3:=mG ha fD (Ei jJ)
 have S1:=xz ha ho fI jH
 have S2:=xz ha ho fD jJ
 have onl:∀ (rs:List (List Int)) (m:Nat),rs.any (lu f r a · m)=true->ak f r m=true:=by
  intro rs m h
  obtain⟨row,_,h2⟩:=List.any_eq_true.1 h
  simp only[lu,Bool.and_eq_true]at h2
  exact h2.1.1
 have ons:∀ (rs:List (List Int)) (m:Nat),rs.any (kP f r a occ · m)=true->ak f r m=true:=by
  intro rs m h
  obtain⟨row,_,h2⟩:=List.any_eq_true.1 h
  exact eA ha (fX.1 (Dp h2))
 obtain⟨_,hS⟩:=GW h hk
 rw[hS]
 have key:∀ b,ak f r b=true->(bj f a b).2.2=true->unit (bj f a b).1 (bj f a b).2.1/\(decide (i64.wrap (b.tmod f-a.tmod f)=0)||decide (i64.wrap (i64.wrap (b.tdiv f)-i64.wrap (a.tdiv f))=0))=(decide ((bj f a b).1=0)||decide ((bj f a b).2.1=0)):=by
  intro b hb hl
  obtain⟨e1,e2⟩:=fZ ha hb
  refine⟨(lX ha hb hl).1,?_⟩
  rcases gF ha hb with⟨e,_⟩|⟨e,_⟩
  ·rw[e]at hl;cases hl
  ·rw[e1,e2,e]
   simp only[Oi]
 rcases hk with rfl|rfl|rfl|rfl|rfl
 ·refine⟨L1.1,fun m _ hm=>onl _ _ ((L1.2 m).symm.trans hm),fun b hb=>?_⟩
  obtain⟨e1,e2⟩:=fZ ha hb
  have hd:=ny ha hb
  have hp:=yj DP Av hd.1 hd.2
  show bt (bZ f r a iy) b.toNat=decide (_=5)
  rw[L1.2,iT hb,e1,e2]
  exact eq_of_beq hp
 ·refine⟨S1.1,fun m _ hm=>ons _ _ ((S1.2 m).symm.trans hm),fun b hb=>?_⟩
  show bt (dB f r a occ fI) b.toNat=((bj f a b).2.2&&(false||((decide (i64.wrap (b.tmod f-a.tmod f)=0)||decide (i64.wrap (i64.wrap (b.tdiv f)-i64.wrap (a.tdiv f))=0))==false))&&dG occ (bU f r a b))
  rw[S1.2,jf ha hb ho _ jH]
  cases hl:(bj f a b).2.2 with
  |false=>simp
  |true=>obtain⟨k1,k2⟩:=key b hb hl;rw[k2,(jb k1).1];simp
 ·refine⟨S2.1,fun m _ hm=>ons _ _ ((S2.2 m).symm.trans hm),fun b hb=>?_⟩
  show bt (dB f r a occ fD) b.toNat=((bj f a b).2.2&&(false||((decide (i64.wrap (b.tmod f-a.tmod f)=0)||decide (i64.wrap (i64.wrap (b.tdiv f)-i64.wrap (a.tdiv f))=0))==true))&&dG occ (bU f r a b))
  rw[S2.2,jf ha hb ho _ jJ]
  cases hl:(bj f a b).2.2 with
  |false=>simp
  |true=>obtain⟨k1,k2⟩:=key b hb hl;rw[k2,(jb k1).2];simp
 ·refine⟨jE _ _,fun m _ hm=>?_,fun b hb=>?_⟩
  ·have hm:bt (uor (dB f r a occ fI) (dB f r a occ fD)) m=true:=hm
   rw[iu S1.1 S2.1,Bool.or_eq_true]at hm
   exact hm.elim (fun hm=>ons _ _ ((S1.2 m).symm.trans hm)) (fun hm=>ons _ _ ((S2.2 m).symm.trans hm))
  ·show bt (uor (dB f r a occ fI) (dB f r a occ fD)) b.toNat=((bj f a b).2.2&&(true||_)&&dG occ (bU f r a b))
   rw[iu S1.1 S2.1,S1.2,S2.2,jf ha hb ho _ jH,jf ha hb ho _ jJ]
   cases hl:(bj f a b).2.2 with
   |false=>simp
   |true=>
    obtain⟨k1,k2⟩:=key b hb hl
    rw[(jb k1).1,(jb k1).2]
    cases(decide ((bj f a b).1=0)||decide ((bj f a b).2.1=0))<;>simp
 ·refine⟨jE _ _,fun m _ hm=>?_,fun b hb=>?_⟩
  ·have hm:bt (uor (bZ f r a fI) (bZ f r a fD)) m=true:=hm
   rw[iu L2.1 L3.1,Bool.or_eq_true]at hm
   exact hm.elim (fun hm=>onl _ _ ((L2.2 m).symm.trans hm)) (fun hm=>onl _ _ ((L3.2 m).symm.trans hm))
  ·have hd:=ny ha hb
   have hp:=yj Nn HN hd.1 hd.2
   show bt (uor (bZ f r a fI) (bZ f r a fD)) b.toNat=decide (uC f a b=1)
   rw[iu L2.1 L3.1,L2.2,L3.2,iT hb,iT hb,DD ha hb]
   exact eq_of_beq hp
end Go.Ab
namespace Go.Ab
open Go.Proofs
theorem Nc{s x:Int}(hs:Uk s)(h1:0<=x)(h2:x<64)(hb:bt s x.toNat=false):IntKind.u64.wrap (s+ushl 1 x)=uor s (ushl 1 x):=by
 have hk:=gl 1 x
 rw[mg,Fh]
 have hz:BitVec.ofInt 64 s &&& BitVec.ofInt 64 (ushl 1 x)=0#64:=by
  apply BitVec.eq_of_toNat_eq
  rw[BitVec.toNat_and,jB hs,jB hk]
  apply Nat.eq_of_testBit_eq
  intro i
  rw[Nat.testBit_and]
  have h3:=fB h1 h2 i
  unfold bt at h3 hb
  rw[h3]
  by_cases e:x=(i:Int)
  ·subst e;rw[Int.toNat_natCast]at hb;simp[hb]
  ·simp[e]
 rw[<-BitVec.add_eq_or_of_and_eq_zero _ _ hz,BitVec.toNat_add,jB hs,jB hk]
 have h4:=hs.1
 have h5:=hk.1
 generalize ushl 1 x=y at *
 show (s+y)%18446744073709551616=(((s.toNat+y.toNat)%18446744073709551616:Nat):Int)
 omega
theorem iC:∀ (l:List Int) (s:Int),(∀ x∈l,0<=x/\x<64)->Uk s->Uk (ofL l s)/\∀ m:Nat,bt (ofL l s) m=(bt s m||decide ((m:Int)∈l))
 |[],s,_,hs=>⟨hs,fun m=>by simp[ofL]⟩
 |x::l,s,hl,hs=>by
  have hx:=hl x (by simp)
  rw[ofL]
  have hh:=nV (n:=x) hs
  simp only[hx.1,hx.2,decide_true,Bool.true_and]at hh
  cases hb:bt s x.toNat with
  |true=>
   obtain⟨h1,h2⟩:=iC l s (fun y hy=>hl y (by simp[hy])) hs
   rw[hh,hb,cond_true]
   refine⟨h1,fun m=>?_⟩
   rw[h2]
   by_cases e:(m:Int)=x
   ·subst e;rw[Int.toNat_natCast]at hb;simp[hb]
   ·simp[e]
  |false=>
   rw[hh,hb,cond_false,Nc hs hx.1 hx.2 hb]
   obtain⟨h1,h2⟩:=iC l (uor s (ushl 1 x)) (fun y hy=>hl y (by simp[hy])) (jE _ _)
   refine⟨h1,fun m=>?_⟩
   rw[h2,iu hs (gl _ _),fB hx.1 hx.2,Bool.or_assoc]
   congr 1
   by_cases e:(m:Int)=x
   ·simp[e]
   ·have e':¬ x=(m:Int):=fun h=>e h.symm
    simp[e,e']
theorem MU{f r:Int}(hv:vsB f r=true):Uk (allU f r)/\∀ m:Nat,bt (allU f r) m=decide ((m:Int)<f*r):=by
 have hm:=cV hv
 unfold allU
 rw[fj hv,aC (by omega) (by omega)]
 have hk:Uk 18446744073709551615:=⟨by decide,by decide⟩
 refine⟨DJ hk (by omega) (by omega),fun m=>?_⟩
 rw[Io hk (by omega) (by omega)]
 unfold bt
 rw[show (18446744073709551615:Int).toNat=2^64-1 by decide,Nat.testBit_two_pow_sub_one]
 congr 1
 exact propext ⟨fun h=>by omega,fun h=>by omega⟩
theorem Cd{f r s:Int}(hv:vsB f r=true)(hs:Uk s):de s (allU f r)=0↔OnS f r s:=by
 obtain⟨h1,h2⟩:=MU hv
 rw[nP (ke _ _)]
 constructor
 ·intro h m hm hb
  have:=h m hm
  rw[iG hs h1,hb,h2]at this
  simp at this
  exact ee hv (by omega) this
 ·intro h m hm
  rw[iG hs h1,h2]
  cases hb:bt s m with
  |false=>rfl
  |true=>have:=aS (h m hm hb);simp;omega
theorem ju{f r a s:Int}(hs:Uk s):kz f r a s=true↔ak f r a=true/\OnS f r s:=by
 unfold kz
 rw[Bool.and_eq_true,decide_eq_true_eq]
 exact⟨fun h=>⟨h.1,(Cd (bO h.1) hs).1 h.2⟩,fun h=>⟨h.1,(Cd (bO h.1) hs).2 h.2⟩⟩
theorem Dv{s x:Int}{k:Nat}:x∈Dd s k↔0<=x/\x<k/\hasB s x=true:=by
 have:Dd s k=cz (hasB s) id k:=by unfold Dd cz;rw[List.map_id]
 rw[this];exact bS
end Go.Ab
namespace Go.Ab
open IntKind
open Go.Proofs
section
variable{kCa kDb:Bool}
def eL(f:Int)(bl:Bool)(a b:Int):Bool:=decide (i64.wrap (i64.wrap (b.tdiv f)-i64.wrap (a.tdiv f))=fwd bl)&&(decide (i64.wrap (b.tmod f-a.tmod f)=1)||decide (i64.wrap (a.tmod f-b.tmod f)=1))
def one4(f r:Int)(bl:Bool)(a:Int):Int:=numR f r (a.tmod f) (i64.wrap (i64.wrap (a.tdiv f)+fwd bl))
def two4(f r:Int)(bl:Bool)(a:Int):Int:=numR f r (a.tmod f) (i64.wrap (i64.wrap (a.tdiv f)+i64.wrap (2*fwd bl)))
def jA(f r:Int)(bl:Bool)(a occ b:Int):Bool:=(decide (b=one4 f r bl a)&&!hasB occ (one4 f r bl a))||(decide (b=two4 f r bl a)&&decide (6<=r)&&decide (i64.wrap (a.tdiv f)=secR r bl)&&!hasB occ (one4 f r bl a)&&!hasB occ (two4 f r bl a))
def mM:CF
 |[.agg [.int .i64 f,.int .i64 r],.bool bl,.int .i64 a],[]=>some (vsB f r,.sl 0 0 (cz (eL f bl a) id ((f*r).toNat)).length none,[.ints true .i64 (cz (eL f bl a) id ((f*r).toNat))])
 |_,_=>none
theorem tK:CtOk (GGx kCa kDb) PP (170,mM):=by
 refine aF Tryz.func170 (by kernel_rfl) rfl fun a0 h0 c0 v0 N0 e hc=>?_
 unfold mM at e
 split at e
 ·rename_i f r bl a
  cases e
  have hE:=aD (kCa:=kCa) (kDb:=kDb) (cts:=[(58,eF),(200,Me)]) (inl:=[]) ⟨cD,Ih,trivial⟩ trivial
  refine av hE 2 Tryz.func170 rfl rfl ?_
  have hm:=cV hc
  have hw:=fj hc
  have hf:=cY hc
  have hf0:¬ f=0:=by omega
  refine bX hE 2 (fun(i:Int) (ys:List Int)=>([(1,Bb bl),(2,I a),(3,.ptr 0 0 0),(7,.sl 1 0 ys.length none),(8,I i)],[.cells true [I f,I r],.ints true .i64 ys])) ((f*r).toNat) (fun j ys=>ys=cz (eL f bl a) id j) [] (by omega) ((Ent.phanT (t:=7) (o:=.ints true .i64 []) rfl ⟨by simp,by simp,trivial,rfl⟩ (aM rfl)).trans (Ent.ren [0,1] [1,2,3,7,8] rfl rfl rfl)) rfl ?_
  intro j i ys hij hj hz
  have hb:=gB (eL f bl a) id j
  rw[<-hz]at hb
  refine aq (fun hlt=>?_) (fun hlt=>?_)
  ·have hlt':j<(f*r).toNat:=by simp only[decide_eq_true_eq]at hlt;rw[hw]at hlt;omega
   have hs:=fK (eL f bl a) id j
   rw[<-hz,<-hij]at hs
   repeat (first|refine ai ?_|refine sat_nd ?_)
   refine aq (fun hon=>?_) (fun hon=>?_)
   ·skip
    have hon:eL f bl a i=true:=hon
    rw[hon,cond_true]at hs
    refine ag (b:=decide (ys.length=ys.length)&&decide ((ys.length+1)*8<=140737488355328)&&true) (by simp;omega) ?_
    exact af ⟨hlt',ys++[id i],hs.symm,Ent.ren [0,5] [1,2,3,7,8] rfl rfl rfl⟩
   ·skip
    have hon:eL f bl a i=false:=hon
    rw[hon,cond_false]at hs
    exact af ⟨hlt',ys,hs.symm,Ent.ren [0,1] [1,2,3,7,8] rfl rfl rfl⟩
  ·obtain rfl:j=(f*r).toNat:=by simp only[decide_eq_false_iff_not]at hlt;rw[hw]at hlt;omega
   subst hz
   refine af (af ((dW 1 (.inr rfl) rfl rfl rfl rfl rfl rfl)))
 ·cases e
end
theorem tB(bl:Bool):(bl=true/\fwd bl=-1)\/(bl=false/\fwd bl=1):=by cases bl<;>simp[fwd]
theorem vc{f r X Y:Int}(h:onB f r X Y=false):numR f r X Y=-1:=by unfold numR;rw[vM,h];rfl
theorem MA{f r b X Y:Int}(hv:vsB f r=true)(hb:ak f r b=true):decide (b=numR f r X Y)=(decide (px f b=X)&&decide (py f b=Y)):=by
 have hq:=cO hb
 have hl:=aS hb
 cases ho:onB f r X Y with
 |true=>
  have:=gH hv ho hb
  rw[Bool.eq_iff_iff,Bool.and_eq_true,decide_eq_true_eq,decide_eq_true_eq,decide_eq_true_eq,<-this]
  exact⟨Eq.symm,Eq.symm⟩
 |false=>
  rw[vc ho,show decide (b=-1)=false by simp;omega]
  symm
  simp only[Bool.and_eq_false_iff,decide_eq_false_iff_not]
  by_cases h1:px f b=X
  ·right
   intro h2
   have:onB f r X Y=true:=iH (by omega) (by omega) (by omega) (by omega)
   rw[ho]at this;cases this
  ·exact .inl h1
theorem Jp(bl:Bool):∀ row∈[[-1,fwd bl],[1,fwd bl]],-8<=row.getD 0 0/\row.getD 0 0<=8/\-8<=row.getD 1 0/\row.getD 1 0<=8:=by cases bl<;>simp[fwd]
theorem xQ{f r a:Int}(rs:List (List Int))(m:Nat)(h:rs.any (lu f r a · m)=true):ak f r m=true:=by
 obtain⟨row,_,h2⟩:=List.any_eq_true.1 h
 simp only[lu,Bool.and_eq_true]at h2
 exact h2.1.1
theorem DL{f r a:Int}{bl:Bool}(ha:ak f r a=true):(jV f r bl a).2=0/\Uk (jV f r bl a).1/\OnS f r (jV f r bl a).1/\∀ b,ak f r b=true->bt (jV f r bl a).1 b.toNat=eL f bl a b:=by
 have L:=mG ha [[-1,fwd bl],[1,fwd bl]] (Jp bl)
 unfold jV
 rw[ha,cond_true]
 refine⟨rfl,L.1,fun m _ hm=>xQ _ _ ((L.2 m).symm.trans hm),fun b hb=>?_⟩
 obtain⟨e1,e2⟩:=fZ ha hb
 obtain⟨e3,_⟩:=fZ hb ha
 have hd:=ny ha hb
 rw[L.2,iT hb]
 unfold eL fJ
 rw[e1,e2,e3]
 simp only[List.any_cons,List.any_nil,Bool.or_false,List.getD_cons_zero,List.getD_cons_succ]
 rw[Bool.eq_iff_iff]
 simp only[Bool.or_eq_true,Bool.and_eq_true,decide_eq_true_eq]
 omega
theorem Fo{f r a k:Int}(ha:ak f r a=true)(hk:-2<=k/\k<=2):Uk (bZ f r a [[0,k]])/\(∀ m,bt (bZ f r a [[0,k]]) m=true->ak f r m=true)/\∀ b,ak f r b=true->bt (bZ f r a [[0,k]]) b.toNat=decide (b=numR f r (px f a) (py f a+k)):=by
 have L:=mG ha [[0,k]] (by intro row h;simp only[List.mem_singleton]at h;subst h;simp;omega)
 refine⟨L.1,fun m hm=>xQ _ _ ((L.2 m).symm.trans hm),fun b hb=>?_⟩
 rw[L.2,iT hb,MA (bO ha) hb]
 unfold fJ
 simp only[List.any_cons,List.any_nil,Bool.or_false,List.getD_cons_zero,List.getD_cons_succ]
 rw[Bool.eq_iff_iff]
 simp only[Bool.and_eq_true,decide_eq_true_eq]
 omega
theorem jv(f r X Y:Int)(hv:vsB f r=true):(onB f r X Y=true/\ak f r (numR f r X Y)=true)\/(onB f r X Y=false/\numR f r X Y=-1):=by
 cases ho:onB f r X Y with
 |true=>
  left
  have h:=wC (X:=X) (Y:=Y) hv
  rw[ho]at h
  have hp:=kZ (of_decide_eq_true h)
  rw[rY hv ho,hp.2.2.2.2]
  exact⟨rfl,(gP hv ho).1⟩
 |false=>exact .inr ⟨rfl,vc ho⟩
theorem Ib{f r a occ:Int}{bl:Bool}(h:kz f r a occ=true)(ho:Uk occ):(oT f r bl a occ).2=0/\Uk (oT f r bl a occ).1/\OnS f r (oT f r bl a occ).1/\∀ b,ak f r b=true->bt (oT f r bl a occ).1 b.toNat=jA f r bl a occ b:=by
 obtain⟨ha,_⟩:=(ju ho).1 h
 have hv:=bO ha
 have hp:=cO ha
 have hw2:i64.wrap (2*fwd bl)=2*fwd bl:=by rcases tB bl with⟨_,e⟩|⟨_,e⟩<;>rw[e]<;>rfl
 have hfw:=tB bl
 have S1:=Fo (k:=fwd bl) ha (by omega)
 have S2:=Fo (k:=2*fwd bl) ha (by omega)
 have e1:one4 f r bl a=numR f r (px f a) (py f a+fwd bl):=by
  show numR f r (px f a) (i64.wrap (i64.wrap (py f a)+fwd bl))=_
  rw[hp.2.2.2.2.1,aC (by omega) (by omega)]
 have e2:two4 f r bl a=numR f r (px f a) (py f a+2*fwd bl):=by
  show numR f r (px f a) (i64.wrap (i64.wrap (py f a)+i64.wrap (2*fwd bl)))=_
  rw[hp.2.2.2.2.1,hw2,aC (by omega) (by omega)]
 have hsec:(decide (r<6)||!decide (i64.wrap (a.tdiv f)=bif bl then i64.wrap (r-2)else 1))=!(decide (6<=r)&&decide (i64.wrap (a.tdiv f)=secR r bl)):=by
  unfold secR
  rw[Bool.not_and,show (!decide (6<=r))=decide (r<6) by rw[<-decide_not];congr 1;exact propext ⟨fun h=>by omega,fun h=>by omega⟩]
 unfold oT Ip one1
 rw[h,cond_true,Bool.or_assoc,hsec,hw2]
 have hA:Uk (de (bZ f r a [[0,fwd bl]]) occ):=ke _ _
 have hB:Uk (de (bZ f r a [[0,2*fwd bl]]) occ):=ke _ _
 have bA:∀ m,bt (de (bZ f r a [[0,fwd bl]]) occ) m=(bt (bZ f r a [[0,fwd bl]]) m&&!bt occ m):=iG S1.1 ho
 have bB:∀ m,bt (de (bZ f r a [[0,2*fwd bl]]) occ) m=(bt (bZ f r a [[0,2*fwd bl]]) m&&!bt occ m):=iG S2.1 ho
 have onA:OnS f r (de (bZ f r a [[0,fwd bl]]) occ):=fun m _ hm=>by rw[bA,Bool.and_eq_true]at hm;exact S1.2.1 m hm.1
 have onB':OnS f r (de (bZ f r a [[0,2*fwd bl]]) occ):=fun m _ hm=>by rw[bB,Bool.and_eq_true]at hm;exact S2.2.1 m hm.1
 have vA:∀ b,ak f r b=true->bt (de (bZ f r a [[0,fwd bl]]) occ) b.toNat=(decide (b=one4 f r bl a)&&!hasB occ (one4 f r bl a)):=fun b hb=>by
  rw[bA,S1.2.2 b hb,<-e1]
  by_cases e:b=one4 f r bl a
  ·rw[<-e,gE ho hb]
  ·simp[e]
 have vB:∀ b,ak f r b=true->bt (de (bZ f r a [[0,2*fwd bl]]) occ) b.toNat=(decide (b=two4 f r bl a)&&!hasB occ (two4 f r bl a)):=fun b hb=>by
  rw[bB,S2.2.2 b hb,<-e2]
  by_cases e:b=two4 f r bl a
  ·rw[<-e,gE ho hb]
  ·simp[e]
 -- the first step is free just if its set is not empty
 have hz:de (bZ f r a [[0,fwd bl]]) occ=0↔(one4 f r bl a=-1\/hasB occ (one4 f r bl a)=true):=by
  rw[nP hA]
  rcases jv f r (px f a) (py f a+fwd bl) hv with⟨_,hval⟩|⟨_,hneg⟩
  ·rw[<-e1]at hval
   have hl:=aS hval
   constructor
   ·intro hall
    have:=hall (one4 f r bl a).toNat (by omega)
    rw[vA _ hval]at this
    right;simpa using this
   ·rintro(hx|hx)
    ·omega
    ·intro n hn
     cases hb:bt (de (bZ f r a [[0,fwd bl]]) occ) n with
     |false=>rfl
     |true=>
      have hvn:=onA n hn hb
      have:=vA n hvn
      rw[Int.toNat_natCast,hb,hx]at this
      simp at this
  ·rw[<-e1]at hneg
   refine⟨fun _=>.inl hneg,fun _ n hn=>?_⟩
   cases hb:bt (de (bZ f r a [[0,fwd bl]]) occ) n with
   |false=>rfl
   |true=>
    have hvn:=onA n hn hb
    have:=vA n hvn
    rw[Int.toNat_natCast,hb,hneg]at this
    simp at this
 cases hc:(decide (de (bZ f r a [[0,fwd bl]]) occ=0)||!(decide (6<=r)&&decide (i64.wrap (a.tdiv f)=secR r bl))) with
 |true=>
  rw[cond_true]
  refine⟨rfl,hA,onA,fun b hb=>?_⟩
  show bt (de (bZ f r a [[0,fwd bl]]) occ) b.toNat=_
  rw[vA b hb]
  unfold jA
  symm
  rw[Bool.or_eq_true,decide_eq_true_eq,hz]at hc
  have:(decide (b=two4 f r bl a)&&decide (6<=r)&&decide (i64.wrap (a.tdiv f)=secR r bl)&&!hasB occ (one4 f r bl a)&&!hasB occ (two4 f r bl a))=false:=by
   have hl:=aS hb
   rcases hc with(hc|hc)|hc
   ·have h2:two4 f r bl a=-1:=by
     rw[e2]
     refine vc ?_
     cases hon:onB f r (px f a) (py f a+2*fwd bl) with
     |false=>rfl
     |true=>
      have:=oG hon
      have h3:onB f r (px f a) (py f a+fwd bl)=true:=iH (by omega) (by omega) (by omega) (by omega)
      rcases jv f r (px f a) (py f a+fwd bl) hv with⟨_,hval⟩|⟨h4,_⟩
      ·rw[<-e1,hc]at hval
       have:=aS hval
       omega
      ·rw[h3]at h4;cases h4
    rw[h2,show decide (b=-1)=false by simp;omega]
    rfl
   ·rw[hc];simp
   ·cases h6:decide (6<=r)<;>rw[h6]at hc<;>simp at hc<;>simp[hc]
  rw[this,Bool.or_false]
 |false=>
  rw[cond_false]
  refine⟨rfl,jE _ _,fun m hm hb=>?_,fun b hb=>?_⟩
  ·have hb:bt (uor (de (bZ f r a [[0,fwd bl]]) occ) (de (bZ f r a [[0,2*fwd bl]]) occ)) m=true:=hb
   rw[iu hA hB,Bool.or_eq_true]at hb
   exact hb.elim (onA m hm) (onB' m hm)
  ·show bt (uor (de (bZ f r a [[0,fwd bl]]) occ) (de (bZ f r a [[0,2*fwd bl]]) occ)) b.toNat=_
   rw[iu hA hB,vA b hb,vB b hb]
   simp only[Bool.or_eq_false_iff,decide_eq_false_iff_not,Bool.not_eq_false',Bool.and_eq_true,decide_eq_true_eq]at hc
   obtain⟨h1,h2,h3⟩:=hc
   rw[hz,not_or]at h1
   have h4:hasB occ (one4 f r bl a)=false:=by simpa using h1.2
   unfold jA
   rw[h4,h3]
   simp[h2]
end Go.Ab
namespace Go.Ab
open Go.Proofs
theorem xh(b:Int):∀ (L:List Int) (s:Int),Uk s->Uk (mP b L s)
 |[],_,h=>h
 |x::L,s,h=>by
  rw[mP]
  cases decide (x=b) with
  |true=>exact h
  |false=>exact xh b L _ (jE _ _)
theorem xp{b:Int}:∀ (L:List Int) (s:Int),(∀ x∈L,0<=x/\x<64)->Uk s->∀ m:Nat,bt (mP b L s) m=(bt s m||decide ((m:Int)∈L.take (idxL b L)))
 |[],s,_,_,m=>by simp[mP,idxL]
 |x::L,s,hL,hs,m=>by
  have hx:=hL x (by simp)
  rw[mP,idxL]
  cases hb:decide (x=b) with
  |true=>simp
  |false=>
   rw[cond_false,cond_false,xp L _ (fun y hy=>hL y (by simp[hy])) (jE _ _),iu hs (gl _ _),fB hx.1 hx.2,Bool.or_assoc,List.take_succ_cons]
   congr 1
   by_cases e:(m:Int)=x
   ·simp[e]
   ·have e':¬ x=(m:Int):=fun h=>e h.symm
    simp[e,e']
theorem yu{f r a b:Int}(ha:ak f r a=true)(hb:ak f r b=true)(h:(bj f a b).2.2=true):dirR f r a b=((bj f a b).1,(bj f a b).2.1,0)/\oB f r a b=(ofL (bU f r a b) 0,0):=by
 have hp:=cO ha
 have hq:=cO hb
 obtain⟨e1,e2⟩:=fZ ha hb
 have hlh:=lX ha hb h
 rcases gF ha hb with⟨e,_⟩|⟨e,hl⟩
 ·rw[e]at h;cases h
 ·have hd:dirR f r a b=((bj f a b).1,(bj f a b).2.1,0):=by
   unfold dirR
   rw[ha,hb,e,e1,e2]
   have:(decide (a=b)||!decide (px f b-px f a=0)&&!decide (py f b-py f a=0)&&!decide (px f b-px f a=py f b-py f a)&&!decide (px f b-px f a=IntKind.i64.wrap (0-(py f b-py f a))))=false:=by
    rw[aC (by omega) (by omega)]
    simp only[Bool.or_eq_false_iff,Bool.and_eq_false_iff,decide_eq_false_iff_not,Bool.not_eq_false',decide_eq_true_eq]
    rw[gy ha hb]
    unfold onLine at hl
    omega
   simp only[this,Bool.and_true,cond_true,cond_false]
  refine⟨hd,?_⟩
  unfold oB
  rw[hd]
  simp only[decide_true,cond_true]
  have hz:rayL f r a (bj f a b).1 (bj f a b).2.1=dn f r a b:=by rw[IB,EW hlh.1];rfl
  have hbd:∀ x∈dn f r a b,0<=x/\x<64:=fun x hx=>⟨(aS (eA ha hx)).1,(aS (eA ha hx)).2.2⟩
  have hL:bU f r a b=(dn f r a b).take (idxL b (dn f r a b)):=by unfold bU;rw[hlh.2];rfl
  rw[hz,hL]
  congr 1
  have hbd2:∀ x∈(dn f r a b).take (idxL b (dn f r a b)),0<=x/\x<64:=fun x hx=>hbd x (List.mem_of_mem_take hx)
  obtain⟨k1,k2⟩:=iC _ 0 hbd2 uk_0
  refine nw (xh _ _ _ uk_0) k1 fun n _=>?_
  rw[xp _ _ hbd uk_0,k2]
theorem dI{f r a b:Int}(ha:ak f r a=true):(bU f r a b).length<=8/\∀ x∈bU f r a b,ak f r x=true:=by
 refine⟨oU f r a b,fun x hx=>?_⟩
 unfold bU at hx
 cases h:hasL b (dn f r a b) with
 |false=>rw[h]at hx;simp at hx
 |true=>rw[h,cond_true]at hx;exact eA ha (List.mem_of_mem_take hx)
end Go.Ab
namespace Go.Ab
open Go.Proofs
end Go.Ab
namespace Go.Ab
open Go.Proofs
theorem Kh{f r df dr x y b c:Int}(hv:vsB f r=true)(hu:unit df dr)(ho:onB f r x y=true)(hb:ak f r b=true)(hc:ak f r c=true){kb:Nat}(hkb:kb<=8)(ebx:px f b=x+kb*df)(eby:py f b=y+kb*dr):∀ (m k:Nat),m+k=9->1<=k->k<=kb ->
  (c∈(eH f r df dr x y m k).take (idxL b (eH f r df dr x y m k))↔∃ i:Nat,k<=i/\i<kb/\px f c=x+i*df/\py f c=y+i*dr):=by
 have hx:=oG ho
 have hq:=cO hb
 intro m
 induction m with
 |zero=>intro k hk h1 h2;omega
 |succ m ih=>
  intro k hk h1 hkk
  obtain⟨e1,e2,e3⟩:=IJ (x:=x) (y:=y) hu ⟨by omega,by omega⟩ ⟨by omega,by omega⟩ (k:=k) (by omega)
  have hon:onB f r (x+(k:Int)*df) (y+(k:Int)*dr)=true:=by
   rcases bI hu with⟨rfl,rfl⟩|⟨rfl,rfl⟩|⟨rfl,rfl⟩|⟨rfl,rfl⟩|⟨rfl,rfl⟩|⟨rfl,rfl⟩|⟨rfl,rfl⟩|⟨rfl,rfl⟩<;>exact iH (by omega) (by omega) (by omega) (by omega)
  rw[eH,e1,e2,e3,mH hv,hon]
  simp only[Bool.not_true,cond_false,idxL]
  have hnb:=gH hv hon hb
  have hnc:=gH hv hon hc
  have hkeq:numR f r (x+(k:Int)*df) (y+(k:Int)*dr)=b↔k=kb:=by
   rw[hnb]
   constructor
   ·rintro⟨h3,h4⟩
    rcases bI hu with⟨rfl,rfl⟩|⟨rfl,rfl⟩|⟨rfl,rfl⟩|⟨rfl,rfl⟩|⟨rfl,rfl⟩|⟨rfl,rfl⟩|⟨rfl,rfl⟩|⟨rfl,rfl⟩<;>omega
   ·rintro rfl;exact⟨ebx,eby⟩
  by_cases e:k=kb
  ·rw[show decide (numR f r (x+(k:Int)*df) (y+(k:Int)*dr)=b)=true from decide_eq_true (hkeq.2 e)]
   simp only[cond_true,List.take_zero,List.not_mem_nil,false_iff]
   rintro⟨i,h3,h4,_⟩;omega
  ·rw[show decide (numR f r (x+(k:Int)*df) (y+(k:Int)*dr)=b)=false from decide_eq_false (fun h=>e (hkeq.1 h))]
   simp only[cond_false,List.take_succ_cons,List.mem_cons]
   rw[ih (k+1) (by omega) (by omega) (by omega)]
   constructor
   ·rintro(h3|⟨i,h3,h4⟩)
    ·obtain⟨h4,h5⟩:=hnc.1 h3.symm
     exact⟨k,Nat.le_refl _,by omega,h4,h5⟩
    ·exact⟨i,by omega,h4⟩
   ·rintro⟨i,h3,h4,h5,h6⟩
    rcases Nat.lt_or_ge k i with h|h
    ·exact .inr ⟨i,h,h4,h5,h6⟩
    ·obtain rfl:i=k:=by omega
     exact .inl (hnc.2 ⟨h5,h6⟩).symm
def Btw(f a b c:Int):Prop:=∃ i k:Nat,∃ df dr:Int,unit df dr/\1<=i/\i<k/\k<=8/\px f b=px f a+k*df/\py f b=py f a+k*dr/\px f c=px f a+i*df/\py f c=py f a+i*dr
theorem Btw.symm{f a b c:Int}(h:Btw f a b c):Btw f b a c:=by
 obtain⟨i,k,df,dr,hu,h1,h2,h3,h4,h5,h6,h7⟩:=h
 refine⟨k-i,k,-df,-dr,?_,by omega,by omega,h3,?_⟩
 ·unfold unit at hu ⊢;omega
 ·rcases bI hu with⟨rfl,rfl⟩|⟨rfl,rfl⟩|⟨rfl,rfl⟩|⟨rfl,rfl⟩|⟨rfl,rfl⟩|⟨rfl,rfl⟩|⟨rfl,rfl⟩|⟨rfl,rfl⟩<;>omega
theorem eV{f r a b c:Int}(ha:ak f r a=true)(hb:ak f r b=true)(hc:ak f r c=true):c∈bU f r a b↔(bj f a b).2.2=true/\Btw f a b c:=by
 have hp:=cO ha
 have hv:=bO ha
 cases hl:(bj f a b).2.2 with
 |false=>
  have:bU f r a b=[]:=by
   have e:bj f a b=(0,0,false):=by
    rcases gF ha hb with⟨e,_⟩|⟨e,_⟩
    ·exact e
    ·rw[e]at hl;cases hl
   unfold bU dn cj
   rw[e,ha];rfl
  rw[this];simp
 |true=>
  obtain⟨hu,hh⟩:=lX ha hb hl
  have hL:bU f r a b=(dn f r a b).take (idxL b (dn f r a b)):=by unfold bU;rw[hh];rfl
  rw[hL]
  have hh':=hh
  unfold dn at hh' ⊢
  obtain⟨k,h1,h2,h3,h4⟩:=(rO ha hb hu).1 hh'
  rw[Iy ha hu,Kh hv hu (iH hp.1 hp.2.1 hp.2.2.1 hp.2.2.2.1) hb hc h2 h3 h4 8 1 rfl (Nat.le_refl _) h1]
  refine⟨fun⟨i,g1,g2,g3,g4⟩=>⟨rfl,i,k,_,_,hu,g1,g2,h2,h3,h4,g3,g4⟩,?_⟩
  rintro⟨_,i,k',df,dr,hu',g1,g2,g3,g4,g5,g6,g7⟩
  have e:=xZ ha hb hu' ((rO ha hb hu').2 ⟨k',by omega,g3,g4,g5⟩)
  rw[e]at h3 h4 ⊢
  refine⟨i,g1,?_,g6,g7⟩
  dsimp only at h3 h4
  rcases bI hu' with⟨rfl,rfl⟩|⟨rfl,rfl⟩|⟨rfl,rfl⟩|⟨rfl,rfl⟩|⟨rfl,rfl⟩|⟨rfl,rfl⟩|⟨rfl,rfl⟩|⟨rfl,rfl⟩<;>omega
theorem Bg{f r a b:Int}(ha:ak f r a=true)(hb:ak f r b=true):(bj f a b).2.2=(bj f b a).2.2:=by
 have key:onLine (px f b-px f a) (py f b-py f a)↔onLine (px f a-px f b) (py f a-py f b):=by unfold onLine;omega
 rcases gF ha hb with⟨e,h⟩|⟨e,h⟩<;>rcases gF hb ha with⟨e',h'⟩|⟨e',h'⟩
 ·rw[e,e']
 ·exact absurd (key.2 h') h
 ·exact absurd (key.1 h) h'
 ·rw[e,e']
theorem um{f r a b:Int}(ha:ak f r a=true)(hb:ak f r b=true)(c:Int):c∈bU f r a b↔c∈bU f r b a:=by
 by_cases hc:ak f r c=true
 ·rw[eV ha hb hc,eV hb ha hc,Bg ha hb]
  exact⟨fun h=>⟨h.1,h.2.symm⟩,fun h=>⟨h.1,h.2.symm⟩⟩
 ·exact⟨fun h=>absurd ((dI ha).2 c h) hc,fun h=>absurd ((dI hb).2 c h) hc⟩
theorem ei{s:Int}{l:List Int}:dG s l=true↔∀ x∈l,hasB s x=false:=by
 induction l with
 |nil=>simp[dG]
 |cons x l ih=>
  rw[dG]
  cases h:hasB s x with
  |true=>simp[h]
  |false=>simp[h,ih]
theorem tN{f r kd a b occ occ':Int}(ho:Uk occ)(ho':Uk occ')(hs:∀ m,bt occ m=true->bt occ' m=true)(h:bh f r kd a b occ'=true):bh f r kd a b occ=true:=by
 unfold bh at h ⊢
 cases h2:decide (kd=2) with
 |true=>rw[h2]at h;exact h
 |false=>
  cases h6:decide (kd=6) with
  |true=>rw[h2,h6]at h;exact h
  |false=>
   rw[h2,h6]at h
   simp only[cond_false,Bool.and_eq_true]at h ⊢
   refine⟨h.1,ei.2 fun x hx=>?_⟩
   have:=ei.1 h.2 x hx
   rw[nV ho']at this
   rw[nV ho]
   cases hb:bt occ x.toNat with
   |false=>simp
   |true=>rw[hs _ hb]at this;simpa using this
section
variable{kCa kDb:Bool}
def okP(p:Int):Bool:=decide (-15<=p)&&decide (p<=15)
def orP(p:Int):Bool:=!decide (p=0)&&decide (-6<=p)&&decide (p<=6)
def badP(p:Int):Bool:=!okP p
def norP(p:Int):Bool:=!decide (p=0)&&!orP p
def posP(p:Int):Bool:=decide (0<p)
def negP(p:Int):Bool:=decide (p<0)
def cntR(f r:Int):Int×Int:=bif vsB f r then(IntKind.i64.wrap (f*r),0) else(0,2)
def cC(p:Int->Bool):List Int->Int->Int
 |[],_=>-1
 |x::l,k=>bif p x then k else cC p l (k+1)
theorem qg(p:Int->Bool):∀ (l:List Int) (k:Int),0<=k->decide (0<=cC p l k)=l.any p
 |[],k,_=>rfl
 |x::l,k,hk=>by
  rw[cC,List.any_cons]
  cases p x with
  |true=>simp[hk]
  |false=>rw[cond_false,Bool.false_or];exact qg p l (k+1) (by omega)
theorem qj{p:Int->Bool}{l:List Int}{i:Nat}{k:Int}(h:i<l.length):cC p (l.drop i) k=bif p (l.getD i 0)then k else cC p (l.drop (i+1)) (k+1):=by
 rw[List.drop_eq_getElem_cons h,cC];simp[List.getD,h]
def gK(p:Int->Bool)(zs:List Int)(s i:Int):Int:=bif p (zs.getD i.toNat 0)then uor s (ushl 1 i)else s
def iB(p:Int->Bool)(zs:List Int):Int:=cN (gK p zs) 0 zs.length
def aL(f r:Int)(zs:List Int):Bool:=decide ((cntR f r).2=0)&&decide ((zs.length:Int)=(cntR f r).1)&&!(zs.any badP)
def aO(f r:Int)(zs:List Int):Bool:=aL f r zs&&!(zs.any norP)
def kQ(f r:Int)(zs:List Int):Int×Int×Int:=bif aL f r zs then(iB posP zs,iB negP zs,0) else(0,0,2)
def occR(f r:Int)(zs:List Int):Int:=uor (kQ f r zs).1 (kQ f r zs).2.1
def uF:CF
 |[.agg [.int .i64 f,.int .i64 r]],[]=>some (true,.tup [I (cntR f r).1,I (cntR f r).2],[])
 |_,_=>none
theorem zl:CtOk (GGx kCa kDb) PP (129,uF):=by
 refine aF Tryz.func129 (by kernel_rfl) rfl fun a0 h0 c0 v0 N0 e hc=>?_
 unfold uF at e
 split at e
 ·rename_i f r
  cases e
  have hE:=aD (kCa:=kCa) (kDb:=kDb) (cts:=[(70,c_vs)]) (inl:=[]) ⟨kK,trivial⟩ trivial
  refine av hE 2 Tryz.func129 rfl rfl ?_
  repeat' first|(first|refine ai ?_|refine sat_nd ?_)|refine aq (fun h=>?_) (fun h=>?_)
  all_goals exact af (aj (.inr rfl) rfl rfl rfl (by first|rfl|(simp only[cntR, *];done)|(simp only[cntR, *];done)|simp_all [cntR]))
 ·cases e
def yf:CF
 |[.int .i8 p],[]=>some (true,.bool (okP p),[])
 |_,_=>none
theorem sD:CtOk (GGx kCa kDb) PP (131,yf):=by
 refine aF Tryz.func131 (by kernel_rfl) rfl fun a0 h0 c0 v0 N0 e hc=>?_
 unfold yf at e
 split at e
 ·rename_i p
  cases e
  have hE:=aD (kCa:=kCa) (kDb:=kDb) (cts:=[]) (inl:=[]) trivial trivial
  refine av hE 2 Tryz.func131 rfl rfl ?_
  repeat' first|(first|refine ai ?_|refine sat_nd ?_)|refine aq (fun h=>?_) (fun h=>?_)
  all_goals exact af (aj (.inr rfl) rfl rfl rfl (by first|rfl|(simp only[*,cond_true,cond_false];done)|(simp only[*,cond_true,cond_false,Bool.not_true,Bool.not_false,Bool.and_true,Bool.true_and,Bool.and_false,Bool.false_and,Bool.or_true,Bool.true_or,Bool.or_false,Bool.false_or];done)|simp_all []))
 ·cases e
def vm:CF
 |[.int .i8 p],[]=>some (true,.bool (orP p),[])
 |_,_=>none
theorem Al:CtOk (GGx kCa kDb) PP (189,vm):=by
 refine aF Tryz.func189 (by kernel_rfl) rfl fun a0 h0 c0 v0 N0 e hc=>?_
 unfold vm at e
 split at e
 ·rename_i p
  cases e
  have hE:=aD (kCa:=kCa) (kDb:=kDb) (cts:=[]) (inl:=[]) trivial trivial
  refine av hE 2 Tryz.func189 rfl rfl ?_
  repeat' first|(first|refine ai ?_|refine sat_nd ?_)|refine aq (fun h=>?_) (fun h=>?_)
  all_goals exact af (aj (.inr rfl) rfl rfl rfl (by first|rfl|(simp only[*,cond_true,cond_false];done)|(simp only[*,cond_true,cond_false,Bool.not_true,Bool.not_false,Bool.and_true,Bool.true_and,Bool.and_false,Bool.false_and,Bool.or_true,Bool.true_or,Bool.or_false,Bool.false_or];done)|simp_all []))
 ·cases e
def Gc:CF
 |[.int .i8 p],[]=>some (true,.bool (badP p),[])
 |_,_=>none
theorem yP:CtOk (GGx kCa kDb) PP (130,Gc):=by
 refine aF Tryz.func130 (by kernel_rfl) rfl fun a0 h0 c0 v0 N0 e hc=>?_
 unfold Gc at e
 split at e
 ·rename_i p
  cases e
  have hE:=aD (kCa:=kCa) (kDb:=kDb) (cts:=[(131,yf)]) (inl:=[]) ⟨sD,trivial⟩ trivial
  refine av hE 2 Tryz.func130 rfl rfl ?_
  repeat' first|(first|refine ai ?_|refine sat_nd ?_)|refine aq (fun h=>?_) (fun h=>?_)
  all_goals exact af (aj (.inr rfl) rfl rfl rfl (by first|rfl|(simp only[*,cond_true,cond_false];done)|(simp only[*,cond_true,cond_false,Bool.not_true,Bool.not_false,Bool.and_true,Bool.true_and,Bool.and_false,Bool.false_and,Bool.or_true,Bool.true_or,Bool.or_false,Bool.false_or];done)|simp_all []))
 ·cases e
def Gu:CF
 |[.int .i8 p],[]=>some (true,.bool (norP p),[])
 |_,_=>none
theorem xJ:CtOk (GGx kCa kDb) PP (188,Gu):=by
 refine aF Tryz.func188 (by kernel_rfl) rfl fun a0 h0 c0 v0 N0 e hc=>?_
 unfold Gu at e
 split at e
 ·rename_i p
  cases e
  have hE:=aD (kCa:=kCa) (kDb:=kDb) (cts:=[(189,vm)]) (inl:=[]) ⟨Al,trivial⟩ trivial
  refine av hE 2 Tryz.func188 rfl rfl ?_
  repeat' first|(first|refine ai ?_|refine sat_nd ?_)|refine aq (fun h=>?_) (fun h=>?_)
  all_goals exact af (aj (.inr rfl) rfl rfl rfl (by first|rfl|(simp only[*,cond_true,cond_false];done)|(simp only[*,cond_true,cond_false,Bool.not_true,Bool.not_false,Bool.and_true,Bool.true_and,Bool.and_false,Bool.false_and,Bool.or_true,Bool.true_or,Bool.or_false,Bool.false_or];done)|simp_all []))
 ·cases e
def Hy:CF
 |[.int .i8 p],[]=>some (true,.bool (posP p),[])
 |_,_=>none
theorem xj:CtOk (GGx kCa kDb) PP (173,Hy):=by
 refine aF Tryz.func173 (by kernel_rfl) rfl fun a0 h0 c0 v0 N0 e hc=>?_
 unfold Hy at e
 split at e
 ·rename_i p
  cases e
  have hE:=aD (kCa:=kCa) (kDb:=kDb) (cts:=[]) (inl:=[]) trivial trivial
  refine av hE 2 Tryz.func173 rfl rfl ?_
  repeat' first|(first|refine ai ?_|refine sat_nd ?_)|refine aq (fun h=>?_) (fun h=>?_)
  all_goals exact af (aj (.inr rfl) rfl rfl rfl (by first|rfl|(simp only[*,cond_true,cond_false];done)|(simp only[*,cond_true,cond_false,Bool.not_true,Bool.not_false,Bool.and_true,Bool.true_and,Bool.and_false,Bool.false_and,Bool.or_true,Bool.true_or,Bool.or_false,Bool.false_or];done)|simp_all []))
 ·cases e
def FY:CF
 |[.int .i8 p],[]=>some (true,.bool (negP p),[])
 |_,_=>none
theorem xU:CtOk (GGx kCa kDb) PP (174,FY):=by
 refine aF Tryz.func174 (by kernel_rfl) rfl fun a0 h0 c0 v0 N0 e hc=>?_
 unfold FY at e
 split at e
 ·rename_i p
  cases e
  have hE:=aD (kCa:=kCa) (kDb:=kDb) (cts:=[]) (inl:=[]) trivial trivial
  refine av hE 2 Tryz.func174 rfl rfl ?_
  repeat' first|(first|refine ai ?_|refine sat_nd ?_)|refine aq (fun h=>?_) (fun h=>?_)
  all_goals exact af (aj (.inr rfl) rfl rfl rfl (by first|rfl|(simp only[*,cond_true,cond_false];done)|(simp only[*,cond_true,cond_false,Bool.not_true,Bool.not_false,Bool.and_true,Bool.true_and,Bool.and_false,Bool.false_and,Bool.or_true,Bool.true_or,Bool.or_false,Bool.false_or];done)|simp_all []))
 ·cases e
def xW:CF
 |[.sl 0 0 len none,.fn 130 []],[.ints false .i8 zs]=>some (decide (len=zs.length)&&decide (zs.length<=1000000),.int .i64 (cC badP zs 0),[])
 |[.sl 0 0 len none,.fn 188 []],[.ints false .i8 zs]=>some (decide (len=zs.length)&&decide (zs.length<=1000000),.int .i64 (cC norP zs 0),[])
 |_,_=>none
theorem rX:CtOk (GGx kCa kDb) PP (149,xW):=by
 refine aF Tryz.func149 (by kernel_rfl) rfl fun a0 h0 c0 v0 N0 e hc=>?_
 unfold xW at e
 split at e
 ·rename_i len zs
  cases e
  have hE:=aD (kCa:=kCa) (kDb:=kDb) (cts:=[(130,Gc),(188,Gu)]) (inl:=[]) ⟨yP,xJ,trivial⟩ trivial
  refine av hE 2 Tryz.func149 rfl rfl ?_
  simp only[Bool.and_eq_true,decide_eq_true_eq]at hc
  obtain⟨rfl,hc2⟩:=hc
  refine bX hE 2 (fun i (_:Unit)=>([(0,.sl 0 0 zs.length none),(1,.fn 130 []),(7,I zs.length),(8,I i)],[.ints false .i8 zs])) zs.length (fun j _=>cC badP (zs.drop j) j=cC badP zs 0) () (by omega) (Ent.ren [0] [0,1,7,8] rfl rfl rfl) rfl ?_
  intro j i _ hij hj hz
  refine aq (fun hlt=>?_) (fun hlt=>?_)
  ·have hlt':j<zs.length:=by simp at hlt;omega
   rw[qj hlt',show j=i.toNat by omega]at hz
   refine ag (by simp;omega) ?_
   repeat (first|refine ai ?_|refine sat_nd ?_)
   refine aq (fun hon=>?_) (fun hon=>?_)
   ·have hon:badP (zs.getD i.toNat 0)=true:=hon
    rw[hon,cond_true]at hz
    refine af (af (aj (.inr rfl) rfl rfl rfl (by rw[<-hz];exact congrArg (V.int IntKind.i64) (by omega))))
   ·have hon:badP (zs.getD i.toNat 0)=false:=hon
    rw[hon,cond_false]at hz
    exact af ⟨hlt',(),by rw[<-hz,show i.toNat=j by omega];push_cast;rfl,Ent.ren [0] [0,1,7,8] rfl rfl rfl⟩
  ·obtain rfl:j=zs.length:=by simp at hlt;omega
   rw[List.drop_length]at hz
   exact af (af (aj (.inr rfl) rfl rfl rfl (by rw[<-hz];rfl)))
 ·rename_i len zs
  cases e
  have hE:=aD (kCa:=kCa) (kDb:=kDb) (cts:=[(130,Gc),(188,Gu)]) (inl:=[]) ⟨yP,xJ,trivial⟩ trivial
  refine av hE 2 Tryz.func149 rfl rfl ?_
  simp only[Bool.and_eq_true,decide_eq_true_eq]at hc
  obtain⟨rfl,hc2⟩:=hc
  refine bX hE 2 (fun i (_:Unit)=>([(0,.sl 0 0 zs.length none),(1,.fn 188 []),(7,I zs.length),(8,I i)],[.ints false .i8 zs])) zs.length (fun j _=>cC norP (zs.drop j) j=cC norP zs 0) () (by omega) (Ent.ren [0] [0,1,7,8] rfl rfl rfl) rfl ?_
  intro j i _ hij hj hz
  refine aq (fun hlt=>?_) (fun hlt=>?_)
  ·have hlt':j<zs.length:=by simp at hlt;omega
   rw[qj hlt',show j=i.toNat by omega]at hz
   refine ag (by simp;omega) ?_
   repeat (first|refine ai ?_|refine sat_nd ?_)
   refine aq (fun hon=>?_) (fun hon=>?_)
   ·have hon:norP (zs.getD i.toNat 0)=true:=hon
    rw[hon,cond_true]at hz
    refine af (af (aj (.inr rfl) rfl rfl rfl (by rw[<-hz];exact congrArg (V.int IntKind.i64) (by omega))))
   ·have hon:norP (zs.getD i.toNat 0)=false:=hon
    rw[hon,cond_false]at hz
    exact af ⟨hlt',(),by rw[<-hz,show i.toNat=j by omega];push_cast;rfl,Ent.ren [0] [0,1,7,8] rfl rfl rfl⟩
  ·obtain rfl:j=zs.length:=by simp at hlt;omega
   rw[List.drop_length]at hz
   exact af (af (aj (.inr rfl) rfl rfl rfl (by rw[<-hz];rfl)))
 ·cases e
def qF:CF
 |[.sl 0 0 len none,.fn 130 []],[.ints false .i8 zs]=>some (decide (len=zs.length)&&decide (zs.length<=1000000),.bool (zs.any badP),[])
 |[.sl 0 0 len none,.fn 188 []],[.ints false .i8 zs]=>some (decide (len=zs.length)&&decide (zs.length<=1000000),.bool (zs.any norP),[])
 |_,_=>none
theorem pG:CtOk (GGx kCa kDb) PP (119,qF):=by
 refine aF Tryz.func119 (by kernel_rfl) rfl fun a0 h0 c0 v0 N0 e hc=>?_
 unfold qF at e
 split at e
 ·rename_i len zs
  cases e
  have hE:=aD (kCa:=kCa) (kDb:=kDb) (cts:=[(149,xW)]) (inl:=[]) ⟨rX,trivial⟩ trivial
  refine av hE 2 Tryz.func119 rfl rfl ?_
  simp only[Bool.and_eq_true,decide_eq_true_eq]at hc
  obtain⟨rfl,hc2⟩:=hc
  refine ag (by simp;omega) ?_
  exact af (aj (.inr rfl) rfl rfl rfl (congrArg Bb (by
   show decide (0<=cC badP (tk zs) 0)=_
   rw[aX];exact qg badP zs 0 (by omega))))
 ·rename_i len zs
  cases e
  have hE:=aD (kCa:=kCa) (kDb:=kDb) (cts:=[(149,xW)]) (inl:=[]) ⟨rX,trivial⟩ trivial
  refine av hE 2 Tryz.func119 rfl rfl ?_
  simp only[Bool.and_eq_true,decide_eq_true_eq]at hc
  obtain⟨rfl,hc2⟩:=hc
  refine ag (by simp;omega) ?_
  exact af (aj (.inr rfl) rfl rfl rfl (congrArg Bb (by
   show decide (0<=cC norP (tk zs) 0)=_
   rw[aX];exact qg norP zs 0 (by omega))))
 ·cases e
def fU:CF
 |[.agg [.int .i64 f,.int .i64 r,.sl 0 0 len none]],[.ints false .i8 zs]=>some (decide (len=zs.length)&&decide (zs.length<=1000000),.bool (aL f r zs),[])
 |_,_=>none
theorem eK:CtOk (GGx kCa kDb) PP (83,fU):=by
 refine aF Tryz.func83 (by kernel_rfl) rfl fun a0 h0 c0 v0 N0 e hc=>?_
 unfold fU at e
 split at e
 ·rename_i f r len zs
  cases e
  have hE:=aD (kCa:=kCa) (kDb:=kDb) (cts:=[(129,uF),(119,qF)]) (inl:=[]) ⟨zl,pG,trivial⟩ trivial
  refine av hE 2 Tryz.func83 rfl rfl ?_
  simp only[Bool.and_eq_true,decide_eq_true_eq]at hc
  obtain⟨rfl,hc2⟩:=hc
  repeat (first|refine ai ?_|refine sat_nd ?_)
  exact af (aj (.inr rfl) rfl rfl rfl (congrArg Bb (by
   show (decide ((cntR f r).2=0)&&decide ((zs.length:Int)=(cntR f r).1)&&!((tk zs).any badP))=_
   rw[aX];rfl)))
 ·cases e
def CC:CF
 |[.agg [.int .i64 f,.int .i64 r,.sl 0 0 len none]],[.ints false .i8 zs]=>some (decide (len=zs.length)&&decide (zs.length<=1000000),.bool (aO f r zs),[])
 |_,_=>none
theorem CX:CtOk (GGx kCa kDb) PP (158,CC):=by
 refine aF Tryz.func158 (by kernel_rfl) rfl fun a0 h0 c0 v0 N0 e hc=>?_
 unfold CC at e
 split at e
 ·rename_i f r len zs
  cases e
  have hE:=aD (kCa:=kCa) (kDb:=kDb) (cts:=[(83,fU),(119,qF)]) (inl:=[]) ⟨eK,pG,trivial⟩ trivial
  refine av hE 2 Tryz.func158 rfl rfl ?_
  simp only[Bool.and_eq_true,decide_eq_true_eq]at hc
  obtain⟨rfl,hc2⟩:=hc
  repeat (first|refine ai ?_|refine sat_nd ?_)
  exact af (aj (.inr rfl) rfl rfl rfl (congrArg Bb (by
   show (aL f r (tk zs)&&!((tk zs).any norP))=_
   rw[aX];rfl)))
 ·cases e
def wg:CF
 |[.agg [.int .i64 _f,.int .i64 _r,.sl 0 0 len none],.fn 173 []],[.ints false .i8 zs]=>some (decide (len=zs.length)&&decide (zs.length<=1000000),.int .u64 (iB posP zs),[])
 |[.agg [.int .i64 _f,.int .i64 _r,.sl 0 0 len none],.fn 174 []],[.ints false .i8 zs]=>some (decide (len=zs.length)&&decide (zs.length<=1000000),.int .u64 (iB negP zs),[])
 |_,_=>none
theorem zV:CtOk (GGx kCa kDb) PP (172,wg):=by
 refine aF Tryz.func172 (by kernel_rfl) rfl fun a0 h0 c0 v0 N0 e hc=>?_
 unfold wg at e
 split at e
 ·rename_i f r len zs
  cases e
  have hE:=aD (kCa:=kCa) (kDb:=kDb) (cts:=[(173,Hy),(174,FY)]) (inl:=[]) ⟨xj,xU,trivial⟩ trivial
  refine av hE 2 Tryz.func172 rfl rfl ?_
  simp only[Bool.and_eq_true,decide_eq_true_eq]at hc
  obtain⟨rfl,hc2⟩:=hc
  repeat (first|refine ai ?_|refine sat_nd ?_)
  refine bX hE 2 (fun i (s:Int)=>([(1,.fn 173 []),(2,.ptr 1 0 0),(5,U s),(9,.sl 0 0 zs.length none),(10,I zs.length),(11,I i)],[.ints false .i8 zs,.cells true [I f,I r,.sl 0 0 zs.length none]])) zs.length (fun j s=>s=cN (gK posP zs) 0 j) 0 (by omega) (Ent.ren [0,1] [1,2,5,9,10,11] rfl rfl rfl) rfl ?_
  intro j i s hij hj hz
  refine aq (fun hlt=>?_) (fun hlt=>?_)
  ·have hlt':j<zs.length:=by simp at hlt;omega
   have hs:gK posP zs s i=cN (gK posP zs) 0 (j+1):=by rw[hz,hij];rfl
   refine ag (by simp;omega) ?_
   repeat (first|refine ai ?_|refine sat_nd ?_)
   refine aq (fun hon=>?_) (fun hon=>?_)
   ·have hon:posP (zs.getD i.toNat 0)=true:=hon
    rw[gK,hon,cond_true]at hs
    refine ag (by simp;omega) ?_
    exact af ⟨hlt',_,hs,Ent.ren [0,1] [1,2,5,9,10,11] rfl rfl rfl⟩
   ·have hon:posP (zs.getD i.toNat 0)=false:=hon
    rw[gK,hon,cond_false]at hs
    exact af ⟨hlt',_,hs,Ent.ren [0,1] [1,2,5,9,10,11] rfl rfl rfl⟩
  ·obtain rfl:j=zs.length:=by simp at hlt;omega
   subst hz
   exact af (af (aj (.inr rfl) rfl rfl rfl rfl))
 ·rename_i f r len zs
  cases e
  have hE:=aD (kCa:=kCa) (kDb:=kDb) (cts:=[(173,Hy),(174,FY)]) (inl:=[]) ⟨xj,xU,trivial⟩ trivial
  refine av hE 2 Tryz.func172 rfl rfl ?_
  simp only[Bool.and_eq_true,decide_eq_true_eq]at hc
  obtain⟨rfl,hc2⟩:=hc
  repeat (first|refine ai ?_|refine sat_nd ?_)
  refine bX hE 2 (fun i (s:Int)=>([(1,.fn 174 []),(2,.ptr 1 0 0),(5,U s),(9,.sl 0 0 zs.length none),(10,I zs.length),(11,I i)],[.ints false .i8 zs,.cells true [I f,I r,.sl 0 0 zs.length none]])) zs.length (fun j s=>s=cN (gK negP zs) 0 j) 0 (by omega) (Ent.ren [0,1] [1,2,5,9,10,11] rfl rfl rfl) rfl ?_
  intro j i s hij hj hz
  refine aq (fun hlt=>?_) (fun hlt=>?_)
  ·have hlt':j<zs.length:=by simp at hlt;omega
   have hs:gK negP zs s i=cN (gK negP zs) 0 (j+1):=by rw[hz,hij];rfl
   refine ag (by simp;omega) ?_
   repeat (first|refine ai ?_|refine sat_nd ?_)
   refine aq (fun hon=>?_) (fun hon=>?_)
   ·have hon:negP (zs.getD i.toNat 0)=true:=hon
    rw[gK,hon,cond_true]at hs
    refine ag (by simp;omega) ?_
    exact af ⟨hlt',_,hs,Ent.ren [0,1] [1,2,5,9,10,11] rfl rfl rfl⟩
   ·have hon:negP (zs.getD i.toNat 0)=false:=hon
    rw[gK,hon,cond_false]at hs
    exact af ⟨hlt',_,hs,Ent.ren [0,1] [1,2,5,9,10,11] rfl rfl rfl⟩
  ·obtain rfl:j=zs.length:=by simp at hlt;omega
   subst hz
   exact af (af (aj (.inr rfl) rfl rfl rfl rfl))
 ·cases e
def wK:CF
 |[.agg [.int .i64 f,.int .i64 r,.sl 0 0 len none]],[.ints false .i8 zs]=>some (decide (len=zs.length)&&decide (zs.length<=1000000),.tup [U (kQ f r zs).1,U (kQ f r zs).2.1,I (kQ f r zs).2.2],[])
 |_,_=>none
theorem zC:CtOk (GGx kCa kDb) PP (151,wK):=by
 refine aF Tryz.func151 (by kernel_rfl) rfl fun a0 h0 c0 v0 N0 e hc=>?_
 unfold wK at e
 split at e
 ·rename_i f r len zs
  cases e
  have hE:=aD (kCa:=kCa) (kDb:=kDb) (cts:=[(83,fU),(172,wg)]) (inl:=[]) ⟨eK,zV,trivial⟩ trivial
  refine av hE 2 Tryz.func151 rfl rfl ?_
  simp only[Bool.and_eq_true,decide_eq_true_eq]at hc
  obtain⟨rfl,hc2⟩:=hc
  repeat (first|refine ai ?_|refine sat_nd ?_)
  refine aq (fun h=>?_) (fun h=>?_)
  ·have h:aL f r zs=false:=by simpa using h
   exact af (aj (.inr rfl) rfl rfl rfl (by rw[kQ,h];rfl))
  ·have h:aL f r zs=true:=by simpa using h
   repeat (first|refine ai ?_|refine sat_nd ?_)
   refine af (aj (.inr rfl) rfl rfl rfl ?_)
   show V.tup [U (iB posP (tk zs)),U (iB negP (tk zs)),I 0]=_
   rw[aX,kQ,h];rfl
 ·cases e
def JT:CF
 |[.agg [.int .i64 f,.int .i64 r,.sl 0 0 len none]],[.ints false .i8 zs]=>some (decide (len=zs.length)&&decide (zs.length<=1000000),.int .u64 (occR f r zs),[])
 |_,_=>none
theorem FP:CtOk (GGx kCa kDb) PP (190,JT):=by
 refine aF Tryz.func190 (by kernel_rfl) rfl fun a0 h0 c0 v0 N0 e hc=>?_
 unfold JT at e
 split at e
 ·rename_i f r len zs
  cases e
  have hE:=aD (kCa:=kCa) (kDb:=kDb) (cts:=[(151,wK)]) (inl:=[]) ⟨zC,trivial⟩ trivial
  refine av hE 2 Tryz.func190 rfl rfl ?_
  simp only[Bool.and_eq_true,decide_eq_true_eq]at hc
  obtain⟨rfl,hc2⟩:=hc
  repeat (first|refine ai ?_|refine sat_nd ?_)
  refine af (aj (.inr rfl) rfl rfl rfl ?_)
  show U (occR f r (tk zs))=_
  rw[aX]
 ·cases e
end
section
variable{kCa kDb:Bool}
abbrev w8(n:Int):Int:=IntKind.i8.wrap n
def isP(p:Int)(bl:Bool):Bool:=(decide (p<0)&&bl)||(decide (0<p)&&!bl)
def absP(p:Int):Int:=imax true p (w8 (0-p))
def ofR(f r:Int)(zs:List Int)(at_ all_:Int):Int:=bif decide (zs.getD at_.toNat 0=1)||decide (zs.getD at_.toNat 0=-1) then(jV f r (decide (zs.getD at_.toNat 0<0)) at_).1 else(dY f r (absP (zs.getD at_.toNat 0)) at_ all_).1
def Lr:CF
 |[.int .i8 p,.bool bl],[]=>some (true,.bool (isP p bl),[])
 |_,_=>none
theorem FN:CtOk (GGx kCa kDb) PP (191,Lr):=by
 refine aF Tryz.func191 (by kernel_rfl) rfl fun a0 h0 c0 v0 N0 e hc=>?_
 unfold Lr at e
 split at e
 ·rename_i p bl
  cases e
  have hE:=aD (kCa:=kCa) (kDb:=kDb) (cts:=[]) (inl:=[]) trivial trivial
  refine av hE 2 Tryz.func191 rfl rfl ?_
  repeat' first|(first|refine ai ?_|refine sat_nd ?_)|refine aq (fun h=>?_) (fun h=>?_)
  all_goals exact af (aj (.inr rfl) rfl rfl rfl (by first|rfl|(simp only[*,cond_true,cond_false];done)|(simp only[*,cond_true,cond_false,Bool.not_true,Bool.not_false,Bool.and_true,Bool.true_and,Bool.and_false,Bool.false_and,Bool.or_true,Bool.true_or,Bool.or_false,Bool.false_or];done)|simp_all []))
 ·cases e
def c_of:CF
 |[.agg [.int .i64 f,.int .i64 r,.sl 0 0 len none],.int .i64 at_,.int .u64 all_],[.ints false .i8 zs]=>some (decide (len=zs.length)&&decide (zs.length<=64)&&decide (0<=at_)&&decide (at_<zs.length),.int .u64 (ofR f r zs at_ all_),[])
 |_,_=>none
theorem JJ:CtOk (GGx kCa kDb) PP (192,c_of):=by
 refine aF Tryz.func192 (by kernel_rfl) rfl fun a0 h0 c0 v0 N0 e hc=>?_
 unfold c_of at e
 split at e
 ·rename_i f r len at_ all_ zs
  cases e
  have hE:=aD (kCa:=kCa) (kDb:=kDb) (cts:=[(206,AE),(176,vu)]) (inl:=[]) ⟨AG,zj,trivial⟩ trivial
  refine av hE 2 Tryz.func192 rfl rfl ?_
  simp only[Bool.and_eq_true,decide_eq_true_eq]at hc
  obtain⟨⟨⟨rfl,hc2⟩,ha1⟩,ha2⟩:=hc
  repeat (first|refine ai ?_|refine sat_nd ?_)
  refine aq (fun h=>?_) (fun h=>?_)
  ·have h:decide (zs.getD at_.toNat 0=1)=true:=h
   refine cL h ?_
   repeat (first|refine ai ?_|refine sat_nd ?_)
   exact af (aj (.inr rfl) rfl rfl rfl (by rw[ofR,h];rfl))
  have h:decide (zs.getD at_.toNat 0=1)=false:=h
  refine aq (fun h2=>?_) (fun h2=>?_)
  ·have h2:decide (zs.getD at_.toNat 0=-1)=true:=h2
   repeat (first|refine ai ?_|refine sat_nd ?_)
   exact af (aj (.inr rfl) rfl rfl rfl (by rw[ofR,h,h2];rfl))
  have h2:decide (zs.getD at_.toNat 0=-1)=false:=h2
  repeat (first|refine ai ?_|refine sat_nd ?_)
  exact af (aj (.inr rfl) rfl rfl rfl (by rw[ofR,h,h2];rfl))
 ·cases e
def attB(f r:Int)(zs:List Int)(at_:Int)(bl:Bool)(all_ i:Int):Bool:=isP (zs.getD i.toNat 0) bl&&decide (uand (ushr (ofR f r zs i all_) at_) 1=1)
def attS(f r:Int)(zs:List Int)(at_:Int)(bl:Bool)(all_ s i:Int):Int:=bif attB f r zs at_ bl all_ i then uor s (ushl 1 i)else s
def attR(f r:Int)(zs:List Int)(at_:Int)(bl:Bool):Int:=cN (attS f r zs at_ bl (occR f r zs)) 0 zs.length
def iP:CF
 |[.agg [.int .i64 f,.int .i64 r,.sl 0 0 len none],.int .i64 at_,.bool bl],[.ints false .i8 zs]=>some (decide (len=zs.length)&&decide (zs.length<=64)&&decide (0<=at_),.int .u64 (attR f r zs at_ bl),[])
 |_,_=>none
theorem oC:CtOk (GGx kCa kDb) PP (160,iP):=by
 refine aF Tryz.func160 (by kernel_rfl) rfl fun a0 h0 c0 v0 N0 e hc=>?_
 unfold iP at e
 split at e
 ·rename_i f r len at_ bl zs
  cases e
  have hE:=aD (kCa:=kCa) (kDb:=kDb) (cts:=[(190,JT),(191,Lr),(192,c_of)]) (inl:=[]) ⟨FP,FN,JJ,trivial⟩ trivial
  refine av hE 2 Tryz.func160 rfl rfl ?_
  simp only[Bool.and_eq_true,decide_eq_true_eq]at hc
  obtain⟨⟨rfl,hc2⟩,ha1⟩:=hc
  repeat (first|refine ai ?_|refine sat_nd ?_)
  refine bX hE 2 (fun i (s:Int)=>([(1,I at_),(2,Bb bl),(3,.ptr 1 0 0),(7,U s),(8,U (occR f r (tk zs))),(14,.sl 0 0 zs.length none),(15,I zs.length),(16,I i)],[.ints false .i8 zs,.cells true [I f,I r,.sl 0 0 zs.length none]])) zs.length (fun j s=>s=cN (attS f r zs at_ bl (occR f r zs)) 0 j) 0 (by omega) (Ent.ren [0,1] [1,2,3,7,8,14,15,16] rfl rfl rfl) rfl ?_
  intro j i s hij hj hz
  refine aq (fun hlt=>?_) (fun hlt=>?_)
  ·have hlt':j<zs.length:=by simp at hlt;omega
   have hs:attS f r zs at_ bl (occR f r zs) s i=cN (attS f r zs at_ bl (occR f r zs)) 0 (j+1):=by rw[hz,hij];rfl
   refine ag (by simp;omega) ?_
   repeat (first|(first|refine ai ?_|refine sat_nd ?_)|refine ag (by rw[decide_eq_true ha1];exact Bool.or_true _) ?_|refine ag (by simp;right;omega) ?_)
   refine aq (fun hon=>?_) (fun hon=>?_)
   ·have hon:(isP (zs.getD i.toNat 0) bl&&decide (uand (ushr (ofR f r (tk zs) i (occR f r (tk zs))) at_) 1=1))=true:=hon
    rw[aX]at hon
    have hon:attB f r zs at_ bl (occR f r zs) i=true:=hon
    rw[attS,hon,cond_true]at hs
    refine ag (by simp;omega) ?_
    exact af ⟨hlt',_,hs,Ent.ren [0,1] [1,2,3,7,8,14,15,16] rfl rfl rfl⟩
   ·have hon:(isP (zs.getD i.toNat 0) bl&&decide (uand (ushr (ofR f r (tk zs) i (occR f r (tk zs))) at_) 1=1))=false:=hon
    rw[aX]at hon
    have hon:attB f r zs at_ bl (occR f r zs) i=false:=hon
    rw[attS,hon,cond_false]at hs
    exact af ⟨hlt',_,hs,Ent.ren [0,1] [1,2,3,7,8,14,15,16] rfl rfl rfl⟩
  ·obtain rfl:j=zs.length:=by simp at hlt;omega
   subst hz
   exact af (af (aj (.inr rfl) rfl rfl rfl rfl))
 ·cases e
end
end Go.Ab
namespace Go.Ab
open IntKind
open Go.Proofs
section
variable{kCa kDb:Bool}
theorem aK{f r:Int}{zs:List Int}(h:aO f r zs=true):vsB f r=true/\(zs.length:Int)=f*r/\aL f r zs=true/\(∀ p∈zs,-6<=p/\p<=6):=by
 simp only[aO,Bool.and_eq_true,Bool.not_eq_true',List.any_eq_false]at h
 obtain⟨h1,h2⟩:=h
 have h1':=h1
 simp only[aL,Bool.and_eq_true,decide_eq_true_eq]at h1
 obtain⟨⟨h3,h4⟩,_⟩:=h1
 have hv:vsB f r=true:=by
  cases hv:vsB f r with
  |true=>rfl
  |false=>rw[cntR,hv]at h3;simp at h3
 rw[cntR,hv,cond_true]at h4
 refine⟨hv,by rw[h4];exact fj hv,h1',fun p hp=>?_⟩
 have:=h2 p hp
 simp only[norP,orP,Bool.and_eq_true,Bool.not_eq_true',decide_eq_false_iff_not,Bool.and_eq_false_iff,not_and]at this
 by_cases e:p=0
 ·omega
 ·have:=this e
  simp[e]at this
  omega
theorem cW{f r n:Int}{zs:List Int}(h:aO f r zs=true):ak f r n=true↔0<=n/\n<zs.length:=by
 obtain⟨h1,h2,_⟩:=aK h
 rw[h2]
 exact⟨fun h=>⟨(aS h).1,(aS h).2.1⟩,fun h=>ee h1 h.1 h.2⟩
def isV(v p:Int):Bool:=decide (v=p)
theorem sO{K:Int}{n:Nat}(h1:-1<=K)(h2:K<n)(hn:n<=64):(!!decide (K<0)||(decide (0<=i64.wrap (K+1))&&decide (i64.wrap (K+1)<=n)&&decide ((n:Int)<=n)))=true:=by
 rw[aC (by omega) (by omega)]
 simp
 omega
theorem uu{g:Bool}{zs:List Int}{a m:Nat}(h:m=zs.length)(hn:zs.length<=64):(!g||(decide (m-a=((zs.drop a).take (m-a)).length)&&decide (((zs.drop a).take (m-a)).length<=1000000)))=true:=by
 subst h
 rw[List.take_of_length_le (by simp),List.length_drop]
 have:zs.length-a<=1000000:=by omega
 simp[this]
theorem jx{zs:List Int}{v:Int}{b:Bool}(h:(decide (cC (isV v) (tk zs) 0<0)||((zs.drop (i64.wrap (cC (isV v) (tk zs) 0+1)).toNat).take ((zs.length:Int).toNat-(i64.wrap (cC (isV v) (tk zs) 0+1)).toNat)).any (isV v))=b):(decide (cC (isV v) zs 0<0)||(zs.drop (i64.wrap (cC (isV v) zs 0+1)).toNat).any (isV v))=b:=by
 rw[aX]at h
 rwa [List.take_of_length_le (by simp)]at h
def kgP(bl:Bool):Int:=bif bl then -6 else 6
def gh(zs:List Int)(bl:Bool):Int:=cC (isV (kgP bl)) zs 0
def nL(zs:List Int)(bl:Bool):Bool:=decide (gh zs bl<0)||(zs.drop (i64.wrap (gh zs bl+1)).toNat).any (isV (kgP bl))
def bK(f r:Int)(zs:List Int)(bl:Bool):Int×Int:=bif aO f r zs then(bif nL zs bl then(0,9) else(gh zs bl,0)) else(0,2)
def bH(f r:Int)(zs:List Int)(bl:Bool):Int×Int:=bif decide ((bK f r zs bl).2=0) then(attR f r zs (bK f r zs bl).1 (!bl),0) else(0,(bK f r zs bl).2)
theorem mm(p:Int->Bool):∀ (l:List Int) (k:Int),0<=k->-1<=cC p l k/\cC p l k<k+l.length
 |[],k,_=>by simp[cC];omega
 |x::l,k,h=>by
  have:=mm p l (k+1) (by omega)
  rw[cC]
  cases p x<;>simp<;>omega
theorem Lz{f r:Int}{zs:List Int}{bl:Bool}(h:(bK f r zs bl).2=0):aO f r zs=true/\nL zs bl=false/\(bK f r zs bl).1=gh zs bl/\0<=gh zs bl/\gh zs bl<zs.length:=by
 unfold bK at h ⊢
 cases ho:aO f r zs with
 |false=>rw[ho]at h;simp at h
 |true=>
  cases hn:nL zs bl with
  |true=>rw[ho,hn]at h;simp at h
  |false=>
   have hb:=mm (isV (kgP bl)) zs 0 (by omega)
   simp only[nL,Bool.or_eq_false_iff,decide_eq_false_iff_not]at hn
   refine⟨rfl,rfl,rfl,by omega,?_⟩
   unfold gh;omega
def qf:CF
 |[.sl 0 0 len none,.int .i8 v],[.ints false .i8 zs]=>some (decide (len=zs.length)&&decide (zs.length<=1000000),.int .i64 (cC (isV v) zs 0),[])
 |_,_=>none
theorem pJ:CtOk (GGx kCa kDb) PP (159,qf):=by
 refine aF Tryz.func159 (by kernel_rfl) rfl fun a0 h0 c0 v0 N0 e hc=>?_
 unfold qf at e
 split at e
 ·rename_i len v zs
  cases e
  have hE:=aD (kCa:=kCa) (kDb:=kDb) (cts:=[]) (inl:=[]) trivial trivial
  refine av hE 2 Tryz.func159 rfl rfl ?_
  simp only[Bool.and_eq_true,decide_eq_true_eq]at hc
  obtain⟨rfl,hc2⟩:=hc
  refine bX hE 2 (fun i (_:Unit)=>([(0,.sl 0 0 zs.length none),(1,.int .i8 v),(7,I zs.length),(8,I i)],[.ints false .i8 zs])) zs.length (fun j _=>cC (isV v) (zs.drop j) j=cC (isV v) zs 0) () (by omega) (Ent.ren [0] [0,1,7,8] rfl rfl rfl) rfl ?_
  intro j i _ hij hj hz
  refine aq (fun hlt=>?_) (fun hlt=>?_)
  ·have hlt':j<zs.length:=by simp at hlt;omega
   rw[qj hlt',show j=i.toNat by omega]at hz
   refine ag (by simp;omega) ?_
   repeat (first|refine ai ?_|refine sat_nd ?_)
   refine aq (fun hon=>?_) (fun hon=>?_)
   ·have hon:isV v (zs.getD i.toNat 0)=true:=hon
    rw[hon,cond_true]at hz
    refine af (af (aj (.inr rfl) rfl rfl rfl (by rw[<-hz];exact congrArg (V.int i64) (by omega))))
   ·have hon:isV v (zs.getD i.toNat 0)=false:=hon
    rw[hon,cond_false]at hz
    exact af ⟨hlt',(),by rw[<-hz,show i.toNat=j by omega];push_cast;rfl,Ent.ren [0] [0,1,7,8] rfl rfl rfl⟩
  ·obtain rfl:j=zs.length:=by simp at hlt;omega
   rw[List.drop_length]at hz
   exact af (af (aj (.inr rfl) rfl rfl rfl (by rw[<-hz];rfl)))
 ·cases e
def gO:CF
 |[.sl 0 0 len none,.int .i8 v],[.ints false .i8 zs]=>some (decide (len=zs.length)&&decide (zs.length<=1000000),.bool (zs.any (isV v)),[])
 |_,_=>none
theorem jK:CtOk (GGx kCa kDb) PP (134,gO):=by
 refine aF Tryz.func134 (by kernel_rfl) rfl fun a0 h0 c0 v0 N0 e hc=>?_
 unfold gO at e
 split at e
 ·rename_i len v zs
  cases e
  have hE:=aD (kCa:=kCa) (kDb:=kDb) (cts:=[(159,qf)]) (inl:=[]) ⟨pJ,trivial⟩ trivial
  refine av hE 2 Tryz.func134 rfl rfl ?_
  simp only[Bool.and_eq_true,decide_eq_true_eq]at hc
  obtain⟨rfl,hc2⟩:=hc
  refine ag (by simp;omega) ?_
  exact af (aj (.inr rfl) rfl rfl rfl (congrArg Bb (by
   show decide (0<=cC (isV v) (tk zs) 0)=_
   rw[aX];exact qg (isV v) zs 0 (by omega))))
 ·cases e
def xI:CF
 |[.agg [.int .i64 f,.int .i64 r,.sl 0 0 len none],.bool bl],[.ints false .i8 zs]=>some (decide (len=zs.length)&&decide (zs.length<=64),.tup [I (bK f r zs bl).1,I (bK f r zs bl).2],[])
 |_,_=>none
theorem tI:CtOk (GGx kCa kDb) PP (132,xI):=by
 refine aF Tryz.func132 (by kernel_rfl) rfl fun a0 h0 c0 v0 N0 e hc=>?_
 unfold xI at e
 split at e
 ·rename_i f r len bl zs
  cases e
  have hE:=aD (kCa:=kCa) (kDb:=kDb) (cts:=[(158,CC),(159,qf),(134,gO)]) (inl:=[]) ⟨CX,pJ,jK,trivial⟩ trivial
  refine av hE 2 Tryz.func132 rfl rfl ?_
  simp only[Bool.and_eq_true,decide_eq_true_eq]at hc
  obtain⟨rfl,hc2⟩:=hc
  repeat (first|refine ai ?_|refine sat_nd ?_)
  refine aq (fun h=>?_) (fun h=>?_)
  ·have h:aO f r zs=false:=by simpa using h
   exact af (aj (.inr rfl) rfl rfl rfl (by rw[bK,h];rfl))
  have h:aO f r zs=true:=by simpa using h
  refine aq (fun hb=>?_) (fun hb=>?_)
  ·subst hb
   have hbd:=mm (isV (kgP true)) zs 0 (by omega)
   repeat (first|refine ai ?_|refine sat_nd ?_)
   refine ag (by
    refine sO (K:=cC (isV (kgP true)) (tk zs) 0) ?_ ?_ hc2
    ·rw[aX];exact hbd.1
    ·rw[aX];have:=hbd.2;omega) ?_
   repeat (first|(first|refine ai ?_|refine sat_nd ?_)|refine ag (uu rfl hc2) ?_)
   refine aq (fun hk=>?_) (fun hk=>?_)
   ·have hk:=jx (zs:=zs) (v:=kgP true) hk
    exact af (aj (.inr rfl) rfl rfl rfl (by rw[bK,h,show nL zs true=true from hk];rfl))
   ·have hk:=jx (zs:=zs) (v:=kgP true) hk
    exact af (aj (.inr rfl) rfl rfl rfl (by
     show V.tup [I (cC (isV (kgP true)) (tk zs) 0),I 0]=_
     rw[aX,bK,h,show nL zs true=false from hk];rfl))
  ·subst hb
   have hbd:=mm (isV (kgP false)) zs 0 (by omega)
   repeat (first|refine ai ?_|refine sat_nd ?_)
   refine ag (by
    refine sO (K:=cC (isV (kgP false)) (tk zs) 0) ?_ ?_ hc2
    ·rw[aX];exact hbd.1
    ·rw[aX];have:=hbd.2;omega) ?_
   repeat (first|(first|refine ai ?_|refine sat_nd ?_)|refine ag (uu rfl hc2) ?_)
   refine aq (fun hk=>?_) (fun hk=>?_)
   ·have hk:=jx (zs:=zs) (v:=kgP false) hk
    exact af (aj (.inr rfl) rfl rfl rfl (by rw[bK,h,show nL zs false=true from hk];rfl))
   ·have hk:=jx (zs:=zs) (v:=kgP false) hk
    exact af (aj (.inr rfl) rfl rfl rfl (by
     show V.tup [I (cC (isV (kgP false)) (tk zs) 0),I 0]=_
     rw[aX,bK,h,show nL zs false=false from hk];rfl))
 ·cases e
def kA:CF
 |[.agg [.int .i64 f,.int .i64 r,.sl 0 0 len none],.bool bl],[.ints false .i8 zs]=>some (decide (len=zs.length)&&decide (zs.length<=64),.tup [U (bH f r zs bl).1,I (bH f r zs bl).2],[])
 |_,_=>none
theorem rq:CtOk (GGx kCa kDb) PP (133,kA):=by
 refine aF Tryz.func133 (by kernel_rfl) rfl fun a0 h0 c0 v0 N0 e hc=>?_
 unfold kA at e
 split at e
 ·rename_i f r len bl zs
  cases e
  have hE:=aD (kCa:=kCa) (kDb:=kDb) (cts:=[(132,xI),(160,iP)]) (inl:=[]) ⟨tI,oC,trivial⟩ trivial
  refine av hE 2 Tryz.func133 rfl rfl ?_
  simp only[Bool.and_eq_true,decide_eq_true_eq]at hc
  obtain⟨rfl,hc2⟩:=hc
  repeat (first|refine ai ?_|refine sat_nd ?_)
  refine aq (fun h=>?_) (fun h=>?_)
  ·have h:decide ((bK f r zs bl).2=0)=false:=by simpa using h
   exact af (aj (.inr rfl) rfl rfl rfl (by
    show V.tup [U 0,I (bK f r (tk zs) bl).2]=_
    rw[aX,bH,h];rfl))
  have h:decide ((bK f r zs bl).2=0)=true:=by simpa using h
  obtain⟨_,_,k3,k4,k5⟩:=Lz (of_decide_eq_true h)
  refine ag (by
   have e:(bK f r (tk zs) bl).1=gh zs bl:=by rw[aX,k3]
   rw[e];simp;omega) ?_
  exact af (aj (.inr rfl) rfl rfl rfl (by
   show V.tup [U (attR f r (tk zs) (bK f r (tk zs) bl).1 (!bl)),I 0]=_
   rw[aX,bH,h];rfl))
 ·cases e
end
end Go.Ab
set_option maxHeartbeats 4000000
namespace Go.Ab
open IntKind
open Go.Proofs
section
variable{kCa kDb:Bool}
structure Psn where
 f:Int
 r:Int
 zs:List Int
 bl:Bool
 ca:Int
 pa:Int
 ha:Int
 fu:Int
structure Mov where
 a:Int
 b:Int
 p:Int
abbrev JI(a b:Int):Int:=band .and .u8 a b
def ofP(k:Int)(b:Bool):Int:=bif b then w8 (0-k)else k
def is88(f r:Int):Bool:=decide (f=8)&&decide (r=8)
def rtX(f r:Int)(zs:List Int)(ca bit:Int)(k q:Nat)(b:Bool):Bool:=!decide (JI ca bit=0)&&((!is88 f r||!decide (zs.getD k 0=ofP 6 b))||!decide (zs.getD q 0=ofP 4 b))
def gw(f r:Int)(zs:List Int)(ca:Int):Bool:=!rtX f r zs ca 1 4 7 false&&!rtX f r zs ca 2 4 0 false&&!rtX f r zs ca 4 60 63 true&&!rtX f r zs ca 8 60 56 true&&decide (ca<16)
def upP(f:Int)(bl:Bool):Int:=bif bl then f else i64.wrap (0-f)
def rkP(r:Int)(bl:Bool):Int:=bif bl then 2 else i64.wrap (r-3)
def fo(f r:Int)(zs:List Int)(bl:Bool)(pa ha:Int):Bool:=decide (pa=-1) ||
 (decide (6<=r)&&decide (ha=0)&&ak f r pa&&decide (i64.wrap (pa.tdiv f)=rkP r bl)&&decide (zs.getD pa.toNat 0=0)&&decide (zs.getD (i64.wrap (pa-upP f bl)).toNat 0=0)&&decide (zs.getD (i64.wrap (pa+upP f bl)).toNat 0=ofP 1 (!bl)))
def fC(f:Int)(zs:List Int):Bool:=!(zs.drop (zs.length-f.toNat)).any (isV 1)&&!(zs.take f.toNat).any (isV (-1))
def eJ(f r:Int)(zs:List Int)(bl:Bool):Bool:=decide ((bK f r zs bl).2=0)&&decide ((bH f r zs (!bl)).2=0)&&decide ((bH f r zs (!bl)).1=0)
def cntB(ha fu:Int):Bool:=decide (0<=ha)&&decide (ha<=10000)&&decide (1<=fu)&&decide (fu<=10000)
def Psn.ok(p:Psn):Bool:=aL p.f p.r p.zs&&eJ p.f p.r p.zs p.bl&&fC p.f p.zs&&gw p.f p.r p.zs p.ca&&fo p.f p.r p.zs p.bl p.pa p.ha&&cntB p.ha p.fu
theorem bT{f r:Int}{zs:List Int}(h:aL f r zs=true):vsB f r=true/\(zs.length:Int)=f*r:=by
 simp only[aL,Bool.and_eq_true,decide_eq_true_eq]at h
 obtain⟨⟨h1,h2⟩,_⟩:=h
 unfold cntR at h1 h2
 cases hv:vsB f r with
 |false=>rw[hv]at h1;simp at h1
 |true=>rw[hv]at h2;exact⟨rfl,by rw[cond_true]at h2;rw[h2];exact fj hv⟩
theorem iX{f r n:Int}{zs:List Int}(h:aL f r zs=true):ak f r n=true↔0<=n/\n<zs.length:=by
 obtain⟨h1,h2⟩:=bT h
 rw[h2]
 exact⟨fun h=>⟨(aS h).1,(aS h).2.1⟩,fun h=>ee h1 h.1 h.2⟩
theorem Ma{f r:Int}{zs:List Int}(h:aL f r zs=true)(h8:is88 f r=true):zs.length=64:=by
 have:=(bT h).2
 simp only[is88,Bool.and_eq_true,decide_eq_true_eq]at h8
 obtain⟨rfl,rfl⟩:=h8
 omega
def GU:CF
 |[.int .i8 k,.bool b],[]=>some (true,.int .i8 (ofP k b),[])
 |_,_=>none
theorem yM:CtOk (GGx kCa kDb) PP (136,GU):=by
 refine aF Tryz.func136 (by kernel_rfl) rfl fun a0 h0 c0 v0 N0 e hc=>?_
 unfold GU at e
 split at e
 ·rename_i k b
  cases e
  have hE:=aD (kCa:=kCa) (kDb:=kDb) (cts:=[]) (inl:=[]) trivial trivial
  refine av hE 2 Tryz.func136 rfl rfl ?_
  repeat' first|(first|refine ai ?_|refine sat_nd ?_)|refine aq (fun h=>?_) (fun h=>?_)
  all_goals exact af (aj (.inr rfl) rfl rfl rfl (by first|rfl|(simp only[ofP, *,cond_true,cond_false];done)|(simp only[ofP, *,cond_true,cond_false,Bool.not_true,Bool.not_false,Bool.and_true,Bool.true_and,Bool.and_false,Bool.false_and,Bool.or_true,Bool.true_or,Bool.or_false,Bool.false_or];done)|simp_all [ofP]))
 ·cases e
theorem Au:sK { (EE kCa kDb [] [])with pf:=qI (EE kCa kDb [] []) [] 1000 4,cc:=true } 3 1000 Tryz.f135 [] []=some (.agg [.int .u8 1,.str [75],.lit false,I 4,I 7,.int .u8 2,.str [81],.lit false,I 4,I 0,.int .u8 4,.str [107],.lit true,I 60,I 63,.int .u8 8,.str [113],.lit true,I 60,I 56],[]):=by kernel_rfl
def lT:CF
 |[],[]=>some (true,.agg [.int .u8 1,.str [75],.lit false,I 4,I 7,.int .u8 2,.str [81],.lit false,I 4,I 0,.int .u8 4,.str [107],.lit true,I 60,I 63,.int .u8 8,.str [113],.lit true,I 60,I 56],[])
 |_,_=>none
theorem mW:CtOk (GGx kCa kDb) PP (135,lT):=by
 refine aF Tryz.func135 (by kernel_rfl) rfl fun a0 h0 c0 v0 N0 e hc=>?_
 unfold lT at e
 split at e
 ·cases e
  exact ay.like (bw (aD (kCa:=kCa) (kDb:=kDb) (cts:=[]) (inl:=[]) trivial trivial) (xs:=[]) trivial 1000 4 Tryz.func135 Au) (fun _ _ h=>h)
 ·cases e
theorem yF{f r:Int}{zs:List Int}{g:Bool}{k:Int}(h:aL f r zs=true)(h0:0<=k)(h1:k<64):(!(g&&!!is88 f r)||(decide (0<=k)&&decide (k<zs.length)))=true:=by
 cases h8:is88 f r with
 |false=>simp
 |true=>have:=Ma h h8;simp;omega
theorem rh{f r:Int}{zs:List Int}{g x:Bool}{k:Int}(h:aL f r zs=true)(h0:0<=k)(h1:k<64):(!(g&&!(!is88 f r||x))||(decide (0<=k)&&decide (k<zs.length)))=true:=by
 cases h8:is88 f r with
 |false=>simp
 |true=>have:=Ma h h8;simp;omega
def gZ:CF
 |[.agg [.int .i64 f,.int .i64 r,.sl 0 0 len none,.bool _bl,.int .u8 ca,.int .i64 _pa,.int .i64 _ha,.int .i64 _fu]],[.ints false .i8 zs]=>some (decide (len=zs.length)&&decide (zs.length<=64)&&aL f r zs,.bool (gw f r zs ca),[])
 |_,_=>none
theorem js:CtOk (GGx kCa kDb) PP (89,gZ):=by
 refine aF Tryz.func89 (by kernel_rfl) rfl fun a0 h0 c0 v0 N0 e hc=>?_
 unfold gZ at e
 split at e
 ·rename_i f r len bl ca pa ha fu zs
  cases e
  have hE:=aD (kCa:=kCa) (kDb:=kDb) (cts:=[(135,lT),(136,GU)]) (inl:=[]) ⟨mW,yM,trivial⟩ trivial
  refine av hE 2 Tryz.func89 rfl rfl ?_
  simp only[Bool.and_eq_true,decide_eq_true_eq]at hc
  obtain⟨⟨rfl,hc2⟩,hbd⟩:=hc
  repeat (first|refine ai ?_|refine sat_nd ?_)
  refine bW hE 2 5 ?_
  refine rnd ?_
  refine cL (by rfl) ?_
  repeat (first|(first|refine ai ?_|refine sat_nd ?_)|refine ag (yF hbd (by omega) (by omega)) ?_|refine ag (rh hbd (by omega) (by omega)) ?_)
  refine aq (fun h0=>?_) (fun h0=>?_)
  ·have h0:rtX f r zs ca 1 4 7 false=true:=h0
   exact af (af (aj (.inr rfl) rfl rfl rfl (by simp[gw,h0])))
  have h0:rtX f r zs ca 1 4 7 false=false:=h0
  refine af ⟨[(1,.ptr 1 0 0),(5,.agg [.int .u8 1,.str [75],.lit false,I 4,I 7,.int .u8 2,.str [81],.lit false,I 4,I 0,.int .u8 4,.str [107],.lit true,I 60,I 63,.int .u8 8,.str [113],.lit true,I 60,I 56]),(6,I 1)],[.ints false .i8 zs,.cells true [I f,I r,.sl 0 0 zs.length none,Bb bl,.int .u8 ca,I pa,I ha,I fu]],Ent.ren [0,1] [1,5,6] rfl rfl rfl,?_⟩
  refine rnd ?_
  refine cL (by rfl) ?_
  repeat (first|(first|refine ai ?_|refine sat_nd ?_)|refine ag (yF hbd (by omega) (by omega)) ?_|refine ag (rh hbd (by omega) (by omega)) ?_)
  refine aq (fun h1=>?_) (fun h1=>?_)
  ·have h1:rtX f r zs ca 2 4 0 false=true:=h1
   exact af (af (aj (.inr rfl) rfl rfl rfl (by simp[gw,h1])))
  have h1:rtX f r zs ca 2 4 0 false=false:=h1
  refine af ⟨[(1,.ptr 1 0 0),(5,.agg [.int .u8 1,.str [75],.lit false,I 4,I 7,.int .u8 2,.str [81],.lit false,I 4,I 0,.int .u8 4,.str [107],.lit true,I 60,I 63,.int .u8 8,.str [113],.lit true,I 60,I 56]),(6,I 2)],[.ints false .i8 zs,.cells true [I f,I r,.sl 0 0 zs.length none,Bb bl,.int .u8 ca,I pa,I ha,I fu]],Ent.ren [0,1] [1,5,6] rfl rfl rfl,?_⟩
  refine rnd ?_
  refine cL (by rfl) ?_
  repeat (first|(first|refine ai ?_|refine sat_nd ?_)|refine ag (yF hbd (by omega) (by omega)) ?_|refine ag (rh hbd (by omega) (by omega)) ?_)
  refine aq (fun h2=>?_) (fun h2=>?_)
  ·have h2:rtX f r zs ca 4 60 63 true=true:=h2
   exact af (af (aj (.inr rfl) rfl rfl rfl (by simp[gw,h2])))
  have h2:rtX f r zs ca 4 60 63 true=false:=h2
  refine af ⟨[(1,.ptr 1 0 0),(5,.agg [.int .u8 1,.str [75],.lit false,I 4,I 7,.int .u8 2,.str [81],.lit false,I 4,I 0,.int .u8 4,.str [107],.lit true,I 60,I 63,.int .u8 8,.str [113],.lit true,I 60,I 56]),(6,I 3)],[.ints false .i8 zs,.cells true [I f,I r,.sl 0 0 zs.length none,Bb bl,.int .u8 ca,I pa,I ha,I fu]],Ent.ren [0,1] [1,5,6] rfl rfl rfl,?_⟩
  refine rnd ?_
  refine cL (by rfl) ?_
  repeat (first|(first|refine ai ?_|refine sat_nd ?_)|refine ag (yF hbd (by omega) (by omega)) ?_|refine ag (rh hbd (by omega) (by omega)) ?_)
  refine aq (fun h3=>?_) (fun h3=>?_)
  ·have h3:rtX f r zs ca 8 60 56 true=true:=h3
   exact af (af (aj (.inr rfl) rfl rfl rfl (by simp[gw,h3])))
  have h3:rtX f r zs ca 8 60 56 true=false:=h3
  refine af ⟨[(1,.ptr 1 0 0),(5,.agg [.int .u8 1,.str [75],.lit false,I 4,I 7,.int .u8 2,.str [81],.lit false,I 4,I 0,.int .u8 4,.str [107],.lit true,I 60,I 63,.int .u8 8,.str [113],.lit true,I 60,I 56]),(6,I 4)],[.ints false .i8 zs,.cells true [I f,I r,.sl 0 0 zs.length none,Bb bl,.int .u8 ca,I pa,I ha,I fu]],Ent.ren [0,1] [1,5,6] rfl rfl rfl,?_⟩
  refine rnd ?_
  refine xl (by rfl) ?_
  refine af (af (aj (.inr rfl) rfl rfl rfl (by simp[gw,h0,h1,h2,h3])))
 ·cases e
end
end Go.Ab
namespace Go.Ab
open Go.Proofs
def zq(zs:List Int)(bl:Bool)(i:Int):Bool:=!isP (zs.getD i.toNat 0) (!bl)||decide (absP (zs.getD i.toNat 0)<3)||decide (5<absP (zs.getD i.toNat 0))
def zk(f r:Int)(zs:List Int)(k i:Int):Bool:=!decide ((oB f r i k).2=0)||decide (uand (ushr (dY f r (absP (zs.getD i.toNat 0)) i 0).1 k) 1=0)
def pinC(f r:Int)(zs:List Int)(bl:Bool)(k all_ i j:Int):Bool:=decide (uand (oB f r i k).1 all_=ushl 1 j)&&isP (zs.getD j.toNat 0) bl
def vg(f r k i j:Int):Int:=uor (de (oB f r i k).1 (ushl 1 j)) (ushl 1 i)
def zu(cb:Int->Int->Int->Int)(f r:Int)(zs:List Int)(bl:Bool)(k all_ i s j:Int):Int:=bif pinC f r zs bl k all_ i j then cb s j (vg f r k i j)else s
def kO(cb:Int->Int->Int->Int)(f r:Int)(zs:List Int)(bl:Bool)(k all_ s i:Int):Int:=bif zq zs bl i||zk f r zs k i then s else cN (zu cb f r zs bl k all_ i) s zs.length
def rj(cb:Int->Int->Int->Int)(f r:Int)(zs:List Int)(bl:Bool):Int:=cN (kO cb f r zs bl (bK f r zs bl).1 (occR f r zs)) 0 zs.length
def cbP(s j _ln:Int):Int:=uor s (ushl 1 j)
def cbL(at_ s j ln:Int):Int:=bif decide (j=at_)then ln else s
def qy(f r:Int)(zs:List Int)(bl:Bool):Int×Int:=bif decide ((bK f r zs bl).2=0) then(rj cbP f r zs bl,0) else(0,(bK f r zs bl).2)
theorem xV{p:Int}(h:-6<=p/\p<=6):absP p=p.natAbs:=by
 have hw:w8 (0-p)=-p:=by
  have hb:IntKind.i8.bits=8:=rfl
  have:∀ q:_root_.Fin 13,w8 (0-((q.val:Int)-6))=-((q.val:Int)-6):=by decide +kernel
  have h2:=this ⟨(p+6).toNat,by omega⟩
  simp only at h2
  rwa [show (((p+6).toNat:Int)-6)=p by omega]at h2
 unfold absP
 rw[hw]
 unfold imax
 by_cases h1:p < -p<;>simp[h1]<;>omega
def eX(f r:Int)(zs:List Int)(at_:Int):Int×Int:=
 bif aO f r zs&&ak f r at_ then
  bif decide (zs.getD at_.toNat 0=0) then(0,9)
  else bif decide ((bK f r zs (decide (zs.getD at_.toNat 0<0))).2=0) then
   bif decide (rj (cbL at_) f r zs (decide (zs.getD at_.toNat 0<0))=0) then(0,9) else(rj (cbL at_) f r zs (decide (zs.getD at_.toNat 0<0)),0)
  else(0,(bK f r zs (decide (zs.getD at_.toNat 0<0))).2)
 else(0,2)
end Go.Ab
