/- Contracts of the functions that the laws reach, and plain laws of what they compute (text G8); no condition. -/
import Derived.Test.YtcmhemipmmckoaaGreatDoorG6
import Derived.Test.YtcmhemipmmckoaaGreatDoorG3
import Derived.Test.YtcmhemipmmckoaaGreatDoorG4
set_option maxRecDepth 100000
namespace Go.Ab
open Go.Proofs
section
variable{kCa kDb:Bool}
def Eg(n:Int):Bool:=decide (3<=n)&&decide (n<=8)
def vsB(f r:Int):Bool:=Eg f&&Eg r
def onB(f r x y:Int):Bool:=decide (0<=x)&&decide (x<f)&&decide (0<=y)&&decide (y<r)
def aj(f r n:Int):Bool:=vsB f r&&decide (0<=n)&&decide (n<IntKind.i64.wrap (f*r))
def atR(f r x y:Int):Int×Int:=bif vsB f r then(bif onB f r x y then(IntKind.i64.wrap (x+IntKind.i64.wrap (y*f)),0) else(0,3)) else(0,2)
def aU(f r n:Int):Int×Int×Int:=bif aj f r n then(n.tmod f,IntKind.i64.wrap (n.tdiv f),0) else(0,0,2)
def Ca:CF
 |[.int .i64 n],[]=>some (true,.bool (Eg n),[])
 |_,_=>none
theorem Fb:CtOk (GGx kCa kDb) PP (165,Ca):=by
 refine aD Tryz.func165 (by kernel_rfl) rfl fun a0 h0 c0 v0 N0 e hc=>?_
 unfold Ca at e
 split at e
 ·rename_i n
  cases e
  have hE:=aA (kCa:=kCa) (kDb:=kDb) (cts:=[]) (inl:=[]) trivial trivial
  refine aq hE 2 Tryz.func165 rfl rfl ?_
  repeat (first|refine ah ?_|refine sat_nd ?_)
  exact ag (ai (.inr rfl) rfl rfl rfl rfl)
 ·cases e
def c_vs:CF
 |[.agg [.int .i64 f,.int .i64 r]],[]=>some (true,.bool (vsB f r),[])
 |_,_=>none
theorem kX:CtOk (GGx kCa kDb) PP (146,c_vs):=by
 refine aD Tryz.func146 (by kernel_rfl) rfl fun a0 h0 c0 v0 N0 e hc=>?_
 unfold c_vs at e
 split at e
 ·rename_i f r
  cases e
  have hE:=aA (kCa:=kCa) (kDb:=kDb) (cts:=[(165,Ca)]) (inl:=[]) ⟨Fb,trivial⟩ trivial
  refine aq hE 2 Tryz.func146 rfl rfl ?_
  repeat (first|refine ah ?_|refine sat_nd ?_)
  exact ag (ai (.inr rfl) rfl rfl rfl rfl)
 ·cases e
def c_on:CF
 |[.agg [.int .i64 f,.int .i64 r],.int .i64 x,.int .i64 y],[]=>some (true,.bool (onB f r x y),[])
 |_,_=>none
theorem LS:CtOk (GGx kCa kDb) PP (191,c_on):=by
 refine aD Tryz.func191 (by kernel_rfl) rfl fun a0 h0 c0 v0 N0 e hc=>?_
 unfold c_on at e
 split at e
 ·rename_i f r x y
  cases e
  have hE:=aA (kCa:=kCa) (kDb:=kDb) (cts:=[]) (inl:=[]) trivial trivial
  refine aq hE 2 Tryz.func191 rfl rfl ?_
  repeat (first|refine ah ?_|refine sat_nd ?_)
  exact ag (ai (.inr rfl) rfl rfl rfl rfl)
 ·cases e
def eK:CF
 |[.agg [.int .i64 f,.int .i64 r],.int .i64 n],[]=>some (true,.bool (aj f r n),[])
 |_,_=>none
theorem cS:CtOk (GGx kCa kDb) PP (101,eK):=by
 refine aD Tryz.func101 (by kernel_rfl) rfl fun a0 h0 c0 v0 N0 e hc=>?_
 unfold eK at e
 split at e
 ·rename_i f r n
  cases e
  have hE:=aA (kCa:=kCa) (kDb:=kDb) (cts:=[(146,c_vs)]) (inl:=[]) ⟨kX,trivial⟩ trivial
  refine aq hE 2 Tryz.func101 rfl rfl ?_
  repeat (first|refine ah ?_|refine sat_nd ?_)
  exact ag (ai (.inr rfl) rfl rfl rfl rfl)
 ·cases e
def c_at:CF
 |[.agg [.int .i64 f,.int .i64 r],.int .i64 x,.int .i64 y],[]=>some (true,.tup [I (atR f r x y).1,I (atR f r x y).2],[])
 |_,_=>none
theorem Fi:CtOk (GGx kCa kDb) PP (185,c_at):=by
 refine aD Tryz.func185 (by kernel_rfl) rfl fun a0 h0 c0 v0 N0 e hc=>?_
 unfold c_at at e
 split at e
 ·rename_i f r x y
  cases e
  have hE:=aA (kCa:=kCa) (kDb:=kDb) (cts:=[(146,c_vs),(191,c_on)]) (inl:=[]) ⟨kX,LS,trivial⟩ trivial
  refine aq hE 2 Tryz.func185 rfl rfl ?_
  repeat (first|refine ah ?_|refine sat_nd ?_)
  refine av (fun h1=>?_) (fun h1=>?_)
  ·exact ag (ai (.inr rfl) rfl rfl rfl (by simp_all [atR]))
  ·repeat (first|refine ah ?_|refine sat_nd ?_)
   refine av (fun h2=>?_) (fun h2=>?_)
   ·exact ag (ai (.inr rfl) rfl rfl rfl (by simp_all [atR]))
   ·exact ag (ai (.inr rfl) rfl rfl rfl (by simp_all [atR]))
 ·cases e
theorem cZ{f r:Int}(h:vsB f r=true):3<=f/\f<=8/\3<=r/\r<=8:=by
 simp[vsB,Eg]at h;omega
theorem bI{f r n:Int}(h:aj f r n=true):vsB f r=true:=by
 simp only[aj,Bool.and_eq_true]at h;exact h.1.1
def kA:CF
 |[.agg [.int .i64 f,.int .i64 r],.int .i64 n],[]=>some (true,.tup [I (aU f r n).1,I (aU f r n).2.1,I (aU f r n).2.2],[])
 |_,_=>none
theorem iv:CtOk (GGx kCa kDb) PP (97,kA):=by
 refine aD Tryz.func97 (by kernel_rfl) rfl fun a0 h0 c0 v0 N0 e hc=>?_
 unfold kA at e
 split at e
 ·rename_i f r n
  cases e
  have hE:=aA (kCa:=kCa) (kDb:=kDb) (cts:=[(101,eK)]) (inl:=[]) ⟨cS,trivial⟩ trivial
  refine aq hE 2 Tryz.func97 rfl rfl ?_
  repeat (first|refine ah ?_|refine sat_nd ?_)
  refine av (fun h1=>?_) (fun h1=>?_)
  ·exact ag (ai (.inr rfl) rfl rfl rfl (by simp_all [aU]))
  ·simp only[Bool.not_eq_false']at h1
   have hf:=cZ (bI h1)
   repeat (first|refine ah ?_|refine ae (by first|rfl|(simp;omega)) ?_)
   exact ag (ai (.inr rfl) rfl rfl rfl (by simp_all [aU]))
 ·cases e
end
end Go.Ab
namespace Go.Ab
open IntKind
open Go.Proofs
section
variable{kCa kDb:Bool}
def allU(f r:Int):Int:=ushr 18446744073709551615 (i64.wrap (64-i64.wrap (f*r)))
theorem aI{n:Int}(h1:-9223372036854775808<=n)(h2:n<=9223372036854775807):i64.wrap n=n:=IntWalk.i64_in _ (by omega)
theorem gu{f r:Int}(h:vsB f r=true):9<=f*r/\f*r<=64:=by
 obtain⟨h1,h2,h3,h4⟩:=cZ h
 have e1:3*3<=f*r:=Int.mul_le_mul h1 h3 (by omega) (by omega)
 have e2:f*r<=8*8:=Int.mul_le_mul h2 h4 (by omega) (by omega)
 omega
theorem eW{f r:Int}(h:vsB f r=true):i64.wrap (f*r)=f*r:=aI (by have:=gu h;omega) (by have:=gu h;omega)
def KN:CF
 |[.agg [.int .i64 f,.int .i64 r]],[]=>some (vsB f r,.int .u64 (allU f r),[])
 |_,_=>none
theorem HG:CtOk (GGx kCa kDb) PP (192,KN):=by
 refine aD Tryz.func192 (by kernel_rfl) rfl fun a0 h0 c0 v0 N0 e hc=>?_
 unfold KN at e
 split at e
 ·rename_i f r
  cases e
  have hE:=aA (kCa:=kCa) (kDb:=kDb) (cts:=[]) (inl:=[]) trivial trivial
  refine aq hE 2 Tryz.func192 rfl rfl ?_
  have hm:=gu hc
  refine ae (by rw[eW hc,aI (by omega) (by omega)];simp;omega) ?_
  exact ag (ai (.inr rfl) rfl rfl rfl rfl)
 ·cases e
def Kw:CF
 |[.agg [.int .i64 f,.int .i64 r]],[]=>some (true,.tup [U (bif vsB f r then allU f r else 0),I (bif vsB f r then 0 else 2)],[])
 |_,_=>none
theorem Gf:CtOk (GGx kCa kDb) PP (186,Kw):=by
 refine aD Tryz.func186 (by kernel_rfl) rfl fun a0 h0 c0 v0 N0 e hc=>?_
 unfold Kw at e
 split at e
 ·rename_i f r
  cases e
  have hE:=aA (kCa:=kCa) (kDb:=kDb) (cts:=[(146,c_vs),(192,KN)]) (inl:=[]) ⟨kX,HG,trivial⟩ trivial
  refine aq hE 2 Tryz.func186 rfl rfl ?_
  repeat (first|refine ah ?_|refine sat_nd ?_)
  refine av (fun h1=>?_) (fun h1=>?_)
  ·exact ag (ai (.inr rfl) rfl rfl rfl (by simp_all))
  ·refine ae (by simpa using h1) ?_
   exact ag (ai (.inr rfl) rfl rfl rfl (by simp_all))
 ·cases e
def fwd(b:Bool):Int:=bif b then -1 else 1
def sgn(n:Int):Int:=bif decide (n<0)then -1 else bif decide (0<n)then 1 else 0
def gE(f r n set:Int):Bool:=aj f r n&&decide (cI set (allU f r)=0)
def jQ:CF
 |[.bool b],[]=>some (true,.int .i64 (fwd b),[])
 |_,_=>none
theorem lB:CtOk (GGx kCa kDb) PP (172,jQ):=by
 refine aD Tryz.func172 (by kernel_rfl) rfl fun a0 h0 c0 v0 N0 e hc=>?_
 unfold jQ at e
 split at e
 ·rename_i b
  cases e
  have hE:=aA (kCa:=kCa) (kDb:=kDb) (cts:=[]) (inl:=[]) trivial trivial
  refine aq hE 2 Tryz.func172 rfl rfl ?_
  refine av (fun h1=>?_) (fun h1=>?_)
  ·exact ag (ai (.inr rfl) rfl rfl rfl (by simp_all [fwd]))
  ·exact ag (ai (.inr rfl) rfl rfl rfl (by simp_all [fwd]))
 ·cases e
def Dp:CF
 |[.int .i64 n],[]=>some (true,.int .i64 (sgn n),[])
 |_,_=>none
theorem Ew:CtOk (GGx kCa kDb) PP (187,Dp):=by
 refine aD Tryz.func187 (by kernel_rfl) rfl fun a0 h0 c0 v0 N0 e hc=>?_
 unfold Dp at e
 split at e
 ·rename_i n
  cases e
  have hE:=aA (kCa:=kCa) (kDb:=kDb) (cts:=[]) (inl:=[]) trivial trivial
  refine aq hE 2 Tryz.func187 rfl rfl ?_
  refine av (fun h1=>?_) (fun h1=>?_)
  ·exact ag (ai (.inr rfl) rfl rfl rfl (by rw[sgn,h1];rfl))
  ·refine av (fun h2=>?_) (fun h2=>?_)
   ·exact ag (ai (.inr rfl) rfl rfl rfl (by rw[sgn,h1,h2];rfl))
   ·exact ag (ai (.inr rfl) rfl rfl rfl (by rw[sgn,h1,h2];rfl))
 ·cases e
def rV:CF
 |[.agg [.int .i64 f,.int .i64 r],.int .i64 n,.int .u64 set],[]=>some (true,.bool (gE f r n set),[])
 |_,_=>none
theorem pG:CtOk (GGx kCa kDb) PP (174,rV):=by
 refine aD Tryz.func174 (by kernel_rfl) rfl fun a0 h0 c0 v0 N0 e hc=>?_
 unfold rV at e
 split at e
 ·rename_i f r n set
  cases e
  have hE:=aA (kCa:=kCa) (kDb:=kDb) (cts:=[(186,Kw),(101,eK)]) (inl:=[]) ⟨Gf,cS,trivial⟩ trivial
  refine aq hE 2 Tryz.func174 rfl rfl ?_
  repeat (first|refine ah ?_|refine sat_nd ?_)
  exact ag (ai (.inr rfl) rfl rfl rfl (by cases h:vsB f r<;>simp[gE,aj,h]))
 ·cases e
def dirR(f r a b:Int):Int×Int×Int:=
 bif aj f r a&&aj f r b then
  (let x:=i64.wrap (b.tmod f-a.tmod f);let y:=i64.wrap (i64.wrap (b.tdiv f)-i64.wrap (a.tdiv f))
   bif decide (a=b)||(!decide (x=0)&&!decide (y=0)&&!decide (x=y)&&!decide (x=i64.wrap (0-y))) then(0,0,9) else(sgn x,sgn y,0))
 else(0,0,2)
def JV:CF
 |[.agg [.int .i64 f,.int .i64 r],.int .i64 a,.int .i64 b],[]=>some (true,.tup [I (dirR f r a b).1,I (dirR f r a b).2.1,I (dirR f r a b).2.2],[])
 |_,_=>none
theorem GQ:CtOk (GGx kCa kDb) PP (176,JV):=by
 refine aD Tryz.func176 (by kernel_rfl) rfl fun a0 h0 c0 v0 N0 e hc=>?_
 unfold JV at e
 split at e
 ·rename_i f r a b
  cases e
  have hE:=aA (kCa:=kCa) (kDb:=kDb) (cts:=[(97,kA),(187,Dp)]) (inl:=[]) ⟨iv,Ew,trivial⟩ trivial
  refine aq hE 2 Tryz.func176 rfl rfl ?_
  repeat (first|refine ah ?_|refine sat_nd ?_)
  refine av (fun h1=>?_) (fun h1=>?_)
  ·exact ag (ai (.inr rfl) rfl rfl rfl (by cases ha:aj f r a<;>cases hb:aj f r b<;>simp_all [dirR,aU]))
  ·repeat (first|refine ah ?_|refine sat_nd ?_)
   have ha:aj f r a=true:=by cases ha:aj f r a<;>simp_all [aU]
   have hb:aj f r b=true:=by cases hb:aj f r b<;>simp_all [aU]
   refine av (fun h2=>?_) (fun h2=>?_)
   ·refine ag (ai (.inr rfl) rfl rfl rfl ?_)
    simp only[aU,ha,hb,cond_true]at h2
    simp only[dirR,ha,hb,Bool.and_true,cond_true,h2]
   ·repeat (first|refine ah ?_|refine sat_nd ?_)
    refine ag (ai (.inr rfl) rfl rfl rfl ?_)
    simp only[aU,ha,hb,cond_true]at h2 ⊢
    simp only[dirR,ha,hb,Bool.and_true,cond_true,h2,cond_false]
 ·cases e
end
section
variable{kCa kDb:Bool}
def sR(f r x y:Int)(row:List Int):Int×Int:=atR f r (i64.wrap (x+row.getD 0 0)) (i64.wrap (y+row.getD 1 0))
def ga(f r x y set:Int)(row:List Int):Int:=bif decide ((sR f r x y row).2=0)then uor set (ushl 1 (sR f r x y row).1)else set
def cy(f r n:Int)(rs:List (List Int)):Int:=rs.foldl (ga f r (aU f r n).1 (aU f r n).2.1) 0
theorem lF{f r x y:Int}(h:(atR f r x y).2=0):0<=(atR f r x y).1/\(atR f r x y).1<64/\vsB f r=true/\onB f r x y=true/\(atR f r x y).1=x+y*f:=by
 unfold atR at h ⊢
 cases h1:vsB f r
 ·simp[h1]at h
 ·cases h2:onB f r x y
  ·simp[h1,h2]at h
  ·simp only[cond_true]
   obtain⟨a1,a2,a3,a4⟩:=cZ h1
   simp only[onB,Bool.and_eq_true,decide_eq_true_eq]at h2
   obtain⟨⟨⟨b1,b2⟩,b3⟩,b4⟩:=h2
   have hm:=gu h1
   have e1:0<=y*f:=Int.mul_nonneg b3 (by omega)
   have e2:(y+1)*f<=r*f:=Int.mul_le_mul_of_nonneg_right (by omega) (by omega)
   rw[Int.add_mul,Int.mul_comm r f]at e2
   have e3:i64.wrap (y*f)=y*f:=aI (by omega) (by omega)
   have e4:i64.wrap (x+y*f)=x+y*f:=aI (by omega) (by omega)
   rw[e3,e4]
   refine⟨by omega,by omega,?_,?_,?_⟩<;>first|rfl|trivial
theorem vc{α β:Type}(l:List α)(d:α)(f:β->α->β)(b:β){k:Nat}(h:k<l.length):(l.take (k+1)).foldl f b=f ((l.take k).foldl f b) (l.getD k d):=by
 rw[List.take_succ_eq_append_getElem h,List.foldl_append]
 simp[List.getD,h]
def vi:CF
 |[.agg [.int .i64 f,.int .i64 r],.int .i64 n,.sl 0 0 len none],[.rows false [.i64,.i64] rs]=>some (decide (len=rs.length)&&decide (rs.length<=1000000),.int .u64 (cy f r n rs),[])
 |_,_=>none
theorem nU:CtOk (GGx kCa kDb) PP (173,vi):=by
 refine aD Tryz.func173 (by kernel_rfl) rfl fun a0 h0 c0 v0 N0 e hc=>?_
 unfold vi at e
 split at e
 ·rename_i f r n len rs
  cases e
  have hE:=aA (kCa:=kCa) (kDb:=kDb) (cts:=[(185,c_at),(97,kA)]) (inl:=[]) ⟨Fi,iv,trivial⟩ trivial
  refine aq hE 2 Tryz.func173 rfl rfl ?_
  simp only[Bool.and_eq_true,decide_eq_true_eq]at hc
  obtain⟨hc1,hc2⟩:=hc
  subst hc1
  repeat (first|refine ah ?_|refine sat_nd ?_)
  refine kI hE 2 (fun a:Int×Int=>([(3,.ptr 1 0 0),(7,I (aU f r n).1),(8,I (aU f r n).2.1),(10,U a.2),(22,.sl 0 0 rs.length none),(23,I rs.length),(24,I a.1)],[.rows false [.i64,.i64] rs,.cells true [I f,I r]]))
   (fun a=>∃ k:Nat,k<=rs.length/\a.1=k/\a.2=(rs.take k).foldl (ga f r (aU f r n).1 (aU f r n).2.1) 0) (fun a=>rs.length-a.1.toNat) (0,0)
   (Ent.ren [0,1] [3,7,8,10,22,23,24] rfl rfl rfl) ⟨0,Nat.zero_le _,rfl,rfl⟩ ?_
  rintro⟨i,set⟩ ⟨k,hk,h1,h2⟩
  dsimp only at h1 h2 ⊢
  refine av (fun hlt=>?_) (fun hlt=>?_)
  ·simp only[decide_eq_true_eq]at hlt
   have hki:i.toNat=k:=by omega
   refine ae (by simp;omega) ?_
   repeat (first|refine ah ?_|refine sat_nd ?_)
   have hstep:=vc rs [] (ga f r (aU f r n).1 (aU f r n).2.1) 0 (show k<rs.length by omega)
   rw[<-h2,<-hki]at hstep
   have hnext:i64.wrap (i+1)=((k+1:Nat):Int):=by rw[aI (by omega) (by omega)];omega
   refine av (fun hon=>?_) (fun hon=>?_)
   ·have hon':decide ((sR f r (aU f r n).1 (aU f r n).2.1 (rs.getD i.toNat [])).2=0)=true:=hon
    refine ae (by have:=(lF (of_decide_eq_true hon)).1;exact decide_eq_true this) ?_
    refine ag ⟨(_,_),⟨k+1,by omega,hnext,?_⟩,?_,Ent.ren [0,1] [3,7,8,10,22,23,24] rfl rfl rfl⟩
    ·rw[<-hki,hstep,ga,hon'];rfl
    ·show _-(i64.wrap (i+1)).toNat<_
     rw[hnext];omega
   ·have hon':decide ((sR f r (aU f r n).1 (aU f r n).2.1 (rs.getD i.toNat [])).2=0)=false:=hon
    refine ag ⟨(_,_),⟨k+1,by omega,hnext,?_⟩,?_,Ent.ren [0,1] [3,7,8,10,22,23,24] rfl rfl rfl⟩
    ·rw[<-hki,hstep,ga,hon'];rfl
    ·show _-(i64.wrap (i+1)).toNat<_
     rw[hnext];omega
  ·simp only[decide_eq_false_iff_not]at hlt
   obtain rfl:k=rs.length:=by omega
   rw[List.take_length]at h2
   refine ag (ag (ai (.inr rfl) rfl rfl rfl (by rw[h2];rfl)))
 ·cases e
end
end Go.Ab
namespace Go.Ab
open Go.Proofs
section
variable{kCa kDb:Bool}
def kQ(f r df dr:Int):Nat->Int->Int->List Int
 |0,_,_=>[]
 |k+1,x,y=>bif decide ((atR f r (IntKind.i64.wrap (x+df)) (IntKind.i64.wrap (y+dr))).2=0) then(atR f r (IntKind.i64.wrap (x+df)) (IntKind.i64.wrap (y+dr))).1::kQ f r df dr k (IntKind.i64.wrap (x+df)) (IntKind.i64.wrap (y+dr)) else[]
def gD(df dr:Int):Bool:=decide (8<=imax true (imax true (imax true df (IntKind.i64.wrap (0-df))) dr) (IntKind.i64.wrap (0-dr)))||decide (df < -8)||decide (dr < -8)
def rayL(f r n df dr:Int):List Int:=bif aj f r n&&!(decide (df=0)&&decide (dr=0))&&!gD df dr then kQ f r df dr 9 (aU f r n).1 (aU f r n).2.1 else[]
def rayV(f r n df dr:Int):List (List V):=(rayL f r n df dr).map fun x=>[I x]
theorem Fa{df dr:Int}(h:gD df dr=false):-7<=df/\df<=7/\-7<=dr/\dr<=7:=by
 simp only[gD,Bool.or_eq_false_iff,decide_eq_false_iff_not]at h
 obtain⟨⟨h1,h2⟩,h3⟩:=h
 have m:∀ x y:Int,x<=imax true x y/\y<=imax true x y:=fun x y=>by
  unfold imax
  by_cases h:x<y<;>simp[h]<;>omega
 have e1:=m df (IntKind.i64.wrap (0-df))
 have e2:=m (imax true df (IntKind.i64.wrap (0-df))) dr
 have e3:=m (imax true (imax true df (IntKind.i64.wrap (0-df))) dr) (IntKind.i64.wrap (0-dr))
 have f1:df<=7:=by omega
 have f2:dr<=7:=by omega
 rw[aI (n:=0-df) (by omega) (by omega)]at e1 e2 e3
 rw[aI (n:=0-dr) (by omega) (by omega)]at e3
 rw[aI (n:=0-df) (by omega) (by omega),aI (n:=0-dr) (by omega) (by omega)]at h1
 omega
theorem qV{f r n:Int}(h:aj f r n=true):0<=(aU f r n).1/\(aU f r n).1<f/\0<=(aU f r n).2.1/\(aU f r n).2.1<r/\(aU f r n).1=n%f/\(aU f r n).2.1=n/f:=by
 have hv:=bI h
 obtain⟨a1,a2,a3,a4⟩:=cZ hv
 have hm:=gu hv
 simp only[aU,h,cond_true]
 simp only[aj,Bool.and_eq_true,decide_eq_true_eq]at h
 obtain⟨⟨h1,h2⟩,h3⟩:=h
 rw[eW hv]at h3
 have e1:n.tmod f=n%f:=Int.tmod_eq_emod_of_nonneg h2
 have e2:n.tdiv f=n/f:=Int.tdiv_eq_ediv_of_nonneg h2
 have b1:=Int.emod_nonneg n (show f≠0 by omega)
 have b2:=Int.emod_lt_of_pos n (show 0<f by omega)
 have b3:0<=n/f:=Int.ediv_nonneg h2 (by omega)
 have b4:n/f<r:=Int.ediv_lt_of_lt_mul (by omega) (by rw[Int.mul_comm];exact h3)
 rw[e1,e2,aI (by omega) (by omega)]
 exact⟨b1,b2,b3,b4,rfl,rfl⟩
theorem rS{f r x y:Int}(h:onB f r x y=true):0<=x/\x<f/\0<=y/\y<r:=by
 simp only[onB,Bool.and_eq_true,decide_eq_true_eq]at h
 obtain⟨⟨⟨b1,b2⟩,b3⟩,b4⟩:=h
 exact⟨b1,b2,b3,b4⟩
theorem Iw(f r n df dr:Int):jZ (GGx kCa kDb) PP 188 [[I f,I r],[I n],[I df],[I dr]] (rayV f r n df dr):=by
 have hE:=aA (kCa:=kCa) (kDb:=kDb) (cts:=[(97,kA),(185,c_at)]) (inl:=[]) ⟨iv,Fi,trivial⟩ trivial
 refine zq hE Tryz.func188 rfl rfl rfl rfl fun nn l S0 ρc J ok=>?_
 refine YG.seq (YG.seg hE 2 ?_)
 repeat (first|refine ah ?_|refine sat_nd ?_)
 refine ag ?_
 refine YG.seq (YG.seg hE 2 ?_)
 repeat (first|refine ah ?_|refine sat_nd ?_)
 refine av (fun h1=>ag ⟨.inr rfl,.inl ?_⟩) (fun h1=>ag ?_)
 ·have:rayV f r n df dr=[]:=by
   cases hv:aj f r n<;>simp_all [rayV,rayL,aU]
  rw[this];rfl
 have hv:aj f r n=true:=by cases hv:aj f r n<;>simp_all [aU]
 have hnz:(decide (df=0)&&decide (dr=0))=false:=by
  cases h:(decide (df=0)&&decide (dr=0))<;>simp_all
 refine YG.seq (YG.seg hE 2 ?_)
 repeat (first|refine ah ?_|refine sat_nd ?_)
 refine av (fun h2=>ag ⟨.inr rfl,.inl ?_⟩) (fun h2=>ag ?_)
 ·have h2:gD df dr=true:=h2
  have:rayV f r n df dr=[]:=by simp[rayV,rayL,h2]
  rw[this];rfl
 have h2:gD df dr=false:=h2
 have hL:rayL f r n df dr=kQ f r df dr 9 (aU f r n).1 (aU f r n).2.1:=by simp only[rayL,hv,hnz,h2];rfl
 have hb:=Fa h2
 have hp:=qV hv
 have hsz:=cZ (bI hv)
 have hdd:df≠0\/dr≠0:=by
  by_cases e:df=0
  ·right;rintro rfl;simp[e]at hnz
  ·exact .inl e
 refine YG.block (YG.loop (fun a:Nat×Int×Int=>(some a.1,[(0,.yl 4),(1,.ptr 0 0 0),(2,.ptr 1 0 0),(3,.ptr 2 0 0),(4,.ptr 3 0 0),(6,I a.2.1),(7,I a.2.2)],hp0 [[I f,I r],[I n],[I df],[I dr]]))
  (fun a=>0<=a.2.1/\a.2.1<f/\0<=a.2.2/\a.2.2<r/\(1<=df->a.1<=a.2.1)/\(df<=-1->a.2.1+a.1<=7)/\(1<=dr->a.1<=a.2.2)/\(dr<=-1->a.2.2+a.1<=7)/\a.1<=(rayL f r n df dr).length/\(rayL f r n df dr).drop a.1=kQ f r df dr (9-a.1) a.2.1 a.2.2)
  (fun a=>8-a.1) (0,(aU f r n).1,(aU f r n).2.1) rfl (Ent.ren [0,1,2,3,4] [0,1,2,3,4,6,7] rfl rfl rfl) ?_ ?_)
 ·exact⟨hp.1,hp.2.1,hp.2.2.1,hp.2.2.2.1,by intro;simp;omega,by intro;simp;omega,by intro;simp;omega,by intro;simp;omega,Nat.zero_le _,by simpa using hL⟩
 rintro⟨i,x,y⟩ ⟨i1,i2,i3,i4,i5,i6,i7,i8,i9,i10⟩
 dsimp only at i1 i2 i3 i4 i5 i6 i7 i8 i9 i10 ⊢
 have hi8:i<=7:=by omega
 refine YG.block (YG.seq (YG.seg hE 2 ?_))
 repeat (first|refine ah ?_|refine sat_nd ?_)
 refine ag ?_
 refine YG.seq (YG.seg hE 2 ?_)
 repeat (first|refine ah ?_|refine sat_nd ?_)
 refine ag ?_
 refine YG.seq (YG.yregAt ok 2 5 rfl rfl rfl ?_)
 refine ag ?_
 have hgo:∀ b,decide ((atR f r (IntKind.i64.wrap (x+df)) (IntKind.i64.wrap (y+dr))).2=0)=b->kQ f r df dr (9-i) x y=bif b then(atR f r (IntKind.i64.wrap (x+df)) (IntKind.i64.wrap (y+dr))).1::kQ f r df dr (8-i) (IntKind.i64.wrap (x+df)) (IntKind.i64.wrap (y+dr)) else[]:=by
  intro b hb
  rw[show 9-i=(8-i)+1 by omega]
  simp only[kQ,hb]
 refine⟨fun hg=>?_,fun hg=>?_⟩
 ·have hg:decide ((atR f r (IntKind.i64.wrap (x+df)) (IntKind.i64.wrap (y+dr))).2=0)=true:=by simpa using hg
  have he:=of_decide_eq_true hg
  obtain⟨p1,p2,p3,p4,p5⟩:=lF he
  have hon:=rS p4
  have hwx:IntKind.i64.wrap (x+df)=x+df:=aI (by omega) (by omega)
  have hwy:IntKind.i64.wrap (y+dr)=y+dr:=aI (by omega) (by omega)
  have hr:=hgo true hg
  rw[cond_true]at hr
  rw[hr]at i10
  have hlt:i<(rayL f r n df dr).length:=by
   have:=congrArg List.length i10
   simp only[List.length_drop,List.length_cons]at this
   omega
  have hat:(rayL f r n df dr)[i]?=some (atR f r (IntKind.i64.wrap (x+df)) (IntKind.i64.wrap (y+dr))).1:=by
   have:=congrArg (fun l:List Int=>l[0]?) i10
   simpa using this
  have hdr:(rayL f r n df dr).drop (i+1)=kQ f r df dr (8-i) (IntKind.i64.wrap (x+df)) (IntKind.i64.wrap (y+dr)):=by
   have:=congrArg (List.drop 1) i10
   simpa[List.drop_drop,Nat.add_comm]using this
  repeat (first|refine ah ?_|refine sat_nd ?_)
  refine ag ?_
  refine⟨i,[I (atR f r (IntKind.i64.wrap (x+df)) (IntKind.i64.wrap (y+dr))).1],[0,1,2,3,4,6,7,59],rfl,by simp[rayV,hat],rfl,rfl,rfl,rfl,fun b=>?_⟩
  cases b with
  |true=>
   refine ag ?_
   refine YG.seg hE 2 ?_
   refine ag ⟨(i+1,IntKind.i64.wrap (x+df),IntKind.i64.wrap (y+dr)),?_,?_,rfl,Ent.ren [0,1,2,3,4] [0,1,2,3,4,6,7] rfl rfl rfl⟩
   ·dsimp only
    rw[hwx,hwy]at hon
    rw[hdr,hwx,hwy,show 9-(i+1)=8-i by omega]
    refine⟨hon.1,hon.2.1,hon.2.2.1,hon.2.2.2,?_,?_,?_,?_,by omega,rfl⟩<;>intro h<;>push_cast<;>omega
   ·dsimp only;omega
  |false=>
   refine ag ?_
   refine YG.seg hE 2 ?_
   exact ag ⟨.inr rfl,.inr rfl⟩
 ·have hg:decide ((atR f r (IntKind.i64.wrap (x+df)) (IntKind.i64.wrap (y+dr))).2=0)=false:=by simpa using hg
  have hr:=hgo false hg
  rw[cond_false]at hr
  rw[hr]at i10
  have hlen:i=(rayL f r n df dr).length:=by
   have:=congrArg List.length i10
   simp only[List.length_drop,List.length_nil]at this
   omega
  refine ag ?_
  refine YG.seg hE 2 ?_
  exact ag ⟨.inr rfl,.inl (by simp[rayV,<-hlen])⟩
end
end Go.Ab
namespace Go.Ab
open IntKind
open Go.Proofs
section
variable{kCa kDb:Bool}
theorem yZ{f r n df dr:Int}{i:Nat}{vs:List V}(h:(rayV f r n df dr)[i]?=some vs):∃ x,(rayL f r n df dr)[i]?=some x/\vs=[I x]/\0<=x/\x<64:=by
 simp only[rayV,List.getElem?_map,Option.map_eq_some_iff]at h
 obtain⟨x,h1,rfl⟩:=h
 refine⟨x,h1,rfl,?_⟩
 have hm:=List.mem_of_getElem? h1
 have key:∀ (k:Nat) (a b:Int),x∈kQ f r df dr k a b->0<=x/\x<64:=by
  intro k
  induction k with
  |zero=>intro a b h;simp[kQ]at h
  |succ k ih=>
   intro a b h
   rw[kQ]at h
   cases hb:decide ((atR f r (i64.wrap (a+df)) (i64.wrap (b+dr))).2=0) with
   |false=>rw[hb]at h;simp at h
   |true=>
    rw[hb,cond_true]at h
    rcases List.mem_cons.1 h with rfl|h
    ·have:=lF (of_decide_eq_true hb);exact⟨this.1,this.2.1⟩
    ·exact ih _ _ h
 unfold rayL at hm
 cases hc:(aj f r n&&!(decide (df=0)&&decide (dr=0))&&!gD df dr) with
 |false=>rw[hc]at hm;simp at hm
 |true=>rw[hc,cond_true]at hm;exact key _ _ _ hm
theorem yH{f r n df dr:Int}:∀ vs∈rayV f r n df dr,vs.length=1:=by
 intro vs h
 simp only[rayV,List.mem_map]at h
 obtain⟨x,_,rfl⟩:=h
 rfl
theorem oA{f r n df dr:Int}:(rayV f r n df dr).length=(rayL f r n df dr).length:=by simp[rayV]
theorem CT:dV PP 188:=ent Tryz.func188 rfl rfl
def fe(b:Int):List Int->Int->Int
 |[],s=>s
 |x::l,s=>bif decide (x=b)then s else fe b l (uor s (ushl 1 x))
def bS(f r a b:Int):Int×Int:=bif decide ((dirR f r a b).2.2=0) then(fe b (rayL f r a (dirR f r a b).1 (dirR f r a b).2.1) 0,0) else(0,(dirR f r a b).2.2)
theorem El{b:Int}{l:List Int}{i:Nat}{x s:Int}(h:l[i]?=some x):fe b (l.drop i) s=bif decide (x=b)then s else fe b (l.drop (i+1)) (uor s (ushl 1 x)):=by
 obtain⟨h1,h2⟩:=List.getElem?_eq_some_iff.1 h
 rw[List.drop_eq_getElem_cons h1,h2,fe]
def dU(occ:Int):List Int->Int->Int
 |[],s=>s
 |x::l,s=>bif decide (uand (ushr occ x) 1=1)then uor s (ushl 1 x)else dU occ l (uor s (ushl 1 x))
theorem AV{b:Int}{l:List Int}{i:Nat}{x s:Int}(h:l[i]?=some x):dU b (l.drop i) s=bif decide (uand (ushr b x) 1=1)then uor s (ushl 1 x)else dU b (l.drop (i+1)) (uor s (ushl 1 x)):=by
 obtain⟨h1,h2⟩:=List.getElem?_eq_some_iff.1 h
 rw[List.drop_eq_getElem_cons h1,h2,dU]
def eM(f r n occ s:Int)(row:List Int):Int:=dU occ (rayL f r n (row.getD 0 0) (row.getD 1 0)) s
def dM(f r n occ:Int)(rs:List (List Int)):Int:=rs.foldl (eM f r n occ) 0
def gv:CF
 |[.agg [.int .i64 f,.int .i64 r],.int .i64 a,.int .i64 b],[]=>some (true,.tup [U (bS f r a b).1,I (bS f r a b).2],[])
 |_,_=>none
theorem tY:CtOk (GGx kCa kDb) PP (155,gv):=by
 refine aD Tryz.func155 (by kernel_rfl) rfl fun a0 h0 c0 v0 N0 e hc=>?_
 unfold gv at e
 split at e
 ·rename_i f r a b
  cases e
  have hE:=aA (kCa:=kCa) (kDb:=kDb) (cts:=[(176,JV)]) (inl:=[(177,Tryz.f177)]) ⟨GQ,trivial⟩ ⟨⟨Tryz.func177,by kernel_rfl⟩,trivial⟩
  refine aq hE 2 Tryz.func155 rfl rfl ?_
  repeat (first|refine ah ?_|refine sat_nd ?_)
  refine av (fun h1=>?_) (fun h1=>?_)
  ·have h1:decide ((dirR f r a b).2.2=0)=false:=by simpa using h1
   exact ag (ai (.inr rfl) rfl rfl rfl (by rw[bS,h1];rfl))
  have h1:decide ((dirR f r a b).2.2=0)=true:=by simpa using h1
  repeat (first|refine ah ?_|refine sat_nd ?_)
  generalize hL:rayL f r a (dirR f r a b).1 (dirR f r a b).2.1=L
  refine og hE 2 7 [3,4,5,6] [3,5,11] (Ent.ren [0,1,2,3,4,5,6] [3,5,11,28] rfl rfl rfl) (Iw f r a (dirR f r a b).1 (dirR f r a b).2.1) yH CT rfl rfl rfl rfl rfl rfl
   (fun i hp'=>∃ s,fe b (L.drop i) s=fe b L 0/\hp'=[.cells true [I f,I r],.cells true [I b],.cells true [U s],.cells true [I f,I r],.cells true [I a],.cells true [I (dirR f r a b).1],.cells true [I (dirR f r a b).2.1]])
   (fun e hp'=>e=.exit 0/\∃ s,s=fe b L 0/\hp'=[.cells true [I f,I r],.cells true [I b],.cells true [U s],.cells true [I f,I r],.cells true [I a],.cells true [I (dirR f r a b).1],.cells true [I (dirR f r a b).2.1]])
   ⟨0,rfl,rfl⟩ ?_ ?_ ?_ ?_ ?_
  ·rintro i hp' ⟨s,_,rfl⟩;rfl
  ·rintro e hp' ⟨_,s,_,rfl⟩;rfl
  ·rintro i vs hp' hi ⟨s,hs,rfl⟩
   obtain⟨x,hx,rfl,x0,x1⟩:=yZ hi
   rw[hL]at hx
   rw[El hx]at hs
   refine ag ⟨rfl,?_⟩
   refine av (fun h2=>?_) (fun h2=>?_)
   ·rw[h2,cond_true]at hs
    exact ag ⟨_,Ent.ren [0,1,2,3,4,5,6] [] rfl rfl rfl,rfl,s,hs,rfl⟩
   ·rw[h2,cond_false]at hs
    repeat (first|refine ah ?_|refine sat_nd ?_)
    refine ag ⟨_,Ent.ren [0,1,2,3,4,5,6] [] rfl rfl rfl,_,hs,rfl⟩
  ·rintro hp' ⟨s,hs,rfl⟩
   rw[oA,hL,List.drop_length]at hs
   have hs:s=fe b L 0:=hs
   exact ag (ai (.inr rfl) rfl rfl rfl (by rw[bS,h1,hL,hs];rfl))
  ·rintro e hp' ⟨rfl,s,hs,rfl⟩
   exact ag (ai (.inr rfl) rfl rfl rfl (by rw[bS,h1,hL,hs];rfl))
 ·cases e
def xq:CF
 |[.agg [.int .i64 f,.int .i64 r],.int .i64 n,.int .u64 occ,.sl 0 0 len none],[.rows false [.i64,.i64] rs]=>some (decide (len=rs.length)&&decide (rs.length<=1000000),.int .u64 (dM f r n occ rs),[])
 |_,_=>none
theorem Au:CtOk (GGx kCa kDb) PP (175,xq):=by
 refine aD Tryz.func175 (by kernel_rfl) rfl fun a0 h0 c0 v0 N0 e hc=>?_
 unfold xq at e
 split at e
 ·rename_i f r n occ len rs
  cases e
  have hE:=aA (kCa:=kCa) (kDb:=kDb) (cts:=[]) (inl:=[(177,Tryz.f177)]) trivial ⟨⟨Tryz.func177,by kernel_rfl⟩,trivial⟩
  refine aq hE 2 Tryz.func175 rfl rfl ?_
  simp only[Bool.and_eq_true,decide_eq_true_eq]at hc
  obtain⟨hc1,hc2⟩:=hc
  subst hc1
  repeat (first|refine ah ?_|refine sat_nd ?_)
  refine kI hE 2 (fun a:Int×Int=>([(1,I n),(4,.ptr 1 0 0),(6,.ptr 2 0 0),(9,.ptr 3 0 0),(13,.sl 0 0 rs.length none),(14,I rs.length),(15,I a.1)],[.rows false [.i64,.i64] rs,.cells true [I f,I r],.cells true [U occ],.cells true [U a.2]]))
   (fun a=>∃ k:Nat,k<=rs.length/\a.1=k/\a.2=(rs.take k).foldl (eM f r n occ) 0) (fun a=>rs.length-a.1.toNat) (0,0)
   (Ent.ren [0,1,2,3] [1,4,6,9,13,14,15] rfl rfl rfl) ⟨0,Nat.zero_le _,rfl,rfl⟩ ?_
  rintro⟨i,set⟩ ⟨k,hk,h1,h2⟩
  dsimp only at h1 h2 ⊢
  refine av (fun hlt=>?_) (fun hlt=>?_)
  ·simp only[decide_eq_true_eq]at hlt
   have hki:i.toNat=k:=by omega
   refine ae (by simp;omega) ?_
   repeat (first|refine ah ?_|refine sat_nd ?_)
   have hstep:=vc rs [] (eM f r n occ) 0 (show k<rs.length by omega)
   rw[<-h2,<-hki]at hstep
   have hnext:i64.wrap (i+1)=((k+1:Nat):Int):=by rw[aI (by omega) (by omega)];omega
   generalize hL:rayL f r n ((rs.getD i.toNat []).getD 0 0) ((rs.getD i.toNat []).getD 1 0)=L
   refine og hE 2 9 [5,6,7,8] [1,4,6,9,13,14,15] (Ent.ren [0,1,2,3,4,5,6,7,8] [1,4,6,9,13,14,15,25] rfl rfl rfl) (Iw f r n ((rs.getD i.toNat []).getD 0 0) ((rs.getD i.toNat []).getD 1 0)) yH CT rfl rfl rfl rfl rfl rfl
    (fun j hp'=>∃ s,dU occ (L.drop j) s=dU occ L set/\hp'=[.rows false [.i64,.i64] rs,.cells true [I f,I r],.cells true [U occ],.cells true [U s],.cells true [I ((rs.getD i.toNat []).getD 0 0),I ((rs.getD i.toNat []).getD 1 0)],.cells true [I f,I r],.cells true [I n],.cells true [I ((rs.getD i.toNat []).getD 0 0)],.cells true [I ((rs.getD i.toNat []).getD 1 0)]])
    (fun e hp'=>e=.exit 2/\∃ s,s=dU occ L set/\hp'=[.rows false [.i64,.i64] rs,.cells true [I f,I r],.cells true [U occ],.cells true [U s],.cells true [I ((rs.getD i.toNat []).getD 0 0),I ((rs.getD i.toNat []).getD 1 0)],.cells true [I f,I r],.cells true [I n],.cells true [I ((rs.getD i.toNat []).getD 0 0)],.cells true [I ((rs.getD i.toNat []).getD 1 0)]])
    ⟨set,rfl,rfl⟩ ?_ ?_ ?_ ?_ ?_
   ·rintro j hp' ⟨s,_,rfl⟩;rfl
   ·rintro e hp' ⟨_,s,_,rfl⟩;rfl
   ·rintro j vs hp' hi ⟨s,hs,rfl⟩
    obtain⟨x,hx,rfl,x0,x1⟩:=yZ hi
    rw[hL]at hx
    rw[AV hx]at hs
    refine ag ⟨rfl,?_⟩
    repeat (first|refine ah ?_|refine sat_nd ?_)
    refine av (fun h2=>?_) (fun h2=>?_)
    ·have h2:decide (uand (ushr occ x) 1=1)=true:=h2
     rw[h2,cond_true]at hs
     exact ag ⟨_,Ent.ren [0,1,2,3,4,5,6,7,8] [] rfl rfl rfl,rfl,_,hs,rfl⟩
    ·have h2:decide (uand (ushr occ x) 1=1)=false:=h2
     rw[h2,cond_false]at hs
     exact ag ⟨_,Ent.ren [0,1,2,3,4,5,6,7,8] [] rfl rfl rfl,_,hs,rfl⟩
   ·rintro hp' ⟨s,hs,rfl⟩
    rw[oA,hL,List.drop_length]at hs
    have hs:s=dU occ L set:=hs
    refine ag ⟨(_,_),⟨k+1,by omega,hnext,?_⟩,?_,Ent.ren [0,1,2,3] [1,4,6,9,13,14,15] rfl rfl rfl⟩
    ·rw[<-hki,hstep,eM,hL];exact hs
    ·show _-(i64.wrap (i+1)).toNat<_
     rw[hnext];omega
   ·rintro e hp' ⟨rfl,s,hs,rfl⟩
    refine ag ⟨(_,_),⟨k+1,by omega,hnext,?_⟩,?_,Ent.ren [0,1,2,3] [1,4,6,9,13,14,15] rfl rfl rfl⟩
    ·rw[<-hki,hstep,eM,hL];exact hs
    ·show _-(i64.wrap (i+1)).toNat<_
     rw[hnext];omega
  ·simp only[decide_eq_false_iff_not]at hlt
   obtain rfl:k=rs.length:=by omega
   rw[List.take_length]at h2
   exact ag (ag (ai (.inr rfl) rfl rfl rfl (by rw[h2];rfl)))
 ·cases e
end
end Go.Ab
namespace Go.Ab
open Go.Proofs
section
variable{kCa kDb:Bool}
def cn(f r kd n occ:Int):Int×Int:=
 bif gE f r n occ then
  (bif decide (kd=2) then(cy f r n iI,0)else bif decide (kd=3) then(dM f r n occ fD,0)else bif decide (kd=4) then(dM f r n occ fR,0)
   else bif decide (kd=5) then(uor (dM f r n occ fD) (dM f r n occ fR),0)else bif decide (kd=6) then(uor (cy f r n fD) (cy f r n fR),0) else(0,2))
 else(0,2)
def gr(f r:Int)(bl:Bool)(n:Int):Int×Int:=bif aj f r n then(cy f r n [[-1,fwd bl],[1,fwd bl]],0) else(0,2)
def one1(f r:Int)(bl:Bool)(n occ:Int):Int:=cI (cy f r n [[0,fwd bl]]) occ
def pZ(f r:Int)(bl:Bool)(n occ:Int):Bool:=decide (one1 f r bl n occ=0)||decide (r<6)||!decide (IntKind.i64.wrap (n.tdiv f)=bif bl then IntKind.i64.wrap (r-2)else 1)
def dc(f r:Int)(bl:Bool)(n occ:Int):Int×Int:=
 bif gE f r n occ then
  (bif pZ f r bl n occ then(one1 f r bl n occ,0)
   else(uor (one1 f r bl n occ) (cI (cy f r n [[0,IntKind.i64.wrap (2*fwd bl)]]) occ),0))
 else(0,2)
def nf:CF
 |[.agg [.int .i64 f,.int .i64 r],.int .i8 kd,.int .i64 n,.int .u64 occ],[]=>some (true,.tup [U (cn f r kd n occ).1,I (cn f r kd n occ).2],[])
 |_,_=>none
theorem kg:CtOk (GGx kCa kDb) PP (154,nf):=by
 refine aD Tryz.func154 (by kernel_rfl) rfl fun a0 h0 c0 v0 N0 e hc=>?_
 unfold nf at e
 split at e
 ·rename_i f r kd n occ
  cases e
  have hE:=aA (kCa:=kCa) (kDb:=kDb) (cts:=[(174,rV),(173,vi),(175,xq)]) (inl:=[]) ⟨pG,nU,Au,trivial⟩ trivial
  refine aq hE 2 Tryz.func154 rfl rfl ?_
  repeat (first|refine ah ?_|refine sat_nd ?_)
  refine av (fun h1=>?_) (fun h1=>?_)
  ·have h1:gE f r n occ=false:=by simpa using h1
   exact ag (ai (.inr rfl) rfl rfl rfl (by rw[cn,h1];rfl))
  have h1:gE f r n occ=true:=by simpa using h1
  refine av (fun h2=>?_) (fun h2=>?_)
  ·repeat (first|refine ah ?_|refine sat_nd ?_)
   exact ag (ai (.inr rfl) rfl rfl rfl (by rw[cn,h1,cond_true,h2];rfl))
  refine av (fun h3=>?_) (fun h3=>?_)
  ·repeat (first|refine ah ?_|refine sat_nd ?_)
   exact ag (ai (.inr rfl) rfl rfl rfl (by rw[cn,h1,cond_true,h2,h3];rfl))
  refine av (fun h4=>?_) (fun h4=>?_)
  ·repeat (first|refine ah ?_|refine sat_nd ?_)
   exact ag (ai (.inr rfl) rfl rfl rfl (by rw[cn,h1,cond_true,h2,h3,h4];rfl))
  refine av (fun h5=>?_) (fun h5=>?_)
  ·repeat (first|refine ah ?_|refine sat_nd ?_)
   exact ag (ai (.inr rfl) rfl rfl rfl (by rw[cn,h1,cond_true,h2,h3,h4,h5];rfl))
  refine av (fun h6=>?_) (fun h6=>?_)
  ·repeat (first|refine ah ?_|refine sat_nd ?_)
   exact ag (ai (.inr rfl) rfl rfl rfl (by rw[cn,h1,cond_true,h2,h3,h4,h5,h6];rfl))
  exact ag (ai (.inr rfl) rfl rfl rfl (by rw[cn,h1,cond_true,h2,h3,h4,h5,h6];rfl))
 ·cases e
def uO:CF
 |[.agg [.int .i64 f,.int .i64 r],.bool bl,.int .i64 n],[]=>some (true,.tup [U (gr f r bl n).1,I (gr f r bl n).2],[])
 |_,_=>none
theorem mJ:CtOk (GGx kCa kDb) PP (153,uO):=by
 refine aD Tryz.func153 (by kernel_rfl) rfl fun a0 h0 c0 v0 N0 e hc=>?_
 unfold uO at e
 split at e
 ·rename_i f r bl n
  cases e
  have hE:=aA (kCa:=kCa) (kDb:=kDb) (cts:=[(101,eK),(172,jQ),(173,vi)]) (inl:=[]) ⟨cS,lB,nU,trivial⟩ trivial
  refine aq hE 2 Tryz.func153 rfl rfl ?_
  repeat (first|refine ah ?_|refine sat_nd ?_)
  refine av (fun h1=>?_) (fun h1=>?_)
  ·have h1:aj f r n=false:=by simpa using h1
   exact ag (ai (.inr rfl) rfl rfl rfl (by rw[gr,h1];rfl))
  have h1:aj f r n=true:=by simpa using h1
  repeat (first|refine ah ?_|refine sat_nd ?_)
  exact ag (ai (.inr rfl) rfl rfl rfl (by rw[gr,h1];rfl))
 ·cases e
def su:CF
 |[.agg [.int .i64 f,.int .i64 r],.bool bl,.int .i64 n,.int .u64 occ],[]=>some (true,.tup [U (dc f r bl n occ).1,I (dc f r bl n occ).2],[])
 |_,_=>none
theorem pK:CtOk (GGx kCa kDb) PP (157,su):=by
 refine aD Tryz.func157 (by kernel_rfl) rfl fun a0 h0 c0 v0 N0 e hc=>?_
 unfold su at e
 split at e
 ·rename_i f r bl n occ
  cases e
  have hE:=aA (kCa:=kCa) (kDb:=kDb) (cts:=[(174,rV),(173,vi),(172,jQ)]) (inl:=[]) ⟨pG,nU,lB,trivial⟩ trivial
  refine aq hE 2 Tryz.func157 rfl rfl ?_
  repeat (first|refine ah ?_|refine sat_nd ?_)
  refine av (fun h1=>?_) (fun h1=>?_)
  ·have h1:gE f r n occ=false:=by simpa using h1
   exact ag (ai (.inr rfl) rfl rfl rfl (by rw[dc,h1];rfl))
  have h1:gE f r n occ=true:=by simpa using h1
  have hv:aj f r n=true:=by simp only[gE,Bool.and_eq_true]at h1;exact h1.1
  have hf:=cZ (bI hv)
  repeat (first|refine ah ?_|refine sat_nd ?_)
  refine av (fun h2=>?_) (fun h2=>?_)
  ·subst h2
   repeat (first|refine ah ?_|refine sat_nd ?_)
   refine av (fun h3=>?_) (fun h3=>?_)
   ·have h3:pZ f r true n occ=true:=h3
    exact ag (ai (.inr rfl) rfl rfl rfl (by rw[dc,h1,cond_true,h3];rfl))
   ·have h3:pZ f r true n occ=false:=h3
    repeat (first|refine ah ?_|refine sat_nd ?_)
    exact ag (ai (.inr rfl) rfl rfl rfl (by rw[dc,h1,cond_true,h3];rfl))
  ·subst h2
   repeat (first|refine ah ?_|refine sat_nd ?_)
   refine av (fun h3=>?_) (fun h3=>?_)
   ·have h3:pZ f r false n occ=true:=h3
    exact ag (ai (.inr rfl) rfl rfl rfl (by rw[dc,h1,cond_true,h3];rfl))
   ·have h3:pZ f r false n occ=false:=h3
    repeat (first|refine ah ?_|refine sat_nd ?_)
    exact ag (ai (.inr rfl) rfl rfl rfl (by rw[dc,h1,cond_true,h3];rfl))
 ·cases e
end
end Go.Ab
namespace Go.Ab
open IntKind
open Go.Proofs
section
variable{kCa kDb:Bool}
def numB(f r x y:Int):Bool:=decide (x<0)||decide (f<=x)||decide (y<0)||decide (r<=y)
def numR(f r x y:Int):Int:=bif numB f r x y then -1 else i64.wrap (i64.wrap (y*f)+x)
def hasB(s n:Int):Bool:=decide (0<=n)&&decide (n<64)&&decide ((ushr s n).tmod 2=1)
def zl:CF
 |[.agg [.int .i64 f,.int .i64 r]],[]=>some (true,.bool (vsB f r),[])
 |_,_=>none
theorem uw:CtOk (GGx kCa kDb) PP (132,zl):=by
 refine aD Tryz.func132 (by kernel_rfl) rfl fun a0 h0 c0 v0 N0 e hc=>?_
 unfold zl at e
 split at e
 ·rename_i f r
  cases e
  have hE:=aA (kCa:=kCa) (kDb:=kDb) (cts:=[]) (inl:=[]) trivial trivial
  refine aq hE 2 Tryz.func132 rfl rfl ?_
  repeat (first|refine ah ?_|refine sat_nd ?_)
  exact ag (ai (.inr rfl) rfl rfl rfl (by simp[vsB,Eg,Bool.and_assoc]))
 ·cases e
def nc:CF
 |[.agg [.int .i64 f,.int .i64 r],.int .i64 n],[]=>some (true,.bool (aj f r n),[])
 |_,_=>none
theorem kj:CtOk (GGx kCa kDb) PP (84,nc):=by
 refine aD Tryz.func84 (by kernel_rfl) rfl fun a0 h0 c0 v0 N0 e hc=>?_
 unfold nc at e
 split at e
 ·rename_i f r n
  cases e
  have hE:=aA (kCa:=kCa) (kDb:=kDb) (cts:=[(132,zl)]) (inl:=[]) ⟨uw,trivial⟩ trivial
  refine aq hE 2 Tryz.func84 rfl rfl ?_
  repeat (first|refine ah ?_|refine sat_nd ?_)
  exact ag (ai (.inr rfl) rfl rfl rfl rfl)
 ·cases e
def fY:CF
 |[.agg [.int .i64 f,.int .i64 r],.int .i64 x,.int .i64 y],[]=>some (true,.int .i64 (numR f r x y),[])
 |_,_=>none
theorem eG:CtOk (GGx kCa kDb) PP (86,fY):=by
 refine aD Tryz.func86 (by kernel_rfl) rfl fun a0 h0 c0 v0 N0 e hc=>?_
 unfold fY at e
 split at e
 ·rename_i f r x y
  cases e
  have hE:=aA (kCa:=kCa) (kDb:=kDb) (cts:=[]) (inl:=[]) trivial trivial
  refine aq hE 2 Tryz.func86 rfl rfl ?_
  repeat (first|refine ah ?_|refine sat_nd ?_)
  refine av (fun h1=>?_) (fun h1=>?_)
  ·have h1:numB f r x y=true:=h1
   exact ag (ai (.inr rfl) rfl rfl rfl (by rw[numR,h1];rfl))
  ·have h1:numB f r x y=false:=h1
   exact ag (ai (.inr rfl) rfl rfl rfl (by rw[numR,h1];rfl))
 ·cases e
def dF:CF
 |[.agg [.int .i64 f,.int .i64 _r],.int .i64 n],[]=>some (!decide (f=0),.agg [I (n.tmod f),I (i64.wrap (n.tdiv f))],[])
 |_,_=>none
theorem bZ:CtOk (GGx kCa kDb) PP (39,dF):=by
 refine aD Tryz.func39 (by kernel_rfl) rfl fun a0 h0 c0 v0 N0 e hc=>?_
 unfold dF at e
 split at e
 ·rename_i f r n
  cases e
  have hE:=aA (kCa:=kCa) (kDb:=kDb) (cts:=[]) (inl:=[]) trivial trivial
  refine aq hE 2 Tryz.func39 rfl rfl ?_
  have hc:¬ f=0:=by simpa using hc
  repeat (first|refine ah ?_|refine sat_nd ?_)
  exact ag (ai (.inr rfl) rfl rfl rfl rfl)
 ·cases e
def EA:CF
 |[.int .u64 s,.int .i64 n],[]=>some (true,.bool (hasB s n),[])
 |_,_=>none
theorem sD:CtOk (GGx kCa kDb) PP (53,EA):=by
 refine aD Tryz.func53 (by kernel_rfl) rfl fun a0 h0 c0 v0 N0 e hc=>?_
 unfold EA at e
 split at e
 ·rename_i s n
  cases e
  have hE:=aA (kCa:=kCa) (kDb:=kDb) (cts:=[]) (inl:=[]) trivial trivial
  refine aq hE 2 Tryz.func53 rfl rfl ?_
  repeat (first|refine ah ?_|refine sat_nd ?_)
  exact ag (ai (.inr rfl) rfl rfl rfl rfl)
 ·cases e
def ofL:List Int->Int->Int
 |[],s=>s
 |x::l,s=>ofL l (bif hasB s x then s else u64.wrap (s+ushl 1 x))
theorem Ml{l:List Int}{i:Nat}{x s:Int}(h:l[i]?=some x):ofL (l.drop i) s=ofL (l.drop (i+1)) (bif hasB s x then s else u64.wrap (s+ushl 1 x)):=by
 obtain⟨h1,h2⟩:=List.getElem?_eq_some_iff.1 h
 rw[List.drop_eq_getElem_cons h1,h2,ofL]
def c_Of:CF
 |[.sl 0 0 len none],[.ints false .i64 zs]=>some (decide (len=zs.length)&&decide (zs.length<=1000000)&&zs.all fun x=>decide (0<=x),.int .u64 (ofL zs 0),[])
 |_,_=>none
theorem Df:CtOk (GGx kCa kDb) PP (22,c_Of):=by
 refine aD Tryz.func22 (by kernel_rfl) rfl fun a0 h0 c0 v0 N0 e hc=>?_
 unfold c_Of at e
 split at e
 ·rename_i len zs
  cases e
  have hE:=aA (kCa:=kCa) (kDb:=kDb) (cts:=[(53,EA)]) (inl:=[]) ⟨sD,trivial⟩ trivial
  refine aq hE 2 Tryz.func22 rfl rfl ?_
  simp only[Bool.and_eq_true,decide_eq_true_eq,List.all_eq_true]at hc
  obtain⟨⟨hc1,hc2⟩,hc3⟩:=hc
  subst hc1
  refine kI hE 2 (fun a:Int×Int=>([(0,.sl 0 0 zs.length none),(3,U a.2),(4,I a.1)],[.ints false .i64 zs]))
   (fun a=>∃ k:Nat,k<=zs.length/\a.1=k/\ofL (zs.drop k) a.2=ofL zs 0) (fun a=>zs.length-a.1.toNat) (0,0)
   (Ent.ren [0] [0,3,4] rfl rfl rfl) ⟨0,by omega,rfl,rfl⟩ ?_
  rintro⟨i,set⟩ ⟨k,hk,h1,h2⟩
  dsimp only at h1 h2 ⊢
  refine av (fun hlt=>?_) (fun hlt=>?_)
  ·simp only[decide_eq_true_eq]at hlt
   have hnext:i64.wrap (i+1)=((k+1:Nat):Int):=by rw[aI (by omega) (by omega)];omega
   have hki:i.toNat=k:=by omega
   have hlt':k<zs.length:=by omega
   have hget:zs[k]?=some (zs.getD i.toNat 0):=by simp[hki,List.getD,hlt']
   have hmem:=hc3 _ (List.mem_of_getElem? hget)
   rw[Ml hget]at h2
   refine ae (by simp;omega) ?_
   repeat (first|refine ah ?_|refine sat_nd ?_)
   refine av (fun hon=>?_) (fun hon=>?_)
   ·have hon:(!hasB set (zs.getD i.toNat 0))=true:=hon
    rw[Bool.not_eq_true']at hon
    rw[hon,cond_false]at h2
    repeat (first|(first|refine ah ?_|refine sat_nd ?_)|refine ae (decide_eq_true hmem) ?_)
    refine ag ⟨(i64.wrap (i+1),_),⟨k+1,by omega,hnext,h2⟩,?_,Ent.ren [0] [0,3,4] rfl rfl rfl⟩
    show _-(i64.wrap (i+1)).toNat<_
    rw[hnext];omega
   ·have hon:(!hasB set (zs.getD i.toNat 0))=false:=hon
    rw[Bool.not_eq_false']at hon
    repeat (first|refine ah ?_|refine sat_nd ?_)
    rw[hon,cond_true]at h2
    refine ag ⟨(i64.wrap (i+1),_),⟨k+1,by omega,hnext,h2⟩,?_,Ent.ren [0] [0,3,4] rfl rfl rfl⟩
    show _-(i64.wrap (i+1)).toNat<_
    rw[hnext];omega
  ·simp only[decide_eq_false_iff_not]at hlt
   obtain rfl:k=zs.length:=by omega
   rw[List.drop_length]at h2
   exact ag (ag (ai (.inr rfl) rfl rfl rfl (by rw[<-h2];rfl)))
 ·cases e
end
section
variable{kCa kDb:Bool}
def fS(f r df dr px py:Int):Nat->Int->List Int
 |0,_=>[]
 |m+1,k=>bif decide (numR f r (i64.wrap (px+i64.wrap (k*df))) (i64.wrap (py+i64.wrap (k*dr)))<0) then[]else numR f r (i64.wrap (px+i64.wrap (k*df))) (i64.wrap (py+i64.wrap (k*dr)))::fS f r df dr px py m (i64.wrap (k+1))
def cD(f r n df dr:Int):List Int:=bif !aj f r n||(decide (df=0)&&decide (dr=0)) then[]else fS f r df dr (n.tmod f) (i64.wrap (n.tdiv f)) 8 1
theorem Dk(f r df dr px py:Int)(m:Nat):∀ k,(fS f r df dr px py m k).length<=m:=by
 induction m with
 |zero=>intro k;simp[fS]
 |succ m ih=>
  intro k
  rw[fS]
  cases decide (numR f r (i64.wrap (px+i64.wrap (k*df))) (i64.wrap (py+i64.wrap (k*dr)))<0) with
  |true=>simp
  |false=>have:=ih (i64.wrap (k+1));simp;omega
theorem kY(f r n df dr:Int):(cD f r n df dr).length<=8:=by
 unfold cD
 cases(!aj f r n||(decide (df=0)&&decide (dr=0))) with
 |true=>simp
 |false=>exact Dk ..
def qA:CF
 |[.agg [.int .i64 f,.int .i64 r],.int .i64 n,.int .i64 df,.int .i64 dr],[]=>some (true,.sl 0 0 (cD f r n df dr).length none,[.ints true .i64 (cD f r n df dr)])
 |_,_=>none
theorem wM:CtOk (GGx kCa kDb) PP (182,qA):=by
 refine aD Tryz.func182 (by kernel_rfl) rfl fun a0 h0 c0 v0 N0 e hc=>?_
 unfold qA at e
 split at e
 ·rename_i f r n df dr
  cases e
  have hE:=aA (kCa:=kCa) (kDb:=kDb) (cts:=[(84,nc),(39,dF),(86,fY)]) (inl:=[]) ⟨kj,bZ,eG,trivial⟩ trivial
  refine nI hE 2 Tryz.func182 rfl rfl ?_
  repeat (first|refine ah ?_|refine sat_nd ?_)
  refine av (fun h0=>?_) (fun h0=>?_)
  ·have hz:cD f r n df dr=[]:=by rw[cD,show (!aj f r n||(decide (df=0)&&decide (dr=0)))=true from h0];rfl
   rw[hz]
   exact ag (GM ((Ent.phanT (t:=8) (o:=.ints true .i64 []) rfl ⟨by simp,by simp,trivial,rfl⟩ (aH rfl))) (bV 1 (.inr rfl) rfl rfl rfl rfl rfl rfl))
  have hz:cD f r n df dr=fS f r df dr (n.tmod f) (i64.wrap (n.tdiv f)) 8 1:=by rw[cD,show (!aj f r n||(decide (df=0)&&decide (dr=0)))=false from h0];rfl
  have hv:aj f r n=true:=by cases h:aj f r n<;>simp_all
  have hf:=cZ (bI hv)
  refine ae (by simp;omega) ?_
  refine kI hE 2 (fun a:Int×List Int=>([(2,I df),(3,I dr),(4,.ptr 0 0 0),(9,.ptr 1 0 0),(10,.sl 2 0 a.2.length none),(11,I a.1)],[.cells true [I f,I r],.cells true [I (n.tmod f),I (i64.wrap (n.tdiv f))],.ints true .i64 a.2]))
   (fun a=>∃ k:Nat,1<=k/\k<=9/\a.1=k/\a.2++fS f r df dr (n.tmod f) (i64.wrap (n.tdiv f)) (9-k) k=cD f r n df dr) (fun a=>9-a.1.toNat) (1,[])
   ((Ent.phanT (t:=10) (o:=.ints true .i64 []) rfl ⟨by simp,by simp,trivial,rfl⟩ (aH rfl)).trans (Ent.ren [0,1,2] [2,3,4,9,10,11] rfl rfl rfl)) ⟨1,by omega,by omega,rfl,hz.symm⟩ ?_
  rintro⟨i,zs⟩ ⟨k,hk1,hk,h1,h3⟩
  dsimp only at h1 h3 ⊢
  have hb:zs.length<=8:=by have:=congrArg List.length h3;have:=kY f r n df dr;simp at *;omega
  refine av (fun hlt=>?_) (fun hlt=>?_)
  ·simp only[decide_eq_true_eq]at hlt
   have hnext:i64.wrap (i+1)=((k+1:Nat):Int):=by rw[aI (by omega) (by omega)];omega
   rw[show 9-k=(9-(k+1))+1 by omega,fS,<-h1,hnext]at h3
   repeat (first|refine ah ?_|refine sat_nd ?_)
   refine av (fun hon=>?_) (fun hon=>?_)
   ·have hon:decide (numR f r (i64.wrap (n.tmod f+i64.wrap (i*df))) (i64.wrap (i64.wrap (n.tdiv f)+i64.wrap (i*dr)))<0)=true:=hon
    rw[hon,cond_true,List.append_nil]at h3
    subst h3
    refine ag (ag (Lu (bV 2 (.inr rfl) rfl rfl rfl rfl rfl rfl)))
   ·have hon:decide (numR f r (i64.wrap (n.tmod f+i64.wrap (i*df))) (i64.wrap (i64.wrap (n.tdiv f)+i64.wrap (i*dr)))<0)=false:=hon
    rw[hon,cond_false]at h3
    refine ae (b:=decide (zs.length=zs.length)&&decide ((zs.length+1)*8<=140737488355328)&&true) (by simp;omega) ?_
    refine ag ⟨(i64.wrap (i+1),zs++[numR f r (i64.wrap (n.tmod f+i64.wrap (i*df))) (i64.wrap (i64.wrap (n.tdiv f)+i64.wrap (i*dr)))]),⟨k+1,by omega,by omega,hnext,by rw[<-h3];simp⟩,?_,Ent.ren [0,1,4] [2,3,4,9,10,11] rfl rfl rfl⟩
    show _-(i64.wrap (i+1)).toNat<_
    rw[hnext];omega
  ·simp only[decide_eq_false_iff_not]at hlt
   obtain rfl:k=9:=by omega
   rw[fS,List.append_nil]at h3
   subst h3
   refine ag (ag (Lu (bV 2 (.inr rfl) rfl rfl rfl rfl rfl rfl)))
 ·cases e
end
section
variable{kCa kDb:Bool}
def subS(s:List UInt8)(a b:Int):List UInt8:=(s.drop a.toNat).take (b.toNat-a.toNat)
def FL(f _r n:Int):List UInt8:=subS [97,98,99,100,101,102,103,104] (n.tmod f) (i64.wrap (n.tmod f+1))++subS [49,50,51,52,53,54,55,56] (i64.wrap (n.tdiv f)) (i64.wrap (i64.wrap (n.tdiv f)+1))
theorem Ir{f r n:Int}(h:aj f r n=true):0<=n.tmod f/\n.tmod f<f/\0<=n.tdiv f/\n.tdiv f<r/\i64.wrap (n.tdiv f)=n.tdiv f/\i64.wrap (n.tmod f+1)=n.tmod f+1/\i64.wrap (n.tdiv f+1)=n.tdiv f+1:=by
 have hp:=qV h
 simp only[aU,h,cond_true]at hp
 obtain⟨a1,a2,a3,a4⟩:=cZ (bI h)
 have hv:0<=n:=by simp only[aj,Bool.and_eq_true,decide_eq_true_eq]at h;exact h.1.2
 have e2:n.tdiv f=n/f:=Int.tdiv_eq_ediv_of_nonneg hv
 have e3:i64.wrap (n.tdiv f)=n.tdiv f:=by rw[hp.2.2.2.2.2,e2]
 rw[e3]at hp
 refine⟨hp.1,hp.2.1,hp.2.2.1,hp.2.2.2.1,e3,aI (by omega) (by omega),aI (by omega) (by omega)⟩
def tw:CF
 |[.agg [.int .i64 f,.int .i64 r],.int .i64 n],[]=>some (aj f r n,.str (FL f r n),[])
 |_,_=>none
theorem nj:CtOk (GGx kCa kDb) PP (125,tw):=by
 refine aD Tryz.func125 (by kernel_rfl) rfl fun a0 h0 c0 v0 N0 e hc=>?_
 unfold tw at e
 split at e
 ·rename_i f r n
  cases e
  have hE:=aA (kCa:=kCa) (kDb:=kDb) (cts:=[(39,dF)]) (inl:=[]) ⟨bZ,trivial⟩ trivial
  refine aq hE 2 Tryz.func125 rfl rfl ?_
  obtain⟨a1,a2,a3,a4⟩:=cZ (bI hc)
  obtain⟨b1,b2,b3,b4,b5,b6,b7⟩:=Ir hc
  refine ae (by simp;omega) ?_
  repeat (first|refine ah ?_|refine ae (by first|rfl|(simp[b5,b6,b7];omega)) ?_)
  exact ag (ai (.inr rfl) rfl rfl rfl rfl)
 ·cases e
def mH(f r:Int)(s:List UInt8):Nat->Nat->Int
 |0,_=>-1
 |m+1,k=>bif FL f r k==s then k else mH f r s m (k+1)
def cx(f r:Int)(s:List UInt8):Int:=mH f r s (f*r).toNat 0
def nu:CF
 |[.agg [.int .i64 f,.int .i64 r],.str s],[]=>some (vsB f r,.int .i64 (cx f r s),[])
 |_,_=>none
theorem ku:CtOk (GGx kCa kDb) PP (124,nu):=by
 refine aD Tryz.func124 (by kernel_rfl) rfl fun a0 h0 c0 v0 N0 e hc=>?_
 unfold nu at e
 split at e
 ·rename_i f r s
  cases e
  have hE:=aA (kCa:=kCa) (kDb:=kDb) (cts:=[(125,tw)]) (inl:=[]) ⟨nj,trivial⟩ trivial
  refine aq hE 2 Tryz.func124 rfl rfl ?_
  have hm:=gu hc
  have hw:=eW hc
  refine kI hE 2 (fun a:Int=>([(1,.str s),(2,.ptr 0 0 0),(5,I a)],[.cells true [I f,I r]]))
   (fun a=>∃ k:Nat,k<=(f*r).toNat/\a=k/\mH f r s ((f*r).toNat-k) k=cx f r s) (fun a=>(f*r).toNat-a.toNat) 0
   (Ent.ren [0] [1,2,5] rfl rfl rfl) ⟨0,by omega,rfl,rfl⟩ ?_
  rintro i ⟨k,hk,h1,h3⟩
  dsimp only at h1 h3 ⊢
  refine av (fun hlt=>?_) (fun hlt=>?_)
  ·simp only[decide_eq_true_eq]at hlt
   rw[hw]at hlt
   have hnext:i64.wrap (i+1)=((k+1:Nat):Int):=by rw[aI (by omega) (by omega)];omega
   rw[show (f*r).toNat-k=((f*r).toNat-(k+1))+1 by omega,mH,<-h1]at h3
   refine ae (by simp only[aj,Bool.and_eq_true,decide_eq_true_eq];rw[hw];exact⟨⟨hc,by omega⟩,hlt⟩) ?_
   refine av (fun hon=>?_) (fun hon=>?_)
   ·have hon:(FL f r i==s)=true:=hon
    rw[hon,cond_true]at h3
    refine ag (ag (ai (.inr rfl) rfl rfl rfl (by rw[<-h3])))
   ·have hon:(FL f r i==s)=false:=hon
    rw[hon,cond_false]at h3
    refine ag ⟨i64.wrap (i+1),⟨k+1,by omega,hnext,h3⟩,?_,Ent.ren [0] [1,2,5] rfl rfl rfl⟩
    show _-(i64.wrap (i+1)).toNat<_
    rw[hnext];omega
  ·simp only[decide_eq_false_iff_not]at hlt
   rw[hw]at hlt
   obtain rfl:k=(f*r).toNat:=by omega
   rw[Nat.sub_self,mH]at h3
   refine ag (ag (ai (.inr rfl) rfl rfl rfl (by rw[<-h3])))
 ·cases e
end
end Go.Ab
namespace Go.Ab
open Go.Proofs
end Go.Ab
namespace Go.Ab
open IntKind
open Go.Proofs
theorem vx{f r X Y:Int}(h:vsB f r=true):decide ((atR f r X Y).2=0)=onB f r X Y:=by
 unfold atR
 cases h2:onB f r X Y<;>simp[h]
theorem xI{f r X Y:Int}:numB f r X Y=!onB f r X Y:=by
 rw[Bool.eq_iff_iff]
 simp only[numB,onB,Bool.or_eq_true,decide_eq_true_eq,Bool.not_eq_true',Bool.and_eq_false_iff,decide_eq_false_iff_not]
 omega
theorem tF{f r X Y:Int}(h:vsB f r=true)(h2:onB f r X Y=true):numR f r X Y=(atR f r X Y).1:=by
 simp only[numR,xI,h2,atR,h,Bool.not_true,cond_true,cond_false,Int.add_comm]
theorem rC{f r X Y:Int}(h:vsB f r=true):decide (numR f r X Y<0)=!onB f r X Y:=by
 cases h2:onB f r X Y with
 |false=>simp[numR,xI,h2]
 |true=>
  rw[tF h h2]
  have h3:=vx (X:=X) (Y:=Y) h
  rw[h2]at h3
  have:=lF (of_decide_eq_true h3)
  simp;omega
theorem kB{f r x y:Int}(h1:0<=x)(h2:x<f)(h3:0<=y)(h4:y<r):onB f r x y=true:=by simp[onB, *]
theorem NX{f r df dr px py:Int}(h:vsB f r=true)(hb:-7<=df/\df<=7/\-7<=dr/\dr<=7)(hnz:df≠0\/dr≠0)(hp:onB f r px py=true) :
  ∀ (m k:Nat),m+k=9->1<=k->onB f r (px+((k:Int)-1)*df) (py+((k:Int)-1)*dr)=true->kQ f r df dr (m+1) (px+((k:Int)-1)*df) (py+((k:Int)-1)*dr)=fS f r df dr px py m k:=by
 have hv:=cZ h
 have hp:=rS hp
 intro m
 induction m with
 |zero=>
  intro k hk h1 hon
  obtain rfl:k=9:=by omega
  have:=rS hon
  exfalso
  rcases hnz with e|e<;>omega
 |succ m ih=>
  intro k hk h1 hon
  have hon:=rS hon
  have hX:i64.wrap (px+((k:Int)-1)*df+df)=px+((k:Int)+1-1)*df/\i64.wrap (py+((k:Int)-1)*dr+dr)=py+((k:Int)+1-1)*dr/\i64.wrap (px+i64.wrap (k*df))=px+((k:Int)+1-1)*df/\i64.wrap (py+i64.wrap (k*dr))=py+((k:Int)+1-1)*dr/\i64.wrap ((k:Int)+1)=((k+1:Nat):Int):=by
   have hk8:k=1\/k=2\/k=3\/k=4\/k=5\/k=6\/k=7\/k=8:=by omega
   rcases hk8 with rfl|rfl|rfl|rfl|rfl|rfl|rfl|rfl <;>
   ·refine⟨?_,?_,?_,?_,?_⟩
    ·rw[aI (by omega) (by omega)];omega
    ·rw[aI (by omega) (by omega)];omega
    ·rw[aI (n:=_*df) (by omega) (by omega),aI (by omega) (by omega)];omega
    ·rw[aI (n:=_*dr) (by omega) (by omega),aI (by omega) (by omega)];omega
    ·rw[aI (by omega) (by omega)];omega
  obtain⟨e1,e2,e3,e4,e5⟩:=hX
  rw[kQ,fS,e1,e2,e3,e4,e5,vx h,rC h]
  cases h2:onB f r (px+((k:Int)+1-1)*df) (py+((k:Int)+1-1)*dr) with
  |false=>rfl
  |true=>
   rw[tF h h2]
   have:=ih (k+1) (by omega) (by omega) (by push_cast;exact h2)
   push_cast at this ⊢
   simp only[cond_true,Bool.not_true,cond_false,this]
def inR(df dr:Int):Bool:=decide (-8<=df)&&decide (df<=8)&&decide (-8<=dr)&&decide (dr<=8)
theorem NB{df dr:Int}(h:inR df dr=true)(h2:gD df dr=true):df=8\/df=-8\/dr=8\/dr=-8:=by
 simp only[inR,Bool.and_eq_true,decide_eq_true_eq]at h
 obtain⟨⟨⟨a1,a2⟩,a3⟩,a4⟩:=h
 simp only[gD,Bool.or_eq_true,decide_eq_true_eq]at h2
 rw[aI (n:=0-df) (by omega) (by omega),aI (n:=0-dr) (by omega) (by omega)]at h2
 have m:∀ x y:Int,imax true x y=x\/imax true x y=y:=fun x y=>by
  unfold imax
  by_cases h:x<y<;>simp[h]
 have m1:=m df (0-df)
 have m2:=m (imax true df (0-df)) dr
 have m3:=m (imax true (imax true df (0-df)) dr) (0-dr)
 omega
theorem JF{df dr:Int}(h:inR df dr=false):gD df dr=true:=by
 cases hb:gD df dr with
 |true=>rfl
 |false=>
  have:=Fa hb
  simp[inR]at h
  omega
theorem IQ(f r n df dr:Int):rayL f r n df dr=bif inR df dr then cD f r n df dr else[]:=by
 cases hv:aj f r n with
 |false=>simp[rayL,cD,hv]
 |true=>
  cases hz:(decide (df=0)&&decide (dr=0)) with
  |true=>simp[rayL,cD,hv,hz]
  |false=>
   have hnz:df≠0\/dr≠0:=by
    by_cases e:df=0
    ·right;rintro rfl;simp[e]at hz
    ·exact .inl e
   have hvs:=bI hv
   have hb:=cZ hvs
   have hp:=qV hv
   have hr:cD f r n df dr=fS f r df dr (aU f r n).1 (aU f r n).2.1 8 1:=by simp[cD,hv,hz,aU]
   cases hbig:gD df dr with
   |true=>
    have hl:rayL f r n df dr=[]:=by simp[rayL,hbig]
    rw[hl]
    cases hi:inR df dr with
    |false=>rfl
    |true=>
     have h8:=NB hi hbig
     simp only[inR,Bool.and_eq_true,decide_eq_true_eq]at hi
     obtain⟨⟨⟨a1,a2⟩,a3⟩,a4⟩:=hi
     rw[cond_true,hr,fS,rC hvs]
     have hoff:onB f r (i64.wrap ((aU f r n).1+i64.wrap (1*df))) (i64.wrap ((aU f r n).2.1+i64.wrap (1*dr)))=false:=by
      rw[aI (n:=1*df) (by omega) (by omega),aI (n:=1*dr) (by omega) (by omega),aI (by omega) (by omega),aI (by omega) (by omega)]
      cases ho:onB f r ((aU f r n).1+1*df) ((aU f r n).2.1+1*dr) with
      |false=>rfl
      |true=>have:=rS ho;omega
     rw[hoff];rfl
   |false=>
    have hi:inR df dr=true:=by
     cases hi:inR df dr with
     |true=>rfl
     |false=>rw[JF hi]at hbig;cases hbig
    have hg:=NX (f:=f) (r:=r) (df:=df) (dr:=dr) (px:=(aU f r n).1) (py:=(aU f r n).2.1) hvs (Fa hbig) hnz (kB hp.1 hp.2.1 hp.2.2.1 hp.2.2.2.1) 8 1 rfl (Nat.le_refl _) (by simpa using kB hp.1 hp.2.1 hp.2.2.1 hp.2.2.2.1)
    rw[hi,cond_true,hr]
    simp only[rayL,hv,hz,hbig,Bool.not_false,Bool.and_self,cond_true]
    simpa using hg
section
variable{kCa kDb:Bool}
theorem GU{f:Int}(h:(!decide (f=0))=true):¬ f=0:=by simpa using h
def absI(n:Int):Int:=bif decide (n<0)then i64.wrap (0-n)else n
def AN(f a b:Int):Bool:=decide (a=b)||(!decide (i64.wrap (b.tmod f-a.tmod f)=0)&&!decide (i64.wrap (i64.wrap (b.tdiv f)-i64.wrap (a.tdiv f))=0)&&!decide (i64.wrap (b.tmod f-a.tmod f)=i64.wrap (i64.wrap (b.tdiv f)-i64.wrap (a.tdiv f)))&&!decide (i64.wrap (i64.wrap (b.tmod f-a.tmod f)+i64.wrap (i64.wrap (b.tdiv f)-i64.wrap (a.tdiv f)))=0))
def bw(f a b:Int):Int×Int×Bool:=bif AN f a b then(0,0,false) else(sgn (i64.wrap (b.tmod f-a.tmod f)),sgn (i64.wrap (i64.wrap (b.tdiv f)-i64.wrap (a.tdiv f))),true)
def wk:CF
 |[.int .i64 n],[]=>some (true,.int .i64 (sgn n),[])
 |_,_=>none
theorem Ao:CtOk (GGx kCa kDb) PP (189,wk):=by
 refine aD Tryz.func189 (by kernel_rfl) rfl fun a0 h0 c0 v0 N0 e hc=>?_
 unfold wk at e
 split at e
 ·rename_i n
  cases e
  have hE:=aA (kCa:=kCa) (kDb:=kDb) (cts:=[]) (inl:=[]) trivial trivial
  refine aq hE 2 Tryz.func189 rfl rfl ?_
  repeat' first|(first|refine ah ?_|refine sat_nd ?_)|refine av (fun h=>?_) (fun h=>?_)
  all_goals exact ag (ai (.inr rfl) rfl rfl rfl (by first|rfl|(simp only[sgn, *,cond_true,cond_false];done)|(simp only[sgn, *,cond_true,cond_false,Bool.not_true,Bool.not_false,Bool.and_true,Bool.true_and,Bool.and_false,Bool.false_and,Bool.or_true,Bool.true_or,Bool.or_false,Bool.false_or];done)|simp_all [sgn]))
 ·cases e
def ER:CF
 |[.int .i64 n],[]=>some (true,.int .i64 (absI n),[])
 |_,_=>none
theorem Fh:CtOk (GGx kCa kDb) PP (100,ER):=by
 refine aD Tryz.func100 (by kernel_rfl) rfl fun a0 h0 c0 v0 N0 e hc=>?_
 unfold ER at e
 split at e
 ·rename_i n
  cases e
  have hE:=aA (kCa:=kCa) (kDb:=kDb) (cts:=[]) (inl:=[]) trivial trivial
  refine aq hE 2 Tryz.func100 rfl rfl ?_
  repeat' first|(first|refine ah ?_|refine sat_nd ?_)|refine av (fun h=>?_) (fun h=>?_)
  all_goals exact ag (ai (.inr rfl) rfl rfl rfl (by first|rfl|(simp only[absI, *,cond_true,cond_false];done)|(simp only[absI, *,cond_true,cond_false,Bool.not_true,Bool.not_false,Bool.and_true,Bool.true_and,Bool.and_false,Bool.false_and,Bool.or_true,Bool.true_or,Bool.or_false,Bool.false_or];done)|simp_all [absI]))
 ·cases e
def yc:CF
 |[.agg [.int .i64 f,.int .i64 _r],.int .i64 a,.int .i64 b],[]=>some (!decide (f=0),.tup [I (bw f a b).1,I (bw f a b).2.1,Bb (bw f a b).2.2],[])
 |_,_=>none
theorem tB:CtOk (GGx kCa kDb) PP (180,yc):=by
 refine aD Tryz.func180 (by kernel_rfl) rfl fun a0 h0 c0 v0 N0 e hc=>?_
 unfold yc at e
 split at e
 ·rename_i f r a b
  cases e
  have hE:=aA (kCa:=kCa) (kDb:=kDb) (cts:=[(39,dF),(189,wk)]) (inl:=[]) ⟨bZ,Ao,trivial⟩ trivial
  refine aq hE 2 Tryz.func180 rfl rfl ?_
  have hf:=GU hc
  repeat (first|refine ah ?_|refine sat_nd ?_)
  refine av (fun h=>?_) (fun h=>?_)
  ·have h:AN f a b=true:=h
   exact ag (ai (.inr rfl) rfl rfl rfl (by rw[bw,h];rfl))
  ·have h:AN f a b=false:=h
   repeat (first|refine ah ?_|refine sat_nd ?_)
   exact ag (ai (.inr rfl) rfl rfl rfl (by rw[bw,h];rfl))
 ·cases e
def HN:CF
 |[.bool b],[]=>some (true,.int .i64 (fwd b),[])
 |_,_=>none
theorem ze:CtOk (GGx kCa kDb) PP (179,HN):=by
 refine aD Tryz.func179 (by kernel_rfl) rfl fun a0 h0 c0 v0 N0 e hc=>?_
 unfold HN at e
 split at e
 ·rename_i b
  cases e
  have hE:=aA (kCa:=kCa) (kDb:=kDb) (cts:=[]) (inl:=[]) trivial trivial
  refine aq hE 2 Tryz.func179 rfl rfl ?_
  repeat' first|(first|refine ah ?_|refine sat_nd ?_)|refine av (fun h=>?_) (fun h=>?_)
  all_goals exact ag (ai (.inr rfl) rfl rfl rfl (by first|rfl|(simp only[fwd, *,cond_true,cond_false];done)|(simp only[fwd, *,cond_true,cond_false,Bool.not_true,Bool.not_false,Bool.and_true,Bool.true_and,Bool.and_false,Bool.false_and,Bool.or_true,Bool.true_or,Bool.or_false,Bool.false_or];done)|simp_all [fwd]))
 ·cases e
def secR(r:Int)(bl:Bool):Int:=bif bl then i64.wrap (r-2)else 1
def eA(f a b:Int):Int:=bif decide (absI (i64.wrap (i64.wrap (a.tdiv f)-i64.wrap (b.tdiv f)))<absI (i64.wrap (a.tmod f-b.tmod f)))then absI (i64.wrap (a.tmod f-b.tmod f))else absI (i64.wrap (i64.wrap (a.tdiv f)-i64.wrap (b.tdiv f)))
def idxL(b:Int):List Int->Nat
 |[]=>0
 |x::l=>bif decide (x=b)then 0 else idxL b l+1
def hasL(b:Int):List Int->Bool
 |[]=>false
 |x::l=>decide (x=b)||hasL b l
def ez(f r a b:Int):List Int:=cD f r a (bw f a b).1 (bw f a b).2.1
def bT(f r a b:Int):List Int:=bif hasL b (ez f r a b) then(ez f r a b).take (idxL b (ez f r a b)) else[]
def gl(s:Int):List Int->Bool
 |[]=>true
 |x::l=>bif hasB s x then false else gl s l
theorem HH{s:Int}{l:List Int}{i:Nat}(h:i<l.length):gl s (l.drop i)=bif hasB s (l.getD i 0)then false else gl s (l.drop (i+1)):=by
 rw[List.drop_eq_getElem_cons h,gl];simp[List.getD,h]
theorem vI{b:Int}{l:List Int}{i:Nat}(h:i<l.length):hasL b (l.drop i)=(decide (l.getD i 0=b)||hasL b (l.drop (i+1))):=by
 rw[List.drop_eq_getElem_cons h,hasL];simp[List.getD,h]
theorem KD{b:Int}{l:List Int}{i:Nat}(h:i<l.length):idxL b (l.drop i)=bif decide (l.getD i 0=b)then 0 else idxL b (l.drop (i+1))+1:=by
 rw[List.drop_eq_getElem_cons h,idxL];simp[List.getD,h]
def qH:CF
 |[.agg [.int .i64 _f,.int .i64 r],.bool bl],[]=>some (true,.int .i64 (secR r bl),[])
 |_,_=>none
theorem xo:CtOk (GGx kCa kDb) PP (193,qH):=by
 refine aD Tryz.func193 (by kernel_rfl) rfl fun a0 h0 c0 v0 N0 e hc=>?_
 unfold qH at e
 split at e
 ·rename_i f r bl
  cases e
  have hE:=aA (kCa:=kCa) (kDb:=kDb) (cts:=[]) (inl:=[]) trivial trivial
  refine aq hE 2 Tryz.func193 rfl rfl ?_
  repeat' first|(first|refine ah ?_|refine sat_nd ?_)|refine av (fun h=>?_) (fun h=>?_)
  all_goals exact ag (ai (.inr rfl) rfl rfl rfl (by first|rfl|(simp only[secR, *,cond_true,cond_false];done)|(simp only[secR, *,cond_true,cond_false,Bool.not_true,Bool.not_false,Bool.and_true,Bool.true_and,Bool.and_false,Bool.false_and,Bool.or_true,Bool.true_or,Bool.or_false,Bool.false_or];done)|simp_all [secR]))
 ·cases e
def yS:CF
 |[.agg [.int .i64 f,.int .i64 _r],.int .i64 a,.int .i64 b],[]=>some (!decide (f=0),.int .i64 (eA f a b),[])
 |_,_=>none
theorem uG:CtOk (GGx kCa kDb) PP (55,yS):=by
 refine aD Tryz.func55 (by kernel_rfl) rfl fun a0 h0 c0 v0 N0 e hc=>?_
 unfold yS at e
 split at e
 ·rename_i f r a b
  cases e
  have hE:=aA (kCa:=kCa) (kDb:=kDb) (cts:=[(39,dF),(100,ER)]) (inl:=[]) ⟨bZ,Fh,trivial⟩ trivial
  refine aq hE 2 Tryz.func55 rfl rfl ?_
  have hf:=GU hc
  repeat (first|refine ah ?_|refine sat_nd ?_)
  refine av (fun h=>?_) (fun h=>?_)
  all_goals
   repeat (first|refine ah ?_|refine sat_nd ?_)
   exact ag (ai (.inr rfl) rfl rfl rfl (by simp only[eA, *,cond_true,cond_false]))
 ·cases e
def CY:CF
 |[.sl 0 0 len none,.int .u64 s],[.ints false .i64 zs]=>some (decide (len=zs.length)&&decide (zs.length<=1000000),.bool (gl s zs),[])
 |_,_=>none
theorem CR:CtOk (GGx kCa kDb) PP (181,CY):=by
 refine aD Tryz.func181 (by kernel_rfl) rfl fun a0 h0 c0 v0 N0 e hc=>?_
 unfold CY at e
 split at e
 ·rename_i len s zs
  cases e
  have hE:=aA (kCa:=kCa) (kDb:=kDb) (cts:=[(53,EA)]) (inl:=[]) ⟨sD,trivial⟩ trivial
  refine aq hE 2 Tryz.func181 rfl rfl ?_
  simp only[Bool.and_eq_true,decide_eq_true_eq]at hc
  obtain⟨rfl,hc2⟩:=hc
  refine cC hE 2 (fun i (_:Unit)=>([(0,.sl 0 0 zs.length none),(1,U s),(5,I i)],[.ints false .i64 zs])) zs.length (fun j _=>gl s (zs.drop j)=gl s zs) () (by omega) (Ent.ren [0] [0,1,5] rfl rfl rfl) rfl ?_
  intro j i _ hij hj hz
  refine av (fun hlt=>?_) (fun hlt=>?_)
  ·have hlt':j<zs.length:=by simp at hlt;omega
   rw[HH hlt',show j=i.toNat by omega]at hz
   refine ae (by simp;omega) ?_
   repeat (first|refine ah ?_|refine sat_nd ?_)
   refine av (fun hon=>?_) (fun hon=>?_)
   ·have hon:hasB s (zs.getD i.toNat 0)=true:=hon
    rw[hon]at hz
    exact ag (ag (ai (.inr rfl) rfl rfl rfl (by rw[<-hz];rfl)))
   ·have hon:hasB s (zs.getD i.toNat 0)=false:=hon
    rw[hon]at hz
    exact ag ⟨hlt',(),by rw[<-hz,show i.toNat=j by omega];rfl,Ent.ren [0] [0,1,5] rfl rfl rfl⟩
  ·obtain rfl:j=zs.length:=by simp at hlt;omega
   rw[List.drop_length]at hz
   exact ag (ag (ai (.inr rfl) rfl rfl rfl (by rw[<-hz];rfl)))
 ·cases e
end
section
variable{kCa kDb:Bool}
theorem Lw(b:Int)(l:List Int):idxL b l<=l.length:=by
 induction l with
 |nil=>simp[idxL]
 |cons x l ih=>rw[idxL];cases decide (x=b)<;>simp<;>omega
theorem nM(f r a b:Int):(bT f r a b).length=bif hasL b (ez f r a b)then idxL b (ez f r a b)else 0:=by
 unfold bT
 have:=Lw b (ez f r a b)
 cases hasL b (ez f r a b)<;>simp;omega
def gp(f r a b:Int):List Int:=bif hasL b (ez f r a b)then ez f r a b else[]
theorem cw(f r a b:Int):((gp f r a b).drop 0).take (bT f r a b).length=bT f r a b:=by
 rw[nM]
 unfold gp bT
 cases hasL b (ez f r a b)<;>simp
theorem BO(f r a b:Int):(gp f r a b).length<=8:=by
 unfold gp ez
 cases hasL b _<;>simp[kY]
theorem pS(f r a b:Int):(bT f r a b).length<=8:=by
 rw[<-cw,List.length_take]
 have:=BO f r a b
 simp;omega
def jt:CF
 |[.agg [.int .i64 f,.int .i64 r],.int .i64 a,.int .i64 b],[]=>some (!decide (f=0),.sl 0 0 (bT f r a b).length none,[.ints true .i64 (gp f r a b)])
 |_,_=>none
theorem lC:CtOk (GGx kCa kDb) PP (164,jt):=by
 refine aD Tryz.func164 (by kernel_rfl) rfl fun a0 h0 c0 v0 N0 e hc=>?_
 unfold jt at e
 split at e
 ·rename_i f r a b
  cases e
  have hE:=aA (kCa:=kCa) (kDb:=kDb) (cts:=[(180,yc),(182,qA)]) (inl:=[]) ⟨tB,wM,trivial⟩ trivial
  refine nI hE 2 Tryz.func164 rfl rfl ?_
  have hf:=GU hc
  repeat (first|refine ah ?_|refine sat_nd ?_)
  obtain⟨zs,hzs⟩:∃ zs,cD f r a (bw f a b).1 (bw f a b).2.1=zs:=⟨_,rfl⟩
  have hlen:=kY f r a (bw f a b).1 (bw f a b).2.1
  rw[hzs]at hlen ⊢
  have hZ:ez f r a b=zs:=hzs
  refine cC hE 2 (fun i (_:Unit)=>([(2,I b),(6,.nils),(10,.sl 1 0 zs.length none),(11,I i)],[.cells true [I f,I r],.ints true .i64 zs])) zs.length (fun j _=>hasL b (zs.drop j)=hasL b zs/\(hasL b zs=true->idxL b (zs.drop j)+j=idxL b zs)) () (by omega) (Ent.ren [0,1] [2,6,10,11] rfl rfl rfl) ⟨rfl,fun _=>rfl⟩ ?_
  intro j i _ hij hj hz
  obtain⟨hz1,hz2⟩:=hz
  refine av (fun hlt=>?_) (fun hlt=>?_)
  ·have hlt':j<zs.length:=by simp at hlt;omega
   rw[vI hlt',show j=i.toNat by omega]at hz1
   rw[KD hlt',show j=i.toNat by omega]at hz2
   refine ae (by simp;omega) ?_
   repeat (first|refine ah ?_|refine sat_nd ?_)
   refine av (fun hon=>?_) (fun hon=>?_)
   ·have hon:decide (zs.getD i.toNat 0=b)=true:=hon
    rw[hon]at hz1 hz2
    have hx:hasL b zs=true:=hz1.symm
    have hy:i.toNat=idxL b zs:=by have:=hz2 hx;simpa using this
    refine ae (by simp;omega) ?_
    refine ag (ag (Lu (bV 1 (.inr rfl) rfl rfl rfl rfl (by simp only[gp,hZ,hx,cond_true];rfl) (by rw[nM,hZ,hx,cond_true,<-hy];rfl))))
   ·have hon:decide (zs.getD i.toNat 0=b)=false:=hon
    rw[hon,Bool.false_or]at hz1
    rw[hon,cond_false]at hz2
    exact ag ⟨hlt',(),⟨by rw[<-hz1,show i.toNat=j by omega],fun h=>by have:=hz2 h;rw[show i.toNat=j by omega]at this;omega⟩,Ent.ren [0,1] [2,6,10,11] rfl rfl rfl⟩
  ·obtain rfl:j=zs.length:=by simp at hlt;omega
   rw[List.drop_length]at hz1
   have hx:hasL b zs=false:=hz1.symm
   refine ag (ag ?_)
   refine GM ((Ent.phanT (t:=6) (o:=.ints true .i64 []) rfl ⟨by simp,by simp,trivial,rfl⟩ (aH rfl))) (bV 2 (.inr rfl) rfl rfl rfl rfl (by simp only[gp,hZ,hx,cond_false];rfl) (by rw[nM,hZ,hx];rfl))
 ·cases e
def bJ(f r kd a b occ:Int):Bool:=
 bif decide (kd=2)then decide (i64.wrap (i64.wrap (i64.wrap (b.tmod f-a.tmod f)*i64.wrap (b.tmod f-a.tmod f))+i64.wrap (i64.wrap (i64.wrap (b.tdiv f)-i64.wrap (a.tdiv f))*i64.wrap (i64.wrap (b.tdiv f)-i64.wrap (a.tdiv f))))=5)
 else bif decide (kd=6)then decide (eA f a b=1)
 else(bw f a b).2.2&&(decide (kd=5)||((decide (i64.wrap (b.tmod f-a.tmod f)=0)||decide (i64.wrap (i64.wrap (b.tdiv f)-i64.wrap (a.tdiv f))=0))==decide (kd=4)))&&gl occ (bT f r a b)
def jR:CF
 |[.agg [.int .i64 f,.int .i64 r],.int .i8 kd,.int .i64 a,.int .i64 b,.int .u64 occ],[]=>some (!decide (f=0),.bool (bJ f r kd a b occ),[])
 |_,_=>none
theorem lH:CtOk (GGx kCa kDb) PP (162,jR):=by
 refine aD Tryz.func162 (by kernel_rfl) rfl fun a0 h0 c0 v0 N0 e hc=>?_
 unfold jR at e
 split at e
 ·rename_i f r kd a b occ
  cases e
  have hE:=aA (kCa:=kCa) (kDb:=kDb) (cts:=[(39,dF),(55,yS),(180,yc),(164,jt),(181,CY)]) (inl:=[]) ⟨bZ,uG,tB,lC,CR,trivial⟩ trivial
  refine aq hE 2 Tryz.func162 rfl rfl ?_
  have hf:=GU hc
  repeat (first|refine ah ?_|refine sat_nd ?_)
  refine av (fun h1=>?_) (fun h1=>?_)
  ·repeat (first|refine ah ?_|refine sat_nd ?_)
   exact ag (ai (.inr rfl) rfl rfl rfl (by rw[bJ,h1];rfl))
  refine av (fun h2=>?_) (fun h2=>?_)
  ·repeat (first|refine ah ?_|refine sat_nd ?_)
   exact ag (ai (.inr rfl) rfl rfl rfl (by rw[bJ,h1,h2];rfl))
  have ht:=cw f r a b
  have hl:=pS f r a b
  repeat (first|refine ah ?_|refine sat_nd ?_)
  refine av (fun h3=>?_) (fun h3=>?_)
  ·repeat (first|refine ah ?_|refine sat_nd ?_)
   refine ae (by rw[ht];simp;omega) ?_
   repeat (first|refine ah ?_|refine sat_nd ?_)
   exact ag (ai (.inr rfl) rfl rfl rfl (by
    show V.bool (gl occ (((gp f r a b).drop 0).take (bT f r a b).length))=_
    rw[ht,bJ,h1,h2,cond_false,cond_false,h3];rfl))
  ·repeat (first|refine ah ?_|refine sat_nd ?_)
   exact ag (ai (.inr rfl) rfl rfl rfl (by rw[bJ,h1,h2,cond_false,cond_false,h3];rfl))
 ·cases e
end
abbrev px(f n:Int):Int:=n.tmod f
abbrev py(f n:Int):Int:=n.tdiv f
theorem eX{f r n:Int}(h:aj f r n=true):0<=px f n/\px f n<f/\0<=py f n/\py f n<r/\i64.wrap (py f n)=py f n/\3<=f/\f<=8/\3<=r/\r<=8:=by
 obtain⟨b1,b2,b3,b4,b5,_,_⟩:=Ir h
 have:=cZ (bI h)
 exact⟨b1,b2,b3,b4,b5,this.1,this.2.1,this.2.2.1,this.2.2.2⟩
theorem AY{f r n:Int}(_h:aj f r n=true):px f n+py f n*f=n:=by
 have:=Int.tmod_add_mul_tdiv n f
 rw[Int.mul_comm]at this
 exact this
theorem xl{f X Y x y:Int}(hf:0<f)(h1:0<=X)(h2:X<f)(h3:0<=x)(h4:x<f)(h:X+Y*f=x+y*f):X=x/\Y=y:=by
 have e:(Y-y)*f=x-X:=by rw[Int.sub_mul];omega
 have hz:Y-y=0:=by
  rcases Int.lt_trichotomy (Y-y) 0 with h|h|h
  ·have:(Y-y)*f<=-1*f:=Int.mul_le_mul_of_nonneg_right (by omega) (by omega)
   omega
  ·exact h
  ·have:1*f<=(Y-y)*f:=Int.mul_le_mul_of_nonneg_right (by omega) (by omega)
   omega
 rw[hz,Int.zero_mul]at e
 omega
theorem kT{f r X Y b:Int}(hv:vsB f r=true)(ho:onB f r X Y=true)(hb:aj f r b=true):numR f r X Y=b↔px f b=X/\py f b=Y:=by
 have h:=vx (X:=X) (Y:=Y) hv
 rw[ho]at h
 have hp:=lF (of_decide_eq_true h)
 have hx:=rS ho
 have hq:=eX hb
 rw[tF hv ho,hp.2.2.2.2]
 constructor
 ·intro e
  rw[<-AY hb]at e
  have:=xl (by omega) hx.1 hx.2.1 hq.1 hq.2.1 e
  exact⟨this.1.symm,this.2.symm⟩
 ·rintro⟨rfl,rfl⟩;exact AY hb
theorem nV{f r a b:Int}(ha:aj f r a=true)(hb:aj f r b=true):a=b↔px f a=px f b/\py f a=py f b:=by
 constructor
 ·rintro rfl;exact⟨rfl,rfl⟩
 ·rintro⟨h1,h2⟩;rw[<-AY ha,<-AY hb,h1,h2]
def unit(df dr:Int):Prop:=-1<=df/\df<=1/\-1<=dr/\dr<=1/\(df≠0\/dr≠0)
theorem dS{df dr:Int}(h:unit df dr):(df=1/\dr=0)\/(df=0/\dr=1)\/(df=-1/\dr=0)\/(df=0/\dr=-1)\/(df=1/\dr=1)\/(df=-1/\dr=1)\/(df=-1/\dr=-1)\/(df=1/\dr=-1):=by
 obtain⟨h1,h2,h3,h4,h5⟩:=h
 omega
theorem Mk{df dr x y:Int}(hu:unit df dr)(hx:0<=x/\x<=7)(hy:0<=y/\y<=7){k:Nat}(hk:k<=9):i64.wrap (x+i64.wrap (k*df))=x+k*df/\i64.wrap (y+i64.wrap (k*dr))=y+k*dr/\i64.wrap ((k:Int)+1)=((k+1:Nat):Int):=by
 rcases dS hu with⟨rfl,rfl⟩|⟨rfl,rfl⟩|⟨rfl,rfl⟩|⟨rfl,rfl⟩|⟨rfl,rfl⟩|⟨rfl,rfl⟩|⟨rfl,rfl⟩|⟨rfl,rfl⟩ <;>
 ·refine⟨?_,?_,?_⟩
  ·rw[aI (n:=(k:Int)*_) (by omega) (by omega),aI (by omega) (by omega)]
  ·rw[aI (n:=(k:Int)*_) (by omega) (by omega),aI (by omega) (by omega)]
  ·rw[aI (by omega) (by omega)];omega
theorem MN{f r df dr x y b:Int}(hv:vsB f r=true)(hu:unit df dr)(ho:onB f r x y=true)(hb:aj f r b=true):∀ (m k:Nat),m+k=9->1<=k ->
  (hasL b (fS f r df dr x y m k)=true↔∃ i:Nat,k<=i/\i<=8/\px f b=x+i*df/\py f b=y+i*dr):=by
 have hx:=rS ho
 have hq:=eX hb
 intro m
 induction m with
 |zero=>intro k hk h1;simp only[fS,hasL];exact⟨fun h=>(by cases h),fun⟨i,h2,h3,_⟩=>by omega⟩
 |succ m ih=>
  intro k hk h1
  obtain⟨e1,e2,e3⟩:=Mk (x:=x) (y:=y) hu ⟨by omega,by omega⟩ ⟨by omega,by omega⟩ (k:=k) (by omega)
  rw[fS,e1,e2,e3,rC hv]
  cases h2:onB f r (x+(k:Int)*df) (y+(k:Int)*dr) with
  |false=>
   simp only[Bool.not_false,cond_true,hasL]
   refine⟨fun h=>(by cases h),fun⟨i,h3,h4,h5,h6⟩=>?_⟩
   have:onB f r (x+(k:Int)*df) (y+(k:Int)*dr)=true:=by
    rcases dS hu with⟨rfl,rfl⟩|⟨rfl,rfl⟩|⟨rfl,rfl⟩|⟨rfl,rfl⟩|⟨rfl,rfl⟩|⟨rfl,rfl⟩|⟨rfl,rfl⟩|⟨rfl,rfl⟩<;>exact kB (by omega) (by omega) (by omega) (by omega)
   rw[h2]at this;cases this
  |true=>
   simp only[Bool.not_true,cond_false,hasL,Bool.or_eq_true,decide_eq_true_eq]
   rw[kT hv h2 hb,ih (k+1) (by omega) (by omega)]
   constructor
   ·rintro(⟨h3,h4⟩|⟨i,h3,h4,h5⟩)
    ·exact⟨k,Nat.le_refl _,by omega,h3,h4⟩
    ·exact⟨i,by omega,h4,h5⟩
   ·rintro⟨i,h3,h4,h5,h6⟩
    rcases Nat.lt_or_ge k i with h|h
    ·exact .inr ⟨i,h,h4,h5,h6⟩
    ·obtain rfl:i=k:=by omega
     exact .inl ⟨h5,h6⟩
theorem JI{df dr:Int}(hu:unit df dr):(decide (df=0)&&decide (dr=0))=false:=by
 obtain⟨_,_,_,_,h⟩:=hu
 simp only[Bool.and_eq_false_iff,decide_eq_false_iff_not];exact h
theorem Mc{f r a df dr:Int}(ha:aj f r a=true)(hu:unit df dr):cD f r a df dr=fS f r df dr (px f a) (py f a) 8 ((1:Nat):Int):=by
 have hp:=eX ha
 simp[cD,ha,JI hu,hp.2.2.2.2.1]
theorem DI{f r a b df dr:Int}(ha:aj f r a=true)(hb:aj f r b=true)(hu:unit df dr) :
  hasL b (cD f r a df dr)=true↔∃ i:Nat,1<=i/\i<=8/\px f b=px f a+i*df/\py f b=py f a+i*dr:=by
 have hp:=eX ha
 rw[Mc ha hu]
 exact MN (bI ha) hu (kB hp.1 hp.2.1 hp.2.2.1 hp.2.2.2.1) hb 8 1 rfl (Nat.le_refl _)
theorem ji(n:Int):(n<0/\sgn n=-1)\/(n=0/\sgn n=0)\/(0<n/\sgn n=1):=by
 unfold sgn
 rcases Int.lt_trichotomy n 0 with h|h|h
 ·left;simp[h]
 ·right;left;simp[h]
 ·right;right
  have:¬ n<0:=by omega
  simp[h,this]
theorem iE{f r a b:Int}(ha:aj f r a=true)(hb:aj f r b=true):i64.wrap (b.tmod f-a.tmod f)=px f b-px f a/\i64.wrap (i64.wrap (b.tdiv f)-i64.wrap (a.tdiv f))=py f b-py f a:=by
 have hp:=eX ha
 have hq:=eX hb
 show i64.wrap (px f b-px f a)=_/\i64.wrap (i64.wrap (py f b)-i64.wrap (py f a))=_
 rw[hp.2.2.2.2.1,hq.2.2.2.2.1]
 exact⟨aI (by omega) (by omega),aI (by omega) (by omega)⟩
def lM(x y:Int):Prop:=(x≠0\/y≠0)/\(x=0\/y=0\/x=y\/x=-y)
theorem GX{f r a b:Int}(ha:aj f r a=true)(hb:aj f r b=true):AN f a b=false↔lM (px f b-px f a) (py f b-py f a):=by
 have hp:=eX ha
 have hq:=eX hb
 obtain⟨e1,e2⟩:=iE ha hb
 unfold AN
 rw[e1,e2,aI (by omega) (by omega)]
 simp only[Bool.or_eq_false_iff,Bool.and_eq_false_iff,decide_eq_false_iff_not,Bool.not_eq_false',decide_eq_true_eq]
 rw[nV ha hb]
 unfold lM
 omega
theorem tx{f r a b:Int}(ha:aj f r a=true)(hb:aj f r b=true):(bw f a b=(0,0,false)/\¬ lM (px f b-px f a) (py f b-py f a))\/(bw f a b=(sgn (px f b-px f a),sgn (py f b-py f a),true)/\lM (px f b-px f a) (py f b-py f a)):=by
 obtain⟨e1,e2⟩:=iE ha hb
 have h:=GX ha hb
 unfold bw
 rw[e1,e2]
 cases hl:AN f a b with
 |true=>left;rw[hl]at h;exact⟨rfl,fun h2=>by have:=h.2 h2;cases this⟩
 |false=>right;exact⟨rfl,h.1 hl⟩
theorem zm{x y:Int}(h:lM x y):unit (sgn x) (sgn y):=by
 obtain⟨h1,_⟩:=h
 unfold unit
 have:=ji x
 have:=ji y
 omega
theorem si{f r a b:Int}(ha:aj f r a=true)(hb:aj f r b=true)(h:(bw f a b).2.2=true):unit (bw f a b).1 (bw f a b).2.1/\hasL b (ez f r a b)=true:=by
 have hp:=eX ha
 have hq:=eX hb
 rcases tx ha hb with⟨e,_⟩|⟨e,h2⟩
 ·rw[e]at h;cases h
 ·rw[e]
  refine⟨zm h2,?_⟩
  unfold ez
  rw[e]
  rw[DI ha hb (zm h2)]
  obtain⟨h3,h4⟩:=h2
  have s1:=ji (px f b-px f a)
  have s2:=ji (py f b-py f a)
  rcases s1 with⟨g1,s1⟩|⟨g1,s1⟩|⟨g1,s1⟩<;>rcases s2 with⟨g2,s2⟩|⟨g2,s2⟩|⟨g2,s2⟩<;>simp only[s1,s2] <;>
  first
   |(exfalso;omega)
   |exact⟨(px f b-px f a).natAbs,by omega,by omega,by omega,by omega⟩
   |exact⟨(py f b-py f a).natAbs,by omega,by omega,by omega,by omega⟩
theorem Ie{f r a b df dr:Int}(ha:aj f r a=true)(hb:aj f r b=true)(hu:unit df dr)(h:hasL b (cD f r a df dr)=true):bw f a b=(df,dr,true):=by
 have hp:=eX ha
 have hq:=eX hb
 obtain⟨i,h1,h2,h3,h4⟩:=(DI ha hb hu).1 h
 have s1:=ji (px f b-px f a)
 have s2:=ji (py f b-py f a)
 rcases tx ha hb with⟨e,h5⟩|⟨e,_⟩
 ·exfalso
  apply h5
  unfold lM
  rcases dS hu with⟨rfl,rfl⟩|⟨rfl,rfl⟩|⟨rfl,rfl⟩|⟨rfl,rfl⟩|⟨rfl,rfl⟩|⟨rfl,rfl⟩|⟨rfl,rfl⟩|⟨rfl,rfl⟩<;>omega
 ·rw[e]
  have e1:sgn (px f b-px f a)=df:=by rcases dS hu with⟨rfl,rfl⟩|⟨rfl,rfl⟩|⟨rfl,rfl⟩|⟨rfl,rfl⟩|⟨rfl,rfl⟩|⟨rfl,rfl⟩|⟨rfl,rfl⟩|⟨rfl,rfl⟩<;>omega
  have e2:sgn (py f b-py f a)=dr:=by rcases dS hu with⟨rfl,rfl⟩|⟨rfl,rfl⟩|⟨rfl,rfl⟩|⟨rfl,rfl⟩|⟨rfl,rfl⟩|⟨rfl,rfl⟩|⟨rfl,rfl⟩|⟨rfl,rfl⟩<;>omega
  rw[e1,e2]
theorem hU{f r X Y:Int}(hv:vsB f r=true)(ho:onB f r X Y=true):aj f r (X+Y*f)=true/\px f (X+Y*f)=X/\py f (X+Y*f)=Y:=by
 have hb:=cZ hv
 have hx:=rS ho
 have hm:=gu hv
 have e1:0<=Y*f:=Int.mul_nonneg hx.2.2.1 (by omega)
 have e2:(Y+1)*f<=r*f:=Int.mul_le_mul_of_nonneg_right (by omega) (by omega)
 rw[Int.add_mul,Int.mul_comm r f]at e2
 have hval:aj f r (X+Y*f)=true:=by
  simp only[aj,Bool.and_eq_true,decide_eq_true_eq]
  rw[eW hv]
  exact⟨⟨hv,by omega⟩,by omega⟩
 have hq:=eX hval
 have:=xl (f:=f) (by omega) hx.1 hx.2.1 hq.1 hq.2.1 (AY hval).symm
 exact⟨hval,this.1.symm,this.2.symm⟩
theorem aS{f r n:Int}(h:aj f r n=true):0<=n/\n<f*r/\n<64:=by
 have hm:=gu (bI h)
 simp only[aj,Bool.and_eq_true,decide_eq_true_eq]at h
 rw[eW h.1.1]at h
 exact⟨h.1.2,h.2,by omega⟩
theorem qL{f r n:Int}(hv:vsB f r=true)(h1:0<=n)(h2:n<f*r):aj f r n=true:=by
 simp only[aj,Bool.and_eq_true,decide_eq_true_eq]
 rw[eW hv]
 exact⟨⟨hv,h1⟩,h2⟩
theorem Ip{s n:Int}(hs:Uk s):hasB s n=(decide (0<=n)&&decide (n<64)&&bt s n.toNat):=by
 unfold hasB
 by_cases h1:0<=n
 ·by_cases h2:n<64
  ·simp only[h1,h2,decide_true,Bool.true_and]
   rw[Fg hs h1 h2]
   unfold bt
   have:(((s.toNat >>> n.toNat:Nat):Int).tmod 2)=((s.toNat >>> n.toNat%2:Nat):Int):=by
    rw[Int.tmod_eq_emod_of_nonneg (Int.natCast_nonneg _)];norm_cast
   rw[this]
   have h3:s.toNat.testBit n.toNat=(s.toNat >>> n.toNat).testBit 0:=by rw[Nat.testBit_shiftRight,Nat.add_zero]
   rw[h3,Nat.testBit_zero]
   congr 1
   exact propext ⟨fun h=>by omega,fun h=>by omega⟩
  ·simp[h2]
 ·simp[h1]
theorem nX{f r s n:Int}(hs:Uk s)(hn:aj f r n=true):hasB s n=bt s n.toNat:=by
 have:=aS hn
 rw[Ip hs];simp[this.1,this.2.2]
theorem eo{f r a df dr x:Int}(ha:aj f r a=true)(h:x∈cD f r a df dr):aj f r x=true:=by
 have hv:=bI ha
 have key:∀ (m:Nat) (k:Int),x∈fS f r df dr (a.tmod f) (i64.wrap (a.tdiv f)) m k->aj f r x=true:=by
  intro m
  induction m with
  |zero=>intro k h;simp[fS]at h
  |succ m ih=>
   intro k h
   rw[fS,rC hv]at h
   cases h2:onB f r (i64.wrap (a.tmod f+i64.wrap (k*df))) (i64.wrap (i64.wrap (a.tdiv f)+i64.wrap (k*dr))) with
   |false=>rw[h2]at h;simp at h
   |true=>
    rw[h2]at h
    simp only[Bool.not_true,cond_false,List.mem_cons]at h
    rcases h with rfl|h
    ·have h3:=vx (X:=i64.wrap (a.tmod f+i64.wrap (k*df))) (Y:=i64.wrap (i64.wrap (a.tdiv f)+i64.wrap (k*dr))) hv
     rw[h2]at h3
     have hp:=lF (of_decide_eq_true h3)
     rw[tF hv h2,hp.2.2.2.2]
     exact(hU hv h2).1
    ·exact ih _ h
 unfold cD at h
 cases hc:(!aj f r a||(decide (df=0)&&decide (dr=0))) with
 |true=>rw[hc]at h;simp at h
 |false=>rw[hc,cond_false]at h;exact key _ _ h
def OnS(f r s:Int):Prop:=∀ m,m<64->bt s m=true->aj f r m=true
theorem xD{α:Type}(step:Int->α->Int)(p:α->Nat->Bool):∀ (rs:List α) (s:Int),(∀ s row,row∈rs->Uk s->Uk (step s row)/\∀ m,bt (step s row) m=(bt s m||p row m))->Uk s->Uk (rs.foldl step s)/\∀ m,bt (rs.foldl step s) m=(bt s m||rs.any (p · m))
 |[],s,_,hs=>⟨hs,fun m=>by simp⟩
 |row::rs,s,h,hs=>by
  obtain⟨h1,h2⟩:=h s row (by simp) hs
  obtain⟨h3,h4⟩:=xD step p rs (step s row) (fun s r hr=>h s r (by simp[hr])) h1
  refine⟨h3,fun m=>?_⟩
  rw[List.foldl_cons,h4,h2,List.any_cons,Bool.or_assoc]
def lQ(f r a:Int)(row:List Int)(m:Nat):Bool:=aj f r m&&decide (px f m-px f a=row.getD 0 0)&&decide (py f m-py f a=row.getD 1 0)
theorem mK{f r a:Int}(ha:aj f r a=true)(rs:List (List Int))(hrs:∀ row∈rs,-8<=row.getD 0 0/\row.getD 0 0<=8/\-8<=row.getD 1 0/\row.getD 1 0<=8):Uk (cy f r a rs)/\∀ m,bt (cy f r a rs) m=rs.any (lQ f r a · m):=by
 have hv:=bI ha
 have hp:=eX ha
 have hpl:(aU f r a).1=px f a/\(aU f r a).2.1=py f a:=by simp only[aU,ha,cond_true];exact⟨by first|rfl|trivial,hp.2.2.2.2.1⟩
 have h:=xD (ga f r (aU f r a).1 (aU f r a).2.1) (lQ f r a) rs 0 ?_ uk_0
 ·refine⟨h.1,fun m=>?_⟩
  unfold cy
  rw[h.2,bt_0,Bool.false_or]
 ·intro s row hrow hs
  have hb:=hrs row hrow
  unfold ga sR
  rw[hpl.1,hpl.2,aI (n:=px f a+_) (by omega) (by omega),aI (n:=py f a+_) (by omega) (by omega),vx hv]
  cases ho:onB f r (px f a+row.getD 0 0) (py f a+row.getD 1 0) with
  |false=>
   refine⟨hs,fun m=>?_⟩
   rw[cond_false]
   have:lQ f r a row m=false:=by
    cases hl:lQ f r a row m with
    |false=>rfl
    |true=>
     simp only[lQ,Bool.and_eq_true,decide_eq_true_eq]at hl
     have hq:=eX hl.1.1
     have:onB f r (px f a+row.getD 0 0) (py f a+row.getD 1 0)=true:=kB (by omega) (by omega) (by omega) (by omega)
     rw[ho]at this;cases this
   rw[this,Bool.or_false]
  |true=>
   rw[cond_true]
   have h3:=vx (X:=px f a+row.getD 0 0) (Y:=py f a+row.getD 1 0) hv
   rw[ho]at h3
   have hq:=lF (of_decide_eq_true h3)
   obtain⟨v1,v2,v3⟩:=hU hv ho
   rw[<-hq.2.2.2.2]at v1 v2 v3
   generalize (atR f r (px f a+row.getD 0 0) (py f a+row.getD 1 0)).1=x at *
   refine⟨gA _ _,fun m=>?_⟩
   rw[eY hs (gJ _ _),gZ hq.1 hq.2.1]
   congr 1
   unfold lQ
   by_cases e:x=(m:Int)
   ·subst e
    simp only[v1,decide_true,Bool.true_and]
    rw[v2,v3];simp;omega
   ·simp only[e,decide_false]
    symm
    cases hl:(aj f r m&&decide (px f m-px f a=row.getD 0 0)&&decide (py f m-py f a=row.getD 1 0)) with
    |false=>rfl
    |true=>
     simp only[Bool.and_eq_true,decide_eq_true_eq]at hl
     exact absurd ((nV v1 hl.1.1).2 ⟨by omega,by omega⟩) e
def hitB(occ:Int)(m:Int):List Int->Bool
 |[]=>false
 |x::l=>decide (x=m)||(!bt occ x.toNat&&hitB occ m l)
theorem pT{occ:Int}(ho:Uk occ):∀ (L:List Int) (s:Int),(∀ x∈L,0<=x/\x<64)->Uk s->Uk (dU occ L s)/\∀ m:Nat,bt (dU occ L s) m=(bt s m||hitB occ m L)
 |[],s,_,hs=>⟨hs,fun m=>by simp[dU,hitB]⟩
 |x::L,s,hL,hs=>by
  have hx:=hL x (by simp)
  unfold dU
  rw[pB ho hx.1 hx.2]
  cases hb:bt occ x.toNat with
  |true=>
   refine⟨gA _ _,fun m=>?_⟩
   rw[cond_true,eY hs (gJ _ _),gZ hx.1 hx.2]
   simp[hitB,hb]
  |false=>
   obtain⟨h1,h2⟩:=pT ho L (uor s (ushl 1 x)) (fun y hy=>hL y (by simp[hy])) (gA _ _)
   refine⟨h1,fun m=>?_⟩
   rw[cond_false,h2,eY hs (gJ _ _),gZ hx.1 hx.2]
   simp[hitB,hb,Bool.or_assoc]
theorem BH{occ m:Int}:∀ {L:List Int},hitB occ m L=true->hasL m L=true
 |x::L,h=>by
  simp only[hitB,Bool.or_eq_true,Bool.and_eq_true,decide_eq_true_eq]at h
  simp only[hasL,Bool.or_eq_true,decide_eq_true_eq]
  exact h.imp id fun h=>BH h.2
theorem yb{f r occ m:Int}(ho:Uk occ):∀ (L:List Int),(∀ x∈L,aj f r x=true)->hitB occ m L=(hasL m L&&gl occ (L.take (idxL m L)))
 |[],_=>rfl
 |x::L,hL=>by
  have ih:=yb (m:=m) ho L fun y hy=>hL y (by simp[hy])
  have hx:=nX ho (hL x (by simp))
  by_cases e:x=m
  ·simp[hitB,hasL,idxL,e,gl]
  ·simp only[hitB,hasL,idxL,e,decide_false,Bool.false_or,cond_false,List.take_succ_cons,gl,hx,ih]
   cases bt occ x.toNat<;>simp
def lz(f r a occ:Int)(row:List Int)(m:Nat):Bool:=hitB occ m (cD f r a (row.getD 0 0) (row.getD 1 0))
theorem BI{df dr:Int}(h:unit df dr):inR df dr=true:=by
 obtain⟨h1,h2,h3,h4,_⟩:=h
 simp only[inR,Bool.and_eq_true,decide_eq_true_eq];omega
theorem yJ{f r a occ:Int}(ha:aj f r a=true)(ho:Uk occ)(rs:List (List Int))(hrs:∀ row∈rs,unit (row.getD 0 0) (row.getD 1 0)):Uk (dM f r a occ rs)/\∀ m,bt (dM f r a occ rs) m=rs.any (lz f r a occ · m):=by
 have h:=xD (eM f r a occ) (lz f r a occ) rs 0 ?_ uk_0
 ·refine⟨h.1,fun m=>?_⟩
  unfold dM
  rw[h.2,bt_0,Bool.false_or]
 ·intro s row hrow hs
  unfold eM lz
  rw[IQ,BI (hrs row hrow),cond_true]
  exact pT ho _ s (fun x hx=>⟨(aS (eo ha hx)).1,(aS (eo ha hx)).2.2⟩) hs
theorem nS{m:Int}{L:List Int}:hasL m L=true↔m∈L:=by
 induction L with
 |nil=>simp[hasL]
 |cons x L ih=>simp only[hasL,Bool.or_eq_true,decide_eq_true_eq,ih,List.mem_cons];exact⟨fun h=>h.imp Eq.symm id,fun h=>h.imp Eq.symm id⟩
theorem zF(P:Int->Int->Bool)(h:∀ i j:_root_.Fin 15,P ((i.val:Int)-7) ((j.val:Int)-7)=true){x y:Int}(hx:-7<=x/\x<=7)(hy:-7<=y/\y<=7):P x y=true:=by
 have:=h ⟨(x+7).toNat,by omega⟩ ⟨(y+7).toNat,by omega⟩
 simp only at this
 rw[show (((x+7).toNat:Int)-7)=x by omega,show (((y+7).toNat:Int)-7)=y by omega]at this
 exact this
def fT(rs:List (List Int))(x y:Int):Bool:=rs.any fun row=>decide (x=row.getD 0 0)&&decide (y=row.getD 1 0)
theorem jw{f r a b:Int}(hb:aj f r b=true)(rs:List (List Int)):rs.any (lQ f r a · b.toNat)=fT rs (px f b-px f a) (py f b-py f a):=by
 have:=aS hb
 unfold fT lQ
 rw[show ((b.toNat:Nat):Int)=b by omega,hb]
 rfl
theorem qM{f r a b:Int}(ha:aj f r a=true)(hb:aj f r b=true):(-7<=px f b-px f a/\px f b-px f a<=7)/\(-7<=py f b-py f a/\py f b-py f a<=7):=by
 have:=eX ha
 have:=eX hb
 omega
def DQ(x y:Int):Bool:=fT iI x y==decide (i64.wrap (i64.wrap (x*x)+i64.wrap (y*y))=5)
theorem Ak:∀ i j:_root_.Fin 15,DQ ((i.val:Int)-7) ((j.val:Int)-7)=true:=by decide +kernel
def JZ(x y:Int):Int:=bif decide (absI (i64.wrap (0-y))<absI (i64.wrap (0-x)))then absI (i64.wrap (0-x))else absI (i64.wrap (0-y))
def MI(x y:Int):Bool:=(fT fD x y||fT fR x y)==decide (JZ x y=1)
theorem FR:∀ i j:_root_.Fin 15,MI ((i.val:Int)-7) ((j.val:Int)-7)=true:=by decide +kernel
theorem Iq{f r a b:Int}(ha:aj f r a=true)(hb:aj f r b=true):eA f a b=JZ (px f b-px f a) (py f b-py f a):=by
 obtain⟨e1,e2⟩:=iE hb ha
 have h:=qM ha hb
 unfold eA JZ
 rw[e1,e2,aI (n:=0-(px f b-px f a)) (by omega) (by omega),aI (n:=0-(py f b-py f a)) (by omega) (by omega)]
 rw[show 0-(px f b-px f a)=px f a-px f b by omega,show 0-(py f b-py f a)=py f a-py f b by omega]
theorem jb{f r a b occ:Int}(ha:aj f r a=true)(hb:aj f r b=true)(ho:Uk occ)(rs:List (List Int))(hrs:∀ row∈rs,unit (row.getD 0 0) (row.getD 1 0)) :
  rs.any (lz f r a occ · b.toNat)=((bw f a b).2.2&&fT rs (bw f a b).1 (bw f a b).2.1&&gl occ (bT f r a b)):=by
 have hl:=aS hb
 have pt:∀ row∈rs,lz f r a occ row b.toNat=((bw f a b).2.2&&(decide ((bw f a b).1=row.getD 0 0)&&decide ((bw f a b).2.1=row.getD 1 0))&&gl occ (bT f r a b)):=by
  intro row hrow
  have hu:=hrs row hrow
  unfold lz
  rw[show ((b.toNat:Nat):Int)=b by omega,yb (f:=f) (r:=r) ho _ (fun x hx=>eo ha hx)]
  cases hh:hasL b (cD f r a (row.getD 0 0) (row.getD 1 0)) with
  |true=>
   have e:=Ie ha hb hu hh
   have hz:ez f r a b=cD f r a (row.getD 0 0) (row.getD 1 0):=by rw[ez,e]
   unfold bT
   rw[hz,hh,e];simp
  |false=>
   rw[Bool.false_and]
   symm
   cases h2:(bw f a b).2.2 with
   |false=>rfl
   |true=>
    obtain⟨_,h3⟩:=si ha hb h2
    by_cases e:(bw f a b).1=row.getD 0 0/\(bw f a b).2.1=row.getD 1 0
    ·rw[ez,e.1,e.2,hh]at h3;cases h3
    ·simp only[Bool.true_and]
     rw[show (decide ((bw f a b).1=row.getD 0 0)&&decide ((bw f a b).2.1=row.getD 1 0))=false by simp only[Bool.and_eq_false_iff,decide_eq_false_iff_not];omega]
     rfl
 have gen:∀ l:List (List Int),(∀ row∈l,row∈rs)->l.any (lz f r a occ · b.toNat)=((bw f a b).2.2&&fT l (bw f a b).1 (bw f a b).2.1&&gl occ (bT f r a b)):=by
  intro l
  induction l with
  |nil=>intro _;simp[fT]
  |cons row l ih=>
   intro h
   rw[List.any_cons,ih (fun x hx=>h x (by simp[hx])),pt row (h row (by simp))]
   unfold fT
   rw[List.any_cons]
   cases(bw f a b).2.2<;>cases(decide ((bw f a b).1=row.getD 0 0)&&decide ((bw f a b).2.1=row.getD 1 0))<;>cases gl occ (bT f r a b)<;>simp
 exact gen rs fun _ h=>h
theorem Gp:∀ row∈iI,-8<=row.getD 0 0/\row.getD 0 0<=8/\-8<=row.getD 1 0/\row.getD 1 0<=8:=by decide
theorem iX:∀ row∈fD,unit (row.getD 0 0) (row.getD 1 0):=by unfold unit;decide
theorem iZ:∀ row∈fR,unit (row.getD 0 0) (row.getD 1 0):=by unfold unit;decide
theorem Ct{rs:List (List Int)}(h:∀ row∈rs,unit (row.getD 0 0) (row.getD 1 0)):∀ row∈rs,-8<=row.getD 0 0/\row.getD 0 0<=8/\-8<=row.getD 1 0/\row.getD 1 0<=8:=fun row hr=>by
 obtain⟨h1,h2,h3,h4,_⟩:=h row hr
 omega
theorem jG{x y:Int}(h:unit x y):fT fD x y=!(decide (x=0)||decide (y=0))/\fT fR x y=(decide (x=0)||decide (y=0)):=by
 rcases dS h with⟨rfl,rfl⟩|⟨rfl,rfl⟩|⟨rfl,rfl⟩|⟨rfl,rfl⟩|⟨rfl,rfl⟩|⟨rfl,rfl⟩|⟨rfl,rfl⟩|⟨rfl,rfl⟩<;>decide
theorem Nz(n:Int):decide (sgn n=0)=decide (n=0):=by
 have:=ji n
 congr 1
 exact propext ⟨fun h=>by omega,fun h=>by omega⟩
def oX(f r kd a occ:Int):Int:=(cn f r kd a occ).1
def nY(kd:Int):Prop:=kd=2\/kd=3\/kd=4\/kd=5\/kd=6
theorem FY{f r kd a occ:Int}(h:gE f r a occ=true)(hk:nY kd):(cn f r kd a occ).2=0/\oX f r kd a occ=bif decide (kd=2)then cy f r a iI else bif decide (kd=3)then dM f r a occ fD else bif decide (kd=4)then dM f r a occ fR
     else bif decide (kd=5)then uor (dM f r a occ fD) (dM f r a occ fR)else uor (cy f r a fD) (cy f r a fR):=by
 unfold oX cn
 rw[h,cond_true]
 rcases hk with rfl|rfl|rfl|rfl|rfl<;>exact⟨rfl,rfl⟩
theorem qO{f r kd a occ:Int}(h:gE f r a occ=true)(ho:Uk occ)(hk:nY kd):Uk (oX f r kd a occ)/\OnS f r (oX f r kd a occ)/\∀ b,aj f r b=true->bt (oX f r kd a occ) b.toNat=bJ f r kd a b occ:=by
 have ha:aj f r a=true:=by simp only[gE,Bool.and_eq_true]at h;exact h.1
 have L1:=mK ha iI Gp
 have L2:=mK ha fD (Ct iX)
 have L3:=mK ha fR (Ct iZ)
 have S1:=yJ ha ho fD iX
 have S2:=yJ ha ho fR iZ
 have onl:∀ (rs:List (List Int)) (m:Nat),rs.any (lQ f r a · m)=true->aj f r m=true:=by
  intro rs m h
  obtain⟨row,_,h2⟩:=List.any_eq_true.1 h
  simp only[lQ,Bool.and_eq_true]at h2
  exact h2.1.1
 have ons:∀ (rs:List (List Int)) (m:Nat),rs.any (lz f r a occ · m)=true->aj f r m=true:=by
  intro rs m h
  obtain⟨row,_,h2⟩:=List.any_eq_true.1 h
  exact eo ha (nS.1 (BH h2))
 obtain⟨_,hS⟩:=FY h hk
 rw[hS]
 have key:∀ b,aj f r b=true->(bw f a b).2.2=true->unit (bw f a b).1 (bw f a b).2.1/\(decide (i64.wrap (b.tmod f-a.tmod f)=0)||decide (i64.wrap (i64.wrap (b.tdiv f)-i64.wrap (a.tdiv f))=0))=(decide ((bw f a b).1=0)||decide ((bw f a b).2.1=0)):=by
  intro b hb hl
  obtain⟨e1,e2⟩:=iE ha hb
  refine⟨(si ha hb hl).1,?_⟩
  rcases tx ha hb with⟨e,_⟩|⟨e,_⟩
  ·rw[e]at hl;cases hl
  ·rw[e1,e2,e]
   simp only[Nz]
 rcases hk with rfl|rfl|rfl|rfl|rfl
 ·refine⟨L1.1,fun m _ hm=>onl _ _ ((L1.2 m).symm.trans hm),fun b hb=>?_⟩
  obtain⟨e1,e2⟩:=iE ha hb
  have hd:=qM ha hb
  have hp:=zF DQ Ak hd.1 hd.2
  show bt (cy f r a iI) b.toNat=decide (_=5)
  rw[L1.2,jw hb,e1,e2]
  exact eq_of_beq hp
 ·refine⟨S1.1,fun m _ hm=>ons _ _ ((S1.2 m).symm.trans hm),fun b hb=>?_⟩
  show bt (dM f r a occ fD) b.toNat=((bw f a b).2.2&&(false||((decide (i64.wrap (b.tmod f-a.tmod f)=0)||decide (i64.wrap (i64.wrap (b.tdiv f)-i64.wrap (a.tdiv f))=0))==false))&&gl occ (bT f r a b))
  rw[S1.2,jb ha hb ho _ iX]
  cases hl:(bw f a b).2.2 with
  |false=>simp
  |true=>obtain⟨k1,k2⟩:=key b hb hl;rw[k2,(jG k1).1];simp
 ·refine⟨S2.1,fun m _ hm=>ons _ _ ((S2.2 m).symm.trans hm),fun b hb=>?_⟩
  show bt (dM f r a occ fR) b.toNat=((bw f a b).2.2&&(false||((decide (i64.wrap (b.tmod f-a.tmod f)=0)||decide (i64.wrap (i64.wrap (b.tdiv f)-i64.wrap (a.tdiv f))=0))==true))&&gl occ (bT f r a b))
  rw[S2.2,jb ha hb ho _ iZ]
  cases hl:(bw f a b).2.2 with
  |false=>simp
  |true=>obtain⟨k1,k2⟩:=key b hb hl;rw[k2,(jG k1).2];simp
 ·refine⟨gA _ _,fun m _ hm=>?_,fun b hb=>?_⟩
  ·have hm:bt (uor (dM f r a occ fD) (dM f r a occ fR)) m=true:=hm
   rw[eY S1.1 S2.1,Bool.or_eq_true]at hm
   exact hm.elim (fun hm=>ons _ _ ((S1.2 m).symm.trans hm)) (fun hm=>ons _ _ ((S2.2 m).symm.trans hm))
  ·show bt (uor (dM f r a occ fD) (dM f r a occ fR)) b.toNat=((bw f a b).2.2&&(true||_)&&gl occ (bT f r a b))
   rw[eY S1.1 S2.1,S1.2,S2.2,jb ha hb ho _ iX,jb ha hb ho _ iZ]
   cases hl:(bw f a b).2.2 with
   |false=>simp
   |true=>
    obtain⟨k1,k2⟩:=key b hb hl
    rw[(jG k1).1,(jG k1).2]
    cases(decide ((bw f a b).1=0)||decide ((bw f a b).2.1=0))<;>simp
 ·refine⟨gA _ _,fun m _ hm=>?_,fun b hb=>?_⟩
  ·have hm:bt (uor (cy f r a fD) (cy f r a fR)) m=true:=hm
   rw[eY L2.1 L3.1,Bool.or_eq_true]at hm
   exact hm.elim (fun hm=>onl _ _ ((L2.2 m).symm.trans hm)) (fun hm=>onl _ _ ((L3.2 m).symm.trans hm))
  ·have hd:=qM ha hb
   have hp:=zF MI FR hd.1 hd.2
   show bt (uor (cy f r a fD) (cy f r a fR)) b.toNat=decide (eA f a b=1)
   rw[eY L2.1 L3.1,L2.2,L3.2,jw hb,jw hb,Iq ha hb]
   exact eq_of_beq hp
end Go.Ab
namespace Go.Ab
open Go.Proofs
theorem Na{s x:Int}(hs:Uk s)(h1:0<=x)(h2:x<64)(hb:bt s x.toNat=false):IntKind.u64.wrap (s+ushl 1 x)=uor s (ushl 1 x):=by
 have hk:=gJ 1 x
 rw[jd,CZ]
 have hz:BitVec.ofInt 64 s &&& BitVec.ofInt 64 (ushl 1 x)=0#64:=by
  apply BitVec.eq_of_toNat_eq
  rw[BitVec.toNat_and,jq hs,jq hk]
  apply Nat.eq_of_testBit_eq
  intro i
  rw[Nat.testBit_and]
  have h3:=gZ h1 h2 i
  unfold bt at h3 hb
  rw[h3]
  by_cases e:x=(i:Int)
  ·subst e;rw[Int.toNat_natCast]at hb;simp[hb]
  ·simp[e]
 rw[<-BitVec.add_eq_or_of_and_eq_zero _ _ hz,BitVec.toNat_add,jq hs,jq hk]
 have h4:=hs.1
 have h5:=hk.1
 generalize ushl 1 x=y at *
 show (s+y)%18446744073709551616=(((s.toNat+y.toNat)%18446744073709551616:Nat):Int)
 omega
theorem qc:∀ (l:List Int) (s:Int),(∀ x∈l,0<=x/\x<64)->Uk s->Uk (ofL l s)/\∀ m:Nat,bt (ofL l s) m=(bt s m||decide ((m:Int)∈l))
 |[],s,_,hs=>⟨hs,fun m=>by simp[ofL]⟩
 |x::l,s,hl,hs=>by
  have hx:=hl x (by simp)
  rw[ofL]
  have hh:=Ip (n:=x) hs
  simp only[hx.1,hx.2,decide_true,Bool.true_and]at hh
  cases hb:bt s x.toNat with
  |true=>
   obtain⟨h1,h2⟩:=qc l s (fun y hy=>hl y (by simp[hy])) hs
   rw[hh,hb,cond_true]
   refine⟨h1,fun m=>?_⟩
   rw[h2]
   by_cases e:(m:Int)=x
   ·subst e;rw[Int.toNat_natCast]at hb;simp[hb]
   ·simp[e]
  |false=>
   rw[hh,hb,cond_false,Na hs hx.1 hx.2 hb]
   obtain⟨h1,h2⟩:=qc l (uor s (ushl 1 x)) (fun y hy=>hl y (by simp[hy])) (gA _ _)
   refine⟨h1,fun m=>?_⟩
   rw[h2,eY hs (gJ _ _),gZ hx.1 hx.2,Bool.or_assoc]
   congr 1
   by_cases e:(m:Int)=x
   ·simp[e]
   ·have e':¬ x=(m:Int):=fun h=>e h.symm
    simp[e,e']
theorem Ni{f r:Int}(hv:vsB f r=true):Uk (allU f r)/\∀ m:Nat,bt (allU f r) m=decide ((m:Int)<f*r):=by
 have hm:=gu hv
 unfold allU
 rw[eW hv,aI (by omega) (by omega)]
 have hk:Uk 18446744073709551615:=⟨by decide,by decide⟩
 refine⟨Dl hk (by omega) (by omega),fun m=>?_⟩
 rw[Iy hk (by omega) (by omega)]
 unfold bt
 rw[show (18446744073709551615:Int).toNat=2^64-1 by decide,Nat.testBit_two_pow_sub_one]
 congr 1
 exact propext ⟨fun h=>by omega,fun h=>by omega⟩
theorem Eu{f r s:Int}(hv:vsB f r=true)(hs:Uk s):cI s (allU f r)=0↔OnS f r s:=by
 obtain⟨h1,h2⟩:=Ni hv
 rw[rR (gX _ _)]
 constructor
 ·intro h m hm hb
  have:=h m hm
  rw[gT hs h1,hb,h2]at this
  simp at this
  exact qL hv (by omega) this
 ·intro h m hm
  rw[gT hs h1,h2]
  cases hb:bt s m with
  |false=>rfl
  |true=>have:=aS (h m hm hb);simp;omega
theorem jh{f r a s:Int}(hs:Uk s):gE f r a s=true↔aj f r a=true/\OnS f r s:=by
 unfold gE
 rw[Bool.and_eq_true,decide_eq_true_eq]
 exact⟨fun h=>⟨h.1,(Eu (bI h.1) hs).1 h.2⟩,fun h=>⟨h.1,(Eu (bI h.1) hs).2 h.2⟩⟩
end Go.Ab
namespace Go.Ab
open IntKind
open Go.Proofs
section
variable{kCa kDb:Bool}
def ei(f:Int)(bl:Bool)(a b:Int):Bool:=decide (i64.wrap (i64.wrap (b.tdiv f)-i64.wrap (a.tdiv f))=fwd bl)&&(decide (i64.wrap (b.tmod f-a.tmod f)=1)||decide (i64.wrap (a.tmod f-b.tmod f)=1))
def one4(f r:Int)(bl:Bool)(a:Int):Int:=numR f r (a.tmod f) (i64.wrap (i64.wrap (a.tdiv f)+fwd bl))
def two4(f r:Int)(bl:Bool)(a:Int):Int:=numR f r (a.tmod f) (i64.wrap (i64.wrap (a.tdiv f)+i64.wrap (2*fwd bl)))
def cq(f r:Int)(bl:Bool)(a occ b:Int):Bool:=(decide (b=one4 f r bl a)&&!hasB occ (one4 f r bl a))||(decide (b=two4 f r bl a)&&decide (6<=r)&&decide (i64.wrap (a.tdiv f)=secR r bl)&&!hasB occ (one4 f r bl a)&&!hasB occ (two4 f r bl a))
def iY:CF
 |[.agg [.int .i64 f,.int .i64 r],.bool bl,.int .i64 a],[]=>some (vsB f r,.sl 0 0 (cz (ei f bl a) id ((f*r).toNat)).length none,[.ints true .i64 (cz (ei f bl a) id ((f*r).toNat))])
 |_,_=>none
theorem lJ:CtOk (GGx kCa kDb) PP (161,iY):=by
 refine aD Tryz.func161 (by kernel_rfl) rfl fun a0 h0 c0 v0 N0 e hc=>?_
 unfold iY at e
 split at e
 ·rename_i f r bl a
  cases e
  have hE:=aA (kCa:=kCa) (kDb:=kDb) (cts:=[(39,dF),(179,HN)]) (inl:=[]) ⟨bZ,ze,trivial⟩ trivial
  refine aq hE 2 Tryz.func161 rfl rfl ?_
  have hm:=gu hc
  have hw:=eW hc
  have hf:=cZ hc
  have hf0:¬ f=0:=by omega
  refine cC hE 2 (fun(i:Int) (ys:List Int)=>([(1,Bb bl),(2,I a),(3,.ptr 0 0 0),(7,.sl 1 0 ys.length none),(8,I i)],[.cells true [I f,I r],.ints true .i64 ys])) ((f*r).toNat) (fun j ys=>ys=cz (ei f bl a) id j) [] (by omega) ((Ent.phanT (t:=7) (o:=.ints true .i64 []) rfl ⟨by simp,by simp,trivial,rfl⟩ (aH rfl)).trans (Ent.ren [0,1] [1,2,3,7,8] rfl rfl rfl)) rfl ?_
  intro j i ys hij hj hz
  have hb:=dh (ei f bl a) id j
  rw[<-hz]at hb
  refine av (fun hlt=>?_) (fun hlt=>?_)
  ·have hlt':j<(f*r).toNat:=by simp only[decide_eq_true_eq]at hlt;rw[hw]at hlt;omega
   have hs:=eF (ei f bl a) id j
   rw[<-hz,<-hij]at hs
   repeat (first|refine ah ?_|refine sat_nd ?_)
   refine av (fun hon=>?_) (fun hon=>?_)
   ·skip
    have hon:ei f bl a i=true:=hon
    rw[hon,cond_true]at hs
    refine ae (b:=decide (ys.length=ys.length)&&decide ((ys.length+1)*8<=140737488355328)&&true) (by simp;omega) ?_
    exact ag ⟨hlt',ys++[id i],hs.symm,Ent.ren [0,5] [1,2,3,7,8] rfl rfl rfl⟩
   ·skip
    have hon:ei f bl a i=false:=hon
    rw[hon,cond_false]at hs
    exact ag ⟨hlt',ys,hs.symm,Ent.ren [0,1] [1,2,3,7,8] rfl rfl rfl⟩
  ·obtain rfl:j=(f*r).toNat:=by simp only[decide_eq_false_iff_not]at hlt;rw[hw]at hlt;omega
   subst hz
   refine ag (ag ((bV 1 (.inr rfl) rfl rfl rfl rfl rfl rfl)))
 ·cases e
def kK:CF
 |[.agg [.int .i64 f,.int .i64 r],.bool bl,.int .i64 a,.int .u64 occ],[]=>some (vsB f r,.sl 0 0 (cz (cq f r bl a occ) id ((f*r).toNat)).length none,[.ints true .i64 (cz (cq f r bl a occ) id ((f*r).toNat))])
 |_,_=>none
theorem qg:CtOk (GGx kCa kDb) PP (190,kK):=by
 refine aD Tryz.func190 (by kernel_rfl) rfl fun a0 h0 c0 v0 N0 e hc=>?_
 unfold kK at e
 split at e
 ·rename_i f r bl a occ
  cases e
  have hE:=aA (kCa:=kCa) (kDb:=kDb) (cts:=[(39,dF),(179,HN),(86,fY),(53,EA),(193,qH)]) (inl:=[]) ⟨bZ,ze,eG,sD,xo,trivial⟩ trivial
  refine aq hE 2 Tryz.func190 rfl rfl ?_
  have hm:=gu hc
  have hw:=eW hc
  have hf:=cZ hc
  have hf0:¬ f=0:=by omega
  repeat (first|refine ah ?_|refine sat_nd ?_)
  refine cC hE 2 (fun(i:Int) (ys:List Int)=>([(1,Bb bl),(3,U occ),(4,.ptr 0 0 0),(9,.ptr 1 0 0),(11,I (one4 f r bl a)),(12,I (two4 f r bl a)),(13,.sl 2 0 ys.length none),(14,I i)],[.cells true [I f,I r],.cells true [I (a.tmod f),I (i64.wrap (a.tdiv f))],.ints true .i64 ys])) ((f*r).toNat) (fun j ys=>ys=cz (cq f r bl a occ) id j) [] (by omega) ((Ent.phanT (t:=13) (o:=.ints true .i64 []) rfl ⟨by simp,by simp,trivial,rfl⟩ (aH rfl)).trans (Ent.ren [0,1,2] [1,3,4,9,11,12,13,14] rfl rfl rfl)) rfl ?_
  intro j i ys hij hj hz
  have hb:=dh (cq f r bl a occ) id j
  rw[<-hz]at hb
  refine av (fun hlt=>?_) (fun hlt=>?_)
  ·have hlt':j<(f*r).toNat:=by simp only[decide_eq_true_eq]at hlt;rw[hw]at hlt;omega
   have hs:=eF (cq f r bl a occ) id j
   rw[<-hz,<-hij]at hs
   repeat (first|refine ah ?_|refine sat_nd ?_)
   refine av (fun hon=>?_) (fun hon=>?_)
   ·skip
    have hon:cq f r bl a occ i=true:=hon
    rw[hon,cond_true]at hs
    refine ae (b:=decide (ys.length=ys.length)&&decide ((ys.length+1)*8<=140737488355328)&&true) (by simp;omega) ?_
    exact ag ⟨hlt',ys++[id i],hs.symm,Ent.ren [0,1,4] [1,3,4,9,11,12,13,14] rfl rfl rfl⟩
   ·skip
    have hon:cq f r bl a occ i=false:=hon
    rw[hon,cond_false]at hs
    exact ag ⟨hlt',ys,hs.symm,Ent.ren [0,1,2] [1,3,4,9,11,12,13,14] rfl rfl rfl⟩
  ·obtain rfl:j=(f*r).toNat:=by simp only[decide_eq_false_iff_not]at hlt;rw[hw]at hlt;omega
   subst hz
   refine ag (ag ((bV 2 (.inr rfl) rfl rfl rfl rfl rfl rfl)))
 ·cases e
end
theorem ud(bl:Bool):(bl=true/\fwd bl=-1)\/(bl=false/\fwd bl=1):=by cases bl<;>simp[fwd]
theorem xx{f r X Y:Int}(h:onB f r X Y=false):numR f r X Y=-1:=by unfold numR;rw[xI,h];rfl
theorem Nk{f r b X Y:Int}(hv:vsB f r=true)(hb:aj f r b=true):decide (b=numR f r X Y)=(decide (px f b=X)&&decide (py f b=Y)):=by
 have hq:=eX hb
 have hl:=aS hb
 cases ho:onB f r X Y with
 |true=>
  have:=kT hv ho hb
  rw[Bool.eq_iff_iff,Bool.and_eq_true,decide_eq_true_eq,decide_eq_true_eq,decide_eq_true_eq,<-this]
  exact⟨Eq.symm,Eq.symm⟩
 |false=>
  rw[xx ho,show decide (b=-1)=false by simp;omega]
  symm
  simp only[Bool.and_eq_false_iff,decide_eq_false_iff_not]
  by_cases h1:px f b=X
  ·right
   intro h2
   have:onB f r X Y=true:=kB (by omega) (by omega) (by omega) (by omega)
   rw[ho]at this;cases this
  ·exact .inl h1
theorem LL(bl:Bool):∀ row∈[[-1,fwd bl],[1,fwd bl]],-8<=row.getD 0 0/\row.getD 0 0<=8/\-8<=row.getD 1 0/\row.getD 1 0<=8:=by cases bl<;>simp[fwd]
theorem xS{f r a:Int}(rs:List (List Int))(m:Nat)(h:rs.any (lQ f r a · m)=true):aj f r m=true:=by
 obtain⟨row,_,h2⟩:=List.any_eq_true.1 h
 simp only[lQ,Bool.and_eq_true]at h2
 exact h2.1.1
theorem wJ{f r a:Int}{bl:Bool}(ha:aj f r a=true):(gr f r bl a).2=0/\Uk (gr f r bl a).1/\OnS f r (gr f r bl a).1/\∀ b,aj f r b=true->bt (gr f r bl a).1 b.toNat=ei f bl a b:=by
 have L:=mK ha [[-1,fwd bl],[1,fwd bl]] (LL bl)
 unfold gr
 rw[ha,cond_true]
 refine⟨rfl,L.1,fun m _ hm=>xS _ _ ((L.2 m).symm.trans hm),fun b hb=>?_⟩
 obtain⟨e1,e2⟩:=iE ha hb
 obtain⟨e3,_⟩:=iE hb ha
 have hd:=qM ha hb
 rw[L.2,jw hb]
 unfold ei fT
 rw[e1,e2,e3]
 simp only[List.any_cons,List.any_nil,Bool.or_false,List.getD_cons_zero,List.getD_cons_succ]
 rw[Bool.eq_iff_iff]
 simp only[Bool.or_eq_true,Bool.and_eq_true,decide_eq_true_eq]
 omega
theorem Em{f r a k:Int}(ha:aj f r a=true)(hk:-2<=k/\k<=2):Uk (cy f r a [[0,k]])/\(∀ m,bt (cy f r a [[0,k]]) m=true->aj f r m=true)/\∀ b,aj f r b=true->bt (cy f r a [[0,k]]) b.toNat=decide (b=numR f r (px f a) (py f a+k)):=by
 have L:=mK ha [[0,k]] (by intro row h;simp only[List.mem_singleton]at h;subst h;simp;omega)
 refine⟨L.1,fun m hm=>xS _ _ ((L.2 m).symm.trans hm),fun b hb=>?_⟩
 rw[L.2,jw hb,Nk (bI ha) hb]
 unfold fT
 simp only[List.any_cons,List.any_nil,Bool.or_false,List.getD_cons_zero,List.getD_cons_succ]
 rw[Bool.eq_iff_iff]
 simp only[Bool.and_eq_true,decide_eq_true_eq]
 omega
theorem gO(f r X Y:Int)(hv:vsB f r=true):(onB f r X Y=true/\aj f r (numR f r X Y)=true)\/(onB f r X Y=false/\numR f r X Y=-1):=by
 cases ho:onB f r X Y with
 |true=>
  left
  have h:=vx (X:=X) (Y:=Y) hv
  rw[ho]at h
  have hp:=lF (of_decide_eq_true h)
  rw[tF hv ho,hp.2.2.2.2]
  exact⟨rfl,(hU hv ho).1⟩
 |false=>exact .inr ⟨rfl,xx ho⟩
theorem zG{f r a occ:Int}{bl:Bool}(h:gE f r a occ=true)(ho:Uk occ):(dc f r bl a occ).2=0/\Uk (dc f r bl a occ).1/\OnS f r (dc f r bl a occ).1/\∀ b,aj f r b=true->bt (dc f r bl a occ).1 b.toNat=cq f r bl a occ b:=by
 obtain⟨ha,_⟩:=(jh ho).1 h
 have hv:=bI ha
 have hp:=eX ha
 have hw2:i64.wrap (2*fwd bl)=2*fwd bl:=by rcases ud bl with⟨_,e⟩|⟨_,e⟩<;>rw[e]<;>rfl
 have hfw:=ud bl
 have S1:=Em (k:=fwd bl) ha (by omega)
 have S2:=Em (k:=2*fwd bl) ha (by omega)
 have e1:one4 f r bl a=numR f r (px f a) (py f a+fwd bl):=by
  show numR f r (px f a) (i64.wrap (i64.wrap (py f a)+fwd bl))=_
  rw[hp.2.2.2.2.1,aI (by omega) (by omega)]
 have e2:two4 f r bl a=numR f r (px f a) (py f a+2*fwd bl):=by
  show numR f r (px f a) (i64.wrap (i64.wrap (py f a)+i64.wrap (2*fwd bl)))=_
  rw[hp.2.2.2.2.1,hw2,aI (by omega) (by omega)]
 have hsec:(decide (r<6)||!decide (i64.wrap (a.tdiv f)=bif bl then i64.wrap (r-2)else 1))=!(decide (6<=r)&&decide (i64.wrap (a.tdiv f)=secR r bl)):=by
  unfold secR
  rw[Bool.not_and,show (!decide (6<=r))=decide (r<6) by rw[<-decide_not];congr 1;exact propext ⟨fun h=>by omega,fun h=>by omega⟩]
 unfold dc pZ one1
 rw[h,cond_true,Bool.or_assoc,hsec,hw2]
 have hA:Uk (cI (cy f r a [[0,fwd bl]]) occ):=gX _ _
 have hB:Uk (cI (cy f r a [[0,2*fwd bl]]) occ):=gX _ _
 have bA:∀ m,bt (cI (cy f r a [[0,fwd bl]]) occ) m=(bt (cy f r a [[0,fwd bl]]) m&&!bt occ m):=gT S1.1 ho
 have bB:∀ m,bt (cI (cy f r a [[0,2*fwd bl]]) occ) m=(bt (cy f r a [[0,2*fwd bl]]) m&&!bt occ m):=gT S2.1 ho
 have onA:OnS f r (cI (cy f r a [[0,fwd bl]]) occ):=fun m _ hm=>by rw[bA,Bool.and_eq_true]at hm;exact S1.2.1 m hm.1
 have onB':OnS f r (cI (cy f r a [[0,2*fwd bl]]) occ):=fun m _ hm=>by rw[bB,Bool.and_eq_true]at hm;exact S2.2.1 m hm.1
 have vA:∀ b,aj f r b=true->bt (cI (cy f r a [[0,fwd bl]]) occ) b.toNat=(decide (b=one4 f r bl a)&&!hasB occ (one4 f r bl a)):=fun b hb=>by
  rw[bA,S1.2.2 b hb,<-e1]
  by_cases e:b=one4 f r bl a
  ·rw[<-e,nX ho hb]
  ·simp[e]
 have vB:∀ b,aj f r b=true->bt (cI (cy f r a [[0,2*fwd bl]]) occ) b.toNat=(decide (b=two4 f r bl a)&&!hasB occ (two4 f r bl a)):=fun b hb=>by
  rw[bB,S2.2.2 b hb,<-e2]
  by_cases e:b=two4 f r bl a
  ·rw[<-e,nX ho hb]
  ·simp[e]
 -- the first step is free just if its set is not empty
 have hz:cI (cy f r a [[0,fwd bl]]) occ=0↔(one4 f r bl a=-1\/hasB occ (one4 f r bl a)=true):=by
  rw[rR hA]
  rcases gO f r (px f a) (py f a+fwd bl) hv with⟨_,hval⟩|⟨_,hneg⟩
  ·rw[<-e1]at hval
   have hl:=aS hval
   constructor
   ·intro hall
    have:=hall (one4 f r bl a).toNat (by omega)
    rw[vA _ hval]at this
    right;simpa using this
   ·rintro(hx|hx)
    ·omega
    ·intro n hn
     cases hb:bt (cI (cy f r a [[0,fwd bl]]) occ) n with
     |false=>rfl
     |true=>
      have hvn:=onA n hn hb
      have:=vA n hvn
      rw[Int.toNat_natCast,hb,hx]at this
      simp at this
  ·rw[<-e1]at hneg
   refine⟨fun _=>.inl hneg,fun _ n hn=>?_⟩
   cases hb:bt (cI (cy f r a [[0,fwd bl]]) occ) n with
   |false=>rfl
   |true=>
    have hvn:=onA n hn hb
    have:=vA n hvn
    rw[Int.toNat_natCast,hb,hneg]at this
    simp at this
 cases hc:(decide (cI (cy f r a [[0,fwd bl]]) occ=0)||!(decide (6<=r)&&decide (i64.wrap (a.tdiv f)=secR r bl))) with
 |true=>
  rw[cond_true]
  refine⟨rfl,hA,onA,fun b hb=>?_⟩
  show bt (cI (cy f r a [[0,fwd bl]]) occ) b.toNat=_
  rw[vA b hb]
  unfold cq
  symm
  rw[Bool.or_eq_true,decide_eq_true_eq,hz]at hc
  have:(decide (b=two4 f r bl a)&&decide (6<=r)&&decide (i64.wrap (a.tdiv f)=secR r bl)&&!hasB occ (one4 f r bl a)&&!hasB occ (two4 f r bl a))=false:=by
   have hl:=aS hb
   rcases hc with(hc|hc)|hc
   ·have h2:two4 f r bl a=-1:=by
     rw[e2]
     refine xx ?_
     cases hon:onB f r (px f a) (py f a+2*fwd bl) with
     |false=>rfl
     |true=>
      have:=rS hon
      have h3:onB f r (px f a) (py f a+fwd bl)=true:=kB (by omega) (by omega) (by omega) (by omega)
      rcases gO f r (px f a) (py f a+fwd bl) hv with⟨_,hval⟩|⟨h4,_⟩
      ·rw[<-e1,hc]at hval
       have:=aS hval
       omega
      ·rw[h3]at h4;cases h4
    rw[h2,show decide (b=-1)=false by simp;omega]
    rfl
   ·rw[hc];simp
   ·cases h6:decide (6<=r)<;>rw[h6]at hc<;>simp at hc<;>simp[hc]
  rw[this,Bool.or_false]
 |false=>
  rw[cond_false]
  refine⟨rfl,gA _ _,fun m hm hb=>?_,fun b hb=>?_⟩
  ·have hb:bt (uor (cI (cy f r a [[0,fwd bl]]) occ) (cI (cy f r a [[0,2*fwd bl]]) occ)) m=true:=hb
   rw[eY hA hB,Bool.or_eq_true]at hb
   exact hb.elim (onA m hm) (onB' m hm)
  ·show bt (uor (cI (cy f r a [[0,fwd bl]]) occ) (cI (cy f r a [[0,2*fwd bl]]) occ)) b.toNat=_
   rw[eY hA hB,vA b hb,vB b hb]
   simp only[Bool.or_eq_false_iff,decide_eq_false_iff_not,Bool.not_eq_false',Bool.and_eq_true,decide_eq_true_eq]at hc
   obtain⟨h1,h2,h3⟩:=hc
   rw[hz,not_or]at h1
   have h4:hasB occ (one4 f r bl a)=false:=by simpa using h1.2
   unfold cq
   rw[h4,h3]
   simp[h2]
end Go.Ab
namespace Go.Ab
open Go.Proofs
theorem yR(b:Int):∀ (L:List Int) (s:Int),Uk s->Uk (fe b L s)
 |[],_,h=>h
 |x::L,s,h=>by
  rw[fe]
  cases decide (x=b) with
  |true=>exact h
  |false=>exact yR b L _ (gA _ _)
theorem yU{b:Int}:∀ (L:List Int) (s:Int),(∀ x∈L,0<=x/\x<64)->Uk s->∀ m:Nat,bt (fe b L s) m=(bt s m||decide ((m:Int)∈L.take (idxL b L)))
 |[],s,_,_,m=>by simp[fe,idxL]
 |x::L,s,hL,hs,m=>by
  have hx:=hL x (by simp)
  rw[fe,idxL]
  cases hb:decide (x=b) with
  |true=>simp
  |false=>
   rw[cond_false,cond_false,yU L _ (fun y hy=>hL y (by simp[hy])) (gA _ _),eY hs (gJ _ _),gZ hx.1 hx.2,Bool.or_assoc,List.take_succ_cons]
   congr 1
   by_cases e:(m:Int)=x
   ·simp[e]
   ·have e':¬ x=(m:Int):=fun h=>e h.symm
    simp[e,e']
theorem Ik{f r a b:Int}(ha:aj f r a=true)(hb:aj f r b=true)(h:(bw f a b).2.2=true):dirR f r a b=((bw f a b).1,(bw f a b).2.1,0)/\bS f r a b=(ofL (bT f r a b) 0,0):=by
 have hp:=eX ha
 have hq:=eX hb
 obtain⟨e1,e2⟩:=iE ha hb
 have hlh:=si ha hb h
 rcases tx ha hb with⟨e,_⟩|⟨e,hl⟩
 ·rw[e]at h;cases h
 ·have hd:dirR f r a b=((bw f a b).1,(bw f a b).2.1,0):=by
   unfold dirR
   rw[ha,hb,e,e1,e2]
   have:(decide (a=b)||!decide (px f b-px f a=0)&&!decide (py f b-py f a=0)&&!decide (px f b-px f a=py f b-py f a)&&!decide (px f b-px f a=IntKind.i64.wrap (0-(py f b-py f a))))=false:=by
    rw[aI (by omega) (by omega)]
    simp only[Bool.or_eq_false_iff,Bool.and_eq_false_iff,decide_eq_false_iff_not,Bool.not_eq_false',decide_eq_true_eq]
    rw[nV ha hb]
    unfold lM at hl
    omega
   simp only[this,Bool.and_true,cond_true,cond_false]
  refine⟨hd,?_⟩
  unfold bS
  rw[hd]
  simp only[decide_true,cond_true]
  have hz:rayL f r a (bw f a b).1 (bw f a b).2.1=ez f r a b:=by rw[IQ,BI hlh.1];rfl
  have hbd:∀ x∈ez f r a b,0<=x/\x<64:=fun x hx=>⟨(aS (eo ha hx)).1,(aS (eo ha hx)).2.2⟩
  have hL:bT f r a b=(ez f r a b).take (idxL b (ez f r a b)):=by unfold bT;rw[hlh.2];rfl
  rw[hz,hL]
  congr 1
  have hbd2:∀ x∈(ez f r a b).take (idxL b (ez f r a b)),0<=x/\x<64:=fun x hx=>hbd x (List.mem_of_mem_take hx)
  obtain⟨k1,k2⟩:=qc _ 0 hbd2 uk_0
  refine tH (yR _ _ _ uk_0) k1 fun n _=>?_
  rw[yU _ _ hbd uk_0,k2]
theorem zj{f r a b:Int}(ha:aj f r a=true):(bT f r a b).length<=8/\∀ x∈bT f r a b,aj f r x=true:=by
 refine⟨pS f r a b,fun x hx=>?_⟩
 unfold bT at hx
 cases h:hasL b (ez f r a b) with
 |false=>rw[h]at hx;simp at hx
 |true=>rw[h,cond_true]at hx;exact eo ha (List.mem_of_mem_take hx)
end Go.Ab
namespace Go.Ab
open Go.Proofs
end Go.Ab
namespace Go.Ab
open Go.Proofs
def Btw(f a b c:Int):Prop:=∃ i k:Nat,∃ df dr:Int,unit df dr/\1<=i/\i<k/\k<=8/\px f b=px f a+k*df/\py f b=py f a+k*dr/\px f c=px f a+i*df/\py f c=py f a+i*dr
theorem Btw.symm{f a b c:Int}(h:Btw f a b c):Btw f b a c:=by
 obtain⟨i,k,df,dr,hu,h1,h2,h3,h4,h5,h6,h7⟩:=h
 refine⟨k-i,k,-df,-dr,?_,by omega,by omega,h3,?_⟩
 ·unfold unit at hu ⊢;omega
 ·rcases dS hu with⟨rfl,rfl⟩|⟨rfl,rfl⟩|⟨rfl,rfl⟩|⟨rfl,rfl⟩|⟨rfl,rfl⟩|⟨rfl,rfl⟩|⟨rfl,rfl⟩|⟨rfl,rfl⟩<;>omega
end Go.Ab
set_option maxHeartbeats 4000000
namespace Go.Ab
open Go.Proofs
section
variable{kCa kDb:Bool}
theorem JB(x:Int)(y:Bool)(w:World)(b:Bool):(Instr.checkKey b 10000 102 (.agg #[.int .i64 x,.bool y])).run PP w=.ok () w:=by
 kernel_rfl
theorem sK:PP.underlying 99=some (.map 102 9):=by kernel_rfl
theorem kq:(match PP.underlying 102 with|some (.array _ _)|some (.struct _)=>true|_=>false)=true:=by kernel_rfl
theorem hH{x:Int}{b:Bool}{uk:Value}(h:∀ ρ,VR ρ (.agg [I x,.bool b]) uk):uk=.agg #[.int .i64 x,.bool b]:=by
 obtain⟨p,q,rfl,h1,h2⟩:=agg2 h
 have h1:p=.int .i64 x:=h1
 have h2:q=.bool b:=h2
 rw[h1,h2]
theorem ij{x:Int}{b:Bool}{uk:Value}(h:∀ ρ,VR ρ (.agg [I x,.bool b]) uk):Bh PP 99 102 uk:=by
 rw[hH h]
 exact⟨⟨_,sK⟩,fun w c=>JB x b w c⟩
def txE:Mp:=[(.agg [I 0,.lit false],.str [42]),(.agg [I (-1),.lit true],.str [48,45,49]),(.agg [I 0,.lit true],.str [49,47,50,45,49,47,50]),(.agg [I 1,.lit true],.str [49,45,48])]
theorem tc:HO (GGx kCa kDb) PP 56 txE:=by
 have hE:=aA (kCa:=kCa) (kDb:=kDb) (cts:=[]) (inl:=[]) trivial trivial
 refine MW hE (fn:=Tryz.f56) Tryz.func56 rfl fun n B S w0 ρ0=>?_
 refine YM.seq (YM.seg hE 2 ?_)
 refine ag ?_
 refine YM.seq (YM.region ?_)
 refine YO.make rfl rfl rfl rfl rfl rfl ?_
 refine YO.seg hE 2 [_] [_,_,_] rfl ?_
 refine ag ?_
 refine YO.insert (kt:=102) (K:=.agg [I 0,.lit false]) (X:=.str [42]) (.inl rfl) rfl rfl rfl rfl rfl rfl (fun uk hk=>⟨ij (b:=false) (x:=0) hk,fun l hl w=>?_⟩) ?_
 ·exact eN hE.ok kq hk (by decide) hl [] rfl w
 refine YO.seg hE 2 [_,_] [] rfl ?_
 refine ag ?_
 refine YO.nil ?_
 refine YM.seq (YM.seq (YM.seg hE 2 ?_))
 repeat (first|refine ah ?_|refine ae (by first|rfl|(simp;done)) ?_)
 refine ag ?_
 refine YM.block (YM.loop (fun i:Nat=>(some (0,txE.take (i+1)),[(1,.yl 0),(7,.sl 1 0 3 none),(8,I 3),(9,I i)],[.gone,.vals true 1 [[.str [48,45,49]],[.str [49,47,50,45,49,47,50]],[.str [49,45,48]]]]))
  (fun i=>i<=3) (fun i=>3-i) 0 rfl ?_ (Nat.zero_le _) ?_)
 ·exact Ent.ren [0,1] [1,7,8,9] rfl rfl rfl
 intro i hi
 match i,hi with
 |0,_=>
  refine YM.seq (YM.seg hE 2 ?_)
  refine ag ?_
  refine YM.seq (YM.seg hE 2 ?_)
  refine av (fun _=>ag ?_) (fun h=>absurd h (by decide))
  refine YM.seq (YM.block (YM.seq (YM.seg hE 2 ?_)))
  repeat (first|refine ah ?_|refine ae (by first|rfl|(simp;done)) ?_)
  refine ag ?_
  refine YM.region ?_
  refine YO.seg hE 2 [_,_,_,_,_] [_] rfl ?_
  refine ag ?_
  refine YO.insert (kt:=102) (K:=.agg [I (-1),.lit true]) (X:=.str [48,45,49]) (.inr rfl) rfl rfl rfl rfl rfl rfl (fun uk hk=>⟨ij (b:=true) (x:=-1) hk,fun l hl w=>?_⟩) ?_
  ·exact(eN hE.ok kq hk (by decide) hl [false] rfl w).trans (by rw[gq rfl])
  refine YO.nil ?_
  refine YM.seg hE 2 ?_
  refine ag ⟨rfl,1,by decide,by decide,rfl,?_⟩
  exact Ent.ren [0,1] [1,7,8,9] rfl rfl rfl
 |1,_=>
  refine YM.seq (YM.seg hE 2 ?_)
  refine ag ?_
  refine YM.seq (YM.seg hE 2 ?_)
  refine av (fun _=>ag ?_) (fun h=>absurd h (by decide))
  refine YM.seq (YM.block (YM.seq (YM.seg hE 2 ?_)))
  repeat (first|refine ah ?_|refine ae (by first|rfl|(simp;done)) ?_)
  refine ag ?_
  refine YM.region ?_
  refine YO.seg hE 2 [_,_,_,_,_] [_] rfl ?_
  refine ag ?_
  refine YO.insert (kt:=102) (K:=.agg [I 0,.lit true]) (X:=.str [49,47,50,45,49,47,50]) (.inr rfl) rfl rfl rfl rfl rfl rfl (fun uk hk=>⟨ij (b:=true) (x:=0) hk,fun l hl w=>?_⟩) ?_
  ·exact(eN hE.ok kq hk (by decide) hl [false,false] rfl w).trans (by rw[gq rfl])
  refine YO.nil ?_
  refine YM.seg hE 2 ?_
  refine ag ⟨rfl,2,by decide,by decide,rfl,?_⟩
  exact Ent.ren [0,1] [1,7,8,9] rfl rfl rfl
 |2,_=>
  refine YM.seq (YM.seg hE 2 ?_)
  refine ag ?_
  refine YM.seq (YM.seg hE 2 ?_)
  refine av (fun _=>ag ?_) (fun h=>absurd h (by decide))
  refine YM.seq (YM.block (YM.seq (YM.seg hE 2 ?_)))
  repeat (first|refine ah ?_|refine ae (by first|rfl|(simp;done)) ?_)
  refine ag ?_
  refine YM.region ?_
  refine YO.seg hE 2 [_,_,_,_,_] [_] rfl ?_
  refine ag ?_
  refine YO.insert (kt:=102) (K:=.agg [I 1,.lit true]) (X:=.str [49,45,48]) (.inr rfl) rfl rfl rfl rfl rfl rfl (fun uk hk=>⟨ij (b:=true) (x:=1) hk,fun l hl w=>?_⟩) ?_
  ·exact(eN hE.ok kq hk (by decide) hl [false,false,false] rfl w).trans (by rw[gq rfl])
  refine YO.nil ?_
  refine YM.seg hE 2 ?_
  refine ag ⟨rfl,3,by decide,by decide,rfl,?_⟩
  exact Ent.ren [0,1] [1,7,8,9] rfl rfl rfl
 |3,_=>
  refine YM.seq (YM.seg hE 2 ?_)
  refine ag ?_
  refine YM.seq (YM.seg hE 2 ?_)
  refine av (fun h=>absurd h (by decide)) (fun _=>ag ?_)
  refine YM.seg hE 2 ?_
  exact ag ⟨.inr rfl,0,rfl,rfl⟩
 |k+4,h=>exact absurd h (by omega)
def txt(r:Int)(e:Bool):List UInt8×Bool:=bif decide (r=0)&&e==false then([42],true)else bif decide (r=-1)&&e==true then([48,45,49],true)else bif decide (r=0)&&e==true then([49,47,50,45,49,47,50],true)else bif decide (r=1)&&e==true then([49,45,48],true) else([],false)
theorem HK(w:World):(zeroValue 9).run PP w=.ok (.string ⟨#[]⟩) w:=by kernel_rfl
theorem HB{E:Env}(hE:E.Ok PP)(hT:∀ x:V×V,eqT E 8 102 x.1 x.2=eqT (EE kCa kDb [] []) 8 102 x.1 x.2){r:Int}{e:Bool}{uk:Value}(hk:∀ ρ,VR ρ (.agg [I r,.bool e]) uk){l:List MapEntry}(hl:fU txE l)(w:World) :
  (do let y <-Instr.findKey 102 uk l;match y with|some (_,v)=>pure (v,true)|none=>pure (<-zeroValue 9,false):Sem (Value×Bool)).run PP w=.ok (.string ⟨(txt r e).1.toArray⟩,(txt r e).2) w:=by
 have h1:=eN hE kq hk (by decide) hl [decide (r=0)&&e==false,decide (r=-1)&&e==true,decide (r=0)&&e==true,decide (r=1)&&e==true] (by
  simp only[txE,List.map_cons,List.map_nil]
  have:=fun y=>hT (.agg [I r,.bool e],y)
  dsimp only at this
  rw[this,this,this,this]
  rfl) w
 obtain⟨e0,l0,rfl,_,v0,e1,l1,rfl,_,v1,e2,l2,rfl,_,v2,e3,l3,rfl,_,v3,hl3⟩:=hl
 have hl3:l3=[]:=hl3
 subst hl3
 have v0:e0.val=.string ⟨#[42]⟩:=v0 fun _=>none
 have v1:e1.val=.string ⟨#[48,45,49]⟩:=v1 fun _=>none
 have v2:e2.val=.string ⟨#[49,47,50,45,49,47,50]⟩:=v2 fun _=>none
 have v3:e3.val=.string ⟨#[49,45,48]⟩:=v3 fun _=>none
 rw[Sem.run_bind,h1,Result.andThen_ok]
 unfold txt
 cases(decide (r=0)&&e==false) with
 |true=>simp only[eV,cond_true,v0];rfl
 |false=>
 cases(decide (r=-1)&&e==true) with
 |true=>simp only[eV,cond_true,cond_false,v1];rfl
 |false=>
 cases(decide (r=0)&&e==true) with
 |true=>simp only[eV,cond_true,cond_false,v2];rfl
 |false=>
 cases(decide (r=1)&&e==true) with
 |true=>simp only[eV,cond_true,cond_false,v3];rfl
 |false=>simp only[eV,cond_false,Sem.run_bind,HK,Result.andThen_ok];rfl
theorem Cr(r:Int)(e:Bool):aK (GGx kCa kDb) PP 24 [.int .i64 r,.bool e] [] (.tup [.str (bif (txt r e).2 then(txt r e).1 else[]),I (bif (txt r e).2 then 0 else 2)]) []:=by
 have hE:=aA (kCa:=kCa) (kDb:=kDb) (cts:=[]) (inl:=[]) trivial trivial
 refine mO hE (fn:=Tryz.f24) Tryz.func24 rfl rfl fun n B S w0 ρ0=>?_
 refine YM.seq (YM.seg hE 2 ?_)
 refine ag ?_
 refine YM.seq (YM.region ?_)
 refine YO.callM rfl rfl rfl (ent Tryz.func56 (by kernel_rfl) rfl) tc rfl rfl rfl rfl rfl ?_
 refine YO.seg hE 2 [_,_,_] [_,_,_,_,_,_] rfl ?_
 refine ag ?_
 refine YO.lookup (kt:=102) (K:=.agg [I r,.bool e]) (v:=.tup [.str (txt r e).1,.bool (txt r e).2]) rfl rfl rfl rfl rfl rfl rfl (fun uk hk=>⟨ij hk,fun l hl=>⟨9,.string ⟨(txt r e).1.toArray⟩,(txt r e).2,sK,fun w=>HB hE.ok (fun _=>rfl) hk hl w,fun ρ=>⟨_,rfl,_,_,rfl,rfl,_,_,rfl,rfl,rfl⟩⟩⟩) ?_
 refine YO.seg hE 2 [_,_,_,_,_] [] rfl ?_
 refine ag ?_
 refine YO.nil ?_
 refine YM.seg hE 2 ?_
 refine av (fun h=>ag ?_) (fun h=>ag ?_)
 ·have h:(txt r e).2=false:=by simpa using h
  exact⟨_,_,Ent.refl _ _ _,aL [] (.inr rfl) rfl rfl rfl rfl (by rw[h];rfl)⟩
 ·have h:(txt r e).2=true:=by simpa using h
  exact⟨_,_,Ent.refl _ _ _,aL [] (.inr rfl) rfl rfl rfl rfl (by rw[h];rfl)⟩
end
end Go.Ab
namespace Go.Ab
open Go.Proofs Go.RowKit
section
variable{kCa kDb:Bool}
def endV(check move:Bool):Int:=bif move then(bif check then 1 else 0) else(bif check then 2 else 3)
theorem Io(x y:Bool)(w:World)(b:Bool):(Instr.checkKey b 10000 119 (.agg #[.bool x,.bool y])).run PP w=.ok () w:=by kernel_rfl
theorem Il:PP.underlying 172=some (.map 119 29):=by kernel_rfl
theorem Is:(match PP.underlying 119 with|some (.array _ _)|some (.struct _)=>true|_=>false)=true:=by kernel_rfl
theorem Mu(x y x' y':Bool)(w:World):(Op.equal 119 (.agg #[.bool x,.bool y]) (.agg #[.bool x',.bool y'])).run PP w=.ok (x==x'&&y==y') w:=by
 cases x<;>cases y<;>cases x'<;>cases y'<;>kernel_rfl
def jOf(x y:Bool):Nat:=bif y then(bif x then 4 else 2) else(bif x then 6 else 8)
structure EI(g:Nat->Bool)(l:List MapEntry):Prop where
 all:∀ e∈l,∃ x y,e.key=.agg #[.bool x,.bool y]/\e.val=.int .i64 (endV x y)/\g (jOf x y)=true
 has:∀ x y,g (jOf x y)=true->∃ e∈l,e.key=.agg #[.bool x,.bool y]
theorem qy{g:Nat->Bool}{x y:Bool}(w:World):∀ (l:List MapEntry) (i:Nat),(∀ e∈l,∃ x y,e.key=.agg #[.bool x,.bool y]/\e.val=.int .i64 (endV x y)/\g (jOf x y)=true) ->
  ((∃ e∈l,e.key=.agg #[.bool x,.bool y])->∃ k,(Instr.findAsking 119 (.agg #[.bool x,.bool y]) l i).run PP w=.ok (some (k,.int .i64 (endV x y))) w) /\
  ((¬ ∃ e∈l,e.key=.agg #[.bool x,.bool y])->(Instr.findAsking 119 (.agg #[.bool x,.bool y]) l i).run PP w=.ok none w)
 |[],i,_=>⟨fun⟨e,he,_⟩=>by simp at he,fun _=>rfl⟩
 |e::l,i,h=>by
  obtain⟨x',y',h1,h2,h3⟩:=h e (by simp)
  have he:(Op.equal 119 (.agg #[.bool x,.bool y]) e.key).run PP w=.ok (x==x'&&y==y') w:=by rw[h1];exact Mu x y x' y' w
  obtain⟨q1,q2⟩:=qy w l (i+1) (fun e he=>h e (by simp[he]))
  by_cases hq:x=x'/\y=y'
  ·obtain⟨rfl,rfl⟩:=hq
   refine⟨fun _=>⟨i,?_⟩,fun hn=>absurd ⟨e,by simp,h1⟩ hn⟩
   simp only[Instr.findAsking,Sem.run_bind,he,Result.andThen_ok,beq_self_eq_true,Bool.and_self,if_true,h2]
   rfl
  ·have hb:(x==x'&&y==y')=false:=by
    cases x<;>cases x'<;>cases y<;>cases y'<;>simp at hq ⊢
   have hne:e.key≠.agg #[.bool x,.bool y]:=fun e2=>hq (by
    rw[h1]at e2
    simp only[Value.agg.injEq,Array.mk.injEq,List.cons.injEq,Value.bool.injEq,and_true]at e2
    exact⟨e2.1.symm,e2.2.symm⟩)
   have hrun:(Instr.findAsking 119 (.agg #[.bool x,.bool y]) (e::l) i).run PP w=(Instr.findAsking 119 (.agg #[.bool x,.bool y]) l (i+1)).run PP w:=by
    simp only[Instr.findAsking,Sem.run_bind,he,Result.andThen_ok,hb,Bool.false_eq_true,if_false]
   rw[hrun]
   refine⟨fun⟨e',he',hk⟩=>q1 ?_,fun hn=>q2 fun⟨e',he',hk⟩=>hn ⟨e',by simp[he'],hk⟩⟩
   rcases List.mem_cons.1 he' with rfl|he'
   ·exact absurd hk hne
   ·exact⟨e',he',hk⟩
def updB(g:Nat->Bool)(i:Nat):Nat->Bool:=fun j=>match Nat.beq j i with
 |true=>true
 |false=>g j
theorem cT{listed:List Bool}{g:Nat->Bool}(h:∀ j,listed.getD j false=g j){i:Nat}(hi:i<listed.length):∀ j,(listed.set i true).getD j false=updB g i j:=by
 intro j
 unfold updB
 simp only[List.getD_eq_getElem?_getD]at h ⊢
 cases hb:Nat.beq j i with
 |true=>
  have:=Nat.eq_of_beq_eq_true hb
  subst this
  simp[hi]
 |false=>
  have:i≠j:=fun e=>Nat.ne_of_beq_eq_false hb e.symm
  rw[List.getElem?_set_ne this]
  exact h j
theorem BU{g:Nat->Bool}{i j:Nat}(h:g j=true):updB g i j=true:=by
 unfold updB;split<;>first|rfl|exact h
structure EnL(a b:Bool)(g:Nat->Bool)(tm:Tm):Prop where
 l1:look tm 1=.ptr 0 0 0
 l3:g 0=true->look tm 3=.yl 1
 l4:g 1=true->look tm 4=.agg [.lit false,.lit true]
 l5:g 3=true->look tm 5=.agg [.lit true,.lit true]
 l6:g 5=true->look tm 6=.agg [.lit true,.lit false]
 l7:g 7=true->look tm 7=.agg [.lit false,.lit false]
 l8:g 9=true->look tm 8=.yl 1
 l9:g 10=true->look tm 9=.agg [.bool a,.bool b]
 l10:g 11=true->look tm 10=I (endV a b)
 l2:g 12=true->look tm 2=I (endV a b)
 d9:g 9=true->g 0=true/\g 2=true/\g 4=true/\g 6=true/\g 8=true
section
variable{a b:Bool}{g:Nat->Bool}{tm:Tm}
theorem EnL.p0(h:EnL a b g tm):EnL a b (updB g 0) ((3,.yl 1)::tm):=⟨h.l1,fun _=>rfl,h.l4,h.l5,h.l6,h.l7,h.l8,h.l9,h.l10,h.l2,fun q=>⟨rfl,(h.d9 q).2⟩⟩
theorem EnL.p1(h:EnL a b g tm):EnL a b (updB g 1) ((4,.agg [.lit false,.lit true])::tm):=⟨h.l1,h.l3,fun _=>rfl,h.l5,h.l6,h.l7,h.l8,h.l9,h.l10,h.l2,h.d9⟩
theorem EnL.p3(h:EnL a b g tm):EnL a b (updB g 3) ((5,.agg [.lit true,.lit true])::tm):=⟨h.l1,h.l3,h.l4,fun _=>rfl,h.l6,h.l7,h.l8,h.l9,h.l10,h.l2,h.d9⟩
theorem EnL.p5(h:EnL a b g tm):EnL a b (updB g 5) ((6,.agg [.lit true,.lit false])::tm):=⟨h.l1,h.l3,h.l4,h.l5,fun _=>rfl,h.l7,h.l8,h.l9,h.l10,h.l2,h.d9⟩
theorem EnL.p7(h:EnL a b g tm):EnL a b (updB g 7) ((7,.agg [.lit false,.lit false])::tm):=⟨h.l1,h.l3,h.l4,h.l5,h.l6,fun _=>rfl,h.l8,h.l9,h.l10,h.l2,h.d9⟩
theorem EnL.p2(h:EnL a b g tm):EnL a b (updB g 2) tm:=⟨h.l1,h.l3,h.l4,h.l5,h.l6,h.l7,h.l8,h.l9,h.l10,h.l2,fun q=>⟨(h.d9 q).1,rfl,(h.d9 q).2.2⟩⟩
theorem EnL.p4(h:EnL a b g tm):EnL a b (updB g 4) tm:=⟨h.l1,h.l3,h.l4,h.l5,h.l6,h.l7,h.l8,h.l9,h.l10,h.l2,fun q=>⟨(h.d9 q).1,(h.d9 q).2.1,rfl,(h.d9 q).2.2.2⟩⟩
theorem EnL.p6(h:EnL a b g tm):EnL a b (updB g 6) tm:=⟨h.l1,h.l3,h.l4,h.l5,h.l6,h.l7,h.l8,h.l9,h.l10,h.l2,fun q=>⟨(h.d9 q).1,(h.d9 q).2.1,(h.d9 q).2.2.1,rfl,(h.d9 q).2.2.2.2⟩⟩
theorem EnL.p8(h:EnL a b g tm):EnL a b (updB g 8) tm:=⟨h.l1,h.l3,h.l4,h.l5,h.l6,h.l7,h.l8,h.l9,h.l10,h.l2,fun q=>⟨(h.d9 q).1,(h.d9 q).2.1,(h.d9 q).2.2.1,(h.d9 q).2.2.2.1,rfl⟩⟩
theorem EnL.p9(h:EnL a b g tm)(hd:g 0=true/\g 2=true/\g 4=true/\g 6=true/\g 8=true):EnL a b (updB g 9) ((8,.yl 1)::tm):=⟨h.l1,h.l3,h.l4,h.l5,h.l6,h.l7,fun _=>rfl,h.l9,h.l10,h.l2,fun _=>hd⟩
theorem EnL.p10(h:EnL a b g tm):EnL a b (updB g 10) ((9,.agg [.bool a,.bool b])::tm):=⟨h.l1,h.l3,h.l4,h.l5,h.l6,h.l7,h.l8,fun _=>rfl,h.l10,h.l2,h.d9⟩
theorem EnL.p11(h:EnL a b g tm):EnL a b (updB g 11) ((10,I (endV a b))::tm):=⟨h.l1,h.l3,h.l4,h.l5,h.l6,h.l7,h.l8,h.l9,fun _=>rfl,h.l2,h.d9⟩
theorem EnL.p12(h:EnL a b g tm):EnL a b (updB g 12) ((2,I (endV a b))::tm):=⟨h.l1,h.l3,h.l4,h.l5,h.l6,h.l7,h.l8,h.l9,h.l10,fun _=>rfl,h.d9⟩
end
def EnM(B:Nat)(g:Nat->Bool)(ρ:Ren)(gm:List (Nat×Obj)):Prop:=match g 0 with
 |false=>gm=[]/\ρ 1=none/\∀ x y,g (jOf x y)=false
 |true=>∃ k l c,gm=[(k,.map l c)]/\ρ 1=some (mrg k)/\B<=k/\EI g l.toList
theorem EnM.same{B:Nat}{g g':Nat->Bool}{ρ:Ren}{gm:List (Nat×Obj)}(h:EnM B g ρ gm)(h0:g' 0=g 0)(h1:∀ x y,g' (jOf x y)=g (jOf x y)):EnM B g' ρ gm:=by
 unfold EnM at h ⊢
 rw[h0]
 cases hg:g 0 with
 |false=>rw[hg]at h;exact⟨h.1,h.2.1,fun x y=>by rw[h1];exact h.2.2 x y⟩
 |true=>
  rw[hg]at h
  obtain⟨k,l,c,q1,q2,q3,q4⟩:=h
  exact⟨k,l,c,q1,q2,q3,fun e he=>by obtain⟨x,y,z1,z2,z3⟩:=q4.all e he;exact⟨x,y,z1,z2,by rw[h1];exact z3⟩,fun x y hg=>q4.has x y (by rw[<-h1];exact hg)⟩
theorem Kx{x y x' y':Bool}(h:jOf x y=jOf x' y'):x=x'/\y=y':=by
 cases x<;>cases y<;>cases x'<;>cases y'<;>simp[jOf]at h ⊢
def enI(E:Env)(N B S:Nat)(w0:World)(ρ0:Ren)(ca cb:Bool)(listed:List Bool)(a:Act)(w:World):Prop:=
 listed.length=13/\∃ g gm ρ tm,(∀ j,listed.getD j false=g j)/\Rel E.G B w0 S N [] (gm++[]) ρ tm [.cells true [.bool ca,.bool cb],.gone] a w/\ρ0.leB 0 ρ/\EnL ca cb g tm/\EnM B g ρ gm
section
variable{N B S:Nat}{w0:World}{ρ ρ0:Ren}{a:Act}{w:World}{E:Env}{gs:List (Nat×Obj)}{tm:Tm}{hp:List O}
theorem Mn(hE:E.Ok PP){o:Oper}{v:V}{dst:Nat}(hrel:Rel E.G B w0 S N [] gs ρ tm hp a w)(hv:evOp E tm hp o.op=.val none v)(hdst:o.dst=some dst)(hd:dst<N):∃ u,(execOp a.eval o).run PP w=.ok (.value u) w/\Rel E.G B w0 S N [] gs ρ ((dst,v)::tm) hp (a.put o.dst u) w:=by
 obtain⟨u,h1,h2⟩:=fW hE hrel.hr.hv hrel.tr hv (fun b h=>by cases h)
 exact⟨u,h1,by rw[hdst];exact hrel.val hd h2⟩
theorem JW{o:Oper}{gm:List (Nat×Obj)}{ca cb:Bool}{g:Nat->Bool}(hrel:Rel E.G B w0 S N [] (gm++[]) ρ tm [.cells true [.bool ca,.bool cb],.gone] a w)(hM:EnM B g ρ gm)(h0:g 0=false)(ho:o.op=.makeMap 172 none)(hdst:o.dst=some 3)(hd:3<N) :
  ∃ w' gm' ρ',(execOp a.eval o).run PP w=.ok (.value (.map (some w.heap.size))) w'/\Rel E.G B w0 S N [] (gm'++[]) ρ' ((3,.yl 1)::tm) [.cells true [.bool ca,.bool cb],.gone] (a.put o.dst (.map (some w.heap.size))) w'/\ρ.le ρ'/\EnM B (updB g 0) ρ' gm':=by
 unfold EnM at hM
 rw[h0]at hM
 obtain⟨rfl,hno,hz⟩:=hM
 have hb:Below w.heap.size w (w.alloc (.map #[] 0)):=(Below.refl _ w).alloc (Nat.le_refl _) _
 have hfr:=hrel.hr.frame hb.size (fun k hk=>hb.block k hk)
 have hle:=Ren.le_add hno (mrg w.heap.size)
 have hl:=hfr.lay (r:=mrg w.heap.size) (b:=1) (by simp) rfl hno
 obtain⟨ms,d1,d2,d3,d4⟩:=hrel.df
 have hBw:B<=w.heap.size:=Nat.le_trans hrel.bs hrel.bel.size
 have hko:∀ p:Nat×Obj,w.heap[p.1]?=some p.2->(w.alloc (.map #[] 0)).heap[p.1]?=some p.2:=fun p hp=>(hb.block _ (Array.getElem?_eq_some_iff.1 hp).1).trans hp
 refine⟨w.alloc (.map #[] 0),[(w.heap.size,.map #[] 0)],ρ.add 1 (mrg w.heap.size),?_,?_,hle,?_⟩
 ·obtain⟨_,op,_,_,_,_⟩:=o
  dsimp only at ho
  subst ho
  rfl
 ·rw[hdst]
  refine⟨(hrel.tr.mono hle).put (by rw[hrel.sz];exact hd) ⟨_,Ren.add_same _ _ _,rfl⟩,hl,hrel.bel.trans (hb.mono hBw),by simp[Act.put,hrel.sz],⟨ms,by simpa[Act.put]using d1,fun p hp=>⟨hko p (d2 p hp).1,(d2 p hp).2⟩,d3,d4⟩,fun p hp=>?_,hrel.bs,hrel.ss,Nat.le_trans hrel.sw hb.size⟩
  have hp:p=(w.heap.size,.map #[] 0):=by simpa using hp
  subst hp
  exact⟨World.alloc_heap_new w _,rfl⟩
 ·have hall:∀ x y,updB g 0 (jOf x y)=false:=fun x y=>by
   have:updB g 0 (jOf x y)=g (jOf x y):=by cases x<;>cases y<;>rfl
   rw[this];exact hz x y
  unfold EnM
  rw[show updB g 0 0=true from rfl]
  exact⟨w.heap.size,#[],0,rfl,Ren.add_same _ _ _,hBw,fun e he=>by simp at he,fun x y h=>by rw[hall]at h;cases h⟩
theorem EJ{o:Oper}{gm:List (Nat×Obj)}{ca cb:Bool}{g:Nat->Bool}{ok ov:Operand}{t i:Nat}(_hE:E.Ok PP)(hrel:Rel E.G B w0 S N [] (gm++[]) ρ tm hp a w)(hL:EnL ca cb g tm)(hM:EnM B g ρ gm)(x y:Bool)(h0:g 0=true)(hgi:g i=false)(hi:jOf x y=i)
  (ho:o.op=.insert 172 (.tmp 3) ok ov) (hok:ok=.tmp t) (hk:look tm t=.agg [.lit x,.lit y]) (hov:ov=.const (.int .i64 (endV x y))) (hdst:o.dst=none) :
  ∃ w',(execOp a.eval o).run PP w=.ok .skip w'/\(∃ gm',Rel E.G B w0 S N [] (gm'++[]) ρ tm hp (a.put o.dst undef) w'/\EnM B (updB g i) ρ gm'):=by
 subst hok;subst hov
 unfold EnM at hM
 rw[h0]at hM
 obtain⟨k,l,cl,rfl,q2,q4,q6⟩:=hM
 have em:a.eval (.tmp 3)=.map (some k):=by
  have h3:=hrel.tr 3
  rw[hL.l3 h0]at h3
  obtain⟨r,hr,em⟩:=h3
  rw[q2]at hr
  cases hr
  exact em
 have ek:a.eval (.tmp t)=.agg #[.bool x,.bool y]:=by
  have h3:=hrel.tr t
  rw[hk]at h3
  obtain⟨us,e,u1,r,rfl,z1,u2,r2,rfl,z2,z3⟩:=h3
  have z1:u1=.bool x:=z1
  have z2:u2=.bool y:=z2
  have z3:r2=[]:=z3
  subst z1;subst z2;subst z3
  exact e
 have hhk:w.heap[k]?=some (.map l cl):=(hrel.gs (k,.map l cl) (by simp)).1
 have hnot:¬ ∃ e∈l.toList,e.key=.agg #[.bool x,.bool y]:=by
  rintro⟨e,he,hk⟩
  obtain⟨x',y',z1,z2,z3⟩:=q6.all e he
  rw[hk]at z1
  simp only[Value.agg.injEq,Array.mk.injEq,List.cons.injEq,Value.bool.injEq,and_true]at z1
  rw[<-z1.1,<-z1.2,hi,hgi]at z3
  cases z3
 have hfk:(Instr.findKey 119 (.agg #[.bool x,.bool y]) l.toList).run PP w=.ok none w:=by
  rw[run_findKey_eq w Is]
  exact(qy w l.toList 0 q6.all).2 hnot
 obtain⟨l',hl'⟩:∃ l',l'=l.push { key:=.agg #[.bool x,.bool y],val:=.int .i64 (endV x y),born:=cl }:=⟨_,rfl⟩
 have hrun:(Instr.mapUpdate 172 (.map (some k)) (.agg #[.bool x,.bool y]) (.int .i64 (endV x y))).run PP w=.ok () (w.putObj k (.map l' (cl+1))):=by
  simp only[Instr.mapUpdate,Sem.run_bind,run_underlying Il,Result.andThen_ok,rgm hhk,Io,hfk,rsm _ hhk,hl']
 obtain⟨ms,d1,d2,d3,d4⟩:=hrel.df
 have hlt:k<w.heap.size:=(Array.getElem?_eq_some_iff.1 hhk).1
 refine⟨w.putObj k (.map l' (cl+1)),?_,[(k,.map l' (cl+1))],⟨?_,hrel.hr.putObj hhk rfl,dw hrel.bel q4,?_,⟨ms,?_,d2.putObj (fun p hp e=>?_),d3,d4⟩,fun p hp=>?_,hrel.bs,hrel.ss,by simpa using hrel.sw⟩,?_⟩
 ·obtain⟨_,op,_,_,_,_⟩:=o
  dsimp only at ho
  subst ho
  simp only[execOp,em,ek,Sem.run_bind]
  show ((Instr.mapUpdate 172 (.map (some k)) (.agg #[.bool x,.bool y]) (.int .i64 (endV x y))).run PP w).andThen _=_
  rw[hrun];rfl
 ·rw[hdst];exact hrel.tr
 ·rw[hdst];exact hrel.sz
 ·rw[hdst];exact d1
 ·obtain⟨dd,_,rfl⟩:=List.mem_map.1 hp
  have x1:=(d2 (marked dd) hp).1
  rw[e,hhk]at x1
  simp[marked]at x1
 ·have hp:p=(k,.map l' (cl+1)):=by simpa using hp
  subst hp
  exact⟨World.putObj_heap_same hlt,rfl⟩
 ·have hi0:(i==0)=false:=by rw[<-hi];cases x<;>cases y<;>rfl
  unfold EnM
  rw[show updB g i 0=true from BU h0]
  refine⟨k,l',cl+1,rfl,q2,q4,?_,?_⟩
  ·intro e he
   rw[hl',Array.toList_push]at he
   rcases List.mem_append.1 he with he|he
   ·obtain⟨x',y',z1,z2,z3⟩:=q6.all e he
    exact⟨x',y',z1,z2,BU z3⟩
   ·obtain rfl:=List.mem_singleton.1 he
    exact⟨x,y,rfl,rfl,by rw[hi];unfold updB;simp⟩
  ·intro x' y' hg
   rw[hl',Array.toList_push]
   by_cases e:jOf x' y'=i
   ·obtain⟨rfl,rfl⟩:=Kx (e.trans hi.symm)
    exact⟨_,List.mem_append.2 (.inr (List.mem_singleton.2 rfl)),rfl⟩
   ·have:g (jOf x' y')=true:=by
     unfold updB at hg
     rw[show Nat.beq (jOf x' y') i=false from by
      cases hb:Nat.beq (jOf x' y') i with
      |false=>rfl
      |true=>exact absurd (Nat.eq_of_beq_eq_true hb) e]at hg
     exact hg
    obtain⟨e',he,hk⟩:=q6.has x' y' this
    exact⟨e',List.mem_append.2 (.inl he),hk⟩
end
theorem Dc{N B S:Nat}{w0 w:World}{ρ:Ren}{a:Act}{E:Env}{tm:Tm}{hp:List O}{o:Oper}{gm:List (Nat×Obj)}{ca cb:Bool}{g:Nat->Bool}(hrel:Rel E.G B w0 S N [] (gm++[]) ρ tm hp a w)(hL:EnL ca cb g tm)(hM:EnM B g ρ gm)(h9:g 9=true)(h10:g 10=true)
  (ho:o.op=.lookup 172 (.tmp 8) (.tmp 9) false):(execOp a.eval o).run PP w=.ok (.value (.int .i64 (endV ca cb))) w:=by
 obtain⟨h0,h2,h4,h6,h8⟩:=hL.d9 h9
 unfold EnM at hM
 rw[h0]at hM
 obtain⟨k,l,cl,rfl,q2,q4,q6⟩:=hM
 have em:a.eval (.tmp 8)=.map (some k):=by
  have h3:=hrel.tr 8
  rw[hL.l8 h9]at h3
  obtain⟨r,hr,em⟩:=h3
  rw[q2]at hr
  cases hr
  exact em
 have ek:a.eval (.tmp 9)=.agg #[.bool ca,.bool cb]:=by
  have h3:=hrel.tr 9
  rw[hL.l9 h10]at h3
  obtain⟨us,e,u1,r,rfl,z1,u2,r2,rfl,z2,z3⟩:=h3
  have z1:u1=.bool ca:=z1
  have z2:u2=.bool cb:=z2
  have z3:r2=[]:=z3
  subst z1;subst z2;subst z3
  exact e
 have hhk:w.heap[k]?=some (.map l cl):=(hrel.gs (k,.map l cl) (by simp)).1
 have hin:∃ e∈l.toList,e.key=.agg #[.bool ca,.bool cb]:=q6.has ca cb (by cases ca<;>cases cb<;>assumption)
 obtain⟨j,hj⟩:=(qy w l.toList 0 q6.all).1 hin
 have hfk:(Instr.findKey 119 (.agg #[.bool ca,.bool cb]) l.toList).run PP w=.ok (some (j,.int .i64 (endV ca cb))) w:=by
  rw[run_findKey_eq w Is];exact hj
 have hrun:(Instr.lookup 172 (.map (some k)) (.agg #[.bool ca,.bool cb]) false).run PP w=.ok (.int .i64 (endV ca cb)) w:=by
  simp only[Instr.lookup,Sem.run_bind,run_underlying Il,Result.andThen_ok,rgm hhk,Sem.run_pure,Io,hfk]
  rfl
 obtain⟨_,op,_,_,_,_⟩:=o
 dsimp only at ho
 subst ho
 simp only[execOp,em,ek,Sem.run_bind,hrun,Result.andThen_ok];rfl
def yF(o:Oper)(a:Act)(w:World)(I:Act->World->Prop):Prop:=(∃ u w',(execOp a.eval o).run PP w=.ok (.value u) w'/\I (a.put o.dst u) w')\/(∃ w',(execOp a.eval o).run PP w=.ok .skip w'/\I (a.put o.dst undef) w')
section
variable{N B S:Nat}{w0 w:World}{ρ:Ren}{a:Act}{E:Env}{tm:Tm}{o:Oper}{I:Act->World->Prop}{gm:List (Nat×Obj)}{ca cb:Bool}{g:Nat->Bool}
theorem nF(hE:E.Ok PP){hp:List O}{gs:List (Nat×Obj)}(hrel:Rel E.G B w0 S N [] gs ρ tm hp a w)(v:V)(dst:Nat)(hv:evOp E tm hp o.op=.val none v)(hdst:o.dst=some dst)(hd:Nat.blt dst N=true)(h:∀ a',Rel E.G B w0 S N [] gs ρ ((dst,v)::tm) hp a' w->I a' w):yF o a w I:=by
 obtain⟨u,e1,e2⟩:=Mn hE hrel hv hdst (aH hd)
 exact .inl ⟨u,w,e1,h _ e2⟩
theorem LM(hrel:Rel E.G B w0 S N [] (gm++[]) ρ tm [.cells true [.bool ca,.bool cb],.gone] a w)(hM:EnM B g ρ gm)(h0:g 0=false)(ho:o.op=.makeMap 172 none)(hdst:o.dst=some 3)(hd:Nat.blt 3 N=true)
  (h:∀ a' w' gm' ρ',Rel E.G B w0 S N [] (gm'++[]) ρ' ((3,.yl 1)::tm) [.cells true [.bool ca,.bool cb],.gone] a' w'->ρ.le ρ'->EnM B (updB g 0) ρ' gm'->I a' w'):yF o a w I:=by
 obtain⟨w',gm',ρ',e1,e2,e3,e4⟩:=JW hrel hM h0 ho hdst (aH hd)
 exact .inl ⟨_,w',e1,h _ _ _ _ e2 e3 e4⟩
theorem jB{hp:List O}{ok ov:Operand}(t i:Nat)(hE:E.Ok PP)(hrel:Rel E.G B w0 S N [] (gm++[]) ρ tm hp a w)(hL:EnL ca cb g tm)(hM:EnM B g ρ gm)(x y:Bool)(h0:g 0=true)(hgi:g i=false)(hi:jOf x y=i)
  (ho:o.op=.insert 172 (.tmp 3) ok ov) (hok:ok=.tmp t) (hk:look tm t=.agg [.lit x,.lit y]) (hov:ov=.const (.int .i64 (endV x y))) (hdst:o.dst=none)
  (h:∀ a' w' gm',Rel E.G B w0 S N [] (gm'++[]) ρ tm hp a' w'->EnM B (updB g i) ρ gm'->I a' w'):yF o a w I:=by
 obtain⟨w',e1,gm',e2,e3⟩:=EJ hE hrel hL hM x y h0 hgi hi ho hok hk hov hdst
 exact .inr ⟨w',e1,h _ _ _ e2 e3⟩
theorem ES{hp:List O}(hrel:Rel E.G B w0 S N [] (gm++[]) ρ tm hp a w)(hL:EnL ca cb g tm)(hM:EnM B g ρ gm)(h9:g 9=true)(h10:g 10=true)(ho:o.op=.lookup 172 (.tmp 8) (.tmp 9) false)(hdst:o.dst=some 10)(hd:Nat.blt 10 N=true)
  (h:∀ a',Rel E.G B w0 S N [] (gm++[]) ρ ((10,V.int .i64 (endV ca cb))::tm) hp a' w->I a' w):yF o a w I:=by
 refine .inl ⟨_,w,Dc hrel hL hM h9 h10 ho,h _ ?_⟩
 rw[hdst]
 exact hrel.val (aH hd) rfl
end
theorem Dt{listed:List Bool}(hk:∀ j,j<12->listed.getD j false=true)(l:List Edge)(h:(l.all fun e=>Nat.blt e.on 12)=true):(l.all fun e=>!Region.binds .any e||listed.getD e.on false)=true:=
 List.all_eq_true.2 fun e he=>by rw[hk e.on (aH (List.all_eq_true.1 h e he)),Bool.or_true]
theorem Ay(ca cb:Bool):aK (GGx kCa kDb) PP 77 [.agg [.bool ca,.bool cb]] [] (I (endV ca cb)) []:=by
 have hE:=aA (kCa:=kCa) (kDb:=kDb) (cts:=[]) (inl:=[]) trivial trivial
 refine mO hE (fn:=Tryz.f77) Tryz.func77 rfl rfl fun n B S w0 ρ0=>?_
 refine YM.seq (YM.seg hE 2 ?_)
 refine ag ?_
 refine YM.seq ?_
 rintro a w ⟨gm,ρ,hrel,hl0,_,h4⟩
 have h4:gm=[]:=h4
 subst h4
 refine wpIn_region_any hE.mixed ?_
 have hno:ρ 1=none:=hrel.hr.free 1 (by simp) (by decide)
 have hrel1:Rel (EE kCa kDb [] []).G B w0 S Tryz.f77.ntmps [] ([]++[]) ρ ((2,I 0)::(1,V.ptr 0 0 0)::bq 0 [V.agg [Bb ca,Bb cb]]) [.cells true [.bool ca,.bool cb],.gone] a w:=
  ⟨hrel.tr,hrel.hr.pad [.gone] (by simp[ax]),hrel.bel,hrel.sz,hrel.df,hrel.gs,hrel.bs,hrel.ss,hrel.sw⟩
 refine KI (enI (EE kCa kDb [] []) Tryz.f77.ntmps B S w0 ρ0 ca cb) ?_ ?_ ?_ _ (List.replicate 13 false) a _ ?_ ?_
 ·rintro listed a w ⟨hlen,g,gm,ρ,tm,hg,hr,hl0,hL,hM⟩ i hi
  obtain⟨hi1,hr2⟩:=List.mem_filter.1 hi
  have hi13:i<13:=List.mem_range.1 hi1
  have gi:∀ {j},listed.getD j true=false->j<13->g j=false:=fun {j} h hj=>by
   rw[<-hg]
   simp only[List.getD_eq_getElem?_getD]at h ⊢
   rw[List.getElem?_eq_getElem (by omega)]at h ⊢
   exact h
  have hjj:∀ {i},(∀ x y,jOf x y≠i)->∀ x y,updB g i (jOf x y)=g (jOf x y):=fun {i} h x y=>by
   unfold updB
   rw[show Nat.beq (jOf x y) i=false from by
    cases hb:Nat.beq (jOf x y) i with
    |false=>rfl
    |true=>exact absurd (Nat.eq_of_beq_eq_true hb) (h x y)]
  have jn:∀ {i:Nat},i≠2->i≠4->i≠6->i≠8->∀ x y,jOf x y≠i:=fun {i} a1 a2 a3 a4 x y=>by cases x<;>cases y<;>simp[jOf]<;>omega
  match i,hi13 with
  |0,_=>
   have hh:(!listed.getD 0 true&&true)=true:=hr2
   simp only[Bool.and_true,Bool.not_eq_true']at hh
   refine⟨_,rfl,rfl,rfl,?_⟩
   exact LM hr hM (gi hh (by omega)) rfl rfl rfl fun a' w' gm' ρ' e2 e3 e4=>⟨by simpa using hlen,updB g 0,gm',ρ',_,cT hg (by omega),e2,Ren.leB_trans hl0 e3.leB,hL.p0,e4⟩
  |1,_=>
   refine⟨_,rfl,rfl,rfl,?_⟩
   exact nF hE.ok hr (.agg [.lit false,.lit true]) 4 rfl rfl rfl fun a' e2=>⟨by simpa using hlen,updB g 1,gm,ρ,_,cT hg (by omega),e2,hl0,hL.p1,hM.same rfl (hjj (jn (by omega) (by omega) (by omega) (by omega)))⟩
  |3,_=>
   refine⟨_,rfl,rfl,rfl,?_⟩
   exact nF hE.ok hr (.agg [.lit true,.lit true]) 5 rfl rfl rfl fun a' e2=>⟨by simpa using hlen,updB g 3,gm,ρ,_,cT hg (by omega),e2,hl0,hL.p3,hM.same rfl (hjj (jn (by omega) (by omega) (by omega) (by omega)))⟩
  |5,_=>
   refine⟨_,rfl,rfl,rfl,?_⟩
   exact nF hE.ok hr (.agg [.lit true,.lit false]) 6 rfl rfl rfl fun a' e2=>⟨by simpa using hlen,updB g 5,gm,ρ,_,cT hg (by omega),e2,hl0,hL.p5,hM.same rfl (hjj (jn (by omega) (by omega) (by omega) (by omega)))⟩
  |7,_=>
   refine⟨_,rfl,rfl,rfl,?_⟩
   exact nF hE.ok hr (.agg [.lit false,.lit false]) 7 rfl rfl rfl fun a' e2=>⟨by simpa using hlen,updB g 7,gm,ρ,_,cT hg (by omega),e2,hl0,hL.p7,hM.same rfl (hjj (jn (by omega) (by omega) (by omega) (by omega)))⟩
  |2,_=>
   have hh:(!listed.getD 2 true&&(listed.getD 0 false&&(listed.getD 1 false&&true)))=true:=hr2
   simp only[Bool.and_eq_true,Bool.not_eq_true',and_true]at hh
   obtain⟨h1,h2,h3⟩:=hh
   rw[hg]at h2 h3
   refine⟨_,rfl,rfl,rfl,?_⟩
   exact jB 4 2 hE.ok hr hL hM false true h2 (gi h1 (by omega)) rfl rfl rfl (hL.l4 h3) rfl rfl fun a' w' gm' e2 e3=>⟨by simpa using hlen,updB g 2,gm',ρ,tm,cT hg (by omega),e2,hl0,hL.p2,e3⟩
  |4,_=>
   have hh:(!listed.getD 4 true&&(listed.getD 0 false&&(listed.getD 3 false&&true)))=true:=hr2
   simp only[Bool.and_eq_true,Bool.not_eq_true',and_true]at hh
   obtain⟨h1,h2,h3⟩:=hh
   rw[hg]at h2 h3
   refine⟨_,rfl,rfl,rfl,?_⟩
   exact jB 5 4 hE.ok hr hL hM true true h2 (gi h1 (by omega)) rfl rfl rfl (hL.l5 h3) rfl rfl fun a' w' gm' e2 e3=>⟨by simpa using hlen,updB g 4,gm',ρ,tm,cT hg (by omega),e2,hl0,hL.p4,e3⟩
  |6,_=>
   have hh:(!listed.getD 6 true&&(listed.getD 0 false&&(listed.getD 5 false&&true)))=true:=hr2
   simp only[Bool.and_eq_true,Bool.not_eq_true',and_true]at hh
   obtain⟨h1,h2,h3⟩:=hh
   rw[hg]at h2 h3
   refine⟨_,rfl,rfl,rfl,?_⟩
   exact jB 6 6 hE.ok hr hL hM true false h2 (gi h1 (by omega)) rfl rfl rfl (hL.l6 h3) rfl rfl fun a' w' gm' e2 e3=>⟨by simpa using hlen,updB g 6,gm',ρ,tm,cT hg (by omega),e2,hl0,hL.p6,e3⟩
  |8,_=>
   have hh:(!listed.getD 8 true&&(listed.getD 0 false&&(listed.getD 7 false&&true)))=true:=hr2
   simp only[Bool.and_eq_true,Bool.not_eq_true',and_true]at hh
   obtain⟨h1,h2,h3⟩:=hh
   rw[hg]at h2 h3
   refine⟨_,rfl,rfl,rfl,?_⟩
   exact jB 7 8 hE.ok hr hL hM false false h2 (gi h1 (by omega)) rfl rfl rfl (hL.l7 h3) rfl rfl fun a' w' gm' e2 e3=>⟨by simpa using hlen,updB g 8,gm',ρ,tm,cT hg (by omega),e2,hl0,hL.p8,e3⟩
  |9,_=>
   have hh:(!listed.getD 9 true&&(listed.getD 0 false&&(listed.getD 1 false&&(listed.getD 2 false&&(listed.getD 3 false&&(listed.getD 4 false&&(listed.getD 5 false&&(listed.getD 6 false&&(listed.getD 7 false&&(listed.getD 8 false&&true))))))))))=true:=hr2
   simp only[Bool.and_eq_true,Bool.not_eq_true',and_true]at hh
   obtain⟨h1,k0,k1,k2,k3,k4,k5,k6,k7,k8⟩:=hh
   rw[hg]at k0 k2 k4 k6 k8
   refine⟨_,rfl,rfl,rfl,?_⟩
   exact nF hE.ok hr (.yl 1) 8 (by show R.val none (look tm 3)=_;rw[hL.l3 k0]) rfl rfl fun a' e2=>⟨by simpa using hlen,updB g 9,gm,ρ,_,cT hg (by omega),e2,hl0,hL.p9 ⟨k0,k2,k4,k6,k8⟩,hM.same rfl (hjj (jn (by omega) (by omega) (by omega) (by omega)))⟩
  |10,_=>
   refine⟨_,rfl,rfl,rfl,?_⟩
   exact nF hE.ok hr (.agg [.bool ca,.bool cb]) 9 (by
    show (match EY _ _ 119 (look tm 1) with|some v=>R.val none v|none=>.bad)=_
    rw[hL.l1];rfl) rfl rfl fun a' e2=>⟨by simpa using hlen,updB g 10,gm,ρ,_,cT hg (by omega),e2,hl0,hL.p10,hM.same rfl (hjj (jn (by omega) (by omega) (by omega) (by omega)))⟩
  |11,_=>
   have hh:(!listed.getD 11 true&&(listed.getD 9 false&&(listed.getD 10 false&&true)))=true:=hr2
   simp only[Bool.and_eq_true,Bool.not_eq_true',and_true]at hh
   obtain⟨h1,h2,h3⟩:=hh
   rw[hg]at h2 h3
   refine⟨_,rfl,rfl,rfl,?_⟩
   exact ES hr hL hM h2 h3 rfl rfl rfl fun a' e2=>⟨by simpa using hlen,updB g 11,gm,ρ,_,cT hg (by omega),e2,hl0,hL.p11,hM.same rfl (hjj (jn (by omega) (by omega) (by omega) (by omega)))⟩
  |12,_=>
   have h2:listed.getD 11 false=true:=by
    simp only[Bool.and_eq_true]at hr2
    have:=List.all_eq_true.1 hr2.2 ⟨11,.data⟩ (by exact List.mem_cons_self)
    exact this
   rw[hg]at h2
   refine⟨_,rfl,rfl,rfl,?_⟩
   exact nF hE.ok hr (I (endV ca cb)) 2 (by show R.val none (look tm 10)=_;rw[hL.l10 h2]) rfl rfl fun a' e2=>⟨by simpa using hlen,updB g 12,gm,ρ,_,cT hg (by omega),e2,hl0,hL.p12,hM.same rfl (hjj (jn (by omega) (by omega) (by omega) (by omega)))⟩
  |j+13,h=>exact absurd h (by omega)
 ·rintro listed a w ⟨hlen,g,gm,ρ,tm,hg,hr,hl0,hL,hM⟩ hrd
  have ff:∀ j,j<13->listed.getD j true=g j:=fun j hj=>by
   rw[<-hg]
   simp only[List.getD_eq_getElem?_getD]
   rw[List.getElem?_eq_getElem (by omega)]
   rfl
  have nm:∀ j,j∉([]:List Nat):=fun j h=>by cases h
  have k0:g 0=true:=by
   cases hq:g 0 with
   |true=>rfl
   |false=>exact absurd (hrd▸List.mem_filter.2 ⟨List.mem_range.2 (by decide),by show (!listed.getD 0 true&&true)=true;rw[ff 0 (by omega),hq];rfl⟩) (nm 0)
  have k1:g 1=true:=by
   cases hq:g 1 with
   |true=>rfl
   |false=>exact absurd (hrd▸List.mem_filter.2 ⟨List.mem_range.2 (by decide),by show (!listed.getD 1 true&&true)=true;rw[ff 1 (by omega),hq];rfl⟩) (nm 1)
  have k3:g 3=true:=by
   cases hq:g 3 with
   |true=>rfl
   |false=>exact absurd (hrd▸List.mem_filter.2 ⟨List.mem_range.2 (by decide),by show (!listed.getD 3 true&&true)=true;rw[ff 3 (by omega),hq];rfl⟩) (nm 3)
  have k5:g 5=true:=by
   cases hq:g 5 with
   |true=>rfl
   |false=>exact absurd (hrd▸List.mem_filter.2 ⟨List.mem_range.2 (by decide),by show (!listed.getD 5 true&&true)=true;rw[ff 5 (by omega),hq];rfl⟩) (nm 5)
  have k7:g 7=true:=by
   cases hq:g 7 with
   |true=>rfl
   |false=>exact absurd (hrd▸List.mem_filter.2 ⟨List.mem_range.2 (by decide),by show (!listed.getD 7 true&&true)=true;rw[ff 7 (by omega),hq];rfl⟩) (nm 7)
  have k10:g 10=true:=by
   cases hq:g 10 with
   |true=>rfl
   |false=>exact absurd (hrd▸List.mem_filter.2 ⟨List.mem_range.2 (by decide),by show (!listed.getD 10 true&&true)=true;rw[ff 10 (by omega),hq];rfl⟩) (nm 10)
  have k2:g 2=true:=by
   cases hq:g 2 with
   |true=>rfl
   |false=>exact absurd (hrd▸List.mem_filter.2 ⟨List.mem_range.2 (by decide),by show (!listed.getD 2 true&&(listed.getD 0 false&&(listed.getD 1 false&&true)))=true;rw[ff 2 (by omega),hq,hg,hg,k0,k1];rfl⟩) (nm 2)
  have k4:g 4=true:=by
   cases hq:g 4 with
   |true=>rfl
   |false=>exact absurd (hrd▸List.mem_filter.2 ⟨List.mem_range.2 (by decide),by show (!listed.getD 4 true&&(listed.getD 0 false&&(listed.getD 3 false&&true)))=true;rw[ff 4 (by omega),hq,hg,hg,k0,k3];rfl⟩) (nm 4)
  have k6:g 6=true:=by
   cases hq:g 6 with
   |true=>rfl
   |false=>exact absurd (hrd▸List.mem_filter.2 ⟨List.mem_range.2 (by decide),by show (!listed.getD 6 true&&(listed.getD 0 false&&(listed.getD 5 false&&true)))=true;rw[ff 6 (by omega),hq,hg,hg,k0,k5];rfl⟩) (nm 6)
  have k8:g 8=true:=by
   cases hq:g 8 with
   |true=>rfl
   |false=>exact absurd (hrd▸List.mem_filter.2 ⟨List.mem_range.2 (by decide),by show (!listed.getD 8 true&&(listed.getD 0 false&&(listed.getD 7 false&&true)))=true;rw[ff 8 (by omega),hq,hg,hg,k0,k7];rfl⟩) (nm 8)
  have k9:g 9=true:=by
   cases hq:g 9 with
   |true=>rfl
   |false=>exact absurd (hrd▸List.mem_filter.2 ⟨List.mem_range.2 (by decide),by show (!listed.getD 9 true&&(listed.getD 0 false&&(listed.getD 1 false&&(listed.getD 2 false&&(listed.getD 3 false&&(listed.getD 4 false&&(listed.getD 5 false&&(listed.getD 6 false&&(listed.getD 7 false&&(listed.getD 8 false&&true))))))))))=true;rw[ff 9 (by omega),hq,hg,hg,hg,hg,hg,hg,hg,hg,hg,k0,k1,k2,k3,k4,k5,k6,k7,k8];rfl⟩) (nm 9)
  have k11:g 11=true:=by
   cases hq:g 11 with
   |true=>rfl
   |false=>exact absurd (hrd▸List.mem_filter.2 ⟨List.mem_range.2 (by decide),by show (!listed.getD 11 true&&(listed.getD 9 false&&(listed.getD 10 false&&true)))=true;rw[ff 11 (by omega),hq,hg,hg,k9,k10];rfl⟩) (nm 11)
  have kk:∀ j,j<12->listed.getD j false=true:=fun j hj=>by
   rw[hg]
   match j,hj with
   |0,_=>exact k0
   |1,_=>exact k1
   |2,_=>exact k2
   |3,_=>exact k3
   |4,_=>exact k4
   |5,_=>exact k5
   |6,_=>exact k6
   |7,_=>exact k7
   |8,_=>exact k8
   |9,_=>exact k9
   |10,_=>exact k10
   |11,_=>exact k11
   |j+12,h=>exact absurd h (by omega)
  have k12:g 12=true:=by
   cases hq:g 12 with
   |true=>rfl
   |false=>
    refine absurd (hrd▸List.mem_filter.2 ⟨List.mem_range.2 (by decide),?_⟩) (nm 12)
    rw[ff 12 (by omega),hq]
    exact(Bool.true_and _).trans (Dt kk _ rfl)
  refine⟨2,none,[(2,I (endV ca cb))],_,⟨[],ρ,⟨?_,hr.hr,hr.bel,hr.sz,hr.df,fun p hp=>by simp at hp,hr.bs,hr.ss,hr.sw⟩,hl0,Nat.zero_le _,rfl⟩,?_⟩
  ·have:=hr.tr.keep [2]
   simp only[cY,hL.l2 k12]at this
   exact this
  ·refine YM.seg hE 2 ?_
   exact ag ⟨_,_,Ent.refl _ _ _,aL [] (.inr rfl) rfl rfl rfl rfl rfl⟩
 ·rintro listed a w ⟨hlen,_⟩;exact hlen
 ·refine⟨rfl,fun _=>false,[],ρ,_,fun j=>?_,hrel1.draw _,hl0,?_,?_⟩
  ·simp only[List.getD_eq_getElem?_getD,List.getElem?_replicate]
   split<;>rfl
  ·exact EnL.mk rfl (fun h=>by cases h) (fun h=>by cases h) (fun h=>by cases h) (fun h=>by cases h) (fun h=>by cases h) (fun h=>by cases h) (fun h=>by cases h) (fun h=>by cases h) (fun h=>by cases h) (fun h=>by cases h)
-- fun h=>by cases h,fun h=>by cases h,fun h=>by cases h,fun h=>by cases h,fun h=>by cases h,fun h=>by cases h,fun h=>by cases h,fun h=>by cases h,fun h=>by cases h⟩
  ·exact⟨rfl,hno,fun _ _=>rfl⟩
 ·decide
def sQ:CF
 |[.agg [.bool a,.bool b]],[]=>some (true,I (endV a b),[])
 |_,_=>none
theorem wV:CtOk (GGx kCa kDb) PP (77,sQ):=by
 refine aD Tryz.func77 (by kernel_rfl) rfl fun a0 h0 c0 v0 N0 e hc=>?_
 unfold sQ at e
 split at e
 ·cases e
  exact Ay _ _
 ·cases e
def eTx(r:Int)(e:Bool):List UInt8×Int:=bif (txt r e).2 then((txt r e).1,0) else([],2)
def Mz(R:List UInt8×Int):V:=.tup [.str R.1,I R.2]
def qN:CF
 |[.int .i64 r,.bool e],[]=>some (true,Mz (eTx r e),[])
 |_,_=>none
theorem oV:CtOk (GGx kCa kDb) PP (24,qN):=by
 refine aD Tryz.func24 (by kernel_rfl) rfl fun a0 h0 c0 v0 N0 e hc=>?_
 unfold qN at e
 split at e
 ·cases e
  have h:=Cr (kCa:=kCa) (kDb:=kDb)
  unfold Mz eTx
  rename_i r e
  have h:=h r e
  cases ht:(txt r e).2 with
  |true=>rw[ht]at h;exact h
  |false=>rw[ht]at h;exact h
 ·cases e
end
end Go.Ab
