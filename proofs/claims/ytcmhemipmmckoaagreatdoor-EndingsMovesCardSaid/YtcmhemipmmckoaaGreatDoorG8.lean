/- Contracts of the functions that the laws reach, and plain laws of what they compute (text G8); no condition. -/
import Derived.Test.YtcmhemipmmckoaaGreatDoorG6
import Derived.Test.YtcmhemipmmckoaaGreatDoorG3
set_option maxRecDepth 100000
namespace Go.Ab
open Go.Proofs
section
variable{kCa kDb:Bool}
def Fk(n:Int):Bool:=decide (3<=n)&&decide (n<=8)
def vsB(f r:Int):Bool:=Fk f&&Fk r
def onB(f r x y:Int):Bool:=decide (0<=x)&&decide (x<f)&&decide (0<=y)&&decide (y<r)
def aj(f r n:Int):Bool:=vsB f r&&decide (0<=n)&&decide (n<IntKind.i64.wrap (f*r))
def atR(f r x y:Int):Int×Int:=bif vsB f r then(bif onB f r x y then(IntKind.i64.wrap (x+IntKind.i64.wrap (y*f)),0) else(0,3)) else(0,2)
def aU(f r n:Int):Int×Int×Int:=bif aj f r n then(n.tmod f,IntKind.i64.wrap (n.tdiv f),0) else(0,0,2)
def Gq:CF
 |[.int .i64 n],[]=>some (true,.bool (Fk n),[])
 |_,_=>none
theorem DT:CtOk (GGx kCa kDb) PP (165,Gq):=by
 refine aD Tryz.func165 (by kernel_rfl) rfl fun a0 h0 c0 v0 N0 e hc=>?_
 unfold Gq at e
 split at e
 ·rename_i n
  cases e
  have hE:=aB (kCa:=kCa) (kDb:=kDb) (cts:=[]) (inl:=[]) trivial trivial
  refine ak hE 2 Tryz.func165 rfl rfl ?_
  repeat (first|refine ah ?_|refine sat_nd ?_)
  exact ag (ai (.inr rfl) rfl rfl rfl rfl)
 ·cases e
def c_vs:CF
 |[.agg [.int .i64 f,.int .i64 r]],[]=>some (true,.bool (vsB f r),[])
 |_,_=>none
theorem kj:CtOk (GGx kCa kDb) PP (146,c_vs):=by
 refine aD Tryz.func146 (by kernel_rfl) rfl fun a0 h0 c0 v0 N0 e hc=>?_
 unfold c_vs at e
 split at e
 ·rename_i f r
  cases e
  have hE:=aB (kCa:=kCa) (kDb:=kDb) (cts:=[(165,Gq)]) (inl:=[]) ⟨DT,trivial⟩ trivial
  refine ak hE 2 Tryz.func146 rfl rfl ?_
  repeat (first|refine ah ?_|refine sat_nd ?_)
  exact ag (ai (.inr rfl) rfl rfl rfl rfl)
 ·cases e
def c_on:CF
 |[.agg [.int .i64 f,.int .i64 r],.int .i64 x,.int .i64 y],[]=>some (true,.bool (onB f r x y),[])
 |_,_=>none
theorem Ki:CtOk (GGx kCa kDb) PP (191,c_on):=by
 refine aD Tryz.func191 (by kernel_rfl) rfl fun a0 h0 c0 v0 N0 e hc=>?_
 unfold c_on at e
 split at e
 ·rename_i f r x y
  cases e
  have hE:=aB (kCa:=kCa) (kDb:=kDb) (cts:=[]) (inl:=[]) trivial trivial
  refine ak hE 2 Tryz.func191 rfl rfl ?_
  repeat (first|refine ah ?_|refine sat_nd ?_)
  exact ag (ai (.inr rfl) rfl rfl rfl rfl)
 ·cases e
def eN:CF
 |[.agg [.int .i64 f,.int .i64 r],.int .i64 n],[]=>some (true,.bool (aj f r n),[])
 |_,_=>none
theorem cW:CtOk (GGx kCa kDb) PP (101,eN):=by
 refine aD Tryz.func101 (by kernel_rfl) rfl fun a0 h0 c0 v0 N0 e hc=>?_
 unfold eN at e
 split at e
 ·rename_i f r n
  cases e
  have hE:=aB (kCa:=kCa) (kDb:=kDb) (cts:=[(146,c_vs)]) (inl:=[]) ⟨kj,trivial⟩ trivial
  refine ak hE 2 Tryz.func101 rfl rfl ?_
  repeat (first|refine ah ?_|refine sat_nd ?_)
  exact ag (ai (.inr rfl) rfl rfl rfl rfl)
 ·cases e
def c_at:CF
 |[.agg [.int .i64 f,.int .i64 r],.int .i64 x,.int .i64 y],[]=>some (true,.tup [I (atR f r x y).1,I (atR f r x y).2],[])
 |_,_=>none
theorem CW:CtOk (GGx kCa kDb) PP (185,c_at):=by
 refine aD Tryz.func185 (by kernel_rfl) rfl fun a0 h0 c0 v0 N0 e hc=>?_
 unfold c_at at e
 split at e
 ·rename_i f r x y
  cases e
  have hE:=aB (kCa:=kCa) (kDb:=kDb) (cts:=[(146,c_vs),(191,c_on)]) (inl:=[]) ⟨kj,Ki,trivial⟩ trivial
  refine ak hE 2 Tryz.func185 rfl rfl ?_
  repeat (first|refine ah ?_|refine sat_nd ?_)
  refine aq (fun h1=>?_) (fun h1=>?_)
  ·exact ag (ai (.inr rfl) rfl rfl rfl (by simp_all [atR]))
  ·repeat (first|refine ah ?_|refine sat_nd ?_)
   refine aq (fun h2=>?_) (fun h2=>?_)
   ·exact ag (ai (.inr rfl) rfl rfl rfl (by simp_all [atR]))
   ·exact ag (ai (.inr rfl) rfl rfl rfl (by simp_all [atR]))
 ·cases e
theorem de{f r:Int}(h:vsB f r=true):3<=f/\f<=8/\3<=r/\r<=8:=by
 simp[vsB,Fk]at h;omega
theorem bM{f r n:Int}(h:aj f r n=true):vsB f r=true:=by
 simp only[aj,Bool.and_eq_true]at h;exact h.1.1
def kQ:CF
 |[.agg [.int .i64 f,.int .i64 r],.int .i64 n],[]=>some (true,.tup [I (aU f r n).1,I (aU f r n).2.1,I (aU f r n).2.2],[])
 |_,_=>none
theorem ir:CtOk (GGx kCa kDb) PP (97,kQ):=by
 refine aD Tryz.func97 (by kernel_rfl) rfl fun a0 h0 c0 v0 N0 e hc=>?_
 unfold kQ at e
 split at e
 ·rename_i f r n
  cases e
  have hE:=aB (kCa:=kCa) (kDb:=kDb) (cts:=[(101,eN)]) (inl:=[]) ⟨cW,trivial⟩ trivial
  refine ak hE 2 Tryz.func97 rfl rfl ?_
  repeat (first|refine ah ?_|refine sat_nd ?_)
  refine aq (fun h1=>?_) (fun h1=>?_)
  ·exact ag (ai (.inr rfl) rfl rfl rfl (by simp_all [aU]))
  ·simp only[Bool.not_eq_false']at h1
   have hf:=de (bM h1)
   repeat (first|refine ah ?_|refine ae (by first|rfl|(simp;omega)) ?_)
   exact ag (ai (.inr rfl) rfl rfl rfl (by simp_all [aU]))
 ·cases e
end
end Go.Ab
namespace Go.Ab
open IntKind
open Go.Proofs
section
variable{kCa kDb:Bool}
def allU(f r:Int):Int:=ushr 18446744073709551615 (i64.wrap (64-i64.wrap (f*r)))
theorem ay{n:Int}(h1:-9223372036854775808<=n)(h2:n<=9223372036854775807):i64.wrap n=n:=IntWalk.i64_in _ (by omega)
theorem gu{f r:Int}(h:vsB f r=true):9<=f*r/\f*r<=64:=by
 obtain⟨h1,h2,h3,h4⟩:=de h
 have e1:3*3<=f*r:=Int.mul_le_mul h1 h3 (by omega) (by omega)
 have e2:f*r<=8*8:=Int.mul_le_mul h2 h4 (by omega) (by omega)
 omega
theorem eP{f r:Int}(h:vsB f r=true):i64.wrap (f*r)=f*r:=ay (by have:=gu h;omega) (by have:=gu h;omega)
def Lq:CF
 |[.agg [.int .i64 f,.int .i64 r]],[]=>some (vsB f r,.int .u64 (allU f r),[])
 |_,_=>none
theorem IT:CtOk (GGx kCa kDb) PP (192,Lq):=by
 refine aD Tryz.func192 (by kernel_rfl) rfl fun a0 h0 c0 v0 N0 e hc=>?_
 unfold Lq at e
 split at e
 ·rename_i f r
  cases e
  have hE:=aB (kCa:=kCa) (kDb:=kDb) (cts:=[]) (inl:=[]) trivial trivial
  refine ak hE 2 Tryz.func192 rfl rfl ?_
  have hm:=gu hc
  refine ae (by rw[eP hc,ay (by omega) (by omega)];simp;omega) ?_
  exact ag (ai (.inr rfl) rfl rfl rfl rfl)
 ·cases e
def LV:CF
 |[.agg [.int .i64 f,.int .i64 r]],[]=>some (true,.tup [U (bif vsB f r then allU f r else 0),I (bif vsB f r then 0 else 2)],[])
 |_,_=>none
theorem ID:CtOk (GGx kCa kDb) PP (186,LV):=by
 refine aD Tryz.func186 (by kernel_rfl) rfl fun a0 h0 c0 v0 N0 e hc=>?_
 unfold LV at e
 split at e
 ·rename_i f r
  cases e
  have hE:=aB (kCa:=kCa) (kDb:=kDb) (cts:=[(146,c_vs),(192,Lq)]) (inl:=[]) ⟨kj,IT,trivial⟩ trivial
  refine ak hE 2 Tryz.func186 rfl rfl ?_
  repeat (first|refine ah ?_|refine sat_nd ?_)
  refine aq (fun h1=>?_) (fun h1=>?_)
  ·exact ag (ai (.inr rfl) rfl rfl rfl (by simp_all))
  ·refine ae (by simpa using h1) ?_
   exact ag (ai (.inr rfl) rfl rfl rfl (by simp_all))
 ·cases e
def fwd(b:Bool):Int:=bif b then -1 else 1
def sgn(n:Int):Int:=bif decide (n<0)then -1 else bif decide (0<n)then 1 else 0
def gH(f r n set:Int):Bool:=aj f r n&&decide (cY set (allU f r)=0)
def jb:CF
 |[.bool b],[]=>some (true,.int .i64 (fwd b),[])
 |_,_=>none
theorem lJ:CtOk (GGx kCa kDb) PP (172,jb):=by
 refine aD Tryz.func172 (by kernel_rfl) rfl fun a0 h0 c0 v0 N0 e hc=>?_
 unfold jb at e
 split at e
 ·rename_i b
  cases e
  have hE:=aB (kCa:=kCa) (kDb:=kDb) (cts:=[]) (inl:=[]) trivial trivial
  refine ak hE 2 Tryz.func172 rfl rfl ?_
  refine aq (fun h1=>?_) (fun h1=>?_)
  ·exact ag (ai (.inr rfl) rfl rfl rfl (by simp_all [fwd]))
  ·exact ag (ai (.inr rfl) rfl rfl rfl (by simp_all [fwd]))
 ·cases e
def DL:CF
 |[.int .i64 n],[]=>some (true,.int .i64 (sgn n),[])
 |_,_=>none
theorem Ec:CtOk (GGx kCa kDb) PP (187,DL):=by
 refine aD Tryz.func187 (by kernel_rfl) rfl fun a0 h0 c0 v0 N0 e hc=>?_
 unfold DL at e
 split at e
 ·rename_i n
  cases e
  have hE:=aB (kCa:=kCa) (kDb:=kDb) (cts:=[]) (inl:=[]) trivial trivial
  refine ak hE 2 Tryz.func187 rfl rfl ?_
  refine aq (fun h1=>?_) (fun h1=>?_)
  ·exact ag (ai (.inr rfl) rfl rfl rfl (by rw[sgn,h1];rfl))
  ·refine aq (fun h2=>?_) (fun h2=>?_)
   ·exact ag (ai (.inr rfl) rfl rfl rfl (by rw[sgn,h1,h2];rfl))
   ·exact ag (ai (.inr rfl) rfl rfl rfl (by rw[sgn,h1,h2];rfl))
 ·cases e
def rR:CF
 |[.agg [.int .i64 f,.int .i64 r],.int .i64 n,.int .u64 set],[]=>some (true,.bool (gH f r n set),[])
 |_,_=>none
theorem pD:CtOk (GGx kCa kDb) PP (174,rR):=by
 refine aD Tryz.func174 (by kernel_rfl) rfl fun a0 h0 c0 v0 N0 e hc=>?_
 unfold rR at e
 split at e
 ·rename_i f r n set
  cases e
  have hE:=aB (kCa:=kCa) (kDb:=kDb) (cts:=[(186,LV),(101,eN)]) (inl:=[]) ⟨ID,cW,trivial⟩ trivial
  refine ak hE 2 Tryz.func174 rfl rfl ?_
  repeat (first|refine ah ?_|refine sat_nd ?_)
  exact ag (ai (.inr rfl) rfl rfl rfl (by cases h:vsB f r<;>simp[gH,aj,h]))
 ·cases e
def dirR(f r a b:Int):Int×Int×Int:=
 bif aj f r a&&aj f r b then
  (let x:=i64.wrap (b.tmod f-a.tmod f);let y:=i64.wrap (i64.wrap (b.tdiv f)-i64.wrap (a.tdiv f))
   bif decide (a=b)||(!decide (x=0)&&!decide (y=0)&&!decide (x=y)&&!decide (x=i64.wrap (0-y))) then(0,0,9) else(sgn x,sgn y,0))
 else(0,0,2)
def KY:CF
 |[.agg [.int .i64 f,.int .i64 r],.int .i64 a,.int .i64 b],[]=>some (true,.tup [I (dirR f r a b).1,I (dirR f r a b).2.1,I (dirR f r a b).2.2],[])
 |_,_=>none
theorem Is:CtOk (GGx kCa kDb) PP (176,KY):=by
 refine aD Tryz.func176 (by kernel_rfl) rfl fun a0 h0 c0 v0 N0 e hc=>?_
 unfold KY at e
 split at e
 ·rename_i f r a b
  cases e
  have hE:=aB (kCa:=kCa) (kDb:=kDb) (cts:=[(97,kQ),(187,DL)]) (inl:=[]) ⟨ir,Ec,trivial⟩ trivial
  refine ak hE 2 Tryz.func176 rfl rfl ?_
  repeat (first|refine ah ?_|refine sat_nd ?_)
  refine aq (fun h1=>?_) (fun h1=>?_)
  ·exact ag (ai (.inr rfl) rfl rfl rfl (by cases ha:aj f r a<;>cases hb:aj f r b<;>simp_all [dirR,aU]))
  ·repeat (first|refine ah ?_|refine sat_nd ?_)
   have ha:aj f r a=true:=by cases ha:aj f r a<;>simp_all [aU]
   have hb:aj f r b=true:=by cases hb:aj f r b<;>simp_all [aU]
   refine aq (fun h2=>?_) (fun h2=>?_)
   ·refine ag (ai (.inr rfl) rfl rfl rfl ?_)
    simp only[aU,ha,hb,cond_true]at h2
    simp only[dirR,ha,hb,Bool.and_true,cond_true,h2]
   ·repeat (first|refine ah ?_|refine sat_nd ?_)
    refine ag (ai (.inr rfl) rfl rfl rfl ?_)
    simp only[aU,ha,hb,cond_true]at h2 ⊢
    simp only[dirR,ha,hb,Bool.and_true,cond_true,h2,cond_false]
 ·cases e
end
section
variable{kCa kDb:Bool}
def uX(f r x y:Int)(row:List Int):Int×Int:=atR f r (i64.wrap (x+row.getD 0 0)) (i64.wrap (y+row.getD 1 0))
def gb(f r x y set:Int)(row:List Int):Int:=bif decide ((uX f r x y row).2=0)then uor set (ushl 1 (uX f r x y row).1)else set
def cA(f r n:Int)(rs:List (List Int)):Int:=rs.foldl (gb f r (aU f r n).1 (aU f r n).2.1) 0
theorem lK{f r x y:Int}(h:(atR f r x y).2=0):0<=(atR f r x y).1/\(atR f r x y).1<64/\vsB f r=true/\onB f r x y=true/\(atR f r x y).1=x+y*f:=by
 unfold atR at h ⊢
 cases h1:vsB f r
 ·simp[h1]at h
 ·cases h2:onB f r x y
  ·simp[h1,h2]at h
  ·simp only[cond_true]
   obtain⟨a1,a2,a3,a4⟩:=de h1
   simp only[onB,Bool.and_eq_true,decide_eq_true_eq]at h2
   obtain⟨⟨⟨b1,b2⟩,b3⟩,b4⟩:=h2
   have hm:=gu h1
   have e1:0<=y*f:=Int.mul_nonneg b3 (by omega)
   have e2:(y+1)*f<=r*f:=Int.mul_le_mul_of_nonneg_right (by omega) (by omega)
   rw[Int.add_mul,Int.mul_comm r f]at e2
   have e3:i64.wrap (y*f)=y*f:=ay (by omega) (by omega)
   have e4:i64.wrap (x+y*f)=x+y*f:=ay (by omega) (by omega)
   rw[e3,e4]
   refine⟨by omega,by omega,?_,?_,?_⟩<;>first|rfl|trivial
theorem tV{α β:Type}(l:List α)(d:α)(f:β->α->β)(b:β){k:Nat}(h:k<l.length):(l.take (k+1)).foldl f b=f ((l.take k).foldl f b) (l.getD k d):=by
 rw[List.take_succ_eq_append_getElem h,List.foldl_append]
 simp[List.getD,h]
def uB:CF
 |[.agg [.int .i64 f,.int .i64 r],.int .i64 n,.sl 0 0 len none],[.rows false [.i64,.i64] rs]=>some (decide (len=rs.length)&&decide (rs.length<=1000000),.int .u64 (cA f r n rs),[])
 |_,_=>none
theorem ot:CtOk (GGx kCa kDb) PP (173,uB):=by
 refine aD Tryz.func173 (by kernel_rfl) rfl fun a0 h0 c0 v0 N0 e hc=>?_
 unfold uB at e
 split at e
 ·rename_i f r n len rs
  cases e
  have hE:=aB (kCa:=kCa) (kDb:=kDb) (cts:=[(185,c_at),(97,kQ)]) (inl:=[]) ⟨CW,ir,trivial⟩ trivial
  refine ak hE 2 Tryz.func173 rfl rfl ?_
  simp only[Bool.and_eq_true,decide_eq_true_eq]at hc
  obtain⟨hc1,hc2⟩:=hc
  subst hc1
  repeat (first|refine ah ?_|refine sat_nd ?_)
  refine kZ hE 2 (fun a:Int×Int=>([(3,.ptr 1 0 0),(7,I (aU f r n).1),(8,I (aU f r n).2.1),(10,U a.2),(22,.sl 0 0 rs.length none),(23,I rs.length),(24,I a.1)],[.rows false [.i64,.i64] rs,.cells true [I f,I r]]))
   (fun a=>∃ k:Nat,k<=rs.length/\a.1=k/\a.2=(rs.take k).foldl (gb f r (aU f r n).1 (aU f r n).2.1) 0) (fun a=>rs.length-a.1.toNat) (0,0)
   (Ent.ren [0,1] [3,7,8,10,22,23,24] rfl rfl rfl) ⟨0,Nat.zero_le _,rfl,rfl⟩ ?_
  rintro⟨i,set⟩ ⟨k,hk,h1,h2⟩
  dsimp only at h1 h2 ⊢
  refine aq (fun hlt=>?_) (fun hlt=>?_)
  ·simp only[decide_eq_true_eq]at hlt
   have hki:i.toNat=k:=by omega
   refine ae (by simp;omega) ?_
   repeat (first|refine ah ?_|refine sat_nd ?_)
   have hstep:=tV rs [] (gb f r (aU f r n).1 (aU f r n).2.1) 0 (show k<rs.length by omega)
   rw[<-h2,<-hki]at hstep
   have hnext:i64.wrap (i+1)=((k+1:Nat):Int):=by rw[ay (by omega) (by omega)];omega
   refine aq (fun hon=>?_) (fun hon=>?_)
   ·have hon':decide ((uX f r (aU f r n).1 (aU f r n).2.1 (rs.getD i.toNat [])).2=0)=true:=hon
    refine ae (by have:=(lK (of_decide_eq_true hon)).1;exact decide_eq_true this) ?_
    refine ag ⟨(_,_),⟨k+1,by omega,hnext,?_⟩,?_,Ent.ren [0,1] [3,7,8,10,22,23,24] rfl rfl rfl⟩
    ·rw[<-hki,hstep,gb,hon'];rfl
    ·show _-(i64.wrap (i+1)).toNat<_
     rw[hnext];omega
   ·have hon':decide ((uX f r (aU f r n).1 (aU f r n).2.1 (rs.getD i.toNat [])).2=0)=false:=hon
    refine ag ⟨(_,_),⟨k+1,by omega,hnext,?_⟩,?_,Ent.ren [0,1] [3,7,8,10,22,23,24] rfl rfl rfl⟩
    ·rw[<-hki,hstep,gb,hon'];rfl
    ·show _-(i64.wrap (i+1)).toNat<_
     rw[hnext];omega
  ·simp only[decide_eq_false_iff_not]at hlt
   obtain rfl:k=rs.length:=by omega
   rw[List.take_length]at h2
   refine ag (ag (ai (.inr rfl) rfl rfl rfl (by rw[h2];rfl)))
 ·cases e
end
end Go.Ab
namespace Go.Ab
open Go.Proofs
section
variable{kCa kDb:Bool}
def kV(f r df dr:Int):Nat->Int->Int->List Int
 |0,_,_=>[]
 |k+1,x,y=>bif decide ((atR f r (IntKind.i64.wrap (x+df)) (IntKind.i64.wrap (y+dr))).2=0) then(atR f r (IntKind.i64.wrap (x+df)) (IntKind.i64.wrap (y+dr))).1::kV f r df dr k (IntKind.i64.wrap (x+df)) (IntKind.i64.wrap (y+dr)) else[]
def gL(df dr:Int):Bool:=decide (8<=imax true (imax true (imax true df (IntKind.i64.wrap (0-df))) dr) (IntKind.i64.wrap (0-dr)))||decide (df < -8)||decide (dr < -8)
def rayL(f r n df dr:Int):List Int:=bif aj f r n&&!(decide (df=0)&&decide (dr=0))&&!gL df dr then kV f r df dr 9 (aU f r n).1 (aU f r n).2.1 else[]
def rayV(f r n df dr:Int):List (List V):=(rayL f r n df dr).map fun x=>[I x]
theorem Fa{df dr:Int}(h:gL df dr=false):-7<=df/\df<=7/\-7<=dr/\dr<=7:=by
 simp only[gL,Bool.or_eq_false_iff,decide_eq_false_iff_not]at h
 obtain⟨⟨h1,h2⟩,h3⟩:=h
 have m:∀ x y:Int,x<=imax true x y/\y<=imax true x y:=fun x y=>by
  unfold imax
  by_cases h:x<y<;>simp[h]<;>omega
 have e1:=m df (IntKind.i64.wrap (0-df))
 have e2:=m (imax true df (IntKind.i64.wrap (0-df))) dr
 have e3:=m (imax true (imax true df (IntKind.i64.wrap (0-df))) dr) (IntKind.i64.wrap (0-dr))
 have f1:df<=7:=by omega
 have f2:dr<=7:=by omega
 rw[ay (n:=0-df) (by omega) (by omega)]at e1 e2 e3
 rw[ay (n:=0-dr) (by omega) (by omega)]at e3
 rw[ay (n:=0-df) (by omega) (by omega),ay (n:=0-dr) (by omega) (by omega)]at h1
 omega
theorem qA{f r n:Int}(h:aj f r n=true):0<=(aU f r n).1/\(aU f r n).1<f/\0<=(aU f r n).2.1/\(aU f r n).2.1<r/\(aU f r n).1=n%f/\(aU f r n).2.1=n/f:=by
 have hv:=bM h
 obtain⟨a1,a2,a3,a4⟩:=de hv
 have hm:=gu hv
 simp only[aU,h,cond_true]
 simp only[aj,Bool.and_eq_true,decide_eq_true_eq]at h
 obtain⟨⟨h1,h2⟩,h3⟩:=h
 rw[eP hv]at h3
 have e1:n.tmod f=n%f:=Int.tmod_eq_emod_of_nonneg h2
 have e2:n.tdiv f=n/f:=Int.tdiv_eq_ediv_of_nonneg h2
 have b1:=Int.emod_nonneg n (show f≠0 by omega)
 have b2:=Int.emod_lt_of_pos n (show 0<f by omega)
 have b3:0<=n/f:=Int.ediv_nonneg h2 (by omega)
 have b4:n/f<r:=Int.ediv_lt_of_lt_mul (by omega) (by rw[Int.mul_comm];exact h3)
 rw[e1,e2,ay (by omega) (by omega)]
 exact⟨b1,b2,b3,b4,rfl,rfl⟩
theorem ta{f r x y:Int}(h:onB f r x y=true):0<=x/\x<f/\0<=y/\y<r:=by
 simp only[onB,Bool.and_eq_true,decide_eq_true_eq]at h
 obtain⟨⟨⟨b1,b2⟩,b3⟩,b4⟩:=h
 exact⟨b1,b2,b3,b4⟩
theorem JA(f r n df dr:Int):kA (GGx kCa kDb) PP 188 [[I f,I r],[I n],[I df],[I dr]] (rayV f r n df dr):=by
 have hE:=aB (kCa:=kCa) (kDb:=kDb) (cts:=[(97,kQ),(185,c_at)]) (inl:=[]) ⟨ir,CW,trivial⟩ trivial
 refine zq hE Tryz.func188 rfl rfl rfl rfl fun nn l S0 ρc J ok=>?_
 refine YG.seq (YG.seg hE 2 ?_)
 repeat (first|refine ah ?_|refine sat_nd ?_)
 refine ag ?_
 refine YG.seq (YG.seg hE 2 ?_)
 repeat (first|refine ah ?_|refine sat_nd ?_)
 refine aq (fun h1=>ag ⟨.inr rfl,.inl ?_⟩) (fun h1=>ag ?_)
 ·have:rayV f r n df dr=[]:=by
   cases hv:aj f r n<;>simp_all [rayV,rayL,aU]
  rw[this];rfl
 have hv:aj f r n=true:=by cases hv:aj f r n<;>simp_all [aU]
 have hnz:(decide (df=0)&&decide (dr=0))=false:=by
  cases h:(decide (df=0)&&decide (dr=0))<;>simp_all
 refine YG.seq (YG.seg hE 2 ?_)
 repeat (first|refine ah ?_|refine sat_nd ?_)
 refine aq (fun h2=>ag ⟨.inr rfl,.inl ?_⟩) (fun h2=>ag ?_)
 ·have h2:gL df dr=true:=h2
  have:rayV f r n df dr=[]:=by simp[rayV,rayL,h2]
  rw[this];rfl
 have h2:gL df dr=false:=h2
 have hL:rayL f r n df dr=kV f r df dr 9 (aU f r n).1 (aU f r n).2.1:=by simp only[rayL,hv,hnz,h2];rfl
 have hb:=Fa h2
 have hp:=qA hv
 have hsz:=de (bM hv)
 have hdd:df≠0\/dr≠0:=by
  by_cases e:df=0
  ·right;rintro rfl;simp[e]at hnz
  ·exact .inl e
 refine YG.block (YG.loop (fun a:Nat×Int×Int=>(some a.1,[(0,.yl 4),(1,.ptr 0 0 0),(2,.ptr 1 0 0),(3,.ptr 2 0 0),(4,.ptr 3 0 0),(6,I a.2.1),(7,I a.2.2)],hp0 [[I f,I r],[I n],[I df],[I dr]]))
  (fun a=>0<=a.2.1/\a.2.1<f/\0<=a.2.2/\a.2.2<r/\(1<=df->a.1<=a.2.1)/\(df<=-1->a.2.1+a.1<=7)/\(1<=dr->a.1<=a.2.2)/\(dr<=-1->a.2.2+a.1<=7)/\a.1<=(rayL f r n df dr).length/\(rayL f r n df dr).drop a.1=kV f r df dr (9-a.1) a.2.1 a.2.2)
  (fun a=>8-a.1) (0,(aU f r n).1,(aU f r n).2.1) rfl (Ent.ren [0,1,2,3,4] [0,1,2,3,4,6,7] rfl rfl rfl) ?_ ?_)
 ·exact⟨hp.1,hp.2.1,hp.2.2.1,hp.2.2.2.1,by intro;simp;omega,by intro;simp;omega,by intro;simp;omega,by intro;simp;omega,Nat.zero_le _,by simpa using hL⟩
 rintro⟨i,x,y⟩ ⟨i1,i2,i3,i4,i5,i6,i7,i8,i9,i10⟩
 dsimp only at i1 i2 i3 i4 i5 i6 i7 i8 i9 i10 ⊢
 have hi8:i<=7:=by omega
 refine YG.block (YG.seq (YG.seg hE 2 ?_))
 repeat (first|refine ah ?_|refine sat_nd ?_)
 refine ag ?_
 refine YG.seq (YG.seg hE 2 ?_)
 repeat (first|refine ah ?_|refine sat_nd ?_)
 refine ag ?_
 refine YG.seq (YG.yregAt ok 2 5 rfl rfl rfl ?_)
 refine ag ?_
 have hgo:∀ b,decide ((atR f r (IntKind.i64.wrap (x+df)) (IntKind.i64.wrap (y+dr))).2=0)=b->kV f r df dr (9-i) x y=bif b then(atR f r (IntKind.i64.wrap (x+df)) (IntKind.i64.wrap (y+dr))).1::kV f r df dr (8-i) (IntKind.i64.wrap (x+df)) (IntKind.i64.wrap (y+dr)) else[]:=by
  intro b hb
  rw[show 9-i=(8-i)+1 by omega]
  simp only[kV,hb]
 refine⟨fun hg=>?_,fun hg=>?_⟩
 ·have hg:decide ((atR f r (IntKind.i64.wrap (x+df)) (IntKind.i64.wrap (y+dr))).2=0)=true:=by simpa using hg
  have he:=of_decide_eq_true hg
  obtain⟨p1,p2,p3,p4,p5⟩:=lK he
  have hon:=ta p4
  have hwx:IntKind.i64.wrap (x+df)=x+df:=ay (by omega) (by omega)
  have hwy:IntKind.i64.wrap (y+dr)=y+dr:=ay (by omega) (by omega)
  have hr:=hgo true hg
  rw[cond_true]at hr
  rw[hr]at i10
  have hlt:i<(rayL f r n df dr).length:=by
   have:=congrArg List.length i10
   simp only[List.length_drop,List.length_cons]at this
   omega
  have hat:(rayL f r n df dr)[i]?=some (atR f r (IntKind.i64.wrap (x+df)) (IntKind.i64.wrap (y+dr))).1:=by
   have:=congrArg (fun l:List Int=>l[0]?) i10
   simpa using this
  have hdr:(rayL f r n df dr).drop (i+1)=kV f r df dr (8-i) (IntKind.i64.wrap (x+df)) (IntKind.i64.wrap (y+dr)):=by
   have:=congrArg (List.drop 1) i10
   simpa[List.drop_drop,Nat.add_comm]using this
  repeat (first|refine ah ?_|refine sat_nd ?_)
  refine ag ?_
  refine⟨i,[I (atR f r (IntKind.i64.wrap (x+df)) (IntKind.i64.wrap (y+dr))).1],[0,1,2,3,4,6,7,59],rfl,by simp[rayV,hat],rfl,rfl,rfl,rfl,fun b=>?_⟩
  cases b with
  |true=>
   refine ag ?_
   refine YG.seg hE 2 ?_
   refine ag ⟨(i+1,IntKind.i64.wrap (x+df),IntKind.i64.wrap (y+dr)),?_,?_,rfl,Ent.ren [0,1,2,3,4] [0,1,2,3,4,6,7] rfl rfl rfl⟩
   ·dsimp only
    rw[hwx,hwy]at hon
    rw[hdr,hwx,hwy,show 9-(i+1)=8-i by omega]
    refine⟨hon.1,hon.2.1,hon.2.2.1,hon.2.2.2,?_,?_,?_,?_,by omega,rfl⟩<;>intro h<;>push_cast<;>omega
   ·dsimp only;omega
  |false=>
   refine ag ?_
   refine YG.seg hE 2 ?_
   exact ag ⟨.inr rfl,.inr rfl⟩
 ·have hg:decide ((atR f r (IntKind.i64.wrap (x+df)) (IntKind.i64.wrap (y+dr))).2=0)=false:=by simpa using hg
  have hr:=hgo false hg
  rw[cond_false]at hr
  rw[hr]at i10
  have hlen:i=(rayL f r n df dr).length:=by
   have:=congrArg List.length i10
   simp only[List.length_drop,List.length_nil]at this
   omega
  refine ag ?_
  refine YG.seg hE 2 ?_
  exact ag ⟨.inr rfl,.inl (by simp[rayV,<-hlen])⟩
end
end Go.Ab
namespace Go.Ab
open IntKind
open Go.Proofs
section
variable{kCa kDb:Bool}
theorem zv{f r n df dr:Int}{i:Nat}{vs:List V}(h:(rayV f r n df dr)[i]?=some vs):∃ x,(rayL f r n df dr)[i]?=some x/\vs=[I x]/\0<=x/\x<64:=by
 simp only[rayV,List.getElem?_map,Option.map_eq_some_iff]at h
 obtain⟨x,h1,rfl⟩:=h
 refine⟨x,h1,rfl,?_⟩
 have hm:=List.mem_of_getElem? h1
 have key:∀ (k:Nat) (a b:Int),x∈kV f r df dr k a b->0<=x/\x<64:=by
  intro k
  induction k with
  |zero=>intro a b h;simp[kV]at h
  |succ k ih=>
   intro a b h
   rw[kV]at h
   cases hb:decide ((atR f r (i64.wrap (a+df)) (i64.wrap (b+dr))).2=0) with
   |false=>rw[hb]at h;simp at h
   |true=>
    rw[hb,cond_true]at h
    rcases List.mem_cons.1 h with rfl|h
    ·have:=lK (of_decide_eq_true hb);exact⟨this.1,this.2.1⟩
    ·exact ih _ _ h
 unfold rayL at hm
 cases hc:(aj f r n&&!(decide (df=0)&&decide (dr=0))&&!gL df dr) with
 |false=>rw[hc]at hm;simp at hm
 |true=>rw[hc,cond_true]at hm;exact key _ _ _ hm
theorem zH{f r n df dr:Int}:∀ vs∈rayV f r n df dr,vs.length=1:=by
 intro vs h
 simp only[rayV,List.mem_map]at h
 obtain⟨x,_,rfl⟩:=h
 rfl
theorem mY{f r n df dr:Int}:(rayV f r n df dr).length=(rayL f r n df dr).length:=by simp[rayV]
theorem Er:dX PP 188:=ent Tryz.func188 rfl rfl
def fm(b:Int):List Int->Int->Int
 |[],s=>s
 |x::l,s=>bif decide (x=b)then s else fm b l (uor s (ushl 1 x))
def bS(f r a b:Int):Int×Int:=bif decide ((dirR f r a b).2.2=0) then(fm b (rayL f r a (dirR f r a b).1 (dirR f r a b).2.1) 0,0) else(0,(dirR f r a b).2.2)
theorem Dv{b:Int}{l:List Int}{i:Nat}{x s:Int}(h:l[i]?=some x):fm b (l.drop i) s=bif decide (x=b)then s else fm b (l.drop (i+1)) (uor s (ushl 1 x)):=by
 obtain⟨h1,h2⟩:=List.getElem?_eq_some_iff.1 h
 rw[List.drop_eq_getElem_cons h1,h2,fm]
def dW(occ:Int):List Int->Int->Int
 |[],s=>s
 |x::l,s=>bif decide (uand (ushr occ x) 1=1)then uor s (ushl 1 x)else dW occ l (uor s (ushl 1 x))
theorem BA{b:Int}{l:List Int}{i:Nat}{x s:Int}(h:l[i]?=some x):dW b (l.drop i) s=bif decide (uand (ushr b x) 1=1)then uor s (ushl 1 x)else dW b (l.drop (i+1)) (uor s (ushl 1 x)):=by
 obtain⟨h1,h2⟩:=List.getElem?_eq_some_iff.1 h
 rw[List.drop_eq_getElem_cons h1,h2,dW]
def eK(f r n occ s:Int)(row:List Int):Int:=dW occ (rayL f r n (row.getD 0 0) (row.getD 1 0)) s
def dR(f r n occ:Int)(rs:List (List Int)):Int:=rs.foldl (eK f r n occ) 0
def gz:CF
 |[.agg [.int .i64 f,.int .i64 r],.int .i64 a,.int .i64 b],[]=>some (true,.tup [U (bS f r a b).1,I (bS f r a b).2],[])
 |_,_=>none
theorem uE:CtOk (GGx kCa kDb) PP (155,gz):=by
 refine aD Tryz.func155 (by kernel_rfl) rfl fun a0 h0 c0 v0 N0 e hc=>?_
 unfold gz at e
 split at e
 ·rename_i f r a b
  cases e
  have hE:=aB (kCa:=kCa) (kDb:=kDb) (cts:=[(176,KY)]) (inl:=[(177,Tryz.f177)]) ⟨Is,trivial⟩ ⟨⟨Tryz.func177,by kernel_rfl⟩,trivial⟩
  refine ak hE 2 Tryz.func155 rfl rfl ?_
  repeat (first|refine ah ?_|refine sat_nd ?_)
  refine aq (fun h1=>?_) (fun h1=>?_)
  ·have h1:decide ((dirR f r a b).2.2=0)=false:=by simpa using h1
   exact ag (ai (.inr rfl) rfl rfl rfl (by rw[bS,h1];rfl))
  have h1:decide ((dirR f r a b).2.2=0)=true:=by simpa using h1
  repeat (first|refine ah ?_|refine sat_nd ?_)
  generalize hL:rayL f r a (dirR f r a b).1 (dirR f r a b).2.1=L
  refine ng hE 2 7 [3,4,5,6] [3,5,11] (Ent.ren [0,1,2,3,4,5,6] [3,5,11,28] rfl rfl rfl) (JA f r a (dirR f r a b).1 (dirR f r a b).2.1) zH Er rfl rfl rfl rfl rfl rfl
   (fun i hp'=>∃ s,fm b (L.drop i) s=fm b L 0/\hp'=[.cells true [I f,I r],.cells true [I b],.cells true [U s],.cells true [I f,I r],.cells true [I a],.cells true [I (dirR f r a b).1],.cells true [I (dirR f r a b).2.1]])
   (fun e hp'=>e=.exit 0/\∃ s,s=fm b L 0/\hp'=[.cells true [I f,I r],.cells true [I b],.cells true [U s],.cells true [I f,I r],.cells true [I a],.cells true [I (dirR f r a b).1],.cells true [I (dirR f r a b).2.1]])
   ⟨0,rfl,rfl⟩ ?_ ?_ ?_ ?_ ?_
  ·rintro i hp' ⟨s,_,rfl⟩;rfl
  ·rintro e hp' ⟨_,s,_,rfl⟩;rfl
  ·rintro i vs hp' hi ⟨s,hs,rfl⟩
   obtain⟨x,hx,rfl,x0,x1⟩:=zv hi
   rw[hL]at hx
   rw[Dv hx]at hs
   refine ag ⟨rfl,?_⟩
   refine aq (fun h2=>?_) (fun h2=>?_)
   ·rw[h2,cond_true]at hs
    exact ag ⟨_,Ent.ren [0,1,2,3,4,5,6] [] rfl rfl rfl,rfl,s,hs,rfl⟩
   ·rw[h2,cond_false]at hs
    repeat (first|refine ah ?_|refine sat_nd ?_)
    refine ag ⟨_,Ent.ren [0,1,2,3,4,5,6] [] rfl rfl rfl,_,hs,rfl⟩
  ·rintro hp' ⟨s,hs,rfl⟩
   rw[mY,hL,List.drop_length]at hs
   have hs:s=fm b L 0:=hs
   exact ag (ai (.inr rfl) rfl rfl rfl (by rw[bS,h1,hL,hs];rfl))
  ·rintro e hp' ⟨rfl,s,hs,rfl⟩
   exact ag (ai (.inr rfl) rfl rfl rfl (by rw[bS,h1,hL,hs];rfl))
 ·cases e
def xl:CF
 |[.agg [.int .i64 f,.int .i64 r],.int .i64 n,.int .u64 occ,.sl 0 0 len none],[.rows false [.i64,.i64] rs]=>some (decide (len=rs.length)&&decide (rs.length<=1000000),.int .u64 (dR f r n occ rs),[])
 |_,_=>none
theorem BR:CtOk (GGx kCa kDb) PP (175,xl):=by
 refine aD Tryz.func175 (by kernel_rfl) rfl fun a0 h0 c0 v0 N0 e hc=>?_
 unfold xl at e
 split at e
 ·rename_i f r n occ len rs
  cases e
  have hE:=aB (kCa:=kCa) (kDb:=kDb) (cts:=[]) (inl:=[(177,Tryz.f177)]) trivial ⟨⟨Tryz.func177,by kernel_rfl⟩,trivial⟩
  refine ak hE 2 Tryz.func175 rfl rfl ?_
  simp only[Bool.and_eq_true,decide_eq_true_eq]at hc
  obtain⟨hc1,hc2⟩:=hc
  subst hc1
  repeat (first|refine ah ?_|refine sat_nd ?_)
  refine kZ hE 2 (fun a:Int×Int=>([(1,I n),(4,.ptr 1 0 0),(6,.ptr 2 0 0),(9,.ptr 3 0 0),(13,.sl 0 0 rs.length none),(14,I rs.length),(15,I a.1)],[.rows false [.i64,.i64] rs,.cells true [I f,I r],.cells true [U occ],.cells true [U a.2]]))
   (fun a=>∃ k:Nat,k<=rs.length/\a.1=k/\a.2=(rs.take k).foldl (eK f r n occ) 0) (fun a=>rs.length-a.1.toNat) (0,0)
   (Ent.ren [0,1,2,3] [1,4,6,9,13,14,15] rfl rfl rfl) ⟨0,Nat.zero_le _,rfl,rfl⟩ ?_
  rintro⟨i,set⟩ ⟨k,hk,h1,h2⟩
  dsimp only at h1 h2 ⊢
  refine aq (fun hlt=>?_) (fun hlt=>?_)
  ·simp only[decide_eq_true_eq]at hlt
   have hki:i.toNat=k:=by omega
   refine ae (by simp;omega) ?_
   repeat (first|refine ah ?_|refine sat_nd ?_)
   have hstep:=tV rs [] (eK f r n occ) 0 (show k<rs.length by omega)
   rw[<-h2,<-hki]at hstep
   have hnext:i64.wrap (i+1)=((k+1:Nat):Int):=by rw[ay (by omega) (by omega)];omega
   generalize hL:rayL f r n ((rs.getD i.toNat []).getD 0 0) ((rs.getD i.toNat []).getD 1 0)=L
   refine ng hE 2 9 [5,6,7,8] [1,4,6,9,13,14,15] (Ent.ren [0,1,2,3,4,5,6,7,8] [1,4,6,9,13,14,15,25] rfl rfl rfl) (JA f r n ((rs.getD i.toNat []).getD 0 0) ((rs.getD i.toNat []).getD 1 0)) zH Er rfl rfl rfl rfl rfl rfl
    (fun j hp'=>∃ s,dW occ (L.drop j) s=dW occ L set/\hp'=[.rows false [.i64,.i64] rs,.cells true [I f,I r],.cells true [U occ],.cells true [U s],.cells true [I ((rs.getD i.toNat []).getD 0 0),I ((rs.getD i.toNat []).getD 1 0)],.cells true [I f,I r],.cells true [I n],.cells true [I ((rs.getD i.toNat []).getD 0 0)],.cells true [I ((rs.getD i.toNat []).getD 1 0)]])
    (fun e hp'=>e=.exit 2/\∃ s,s=dW occ L set/\hp'=[.rows false [.i64,.i64] rs,.cells true [I f,I r],.cells true [U occ],.cells true [U s],.cells true [I ((rs.getD i.toNat []).getD 0 0),I ((rs.getD i.toNat []).getD 1 0)],.cells true [I f,I r],.cells true [I n],.cells true [I ((rs.getD i.toNat []).getD 0 0)],.cells true [I ((rs.getD i.toNat []).getD 1 0)]])
    ⟨set,rfl,rfl⟩ ?_ ?_ ?_ ?_ ?_
   ·rintro j hp' ⟨s,_,rfl⟩;rfl
   ·rintro e hp' ⟨_,s,_,rfl⟩;rfl
   ·rintro j vs hp' hi ⟨s,hs,rfl⟩
    obtain⟨x,hx,rfl,x0,x1⟩:=zv hi
    rw[hL]at hx
    rw[BA hx]at hs
    refine ag ⟨rfl,?_⟩
    repeat (first|refine ah ?_|refine sat_nd ?_)
    refine aq (fun h2=>?_) (fun h2=>?_)
    ·have h2:decide (uand (ushr occ x) 1=1)=true:=h2
     rw[h2,cond_true]at hs
     exact ag ⟨_,Ent.ren [0,1,2,3,4,5,6,7,8] [] rfl rfl rfl,rfl,_,hs,rfl⟩
    ·have h2:decide (uand (ushr occ x) 1=1)=false:=h2
     rw[h2,cond_false]at hs
     exact ag ⟨_,Ent.ren [0,1,2,3,4,5,6,7,8] [] rfl rfl rfl,_,hs,rfl⟩
   ·rintro hp' ⟨s,hs,rfl⟩
    rw[mY,hL,List.drop_length]at hs
    have hs:s=dW occ L set:=hs
    refine ag ⟨(_,_),⟨k+1,by omega,hnext,?_⟩,?_,Ent.ren [0,1,2,3] [1,4,6,9,13,14,15] rfl rfl rfl⟩
    ·rw[<-hki,hstep,eK,hL];exact hs
    ·show _-(i64.wrap (i+1)).toNat<_
     rw[hnext];omega
   ·rintro e hp' ⟨rfl,s,hs,rfl⟩
    refine ag ⟨(_,_),⟨k+1,by omega,hnext,?_⟩,?_,Ent.ren [0,1,2,3] [1,4,6,9,13,14,15] rfl rfl rfl⟩
    ·rw[<-hki,hstep,eK,hL];exact hs
    ·show _-(i64.wrap (i+1)).toNat<_
     rw[hnext];omega
  ·simp only[decide_eq_false_iff_not]at hlt
   obtain rfl:k=rs.length:=by omega
   rw[List.take_length]at h2
   exact ag (ag (ai (.inr rfl) rfl rfl rfl (by rw[h2];rfl)))
 ·cases e
end
end Go.Ab
namespace Go.Ab
open Go.Proofs
section
variable{kCa kDb:Bool}
def cq(f r kd n occ:Int):Int×Int:=
 bif gH f r n occ then
  (bif decide (kd=2) then(cA f r n iC,0)else bif decide (kd=3) then(dR f r n occ fO,0)else bif decide (kd=4) then(dR f r n occ fN,0)
   else bif decide (kd=5) then(uor (dR f r n occ fO) (dR f r n occ fN),0)else bif decide (kd=6) then(uor (cA f r n fO) (cA f r n fN),0) else(0,2))
 else(0,2)
def gg(f r:Int)(bl:Bool)(n:Int):Int×Int:=bif aj f r n then(cA f r n [[-1,fwd bl],[1,fwd bl]],0) else(0,2)
def one1(f r:Int)(bl:Bool)(n occ:Int):Int:=cY (cA f r n [[0,fwd bl]]) occ
def qi(f r:Int)(bl:Bool)(n occ:Int):Bool:=decide (one1 f r bl n occ=0)||decide (r<6)||!decide (IntKind.i64.wrap (n.tdiv f)=bif bl then IntKind.i64.wrap (r-2)else 1)
def dm(f r:Int)(bl:Bool)(n occ:Int):Int×Int:=
 bif gH f r n occ then
  (bif qi f r bl n occ then(one1 f r bl n occ,0)
   else(uor (one1 f r bl n occ) (cY (cA f r n [[0,IntKind.i64.wrap (2*fwd bl)]]) occ),0))
 else(0,2)
def oH:CF
 |[.agg [.int .i64 f,.int .i64 r],.int .i8 kd,.int .i64 n,.int .u64 occ],[]=>some (true,.tup [U (cq f r kd n occ).1,I (cq f r kd n occ).2],[])
 |_,_=>none
theorem kN:CtOk (GGx kCa kDb) PP (154,oH):=by
 refine aD Tryz.func154 (by kernel_rfl) rfl fun a0 h0 c0 v0 N0 e hc=>?_
 unfold oH at e
 split at e
 ·rename_i f r kd n occ
  cases e
  have hE:=aB (kCa:=kCa) (kDb:=kDb) (cts:=[(174,rR),(173,uB),(175,xl)]) (inl:=[]) ⟨pD,ot,BR,trivial⟩ trivial
  refine ak hE 2 Tryz.func154 rfl rfl ?_
  repeat (first|refine ah ?_|refine sat_nd ?_)
  refine aq (fun h1=>?_) (fun h1=>?_)
  ·have h1:gH f r n occ=false:=by simpa using h1
   exact ag (ai (.inr rfl) rfl rfl rfl (by rw[cq,h1];rfl))
  have h1:gH f r n occ=true:=by simpa using h1
  refine aq (fun h2=>?_) (fun h2=>?_)
  ·repeat (first|refine ah ?_|refine sat_nd ?_)
   exact ag (ai (.inr rfl) rfl rfl rfl (by rw[cq,h1,cond_true,h2];rfl))
  refine aq (fun h3=>?_) (fun h3=>?_)
  ·repeat (first|refine ah ?_|refine sat_nd ?_)
   exact ag (ai (.inr rfl) rfl rfl rfl (by rw[cq,h1,cond_true,h2,h3];rfl))
  refine aq (fun h4=>?_) (fun h4=>?_)
  ·repeat (first|refine ah ?_|refine sat_nd ?_)
   exact ag (ai (.inr rfl) rfl rfl rfl (by rw[cq,h1,cond_true,h2,h3,h4];rfl))
  refine aq (fun h5=>?_) (fun h5=>?_)
  ·repeat (first|refine ah ?_|refine sat_nd ?_)
   exact ag (ai (.inr rfl) rfl rfl rfl (by rw[cq,h1,cond_true,h2,h3,h4,h5];rfl))
  refine aq (fun h6=>?_) (fun h6=>?_)
  ·repeat (first|refine ah ?_|refine sat_nd ?_)
   exact ag (ai (.inr rfl) rfl rfl rfl (by rw[cq,h1,cond_true,h2,h3,h4,h5,h6];rfl))
  exact ag (ai (.inr rfl) rfl rfl rfl (by rw[cq,h1,cond_true,h2,h3,h4,h5,h6];rfl))
 ·cases e
def vx:CF
 |[.agg [.int .i64 f,.int .i64 r],.bool bl,.int .i64 n],[]=>some (true,.tup [U (gg f r bl n).1,I (gg f r bl n).2],[])
 |_,_=>none
theorem mR:CtOk (GGx kCa kDb) PP (153,vx):=by
 refine aD Tryz.func153 (by kernel_rfl) rfl fun a0 h0 c0 v0 N0 e hc=>?_
 unfold vx at e
 split at e
 ·rename_i f r bl n
  cases e
  have hE:=aB (kCa:=kCa) (kDb:=kDb) (cts:=[(101,eN),(172,jb),(173,uB)]) (inl:=[]) ⟨cW,lJ,ot,trivial⟩ trivial
  refine ak hE 2 Tryz.func153 rfl rfl ?_
  repeat (first|refine ah ?_|refine sat_nd ?_)
  refine aq (fun h1=>?_) (fun h1=>?_)
  ·have h1:aj f r n=false:=by simpa using h1
   exact ag (ai (.inr rfl) rfl rfl rfl (by rw[gg,h1];rfl))
  have h1:aj f r n=true:=by simpa using h1
  repeat (first|refine ah ?_|refine sat_nd ?_)
  exact ag (ai (.inr rfl) rfl rfl rfl (by rw[gg,h1];rfl))
 ·cases e
def rj:CF
 |[.agg [.int .i64 f,.int .i64 r],.bool bl,.int .i64 n,.int .u64 occ],[]=>some (true,.tup [U (dm f r bl n occ).1,I (dm f r bl n occ).2],[])
 |_,_=>none
theorem pF:CtOk (GGx kCa kDb) PP (157,rj):=by
 refine aD Tryz.func157 (by kernel_rfl) rfl fun a0 h0 c0 v0 N0 e hc=>?_
 unfold rj at e
 split at e
 ·rename_i f r bl n occ
  cases e
  have hE:=aB (kCa:=kCa) (kDb:=kDb) (cts:=[(174,rR),(173,uB),(172,jb)]) (inl:=[]) ⟨pD,ot,lJ,trivial⟩ trivial
  refine ak hE 2 Tryz.func157 rfl rfl ?_
  repeat (first|refine ah ?_|refine sat_nd ?_)
  refine aq (fun h1=>?_) (fun h1=>?_)
  ·have h1:gH f r n occ=false:=by simpa using h1
   exact ag (ai (.inr rfl) rfl rfl rfl (by rw[dm,h1];rfl))
  have h1:gH f r n occ=true:=by simpa using h1
  have hv:aj f r n=true:=by simp only[gH,Bool.and_eq_true]at h1;exact h1.1
  have hf:=de (bM hv)
  repeat (first|refine ah ?_|refine sat_nd ?_)
  refine aq (fun h2=>?_) (fun h2=>?_)
  ·subst h2
   repeat (first|refine ah ?_|refine sat_nd ?_)
   refine aq (fun h3=>?_) (fun h3=>?_)
   ·have h3:qi f r true n occ=true:=h3
    exact ag (ai (.inr rfl) rfl rfl rfl (by rw[dm,h1,cond_true,h3];rfl))
   ·have h3:qi f r true n occ=false:=h3
    repeat (first|refine ah ?_|refine sat_nd ?_)
    exact ag (ai (.inr rfl) rfl rfl rfl (by rw[dm,h1,cond_true,h3];rfl))
  ·subst h2
   repeat (first|refine ah ?_|refine sat_nd ?_)
   refine aq (fun h3=>?_) (fun h3=>?_)
   ·have h3:qi f r false n occ=true:=h3
    exact ag (ai (.inr rfl) rfl rfl rfl (by rw[dm,h1,cond_true,h3];rfl))
   ·have h3:qi f r false n occ=false:=h3
    repeat (first|refine ah ?_|refine sat_nd ?_)
    exact ag (ai (.inr rfl) rfl rfl rfl (by rw[dm,h1,cond_true,h3];rfl))
 ·cases e
end
end Go.Ab
namespace Go.Ab
open IntKind
open Go.Proofs
section
variable{kCa kDb:Bool}
def numB(f r x y:Int):Bool:=decide (x<0)||decide (f<=x)||decide (y<0)||decide (r<=y)
def numR(f r x y:Int):Int:=bif numB f r x y then -1 else i64.wrap (i64.wrap (y*f)+x)
def hasB(s n:Int):Bool:=decide (0<=n)&&decide (n<64)&&decide ((ushr s n).tmod 2=1)
def zV:CF
 |[.agg [.int .i64 f,.int .i64 r]],[]=>some (true,.bool (vsB f r),[])
 |_,_=>none
theorem uo:CtOk (GGx kCa kDb) PP (132,zV):=by
 refine aD Tryz.func132 (by kernel_rfl) rfl fun a0 h0 c0 v0 N0 e hc=>?_
 unfold zV at e
 split at e
 ·rename_i f r
  cases e
  have hE:=aB (kCa:=kCa) (kDb:=kDb) (cts:=[]) (inl:=[]) trivial trivial
  refine ak hE 2 Tryz.func132 rfl rfl ?_
  repeat (first|refine ah ?_|refine sat_nd ?_)
  exact ag (ai (.inr rfl) rfl rfl rfl (by simp[vsB,Fk,Bool.and_assoc]))
 ·cases e
def nP:CF
 |[.agg [.int .i64 f,.int .i64 r],.int .i64 n],[]=>some (true,.bool (aj f r n),[])
 |_,_=>none
theorem kI:CtOk (GGx kCa kDb) PP (84,nP):=by
 refine aD Tryz.func84 (by kernel_rfl) rfl fun a0 h0 c0 v0 N0 e hc=>?_
 unfold nP at e
 split at e
 ·rename_i f r n
  cases e
  have hE:=aB (kCa:=kCa) (kDb:=kDb) (cts:=[(132,zV)]) (inl:=[]) ⟨uo,trivial⟩ trivial
  refine ak hE 2 Tryz.func84 rfl rfl ?_
  repeat (first|refine ah ?_|refine sat_nd ?_)
  exact ag (ai (.inr rfl) rfl rfl rfl rfl)
 ·cases e
def gl:CF
 |[.agg [.int .i64 f,.int .i64 r],.int .i64 x,.int .i64 y],[]=>some (true,.int .i64 (numR f r x y),[])
 |_,_=>none
theorem eV:CtOk (GGx kCa kDb) PP (86,gl):=by
 refine aD Tryz.func86 (by kernel_rfl) rfl fun a0 h0 c0 v0 N0 e hc=>?_
 unfold gl at e
 split at e
 ·rename_i f r x y
  cases e
  have hE:=aB (kCa:=kCa) (kDb:=kDb) (cts:=[]) (inl:=[]) trivial trivial
  refine ak hE 2 Tryz.func86 rfl rfl ?_
  repeat (first|refine ah ?_|refine sat_nd ?_)
  refine aq (fun h1=>?_) (fun h1=>?_)
  ·have h1:numB f r x y=true:=h1
   exact ag (ai (.inr rfl) rfl rfl rfl (by rw[numR,h1];rfl))
  ·have h1:numB f r x y=false:=h1
   exact ag (ai (.inr rfl) rfl rfl rfl (by rw[numR,h1];rfl))
 ·cases e
def dH:CF
 |[.agg [.int .i64 f,.int .i64 _r],.int .i64 n],[]=>some (!decide (f=0),.agg [I (n.tmod f),I (i64.wrap (n.tdiv f))],[])
 |_,_=>none
theorem bZ:CtOk (GGx kCa kDb) PP (39,dH):=by
 refine aD Tryz.func39 (by kernel_rfl) rfl fun a0 h0 c0 v0 N0 e hc=>?_
 unfold dH at e
 split at e
 ·rename_i f r n
  cases e
  have hE:=aB (kCa:=kCa) (kDb:=kDb) (cts:=[]) (inl:=[]) trivial trivial
  refine ak hE 2 Tryz.func39 rfl rfl ?_
  have hc:¬ f=0:=by simpa using hc
  repeat (first|refine ah ?_|refine sat_nd ?_)
  exact ag (ai (.inr rfl) rfl rfl rfl rfl)
 ·cases e
def Cj:CF
 |[.int .u64 s,.int .i64 n],[]=>some (true,.bool (hasB s n),[])
 |_,_=>none
theorem sM:CtOk (GGx kCa kDb) PP (53,Cj):=by
 refine aD Tryz.func53 (by kernel_rfl) rfl fun a0 h0 c0 v0 N0 e hc=>?_
 unfold Cj at e
 split at e
 ·rename_i s n
  cases e
  have hE:=aB (kCa:=kCa) (kDb:=kDb) (cts:=[]) (inl:=[]) trivial trivial
  refine ak hE 2 Tryz.func53 rfl rfl ?_
  repeat (first|refine ah ?_|refine sat_nd ?_)
  exact ag (ai (.inr rfl) rfl rfl rfl rfl)
 ·cases e
def ofL:List Int->Int->Int
 |[],s=>s
 |x::l,s=>ofL l (bif hasB s x then s else u64.wrap (s+ushl 1 x))
theorem NP{l:List Int}{i:Nat}{x s:Int}(h:l[i]?=some x):ofL (l.drop i) s=ofL (l.drop (i+1)) (bif hasB s x then s else u64.wrap (s+ushl 1 x)):=by
 obtain⟨h1,h2⟩:=List.getElem?_eq_some_iff.1 h
 rw[List.drop_eq_getElem_cons h1,h2,ofL]
def c_Of:CF
 |[.sl 0 0 len none],[.ints false .i64 zs]=>some (decide (len=zs.length)&&decide (zs.length<=1000000)&&zs.all fun x=>decide (0<=x),.int .u64 (ofL zs 0),[])
 |_,_=>none
theorem Kk:CtOk (GGx kCa kDb) PP (22,c_Of):=by
 refine aD Tryz.func22 (by kernel_rfl) rfl fun a0 h0 c0 v0 N0 e hc=>?_
 unfold c_Of at e
 split at e
 ·rename_i len zs
  cases e
  have hE:=aB (kCa:=kCa) (kDb:=kDb) (cts:=[(53,Cj)]) (inl:=[]) ⟨sM,trivial⟩ trivial
  refine ak hE 2 Tryz.func22 rfl rfl ?_
  simp only[Bool.and_eq_true,decide_eq_true_eq,List.all_eq_true]at hc
  obtain⟨⟨hc1,hc2⟩,hc3⟩:=hc
  subst hc1
  refine kZ hE 2 (fun a:Int×Int=>([(0,.sl 0 0 zs.length none),(3,U a.2),(4,I a.1)],[.ints false .i64 zs]))
   (fun a=>∃ k:Nat,k<=zs.length/\a.1=k/\ofL (zs.drop k) a.2=ofL zs 0) (fun a=>zs.length-a.1.toNat) (0,0)
   (Ent.ren [0] [0,3,4] rfl rfl rfl) ⟨0,by omega,rfl,rfl⟩ ?_
  rintro⟨i,set⟩ ⟨k,hk,h1,h2⟩
  dsimp only at h1 h2 ⊢
  refine aq (fun hlt=>?_) (fun hlt=>?_)
  ·simp only[decide_eq_true_eq]at hlt
   have hnext:i64.wrap (i+1)=((k+1:Nat):Int):=by rw[ay (by omega) (by omega)];omega
   have hki:i.toNat=k:=by omega
   have hlt':k<zs.length:=by omega
   have hget:zs[k]?=some (zs.getD i.toNat 0):=by simp[hki,List.getD,hlt']
   have hmem:=hc3 _ (List.mem_of_getElem? hget)
   rw[NP hget]at h2
   refine ae (by simp;omega) ?_
   repeat (first|refine ah ?_|refine sat_nd ?_)
   refine aq (fun hon=>?_) (fun hon=>?_)
   ·have hon:(!hasB set (zs.getD i.toNat 0))=true:=hon
    rw[Bool.not_eq_true']at hon
    rw[hon,cond_false]at h2
    repeat (first|(first|refine ah ?_|refine sat_nd ?_)|refine ae (decide_eq_true hmem) ?_)
    refine ag ⟨(i64.wrap (i+1),_),⟨k+1,by omega,hnext,h2⟩,?_,Ent.ren [0] [0,3,4] rfl rfl rfl⟩
    show _-(i64.wrap (i+1)).toNat<_
    rw[hnext];omega
   ·have hon:(!hasB set (zs.getD i.toNat 0))=false:=hon
    rw[Bool.not_eq_false']at hon
    repeat (first|refine ah ?_|refine sat_nd ?_)
    rw[hon,cond_true]at h2
    refine ag ⟨(i64.wrap (i+1),_),⟨k+1,by omega,hnext,h2⟩,?_,Ent.ren [0] [0,3,4] rfl rfl rfl⟩
    show _-(i64.wrap (i+1)).toNat<_
    rw[hnext];omega
  ·simp only[decide_eq_false_iff_not]at hlt
   obtain rfl:k=zs.length:=by omega
   rw[List.drop_length]at h2
   exact ag (ag (ai (.inr rfl) rfl rfl rfl (by rw[<-h2];rfl)))
 ·cases e
end
section
variable{kCa kDb:Bool}
def fG(f r df dr px py:Int):Nat->Int->List Int
 |0,_=>[]
 |m+1,k=>bif decide (numR f r (i64.wrap (px+i64.wrap (k*df))) (i64.wrap (py+i64.wrap (k*dr)))<0) then[]else numR f r (i64.wrap (px+i64.wrap (k*df))) (i64.wrap (py+i64.wrap (k*dr)))::fG f r df dr px py m (i64.wrap (k+1))
def cE(f r n df dr:Int):List Int:=bif !aj f r n||(decide (df=0)&&decide (dr=0)) then[]else fG f r df dr (n.tmod f) (i64.wrap (n.tdiv f)) 8 1
theorem Fm(f r df dr px py:Int)(m:Nat):∀ k,(fG f r df dr px py m k).length<=m:=by
 induction m with
 |zero=>intro k;simp[fG]
 |succ m ih=>
  intro k
  rw[fG]
  cases decide (numR f r (i64.wrap (px+i64.wrap (k*df))) (i64.wrap (py+i64.wrap (k*dr)))<0) with
  |true=>simp
  |false=>have:=ih (i64.wrap (k+1));simp;omega
theorem lj(f r n df dr:Int):(cE f r n df dr).length<=8:=by
 unfold cE
 cases(!aj f r n||(decide (df=0)&&decide (dr=0))) with
 |true=>simp
 |false=>exact Fm ..
def qD:CF
 |[.agg [.int .i64 f,.int .i64 r],.int .i64 n,.int .i64 df,.int .i64 dr],[]=>some (true,.sl 0 0 (cE f r n df dr).length none,[.ints true .i64 (cE f r n df dr)])
 |_,_=>none
theorem wY:CtOk (GGx kCa kDb) PP (182,qD):=by
 refine aD Tryz.func182 (by kernel_rfl) rfl fun a0 h0 c0 v0 N0 e hc=>?_
 unfold qD at e
 split at e
 ·rename_i f r n df dr
  cases e
  have hE:=aB (kCa:=kCa) (kDb:=kDb) (cts:=[(84,nP),(39,dH),(86,gl)]) (inl:=[]) ⟨kI,bZ,eV,trivial⟩ trivial
  refine oO hE 2 Tryz.func182 rfl rfl ?_
  repeat (first|refine ah ?_|refine sat_nd ?_)
  refine aq (fun h0=>?_) (fun h0=>?_)
  ·have hz:cE f r n df dr=[]:=by rw[cE,show (!aj f r n||(decide (df=0)&&decide (dr=0)))=true from h0];rfl
   rw[hz]
   exact ag (GK ((Ent.phanT (t:=8) (o:=.ints true .i64 []) rfl ⟨by simp,by simp,trivial,rfl⟩ (aH rfl))) (bW 1 (.inr rfl) rfl rfl rfl rfl rfl rfl))
  have hz:cE f r n df dr=fG f r df dr (n.tmod f) (i64.wrap (n.tdiv f)) 8 1:=by rw[cE,show (!aj f r n||(decide (df=0)&&decide (dr=0)))=false from h0];rfl
  have hv:aj f r n=true:=by cases h:aj f r n<;>simp_all
  have hf:=de (bM hv)
  refine ae (by simp;omega) ?_
  refine kZ hE 2 (fun a:Int×List Int=>([(2,I df),(3,I dr),(4,.ptr 0 0 0),(9,.ptr 1 0 0),(10,.sl 2 0 a.2.length none),(11,I a.1)],[.cells true [I f,I r],.cells true [I (n.tmod f),I (i64.wrap (n.tdiv f))],.ints true .i64 a.2]))
   (fun a=>∃ k:Nat,1<=k/\k<=9/\a.1=k/\a.2++fG f r df dr (n.tmod f) (i64.wrap (n.tdiv f)) (9-k) k=cE f r n df dr) (fun a=>9-a.1.toNat) (1,[])
   ((Ent.phanT (t:=10) (o:=.ints true .i64 []) rfl ⟨by simp,by simp,trivial,rfl⟩ (aH rfl)).trans (Ent.ren [0,1,2] [2,3,4,9,10,11] rfl rfl rfl)) ⟨1,by omega,by omega,rfl,hz.symm⟩ ?_
  rintro⟨i,zs⟩ ⟨k,hk1,hk,h1,h3⟩
  dsimp only at h1 h3 ⊢
  have hb:zs.length<=8:=by have:=congrArg List.length h3;have:=lj f r n df dr;simp at *;omega
  refine aq (fun hlt=>?_) (fun hlt=>?_)
  ·simp only[decide_eq_true_eq]at hlt
   have hnext:i64.wrap (i+1)=((k+1:Nat):Int):=by rw[ay (by omega) (by omega)];omega
   rw[show 9-k=(9-(k+1))+1 by omega,fG,<-h1,hnext]at h3
   repeat (first|refine ah ?_|refine sat_nd ?_)
   refine aq (fun hon=>?_) (fun hon=>?_)
   ·have hon:decide (numR f r (i64.wrap (n.tmod f+i64.wrap (i*df))) (i64.wrap (i64.wrap (n.tdiv f)+i64.wrap (i*dr)))<0)=true:=hon
    rw[hon,cond_true,List.append_nil]at h3
    subst h3
    refine ag (ag (Kw (bW 2 (.inr rfl) rfl rfl rfl rfl rfl rfl)))
   ·have hon:decide (numR f r (i64.wrap (n.tmod f+i64.wrap (i*df))) (i64.wrap (i64.wrap (n.tdiv f)+i64.wrap (i*dr)))<0)=false:=hon
    rw[hon,cond_false]at h3
    refine ae (b:=decide (zs.length=zs.length)&&decide ((zs.length+1)*8<=140737488355328)&&true) (by simp;omega) ?_
    refine ag ⟨(i64.wrap (i+1),zs++[numR f r (i64.wrap (n.tmod f+i64.wrap (i*df))) (i64.wrap (i64.wrap (n.tdiv f)+i64.wrap (i*dr)))]),⟨k+1,by omega,by omega,hnext,by rw[<-h3];simp⟩,?_,Ent.ren [0,1,4] [2,3,4,9,10,11] rfl rfl rfl⟩
    show _-(i64.wrap (i+1)).toNat<_
    rw[hnext];omega
  ·simp only[decide_eq_false_iff_not]at hlt
   obtain rfl:k=9:=by omega
   rw[fG,List.append_nil]at h3
   subst h3
   refine ag (ag (Kw (bW 2 (.inr rfl) rfl rfl rfl rfl rfl rfl)))
 ·cases e
end
section
variable{kCa kDb:Bool}
def subS(s:List UInt8)(a b:Int):List UInt8:=(s.drop a.toNat).take (b.toNat-a.toNat)
def HF(f _r n:Int):List UInt8:=subS [97,98,99,100,101,102,103,104] (n.tmod f) (i64.wrap (n.tmod f+1))++subS [49,50,51,52,53,54,55,56] (i64.wrap (n.tdiv f)) (i64.wrap (i64.wrap (n.tdiv f)+1))
theorem JO{f r n:Int}(h:aj f r n=true):0<=n.tmod f/\n.tmod f<f/\0<=n.tdiv f/\n.tdiv f<r/\i64.wrap (n.tdiv f)=n.tdiv f/\i64.wrap (n.tmod f+1)=n.tmod f+1/\i64.wrap (n.tdiv f+1)=n.tdiv f+1:=by
 have hp:=qA h
 simp only[aU,h,cond_true]at hp
 obtain⟨a1,a2,a3,a4⟩:=de (bM h)
 have hv:0<=n:=by simp only[aj,Bool.and_eq_true,decide_eq_true_eq]at h;exact h.1.2
 have e2:n.tdiv f=n/f:=Int.tdiv_eq_ediv_of_nonneg hv
 have e3:i64.wrap (n.tdiv f)=n.tdiv f:=by rw[hp.2.2.2.2.2,e2]
 rw[e3]at hp
 refine⟨hp.1,hp.2.1,hp.2.2.1,hp.2.2.2.1,e3,ay (by omega) (by omega),ay (by omega) (by omega)⟩
def tR:CF
 |[.agg [.int .i64 f,.int .i64 r],.int .i64 n],[]=>some (aj f r n,.str (HF f r n),[])
 |_,_=>none
theorem nG:CtOk (GGx kCa kDb) PP (125,tR):=by
 refine aD Tryz.func125 (by kernel_rfl) rfl fun a0 h0 c0 v0 N0 e hc=>?_
 unfold tR at e
 split at e
 ·rename_i f r n
  cases e
  have hE:=aB (kCa:=kCa) (kDb:=kDb) (cts:=[(39,dH)]) (inl:=[]) ⟨bZ,trivial⟩ trivial
  refine ak hE 2 Tryz.func125 rfl rfl ?_
  obtain⟨a1,a2,a3,a4⟩:=de (bM hc)
  obtain⟨b1,b2,b3,b4,b5,b6,b7⟩:=JO hc
  refine ae (by simp;omega) ?_
  repeat (first|refine ah ?_|refine ae (by first|rfl|(simp[b5,b6,b7];omega)) ?_)
  exact ag (ai (.inr rfl) rfl rfl rfl rfl)
 ·cases e
def oE(f r:Int)(s:List UInt8):Nat->Nat->Int
 |0,_=>-1
 |m+1,k=>bif HF f r k==s then k else oE f r s m (k+1)
def cy(f r:Int)(s:List UInt8):Int:=oE f r s (f*r).toNat 0
def nv:CF
 |[.agg [.int .i64 f,.int .i64 r],.str s],[]=>some (vsB f r,.int .i64 (cy f r s),[])
 |_,_=>none
theorem kp:CtOk (GGx kCa kDb) PP (124,nv):=by
 refine aD Tryz.func124 (by kernel_rfl) rfl fun a0 h0 c0 v0 N0 e hc=>?_
 unfold nv at e
 split at e
 ·rename_i f r s
  cases e
  have hE:=aB (kCa:=kCa) (kDb:=kDb) (cts:=[(125,tR)]) (inl:=[]) ⟨nG,trivial⟩ trivial
  refine ak hE 2 Tryz.func124 rfl rfl ?_
  have hm:=gu hc
  have hw:=eP hc
  refine kZ hE 2 (fun a:Int=>([(1,.str s),(2,.ptr 0 0 0),(5,I a)],[.cells true [I f,I r]]))
   (fun a=>∃ k:Nat,k<=(f*r).toNat/\a=k/\oE f r s ((f*r).toNat-k) k=cy f r s) (fun a=>(f*r).toNat-a.toNat) 0
   (Ent.ren [0] [1,2,5] rfl rfl rfl) ⟨0,by omega,rfl,rfl⟩ ?_
  rintro i ⟨k,hk,h1,h3⟩
  dsimp only at h1 h3 ⊢
  refine aq (fun hlt=>?_) (fun hlt=>?_)
  ·simp only[decide_eq_true_eq]at hlt
   rw[hw]at hlt
   have hnext:i64.wrap (i+1)=((k+1:Nat):Int):=by rw[ay (by omega) (by omega)];omega
   rw[show (f*r).toNat-k=((f*r).toNat-(k+1))+1 by omega,oE,<-h1]at h3
   refine ae (by simp only[aj,Bool.and_eq_true,decide_eq_true_eq];rw[hw];exact⟨⟨hc,by omega⟩,hlt⟩) ?_
   refine aq (fun hon=>?_) (fun hon=>?_)
   ·have hon:(HF f r i==s)=true:=hon
    rw[hon,cond_true]at h3
    refine ag (ag (ai (.inr rfl) rfl rfl rfl (by rw[<-h3])))
   ·have hon:(HF f r i==s)=false:=hon
    rw[hon,cond_false]at h3
    refine ag ⟨i64.wrap (i+1),⟨k+1,by omega,hnext,h3⟩,?_,Ent.ren [0] [1,2,5] rfl rfl rfl⟩
    show _-(i64.wrap (i+1)).toNat<_
    rw[hnext];omega
  ·simp only[decide_eq_false_iff_not]at hlt
   rw[hw]at hlt
   obtain rfl:k=(f*r).toNat:=by omega
   rw[Nat.sub_self,oE]at h3
   refine ag (ag (ai (.inr rfl) rfl rfl rfl (by rw[<-h3])))
 ·cases e
end
end Go.Ab
namespace Go.Ab
open Go.Proofs
end Go.Ab
namespace Go.Ab
open IntKind
open Go.Proofs
theorem xy{f r X Y:Int}(h:vsB f r=true):decide ((atR f r X Y).2=0)=onB f r X Y:=by
 unfold atR
 cases h2:onB f r X Y<;>simp[h]
theorem vQ{f r X Y:Int}:numB f r X Y=!onB f r X Y:=by
 rw[Bool.eq_iff_iff]
 simp only[numB,onB,Bool.or_eq_true,decide_eq_true_eq,Bool.not_eq_true',Bool.and_eq_false_iff,decide_eq_false_iff_not]
 omega
theorem tL{f r X Y:Int}(h:vsB f r=true)(h2:onB f r X Y=true):numR f r X Y=(atR f r X Y).1:=by
 simp only[numR,vQ,h2,atR,h,Bool.not_true,cond_true,cond_false,Int.add_comm]
theorem su{f r X Y:Int}(h:vsB f r=true):decide (numR f r X Y<0)=!onB f r X Y:=by
 cases h2:onB f r X Y with
 |false=>simp[numR,vQ,h2]
 |true=>
  rw[tL h h2]
  have h3:=xy (X:=X) (Y:=Y) h
  rw[h2]at h3
  have:=lK (of_decide_eq_true h3)
  simp;omega
theorem jC{f r x y:Int}(h1:0<=x)(h2:x<f)(h3:0<=y)(h4:y<r):onB f r x y=true:=by simp[onB, *]
theorem OF{f r df dr px py:Int}(h:vsB f r=true)(hb:-7<=df/\df<=7/\-7<=dr/\dr<=7)(hnz:df≠0\/dr≠0)(hp:onB f r px py=true) :
  ∀ (m k:Nat),m+k=9->1<=k->onB f r (px+((k:Int)-1)*df) (py+((k:Int)-1)*dr)=true->kV f r df dr (m+1) (px+((k:Int)-1)*df) (py+((k:Int)-1)*dr)=fG f r df dr px py m k:=by
 have hv:=de h
 have hp:=ta hp
 intro m
 induction m with
 |zero=>
  intro k hk h1 hon
  obtain rfl:k=9:=by omega
  have:=ta hon
  exfalso
  rcases hnz with e|e<;>omega
 |succ m ih=>
  intro k hk h1 hon
  have hon:=ta hon
  have hX:i64.wrap (px+((k:Int)-1)*df+df)=px+((k:Int)+1-1)*df/\i64.wrap (py+((k:Int)-1)*dr+dr)=py+((k:Int)+1-1)*dr/\i64.wrap (px+i64.wrap (k*df))=px+((k:Int)+1-1)*df/\i64.wrap (py+i64.wrap (k*dr))=py+((k:Int)+1-1)*dr/\i64.wrap ((k:Int)+1)=((k+1:Nat):Int):=by
   have hk8:k=1\/k=2\/k=3\/k=4\/k=5\/k=6\/k=7\/k=8:=by omega
   rcases hk8 with rfl|rfl|rfl|rfl|rfl|rfl|rfl|rfl <;>
   ·refine⟨?_,?_,?_,?_,?_⟩
    ·rw[ay (by omega) (by omega)];omega
    ·rw[ay (by omega) (by omega)];omega
    ·rw[ay (n:=_*df) (by omega) (by omega),ay (by omega) (by omega)];omega
    ·rw[ay (n:=_*dr) (by omega) (by omega),ay (by omega) (by omega)];omega
    ·rw[ay (by omega) (by omega)];omega
  obtain⟨e1,e2,e3,e4,e5⟩:=hX
  rw[kV,fG,e1,e2,e3,e4,e5,xy h,su h]
  cases h2:onB f r (px+((k:Int)+1-1)*df) (py+((k:Int)+1-1)*dr) with
  |false=>rfl
  |true=>
   rw[tL h h2]
   have:=ih (k+1) (by omega) (by omega) (by push_cast;exact h2)
   push_cast at this ⊢
   simp only[cond_true,Bool.not_true,cond_false,this]
def inR(df dr:Int):Bool:=decide (-8<=df)&&decide (df<=8)&&decide (-8<=dr)&&decide (dr<=8)
theorem Oh{df dr:Int}(h:inR df dr=true)(h2:gL df dr=true):df=8\/df=-8\/dr=8\/dr=-8:=by
 simp only[inR,Bool.and_eq_true,decide_eq_true_eq]at h
 obtain⟨⟨⟨a1,a2⟩,a3⟩,a4⟩:=h
 simp only[gL,Bool.or_eq_true,decide_eq_true_eq]at h2
 rw[ay (n:=0-df) (by omega) (by omega),ay (n:=0-dr) (by omega) (by omega)]at h2
 have m:∀ x y:Int,imax true x y=x\/imax true x y=y:=fun x y=>by
  unfold imax
  by_cases h:x<y<;>simp[h]
 have m1:=m df (0-df)
 have m2:=m (imax true df (0-df)) dr
 have m3:=m (imax true (imax true df (0-df)) dr) (0-dr)
 omega
theorem MD{df dr:Int}(h:inR df dr=false):gL df dr=true:=by
 cases hb:gL df dr with
 |true=>rfl
 |false=>
  have:=Fa hb
  simp[inR]at h
  omega
theorem JN(f r n df dr:Int):rayL f r n df dr=bif inR df dr then cE f r n df dr else[]:=by
 cases hv:aj f r n with
 |false=>simp[rayL,cE,hv]
 |true=>
  cases hz:(decide (df=0)&&decide (dr=0)) with
  |true=>simp[rayL,cE,hv,hz]
  |false=>
   have hnz:df≠0\/dr≠0:=by
    by_cases e:df=0
    ·right;rintro rfl;simp[e]at hz
    ·exact .inl e
   have hvs:=bM hv
   have hb:=de hvs
   have hp:=qA hv
   have hr:cE f r n df dr=fG f r df dr (aU f r n).1 (aU f r n).2.1 8 1:=by simp[cE,hv,hz,aU]
   cases hbig:gL df dr with
   |true=>
    have hl:rayL f r n df dr=[]:=by simp[rayL,hbig]
    rw[hl]
    cases hi:inR df dr with
    |false=>rfl
    |true=>
     have h8:=Oh hi hbig
     simp only[inR,Bool.and_eq_true,decide_eq_true_eq]at hi
     obtain⟨⟨⟨a1,a2⟩,a3⟩,a4⟩:=hi
     rw[cond_true,hr,fG,su hvs]
     have hoff:onB f r (i64.wrap ((aU f r n).1+i64.wrap (1*df))) (i64.wrap ((aU f r n).2.1+i64.wrap (1*dr)))=false:=by
      rw[ay (n:=1*df) (by omega) (by omega),ay (n:=1*dr) (by omega) (by omega),ay (by omega) (by omega),ay (by omega) (by omega)]
      cases ho:onB f r ((aU f r n).1+1*df) ((aU f r n).2.1+1*dr) with
      |false=>rfl
      |true=>have:=ta ho;omega
     rw[hoff];rfl
   |false=>
    have hi:inR df dr=true:=by
     cases hi:inR df dr with
     |true=>rfl
     |false=>rw[MD hi]at hbig;cases hbig
    have hg:=OF (f:=f) (r:=r) (df:=df) (dr:=dr) (px:=(aU f r n).1) (py:=(aU f r n).2.1) hvs (Fa hbig) hnz (jC hp.1 hp.2.1 hp.2.2.1 hp.2.2.2.1) 8 1 rfl (Nat.le_refl _) (by simpa using jC hp.1 hp.2.1 hp.2.2.1 hp.2.2.2.1)
    rw[hi,cond_true,hr]
    simp only[rayL,hv,hz,hbig,Bool.not_false,Bool.and_self,cond_true]
    simpa using hg
section
variable{kCa kDb:Bool}
theorem II{f:Int}(h:(!decide (f=0))=true):¬ f=0:=by simpa using h
def absI(n:Int):Int:=bif decide (n<0)then i64.wrap (0-n)else n
def Bz(f a b:Int):Bool:=decide (a=b)||(!decide (i64.wrap (b.tmod f-a.tmod f)=0)&&!decide (i64.wrap (i64.wrap (b.tdiv f)-i64.wrap (a.tdiv f))=0)&&!decide (i64.wrap (b.tmod f-a.tmod f)=i64.wrap (i64.wrap (b.tdiv f)-i64.wrap (a.tdiv f)))&&!decide (i64.wrap (i64.wrap (b.tmod f-a.tmod f)+i64.wrap (i64.wrap (b.tdiv f)-i64.wrap (a.tdiv f)))=0))
def bx(f a b:Int):Int×Int×Bool:=bif Bz f a b then(0,0,false) else(sgn (i64.wrap (b.tmod f-a.tmod f)),sgn (i64.wrap (i64.wrap (b.tdiv f)-i64.wrap (a.tdiv f))),true)
def xn:CF
 |[.int .i64 n],[]=>some (true,.int .i64 (sgn n),[])
 |_,_=>none
theorem BO:CtOk (GGx kCa kDb) PP (189,xn):=by
 refine aD Tryz.func189 (by kernel_rfl) rfl fun a0 h0 c0 v0 N0 e hc=>?_
 unfold xn at e
 split at e
 ·rename_i n
  cases e
  have hE:=aB (kCa:=kCa) (kDb:=kDb) (cts:=[]) (inl:=[]) trivial trivial
  refine ak hE 2 Tryz.func189 rfl rfl ?_
  repeat' first|(first|refine ah ?_|refine sat_nd ?_)|refine aq (fun h=>?_) (fun h=>?_)
  all_goals exact ag (ai (.inr rfl) rfl rfl rfl (by first|rfl|(simp only[sgn, *,cond_true,cond_false];done)|(simp only[sgn, *,cond_true,cond_false,Bool.not_true,Bool.not_false,Bool.and_true,Bool.true_and,Bool.and_false,Bool.false_and,Bool.or_true,Bool.true_or,Bool.or_false,Bool.false_or];done)|simp_all [sgn]))
 ·cases e
def Gd:CF
 |[.int .i64 n],[]=>some (true,.int .i64 (absI n),[])
 |_,_=>none
theorem FN:CtOk (GGx kCa kDb) PP (100,Gd):=by
 refine aD Tryz.func100 (by kernel_rfl) rfl fun a0 h0 c0 v0 N0 e hc=>?_
 unfold Gd at e
 split at e
 ·rename_i n
  cases e
  have hE:=aB (kCa:=kCa) (kDb:=kDb) (cts:=[]) (inl:=[]) trivial trivial
  refine ak hE 2 Tryz.func100 rfl rfl ?_
  repeat' first|(first|refine ah ?_|refine sat_nd ?_)|refine aq (fun h=>?_) (fun h=>?_)
  all_goals exact ag (ai (.inr rfl) rfl rfl rfl (by first|rfl|(simp only[absI, *,cond_true,cond_false];done)|(simp only[absI, *,cond_true,cond_false,Bool.not_true,Bool.not_false,Bool.and_true,Bool.true_and,Bool.and_false,Bool.false_and,Bool.or_true,Bool.true_or,Bool.or_false,Bool.false_or];done)|simp_all [absI]))
 ·cases e
def zX:CF
 |[.agg [.int .i64 f,.int .i64 _r],.int .i64 a,.int .i64 b],[]=>some (!decide (f=0),.tup [I (bx f a b).1,I (bx f a b).2.1,Bb (bx f a b).2.2],[])
 |_,_=>none
theorem tq:CtOk (GGx kCa kDb) PP (180,zX):=by
 refine aD Tryz.func180 (by kernel_rfl) rfl fun a0 h0 c0 v0 N0 e hc=>?_
 unfold zX at e
 split at e
 ·rename_i f r a b
  cases e
  have hE:=aB (kCa:=kCa) (kDb:=kDb) (cts:=[(39,dH),(189,xn)]) (inl:=[]) ⟨bZ,BO,trivial⟩ trivial
  refine ak hE 2 Tryz.func180 rfl rfl ?_
  have hf:=II hc
  repeat (first|refine ah ?_|refine sat_nd ?_)
  refine aq (fun h=>?_) (fun h=>?_)
  ·have h:Bz f a b=true:=h
   exact ag (ai (.inr rfl) rfl rfl rfl (by rw[bx,h];rfl))
  ·have h:Bz f a b=false:=h
   repeat (first|refine ah ?_|refine sat_nd ?_)
   exact ag (ai (.inr rfl) rfl rfl rfl (by rw[bx,h];rfl))
 ·cases e
def IV:CF
 |[.bool b],[]=>some (true,.int .i64 (fwd b),[])
 |_,_=>none
theorem zb:CtOk (GGx kCa kDb) PP (179,IV):=by
 refine aD Tryz.func179 (by kernel_rfl) rfl fun a0 h0 c0 v0 N0 e hc=>?_
 unfold IV at e
 split at e
 ·rename_i b
  cases e
  have hE:=aB (kCa:=kCa) (kDb:=kDb) (cts:=[]) (inl:=[]) trivial trivial
  refine ak hE 2 Tryz.func179 rfl rfl ?_
  repeat' first|(first|refine ah ?_|refine sat_nd ?_)|refine aq (fun h=>?_) (fun h=>?_)
  all_goals exact ag (ai (.inr rfl) rfl rfl rfl (by first|rfl|(simp only[fwd, *,cond_true,cond_false];done)|(simp only[fwd, *,cond_true,cond_false,Bool.not_true,Bool.not_false,Bool.and_true,Bool.true_and,Bool.and_false,Bool.false_and,Bool.or_true,Bool.true_or,Bool.or_false,Bool.false_or];done)|simp_all [fwd]))
 ·cases e
def secR(r:Int)(bl:Bool):Int:=bif bl then i64.wrap (r-2)else 1
def pC(f a b:Int):Int:=bif decide (absI (i64.wrap (i64.wrap (a.tdiv f)-i64.wrap (b.tdiv f)))<absI (i64.wrap (a.tmod f-b.tmod f)))then absI (i64.wrap (a.tmod f-b.tmod f))else absI (i64.wrap (i64.wrap (a.tdiv f)-i64.wrap (b.tdiv f)))
def idxL(b:Int):List Int->Nat
 |[]=>0
 |x::l=>bif decide (x=b)then 0 else idxL b l+1
def hasL(b:Int):List Int->Bool
 |[]=>false
 |x::l=>decide (x=b)||hasL b l
def eC(f r a b:Int):List Int:=cE f r a (bx f a b).1 (bx f a b).2.1
def bU(f r a b:Int):List Int:=bif hasL b (eC f r a b) then(eC f r a b).take (idxL b (eC f r a b)) else[]
def fX(s:Int):List Int->Bool
 |[]=>true
 |x::l=>bif hasB s x then false else fX s l
theorem HX{s:Int}{l:List Int}{i:Nat}(h:i<l.length):fX s (l.drop i)=bif hasB s (l.getD i 0)then false else fX s (l.drop (i+1)):=by
 rw[List.drop_eq_getElem_cons h,fX];simp[List.getD,h]
theorem vL{b:Int}{l:List Int}{i:Nat}(h:i<l.length):hasL b (l.drop i)=(decide (l.getD i 0=b)||hasL b (l.drop (i+1))):=by
 rw[List.drop_eq_getElem_cons h,hasL];simp[List.getD,h]
theorem Kl{b:Int}{l:List Int}{i:Nat}(h:i<l.length):idxL b (l.drop i)=bif decide (l.getD i 0=b)then 0 else idxL b (l.drop (i+1))+1:=by
 rw[List.drop_eq_getElem_cons h,idxL];simp[List.getD,h]
def rU:CF
 |[.agg [.int .i64 _f,.int .i64 r],.bool bl],[]=>some (true,.int .i64 (secR r bl),[])
 |_,_=>none
theorem wX:CtOk (GGx kCa kDb) PP (193,rU):=by
 refine aD Tryz.func193 (by kernel_rfl) rfl fun a0 h0 c0 v0 N0 e hc=>?_
 unfold rU at e
 split at e
 ·rename_i f r bl
  cases e
  have hE:=aB (kCa:=kCa) (kDb:=kDb) (cts:=[]) (inl:=[]) trivial trivial
  refine ak hE 2 Tryz.func193 rfl rfl ?_
  repeat' first|(first|refine ah ?_|refine sat_nd ?_)|refine aq (fun h=>?_) (fun h=>?_)
  all_goals exact ag (ai (.inr rfl) rfl rfl rfl (by first|rfl|(simp only[secR, *,cond_true,cond_false];done)|(simp only[secR, *,cond_true,cond_false,Bool.not_true,Bool.not_false,Bool.and_true,Bool.true_and,Bool.and_false,Bool.false_and,Bool.or_true,Bool.true_or,Bool.or_false,Bool.false_or];done)|simp_all [secR]))
 ·cases e
def Fb:CF
 |[.agg [.int .i64 f,.int .i64 _r],.int .i64 a,.int .i64 b],[]=>some (!decide (f=0),.int .i64 (pC f a b),[])
 |_,_=>none
theorem CT:CtOk (GGx kCa kDb) PP (55,Fb):=by
 refine aD Tryz.func55 (by kernel_rfl) rfl fun a0 h0 c0 v0 N0 e hc=>?_
 unfold Fb at e
 split at e
 ·rename_i f r a b
  cases e
  have hE:=aB (kCa:=kCa) (kDb:=kDb) (cts:=[(39,dH),(100,Gd)]) (inl:=[]) ⟨bZ,FN,trivial⟩ trivial
  refine ak hE 2 Tryz.func55 rfl rfl ?_
  have hf:=II hc
  repeat (first|refine ah ?_|refine sat_nd ?_)
  refine aq (fun h=>?_) (fun h=>?_)
  all_goals
   repeat (first|refine ah ?_|refine sat_nd ?_)
   exact ag (ai (.inr rfl) rfl rfl rfl (by simp only[pC, *,cond_true,cond_false]))
 ·cases e
def Fg:CF
 |[.sl 0 0 len none,.int .u64 s],[.ints false .i64 zs]=>some (decide (len=zs.length)&&decide (zs.length<=1000000),.bool (fX s zs),[])
 |_,_=>none
theorem EY:CtOk (GGx kCa kDb) PP (181,Fg):=by
 refine aD Tryz.func181 (by kernel_rfl) rfl fun a0 h0 c0 v0 N0 e hc=>?_
 unfold Fg at e
 split at e
 ·rename_i len s zs
  cases e
  have hE:=aB (kCa:=kCa) (kDb:=kDb) (cts:=[(53,Cj)]) (inl:=[]) ⟨sM,trivial⟩ trivial
  refine ak hE 2 Tryz.func181 rfl rfl ?_
  simp only[Bool.and_eq_true,decide_eq_true_eq]at hc
  obtain⟨rfl,hc2⟩:=hc
  refine cx hE 2 (fun i (_:Unit)=>([(0,.sl 0 0 zs.length none),(1,U s),(5,I i)],[.ints false .i64 zs])) zs.length (fun j _=>fX s (zs.drop j)=fX s zs) () (by omega) (Ent.ren [0] [0,1,5] rfl rfl rfl) rfl ?_
  intro j i _ hij hj hz
  refine aq (fun hlt=>?_) (fun hlt=>?_)
  ·have hlt':j<zs.length:=by simp at hlt;omega
   rw[HX hlt',show j=i.toNat by omega]at hz
   refine ae (by simp;omega) ?_
   repeat (first|refine ah ?_|refine sat_nd ?_)
   refine aq (fun hon=>?_) (fun hon=>?_)
   ·have hon:hasB s (zs.getD i.toNat 0)=true:=hon
    rw[hon]at hz
    exact ag (ag (ai (.inr rfl) rfl rfl rfl (by rw[<-hz];rfl)))
   ·have hon:hasB s (zs.getD i.toNat 0)=false:=hon
    rw[hon]at hz
    exact ag ⟨hlt',(),by rw[<-hz,show i.toNat=j by omega];rfl,Ent.ren [0] [0,1,5] rfl rfl rfl⟩
  ·obtain rfl:j=zs.length:=by simp at hlt;omega
   rw[List.drop_length]at hz
   exact ag (ag (ai (.inr rfl) rfl rfl rfl (by rw[<-hz];rfl)))
 ·cases e
end
section
variable{kCa kDb:Bool}
theorem Kr(b:Int)(l:List Int):idxL b l<=l.length:=by
 induction l with
 |nil=>simp[idxL]
 |cons x l ih=>rw[idxL];cases decide (x=b)<;>simp<;>omega
theorem ni(f r a b:Int):(bU f r a b).length=bif hasL b (eC f r a b)then idxL b (eC f r a b)else 0:=by
 unfold bU
 have:=Kr b (eC f r a b)
 cases hasL b (eC f r a b)<;>simp;omega
def fY(f r a b:Int):List Int:=bif hasL b (eC f r a b)then eC f r a b else[]
theorem cz(f r a b:Int):((fY f r a b).drop 0).take (bU f r a b).length=bU f r a b:=by
 rw[ni]
 unfold fY bU
 cases hasL b (eC f r a b)<;>simp
theorem CR(f r a b:Int):(fY f r a b).length<=8:=by
 unfold fY eC
 cases hasL b _<;>simp[lj]
theorem pE(f r a b:Int):(bU f r a b).length<=8:=by
 rw[<-cz,List.length_take]
 have:=CR f r a b
 simp;omega
def jL:CF
 |[.agg [.int .i64 f,.int .i64 r],.int .i64 a,.int .i64 b],[]=>some (!decide (f=0),.sl 0 0 (bU f r a b).length none,[.ints true .i64 (fY f r a b)])
 |_,_=>none
theorem lO:CtOk (GGx kCa kDb) PP (164,jL):=by
 refine aD Tryz.func164 (by kernel_rfl) rfl fun a0 h0 c0 v0 N0 e hc=>?_
 unfold jL at e
 split at e
 ·rename_i f r a b
  cases e
  have hE:=aB (kCa:=kCa) (kDb:=kDb) (cts:=[(180,zX),(182,qD)]) (inl:=[]) ⟨tq,wY,trivial⟩ trivial
  refine oO hE 2 Tryz.func164 rfl rfl ?_
  have hf:=II hc
  repeat (first|refine ah ?_|refine sat_nd ?_)
  obtain⟨zs,hzs⟩:∃ zs,cE f r a (bx f a b).1 (bx f a b).2.1=zs:=⟨_,rfl⟩
  have hlen:=lj f r a (bx f a b).1 (bx f a b).2.1
  rw[hzs]at hlen ⊢
  have hZ:eC f r a b=zs:=hzs
  refine cx hE 2 (fun i (_:Unit)=>([(2,I b),(6,.nils),(10,.sl 1 0 zs.length none),(11,I i)],[.cells true [I f,I r],.ints true .i64 zs])) zs.length (fun j _=>hasL b (zs.drop j)=hasL b zs/\(hasL b zs=true->idxL b (zs.drop j)+j=idxL b zs)) () (by omega) (Ent.ren [0,1] [2,6,10,11] rfl rfl rfl) ⟨rfl,fun _=>rfl⟩ ?_
  intro j i _ hij hj hz
  obtain⟨hz1,hz2⟩:=hz
  refine aq (fun hlt=>?_) (fun hlt=>?_)
  ·have hlt':j<zs.length:=by simp at hlt;omega
   rw[vL hlt',show j=i.toNat by omega]at hz1
   rw[Kl hlt',show j=i.toNat by omega]at hz2
   refine ae (by simp;omega) ?_
   repeat (first|refine ah ?_|refine sat_nd ?_)
   refine aq (fun hon=>?_) (fun hon=>?_)
   ·have hon:decide (zs.getD i.toNat 0=b)=true:=hon
    rw[hon]at hz1 hz2
    have hx:hasL b zs=true:=hz1.symm
    have hy:i.toNat=idxL b zs:=by have:=hz2 hx;simpa using this
    refine ae (by simp;omega) ?_
    refine ag (ag (Kw (bW 1 (.inr rfl) rfl rfl rfl rfl (by simp only[fY,hZ,hx,cond_true];rfl) (by rw[ni,hZ,hx,cond_true,<-hy];rfl))))
   ·have hon:decide (zs.getD i.toNat 0=b)=false:=hon
    rw[hon,Bool.false_or]at hz1
    rw[hon,cond_false]at hz2
    exact ag ⟨hlt',(),⟨by rw[<-hz1,show i.toNat=j by omega],fun h=>by have:=hz2 h;rw[show i.toNat=j by omega]at this;omega⟩,Ent.ren [0,1] [2,6,10,11] rfl rfl rfl⟩
  ·obtain rfl:j=zs.length:=by simp at hlt;omega
   rw[List.drop_length]at hz1
   have hx:hasL b zs=false:=hz1.symm
   refine ag (ag ?_)
   refine GK ((Ent.phanT (t:=6) (o:=.ints true .i64 []) rfl ⟨by simp,by simp,trivial,rfl⟩ (aH rfl))) (bW 2 (.inr rfl) rfl rfl rfl rfl (by simp only[fY,hZ,hx,cond_false];rfl) (by rw[ni,hZ,hx];rfl))
 ·cases e
def bL(f r kd a b occ:Int):Bool:=
 bif decide (kd=2)then decide (i64.wrap (i64.wrap (i64.wrap (b.tmod f-a.tmod f)*i64.wrap (b.tmod f-a.tmod f))+i64.wrap (i64.wrap (i64.wrap (b.tdiv f)-i64.wrap (a.tdiv f))*i64.wrap (i64.wrap (b.tdiv f)-i64.wrap (a.tdiv f))))=5)
 else bif decide (kd=6)then decide (pC f a b=1)
 else(bx f a b).2.2&&(decide (kd=5)||((decide (i64.wrap (b.tmod f-a.tmod f)=0)||decide (i64.wrap (i64.wrap (b.tdiv f)-i64.wrap (a.tdiv f))=0))==decide (kd=4)))&&fX occ (bU f r a b)
def jO:CF
 |[.agg [.int .i64 f,.int .i64 r],.int .i8 kd,.int .i64 a,.int .i64 b,.int .u64 occ],[]=>some (!decide (f=0),.bool (bL f r kd a b occ),[])
 |_,_=>none
theorem lM:CtOk (GGx kCa kDb) PP (162,jO):=by
 refine aD Tryz.func162 (by kernel_rfl) rfl fun a0 h0 c0 v0 N0 e hc=>?_
 unfold jO at e
 split at e
 ·rename_i f r kd a b occ
  cases e
  have hE:=aB (kCa:=kCa) (kDb:=kDb) (cts:=[(39,dH),(55,Fb),(180,zX),(164,jL),(181,Fg)]) (inl:=[]) ⟨bZ,CT,tq,lO,EY,trivial⟩ trivial
  refine ak hE 2 Tryz.func162 rfl rfl ?_
  have hf:=II hc
  repeat (first|refine ah ?_|refine sat_nd ?_)
  refine aq (fun h1=>?_) (fun h1=>?_)
  ·repeat (first|refine ah ?_|refine sat_nd ?_)
   exact ag (ai (.inr rfl) rfl rfl rfl (by rw[bL,h1];rfl))
  refine aq (fun h2=>?_) (fun h2=>?_)
  ·repeat (first|refine ah ?_|refine sat_nd ?_)
   exact ag (ai (.inr rfl) rfl rfl rfl (by rw[bL,h1,h2];rfl))
  have ht:=cz f r a b
  have hl:=pE f r a b
  repeat (first|refine ah ?_|refine sat_nd ?_)
  refine aq (fun h3=>?_) (fun h3=>?_)
  ·repeat (first|refine ah ?_|refine sat_nd ?_)
   refine ae (by rw[ht];simp;omega) ?_
   repeat (first|refine ah ?_|refine sat_nd ?_)
   exact ag (ai (.inr rfl) rfl rfl rfl (by
    show V.bool (fX occ (((fY f r a b).drop 0).take (bU f r a b).length))=_
    rw[ht,bL,h1,h2,cond_false,cond_false,h3];rfl))
  ·repeat (first|refine ah ?_|refine sat_nd ?_)
   exact ag (ai (.inr rfl) rfl rfl rfl (by rw[bL,h1,h2,cond_false,cond_false,h3];rfl))
 ·cases e
end
abbrev px(f n:Int):Int:=n.tmod f
abbrev py(f n:Int):Int:=n.tdiv f
theorem eZ{f r n:Int}(h:aj f r n=true):0<=px f n/\px f n<f/\0<=py f n/\py f n<r/\i64.wrap (py f n)=py f n/\3<=f/\f<=8/\3<=r/\r<=8:=by
 obtain⟨b1,b2,b3,b4,b5,_,_⟩:=JO h
 have:=de (bM h)
 exact⟨b1,b2,b3,b4,b5,this.1,this.2.1,this.2.2.1,this.2.2.2⟩
theorem BD{f r n:Int}(_h:aj f r n=true):px f n+py f n*f=n:=by
 have:=Int.tmod_add_mul_tdiv n f
 rw[Int.mul_comm]at this
 exact this
theorem nj{f X Y x y:Int}(hf:0<f)(h1:0<=X)(h2:X<f)(h3:0<=x)(h4:x<f)(h:X+Y*f=x+y*f):X=x/\Y=y:=by
 have e:(Y-y)*f=x-X:=by rw[Int.sub_mul];omega
 have hz:Y-y=0:=by
  rcases Int.lt_trichotomy (Y-y) 0 with h|h|h
  ·have:(Y-y)*f<=-1*f:=Int.mul_le_mul_of_nonneg_right (by omega) (by omega)
   omega
  ·exact h
  ·have:1*f<=(Y-y)*f:=Int.mul_le_mul_of_nonneg_right (by omega) (by omega)
   omega
 rw[hz,Int.zero_mul]at e
 omega
theorem iV{f r X Y b:Int}(hv:vsB f r=true)(ho:onB f r X Y=true)(hb:aj f r b=true):numR f r X Y=b↔px f b=X/\py f b=Y:=by
 have h:=xy (X:=X) (Y:=Y) hv
 rw[ho]at h
 have hp:=lK (of_decide_eq_true h)
 have hx:=ta ho
 have hq:=eZ hb
 rw[tL hv ho,hp.2.2.2.2]
 constructor
 ·intro e
  rw[<-BD hb]at e
  have:=nj (by omega) hx.1 hx.2.1 hq.1 hq.2.1 e
  exact⟨this.1.symm,this.2.symm⟩
 ·rintro⟨rfl,rfl⟩;exact BD hb
theorem oD{f r a b:Int}(ha:aj f r a=true)(hb:aj f r b=true):a=b↔px f a=px f b/\py f a=py f b:=by
 constructor
 ·rintro rfl;exact⟨rfl,rfl⟩
 ·rintro⟨h1,h2⟩;rw[<-BD ha,<-BD hb,h1,h2]
def unit(df dr:Int):Prop:=-1<=df/\df<=1/\-1<=dr/\dr<=1/\(df≠0\/dr≠0)
theorem dV{df dr:Int}(h:unit df dr):(df=1/\dr=0)\/(df=0/\dr=1)\/(df=-1/\dr=0)\/(df=0/\dr=-1)\/(df=1/\dr=1)\/(df=-1/\dr=1)\/(df=-1/\dr=-1)\/(df=1/\dr=-1):=by
 obtain⟨h1,h2,h3,h4,h5⟩:=h
 omega
theorem NQ{df dr x y:Int}(hu:unit df dr)(hx:0<=x/\x<=7)(hy:0<=y/\y<=7){k:Nat}(hk:k<=9):i64.wrap (x+i64.wrap (k*df))=x+k*df/\i64.wrap (y+i64.wrap (k*dr))=y+k*dr/\i64.wrap ((k:Int)+1)=((k+1:Nat):Int):=by
 rcases dV hu with⟨rfl,rfl⟩|⟨rfl,rfl⟩|⟨rfl,rfl⟩|⟨rfl,rfl⟩|⟨rfl,rfl⟩|⟨rfl,rfl⟩|⟨rfl,rfl⟩|⟨rfl,rfl⟩ <;>
 ·refine⟨?_,?_,?_⟩
  ·rw[ay (n:=(k:Int)*_) (by omega) (by omega),ay (by omega) (by omega)]
  ·rw[ay (n:=(k:Int)*_) (by omega) (by omega),ay (by omega) (by omega)]
  ·rw[ay (by omega) (by omega)];omega
theorem Ny{f r df dr x y b:Int}(hv:vsB f r=true)(hu:unit df dr)(ho:onB f r x y=true)(hb:aj f r b=true):∀ (m k:Nat),m+k=9->1<=k ->
  (hasL b (fG f r df dr x y m k)=true↔∃ i:Nat,k<=i/\i<=8/\px f b=x+i*df/\py f b=y+i*dr):=by
 have hx:=ta ho
 have hq:=eZ hb
 intro m
 induction m with
 |zero=>intro k hk h1;simp only[fG,hasL];exact⟨fun h=>(by cases h),fun⟨i,h2,h3,_⟩=>by omega⟩
 |succ m ih=>
  intro k hk h1
  obtain⟨e1,e2,e3⟩:=NQ (x:=x) (y:=y) hu ⟨by omega,by omega⟩ ⟨by omega,by omega⟩ (k:=k) (by omega)
  rw[fG,e1,e2,e3,su hv]
  cases h2:onB f r (x+(k:Int)*df) (y+(k:Int)*dr) with
  |false=>
   simp only[Bool.not_false,cond_true,hasL]
   refine⟨fun h=>(by cases h),fun⟨i,h3,h4,h5,h6⟩=>?_⟩
   have:onB f r (x+(k:Int)*df) (y+(k:Int)*dr)=true:=by
    rcases dV hu with⟨rfl,rfl⟩|⟨rfl,rfl⟩|⟨rfl,rfl⟩|⟨rfl,rfl⟩|⟨rfl,rfl⟩|⟨rfl,rfl⟩|⟨rfl,rfl⟩|⟨rfl,rfl⟩<;>exact jC (by omega) (by omega) (by omega) (by omega)
   rw[h2]at this;cases this
  |true=>
   simp only[Bool.not_true,cond_false,hasL,Bool.or_eq_true,decide_eq_true_eq]
   rw[iV hv h2 hb,ih (k+1) (by omega) (by omega)]
   constructor
   ·rintro(⟨h3,h4⟩|⟨i,h3,h4,h5⟩)
    ·exact⟨k,Nat.le_refl _,by omega,h3,h4⟩
    ·exact⟨i,by omega,h4,h5⟩
   ·rintro⟨i,h3,h4,h5,h6⟩
    rcases Nat.lt_or_ge k i with h|h
    ·exact .inr ⟨i,h,h4,h5,h6⟩
    ·obtain rfl:i=k:=by omega
     exact .inl ⟨h5,h6⟩
theorem Ka{df dr:Int}(hu:unit df dr):(decide (df=0)&&decide (dr=0))=false:=by
 obtain⟨_,_,_,_,h⟩:=hu
 simp only[Bool.and_eq_false_iff,decide_eq_false_iff_not];exact h
theorem MQ{f r a df dr:Int}(ha:aj f r a=true)(hu:unit df dr):cE f r a df dr=fG f r df dr (px f a) (py f a) 8 ((1:Nat):Int):=by
 have hp:=eZ ha
 simp[cE,ha,Ka hu,hp.2.2.2.2.1]
theorem CK{f r a b df dr:Int}(ha:aj f r a=true)(hb:aj f r b=true)(hu:unit df dr) :
  hasL b (cE f r a df dr)=true↔∃ i:Nat,1<=i/\i<=8/\px f b=px f a+i*df/\py f b=py f a+i*dr:=by
 have hp:=eZ ha
 rw[MQ ha hu]
 exact Ny (bM ha) hu (jC hp.1 hp.2.1 hp.2.2.1 hp.2.2.2.1) hb 8 1 rfl (Nat.le_refl _)
theorem jR(n:Int):(n<0/\sgn n=-1)\/(n=0/\sgn n=0)\/(0<n/\sgn n=1):=by
 unfold sgn
 rcases Int.lt_trichotomy n 0 with h|h|h
 ·left;simp[h]
 ·right;left;simp[h]
 ·right;right
  have:¬ n<0:=by omega
  simp[h,this]
theorem iz{f r a b:Int}(ha:aj f r a=true)(hb:aj f r b=true):i64.wrap (b.tmod f-a.tmod f)=px f b-px f a/\i64.wrap (i64.wrap (b.tdiv f)-i64.wrap (a.tdiv f))=py f b-py f a:=by
 have hp:=eZ ha
 have hq:=eZ hb
 show i64.wrap (px f b-px f a)=_/\i64.wrap (i64.wrap (py f b)-i64.wrap (py f a))=_
 rw[hp.2.2.2.2.1,hq.2.2.2.2.1]
 exact⟨ay (by omega) (by omega),ay (by omega) (by omega)⟩
def lN(x y:Int):Prop:=(x≠0\/y≠0)/\(x=0\/y=0\/x=y\/x=-y)
theorem HP{f r a b:Int}(ha:aj f r a=true)(hb:aj f r b=true):Bz f a b=false↔lN (px f b-px f a) (py f b-py f a):=by
 have hp:=eZ ha
 have hq:=eZ hb
 obtain⟨e1,e2⟩:=iz ha hb
 unfold Bz
 rw[e1,e2,ay (by omega) (by omega)]
 simp only[Bool.or_eq_false_iff,Bool.and_eq_false_iff,decide_eq_false_iff_not,Bool.not_eq_false',decide_eq_true_eq]
 rw[oD ha hb]
 unfold lN
 omega
theorem uO{f r a b:Int}(ha:aj f r a=true)(hb:aj f r b=true):(bx f a b=(0,0,false)/\¬ lN (px f b-px f a) (py f b-py f a))\/(bx f a b=(sgn (px f b-px f a),sgn (py f b-py f a),true)/\lN (px f b-px f a) (py f b-py f a)):=by
 obtain⟨e1,e2⟩:=iz ha hb
 have h:=HP ha hb
 unfold bx
 rw[e1,e2]
 cases hl:Bz f a b with
 |true=>left;rw[hl]at h;exact⟨rfl,fun h2=>by have:=h.2 h2;cases this⟩
 |false=>right;exact⟨rfl,h.1 hl⟩
theorem zL{x y:Int}(h:lN x y):unit (sgn x) (sgn y):=by
 obtain⟨h1,_⟩:=h
 unfold unit
 have:=jR x
 have:=jR y
 omega
theorem sE{f r a b:Int}(ha:aj f r a=true)(hb:aj f r b=true)(h:(bx f a b).2.2=true):unit (bx f a b).1 (bx f a b).2.1/\hasL b (eC f r a b)=true:=by
 have hp:=eZ ha
 have hq:=eZ hb
 rcases uO ha hb with⟨e,_⟩|⟨e,h2⟩
 ·rw[e]at h;cases h
 ·rw[e]
  refine⟨zL h2,?_⟩
  unfold eC
  rw[e]
  rw[CK ha hb (zL h2)]
  obtain⟨h3,h4⟩:=h2
  have s1:=jR (px f b-px f a)
  have s2:=jR (py f b-py f a)
  rcases s1 with⟨g1,s1⟩|⟨g1,s1⟩|⟨g1,s1⟩<;>rcases s2 with⟨g2,s2⟩|⟨g2,s2⟩|⟨g2,s2⟩<;>simp only[s1,s2] <;>
  first
   |(exfalso;omega)
   |exact⟨(px f b-px f a).natAbs,by omega,by omega,by omega,by omega⟩
   |exact⟨(py f b-py f a).natAbs,by omega,by omega,by omega,by omega⟩
theorem GO{f r a b df dr:Int}(ha:aj f r a=true)(hb:aj f r b=true)(hu:unit df dr)(h:hasL b (cE f r a df dr)=true):bx f a b=(df,dr,true):=by
 have hp:=eZ ha
 have hq:=eZ hb
 obtain⟨i,h1,h2,h3,h4⟩:=(CK ha hb hu).1 h
 have s1:=jR (px f b-px f a)
 have s2:=jR (py f b-py f a)
 rcases uO ha hb with⟨e,h5⟩|⟨e,_⟩
 ·exfalso
  apply h5
  unfold lN
  rcases dV hu with⟨rfl,rfl⟩|⟨rfl,rfl⟩|⟨rfl,rfl⟩|⟨rfl,rfl⟩|⟨rfl,rfl⟩|⟨rfl,rfl⟩|⟨rfl,rfl⟩|⟨rfl,rfl⟩<;>omega
 ·rw[e]
  have e1:sgn (px f b-px f a)=df:=by rcases dV hu with⟨rfl,rfl⟩|⟨rfl,rfl⟩|⟨rfl,rfl⟩|⟨rfl,rfl⟩|⟨rfl,rfl⟩|⟨rfl,rfl⟩|⟨rfl,rfl⟩|⟨rfl,rfl⟩<;>omega
  have e2:sgn (py f b-py f a)=dr:=by rcases dV hu with⟨rfl,rfl⟩|⟨rfl,rfl⟩|⟨rfl,rfl⟩|⟨rfl,rfl⟩|⟨rfl,rfl⟩|⟨rfl,rfl⟩|⟨rfl,rfl⟩|⟨rfl,rfl⟩<;>omega
  rw[e1,e2]
theorem ig{f r X Y:Int}(hv:vsB f r=true)(ho:onB f r X Y=true):aj f r (X+Y*f)=true/\px f (X+Y*f)=X/\py f (X+Y*f)=Y:=by
 have hb:=de hv
 have hx:=ta ho
 have hm:=gu hv
 have e1:0<=Y*f:=Int.mul_nonneg hx.2.2.1 (by omega)
 have e2:(Y+1)*f<=r*f:=Int.mul_le_mul_of_nonneg_right (by omega) (by omega)
 rw[Int.add_mul,Int.mul_comm r f]at e2
 have hval:aj f r (X+Y*f)=true:=by
  simp only[aj,Bool.and_eq_true,decide_eq_true_eq]
  rw[eP hv]
  exact⟨⟨hv,by omega⟩,by omega⟩
 have hq:=eZ hval
 have:=nj (f:=f) (by omega) hx.1 hx.2.1 hq.1 hq.2.1 (BD hval).symm
 exact⟨hval,this.1.symm,this.2.symm⟩
theorem aL{f r n:Int}(h:aj f r n=true):0<=n/\n<f*r/\n<64:=by
 have hm:=gu (bM h)
 simp only[aj,Bool.and_eq_true,decide_eq_true_eq]at h
 rw[eP h.1.1]at h
 exact⟨h.1.2,h.2,by omega⟩
theorem qy{f r n:Int}(hv:vsB f r=true)(h1:0<=n)(h2:n<f*r):aj f r n=true:=by
 simp only[aj,Bool.and_eq_true,decide_eq_true_eq]
 rw[eP hv]
 exact⟨⟨hv,h1⟩,h2⟩
theorem JG{s n:Int}(hs:Uk s):hasB s n=(decide (0<=n)&&decide (n<64)&&bt s n.toNat):=by
 unfold hasB
 by_cases h1:0<=n
 ·by_cases h2:n<64
  ·simp only[h1,h2,decide_true,Bool.true_and]
   rw[FC hs h1 h2]
   unfold bt
   have:(((s.toNat >>> n.toNat:Nat):Int).tmod 2)=((s.toNat >>> n.toNat%2:Nat):Int):=by
    rw[Int.tmod_eq_emod_of_nonneg (Int.natCast_nonneg _)];norm_cast
   rw[this]
   have h3:s.toNat.testBit n.toNat=(s.toNat >>> n.toNat).testBit 0:=by rw[Nat.testBit_shiftRight,Nat.add_zero]
   rw[h3,Nat.testBit_zero]
   congr 1
   exact propext ⟨fun h=>by omega,fun h=>by omega⟩
  ·simp[h2]
 ·simp[h1]
theorem iK{f r s n:Int}(hs:Uk s)(hn:aj f r n=true):hasB s n=bt s n.toNat:=by
 have:=aL hn
 rw[JG hs];simp[this.1,this.2.2]
theorem ez{f r a df dr x:Int}(ha:aj f r a=true)(h:x∈cE f r a df dr):aj f r x=true:=by
 have hv:=bM ha
 have key:∀ (m:Nat) (k:Int),x∈fG f r df dr (a.tmod f) (i64.wrap (a.tdiv f)) m k->aj f r x=true:=by
  intro m
  induction m with
  |zero=>intro k h;simp[fG]at h
  |succ m ih=>
   intro k h
   rw[fG,su hv]at h
   cases h2:onB f r (i64.wrap (a.tmod f+i64.wrap (k*df))) (i64.wrap (i64.wrap (a.tdiv f)+i64.wrap (k*dr))) with
   |false=>rw[h2]at h;simp at h
   |true=>
    rw[h2]at h
    simp only[Bool.not_true,cond_false,List.mem_cons]at h
    rcases h with rfl|h
    ·have h3:=xy (X:=i64.wrap (a.tmod f+i64.wrap (k*df))) (Y:=i64.wrap (i64.wrap (a.tdiv f)+i64.wrap (k*dr))) hv
     rw[h2]at h3
     have hp:=lK (of_decide_eq_true h3)
     rw[tL hv h2,hp.2.2.2.2]
     exact(ig hv h2).1
    ·exact ih _ h
 unfold cE at h
 cases hc:(!aj f r a||(decide (df=0)&&decide (dr=0))) with
 |true=>rw[hc]at h;simp at h
 |false=>rw[hc,cond_false]at h;exact key _ _ h
def OnS(f r s:Int):Prop:=∀ m,m<64->bt s m=true->aj f r m=true
theorem ym{α:Type}(step:Int->α->Int)(p:α->Nat->Bool):∀ (rs:List α) (s:Int),(∀ s row,row∈rs->Uk s->Uk (step s row)/\∀ m,bt (step s row) m=(bt s m||p row m))->Uk s->Uk (rs.foldl step s)/\∀ m,bt (rs.foldl step s) m=(bt s m||rs.any (p · m))
 |[],s,_,hs=>⟨hs,fun m=>by simp⟩
 |row::rs,s,h,hs=>by
  obtain⟨h1,h2⟩:=h s row (by simp) hs
  obtain⟨h3,h4⟩:=ym step p rs (step s row) (fun s r hr=>h s r (by simp[hr])) h1
  refine⟨h3,fun m=>?_⟩
  rw[List.foldl_cons,h4,h2,List.any_cons,Bool.or_assoc]
def lZ(f r a:Int)(row:List Int)(m:Nat):Bool:=aj f r m&&decide (px f m-px f a=row.getD 0 0)&&decide (py f m-py f a=row.getD 1 0)
theorem oF{f r a:Int}(ha:aj f r a=true)(rs:List (List Int))(hrs:∀ row∈rs,-8<=row.getD 0 0/\row.getD 0 0<=8/\-8<=row.getD 1 0/\row.getD 1 0<=8):Uk (cA f r a rs)/\∀ m,bt (cA f r a rs) m=rs.any (lZ f r a · m):=by
 have hv:=bM ha
 have hp:=eZ ha
 have hpl:(aU f r a).1=px f a/\(aU f r a).2.1=py f a:=by simp only[aU,ha,cond_true];exact⟨by first|rfl|trivial,hp.2.2.2.2.1⟩
 have h:=ym (gb f r (aU f r a).1 (aU f r a).2.1) (lZ f r a) rs 0 ?_ uk_0
 ·refine⟨h.1,fun m=>?_⟩
  unfold cA
  rw[h.2,bt_0,Bool.false_or]
 ·intro s row hrow hs
  have hb:=hrs row hrow
  unfold gb uX
  rw[hpl.1,hpl.2,ay (n:=px f a+_) (by omega) (by omega),ay (n:=py f a+_) (by omega) (by omega),xy hv]
  cases ho:onB f r (px f a+row.getD 0 0) (py f a+row.getD 1 0) with
  |false=>
   refine⟨hs,fun m=>?_⟩
   rw[cond_false]
   have:lZ f r a row m=false:=by
    cases hl:lZ f r a row m with
    |false=>rfl
    |true=>
     simp only[lZ,Bool.and_eq_true,decide_eq_true_eq]at hl
     have hq:=eZ hl.1.1
     have:onB f r (px f a+row.getD 0 0) (py f a+row.getD 1 0)=true:=jC (by omega) (by omega) (by omega) (by omega)
     rw[ho]at this;cases this
   rw[this,Bool.or_false]
  |true=>
   rw[cond_true]
   have h3:=xy (X:=px f a+row.getD 0 0) (Y:=py f a+row.getD 1 0) hv
   rw[ho]at h3
   have hq:=lK (of_decide_eq_true h3)
   obtain⟨v1,v2,v3⟩:=ig hv ho
   rw[<-hq.2.2.2.2]at v1 v2 v3
   generalize (atR f r (px f a+row.getD 0 0) (py f a+row.getD 1 0)).1=x at *
   refine⟨iy _ _,fun m=>?_⟩
   rw[fE hs (jc _ _),jz hq.1 hq.2.1]
   congr 1
   unfold lZ
   by_cases e:x=(m:Int)
   ·subst e
    simp only[v1,decide_true,Bool.true_and]
    rw[v2,v3];simp;omega
   ·simp only[e,decide_false]
    symm
    cases hl:(aj f r m&&decide (px f m-px f a=row.getD 0 0)&&decide (py f m-py f a=row.getD 1 0)) with
    |false=>rfl
    |true=>
     simp only[Bool.and_eq_true,decide_eq_true_eq]at hl
     exact absurd ((oD v1 hl.1.1).2 ⟨by omega,by omega⟩) e
def hitB(occ:Int)(m:Int):List Int->Bool
 |[]=>false
 |x::l=>decide (x=m)||(!bt occ x.toNat&&hitB occ m l)
theorem qh{occ:Int}(ho:Uk occ):∀ (L:List Int) (s:Int),(∀ x∈L,0<=x/\x<64)->Uk s->Uk (dW occ L s)/\∀ m:Nat,bt (dW occ L s) m=(bt s m||hitB occ m L)
 |[],s,_,hs=>⟨hs,fun m=>by simp[dW,hitB]⟩
 |x::L,s,hL,hs=>by
  have hx:=hL x (by simp)
  unfold dW
  rw[pN ho hx.1 hx.2]
  cases hb:bt occ x.toNat with
  |true=>
   refine⟨iy _ _,fun m=>?_⟩
   rw[cond_true,fE hs (jc _ _),jz hx.1 hx.2]
   simp[hitB,hb]
  |false=>
   obtain⟨h1,h2⟩:=qh ho L (uor s (ushl 1 x)) (fun y hy=>hL y (by simp[hy])) (iy _ _)
   refine⟨h1,fun m=>?_⟩
   rw[cond_false,h2,fE hs (jc _ _),jz hx.1 hx.2]
   simp[hitB,hb,Bool.or_assoc]
theorem Cv{occ m:Int}:∀ {L:List Int},hitB occ m L=true->hasL m L=true
 |x::L,h=>by
  simp only[hitB,Bool.or_eq_true,Bool.and_eq_true,decide_eq_true_eq]at h
  simp only[hasL,Bool.or_eq_true,decide_eq_true_eq]
  exact h.imp id fun h=>Cv h.2
theorem zx{f r occ m:Int}(ho:Uk occ):∀ (L:List Int),(∀ x∈L,aj f r x=true)->hitB occ m L=(hasL m L&&fX occ (L.take (idxL m L)))
 |[],_=>rfl
 |x::L,hL=>by
  have ih:=zx (m:=m) ho L fun y hy=>hL y (by simp[hy])
  have hx:=iK ho (hL x (by simp))
  by_cases e:x=m
  ·simp[hitB,hasL,idxL,e,fX]
  ·simp only[hitB,hasL,idxL,e,decide_false,Bool.false_or,cond_false,List.take_succ_cons,fX,hx,ih]
   cases bt occ x.toNat<;>simp
def lQ(f r a occ:Int)(row:List Int)(m:Nat):Bool:=hitB occ m (cE f r a (row.getD 0 0) (row.getD 1 0))
theorem Fw{df dr:Int}(h:unit df dr):inR df dr=true:=by
 obtain⟨h1,h2,h3,h4,_⟩:=h
 simp only[inR,Bool.and_eq_true,decide_eq_true_eq];omega
theorem zQ{f r a occ:Int}(ha:aj f r a=true)(ho:Uk occ)(rs:List (List Int))(hrs:∀ row∈rs,unit (row.getD 0 0) (row.getD 1 0)):Uk (dR f r a occ rs)/\∀ m,bt (dR f r a occ rs) m=rs.any (lQ f r a occ · m):=by
 have h:=ym (eK f r a occ) (lQ f r a occ) rs 0 ?_ uk_0
 ·refine⟨h.1,fun m=>?_⟩
  unfold dR
  rw[h.2,bt_0,Bool.false_or]
 ·intro s row hrow hs
  unfold eK lQ
  rw[JN,Fw (hrs row hrow),cond_true]
  exact qh ho _ s (fun x hx=>⟨(aL (ez ha hx)).1,(aL (ez ha hx)).2.2⟩) hs
theorem kS{m:Int}{L:List Int}:hasL m L=true↔m∈L:=by
 induction L with
 |nil=>simp[hasL]
 |cons x L ih=>simp only[hasL,Bool.or_eq_true,decide_eq_true_eq,ih,List.mem_cons];exact⟨fun h=>h.imp Eq.symm id,fun h=>h.imp Eq.symm id⟩
theorem yz(P:Int->Int->Bool)(h:∀ i j:_root_.Fin 15,P ((i.val:Int)-7) ((j.val:Int)-7)=true){x y:Int}(hx:-7<=x/\x<=7)(hy:-7<=y/\y<=7):P x y=true:=by
 have:=h ⟨(x+7).toNat,by omega⟩ ⟨(y+7).toNat,by omega⟩
 simp only at this
 rw[show (((x+7).toNat:Int)-7)=x by omega,show (((y+7).toNat:Int)-7)=y by omega]at this
 exact this
def fI(rs:List (List Int))(x y:Int):Bool:=rs.any fun row=>decide (x=row.getD 0 0)&&decide (y=row.getD 1 0)
theorem jX{f r a b:Int}(hb:aj f r b=true)(rs:List (List Int)):rs.any (lZ f r a · b.toNat)=fI rs (px f b-px f a) (py f b-py f a):=by
 have:=aL hb
 unfold fI lZ
 rw[show ((b.toNat:Nat):Int)=b by omega,hb]
 rfl
theorem sZ{f r a b:Int}(ha:aj f r a=true)(hb:aj f r b=true):(-7<=px f b-px f a/\px f b-px f a<=7)/\(-7<=py f b-py f a/\py f b-py f a<=7):=by
 have:=eZ ha
 have:=eZ hb
 omega
def Ex(x y:Int):Bool:=fI iC x y==decide (i64.wrap (i64.wrap (x*x)+i64.wrap (y*y))=5)
theorem Az:∀ i j:_root_.Fin 15,Ex ((i.val:Int)-7) ((j.val:Int)-7)=true:=by decide +kernel
def Lh(x y:Int):Int:=bif decide (absI (i64.wrap (0-y))<absI (i64.wrap (0-x)))then absI (i64.wrap (0-x))else absI (i64.wrap (0-y))
def Np(x y:Int):Bool:=(fI fO x y||fI fN x y)==decide (Lh x y=1)
theorem Hu:∀ i j:_root_.Fin 15,Np ((i.val:Int)-7) ((j.val:Int)-7)=true:=by decide +kernel
theorem Jv{f r a b:Int}(ha:aj f r a=true)(hb:aj f r b=true):pC f a b=Lh (px f b-px f a) (py f b-py f a):=by
 obtain⟨e1,e2⟩:=iz hb ha
 have h:=sZ ha hb
 unfold pC Lh
 rw[e1,e2,ay (n:=0-(px f b-px f a)) (by omega) (by omega),ay (n:=0-(py f b-py f a)) (by omega) (by omega)]
 rw[show 0-(px f b-px f a)=px f a-px f b by omega,show 0-(py f b-py f a)=py f a-py f b by omega]
theorem jU{f r a b occ:Int}(ha:aj f r a=true)(hb:aj f r b=true)(ho:Uk occ)(rs:List (List Int))(hrs:∀ row∈rs,unit (row.getD 0 0) (row.getD 1 0)) :
  rs.any (lQ f r a occ · b.toNat)=((bx f a b).2.2&&fI rs (bx f a b).1 (bx f a b).2.1&&fX occ (bU f r a b)):=by
 have hl:=aL hb
 have pt:∀ row∈rs,lQ f r a occ row b.toNat=((bx f a b).2.2&&(decide ((bx f a b).1=row.getD 0 0)&&decide ((bx f a b).2.1=row.getD 1 0))&&fX occ (bU f r a b)):=by
  intro row hrow
  have hu:=hrs row hrow
  unfold lQ
  rw[show ((b.toNat:Nat):Int)=b by omega,zx (f:=f) (r:=r) ho _ (fun x hx=>ez ha hx)]
  cases hh:hasL b (cE f r a (row.getD 0 0) (row.getD 1 0)) with
  |true=>
   have e:=GO ha hb hu hh
   have hz:eC f r a b=cE f r a (row.getD 0 0) (row.getD 1 0):=by rw[eC,e]
   unfold bU
   rw[hz,hh,e];simp
  |false=>
   rw[Bool.false_and]
   symm
   cases h2:(bx f a b).2.2 with
   |false=>rfl
   |true=>
    obtain⟨_,h3⟩:=sE ha hb h2
    by_cases e:(bx f a b).1=row.getD 0 0/\(bx f a b).2.1=row.getD 1 0
    ·rw[eC,e.1,e.2,hh]at h3;cases h3
    ·simp only[Bool.true_and]
     rw[show (decide ((bx f a b).1=row.getD 0 0)&&decide ((bx f a b).2.1=row.getD 1 0))=false by simp only[Bool.and_eq_false_iff,decide_eq_false_iff_not];omega]
     rfl
 have gen:∀ l:List (List Int),(∀ row∈l,row∈rs)->l.any (lQ f r a occ · b.toNat)=((bx f a b).2.2&&fI l (bx f a b).1 (bx f a b).2.1&&fX occ (bU f r a b)):=by
  intro l
  induction l with
  |nil=>intro _;simp[fI]
  |cons row l ih=>
   intro h
   rw[List.any_cons,ih (fun x hx=>h x (by simp[hx])),pt row (h row (by simp))]
   unfold fI
   rw[List.any_cons]
   cases(bx f a b).2.2<;>cases(decide ((bx f a b).1=row.getD 0 0)&&decide ((bx f a b).2.1=row.getD 1 0))<;>cases fX occ (bU f r a b)<;>simp
 exact gen rs fun _ h=>h
theorem IQ:∀ row∈iC,-8<=row.getD 0 0/\row.getD 0 0<=8/\-8<=row.getD 1 0/\row.getD 1 0<=8:=by decide
theorem jT:∀ row∈fO,unit (row.getD 0 0) (row.getD 1 0):=by unfold unit;decide
theorem jg:∀ row∈fN,unit (row.getD 0 0) (row.getD 1 0):=by unfold unit;decide
theorem Dw{rs:List (List Int)}(h:∀ row∈rs,unit (row.getD 0 0) (row.getD 1 0)):∀ row∈rs,-8<=row.getD 0 0/\row.getD 0 0<=8/\-8<=row.getD 1 0/\row.getD 1 0<=8:=fun row hr=>by
 obtain⟨h1,h2,h3,h4,_⟩:=h row hr
 omega
theorem jI{x y:Int}(h:unit x y):fI fO x y=!(decide (x=0)||decide (y=0))/\fI fN x y=(decide (x=0)||decide (y=0)):=by
 rcases dV h with⟨rfl,rfl⟩|⟨rfl,rfl⟩|⟨rfl,rfl⟩|⟨rfl,rfl⟩|⟨rfl,rfl⟩|⟨rfl,rfl⟩|⟨rfl,rfl⟩|⟨rfl,rfl⟩<;>decide
theorem On(n:Int):decide (sgn n=0)=decide (n=0):=by
 have:=jR n
 congr 1
 exact propext ⟨fun h=>by omega,fun h=>by omega⟩
def pV(f r kd a occ:Int):Int:=(cq f r kd a occ).1
def nI(kd:Int):Prop:=kd=2\/kd=3\/kd=4\/kd=5\/kd=6
theorem IW{f r kd a occ:Int}(h:gH f r a occ=true)(hk:nI kd):(cq f r kd a occ).2=0/\pV f r kd a occ=bif decide (kd=2)then cA f r a iC else bif decide (kd=3)then dR f r a occ fO else bif decide (kd=4)then dR f r a occ fN
     else bif decide (kd=5)then uor (dR f r a occ fO) (dR f r a occ fN)else uor (cA f r a fO) (cA f r a fN):=by
 unfold pV cq
 rw[h,cond_true]
 rcases hk with rfl|rfl|rfl|rfl|rfl<;>exact⟨rfl,rfl⟩
theorem ru{f r kd a occ:Int}(h:gH f r a occ=true)(ho:Uk occ)(hk:nI kd):Uk (pV f r kd a occ)/\OnS f r (pV f r kd a occ)/\∀ b,aj f r b=true->bt (pV f r kd a occ) b.toNat=bL f r kd a b occ:=by
 have ha:aj f r a=true:=by simp only[gH,Bool.and_eq_true]at h;exact h.1
 have L1:=oF ha iC IQ
 have L2:=oF ha fO (Dw jT)
 have L3:=oF ha fN (Dw jg)
 have S1:=zQ ha ho fO jT
 have S2:=zQ ha ho fN jg
 have onl:∀ (rs:List (List Int)) (m:Nat),rs.any (lZ f r a · m)=true->aj f r m=true:=by
  intro rs m h
  obtain⟨row,_,h2⟩:=List.any_eq_true.1 h
  simp only[lZ,Bool.and_eq_true]at h2
  exact h2.1.1
 have ons:∀ (rs:List (List Int)) (m:Nat),rs.any (lQ f r a occ · m)=true->aj f r m=true:=by
  intro rs m h
  obtain⟨row,_,h2⟩:=List.any_eq_true.1 h
  exact ez ha (kS.1 (Cv h2))
 obtain⟨_,hS⟩:=IW h hk
 rw[hS]
 have key:∀ b,aj f r b=true->(bx f a b).2.2=true->unit (bx f a b).1 (bx f a b).2.1/\(decide (i64.wrap (b.tmod f-a.tmod f)=0)||decide (i64.wrap (i64.wrap (b.tdiv f)-i64.wrap (a.tdiv f))=0))=(decide ((bx f a b).1=0)||decide ((bx f a b).2.1=0)):=by
  intro b hb hl
  obtain⟨e1,e2⟩:=iz ha hb
  refine⟨(sE ha hb hl).1,?_⟩
  rcases uO ha hb with⟨e,_⟩|⟨e,_⟩
  ·rw[e]at hl;cases hl
  ·rw[e1,e2,e]
   simp only[On]
 rcases hk with rfl|rfl|rfl|rfl|rfl
 ·refine⟨L1.1,fun m _ hm=>onl _ _ ((L1.2 m).symm.trans hm),fun b hb=>?_⟩
  obtain⟨e1,e2⟩:=iz ha hb
  have hd:=sZ ha hb
  have hp:=yz Ex Az hd.1 hd.2
  show bt (cA f r a iC) b.toNat=decide (_=5)
  rw[L1.2,jX hb,e1,e2]
  exact eq_of_beq hp
 ·refine⟨S1.1,fun m _ hm=>ons _ _ ((S1.2 m).symm.trans hm),fun b hb=>?_⟩
  show bt (dR f r a occ fO) b.toNat=((bx f a b).2.2&&(false||((decide (i64.wrap (b.tmod f-a.tmod f)=0)||decide (i64.wrap (i64.wrap (b.tdiv f)-i64.wrap (a.tdiv f))=0))==false))&&fX occ (bU f r a b))
  rw[S1.2,jU ha hb ho _ jT]
  cases hl:(bx f a b).2.2 with
  |false=>simp
  |true=>obtain⟨k1,k2⟩:=key b hb hl;rw[k2,(jI k1).1];simp
 ·refine⟨S2.1,fun m _ hm=>ons _ _ ((S2.2 m).symm.trans hm),fun b hb=>?_⟩
  show bt (dR f r a occ fN) b.toNat=((bx f a b).2.2&&(false||((decide (i64.wrap (b.tmod f-a.tmod f)=0)||decide (i64.wrap (i64.wrap (b.tdiv f)-i64.wrap (a.tdiv f))=0))==true))&&fX occ (bU f r a b))
  rw[S2.2,jU ha hb ho _ jg]
  cases hl:(bx f a b).2.2 with
  |false=>simp
  |true=>obtain⟨k1,k2⟩:=key b hb hl;rw[k2,(jI k1).2];simp
 ·refine⟨iy _ _,fun m _ hm=>?_,fun b hb=>?_⟩
  ·have hm:bt (uor (dR f r a occ fO) (dR f r a occ fN)) m=true:=hm
   rw[fE S1.1 S2.1,Bool.or_eq_true]at hm
   exact hm.elim (fun hm=>ons _ _ ((S1.2 m).symm.trans hm)) (fun hm=>ons _ _ ((S2.2 m).symm.trans hm))
  ·show bt (uor (dR f r a occ fO) (dR f r a occ fN)) b.toNat=((bx f a b).2.2&&(true||_)&&fX occ (bU f r a b))
   rw[fE S1.1 S2.1,S1.2,S2.2,jU ha hb ho _ jT,jU ha hb ho _ jg]
   cases hl:(bx f a b).2.2 with
   |false=>simp
   |true=>
    obtain⟨k1,k2⟩:=key b hb hl
    rw[(jI k1).1,(jI k1).2]
    cases(decide ((bx f a b).1=0)||decide ((bx f a b).2.1=0))<;>simp
 ·refine⟨iy _ _,fun m _ hm=>?_,fun b hb=>?_⟩
  ·have hm:bt (uor (cA f r a fO) (cA f r a fN)) m=true:=hm
   rw[fE L2.1 L3.1,Bool.or_eq_true]at hm
   exact hm.elim (fun hm=>onl _ _ ((L2.2 m).symm.trans hm)) (fun hm=>onl _ _ ((L3.2 m).symm.trans hm))
  ·have hd:=sZ ha hb
   have hp:=yz Np Hu hd.1 hd.2
   show bt (uor (cA f r a fO) (cA f r a fN)) b.toNat=decide (pC f a b=1)
   rw[fE L2.1 L3.1,L2.2,L3.2,jX hb,jX hb,Jv ha hb]
   exact eq_of_beq hp
end Go.Ab
namespace Go.Ab
open Go.Proofs
theorem MO{s x:Int}(hs:Uk s)(h1:0<=x)(h2:x<64)(hb:bt s x.toNat=false):IntKind.u64.wrap (s+ushl 1 x)=uor s (ushl 1 x):=by
 have hk:=jc 1 x
 rw[jY,De]
 have hz:BitVec.ofInt 64 s &&& BitVec.ofInt 64 (ushl 1 x)=0#64:=by
  apply BitVec.eq_of_toNat_eq
  rw[BitVec.toNat_and,jk hs,jk hk]
  apply Nat.eq_of_testBit_eq
  intro i
  rw[Nat.testBit_and]
  have h3:=jz h1 h2 i
  unfold bt at h3 hb
  rw[h3]
  by_cases e:x=(i:Int)
  ·subst e;rw[Int.toNat_natCast]at hb;simp[hb]
  ·simp[e]
 rw[<-BitVec.add_eq_or_of_and_eq_zero _ _ hz,BitVec.toNat_add,jk hs,jk hk]
 have h4:=hs.1
 have h5:=hk.1
 generalize ushl 1 x=y at *
 show (s+y)%18446744073709551616=(((s.toNat+y.toNat)%18446744073709551616:Nat):Int)
 omega
theorem uM:∀ (l:List Int) (s:Int),(∀ x∈l,0<=x/\x<64)->Uk s->Uk (ofL l s)/\∀ m:Nat,bt (ofL l s) m=(bt s m||decide ((m:Int)∈l))
 |[],s,_,hs=>⟨hs,fun m=>by simp[ofL]⟩
 |x::l,s,hl,hs=>by
  have hx:=hl x (by simp)
  rw[ofL]
  have hh:=JG (n:=x) hs
  simp only[hx.1,hx.2,decide_true,Bool.true_and]at hh
  cases hb:bt s x.toNat with
  |true=>
   obtain⟨h1,h2⟩:=uM l s (fun y hy=>hl y (by simp[hy])) hs
   rw[hh,hb,cond_true]
   refine⟨h1,fun m=>?_⟩
   rw[h2]
   by_cases e:(m:Int)=x
   ·subst e;rw[Int.toNat_natCast]at hb;simp[hb]
   ·simp[e]
  |false=>
   rw[hh,hb,cond_false,MO hs hx.1 hx.2 hb]
   obtain⟨h1,h2⟩:=uM l (uor s (ushl 1 x)) (fun y hy=>hl y (by simp[hy])) (iy _ _)
   refine⟨h1,fun m=>?_⟩
   rw[h2,fE hs (jc _ _),jz hx.1 hx.2,Bool.or_assoc]
   congr 1
   by_cases e:(m:Int)=x
   ·simp[e]
   ·have e':¬ x=(m:Int):=fun h=>e h.symm
    simp[e,e']
theorem NL{f r:Int}(hv:vsB f r=true):Uk (allU f r)/\∀ m:Nat,bt (allU f r) m=decide ((m:Int)<f*r):=by
 have hm:=gu hv
 unfold allU
 rw[eP hv,ay (by omega) (by omega)]
 have hk:Uk 18446744073709551615:=⟨by decide,by decide⟩
 refine⟨FP hk (by omega) (by omega),fun m=>?_⟩
 rw[JW hk (by omega) (by omega)]
 unfold bt
 rw[show (18446744073709551615:Int).toNat=2^64-1 by decide,Nat.testBit_two_pow_sub_one]
 congr 1
 exact propext ⟨fun h=>by omega,fun h=>by omega⟩
theorem Eu{f r s:Int}(hv:vsB f r=true)(hs:Uk s):cY s (allU f r)=0↔OnS f r s:=by
 obtain⟨h1,h2⟩:=NL hv
 rw[rJ (kK _ _)]
 constructor
 ·intro h m hm hb
  have:=h m hm
  rw[iM hs h1,hb,h2]at this
  simp at this
  exact qy hv (by omega) this
 ·intro h m hm
  rw[iM hs h1,h2]
  cases hb:bt s m with
  |false=>rfl
  |true=>have:=aL (h m hm hb);simp;omega
theorem kf{f r a s:Int}(hs:Uk s):gH f r a s=true↔aj f r a=true/\OnS f r s:=by
 unfold gH
 rw[Bool.and_eq_true,decide_eq_true_eq]
 exact⟨fun h=>⟨h.1,(Eu (bM h.1) hs).1 h.2⟩,fun h=>⟨h.1,(Eu (bM h.1) hs).2 h.2⟩⟩
end Go.Ab
namespace Go.Ab
open IntKind
open Go.Proofs
section
variable{kCa kDb:Bool}
def dK(f:Int)(bl:Bool)(a b:Int):Bool:=decide (i64.wrap (i64.wrap (b.tdiv f)-i64.wrap (a.tdiv f))=fwd bl)&&(decide (i64.wrap (b.tmod f-a.tmod f)=1)||decide (i64.wrap (a.tmod f-b.tmod f)=1))
def one4(f r:Int)(bl:Bool)(a:Int):Int:=numR f r (a.tmod f) (i64.wrap (i64.wrap (a.tdiv f)+fwd bl))
def two4(f r:Int)(bl:Bool)(a:Int):Int:=numR f r (a.tmod f) (i64.wrap (i64.wrap (a.tdiv f)+i64.wrap (2*fwd bl)))
def cj(f r:Int)(bl:Bool)(a occ b:Int):Bool:=(decide (b=one4 f r bl a)&&!hasB occ (one4 f r bl a))||(decide (b=two4 f r bl a)&&decide (6<=r)&&decide (i64.wrap (a.tdiv f)=secR r bl)&&!hasB occ (one4 f r bl a)&&!hasB occ (two4 f r bl a))
def jA:CF
 |[.agg [.int .i64 f,.int .i64 r],.bool bl,.int .i64 a],[]=>some (vsB f r,.sl 0 0 (cB (dK f bl a) id ((f*r).toNat)).length none,[.ints true .i64 (cB (dK f bl a) id ((f*r).toNat))])
 |_,_=>none
theorem lR:CtOk (GGx kCa kDb) PP (161,jA):=by
 refine aD Tryz.func161 (by kernel_rfl) rfl fun a0 h0 c0 v0 N0 e hc=>?_
 unfold jA at e
 split at e
 ·rename_i f r bl a
  cases e
  have hE:=aB (kCa:=kCa) (kDb:=kDb) (cts:=[(39,dH),(179,IV)]) (inl:=[]) ⟨bZ,zb,trivial⟩ trivial
  refine ak hE 2 Tryz.func161 rfl rfl ?_
  have hm:=gu hc
  have hw:=eP hc
  have hf:=de hc
  have hf0:¬ f=0:=by omega
  refine cx hE 2 (fun(i:Int) (ys:List Int)=>([(1,Bb bl),(2,I a),(3,.ptr 0 0 0),(7,.sl 1 0 ys.length none),(8,I i)],[.cells true [I f,I r],.ints true .i64 ys])) ((f*r).toNat) (fun j ys=>ys=cB (dK f bl a) id j) [] (by omega) ((Ent.phanT (t:=7) (o:=.ints true .i64 []) rfl ⟨by simp,by simp,trivial,rfl⟩ (aH rfl)).trans (Ent.ren [0,1] [1,2,3,7,8] rfl rfl rfl)) rfl ?_
  intro j i ys hij hj hz
  have hb:=dk (dK f bl a) id j
  rw[<-hz]at hb
  refine aq (fun hlt=>?_) (fun hlt=>?_)
  ·have hlt':j<(f*r).toNat:=by simp only[decide_eq_true_eq]at hlt;rw[hw]at hlt;omega
   have hs:=eJ (dK f bl a) id j
   rw[<-hz,<-hij]at hs
   repeat (first|refine ah ?_|refine sat_nd ?_)
   refine aq (fun hon=>?_) (fun hon=>?_)
   ·skip
    have hon:dK f bl a i=true:=hon
    rw[hon,cond_true]at hs
    refine ae (b:=decide (ys.length=ys.length)&&decide ((ys.length+1)*8<=140737488355328)&&true) (by simp;omega) ?_
    exact ag ⟨hlt',ys++[id i],hs.symm,Ent.ren [0,5] [1,2,3,7,8] rfl rfl rfl⟩
   ·skip
    have hon:dK f bl a i=false:=hon
    rw[hon,cond_false]at hs
    exact ag ⟨hlt',ys,hs.symm,Ent.ren [0,1] [1,2,3,7,8] rfl rfl rfl⟩
  ·obtain rfl:j=(f*r).toNat:=by simp only[decide_eq_false_iff_not]at hlt;rw[hw]at hlt;omega
   subst hz
   refine ag (ag ((bW 1 (.inr rfl) rfl rfl rfl rfl rfl rfl)))
 ·cases e
def lg:CF
 |[.agg [.int .i64 f,.int .i64 r],.bool bl,.int .i64 a,.int .u64 occ],[]=>some (vsB f r,.sl 0 0 (cB (cj f r bl a occ) id ((f*r).toNat)).length none,[.ints true .i64 (cB (cj f r bl a occ) id ((f*r).toNat))])
 |_,_=>none
theorem rq:CtOk (GGx kCa kDb) PP (190,lg):=by
 refine aD Tryz.func190 (by kernel_rfl) rfl fun a0 h0 c0 v0 N0 e hc=>?_
 unfold lg at e
 split at e
 ·rename_i f r bl a occ
  cases e
  have hE:=aB (kCa:=kCa) (kDb:=kDb) (cts:=[(39,dH),(179,IV),(86,gl),(53,Cj),(193,rU)]) (inl:=[]) ⟨bZ,zb,eV,sM,wX,trivial⟩ trivial
  refine ak hE 2 Tryz.func190 rfl rfl ?_
  have hm:=gu hc
  have hw:=eP hc
  have hf:=de hc
  have hf0:¬ f=0:=by omega
  repeat (first|refine ah ?_|refine sat_nd ?_)
  refine cx hE 2 (fun(i:Int) (ys:List Int)=>([(1,Bb bl),(3,U occ),(4,.ptr 0 0 0),(9,.ptr 1 0 0),(11,I (one4 f r bl a)),(12,I (two4 f r bl a)),(13,.sl 2 0 ys.length none),(14,I i)],[.cells true [I f,I r],.cells true [I (a.tmod f),I (i64.wrap (a.tdiv f))],.ints true .i64 ys])) ((f*r).toNat) (fun j ys=>ys=cB (cj f r bl a occ) id j) [] (by omega) ((Ent.phanT (t:=13) (o:=.ints true .i64 []) rfl ⟨by simp,by simp,trivial,rfl⟩ (aH rfl)).trans (Ent.ren [0,1,2] [1,3,4,9,11,12,13,14] rfl rfl rfl)) rfl ?_
  intro j i ys hij hj hz
  have hb:=dk (cj f r bl a occ) id j
  rw[<-hz]at hb
  refine aq (fun hlt=>?_) (fun hlt=>?_)
  ·have hlt':j<(f*r).toNat:=by simp only[decide_eq_true_eq]at hlt;rw[hw]at hlt;omega
   have hs:=eJ (cj f r bl a occ) id j
   rw[<-hz,<-hij]at hs
   repeat (first|refine ah ?_|refine sat_nd ?_)
   refine aq (fun hon=>?_) (fun hon=>?_)
   ·skip
    have hon:cj f r bl a occ i=true:=hon
    rw[hon,cond_true]at hs
    refine ae (b:=decide (ys.length=ys.length)&&decide ((ys.length+1)*8<=140737488355328)&&true) (by simp;omega) ?_
    exact ag ⟨hlt',ys++[id i],hs.symm,Ent.ren [0,1,4] [1,3,4,9,11,12,13,14] rfl rfl rfl⟩
   ·skip
    have hon:cj f r bl a occ i=false:=hon
    rw[hon,cond_false]at hs
    exact ag ⟨hlt',ys,hs.symm,Ent.ren [0,1,2] [1,3,4,9,11,12,13,14] rfl rfl rfl⟩
  ·obtain rfl:j=(f*r).toNat:=by simp only[decide_eq_false_iff_not]at hlt;rw[hw]at hlt;omega
   subst hz
   refine ag (ag ((bW 2 (.inr rfl) rfl rfl rfl rfl rfl rfl)))
 ·cases e
end
theorem uI(bl:Bool):(bl=true/\fwd bl=-1)\/(bl=false/\fwd bl=1):=by cases bl<;>simp[fwd]
theorem wv{f r X Y:Int}(h:onB f r X Y=false):numR f r X Y=-1:=by unfold numR;rw[vQ,h];rfl
theorem NI{f r b X Y:Int}(hv:vsB f r=true)(hb:aj f r b=true):decide (b=numR f r X Y)=(decide (px f b=X)&&decide (py f b=Y)):=by
 have hq:=eZ hb
 have hl:=aL hb
 cases ho:onB f r X Y with
 |true=>
  have:=iV hv ho hb
  rw[Bool.eq_iff_iff,Bool.and_eq_true,decide_eq_true_eq,decide_eq_true_eq,decide_eq_true_eq,<-this]
  exact⟨Eq.symm,Eq.symm⟩
 |false=>
  rw[wv ho,show decide (b=-1)=false by simp;omega]
  symm
  simp only[Bool.and_eq_false_iff,decide_eq_false_iff_not]
  by_cases h1:px f b=X
  ·right
   intro h2
   have:onB f r X Y=true:=jC (by omega) (by omega) (by omega) (by omega)
   rw[ho]at this;cases this
  ·exact .inl h1
theorem Mu(bl:Bool):∀ row∈[[-1,fwd bl],[1,fwd bl]],-8<=row.getD 0 0/\row.getD 0 0<=8/\-8<=row.getD 1 0/\row.getD 1 0<=8:=by cases bl<;>simp[fwd]
theorem yZ{f r a:Int}(rs:List (List Int))(m:Nat)(h:rs.any (lZ f r a · m)=true):aj f r m=true:=by
 obtain⟨row,_,h2⟩:=List.any_eq_true.1 h
 simp only[lZ,Bool.and_eq_true]at h2
 exact h2.1.1
theorem wT{f r a:Int}{bl:Bool}(ha:aj f r a=true):(gg f r bl a).2=0/\Uk (gg f r bl a).1/\OnS f r (gg f r bl a).1/\∀ b,aj f r b=true->bt (gg f r bl a).1 b.toNat=dK f bl a b:=by
 have L:=oF ha [[-1,fwd bl],[1,fwd bl]] (Mu bl)
 unfold gg
 rw[ha,cond_true]
 refine⟨rfl,L.1,fun m _ hm=>yZ _ _ ((L.2 m).symm.trans hm),fun b hb=>?_⟩
 obtain⟨e1,e2⟩:=iz ha hb
 obtain⟨e3,_⟩:=iz hb ha
 have hd:=sZ ha hb
 rw[L.2,jX hb]
 unfold dK fI
 rw[e1,e2,e3]
 simp only[List.any_cons,List.any_nil,Bool.or_false,List.getD_cons_zero,List.getD_cons_succ]
 rw[Bool.eq_iff_iff]
 simp only[Bool.or_eq_true,Bool.and_eq_true,decide_eq_true_eq]
 omega
theorem Ej{f r a k:Int}(ha:aj f r a=true)(hk:-2<=k/\k<=2):Uk (cA f r a [[0,k]])/\(∀ m,bt (cA f r a [[0,k]]) m=true->aj f r m=true)/\∀ b,aj f r b=true->bt (cA f r a [[0,k]]) b.toNat=decide (b=numR f r (px f a) (py f a+k)):=by
 have L:=oF ha [[0,k]] (by intro row h;simp only[List.mem_singleton]at h;subst h;simp;omega)
 refine⟨L.1,fun m hm=>yZ _ _ ((L.2 m).symm.trans hm),fun b hb=>?_⟩
 rw[L.2,jX hb,NI (bM ha) hb]
 unfold fI
 simp only[List.any_cons,List.any_nil,Bool.or_false,List.getD_cons_zero,List.getD_cons_succ]
 rw[Bool.eq_iff_iff]
 simp only[Bool.and_eq_true,decide_eq_true_eq]
 omega
theorem gC(f r X Y:Int)(hv:vsB f r=true):(onB f r X Y=true/\aj f r (numR f r X Y)=true)\/(onB f r X Y=false/\numR f r X Y=-1):=by
 cases ho:onB f r X Y with
 |true=>
  left
  have h:=xy (X:=X) (Y:=Y) hv
  rw[ho]at h
  have hp:=lK (of_decide_eq_true h)
  rw[tL hv ho,hp.2.2.2.2]
  exact⟨rfl,(ig hv ho).1⟩
 |false=>exact .inr ⟨rfl,wv ho⟩
theorem zK{f r a occ:Int}{bl:Bool}(h:gH f r a occ=true)(ho:Uk occ):(dm f r bl a occ).2=0/\Uk (dm f r bl a occ).1/\OnS f r (dm f r bl a occ).1/\∀ b,aj f r b=true->bt (dm f r bl a occ).1 b.toNat=cj f r bl a occ b:=by
 obtain⟨ha,_⟩:=(kf ho).1 h
 have hv:=bM ha
 have hp:=eZ ha
 have hw2:i64.wrap (2*fwd bl)=2*fwd bl:=by rcases uI bl with⟨_,e⟩|⟨_,e⟩<;>rw[e]<;>rfl
 have hfw:=uI bl
 have S1:=Ej (k:=fwd bl) ha (by omega)
 have S2:=Ej (k:=2*fwd bl) ha (by omega)
 have e1:one4 f r bl a=numR f r (px f a) (py f a+fwd bl):=by
  show numR f r (px f a) (i64.wrap (i64.wrap (py f a)+fwd bl))=_
  rw[hp.2.2.2.2.1,ay (by omega) (by omega)]
 have e2:two4 f r bl a=numR f r (px f a) (py f a+2*fwd bl):=by
  show numR f r (px f a) (i64.wrap (i64.wrap (py f a)+i64.wrap (2*fwd bl)))=_
  rw[hp.2.2.2.2.1,hw2,ay (by omega) (by omega)]
 have hsec:(decide (r<6)||!decide (i64.wrap (a.tdiv f)=bif bl then i64.wrap (r-2)else 1))=!(decide (6<=r)&&decide (i64.wrap (a.tdiv f)=secR r bl)):=by
  unfold secR
  rw[Bool.not_and,show (!decide (6<=r))=decide (r<6) by rw[<-decide_not];congr 1;exact propext ⟨fun h=>by omega,fun h=>by omega⟩]
 unfold dm qi one1
 rw[h,cond_true,Bool.or_assoc,hsec,hw2]
 have hA:Uk (cY (cA f r a [[0,fwd bl]]) occ):=kK _ _
 have hB:Uk (cY (cA f r a [[0,2*fwd bl]]) occ):=kK _ _
 have bA:∀ m,bt (cY (cA f r a [[0,fwd bl]]) occ) m=(bt (cA f r a [[0,fwd bl]]) m&&!bt occ m):=iM S1.1 ho
 have bB:∀ m,bt (cY (cA f r a [[0,2*fwd bl]]) occ) m=(bt (cA f r a [[0,2*fwd bl]]) m&&!bt occ m):=iM S2.1 ho
 have onA:OnS f r (cY (cA f r a [[0,fwd bl]]) occ):=fun m _ hm=>by rw[bA,Bool.and_eq_true]at hm;exact S1.2.1 m hm.1
 have onB':OnS f r (cY (cA f r a [[0,2*fwd bl]]) occ):=fun m _ hm=>by rw[bB,Bool.and_eq_true]at hm;exact S2.2.1 m hm.1
 have vA:∀ b,aj f r b=true->bt (cY (cA f r a [[0,fwd bl]]) occ) b.toNat=(decide (b=one4 f r bl a)&&!hasB occ (one4 f r bl a)):=fun b hb=>by
  rw[bA,S1.2.2 b hb,<-e1]
  by_cases e:b=one4 f r bl a
  ·rw[<-e,iK ho hb]
  ·simp[e]
 have vB:∀ b,aj f r b=true->bt (cY (cA f r a [[0,2*fwd bl]]) occ) b.toNat=(decide (b=two4 f r bl a)&&!hasB occ (two4 f r bl a)):=fun b hb=>by
  rw[bB,S2.2.2 b hb,<-e2]
  by_cases e:b=two4 f r bl a
  ·rw[<-e,iK ho hb]
  ·simp[e]
 -- the first step is free just if its set is not empty
 have hz:cY (cA f r a [[0,fwd bl]]) occ=0↔(one4 f r bl a=-1\/hasB occ (one4 f r bl a)=true):=by
  rw[rJ hA]
  rcases gC f r (px f a) (py f a+fwd bl) hv with⟨_,hval⟩|⟨_,hneg⟩
  ·rw[<-e1]at hval
   have hl:=aL hval
   constructor
   ·intro hall
    have:=hall (one4 f r bl a).toNat (by omega)
    rw[vA _ hval]at this
    right;simpa using this
   ·rintro(hx|hx)
    ·omega
    ·intro n hn
     cases hb:bt (cY (cA f r a [[0,fwd bl]]) occ) n with
     |false=>rfl
     |true=>
      have hvn:=onA n hn hb
      have:=vA n hvn
      rw[Int.toNat_natCast,hb,hx]at this
      simp at this
  ·rw[<-e1]at hneg
   refine⟨fun _=>.inl hneg,fun _ n hn=>?_⟩
   cases hb:bt (cY (cA f r a [[0,fwd bl]]) occ) n with
   |false=>rfl
   |true=>
    have hvn:=onA n hn hb
    have:=vA n hvn
    rw[Int.toNat_natCast,hb,hneg]at this
    simp at this
 cases hc:(decide (cY (cA f r a [[0,fwd bl]]) occ=0)||!(decide (6<=r)&&decide (i64.wrap (a.tdiv f)=secR r bl))) with
 |true=>
  rw[cond_true]
  refine⟨rfl,hA,onA,fun b hb=>?_⟩
  show bt (cY (cA f r a [[0,fwd bl]]) occ) b.toNat=_
  rw[vA b hb]
  unfold cj
  symm
  rw[Bool.or_eq_true,decide_eq_true_eq,hz]at hc
  have:(decide (b=two4 f r bl a)&&decide (6<=r)&&decide (i64.wrap (a.tdiv f)=secR r bl)&&!hasB occ (one4 f r bl a)&&!hasB occ (two4 f r bl a))=false:=by
   have hl:=aL hb
   rcases hc with(hc|hc)|hc
   ·have h2:two4 f r bl a=-1:=by
     rw[e2]
     refine wv ?_
     cases hon:onB f r (px f a) (py f a+2*fwd bl) with
     |false=>rfl
     |true=>
      have:=ta hon
      have h3:onB f r (px f a) (py f a+fwd bl)=true:=jC (by omega) (by omega) (by omega) (by omega)
      rcases gC f r (px f a) (py f a+fwd bl) hv with⟨_,hval⟩|⟨h4,_⟩
      ·rw[<-e1,hc]at hval
       have:=aL hval
       omega
      ·rw[h3]at h4;cases h4
    rw[h2,show decide (b=-1)=false by simp;omega]
    rfl
   ·rw[hc];simp
   ·cases h6:decide (6<=r)<;>rw[h6]at hc<;>simp at hc<;>simp[hc]
  rw[this,Bool.or_false]
 |false=>
  rw[cond_false]
  refine⟨rfl,iy _ _,fun m hm hb=>?_,fun b hb=>?_⟩
  ·have hb:bt (uor (cY (cA f r a [[0,fwd bl]]) occ) (cY (cA f r a [[0,2*fwd bl]]) occ)) m=true:=hb
   rw[fE hA hB,Bool.or_eq_true]at hb
   exact hb.elim (onA m hm) (onB' m hm)
  ·show bt (uor (cY (cA f r a [[0,fwd bl]]) occ) (cY (cA f r a [[0,2*fwd bl]]) occ)) b.toNat=_
   rw[fE hA hB,vA b hb,vB b hb]
   simp only[Bool.or_eq_false_iff,decide_eq_false_iff_not,Bool.not_eq_false',Bool.and_eq_true,decide_eq_true_eq]at hc
   obtain⟨h1,h2,h3⟩:=hc
   rw[hz,not_or]at h1
   have h4:hasB occ (one4 f r bl a)=false:=by simpa using h1.2
   unfold cj
   rw[h4,h3]
   simp[h2]
end Go.Ab
namespace Go.Ab
open Go.Proofs
theorem zT(b:Int):∀ (L:List Int) (s:Int),Uk s->Uk (fm b L s)
 |[],_,h=>h
 |x::L,s,h=>by
  rw[fm]
  cases decide (x=b) with
  |true=>exact h
  |false=>exact zT b L _ (iy _ _)
theorem zo{b:Int}:∀ (L:List Int) (s:Int),(∀ x∈L,0<=x/\x<64)->Uk s->∀ m:Nat,bt (fm b L s) m=(bt s m||decide ((m:Int)∈L.take (idxL b L)))
 |[],s,_,_,m=>by simp[fm,idxL]
 |x::L,s,hL,hs,m=>by
  have hx:=hL x (by simp)
  rw[fm,idxL]
  cases hb:decide (x=b) with
  |true=>simp
  |false=>
   rw[cond_false,cond_false,zo L _ (fun y hy=>hL y (by simp[hy])) (iy _ _),fE hs (jc _ _),jz hx.1 hx.2,Bool.or_assoc,List.take_succ_cons]
   congr 1
   by_cases e:(m:Int)=x
   ·simp[e]
   ·have e':¬ x=(m:Int):=fun h=>e h.symm
    simp[e,e']
theorem Im{f r a b:Int}(ha:aj f r a=true)(hb:aj f r b=true)(h:(bx f a b).2.2=true):dirR f r a b=((bx f a b).1,(bx f a b).2.1,0)/\bS f r a b=(ofL (bU f r a b) 0,0):=by
 have hp:=eZ ha
 have hq:=eZ hb
 obtain⟨e1,e2⟩:=iz ha hb
 have hlh:=sE ha hb h
 rcases uO ha hb with⟨e,_⟩|⟨e,hl⟩
 ·rw[e]at h;cases h
 ·have hd:dirR f r a b=((bx f a b).1,(bx f a b).2.1,0):=by
   unfold dirR
   rw[ha,hb,e,e1,e2]
   have:(decide (a=b)||!decide (px f b-px f a=0)&&!decide (py f b-py f a=0)&&!decide (px f b-px f a=py f b-py f a)&&!decide (px f b-px f a=IntKind.i64.wrap (0-(py f b-py f a))))=false:=by
    rw[ay (by omega) (by omega)]
    simp only[Bool.or_eq_false_iff,Bool.and_eq_false_iff,decide_eq_false_iff_not,Bool.not_eq_false',decide_eq_true_eq]
    rw[oD ha hb]
    unfold lN at hl
    omega
   simp only[this,Bool.and_true,cond_true,cond_false]
  refine⟨hd,?_⟩
  unfold bS
  rw[hd]
  simp only[decide_true,cond_true]
  have hz:rayL f r a (bx f a b).1 (bx f a b).2.1=eC f r a b:=by rw[JN,Fw hlh.1];rfl
  have hbd:∀ x∈eC f r a b,0<=x/\x<64:=fun x hx=>⟨(aL (ez ha hx)).1,(aL (ez ha hx)).2.2⟩
  have hL:bU f r a b=(eC f r a b).take (idxL b (eC f r a b)):=by unfold bU;rw[hlh.2];rfl
  rw[hz,hL]
  congr 1
  have hbd2:∀ x∈(eC f r a b).take (idxL b (eC f r a b)),0<=x/\x<64:=fun x hx=>hbd x (List.mem_of_mem_take hx)
  obtain⟨k1,k2⟩:=uM _ 0 hbd2 uk_0
  refine zm (zT _ _ _ uk_0) k1 fun n _=>?_
  rw[zo _ _ hbd uk_0,k2]
theorem yB{f r a b:Int}(ha:aj f r a=true):(bU f r a b).length<=8/\∀ x∈bU f r a b,aj f r x=true:=by
 refine⟨pE f r a b,fun x hx=>?_⟩
 unfold bU at hx
 cases h:hasL b (eC f r a b) with
 |false=>rw[h]at hx;simp at hx
 |true=>rw[h,cond_true]at hx;exact ez ha (List.mem_of_mem_take hx)
end Go.Ab
namespace Go.Ab
open Go.Proofs
end Go.Ab
namespace Go.Ab
open Go.Proofs
def Btw(f a b c:Int):Prop:=∃ i k:Nat,∃ df dr:Int,unit df dr/\1<=i/\i<k/\k<=8/\px f b=px f a+k*df/\py f b=py f a+k*dr/\px f c=px f a+i*df/\py f c=py f a+i*dr
theorem Btw.symm{f a b c:Int}(h:Btw f a b c):Btw f b a c:=by
 obtain⟨i,k,df,dr,hu,h1,h2,h3,h4,h5,h6,h7⟩:=h
 refine⟨k-i,k,-df,-dr,?_,by omega,by omega,h3,?_⟩
 ·unfold unit at hu ⊢;omega
 ·rcases dV hu with⟨rfl,rfl⟩|⟨rfl,rfl⟩|⟨rfl,rfl⟩|⟨rfl,rfl⟩|⟨rfl,rfl⟩|⟨rfl,rfl⟩|⟨rfl,rfl⟩|⟨rfl,rfl⟩<;>omega
section
variable{kCa kDb:Bool}
def okP(p:Int):Bool:=decide (-15<=p)&&decide (p<=15)
def orP(p:Int):Bool:=!decide (p=0)&&decide (-6<=p)&&decide (p<=6)
def badP(p:Int):Bool:=!okP p
def norP(p:Int):Bool:=!decide (p=0)&&!orP p
def posP(p:Int):Bool:=decide (0<p)
def negP(p:Int):Bool:=decide (p<0)
def cntR(f r:Int):Int×Int:=bif vsB f r then(IntKind.i64.wrap (f*r),0) else(0,2)
def cP(p:Int->Bool):List Int->Int->Int
 |[],_=>-1
 |x::l,k=>bif p x then k else cP p l (k+1)
theorem rG(p:Int->Bool):∀ (l:List Int) (k:Int),0<=k->decide (0<=cP p l k)=l.any p
 |[],k,_=>rfl
 |x::l,k,hk=>by
  rw[cP,List.any_cons]
  cases p x with
  |true=>simp[hk]
  |false=>rw[cond_false,Bool.false_or];exact rG p l (k+1) (by omega)
theorem sW{p:Int->Bool}{l:List Int}{i:Nat}{k:Int}(h:i<l.length):cP p (l.drop i) k=bif p (l.getD i 0)then k else cP p (l.drop (i+1)) (k+1):=by
 rw[List.drop_eq_getElem_cons h,cP];simp[List.getD,h]
def gQ(p:Int->Bool)(zs:List Int)(s i:Int):Int:=bif p (zs.getD i.toNat 0)then uor s (ushl 1 i)else s
def fo(p:Int->Bool)(zs:List Int):Int:=jN (gQ p zs) 0 zs.length
def aC(f r:Int)(zs:List Int):Bool:=decide ((cntR f r).2=0)&&decide ((zs.length:Int)=(cntR f r).1)&&!(zs.any badP)
def aV(f r:Int)(zs:List Int):Bool:=aC f r zs&&!(zs.any norP)
def eY(f r:Int)(zs:List Int):Int×Int×Int:=bif aC f r zs then(fo posP zs,fo negP zs,0) else(0,0,2)
def occR(f r:Int)(zs:List Int):Int:=uor (eY f r zs).1 (eY f r zs).2.1
def yf:CF
 |[.agg [.int .i64 f,.int .i64 r]],[]=>some (true,.tup [I (cntR f r).1,I (cntR f r).2],[])
 |_,_=>none
theorem Cd:CtOk (GGx kCa kDb) PP (126,yf):=by
 refine aD Tryz.func126 (by kernel_rfl) rfl fun a0 h0 c0 v0 N0 e hc=>?_
 unfold yf at e
 split at e
 ·rename_i f r
  cases e
  have hE:=aB (kCa:=kCa) (kDb:=kDb) (cts:=[(146,c_vs)]) (inl:=[]) ⟨kj,trivial⟩ trivial
  refine ak hE 2 Tryz.func126 rfl rfl ?_
  repeat' first|(first|refine ah ?_|refine sat_nd ?_)|refine aq (fun h=>?_) (fun h=>?_)
  all_goals exact ag (ai (.inr rfl) rfl rfl rfl (by first|rfl|(simp only[cntR, *];done)|(simp only[cntR, *];done)|simp_all [cntR]))
 ·cases e
def El:CF
 |[.int .i8 p],[]=>some (true,.bool (okP p),[])
 |_,_=>none
theorem CM:CtOk (GGx kCa kDb) PP (129,El):=by
 refine aD Tryz.func129 (by kernel_rfl) rfl fun a0 h0 c0 v0 N0 e hc=>?_
 unfold El at e
 split at e
 ·rename_i p
  cases e
  have hE:=aB (kCa:=kCa) (kDb:=kDb) (cts:=[]) (inl:=[]) trivial trivial
  refine ak hE 2 Tryz.func129 rfl rfl ?_
  repeat' first|(first|refine ah ?_|refine sat_nd ?_)|refine aq (fun h=>?_) (fun h=>?_)
  all_goals exact ag (ai (.inr rfl) rfl rfl rfl (by first|rfl|(simp only[*,cond_true,cond_false];done)|(simp only[*,cond_true,cond_false,Bool.not_true,Bool.not_false,Bool.and_true,Bool.true_and,Bool.and_false,Bool.false_and,Bool.or_true,Bool.true_or,Bool.or_false,Bool.false_or];done)|simp_all []))
 ·cases e
def xB:CF
 |[.int .i8 p],[]=>some (true,.bool (orP p),[])
 |_,_=>none
theorem BB:CtOk (GGx kCa kDb) PP (145,xB):=by
 refine aD Tryz.func145 (by kernel_rfl) rfl fun a0 h0 c0 v0 N0 e hc=>?_
 unfold xB at e
 split at e
 ·rename_i p
  cases e
  have hE:=aB (kCa:=kCa) (kDb:=kDb) (cts:=[]) (inl:=[]) trivial trivial
  refine ak hE 2 Tryz.func145 rfl rfl ?_
  repeat' first|(first|refine ah ?_|refine sat_nd ?_)|refine aq (fun h=>?_) (fun h=>?_)
  all_goals exact ag (ai (.inr rfl) rfl rfl rfl (by first|rfl|(simp only[*,cond_true,cond_false];done)|(simp only[*,cond_true,cond_false,Bool.not_true,Bool.not_false,Bool.and_true,Bool.true_and,Bool.and_false,Bool.false_and,Bool.or_true,Bool.true_or,Bool.or_false,Bool.false_or];done)|simp_all []))
 ·cases e
def HI:CF
 |[.int .i8 p],[]=>some (true,.bool (badP p),[])
 |_,_=>none
theorem ze:CtOk (GGx kCa kDb) PP (128,HI):=by
 refine aD Tryz.func128 (by kernel_rfl) rfl fun a0 h0 c0 v0 N0 e hc=>?_
 unfold HI at e
 split at e
 ·rename_i p
  cases e
  have hE:=aB (kCa:=kCa) (kDb:=kDb) (cts:=[(129,El)]) (inl:=[]) ⟨CM,trivial⟩ trivial
  refine ak hE 2 Tryz.func128 rfl rfl ?_
  repeat' first|(first|refine ah ?_|refine sat_nd ?_)|refine aq (fun h=>?_) (fun h=>?_)
  all_goals exact ag (ai (.inr rfl) rfl rfl rfl (by first|rfl|(simp only[*,cond_true,cond_false];done)|(simp only[*,cond_true,cond_false,Bool.not_true,Bool.not_false,Bool.and_true,Bool.true_and,Bool.and_false,Bool.false_and,Bool.or_true,Bool.true_or,Bool.or_false,Bool.false_or];done)|simp_all []))
 ·cases e
def Ij:CF
 |[.int .i8 p],[]=>some (true,.bool (norP p),[])
 |_,_=>none
theorem Ad:CtOk (GGx kCa kDb) PP (144,Ij):=by
 refine aD Tryz.func144 (by kernel_rfl) rfl fun a0 h0 c0 v0 N0 e hc=>?_
 unfold Ij at e
 split at e
 ·rename_i p
  cases e
  have hE:=aB (kCa:=kCa) (kDb:=kDb) (cts:=[(145,xB)]) (inl:=[]) ⟨BB,trivial⟩ trivial
  refine ak hE 2 Tryz.func144 rfl rfl ?_
  repeat' first|(first|refine ah ?_|refine sat_nd ?_)|refine aq (fun h=>?_) (fun h=>?_)
  all_goals exact ag (ai (.inr rfl) rfl rfl rfl (by first|rfl|(simp only[*,cond_true,cond_false];done)|(simp only[*,cond_true,cond_false,Bool.not_true,Bool.not_false,Bool.and_true,Bool.true_and,Bool.and_false,Bool.false_and,Bool.or_true,Bool.true_or,Bool.or_false,Bool.false_or];done)|simp_all []))
 ·cases e
def HO:CF
 |[.int .i8 p],[]=>some (true,.bool (posP p),[])
 |_,_=>none
theorem zG:CtOk (GGx kCa kDb) PP (168,HO):=by
 refine aD Tryz.func168 (by kernel_rfl) rfl fun a0 h0 c0 v0 N0 e hc=>?_
 unfold HO at e
 split at e
 ·rename_i p
  cases e
  have hE:=aB (kCa:=kCa) (kDb:=kDb) (cts:=[]) (inl:=[]) trivial trivial
  refine ak hE 2 Tryz.func168 rfl rfl ?_
  repeat' first|(first|refine ah ?_|refine sat_nd ?_)|refine aq (fun h=>?_) (fun h=>?_)
  all_goals exact ag (ai (.inr rfl) rfl rfl rfl (by first|rfl|(simp only[*,cond_true,cond_false];done)|(simp only[*,cond_true,cond_false,Bool.not_true,Bool.not_false,Bool.and_true,Bool.true_and,Bool.and_false,Bool.false_and,Bool.or_true,Bool.true_or,Bool.or_false,Bool.false_or];done)|simp_all []))
 ·cases e
def Hg:CF
 |[.int .i8 p],[]=>some (true,.bool (negP p),[])
 |_,_=>none
theorem zu:CtOk (GGx kCa kDb) PP (169,Hg):=by
 refine aD Tryz.func169 (by kernel_rfl) rfl fun a0 h0 c0 v0 N0 e hc=>?_
 unfold Hg at e
 split at e
 ·rename_i p
  cases e
  have hE:=aB (kCa:=kCa) (kDb:=kDb) (cts:=[]) (inl:=[]) trivial trivial
  refine ak hE 2 Tryz.func169 rfl rfl ?_
  repeat' first|(first|refine ah ?_|refine sat_nd ?_)|refine aq (fun h=>?_) (fun h=>?_)
  all_goals exact ag (ai (.inr rfl) rfl rfl rfl (by first|rfl|(simp only[*,cond_true,cond_false];done)|(simp only[*,cond_true,cond_false,Bool.not_true,Bool.not_false,Bool.and_true,Bool.true_and,Bool.and_false,Bool.false_and,Bool.or_true,Bool.true_or,Bool.or_false,Bool.false_or];done)|simp_all []))
 ·cases e
def Ar:CF
 |[.sl 0 0 len none,.fn 128 []],[.ints false .i8 zs]=>some (decide (len=zs.length)&&decide (zs.length<=1000000),.int .i64 (cP badP zs 0),[])
 |[.sl 0 0 len none,.fn 144 []],[.ints false .i8 zs]=>some (decide (len=zs.length)&&decide (zs.length<=1000000),.int .i64 (cP norP zs 0),[])
 |_,_=>none
theorem ue:CtOk (GGx kCa kDb) PP (159,Ar):=by
 refine aD Tryz.func159 (by kernel_rfl) rfl fun a0 h0 c0 v0 N0 e hc=>?_
 unfold Ar at e
 split at e
 ·rename_i len zs
  cases e
  have hE:=aB (kCa:=kCa) (kDb:=kDb) (cts:=[(128,HI),(144,Ij)]) (inl:=[]) ⟨ze,Ad,trivial⟩ trivial
  refine ak hE 2 Tryz.func159 rfl rfl ?_
  simp only[Bool.and_eq_true,decide_eq_true_eq]at hc
  obtain⟨rfl,hc2⟩:=hc
  refine cx hE 2 (fun i (_:Unit)=>([(0,.sl 0 0 zs.length none),(1,.fn 128 []),(7,I zs.length),(8,I i)],[.ints false .i8 zs])) zs.length (fun j _=>cP badP (zs.drop j) j=cP badP zs 0) () (by omega) (Ent.ren [0] [0,1,7,8] rfl rfl rfl) rfl ?_
  intro j i _ hij hj hz
  refine aq (fun hlt=>?_) (fun hlt=>?_)
  ·have hlt':j<zs.length:=by simp at hlt;omega
   rw[sW hlt',show j=i.toNat by omega]at hz
   refine ae (by simp;omega) ?_
   repeat (first|refine ah ?_|refine sat_nd ?_)
   refine aq (fun hon=>?_) (fun hon=>?_)
   ·have hon:badP (zs.getD i.toNat 0)=true:=hon
    rw[hon,cond_true]at hz
    refine ag (ag (ai (.inr rfl) rfl rfl rfl (by rw[<-hz];exact congrArg (V.int IntKind.i64) (by omega))))
   ·have hon:badP (zs.getD i.toNat 0)=false:=hon
    rw[hon,cond_false]at hz
    exact ag ⟨hlt',(),by rw[<-hz,show i.toNat=j by omega];push_cast;rfl,Ent.ren [0] [0,1,7,8] rfl rfl rfl⟩
  ·obtain rfl:j=zs.length:=by simp at hlt;omega
   rw[List.drop_length]at hz
   exact ag (ag (ai (.inr rfl) rfl rfl rfl (by rw[<-hz];rfl)))
 ·rename_i len zs
  cases e
  have hE:=aB (kCa:=kCa) (kDb:=kDb) (cts:=[(128,HI),(144,Ij)]) (inl:=[]) ⟨ze,Ad,trivial⟩ trivial
  refine ak hE 2 Tryz.func159 rfl rfl ?_
  simp only[Bool.and_eq_true,decide_eq_true_eq]at hc
  obtain⟨rfl,hc2⟩:=hc
  refine cx hE 2 (fun i (_:Unit)=>([(0,.sl 0 0 zs.length none),(1,.fn 144 []),(7,I zs.length),(8,I i)],[.ints false .i8 zs])) zs.length (fun j _=>cP norP (zs.drop j) j=cP norP zs 0) () (by omega) (Ent.ren [0] [0,1,7,8] rfl rfl rfl) rfl ?_
  intro j i _ hij hj hz
  refine aq (fun hlt=>?_) (fun hlt=>?_)
  ·have hlt':j<zs.length:=by simp at hlt;omega
   rw[sW hlt',show j=i.toNat by omega]at hz
   refine ae (by simp;omega) ?_
   repeat (first|refine ah ?_|refine sat_nd ?_)
   refine aq (fun hon=>?_) (fun hon=>?_)
   ·have hon:norP (zs.getD i.toNat 0)=true:=hon
    rw[hon,cond_true]at hz
    refine ag (ag (ai (.inr rfl) rfl rfl rfl (by rw[<-hz];exact congrArg (V.int IntKind.i64) (by omega))))
   ·have hon:norP (zs.getD i.toNat 0)=false:=hon
    rw[hon,cond_false]at hz
    exact ag ⟨hlt',(),by rw[<-hz,show i.toNat=j by omega];push_cast;rfl,Ent.ren [0] [0,1,7,8] rfl rfl rfl⟩
  ·obtain rfl:j=zs.length:=by simp at hlt;omega
   rw[List.drop_length]at hz
   exact ag (ag (ai (.inr rfl) rfl rfl rfl (by rw[<-hz];rfl)))
 ·cases e
def qP:CF
 |[.sl 0 0 len none,.fn 128 []],[.ints false .i8 zs]=>some (decide (len=zs.length)&&decide (zs.length<=1000000),.bool (zs.any badP),[])
 |[.sl 0 0 len none,.fn 144 []],[.ints false .i8 zs]=>some (decide (len=zs.length)&&decide (zs.length<=1000000),.bool (zs.any norP),[])
 |_,_=>none
theorem qo:CtOk (GGx kCa kDb) PP (127,qP):=by
 refine aD Tryz.func127 (by kernel_rfl) rfl fun a0 h0 c0 v0 N0 e hc=>?_
 unfold qP at e
 split at e
 ·rename_i len zs
  cases e
  have hE:=aB (kCa:=kCa) (kDb:=kDb) (cts:=[(159,Ar)]) (inl:=[]) ⟨ue,trivial⟩ trivial
  refine ak hE 2 Tryz.func127 rfl rfl ?_
  simp only[Bool.and_eq_true,decide_eq_true_eq]at hc
  obtain⟨rfl,hc2⟩:=hc
  refine ae (by simp;omega) ?_
  exact ag (ai (.inr rfl) rfl rfl rfl (congrArg Bb (by
   show decide (0<=cP badP (tk zs) 0)=_
   rw[aF];exact rG badP zs 0 (by omega))))
 ·rename_i len zs
  cases e
  have hE:=aB (kCa:=kCa) (kDb:=kDb) (cts:=[(159,Ar)]) (inl:=[]) ⟨ue,trivial⟩ trivial
  refine ak hE 2 Tryz.func127 rfl rfl ?_
  simp only[Bool.and_eq_true,decide_eq_true_eq]at hc
  obtain⟨rfl,hc2⟩:=hc
  refine ae (by simp;omega) ?_
  exact ag (ai (.inr rfl) rfl rfl rfl (congrArg Bb (by
   show decide (0<=cP norP (tk zs) 0)=_
   rw[aF];exact rG norP zs 0 (by omega))))
 ·cases e
def jK:CF
 |[.agg [.int .i64 f,.int .i64 r,.sl 0 0 len none]],[.ints false .i8 zs]=>some (decide (len=zs.length)&&decide (zs.length<=1000000),.bool (aC f r zs),[])
 |_,_=>none
theorem iS:CtOk (GGx kCa kDb) PP (67,jK):=by
 refine aD Tryz.func67 (by kernel_rfl) rfl fun a0 h0 c0 v0 N0 e hc=>?_
 unfold jK at e
 split at e
 ·rename_i f r len zs
  cases e
  have hE:=aB (kCa:=kCa) (kDb:=kDb) (cts:=[(126,yf),(127,qP)]) (inl:=[]) ⟨Cd,qo,trivial⟩ trivial
  refine ak hE 2 Tryz.func67 rfl rfl ?_
  simp only[Bool.and_eq_true,decide_eq_true_eq]at hc
  obtain⟨rfl,hc2⟩:=hc
  repeat (first|refine ah ?_|refine sat_nd ?_)
  exact ag (ai (.inr rfl) rfl rfl rfl (congrArg Bb (by
   show (decide ((cntR f r).2=0)&&decide ((zs.length:Int)=(cntR f r).1)&&!((tk zs).any badP))=_
   rw[aF];rfl)))
 ·cases e
def yD:CF
 |[.agg [.int .i64 f,.int .i64 r,.sl 0 0 len none]],[.ints false .i8 zs]=>some (decide (len=zs.length)&&decide (zs.length<=1000000),.bool (aV f r zs),[])
 |_,_=>none
theorem tB:CtOk (GGx kCa kDb) PP (90,yD):=by
 refine aD Tryz.func90 (by kernel_rfl) rfl fun a0 h0 c0 v0 N0 e hc=>?_
 unfold yD at e
 split at e
 ·rename_i f r len zs
  cases e
  have hE:=aB (kCa:=kCa) (kDb:=kDb) (cts:=[(67,jK),(127,qP)]) (inl:=[]) ⟨iS,qo,trivial⟩ trivial
  refine ak hE 2 Tryz.func90 rfl rfl ?_
  simp only[Bool.and_eq_true,decide_eq_true_eq]at hc
  obtain⟨rfl,hc2⟩:=hc
  repeat (first|refine ah ?_|refine sat_nd ?_)
  exact ag (ai (.inr rfl) rfl rfl rfl (congrArg Bb (by
   show (aC f r (tk zs)&&!((tk zs).any norP))=_
   rw[aF];rfl)))
 ·cases e
def wF:CF
 |[.agg [.int .i64 _f,.int .i64 _r,.sl 0 0 len none],.fn 168 []],[.ints false .i8 zs]=>some (decide (len=zs.length)&&decide (zs.length<=1000000),.int .u64 (fo posP zs),[])
 |[.agg [.int .i64 _f,.int .i64 _r,.sl 0 0 len none],.fn 169 []],[.ints false .i8 zs]=>some (decide (len=zs.length)&&decide (zs.length<=1000000),.int .u64 (fo negP zs),[])
 |_,_=>none
theorem Bq:CtOk (GGx kCa kDb) PP (167,wF):=by
 refine aD Tryz.func167 (by kernel_rfl) rfl fun a0 h0 c0 v0 N0 e hc=>?_
 unfold wF at e
 split at e
 ·rename_i f r len zs
  cases e
  have hE:=aB (kCa:=kCa) (kDb:=kDb) (cts:=[(168,HO),(169,Hg)]) (inl:=[]) ⟨zG,zu,trivial⟩ trivial
  refine ak hE 2 Tryz.func167 rfl rfl ?_
  simp only[Bool.and_eq_true,decide_eq_true_eq]at hc
  obtain⟨rfl,hc2⟩:=hc
  repeat (first|refine ah ?_|refine sat_nd ?_)
  refine cx hE 2 (fun i (s:Int)=>([(1,.fn 168 []),(2,.ptr 1 0 0),(5,U s),(9,.sl 0 0 zs.length none),(10,I zs.length),(11,I i)],[.ints false .i8 zs,.cells true [I f,I r,.sl 0 0 zs.length none]])) zs.length (fun j s=>s=jN (gQ posP zs) 0 j) 0 (by omega) (Ent.ren [0,1] [1,2,5,9,10,11] rfl rfl rfl) rfl ?_
  intro j i s hij hj hz
  refine aq (fun hlt=>?_) (fun hlt=>?_)
  ·have hlt':j<zs.length:=by simp at hlt;omega
   have hs:gQ posP zs s i=jN (gQ posP zs) 0 (j+1):=by rw[hz,hij];rfl
   refine ae (by simp;omega) ?_
   repeat (first|refine ah ?_|refine sat_nd ?_)
   refine aq (fun hon=>?_) (fun hon=>?_)
   ·have hon:posP (zs.getD i.toNat 0)=true:=hon
    rw[gQ,hon,cond_true]at hs
    refine ae (by simp;omega) ?_
    exact ag ⟨hlt',_,hs,Ent.ren [0,1] [1,2,5,9,10,11] rfl rfl rfl⟩
   ·have hon:posP (zs.getD i.toNat 0)=false:=hon
    rw[gQ,hon,cond_false]at hs
    exact ag ⟨hlt',_,hs,Ent.ren [0,1] [1,2,5,9,10,11] rfl rfl rfl⟩
  ·obtain rfl:j=zs.length:=by simp at hlt;omega
   subst hz
   exact ag (ag (ai (.inr rfl) rfl rfl rfl rfl))
 ·rename_i f r len zs
  cases e
  have hE:=aB (kCa:=kCa) (kDb:=kDb) (cts:=[(168,HO),(169,Hg)]) (inl:=[]) ⟨zG,zu,trivial⟩ trivial
  refine ak hE 2 Tryz.func167 rfl rfl ?_
  simp only[Bool.and_eq_true,decide_eq_true_eq]at hc
  obtain⟨rfl,hc2⟩:=hc
  repeat (first|refine ah ?_|refine sat_nd ?_)
  refine cx hE 2 (fun i (s:Int)=>([(1,.fn 169 []),(2,.ptr 1 0 0),(5,U s),(9,.sl 0 0 zs.length none),(10,I zs.length),(11,I i)],[.ints false .i8 zs,.cells true [I f,I r,.sl 0 0 zs.length none]])) zs.length (fun j s=>s=jN (gQ negP zs) 0 j) 0 (by omega) (Ent.ren [0,1] [1,2,5,9,10,11] rfl rfl rfl) rfl ?_
  intro j i s hij hj hz
  refine aq (fun hlt=>?_) (fun hlt=>?_)
  ·have hlt':j<zs.length:=by simp at hlt;omega
   have hs:gQ negP zs s i=jN (gQ negP zs) 0 (j+1):=by rw[hz,hij];rfl
   refine ae (by simp;omega) ?_
   repeat (first|refine ah ?_|refine sat_nd ?_)
   refine aq (fun hon=>?_) (fun hon=>?_)
   ·have hon:negP (zs.getD i.toNat 0)=true:=hon
    rw[gQ,hon,cond_true]at hs
    refine ae (by simp;omega) ?_
    exact ag ⟨hlt',_,hs,Ent.ren [0,1] [1,2,5,9,10,11] rfl rfl rfl⟩
   ·have hon:negP (zs.getD i.toNat 0)=false:=hon
    rw[gQ,hon,cond_false]at hs
    exact ag ⟨hlt',_,hs,Ent.ren [0,1] [1,2,5,9,10,11] rfl rfl rfl⟩
  ·obtain rfl:j=zs.length:=by simp at hlt;omega
   subst hz
   exact ag (ag (ai (.inr rfl) rfl rfl rfl rfl))
 ·cases e
def oT:CF
 |[.agg [.int .i64 f,.int .i64 r,.sl 0 0 len none]],[.ints false .i8 zs]=>some (decide (len=zs.length)&&decide (zs.length<=1000000),.tup [U (eY f r zs).1,U (eY f r zs).2.1,I (eY f r zs).2.2],[])
 |_,_=>none
theorem kH:CtOk (GGx kCa kDb) PP (149,oT):=by
 refine aD Tryz.func149 (by kernel_rfl) rfl fun a0 h0 c0 v0 N0 e hc=>?_
 unfold oT at e
 split at e
 ·rename_i f r len zs
  cases e
  have hE:=aB (kCa:=kCa) (kDb:=kDb) (cts:=[(67,jK),(167,wF)]) (inl:=[]) ⟨iS,Bq,trivial⟩ trivial
  refine ak hE 2 Tryz.func149 rfl rfl ?_
  simp only[Bool.and_eq_true,decide_eq_true_eq]at hc
  obtain⟨rfl,hc2⟩:=hc
  repeat (first|refine ah ?_|refine sat_nd ?_)
  refine aq (fun h=>?_) (fun h=>?_)
  ·have h:aC f r zs=false:=by simpa using h
   exact ag (ai (.inr rfl) rfl rfl rfl (by rw[eY,h];rfl))
  ·have h:aC f r zs=true:=by simpa using h
   repeat (first|refine ah ?_|refine sat_nd ?_)
   refine ag (ai (.inr rfl) rfl rfl rfl ?_)
   show V.tup [U (fo posP (tk zs)),U (fo negP (tk zs)),I 0]=_
   rw[aF,eY,h];rfl
 ·cases e
def Ly:CF
 |[.agg [.int .i64 f,.int .i64 r,.sl 0 0 len none]],[.ints false .i8 zs]=>some (decide (len=zs.length)&&decide (zs.length<=1000000),.int .u64 (occR f r zs),[])
 |_,_=>none
theorem IP:CtOk (GGx kCa kDb) PP (104,Ly):=by
 refine aD Tryz.func104 (by kernel_rfl) rfl fun a0 h0 c0 v0 N0 e hc=>?_
 unfold Ly at e
 split at e
 ·rename_i f r len zs
  cases e
  have hE:=aB (kCa:=kCa) (kDb:=kDb) (cts:=[(149,oT)]) (inl:=[]) ⟨kH,trivial⟩ trivial
  refine ak hE 2 Tryz.func104 rfl rfl ?_
  simp only[Bool.and_eq_true,decide_eq_true_eq]at hc
  obtain⟨rfl,hc2⟩:=hc
  repeat (first|refine ah ?_|refine sat_nd ?_)
  refine ag (ai (.inr rfl) rfl rfl rfl ?_)
  show U (occR f r (tk zs))=_
  rw[aF]
 ·cases e
end
section
variable{kCa kDb:Bool}
abbrev w8(n:Int):Int:=IntKind.i8.wrap n
def isP(p:Int)(bl:Bool):Bool:=(decide (p<0)&&bl)||(decide (0<p)&&!bl)
def absP(p:Int):Int:=imax true p (w8 (0-p))
def ofR(f r:Int)(zs:List Int)(at_ all_:Int):Int:=bif decide (zs.getD at_.toNat 0=1)||decide (zs.getD at_.toNat 0=-1) then(gg f r (decide (zs.getD at_.toNat 0<0)) at_).1 else(cq f r (absP (zs.getD at_.toNat 0)) at_ all_).1
def KP:CF
 |[.int .i8 p,.bool bl],[]=>some (true,.bool (isP p bl),[])
 |_,_=>none
theorem GF:CtOk (GGx kCa kDb) PP (105,KP):=by
 refine aD Tryz.func105 (by kernel_rfl) rfl fun a0 h0 c0 v0 N0 e hc=>?_
 unfold KP at e
 split at e
 ·rename_i p bl
  cases e
  have hE:=aB (kCa:=kCa) (kDb:=kDb) (cts:=[]) (inl:=[]) trivial trivial
  refine ak hE 2 Tryz.func105 rfl rfl ?_
  repeat' first|(first|refine ah ?_|refine sat_nd ?_)|refine aq (fun h=>?_) (fun h=>?_)
  all_goals exact ag (ai (.inr rfl) rfl rfl rfl (by first|rfl|(simp only[*,cond_true,cond_false];done)|(simp only[*,cond_true,cond_false,Bool.not_true,Bool.not_false,Bool.and_true,Bool.true_and,Bool.and_false,Bool.false_and,Bool.or_true,Bool.true_or,Bool.or_false,Bool.false_or];done)|simp_all []))
 ·cases e
def c_of:CF
 |[.agg [.int .i64 f,.int .i64 r,.sl 0 0 len none],.int .i64 at_,.int .u64 all_],[.ints false .i8 zs]=>some (decide (len=zs.length)&&decide (zs.length<=64)&&decide (0<=at_)&&decide (at_<zs.length),.int .u64 (ofR f r zs at_ all_),[])
 |_,_=>none
theorem LA:CtOk (GGx kCa kDb) PP (106,c_of):=by
 refine aD Tryz.func106 (by kernel_rfl) rfl fun a0 h0 c0 v0 N0 e hc=>?_
 unfold c_of at e
 split at e
 ·rename_i f r len at_ all_ zs
  cases e
  have hE:=aB (kCa:=kCa) (kDb:=kDb) (cts:=[(153,vx),(154,oH)]) (inl:=[]) ⟨mR,kN,trivial⟩ trivial
  refine ak hE 2 Tryz.func106 rfl rfl ?_
  simp only[Bool.and_eq_true,decide_eq_true_eq]at hc
  obtain⟨⟨⟨rfl,hc2⟩,ha1⟩,ha2⟩:=hc
  repeat (first|refine ah ?_|refine sat_nd ?_)
  refine aq (fun h=>?_) (fun h=>?_)
  ·have h:decide (zs.getD at_.toNat 0=1)=true:=h
   refine cT h ?_
   repeat (first|refine ah ?_|refine sat_nd ?_)
   exact ag (ai (.inr rfl) rfl rfl rfl (by rw[ofR,h];rfl))
  have h:decide (zs.getD at_.toNat 0=1)=false:=h
  refine aq (fun h2=>?_) (fun h2=>?_)
  ·have h2:decide (zs.getD at_.toNat 0=-1)=true:=h2
   repeat (first|refine ah ?_|refine sat_nd ?_)
   exact ag (ai (.inr rfl) rfl rfl rfl (by rw[ofR,h,h2];rfl))
  have h2:decide (zs.getD at_.toNat 0=-1)=false:=h2
  repeat (first|refine ah ?_|refine sat_nd ?_)
  exact ag (ai (.inr rfl) rfl rfl rfl (by rw[ofR,h,h2];rfl))
 ·cases e
def attB(f r:Int)(zs:List Int)(at_:Int)(bl:Bool)(all_ i:Int):Bool:=isP (zs.getD i.toNat 0) bl&&decide (uand (ushr (ofR f r zs i all_) at_) 1=1)
def attS(f r:Int)(zs:List Int)(at_:Int)(bl:Bool)(all_ s i:Int):Int:=bif attB f r zs at_ bl all_ i then uor s (ushl 1 i)else s
def attR(f r:Int)(zs:List Int)(at_:Int)(bl:Bool):Int:=jN (attS f r zs at_ bl (occR f r zs)) 0 zs.length
def gp:CF
 |[.agg [.int .i64 f,.int .i64 r,.sl 0 0 len none],.int .i64 at_,.bool bl],[.ints false .i8 zs]=>some (decide (len=zs.length)&&decide (zs.length<=64)&&decide (0<=at_),.int .u64 (attR f r zs at_ bl),[])
 |_,_=>none
theorem iB:CtOk (GGx kCa kDb) PP (59,gp):=by
 refine aD Tryz.func59 (by kernel_rfl) rfl fun a0 h0 c0 v0 N0 e hc=>?_
 unfold gp at e
 split at e
 ·rename_i f r len at_ bl zs
  cases e
  have hE:=aB (kCa:=kCa) (kDb:=kDb) (cts:=[(104,Ly),(105,KP),(106,c_of)]) (inl:=[]) ⟨IP,GF,LA,trivial⟩ trivial
  refine ak hE 2 Tryz.func59 rfl rfl ?_
  simp only[Bool.and_eq_true,decide_eq_true_eq]at hc
  obtain⟨⟨rfl,hc2⟩,ha1⟩:=hc
  repeat (first|refine ah ?_|refine sat_nd ?_)
  refine cx hE 2 (fun i (s:Int)=>([(1,I at_),(2,Bb bl),(3,.ptr 1 0 0),(7,U s),(8,U (occR f r (tk zs))),(14,.sl 0 0 zs.length none),(15,I zs.length),(16,I i)],[.ints false .i8 zs,.cells true [I f,I r,.sl 0 0 zs.length none]])) zs.length (fun j s=>s=jN (attS f r zs at_ bl (occR f r zs)) 0 j) 0 (by omega) (Ent.ren [0,1] [1,2,3,7,8,14,15,16] rfl rfl rfl) rfl ?_
  intro j i s hij hj hz
  refine aq (fun hlt=>?_) (fun hlt=>?_)
  ·have hlt':j<zs.length:=by simp at hlt;omega
   have hs:attS f r zs at_ bl (occR f r zs) s i=jN (attS f r zs at_ bl (occR f r zs)) 0 (j+1):=by rw[hz,hij];rfl
   refine ae (by simp;omega) ?_
   repeat (first|(first|refine ah ?_|refine sat_nd ?_)|refine ae (by rw[decide_eq_true ha1];exact Bool.or_true _) ?_|refine ae (by simp;right;omega) ?_)
   refine aq (fun hon=>?_) (fun hon=>?_)
   ·have hon:(isP (zs.getD i.toNat 0) bl&&decide (uand (ushr (ofR f r (tk zs) i (occR f r (tk zs))) at_) 1=1))=true:=hon
    rw[aF]at hon
    have hon:attB f r zs at_ bl (occR f r zs) i=true:=hon
    rw[attS,hon,cond_true]at hs
    refine ae (by simp;omega) ?_
    exact ag ⟨hlt',_,hs,Ent.ren [0,1] [1,2,3,7,8,14,15,16] rfl rfl rfl⟩
   ·have hon:(isP (zs.getD i.toNat 0) bl&&decide (uand (ushr (ofR f r (tk zs) i (occR f r (tk zs))) at_) 1=1))=false:=hon
    rw[aF]at hon
    have hon:attB f r zs at_ bl (occR f r zs) i=false:=hon
    rw[attS,hon,cond_false]at hs
    exact ag ⟨hlt',_,hs,Ent.ren [0,1] [1,2,3,7,8,14,15,16] rfl rfl rfl⟩
  ·obtain rfl:j=zs.length:=by simp at hlt;omega
   subst hz
   exact ag (ag (ai (.inr rfl) rfl rfl rfl rfl))
 ·cases e
end
end Go.Ab
namespace Go.Ab
open IntKind
open Go.Proofs
section
variable{kCa kDb:Bool}
theorem bh{f r:Int}{zs:List Int}(h:aV f r zs=true):vsB f r=true/\(zs.length:Int)=f*r/\aC f r zs=true/\(∀ p∈zs,-6<=p/\p<=6):=by
 simp only[aV,Bool.and_eq_true,Bool.not_eq_true',List.any_eq_false]at h
 obtain⟨h1,h2⟩:=h
 have h1':=h1
 simp only[aC,Bool.and_eq_true,decide_eq_true_eq]at h1
 obtain⟨⟨h3,h4⟩,_⟩:=h1
 have hv:vsB f r=true:=by
  cases hv:vsB f r with
  |true=>rfl
  |false=>rw[cntR,hv]at h3;simp at h3
 rw[cntR,hv,cond_true]at h4
 refine⟨hv,by rw[h4];exact eP hv,h1',fun p hp=>?_⟩
 have:=h2 p hp
 simp only[norP,orP,Bool.and_eq_true,Bool.not_eq_true',decide_eq_false_iff_not,Bool.and_eq_false_iff,not_and]at this
 by_cases e:p=0
 ·omega
 ·have:=this e
  simp[e]at this
  omega
theorem FR{f r n:Int}{zs:List Int}(h:aV f r zs=true):aj f r n=true↔0<=n/\n<zs.length:=by
 obtain⟨h1,h2,_⟩:=bh h
 rw[h2]
 exact⟨fun h=>⟨(aL h).1,(aL h).2.1⟩,fun h=>qy h1 h.1 h.2⟩
def isV(v p:Int):Bool:=decide (v=p)
theorem uy{K:Int}{n:Nat}(h1:-1<=K)(h2:K<n)(hn:n<=64):(!!decide (K<0)||(decide (0<=i64.wrap (K+1))&&decide (i64.wrap (K+1)<=n)&&decide ((n:Int)<=n)))=true:=by
 rw[ay (by omega) (by omega)]
 simp
 omega
theorem uW{g:Bool}{zs:List Int}{a m:Nat}(h:m=zs.length)(hn:zs.length<=64):(!g||(decide (m-a=((zs.drop a).take (m-a)).length)&&decide (((zs.drop a).take (m-a)).length<=1000000)))=true:=by
 subst h
 rw[List.take_of_length_le (by simp),List.length_drop]
 have:zs.length-a<=1000000:=by omega
 simp[this]
theorem js{zs:List Int}{v:Int}{b:Bool}(h:(decide (cP (isV v) (tk zs) 0<0)||((zs.drop (i64.wrap (cP (isV v) (tk zs) 0+1)).toNat).take ((zs.length:Int).toNat-(i64.wrap (cP (isV v) (tk zs) 0+1)).toNat)).any (isV v))=b):(decide (cP (isV v) zs 0<0)||(zs.drop (i64.wrap (cP (isV v) zs 0+1)).toNat).any (isV v))=b:=by
 rw[aF]at h
 rwa [List.take_of_length_le (by simp)]at h
def dA(f r:Int)(zs:List Int)(at_:Int)(bl:Bool):Int×Int:=bif aV f r zs&&aj f r at_ then(attR f r zs at_ bl,0) else(0,2)
def kgP(bl:Bool):Int:=bif bl then -6 else 6
def gB(zs:List Int)(bl:Bool):Int:=cP (isV (kgP bl)) zs 0
def mW(zs:List Int)(bl:Bool):Bool:=decide (gB zs bl<0)||(zs.drop (i64.wrap (gB zs bl+1)).toNat).any (isV (kgP bl))
def bT(f r:Int)(zs:List Int)(bl:Bool):Int×Int:=bif aV f r zs then(bif mW zs bl then(0,9) else(gB zs bl,0)) else(0,2)
def bH(f r:Int)(zs:List Int)(bl:Bool):Int×Int:=bif decide ((bT f r zs bl).2=0) then(attR f r zs (bT f r zs bl).1 (!bl),0) else(0,(bT f r zs bl).2)
theorem mo(p:Int->Bool):∀ (l:List Int) (k:Int),0<=k->-1<=cP p l k/\cP p l k<k+l.length
 |[],k,_=>by simp[cP];omega
 |x::l,k,h=>by
  have:=mo p l (k+1) (by omega)
  rw[cP]
  cases p x<;>simp<;>omega
theorem LG{f r:Int}{zs:List Int}{bl:Bool}(h:(bT f r zs bl).2=0):aV f r zs=true/\mW zs bl=false/\(bT f r zs bl).1=gB zs bl/\0<=gB zs bl/\gB zs bl<zs.length:=by
 unfold bT at h ⊢
 cases ho:aV f r zs with
 |false=>rw[ho]at h;simp at h
 |true=>
  cases hn:mW zs bl with
  |true=>rw[ho,hn]at h;simp at h
  |false=>
   have hb:=mo (isV (kgP bl)) zs 0 (by omega)
   simp only[mW,Bool.or_eq_false_iff,decide_eq_false_iff_not]at hn
   refine⟨rfl,rfl,rfl,by omega,?_⟩
   unfold gB;omega
def iI:CF
 |[.agg [.int .i64 f,.int .i64 r,.sl 0 0 len none],.int .i64 at_,.bool bl],[.ints false .i8 zs]=>some (decide (len=zs.length)&&decide (zs.length<=64),.tup [U (dA f r zs at_ bl).1,I (dA f r zs at_ bl).2],[])
 |_,_=>none
theorem oX:CtOk (GGx kCa kDb) PP (117,iI):=by
 refine aD Tryz.func117 (by kernel_rfl) rfl fun a0 h0 c0 v0 N0 e hc=>?_
 unfold iI at e
 split at e
 ·rename_i f r len at_ bl zs
  cases e
  have hE:=aB (kCa:=kCa) (kDb:=kDb) (cts:=[(90,yD),(101,eN),(59,gp)]) (inl:=[]) ⟨tB,cW,iB,trivial⟩ trivial
  refine ak hE 2 Tryz.func117 rfl rfl ?_
  simp only[Bool.and_eq_true,decide_eq_true_eq]at hc
  obtain⟨rfl,hc2⟩:=hc
  repeat (first|refine ah ?_|refine sat_nd ?_)
  refine aq (fun h=>?_) (fun h=>?_)
  ·have h:(aV f r zs&&aj f r at_)=false:=by
    have h:(!aV f r (tk zs)||!aj f r at_)=true:=h
    rw[aF]at h
    cases h1:aV f r zs<;>cases h2:aj f r at_<;>simp_all
   exact ag (ai (.inr rfl) rfl rfl rfl (by rw[dA,h];rfl))
  ·have h:(aV f r zs&&aj f r at_)=true:=by
    have h:(!aV f r (tk zs)||!aj f r at_)=false:=h
    rw[aF]at h
    cases h1:aV f r zs<;>cases h2:aj f r at_<;>simp_all
   have h0:=(aL (Bool.and_eq_true_iff.1 h).2).1
   refine ae (by simp;omega) ?_
   exact ag (ai (.inr rfl) rfl rfl rfl (by
    show V.tup [U (attR f r (tk zs) at_ bl),I 0]=_
    rw[aF,dA,h];rfl))
 ·cases e
def rS:CF
 |[.sl 0 0 len none,.int .i8 v],[.ints false .i8 zs]=>some (decide (len=zs.length)&&decide (zs.length<=1000000),.int .i64 (cP (isV v) zs 0),[])
 |_,_=>none
theorem qa:CtOk (GGx kCa kDb) PP (91,rS):=by
 refine aD Tryz.func91 (by kernel_rfl) rfl fun a0 h0 c0 v0 N0 e hc=>?_
 unfold rS at e
 split at e
 ·rename_i len v zs
  cases e
  have hE:=aB (kCa:=kCa) (kDb:=kDb) (cts:=[]) (inl:=[]) trivial trivial
  refine ak hE 2 Tryz.func91 rfl rfl ?_
  simp only[Bool.and_eq_true,decide_eq_true_eq]at hc
  obtain⟨rfl,hc2⟩:=hc
  refine cx hE 2 (fun i (_:Unit)=>([(0,.sl 0 0 zs.length none),(1,.int .i8 v),(7,I zs.length),(8,I i)],[.ints false .i8 zs])) zs.length (fun j _=>cP (isV v) (zs.drop j) j=cP (isV v) zs 0) () (by omega) (Ent.ren [0] [0,1,7,8] rfl rfl rfl) rfl ?_
  intro j i _ hij hj hz
  refine aq (fun hlt=>?_) (fun hlt=>?_)
  ·have hlt':j<zs.length:=by simp at hlt;omega
   rw[sW hlt',show j=i.toNat by omega]at hz
   refine ae (by simp;omega) ?_
   repeat (first|refine ah ?_|refine sat_nd ?_)
   refine aq (fun hon=>?_) (fun hon=>?_)
   ·have hon:isV v (zs.getD i.toNat 0)=true:=hon
    rw[hon,cond_true]at hz
    refine ag (ag (ai (.inr rfl) rfl rfl rfl (by rw[<-hz];exact congrArg (V.int i64) (by omega))))
   ·have hon:isV v (zs.getD i.toNat 0)=false:=hon
    rw[hon,cond_false]at hz
    exact ag ⟨hlt',(),by rw[<-hz,show i.toNat=j by omega];push_cast;rfl,Ent.ren [0] [0,1,7,8] rfl rfl rfl⟩
  ·obtain rfl:j=zs.length:=by simp at hlt;omega
   rw[List.drop_length]at hz
   exact ag (ag (ai (.inr rfl) rfl rfl rfl (by rw[<-hz];rfl)))
 ·cases e
def gS:CF
 |[.sl 0 0 len none,.int .i8 v],[.ints false .i8 zs]=>some (decide (len=zs.length)&&decide (zs.length<=1000000),.bool (zs.any (isV v)),[])
 |_,_=>none
theorem ja:CtOk (GGx kCa kDb) PP (92,gS):=by
 refine aD Tryz.func92 (by kernel_rfl) rfl fun a0 h0 c0 v0 N0 e hc=>?_
 unfold gS at e
 split at e
 ·rename_i len v zs
  cases e
  have hE:=aB (kCa:=kCa) (kDb:=kDb) (cts:=[(91,rS)]) (inl:=[]) ⟨qa,trivial⟩ trivial
  refine ak hE 2 Tryz.func92 rfl rfl ?_
  simp only[Bool.and_eq_true,decide_eq_true_eq]at hc
  obtain⟨rfl,hc2⟩:=hc
  refine ae (by simp;omega) ?_
  exact ag (ai (.inr rfl) rfl rfl rfl (congrArg Bb (by
   show decide (0<=cP (isV v) (tk zs) 0)=_
   rw[aF];exact rG (isV v) zs 0 (by omega))))
 ·cases e
def vq:CF
 |[.agg [.int .i64 f,.int .i64 r,.sl 0 0 len none],.bool bl],[.ints false .i8 zs]=>some (decide (len=zs.length)&&decide (zs.length<=64),.tup [I (bT f r zs bl).1,I (bT f r zs bl).2],[])
 |_,_=>none
theorem nB:CtOk (GGx kCa kDb) PP (49,vq):=by
 refine aD Tryz.func49 (by kernel_rfl) rfl fun a0 h0 c0 v0 N0 e hc=>?_
 unfold vq at e
 split at e
 ·rename_i f r len bl zs
  cases e
  have hE:=aB (kCa:=kCa) (kDb:=kDb) (cts:=[(90,yD),(91,rS),(92,gS)]) (inl:=[]) ⟨tB,qa,ja,trivial⟩ trivial
  refine ak hE 2 Tryz.func49 rfl rfl ?_
  simp only[Bool.and_eq_true,decide_eq_true_eq]at hc
  obtain⟨rfl,hc2⟩:=hc
  repeat (first|refine ah ?_|refine sat_nd ?_)
  refine aq (fun h=>?_) (fun h=>?_)
  ·have h:aV f r zs=false:=by simpa using h
   exact ag (ai (.inr rfl) rfl rfl rfl (by rw[bT,h];rfl))
  have h:aV f r zs=true:=by simpa using h
  refine aq (fun hb=>?_) (fun hb=>?_)
  ·subst hb
   have hbd:=mo (isV (kgP true)) zs 0 (by omega)
   repeat (first|refine ah ?_|refine sat_nd ?_)
   refine ae (by
    refine uy (K:=cP (isV (kgP true)) (tk zs) 0) ?_ ?_ hc2
    ·rw[aF];exact hbd.1
    ·rw[aF];have:=hbd.2;omega) ?_
   repeat (first|(first|refine ah ?_|refine sat_nd ?_)|refine ae (uW rfl hc2) ?_)
   refine aq (fun hk=>?_) (fun hk=>?_)
   ·have hk:=js (zs:=zs) (v:=kgP true) hk
    exact ag (ai (.inr rfl) rfl rfl rfl (by rw[bT,h,show mW zs true=true from hk];rfl))
   ·have hk:=js (zs:=zs) (v:=kgP true) hk
    exact ag (ai (.inr rfl) rfl rfl rfl (by
     show V.tup [I (cP (isV (kgP true)) (tk zs) 0),I 0]=_
     rw[aF,bT,h,show mW zs true=false from hk];rfl))
  ·subst hb
   have hbd:=mo (isV (kgP false)) zs 0 (by omega)
   repeat (first|refine ah ?_|refine sat_nd ?_)
   refine ae (by
    refine uy (K:=cP (isV (kgP false)) (tk zs) 0) ?_ ?_ hc2
    ·rw[aF];exact hbd.1
    ·rw[aF];have:=hbd.2;omega) ?_
   repeat (first|(first|refine ah ?_|refine sat_nd ?_)|refine ae (uW rfl hc2) ?_)
   refine aq (fun hk=>?_) (fun hk=>?_)
   ·have hk:=js (zs:=zs) (v:=kgP false) hk
    exact ag (ai (.inr rfl) rfl rfl rfl (by rw[bT,h,show mW zs false=true from hk];rfl))
   ·have hk:=js (zs:=zs) (v:=kgP false) hk
    exact ag (ai (.inr rfl) rfl rfl rfl (by
     show V.tup [I (cP (isV (kgP false)) (tk zs) 0),I 0]=_
     rw[aF,bT,h,show mW zs false=false from hk];rfl))
 ·cases e
def fL:CF
 |[.agg [.int .i64 f,.int .i64 r,.sl 0 0 len none],.bool bl],[.ints false .i8 zs]=>some (decide (len=zs.length)&&decide (zs.length<=64),.tup [U (bH f r zs bl).1,I (bH f r zs bl).2],[])
 |_,_=>none
theorem gj:CtOk (GGx kCa kDb) PP (28,fL):=by
 refine aD Tryz.func28 (by kernel_rfl) rfl fun a0 h0 c0 v0 N0 e hc=>?_
 unfold fL at e
 split at e
 ·rename_i f r len bl zs
  cases e
  have hE:=aB (kCa:=kCa) (kDb:=kDb) (cts:=[(49,vq),(59,gp)]) (inl:=[]) ⟨nB,iB,trivial⟩ trivial
  refine ak hE 2 Tryz.func28 rfl rfl ?_
  simp only[Bool.and_eq_true,decide_eq_true_eq]at hc
  obtain⟨rfl,hc2⟩:=hc
  repeat (first|refine ah ?_|refine sat_nd ?_)
  refine aq (fun h=>?_) (fun h=>?_)
  ·have h:decide ((bT f r zs bl).2=0)=false:=by simpa using h
   exact ag (ai (.inr rfl) rfl rfl rfl (by
    show V.tup [U 0,I (bT f r (tk zs) bl).2]=_
    rw[aF,bH,h];rfl))
  have h:decide ((bT f r zs bl).2=0)=true:=by simpa using h
  obtain⟨_,_,k3,k4,k5⟩:=LG (of_decide_eq_true h)
  refine ae (by
   have e:(bT f r (tk zs) bl).1=gB zs bl:=by rw[aF,k3]
   rw[e];simp;omega) ?_
  exact ag (ai (.inr rfl) rfl rfl rfl (by
   show V.tup [U (attR f r (tk zs) (bT f r (tk zs) bl).1 (!bl)),I 0]=_
   rw[aF,bH,h];rfl))
 ·cases e
end
end Go.Ab
set_option maxHeartbeats 4000000
namespace Go.Ab
open IntKind
open Go.Proofs
section
variable{kCa kDb:Bool}
structure Psn where
 f:Int
 r:Int
 zs:List Int
 bl:Bool
 ca:Int
 pa:Int
 ha:Int
 fu:Int
structure Mov where
 a:Int
 b:Int
 p:Int
structure Und where
 m:Mov
 c:Int
 at_:Int
 ca:Int
 pa:Int
 ha:Int
 fu:Int
abbrev cw(a b:Int):Int:=band .and .u8 a b
def ofP(k:Int)(b:Bool):Int:=bif b then w8 (0-k)else k
def mvB(f r a b p:Int):Bool:=aj f r a&&aj f r b&&!decide (a=b)&&(decide (p=0)||(decide (2<=p)&&decide (p<=5)))
def is88(f r:Int):Bool:=decide (f=8)&&decide (r=8)
def rtX(f r:Int)(zs:List Int)(ca bit:Int)(k q:Nat)(b:Bool):Bool:=!decide (cw ca bit=0)&&((!is88 f r||!decide (zs.getD k 0=ofP 6 b))||!decide (zs.getD q 0=ofP 4 b))
def eD(f r:Int)(zs:List Int)(ca:Int):Bool:=!rtX f r zs ca 1 4 7 false&&!rtX f r zs ca 2 4 0 false&&!rtX f r zs ca 4 60 63 true&&!rtX f r zs ca 8 60 56 true&&decide (ca<16)
def upP(f:Int)(bl:Bool):Int:=bif bl then f else i64.wrap (0-f)
def rkP(r:Int)(bl:Bool):Int:=bif bl then 2 else i64.wrap (r-3)
def iQ(f r:Int)(zs:List Int)(bl:Bool)(pa ha:Int):Bool:=decide (pa=-1) ||
 (decide (6<=r)&&decide (ha=0)&&aj f r pa&&decide (i64.wrap (pa.tdiv f)=rkP r bl)&&decide (zs.getD pa.toNat 0=0)&&decide (zs.getD (i64.wrap (pa-upP f bl)).toNat 0=0)&&decide (zs.getD (i64.wrap (pa+upP f bl)).toNat 0=ofP 1 (!bl)))
def je(f:Int)(zs:List Int):Bool:=!(zs.drop (zs.length-f.toNat)).any (isV 1)&&!(zs.take f.toNat).any (isV (-1))
def eF(f r:Int)(zs:List Int)(bl:Bool):Bool:=decide ((bT f r zs bl).2=0)&&decide ((bH f r zs (!bl)).2=0)&&decide ((bH f r zs (!bl)).1=0)
def cntB(ha fu:Int):Bool:=decide (0<=ha)&&decide (ha<=10000)&&decide (1<=fu)&&decide (fu<=10000)
def Psn.ok(p:Psn):Bool:=aC p.f p.r p.zs&&eF p.f p.r p.zs p.bl&&je p.f p.zs&&eD p.f p.r p.zs p.ca&&iQ p.f p.r p.zs p.bl p.pa p.ha&&cntB p.ha p.fu
theorem bg{f r:Int}{zs:List Int}(h:aC f r zs=true):vsB f r=true/\(zs.length:Int)=f*r:=by
 simp only[aC,Bool.and_eq_true,decide_eq_true_eq]at h
 obtain⟨⟨h1,h2⟩,_⟩:=h
 unfold cntR at h1 h2
 cases hv:vsB f r with
 |false=>rw[hv]at h1;simp at h1
 |true=>rw[hv]at h2;exact⟨rfl,by rw[cond_true]at h2;rw[h2];exact eP hv⟩
theorem bN{f r n:Int}{zs:List Int}(h:aC f r zs=true):aj f r n=true↔0<=n/\n<zs.length:=by
 obtain⟨h1,h2⟩:=bg h
 rw[h2]
 exact⟨fun h=>⟨(aL h).1,(aL h).2.1⟩,fun h=>qy h1 h.1 h.2⟩
theorem rN{f r:Int}{zs:List Int}(h:aC f r zs=true)(h8:is88 f r=true):zs.length=64:=by
 have:=(bg h).2
 simp only[is88,Bool.and_eq_true,decide_eq_true_eq]at h8
 obtain⟨rfl,rfl⟩:=h8
 omega
def Jk:CF
 |[.int .i8 k,.bool b],[]=>some (true,.int .i8 (ofP k b),[])
 |_,_=>none
theorem Af:CtOk (GGx kCa kDb) PP (131,Jk):=by
 refine aD Tryz.func131 (by kernel_rfl) rfl fun a0 h0 c0 v0 N0 e hc=>?_
 unfold Jk at e
 split at e
 ·rename_i k b
  cases e
  have hE:=aB (kCa:=kCa) (kDb:=kDb) (cts:=[]) (inl:=[]) trivial trivial
  refine ak hE 2 Tryz.func131 rfl rfl ?_
  repeat' first|(first|refine ah ?_|refine sat_nd ?_)|refine aq (fun h=>?_) (fun h=>?_)
  all_goals exact ag (ai (.inr rfl) rfl rfl rfl (by first|rfl|(simp only[ofP, *,cond_true,cond_false];done)|(simp only[ofP, *,cond_true,cond_false,Bool.not_true,Bool.not_false,Bool.and_true,Bool.true_and,Bool.and_false,Bool.false_and,Bool.or_true,Bool.true_or,Bool.or_false,Bool.false_or];done)|simp_all [ofP]))
 ·cases e
theorem AW:pz { (EE kCa kDb [] [])with pf:=nu (EE kCa kDb [] []) [] 1000 4,cc:=true } 3 1000 Tryz.f130 [] []=some (.agg [.int .u8 1,.str [75],.lit false,I 4,I 7,.int .u8 2,.str [81],.lit false,I 4,I 0,.int .u8 4,.str [107],.lit true,I 60,I 63,.int .u8 8,.str [113],.lit true,I 60,I 56],[]):=by kernel_rfl
def rD:CF
 |[],[]=>some (true,.agg [.int .u8 1,.str [75],.lit false,I 4,I 7,.int .u8 2,.str [81],.lit false,I 4,I 0,.int .u8 4,.str [107],.lit true,I 60,I 63,.int .u8 8,.str [113],.lit true,I 60,I 56],[])
 |_,_=>none
theorem xj:CtOk (GGx kCa kDb) PP (130,rD):=by
 refine aD Tryz.func130 (by kernel_rfl) rfl fun a0 h0 c0 v0 N0 e hc=>?_
 unfold rD at e
 split at e
 ·cases e
  exact aJ.like (pG (aB (kCa:=kCa) (kDb:=kDb) (cts:=[]) (inl:=[]) trivial trivial) (xs:=[]) trivial 1000 4 Tryz.func130 AW) (fun _ _ h=>h)
 ·cases e
def rh:CF
 |[.agg [.int .i64 f,.int .i64 r],.agg [.int .i64 a,.int .i64 b,.int .i8 pr]],[]=>some (true,.bool (mvB f r a b pr),[])
 |_,_=>none
theorem vY:CtOk (GGx kCa kDb) PP (111,rh):=by
 refine aD Tryz.func111 (by kernel_rfl) rfl fun a0 h0 c0 v0 N0 e hc=>?_
 unfold rh at e
 split at e
 ·rename_i f r a b pr
  cases e
  have hE:=aB (kCa:=kCa) (kDb:=kDb) (cts:=[(101,eN)]) (inl:=[]) ⟨cW,trivial⟩ trivial
  refine ak hE 2 Tryz.func111 rfl rfl ?_
  repeat (first|refine ah ?_|refine sat_nd ?_)
  exact ag (ai (.inr rfl) rfl rfl rfl rfl)
 ·cases e
def uD:CF
 |[.int .i8 p],[]=>some (true,.int .i8 (absP p),[])
 |_,_=>none
theorem nQ:CtOk (GGx kCa kDb) PP (115,uD):=by
 refine aD Tryz.func115 (by kernel_rfl) rfl fun a0 h0 c0 v0 N0 e hc=>?_
 unfold uD at e
 split at e
 ·rename_i p
  cases e
  have hE:=aB (kCa:=kCa) (kDb:=kDb) (cts:=[]) (inl:=[]) trivial trivial
  refine ak hE 2 Tryz.func115 rfl rfl ?_
  exact ag (ai (.inr rfl) rfl rfl rfl rfl)
 ·cases e
def c_is:CF
 |[.int .i8 p,.bool b],[]=>some (true,.bool (isP p b),[])
 |_,_=>none
theorem Kn:CtOk (GGx kCa kDb) PP (112,c_is):=by
 refine aD Tryz.func112 (by kernel_rfl) rfl fun a0 h0 c0 v0 N0 e hc=>?_
 unfold c_is at e
 split at e
 ·rename_i p b
  cases e
  have hE:=aB (kCa:=kCa) (kDb:=kDb) (cts:=[]) (inl:=[]) trivial trivial
  refine ak hE 2 Tryz.func112 rfl rfl ?_
  repeat (first|refine ah ?_|refine sat_nd ?_)
  exact ag (ai (.inr rfl) rfl rfl rfl rfl)
 ·cases e
theorem Al{f r:Int}{zs:List Int}{g:Bool}{k:Int}(h:aC f r zs=true)(h0:0<=k)(h1:k<64):(!(g&&!!is88 f r)||(decide (0<=k)&&decide (k<zs.length)))=true:=by
 cases h8:is88 f r with
 |false=>simp
 |true=>have:=rN h h8;simp;omega
theorem ri{f r:Int}{zs:List Int}{g x:Bool}{k:Int}(h:aC f r zs=true)(h0:0<=k)(h1:k<64):(!(g&&!(!is88 f r||x))||(decide (0<=k)&&decide (k<zs.length)))=true:=by
 cases h8:is88 f r with
 |false=>simp
 |true=>have:=rN h h8;simp;omega
def ld:CF
 |[.agg [.int .i64 f,.int .i64 r,.sl 0 0 len none,.bool _bl,.int .u8 ca,.int .i64 _pa,.int .i64 _ha,.int .i64 _fu]],[.ints false .i8 zs]=>some (decide (len=zs.length)&&decide (zs.length<=64)&&aC f r zs,.bool (eD f r zs ca),[])
 |_,_=>none
theorem qJ:CtOk (GGx kCa kDb) PP (73,ld):=by
 refine aD Tryz.func73 (by kernel_rfl) rfl fun a0 h0 c0 v0 N0 e hc=>?_
 unfold ld at e
 split at e
 ·rename_i f r len bl ca pa ha fu zs
  cases e
  have hE:=aB (kCa:=kCa) (kDb:=kDb) (cts:=[(130,rD),(131,Jk)]) (inl:=[]) ⟨xj,Af,trivial⟩ trivial
  refine ak hE 2 Tryz.func73 rfl rfl ?_
  simp only[Bool.and_eq_true,decide_eq_true_eq]at hc
  obtain⟨⟨rfl,hc2⟩,hbd⟩:=hc
  repeat (first|refine ah ?_|refine sat_nd ?_)
  refine dB hE 2 5 ?_
  refine rnd ?_
  refine cT (by rfl) ?_
  repeat (first|(first|refine ah ?_|refine sat_nd ?_)|refine ae (Al hbd (by omega) (by omega)) ?_|refine ae (ri hbd (by omega) (by omega)) ?_)
  refine aq (fun h0=>?_) (fun h0=>?_)
  ·have h0:rtX f r zs ca 1 4 7 false=true:=h0
   exact ag (ag (ai (.inr rfl) rfl rfl rfl (by simp[eD,h0])))
  have h0:rtX f r zs ca 1 4 7 false=false:=h0
  refine ag ⟨[(1,.ptr 1 0 0),(5,.agg [.int .u8 1,.str [75],.lit false,I 4,I 7,.int .u8 2,.str [81],.lit false,I 4,I 0,.int .u8 4,.str [107],.lit true,I 60,I 63,.int .u8 8,.str [113],.lit true,I 60,I 56]),(6,I 1)],[.ints false .i8 zs,.cells true [I f,I r,.sl 0 0 zs.length none,Bb bl,.int .u8 ca,I pa,I ha,I fu]],Ent.ren [0,1] [1,5,6] rfl rfl rfl,?_⟩
  refine rnd ?_
  refine cT (by rfl) ?_
  repeat (first|(first|refine ah ?_|refine sat_nd ?_)|refine ae (Al hbd (by omega) (by omega)) ?_|refine ae (ri hbd (by omega) (by omega)) ?_)
  refine aq (fun h1=>?_) (fun h1=>?_)
  ·have h1:rtX f r zs ca 2 4 0 false=true:=h1
   exact ag (ag (ai (.inr rfl) rfl rfl rfl (by simp[eD,h1])))
  have h1:rtX f r zs ca 2 4 0 false=false:=h1
  refine ag ⟨[(1,.ptr 1 0 0),(5,.agg [.int .u8 1,.str [75],.lit false,I 4,I 7,.int .u8 2,.str [81],.lit false,I 4,I 0,.int .u8 4,.str [107],.lit true,I 60,I 63,.int .u8 8,.str [113],.lit true,I 60,I 56]),(6,I 2)],[.ints false .i8 zs,.cells true [I f,I r,.sl 0 0 zs.length none,Bb bl,.int .u8 ca,I pa,I ha,I fu]],Ent.ren [0,1] [1,5,6] rfl rfl rfl,?_⟩
  refine rnd ?_
  refine cT (by rfl) ?_
  repeat (first|(first|refine ah ?_|refine sat_nd ?_)|refine ae (Al hbd (by omega) (by omega)) ?_|refine ae (ri hbd (by omega) (by omega)) ?_)
  refine aq (fun h2=>?_) (fun h2=>?_)
  ·have h2:rtX f r zs ca 4 60 63 true=true:=h2
   exact ag (ag (ai (.inr rfl) rfl rfl rfl (by simp[eD,h2])))
  have h2:rtX f r zs ca 4 60 63 true=false:=h2
  refine ag ⟨[(1,.ptr 1 0 0),(5,.agg [.int .u8 1,.str [75],.lit false,I 4,I 7,.int .u8 2,.str [81],.lit false,I 4,I 0,.int .u8 4,.str [107],.lit true,I 60,I 63,.int .u8 8,.str [113],.lit true,I 60,I 56]),(6,I 3)],[.ints false .i8 zs,.cells true [I f,I r,.sl 0 0 zs.length none,Bb bl,.int .u8 ca,I pa,I ha,I fu]],Ent.ren [0,1] [1,5,6] rfl rfl rfl,?_⟩
  refine rnd ?_
  refine cT (by rfl) ?_
  repeat (first|(first|refine ah ?_|refine sat_nd ?_)|refine ae (Al hbd (by omega) (by omega)) ?_|refine ae (ri hbd (by omega) (by omega)) ?_)
  refine aq (fun h3=>?_) (fun h3=>?_)
  ·have h3:rtX f r zs ca 8 60 56 true=true:=h3
   exact ag (ag (ai (.inr rfl) rfl rfl rfl (by simp[eD,h3])))
  have h3:rtX f r zs ca 8 60 56 true=false:=h3
  refine ag ⟨[(1,.ptr 1 0 0),(5,.agg [.int .u8 1,.str [75],.lit false,I 4,I 7,.int .u8 2,.str [81],.lit false,I 4,I 0,.int .u8 4,.str [107],.lit true,I 60,I 63,.int .u8 8,.str [113],.lit true,I 60,I 56]),(6,I 4)],[.ints false .i8 zs,.cells true [I f,I r,.sl 0 0 zs.length none,Bb bl,.int .u8 ca,I pa,I ha,I fu]],Ent.ren [0,1] [1,5,6] rfl rfl rfl,?_⟩
  refine rnd ?_
  refine vy (by rfl) ?_
  refine ag (ag (ai (.inr rfl) rfl rfl rfl (by simp[eD,h0,h1,h2,h3])))
 ·cases e
end
end Go.Ab
