/- Contracts of the functions that the laws reach, and plain laws of what they compute (text G7); no condition. -/
import Derived.Test.YtppdngemnbflmaaGreatDoorG5
import Derived.Test.YtppdngemnbflmaaGreatDoorG3
set_option maxRecDepth 100000
namespace Go.Ab
open Go.Proofs
section
variable{kCa kDb:Bool}
def CJ(n:Int):Bool:=decide (3<=n)&&decide (n<=8)
def vsB(f r:Int):Bool:=CJ f&&CJ r
def onB(f r x y:Int):Bool:=decide (0<=x)&&decide (x<f)&&decide (0<=y)&&decide (y<r)
def ai(f r n:Int):Bool:=vsB f r&&decide (0<=n)&&decide (n<IntKind.i64.wrap (f*r))
def atR(f r x y:Int):Int×Int:=bif vsB f r then(bif onB f r x y then(IntKind.i64.wrap (x+IntKind.i64.wrap (y*f)),0) else(0,3)) else(0,2)
def aO(f r n:Int):Int×Int×Int:=bif ai f r n then(n.tmod f,IntKind.i64.wrap (n.tdiv f),0) else(0,0,2)
def CG:CF
 |[.int .i64 n],[]=>some (true,.bool (CJ n),[])
 |_,_=>none
theorem AI:CtOk (GGx kCa kDb) PP (130,CG):=by
 refine aE Tryz.func130 (by kernel_rfl) rfl fun a0 h0 c0 v0 N0 e hc=>?_
 unfold CG at e
 split at e
 ·rename_i n
  cases e
  have hE:=aC (kCa:=kCa) (kDb:=kDb) (cts:=[]) (inl:=[]) trivial trivial
  refine av hE 2 Tryz.func130 rfl rfl ?_
  repeat (first|refine ah ?_|refine sat_nd ?_)
  exact ae (aj (.inr rfl) rfl rfl rfl rfl)
 ·cases e
def c_vs:CF
 |[.agg [.int .i64 f,.int .i64 r]],[]=>some (true,.bool (vsB f r),[])
 |_,_=>none
theorem mM:CtOk (GGx kCa kDb) PP (88,c_vs):=by
 refine aE Tryz.func88 (by kernel_rfl) rfl fun a0 h0 c0 v0 N0 e hc=>?_
 unfold c_vs at e
 split at e
 ·rename_i f r
  cases e
  have hE:=aC (kCa:=kCa) (kDb:=kDb) (cts:=[(130,CG)]) (inl:=[]) ⟨AI,trivial⟩ trivial
  refine av hE 2 Tryz.func88 rfl rfl ?_
  repeat (first|refine ah ?_|refine sat_nd ?_)
  exact ae (aj (.inr rfl) rfl rfl rfl rfl)
 ·cases e
def c_on:CF
 |[.agg [.int .i64 f,.int .i64 r],.int .i64 x,.int .i64 y],[]=>some (true,.bool (onB f r x y),[])
 |_,_=>none
theorem Ia:CtOk (GGx kCa kDb) PP (154,c_on):=by
 refine aE Tryz.func154 (by kernel_rfl) rfl fun a0 h0 c0 v0 N0 e hc=>?_
 unfold c_on at e
 split at e
 ·rename_i f r x y
  cases e
  have hE:=aC (kCa:=kCa) (kDb:=kDb) (cts:=[]) (inl:=[]) trivial trivial
  refine av hE 2 Tryz.func154 rfl rfl ?_
  repeat (first|refine ah ?_|refine sat_nd ?_)
  exact ae (aj (.inr rfl) rfl rfl rfl rfl)
 ·cases e
def eD:CF
 |[.agg [.int .i64 f,.int .i64 r],.int .i64 n],[]=>some (true,.bool (ai f r n),[])
 |_,_=>none
theorem cz:CtOk (GGx kCa kDb) PP (44,eD):=by
 refine aE Tryz.func44 (by kernel_rfl) rfl fun a0 h0 c0 v0 N0 e hc=>?_
 unfold eD at e
 split at e
 ·rename_i f r n
  cases e
  have hE:=aC (kCa:=kCa) (kDb:=kDb) (cts:=[(88,c_vs)]) (inl:=[]) ⟨mM,trivial⟩ trivial
  refine av hE 2 Tryz.func44 rfl rfl ?_
  repeat (first|refine ah ?_|refine sat_nd ?_)
  exact ae (aj (.inr rfl) rfl rfl rfl rfl)
 ·cases e
def c_at:CF
 |[.agg [.int .i64 f,.int .i64 r],.int .i64 x,.int .i64 y],[]=>some (true,.tup [I (atR f r x y).1,I (atR f r x y).2],[])
 |_,_=>none
theorem Cl:CtOk (GGx kCa kDb) PP (148,c_at):=by
 refine aE Tryz.func148 (by kernel_rfl) rfl fun a0 h0 c0 v0 N0 e hc=>?_
 unfold c_at at e
 split at e
 ·rename_i f r x y
  cases e
  have hE:=aC (kCa:=kCa) (kDb:=kDb) (cts:=[(88,c_vs),(154,c_on)]) (inl:=[]) ⟨mM,Ia,trivial⟩ trivial
  refine av hE 2 Tryz.func148 rfl rfl ?_
  repeat (first|refine ah ?_|refine sat_nd ?_)
  refine aq (fun h1=>?_) (fun h1=>?_)
  ·exact ae (aj (.inr rfl) rfl rfl rfl (by simp_all [atR]))
  ·repeat (first|refine ah ?_|refine sat_nd ?_)
   refine aq (fun h2=>?_) (fun h2=>?_)
   ·exact ae (aj (.inr rfl) rfl rfl rfl (by simp_all [atR]))
   ·exact ae (aj (.inr rfl) rfl rfl rfl (by simp_all [atR]))
 ·cases e
theorem dh{f r:Int}(h:vsB f r=true):3<=f/\f<=8/\3<=r/\r<=8:=by
 simp[vsB,CJ]at h;omega
theorem bD{f r n:Int}(h:ai f r n=true):vsB f r=true:=by
 simp only[ai,Bool.and_eq_true]at h;exact h.1.1
def oE:CF
 |[.agg [.int .i64 f,.int .i64 r],.int .i64 n],[]=>some (true,.tup [I (aO f r n).1,I (aO f r n).2.1,I (aO f r n).2.2],[])
 |_,_=>none
theorem kQ:CtOk (GGx kCa kDb) PP (145,oE):=by
 refine aE Tryz.func145 (by kernel_rfl) rfl fun a0 h0 c0 v0 N0 e hc=>?_
 unfold oE at e
 split at e
 ·rename_i f r n
  cases e
  have hE:=aC (kCa:=kCa) (kDb:=kDb) (cts:=[(44,eD)]) (inl:=[]) ⟨cz,trivial⟩ trivial
  refine av hE 2 Tryz.func145 rfl rfl ?_
  repeat (first|refine ah ?_|refine sat_nd ?_)
  refine aq (fun h1=>?_) (fun h1=>?_)
  ·exact ae (aj (.inr rfl) rfl rfl rfl (by simp_all [aO]))
  ·simp only[Bool.not_eq_false']at h1
   have hf:=dh (bD h1)
   repeat (first|refine ah ?_|refine ag (by first|rfl|(simp;omega)) ?_)
   exact ae (aj (.inr rfl) rfl rfl rfl (by simp_all [aO]))
 ·cases e
end
end Go.Ab
namespace Go.Ab
open IntKind
open Go.Proofs
section
variable{kCa kDb:Bool}
def allU(f r:Int):Int:=ushr 18446744073709551615 (i64.wrap (64-i64.wrap (f*r)))
theorem az{n:Int}(h1:-9223372036854775808<=n)(h2:n<=9223372036854775807):i64.wrap n=n:=IntWalk.i64_in _ (by omega)
theorem gB{f r:Int}(h:vsB f r=true):9<=f*r/\f*r<=64:=by
 obtain⟨h1,h2,h3,h4⟩:=dh h
 have e1:3*3<=f*r:=Int.mul_le_mul h1 h3 (by omega) (by omega)
 have e2:f*r<=8*8:=Int.mul_le_mul h2 h4 (by omega) (by omega)
 omega
theorem fo{f r:Int}(h:vsB f r=true):i64.wrap (f*r)=f*r:=az (by have:=gB h;omega) (by have:=gB h;omega)
def IC:CF
 |[.agg [.int .i64 f,.int .i64 r]],[]=>some (vsB f r,.int .u64 (allU f r),[])
 |_,_=>none
theorem FY:CtOk (GGx kCa kDb) PP (155,IC):=by
 refine aE Tryz.func155 (by kernel_rfl) rfl fun a0 h0 c0 v0 N0 e hc=>?_
 unfold IC at e
 split at e
 ·rename_i f r
  cases e
  have hE:=aC (kCa:=kCa) (kDb:=kDb) (cts:=[]) (inl:=[]) trivial trivial
  refine av hE 2 Tryz.func155 rfl rfl ?_
  have hm:=gB hc
  refine ag (by rw[fo hc,az (by omega) (by omega)];simp;omega) ?_
  exact ae (aj (.inr rfl) rfl rfl rfl rfl)
 ·cases e
def Hx:CF
 |[.agg [.int .i64 f,.int .i64 r]],[]=>some (true,.tup [U (bif vsB f r then allU f r else 0),I (bif vsB f r then 0 else 2)],[])
 |_,_=>none
theorem Gm:CtOk (GGx kCa kDb) PP (149,Hx):=by
 refine aE Tryz.func149 (by kernel_rfl) rfl fun a0 h0 c0 v0 N0 e hc=>?_
 unfold Hx at e
 split at e
 ·rename_i f r
  cases e
  have hE:=aC (kCa:=kCa) (kDb:=kDb) (cts:=[(88,c_vs),(155,IC)]) (inl:=[]) ⟨mM,FY,trivial⟩ trivial
  refine av hE 2 Tryz.func149 rfl rfl ?_
  repeat (first|refine ah ?_|refine sat_nd ?_)
  refine aq (fun h1=>?_) (fun h1=>?_)
  ·exact ae (aj (.inr rfl) rfl rfl rfl (by simp_all))
  ·refine ag (by simpa using h1) ?_
   exact ae (aj (.inr rfl) rfl rfl rfl (by simp_all))
 ·cases e
def fwd(b:Bool):Int:=bif b then -1 else 1
def sgn(n:Int):Int:=bif decide (n<0)then -1 else bif decide (0<n)then 1 else 0
def gP(f r n set:Int):Bool:=ai f r n&&decide (cj set (allU f r)=0)
def jC:CF
 |[.bool b],[]=>some (true,.int .i64 (fwd b),[])
 |_,_=>none
theorem ld:CtOk (GGx kCa kDb) PP (144,jC):=by
 refine aE Tryz.func144 (by kernel_rfl) rfl fun a0 h0 c0 v0 N0 e hc=>?_
 unfold jC at e
 split at e
 ·rename_i b
  cases e
  have hE:=aC (kCa:=kCa) (kDb:=kDb) (cts:=[]) (inl:=[]) trivial trivial
  refine av hE 2 Tryz.func144 rfl rfl ?_
  refine aq (fun h1=>?_) (fun h1=>?_)
  ·exact ae (aj (.inr rfl) rfl rfl rfl (by simp_all [fwd]))
  ·exact ae (aj (.inr rfl) rfl rfl rfl (by simp_all [fwd]))
 ·cases e
def Dm:CF
 |[.int .i64 n],[]=>some (true,.int .i64 (sgn n),[])
 |_,_=>none
theorem DH:CtOk (GGx kCa kDb) PP (146,Dm):=by
 refine aE Tryz.func146 (by kernel_rfl) rfl fun a0 h0 c0 v0 N0 e hc=>?_
 unfold Dm at e
 split at e
 ·rename_i n
  cases e
  have hE:=aC (kCa:=kCa) (kDb:=kDb) (cts:=[]) (inl:=[]) trivial trivial
  refine av hE 2 Tryz.func146 rfl rfl ?_
  refine aq (fun h1=>?_) (fun h1=>?_)
  ·exact ae (aj (.inr rfl) rfl rfl rfl (by rw[sgn,h1];rfl))
  ·refine aq (fun h2=>?_) (fun h2=>?_)
   ·exact ae (aj (.inr rfl) rfl rfl rfl (by rw[sgn,h1,h2];rfl))
   ·exact ae (aj (.inr rfl) rfl rfl rfl (by rw[sgn,h1,h2];rfl))
 ·cases e
def qE:CF
 |[.agg [.int .i64 f,.int .i64 r],.int .i64 n,.int .u64 set],[]=>some (true,.bool (gP f r n set),[])
 |_,_=>none
theorem pU:CtOk (GGx kCa kDb) PP (125,qE):=by
 refine aE Tryz.func125 (by kernel_rfl) rfl fun a0 h0 c0 v0 N0 e hc=>?_
 unfold qE at e
 split at e
 ·rename_i f r n set
  cases e
  have hE:=aC (kCa:=kCa) (kDb:=kDb) (cts:=[(149,Hx),(44,eD)]) (inl:=[]) ⟨Gm,cz,trivial⟩ trivial
  refine av hE 2 Tryz.func125 rfl rfl ?_
  repeat (first|refine ah ?_|refine sat_nd ?_)
  exact ae (aj (.inr rfl) rfl rfl rfl (by cases h:vsB f r<;>simp[gP,ai,h]))
 ·cases e
def dirR(f r a b:Int):Int×Int×Int:=
 bif ai f r a&&ai f r b then
  (let x:=i64.wrap (b.tmod f-a.tmod f);let y:=i64.wrap (i64.wrap (b.tdiv f)-i64.wrap (a.tdiv f))
   bif decide (a=b)||(!decide (x=0)&&!decide (y=0)&&!decide (x=y)&&!decide (x=i64.wrap (0-y))) then(0,0,9) else(sgn x,sgn y,0))
 else(0,0,2)
def Jm:CF
 |[.agg [.int .i64 f,.int .i64 r],.int .i64 a,.int .i64 b],[]=>some (true,.tup [I (dirR f r a b).1,I (dirR f r a b).2.1,I (dirR f r a b).2.2],[])
 |_,_=>none
theorem ED:CtOk (GGx kCa kDb) PP (123,Jm):=by
 refine aE Tryz.func123 (by kernel_rfl) rfl fun a0 h0 c0 v0 N0 e hc=>?_
 unfold Jm at e
 split at e
 ·rename_i f r a b
  cases e
  have hE:=aC (kCa:=kCa) (kDb:=kDb) (cts:=[(145,oE),(146,Dm)]) (inl:=[]) ⟨kQ,DH,trivial⟩ trivial
  refine av hE 2 Tryz.func123 rfl rfl ?_
  repeat (first|refine ah ?_|refine sat_nd ?_)
  refine aq (fun h1=>?_) (fun h1=>?_)
  ·exact ae (aj (.inr rfl) rfl rfl rfl (by cases ha:ai f r a<;>cases hb:ai f r b<;>simp_all [dirR,aO]))
  ·repeat (first|refine ah ?_|refine sat_nd ?_)
   have ha:ai f r a=true:=by cases ha:ai f r a<;>simp_all [aO]
   have hb:ai f r b=true:=by cases hb:ai f r b<;>simp_all [aO]
   refine aq (fun h2=>?_) (fun h2=>?_)
   ·refine ae (aj (.inr rfl) rfl rfl rfl ?_)
    simp only[aO,ha,hb,cond_true]at h2
    simp only[dirR,ha,hb,Bool.and_true,cond_true,h2]
   ·repeat (first|refine ah ?_|refine sat_nd ?_)
    refine ae (aj (.inr rfl) rfl rfl rfl ?_)
    simp only[aO,ha,hb,cond_true]at h2 ⊢
    simp only[dirR,ha,hb,Bool.and_true,cond_true,h2,cond_false]
 ·cases e
end
section
variable{kCa kDb:Bool}
def tJ(f r x y:Int)(row:List Int):Int×Int:=atR f r (i64.wrap (x+row.getD 0 0)) (i64.wrap (y+row.getD 1 0))
def fZ(f r x y set:Int)(row:List Int):Int:=bif decide ((tJ f r x y row).2=0)then uor set (ushl 1 (tJ f r x y row).1)else set
def bW(f r n:Int)(rs:List (List Int)):Int:=rs.foldl (fZ f r (aO f r n).1 (aO f r n).2.1) 0
theorem lF{f r x y:Int}(h:(atR f r x y).2=0):0<=(atR f r x y).1/\(atR f r x y).1<64/\vsB f r=true/\onB f r x y=true/\(atR f r x y).1=x+y*f:=by
 unfold atR at h ⊢
 cases h1:vsB f r
 ·simp[h1]at h
 ·cases h2:onB f r x y
  ·simp[h1,h2]at h
  ·simp only[cond_true]
   obtain⟨a1,a2,a3,a4⟩:=dh h1
   simp only[onB,Bool.and_eq_true,decide_eq_true_eq]at h2
   obtain⟨⟨⟨b1,b2⟩,b3⟩,b4⟩:=h2
   have hm:=gB h1
   have e1:0<=y*f:=Int.mul_nonneg b3 (by omega)
   have e2:(y+1)*f<=r*f:=Int.mul_le_mul_of_nonneg_right (by omega) (by omega)
   rw[Int.add_mul,Int.mul_comm r f]at e2
   have e3:i64.wrap (y*f)=y*f:=az (by omega) (by omega)
   have e4:i64.wrap (x+y*f)=x+y*f:=az (by omega) (by omega)
   rw[e3,e4]
   refine⟨by omega,by omega,?_,?_,?_⟩<;>first|rfl|trivial
theorem uj{α β:Type}(l:List α)(d:α)(f:β->α->β)(b:β){k:Nat}(h:k<l.length):(l.take (k+1)).foldl f b=f ((l.take k).foldl f b) (l.getD k d):=by
 rw[List.take_succ_eq_append_getElem h,List.foldl_append]
 simp[List.getD,h]
def tn:CF
 |[.agg [.int .i64 f,.int .i64 r],.int .i64 n,.sl 0 0 len none],[.rows false [.i64,.i64] rs]=>some (decide (len=rs.length)&&decide (rs.length<=1000000),.int .u64 (bW f r n rs),[])
 |_,_=>none
theorem mQ:CtOk (GGx kCa kDb) PP (126,tn):=by
 refine aE Tryz.func126 (by kernel_rfl) rfl fun a0 h0 c0 v0 N0 e hc=>?_
 unfold tn at e
 split at e
 ·rename_i f r n len rs
  cases e
  have hE:=aC (kCa:=kCa) (kDb:=kDb) (cts:=[(148,c_at),(145,oE)]) (inl:=[]) ⟨Cl,kQ,trivial⟩ trivial
  refine av hE 2 Tryz.func126 rfl rfl ?_
  simp only[Bool.and_eq_true,decide_eq_true_eq]at hc
  obtain⟨hc1,hc2⟩:=hc
  subst hc1
  repeat (first|refine ah ?_|refine sat_nd ?_)
  refine iG hE 2 (fun a:Int×Int=>([(3,.ptr 1 0 0),(7,I (aO f r n).1),(8,I (aO f r n).2.1),(10,U a.2),(22,.sl 0 0 rs.length none),(23,I rs.length),(24,I a.1)],[.rows false [.i64,.i64] rs,.cells true [I f,I r]]))
   (fun a=>∃ k:Nat,k<=rs.length/\a.1=k/\a.2=(rs.take k).foldl (fZ f r (aO f r n).1 (aO f r n).2.1) 0) (fun a=>rs.length-a.1.toNat) (0,0)
   (Ent.ren [0,1] [3,7,8,10,22,23,24] rfl rfl rfl) ⟨0,Nat.zero_le _,rfl,rfl⟩ ?_
  rintro⟨i,set⟩ ⟨k,hk,h1,h2⟩
  dsimp only at h1 h2 ⊢
  refine aq (fun hlt=>?_) (fun hlt=>?_)
  ·simp only[decide_eq_true_eq]at hlt
   have hki:i.toNat=k:=by omega
   refine ag (by simp;omega) ?_
   repeat (first|refine ah ?_|refine sat_nd ?_)
   have hstep:=uj rs [] (fZ f r (aO f r n).1 (aO f r n).2.1) 0 (show k<rs.length by omega)
   rw[<-h2,<-hki]at hstep
   have hnext:i64.wrap (i+1)=((k+1:Nat):Int):=by rw[az (by omega) (by omega)];omega
   refine aq (fun hon=>?_) (fun hon=>?_)
   ·have hon':decide ((tJ f r (aO f r n).1 (aO f r n).2.1 (rs.getD i.toNat [])).2=0)=true:=hon
    refine ag (by have:=(lF (of_decide_eq_true hon)).1;exact decide_eq_true this) ?_
    refine ae ⟨(_,_),⟨k+1,by omega,hnext,?_⟩,?_,Ent.ren [0,1] [3,7,8,10,22,23,24] rfl rfl rfl⟩
    ·rw[<-hki,hstep,fZ,hon'];rfl
    ·show _-(i64.wrap (i+1)).toNat<_
     rw[hnext];omega
   ·have hon':decide ((tJ f r (aO f r n).1 (aO f r n).2.1 (rs.getD i.toNat [])).2=0)=false:=hon
    refine ae ⟨(_,_),⟨k+1,by omega,hnext,?_⟩,?_,Ent.ren [0,1] [3,7,8,10,22,23,24] rfl rfl rfl⟩
    ·rw[<-hki,hstep,fZ,hon'];rfl
    ·show _-(i64.wrap (i+1)).toNat<_
     rw[hnext];omega
  ·simp only[decide_eq_false_iff_not]at hlt
   obtain rfl:k=rs.length:=by omega
   rw[List.take_length]at h2
   refine ae (ae (aj (.inr rfl) rfl rfl rfl (by rw[h2];rfl)))
 ·cases e
end
end Go.Ab
namespace Go.Ab
open Go.Proofs
section
variable{kCa kDb:Bool}
def kE(f r df dr:Int):Nat->Int->Int->List Int
 |0,_,_=>[]
 |k+1,x,y=>bif decide ((atR f r (IntKind.i64.wrap (x+df)) (IntKind.i64.wrap (y+dr))).2=0) then(atR f r (IntKind.i64.wrap (x+df)) (IntKind.i64.wrap (y+dr))).1::kE f r df dr k (IntKind.i64.wrap (x+df)) (IntKind.i64.wrap (y+dr)) else[]
def gI(df dr:Int):Bool:=decide (8<=imax true (imax true (imax true df (IntKind.i64.wrap (0-df))) dr) (IntKind.i64.wrap (0-dr)))||decide (df < -8)||decide (dr < -8)
def rayL(f r n df dr:Int):List Int:=bif ai f r n&&!(decide (df=0)&&decide (dr=0))&&!gI df dr then kE f r df dr 9 (aO f r n).1 (aO f r n).2.1 else[]
def rayV(f r n df dr:Int):List (List V):=(rayL f r n df dr).map fun x=>[I x]
theorem Bz{df dr:Int}(h:gI df dr=false):-7<=df/\df<=7/\-7<=dr/\dr<=7:=by
 simp only[gI,Bool.or_eq_false_iff,decide_eq_false_iff_not]at h
 obtain⟨⟨h1,h2⟩,h3⟩:=h
 have m:∀ x y:Int,x<=imax true x y/\y<=imax true x y:=fun x y=>by
  unfold imax
  by_cases h:x<y<;>simp[h]<;>omega
 have e1:=m df (IntKind.i64.wrap (0-df))
 have e2:=m (imax true df (IntKind.i64.wrap (0-df))) dr
 have e3:=m (imax true (imax true df (IntKind.i64.wrap (0-df))) dr) (IntKind.i64.wrap (0-dr))
 have f1:df<=7:=by omega
 have f2:dr<=7:=by omega
 rw[az (n:=0-df) (by omega) (by omega)]at e1 e2 e3
 rw[az (n:=0-dr) (by omega) (by omega)]at e3
 rw[az (n:=0-df) (by omega) (by omega),az (n:=0-dr) (by omega) (by omega)]at h1
 omega
theorem qZ{f r n:Int}(h:ai f r n=true):0<=(aO f r n).1/\(aO f r n).1<f/\0<=(aO f r n).2.1/\(aO f r n).2.1<r/\(aO f r n).1=n%f/\(aO f r n).2.1=n/f:=by
 have hv:=bD h
 obtain⟨a1,a2,a3,a4⟩:=dh hv
 have hm:=gB hv
 simp only[aO,h,cond_true]
 simp only[ai,Bool.and_eq_true,decide_eq_true_eq]at h
 obtain⟨⟨h1,h2⟩,h3⟩:=h
 rw[fo hv]at h3
 have e1:n.tmod f=n%f:=Int.tmod_eq_emod_of_nonneg h2
 have e2:n.tdiv f=n/f:=Int.tdiv_eq_ediv_of_nonneg h2
 have b1:=Int.emod_nonneg n (show f≠0 by omega)
 have b2:=Int.emod_lt_of_pos n (show 0<f by omega)
 have b3:0<=n/f:=Int.ediv_nonneg h2 (by omega)
 have b4:n/f<r:=Int.ediv_lt_of_lt_mul (by omega) (by rw[Int.mul_comm];exact h3)
 rw[e1,e2,az (by omega) (by omega)]
 exact⟨b1,b2,b3,b4,rfl,rfl⟩
theorem oT{f r x y:Int}(h:onB f r x y=true):0<=x/\x<f/\0<=y/\y<r:=by
 simp only[onB,Bool.and_eq_true,decide_eq_true_eq]at h
 obtain⟨⟨⟨b1,b2⟩,b3⟩,b4⟩:=h
 exact⟨b1,b2,b3,b4⟩
theorem GU(f r n df dr:Int):kX (GGx kCa kDb) PP 147 [[I f,I r],[I n],[I df],[I dr]] (rayV f r n df dr):=by
 have hE:=aC (kCa:=kCa) (kDb:=kDb) (cts:=[(145,oE),(148,c_at)]) (inl:=[]) ⟨kQ,Cl,trivial⟩ trivial
 refine yB hE Tryz.func147 rfl rfl rfl rfl fun nn l S0 ρc J ok=>?_
 refine YG.seq (YG.seg hE 2 ?_)
 repeat (first|refine ah ?_|refine sat_nd ?_)
 refine ae ?_
 refine YG.seq (YG.seg hE 2 ?_)
 repeat (first|refine ah ?_|refine sat_nd ?_)
 refine aq (fun h1=>ae ⟨.inr rfl,.inl ?_⟩) (fun h1=>ae ?_)
 ·have:rayV f r n df dr=[]:=by
   cases hv:ai f r n<;>simp_all [rayV,rayL,aO]
  rw[this];rfl
 have hv:ai f r n=true:=by cases hv:ai f r n<;>simp_all [aO]
 have hnz:(decide (df=0)&&decide (dr=0))=false:=by
  cases h:(decide (df=0)&&decide (dr=0))<;>simp_all
 refine YG.seq (YG.seg hE 2 ?_)
 repeat (first|refine ah ?_|refine sat_nd ?_)
 refine aq (fun h2=>ae ⟨.inr rfl,.inl ?_⟩) (fun h2=>ae ?_)
 ·have h2:gI df dr=true:=h2
  have:rayV f r n df dr=[]:=by simp[rayV,rayL,h2]
  rw[this];rfl
 have h2:gI df dr=false:=h2
 have hL:rayL f r n df dr=kE f r df dr 9 (aO f r n).1 (aO f r n).2.1:=by simp only[rayL,hv,hnz,h2];rfl
 have hb:=Bz h2
 have hp:=qZ hv
 have hsz:=dh (bD hv)
 have hdd:df≠0\/dr≠0:=by
  by_cases e:df=0
  ·right;rintro rfl;simp[e]at hnz
  ·exact .inl e
 refine YG.block (YG.loop (fun a:Nat×Int×Int=>(some a.1,[(0,.yl 4),(1,.ptr 0 0 0),(2,.ptr 1 0 0),(3,.ptr 2 0 0),(4,.ptr 3 0 0),(6,I a.2.1),(7,I a.2.2)],hp0 [[I f,I r],[I n],[I df],[I dr]]))
  (fun a=>0<=a.2.1/\a.2.1<f/\0<=a.2.2/\a.2.2<r/\(1<=df->a.1<=a.2.1)/\(df<=-1->a.2.1+a.1<=7)/\(1<=dr->a.1<=a.2.2)/\(dr<=-1->a.2.2+a.1<=7)/\a.1<=(rayL f r n df dr).length/\(rayL f r n df dr).drop a.1=kE f r df dr (9-a.1) a.2.1 a.2.2)
  (fun a=>8-a.1) (0,(aO f r n).1,(aO f r n).2.1) rfl (Ent.ren [0,1,2,3,4] [0,1,2,3,4,6,7] rfl rfl rfl) ?_ ?_)
 ·exact⟨hp.1,hp.2.1,hp.2.2.1,hp.2.2.2.1,by intro;simp;omega,by intro;simp;omega,by intro;simp;omega,by intro;simp;omega,Nat.zero_le _,by simpa using hL⟩
 rintro⟨i,x,y⟩ ⟨i1,i2,i3,i4,i5,i6,i7,i8,i9,i10⟩
 dsimp only at i1 i2 i3 i4 i5 i6 i7 i8 i9 i10 ⊢
 have hi8:i<=7:=by omega
 refine YG.block (YG.seq (YG.seg hE 2 ?_))
 repeat (first|refine ah ?_|refine sat_nd ?_)
 refine ae ?_
 refine YG.seq (YG.seg hE 2 ?_)
 repeat (first|refine ah ?_|refine sat_nd ?_)
 refine ae ?_
 refine YG.seq (YG.yregAt ok 2 5 rfl rfl rfl ?_)
 refine ae ?_
 have hgo:∀ b,decide ((atR f r (IntKind.i64.wrap (x+df)) (IntKind.i64.wrap (y+dr))).2=0)=b->kE f r df dr (9-i) x y=bif b then(atR f r (IntKind.i64.wrap (x+df)) (IntKind.i64.wrap (y+dr))).1::kE f r df dr (8-i) (IntKind.i64.wrap (x+df)) (IntKind.i64.wrap (y+dr)) else[]:=by
  intro b hb
  rw[show 9-i=(8-i)+1 by omega]
  simp only[kE,hb]
 refine⟨fun hg=>?_,fun hg=>?_⟩
 ·have hg:decide ((atR f r (IntKind.i64.wrap (x+df)) (IntKind.i64.wrap (y+dr))).2=0)=true:=by simpa using hg
  have he:=of_decide_eq_true hg
  obtain⟨p1,p2,p3,p4,p5⟩:=lF he
  have hon:=oT p4
  have hwx:IntKind.i64.wrap (x+df)=x+df:=az (by omega) (by omega)
  have hwy:IntKind.i64.wrap (y+dr)=y+dr:=az (by omega) (by omega)
  have hr:=hgo true hg
  rw[cond_true]at hr
  rw[hr]at i10
  have hlt:i<(rayL f r n df dr).length:=by
   have:=congrArg List.length i10
   simp only[List.length_drop,List.length_cons]at this
   omega
  have hat:(rayL f r n df dr)[i]?=some (atR f r (IntKind.i64.wrap (x+df)) (IntKind.i64.wrap (y+dr))).1:=by
   have:=congrArg (fun l:List Int=>l[0]?) i10
   simpa using this
  have hdr:(rayL f r n df dr).drop (i+1)=kE f r df dr (8-i) (IntKind.i64.wrap (x+df)) (IntKind.i64.wrap (y+dr)):=by
   have:=congrArg (List.drop 1) i10
   simpa[List.drop_drop,Nat.add_comm]using this
  repeat (first|refine ah ?_|refine sat_nd ?_)
  refine ae ?_
  refine⟨i,[I (atR f r (IntKind.i64.wrap (x+df)) (IntKind.i64.wrap (y+dr))).1],[0,1,2,3,4,6,7,59],rfl,by simp[rayV,hat],rfl,rfl,rfl,rfl,fun b=>?_⟩
  cases b with
  |true=>
   refine ae ?_
   refine YG.seg hE 2 ?_
   refine ae ⟨(i+1,IntKind.i64.wrap (x+df),IntKind.i64.wrap (y+dr)),?_,?_,rfl,Ent.ren [0,1,2,3,4] [0,1,2,3,4,6,7] rfl rfl rfl⟩
   ·dsimp only
    rw[hwx,hwy]at hon
    rw[hdr,hwx,hwy,show 9-(i+1)=8-i by omega]
    refine⟨hon.1,hon.2.1,hon.2.2.1,hon.2.2.2,?_,?_,?_,?_,by omega,rfl⟩<;>intro h<;>push_cast<;>omega
   ·dsimp only;omega
  |false=>
   refine ae ?_
   refine YG.seg hE 2 ?_
   exact ae ⟨.inr rfl,.inr rfl⟩
 ·have hg:decide ((atR f r (IntKind.i64.wrap (x+df)) (IntKind.i64.wrap (y+dr))).2=0)=false:=by simpa using hg
  have hr:=hgo false hg
  rw[cond_false]at hr
  rw[hr]at i10
  have hlen:i=(rayL f r n df dr).length:=by
   have:=congrArg List.length i10
   simp only[List.length_drop,List.length_nil]at this
   omega
  refine ae ?_
  refine YG.seg hE 2 ?_
  exact ae ⟨.inr rfl,.inl (by simp[rayV,<-hlen])⟩
end
end Go.Ab
namespace Go.Ab
open IntKind
open Go.Proofs
section
variable{kCa kDb:Bool}
theorem xe{f r n df dr:Int}{i:Nat}{vs:List V}(h:(rayV f r n df dr)[i]?=some vs):∃ x,(rayL f r n df dr)[i]?=some x/\vs=[I x]/\0<=x/\x<64:=by
 simp only[rayV,List.getElem?_map,Option.map_eq_some_iff]at h
 obtain⟨x,h1,rfl⟩:=h
 refine⟨x,h1,rfl,?_⟩
 have hm:=List.mem_of_getElem? h1
 have key:∀ (k:Nat) (a b:Int),x∈kE f r df dr k a b->0<=x/\x<64:=by
  intro k
  induction k with
  |zero=>intro a b h;simp[kE]at h
  |succ k ih=>
   intro a b h
   rw[kE]at h
   cases hb:decide ((atR f r (i64.wrap (a+df)) (i64.wrap (b+dr))).2=0) with
   |false=>rw[hb]at h;simp at h
   |true=>
    rw[hb,cond_true]at h
    rcases List.mem_cons.1 h with rfl|h
    ·have:=lF (of_decide_eq_true hb);exact⟨this.1,this.2.1⟩
    ·exact ih _ _ h
 unfold rayL at hm
 cases hc:(ai f r n&&!(decide (df=0)&&decide (dr=0))&&!gI df dr) with
 |false=>rw[hc]at hm;simp at hm
 |true=>rw[hc,cond_true]at hm;exact key _ _ _ hm
theorem xn{f r n df dr:Int}:∀ vs∈rayV f r n df dr,vs.length=1:=by
 intro vs h
 simp only[rayV,List.mem_map]at h
 obtain⟨x,_,rfl⟩:=h
 rfl
theorem nT{f r n df dr:Int}:(rayV f r n df dr).length=(rayL f r n df dr).length:=by simp[rayV]
theorem DD:eK PP 147:=ent Tryz.func147 rfl rfl
def eZ(b:Int):List Int->Int->Int
 |[],s=>s
 |x::l,s=>bif decide (x=b)then s else eZ b l (uor s (ushl 1 x))
def bC(f r a b:Int):Int×Int:=bif decide ((dirR f r a b).2.2=0) then(eZ b (rayL f r a (dirR f r a b).1 (dirR f r a b).2.1) 0,0) else(0,(dirR f r a b).2.2)
theorem Ba{b:Int}{l:List Int}{i:Nat}{x s:Int}(h:l[i]?=some x):eZ b (l.drop i) s=bif decide (x=b)then s else eZ b (l.drop (i+1)) (uor s (ushl 1 x)):=by
 obtain⟨h1,h2⟩:=List.getElem?_eq_some_iff.1 h
 rw[List.drop_eq_getElem_cons h1,h2,eZ]
def dx(occ:Int):List Int->Int->Int
 |[],s=>s
 |x::l,s=>bif decide (uand (ushr occ x) 1=1)then uor s (ushl 1 x)else dx occ l (uor s (ushl 1 x))
theorem yP{b:Int}{l:List Int}{i:Nat}{x s:Int}(h:l[i]?=some x):dx b (l.drop i) s=bif decide (uand (ushr b x) 1=1)then uor s (ushl 1 x)else dx b (l.drop (i+1)) (uor s (ushl 1 x)):=by
 obtain⟨h1,h2⟩:=List.getElem?_eq_some_iff.1 h
 rw[List.drop_eq_getElem_cons h1,h2,dx]
def eF(f r n occ s:Int)(row:List Int):Int:=dx occ (rayL f r n (row.getD 0 0) (row.getD 1 0)) s
def dm(f r n occ:Int)(rs:List (List Int)):Int:=rs.foldl (eF f r n occ) 0
def eW:CF
 |[.agg [.int .i64 f,.int .i64 r],.int .i64 a,.int .i64 b],[]=>some (true,.tup [U (bC f r a b).1,I (bC f r a b).2],[])
 |_,_=>none
theorem jP:CtOk (GGx kCa kDb) PP (72,eW):=by
 refine aE Tryz.func72 (by kernel_rfl) rfl fun a0 h0 c0 v0 N0 e hc=>?_
 unfold eW at e
 split at e
 ·rename_i f r a b
  cases e
  have hE:=aC (kCa:=kCa) (kDb:=kDb) (cts:=[(123,Jm)]) (inl:=[(124,Tryz.f124)]) ⟨ED,trivial⟩ ⟨⟨Tryz.func124,by kernel_rfl⟩,trivial⟩
  refine av hE 2 Tryz.func72 rfl rfl ?_
  repeat (first|refine ah ?_|refine sat_nd ?_)
  refine aq (fun h1=>?_) (fun h1=>?_)
  ·have h1:decide ((dirR f r a b).2.2=0)=false:=by simpa using h1
   exact ae (aj (.inr rfl) rfl rfl rfl (by rw[bC,h1];rfl))
  have h1:decide ((dirR f r a b).2.2=0)=true:=by simpa using h1
  repeat (first|refine ah ?_|refine sat_nd ?_)
  generalize hL:rayL f r a (dirR f r a b).1 (dirR f r a b).2.1=L
  refine nU hE 2 7 [3,4,5,6] [3,5,11] (Ent.ren [0,1,2,3,4,5,6] [3,5,11,28] rfl rfl rfl) (GU f r a (dirR f r a b).1 (dirR f r a b).2.1) xn DD rfl rfl rfl rfl rfl rfl
   (fun i hp'=>∃ s,eZ b (L.drop i) s=eZ b L 0/\hp'=[.cells true [I f,I r],.cells true [I b],.cells true [U s],.cells true [I f,I r],.cells true [I a],.cells true [I (dirR f r a b).1],.cells true [I (dirR f r a b).2.1]])
   (fun e hp'=>e=.exit 0/\∃ s,s=eZ b L 0/\hp'=[.cells true [I f,I r],.cells true [I b],.cells true [U s],.cells true [I f,I r],.cells true [I a],.cells true [I (dirR f r a b).1],.cells true [I (dirR f r a b).2.1]])
   ⟨0,rfl,rfl⟩ ?_ ?_ ?_ ?_ ?_
  ·rintro i hp' ⟨s,_,rfl⟩;rfl
  ·rintro e hp' ⟨_,s,_,rfl⟩;rfl
  ·rintro i vs hp' hi ⟨s,hs,rfl⟩
   obtain⟨x,hx,rfl,x0,x1⟩:=xe hi
   rw[hL]at hx
   rw[Ba hx]at hs
   refine ae ⟨rfl,?_⟩
   refine aq (fun h2=>?_) (fun h2=>?_)
   ·rw[h2,cond_true]at hs
    exact ae ⟨_,Ent.ren [0,1,2,3,4,5,6] [] rfl rfl rfl,rfl,s,hs,rfl⟩
   ·rw[h2,cond_false]at hs
    repeat (first|refine ah ?_|refine sat_nd ?_)
    refine ae ⟨_,Ent.ren [0,1,2,3,4,5,6] [] rfl rfl rfl,_,hs,rfl⟩
  ·rintro hp' ⟨s,hs,rfl⟩
   rw[nT,hL,List.drop_length]at hs
   have hs:s=eZ b L 0:=hs
   exact ae (aj (.inr rfl) rfl rfl rfl (by rw[bC,h1,hL,hs];rfl))
  ·rintro e hp' ⟨rfl,s,hs,rfl⟩
   exact ae (aj (.inr rfl) rfl rfl rfl (by rw[bC,h1,hL,hs];rfl))
 ·cases e
def wN:CF
 |[.agg [.int .i64 f,.int .i64 r],.int .i64 n,.int .u64 occ,.sl 0 0 len none],[.rows false [.i64,.i64] rs]=>some (decide (len=rs.length)&&decide (rs.length<=1000000),.int .u64 (dm f r n occ rs),[])
 |_,_=>none
theorem yW:CtOk (GGx kCa kDb) PP (127,wN):=by
 refine aE Tryz.func127 (by kernel_rfl) rfl fun a0 h0 c0 v0 N0 e hc=>?_
 unfold wN at e
 split at e
 ·rename_i f r n occ len rs
  cases e
  have hE:=aC (kCa:=kCa) (kDb:=kDb) (cts:=[]) (inl:=[(124,Tryz.f124)]) trivial ⟨⟨Tryz.func124,by kernel_rfl⟩,trivial⟩
  refine av hE 2 Tryz.func127 rfl rfl ?_
  simp only[Bool.and_eq_true,decide_eq_true_eq]at hc
  obtain⟨hc1,hc2⟩:=hc
  subst hc1
  repeat (first|refine ah ?_|refine sat_nd ?_)
  refine iG hE 2 (fun a:Int×Int=>([(1,I n),(4,.ptr 1 0 0),(6,.ptr 2 0 0),(9,.ptr 3 0 0),(13,.sl 0 0 rs.length none),(14,I rs.length),(15,I a.1)],[.rows false [.i64,.i64] rs,.cells true [I f,I r],.cells true [U occ],.cells true [U a.2]]))
   (fun a=>∃ k:Nat,k<=rs.length/\a.1=k/\a.2=(rs.take k).foldl (eF f r n occ) 0) (fun a=>rs.length-a.1.toNat) (0,0)
   (Ent.ren [0,1,2,3] [1,4,6,9,13,14,15] rfl rfl rfl) ⟨0,Nat.zero_le _,rfl,rfl⟩ ?_
  rintro⟨i,set⟩ ⟨k,hk,h1,h2⟩
  dsimp only at h1 h2 ⊢
  refine aq (fun hlt=>?_) (fun hlt=>?_)
  ·simp only[decide_eq_true_eq]at hlt
   have hki:i.toNat=k:=by omega
   refine ag (by simp;omega) ?_
   repeat (first|refine ah ?_|refine sat_nd ?_)
   have hstep:=uj rs [] (eF f r n occ) 0 (show k<rs.length by omega)
   rw[<-h2,<-hki]at hstep
   have hnext:i64.wrap (i+1)=((k+1:Nat):Int):=by rw[az (by omega) (by omega)];omega
   generalize hL:rayL f r n ((rs.getD i.toNat []).getD 0 0) ((rs.getD i.toNat []).getD 1 0)=L
   refine nU hE 2 9 [5,6,7,8] [1,4,6,9,13,14,15] (Ent.ren [0,1,2,3,4,5,6,7,8] [1,4,6,9,13,14,15,25] rfl rfl rfl) (GU f r n ((rs.getD i.toNat []).getD 0 0) ((rs.getD i.toNat []).getD 1 0)) xn DD rfl rfl rfl rfl rfl rfl
    (fun j hp'=>∃ s,dx occ (L.drop j) s=dx occ L set/\hp'=[.rows false [.i64,.i64] rs,.cells true [I f,I r],.cells true [U occ],.cells true [U s],.cells true [I ((rs.getD i.toNat []).getD 0 0),I ((rs.getD i.toNat []).getD 1 0)],.cells true [I f,I r],.cells true [I n],.cells true [I ((rs.getD i.toNat []).getD 0 0)],.cells true [I ((rs.getD i.toNat []).getD 1 0)]])
    (fun e hp'=>e=.exit 2/\∃ s,s=dx occ L set/\hp'=[.rows false [.i64,.i64] rs,.cells true [I f,I r],.cells true [U occ],.cells true [U s],.cells true [I ((rs.getD i.toNat []).getD 0 0),I ((rs.getD i.toNat []).getD 1 0)],.cells true [I f,I r],.cells true [I n],.cells true [I ((rs.getD i.toNat []).getD 0 0)],.cells true [I ((rs.getD i.toNat []).getD 1 0)]])
    ⟨set,rfl,rfl⟩ ?_ ?_ ?_ ?_ ?_
   ·rintro j hp' ⟨s,_,rfl⟩;rfl
   ·rintro e hp' ⟨_,s,_,rfl⟩;rfl
   ·rintro j vs hp' hi ⟨s,hs,rfl⟩
    obtain⟨x,hx,rfl,x0,x1⟩:=xe hi
    rw[hL]at hx
    rw[yP hx]at hs
    refine ae ⟨rfl,?_⟩
    repeat (first|refine ah ?_|refine sat_nd ?_)
    refine aq (fun h2=>?_) (fun h2=>?_)
    ·have h2:decide (uand (ushr occ x) 1=1)=true:=h2
     rw[h2,cond_true]at hs
     exact ae ⟨_,Ent.ren [0,1,2,3,4,5,6,7,8] [] rfl rfl rfl,rfl,_,hs,rfl⟩
    ·have h2:decide (uand (ushr occ x) 1=1)=false:=h2
     rw[h2,cond_false]at hs
     exact ae ⟨_,Ent.ren [0,1,2,3,4,5,6,7,8] [] rfl rfl rfl,_,hs,rfl⟩
   ·rintro hp' ⟨s,hs,rfl⟩
    rw[nT,hL,List.drop_length]at hs
    have hs:s=dx occ L set:=hs
    refine ae ⟨(_,_),⟨k+1,by omega,hnext,?_⟩,?_,Ent.ren [0,1,2,3] [1,4,6,9,13,14,15] rfl rfl rfl⟩
    ·rw[<-hki,hstep,eF,hL];exact hs
    ·show _-(i64.wrap (i+1)).toNat<_
     rw[hnext];omega
   ·rintro e hp' ⟨rfl,s,hs,rfl⟩
    refine ae ⟨(_,_),⟨k+1,by omega,hnext,?_⟩,?_,Ent.ren [0,1,2,3] [1,4,6,9,13,14,15] rfl rfl rfl⟩
    ·rw[<-hki,hstep,eF,hL];exact hs
    ·show _-(i64.wrap (i+1)).toNat<_
     rw[hnext];omega
  ·simp only[decide_eq_false_iff_not]at hlt
   obtain rfl:k=rs.length:=by omega
   rw[List.take_length]at h2
   exact ae (ae (aj (.inr rfl) rfl rfl rfl (by rw[h2];rfl)))
 ·cases e
end
end Go.Ab
namespace Go.Ab
open Go.Proofs
section
variable{kCa kDb:Bool}
def bQ(f r kd n occ:Int):Int×Int:=
 bif gP f r n occ then
  (bif decide (kd=2) then(bW f r n iz,0)else bif decide (kd=3) then(dm f r n occ fS,0)else bif decide (kd=4) then(dm f r n occ fO,0)
   else bif decide (kd=5) then(uor (dm f r n occ fS) (dm f r n occ fO),0)else bif decide (kd=6) then(uor (bW f r n fS) (bW f r n fO),0) else(0,2))
 else(0,2)
def gj(f r:Int)(bl:Bool)(n:Int):Int×Int:=bif ai f r n then(bW f r n [[-1,fwd bl],[1,fwd bl]],0) else(0,2)
def one1(f r:Int)(bl:Bool)(n occ:Int):Int:=cj (bW f r n [[0,fwd bl]]) occ
def pH(f r:Int)(bl:Bool)(n occ:Int):Bool:=decide (one1 f r bl n occ=0)||decide (r<6)||!decide (IntKind.i64.wrap (n.tdiv f)=bif bl then IntKind.i64.wrap (r-2)else 1)
def cF(f r:Int)(bl:Bool)(n occ:Int):Int×Int:=
 bif gP f r n occ then
  (bif pH f r bl n occ then(one1 f r bl n occ,0)
   else(uor (one1 f r bl n occ) (cj (bW f r n [[0,IntKind.i64.wrap (2*fwd bl)]]) occ),0))
 else(0,2)
def iJ:CF
 |[.agg [.int .i64 f,.int .i64 r],.int .i8 kd,.int .i64 n,.int .u64 occ],[]=>some (true,.tup [U (bQ f r kd n occ).1,I (bQ f r kd n occ).2],[])
 |_,_=>none
theorem fQ:CtOk (GGx kCa kDb) PP (73,iJ):=by
 refine aE Tryz.func73 (by kernel_rfl) rfl fun a0 h0 c0 v0 N0 e hc=>?_
 unfold iJ at e
 split at e
 ·rename_i f r kd n occ
  cases e
  have hE:=aC (kCa:=kCa) (kDb:=kDb) (cts:=[(125,qE),(126,tn),(127,wN)]) (inl:=[]) ⟨pU,mQ,yW,trivial⟩ trivial
  refine av hE 2 Tryz.func73 rfl rfl ?_
  repeat (first|refine ah ?_|refine sat_nd ?_)
  refine aq (fun h1=>?_) (fun h1=>?_)
  ·have h1:gP f r n occ=false:=by simpa using h1
   exact ae (aj (.inr rfl) rfl rfl rfl (by rw[bQ,h1];rfl))
  have h1:gP f r n occ=true:=by simpa using h1
  refine aq (fun h2=>?_) (fun h2=>?_)
  ·repeat (first|refine ah ?_|refine sat_nd ?_)
   exact ae (aj (.inr rfl) rfl rfl rfl (by rw[bQ,h1,cond_true,h2];rfl))
  refine aq (fun h3=>?_) (fun h3=>?_)
  ·repeat (first|refine ah ?_|refine sat_nd ?_)
   exact ae (aj (.inr rfl) rfl rfl rfl (by rw[bQ,h1,cond_true,h2,h3];rfl))
  refine aq (fun h4=>?_) (fun h4=>?_)
  ·repeat (first|refine ah ?_|refine sat_nd ?_)
   exact ae (aj (.inr rfl) rfl rfl rfl (by rw[bQ,h1,cond_true,h2,h3,h4];rfl))
  refine aq (fun h5=>?_) (fun h5=>?_)
  ·repeat (first|refine ah ?_|refine sat_nd ?_)
   exact ae (aj (.inr rfl) rfl rfl rfl (by rw[bQ,h1,cond_true,h2,h3,h4,h5];rfl))
  refine aq (fun h6=>?_) (fun h6=>?_)
  ·repeat (first|refine ah ?_|refine sat_nd ?_)
   exact ae (aj (.inr rfl) rfl rfl rfl (by rw[bQ,h1,cond_true,h2,h3,h4,h5,h6];rfl))
  exact ae (aj (.inr rfl) rfl rfl rfl (by rw[bQ,h1,cond_true,h2,h3,h4,h5,h6];rfl))
 ·cases e
def sL:CF
 |[.agg [.int .i64 f,.int .i64 r],.bool bl,.int .i64 n],[]=>some (true,.tup [U (gj f r bl n).1,I (gj f r bl n).2],[])
 |_,_=>none
theorem oO:CtOk (GGx kCa kDb) PP (122,sL):=by
 refine aE Tryz.func122 (by kernel_rfl) rfl fun a0 h0 c0 v0 N0 e hc=>?_
 unfold sL at e
 split at e
 ·rename_i f r bl n
  cases e
  have hE:=aC (kCa:=kCa) (kDb:=kDb) (cts:=[(44,eD),(144,jC),(126,tn)]) (inl:=[]) ⟨cz,ld,mQ,trivial⟩ trivial
  refine av hE 2 Tryz.func122 rfl rfl ?_
  repeat (first|refine ah ?_|refine sat_nd ?_)
  refine aq (fun h1=>?_) (fun h1=>?_)
  ·have h1:ai f r n=false:=by simpa using h1
   exact ae (aj (.inr rfl) rfl rfl rfl (by rw[gj,h1];rfl))
  have h1:ai f r n=true:=by simpa using h1
  repeat (first|refine ah ?_|refine sat_nd ?_)
  exact ae (aj (.inr rfl) rfl rfl rfl (by rw[gj,h1];rfl))
 ·cases e
def qK:CF
 |[.agg [.int .i64 f,.int .i64 r],.bool bl,.int .i64 n,.int .u64 occ],[]=>some (true,.tup [U (cF f r bl n occ).1,I (cF f r bl n occ).2],[])
 |_,_=>none
theorem pz:CtOk (GGx kCa kDb) PP (129,qK):=by
 refine aE Tryz.func129 (by kernel_rfl) rfl fun a0 h0 c0 v0 N0 e hc=>?_
 unfold qK at e
 split at e
 ·rename_i f r bl n occ
  cases e
  have hE:=aC (kCa:=kCa) (kDb:=kDb) (cts:=[(125,qE),(126,tn),(144,jC)]) (inl:=[]) ⟨pU,mQ,ld,trivial⟩ trivial
  refine av hE 2 Tryz.func129 rfl rfl ?_
  repeat (first|refine ah ?_|refine sat_nd ?_)
  refine aq (fun h1=>?_) (fun h1=>?_)
  ·have h1:gP f r n occ=false:=by simpa using h1
   exact ae (aj (.inr rfl) rfl rfl rfl (by rw[cF,h1];rfl))
  have h1:gP f r n occ=true:=by simpa using h1
  have hv:ai f r n=true:=by simp only[gP,Bool.and_eq_true]at h1;exact h1.1
  have hf:=dh (bD hv)
  repeat (first|refine ah ?_|refine sat_nd ?_)
  refine aq (fun h2=>?_) (fun h2=>?_)
  ·subst h2
   repeat (first|refine ah ?_|refine sat_nd ?_)
   refine aq (fun h3=>?_) (fun h3=>?_)
   ·have h3:pH f r true n occ=true:=h3
    exact ae (aj (.inr rfl) rfl rfl rfl (by rw[cF,h1,cond_true,h3];rfl))
   ·have h3:pH f r true n occ=false:=h3
    repeat (first|refine ah ?_|refine sat_nd ?_)
    exact ae (aj (.inr rfl) rfl rfl rfl (by rw[cF,h1,cond_true,h3];rfl))
  ·subst h2
   repeat (first|refine ah ?_|refine sat_nd ?_)
   refine aq (fun h3=>?_) (fun h3=>?_)
   ·have h3:pH f r false n occ=true:=h3
    exact ae (aj (.inr rfl) rfl rfl rfl (by rw[cF,h1,cond_true,h3];rfl))
   ·have h3:pH f r false n occ=false:=h3
    repeat (first|refine ah ?_|refine sat_nd ?_)
    exact ae (aj (.inr rfl) rfl rfl rfl (by rw[cF,h1,cond_true,h3];rfl))
 ·cases e
end
end Go.Ab
namespace Go.Ab
open IntKind
open Go.Proofs
section
variable{kCa kDb:Bool}
def numB(f r x y:Int):Bool:=decide (x<0)||decide (f<=x)||decide (y<0)||decide (r<=y)
def numR(f r x y:Int):Int:=bif numB f r x y then -1 else i64.wrap (i64.wrap (y*f)+x)
def hasB(s n:Int):Bool:=decide (0<=n)&&decide (n<64)&&decide ((ushr s n).tmod 2=1)
def xJ:CF
 |[.agg [.int .i64 f,.int .i64 r]],[]=>some (true,.bool (vsB f r),[])
 |_,_=>none
theorem uF:CtOk (GGx kCa kDb) PP (89,xJ):=by
 refine aE Tryz.func89 (by kernel_rfl) rfl fun a0 h0 c0 v0 N0 e hc=>?_
 unfold xJ at e
 split at e
 ·rename_i f r
  cases e
  have hE:=aC (kCa:=kCa) (kDb:=kDb) (cts:=[]) (inl:=[]) trivial trivial
  refine av hE 2 Tryz.func89 rfl rfl ?_
  repeat (first|refine ah ?_|refine sat_nd ?_)
  exact ae (aj (.inr rfl) rfl rfl rfl (by simp[vsB,CJ,Bool.and_assoc]))
 ·cases e
def sr:CF
 |[.agg [.int .i64 f,.int .i64 r],.int .i64 n],[]=>some (true,.bool (ai f r n),[])
 |_,_=>none
theorem pE:CtOk (GGx kCa kDb) PP (52,sr):=by
 refine aE Tryz.func52 (by kernel_rfl) rfl fun a0 h0 c0 v0 N0 e hc=>?_
 unfold sr at e
 split at e
 ·rename_i f r n
  cases e
  have hE:=aC (kCa:=kCa) (kDb:=kDb) (cts:=[(89,xJ)]) (inl:=[]) ⟨uF,trivial⟩ trivial
  refine av hE 2 Tryz.func52 rfl rfl ?_
  repeat (first|refine ah ?_|refine sat_nd ?_)
  exact ae (aj (.inr rfl) rfl rfl rfl rfl)
 ·cases e
def mh:CF
 |[.agg [.int .i64 f,.int .i64 r],.int .i64 x,.int .i64 y],[]=>some (true,.int .i64 (numR f r x y),[])
 |_,_=>none
theorem oa:CtOk (GGx kCa kDb) PP (54,mh):=by
 refine aE Tryz.func54 (by kernel_rfl) rfl fun a0 h0 c0 v0 N0 e hc=>?_
 unfold mh at e
 split at e
 ·rename_i f r x y
  cases e
  have hE:=aC (kCa:=kCa) (kDb:=kDb) (cts:=[]) (inl:=[]) trivial trivial
  refine av hE 2 Tryz.func54 rfl rfl ?_
  repeat (first|refine ah ?_|refine sat_nd ?_)
  refine aq (fun h1=>?_) (fun h1=>?_)
  ·have h1:numB f r x y=true:=h1
   exact ae (aj (.inr rfl) rfl rfl rfl (by rw[numR,h1];rfl))
  ·have h1:numB f r x y=false:=h1
   exact ae (aj (.inr rfl) rfl rfl rfl (by rw[numR,h1];rfl))
 ·cases e
def fk:CF
 |[.agg [.int .i64 f,.int .i64 _r],.int .i64 n],[]=>some (!decide (f=0),.agg [I (n.tmod f),I (i64.wrap (n.tdiv f))],[])
 |_,_=>none
theorem cP:CtOk (GGx kCa kDb) PP (22,fk):=by
 refine aE Tryz.func22 (by kernel_rfl) rfl fun a0 h0 c0 v0 N0 e hc=>?_
 unfold fk at e
 split at e
 ·rename_i f r n
  cases e
  have hE:=aC (kCa:=kCa) (kDb:=kDb) (cts:=[]) (inl:=[]) trivial trivial
  refine av hE 2 Tryz.func22 rfl rfl ?_
  have hc:¬ f=0:=by simpa using hc
  repeat (first|refine ah ?_|refine sat_nd ?_)
  exact ae (aj (.inr rfl) rfl rfl rfl rfl)
 ·cases e
def Aa:CF
 |[.int .u64 s,.int .i64 n],[]=>some (true,.bool (hasB s n),[])
 |_,_=>none
theorem mB:CtOk (GGx kCa kDb) PP (16,Aa):=by
 refine aE Tryz.func16 (by kernel_rfl) rfl fun a0 h0 c0 v0 N0 e hc=>?_
 unfold Aa at e
 split at e
 ·rename_i s n
  cases e
  have hE:=aC (kCa:=kCa) (kDb:=kDb) (cts:=[]) (inl:=[]) trivial trivial
  refine av hE 2 Tryz.func16 rfl rfl ?_
  repeat (first|refine ah ?_|refine sat_nd ?_)
  exact ae (aj (.inr rfl) rfl rfl rfl rfl)
 ·cases e
def cR(s:Int)(k:Nat):List Int:=((List.range k).map Int.ofNat).filter fun x=>hasB s x
theorem zH(s:Int)(k:Nat):cR s (k+1)=bif hasB s k then cR s k++[(k:Int)]else cR s k:=by
 unfold cR
 rw[List.range_succ,List.map_append,List.filter_append]
 cases h:hasB s (k:Int)<;>simp[h]
theorem DN(s:Int)(k:Nat):(cR s k).length<=k:=by
 unfold cR
 exact Nat.le_trans (List.length_filter_le _ _) (by simp)
def ofL:List Int->Int->Int
 |[],s=>s
 |x::l,s=>ofL l (bif hasB s x then s else u64.wrap (s+ushl 1 x))
theorem JA{l:List Int}{i:Nat}{x s:Int}(h:l[i]?=some x):ofL (l.drop i) s=ofL (l.drop (i+1)) (bif hasB s x then s else u64.wrap (s+ushl 1 x)):=by
 obtain⟨h1,h2⟩:=List.getElem?_eq_some_iff.1 h
 rw[List.drop_eq_getElem_cons h1,h2,ofL]
def c_Of:CF
 |[.sl 0 0 len none],[.ints false .i64 zs]=>some (decide (len=zs.length)&&decide (zs.length<=1000000)&&zs.all fun x=>decide (0<=x),.int .u64 (ofL zs 0),[])
 |_,_=>none
theorem HK:CtOk (GGx kCa kDb) PP (132,c_Of):=by
 refine aE Tryz.func132 (by kernel_rfl) rfl fun a0 h0 c0 v0 N0 e hc=>?_
 unfold c_Of at e
 split at e
 ·rename_i len zs
  cases e
  have hE:=aC (kCa:=kCa) (kDb:=kDb) (cts:=[(16,Aa)]) (inl:=[]) ⟨mB,trivial⟩ trivial
  refine av hE 2 Tryz.func132 rfl rfl ?_
  simp only[Bool.and_eq_true,decide_eq_true_eq,List.all_eq_true]at hc
  obtain⟨⟨hc1,hc2⟩,hc3⟩:=hc
  subst hc1
  refine iG hE 2 (fun a:Int×Int=>([(0,.sl 0 0 zs.length none),(3,U a.2),(4,I a.1)],[.ints false .i64 zs]))
   (fun a=>∃ k:Nat,k<=zs.length/\a.1=k/\ofL (zs.drop k) a.2=ofL zs 0) (fun a=>zs.length-a.1.toNat) (0,0)
   (Ent.ren [0] [0,3,4] rfl rfl rfl) ⟨0,by omega,rfl,rfl⟩ ?_
  rintro⟨i,set⟩ ⟨k,hk,h1,h2⟩
  dsimp only at h1 h2 ⊢
  refine aq (fun hlt=>?_) (fun hlt=>?_)
  ·simp only[decide_eq_true_eq]at hlt
   have hnext:i64.wrap (i+1)=((k+1:Nat):Int):=by rw[az (by omega) (by omega)];omega
   have hki:i.toNat=k:=by omega
   have hlt':k<zs.length:=by omega
   have hget:zs[k]?=some (zs.getD i.toNat 0):=by simp[hki,List.getD,hlt']
   have hmem:=hc3 _ (List.mem_of_getElem? hget)
   rw[JA hget]at h2
   refine ag (by simp;omega) ?_
   repeat (first|refine ah ?_|refine sat_nd ?_)
   refine aq (fun hon=>?_) (fun hon=>?_)
   ·have hon:(!hasB set (zs.getD i.toNat 0))=true:=hon
    rw[Bool.not_eq_true']at hon
    rw[hon,cond_false]at h2
    repeat (first|(first|refine ah ?_|refine sat_nd ?_)|refine ag (decide_eq_true hmem) ?_)
    refine ae ⟨(i64.wrap (i+1),_),⟨k+1,by omega,hnext,h2⟩,?_,Ent.ren [0] [0,3,4] rfl rfl rfl⟩
    show _-(i64.wrap (i+1)).toNat<_
    rw[hnext];omega
   ·have hon:(!hasB set (zs.getD i.toNat 0))=false:=hon
    rw[Bool.not_eq_false']at hon
    repeat (first|refine ah ?_|refine sat_nd ?_)
    rw[hon,cond_true]at h2
    refine ae ⟨(i64.wrap (i+1),_),⟨k+1,by omega,hnext,h2⟩,?_,Ent.ren [0] [0,3,4] rfl rfl rfl⟩
    show _-(i64.wrap (i+1)).toNat<_
    rw[hnext];omega
  ·simp only[decide_eq_false_iff_not]at hlt
   obtain rfl:k=zs.length:=by omega
   rw[List.drop_length]at h2
   exact ae (ae (aj (.inr rfl) rfl rfl rfl (by rw[<-h2];rfl)))
 ·cases e
end
section
variable{kCa kDb:Bool}
def eN(f r df dr px py:Int):Nat->Int->List Int
 |0,_=>[]
 |m+1,k=>bif decide (numR f r (i64.wrap (px+i64.wrap (k*df))) (i64.wrap (py+i64.wrap (k*dr)))<0) then[]else numR f r (i64.wrap (px+i64.wrap (k*df))) (i64.wrap (py+i64.wrap (k*dr)))::eN f r df dr px py m (i64.wrap (k+1))
def cg(f r n df dr:Int):List Int:=bif !ai f r n||(decide (df=0)&&decide (dr=0)) then[]else eN f r df dr (n.tmod f) (i64.wrap (n.tdiv f)) 8 1
theorem Da(f r df dr px py:Int)(m:Nat):∀ k,(eN f r df dr px py m k).length<=m:=by
 induction m with
 |zero=>intro k;simp[eN]
 |succ m ih=>
  intro k
  rw[eN]
  cases decide (numR f r (i64.wrap (px+i64.wrap (k*df))) (i64.wrap (py+i64.wrap (k*dr)))<0) with
  |true=>simp
  |false=>have:=ih (i64.wrap (k+1));simp;omega
theorem kS(f r n df dr:Int):(cg f r n df dr).length<=8:=by
 unfold cg
 cases(!ai f r n||(decide (df=0)&&decide (dr=0))) with
 |true=>simp
 |false=>exact Da ..
def rQ:CF
 |[.agg [.int .i64 f,.int .i64 r],.int .i64 n,.int .i64 df,.int .i64 dr],[]=>some (true,.sl 0 0 (cg f r n df dr).length none,[.ints true .i64 (cg f r n df dr)])
 |_,_=>none
theorem vS:CtOk (GGx kCa kDb) PP (43,rQ):=by
 refine aE Tryz.func43 (by kernel_rfl) rfl fun a0 h0 c0 v0 N0 e hc=>?_
 unfold rQ at e
 split at e
 ·rename_i f r n df dr
  cases e
  have hE:=aC (kCa:=kCa) (kDb:=kDb) (cts:=[(52,sr),(22,fk),(54,mh)]) (inl:=[]) ⟨pE,cP,oa,trivial⟩ trivial
  refine mR hE 2 Tryz.func43 rfl rfl ?_
  repeat (first|refine ah ?_|refine sat_nd ?_)
  refine aq (fun h0=>?_) (fun h0=>?_)
  ·have hz:cg f r n df dr=[]:=by rw[cg,show (!ai f r n||(decide (df=0)&&decide (dr=0)))=true from h0];rfl
   rw[hz]
   exact ae (Eg ((Ent.phanT (t:=8) (o:=.ints true .i64 []) rfl ⟨by simp,by simp,trivial,rfl⟩ (aG rfl))) (cC 1 (.inr rfl) rfl rfl rfl rfl rfl rfl))
  have hz:cg f r n df dr=eN f r df dr (n.tmod f) (i64.wrap (n.tdiv f)) 8 1:=by rw[cg,show (!ai f r n||(decide (df=0)&&decide (dr=0)))=false from h0];rfl
  have hv:ai f r n=true:=by cases h:ai f r n<;>simp_all
  have hf:=dh (bD hv)
  refine ag (by simp;omega) ?_
  refine iG hE 2 (fun a:Int×List Int=>([(2,I df),(3,I dr),(4,.ptr 0 0 0),(9,.ptr 1 0 0),(10,.sl 2 0 a.2.length none),(11,I a.1)],[.cells true [I f,I r],.cells true [I (n.tmod f),I (i64.wrap (n.tdiv f))],.ints true .i64 a.2]))
   (fun a=>∃ k:Nat,1<=k/\k<=9/\a.1=k/\a.2++eN f r df dr (n.tmod f) (i64.wrap (n.tdiv f)) (9-k) k=cg f r n df dr) (fun a=>9-a.1.toNat) (1,[])
   ((Ent.phanT (t:=10) (o:=.ints true .i64 []) rfl ⟨by simp,by simp,trivial,rfl⟩ (aG rfl)).trans (Ent.ren [0,1,2] [2,3,4,9,10,11] rfl rfl rfl)) ⟨1,by omega,by omega,rfl,hz.symm⟩ ?_
  rintro⟨i,zs⟩ ⟨k,hk1,hk,h1,h3⟩
  dsimp only at h1 h3 ⊢
  have hb:zs.length<=8:=by have:=congrArg List.length h3;have:=kS f r n df dr;simp at *;omega
  refine aq (fun hlt=>?_) (fun hlt=>?_)
  ·simp only[decide_eq_true_eq]at hlt
   have hnext:i64.wrap (i+1)=((k+1:Nat):Int):=by rw[az (by omega) (by omega)];omega
   rw[show 9-k=(9-(k+1))+1 by omega,eN,<-h1,hnext]at h3
   repeat (first|refine ah ?_|refine sat_nd ?_)
   refine aq (fun hon=>?_) (fun hon=>?_)
   ·have hon:decide (numR f r (i64.wrap (n.tmod f+i64.wrap (i*df))) (i64.wrap (i64.wrap (n.tdiv f)+i64.wrap (i*dr)))<0)=true:=hon
    rw[hon,cond_true,List.append_nil]at h3
    subst h3
    refine ae (ae (HW (cC 2 (.inr rfl) rfl rfl rfl rfl rfl rfl)))
   ·have hon:decide (numR f r (i64.wrap (n.tmod f+i64.wrap (i*df))) (i64.wrap (i64.wrap (n.tdiv f)+i64.wrap (i*dr)))<0)=false:=hon
    rw[hon,cond_false]at h3
    refine ag (b:=decide (zs.length=zs.length)&&decide ((zs.length+1)*8<=140737488355328)&&true) (by simp;omega) ?_
    refine ae ⟨(i64.wrap (i+1),zs++[numR f r (i64.wrap (n.tmod f+i64.wrap (i*df))) (i64.wrap (i64.wrap (n.tdiv f)+i64.wrap (i*dr)))]),⟨k+1,by omega,by omega,hnext,by rw[<-h3];simp⟩,?_,Ent.ren [0,1,4] [2,3,4,9,10,11] rfl rfl rfl⟩
    show _-(i64.wrap (i+1)).toNat<_
    rw[hnext];omega
  ·simp only[decide_eq_false_iff_not]at hlt
   obtain rfl:k=9:=by omega
   rw[eN,List.append_nil]at h3
   subst h3
   refine ae (ae (HW (cC 2 (.inr rfl) rfl rfl rfl rfl rfl rfl)))
 ·cases e
end
section
variable{kCa kDb:Bool}
def subS(s:List UInt8)(a b:Int):List UInt8:=(s.drop a.toNat).take (b.toNat-a.toNat)
def FI(f _r n:Int):List UInt8:=subS [97,98,99,100,101,102,103,104] (n.tmod f) (i64.wrap (n.tmod f+1))++subS [49,50,51,52,53,54,55,56] (i64.wrap (n.tdiv f)) (i64.wrap (i64.wrap (n.tdiv f)+1))
theorem GS{f r n:Int}(h:ai f r n=true):0<=n.tmod f/\n.tmod f<f/\0<=n.tdiv f/\n.tdiv f<r/\i64.wrap (n.tdiv f)=n.tdiv f/\i64.wrap (n.tmod f+1)=n.tmod f+1/\i64.wrap (n.tdiv f+1)=n.tdiv f+1:=by
 have hp:=qZ h
 simp only[aO,h,cond_true]at hp
 obtain⟨a1,a2,a3,a4⟩:=dh (bD h)
 have hv:0<=n:=by simp only[ai,Bool.and_eq_true,decide_eq_true_eq]at h;exact h.1.2
 have e2:n.tdiv f=n/f:=Int.tdiv_eq_ediv_of_nonneg hv
 have e3:i64.wrap (n.tdiv f)=n.tdiv f:=by rw[hp.2.2.2.2.2,e2]
 rw[e3]at hp
 refine⟨hp.1,hp.2.1,hp.2.2.1,hp.2.2.2.1,e3,az (by omega) (by omega),az (by omega) (by omega)⟩
def uy:CF
 |[.agg [.int .i64 f,.int .i64 r],.int .i64 n],[]=>some (ai f r n,.str (FI f r n),[])
 |_,_=>none
theorem nl:CtOk (GGx kCa kDb) PP (101,uy):=by
 refine aE Tryz.func101 (by kernel_rfl) rfl fun a0 h0 c0 v0 N0 e hc=>?_
 unfold uy at e
 split at e
 ·rename_i f r n
  cases e
  have hE:=aC (kCa:=kCa) (kDb:=kDb) (cts:=[(22,fk)]) (inl:=[]) ⟨cP,trivial⟩ trivial
  refine av hE 2 Tryz.func101 rfl rfl ?_
  obtain⟨a1,a2,a3,a4⟩:=dh (bD hc)
  obtain⟨b1,b2,b3,b4,b5,b6,b7⟩:=GS hc
  refine ag (by simp;omega) ?_
  repeat (first|refine ah ?_|refine ag (by first|rfl|(simp[b5,b6,b7];omega)) ?_)
  exact ae (aj (.inr rfl) rfl rfl rfl rfl)
 ·cases e
def mL(f r:Int)(s:List UInt8):Nat->Nat->Int
 |0,_=>-1
 |m+1,k=>bif FI f r k==s then k else mL f r s m (k+1)
def bX(f r:Int)(s:List UInt8):Int:=mL f r s (f*r).toNat 0
def rM:CF
 |[.agg [.int .i64 f,.int .i64 r],.str s],[]=>some (vsB f r,.int .i64 (bX f r s),[])
 |_,_=>none
theorem pO:CtOk (GGx kCa kDb) PP (100,rM):=by
 refine aE Tryz.func100 (by kernel_rfl) rfl fun a0 h0 c0 v0 N0 e hc=>?_
 unfold rM at e
 split at e
 ·rename_i f r s
  cases e
  have hE:=aC (kCa:=kCa) (kDb:=kDb) (cts:=[(101,uy)]) (inl:=[]) ⟨nl,trivial⟩ trivial
  refine av hE 2 Tryz.func100 rfl rfl ?_
  have hm:=gB hc
  have hw:=fo hc
  refine iG hE 2 (fun a:Int=>([(1,.str s),(2,.ptr 0 0 0),(5,I a)],[.cells true [I f,I r]]))
   (fun a=>∃ k:Nat,k<=(f*r).toNat/\a=k/\mL f r s ((f*r).toNat-k) k=bX f r s) (fun a=>(f*r).toNat-a.toNat) 0
   (Ent.ren [0] [1,2,5] rfl rfl rfl) ⟨0,by omega,rfl,rfl⟩ ?_
  rintro i ⟨k,hk,h1,h3⟩
  dsimp only at h1 h3 ⊢
  refine aq (fun hlt=>?_) (fun hlt=>?_)
  ·simp only[decide_eq_true_eq]at hlt
   rw[hw]at hlt
   have hnext:i64.wrap (i+1)=((k+1:Nat):Int):=by rw[az (by omega) (by omega)];omega
   rw[show (f*r).toNat-k=((f*r).toNat-(k+1))+1 by omega,mL,<-h1]at h3
   refine ag (by simp only[ai,Bool.and_eq_true,decide_eq_true_eq];rw[hw];exact⟨⟨hc,by omega⟩,hlt⟩) ?_
   refine aq (fun hon=>?_) (fun hon=>?_)
   ·have hon:(FI f r i==s)=true:=hon
    rw[hon,cond_true]at h3
    refine ae (ae (aj (.inr rfl) rfl rfl rfl (by rw[<-h3])))
   ·have hon:(FI f r i==s)=false:=hon
    rw[hon,cond_false]at h3
    refine ae ⟨i64.wrap (i+1),⟨k+1,by omega,hnext,h3⟩,?_,Ent.ren [0] [1,2,5] rfl rfl rfl⟩
    show _-(i64.wrap (i+1)).toNat<_
    rw[hnext];omega
  ·simp only[decide_eq_false_iff_not]at hlt
   rw[hw]at hlt
   obtain rfl:k=(f*r).toNat:=by omega
   rw[Nat.sub_self,mL]at h3
   refine ae (ae (aj (.inr rfl) rfl rfl rfl (by rw[<-h3])))
 ·cases e
end
end Go.Ab
namespace Go.Ab
open Go.Proofs
end Go.Ab
namespace Go.Ab
open IntKind
open Go.Proofs
theorem wY{f r X Y:Int}(h:vsB f r=true):decide ((atR f r X Y).2=0)=onB f r X Y:=by
 unfold atR
 cases h2:onB f r X Y<;>simp[h]
theorem uY{f r X Y:Int}:numB f r X Y=!onB f r X Y:=by
 rw[Bool.eq_iff_iff]
 simp only[numB,onB,Bool.or_eq_true,decide_eq_true_eq,Bool.not_eq_true',Bool.and_eq_false_iff,decide_eq_false_iff_not]
 omega
theorem tX{f r X Y:Int}(h:vsB f r=true)(h2:onB f r X Y=true):numR f r X Y=(atR f r X Y).1:=by
 simp only[numR,uY,h2,atR,h,Bool.not_true,cond_true,cond_false,Int.add_comm]
theorem mV{f r X Y:Int}(h:vsB f r=true):decide (numR f r X Y<0)=!onB f r X Y:=by
 cases h2:onB f r X Y with
 |false=>simp[numR,uY,h2]
 |true=>
  rw[tX h h2]
  have h3:=wY (X:=X) (Y:=Y) h
  rw[h2]at h3
  have:=lF (of_decide_eq_true h3)
  simp;omega
theorem iv{f r x y:Int}(h1:0<=x)(h2:x<f)(h3:0<=y)(h4:y<r):onB f r x y=true:=by simp[onB, *]
theorem LA{f r df dr px py:Int}(h:vsB f r=true)(hb:-7<=df/\df<=7/\-7<=dr/\dr<=7)(hnz:df≠0\/dr≠0)(hp:onB f r px py=true) :
  ∀ (m k:Nat),m+k=9->1<=k->onB f r (px+((k:Int)-1)*df) (py+((k:Int)-1)*dr)=true->kE f r df dr (m+1) (px+((k:Int)-1)*df) (py+((k:Int)-1)*dr)=eN f r df dr px py m k:=by
 have hv:=dh h
 have hp:=oT hp
 intro m
 induction m with
 |zero=>
  intro k hk h1 hon
  obtain rfl:k=9:=by omega
  have:=oT hon
  exfalso
  rcases hnz with e|e<;>omega
 |succ m ih=>
  intro k hk h1 hon
  have hon:=oT hon
  have hX:i64.wrap (px+((k:Int)-1)*df+df)=px+((k:Int)+1-1)*df/\i64.wrap (py+((k:Int)-1)*dr+dr)=py+((k:Int)+1-1)*dr/\i64.wrap (px+i64.wrap (k*df))=px+((k:Int)+1-1)*df/\i64.wrap (py+i64.wrap (k*dr))=py+((k:Int)+1-1)*dr/\i64.wrap ((k:Int)+1)=((k+1:Nat):Int):=by
   have hk8:k=1\/k=2\/k=3\/k=4\/k=5\/k=6\/k=7\/k=8:=by omega
   rcases hk8 with rfl|rfl|rfl|rfl|rfl|rfl|rfl|rfl <;>
   ·refine⟨?_,?_,?_,?_,?_⟩
    ·rw[az (by omega) (by omega)];omega
    ·rw[az (by omega) (by omega)];omega
    ·rw[az (n:=_*df) (by omega) (by omega),az (by omega) (by omega)];omega
    ·rw[az (n:=_*dr) (by omega) (by omega),az (by omega) (by omega)];omega
    ·rw[az (by omega) (by omega)];omega
  obtain⟨e1,e2,e3,e4,e5⟩:=hX
  rw[kE,eN,e1,e2,e3,e4,e5,wY h,mV h]
  cases h2:onB f r (px+((k:Int)+1-1)*df) (py+((k:Int)+1-1)*dr) with
  |false=>rfl
  |true=>
   rw[tX h h2]
   have:=ih (k+1) (by omega) (by omega) (by push_cast;exact h2)
   push_cast at this ⊢
   simp only[cond_true,Bool.not_true,cond_false,this]
def inR(df dr:Int):Bool:=decide (-8<=df)&&decide (df<=8)&&decide (-8<=dr)&&decide (dr<=8)
theorem Lw{df dr:Int}(h:inR df dr=true)(h2:gI df dr=true):df=8\/df=-8\/dr=8\/dr=-8:=by
 simp only[inR,Bool.and_eq_true,decide_eq_true_eq]at h
 obtain⟨⟨⟨a1,a2⟩,a3⟩,a4⟩:=h
 simp only[gI,Bool.or_eq_true,decide_eq_true_eq]at h2
 rw[az (n:=0-df) (by omega) (by omega),az (n:=0-dr) (by omega) (by omega)]at h2
 have m:∀ x y:Int,imax true x y=x\/imax true x y=y:=fun x y=>by
  unfold imax
  by_cases h:x<y<;>simp[h]
 have m1:=m df (0-df)
 have m2:=m (imax true df (0-df)) dr
 have m3:=m (imax true (imax true df (0-df)) dr) (0-dr)
 omega
theorem Iy{df dr:Int}(h:inR df dr=false):gI df dr=true:=by
 cases hb:gI df dr with
 |true=>rfl
 |false=>
  have:=Bz hb
  simp[inR]at h
  omega
theorem Hg(f r n df dr:Int):rayL f r n df dr=bif inR df dr then cg f r n df dr else[]:=by
 cases hv:ai f r n with
 |false=>simp[rayL,cg,hv]
 |true=>
  cases hz:(decide (df=0)&&decide (dr=0)) with
  |true=>simp[rayL,cg,hv,hz]
  |false=>
   have hnz:df≠0\/dr≠0:=by
    by_cases e:df=0
    ·right;rintro rfl;simp[e]at hz
    ·exact .inl e
   have hvs:=bD hv
   have hb:=dh hvs
   have hp:=qZ hv
   have hr:cg f r n df dr=eN f r df dr (aO f r n).1 (aO f r n).2.1 8 1:=by simp[cg,hv,hz,aO]
   cases hbig:gI df dr with
   |true=>
    have hl:rayL f r n df dr=[]:=by simp[rayL,hbig]
    rw[hl]
    cases hi:inR df dr with
    |false=>rfl
    |true=>
     have h8:=Lw hi hbig
     simp only[inR,Bool.and_eq_true,decide_eq_true_eq]at hi
     obtain⟨⟨⟨a1,a2⟩,a3⟩,a4⟩:=hi
     rw[cond_true,hr,eN,mV hvs]
     have hoff:onB f r (i64.wrap ((aO f r n).1+i64.wrap (1*df))) (i64.wrap ((aO f r n).2.1+i64.wrap (1*dr)))=false:=by
      rw[az (n:=1*df) (by omega) (by omega),az (n:=1*dr) (by omega) (by omega),az (by omega) (by omega),az (by omega) (by omega)]
      cases ho:onB f r ((aO f r n).1+1*df) ((aO f r n).2.1+1*dr) with
      |false=>rfl
      |true=>have:=oT ho;omega
     rw[hoff];rfl
   |false=>
    have hi:inR df dr=true:=by
     cases hi:inR df dr with
     |true=>rfl
     |false=>rw[Iy hi]at hbig;cases hbig
    have hg:=LA (f:=f) (r:=r) (df:=df) (dr:=dr) (px:=(aO f r n).1) (py:=(aO f r n).2.1) hvs (Bz hbig) hnz (iv hp.1 hp.2.1 hp.2.2.1 hp.2.2.2.1) 8 1 rfl (Nat.le_refl _) (by simpa using iv hp.1 hp.2.1 hp.2.2.1 hp.2.2.2.1)
    rw[hi,cond_true,hr]
    simp only[rayL,hv,hz,hbig,Bool.not_false,Bool.and_self,cond_true]
    simpa using hg
section
variable{kCa kDb:Bool}
theorem Ev{f:Int}(h:(!decide (f=0))=true):¬ f=0:=by simpa using h
def absI(n:Int):Int:=bif decide (n<0)then i64.wrap (0-n)else n
def zE(f a b:Int):Bool:=decide (a=b)||(!decide (i64.wrap (b.tmod f-a.tmod f)=0)&&!decide (i64.wrap (i64.wrap (b.tdiv f)-i64.wrap (a.tdiv f))=0)&&!decide (i64.wrap (b.tmod f-a.tmod f)=i64.wrap (i64.wrap (b.tdiv f)-i64.wrap (a.tdiv f)))&&!decide (i64.wrap (i64.wrap (b.tmod f-a.tmod f)+i64.wrap (i64.wrap (b.tdiv f)-i64.wrap (a.tdiv f)))=0))
def bg(f a b:Int):Int×Int×Bool:=bif zE f a b then(0,0,false) else(sgn (i64.wrap (b.tmod f-a.tmod f)),sgn (i64.wrap (i64.wrap (b.tdiv f)-i64.wrap (a.tdiv f))),true)
def uW:CF
 |[.int .i64 n],[]=>some (true,.int .i64 (sgn n),[])
 |_,_=>none
theorem zQ:CtOk (GGx kCa kDb) PP (87,uW):=by
 refine aE Tryz.func87 (by kernel_rfl) rfl fun a0 h0 c0 v0 N0 e hc=>?_
 unfold uW at e
 split at e
 ·rename_i n
  cases e
  have hE:=aC (kCa:=kCa) (kDb:=kDb) (cts:=[]) (inl:=[]) trivial trivial
  refine av hE 2 Tryz.func87 rfl rfl ?_
  repeat' first|(first|refine ah ?_|refine sat_nd ?_)|refine aq (fun h=>?_) (fun h=>?_)
  all_goals exact ae (aj (.inr rfl) rfl rfl rfl (by first|rfl|(simp only[sgn, *,cond_true,cond_false];done)|(simp only[sgn, *,cond_true,cond_false,Bool.not_true,Bool.not_false,Bool.and_true,Bool.true_and,Bool.and_false,Bool.false_and,Bool.or_true,Bool.true_or,Bool.or_false,Bool.false_or];done)|simp_all [sgn]))
 ·cases e
def BI:CF
 |[.int .i64 n],[]=>some (true,.int .i64 (absI n),[])
 |_,_=>none
theorem CX:CtOk (GGx kCa kDb) PP (156,BI):=by
 refine aE Tryz.func156 (by kernel_rfl) rfl fun a0 h0 c0 v0 N0 e hc=>?_
 unfold BI at e
 split at e
 ·rename_i n
  cases e
  have hE:=aC (kCa:=kCa) (kDb:=kDb) (cts:=[]) (inl:=[]) trivial trivial
  refine av hE 2 Tryz.func156 rfl rfl ?_
  repeat' first|(first|refine ah ?_|refine sat_nd ?_)|refine aq (fun h=>?_) (fun h=>?_)
  all_goals exact ae (aj (.inr rfl) rfl rfl rfl (by first|rfl|(simp only[absI, *,cond_true,cond_false];done)|(simp only[absI, *,cond_true,cond_false,Bool.not_true,Bool.not_false,Bool.and_true,Bool.true_and,Bool.and_false,Bool.false_and,Bool.or_true,Bool.true_or,Bool.or_false,Bool.false_or];done)|simp_all [absI]))
 ·cases e
def xh:CF
 |[.agg [.int .i64 f,.int .i64 _r],.int .i64 a,.int .i64 b],[]=>some (!decide (f=0),.tup [I (bg f a b).1,I (bg f a b).2.1,Bb (bg f a b).2.2],[])
 |_,_=>none
theorem tE:CtOk (GGx kCa kDb) PP (42,xh):=by
 refine aE Tryz.func42 (by kernel_rfl) rfl fun a0 h0 c0 v0 N0 e hc=>?_
 unfold xh at e
 split at e
 ·rename_i f r a b
  cases e
  have hE:=aC (kCa:=kCa) (kDb:=kDb) (cts:=[(22,fk),(87,uW)]) (inl:=[]) ⟨cP,zQ,trivial⟩ trivial
  refine av hE 2 Tryz.func42 rfl rfl ?_
  have hf:=Ev hc
  repeat (first|refine ah ?_|refine sat_nd ?_)
  refine aq (fun h=>?_) (fun h=>?_)
  ·have h:zE f a b=true:=h
   exact ae (aj (.inr rfl) rfl rfl rfl (by rw[bg,h];rfl))
  ·have h:zE f a b=false:=h
   repeat (first|refine ah ?_|refine sat_nd ?_)
   exact ae (aj (.inr rfl) rfl rfl rfl (by rw[bg,h];rfl))
 ·cases e
def IB:CF
 |[.bool b],[]=>some (true,.int .i64 (fwd b),[])
 |_,_=>none
theorem Ec:CtOk (GGx kCa kDb) PP (150,IB):=by
 refine aE Tryz.func150 (by kernel_rfl) rfl fun a0 h0 c0 v0 N0 e hc=>?_
 unfold IB at e
 split at e
 ·rename_i b
  cases e
  have hE:=aC (kCa:=kCa) (kDb:=kDb) (cts:=[]) (inl:=[]) trivial trivial
  refine av hE 2 Tryz.func150 rfl rfl ?_
  repeat' first|(first|refine ah ?_|refine sat_nd ?_)|refine aq (fun h=>?_) (fun h=>?_)
  all_goals exact ae (aj (.inr rfl) rfl rfl rfl (by first|rfl|(simp only[fwd, *,cond_true,cond_false];done)|(simp only[fwd, *,cond_true,cond_false,Bool.not_true,Bool.not_false,Bool.and_true,Bool.true_and,Bool.and_false,Bool.false_and,Bool.or_true,Bool.true_or,Bool.or_false,Bool.false_or];done)|simp_all [fwd]))
 ·cases e
def secR(r:Int)(bl:Bool):Int:=bif bl then i64.wrap (r-2)else 1
def oQ(f a b:Int):Int:=bif decide (absI (i64.wrap (i64.wrap (a.tdiv f)-i64.wrap (b.tdiv f)))<absI (i64.wrap (a.tmod f-b.tmod f)))then absI (i64.wrap (a.tmod f-b.tmod f))else absI (i64.wrap (i64.wrap (a.tdiv f)-i64.wrap (b.tdiv f)))
def idxL(b:Int):List Int->Nat
 |[]=>0
 |x::l=>bif decide (x=b)then 0 else idxL b l+1
def hasL(b:Int):List Int->Bool
 |[]=>false
 |x::l=>decide (x=b)||hasL b l
def cW(f r a b:Int):List Int:=cg f r a (bg f a b).1 (bg f a b).2.1
def aW(f r a b:Int):List Int:=bif hasL b (cW f r a b) then(cW f r a b).take (idxL b (cW f r a b)) else[]
def dL(s:Int):List Int->Bool
 |[]=>true
 |x::l=>bif hasB s x then false else dL s l
theorem Et{s:Int}{l:List Int}{i:Nat}(h:i<l.length):dL s (l.drop i)=bif hasB s (l.getD i 0)then false else dL s (l.drop (i+1)):=by
 rw[List.drop_eq_getElem_cons h,dL];simp[List.getD,h]
theorem Cf{b:Int}{l:List Int}{i:Nat}(h:i<l.length):hasL b (l.drop i)=(decide (l.getD i 0=b)||hasL b (l.drop (i+1))):=by
 rw[List.drop_eq_getElem_cons h,hasL];simp[List.getD,h]
theorem Jw{b:Int}{l:List Int}{i:Nat}(h:i<l.length):idxL b (l.drop i)=bif decide (l.getD i 0=b)then 0 else idxL b (l.drop (i+1))+1:=by
 rw[List.drop_eq_getElem_cons h,idxL];simp[List.getD,h]
def Bp:CF
 |[.agg [.int .i64 f,.int .i64 _r],.int .i64 a,.int .i64 b],[]=>some (!decide (f=0),.int .i64 (oQ f a b),[])
 |_,_=>none
theorem BU:CtOk (GGx kCa kDb) PP (151,Bp):=by
 refine aE Tryz.func151 (by kernel_rfl) rfl fun a0 h0 c0 v0 N0 e hc=>?_
 unfold Bp at e
 split at e
 ·rename_i f r a b
  cases e
  have hE:=aC (kCa:=kCa) (kDb:=kDb) (cts:=[(22,fk),(156,BI)]) (inl:=[]) ⟨cP,CX,trivial⟩ trivial
  refine av hE 2 Tryz.func151 rfl rfl ?_
  have hf:=Ev hc
  repeat (first|refine ah ?_|refine sat_nd ?_)
  refine aq (fun h=>?_) (fun h=>?_)
  all_goals
   repeat (first|refine ah ?_|refine sat_nd ?_)
   exact ae (aj (.inr rfl) rfl rfl rfl (by simp only[oQ, *,cond_true,cond_false]))
 ·cases e
def Dd:CF
 |[.sl 0 0 len none,.int .u64 s],[.ints false .i64 zs]=>some (decide (len=zs.length)&&decide (zs.length<=1000000),.bool (dL s zs),[])
 |_,_=>none
theorem Bo:CtOk (GGx kCa kDb) PP (152,Dd):=by
 refine aE Tryz.func152 (by kernel_rfl) rfl fun a0 h0 c0 v0 N0 e hc=>?_
 unfold Dd at e
 split at e
 ·rename_i len s zs
  cases e
  have hE:=aC (kCa:=kCa) (kDb:=kDb) (cts:=[(16,Aa)]) (inl:=[]) ⟨mB,trivial⟩ trivial
  refine av hE 2 Tryz.func152 rfl rfl ?_
  simp only[Bool.and_eq_true,decide_eq_true_eq]at hc
  obtain⟨rfl,hc2⟩:=hc
  refine bU hE 2 (fun i (_:Unit)=>([(0,.sl 0 0 zs.length none),(1,U s),(5,I i)],[.ints false .i64 zs])) zs.length (fun j _=>dL s (zs.drop j)=dL s zs) () (by omega) (Ent.ren [0] [0,1,5] rfl rfl rfl) rfl ?_
  intro j i _ hij hj hz
  refine aq (fun hlt=>?_) (fun hlt=>?_)
  ·have hlt':j<zs.length:=by simp at hlt;omega
   rw[Et hlt',show j=i.toNat by omega]at hz
   refine ag (by simp;omega) ?_
   repeat (first|refine ah ?_|refine sat_nd ?_)
   refine aq (fun hon=>?_) (fun hon=>?_)
   ·have hon:hasB s (zs.getD i.toNat 0)=true:=hon
    rw[hon]at hz
    exact ae (ae (aj (.inr rfl) rfl rfl rfl (by rw[<-hz];rfl)))
   ·have hon:hasB s (zs.getD i.toNat 0)=false:=hon
    rw[hon]at hz
    exact ae ⟨hlt',(),by rw[<-hz,show i.toNat=j by omega];rfl,Ent.ren [0] [0,1,5] rfl rfl rfl⟩
  ·obtain rfl:j=zs.length:=by simp at hlt;omega
   rw[List.drop_length]at hz
   exact ae (ae (aj (.inr rfl) rfl rfl rfl (by rw[<-hz];rfl)))
 ·cases e
end
section
variable{kCa kDb:Bool}
theorem HD(b:Int)(l:List Int):idxL b l<=l.length:=by
 induction l with
 |nil=>simp[idxL]
 |cons x l ih=>rw[idxL];cases decide (x=b)<;>simp<;>omega
theorem nS(f r a b:Int):(aW f r a b).length=bif hasL b (cW f r a b)then idxL b (cW f r a b)else 0:=by
 unfold aW
 have:=HD b (cW f r a b)
 cases hasL b (cW f r a b)<;>simp;omega
def kq(f r a b:Int):List Int:=bif hasL b (cW f r a b)then cW f r a b else[]
theorem ki(f r a b:Int):((kq f r a b).drop 0).take (aW f r a b).length=aW f r a b:=by
 rw[nS]
 unfold kq aW
 cases hasL b (cW f r a b)<;>simp
theorem Be(f r a b:Int):(kq f r a b).length<=8:=by
 unfold kq cW
 cases hasL b _<;>simp[kS]
theorem kG(f r a b:Int):(aW f r a b).length<=8:=by
 rw[<-ki,List.length_take]
 have:=Be f r a b
 simp;omega
def ju:CF
 |[.agg [.int .i64 f,.int .i64 r],.int .i64 a,.int .i64 b],[]=>some (!decide (f=0),.sl 0 0 (aW f r a b).length none,[.ints true .i64 (kq f r a b)])
 |_,_=>none
theorem lf:CtOk (GGx kCa kDb) PP (15,ju):=by
 refine aE Tryz.func15 (by kernel_rfl) rfl fun a0 h0 c0 v0 N0 e hc=>?_
 unfold ju at e
 split at e
 ·rename_i f r a b
  cases e
  have hE:=aC (kCa:=kCa) (kDb:=kDb) (cts:=[(42,xh),(43,rQ)]) (inl:=[]) ⟨tE,vS,trivial⟩ trivial
  refine mR hE 2 Tryz.func15 rfl rfl ?_
  have hf:=Ev hc
  repeat (first|refine ah ?_|refine sat_nd ?_)
  obtain⟨zs,hzs⟩:∃ zs,cg f r a (bg f a b).1 (bg f a b).2.1=zs:=⟨_,rfl⟩
  have hlen:=kS f r a (bg f a b).1 (bg f a b).2.1
  rw[hzs]at hlen ⊢
  have hZ:cW f r a b=zs:=hzs
  refine bU hE 2 (fun i (_:Unit)=>([(2,I b),(6,.nils),(10,.sl 1 0 zs.length none),(11,I i)],[.cells true [I f,I r],.ints true .i64 zs])) zs.length (fun j _=>hasL b (zs.drop j)=hasL b zs/\(hasL b zs=true->idxL b (zs.drop j)+j=idxL b zs)) () (by omega) (Ent.ren [0,1] [2,6,10,11] rfl rfl rfl) ⟨rfl,fun _=>rfl⟩ ?_
  intro j i _ hij hj hz
  obtain⟨hz1,hz2⟩:=hz
  refine aq (fun hlt=>?_) (fun hlt=>?_)
  ·have hlt':j<zs.length:=by simp at hlt;omega
   rw[Cf hlt',show j=i.toNat by omega]at hz1
   rw[Jw hlt',show j=i.toNat by omega]at hz2
   refine ag (by simp;omega) ?_
   repeat (first|refine ah ?_|refine sat_nd ?_)
   refine aq (fun hon=>?_) (fun hon=>?_)
   ·have hon:decide (zs.getD i.toNat 0=b)=true:=hon
    rw[hon]at hz1 hz2
    have hx:hasL b zs=true:=hz1.symm
    have hy:i.toNat=idxL b zs:=by have:=hz2 hx;simpa using this
    refine ag (by simp;omega) ?_
    refine ae (ae (HW (cC 1 (.inr rfl) rfl rfl rfl rfl (by simp only[kq,hZ,hx,cond_true];rfl) (by rw[nS,hZ,hx,cond_true,<-hy];rfl))))
   ·have hon:decide (zs.getD i.toNat 0=b)=false:=hon
    rw[hon,Bool.false_or]at hz1
    rw[hon,cond_false]at hz2
    exact ae ⟨hlt',(),⟨by rw[<-hz1,show i.toNat=j by omega],fun h=>by have:=hz2 h;rw[show i.toNat=j by omega]at this;omega⟩,Ent.ren [0,1] [2,6,10,11] rfl rfl rfl⟩
  ·obtain rfl:j=zs.length:=by simp at hlt;omega
   rw[List.drop_length]at hz1
   have hx:hasL b zs=false:=hz1.symm
   refine ae (ae ?_)
   refine Eg ((Ent.phanT (t:=6) (o:=.ints true .i64 []) rfl ⟨by simp,by simp,trivial,rfl⟩ (aG rfl))) (cC 2 (.inr rfl) rfl rfl rfl rfl (by simp only[kq,hZ,hx,cond_false];rfl) (by rw[nS,hZ,hx];rfl))
 ·cases e
def aQ(f r kd a b occ:Int):Bool:=
 bif decide (kd=2)then decide (i64.wrap (i64.wrap (i64.wrap (b.tmod f-a.tmod f)*i64.wrap (b.tmod f-a.tmod f))+i64.wrap (i64.wrap (i64.wrap (b.tdiv f)-i64.wrap (a.tdiv f))*i64.wrap (i64.wrap (b.tdiv f)-i64.wrap (a.tdiv f))))=5)
 else bif decide (kd=6)then decide (oQ f a b=1)
 else(bg f a b).2.2&&(decide (kd=5)||((decide (i64.wrap (b.tmod f-a.tmod f)=0)||decide (i64.wrap (i64.wrap (b.tdiv f)-i64.wrap (a.tdiv f))=0))==decide (kd=4)))&&dL occ (aW f r a b)
def oH:CF
 |[.agg [.int .i64 f,.int .i64 r],.int .i8 kd,.int .i64 a,.int .i64 b,.int .u64 occ],[]=>some (!decide (f=0),.bool (aQ f r kd a b occ),[])
 |_,_=>none
theorem tZ:CtOk (GGx kCa kDb) PP (135,oH):=by
 refine aE Tryz.func135 (by kernel_rfl) rfl fun a0 h0 c0 v0 N0 e hc=>?_
 unfold oH at e
 split at e
 ·rename_i f r kd a b occ
  cases e
  have hE:=aC (kCa:=kCa) (kDb:=kDb) (cts:=[(22,fk),(151,Bp),(42,xh),(15,ju),(152,Dd)]) (inl:=[]) ⟨cP,BU,tE,lf,Bo,trivial⟩ trivial
  refine av hE 2 Tryz.func135 rfl rfl ?_
  have hf:=Ev hc
  repeat (first|refine ah ?_|refine sat_nd ?_)
  refine aq (fun h1=>?_) (fun h1=>?_)
  ·repeat (first|refine ah ?_|refine sat_nd ?_)
   exact ae (aj (.inr rfl) rfl rfl rfl (by rw[aQ,h1];rfl))
  refine aq (fun h2=>?_) (fun h2=>?_)
  ·repeat (first|refine ah ?_|refine sat_nd ?_)
   exact ae (aj (.inr rfl) rfl rfl rfl (by rw[aQ,h1,h2];rfl))
  have ht:=ki f r a b
  have hl:=kG f r a b
  repeat (first|refine ah ?_|refine sat_nd ?_)
  refine aq (fun h3=>?_) (fun h3=>?_)
  ·repeat (first|refine ah ?_|refine sat_nd ?_)
   refine ag (by rw[ht];simp;omega) ?_
   repeat (first|refine ah ?_|refine sat_nd ?_)
   exact ae (aj (.inr rfl) rfl rfl rfl (by
    show V.bool (dL occ (((kq f r a b).drop 0).take (aW f r a b).length))=_
    rw[ht,aQ,h1,h2,cond_false,cond_false,h3];rfl))
  ·repeat (first|refine ah ?_|refine sat_nd ?_)
   exact ae (aj (.inr rfl) rfl rfl rfl (by rw[aQ,h1,h2,cond_false,cond_false,h3];rfl))
 ·cases e
end
abbrev px(f n:Int):Int:=n.tmod f
abbrev py(f n:Int):Int:=n.tdiv f
theorem dR{f r n:Int}(h:ai f r n=true):0<=px f n/\px f n<f/\0<=py f n/\py f n<r/\i64.wrap (py f n)=py f n/\3<=f/\f<=8/\3<=r/\r<=8:=by
 obtain⟨b1,b2,b3,b4,b5,_,_⟩:=GS h
 have:=dh (bD h)
 exact⟨b1,b2,b3,b4,b5,this.1,this.2.1,this.2.2.1,this.2.2.2⟩
theorem tP{f r n:Int}(_h:ai f r n=true):px f n+py f n*f=n:=by
 have:=Int.tmod_add_mul_tdiv n f
 rw[Int.mul_comm]at this
 exact this
theorem kB{f X Y x y:Int}(hf:0<f)(h1:0<=X)(h2:X<f)(h3:0<=x)(h4:x<f)(h:X+Y*f=x+y*f):X=x/\Y=y:=by
 have e:(Y-y)*f=x-X:=by rw[Int.sub_mul];omega
 have hz:Y-y=0:=by
  rcases Int.lt_trichotomy (Y-y) 0 with h|h|h
  ·have:(Y-y)*f<=-1*f:=Int.mul_le_mul_of_nonneg_right (by omega) (by omega)
   omega
  ·exact h
  ·have:1*f<=(Y-y)*f:=Int.mul_le_mul_of_nonneg_right (by omega) (by omega)
   omega
 rw[hz,Int.zero_mul]at e
 omega
theorem gk{f r X Y b:Int}(hv:vsB f r=true)(ho:onB f r X Y=true)(hb:ai f r b=true):numR f r X Y=b↔px f b=X/\py f b=Y:=by
 have h:=wY (X:=X) (Y:=Y) hv
 rw[ho]at h
 have hp:=lF (of_decide_eq_true h)
 have hx:=oT ho
 have hq:=dR hb
 rw[tX hv ho,hp.2.2.2.2]
 constructor
 ·intro e
  rw[<-tP hb]at e
  have:=kB (by omega) hx.1 hx.2.1 hq.1 hq.2.1 e
  exact⟨this.1.symm,this.2.symm⟩
 ·rintro⟨rfl,rfl⟩;exact tP hb
theorem gK{f r a b:Int}(ha:ai f r a=true)(hb:ai f r b=true):a=b↔px f a=px f b/\py f a=py f b:=by
 constructor
 ·rintro rfl;exact⟨rfl,rfl⟩
 ·rintro⟨h1,h2⟩;rw[<-tP ha,<-tP hb,h1,h2]
def unit(df dr:Int):Prop:=-1<=df/\df<=1/\-1<=dr/\dr<=1/\(df≠0\/dr≠0)
theorem bj{df dr:Int}(h:unit df dr):(df=1/\dr=0)\/(df=0/\dr=1)\/(df=-1/\dr=0)\/(df=0/\dr=-1)\/(df=1/\dr=1)\/(df=-1/\dr=1)\/(df=-1/\dr=-1)\/(df=1/\dr=-1):=by
 obtain⟨h1,h2,h3,h4,h5⟩:=h
 omega
theorem Gs{df dr x y:Int}(hu:unit df dr)(hx:0<=x/\x<=7)(hy:0<=y/\y<=7){k:Nat}(hk:k<=9):i64.wrap (x+i64.wrap (k*df))=x+k*df/\i64.wrap (y+i64.wrap (k*dr))=y+k*dr/\i64.wrap ((k:Int)+1)=((k+1:Nat):Int):=by
 rcases bj hu with⟨rfl,rfl⟩|⟨rfl,rfl⟩|⟨rfl,rfl⟩|⟨rfl,rfl⟩|⟨rfl,rfl⟩|⟨rfl,rfl⟩|⟨rfl,rfl⟩|⟨rfl,rfl⟩ <;>
 ·refine⟨?_,?_,?_⟩
  ·rw[az (n:=(k:Int)*_) (by omega) (by omega),az (by omega) (by omega)]
  ·rw[az (n:=(k:Int)*_) (by omega) (by omega),az (by omega) (by omega)]
  ·rw[az (by omega) (by omega)];omega
theorem Jy{f r df dr x y b:Int}(hv:vsB f r=true)(hu:unit df dr)(ho:onB f r x y=true)(hb:ai f r b=true):∀ (m k:Nat),m+k=9->1<=k ->
  (hasL b (eN f r df dr x y m k)=true↔∃ i:Nat,k<=i/\i<=8/\px f b=x+i*df/\py f b=y+i*dr):=by
 have hx:=oT ho
 have hq:=dR hb
 intro m
 induction m with
 |zero=>intro k hk h1;simp only[eN,hasL];exact⟨fun h=>(by cases h),fun⟨i,h2,h3,_⟩=>by omega⟩
 |succ m ih=>
  intro k hk h1
  obtain⟨e1,e2,e3⟩:=Gs (x:=x) (y:=y) hu ⟨by omega,by omega⟩ ⟨by omega,by omega⟩ (k:=k) (by omega)
  rw[eN,e1,e2,e3,mV hv]
  cases h2:onB f r (x+(k:Int)*df) (y+(k:Int)*dr) with
  |false=>
   simp only[Bool.not_false,cond_true,hasL]
   refine⟨fun h=>(by cases h),fun⟨i,h3,h4,h5,h6⟩=>?_⟩
   have:onB f r (x+(k:Int)*df) (y+(k:Int)*dr)=true:=by
    rcases bj hu with⟨rfl,rfl⟩|⟨rfl,rfl⟩|⟨rfl,rfl⟩|⟨rfl,rfl⟩|⟨rfl,rfl⟩|⟨rfl,rfl⟩|⟨rfl,rfl⟩|⟨rfl,rfl⟩<;>exact iv (by omega) (by omega) (by omega) (by omega)
   rw[h2]at this;cases this
  |true=>
   simp only[Bool.not_true,cond_false,hasL,Bool.or_eq_true,decide_eq_true_eq]
   rw[gk hv h2 hb,ih (k+1) (by omega) (by omega)]
   constructor
   ·rintro(⟨h3,h4⟩|⟨i,h3,h4,h5⟩)
    ·exact⟨k,Nat.le_refl _,by omega,h3,h4⟩
    ·exact⟨i,by omega,h4,h5⟩
   ·rintro⟨i,h3,h4,h5,h6⟩
    rcases Nat.lt_or_ge k i with h|h
    ·exact .inr ⟨i,h,h4,h5,h6⟩
    ·obtain rfl:i=k:=by omega
     exact .inl ⟨h5,h6⟩
theorem HM{df dr:Int}(hu:unit df dr):(decide (df=0)&&decide (dr=0))=false:=by
 obtain⟨_,_,_,_,h⟩:=hu
 simp only[Bool.and_eq_false_iff,decide_eq_false_iff_not];exact h
theorem Gv{f r a df dr:Int}(ha:ai f r a=true)(hu:unit df dr):cg f r a df dr=eN f r df dr (px f a) (py f a) 8 ((1:Nat):Int):=by
 have hp:=dR ha
 simp[cg,ha,HM hu,hp.2.2.2.2.1]
theorem qi{f r a b df dr:Int}(ha:ai f r a=true)(hb:ai f r b=true)(hu:unit df dr) :
  hasL b (cg f r a df dr)=true↔∃ i:Nat,1<=i/\i<=8/\px f b=px f a+i*df/\py f b=py f a+i*dr:=by
 have hp:=dR ha
 rw[Gv ha hu]
 exact Jy (bD ha) hu (iv hp.1 hp.2.1 hp.2.2.1 hp.2.2.2.1) hb 8 1 rfl (Nat.le_refl _)
theorem jt(n:Int):(n<0/\sgn n=-1)\/(n=0/\sgn n=0)\/(0<n/\sgn n=1):=by
 unfold sgn
 rcases Int.lt_trichotomy n 0 with h|h|h
 ·left;simp[h]
 ·right;left;simp[h]
 ·right;right
  have:¬ n<0:=by omega
  simp[h,this]
theorem gu{f r a b:Int}(ha:ai f r a=true)(hb:ai f r b=true):i64.wrap (b.tmod f-a.tmod f)=px f b-px f a/\i64.wrap (i64.wrap (b.tdiv f)-i64.wrap (a.tdiv f))=py f b-py f a:=by
 have hp:=dR ha
 have hq:=dR hb
 show i64.wrap (px f b-px f a)=_/\i64.wrap (i64.wrap (py f b)-i64.wrap (py f a))=_
 rw[hp.2.2.2.2.1,hq.2.2.2.2.1]
 exact⟨az (by omega) (by omega),az (by omega) (by omega)⟩
def onLine(x y:Int):Prop:=(x≠0\/y≠0)/\(x=0\/y=0\/x=y\/x=-y)
theorem Eu{f r a b:Int}(ha:ai f r a=true)(hb:ai f r b=true):zE f a b=false↔onLine (px f b-px f a) (py f b-py f a):=by
 have hp:=dR ha
 have hq:=dR hb
 obtain⟨e1,e2⟩:=gu ha hb
 unfold zE
 rw[e1,e2,az (by omega) (by omega)]
 simp only[Bool.or_eq_false_iff,Bool.and_eq_false_iff,decide_eq_false_iff_not,Bool.not_eq_false',decide_eq_true_eq]
 rw[gK ha hb]
 unfold onLine
 omega
theorem lz{f r a b:Int}(ha:ai f r a=true)(hb:ai f r b=true):(bg f a b=(0,0,false)/\¬ onLine (px f b-px f a) (py f b-py f a))\/(bg f a b=(sgn (px f b-px f a),sgn (py f b-py f a),true)/\onLine (px f b-px f a) (py f b-py f a)):=by
 obtain⟨e1,e2⟩:=gu ha hb
 have h:=Eu ha hb
 unfold bg
 rw[e1,e2]
 cases hl:zE f a b with
 |true=>left;rw[hl]at h;exact⟨rfl,fun h2=>by have:=h.2 h2;cases this⟩
 |false=>right;exact⟨rfl,h.1 hl⟩
theorem xT{x y:Int}(h:onLine x y):unit (sgn x) (sgn y):=by
 obtain⟨h1,_⟩:=h
 unfold unit
 have:=jt x
 have:=jt y
 omega
theorem lZ{f r a b:Int}(ha:ai f r a=true)(hb:ai f r b=true)(h:(bg f a b).2.2=true):unit (bg f a b).1 (bg f a b).2.1/\hasL b (cW f r a b)=true:=by
 have hp:=dR ha
 have hq:=dR hb
 rcases lz ha hb with⟨e,_⟩|⟨e,h2⟩
 ·rw[e]at h;cases h
 ·rw[e]
  refine⟨xT h2,?_⟩
  unfold cW
  rw[e]
  rw[qi ha hb (xT h2)]
  obtain⟨h3,h4⟩:=h2
  have s1:=jt (px f b-px f a)
  have s2:=jt (py f b-py f a)
  rcases s1 with⟨g1,s1⟩|⟨g1,s1⟩|⟨g1,s1⟩<;>rcases s2 with⟨g2,s2⟩|⟨g2,s2⟩|⟨g2,s2⟩<;>simp only[s1,s2] <;>
  first
   | (exfalso;omega)
   |exact⟨(px f b-px f a).natAbs,by omega,by omega,by omega,by omega⟩
   |exact⟨(py f b-py f a).natAbs,by omega,by omega,by omega,by omega⟩
theorem yd{f r a b df dr:Int}(ha:ai f r a=true)(hb:ai f r b=true)(hu:unit df dr)(h:hasL b (cg f r a df dr)=true):bg f a b=(df,dr,true):=by
 have hp:=dR ha
 have hq:=dR hb
 obtain⟨i,h1,h2,h3,h4⟩:=(qi ha hb hu).1 h
 have s1:=jt (px f b-px f a)
 have s2:=jt (py f b-py f a)
 rcases lz ha hb with⟨e,h5⟩|⟨e,_⟩
 ·exfalso
  apply h5
  unfold onLine
  rcases bj hu with⟨rfl,rfl⟩|⟨rfl,rfl⟩|⟨rfl,rfl⟩|⟨rfl,rfl⟩|⟨rfl,rfl⟩|⟨rfl,rfl⟩|⟨rfl,rfl⟩|⟨rfl,rfl⟩<;>omega
 ·rw[e]
  have e1:sgn (px f b-px f a)=df:=by rcases bj hu with⟨rfl,rfl⟩|⟨rfl,rfl⟩|⟨rfl,rfl⟩|⟨rfl,rfl⟩|⟨rfl,rfl⟩|⟨rfl,rfl⟩|⟨rfl,rfl⟩|⟨rfl,rfl⟩<;>omega
  have e2:sgn (py f b-py f a)=dr:=by rcases bj hu with⟨rfl,rfl⟩|⟨rfl,rfl⟩|⟨rfl,rfl⟩|⟨rfl,rfl⟩|⟨rfl,rfl⟩|⟨rfl,rfl⟩|⟨rfl,rfl⟩|⟨rfl,rfl⟩<;>omega
  rw[e1,e2]
theorem hH{f r X Y:Int}(hv:vsB f r=true)(ho:onB f r X Y=true):ai f r (X+Y*f)=true/\px f (X+Y*f)=X/\py f (X+Y*f)=Y:=by
 have hb:=dh hv
 have hx:=oT ho
 have hm:=gB hv
 have e1:0<=Y*f:=Int.mul_nonneg hx.2.2.1 (by omega)
 have e2:(Y+1)*f<=r*f:=Int.mul_le_mul_of_nonneg_right (by omega) (by omega)
 rw[Int.add_mul,Int.mul_comm r f]at e2
 have hval:ai f r (X+Y*f)=true:=by
  simp only[ai,Bool.and_eq_true,decide_eq_true_eq]
  rw[fo hv]
  exact⟨⟨hv,by omega⟩,by omega⟩
 have hq:=dR hval
 have:=kB (f:=f) (by omega) hx.1 hx.2.1 hq.1 hq.2.1 (tP hval).symm
 exact⟨hval,this.1.symm,this.2.symm⟩
theorem aB{f r n:Int}(h:ai f r n=true):0<=n/\n<f*r/\n<64:=by
 have hm:=gB (bD h)
 simp only[ai,Bool.and_eq_true,decide_eq_true_eq]at h
 rw[fo h.1.1]at h
 exact⟨h.1.2,h.2,by omega⟩
theorem sg{f r n:Int}(hv:vsB f r=true)(h1:0<=n)(h2:n<f*r):ai f r n=true:=by
 simp only[ai,Bool.and_eq_true,decide_eq_true_eq]
 rw[fo hv]
 exact⟨⟨hv,h1⟩,h2⟩
theorem nZ{s n:Int}(hs:Uk s):hasB s n=(decide (0<=n)&&decide (n<64)&&bt s n.toNat):=by
 unfold hasB
 by_cases h1:0<=n
 ·by_cases h2:n<64
  ·simp only[h1,h2,decide_true,Bool.true_and]
   rw[Dp hs h1 h2]
   unfold bt
   have:(((s.toNat >>> n.toNat:Nat):Int).tmod 2)=((s.toNat >>> n.toNat%2:Nat):Int):=by
    rw[Int.tmod_eq_emod_of_nonneg (Int.natCast_nonneg _)];norm_cast
   rw[this]
   have h3:s.toNat.testBit n.toNat=(s.toNat >>> n.toNat).testBit 0:=by rw[Nat.testBit_shiftRight,Nat.add_zero]
   rw[h3,Nat.testBit_zero]
   congr 1
   exact propext ⟨fun h=>by omega,fun h=>by omega⟩
  ·simp[h2]
 ·simp[h1]
theorem dz{f r s n:Int}(hs:Uk s)(hn:ai f r n=true):hasB s n=bt s n.toNat:=by
 have:=aB hn
 rw[nZ hs];simp[this.1,this.2.2]
theorem dG{f r a df dr x:Int}(ha:ai f r a=true)(h:x∈cg f r a df dr):ai f r x=true:=by
 have hv:=bD ha
 have key:∀ (m:Nat) (k:Int),x∈eN f r df dr (a.tmod f) (i64.wrap (a.tdiv f)) m k->ai f r x=true:=by
  intro m
  induction m with
  |zero=>intro k h;simp[eN]at h
  |succ m ih=>
   intro k h
   rw[eN,mV hv]at h
   cases h2:onB f r (i64.wrap (a.tmod f+i64.wrap (k*df))) (i64.wrap (i64.wrap (a.tdiv f)+i64.wrap (k*dr))) with
   |false=>rw[h2]at h;simp at h
   |true=>
    rw[h2]at h
    simp only[Bool.not_true,cond_false,List.mem_cons]at h
    rcases h with rfl|h
    ·have h3:=wY (X:=i64.wrap (a.tmod f+i64.wrap (k*df))) (Y:=i64.wrap (i64.wrap (a.tdiv f)+i64.wrap (k*dr))) hv
     rw[h2]at h3
     have hp:=lF (of_decide_eq_true h3)
     rw[tX hv h2,hp.2.2.2.2]
     exact(hH hv h2).1
    ·exact ih _ h
 unfold cg at h
 cases hc:(!ai f r a||(decide (df=0)&&decide (dr=0))) with
 |true=>rw[hc]at h;simp at h
 |false=>rw[hc,cond_false]at h;exact key _ _ h
def OnS(f r s:Int):Prop:=∀ m,m<64->bt s m=true->ai f r m=true
theorem uM{α:Type}(step:Int->α->Int)(p:α->Nat->Bool):∀ (rs:List α) (s:Int),(∀ s row,row∈rs->Uk s->Uk (step s row)/\∀ m,bt (step s row) m=(bt s m||p row m))->Uk s->Uk (rs.foldl step s)/\∀ m,bt (rs.foldl step s) m=(bt s m||rs.any (p · m))
 |[],s,_,hs=>⟨hs,fun m=>by simp⟩
 |row::rs,s,h,hs=>by
  obtain⟨h1,h2⟩:=h s row (by simp) hs
  obtain⟨h3,h4⟩:=uM step p rs (step s row) (fun s r hr=>h s r (by simp[hr])) h1
  refine⟨h3,fun m=>?_⟩
  rw[List.foldl_cons,h4,h2,List.any_cons,Bool.or_assoc]
def lI(f r a:Int)(row:List Int)(m:Nat):Bool:=ai f r m&&decide (px f m-px f a=row.getD 0 0)&&decide (py f m-py f a=row.getD 1 0)
theorem ox{f r a:Int}(ha:ai f r a=true)(rs:List (List Int))(hrs:∀ row∈rs,-8<=row.getD 0 0/\row.getD 0 0<=8/\-8<=row.getD 1 0/\row.getD 1 0<=8):Uk (bW f r a rs)/\∀ m,bt (bW f r a rs) m=rs.any (lI f r a · m):=by
 have hv:=bD ha
 have hp:=dR ha
 have hpl:(aO f r a).1=px f a/\(aO f r a).2.1=py f a:=by simp only[aO,ha,cond_true];exact⟨by first|rfl|trivial,hp.2.2.2.2.1⟩
 have h:=uM (fZ f r (aO f r a).1 (aO f r a).2.1) (lI f r a) rs 0 ?_ uk_0
 ·refine⟨h.1,fun m=>?_⟩
  unfold bW
  rw[h.2,bt_0,Bool.false_or]
 ·intro s row hrow hs
  have hb:=hrs row hrow
  unfold fZ tJ
  rw[hpl.1,hpl.2,az (n:=px f a+_) (by omega) (by omega),az (n:=py f a+_) (by omega) (by omega),wY hv]
  cases ho:onB f r (px f a+row.getD 0 0) (py f a+row.getD 1 0) with
  |false=>
   refine⟨hs,fun m=>?_⟩
   rw[cond_false]
   have:lI f r a row m=false:=by
    cases hl:lI f r a row m with
    |false=>rfl
    |true=>
     simp only[lI,Bool.and_eq_true,decide_eq_true_eq]at hl
     have hq:=dR hl.1.1
     have:onB f r (px f a+row.getD 0 0) (py f a+row.getD 1 0)=true:=iv (by omega) (by omega) (by omega) (by omega)
     rw[ho]at this;cases this
   rw[this,Bool.or_false]
  |true=>
   rw[cond_true]
   have h3:=wY (X:=px f a+row.getD 0 0) (Y:=py f a+row.getD 1 0) hv
   rw[ho]at h3
   have hq:=lF (of_decide_eq_true h3)
   obtain⟨v1,v2,v3⟩:=hH hv ho
   rw[<-hq.2.2.2.2]at v1 v2 v3
   generalize (atR f r (px f a+row.getD 0 0) (py f a+row.getD 1 0)).1=x at *
   refine⟨gi _ _,fun m=>?_⟩
   rw[eI hs (eM _ _),dS hq.1 hq.2.1]
   congr 1
   unfold lI
   by_cases e:x=(m:Int)
   ·subst e
    simp only[v1,decide_true,Bool.true_and]
    rw[v2,v3];simp;omega
   ·simp only[e,decide_false]
    symm
    cases hl:(ai f r m&&decide (px f m-px f a=row.getD 0 0)&&decide (py f m-py f a=row.getD 1 0)) with
    |false=>rfl
    |true=>
     simp only[Bool.and_eq_true,decide_eq_true_eq]at hl
     exact absurd ((gK v1 hl.1.1).2 ⟨by omega,by omega⟩) e
def hitB(occ:Int)(m:Int):List Int->Bool
 |[]=>false
 |x::l=>decide (x=m)||(!bt occ x.toNat&&hitB occ m l)
theorem qc{occ:Int}(ho:Uk occ):∀ (L:List Int) (s:Int),(∀ x∈L,0<=x/\x<64)->Uk s->Uk (dx occ L s)/\∀ m:Nat,bt (dx occ L s) m=(bt s m||hitB occ m L)
 |[],s,_,hs=>⟨hs,fun m=>by simp[dx,hitB]⟩
 |x::L,s,hL,hs=>by
  have hx:=hL x (by simp)
  unfold dx
  rw[pX ho hx.1 hx.2]
  cases hb:bt occ x.toNat with
  |true=>
   refine⟨gi _ _,fun m=>?_⟩
   rw[cond_true,eI hs (eM _ _),dS hx.1 hx.2]
   simp[hitB,hb]
  |false=>
   obtain⟨h1,h2⟩:=qc ho L (uor s (ushl 1 x)) (fun y hy=>hL y (by simp[hy])) (gi _ _)
   refine⟨h1,fun m=>?_⟩
   rw[cond_false,h2,eI hs (eM _ _),dS hx.1 hx.2]
   simp[hitB,hb,Bool.or_assoc]
theorem Ci{occ m:Int}:∀ {L:List Int},hitB occ m L=true->hasL m L=true
 |x::L,h=>by
  simp only[hitB,Bool.or_eq_true,Bool.and_eq_true,decide_eq_true_eq]at h
  simp only[hasL,Bool.or_eq_true,decide_eq_true_eq]
  exact h.imp id fun h=>Ci h.2
theorem xI{f r occ m:Int}(ho:Uk occ):∀ (L:List Int),(∀ x∈L,ai f r x=true)->hitB occ m L=(hasL m L&&dL occ (L.take (idxL m L)))
 |[],_=>rfl
 |x::L,hL=>by
  have ih:=xI (m:=m) ho L fun y hy=>hL y (by simp[hy])
  have hx:=dz ho (hL x (by simp))
  by_cases e:x=m
  ·simp[hitB,hasL,idxL,e,dL]
  ·simp only[hitB,hasL,idxL,e,decide_false,Bool.false_or,cond_false,List.take_succ_cons,dL,hx,ih]
   cases bt occ x.toNat<;>simp
def kY(f r a occ:Int)(row:List Int)(m:Nat):Bool:=hitB occ m (cg f r a (row.getD 0 0) (row.getD 1 0))
theorem Dk{df dr:Int}(h:unit df dr):inR df dr=true:=by
 obtain⟨h1,h2,h3,h4,_⟩:=h
 simp only[inR,Bool.and_eq_true,decide_eq_true_eq];omega
theorem xM{f r a occ:Int}(ha:ai f r a=true)(ho:Uk occ)(rs:List (List Int))(hrs:∀ row∈rs,unit (row.getD 0 0) (row.getD 1 0)):Uk (dm f r a occ rs)/\∀ m,bt (dm f r a occ rs) m=rs.any (kY f r a occ · m):=by
 have h:=uM (eF f r a occ) (kY f r a occ) rs 0 ?_ uk_0
 ·refine⟨h.1,fun m=>?_⟩
  unfold dm
  rw[h.2,bt_0,Bool.false_or]
 ·intro s row hrow hs
  unfold eF kY
  rw[Hg,Dk (hrs row hrow),cond_true]
  exact qc ho _ s (fun x hx=>⟨(aB (dG ha hx)).1,(aB (dG ha hx)).2.2⟩) hs
theorem eR{m:Int}{L:List Int}:hasL m L=true↔m∈L:=by
 induction L with
 |nil=>simp[hasL]
 |cons x L ih=>simp only[hasL,Bool.or_eq_true,decide_eq_true_eq,ih,List.mem_cons];exact⟨fun h=>h.imp Eq.symm id,fun h=>h.imp Eq.symm id⟩
theorem yu(P:Int->Int->Bool)(h:∀ i j:_root_.Fin 15,P ((i.val:Int)-7) ((j.val:Int)-7)=true){x y:Int}(hx:-7<=x/\x<=7)(hy:-7<=y/\y<=7):P x y=true:=by
 have:=h ⟨(x+7).toNat,by omega⟩ ⟨(y+7).toNat,by omega⟩
 simp only at this
 rw[show (((x+7).toNat:Int)-7)=x by omega,show (((y+7).toNat:Int)-7)=y by omega]at this
 exact this
def fI(rs:List (List Int))(x y:Int):Bool:=rs.any fun row=>decide (x=row.getD 0 0)&&decide (y=row.getD 1 0)
theorem jD{f r a b:Int}(hb:ai f r b=true)(rs:List (List Int)):rs.any (lI f r a · b.toNat)=fI rs (px f b-px f a) (py f b-py f a):=by
 have:=aB hb
 unfold fI lI
 rw[show ((b.toNat:Nat):Int)=b by omega,hb]
 rfl
theorem su{f r a b:Int}(ha:ai f r a=true)(hb:ai f r b=true):(-7<=px f b-px f a/\px f b-px f a<=7)/\(-7<=py f b-py f a/\py f b-py f a<=7):=by
 have:=dR ha
 have:=dR hb
 omega
def Ay(x y:Int):Bool:=fI iz x y==decide (i64.wrap (i64.wrap (x*x)+i64.wrap (y*y))=5)
theorem zk:∀ i j:_root_.Fin 15,Ay ((i.val:Int)-7) ((j.val:Int)-7)=true:=by decide +kernel
def Iw(x y:Int):Int:=bif decide (absI (i64.wrap (0-y))<absI (i64.wrap (0-x)))then absI (i64.wrap (0-x))else absI (i64.wrap (0-y))
def Km(x y:Int):Bool:=(fI fS x y||fI fO x y)==decide (Iw x y=1)
theorem Ge:∀ i j:_root_.Fin 15,Km ((i.val:Int)-7) ((j.val:Int)-7)=true:=by decide +kernel
theorem Gw{f r a b:Int}(ha:ai f r a=true)(hb:ai f r b=true):oQ f a b=Iw (px f b-px f a) (py f b-py f a):=by
 obtain⟨e1,e2⟩:=gu hb ha
 have h:=su ha hb
 unfold oQ Iw
 rw[e1,e2,az (n:=0-(px f b-px f a)) (by omega) (by omega),az (n:=0-(py f b-py f a)) (by omega) (by omega)]
 rw[show 0-(px f b-px f a)=px f a-px f b by omega,show 0-(py f b-py f a)=py f a-py f b by omega]
theorem iW{f r a b occ:Int}(ha:ai f r a=true)(hb:ai f r b=true)(ho:Uk occ)(rs:List (List Int))(hrs:∀ row∈rs,unit (row.getD 0 0) (row.getD 1 0)) :
  rs.any (kY f r a occ · b.toNat)=((bg f a b).2.2&&fI rs (bg f a b).1 (bg f a b).2.1&&dL occ (aW f r a b)):=by
 have hl:=aB hb
 have pt:∀ row∈rs,kY f r a occ row b.toNat=((bg f a b).2.2&&(decide ((bg f a b).1=row.getD 0 0)&&decide ((bg f a b).2.1=row.getD 1 0))&&dL occ (aW f r a b)):=by
  intro row hrow
  have hu:=hrs row hrow
  unfold kY
  rw[show ((b.toNat:Nat):Int)=b by omega,xI (f:=f) (r:=r) ho _ (fun x hx=>dG ha hx)]
  cases hh:hasL b (cg f r a (row.getD 0 0) (row.getD 1 0)) with
  |true=>
   have e:=yd ha hb hu hh
   have hz:cW f r a b=cg f r a (row.getD 0 0) (row.getD 1 0):=by rw[cW,e]
   unfold aW
   rw[hz,hh,e];simp
  |false=>
   rw[Bool.false_and]
   symm
   cases h2:(bg f a b).2.2 with
   |false=>rfl
   |true=>
    obtain⟨_,h3⟩:=lZ ha hb h2
    by_cases e:(bg f a b).1=row.getD 0 0/\(bg f a b).2.1=row.getD 1 0
    ·rw[cW,e.1,e.2,hh]at h3;cases h3
    ·simp only[Bool.true_and]
     rw[show (decide ((bg f a b).1=row.getD 0 0)&&decide ((bg f a b).2.1=row.getD 1 0))=false by simp only[Bool.and_eq_false_iff,decide_eq_false_iff_not];omega]
     rfl
 have gen:∀ l:List (List Int),(∀ row∈l,row∈rs)->l.any (kY f r a occ · b.toNat)=((bg f a b).2.2&&fI l (bg f a b).1 (bg f a b).2.1&&dL occ (aW f r a b)):=by
  intro l
  induction l with
  |nil=>intro _;simp[fI]
  |cons row l ih=>
   intro h
   rw[List.any_cons,ih (fun x hx=>h x (by simp[hx])),pt row (h row (by simp))]
   unfold fI
   rw[List.any_cons]
   cases(bg f a b).2.2<;>cases(decide ((bg f a b).1=row.getD 0 0)&&decide ((bg f a b).2.1=row.getD 1 0))<;>cases dL occ (aW f r a b)<;>simp
 exact gen rs fun _ h=>h
theorem Ee:∀ row∈iz,-8<=row.getD 0 0/\row.getD 0 0<=8/\-8<=row.getD 1 0/\row.getD 1 0<=8:=by decide
theorem jA:∀ row∈fS,unit (row.getD 0 0) (row.getD 1 0):=by unfold unit;decide
theorem iY:∀ row∈fO,unit (row.getD 0 0) (row.getD 1 0):=by unfold unit;decide
theorem DU{rs:List (List Int)}(h:∀ row∈rs,unit (row.getD 0 0) (row.getD 1 0)):∀ row∈rs,-8<=row.getD 0 0/\row.getD 0 0<=8/\-8<=row.getD 1 0/\row.getD 1 0<=8:=fun row hr=>by
 obtain⟨h1,h2,h3,h4,_⟩:=h row hr
 omega
theorem js{x y:Int}(h:unit x y):fI fS x y=!(decide (x=0)||decide (y=0))/\fI fO x y=(decide (x=0)||decide (y=0)):=by
 rcases bj h with⟨rfl,rfl⟩|⟨rfl,rfl⟩|⟨rfl,rfl⟩|⟨rfl,rfl⟩|⟨rfl,rfl⟩|⟨rfl,rfl⟩|⟨rfl,rfl⟩|⟨rfl,rfl⟩<;>decide
theorem Li(n:Int):decide (sgn n=0)=decide (n=0):=by
 have:=jt n
 congr 1
 exact propext ⟨fun h=>by omega,fun h=>by omega⟩
def lH(f r kd a occ:Int):Int:=(bQ f r kd a occ).1
def gr(kd:Int):Prop:=kd=2\/kd=3\/kd=4\/kd=5\/kd=6
theorem DY{f r kd a occ:Int}(h:gP f r a occ=true)(hk:gr kd):(bQ f r kd a occ).2=0/\lH f r kd a occ=bif decide (kd=2)then bW f r a iz else bif decide (kd=3)then dm f r a occ fS else bif decide (kd=4)then dm f r a occ fO
     else bif decide (kd=5)then uor (dm f r a occ fS) (dm f r a occ fO)else uor (bW f r a fS) (bW f r a fO):=by
 unfold lH bQ
 rw[h,cond_true]
 rcases hk with rfl|rfl|rfl|rfl|rfl<;>exact⟨rfl,rfl⟩
theorem jg{f r kd a occ:Int}(h:gP f r a occ=true)(ho:Uk occ)(hk:gr kd):Uk (lH f r kd a occ)/\OnS f r (lH f r kd a occ)/\∀ b,ai f r b=true->bt (lH f r kd a occ) b.toNat=aQ f r kd a b occ:=by
 have ha:ai f r a=true:=by simp only[gP,Bool.and_eq_true]at h;exact h.1
 have L1:=ox ha iz Ee
 have L2:=ox ha fS (DU jA)
 have L3:=ox ha fO (DU iY)
 have S1:=xM ha ho fS jA
 have S2:=xM ha ho fO iY
 have onl:∀ (rs:List (List Int)) (m:Nat),rs.any (lI f r a · m)=true->ai f r m=true:=by
  intro rs m h
  obtain⟨row,_,h2⟩:=List.any_eq_true.1 h
  simp only[lI,Bool.and_eq_true]at h2
  exact h2.1.1
 have ons:∀ (rs:List (List Int)) (m:Nat),rs.any (kY f r a occ · m)=true->ai f r m=true:=by
  intro rs m h
  obtain⟨row,_,h2⟩:=List.any_eq_true.1 h
  exact dG ha (eR.1 (Ci h2))
 obtain⟨_,hS⟩:=DY h hk
 rw[hS]
 have key:∀ b,ai f r b=true->(bg f a b).2.2=true->unit (bg f a b).1 (bg f a b).2.1/\(decide (i64.wrap (b.tmod f-a.tmod f)=0)||decide (i64.wrap (i64.wrap (b.tdiv f)-i64.wrap (a.tdiv f))=0))=(decide ((bg f a b).1=0)||decide ((bg f a b).2.1=0)):=by
  intro b hb hl
  obtain⟨e1,e2⟩:=gu ha hb
  refine⟨(lZ ha hb hl).1,?_⟩
  rcases lz ha hb with⟨e,_⟩|⟨e,_⟩
  ·rw[e]at hl;cases hl
  ·rw[e1,e2,e]
   simp only[Li]
 rcases hk with rfl|rfl|rfl|rfl|rfl
 ·refine⟨L1.1,fun m _ hm=>onl _ _ ((L1.2 m).symm.trans hm),fun b hb=>?_⟩
  obtain⟨e1,e2⟩:=gu ha hb
  have hd:=su ha hb
  have hp:=yu Ay zk hd.1 hd.2
  show bt (bW f r a iz) b.toNat=decide (_=5)
  rw[L1.2,jD hb,e1,e2]
  exact eq_of_beq hp
 ·refine⟨S1.1,fun m _ hm=>ons _ _ ((S1.2 m).symm.trans hm),fun b hb=>?_⟩
  show bt (dm f r a occ fS) b.toNat=((bg f a b).2.2&&(false||((decide (i64.wrap (b.tmod f-a.tmod f)=0)||decide (i64.wrap (i64.wrap (b.tdiv f)-i64.wrap (a.tdiv f))=0))==false))&&dL occ (aW f r a b))
  rw[S1.2,iW ha hb ho _ jA]
  cases hl:(bg f a b).2.2 with
  |false=>simp
  |true=>obtain⟨k1,k2⟩:=key b hb hl;rw[k2,(js k1).1];simp
 ·refine⟨S2.1,fun m _ hm=>ons _ _ ((S2.2 m).symm.trans hm),fun b hb=>?_⟩
  show bt (dm f r a occ fO) b.toNat=((bg f a b).2.2&&(false||((decide (i64.wrap (b.tmod f-a.tmod f)=0)||decide (i64.wrap (i64.wrap (b.tdiv f)-i64.wrap (a.tdiv f))=0))==true))&&dL occ (aW f r a b))
  rw[S2.2,iW ha hb ho _ iY]
  cases hl:(bg f a b).2.2 with
  |false=>simp
  |true=>obtain⟨k1,k2⟩:=key b hb hl;rw[k2,(js k1).2];simp
 ·refine⟨gi _ _,fun m _ hm=>?_,fun b hb=>?_⟩
  ·have hm:bt (uor (dm f r a occ fS) (dm f r a occ fO)) m=true:=hm
   rw[eI S1.1 S2.1,Bool.or_eq_true]at hm
   exact hm.elim (fun hm=>ons _ _ ((S1.2 m).symm.trans hm)) (fun hm=>ons _ _ ((S2.2 m).symm.trans hm))
  ·show bt (uor (dm f r a occ fS) (dm f r a occ fO)) b.toNat=((bg f a b).2.2&&(true||_)&&dL occ (aW f r a b))
   rw[eI S1.1 S2.1,S1.2,S2.2,iW ha hb ho _ jA,iW ha hb ho _ iY]
   cases hl:(bg f a b).2.2 with
   |false=>simp
   |true=>
    obtain⟨k1,k2⟩:=key b hb hl
    rw[(js k1).1,(js k1).2]
    cases(decide ((bg f a b).1=0)||decide ((bg f a b).2.1=0))<;>simp
 ·refine⟨gi _ _,fun m _ hm=>?_,fun b hb=>?_⟩
  ·have hm:bt (uor (bW f r a fS) (bW f r a fO)) m=true:=hm
   rw[eI L2.1 L3.1,Bool.or_eq_true]at hm
   exact hm.elim (fun hm=>onl _ _ ((L2.2 m).symm.trans hm)) (fun hm=>onl _ _ ((L3.2 m).symm.trans hm))
  ·have hd:=su ha hb
   have hp:=yu Km Ge hd.1 hd.2
   show bt (uor (bW f r a fS) (bW f r a fO)) b.toNat=decide (oQ f a b=1)
   rw[eI L2.1 L3.1,L2.2,L3.2,jD hb,jD hb,Gw ha hb]
   exact eq_of_beq hp
end Go.Ab
namespace Go.Ab
open Go.Proofs
theorem JS{s x:Int}(hs:Uk s)(h1:0<=x)(h2:x<64)(hb:bt s x.toNat=false):IntKind.u64.wrap (s+ushl 1 x)=uor s (ushl 1 x):=by
 have hk:=eM 1 x
 rw[jb,CP]
 have hz:BitVec.ofInt 64 s &&& BitVec.ofInt 64 (ushl 1 x)=0#64:=by
  apply BitVec.eq_of_toNat_eq
  rw[BitVec.toNat_and,jK hs,jK hk]
  apply Nat.eq_of_testBit_eq
  intro i
  rw[Nat.testBit_and]
  have h3:=dS h1 h2 i
  unfold bt at h3 hb
  rw[h3]
  by_cases e:x=(i:Int)
  ·subst e;rw[Int.toNat_natCast]at hb;simp[hb]
  ·simp[e]
 rw[<-BitVec.add_eq_or_of_and_eq_zero _ _ hz,BitVec.toNat_add,jK hs,jK hk]
 have h4:=hs.1
 have h5:=hk.1
 generalize ushl 1 x=y at *
 show (s+y)%18446744073709551616=(((s.toNat+y.toNat)%18446744073709551616:Nat):Int)
 omega
theorem iB:∀ (l:List Int) (s:Int),(∀ x∈l,0<=x/\x<64)->Uk s->Uk (ofL l s)/\∀ m:Nat,bt (ofL l s) m=(bt s m||decide ((m:Int)∈l))
 |[],s,_,hs=>⟨hs,fun m=>by simp[ofL]⟩
 |x::l,s,hl,hs=>by
  have hx:=hl x (by simp)
  rw[ofL]
  have hh:=nZ (n:=x) hs
  simp only[hx.1,hx.2,decide_true,Bool.true_and]at hh
  cases hb:bt s x.toNat with
  |true=>
   obtain⟨h1,h2⟩:=iB l s (fun y hy=>hl y (by simp[hy])) hs
   rw[hh,hb,cond_true]
   refine⟨h1,fun m=>?_⟩
   rw[h2]
   by_cases e:(m:Int)=x
   ·subst e;rw[Int.toNat_natCast]at hb;simp[hb]
   ·simp[e]
  |false=>
   rw[hh,hb,cond_false,JS hs hx.1 hx.2 hb]
   obtain⟨h1,h2⟩:=iB l (uor s (ushl 1 x)) (fun y hy=>hl y (by simp[hy])) (gi _ _)
   refine⟨h1,fun m=>?_⟩
   rw[h2,eI hs (eM _ _),dS hx.1 hx.2,Bool.or_assoc]
   congr 1
   by_cases e:(m:Int)=x
   ·simp[e]
   ·have e':¬ x=(m:Int):=fun h=>e h.symm
    simp[e,e']
theorem KY{f r:Int}(hv:vsB f r=true):Uk (allU f r)/\∀ m:Nat,bt (allU f r) m=decide ((m:Int)<f*r):=by
 have hm:=gB hv
 unfold allU
 rw[fo hv,az (by omega) (by omega)]
 have hk:Uk 18446744073709551615:=⟨by decide,by decide⟩
 refine⟨Cd hk (by omega) (by omega),fun m=>?_⟩
 rw[GO hk (by omega) (by omega)]
 unfold bt
 rw[show (18446744073709551615:Int).toNat=2^64-1 by decide,Nat.testBit_two_pow_sub_one]
 congr 1
 exact propext ⟨fun h=>by omega,fun h=>by omega⟩
theorem Cn{f r s:Int}(hv:vsB f r=true)(hs:Uk s):cj s (allU f r)=0↔OnS f r s:=by
 obtain⟨h1,h2⟩:=KY hv
 rw[nw (fm _ _)]
 constructor
 ·intro h m hm hb
  have:=h m hm
  rw[eJ hs h1,hb,h2]at this
  simp at this
  exact sg hv (by omega) this
 ·intro h m hm
  rw[eJ hs h1,h2]
  cases hb:bt s m with
  |false=>rfl
  |true=>have:=aB (h m hm hb);simp;omega
theorem gJ{f r a s:Int}(hs:Uk s):gP f r a s=true↔ai f r a=true/\OnS f r s:=by
 unfold gP
 rw[Bool.and_eq_true,decide_eq_true_eq]
 exact⟨fun h=>⟨h.1,(Cn (bD h.1) hs).1 h.2⟩,fun h=>⟨h.1,(Cn (bD h.1) hs).2 h.2⟩⟩
theorem jd{s x:Int}{k:Nat}:x∈cR s k↔0<=x/\x<k/\hasB s x=true:=by
 have:cR s k=cn (hasB s) id k:=by unfold cR cn;rw[List.map_id]
 rw[this];exact bI
end Go.Ab
namespace Go.Ab
open IntKind
open Go.Proofs
section
variable{kCa kDb:Bool}
def dU(f:Int)(bl:Bool)(a b:Int):Bool:=decide (i64.wrap (i64.wrap (b.tdiv f)-i64.wrap (a.tdiv f))=fwd bl)&&(decide (i64.wrap (b.tmod f-a.tmod f)=1)||decide (i64.wrap (a.tmod f-b.tmod f)=1))
def one4(f r:Int)(bl:Bool)(a:Int):Int:=numR f r (a.tmod f) (i64.wrap (i64.wrap (a.tdiv f)+fwd bl))
def two4(f r:Int)(bl:Bool)(a:Int):Int:=numR f r (a.tmod f) (i64.wrap (i64.wrap (a.tdiv f)+i64.wrap (2*fwd bl)))
def ee(f r:Int)(bl:Bool)(a occ b:Int):Bool:=(decide (b=one4 f r bl a)&&!hasB occ (one4 f r bl a))||(decide (b=two4 f r bl a)&&decide (6<=r)&&decide (i64.wrap (a.tdiv f)=secR r bl)&&!hasB occ (one4 f r bl a)&&!hasB occ (two4 f r bl a))
def nR:CF
 |[.agg [.int .i64 f,.int .i64 r],.bool bl,.int .i64 a],[]=>some (vsB f r,.sl 0 0 (cn (dU f bl a) id ((f*r).toNat)).length none,[.ints true .i64 (cn (dU f bl a) id ((f*r).toNat))])
 |_,_=>none
theorem tM:CtOk (GGx kCa kDb) PP (134,nR):=by
 refine aE Tryz.func134 (by kernel_rfl) rfl fun a0 h0 c0 v0 N0 e hc=>?_
 unfold nR at e
 split at e
 ·rename_i f r bl a
  cases e
  have hE:=aC (kCa:=kCa) (kDb:=kDb) (cts:=[(22,fk),(150,IB)]) (inl:=[]) ⟨cP,Ec,trivial⟩ trivial
  refine av hE 2 Tryz.func134 rfl rfl ?_
  have hm:=gB hc
  have hw:=fo hc
  have hf:=dh hc
  have hf0:¬ f=0:=by omega
  refine bU hE 2 (fun(i:Int) (ys:List Int)=>([(1,Bb bl),(2,I a),(3,.ptr 0 0 0),(7,.sl 1 0 ys.length none),(8,I i)],[.cells true [I f,I r],.ints true .i64 ys])) ((f*r).toNat) (fun j ys=>ys=cn (dU f bl a) id j) [] (by omega) ((Ent.phanT (t:=7) (o:=.ints true .i64 []) rfl ⟨by simp,by simp,trivial,rfl⟩ (aG rfl)).trans (Ent.ren [0,1] [1,2,3,7,8] rfl rfl rfl)) rfl ?_
  intro j i ys hij hj hz
  have hb:=gG (dU f bl a) id j
  rw[<-hz]at hb
  refine aq (fun hlt=>?_) (fun hlt=>?_)
  ·have hlt':j<(f*r).toNat:=by simp only[decide_eq_true_eq]at hlt;rw[hw]at hlt;omega
   have hs:=fG (dU f bl a) id j
   rw[<-hz,<-hij]at hs
   repeat (first|refine ah ?_|refine sat_nd ?_)
   refine aq (fun hon=>?_) (fun hon=>?_)
   ·skip
    have hon:dU f bl a i=true:=hon
    rw[hon,cond_true]at hs
    refine ag (b:=decide (ys.length=ys.length)&&decide ((ys.length+1)*8<=140737488355328)&&true) (by simp;omega) ?_
    exact ae ⟨hlt',ys++[id i],hs.symm,Ent.ren [0,5] [1,2,3,7,8] rfl rfl rfl⟩
   ·skip
    have hon:dU f bl a i=false:=hon
    rw[hon,cond_false]at hs
    exact ae ⟨hlt',ys,hs.symm,Ent.ren [0,1] [1,2,3,7,8] rfl rfl rfl⟩
  ·obtain rfl:j=(f*r).toNat:=by simp only[decide_eq_false_iff_not]at hlt;rw[hw]at hlt;omega
   subst hz
   refine ae (ae ((cC 1 (.inr rfl) rfl rfl rfl rfl rfl rfl)))
 ·cases e
end
theorem ur(bl:Bool):(bl=true/\fwd bl=-1)\/(bl=false/\fwd bl=1):=by cases bl<;>simp[fwd]
theorem vJ{f r X Y:Int}(h:onB f r X Y=false):numR f r X Y=-1:=by unfold numR;rw[uY,h];rfl
theorem Lb{f r b X Y:Int}(hv:vsB f r=true)(hb:ai f r b=true):decide (b=numR f r X Y)=(decide (px f b=X)&&decide (py f b=Y)):=by
 have hq:=dR hb
 have hl:=aB hb
 cases ho:onB f r X Y with
 |true=>
  have:=gk hv ho hb
  rw[Bool.eq_iff_iff,Bool.and_eq_true,decide_eq_true_eq,decide_eq_true_eq,decide_eq_true_eq,<-this]
  exact⟨Eq.symm,Eq.symm⟩
 |false=>
  rw[vJ ho,show decide (b=-1)=false by simp;omega]
  symm
  simp only[Bool.and_eq_false_iff,decide_eq_false_iff_not]
  by_cases h1:px f b=X
  ·right
   intro h2
   have:onB f r X Y=true:=iv (by omega) (by omega) (by omega) (by omega)
   rw[ho]at this;cases this
  ·exact .inl h1
theorem Jd(bl:Bool):∀ row∈[[-1,fwd bl],[1,fwd bl]],-8<=row.getD 0 0/\row.getD 0 0<=8/\-8<=row.getD 1 0/\row.getD 1 0<=8:=by cases bl<;>simp[fwd]
theorem xm{f r a:Int}(rs:List (List Int))(m:Nat)(h:rs.any (lI f r a · m)=true):ai f r m=true:=by
 obtain⟨row,_,h2⟩:=List.any_eq_true.1 h
 simp only[lI,Bool.and_eq_true]at h2
 exact h2.1.1
theorem va{f r a:Int}{bl:Bool}(ha:ai f r a=true):(gj f r bl a).2=0/\Uk (gj f r bl a).1/\OnS f r (gj f r bl a).1/\∀ b,ai f r b=true->bt (gj f r bl a).1 b.toNat=dU f bl a b:=by
 have L:=ox ha [[-1,fwd bl],[1,fwd bl]] (Jd bl)
 unfold gj
 rw[ha,cond_true]
 refine⟨rfl,L.1,fun m _ hm=>xm _ _ ((L.2 m).symm.trans hm),fun b hb=>?_⟩
 obtain⟨e1,e2⟩:=gu ha hb
 obtain⟨e3,_⟩:=gu hb ha
 have hd:=su ha hb
 rw[L.2,jD hb]
 unfold dU fI
 rw[e1,e2,e3]
 simp only[List.any_cons,List.any_nil,Bool.or_false,List.getD_cons_zero,List.getD_cons_succ]
 rw[Bool.eq_iff_iff]
 simp only[Bool.or_eq_true,Bool.and_eq_true,decide_eq_true_eq]
 omega
theorem Ct{f r a k:Int}(ha:ai f r a=true)(hk:-2<=k/\k<=2):Uk (bW f r a [[0,k]])/\(∀ m,bt (bW f r a [[0,k]]) m=true->ai f r m=true)/\∀ b,ai f r b=true->bt (bW f r a [[0,k]]) b.toNat=decide (b=numR f r (px f a) (py f a+k)):=by
 have L:=ox ha [[0,k]] (by intro row h;simp only[List.mem_singleton]at h;subst h;simp;omega)
 refine⟨L.1,fun m hm=>xm _ _ ((L.2 m).symm.trans hm),fun b hb=>?_⟩
 rw[L.2,jD hb,Lb (bD ha) hb]
 unfold fI
 simp only[List.any_cons,List.any_nil,Bool.or_false,List.getD_cons_zero,List.getD_cons_succ]
 rw[Bool.eq_iff_iff]
 simp only[Bool.and_eq_true,decide_eq_true_eq]
 omega
theorem jG(f r X Y:Int)(hv:vsB f r=true):(onB f r X Y=true/\ai f r (numR f r X Y)=true)\/(onB f r X Y=false/\numR f r X Y=-1):=by
 cases ho:onB f r X Y with
 |true=>
  left
  have h:=wY (X:=X) (Y:=Y) hv
  rw[ho]at h
  have hp:=lF (of_decide_eq_true h)
  rw[tX hv ho,hp.2.2.2.2]
  exact⟨rfl,(hH hv ho).1⟩
 |false=>exact .inr ⟨rfl,vJ ho⟩
theorem xR{f r a occ:Int}{bl:Bool}(h:gP f r a occ=true)(ho:Uk occ):(cF f r bl a occ).2=0/\Uk (cF f r bl a occ).1/\OnS f r (cF f r bl a occ).1/\∀ b,ai f r b=true->bt (cF f r bl a occ).1 b.toNat=ee f r bl a occ b:=by
 obtain⟨ha,_⟩:=(gJ ho).1 h
 have hv:=bD ha
 have hp:=dR ha
 have hw2:i64.wrap (2*fwd bl)=2*fwd bl:=by rcases ur bl with⟨_,e⟩|⟨_,e⟩<;>rw[e]<;>rfl
 have hfw:=ur bl
 have S1:=Ct (k:=fwd bl) ha (by omega)
 have S2:=Ct (k:=2*fwd bl) ha (by omega)
 have e1:one4 f r bl a=numR f r (px f a) (py f a+fwd bl):=by
  show numR f r (px f a) (i64.wrap (i64.wrap (py f a)+fwd bl))=_
  rw[hp.2.2.2.2.1,az (by omega) (by omega)]
 have e2:two4 f r bl a=numR f r (px f a) (py f a+2*fwd bl):=by
  show numR f r (px f a) (i64.wrap (i64.wrap (py f a)+i64.wrap (2*fwd bl)))=_
  rw[hp.2.2.2.2.1,hw2,az (by omega) (by omega)]
 have hsec:(decide (r<6)||!decide (i64.wrap (a.tdiv f)=bif bl then i64.wrap (r-2)else 1))=!(decide (6<=r)&&decide (i64.wrap (a.tdiv f)=secR r bl)):=by
  unfold secR
  rw[Bool.not_and,show (!decide (6<=r))=decide (r<6) by rw[<-decide_not];congr 1;exact propext ⟨fun h=>by omega,fun h=>by omega⟩]
 unfold cF pH one1
 rw[h,cond_true,Bool.or_assoc,hsec,hw2]
 have hA:Uk (cj (bW f r a [[0,fwd bl]]) occ):=fm _ _
 have hB:Uk (cj (bW f r a [[0,2*fwd bl]]) occ):=fm _ _
 have bA:∀ m,bt (cj (bW f r a [[0,fwd bl]]) occ) m=(bt (bW f r a [[0,fwd bl]]) m&&!bt occ m):=eJ S1.1 ho
 have bB:∀ m,bt (cj (bW f r a [[0,2*fwd bl]]) occ) m=(bt (bW f r a [[0,2*fwd bl]]) m&&!bt occ m):=eJ S2.1 ho
 have onA:OnS f r (cj (bW f r a [[0,fwd bl]]) occ):=fun m _ hm=>by rw[bA,Bool.and_eq_true]at hm;exact S1.2.1 m hm.1
 have onB':OnS f r (cj (bW f r a [[0,2*fwd bl]]) occ):=fun m _ hm=>by rw[bB,Bool.and_eq_true]at hm;exact S2.2.1 m hm.1
 have vA:∀ b,ai f r b=true->bt (cj (bW f r a [[0,fwd bl]]) occ) b.toNat=(decide (b=one4 f r bl a)&&!hasB occ (one4 f r bl a)):=fun b hb=>by
  rw[bA,S1.2.2 b hb,<-e1]
  by_cases e:b=one4 f r bl a
  ·rw[<-e,dz ho hb]
  ·simp[e]
 have vB:∀ b,ai f r b=true->bt (cj (bW f r a [[0,2*fwd bl]]) occ) b.toNat=(decide (b=two4 f r bl a)&&!hasB occ (two4 f r bl a)):=fun b hb=>by
  rw[bB,S2.2.2 b hb,<-e2]
  by_cases e:b=two4 f r bl a
  ·rw[<-e,dz ho hb]
  ·simp[e]
 -- the first step is free just if its set is not empty
 have hz:cj (bW f r a [[0,fwd bl]]) occ=0↔(one4 f r bl a=-1\/hasB occ (one4 f r bl a)=true):=by
  rw[nw hA]
  rcases jG f r (px f a) (py f a+fwd bl) hv with⟨_,hval⟩|⟨_,hneg⟩
  ·rw[<-e1]at hval
   have hl:=aB hval
   constructor
   ·intro hall
    have:=hall (one4 f r bl a).toNat (by omega)
    rw[vA _ hval]at this
    right;simpa using this
   ·rintro(hx|hx)
    ·omega
    ·intro n hn
     cases hb:bt (cj (bW f r a [[0,fwd bl]]) occ) n with
     |false=>rfl
     |true=>
      have hvn:=onA n hn hb
      have:=vA n hvn
      rw[Int.toNat_natCast,hb,hx]at this
      simp at this
  ·rw[<-e1]at hneg
   refine⟨fun _=>.inl hneg,fun _ n hn=>?_⟩
   cases hb:bt (cj (bW f r a [[0,fwd bl]]) occ) n with
   |false=>rfl
   |true=>
    have hvn:=onA n hn hb
    have:=vA n hvn
    rw[Int.toNat_natCast,hb,hneg]at this
    simp at this
 cases hc:(decide (cj (bW f r a [[0,fwd bl]]) occ=0)||!(decide (6<=r)&&decide (i64.wrap (a.tdiv f)=secR r bl))) with
 |true=>
  rw[cond_true]
  refine⟨rfl,hA,onA,fun b hb=>?_⟩
  show bt (cj (bW f r a [[0,fwd bl]]) occ) b.toNat=_
  rw[vA b hb]
  unfold ee
  symm
  rw[Bool.or_eq_true,decide_eq_true_eq,hz]at hc
  have:(decide (b=two4 f r bl a)&&decide (6<=r)&&decide (i64.wrap (a.tdiv f)=secR r bl)&&!hasB occ (one4 f r bl a)&&!hasB occ (two4 f r bl a))=false:=by
   have hl:=aB hb
   rcases hc with(hc|hc)|hc
   ·have h2:two4 f r bl a=-1:=by
     rw[e2]
     refine vJ ?_
     cases hon:onB f r (px f a) (py f a+2*fwd bl) with
     |false=>rfl
     |true=>
      have:=oT hon
      have h3:onB f r (px f a) (py f a+fwd bl)=true:=iv (by omega) (by omega) (by omega) (by omega)
      rcases jG f r (px f a) (py f a+fwd bl) hv with⟨_,hval⟩|⟨h4,_⟩
      ·rw[<-e1,hc]at hval
       have:=aB hval
       omega
      ·rw[h3]at h4;cases h4
    rw[h2,show decide (b=-1)=false by simp;omega]
    rfl
   ·rw[hc];simp
   ·cases h6:decide (6<=r)<;>rw[h6]at hc<;>simp at hc<;>simp[hc]
  rw[this,Bool.or_false]
 |false=>
  rw[cond_false]
  refine⟨rfl,gi _ _,fun m hm hb=>?_,fun b hb=>?_⟩
  ·have hb:bt (uor (cj (bW f r a [[0,fwd bl]]) occ) (cj (bW f r a [[0,2*fwd bl]]) occ)) m=true:=hb
   rw[eI hA hB,Bool.or_eq_true]at hb
   exact hb.elim (onA m hm) (onB' m hm)
  ·show bt (uor (cj (bW f r a [[0,fwd bl]]) occ) (cj (bW f r a [[0,2*fwd bl]]) occ)) b.toNat=_
   rw[eI hA hB,vA b hb,vB b hb]
   simp only[Bool.or_eq_false_iff,decide_eq_false_iff_not,Bool.not_eq_false',Bool.and_eq_true,decide_eq_true_eq]at hc
   obtain⟨h1,h2,h3⟩:=hc
   rw[hz,not_or]at h1
   have h4:hasB occ (one4 f r bl a)=false:=by simpa using h1.2
   unfold ee
   rw[h4,h3]
   simp[h2]
end Go.Ab
namespace Go.Ab
open Go.Proofs
theorem xP(b:Int):∀ (L:List Int) (s:Int),Uk s->Uk (eZ b L s)
 |[],_,h=>h
 |x::L,s,h=>by
  rw[eZ]
  cases decide (x=b) with
  |true=>exact h
  |false=>exact xP b L _ (gi _ _)
theorem yw{b:Int}:∀ (L:List Int) (s:Int),(∀ x∈L,0<=x/\x<64)->Uk s->∀ m:Nat,bt (eZ b L s) m=(bt s m||decide ((m:Int)∈L.take (idxL b L)))
 |[],s,_,_,m=>by simp[eZ,idxL]
 |x::L,s,hL,hs,m=>by
  have hx:=hL x (by simp)
  rw[eZ,idxL]
  cases hb:decide (x=b) with
  |true=>simp
  |false=>
   rw[cond_false,cond_false,yw L _ (fun y hy=>hL y (by simp[hy])) (gi _ _),eI hs (eM _ _),dS hx.1 hx.2,Bool.or_assoc,List.take_succ_cons]
   congr 1
   by_cases e:(m:Int)=x
   ·simp[e]
   ·have e':¬ x=(m:Int):=fun h=>e h.symm
    simp[e,e']
theorem yg{f r a b:Int}(ha:ai f r a=true)(hb:ai f r b=true)(h:(bg f a b).2.2=true):dirR f r a b=((bg f a b).1,(bg f a b).2.1,0)/\bC f r a b=(ofL (aW f r a b) 0,0):=by
 have hp:=dR ha
 have hq:=dR hb
 obtain⟨e1,e2⟩:=gu ha hb
 have hlh:=lZ ha hb h
 rcases lz ha hb with⟨e,_⟩|⟨e,hl⟩
 ·rw[e]at h;cases h
 ·have hd:dirR f r a b=((bg f a b).1,(bg f a b).2.1,0):=by
   unfold dirR
   rw[ha,hb,e,e1,e2]
   have:(decide (a=b)||!decide (px f b-px f a=0)&&!decide (py f b-py f a=0)&&!decide (px f b-px f a=py f b-py f a)&&!decide (px f b-px f a=IntKind.i64.wrap (0-(py f b-py f a))))=false:=by
    rw[az (by omega) (by omega)]
    simp only[Bool.or_eq_false_iff,Bool.and_eq_false_iff,decide_eq_false_iff_not,Bool.not_eq_false',decide_eq_true_eq]
    rw[gK ha hb]
    unfold onLine at hl
    omega
   simp only[this,Bool.and_true,cond_true,cond_false]
  refine⟨hd,?_⟩
  unfold bC
  rw[hd]
  simp only[decide_true,cond_true]
  have hz:rayL f r a (bg f a b).1 (bg f a b).2.1=cW f r a b:=by rw[Hg,Dk hlh.1];rfl
  have hbd:∀ x∈cW f r a b,0<=x/\x<64:=fun x hx=>⟨(aB (dG ha hx)).1,(aB (dG ha hx)).2.2⟩
  have hL:aW f r a b=(cW f r a b).take (idxL b (cW f r a b)):=by unfold aW;rw[hlh.2];rfl
  rw[hz,hL]
  congr 1
  have hbd2:∀ x∈(cW f r a b).take (idxL b (cW f r a b)),0<=x/\x<64:=fun x hx=>hbd x (List.mem_of_mem_take hx)
  obtain⟨k1,k2⟩:=iB _ 0 hbd2 uk_0
  refine lj (xP _ _ _ uk_0) k1 fun n _=>?_
  rw[yw _ _ hbd uk_0,k2]
theorem dA{f r a b:Int}(ha:ai f r a=true):(aW f r a b).length<=8/\∀ x∈aW f r a b,ai f r x=true:=by
 refine⟨kG f r a b,fun x hx=>?_⟩
 unfold aW at hx
 cases h:hasL b (cW f r a b) with
 |false=>rw[h]at hx;simp at hx
 |true=>rw[h,cond_true]at hx;exact dG ha (List.mem_of_mem_take hx)
end Go.Ab
namespace Go.Ab
open Go.Proofs
end Go.Ab
namespace Go.Ab
open Go.Proofs
theorem HQ{f r df dr x y b c:Int}(hv:vsB f r=true)(hu:unit df dr)(ho:onB f r x y=true)(hb:ai f r b=true)(hc:ai f r c=true){kb:Nat}(hkb:kb<=8)(ebx:px f b=x+kb*df)(eby:py f b=y+kb*dr):∀ (m k:Nat),m+k=9->1<=k->k<=kb ->
  (c∈(eN f r df dr x y m k).take (idxL b (eN f r df dr x y m k))↔∃ i:Nat,k<=i/\i<kb/\px f c=x+i*df/\py f c=y+i*dr):=by
 have hx:=oT ho
 have hq:=dR hb
 intro m
 induction m with
 |zero=>intro k hk h1 h2;omega
 |succ m ih=>
  intro k hk h1 hkk
  obtain⟨e1,e2,e3⟩:=Gs (x:=x) (y:=y) hu ⟨by omega,by omega⟩ ⟨by omega,by omega⟩ (k:=k) (by omega)
  have hon:onB f r (x+(k:Int)*df) (y+(k:Int)*dr)=true:=by
   rcases bj hu with⟨rfl,rfl⟩|⟨rfl,rfl⟩|⟨rfl,rfl⟩|⟨rfl,rfl⟩|⟨rfl,rfl⟩|⟨rfl,rfl⟩|⟨rfl,rfl⟩|⟨rfl,rfl⟩<;>exact iv (by omega) (by omega) (by omega) (by omega)
  rw[eN,e1,e2,e3,mV hv,hon]
  simp only[Bool.not_true,cond_false,idxL]
  have hnb:=gk hv hon hb
  have hnc:=gk hv hon hc
  have hkeq:numR f r (x+(k:Int)*df) (y+(k:Int)*dr)=b↔k=kb:=by
   rw[hnb]
   constructor
   ·rintro⟨h3,h4⟩
    rcases bj hu with⟨rfl,rfl⟩|⟨rfl,rfl⟩|⟨rfl,rfl⟩|⟨rfl,rfl⟩|⟨rfl,rfl⟩|⟨rfl,rfl⟩|⟨rfl,rfl⟩|⟨rfl,rfl⟩<;>omega
   ·rintro rfl;exact⟨ebx,eby⟩
  by_cases e:k=kb
  ·rw[show decide (numR f r (x+(k:Int)*df) (y+(k:Int)*dr)=b)=true from decide_eq_true (hkeq.2 e)]
   simp only[cond_true,List.take_zero,List.not_mem_nil,false_iff]
   rintro⟨i,h3,h4,_⟩;omega
  ·rw[show decide (numR f r (x+(k:Int)*df) (y+(k:Int)*dr)=b)=false from decide_eq_false (fun h=>e (hkeq.1 h))]
   simp only[cond_false,List.take_succ_cons,List.mem_cons]
   rw[ih (k+1) (by omega) (by omega) (by omega)]
   constructor
   ·rintro(h3|⟨i,h3,h4⟩)
    ·obtain⟨h4,h5⟩:=hnc.1 h3.symm
     exact⟨k,Nat.le_refl _,by omega,h4,h5⟩
    ·exact⟨i,by omega,h4⟩
   ·rintro⟨i,h3,h4,h5,h6⟩
    rcases Nat.lt_or_ge k i with h|h
    ·exact .inr ⟨i,h,h4,h5,h6⟩
    ·obtain rfl:i=k:=by omega
     exact .inl (hnc.2 ⟨h5,h6⟩).symm
def Btw(f a b c:Int):Prop:=∃ i k:Nat,∃ df dr:Int,unit df dr/\1<=i/\i<k/\k<=8/\px f b=px f a+k*df/\py f b=py f a+k*dr/\px f c=px f a+i*df/\py f c=py f a+i*dr
theorem Btw.symm{f a b c:Int}(h:Btw f a b c):Btw f b a c:=by
 obtain⟨i,k,df,dr,hu,h1,h2,h3,h4,h5,h6,h7⟩:=h
 refine⟨k-i,k,-df,-dr,?_,by omega,by omega,h3,?_⟩
 ·unfold unit at hu ⊢;omega
 ·rcases bj hu with⟨rfl,rfl⟩|⟨rfl,rfl⟩|⟨rfl,rfl⟩|⟨rfl,rfl⟩|⟨rfl,rfl⟩|⟨rfl,rfl⟩|⟨rfl,rfl⟩|⟨rfl,rfl⟩<;>omega
theorem cV{f r a b c:Int}(ha:ai f r a=true)(hb:ai f r b=true)(hc:ai f r c=true):c∈aW f r a b↔(bg f a b).2.2=true/\Btw f a b c:=by
 have hp:=dR ha
 have hv:=bD ha
 cases hl:(bg f a b).2.2 with
 |false=>
  have:aW f r a b=[]:=by
   have e:bg f a b=(0,0,false):=by
    rcases lz ha hb with⟨e,_⟩|⟨e,_⟩
    ·exact e
    ·rw[e]at hl;cases hl
   unfold aW cW cg
   rw[e,ha];rfl
  rw[this];simp
 |true=>
  obtain⟨hu,hh⟩:=lZ ha hb hl
  have hL:aW f r a b=(cW f r a b).take (idxL b (cW f r a b)):=by unfold aW;rw[hh];rfl
  rw[hL]
  have hh':=hh
  unfold cW at hh' ⊢
  obtain⟨k,h1,h2,h3,h4⟩:=(qi ha hb hu).1 hh'
  rw[Gv ha hu,HQ hv hu (iv hp.1 hp.2.1 hp.2.2.1 hp.2.2.2.1) hb hc h2 h3 h4 8 1 rfl (Nat.le_refl _) h1]
  refine⟨fun⟨i,g1,g2,g3,g4⟩=>⟨rfl,i,k,_,_,hu,g1,g2,h2,h3,h4,g3,g4⟩,?_⟩
  rintro⟨_,i,k',df,dr,hu',g1,g2,g3,g4,g5,g6,g7⟩
  have e:=yd ha hb hu' ((qi ha hb hu').2 ⟨k',by omega,g3,g4,g5⟩)
  rw[e]at h3 h4 ⊢
  refine⟨i,g1,?_,g6,g7⟩
  dsimp only at h3 h4
  rcases bj hu' with⟨rfl,rfl⟩|⟨rfl,rfl⟩|⟨rfl,rfl⟩|⟨rfl,rfl⟩|⟨rfl,rfl⟩|⟨rfl,rfl⟩|⟨rfl,rfl⟩|⟨rfl,rfl⟩<;>omega
theorem DS{f r a b:Int}(ha:ai f r a=true)(hb:ai f r b=true):(bg f a b).2.2=(bg f b a).2.2:=by
 have key:onLine (px f b-px f a) (py f b-py f a)↔onLine (px f a-px f b) (py f a-py f b):=by unfold onLine;omega
 rcases lz ha hb with⟨e,h⟩|⟨e,h⟩<;>rcases lz hb ha with⟨e',h'⟩|⟨e',h'⟩
 ·rw[e,e']
 ·exact absurd (key.2 h') h
 ·exact absurd (key.1 h) h'
 ·rw[e,e']
theorem nJ{f r a b:Int}(ha:ai f r a=true)(hb:ai f r b=true)(c:Int):c∈aW f r a b↔c∈aW f r b a:=by
 by_cases hc:ai f r c=true
 ·rw[cV ha hb hc,cV hb ha hc,DS ha hb]
  exact⟨fun h=>⟨h.1,h.2.symm⟩,fun h=>⟨h.1,h.2.symm⟩⟩
 ·exact⟨fun h=>absurd ((dA ha).2 c h) hc,fun h=>absurd ((dA hb).2 c h) hc⟩
theorem eV{s:Int}{l:List Int}:dL s l=true↔∀ x∈l,hasB s x=false:=by
 induction l with
 |nil=>simp[dL]
 |cons x l ih=>
  rw[dL]
  cases h:hasB s x with
  |true=>simp[h]
  |false=>simp[h,ih]
theorem uC{f r kd a b occ occ':Int}(ho:Uk occ)(ho':Uk occ')(hs:∀ m,bt occ m=true->bt occ' m=true)(h:aQ f r kd a b occ'=true):aQ f r kd a b occ=true:=by
 unfold aQ at h ⊢
 cases h2:decide (kd=2) with
 |true=>rw[h2]at h;exact h
 |false=>
  cases h6:decide (kd=6) with
  |true=>rw[h2,h6]at h;exact h
  |false=>
   rw[h2,h6]at h
   simp only[cond_false,Bool.and_eq_true]at h ⊢
   refine⟨h.1,eV.2 fun x hx=>?_⟩
   have:=eV.1 h.2 x hx
   rw[nZ ho']at this
   rw[nZ ho]
   cases hb:bt occ x.toNat with
   |false=>simp
   |true=>rw[hs _ hb]at this;simpa using this
section
variable{kCa kDb:Bool}
def okP(p:Int):Bool:=decide (-15<=p)&&decide (p<=15)
def orP(p:Int):Bool:=!decide (p=0)&&decide (-6<=p)&&decide (p<=6)
def badP(p:Int):Bool:=!okP p
def norP(p:Int):Bool:=!decide (p=0)&&!orP p
def posP(p:Int):Bool:=decide (0<p)
def negP(p:Int):Bool:=decide (p<0)
def cntR(f r:Int):Int×Int:=bif vsB f r then(IntKind.i64.wrap (f*r),0) else(0,2)
def cx(p:Int->Bool):List Int->Int->Int
 |[],_=>-1
 |x::l,k=>bif p x then k else cx p l (k+1)
theorem qk(p:Int->Bool):∀ (l:List Int) (k:Int),0<=k->decide (0<=cx p l k)=l.any p
 |[],k,_=>rfl
 |x::l,k,hk=>by
  rw[cx,List.any_cons]
  cases p x with
  |true=>simp[hk]
  |false=>rw[cond_false,Bool.false_or];exact qk p l (k+1) (by omega)
theorem rq{p:Int->Bool}{l:List Int}{i:Nat}{k:Int}(h:i<l.length):cx p (l.drop i) k=bif p (l.getD i 0)then k else cx p (l.drop (i+1)) (k+1):=by
 rw[List.drop_eq_getElem_cons h,cx];simp[List.getD,h]
def gE(p:Int->Bool)(zs:List Int)(s i:Int):Int:=bif p (zs.getD i.toNat 0)then uor s (ushl 1 i)else s
def fc(p:Int->Bool)(zs:List Int):Int:=bV (gE p zs) 0 zs.length
def aI(f r:Int)(zs:List Int):Bool:=decide ((cntR f r).2=0)&&decide ((zs.length:Int)=(cntR f r).1)&&!(zs.any badP)
def aD(f r:Int)(zs:List Int):Bool:=aI f r zs&&!(zs.any norP)
def eP(f r:Int)(zs:List Int):Int×Int×Int:=bif aI f r zs then(fc posP zs,fc negP zs,0) else(0,0,2)
def occR(f r:Int)(zs:List Int):Int:=uor (eP f r zs).1 (eP f r zs).2.1
def vQ:CF
 |[.agg [.int .i64 f,.int .i64 r]],[]=>some (true,.tup [I (cntR f r).1,I (cntR f r).2],[])
 |_,_=>none
theorem Aj:CtOk (GGx kCa kDb) PP (118,vQ):=by
 refine aE Tryz.func118 (by kernel_rfl) rfl fun a0 h0 c0 v0 N0 e hc=>?_
 unfold vQ at e
 split at e
 ·rename_i f r
  cases e
  have hE:=aC (kCa:=kCa) (kDb:=kDb) (cts:=[(88,c_vs)]) (inl:=[]) ⟨mM,trivial⟩ trivial
  refine av hE 2 Tryz.func118 rfl rfl ?_
  repeat' first|(first|refine ah ?_|refine sat_nd ?_)|refine aq (fun h=>?_) (fun h=>?_)
  all_goals exact ae (aj (.inr rfl) rfl rfl rfl (by first|rfl|(simp only[cntR, *];done)|(simp only[cntR, *];done)|simp_all [cntR]))
 ·cases e
def CD:CF
 |[.int .i8 p],[]=>some (true,.bool (okP p),[])
 |_,_=>none
theorem DP:CtOk (GGx kCa kDb) PP (120,CD):=by
 refine aE Tryz.func120 (by kernel_rfl) rfl fun a0 h0 c0 v0 N0 e hc=>?_
 unfold CD at e
 split at e
 ·rename_i p
  cases e
  have hE:=aC (kCa:=kCa) (kDb:=kDb) (cts:=[]) (inl:=[]) trivial trivial
  refine av hE 2 Tryz.func120 rfl rfl ?_
  repeat' first|(first|refine ah ?_|refine sat_nd ?_)|refine aq (fun h=>?_) (fun h=>?_)
  all_goals exact ae (aj (.inr rfl) rfl rfl rfl (by first|rfl|(simp only[*,cond_true,cond_false];done)|(simp only[*,cond_true,cond_false,Bool.not_true,Bool.not_false,Bool.and_true,Bool.true_and,Bool.and_false,Bool.false_and,Bool.or_true,Bool.true_or,Bool.or_false,Bool.false_or];done)|simp_all []))
 ·cases e
def vN:CF
 |[.int .i8 p],[]=>some (true,.bool (orP p),[])
 |_,_=>none
theorem yQ:CtOk (GGx kCa kDb) PP (68,vN):=by
 refine aE Tryz.func68 (by kernel_rfl) rfl fun a0 h0 c0 v0 N0 e hc=>?_
 unfold vN at e
 split at e
 ·rename_i p
  cases e
  have hE:=aC (kCa:=kCa) (kDb:=kDb) (cts:=[]) (inl:=[]) trivial trivial
  refine av hE 2 Tryz.func68 rfl rfl ?_
  repeat' first|(first|refine ah ?_|refine sat_nd ?_)|refine aq (fun h=>?_) (fun h=>?_)
  all_goals exact ae (aj (.inr rfl) rfl rfl rfl (by first|rfl|(simp only[*,cond_true,cond_false];done)|(simp only[*,cond_true,cond_false,Bool.not_true,Bool.not_false,Bool.and_true,Bool.true_and,Bool.and_false,Bool.false_and,Bool.or_true,Bool.true_or,Bool.or_false,Bool.false_or];done)|simp_all []))
 ·cases e
def Fb:CF
 |[.int .i8 p],[]=>some (true,.bool (badP p),[])
 |_,_=>none
theorem xH:CtOk (GGx kCa kDb) PP (119,Fb):=by
 refine aE Tryz.func119 (by kernel_rfl) rfl fun a0 h0 c0 v0 N0 e hc=>?_
 unfold Fb at e
 split at e
 ·rename_i p
  cases e
  have hE:=aC (kCa:=kCa) (kDb:=kDb) (cts:=[(120,CD)]) (inl:=[]) ⟨DP,trivial⟩ trivial
  refine av hE 2 Tryz.func119 rfl rfl ?_
  repeat' first|(first|refine ah ?_|refine sat_nd ?_)|refine aq (fun h=>?_) (fun h=>?_)
  all_goals exact ae (aj (.inr rfl) rfl rfl rfl (by first|rfl|(simp only[*,cond_true,cond_false];done)|(simp only[*,cond_true,cond_false,Bool.not_true,Bool.not_false,Bool.and_true,Bool.true_and,Bool.and_false,Bool.false_and,Bool.or_true,Bool.true_or,Bool.or_false,Bool.false_or];done)|simp_all []))
 ·cases e
def FZ:CF
 |[.int .i8 p],[]=>some (true,.bool (norP p),[])
 |_,_=>none
theorem yA:CtOk (GGx kCa kDb) PP (67,FZ):=by
 refine aE Tryz.func67 (by kernel_rfl) rfl fun a0 h0 c0 v0 N0 e hc=>?_
 unfold FZ at e
 split at e
 ·rename_i p
  cases e
  have hE:=aC (kCa:=kCa) (kDb:=kDb) (cts:=[(68,vN)]) (inl:=[]) ⟨yQ,trivial⟩ trivial
  refine av hE 2 Tryz.func67 rfl rfl ?_
  repeat' first|(first|refine ah ?_|refine sat_nd ?_)|refine aq (fun h=>?_) (fun h=>?_)
  all_goals exact ae (aj (.inr rfl) rfl rfl rfl (by first|rfl|(simp only[*,cond_true,cond_false];done)|(simp only[*,cond_true,cond_false,Bool.not_true,Bool.not_false,Bool.and_true,Bool.true_and,Bool.and_false,Bool.false_and,Bool.or_true,Bool.true_or,Bool.or_false,Bool.false_or];done)|simp_all []))
 ·cases e
def Fj:CF
 |[.int .i8 p],[]=>some (true,.bool (posP p),[])
 |_,_=>none
theorem yn:CtOk (GGx kCa kDb) PP (140,Fj):=by
 refine aE Tryz.func140 (by kernel_rfl) rfl fun a0 h0 c0 v0 N0 e hc=>?_
 unfold Fj at e
 split at e
 ·rename_i p
  cases e
  have hE:=aC (kCa:=kCa) (kDb:=kDb) (cts:=[]) (inl:=[]) trivial trivial
  refine av hE 2 Tryz.func140 rfl rfl ?_
  repeat' first|(first|refine ah ?_|refine sat_nd ?_)|refine aq (fun h=>?_) (fun h=>?_)
  all_goals exact ae (aj (.inr rfl) rfl rfl rfl (by first|rfl|(simp only[*,cond_true,cond_false];done)|(simp only[*,cond_true,cond_false,Bool.not_true,Bool.not_false,Bool.and_true,Bool.true_and,Bool.and_false,Bool.false_and,Bool.or_true,Bool.true_or,Bool.or_false,Bool.false_or];done)|simp_all []))
 ·cases e
def Gi:CF
 |[.int .i8 p],[]=>some (true,.bool (negP p),[])
 |_,_=>none
theorem xl:CtOk (GGx kCa kDb) PP (141,Gi):=by
 refine aE Tryz.func141 (by kernel_rfl) rfl fun a0 h0 c0 v0 N0 e hc=>?_
 unfold Gi at e
 split at e
 ·rename_i p
  cases e
  have hE:=aC (kCa:=kCa) (kDb:=kDb) (cts:=[]) (inl:=[]) trivial trivial
  refine av hE 2 Tryz.func141 rfl rfl ?_
  repeat' first|(first|refine ah ?_|refine sat_nd ?_)|refine aq (fun h=>?_) (fun h=>?_)
  all_goals exact ae (aj (.inr rfl) rfl rfl rfl (by first|rfl|(simp only[*,cond_true,cond_false];done)|(simp only[*,cond_true,cond_false,Bool.not_true,Bool.not_false,Bool.and_true,Bool.true_and,Bool.and_false,Bool.false_and,Bool.or_true,Bool.true_or,Bool.or_false,Bool.false_or];done)|simp_all []))
 ·cases e
def xS:CF
 |[.sl 0 0 len none,.fn 119 []],[.ints false .i8 zs]=>some (decide (len=zs.length)&&decide (zs.length<=1000000),.int .i64 (cx badP zs 0),[])
 |[.sl 0 0 len none,.fn 67 []],[.ints false .i8 zs]=>some (decide (len=zs.length)&&decide (zs.length<=1000000),.int .i64 (cx norP zs 0),[])
 |_,_=>none
theorem ux:CtOk (GGx kCa kDb) PP (121,xS):=by
 refine aE Tryz.func121 (by kernel_rfl) rfl fun a0 h0 c0 v0 N0 e hc=>?_
 unfold xS at e
 split at e
 ·rename_i len zs
  cases e
  have hE:=aC (kCa:=kCa) (kDb:=kDb) (cts:=[(119,Fb),(67,FZ)]) (inl:=[]) ⟨xH,yA,trivial⟩ trivial
  refine av hE 2 Tryz.func121 rfl rfl ?_
  simp only[Bool.and_eq_true,decide_eq_true_eq]at hc
  obtain⟨rfl,hc2⟩:=hc
  refine bU hE 2 (fun i (_:Unit)=>([(0,.sl 0 0 zs.length none),(1,.fn 119 []),(7,I zs.length),(8,I i)],[.ints false .i8 zs])) zs.length (fun j _=>cx badP (zs.drop j) j=cx badP zs 0) () (by omega) (Ent.ren [0] [0,1,7,8] rfl rfl rfl) rfl ?_
  intro j i _ hij hj hz
  refine aq (fun hlt=>?_) (fun hlt=>?_)
  ·have hlt':j<zs.length:=by simp at hlt;omega
   rw[rq hlt',show j=i.toNat by omega]at hz
   refine ag (by simp;omega) ?_
   repeat (first|refine ah ?_|refine sat_nd ?_)
   refine aq (fun hon=>?_) (fun hon=>?_)
   ·have hon:badP (zs.getD i.toNat 0)=true:=hon
    rw[hon,cond_true]at hz
    refine ae (ae (aj (.inr rfl) rfl rfl rfl (by rw[<-hz];exact congrArg (V.int IntKind.i64) (by omega))))
   ·have hon:badP (zs.getD i.toNat 0)=false:=hon
    rw[hon,cond_false]at hz
    exact ae ⟨hlt',(),by rw[<-hz,show i.toNat=j by omega];push_cast;rfl,Ent.ren [0] [0,1,7,8] rfl rfl rfl⟩
  ·obtain rfl:j=zs.length:=by simp at hlt;omega
   rw[List.drop_length]at hz
   exact ae (ae (aj (.inr rfl) rfl rfl rfl (by rw[<-hz];rfl)))
 ·rename_i len zs
  cases e
  have hE:=aC (kCa:=kCa) (kDb:=kDb) (cts:=[(119,Fb),(67,FZ)]) (inl:=[]) ⟨xH,yA,trivial⟩ trivial
  refine av hE 2 Tryz.func121 rfl rfl ?_
  simp only[Bool.and_eq_true,decide_eq_true_eq]at hc
  obtain⟨rfl,hc2⟩:=hc
  refine bU hE 2 (fun i (_:Unit)=>([(0,.sl 0 0 zs.length none),(1,.fn 67 []),(7,I zs.length),(8,I i)],[.ints false .i8 zs])) zs.length (fun j _=>cx norP (zs.drop j) j=cx norP zs 0) () (by omega) (Ent.ren [0] [0,1,7,8] rfl rfl rfl) rfl ?_
  intro j i _ hij hj hz
  refine aq (fun hlt=>?_) (fun hlt=>?_)
  ·have hlt':j<zs.length:=by simp at hlt;omega
   rw[rq hlt',show j=i.toNat by omega]at hz
   refine ag (by simp;omega) ?_
   repeat (first|refine ah ?_|refine sat_nd ?_)
   refine aq (fun hon=>?_) (fun hon=>?_)
   ·have hon:norP (zs.getD i.toNat 0)=true:=hon
    rw[hon,cond_true]at hz
    refine ae (ae (aj (.inr rfl) rfl rfl rfl (by rw[<-hz];exact congrArg (V.int IntKind.i64) (by omega))))
   ·have hon:norP (zs.getD i.toNat 0)=false:=hon
    rw[hon,cond_false]at hz
    exact ae ⟨hlt',(),by rw[<-hz,show i.toNat=j by omega];push_cast;rfl,Ent.ren [0] [0,1,7,8] rfl rfl rfl⟩
  ·obtain rfl:j=zs.length:=by simp at hlt;omega
   rw[List.drop_length]at hz
   exact ae (ae (aj (.inr rfl) rfl rfl rfl (by rw[<-hz];rfl)))
 ·cases e
def qQ:CF
 |[.sl 0 0 len none,.fn 119 []],[.ints false .i8 zs]=>some (decide (len=zs.length)&&decide (zs.length<=1000000),.bool (zs.any badP),[])
 |[.sl 0 0 len none,.fn 67 []],[.ints false .i8 zs]=>some (decide (len=zs.length)&&decide (zs.length<=1000000),.bool (zs.any norP),[])
 |_,_=>none
theorem pC:CtOk (GGx kCa kDb) PP (66,qQ):=by
 refine aE Tryz.func66 (by kernel_rfl) rfl fun a0 h0 c0 v0 N0 e hc=>?_
 unfold qQ at e
 split at e
 ·rename_i len zs
  cases e
  have hE:=aC (kCa:=kCa) (kDb:=kDb) (cts:=[(121,xS)]) (inl:=[]) ⟨ux,trivial⟩ trivial
  refine av hE 2 Tryz.func66 rfl rfl ?_
  simp only[Bool.and_eq_true,decide_eq_true_eq]at hc
  obtain⟨rfl,hc2⟩:=hc
  refine ag (by simp;omega) ?_
  exact ae (aj (.inr rfl) rfl rfl rfl (congrArg Bb (by
   show decide (0<=cx badP (tk zs) 0)=_
   rw[aL];exact qk badP zs 0 (by omega))))
 ·rename_i len zs
  cases e
  have hE:=aC (kCa:=kCa) (kDb:=kDb) (cts:=[(121,xS)]) (inl:=[]) ⟨ux,trivial⟩ trivial
  refine av hE 2 Tryz.func66 rfl rfl ?_
  simp only[Bool.and_eq_true,decide_eq_true_eq]at hc
  obtain⟨rfl,hc2⟩:=hc
  refine ag (by simp;omega) ?_
  exact ae (aj (.inr rfl) rfl rfl rfl (congrArg Bb (by
   show decide (0<=cx norP (tk zs) 0)=_
   rw[aL];exact qk norP zs 0 (by omega))))
 ·cases e
def jO:CF
 |[.agg [.int .i64 f,.int .i64 r,.sl 0 0 len none]],[.ints false .i8 zs]=>some (decide (len=zs.length)&&decide (zs.length<=1000000),.bool (aI f r zs),[])
 |_,_=>none
theorem iO:CtOk (GGx kCa kDb) PP (65,jO):=by
 refine aE Tryz.func65 (by kernel_rfl) rfl fun a0 h0 c0 v0 N0 e hc=>?_
 unfold jO at e
 split at e
 ·rename_i f r len zs
  cases e
  have hE:=aC (kCa:=kCa) (kDb:=kDb) (cts:=[(118,vQ),(66,qQ)]) (inl:=[]) ⟨Aj,pC,trivial⟩ trivial
  refine av hE 2 Tryz.func65 rfl rfl ?_
  simp only[Bool.and_eq_true,decide_eq_true_eq]at hc
  obtain⟨rfl,hc2⟩:=hc
  repeat (first|refine ah ?_|refine sat_nd ?_)
  exact ae (aj (.inr rfl) rfl rfl rfl (congrArg Bb (by
   show (decide ((cntR f r).2=0)&&decide ((zs.length:Int)=(cntR f r).1)&&!((tk zs).any badP))=_
   rw[aL];rfl)))
 ·cases e
def ug:CF
 |[.agg [.int .i64 f,.int .i64 r,.sl 0 0 len none]],[.ints false .i8 zs]=>some (decide (len=zs.length)&&decide (zs.length<=1000000),.bool (aD f r zs),[])
 |_,_=>none
theorem nM:CtOk (GGx kCa kDb) PP (32,ug):=by
 refine aE Tryz.func32 (by kernel_rfl) rfl fun a0 h0 c0 v0 N0 e hc=>?_
 unfold ug at e
 split at e
 ·rename_i f r len zs
  cases e
  have hE:=aC (kCa:=kCa) (kDb:=kDb) (cts:=[(65,jO),(66,qQ)]) (inl:=[]) ⟨iO,pC,trivial⟩ trivial
  refine av hE 2 Tryz.func32 rfl rfl ?_
  simp only[Bool.and_eq_true,decide_eq_true_eq]at hc
  obtain⟨rfl,hc2⟩:=hc
  repeat (first|refine ah ?_|refine sat_nd ?_)
  exact ae (aj (.inr rfl) rfl rfl rfl (congrArg Bb (by
   show (aI f r (tk zs)&&!((tk zs).any norP))=_
   rw[aL];rfl)))
 ·cases e
def wO:CF
 |[.agg [.int .i64 _f,.int .i64 _r,.sl 0 0 len none],.fn 140 []],[.ints false .i8 zs]=>some (decide (len=zs.length)&&decide (zs.length<=1000000),.int .u64 (fc posP zs),[])
 |[.agg [.int .i64 _f,.int .i64 _r,.sl 0 0 len none],.fn 141 []],[.ints false .i8 zs]=>some (decide (len=zs.length)&&decide (zs.length<=1000000),.int .u64 (fc negP zs),[])
 |_,_=>none
theorem zN:CtOk (GGx kCa kDb) PP (139,wO):=by
 refine aE Tryz.func139 (by kernel_rfl) rfl fun a0 h0 c0 v0 N0 e hc=>?_
 unfold wO at e
 split at e
 ·rename_i f r len zs
  cases e
  have hE:=aC (kCa:=kCa) (kDb:=kDb) (cts:=[(140,Fj),(141,Gi)]) (inl:=[]) ⟨yn,xl,trivial⟩ trivial
  refine av hE 2 Tryz.func139 rfl rfl ?_
  simp only[Bool.and_eq_true,decide_eq_true_eq]at hc
  obtain⟨rfl,hc2⟩:=hc
  repeat (first|refine ah ?_|refine sat_nd ?_)
  refine bU hE 2 (fun i (s:Int)=>([(1,.fn 140 []),(2,.ptr 1 0 0),(5,U s),(9,.sl 0 0 zs.length none),(10,I zs.length),(11,I i)],[.ints false .i8 zs,.cells true [I f,I r,.sl 0 0 zs.length none]])) zs.length (fun j s=>s=bV (gE posP zs) 0 j) 0 (by omega) (Ent.ren [0,1] [1,2,5,9,10,11] rfl rfl rfl) rfl ?_
  intro j i s hij hj hz
  refine aq (fun hlt=>?_) (fun hlt=>?_)
  ·have hlt':j<zs.length:=by simp at hlt;omega
   have hs:gE posP zs s i=bV (gE posP zs) 0 (j+1):=by rw[hz,hij];rfl
   refine ag (by simp;omega) ?_
   repeat (first|refine ah ?_|refine sat_nd ?_)
   refine aq (fun hon=>?_) (fun hon=>?_)
   ·have hon:posP (zs.getD i.toNat 0)=true:=hon
    rw[gE,hon,cond_true]at hs
    refine ag (by simp;omega) ?_
    exact ae ⟨hlt',_,hs,Ent.ren [0,1] [1,2,5,9,10,11] rfl rfl rfl⟩
   ·have hon:posP (zs.getD i.toNat 0)=false:=hon
    rw[gE,hon,cond_false]at hs
    exact ae ⟨hlt',_,hs,Ent.ren [0,1] [1,2,5,9,10,11] rfl rfl rfl⟩
  ·obtain rfl:j=zs.length:=by simp at hlt;omega
   subst hz
   exact ae (ae (aj (.inr rfl) rfl rfl rfl rfl))
 ·rename_i f r len zs
  cases e
  have hE:=aC (kCa:=kCa) (kDb:=kDb) (cts:=[(140,Fj),(141,Gi)]) (inl:=[]) ⟨yn,xl,trivial⟩ trivial
  refine av hE 2 Tryz.func139 rfl rfl ?_
  simp only[Bool.and_eq_true,decide_eq_true_eq]at hc
  obtain⟨rfl,hc2⟩:=hc
  repeat (first|refine ah ?_|refine sat_nd ?_)
  refine bU hE 2 (fun i (s:Int)=>([(1,.fn 141 []),(2,.ptr 1 0 0),(5,U s),(9,.sl 0 0 zs.length none),(10,I zs.length),(11,I i)],[.ints false .i8 zs,.cells true [I f,I r,.sl 0 0 zs.length none]])) zs.length (fun j s=>s=bV (gE negP zs) 0 j) 0 (by omega) (Ent.ren [0,1] [1,2,5,9,10,11] rfl rfl rfl) rfl ?_
  intro j i s hij hj hz
  refine aq (fun hlt=>?_) (fun hlt=>?_)
  ·have hlt':j<zs.length:=by simp at hlt;omega
   have hs:gE negP zs s i=bV (gE negP zs) 0 (j+1):=by rw[hz,hij];rfl
   refine ag (by simp;omega) ?_
   repeat (first|refine ah ?_|refine sat_nd ?_)
   refine aq (fun hon=>?_) (fun hon=>?_)
   ·have hon:negP (zs.getD i.toNat 0)=true:=hon
    rw[gE,hon,cond_true]at hs
    refine ag (by simp;omega) ?_
    exact ae ⟨hlt',_,hs,Ent.ren [0,1] [1,2,5,9,10,11] rfl rfl rfl⟩
   ·have hon:negP (zs.getD i.toNat 0)=false:=hon
    rw[gE,hon,cond_false]at hs
    exact ae ⟨hlt',_,hs,Ent.ren [0,1] [1,2,5,9,10,11] rfl rfl rfl⟩
  ·obtain rfl:j=zs.length:=by simp at hlt;omega
   subst hz
   exact ae (ae (aj (.inr rfl) rfl rfl rfl rfl))
 ·cases e
def nr:CF
 |[.agg [.int .i64 f,.int .i64 r,.sl 0 0 len none]],[.ints false .i8 zs]=>some (decide (len=zs.length)&&decide (zs.length<=1000000),.tup [U (eP f r zs).1,U (eP f r zs).2.1,I (eP f r zs).2.2],[])
 |_,_=>none
theorem kN:CtOk (GGx kCa kDb) PP (112,nr):=by
 refine aE Tryz.func112 (by kernel_rfl) rfl fun a0 h0 c0 v0 N0 e hc=>?_
 unfold nr at e
 split at e
 ·rename_i f r len zs
  cases e
  have hE:=aC (kCa:=kCa) (kDb:=kDb) (cts:=[(65,jO),(139,wO)]) (inl:=[]) ⟨iO,zN,trivial⟩ trivial
  refine av hE 2 Tryz.func112 rfl rfl ?_
  simp only[Bool.and_eq_true,decide_eq_true_eq]at hc
  obtain⟨rfl,hc2⟩:=hc
  repeat (first|refine ah ?_|refine sat_nd ?_)
  refine aq (fun h=>?_) (fun h=>?_)
  ·have h:aI f r zs=false:=by simpa using h
   exact ae (aj (.inr rfl) rfl rfl rfl (by rw[eP,h];rfl))
  ·have h:aI f r zs=true:=by simpa using h
   repeat (first|refine ah ?_|refine sat_nd ?_)
   refine ae (aj (.inr rfl) rfl rfl rfl ?_)
   show V.tup [U (fc posP (tk zs)),U (fc negP (tk zs)),I 0]=_
   rw[aL,eP,h];rfl
 ·cases e
def Bq:CF
 |[.agg [.int .i64 f,.int .i64 r,.sl 0 0 len none]],[.ints false .i8 zs]=>some (decide (len=zs.length)&&decide (zs.length<=1000000),.int .u64 (occR f r zs),[])
 |_,_=>none
theorem sF:CtOk (GGx kCa kDb) PP (69,Bq):=by
 refine aE Tryz.func69 (by kernel_rfl) rfl fun a0 h0 c0 v0 N0 e hc=>?_
 unfold Bq at e
 split at e
 ·rename_i f r len zs
  cases e
  have hE:=aC (kCa:=kCa) (kDb:=kDb) (cts:=[(112,nr)]) (inl:=[]) ⟨kN,trivial⟩ trivial
  refine av hE 2 Tryz.func69 rfl rfl ?_
  simp only[Bool.and_eq_true,decide_eq_true_eq]at hc
  obtain⟨rfl,hc2⟩:=hc
  repeat (first|refine ah ?_|refine sat_nd ?_)
  refine ae (aj (.inr rfl) rfl rfl rfl ?_)
  show U (occR f r (tk zs))=_
  rw[aL]
 ·cases e
end
section
variable{kCa kDb:Bool}
abbrev w8(n:Int):Int:=IntKind.i8.wrap n
def isP(p:Int)(bl:Bool):Bool:=(decide (p<0)&&bl)||(decide (0<p)&&!bl)
def absP(p:Int):Int:=imax true p (w8 (0-p))
def ofR(f r:Int)(zs:List Int)(at_ all_:Int):Int:=bif decide (zs.getD at_.toNat 0=1)||decide (zs.getD at_.toNat 0=-1) then(gj f r (decide (zs.getD at_.toNat 0<0)) at_).1 else(bQ f r (absP (zs.getD at_.toNat 0)) at_ all_).1
def AR:CF
 |[.int .i8 p,.bool bl],[]=>some (true,.bool (isP p bl),[])
 |_,_=>none
theorem sA:CtOk (GGx kCa kDb) PP (70,AR):=by
 refine aE Tryz.func70 (by kernel_rfl) rfl fun a0 h0 c0 v0 N0 e hc=>?_
 unfold AR at e
 split at e
 ·rename_i p bl
  cases e
  have hE:=aC (kCa:=kCa) (kDb:=kDb) (cts:=[]) (inl:=[]) trivial trivial
  refine av hE 2 Tryz.func70 rfl rfl ?_
  repeat' first|(first|refine ah ?_|refine sat_nd ?_)|refine aq (fun h=>?_) (fun h=>?_)
  all_goals exact ae (aj (.inr rfl) rfl rfl rfl (by first|rfl|(simp only[*,cond_true,cond_false];done)|(simp only[*,cond_true,cond_false,Bool.not_true,Bool.not_false,Bool.and_true,Bool.true_and,Bool.and_false,Bool.false_and,Bool.or_true,Bool.true_or,Bool.or_false,Bool.false_or];done)|simp_all []))
 ·cases e
def c_of:CF
 |[.agg [.int .i64 f,.int .i64 r,.sl 0 0 len none],.int .i64 at_,.int .u64 all_],[.ints false .i8 zs]=>some (decide (len=zs.length)&&decide (zs.length<=64)&&decide (0<=at_)&&decide (at_<zs.length),.int .u64 (ofR f r zs at_ all_),[])
 |_,_=>none
theorem HF:CtOk (GGx kCa kDb) PP (71,c_of):=by
 refine aE Tryz.func71 (by kernel_rfl) rfl fun a0 h0 c0 v0 N0 e hc=>?_
 unfold c_of at e
 split at e
 ·rename_i f r len at_ all_ zs
  cases e
  have hE:=aC (kCa:=kCa) (kDb:=kDb) (cts:=[(122,sL),(73,iJ)]) (inl:=[]) ⟨oO,fQ,trivial⟩ trivial
  refine av hE 2 Tryz.func71 rfl rfl ?_
  simp only[Bool.and_eq_true,decide_eq_true_eq]at hc
  obtain⟨⟨⟨rfl,hc2⟩,ha1⟩,ha2⟩:=hc
  repeat (first|refine ah ?_|refine sat_nd ?_)
  refine aq (fun h=>?_) (fun h=>?_)
  ·have h:decide (zs.getD at_.toNat 0=1)=true:=h
   refine dc h ?_
   repeat (first|refine ah ?_|refine sat_nd ?_)
   exact ae (aj (.inr rfl) rfl rfl rfl (by rw[ofR,h];rfl))
  have h:decide (zs.getD at_.toNat 0=1)=false:=h
  refine aq (fun h2=>?_) (fun h2=>?_)
  ·have h2:decide (zs.getD at_.toNat 0=-1)=true:=h2
   repeat (first|refine ah ?_|refine sat_nd ?_)
   exact ae (aj (.inr rfl) rfl rfl rfl (by rw[ofR,h,h2];rfl))
  have h2:decide (zs.getD at_.toNat 0=-1)=false:=h2
  repeat (first|refine ah ?_|refine sat_nd ?_)
  exact ae (aj (.inr rfl) rfl rfl rfl (by rw[ofR,h,h2];rfl))
 ·cases e
def attB(f r:Int)(zs:List Int)(at_:Int)(bl:Bool)(all_ i:Int):Bool:=isP (zs.getD i.toNat 0) bl&&decide (uand (ushr (ofR f r zs i all_) at_) 1=1)
def attS(f r:Int)(zs:List Int)(at_:Int)(bl:Bool)(all_ s i:Int):Int:=bif attB f r zs at_ bl all_ i then uor s (ushl 1 i)else s
def attR(f r:Int)(zs:List Int)(at_:Int)(bl:Bool):Int:=bV (attS f r zs at_ bl (occR f r zs)) 0 zs.length
def gd:CF
 |[.agg [.int .i64 f,.int .i64 r,.sl 0 0 len none],.int .i64 at_,.bool bl],[.ints false .i8 zs]=>some (decide (len=zs.length)&&decide (zs.length<=64)&&decide (0<=at_),.int .u64 (attR f r zs at_ bl),[])
 |_,_=>none
theorem iA:CtOk (GGx kCa kDb) PP (35,gd):=by
 refine aE Tryz.func35 (by kernel_rfl) rfl fun a0 h0 c0 v0 N0 e hc=>?_
 unfold gd at e
 split at e
 ·rename_i f r len at_ bl zs
  cases e
  have hE:=aC (kCa:=kCa) (kDb:=kDb) (cts:=[(69,Bq),(70,AR),(71,c_of)]) (inl:=[]) ⟨sF,sA,HF,trivial⟩ trivial
  refine av hE 2 Tryz.func35 rfl rfl ?_
  simp only[Bool.and_eq_true,decide_eq_true_eq]at hc
  obtain⟨⟨rfl,hc2⟩,ha1⟩:=hc
  repeat (first|refine ah ?_|refine sat_nd ?_)
  refine bU hE 2 (fun i (s:Int)=>([(1,I at_),(2,Bb bl),(3,.ptr 1 0 0),(7,U s),(8,U (occR f r (tk zs))),(14,.sl 0 0 zs.length none),(15,I zs.length),(16,I i)],[.ints false .i8 zs,.cells true [I f,I r,.sl 0 0 zs.length none]])) zs.length (fun j s=>s=bV (attS f r zs at_ bl (occR f r zs)) 0 j) 0 (by omega) (Ent.ren [0,1] [1,2,3,7,8,14,15,16] rfl rfl rfl) rfl ?_
  intro j i s hij hj hz
  refine aq (fun hlt=>?_) (fun hlt=>?_)
  ·have hlt':j<zs.length:=by simp at hlt;omega
   have hs:attS f r zs at_ bl (occR f r zs) s i=bV (attS f r zs at_ bl (occR f r zs)) 0 (j+1):=by rw[hz,hij];rfl
   refine ag (by simp;omega) ?_
   repeat (first|(first|refine ah ?_|refine sat_nd ?_)|refine ag (by rw[decide_eq_true ha1];exact Bool.or_true _) ?_|refine ag (by simp;right;omega) ?_)
   refine aq (fun hon=>?_) (fun hon=>?_)
   ·have hon:(isP (zs.getD i.toNat 0) bl&&decide (uand (ushr (ofR f r (tk zs) i (occR f r (tk zs))) at_) 1=1))=true:=hon
    rw[aL]at hon
    have hon:attB f r zs at_ bl (occR f r zs) i=true:=hon
    rw[attS,hon,cond_true]at hs
    refine ag (by simp;omega) ?_
    exact ae ⟨hlt',_,hs,Ent.ren [0,1] [1,2,3,7,8,14,15,16] rfl rfl rfl⟩
   ·have hon:(isP (zs.getD i.toNat 0) bl&&decide (uand (ushr (ofR f r (tk zs) i (occR f r (tk zs))) at_) 1=1))=false:=hon
    rw[aL]at hon
    have hon:attB f r zs at_ bl (occR f r zs) i=false:=hon
    rw[attS,hon,cond_false]at hs
    exact ae ⟨hlt',_,hs,Ent.ren [0,1] [1,2,3,7,8,14,15,16] rfl rfl rfl⟩
  ·obtain rfl:j=zs.length:=by simp at hlt;omega
   subst hz
   exact ae (ae (aj (.inr rfl) rfl rfl rfl rfl))
 ·cases e
end
end Go.Ab
namespace Go.Ab
open IntKind
open Go.Proofs
section
variable{kCa kDb:Bool}
theorem aJ{f r:Int}{zs:List Int}(h:aD f r zs=true):vsB f r=true/\(zs.length:Int)=f*r/\aI f r zs=true/\(∀ p∈zs,-6<=p/\p<=6):=by
 simp only[aD,Bool.and_eq_true,Bool.not_eq_true',List.any_eq_false]at h
 obtain⟨h1,h2⟩:=h
 have h1':=h1
 simp only[aI,Bool.and_eq_true,decide_eq_true_eq]at h1
 obtain⟨⟨h3,h4⟩,_⟩:=h1
 have hv:vsB f r=true:=by
  cases hv:vsB f r with
  |true=>rfl
  |false=>rw[cntR,hv]at h3;simp at h3
 rw[cntR,hv,cond_true]at h4
 refine⟨hv,by rw[h4];exact fo hv,h1',fun p hp=>?_⟩
 have:=h2 p hp
 simp only[norP,orP,Bool.and_eq_true,Bool.not_eq_true',decide_eq_false_iff_not,Bool.and_eq_false_iff,not_and]at this
 by_cases e:p=0
 ·omega
 ·have:=this e
  simp[e]at this
  omega
theorem bM{f r n:Int}{zs:List Int}(h:aD f r zs=true):ai f r n=true↔0<=n/\n<zs.length:=by
 obtain⟨h1,h2,_⟩:=aJ h
 rw[h2]
 exact⟨fun h=>⟨(aB h).1,(aB h).2.1⟩,fun h=>sg h1 h.1 h.2⟩
def isV(v p:Int):Bool:=decide (v=p)
theorem uu{K:Int}{n:Nat}(h1:-1<=K)(h2:K<n)(hn:n<=64):(!!decide (K<0)||(decide (0<=i64.wrap (K+1))&&decide (i64.wrap (K+1)<=n)&&decide ((n:Int)<=n)))=true:=by
 rw[az (by omega) (by omega)]
 simp
 omega
theorem uJ{g:Bool}{zs:List Int}{a m:Nat}(h:m=zs.length)(hn:zs.length<=64):(!g||(decide (m-a=((zs.drop a).take (m-a)).length)&&decide (((zs.drop a).take (m-a)).length<=1000000)))=true:=by
 subst h
 rw[List.take_of_length_le (by simp),List.length_drop]
 have:zs.length-a<=1000000:=by omega
 simp[this]
theorem jf{zs:List Int}{v:Int}{b:Bool}(h:(decide (cx (isV v) (tk zs) 0<0)||((zs.drop (i64.wrap (cx (isV v) (tk zs) 0+1)).toNat).take ((zs.length:Int).toNat-(i64.wrap (cx (isV v) (tk zs) 0+1)).toNat)).any (isV v))=b):(decide (cx (isV v) zs 0<0)||(zs.drop (i64.wrap (cx (isV v) zs 0+1)).toNat).any (isV v))=b:=by
 rw[aL]at h
 rwa [List.take_of_length_le (by simp)]at h
def dn(f r:Int)(zs:List Int)(at_:Int)(bl:Bool):Int×Int:=bif aD f r zs&&ai f r at_ then(attR f r zs at_ bl,0) else(0,2)
def kgP(bl:Bool):Int:=bif bl then -6 else 6
def gz(zs:List Int)(bl:Bool):Int:=cx (isV (kgP bl)) zs 0
def og(zs:List Int)(bl:Bool):Bool:=decide (gz zs bl<0)||(zs.drop (i64.wrap (gz zs bl+1)).toNat).any (isV (kgP bl))
def aK(f r:Int)(zs:List Int)(bl:Bool):Int×Int:=bif aD f r zs then(bif og zs bl then(0,9) else(gz zs bl,0)) else(0,2)
def aM(f r:Int)(zs:List Int)(bl:Bool):Int×Int:=bif decide ((aK f r zs bl).2=0) then(attR f r zs (aK f r zs bl).1 (!bl),0) else(0,(aK f r zs bl).2)
theorem mD(p:Int->Bool):∀ (l:List Int) (k:Int),0<=k->-1<=cx p l k/\cx p l k<k+l.length
 |[],k,_=>by simp[cx];omega
 |x::l,k,h=>by
  have:=mD p l (k+1) (by omega)
  rw[cx]
  cases p x<;>simp<;>omega
theorem wQ{f r:Int}{zs:List Int}{bl:Bool}(h:(aK f r zs bl).2=0):aD f r zs=true/\og zs bl=false/\(aK f r zs bl).1=gz zs bl/\0<=gz zs bl/\gz zs bl<zs.length:=by
 unfold aK at h ⊢
 cases ho:aD f r zs with
 |false=>rw[ho]at h;simp at h
 |true=>
  cases hn:og zs bl with
  |true=>rw[ho,hn]at h;simp at h
  |false=>
   have hb:=mD (isV (kgP bl)) zs 0 (by omega)
   simp only[og,Bool.or_eq_false_iff,decide_eq_false_iff_not]at hn
   refine⟨rfl,rfl,rfl,by omega,?_⟩
   unfold gz;omega
def iP:CF
 |[.agg [.int .i64 f,.int .i64 r,.sl 0 0 len none],.int .i64 at_,.bool bl],[.ints false .i8 zs]=>some (decide (len=zs.length)&&decide (zs.length<=64),.tup [U (dn f r zs at_ bl).1,I (dn f r zs at_ bl).2],[])
 |_,_=>none
theorem oU:CtOk (GGx kCa kDb) PP (84,iP):=by
 refine aE Tryz.func84 (by kernel_rfl) rfl fun a0 h0 c0 v0 N0 e hc=>?_
 unfold iP at e
 split at e
 ·rename_i f r len at_ bl zs
  cases e
  have hE:=aC (kCa:=kCa) (kDb:=kDb) (cts:=[(32,ug),(44,eD),(35,gd)]) (inl:=[]) ⟨nM,cz,iA,trivial⟩ trivial
  refine av hE 2 Tryz.func84 rfl rfl ?_
  simp only[Bool.and_eq_true,decide_eq_true_eq]at hc
  obtain⟨rfl,hc2⟩:=hc
  repeat (first|refine ah ?_|refine sat_nd ?_)
  refine aq (fun h=>?_) (fun h=>?_)
  ·have h:(aD f r zs&&ai f r at_)=false:=by
    have h:(!aD f r (tk zs)||!ai f r at_)=true:=h
    rw[aL]at h
    cases h1:aD f r zs<;>cases h2:ai f r at_<;>simp_all
   exact ae (aj (.inr rfl) rfl rfl rfl (by rw[dn,h];rfl))
  ·have h:(aD f r zs&&ai f r at_)=true:=by
    have h:(!aD f r (tk zs)||!ai f r at_)=false:=h
    rw[aL]at h
    cases h1:aD f r zs<;>cases h2:ai f r at_<;>simp_all
   have h0:=(aB (Bool.and_eq_true_iff.1 h).2).1
   refine ag (by simp;omega) ?_
   exact ae (aj (.inr rfl) rfl rfl rfl (by
    show V.tup [U (attR f r (tk zs) at_ bl),I 0]=_
    rw[aL,dn,h];rfl))
 ·cases e
def qp:CF
 |[.sl 0 0 len none,.int .i8 v],[.ints false .i8 zs]=>some (decide (len=zs.length)&&decide (zs.length<=1000000),.int .i64 (cx (isV v) zs 0),[])
 |_,_=>none
theorem pT:CtOk (GGx kCa kDb) PP (33,qp):=by
 refine aE Tryz.func33 (by kernel_rfl) rfl fun a0 h0 c0 v0 N0 e hc=>?_
 unfold qp at e
 split at e
 ·rename_i len v zs
  cases e
  have hE:=aC (kCa:=kCa) (kDb:=kDb) (cts:=[]) (inl:=[]) trivial trivial
  refine av hE 2 Tryz.func33 rfl rfl ?_
  simp only[Bool.and_eq_true,decide_eq_true_eq]at hc
  obtain⟨rfl,hc2⟩:=hc
  refine bU hE 2 (fun i (_:Unit)=>([(0,.sl 0 0 zs.length none),(1,.int .i8 v),(7,I zs.length),(8,I i)],[.ints false .i8 zs])) zs.length (fun j _=>cx (isV v) (zs.drop j) j=cx (isV v) zs 0) () (by omega) (Ent.ren [0] [0,1,7,8] rfl rfl rfl) rfl ?_
  intro j i _ hij hj hz
  refine aq (fun hlt=>?_) (fun hlt=>?_)
  ·have hlt':j<zs.length:=by simp at hlt;omega
   rw[rq hlt',show j=i.toNat by omega]at hz
   refine ag (by simp;omega) ?_
   repeat (first|refine ah ?_|refine sat_nd ?_)
   refine aq (fun hon=>?_) (fun hon=>?_)
   ·have hon:isV v (zs.getD i.toNat 0)=true:=hon
    rw[hon,cond_true]at hz
    refine ae (ae (aj (.inr rfl) rfl rfl rfl (by rw[<-hz];exact congrArg (V.int i64) (by omega))))
   ·have hon:isV v (zs.getD i.toNat 0)=false:=hon
    rw[hon,cond_false]at hz
    exact ae ⟨hlt',(),by rw[<-hz,show i.toNat=j by omega];push_cast;rfl,Ent.ren [0] [0,1,7,8] rfl rfl rfl⟩
  ·obtain rfl:j=zs.length:=by simp at hlt;omega
   rw[List.drop_length]at hz
   exact ae (ae (aj (.inr rfl) rfl rfl rfl (by rw[<-hz];rfl)))
 ·cases e
def gY:CF
 |[.sl 0 0 len none,.int .i8 v],[.ints false .i8 zs]=>some (decide (len=zs.length)&&decide (zs.length<=1000000),.bool (zs.any (isV v)),[])
 |_,_=>none
theorem jh:CtOk (GGx kCa kDb) PP (34,gY):=by
 refine aE Tryz.func34 (by kernel_rfl) rfl fun a0 h0 c0 v0 N0 e hc=>?_
 unfold gY at e
 split at e
 ·rename_i len v zs
  cases e
  have hE:=aC (kCa:=kCa) (kDb:=kDb) (cts:=[(33,qp)]) (inl:=[]) ⟨pT,trivial⟩ trivial
  refine av hE 2 Tryz.func34 rfl rfl ?_
  simp only[Bool.and_eq_true,decide_eq_true_eq]at hc
  obtain⟨rfl,hc2⟩:=hc
  refine ag (by simp;omega) ?_
  exact ae (aj (.inr rfl) rfl rfl rfl (congrArg Bb (by
   show decide (0<=cx (isV v) (tk zs) 0)=_
   rw[aL];exact qk (isV v) zs 0 (by omega))))
 ·cases e
def mH:CF
 |[.agg [.int .i64 f,.int .i64 r,.sl 0 0 len none],.bool bl],[.ints false .i8 zs]=>some (decide (len=zs.length)&&decide (zs.length<=64),.tup [I (aK f r zs bl).1,I (aK f r zs bl).2],[])
 |_,_=>none
theorem gM:CtOk (GGx kCa kDb) PP (9,mH):=by
 refine aE Tryz.func9 (by kernel_rfl) rfl fun a0 h0 c0 v0 N0 e hc=>?_
 unfold mH at e
 split at e
 ·rename_i f r len bl zs
  cases e
  have hE:=aC (kCa:=kCa) (kDb:=kDb) (cts:=[(32,ug),(33,qp),(34,gY)]) (inl:=[]) ⟨nM,pT,jh,trivial⟩ trivial
  refine av hE 2 Tryz.func9 rfl rfl ?_
  simp only[Bool.and_eq_true,decide_eq_true_eq]at hc
  obtain⟨rfl,hc2⟩:=hc
  repeat (first|refine ah ?_|refine sat_nd ?_)
  refine aq (fun h=>?_) (fun h=>?_)
  ·have h:aD f r zs=false:=by simpa using h
   exact ae (aj (.inr rfl) rfl rfl rfl (by rw[aK,h];rfl))
  have h:aD f r zs=true:=by simpa using h
  refine aq (fun hb=>?_) (fun hb=>?_)
  ·subst hb
   have hbd:=mD (isV (kgP true)) zs 0 (by omega)
   repeat (first|refine ah ?_|refine sat_nd ?_)
   refine ag (by
    refine uu (K:=cx (isV (kgP true)) (tk zs) 0) ?_ ?_ hc2
    ·rw[aL];exact hbd.1
    ·rw[aL];have:=hbd.2;omega) ?_
   repeat (first|(first|refine ah ?_|refine sat_nd ?_)|refine ag (uJ rfl hc2) ?_)
   refine aq (fun hk=>?_) (fun hk=>?_)
   ·have hk:=jf (zs:=zs) (v:=kgP true) hk
    exact ae (aj (.inr rfl) rfl rfl rfl (by rw[aK,h,show og zs true=true from hk];rfl))
   ·have hk:=jf (zs:=zs) (v:=kgP true) hk
    exact ae (aj (.inr rfl) rfl rfl rfl (by
     show V.tup [I (cx (isV (kgP true)) (tk zs) 0),I 0]=_
     rw[aL,aK,h,show og zs true=false from hk];rfl))
  ·subst hb
   have hbd:=mD (isV (kgP false)) zs 0 (by omega)
   repeat (first|refine ah ?_|refine sat_nd ?_)
   refine ag (by
    refine uu (K:=cx (isV (kgP false)) (tk zs) 0) ?_ ?_ hc2
    ·rw[aL];exact hbd.1
    ·rw[aL];have:=hbd.2;omega) ?_
   repeat (first|(first|refine ah ?_|refine sat_nd ?_)|refine ag (uJ rfl hc2) ?_)
   refine aq (fun hk=>?_) (fun hk=>?_)
   ·have hk:=jf (zs:=zs) (v:=kgP false) hk
    exact ae (aj (.inr rfl) rfl rfl rfl (by rw[aK,h,show og zs false=true from hk];rfl))
   ·have hk:=jf (zs:=zs) (v:=kgP false) hk
    exact ae (aj (.inr rfl) rfl rfl rfl (by
     show V.tup [I (cx (isV (kgP false)) (tk zs) 0),I 0]=_
     rw[aL,aK,h,show og zs false=false from hk];rfl))
 ·cases e
def fP:CF
 |[.agg [.int .i64 f,.int .i64 r,.sl 0 0 len none],.bool bl],[.ints false .i8 zs]=>some (decide (len=zs.length)&&decide (zs.length<=64),.tup [U (aM f r zs bl).1,I (aM f r zs bl).2],[])
 |_,_=>none
theorem fW:CtOk (GGx kCa kDb) PP (10,fP):=by
 refine aE Tryz.func10 (by kernel_rfl) rfl fun a0 h0 c0 v0 N0 e hc=>?_
 unfold fP at e
 split at e
 ·rename_i f r len bl zs
  cases e
  have hE:=aC (kCa:=kCa) (kDb:=kDb) (cts:=[(9,mH),(35,gd)]) (inl:=[]) ⟨gM,iA,trivial⟩ trivial
  refine av hE 2 Tryz.func10 rfl rfl ?_
  simp only[Bool.and_eq_true,decide_eq_true_eq]at hc
  obtain⟨rfl,hc2⟩:=hc
  repeat (first|refine ah ?_|refine sat_nd ?_)
  refine aq (fun h=>?_) (fun h=>?_)
  ·have h:decide ((aK f r zs bl).2=0)=false:=by simpa using h
   exact ae (aj (.inr rfl) rfl rfl rfl (by
    show V.tup [U 0,I (aK f r (tk zs) bl).2]=_
    rw[aL,aM,h];rfl))
  have h:decide ((aK f r zs bl).2=0)=true:=by simpa using h
  obtain⟨_,_,k3,k4,k5⟩:=wQ (of_decide_eq_true h)
  refine ag (by
   have e:(aK f r (tk zs) bl).1=gz zs bl:=by rw[aL,k3]
   rw[e];simp;omega) ?_
  exact ae (aj (.inr rfl) rfl rfl rfl (by
   show V.tup [U (attR f r (tk zs) (aK f r (tk zs) bl).1 (!bl)),I 0]=_
   rw[aL,aM,h];rfl))
 ·cases e
end
end Go.Ab
set_option maxHeartbeats 4000000
namespace Go.Ab
open IntKind
open Go.Proofs
section
variable{kCa kDb:Bool}
structure Psn where
 f:Int
 r:Int
 zs:List Int
 bl:Bool
 ca:Int
 pa:Int
 ha:Int
 fu:Int
structure Mov where
 a:Int
 b:Int
 p:Int
structure Und where
 m:Mov
 c:Int
 at_:Int
 ca:Int
 pa:Int
 ha:Int
 fu:Int
abbrev bS(a b:Int):Int:=band .and .u8 a b
def ofP(k:Int)(b:Bool):Int:=bif b then w8 (0-k)else k
def mvB(f r a b p:Int):Bool:=ai f r a&&ai f r b&&!decide (a=b)&&(decide (p=0)||(decide (2<=p)&&decide (p<=5)))
def is88(f r:Int):Bool:=decide (f=8)&&decide (r=8)
def rtX(f r:Int)(zs:List Int)(ca bit:Int)(k q:Nat)(b:Bool):Bool:=!decide (bS ca bit=0)&&((!is88 f r||!decide (zs.getD k 0=ofP 6 b))||!decide (zs.getD q 0=ofP 4 b))
def er(f r:Int)(zs:List Int)(ca:Int):Bool:=!rtX f r zs ca 1 4 7 false&&!rtX f r zs ca 2 4 0 false&&!rtX f r zs ca 4 60 63 true&&!rtX f r zs ca 8 60 56 true&&decide (ca<16)
def upP(f:Int)(bl:Bool):Int:=bif bl then f else i64.wrap (0-f)
def rkP(r:Int)(bl:Bool):Int:=bif bl then 2 else i64.wrap (r-3)
def iQ(f r:Int)(zs:List Int)(bl:Bool)(pa ha:Int):Bool:=decide (pa=-1) ||
 (decide (6<=r)&&decide (ha=0)&&ai f r pa&&decide (i64.wrap (pa.tdiv f)=rkP r bl)&&decide (zs.getD pa.toNat 0=0)&&decide (zs.getD (i64.wrap (pa-upP f bl)).toNat 0=0)&&decide (zs.getD (i64.wrap (pa+upP f bl)).toNat 0=ofP 1 (!bl)))
def iV(f:Int)(zs:List Int):Bool:=!(zs.drop (zs.length-f.toNat)).any (isV 1)&&!(zs.take f.toNat).any (isV (-1))
def ei(f r:Int)(zs:List Int)(bl:Bool):Bool:=decide ((aK f r zs bl).2=0)&&decide ((aM f r zs (!bl)).2=0)&&decide ((aM f r zs (!bl)).1=0)
def cntB(ha fu:Int):Bool:=decide (0<=ha)&&decide (ha<=10000)&&decide (1<=fu)&&decide (fu<=10000)
def Psn.ok(p:Psn):Bool:=aI p.f p.r p.zs&&ei p.f p.r p.zs p.bl&&iV p.f p.zs&&er p.f p.r p.zs p.ca&&iQ p.f p.r p.zs p.bl p.pa p.ha&&cntB p.ha p.fu
theorem bR{f r:Int}{zs:List Int}(h:aI f r zs=true):vsB f r=true/\(zs.length:Int)=f*r:=by
 simp only[aI,Bool.and_eq_true,decide_eq_true_eq]at h
 obtain⟨⟨h1,h2⟩,_⟩:=h
 unfold cntR at h1 h2
 cases hv:vsB f r with
 |false=>rw[hv]at h1;simp at h1
 |true=>rw[hv]at h2;exact⟨rfl,by rw[cond_true]at h2;rw[h2];exact fo hv⟩
theorem cG{f r n:Int}{zs:List Int}(h:aI f r zs=true):ai f r n=true↔0<=n/\n<zs.length:=by
 obtain⟨h1,h2⟩:=bR h
 rw[h2]
 exact⟨fun h=>⟨(aB h).1,(aB h).2.1⟩,fun h=>sg h1 h.1 h.2⟩
theorem uS{f r:Int}{zs:List Int}(h:aI f r zs=true)(h8:is88 f r=true):zs.length=64:=by
 have:=(bR h).2
 simp only[is88,Bool.and_eq_true,decide_eq_true_eq]at h8
 obtain⟨rfl,rfl⟩:=h8
 omega
def Ei:CF
 |[.int .i8 k,.bool b],[]=>some (true,.int .i8 (ofP k b),[])
 |_,_=>none
theorem yJ:CtOk (GGx kCa kDb) PP (138,Ei):=by
 refine aE Tryz.func138 (by kernel_rfl) rfl fun a0 h0 c0 v0 N0 e hc=>?_
 unfold Ei at e
 split at e
 ·rename_i k b
  cases e
  have hE:=aC (kCa:=kCa) (kDb:=kDb) (cts:=[]) (inl:=[]) trivial trivial
  refine av hE 2 Tryz.func138 rfl rfl ?_
  repeat' first|(first|refine ah ?_|refine sat_nd ?_)|refine aq (fun h=>?_) (fun h=>?_)
  all_goals exact ae (aj (.inr rfl) rfl rfl rfl (by first|rfl|(simp only[ofP, *,cond_true,cond_false];done)|(simp only[ofP, *,cond_true,cond_false,Bool.not_true,Bool.not_false,Bool.and_true,Bool.true_and,Bool.and_false,Bool.false_and,Bool.or_true,Bool.true_or,Bool.or_false,Bool.false_or];done)|simp_all [ofP]))
 ·cases e
theorem zv:ny { (EE kCa kDb [] [])with pf:=lM (EE kCa kDb [] []) [] 1000 4,cc:=true } 3 1000 Tryz.f137 [] []=some (.agg [.int .u8 1,.str [75],.lit false,I 4,I 7,.int .u8 2,.str [81],.lit false,I 4,I 0,.int .u8 4,.str [107],.lit true,I 60,I 63,.int .u8 8,.str [113],.lit true,I 60,I 56],[]):=by kernel_rfl
def qB:CF
 |[],[]=>some (true,.agg [.int .u8 1,.str [75],.lit false,I 4,I 7,.int .u8 2,.str [81],.lit false,I 4,I 0,.int .u8 4,.str [107],.lit true,I 60,I 63,.int .u8 8,.str [113],.lit true,I 60,I 56],[])
 |_,_=>none
theorem uV:CtOk (GGx kCa kDb) PP (137,qB):=by
 refine aE Tryz.func137 (by kernel_rfl) rfl fun a0 h0 c0 v0 N0 e hc=>?_
 unfold qB at e
 split at e
 ·cases e
  exact aS.like (oK (aC (kCa:=kCa) (kDb:=kDb) (cts:=[]) (inl:=[]) trivial trivial) (xs:=[]) trivial 1000 4 Tryz.func137 zv) (fun _ _ h=>h)
 ·cases e
def qI:CF
 |[.agg [.int .i64 f,.int .i64 r],.agg [.int .i64 a,.int .i64 b,.int .i8 pr]],[]=>some (true,.bool (mvB f r a b pr),[])
 |_,_=>none
theorem vw:CtOk (GGx kCa kDb) PP (78,qI):=by
 refine aE Tryz.func78 (by kernel_rfl) rfl fun a0 h0 c0 v0 N0 e hc=>?_
 unfold qI at e
 split at e
 ·rename_i f r a b pr
  cases e
  have hE:=aC (kCa:=kCa) (kDb:=kDb) (cts:=[(44,eD)]) (inl:=[]) ⟨cz,trivial⟩ trivial
  refine av hE 2 Tryz.func78 rfl rfl ?_
  repeat (first|refine ah ?_|refine sat_nd ?_)
  exact ae (aj (.inr rfl) rfl rfl rfl rfl)
 ·cases e
def tU:CF
 |[.int .i8 p],[]=>some (true,.int .i8 (absP p),[])
 |_,_=>none
theorem oL:CtOk (GGx kCa kDb) PP (82,tU):=by
 refine aE Tryz.func82 (by kernel_rfl) rfl fun a0 h0 c0 v0 N0 e hc=>?_
 unfold tU at e
 split at e
 ·rename_i p
  cases e
  have hE:=aC (kCa:=kCa) (kDb:=kDb) (cts:=[]) (inl:=[]) trivial trivial
  refine av hE 2 Tryz.func82 rfl rfl ?_
  exact ae (aj (.inr rfl) rfl rfl rfl rfl)
 ·cases e
def c_is:CF
 |[.int .i8 p,.bool b],[]=>some (true,.bool (isP p b),[])
 |_,_=>none
theorem IW:CtOk (GGx kCa kDb) PP (79,c_is):=by
 refine aE Tryz.func79 (by kernel_rfl) rfl fun a0 h0 c0 v0 N0 e hc=>?_
 unfold c_is at e
 split at e
 ·rename_i p b
  cases e
  have hE:=aC (kCa:=kCa) (kDb:=kDb) (cts:=[]) (inl:=[]) trivial trivial
  refine av hE 2 Tryz.func79 rfl rfl ?_
  repeat (first|refine ah ?_|refine sat_nd ?_)
  exact ae (aj (.inr rfl) rfl rfl rfl rfl)
 ·cases e
theorem ym{f r:Int}{zs:List Int}{g:Bool}{k:Int}(h:aI f r zs=true)(h0:0<=k)(h1:k<64):(!(g&&!!is88 f r)||(decide (0<=k)&&decide (k<zs.length)))=true:=by
 cases h8:is88 f r with
 |false=>simp
 |true=>have:=uS h h8;simp;omega
theorem qN{f r:Int}{zs:List Int}{g x:Bool}{k:Int}(h:aI f r zs=true)(h0:0<=k)(h1:k<64):(!(g&&!(!is88 f r||x))||(decide (0<=k)&&decide (k<zs.length)))=true:=by
 cases h8:is88 f r with
 |false=>simp
 |true=>have:=uS h h8;simp;omega
def kg:CF
 |[.agg [.int .i64 f,.int .i64 r,.sl 0 0 len none,.bool _bl,.int .u8 ca,.int .i64 _pa,.int .i64 _ha,.int .i64 _fu]],[.ints false .i8 zs]=>some (decide (len=zs.length)&&decide (zs.length<=64)&&aI f r zs,.bool (er f r zs ca),[])
 |_,_=>none
theorem qW:CtOk (GGx kCa kDb) PP (108,kg):=by
 refine aE Tryz.func108 (by kernel_rfl) rfl fun a0 h0 c0 v0 N0 e hc=>?_
 unfold kg at e
 split at e
 ·rename_i f r len bl ca pa ha fu zs
  cases e
  have hE:=aC (kCa:=kCa) (kDb:=kDb) (cts:=[(137,qB),(138,Ei)]) (inl:=[]) ⟨uV,yJ,trivial⟩ trivial
  refine av hE 2 Tryz.func108 rfl rfl ?_
  simp only[Bool.and_eq_true,decide_eq_true_eq]at hc
  obtain⟨⟨rfl,hc2⟩,hbd⟩:=hc
  repeat (first|refine ah ?_|refine sat_nd ?_)
  refine eA hE 2 5 ?_
  refine rnd ?_
  refine dc (by rfl) ?_
  repeat (first|(first|refine ah ?_|refine sat_nd ?_)|refine ag (ym hbd (by omega) (by omega)) ?_|refine ag (qN hbd (by omega) (by omega)) ?_)
  refine aq (fun h0=>?_) (fun h0=>?_)
  ·have h0:rtX f r zs ca 1 4 7 false=true:=h0
   exact ae (ae (aj (.inr rfl) rfl rfl rfl (by simp[er,h0])))
  have h0:rtX f r zs ca 1 4 7 false=false:=h0
  refine ae ⟨[(1,.ptr 1 0 0),(5,.agg [.int .u8 1,.str [75],.lit false,I 4,I 7,.int .u8 2,.str [81],.lit false,I 4,I 0,.int .u8 4,.str [107],.lit true,I 60,I 63,.int .u8 8,.str [113],.lit true,I 60,I 56]),(6,I 1)],[.ints false .i8 zs,.cells true [I f,I r,.sl 0 0 zs.length none,Bb bl,.int .u8 ca,I pa,I ha,I fu]],Ent.ren [0,1] [1,5,6] rfl rfl rfl,?_⟩
  refine rnd ?_
  refine dc (by rfl) ?_
  repeat (first|(first|refine ah ?_|refine sat_nd ?_)|refine ag (ym hbd (by omega) (by omega)) ?_|refine ag (qN hbd (by omega) (by omega)) ?_)
  refine aq (fun h1=>?_) (fun h1=>?_)
  ·have h1:rtX f r zs ca 2 4 0 false=true:=h1
   exact ae (ae (aj (.inr rfl) rfl rfl rfl (by simp[er,h1])))
  have h1:rtX f r zs ca 2 4 0 false=false:=h1
  refine ae ⟨[(1,.ptr 1 0 0),(5,.agg [.int .u8 1,.str [75],.lit false,I 4,I 7,.int .u8 2,.str [81],.lit false,I 4,I 0,.int .u8 4,.str [107],.lit true,I 60,I 63,.int .u8 8,.str [113],.lit true,I 60,I 56]),(6,I 2)],[.ints false .i8 zs,.cells true [I f,I r,.sl 0 0 zs.length none,Bb bl,.int .u8 ca,I pa,I ha,I fu]],Ent.ren [0,1] [1,5,6] rfl rfl rfl,?_⟩
  refine rnd ?_
  refine dc (by rfl) ?_
  repeat (first|(first|refine ah ?_|refine sat_nd ?_)|refine ag (ym hbd (by omega) (by omega)) ?_|refine ag (qN hbd (by omega) (by omega)) ?_)
  refine aq (fun h2=>?_) (fun h2=>?_)
  ·have h2:rtX f r zs ca 4 60 63 true=true:=h2
   exact ae (ae (aj (.inr rfl) rfl rfl rfl (by simp[er,h2])))
  have h2:rtX f r zs ca 4 60 63 true=false:=h2
  refine ae ⟨[(1,.ptr 1 0 0),(5,.agg [.int .u8 1,.str [75],.lit false,I 4,I 7,.int .u8 2,.str [81],.lit false,I 4,I 0,.int .u8 4,.str [107],.lit true,I 60,I 63,.int .u8 8,.str [113],.lit true,I 60,I 56]),(6,I 3)],[.ints false .i8 zs,.cells true [I f,I r,.sl 0 0 zs.length none,Bb bl,.int .u8 ca,I pa,I ha,I fu]],Ent.ren [0,1] [1,5,6] rfl rfl rfl,?_⟩
  refine rnd ?_
  refine dc (by rfl) ?_
  repeat (first|(first|refine ah ?_|refine sat_nd ?_)|refine ag (ym hbd (by omega) (by omega)) ?_|refine ag (qN hbd (by omega) (by omega)) ?_)
  refine aq (fun h3=>?_) (fun h3=>?_)
  ·have h3:rtX f r zs ca 8 60 56 true=true:=h3
   exact ae (ae (aj (.inr rfl) rfl rfl rfl (by simp[er,h3])))
  have h3:rtX f r zs ca 8 60 56 true=false:=h3
  refine ae ⟨[(1,.ptr 1 0 0),(5,.agg [.int .u8 1,.str [75],.lit false,I 4,I 7,.int .u8 2,.str [81],.lit false,I 4,I 0,.int .u8 4,.str [107],.lit true,I 60,I 63,.int .u8 8,.str [113],.lit true,I 60,I 56]),(6,I 4)],[.ints false .i8 zs,.cells true [I f,I r,.sl 0 0 zs.length none,Bb bl,.int .u8 ca,I pa,I ha,I fu]],Ent.ren [0,1] [1,5,6] rfl rfl rfl,?_⟩
  refine rnd ?_
  refine th (by rfl) ?_
  refine ae (ae (aj (.inr rfl) rfl rfl rfl (by simp[er,h0,h1,h2,h3])))
 ·cases e
end
end Go.Ab
namespace Go.Ab
open Go.Proofs
def oW(zs:List Int)(bl:Bool)(i:Int):Bool:=!isP (zs.getD i.toNat 0) (!bl)||decide (absP (zs.getD i.toNat 0)<3)||decide (5<absP (zs.getD i.toNat 0))
def oY(f r:Int)(zs:List Int)(k i:Int):Bool:=!decide ((bC f r i k).2=0)||decide (uand (ushr (bQ f r (absP (zs.getD i.toNat 0)) i 0).1 k) 1=0)
def pinC(f r:Int)(zs:List Int)(bl:Bool)(k all_ i j:Int):Bool:=decide (uand (bC f r i k).1 all_=ushl 1 j)&&isP (zs.getD j.toNat 0) bl
def jL(f r k i j:Int):Int:=uor (cj (bC f r i k).1 (ushl 1 j)) (ushl 1 i)
def iu(cb:Int->Int->Int->Int)(f r:Int)(zs:List Int)(bl:Bool)(k all_ i s j:Int):Int:=bif pinC f r zs bl k all_ i j then cb s j (jL f r k i j)else s
def cB(cb:Int->Int->Int->Int)(f r:Int)(zs:List Int)(bl:Bool)(k all_ s i:Int):Int:=bif oW zs bl i||oY f r zs k i then s else bV (iu cb f r zs bl k all_ i) s zs.length
def iR(cb:Int->Int->Int->Int)(f r:Int)(zs:List Int)(bl:Bool):Int:=bV (cB cb f r zs bl (aK f r zs bl).1 (occR f r zs)) 0 zs.length
def cbP(s j _ln:Int):Int:=uor s (ushl 1 j)
def cbL(at_ s j ln:Int):Int:=bif decide (j=at_)then ln else s
def bN(f r:Int)(zs:List Int)(bl:Bool):Int×Int:=bif decide ((aK f r zs bl).2=0) then(iR cbP f r zs bl,0) else(0,(aK f r zs bl).2)
theorem xd{p:Int}(h:-6<=p/\p<=6):absP p=p.natAbs:=by
 have hw:w8 (0-p)=-p:=by
  have hb:IntKind.i8.bits=8:=rfl
  have:∀ q:_root_.Fin 13,w8 (0-((q.val:Int)-6))=-((q.val:Int)-6):=by decide +kernel
  have h2:=this ⟨(p+6).toNat,by omega⟩
  simp only at h2
  rwa [show (((p+6).toNat:Int)-6)=p by omega]at h2
 unfold absP
 rw[hw]
 unfold imax
 by_cases h1:p < -p<;>simp[h1]<;>omega
def bx(f r:Int)(zs:List Int)(at_:Int):Int×Int:=
 bif aD f r zs&&ai f r at_ then
  bif decide (zs.getD at_.toNat 0=0) then(0,9)
  else bif decide ((aK f r zs (decide (zs.getD at_.toNat 0<0))).2=0) then
   bif decide (iR (cbL at_) f r zs (decide (zs.getD at_.toNat 0<0))=0) then(0,9) else(iR (cbL at_) f r zs (decide (zs.getD at_.toNat 0<0)),0)
  else(0,(aK f r zs (decide (zs.getD at_.toNat 0<0))).2)
 else(0,2)
end Go.Ab
