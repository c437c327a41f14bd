/- Contracts of the functions that the laws reach, and plain laws of what they compute (text G7); no condition. -/
import Derived.Test.YtlannahgjgpfcaaGreatDoorG5
import Derived.Test.YtlannahgjgpfcaaGreatDoorG3
set_option maxRecDepth 100000
namespace Go.Ab
open Go.Proofs
section
variable{kCa kDb:Bool}
def zu(n:Int):Bool:=decide (3<=n)&&decide (n<=8)
def vsB(f r:Int):Bool:=zu f&&zu r
def onB(f r x y:Int):Bool:=decide (0<=x)&&decide (x<f)&&decide (0<=y)&&decide (y<r)
def aA(f r n:Int):Bool:=vsB f r&&decide (0<=n)&&decide (n<IntKind.i64.wrap (f*r))
def atR(f r x y:Int):Int×Int:=bif vsB f r then(bif onB f r x y then(IntKind.i64.wrap (x+IntKind.i64.wrap (y*f)),0) else(0,3)) else(0,2)
def aV(f r n:Int):Int×Int×Int:=bif aA f r n then(n.tmod f,IntKind.i64.wrap (n.tdiv f),0) else(0,0,2)
def Ag:CF
 |[.int .i64 n],[]=>some (true,.bool (zu n),[])
 |_,_=>none
theorem CV:CtOk (GGx kCa kDb) PP (123,Ag):=by
 refine aG Tryz.func123 (by kernel_rfl) rfl fun a0 h0 c0 v0 N0 e hc=>?_
 unfold Ag at e
 split at e
 ·rename_i n
  cases e
  have hE:=aF (kCa:=kCa) (kDb:=kDb) (cts:=[]) (inl:=[]) trivial trivial
  refine ak hE 2 Tryz.func123 rfl rfl ?_
  repeat (first|refine ah ?_|refine sat_nd ?_)
  exact ae (ai (.inr rfl) rfl rfl rfl rfl)
 ·cases e
def c_vs:CF
 |[.agg [.int .i64 f,.int .i64 r]],[]=>some (true,.bool (vsB f r),[])
 |_,_=>none
theorem gb:CtOk (GGx kCa kDb) PP (70,c_vs):=by
 refine aG Tryz.func70 (by kernel_rfl) rfl fun a0 h0 c0 v0 N0 e hc=>?_
 unfold c_vs at e
 split at e
 ·rename_i f r
  cases e
  have hE:=aF (kCa:=kCa) (kDb:=kDb) (cts:=[(123,Ag)]) (inl:=[]) ⟨CV,trivial⟩ trivial
  refine ak hE 2 Tryz.func70 rfl rfl ?_
  repeat (first|refine ah ?_|refine sat_nd ?_)
  exact ae (ai (.inr rfl) rfl rfl rfl rfl)
 ·cases e
def c_on:CF
 |[.agg [.int .i64 f,.int .i64 r],.int .i64 x,.int .i64 y],[]=>some (true,.bool (onB f r x y),[])
 |_,_=>none
theorem Jp:CtOk (GGx kCa kDb) PP (232,c_on):=by
 refine aG Tryz.func232 (by kernel_rfl) rfl fun a0 h0 c0 v0 N0 e hc=>?_
 unfold c_on at e
 split at e
 ·rename_i f r x y
  cases e
  have hE:=aF (kCa:=kCa) (kDb:=kDb) (cts:=[]) (inl:=[]) trivial trivial
  refine ak hE 2 Tryz.func232 rfl rfl ?_
  repeat (first|refine ah ?_|refine sat_nd ?_)
  exact ae (ai (.inr rfl) rfl rfl rfl rfl)
 ·cases e
def fb:CF
 |[.agg [.int .i64 f,.int .i64 r],.int .i64 n],[]=>some (true,.bool (aA f r n),[])
 |_,_=>none
theorem dx:CtOk (GGx kCa kDb) PP (75,fb):=by
 refine aG Tryz.func75 (by kernel_rfl) rfl fun a0 h0 c0 v0 N0 e hc=>?_
 unfold fb at e
 split at e
 ·rename_i f r n
  cases e
  have hE:=aF (kCa:=kCa) (kDb:=kDb) (cts:=[(70,c_vs)]) (inl:=[]) ⟨gb,trivial⟩ trivial
  refine ak hE 2 Tryz.func75 rfl rfl ?_
  repeat (first|refine ah ?_|refine sat_nd ?_)
  exact ae (ai (.inr rfl) rfl rfl rfl rfl)
 ·cases e
def c_at:CF
 |[.agg [.int .i64 f,.int .i64 r],.int .i64 x,.int .i64 y],[]=>some (true,.tup [I (atR f r x y).1,I (atR f r x y).2],[])
 |_,_=>none
theorem zW:CtOk (GGx kCa kDb) PP (222,c_at):=by
 refine aG Tryz.func222 (by kernel_rfl) rfl fun a0 h0 c0 v0 N0 e hc=>?_
 unfold c_at at e
 split at e
 ·rename_i f r x y
  cases e
  have hE:=aF (kCa:=kCa) (kDb:=kDb) (cts:=[(70,c_vs),(232,c_on)]) (inl:=[]) ⟨gb,Jp,trivial⟩ trivial
  refine ak hE 2 Tryz.func222 rfl rfl ?_
  repeat (first|refine ah ?_|refine sat_nd ?_)
  refine ax (fun h1=>?_) (fun h1=>?_)
  ·exact ae (ai (.inr rfl) rfl rfl rfl (by simp_all [atR]))
  ·repeat (first|refine ah ?_|refine sat_nd ?_)
   refine ax (fun h2=>?_) (fun h2=>?_)
   ·exact ae (ai (.inr rfl) rfl rfl rfl (by simp_all [atR]))
   ·exact ae (ai (.inr rfl) rfl rfl rfl (by simp_all [atR]))
 ·cases e
theorem cS{f r:Int}(h:vsB f r=true):3<=f/\f<=8/\3<=r/\r<=8:=by
 simp[vsB,zu]at h;omega
theorem bV{f r n:Int}(h:aA f r n=true):vsB f r=true:=by
 simp only[aA,Bool.and_eq_true]at h;exact h.1.1
def lq:CF
 |[.agg [.int .i64 f,.int .i64 r],.int .i64 n],[]=>some (true,.tup [I (aV f r n).1,I (aV f r n).2.1,I (aV f r n).2.2],[])
 |_,_=>none
theorem ig:CtOk (GGx kCa kDb) PP (166,lq):=by
 refine aG Tryz.func166 (by kernel_rfl) rfl fun a0 h0 c0 v0 N0 e hc=>?_
 unfold lq at e
 split at e
 ·rename_i f r n
  cases e
  have hE:=aF (kCa:=kCa) (kDb:=kDb) (cts:=[(75,fb)]) (inl:=[]) ⟨dx,trivial⟩ trivial
  refine ak hE 2 Tryz.func166 rfl rfl ?_
  repeat (first|refine ah ?_|refine sat_nd ?_)
  refine ax (fun h1=>?_) (fun h1=>?_)
  ·exact ae (ai (.inr rfl) rfl rfl rfl (by simp_all [aV]))
  ·simp only[Bool.not_eq_false']at h1
   have hf:=cS (bV h1)
   repeat (first|refine ah ?_|refine ag (by first|rfl|(simp;omega)) ?_)
   exact ae (ai (.inr rfl) rfl rfl rfl (by simp_all [aV]))
 ·cases e
end
section
variable{kCa kDb:Bool}
def allU(f r:Int):Int:=ushr 18446744073709551615 (IntKind.i64.wrap (64-IntKind.i64.wrap (f*r)))
theorem aK{n:Int}(h1:-9223372036854775808<=n)(h2:n<=9223372036854775807):IntKind.i64.wrap n=n:=IntWalk.i64_in _ (by omega)
theorem bF{f r:Int}(h:vsB f r=true):9<=f*r/\f*r<=64:=by
 obtain⟨h1,h2,h3,h4⟩:=cS h
 have e1:3*3<=f*r:=Int.mul_le_mul h1 h3 (by omega) (by omega)
 have e2:f*r<=8*8:=Int.mul_le_mul h2 h4 (by omega) (by omega)
 omega
theorem ee{f r:Int}(h:vsB f r=true):IntKind.i64.wrap (f*r)=f*r:=aK (by have:=bF h;omega) (by have:=bF h;omega)
def HH:CF
 |[.agg [.int .i64 f,.int .i64 r]],[]=>some (vsB f r,.int .u64 (allU f r),[])
 |_,_=>none
theorem FM:CtOk (GGx kCa kDb) PP (124,HH):=by
 refine aG Tryz.func124 (by kernel_rfl) rfl fun a0 h0 c0 v0 N0 e hc=>?_
 unfold HH at e
 split at e
 ·rename_i f r
  cases e
  have hE:=aF (kCa:=kCa) (kDb:=kDb) (cts:=[]) (inl:=[]) trivial trivial
  refine ak hE 2 Tryz.func124 rfl rfl ?_
  have hm:=bF hc
  refine ag (by rw[ee hc,aK (by omega) (by omega)];simp;omega) ?_
  exact ae (ai (.inr rfl) rfl rfl rfl rfl)
 ·cases e
def Gi:CF
 |[.agg [.int .i64 f,.int .i64 r]],[]=>some (true,.tup [U (bif vsB f r then allU f r else 0),I (bif vsB f r then 0 else 2)],[])
 |_,_=>none
theorem vq:CtOk (GGx kCa kDb) PP (76,Gi):=by
 refine aG Tryz.func76 (by kernel_rfl) rfl fun a0 h0 c0 v0 N0 e hc=>?_
 unfold Gi at e
 split at e
 ·rename_i f r
  cases e
  have hE:=aF (kCa:=kCa) (kDb:=kDb) (cts:=[(70,c_vs),(124,HH)]) (inl:=[]) ⟨gb,FM,trivial⟩ trivial
  refine ak hE 2 Tryz.func76 rfl rfl ?_
  repeat (first|refine ah ?_|refine sat_nd ?_)
  refine ax (fun h1=>?_) (fun h1=>?_)
  ·exact ae (ai (.inr rfl) rfl rfl rfl (by simp_all))
  ·refine ag (by simpa using h1) ?_
   exact ae (ai (.inr rfl) rfl rfl rfl (by simp_all))
 ·cases e
def fwd(b:Bool):Int:=bif b then -1 else 1
def sgn(n:Int):Int:=bif decide (n<0)then -1 else bif decide (0<n)then 1 else 0
def mq(f r n set:Int):Bool:=aA f r n&&decide (qG set (allU f r)=0)
def lV:CF
 |[.bool b],[]=>some (true,.int .i64 (fwd b),[])
 |_,_=>none
theorem qj:CtOk (GGx kCa kDb) PP (221,lV):=by
 refine aG Tryz.func221 (by kernel_rfl) rfl fun a0 h0 c0 v0 N0 e hc=>?_
 unfold lV at e
 split at e
 ·rename_i b
  cases e
  have hE:=aF (kCa:=kCa) (kDb:=kDb) (cts:=[]) (inl:=[]) trivial trivial
  refine ak hE 2 Tryz.func221 rfl rfl ?_
  refine ax (fun h1=>?_) (fun h1=>?_)
  ·exact ae (ai (.inr rfl) rfl rfl rfl (by simp_all [fwd]))
  ·exact ae (ai (.inr rfl) rfl rfl rfl (by simp_all [fwd]))
 ·cases e
def tv:CF
 |[.agg [.int .i64 f,.int .i64 r],.int .i64 n,.int .u64 set],[]=>some (true,.bool (mq f r n set),[])
 |_,_=>none
theorem yT:CtOk (GGx kCa kDb) PP (207,tv):=by
 refine aG Tryz.func207 (by kernel_rfl) rfl fun a0 h0 c0 v0 N0 e hc=>?_
 unfold tv at e
 split at e
 ·rename_i f r n set
  cases e
  have hE:=aF (kCa:=kCa) (kDb:=kDb) (cts:=[(76,Gi),(75,fb)]) (inl:=[]) ⟨vq,dx,trivial⟩ trivial
  refine ak hE 2 Tryz.func207 rfl rfl ?_
  repeat (first|refine ah ?_|refine sat_nd ?_)
  exact ae (ai (.inr rfl) rfl rfl rfl (by cases h:vsB f r<;>simp[mq,aA,h]))
 ·cases e
end
end Go.Ab
namespace Go.Ab
open IntKind
open Go.Proofs
section
variable{kCa kDb:Bool}
def pU(f r x y:Int)(row:List Int):Int×Int:=atR f r (i64.wrap (x+row.getD 0 0)) (i64.wrap (y+row.getD 1 0))
def eO(f r x y set:Int)(row:List Int):Int:=bif decide ((pU f r x y row).2=0)then uor set (ushl 1 (pU f r x y row).1)else set
def fU(f r n:Int)(rs:List (List Int)):Int:=rs.foldl (eO f r (aV f r n).1 (aV f r n).2.1) 0
theorem js{f r x y:Int}(h:(atR f r x y).2=0):0<=(atR f r x y).1/\(atR f r x y).1<64/\vsB f r=true/\onB f r x y=true/\(atR f r x y).1=x+y*f:=by
 unfold atR at h ⊢
 cases h1:vsB f r
 ·simp[h1]at h
 ·cases h2:onB f r x y
  ·simp[h1,h2]at h
  ·simp only[cond_true]
   obtain⟨a1,a2,a3,a4⟩:=cS h1
   simp only[onB,Bool.and_eq_true,decide_eq_true_eq]at h2
   obtain⟨⟨⟨b1,b2⟩,b3⟩,b4⟩:=h2
   have hm:=bF h1
   have e1:0<=y*f:=Int.mul_nonneg b3 (by omega)
   have e2:(y+1)*f<=r*f:=Int.mul_le_mul_of_nonneg_right (by omega) (by omega)
   rw[Int.add_mul,Int.mul_comm r f]at e2
   have e3:i64.wrap (y*f)=y*f:=aK (by omega) (by omega)
   have e4:i64.wrap (x+y*f)=x+y*f:=aK (by omega) (by omega)
   rw[e3,e4]
   refine⟨by omega,by omega,?_,?_,?_⟩<;>first|rfl|trivial
theorem qZ{α β:Type}(l:List α)(d:α)(f:β->α->β)(b:β){k:Nat}(h:k<l.length):(l.take (k+1)).foldl f b=f ((l.take k).foldl f b) (l.getD k d):=by
 rw[List.take_succ_eq_append_getElem h,List.foldl_append]
 simp[List.getD,h]
def wM:CF
 |[.agg [.int .i64 f,.int .i64 r],.int .i64 n,.sl 0 0 len none],[.rows false [.i64,.i64] rs]=>some (decide (len=rs.length)&&decide (rs.length<=1000000),.int .u64 (fU f r n rs),[])
 |_,_=>none
theorem rD:CtOk (GGx kCa kDb) PP (208,wM):=by
 refine aG Tryz.func208 (by kernel_rfl) rfl fun a0 h0 c0 v0 N0 e hc=>?_
 unfold wM at e
 split at e
 ·rename_i f r n len rs
  cases e
  have hE:=aF (kCa:=kCa) (kDb:=kDb) (cts:=[(222,c_at),(166,lq)]) (inl:=[]) ⟨zW,ig,trivial⟩ trivial
  refine ak hE 2 Tryz.func208 rfl rfl ?_
  simp only[Bool.and_eq_true,decide_eq_true_eq]at hc
  obtain⟨hc1,hc2⟩:=hc
  subst hc1
  repeat (first|refine ah ?_|refine sat_nd ?_)
  refine iV hE 2 (fun a:Int×Int=>([(3,.ptr 1 0 0),(7,I (aV f r n).1),(8,I (aV f r n).2.1),(10,U a.2),(22,.sl 0 0 rs.length none),(23,I rs.length),(24,I a.1)],[.rows false [.i64,.i64] rs,.cells true [I f,I r]]))
   (fun a=>∃ k:Nat,k<=rs.length/\a.1=k/\a.2=(rs.take k).foldl (eO f r (aV f r n).1 (aV f r n).2.1) 0) (fun a=>rs.length-a.1.toNat) (0,0)
   (Ent.ren [0,1] [3,7,8,10,22,23,24] rfl rfl rfl) ⟨0,Nat.zero_le _,rfl,rfl⟩ ?_
  rintro⟨i,set⟩ ⟨k,hk,h1,h2⟩
  dsimp only at h1 h2 ⊢
  refine ax (fun hlt=>?_) (fun hlt=>?_)
  ·simp only[decide_eq_true_eq]at hlt
   have hki:i.toNat=k:=by omega
   refine ag (by simp;omega) ?_
   repeat (first|refine ah ?_|refine sat_nd ?_)
   have hstep:=qZ rs [] (eO f r (aV f r n).1 (aV f r n).2.1) 0 (show k<rs.length by omega)
   rw[<-h2,<-hki]at hstep
   have hnext:i64.wrap (i+1)=((k+1:Nat):Int):=by rw[aK (by omega) (by omega)];omega
   refine ax (fun hon=>?_) (fun hon=>?_)
   ·have hon':decide ((pU f r (aV f r n).1 (aV f r n).2.1 (rs.getD i.toNat [])).2=0)=true:=hon
    refine ag (by have:=(js (of_decide_eq_true hon)).1;exact decide_eq_true this) ?_
    refine ae ⟨(_,_),⟨k+1,by omega,hnext,?_⟩,?_,Ent.ren [0,1] [3,7,8,10,22,23,24] rfl rfl rfl⟩
    ·rw[<-hki,hstep,eO,hon'];rfl
    ·show _-(i64.wrap (i+1)).toNat<_
     rw[hnext];omega
   ·have hon':decide ((pU f r (aV f r n).1 (aV f r n).2.1 (rs.getD i.toNat [])).2=0)=false:=hon
    refine ae ⟨(_,_),⟨k+1,by omega,hnext,?_⟩,?_,Ent.ren [0,1] [3,7,8,10,22,23,24] rfl rfl rfl⟩
    ·rw[<-hki,hstep,eO,hon'];rfl
    ·show _-(i64.wrap (i+1)).toNat<_
     rw[hnext];omega
  ·simp only[decide_eq_false_iff_not]at hlt
   obtain rfl:k=rs.length:=by omega
   rw[List.take_length]at h2
   refine ae (ae (ai (.inr rfl) rfl rfl rfl (by rw[h2];rfl)))
 ·cases e
end
end Go.Ab
namespace Go.Ab
open Go.Proofs
section
variable{kCa kDb:Bool}
def iK(f r df dr:Int):Nat->Int->Int->List Int
 |0,_,_=>[]
 |k+1,x,y=>bif decide ((atR f r (IntKind.i64.wrap (x+df)) (IntKind.i64.wrap (y+dr))).2=0) then(atR f r (IntKind.i64.wrap (x+df)) (IntKind.i64.wrap (y+dr))).1::iK f r df dr k (IntKind.i64.wrap (x+df)) (IntKind.i64.wrap (y+dr)) else[]
def eY(df dr:Int):Bool:=decide (8<=imax true (imax true (imax true df (IntKind.i64.wrap (0-df))) dr) (IntKind.i64.wrap (0-dr)))||decide (df < -8)||decide (dr < -8)
def rayL(f r n df dr:Int):List Int:=bif aA f r n&&!(decide (df=0)&&decide (dr=0))&&!eY df dr then iK f r df dr 9 (aV f r n).1 (aV f r n).2.1 else[]
def rayV(f r n df dr:Int):List (List V):=(rayL f r n df dr).map fun x=>[I x]
theorem zO{df dr:Int}(h:eY df dr=false):-7<=df/\df<=7/\-7<=dr/\dr<=7:=by
 simp only[eY,Bool.or_eq_false_iff,decide_eq_false_iff_not]at h
 obtain⟨⟨h1,h2⟩,h3⟩:=h
 have m:∀ x y:Int,x<=imax true x y/\y<=imax true x y:=fun x y=>by
  unfold imax
  by_cases h:x<y<;>simp[h]<;>omega
 have e1:=m df (IntKind.i64.wrap (0-df))
 have e2:=m (imax true df (IntKind.i64.wrap (0-df))) dr
 have e3:=m (imax true (imax true df (IntKind.i64.wrap (0-df))) dr) (IntKind.i64.wrap (0-dr))
 have f1:df<=7:=by omega
 have f2:dr<=7:=by omega
 rw[aK (n:=0-df) (by omega) (by omega)]at e1 e2 e3
 rw[aK (n:=0-dr) (by omega) (by omega)]at e3
 rw[aK (n:=0-df) (by omega) (by omega),aK (n:=0-dr) (by omega) (by omega)]at h1
 omega
theorem oV{f r n:Int}(h:aA f r n=true):0<=(aV f r n).1/\(aV f r n).1<f/\0<=(aV f r n).2.1/\(aV f r n).2.1<r/\(aV f r n).1=n%f/\(aV f r n).2.1=n/f:=by
 have hv:=bV h
 obtain⟨a1,a2,a3,a4⟩:=cS hv
 have hm:=bF hv
 simp only[aV,h,cond_true]
 simp only[aA,Bool.and_eq_true,decide_eq_true_eq]at h
 obtain⟨⟨h1,h2⟩,h3⟩:=h
 rw[ee hv]at h3
 have e1:n.tmod f=n%f:=Int.tmod_eq_emod_of_nonneg h2
 have e2:n.tdiv f=n/f:=Int.tdiv_eq_ediv_of_nonneg h2
 have b1:=Int.emod_nonneg n (show f≠0 by omega)
 have b2:=Int.emod_lt_of_pos n (show 0<f by omega)
 have b3:0<=n/f:=Int.ediv_nonneg h2 (by omega)
 have b4:n/f<r:=Int.ediv_lt_of_lt_mul (by omega) (by rw[Int.mul_comm];exact h3)
 rw[e1,e2,aK (by omega) (by omega)]
 exact⟨b1,b2,b3,b4,rfl,rfl⟩
theorem rC{f r x y:Int}(h:onB f r x y=true):0<=x/\x<f/\0<=y/\y<r:=by
 simp only[onB,Bool.and_eq_true,decide_eq_true_eq]at h
 obtain⟨⟨⟨b1,b2⟩,b3⟩,b4⟩:=h
 exact⟨b1,b2,b3,b4⟩
theorem Md(f r n df dr:Int):oM (GGx kCa kDb) PP 233 [[I f,I r],[I n],[I df],[I dr]] (rayV f r n df dr):=by
 have hE:=aF (kCa:=kCa) (kDb:=kDb) (cts:=[(166,lq),(222,c_at)]) (inl:=[]) ⟨ig,zW,trivial⟩ trivial
 refine EB hE Tryz.func233 rfl rfl rfl rfl fun nn l S0 ρc J ok=>?_
 refine YG.seq (YG.seg hE 2 ?_)
 repeat (first|refine ah ?_|refine sat_nd ?_)
 refine ae ?_
 refine YG.seq (YG.seg hE 2 ?_)
 repeat (first|refine ah ?_|refine sat_nd ?_)
 refine ax (fun h1=>ae ⟨.inr rfl,.inl ?_⟩) (fun h1=>ae ?_)
 ·have:rayV f r n df dr=[]:=by
   cases hv:aA f r n<;>simp_all [rayV,rayL,aV]
  rw[this];rfl
 have hv:aA f r n=true:=by cases hv:aA f r n<;>simp_all [aV]
 have hnz:(decide (df=0)&&decide (dr=0))=false:=by
  cases h:(decide (df=0)&&decide (dr=0))<;>simp_all
 refine YG.seq (YG.seg hE 2 ?_)
 repeat (first|refine ah ?_|refine sat_nd ?_)
 refine ax (fun h2=>ae ⟨.inr rfl,.inl ?_⟩) (fun h2=>ae ?_)
 ·have h2:eY df dr=true:=h2
  have:rayV f r n df dr=[]:=by simp[rayV,rayL,h2]
  rw[this];rfl
 have h2:eY df dr=false:=h2
 have hL:rayL f r n df dr=iK f r df dr 9 (aV f r n).1 (aV f r n).2.1:=by simp only[rayL,hv,hnz,h2];rfl
 have hb:=zO h2
 have hp:=oV hv
 have hsz:=cS (bV hv)
 have hdd:df≠0\/dr≠0:=by
  by_cases e:df=0
  ·right;rintro rfl;simp[e]at hnz
  ·exact .inl e
 refine YG.block (YG.loop (fun a:Nat×Int×Int=>(some a.1,[(0,.yl 4),(1,.ptr 0 0 0),(2,.ptr 1 0 0),(3,.ptr 2 0 0),(4,.ptr 3 0 0),(6,I a.2.1),(7,I a.2.2)],hp0 [[I f,I r],[I n],[I df],[I dr]]))
  (fun a=>0<=a.2.1/\a.2.1<f/\0<=a.2.2/\a.2.2<r/\(1<=df->a.1<=a.2.1)/\(df<=-1->a.2.1+a.1<=7)/\(1<=dr->a.1<=a.2.2)/\(dr<=-1->a.2.2+a.1<=7)/\a.1<=(rayL f r n df dr).length/\(rayL f r n df dr).drop a.1=iK f r df dr (9-a.1) a.2.1 a.2.2)
  (fun a=>8-a.1) (0,(aV f r n).1,(aV f r n).2.1) rfl (Ent.ren [0,1,2,3,4] [0,1,2,3,4,6,7] rfl rfl rfl) ?_ ?_)
 ·exact⟨hp.1,hp.2.1,hp.2.2.1,hp.2.2.2.1,by intro;simp;omega,by intro;simp;omega,by intro;simp;omega,by intro;simp;omega,Nat.zero_le _,by simpa using hL⟩
 rintro⟨i,x,y⟩ ⟨i1,i2,i3,i4,i5,i6,i7,i8,i9,i10⟩
 dsimp only at i1 i2 i3 i4 i5 i6 i7 i8 i9 i10 ⊢
 have hi8:i<=7:=by omega
 refine YG.block (YG.seq (YG.seg hE 2 ?_))
 repeat (first|refine ah ?_|refine sat_nd ?_)
 refine ae ?_
 refine YG.seq (YG.seg hE 2 ?_)
 repeat (first|refine ah ?_|refine sat_nd ?_)
 refine ae ?_
 refine YG.seq (YG.yregAt ok 2 5 rfl rfl rfl ?_)
 refine ae ?_
 have hgo:∀ b,decide ((atR f r (IntKind.i64.wrap (x+df)) (IntKind.i64.wrap (y+dr))).2=0)=b->iK f r df dr (9-i) x y=bif b then(atR f r (IntKind.i64.wrap (x+df)) (IntKind.i64.wrap (y+dr))).1::iK f r df dr (8-i) (IntKind.i64.wrap (x+df)) (IntKind.i64.wrap (y+dr)) else[]:=by
  intro b hb
  rw[show 9-i=(8-i)+1 by omega]
  simp only[iK,hb]
 refine⟨fun hg=>?_,fun hg=>?_⟩
 ·have hg:decide ((atR f r (IntKind.i64.wrap (x+df)) (IntKind.i64.wrap (y+dr))).2=0)=true:=by simpa using hg
  have he:=of_decide_eq_true hg
  obtain⟨p1,p2,p3,p4,p5⟩:=js he
  have hon:=rC p4
  have hwx:IntKind.i64.wrap (x+df)=x+df:=aK (by omega) (by omega)
  have hwy:IntKind.i64.wrap (y+dr)=y+dr:=aK (by omega) (by omega)
  have hr:=hgo true hg
  rw[cond_true]at hr
  rw[hr]at i10
  have hlt:i<(rayL f r n df dr).length:=by
   have:=congrArg List.length i10
   simp only[List.length_drop,List.length_cons]at this
   omega
  have hat:(rayL f r n df dr)[i]?=some (atR f r (IntKind.i64.wrap (x+df)) (IntKind.i64.wrap (y+dr))).1:=by
   have:=congrArg (fun l:List Int=>l[0]?) i10
   simpa using this
  have hdr:(rayL f r n df dr).drop (i+1)=iK f r df dr (8-i) (IntKind.i64.wrap (x+df)) (IntKind.i64.wrap (y+dr)):=by
   have:=congrArg (List.drop 1) i10
   simpa[List.drop_drop,Nat.add_comm]using this
  repeat (first|refine ah ?_|refine sat_nd ?_)
  refine ae ?_
  refine⟨i,[I (atR f r (IntKind.i64.wrap (x+df)) (IntKind.i64.wrap (y+dr))).1],[0,1,2,3,4,6,7,59],rfl,by simp[rayV,hat],rfl,rfl,rfl,rfl,fun b=>?_⟩
  cases b with
  |true=>
   refine ae ?_
   refine YG.seg hE 2 ?_
   refine ae ⟨(i+1,IntKind.i64.wrap (x+df),IntKind.i64.wrap (y+dr)),?_,?_,rfl,Ent.ren [0,1,2,3,4] [0,1,2,3,4,6,7] rfl rfl rfl⟩
   ·dsimp only
    rw[hwx,hwy]at hon
    rw[hdr,hwx,hwy,show 9-(i+1)=8-i by omega]
    refine⟨hon.1,hon.2.1,hon.2.2.1,hon.2.2.2,?_,?_,?_,?_,by omega,rfl⟩<;>intro h<;>push_cast<;>omega
   ·dsimp only;omega
  |false=>
   refine ae ?_
   refine YG.seg hE 2 ?_
   exact ae ⟨.inr rfl,.inr rfl⟩
 ·have hg:decide ((atR f r (IntKind.i64.wrap (x+df)) (IntKind.i64.wrap (y+dr))).2=0)=false:=by simpa using hg
  have hr:=hgo false hg
  rw[cond_false]at hr
  rw[hr]at i10
  have hlen:i=(rayL f r n df dr).length:=by
   have:=congrArg List.length i10
   simp only[List.length_drop,List.length_nil]at this
   omega
  refine ae ?_
  refine YG.seg hE 2 ?_
  exact ae ⟨.inr rfl,.inl (by simp[rayV,<-hlen])⟩
end
end Go.Ab
namespace Go.Ab
open IntKind
open Go.Proofs
section
variable{kCa kDb:Bool}
theorem Gn{f r n df dr:Int}{i:Nat}{vs:List V}(h:(rayV f r n df dr)[i]?=some vs):∃ x,(rayL f r n df dr)[i]?=some x/\vs=[I x]/\0<=x/\x<64:=by
 simp only[rayV,List.getElem?_map,Option.map_eq_some_iff]at h
 obtain⟨x,h1,rfl⟩:=h
 refine⟨x,h1,rfl,?_⟩
 have hm:=List.mem_of_getElem? h1
 have key:∀ (k:Nat) (a b:Int),x∈iK f r df dr k a b->0<=x/\x<64:=by
  intro k
  induction k with
  |zero=>intro a b h;simp[iK]at h
  |succ k ih=>
   intro a b h
   rw[iK]at h
   cases hb:decide ((atR f r (i64.wrap (a+df)) (i64.wrap (b+dr))).2=0) with
   |false=>rw[hb]at h;simp at h
   |true=>
    rw[hb,cond_true]at h
    rcases List.mem_cons.1 h with rfl|h
    ·have:=js (of_decide_eq_true hb);exact⟨this.1,this.2.1⟩
    ·exact ih _ _ h
 unfold rayL at hm
 cases hc:(aA f r n&&!(decide (df=0)&&decide (dr=0))&&!eY df dr) with
 |false=>rw[hc]at hm;simp at hm
 |true=>rw[hc,cond_true]at hm;exact key _ _ _ hm
theorem Gq{f r n df dr:Int}:∀ vs∈rayV f r n df dr,vs.length=1:=by
 intro vs h
 simp only[rayV,List.mem_map]at h
 obtain⟨x,_,rfl⟩:=h
 rfl
theorem uw{f r n df dr:Int}:(rayV f r n df dr).length=(rayL f r n df dr).length:=by simp[rayV]
theorem HU:dY PP 233:=ent Tryz.func233 rfl rfl
def cQ(occ:Int):List Int->Int->Int
 |[],s=>s
 |x::l,s=>bif decide (uand (ushr occ x) 1=1)then uor s (ushl 1 x)else cQ occ l (uor s (ushl 1 x))
theorem yg{b:Int}{l:List Int}{i:Nat}{x s:Int}(h:l[i]?=some x):cQ b (l.drop i) s=bif decide (uand (ushr b x) 1=1)then uor s (ushl 1 x)else cQ b (l.drop (i+1)) (uor s (ushl 1 x)):=by
 obtain⟨h1,h2⟩:=List.getElem?_eq_some_iff.1 h
 rw[List.drop_eq_getElem_cons h1,h2,cQ]
def dA(f r n occ s:Int)(row:List Int):Int:=cQ occ (rayL f r n (row.getD 0 0) (row.getD 1 0)) s
def cN(f r n occ:Int)(rs:List (List Int)):Int:=rs.foldl (dA f r n occ) 0
def uM:CF
 |[.agg [.int .i64 f,.int .i64 r],.int .i64 n,.int .u64 occ,.sl 0 0 len none],[.rows false [.i64,.i64] rs]=>some (decide (len=rs.length)&&decide (rs.length<=1000000),.int .u64 (cN f r n occ rs),[])
 |_,_=>none
theorem xg:CtOk (GGx kCa kDb) PP (209,uM):=by
 refine aG Tryz.func209 (by kernel_rfl) rfl fun a0 h0 c0 v0 N0 e hc=>?_
 unfold uM at e
 split at e
 ·rename_i f r n occ len rs
  cases e
  have hE:=aF (kCa:=kCa) (kDb:=kDb) (cts:=[]) (inl:=[(223,Tryz.f223)]) trivial ⟨⟨Tryz.func223,by kernel_rfl⟩,trivial⟩
  refine ak hE 2 Tryz.func209 rfl rfl ?_
  simp only[Bool.and_eq_true,decide_eq_true_eq]at hc
  obtain⟨hc1,hc2⟩:=hc
  subst hc1
  repeat (first|refine ah ?_|refine sat_nd ?_)
  refine iV hE 2 (fun a:Int×Int=>([(1,I n),(4,.ptr 1 0 0),(6,.ptr 2 0 0),(9,.ptr 3 0 0),(13,.sl 0 0 rs.length none),(14,I rs.length),(15,I a.1)],[.rows false [.i64,.i64] rs,.cells true [I f,I r],.cells true [U occ],.cells true [U a.2]]))
   (fun a=>∃ k:Nat,k<=rs.length/\a.1=k/\a.2=(rs.take k).foldl (dA f r n occ) 0) (fun a=>rs.length-a.1.toNat) (0,0)
   (Ent.ren [0,1,2,3] [1,4,6,9,13,14,15] rfl rfl rfl) ⟨0,Nat.zero_le _,rfl,rfl⟩ ?_
  rintro⟨i,set⟩ ⟨k,hk,h1,h2⟩
  dsimp only at h1 h2 ⊢
  refine ax (fun hlt=>?_) (fun hlt=>?_)
  ·simp only[decide_eq_true_eq]at hlt
   have hki:i.toNat=k:=by omega
   refine ag (by simp;omega) ?_
   repeat (first|refine ah ?_|refine sat_nd ?_)
   have hstep:=qZ rs [] (dA f r n occ) 0 (show k<rs.length by omega)
   rw[<-h2,<-hki]at hstep
   have hnext:i64.wrap (i+1)=((k+1:Nat):Int):=by rw[aK (by omega) (by omega)];omega
   generalize hL:rayL f r n ((rs.getD i.toNat []).getD 0 0) ((rs.getD i.toNat []).getD 1 0)=L
   refine CP hE 2 9 [5,6,7,8] [1,4,6,9,13,14,15] (Ent.ren [0,1,2,3,4,5,6,7,8] [1,4,6,9,13,14,15,25] rfl rfl rfl) (Md f r n ((rs.getD i.toNat []).getD 0 0) ((rs.getD i.toNat []).getD 1 0)) Gq HU rfl rfl rfl rfl rfl rfl
    (fun j hp'=>∃ s,cQ occ (L.drop j) s=cQ occ L set/\hp'=[.rows false [.i64,.i64] rs,.cells true [I f,I r],.cells true [U occ],.cells true [U s],.cells true [I ((rs.getD i.toNat []).getD 0 0),I ((rs.getD i.toNat []).getD 1 0)],.cells true [I f,I r],.cells true [I n],.cells true [I ((rs.getD i.toNat []).getD 0 0)],.cells true [I ((rs.getD i.toNat []).getD 1 0)]])
    (fun e hp'=>e=.exit 2/\∃ s,s=cQ occ L set/\hp'=[.rows false [.i64,.i64] rs,.cells true [I f,I r],.cells true [U occ],.cells true [U s],.cells true [I ((rs.getD i.toNat []).getD 0 0),I ((rs.getD i.toNat []).getD 1 0)],.cells true [I f,I r],.cells true [I n],.cells true [I ((rs.getD i.toNat []).getD 0 0)],.cells true [I ((rs.getD i.toNat []).getD 1 0)]])
    ⟨set,rfl,rfl⟩ ?_ ?_ ?_ ?_ ?_
   ·rintro j hp' ⟨s,_,rfl⟩;rfl
   ·rintro e hp' ⟨_,s,_,rfl⟩;rfl
   ·rintro j vs hp' hi ⟨s,hs,rfl⟩
    obtain⟨x,hx,rfl,x0,x1⟩:=Gn hi
    rw[hL]at hx
    rw[yg hx]at hs
    refine ae ⟨rfl,?_⟩
    repeat (first|refine ah ?_|refine sat_nd ?_)
    refine ax (fun h2=>?_) (fun h2=>?_)
    ·have h2:decide (uand (ushr occ x) 1=1)=true:=h2
     rw[h2,cond_true]at hs
     exact ae ⟨_,Ent.ren [0,1,2,3,4,5,6,7,8] [] rfl rfl rfl,rfl,_,hs,rfl⟩
    ·have h2:decide (uand (ushr occ x) 1=1)=false:=h2
     rw[h2,cond_false]at hs
     exact ae ⟨_,Ent.ren [0,1,2,3,4,5,6,7,8] [] rfl rfl rfl,_,hs,rfl⟩
   ·rintro hp' ⟨s,hs,rfl⟩
    rw[uw,hL,List.drop_length]at hs
    have hs:s=cQ occ L set:=hs
    refine ae ⟨(_,_),⟨k+1,by omega,hnext,?_⟩,?_,Ent.ren [0,1,2,3] [1,4,6,9,13,14,15] rfl rfl rfl⟩
    ·rw[<-hki,hstep,dA,hL];exact hs
    ·show _-(i64.wrap (i+1)).toNat<_
     rw[hnext];omega
   ·rintro e hp' ⟨rfl,s,hs,rfl⟩
    refine ae ⟨(_,_),⟨k+1,by omega,hnext,?_⟩,?_,Ent.ren [0,1,2,3] [1,4,6,9,13,14,15] rfl rfl rfl⟩
    ·rw[<-hki,hstep,dA,hL];exact hs
    ·show _-(i64.wrap (i+1)).toNat<_
     rw[hnext];omega
  ·simp only[decide_eq_false_iff_not]at hlt
   obtain rfl:k=rs.length:=by omega
   rw[List.take_length]at h2
   exact ae (ae (ai (.inr rfl) rfl rfl rfl (by rw[h2];rfl)))
 ·cases e
end
end Go.Ab
namespace Go.Ab
open Go.Proofs
section
variable{kCa kDb:Bool}
def ez(f r kd n occ:Int):Int×Int:=
 bif mq f r n occ then
  (bif decide (kd=2) then(fU f r n fX,0)else bif decide (kd=3) then(cN f r n occ eD,0)else bif decide (kd=4) then(cN f r n occ eA,0)
   else bif decide (kd=5) then(uor (cN f r n occ eD) (cN f r n occ eA),0)else bif decide (kd=6) then(uor (fU f r n eD) (fU f r n eA),0) else(0,2))
 else(0,2)
def mB(f r:Int)(bl:Bool)(n:Int):Int×Int:=bif aA f r n then(fU f r n [[-1,fwd bl],[1,fwd bl]],0) else(0,2)
def uX:CF
 |[.agg [.int .i64 f,.int .i64 r],.int .i8 kd,.int .i64 n,.int .u64 occ],[]=>some (true,.tup [U (ez f r kd n occ).1,I (ez f r kd n occ).2],[])
 |_,_=>none
theorem yK:CtOk (GGx kCa kDb) PP (176,uX):=by
 refine aG Tryz.func176 (by kernel_rfl) rfl fun a0 h0 c0 v0 N0 e hc=>?_
 unfold uX at e
 split at e
 ·rename_i f r kd n occ
  cases e
  have hE:=aF (kCa:=kCa) (kDb:=kDb) (cts:=[(207,tv),(208,wM),(209,uM)]) (inl:=[]) ⟨yT,rD,xg,trivial⟩ trivial
  refine ak hE 2 Tryz.func176 rfl rfl ?_
  repeat (first|refine ah ?_|refine sat_nd ?_)
  refine ax (fun h1=>?_) (fun h1=>?_)
  ·have h1:mq f r n occ=false:=by simpa using h1
   exact ae (ai (.inr rfl) rfl rfl rfl (by rw[ez,h1];rfl))
  have h1:mq f r n occ=true:=by simpa using h1
  refine ax (fun h2=>?_) (fun h2=>?_)
  ·repeat (first|refine ah ?_|refine sat_nd ?_)
   exact ae (ai (.inr rfl) rfl rfl rfl (by rw[ez,h1,cond_true,h2];rfl))
  refine ax (fun h3=>?_) (fun h3=>?_)
  ·repeat (first|refine ah ?_|refine sat_nd ?_)
   exact ae (ai (.inr rfl) rfl rfl rfl (by rw[ez,h1,cond_true,h2,h3];rfl))
  refine ax (fun h4=>?_) (fun h4=>?_)
  ·repeat (first|refine ah ?_|refine sat_nd ?_)
   exact ae (ai (.inr rfl) rfl rfl rfl (by rw[ez,h1,cond_true,h2,h3,h4];rfl))
  refine ax (fun h5=>?_) (fun h5=>?_)
  ·repeat (first|refine ah ?_|refine sat_nd ?_)
   exact ae (ai (.inr rfl) rfl rfl rfl (by rw[ez,h1,cond_true,h2,h3,h4,h5];rfl))
  refine ax (fun h6=>?_) (fun h6=>?_)
  ·repeat (first|refine ah ?_|refine sat_nd ?_)
   exact ae (ai (.inr rfl) rfl rfl rfl (by rw[ez,h1,cond_true,h2,h3,h4,h5,h6];rfl))
  exact ae (ai (.inr rfl) rfl rfl rfl (by rw[ez,h1,cond_true,h2,h3,h4,h5,h6];rfl))
 ·cases e
def CQ:CF
 |[.agg [.int .i64 f,.int .i64 r],.bool bl,.int .i64 n],[]=>some (true,.tup [U (mB f r bl n).1,I (mB f r bl n).2],[])
 |_,_=>none
theorem Dn:CtOk (GGx kCa kDb) PP (206,CQ):=by
 refine aG Tryz.func206 (by kernel_rfl) rfl fun a0 h0 c0 v0 N0 e hc=>?_
 unfold CQ at e
 split at e
 ·rename_i f r bl n
  cases e
  have hE:=aF (kCa:=kCa) (kDb:=kDb) (cts:=[(75,fb),(221,lV),(208,wM)]) (inl:=[]) ⟨dx,qj,rD,trivial⟩ trivial
  refine ak hE 2 Tryz.func206 rfl rfl ?_
  repeat (first|refine ah ?_|refine sat_nd ?_)
  refine ax (fun h1=>?_) (fun h1=>?_)
  ·have h1:aA f r n=false:=by simpa using h1
   exact ae (ai (.inr rfl) rfl rfl rfl (by rw[mB,h1];rfl))
  have h1:aA f r n=true:=by simpa using h1
  repeat (first|refine ah ?_|refine sat_nd ?_)
  exact ae (ai (.inr rfl) rfl rfl rfl (by rw[mB,h1];rfl))
 ·cases e
end
end Go.Ab
namespace Go.Ab
open IntKind
open Go.Proofs
section
variable{kCa kDb:Bool}
def numB(f r x y:Int):Bool:=decide (x<0)||decide (f<=x)||decide (y<0)||decide (r<=y)
def numR(f r x y:Int):Int:=bif numB f r x y then -1 else i64.wrap (i64.wrap (y*f)+x)
def hasB(s n:Int):Bool:=decide (0<=n)&&decide (n<64)&&decide ((ushr s n).tmod 2=1)
def gq:CF
 |[.agg [.int .i64 f,.int .i64 r]],[]=>some (true,.bool (vsB f r),[])
 |_,_=>none
theorem dD:CtOk (GGx kCa kDb) PP (33,gq):=by
 refine aG Tryz.func33 (by kernel_rfl) rfl fun a0 h0 c0 v0 N0 e hc=>?_
 unfold gq at e
 split at e
 ·rename_i f r
  cases e
  have hE:=aF (kCa:=kCa) (kDb:=kDb) (cts:=[]) (inl:=[]) trivial trivial
  refine ak hE 2 Tryz.func33 rfl rfl ?_
  repeat (first|refine ah ?_|refine sat_nd ?_)
  exact ae (ai (.inr rfl) rfl rfl rfl (by simp[vsB,zu,Bool.and_assoc]))
 ·cases e
def lH:CF
 |[.agg [.int .i64 f,.int .i64 r],.int .i64 n],[]=>some (true,.bool (aA f r n),[])
 |_,_=>none
theorem iP:CtOk (GGx kCa kDb) PP (93,lH):=by
 refine aG Tryz.func93 (by kernel_rfl) rfl fun a0 h0 c0 v0 N0 e hc=>?_
 unfold lH at e
 split at e
 ·rename_i f r n
  cases e
  have hE:=aF (kCa:=kCa) (kDb:=kDb) (cts:=[(33,gq)]) (inl:=[]) ⟨dD,trivial⟩ trivial
  refine ak hE 2 Tryz.func93 rfl rfl ?_
  repeat (first|refine ah ?_|refine sat_nd ?_)
  exact ae (ai (.inr rfl) rfl rfl rfl rfl)
 ·cases e
def jL:CF
 |[.agg [.int .i64 f,.int .i64 r],.int .i64 x,.int .i64 y],[]=>some (true,.int .i64 (numR f r x y),[])
 |_,_=>none
theorem kR:CtOk (GGx kCa kDb) PP (114,jL):=by
 refine aG Tryz.func114 (by kernel_rfl) rfl fun a0 h0 c0 v0 N0 e hc=>?_
 unfold jL at e
 split at e
 ·rename_i f r x y
  cases e
  have hE:=aF (kCa:=kCa) (kDb:=kDb) (cts:=[]) (inl:=[]) trivial trivial
  refine ak hE 2 Tryz.func114 rfl rfl ?_
  repeat (first|refine ah ?_|refine sat_nd ?_)
  refine ax (fun h1=>?_) (fun h1=>?_)
  ·have h1:numB f r x y=true:=h1
   exact ae (ai (.inr rfl) rfl rfl rfl (by rw[numR,h1];rfl))
  ·have h1:numB f r x y=false:=h1
   exact ae (ai (.inr rfl) rfl rfl rfl (by rw[numR,h1];rfl))
 ·cases e
def dJ:CF
 |[.agg [.int .i64 f,.int .i64 _r],.int .i64 n],[]=>some (!decide (f=0),.agg [I (n.tmod f),I (i64.wrap (n.tdiv f))],[])
 |_,_=>none
theorem cj:CtOk (GGx kCa kDb) PP (58,dJ):=by
 refine aG Tryz.func58 (by kernel_rfl) rfl fun a0 h0 c0 v0 N0 e hc=>?_
 unfold dJ at e
 split at e
 ·rename_i f r n
  cases e
  have hE:=aF (kCa:=kCa) (kDb:=kDb) (cts:=[]) (inl:=[]) trivial trivial
  refine ak hE 2 Tryz.func58 rfl rfl ?_
  have hc:¬ f=0:=by simpa using hc
  repeat (first|refine ah ?_|refine sat_nd ?_)
  exact ae (ai (.inr rfl) rfl rfl rfl rfl)
 ·cases e
def GB:CF
 |[.int .u64 s,.int .i64 n],[]=>some (true,.bool (hasB s n),[])
 |_,_=>none
theorem wW:CtOk (GGx kCa kDb) PP (199,GB):=by
 refine aG Tryz.func199 (by kernel_rfl) rfl fun a0 h0 c0 v0 N0 e hc=>?_
 unfold GB at e
 split at e
 ·rename_i s n
  cases e
  have hE:=aF (kCa:=kCa) (kDb:=kDb) (cts:=[]) (inl:=[]) trivial trivial
  refine ak hE 2 Tryz.func199 rfl rfl ?_
  repeat (first|refine ah ?_|refine sat_nd ?_)
  exact ae (ai (.inr rfl) rfl rfl rfl rfl)
 ·cases e
def ofL:List Int->Int->Int
 |[],s=>s
 |x::l,s=>ofL l (bif hasB s x then s else u64.wrap (s+ushl 1 x))
theorem Lz{l:List Int}{i:Nat}{x s:Int}(h:l[i]?=some x):ofL (l.drop i) s=ofL (l.drop (i+1)) (bif hasB s x then s else u64.wrap (s+ushl 1 x)):=by
 obtain⟨h1,h2⟩:=List.getElem?_eq_some_iff.1 h
 rw[List.drop_eq_getElem_cons h1,h2,ofL]
def c_Of:CF
 |[.sl 0 0 len none],[.ints false .i64 zs]=>some (decide (len=zs.length)&&decide (zs.length<=1000000)&&zs.all fun x=>decide (0<=x),.int .u64 (ofL zs 0),[])
 |_,_=>none
theorem JN:CtOk (GGx kCa kDb) PP (168,c_Of):=by
 refine aG Tryz.func168 (by kernel_rfl) rfl fun a0 h0 c0 v0 N0 e hc=>?_
 unfold c_Of at e
 split at e
 ·rename_i len zs
  cases e
  have hE:=aF (kCa:=kCa) (kDb:=kDb) (cts:=[(199,GB)]) (inl:=[]) ⟨wW,trivial⟩ trivial
  refine ak hE 2 Tryz.func168 rfl rfl ?_
  simp only[Bool.and_eq_true,decide_eq_true_eq,List.all_eq_true]at hc
  obtain⟨⟨hc1,hc2⟩,hc3⟩:=hc
  subst hc1
  refine iV hE 2 (fun a:Int×Int=>([(0,.sl 0 0 zs.length none),(3,U a.2),(4,I a.1)],[.ints false .i64 zs]))
   (fun a=>∃ k:Nat,k<=zs.length/\a.1=k/\ofL (zs.drop k) a.2=ofL zs 0) (fun a=>zs.length-a.1.toNat) (0,0)
   (Ent.ren [0] [0,3,4] rfl rfl rfl) ⟨0,by omega,rfl,rfl⟩ ?_
  rintro⟨i,set⟩ ⟨k,hk,h1,h2⟩
  dsimp only at h1 h2 ⊢
  refine ax (fun hlt=>?_) (fun hlt=>?_)
  ·simp only[decide_eq_true_eq]at hlt
   have hnext:i64.wrap (i+1)=((k+1:Nat):Int):=by rw[aK (by omega) (by omega)];omega
   have hki:i.toNat=k:=by omega
   have hlt':k<zs.length:=by omega
   have hget:zs[k]?=some (zs.getD i.toNat 0):=by simp[hki,List.getD,hlt']
   have hmem:=hc3 _ (List.mem_of_getElem? hget)
   rw[Lz hget]at h2
   refine ag (by simp;omega) ?_
   repeat (first|refine ah ?_|refine sat_nd ?_)
   refine ax (fun hon=>?_) (fun hon=>?_)
   ·have hon:(!hasB set (zs.getD i.toNat 0))=true:=hon
    rw[Bool.not_eq_true']at hon
    rw[hon,cond_false]at h2
    repeat (first|(first|refine ah ?_|refine sat_nd ?_)|refine ag (decide_eq_true hmem) ?_)
    refine ae ⟨(i64.wrap (i+1),_),⟨k+1,by omega,hnext,h2⟩,?_,Ent.ren [0] [0,3,4] rfl rfl rfl⟩
    show _-(i64.wrap (i+1)).toNat<_
    rw[hnext];omega
   ·have hon:(!hasB set (zs.getD i.toNat 0))=false:=hon
    rw[Bool.not_eq_false']at hon
    repeat (first|refine ah ?_|refine sat_nd ?_)
    rw[hon,cond_true]at h2
    refine ae ⟨(i64.wrap (i+1),_),⟨k+1,by omega,hnext,h2⟩,?_,Ent.ren [0] [0,3,4] rfl rfl rfl⟩
    show _-(i64.wrap (i+1)).toNat<_
    rw[hnext];omega
  ·simp only[decide_eq_false_iff_not]at hlt
   obtain rfl:k=zs.length:=by omega
   rw[List.drop_length]at h2
   exact ae (ae (ai (.inr rfl) rfl rfl rfl (by rw[<-h2];rfl)))
 ·cases e
end
section
variable{kCa kDb:Bool}
def ey(f r df dr px py:Int):Nat->Int->List Int
 |0,_=>[]
 |m+1,k=>bif decide (numR f r (i64.wrap (px+i64.wrap (k*df))) (i64.wrap (py+i64.wrap (k*dr)))<0) then[]else numR f r (i64.wrap (px+i64.wrap (k*df))) (i64.wrap (py+i64.wrap (k*dr)))::ey f r df dr px py m (i64.wrap (k+1))
def bO(f r n df dr:Int):List Int:=bif !aA f r n||(decide (df=0)&&decide (dr=0)) then[]else ey f r df dr (n.tmod f) (i64.wrap (n.tdiv f)) 8 1
theorem zD(f r df dr px py:Int)(m:Nat):∀ k,(ey f r df dr px py m k).length<=m:=by
 induction m with
 |zero=>intro k;simp[ey]
 |succ m ih=>
  intro k
  rw[ey]
  cases decide (numR f r (i64.wrap (px+i64.wrap (k*df))) (i64.wrap (py+i64.wrap (k*dr)))<0) with
  |true=>simp
  |false=>have:=ih (i64.wrap (k+1));simp;omega
theorem iM(f r n df dr:Int):(bO f r n df dr).length<=8:=by
 unfold bO
 cases(!aA f r n||(decide (df=0)&&decide (dr=0))) with
 |true=>simp
 |false=>exact zD ..
def oG:CF
 |[.agg [.int .i64 f,.int .i64 r],.int .i64 n,.int .i64 df,.int .i64 dr],[]=>some (true,.sl 0 0 (bO f r n df dr).length none,[.ints true .i64 (bO f r n df dr)])
 |_,_=>none
theorem uP:CtOk (GGx kCa kDb) PP (220,oG):=by
 refine aG Tryz.func220 (by kernel_rfl) rfl fun a0 h0 c0 v0 N0 e hc=>?_
 unfold oG at e
 split at e
 ·rename_i f r n df dr
  cases e
  have hE:=aF (kCa:=kCa) (kDb:=kDb) (cts:=[(93,lH),(58,dJ),(114,jL)]) (inl:=[]) ⟨iP,cj,kR,trivial⟩ trivial
  refine lF hE 2 Tryz.func220 rfl rfl ?_
  repeat (first|refine ah ?_|refine sat_nd ?_)
  refine ax (fun h0=>?_) (fun h0=>?_)
  ·have hz:bO f r n df dr=[]:=by rw[bO,show (!aA f r n||(decide (df=0)&&decide (dr=0)))=true from h0];rfl
   rw[hz]
   exact ae (El ((Ent.phanT (t:=8) (o:=.ints true .i64 []) rfl ⟨by simp,by simp,trivial,rfl⟩ (aJ rfl))) (da 1 (.inr rfl) rfl rfl rfl rfl rfl rfl))
  have hz:bO f r n df dr=ey f r df dr (n.tmod f) (i64.wrap (n.tdiv f)) 8 1:=by rw[bO,show (!aA f r n||(decide (df=0)&&decide (dr=0)))=false from h0];rfl
  have hv:aA f r n=true:=by cases h:aA f r n<;>simp_all
  have hf:=cS (bV hv)
  refine ag (by simp;omega) ?_
  refine iV hE 2 (fun a:Int×List Int=>([(2,I df),(3,I dr),(4,.ptr 0 0 0),(9,.ptr 1 0 0),(10,.sl 2 0 a.2.length none),(11,I a.1)],[.cells true [I f,I r],.cells true [I (n.tmod f),I (i64.wrap (n.tdiv f))],.ints true .i64 a.2]))
   (fun a=>∃ k:Nat,1<=k/\k<=9/\a.1=k/\a.2++ey f r df dr (n.tmod f) (i64.wrap (n.tdiv f)) (9-k) k=bO f r n df dr) (fun a=>9-a.1.toNat) (1,[])
   ((Ent.phanT (t:=10) (o:=.ints true .i64 []) rfl ⟨by simp,by simp,trivial,rfl⟩ (aJ rfl)).trans (Ent.ren [0,1,2] [2,3,4,9,10,11] rfl rfl rfl)) ⟨1,by omega,by omega,rfl,hz.symm⟩ ?_
  rintro⟨i,zs⟩ ⟨k,hk1,hk,h1,h3⟩
  dsimp only at h1 h3 ⊢
  have hb:zs.length<=8:=by have:=congrArg List.length h3;have:=iM f r n df dr;simp at *;omega
  refine ax (fun hlt=>?_) (fun hlt=>?_)
  ·simp only[decide_eq_true_eq]at hlt
   have hnext:i64.wrap (i+1)=((k+1:Nat):Int):=by rw[aK (by omega) (by omega)];omega
   rw[show 9-k=(9-(k+1))+1 by omega,ey,<-h1,hnext]at h3
   repeat (first|refine ah ?_|refine sat_nd ?_)
   refine ax (fun hon=>?_) (fun hon=>?_)
   ·have hon:decide (numR f r (i64.wrap (n.tmod f+i64.wrap (i*df))) (i64.wrap (i64.wrap (n.tdiv f)+i64.wrap (i*dr)))<0)=true:=hon
    rw[hon,cond_true,List.append_nil]at h3
    subst h3
    refine ae (ae (JU (da 2 (.inr rfl) rfl rfl rfl rfl rfl rfl)))
   ·have hon:decide (numR f r (i64.wrap (n.tmod f+i64.wrap (i*df))) (i64.wrap (i64.wrap (n.tdiv f)+i64.wrap (i*dr)))<0)=false:=hon
    rw[hon,cond_false]at h3
    refine ag (b:=decide (zs.length=zs.length)&&decide ((zs.length+1)*8<=140737488355328)&&true) (by simp;omega) ?_
    refine ae ⟨(i64.wrap (i+1),zs++[numR f r (i64.wrap (n.tmod f+i64.wrap (i*df))) (i64.wrap (i64.wrap (n.tdiv f)+i64.wrap (i*dr)))]),⟨k+1,by omega,by omega,hnext,by rw[<-h3];simp⟩,?_,Ent.ren [0,1,4] [2,3,4,9,10,11] rfl rfl rfl⟩
    show _-(i64.wrap (i+1)).toNat<_
    rw[hnext];omega
  ·simp only[decide_eq_false_iff_not]at hlt
   obtain rfl:k=9:=by omega
   rw[ey,List.append_nil]at h3
   subst h3
   refine ae (ae (JU (da 2 (.inr rfl) rfl rfl rfl rfl rfl rfl)))
 ·cases e
end
section
variable{kCa kDb:Bool}
def subS(s:List UInt8)(a b:Int):List UInt8:=(s.drop a.toNat).take (b.toNat-a.toNat)
def FA(f _r n:Int):List UInt8:=subS [97,98,99,100,101,102,103,104] (n.tmod f) (i64.wrap (n.tmod f+1))++subS [49,50,51,52,53,54,55,56] (i64.wrap (n.tdiv f)) (i64.wrap (i64.wrap (n.tdiv f)+1))
theorem GI{f r n:Int}(h:aA f r n=true):0<=n.tmod f/\n.tmod f<f/\0<=n.tdiv f/\n.tdiv f<r/\i64.wrap (n.tdiv f)=n.tdiv f/\i64.wrap (n.tmod f+1)=n.tmod f+1/\i64.wrap (n.tdiv f+1)=n.tdiv f+1:=by
 have hp:=oV h
 simp only[aV,h,cond_true]at hp
 obtain⟨a1,a2,a3,a4⟩:=cS (bV h)
 have hv:0<=n:=by simp only[aA,Bool.and_eq_true,decide_eq_true_eq]at h;exact h.1.2
 have e2:n.tdiv f=n/f:=Int.tdiv_eq_ediv_of_nonneg hv
 have e3:i64.wrap (n.tdiv f)=n.tdiv f:=by rw[hp.2.2.2.2.2,e2]
 rw[e3]at hp
 refine⟨hp.1,hp.2.1,hp.2.2.1,hp.2.2.2.1,e3,aK (by omega) (by omega),aK (by omega) (by omega)⟩
def pZ:CF
 |[.agg [.int .i64 f,.int .i64 r],.int .i64 n],[]=>some (aA f r n,.str (FA f r n),[])
 |_,_=>none
theorem kV:CtOk (GGx kCa kDb) PP (118,pZ):=by
 refine aG Tryz.func118 (by kernel_rfl) rfl fun a0 h0 c0 v0 N0 e hc=>?_
 unfold pZ at e
 split at e
 ·rename_i f r n
  cases e
  have hE:=aF (kCa:=kCa) (kDb:=kDb) (cts:=[(58,dJ)]) (inl:=[]) ⟨cj,trivial⟩ trivial
  refine ak hE 2 Tryz.func118 rfl rfl ?_
  obtain⟨a1,a2,a3,a4⟩:=cS (bV hc)
  obtain⟨b1,b2,b3,b4,b5,b6,b7⟩:=GI hc
  refine ag (by simp;omega) ?_
  repeat (first|refine ah ?_|refine ag (by first|rfl|(simp[b5,b6,b7];omega)) ?_)
  exact ae (ai (.inr rfl) rfl rfl rfl rfl)
 ·cases e
def ld(f r:Int)(s:List UInt8):Nat->Nat->Int
 |0,_=>-1
 |m+1,k=>bif FA f r k==s then k else ld f r s m (k+1)
def bP(f r:Int)(s:List UInt8):Int:=ld f r s (f*r).toNat 0
def og:CF
 |[.agg [.int .i64 f,.int .i64 r],.str s],[]=>some (vsB f r,.int .i64 (bP f r s),[])
 |_,_=>none
theorem mW:CtOk (GGx kCa kDb) PP (101,og):=by
 refine aG Tryz.func101 (by kernel_rfl) rfl fun a0 h0 c0 v0 N0 e hc=>?_
 unfold og at e
 split at e
 ·rename_i f r s
  cases e
  have hE:=aF (kCa:=kCa) (kDb:=kDb) (cts:=[(118,pZ)]) (inl:=[]) ⟨kV,trivial⟩ trivial
  refine ak hE 2 Tryz.func101 rfl rfl ?_
  have hm:=bF hc
  have hw:=ee hc
  refine iV hE 2 (fun a:Int=>([(1,.str s),(2,.ptr 0 0 0),(5,I a)],[.cells true [I f,I r]]))
   (fun a=>∃ k:Nat,k<=(f*r).toNat/\a=k/\ld f r s ((f*r).toNat-k) k=bP f r s) (fun a=>(f*r).toNat-a.toNat) 0
   (Ent.ren [0] [1,2,5] rfl rfl rfl) ⟨0,by omega,rfl,rfl⟩ ?_
  rintro i ⟨k,hk,h1,h3⟩
  dsimp only at h1 h3 ⊢
  refine ax (fun hlt=>?_) (fun hlt=>?_)
  ·simp only[decide_eq_true_eq]at hlt
   rw[hw]at hlt
   have hnext:i64.wrap (i+1)=((k+1:Nat):Int):=by rw[aK (by omega) (by omega)];omega
   rw[show (f*r).toNat-k=((f*r).toNat-(k+1))+1 by omega,ld,<-h1]at h3
   refine ag (by simp only[aA,Bool.and_eq_true,decide_eq_true_eq];rw[hw];exact⟨⟨hc,by omega⟩,hlt⟩) ?_
   refine ax (fun hon=>?_) (fun hon=>?_)
   ·have hon:(FA f r i==s)=true:=hon
    rw[hon,cond_true]at h3
    refine ae (ae (ai (.inr rfl) rfl rfl rfl (by rw[<-h3])))
   ·have hon:(FA f r i==s)=false:=hon
    rw[hon,cond_false]at h3
    refine ae ⟨i64.wrap (i+1),⟨k+1,by omega,hnext,h3⟩,?_,Ent.ren [0] [1,2,5] rfl rfl rfl⟩
    show _-(i64.wrap (i+1)).toNat<_
    rw[hnext];omega
  ·simp only[decide_eq_false_iff_not]at hlt
   rw[hw]at hlt
   obtain rfl:k=(f*r).toNat:=by omega
   rw[Nat.sub_self,ld]at h3
   refine ae (ae (ai (.inr rfl) rfl rfl rfl (by rw[<-h3])))
 ·cases e
end
end Go.Ab
namespace Go.Ab
open Go.Proofs
end Go.Ab
namespace Go.Ab
open IntKind
open Go.Proofs
theorem uu{f r X Y:Int}(h:vsB f r=true):decide ((atR f r X Y).2=0)=onB f r X Y:=by
 unfold atR
 cases h2:onB f r X Y<;>simp[h]
theorem tR{f r X Y:Int}:numB f r X Y=!onB f r X Y:=by
 rw[Bool.eq_iff_iff]
 simp only[numB,onB,Bool.or_eq_true,decide_eq_true_eq,Bool.not_eq_true',Bool.and_eq_false_iff,decide_eq_false_iff_not]
 omega
theorem qR{f r X Y:Int}(h:vsB f r=true)(h2:onB f r X Y=true):numR f r X Y=(atR f r X Y).1:=by
 simp only[numR,tR,h2,atR,h,Bool.not_true,cond_true,cond_false,Int.add_comm]
theorem pN{f r X Y:Int}(h:vsB f r=true):decide (numR f r X Y<0)=!onB f r X Y:=by
 cases h2:onB f r X Y with
 |false=>simp[numR,tR,h2]
 |true=>
  rw[qR h h2]
  have h3:=uu (X:=X) (Y:=Y) h
  rw[h2]at h3
  have:=js (of_decide_eq_true h3)
  simp;omega
theorem qx{f r x y:Int}(h1:0<=x)(h2:x<f)(h3:0<=y)(h4:y<r):onB f r x y=true:=by simp[onB, *]
theorem Mx{f r df dr px py:Int}(h:vsB f r=true)(hb:-7<=df/\df<=7/\-7<=dr/\dr<=7)(hnz:df≠0\/dr≠0)(hp:onB f r px py=true) :
  ∀ (m k:Nat),m+k=9->1<=k->onB f r (px+((k:Int)-1)*df) (py+((k:Int)-1)*dr)=true->iK f r df dr (m+1) (px+((k:Int)-1)*df) (py+((k:Int)-1)*dr)=ey f r df dr px py m k:=by
 have hv:=cS h
 have hp:=rC hp
 intro m
 induction m with
 |zero=>
  intro k hk h1 hon
  obtain rfl:k=9:=by omega
  have:=rC hon
  exfalso
  rcases hnz with e|e<;>omega
 |succ m ih=>
  intro k hk h1 hon
  have hon:=rC hon
  have hX:i64.wrap (px+((k:Int)-1)*df+df)=px+((k:Int)+1-1)*df/\i64.wrap (py+((k:Int)-1)*dr+dr)=py+((k:Int)+1-1)*dr/\i64.wrap (px+i64.wrap (k*df))=px+((k:Int)+1-1)*df/\i64.wrap (py+i64.wrap (k*dr))=py+((k:Int)+1-1)*dr/\i64.wrap ((k:Int)+1)=((k+1:Nat):Int):=by
   have hk8:k=1\/k=2\/k=3\/k=4\/k=5\/k=6\/k=7\/k=8:=by omega
   rcases hk8 with rfl|rfl|rfl|rfl|rfl|rfl|rfl|rfl <;>
   ·refine⟨?_,?_,?_,?_,?_⟩
    ·rw[aK (by omega) (by omega)];omega
    ·rw[aK (by omega) (by omega)];omega
    ·rw[aK (n:=_*df) (by omega) (by omega),aK (by omega) (by omega)];omega
    ·rw[aK (n:=_*dr) (by omega) (by omega),aK (by omega) (by omega)];omega
    ·rw[aK (by omega) (by omega)];omega
  obtain⟨e1,e2,e3,e4,e5⟩:=hX
  rw[iK,ey,e1,e2,e3,e4,e5,uu h,pN h]
  cases h2:onB f r (px+((k:Int)+1-1)*df) (py+((k:Int)+1-1)*dr) with
  |false=>rfl
  |true=>
   rw[qR h h2]
   have:=ih (k+1) (by omega) (by omega) (by push_cast;exact h2)
   push_cast at this ⊢
   simp only[cond_true,Bool.not_true,cond_false,this]
def inR(df dr:Int):Bool:=decide (-8<=df)&&decide (df<=8)&&decide (-8<=dr)&&decide (dr<=8)
theorem Mr{df dr:Int}(h:inR df dr=true)(h2:eY df dr=true):df=8\/df=-8\/dr=8\/dr=-8:=by
 simp only[inR,Bool.and_eq_true,decide_eq_true_eq]at h
 obtain⟨⟨⟨a1,a2⟩,a3⟩,a4⟩:=h
 simp only[eY,Bool.or_eq_true,decide_eq_true_eq]at h2
 rw[aK (n:=0-df) (by omega) (by omega),aK (n:=0-dr) (by omega) (by omega)]at h2
 have m:∀ x y:Int,imax true x y=x\/imax true x y=y:=fun x y=>by
  unfold imax
  by_cases h:x<y<;>simp[h]
 have m1:=m df (0-df)
 have m2:=m (imax true df (0-df)) dr
 have m3:=m (imax true (imax true df (0-df)) dr) (0-dr)
 omega
theorem HY{df dr:Int}(h:inR df dr=false):eY df dr=true:=by
 cases hb:eY df dr with
 |true=>rfl
 |false=>
  have:=zO hb
  simp[inR]at h
  omega
theorem KR(f r n df dr:Int):rayL f r n df dr=bif inR df dr then bO f r n df dr else[]:=by
 cases hv:aA f r n with
 |false=>simp[rayL,bO,hv]
 |true=>
  cases hz:(decide (df=0)&&decide (dr=0)) with
  |true=>simp[rayL,bO,hv,hz]
  |false=>
   have hnz:df≠0\/dr≠0:=by
    by_cases e:df=0
    ·right;rintro rfl;simp[e]at hz
    ·exact .inl e
   have hvs:=bV hv
   have hb:=cS hvs
   have hp:=oV hv
   have hr:bO f r n df dr=ey f r df dr (aV f r n).1 (aV f r n).2.1 8 1:=by simp[bO,hv,hz,aV]
   cases hbig:eY df dr with
   |true=>
    have hl:rayL f r n df dr=[]:=by simp[rayL,hbig]
    rw[hl]
    cases hi:inR df dr with
    |false=>rfl
    |true=>
     have h8:=Mr hi hbig
     simp only[inR,Bool.and_eq_true,decide_eq_true_eq]at hi
     obtain⟨⟨⟨a1,a2⟩,a3⟩,a4⟩:=hi
     rw[cond_true,hr,ey,pN hvs]
     have hoff:onB f r (i64.wrap ((aV f r n).1+i64.wrap (1*df))) (i64.wrap ((aV f r n).2.1+i64.wrap (1*dr)))=false:=by
      rw[aK (n:=1*df) (by omega) (by omega),aK (n:=1*dr) (by omega) (by omega),aK (by omega) (by omega),aK (by omega) (by omega)]
      cases ho:onB f r ((aV f r n).1+1*df) ((aV f r n).2.1+1*dr) with
      |false=>rfl
      |true=>have:=rC ho;omega
     rw[hoff];rfl
   |false=>
    have hi:inR df dr=true:=by
     cases hi:inR df dr with
     |true=>rfl
     |false=>rw[HY hi]at hbig;cases hbig
    have hg:=Mx (f:=f) (r:=r) (df:=df) (dr:=dr) (px:=(aV f r n).1) (py:=(aV f r n).2.1) hvs (zO hbig) hnz (qx hp.1 hp.2.1 hp.2.2.1 hp.2.2.2.1) 8 1 rfl (Nat.le_refl _) (by simpa using qx hp.1 hp.2.1 hp.2.2.1 hp.2.2.2.1)
    rw[hi,cond_true,hr]
    simp only[rayL,hv,hz,hbig,Bool.not_false,Bool.and_self,cond_true]
    simpa using hg
section
variable{kCa kDb:Bool}
theorem ER{f:Int}(h:(!decide (f=0))=true):¬ f=0:=by simpa using h
def absI(n:Int):Int:=bif decide (n<0)then i64.wrap (0-n)else n
def xK(f a b:Int):Bool:=decide (a=b)||(!decide (i64.wrap (b.tmod f-a.tmod f)=0)&&!decide (i64.wrap (i64.wrap (b.tdiv f)-i64.wrap (a.tdiv f))=0)&&!decide (i64.wrap (b.tmod f-a.tmod f)=i64.wrap (i64.wrap (b.tdiv f)-i64.wrap (a.tdiv f)))&&!decide (i64.wrap (i64.wrap (b.tmod f-a.tmod f)+i64.wrap (i64.wrap (b.tdiv f)-i64.wrap (a.tdiv f)))=0))
def bC(f a b:Int):Int×Int×Bool:=bif xK f a b then(0,0,false) else(sgn (i64.wrap (b.tmod f-a.tmod f)),sgn (i64.wrap (i64.wrap (b.tdiv f)-i64.wrap (a.tdiv f))),true)
def rY:CF
 |[.int .i64 n],[]=>some (true,.int .i64 (sgn n),[])
 |_,_=>none
theorem yN:CtOk (GGx kCa kDb) PP (219,rY):=by
 refine aG Tryz.func219 (by kernel_rfl) rfl fun a0 h0 c0 v0 N0 e hc=>?_
 unfold rY at e
 split at e
 ·rename_i n
  cases e
  have hE:=aF (kCa:=kCa) (kDb:=kDb) (cts:=[]) (inl:=[]) trivial trivial
  refine ak hE 2 Tryz.func219 rfl rfl ?_
  repeat' first|(first|refine ah ?_|refine sat_nd ?_)|refine ax (fun h=>?_) (fun h=>?_)
  all_goals exact ae (ai (.inr rfl) rfl rfl rfl (by first|rfl|(simp only[sgn, *,cond_true,cond_false];done)|(simp only[sgn, *,cond_true,cond_false,Bool.not_true,Bool.not_false,Bool.and_true,Bool.true_and,Bool.and_false,Bool.false_and,Bool.or_true,Bool.true_or,Bool.or_false,Bool.false_or];done)|simp_all [sgn]))
 ·cases e
def Bf:CF
 |[.int .i64 n],[]=>some (true,.int .i64 (absI n),[])
 |_,_=>none
theorem BS:CtOk (GGx kCa kDb) PP (218,Bf):=by
 refine aG Tryz.func218 (by kernel_rfl) rfl fun a0 h0 c0 v0 N0 e hc=>?_
 unfold Bf at e
 split at e
 ·rename_i n
  cases e
  have hE:=aF (kCa:=kCa) (kDb:=kDb) (cts:=[]) (inl:=[]) trivial trivial
  refine ak hE 2 Tryz.func218 rfl rfl ?_
  repeat' first|(first|refine ah ?_|refine sat_nd ?_)|refine ax (fun h=>?_) (fun h=>?_)
  all_goals exact ae (ai (.inr rfl) rfl rfl rfl (by first|rfl|(simp only[absI, *,cond_true,cond_false];done)|(simp only[absI, *,cond_true,cond_false,Bool.not_true,Bool.not_false,Bool.and_true,Bool.true_and,Bool.and_false,Bool.false_and,Bool.or_true,Bool.true_or,Bool.or_false,Bool.false_or];done)|simp_all [absI]))
 ·cases e
def wI:CF
 |[.agg [.int .i64 f,.int .i64 _r],.int .i64 a,.int .i64 b],[]=>some (!decide (f=0),.tup [I (bC f a b).1,I (bC f a b).2.1,Bb (bC f a b).2.2],[])
 |_,_=>none
theorem ru:CtOk (GGx kCa kDb) PP (202,wI):=by
 refine aG Tryz.func202 (by kernel_rfl) rfl fun a0 h0 c0 v0 N0 e hc=>?_
 unfold wI at e
 split at e
 ·rename_i f r a b
  cases e
  have hE:=aF (kCa:=kCa) (kDb:=kDb) (cts:=[(58,dJ),(219,rY)]) (inl:=[]) ⟨cj,yN,trivial⟩ trivial
  refine ak hE 2 Tryz.func202 rfl rfl ?_
  have hf:=ER hc
  repeat (first|refine ah ?_|refine sat_nd ?_)
  refine ax (fun h=>?_) (fun h=>?_)
  ·have h:xK f a b=true:=h
   exact ae (ai (.inr rfl) rfl rfl rfl (by rw[bC,h];rfl))
  ·have h:xK f a b=false:=h
   repeat (first|refine ah ?_|refine sat_nd ?_)
   exact ae (ai (.inr rfl) rfl rfl rfl (by rw[bC,h];rfl))
 ·cases e
def Js:CF
 |[.bool b],[]=>some (true,.int .i64 (fwd b),[])
 |_,_=>none
theorem FP:CtOk (GGx kCa kDb) PP (200,Js):=by
 refine aG Tryz.func200 (by kernel_rfl) rfl fun a0 h0 c0 v0 N0 e hc=>?_
 unfold Js at e
 split at e
 ·rename_i b
  cases e
  have hE:=aF (kCa:=kCa) (kDb:=kDb) (cts:=[]) (inl:=[]) trivial trivial
  refine ak hE 2 Tryz.func200 rfl rfl ?_
  repeat' first|(first|refine ah ?_|refine sat_nd ?_)|refine ax (fun h=>?_) (fun h=>?_)
  all_goals exact ae (ai (.inr rfl) rfl rfl rfl (by first|rfl|(simp only[fwd, *,cond_true,cond_false];done)|(simp only[fwd, *,cond_true,cond_false,Bool.not_true,Bool.not_false,Bool.and_true,Bool.true_and,Bool.and_false,Bool.false_and,Bool.or_true,Bool.true_or,Bool.or_false,Bool.false_or];done)|simp_all [fwd]))
 ·cases e
def tf(f a b:Int):Int:=bif decide (absI (i64.wrap (i64.wrap (a.tdiv f)-i64.wrap (b.tdiv f)))<absI (i64.wrap (a.tmod f-b.tmod f)))then absI (i64.wrap (a.tmod f-b.tmod f))else absI (i64.wrap (i64.wrap (a.tdiv f)-i64.wrap (b.tdiv f)))
def idxL(b:Int):List Int->Nat
 |[]=>0
 |x::l=>bif decide (x=b)then 0 else idxL b l+1
def hasL(b:Int):List Int->Bool
 |[]=>false
 |x::l=>decide (x=b)||hasL b l
def fj(f r a b:Int):List Int:=bO f r a (bC f a b).1 (bC f a b).2.1
def fh(f r a b:Int):List Int:=bif hasL b (fj f r a b) then(fj f r a b).take (idxL b (fj f r a b)) else[]
def eN(s:Int):List Int->Bool
 |[]=>true
 |x::l=>bif hasB s x then false else eN s l
theorem Fc{s:Int}{l:List Int}{i:Nat}(h:i<l.length):eN s (l.drop i)=bif hasB s (l.getD i 0)then false else eN s (l.drop (i+1)):=by
 rw[List.drop_eq_getElem_cons h,eN];simp[List.getD,h]
theorem BX{b:Int}{l:List Int}{i:Nat}(h:i<l.length):hasL b (l.drop i)=(decide (l.getD i 0=b)||hasL b (l.drop (i+1))):=by
 rw[List.drop_eq_getElem_cons h,hasL];simp[List.getD,h]
theorem Jw{b:Int}{l:List Int}{i:Nat}(h:i<l.length):idxL b (l.drop i)=bif decide (l.getD i 0=b)then 0 else idxL b (l.drop (i+1))+1:=by
 rw[List.drop_eq_getElem_cons h,idxL];simp[List.getD,h]
def Ci:CF
 |[.agg [.int .i64 f,.int .i64 _r],.int .i64 a,.int .i64 b],[]=>some (!decide (f=0),.int .i64 (tf f a b),[])
 |_,_=>none
theorem BH:CtOk (GGx kCa kDb) PP (201,Ci):=by
 refine aG Tryz.func201 (by kernel_rfl) rfl fun a0 h0 c0 v0 N0 e hc=>?_
 unfold Ci at e
 split at e
 ·rename_i f r a b
  cases e
  have hE:=aF (kCa:=kCa) (kDb:=kDb) (cts:=[(58,dJ),(218,Bf)]) (inl:=[]) ⟨cj,BS,trivial⟩ trivial
  refine ak hE 2 Tryz.func201 rfl rfl ?_
  have hf:=ER hc
  repeat (first|refine ah ?_|refine sat_nd ?_)
  refine ax (fun h=>?_) (fun h=>?_)
  all_goals
   repeat (first|refine ah ?_|refine sat_nd ?_)
   exact ae (ai (.inr rfl) rfl rfl rfl (by simp only[tf, *,cond_true,cond_false]))
 ·cases e
def zc:CF
 |[.sl 0 0 len none,.int .u64 s],[.ints false .i64 zs]=>some (decide (len=zs.length)&&decide (zs.length<=1000000),.bool (eN s zs),[])
 |_,_=>none
theorem AV:CtOk (GGx kCa kDb) PP (203,zc):=by
 refine aG Tryz.func203 (by kernel_rfl) rfl fun a0 h0 c0 v0 N0 e hc=>?_
 unfold zc at e
 split at e
 ·rename_i len s zs
  cases e
  have hE:=aF (kCa:=kCa) (kDb:=kDb) (cts:=[(199,GB)]) (inl:=[]) ⟨wW,trivial⟩ trivial
  refine ak hE 2 Tryz.func203 rfl rfl ?_
  simp only[Bool.and_eq_true,decide_eq_true_eq]at hc
  obtain⟨rfl,hc2⟩:=hc
  refine bK hE 2 (fun i (_:Unit)=>([(0,.sl 0 0 zs.length none),(1,U s),(5,I i)],[.ints false .i64 zs])) zs.length (fun j _=>eN s (zs.drop j)=eN s zs) () (by omega) (Ent.ren [0] [0,1,5] rfl rfl rfl) rfl ?_
  intro j i _ hij hj hz
  refine ax (fun hlt=>?_) (fun hlt=>?_)
  ·have hlt':j<zs.length:=by simp at hlt;omega
   rw[Fc hlt',show j=i.toNat by omega]at hz
   refine ag (by simp;omega) ?_
   repeat (first|refine ah ?_|refine sat_nd ?_)
   refine ax (fun hon=>?_) (fun hon=>?_)
   ·have hon:hasB s (zs.getD i.toNat 0)=true:=hon
    rw[hon]at hz
    exact ae (ae (ai (.inr rfl) rfl rfl rfl (by rw[<-hz];rfl)))
   ·have hon:hasB s (zs.getD i.toNat 0)=false:=hon
    rw[hon]at hz
    exact ae ⟨hlt',(),by rw[<-hz,show i.toNat=j by omega];rfl,Ent.ren [0] [0,1,5] rfl rfl rfl⟩
  ·obtain rfl:j=zs.length:=by simp at hlt;omega
   rw[List.drop_length]at hz
   exact ae (ae (ai (.inr rfl) rfl rfl rfl (by rw[<-hz];rfl)))
 ·cases e
end
section
variable{kCa kDb:Bool}
theorem JC(b:Int)(l:List Int):idxL b l<=l.length:=by
 induction l with
 |nil=>simp[idxL]
 |cons x l ih=>rw[idxL];cases decide (x=b)<;>simp<;>omega
theorem lI(f r a b:Int):(fh f r a b).length=bif hasL b (fj f r a b)then idxL b (fj f r a b)else 0:=by
 unfold fh
 have:=JC b (fj f r a b)
 cases hasL b (fj f r a b)<;>simp;omega
def rh(f r a b:Int):List Int:=bif hasL b (fj f r a b)then fj f r a b else[]
theorem mJ(f r a b:Int):((rh f r a b).drop 0).take (fh f r a b).length=fh f r a b:=by
 rw[lI]
 unfold rh fh
 cases hasL b (fj f r a b)<;>simp
theorem Bn(f r a b:Int):(rh f r a b).length<=8:=by
 unfold rh fj
 cases hasL b _<;>simp[iM]
theorem yy(f r a b:Int):(fh f r a b).length<=8:=by
 rw[<-mJ,List.length_take]
 have:=Bn f r a b
 simp;omega
def ku:CF
 |[.agg [.int .i64 f,.int .i64 r],.int .i64 a,.int .i64 b],[]=>some (!decide (f=0),.sl 0 0 (fh f r a b).length none,[.ints true .i64 (rh f r a b)])
 |_,_=>none
theorem qM:CtOk (GGx kCa kDb) PP (204,ku):=by
 refine aG Tryz.func204 (by kernel_rfl) rfl fun a0 h0 c0 v0 N0 e hc=>?_
 unfold ku at e
 split at e
 ·rename_i f r a b
  cases e
  have hE:=aF (kCa:=kCa) (kDb:=kDb) (cts:=[(202,wI),(220,oG)]) (inl:=[]) ⟨ru,uP,trivial⟩ trivial
  refine lF hE 2 Tryz.func204 rfl rfl ?_
  have hf:=ER hc
  repeat (first|refine ah ?_|refine sat_nd ?_)
  obtain⟨zs,hzs⟩:∃ zs,bO f r a (bC f a b).1 (bC f a b).2.1=zs:=⟨_,rfl⟩
  have hlen:=iM f r a (bC f a b).1 (bC f a b).2.1
  rw[hzs]at hlen ⊢
  have hZ:fj f r a b=zs:=hzs
  refine bK hE 2 (fun i (_:Unit)=>([(2,I b),(6,.nils),(10,.sl 1 0 zs.length none),(11,I i)],[.cells true [I f,I r],.ints true .i64 zs])) zs.length (fun j _=>hasL b (zs.drop j)=hasL b zs/\(hasL b zs=true->idxL b (zs.drop j)+j=idxL b zs)) () (by omega) (Ent.ren [0,1] [2,6,10,11] rfl rfl rfl) ⟨rfl,fun _=>rfl⟩ ?_
  intro j i _ hij hj hz
  obtain⟨hz1,hz2⟩:=hz
  refine ax (fun hlt=>?_) (fun hlt=>?_)
  ·have hlt':j<zs.length:=by simp at hlt;omega
   rw[BX hlt',show j=i.toNat by omega]at hz1
   rw[Jw hlt',show j=i.toNat by omega]at hz2
   refine ag (by simp;omega) ?_
   repeat (first|refine ah ?_|refine sat_nd ?_)
   refine ax (fun hon=>?_) (fun hon=>?_)
   ·have hon:decide (zs.getD i.toNat 0=b)=true:=hon
    rw[hon]at hz1 hz2
    have hx:hasL b zs=true:=hz1.symm
    have hy:i.toNat=idxL b zs:=by have:=hz2 hx;simpa using this
    refine ag (by simp;omega) ?_
    refine ae (ae (JU (da 1 (.inr rfl) rfl rfl rfl rfl (by simp only[rh,hZ,hx,cond_true];rfl) (by rw[lI,hZ,hx,cond_true,<-hy];rfl))))
   ·have hon:decide (zs.getD i.toNat 0=b)=false:=hon
    rw[hon,Bool.false_or]at hz1
    rw[hon,cond_false]at hz2
    exact ae ⟨hlt',(),⟨by rw[<-hz1,show i.toNat=j by omega],fun h=>by have:=hz2 h;rw[show i.toNat=j by omega]at this;omega⟩,Ent.ren [0,1] [2,6,10,11] rfl rfl rfl⟩
  ·obtain rfl:j=zs.length:=by simp at hlt;omega
   rw[List.drop_length]at hz1
   have hx:hasL b zs=false:=hz1.symm
   refine ae (ae ?_)
   refine El ((Ent.phanT (t:=6) (o:=.ints true .i64 []) rfl ⟨by simp,by simp,trivial,rfl⟩ (aJ rfl))) (da 2 (.inr rfl) rfl rfl rfl rfl (by simp only[rh,hZ,hx,cond_false];rfl) (by rw[lI,hZ,hx];rfl))
 ·cases e
def dm(f r kd a b occ:Int):Bool:=
 bif decide (kd=2)then decide (i64.wrap (i64.wrap (i64.wrap (b.tmod f-a.tmod f)*i64.wrap (b.tmod f-a.tmod f))+i64.wrap (i64.wrap (i64.wrap (b.tdiv f)-i64.wrap (a.tdiv f))*i64.wrap (i64.wrap (b.tdiv f)-i64.wrap (a.tdiv f))))=5)
 else bif decide (kd=6)then decide (tf f a b=1)
 else(bC f a b).2.2&&(decide (kd=5)||((decide (i64.wrap (b.tmod f-a.tmod f)=0)||decide (i64.wrap (i64.wrap (b.tdiv f)-i64.wrap (a.tdiv f))=0))==decide (kd=4)))&&eN occ (fh f r a b)
def lG:CF
 |[.agg [.int .i64 f,.int .i64 r],.int .i8 kd,.int .i64 a,.int .i64 b,.int .u64 occ],[]=>some (!decide (f=0),.bool (dm f r kd a b occ),[])
 |_,_=>none
theorem pX:CtOk (GGx kCa kDb) PP (171,lG):=by
 refine aG Tryz.func171 (by kernel_rfl) rfl fun a0 h0 c0 v0 N0 e hc=>?_
 unfold lG at e
 split at e
 ·rename_i f r kd a b occ
  cases e
  have hE:=aF (kCa:=kCa) (kDb:=kDb) (cts:=[(58,dJ),(201,Ci),(202,wI),(204,ku),(203,zc)]) (inl:=[]) ⟨cj,BH,ru,qM,AV,trivial⟩ trivial
  refine ak hE 2 Tryz.func171 rfl rfl ?_
  have hf:=ER hc
  repeat (first|refine ah ?_|refine sat_nd ?_)
  refine ax (fun h1=>?_) (fun h1=>?_)
  ·repeat (first|refine ah ?_|refine sat_nd ?_)
   exact ae (ai (.inr rfl) rfl rfl rfl (by rw[dm,h1];rfl))
  refine ax (fun h2=>?_) (fun h2=>?_)
  ·repeat (first|refine ah ?_|refine sat_nd ?_)
   exact ae (ai (.inr rfl) rfl rfl rfl (by rw[dm,h1,h2];rfl))
  have ht:=mJ f r a b
  have hl:=yy f r a b
  repeat (first|refine ah ?_|refine sat_nd ?_)
  refine ax (fun h3=>?_) (fun h3=>?_)
  ·repeat (first|refine ah ?_|refine sat_nd ?_)
   refine ag (by rw[ht];simp;omega) ?_
   repeat (first|refine ah ?_|refine sat_nd ?_)
   exact ae (ai (.inr rfl) rfl rfl rfl (by
    show V.bool (eN occ (((rh f r a b).drop 0).take (fh f r a b).length))=_
    rw[ht,dm,h1,h2,cond_false,cond_false,h3];rfl))
  ·repeat (first|refine ah ?_|refine sat_nd ?_)
   exact ae (ai (.inr rfl) rfl rfl rfl (by rw[dm,h1,h2,cond_false,cond_false,h3];rfl))
 ·cases e
end
abbrev px(f n:Int):Int:=n.tmod f
abbrev py(f n:Int):Int:=n.tdiv f
theorem eX{f r n:Int}(h:aA f r n=true):0<=px f n/\px f n<f/\0<=py f n/\py f n<r/\i64.wrap (py f n)=py f n/\3<=f/\f<=8/\3<=r/\r<=8:=by
 obtain⟨b1,b2,b3,b4,b5,_,_⟩:=GI h
 have:=cS (bV h)
 exact⟨b1,b2,b3,b4,b5,this.1,this.2.1,this.2.2.1,this.2.2.2⟩
theorem yw{f r n:Int}(_h:aA f r n=true):px f n+py f n*f=n:=by
 have:=Int.tmod_add_mul_tdiv n f
 rw[Int.mul_comm]at this
 exact this
theorem sN{f X Y x y:Int}(hf:0<f)(h1:0<=X)(h2:X<f)(h3:0<=x)(h4:x<f)(h:X+Y*f=x+y*f):X=x/\Y=y:=by
 have e:(Y-y)*f=x-X:=by rw[Int.sub_mul];omega
 have hz:Y-y=0:=by
  rcases Int.lt_trichotomy (Y-y) 0 with h|h|h
  ·have:(Y-y)*f<=-1*f:=Int.mul_le_mul_of_nonneg_right (by omega) (by omega)
   omega
  ·exact h
  ·have:1*f<=(Y-y)*f:=Int.mul_le_mul_of_nonneg_right (by omega) (by omega)
   omega
 rw[hz,Int.zero_mul]at e
 omega
theorem zN{f r X Y b:Int}(hv:vsB f r=true)(ho:onB f r X Y=true)(hb:aA f r b=true):numR f r X Y=b↔px f b=X/\py f b=Y:=by
 have h:=uu (X:=X) (Y:=Y) hv
 rw[ho]at h
 have hp:=js (of_decide_eq_true h)
 have hx:=rC ho
 have hq:=eX hb
 rw[qR hv ho,hp.2.2.2.2]
 constructor
 ·intro e
  rw[<-yw hb]at e
  have:=sN (by omega) hx.1 hx.2.1 hq.1 hq.2.1 e
  exact⟨this.1.symm,this.2.symm⟩
 ·rintro⟨rfl,rfl⟩;exact yw hb
theorem pR{f r a b:Int}(ha:aA f r a=true)(hb:aA f r b=true):a=b↔px f a=px f b/\py f a=py f b:=by
 constructor
 ·rintro rfl;exact⟨rfl,rfl⟩
 ·rintro⟨h1,h2⟩;rw[<-yw ha,<-yw hb,h1,h2]
def unit(df dr:Int):Prop:=-1<=df/\df<=1/\-1<=dr/\dr<=1/\(df≠0\/dr≠0)
theorem cR{df dr:Int}(h:unit df dr):(df=1/\dr=0)\/(df=0/\dr=1)\/(df=-1/\dr=0)\/(df=0/\dr=-1)\/(df=1/\dr=1)\/(df=-1/\dr=1)\/(df=-1/\dr=-1)\/(df=1/\dr=-1):=by
 obtain⟨h1,h2,h3,h4,h5⟩:=h
 omega
theorem LY{df dr x y:Int}(hu:unit df dr)(hx:0<=x/\x<=7)(hy:0<=y/\y<=7){k:Nat}(hk:k<=9):i64.wrap (x+i64.wrap (k*df))=x+k*df/\i64.wrap (y+i64.wrap (k*dr))=y+k*dr/\i64.wrap ((k:Int)+1)=((k+1:Nat):Int):=by
 rcases cR hu with⟨rfl,rfl⟩|⟨rfl,rfl⟩|⟨rfl,rfl⟩|⟨rfl,rfl⟩|⟨rfl,rfl⟩|⟨rfl,rfl⟩|⟨rfl,rfl⟩|⟨rfl,rfl⟩ <;>
 ·refine⟨?_,?_,?_⟩
  ·rw[aK (n:=(k:Int)*_) (by omega) (by omega),aK (by omega) (by omega)]
  ·rw[aK (n:=(k:Int)*_) (by omega) (by omega),aK (by omega) (by omega)]
  ·rw[aK (by omega) (by omega)];omega
theorem Lg{f r df dr x y b:Int}(hv:vsB f r=true)(hu:unit df dr)(ho:onB f r x y=true)(hb:aA f r b=true):∀ (m k:Nat),m+k=9->1<=k ->
  (hasL b (ey f r df dr x y m k)=true↔∃ i:Nat,k<=i/\i<=8/\px f b=x+i*df/\py f b=y+i*dr):=by
 have hx:=rC ho
 have hq:=eX hb
 intro m
 induction m with
 |zero=>intro k hk h1;simp only[ey,hasL];exact⟨fun h=>(by cases h),fun⟨i,h2,h3,_⟩=>by omega⟩
 |succ m ih=>
  intro k hk h1
  obtain⟨e1,e2,e3⟩:=LY (x:=x) (y:=y) hu ⟨by omega,by omega⟩ ⟨by omega,by omega⟩ (k:=k) (by omega)
  rw[ey,e1,e2,e3,pN hv]
  cases h2:onB f r (x+(k:Int)*df) (y+(k:Int)*dr) with
  |false=>
   simp only[Bool.not_false,cond_true,hasL]
   refine⟨fun h=>(by cases h),fun⟨i,h3,h4,h5,h6⟩=>?_⟩
   have:onB f r (x+(k:Int)*df) (y+(k:Int)*dr)=true:=by
    rcases cR hu with⟨rfl,rfl⟩|⟨rfl,rfl⟩|⟨rfl,rfl⟩|⟨rfl,rfl⟩|⟨rfl,rfl⟩|⟨rfl,rfl⟩|⟨rfl,rfl⟩|⟨rfl,rfl⟩<;>exact qx (by omega) (by omega) (by omega) (by omega)
   rw[h2]at this;cases this
  |true=>
   simp only[Bool.not_true,cond_false,hasL,Bool.or_eq_true,decide_eq_true_eq]
   rw[zN hv h2 hb,ih (k+1) (by omega) (by omega)]
   constructor
   ·rintro(⟨h3,h4⟩|⟨i,h3,h4,h5⟩)
    ·exact⟨k,Nat.le_refl _,by omega,h3,h4⟩
    ·exact⟨i,by omega,h4,h5⟩
   ·rintro⟨i,h3,h4,h5,h6⟩
    rcases Nat.lt_or_ge k i with h|h
    ·exact .inr ⟨i,h,h4,h5,h6⟩
    ·obtain rfl:i=k:=by omega
     exact .inl ⟨h5,h6⟩
theorem IS{df dr:Int}(hu:unit df dr):(decide (df=0)&&decide (dr=0))=false:=by
 obtain⟨_,_,_,_,h⟩:=hu
 simp only[Bool.and_eq_false_iff,decide_eq_false_iff_not];exact h
theorem Lx{f r a df dr:Int}(ha:aA f r a=true)(hu:unit df dr):bO f r a df dr=ey f r df dr (px f a) (py f a) 8 ((1:Nat):Int):=by
 have hp:=eX ha
 simp[bO,ha,IS hu,hp.2.2.2.2.1]
theorem Dk{f r a b df dr:Int}(ha:aA f r a=true)(hb:aA f r b=true)(hu:unit df dr) :
  hasL b (bO f r a df dr)=true↔∃ i:Nat,1<=i/\i<=8/\px f b=px f a+i*df/\py f b=py f a+i*dr:=by
 have hp:=eX ha
 rw[Lx ha hu]
 exact Lg (bV ha) hu (qx hp.1 hp.2.1 hp.2.2.1 hp.2.2.2.1) hb 8 1 rfl (Nat.le_refl _)
theorem gz(n:Int):(n<0/\sgn n=-1)\/(n=0/\sgn n=0)\/(0<n/\sgn n=1):=by
 unfold sgn
 rcases Int.lt_trichotomy n 0 with h|h|h
 ·left;simp[h]
 ·right;left;simp[h]
 ·right;right
  have:¬ n<0:=by omega
  simp[h,this]
theorem jh{f r a b:Int}(ha:aA f r a=true)(hb:aA f r b=true):i64.wrap (b.tmod f-a.tmod f)=px f b-px f a/\i64.wrap (i64.wrap (b.tdiv f)-i64.wrap (a.tdiv f))=py f b-py f a:=by
 have hp:=eX ha
 have hq:=eX hb
 show i64.wrap (px f b-px f a)=_/\i64.wrap (i64.wrap (py f b)-i64.wrap (py f a))=_
 rw[hp.2.2.2.2.1,hq.2.2.2.2.1]
 exact⟨aK (by omega) (by omega),aK (by omega) (by omega)⟩
def lO(x y:Int):Prop:=(x≠0\/y≠0)/\(x=0\/y=0\/x=y\/x=-y)
theorem EG{f r a b:Int}(ha:aA f r a=true)(hb:aA f r b=true):xK f a b=false↔lO (px f b-px f a) (py f b-py f a):=by
 have hp:=eX ha
 have hq:=eX hb
 obtain⟨e1,e2⟩:=jh ha hb
 unfold xK
 rw[e1,e2,aK (by omega) (by omega)]
 simp only[Bool.or_eq_false_iff,Bool.and_eq_false_iff,decide_eq_false_iff_not,Bool.not_eq_false',decide_eq_true_eq]
 rw[pR ha hb]
 unfold lO
 omega
theorem wT{f r a b:Int}(ha:aA f r a=true)(hb:aA f r b=true):(bC f a b=(0,0,false)/\¬ lO (px f b-px f a) (py f b-py f a))\/(bC f a b=(sgn (px f b-px f a),sgn (py f b-py f a),true)/\lO (px f b-px f a) (py f b-py f a)):=by
 obtain⟨e1,e2⟩:=jh ha hb
 have h:=EG ha hb
 unfold bC
 rw[e1,e2]
 cases hl:xK f a b with
 |true=>left;rw[hl]at h;exact⟨rfl,fun h2=>by have:=h.2 h2;cases this⟩
 |false=>right;exact⟨rfl,h.1 hl⟩
theorem wH{x y:Int}(h:lO x y):unit (sgn x) (sgn y):=by
 obtain⟨h1,_⟩:=h
 unfold unit
 have:=gz x
 have:=gz y
 omega
theorem vI{f r a b:Int}(ha:aA f r a=true)(hb:aA f r b=true)(h:(bC f a b).2.2=true):unit (bC f a b).1 (bC f a b).2.1/\hasL b (fj f r a b)=true:=by
 have hp:=eX ha
 have hq:=eX hb
 rcases wT ha hb with⟨e,_⟩|⟨e,h2⟩
 ·rw[e]at h;cases h
 ·rw[e]
  refine⟨wH h2,?_⟩
  unfold fj
  rw[e]
  rw[Dk ha hb (wH h2)]
  obtain⟨h3,h4⟩:=h2
  have s1:=gz (px f b-px f a)
  have s2:=gz (py f b-py f a)
  rcases s1 with⟨g1,s1⟩|⟨g1,s1⟩|⟨g1,s1⟩<;>rcases s2 with⟨g2,s2⟩|⟨g2,s2⟩|⟨g2,s2⟩<;>simp only[s1,s2] <;>
  first
   | (exfalso;omega)
   |exact⟨(px f b-px f a).natAbs,by omega,by omega,by omega,by omega⟩
   |exact⟨(py f b-py f a).natAbs,by omega,by omega,by omega,by omega⟩
theorem Gk{f r a b df dr:Int}(ha:aA f r a=true)(hb:aA f r b=true)(hu:unit df dr)(h:hasL b (bO f r a df dr)=true):bC f a b=(df,dr,true):=by
 have hp:=eX ha
 have hq:=eX hb
 obtain⟨i,h1,h2,h3,h4⟩:=(Dk ha hb hu).1 h
 have s1:=gz (px f b-px f a)
 have s2:=gz (py f b-py f a)
 rcases wT ha hb with⟨e,h5⟩|⟨e,_⟩
 ·exfalso
  apply h5
  unfold lO
  rcases cR hu with⟨rfl,rfl⟩|⟨rfl,rfl⟩|⟨rfl,rfl⟩|⟨rfl,rfl⟩|⟨rfl,rfl⟩|⟨rfl,rfl⟩|⟨rfl,rfl⟩|⟨rfl,rfl⟩<;>omega
 ·rw[e]
  have e1:sgn (px f b-px f a)=df:=by rcases cR hu with⟨rfl,rfl⟩|⟨rfl,rfl⟩|⟨rfl,rfl⟩|⟨rfl,rfl⟩|⟨rfl,rfl⟩|⟨rfl,rfl⟩|⟨rfl,rfl⟩|⟨rfl,rfl⟩<;>omega
  have e2:sgn (py f b-py f a)=dr:=by rcases cR hu with⟨rfl,rfl⟩|⟨rfl,rfl⟩|⟨rfl,rfl⟩|⟨rfl,rfl⟩|⟨rfl,rfl⟩|⟨rfl,rfl⟩|⟨rfl,rfl⟩|⟨rfl,rfl⟩<;>omega
  rw[e1,e2]
theorem nW{f r X Y:Int}(hv:vsB f r=true)(ho:onB f r X Y=true):aA f r (X+Y*f)=true/\px f (X+Y*f)=X/\py f (X+Y*f)=Y:=by
 have hb:=cS hv
 have hx:=rC ho
 have hm:=bF hv
 have e1:0<=Y*f:=Int.mul_nonneg hx.2.2.1 (by omega)
 have e2:(Y+1)*f<=r*f:=Int.mul_le_mul_of_nonneg_right (by omega) (by omega)
 rw[Int.add_mul,Int.mul_comm r f]at e2
 have hval:aA f r (X+Y*f)=true:=by
  simp only[aA,Bool.and_eq_true,decide_eq_true_eq]
  rw[ee hv]
  exact⟨⟨hv,by omega⟩,by omega⟩
 have hq:=eX hval
 have:=sN (f:=f) (by omega) hx.1 hx.2.1 hq.1 hq.2.1 (yw hval).symm
 exact⟨hval,this.1.symm,this.2.symm⟩
theorem bT{f r n:Int}(h:aA f r n=true):0<=n/\n<f*r/\n<64:=by
 have hm:=bF (bV h)
 simp only[aA,Bool.and_eq_true,decide_eq_true_eq]at h
 rw[ee h.1.1]at h
 exact⟨h.1.2,h.2,by omega⟩
theorem pH{f r n:Int}(hv:vsB f r=true)(h1:0<=n)(h2:n<f*r):aA f r n=true:=by
 simp only[aA,Bool.and_eq_true,decide_eq_true_eq]
 rw[ee hv]
 exact⟨⟨hv,h1⟩,h2⟩
theorem GK{s n:Int}(hs:Uk s):hasB s n=(decide (0<=n)&&decide (n<64)&&bt s n.toNat):=by
 unfold hasB
 by_cases h1:0<=n
 ·by_cases h2:n<64
  ·simp only[h1,h2,decide_true,Bool.true_and]
   rw[BT hs h1 h2]
   unfold bt
   have:(((s.toNat >>> n.toNat:Nat):Int).tmod 2)=((s.toNat >>> n.toNat%2:Nat):Int):=by
    rw[Int.tmod_eq_emod_of_nonneg (Int.natCast_nonneg _)];norm_cast
   rw[this]
   have h3:s.toNat.testBit n.toNat=(s.toNat >>> n.toNat).testBit 0:=by rw[Nat.testBit_shiftRight,Nat.add_zero]
   rw[h3,Nat.testBit_zero]
   congr 1
   exact propext ⟨fun h=>by omega,fun h=>by omega⟩
  ·simp[h2]
 ·simp[h1]
theorem Kt{f r s n:Int}(hs:Uk s)(hn:aA f r n=true):hasB s n=bt s n.toNat:=by
 have:=bT hn
 rw[GK hs];simp[this.1,this.2.2]
theorem gY{f r a df dr x:Int}(ha:aA f r a=true)(h:x∈bO f r a df dr):aA f r x=true:=by
 have hv:=bV ha
 have key:∀ (m:Nat) (k:Int),x∈ey f r df dr (a.tmod f) (i64.wrap (a.tdiv f)) m k->aA f r x=true:=by
  intro m
  induction m with
  |zero=>intro k h;simp[ey]at h
  |succ m ih=>
   intro k h
   rw[ey,pN hv]at h
   cases h2:onB f r (i64.wrap (a.tmod f+i64.wrap (k*df))) (i64.wrap (i64.wrap (a.tdiv f)+i64.wrap (k*dr))) with
   |false=>rw[h2]at h;simp at h
   |true=>
    rw[h2]at h
    simp only[Bool.not_true,cond_false,List.mem_cons]at h
    rcases h with rfl|h
    ·have h3:=uu (X:=i64.wrap (a.tmod f+i64.wrap (k*df))) (Y:=i64.wrap (i64.wrap (a.tdiv f)+i64.wrap (k*dr))) hv
     rw[h2]at h3
     have hp:=js (of_decide_eq_true h3)
     rw[qR hv h2,hp.2.2.2.2]
     exact(nW hv h2).1
    ·exact ih _ h
 unfold bO at h
 cases hc:(!aA f r a||(decide (df=0)&&decide (dr=0))) with
 |true=>rw[hc]at h;simp at h
 |false=>rw[hc,cond_false]at h;exact key _ _ h
def OnS(f r s:Int):Prop:=∀ m,m<64->bt s m=true->aA f r m=true
theorem sr{α:Type}(step:Int->α->Int)(p:α->Nat->Bool):∀ (rs:List α) (s:Int),(∀ s row,row∈rs->Uk s->Uk (step s row)/\∀ m,bt (step s row) m=(bt s m||p row m))->Uk s->Uk (rs.foldl step s)/\∀ m,bt (rs.foldl step s) m=(bt s m||rs.any (p · m))
 |[],s,_,hs=>⟨hs,fun m=>by simp⟩
 |row::rs,s,h,hs=>by
  obtain⟨h1,h2⟩:=h s row (by simp) hs
  obtain⟨h3,h4⟩:=sr step p rs (step s row) (fun s r hr=>h s r (by simp[hr])) h1
  refine⟨h3,fun m=>?_⟩
  rw[List.foldl_cons,h4,h2,List.any_cons,Bool.or_assoc]
def jB(f r a:Int)(row:List Int)(m:Nat):Bool:=aA f r m&&decide (px f m-px f a=row.getD 0 0)&&decide (py f m-py f a=row.getD 1 0)
theorem pF{f r a:Int}(ha:aA f r a=true)(rs:List (List Int))(hrs:∀ row∈rs,-8<=row.getD 0 0/\row.getD 0 0<=8/\-8<=row.getD 1 0/\row.getD 1 0<=8):Uk (fU f r a rs)/\∀ m,bt (fU f r a rs) m=rs.any (jB f r a · m):=by
 have hv:=bV ha
 have hp:=eX ha
 have hpl:(aV f r a).1=px f a/\(aV f r a).2.1=py f a:=by simp only[aV,ha,cond_true];exact⟨by first|rfl|trivial,hp.2.2.2.2.1⟩
 have h:=sr (eO f r (aV f r a).1 (aV f r a).2.1) (jB f r a) rs 0 ?_ uk_0
 ·refine⟨h.1,fun m=>?_⟩
  unfold fU
  rw[h.2,bt_0,Bool.false_or]
 ·intro s row hrow hs
  have hb:=hrs row hrow
  unfold eO pU
  rw[hpl.1,hpl.2,aK (n:=px f a+_) (by omega) (by omega),aK (n:=py f a+_) (by omega) (by omega),uu hv]
  cases ho:onB f r (px f a+row.getD 0 0) (py f a+row.getD 1 0) with
  |false=>
   refine⟨hs,fun m=>?_⟩
   rw[cond_false]
   have:jB f r a row m=false:=by
    cases hl:jB f r a row m with
    |false=>rfl
    |true=>
     simp only[jB,Bool.and_eq_true,decide_eq_true_eq]at hl
     have hq:=eX hl.1.1
     have:onB f r (px f a+row.getD 0 0) (py f a+row.getD 1 0)=true:=qx (by omega) (by omega) (by omega) (by omega)
     rw[ho]at this;cases this
   rw[this,Bool.or_false]
  |true=>
   rw[cond_true]
   have h3:=uu (X:=px f a+row.getD 0 0) (Y:=py f a+row.getD 1 0) hv
   rw[ho]at h3
   have hq:=js (of_decide_eq_true h3)
   obtain⟨v1,v2,v3⟩:=nW hv ho
   rw[<-hq.2.2.2.2]at v1 v2 v3
   generalize (atR f r (px f a+row.getD 0 0) (py f a+row.getD 1 0)).1=x at *
   refine⟨pJ _ _,fun m=>?_⟩
   rw[kJ hs (lB _ _),mb hq.1 hq.2.1]
   congr 1
   unfold jB
   by_cases e:x=(m:Int)
   ·subst e
    simp only[v1,decide_true,Bool.true_and]
    rw[v2,v3];simp;omega
   ·simp only[e,decide_false]
    symm
    cases hl:(aA f r m&&decide (px f m-px f a=row.getD 0 0)&&decide (py f m-py f a=row.getD 1 0)) with
    |false=>rfl
    |true=>
     simp only[Bool.and_eq_true,decide_eq_true_eq]at hl
     exact absurd ((pR v1 hl.1.1).2 ⟨by omega,by omega⟩) e
def hitB(occ:Int)(m:Int):List Int->Bool
 |[]=>false
 |x::l=>decide (x=m)||(!bt occ x.toNat&&hitB occ m l)
theorem mQ{occ:Int}(ho:Uk occ):∀ (L:List Int) (s:Int),(∀ x∈L,0<=x/\x<64)->Uk s->Uk (cQ occ L s)/\∀ m:Nat,bt (cQ occ L s) m=(bt s m||hitB occ m L)
 |[],s,_,hs=>⟨hs,fun m=>by simp[cQ,hitB]⟩
 |x::L,s,hL,hs=>by
  have hx:=hL x (by simp)
  unfold cQ
  rw[vv ho hx.1 hx.2]
  cases hb:bt occ x.toNat with
  |true=>
   refine⟨pJ _ _,fun m=>?_⟩
   rw[cond_true,kJ hs (lB _ _),mb hx.1 hx.2]
   simp[hitB,hb]
  |false=>
   obtain⟨h1,h2⟩:=mQ ho L (uor s (ushl 1 x)) (fun y hy=>hL y (by simp[hy])) (pJ _ _)
   refine⟨h1,fun m=>?_⟩
   rw[cond_false,h2,kJ hs (lB _ _),mb hx.1 hx.2]
   simp[hitB,hb,Bool.or_assoc]
theorem AM{occ m:Int}:∀ {L:List Int},hitB occ m L=true->hasL m L=true
 |x::L,h=>by
  simp only[hitB,Bool.or_eq_true,Bool.and_eq_true,decide_eq_true_eq]at h
  simp only[hasL,Bool.or_eq_true,decide_eq_true_eq]
  exact h.imp id fun h=>AM h.2
theorem vr{f r occ m:Int}(ho:Uk occ):∀ (L:List Int),(∀ x∈L,aA f r x=true)->hitB occ m L=(hasL m L&&eN occ (L.take (idxL m L)))
 |[],_=>rfl
 |x::L,hL=>by
  have ih:=vr (m:=m) ho L fun y hy=>hL y (by simp[hy])
  have hx:=Kt ho (hL x (by simp))
  by_cases e:x=m
  ·simp[hitB,hasL,idxL,e,eN]
  ·simp only[hitB,hasL,idxL,e,decide_false,Bool.false_or,cond_false,List.take_succ_cons,eN,hx,ih]
   cases bt occ x.toNat<;>simp
def jc(f r a occ:Int)(row:List Int)(m:Nat):Bool:=hitB occ m (bO f r a (row.getD 0 0) (row.getD 1 0))
theorem JL{df dr:Int}(h:unit df dr):inR df dr=true:=by
 obtain⟨h1,h2,h3,h4,_⟩:=h
 simp only[inR,Bool.and_eq_true,decide_eq_true_eq];omega
theorem wo{f r a occ:Int}(ha:aA f r a=true)(ho:Uk occ)(rs:List (List Int))(hrs:∀ row∈rs,unit (row.getD 0 0) (row.getD 1 0)):Uk (cN f r a occ rs)/\∀ m,bt (cN f r a occ rs) m=rs.any (jc f r a occ · m):=by
 have h:=sr (dA f r a occ) (jc f r a occ) rs 0 ?_ uk_0
 ·refine⟨h.1,fun m=>?_⟩
  unfold cN
  rw[h.2,bt_0,Bool.false_or]
 ·intro s row hrow hs
  unfold dA jc
  rw[KR,JL (hrs row hrow),cond_true]
  exact mQ ho _ s (fun x hx=>⟨(bT (gY ha hx)).1,(bT (gY ha hx)).2.2⟩) hs
theorem Am{m:Int}{L:List Int}:hasL m L=true↔m∈L:=by
 induction L with
 |nil=>simp[hasL]
 |cons x L ih=>simp only[hasL,Bool.or_eq_true,decide_eq_true_eq,ih,List.mem_cons];exact⟨fun h=>h.imp Eq.symm id,fun h=>h.imp Eq.symm id⟩
theorem wj(P:Int->Int->Bool)(h:∀ i j:_root_.Fin 15,P ((i.val:Int)-7) ((j.val:Int)-7)=true){x y:Int}(hx:-7<=x/\x<=7)(hy:-7<=y/\y<=7):P x y=true:=by
 have:=h ⟨(x+7).toNat,by omega⟩ ⟨(y+7).toNat,by omega⟩
 simp only at this
 rw[show (((x+7).toNat:Int)-7)=x by omega,show (((y+7).toNat:Int)-7)=y by omega]at this
 exact this
def eT(rs:List (List Int))(x y:Int):Bool:=rs.any fun row=>decide (x=row.getD 0 0)&&decide (y=row.getD 1 0)
theorem jE{f r a b:Int}(hb:aA f r b=true)(rs:List (List Int)):rs.any (jB f r a · b.toNat)=eT rs (px f b-px f a) (py f b-py f a):=by
 have:=bT hb
 unfold eT jB
 rw[show ((b.toNat:Nat):Int)=b by omega,hb]
 rfl
theorem nQ{f r a b:Int}(ha:aA f r a=true)(hb:aA f r b=true):(-7<=px f b-px f a/\px f b-px f a<=7)/\(-7<=py f b-py f a/\py f b-py f a<=7):=by
 have:=eX ha
 have:=eX hb
 omega
def Aj(x y:Int):Bool:=eT fX x y==decide (i64.wrap (i64.wrap (x*x)+i64.wrap (y*y))=5)
theorem xT:∀ i j:_root_.Fin 15,Aj ((i.val:Int)-7) ((j.val:Int)-7)=true:=by decide +kernel
def Ia(x y:Int):Int:=bif decide (absI (i64.wrap (0-y))<absI (i64.wrap (0-x)))then absI (i64.wrap (0-x))else absI (i64.wrap (0-y))
def Lo(x y:Int):Bool:=(eT eD x y||eT eA x y)==decide (Ia x y=1)
theorem Fy:∀ i j:_root_.Fin 15,Lo ((i.val:Int)-7) ((j.val:Int)-7)=true:=by decide +kernel
theorem Hi{f r a b:Int}(ha:aA f r a=true)(hb:aA f r b=true):tf f a b=Ia (px f b-px f a) (py f b-py f a):=by
 obtain⟨e1,e2⟩:=jh hb ha
 have h:=nQ ha hb
 unfold tf Ia
 rw[e1,e2,aK (n:=0-(px f b-px f a)) (by omega) (by omega),aK (n:=0-(py f b-py f a)) (by omega) (by omega)]
 rw[show 0-(px f b-px f a)=px f a-px f b by omega,show 0-(py f b-py f a)=py f a-py f b by omega]
theorem gv{f r a b occ:Int}(ha:aA f r a=true)(hb:aA f r b=true)(ho:Uk occ)(rs:List (List Int))(hrs:∀ row∈rs,unit (row.getD 0 0) (row.getD 1 0)) :
  rs.any (jc f r a occ · b.toNat)=((bC f a b).2.2&&eT rs (bC f a b).1 (bC f a b).2.1&&eN occ (fh f r a b)):=by
 have hl:=bT hb
 have pt:∀ row∈rs,jc f r a occ row b.toNat=((bC f a b).2.2&&(decide ((bC f a b).1=row.getD 0 0)&&decide ((bC f a b).2.1=row.getD 1 0))&&eN occ (fh f r a b)):=by
  intro row hrow
  have hu:=hrs row hrow
  unfold jc
  rw[show ((b.toNat:Nat):Int)=b by omega,vr (f:=f) (r:=r) ho _ (fun x hx=>gY ha hx)]
  cases hh:hasL b (bO f r a (row.getD 0 0) (row.getD 1 0)) with
  |true=>
   have e:=Gk ha hb hu hh
   have hz:fj f r a b=bO f r a (row.getD 0 0) (row.getD 1 0):=by rw[fj,e]
   unfold fh
   rw[hz,hh,e];simp
  |false=>
   rw[Bool.false_and]
   symm
   cases h2:(bC f a b).2.2 with
   |false=>rfl
   |true=>
    obtain⟨_,h3⟩:=vI ha hb h2
    by_cases e:(bC f a b).1=row.getD 0 0/\(bC f a b).2.1=row.getD 1 0
    ·rw[fj,e.1,e.2,hh]at h3;cases h3
    ·simp only[Bool.true_and]
     rw[show (decide ((bC f a b).1=row.getD 0 0)&&decide ((bC f a b).2.1=row.getD 1 0))=false by simp only[Bool.and_eq_false_iff,decide_eq_false_iff_not];omega]
     rfl
 have gen:∀ l:List (List Int),(∀ row∈l,row∈rs)->l.any (jc f r a occ · b.toNat)=((bC f a b).2.2&&eT l (bC f a b).1 (bC f a b).2.1&&eN occ (fh f r a b)):=by
  intro l
  induction l with
  |nil=>intro _;simp[eT]
  |cons row l ih=>
   intro h
   rw[List.any_cons,ih (fun x hx=>h x (by simp[hx])),pt row (h row (by simp))]
   unfold eT
   rw[List.any_cons]
   cases(bC f a b).2.2<;>cases(decide ((bC f a b).1=row.getD 0 0)&&decide ((bC f a b).2.1=row.getD 1 0))<;>cases eN occ (fh f r a b)<;>simp
 exact gen rs fun _ h=>h
theorem Gz:∀ row∈fX,-8<=row.getD 0 0/\row.getD 0 0<=8/\-8<=row.getD 1 0/\row.getD 1 0<=8:=by decide
theorem gG:∀ row∈eD,unit (row.getD 0 0) (row.getD 1 0):=by unfold unit;decide
theorem gE:∀ row∈eA,unit (row.getD 0 0) (row.getD 1 0):=by unfold unit;decide
theorem Dc{rs:List (List Int)}(h:∀ row∈rs,unit (row.getD 0 0) (row.getD 1 0)):∀ row∈rs,-8<=row.getD 0 0/\row.getD 0 0<=8/\-8<=row.getD 1 0/\row.getD 1 0<=8:=fun row hr=>by
 obtain⟨h1,h2,h3,h4,_⟩:=h row hr
 omega
theorem gP{x y:Int}(h:unit x y):eT eD x y=!(decide (x=0)||decide (y=0))/\eT eA x y=(decide (x=0)||decide (y=0)):=by
 rcases cR h with⟨rfl,rfl⟩|⟨rfl,rfl⟩|⟨rfl,rfl⟩|⟨rfl,rfl⟩|⟨rfl,rfl⟩|⟨rfl,rfl⟩|⟨rfl,rfl⟩|⟨rfl,rfl⟩<;>decide
theorem MN(n:Int):decide (sgn n=0)=decide (n=0):=by
 have:=gz n
 congr 1
 exact propext ⟨fun h=>by omega,fun h=>by omega⟩
def mY(f r kd a occ:Int):Int:=(ez f r kd a occ).1
def rP(kd:Int):Prop:=kd=2\/kd=3\/kd=4\/kd=5\/kd=6
theorem Em{f r kd a occ:Int}(h:mq f r a occ=true)(hk:rP kd):(ez f r kd a occ).2=0/\mY f r kd a occ=bif decide (kd=2)then fU f r a fX else bif decide (kd=3)then cN f r a occ eD else bif decide (kd=4)then cN f r a occ eA
     else bif decide (kd=5)then uor (cN f r a occ eD) (cN f r a occ eA)else uor (fU f r a eD) (fU f r a eA):=by
 unfold mY ez
 rw[h,cond_true]
 rcases hk with rfl|rfl|rfl|rfl|rfl<;>exact⟨rfl,rfl⟩
theorem Gu{f r kd a occ:Int}(h:mq f r a occ=true)(ho:Uk occ)(hk:rP kd):Uk (mY f r kd a occ)/\OnS f r (mY f r kd a occ)/\∀ b,aA f r b=true->bt (mY f r kd a occ) b.toNat=dm f r kd a b occ:=by
 have ha:aA f r a=true:=by simp only[mq,Bool.and_eq_true]at h;exact h.1
 have L1:=pF ha fX Gz
 have L2:=pF ha eD (Dc gG)
 have L3:=pF ha eA (Dc gE)
 have S1:=wo ha ho eD gG
 have S2:=wo ha ho eA gE
 have onl:∀ (rs:List (List Int)) (m:Nat),rs.any (jB f r a · m)=true->aA f r m=true:=by
  intro rs m h
  obtain⟨row,_,h2⟩:=List.any_eq_true.1 h
  simp only[jB,Bool.and_eq_true]at h2
  exact h2.1.1
 have ons:∀ (rs:List (List Int)) (m:Nat),rs.any (jc f r a occ · m)=true->aA f r m=true:=by
  intro rs m h
  obtain⟨row,_,h2⟩:=List.any_eq_true.1 h
  exact gY ha (Am.1 (AM h2))
 obtain⟨_,hS⟩:=Em h hk
 rw[hS]
 have key:∀ b,aA f r b=true->(bC f a b).2.2=true->unit (bC f a b).1 (bC f a b).2.1/\(decide (i64.wrap (b.tmod f-a.tmod f)=0)||decide (i64.wrap (i64.wrap (b.tdiv f)-i64.wrap (a.tdiv f))=0))=(decide ((bC f a b).1=0)||decide ((bC f a b).2.1=0)):=by
  intro b hb hl
  obtain⟨e1,e2⟩:=jh ha hb
  refine⟨(vI ha hb hl).1,?_⟩
  rcases wT ha hb with⟨e,_⟩|⟨e,_⟩
  ·rw[e]at hl;cases hl
  ·rw[e1,e2,e]
   simp only[MN]
 rcases hk with rfl|rfl|rfl|rfl|rfl
 ·refine⟨L1.1,fun m _ hm=>onl _ _ ((L1.2 m).symm.trans hm),fun b hb=>?_⟩
  obtain⟨e1,e2⟩:=jh ha hb
  have hd:=nQ ha hb
  have hp:=wj Aj xT hd.1 hd.2
  show bt (fU f r a fX) b.toNat=decide (_=5)
  rw[L1.2,jE hb,e1,e2]
  exact eq_of_beq hp
 ·refine⟨S1.1,fun m _ hm=>ons _ _ ((S1.2 m).symm.trans hm),fun b hb=>?_⟩
  show bt (cN f r a occ eD) b.toNat=((bC f a b).2.2&&(false||((decide (i64.wrap (b.tmod f-a.tmod f)=0)||decide (i64.wrap (i64.wrap (b.tdiv f)-i64.wrap (a.tdiv f))=0))==false))&&eN occ (fh f r a b))
  rw[S1.2,gv ha hb ho _ gG]
  cases hl:(bC f a b).2.2 with
  |false=>simp
  |true=>obtain⟨k1,k2⟩:=key b hb hl;rw[k2,(gP k1).1];simp
 ·refine⟨S2.1,fun m _ hm=>ons _ _ ((S2.2 m).symm.trans hm),fun b hb=>?_⟩
  show bt (cN f r a occ eA) b.toNat=((bC f a b).2.2&&(false||((decide (i64.wrap (b.tmod f-a.tmod f)=0)||decide (i64.wrap (i64.wrap (b.tdiv f)-i64.wrap (a.tdiv f))=0))==true))&&eN occ (fh f r a b))
  rw[S2.2,gv ha hb ho _ gE]
  cases hl:(bC f a b).2.2 with
  |false=>simp
  |true=>obtain⟨k1,k2⟩:=key b hb hl;rw[k2,(gP k1).2];simp
 ·refine⟨pJ _ _,fun m _ hm=>?_,fun b hb=>?_⟩
  ·have hm:bt (uor (cN f r a occ eD) (cN f r a occ eA)) m=true:=hm
   rw[kJ S1.1 S2.1,Bool.or_eq_true]at hm
   exact hm.elim (fun hm=>ons _ _ ((S1.2 m).symm.trans hm)) (fun hm=>ons _ _ ((S2.2 m).symm.trans hm))
  ·show bt (uor (cN f r a occ eD) (cN f r a occ eA)) b.toNat=((bC f a b).2.2&&(true||_)&&eN occ (fh f r a b))
   rw[kJ S1.1 S2.1,S1.2,S2.2,gv ha hb ho _ gG,gv ha hb ho _ gE]
   cases hl:(bC f a b).2.2 with
   |false=>simp
   |true=>
    obtain⟨k1,k2⟩:=key b hb hl
    rw[(gP k1).1,(gP k1).2]
    cases(decide ((bC f a b).1=0)||decide ((bC f a b).2.1=0))<;>simp
 ·refine⟨pJ _ _,fun m _ hm=>?_,fun b hb=>?_⟩
  ·have hm:bt (uor (fU f r a eD) (fU f r a eA)) m=true:=hm
   rw[kJ L2.1 L3.1,Bool.or_eq_true]at hm
   exact hm.elim (fun hm=>onl _ _ ((L2.2 m).symm.trans hm)) (fun hm=>onl _ _ ((L3.2 m).symm.trans hm))
  ·have hd:=nQ ha hb
   have hp:=wj Lo Fy hd.1 hd.2
   show bt (uor (fU f r a eD) (fU f r a eA)) b.toNat=decide (tf f a b=1)
   rw[kJ L2.1 L3.1,L2.2,L3.2,jE hb,jE hb,Hi ha hb]
   exact eq_of_beq hp
end Go.Ab
namespace Go.Ab
open Go.Proofs
theorem GQ{s x:Int}(hs:Uk s)(h1:0<=x)(h2:x<64)(hb:bt s x.toNat=false):IntKind.u64.wrap (s+ushl 1 x)=uor s (ushl 1 x):=by
 have hk:=lB 1 x
 rw[oa,Cd]
 have hz:BitVec.ofInt 64 s &&& BitVec.ofInt 64 (ushl 1 x)=0#64:=by
  apply BitVec.eq_of_toNat_eq
  rw[BitVec.toNat_and,mo hs,mo hk]
  apply Nat.eq_of_testBit_eq
  intro i
  rw[Nat.testBit_and]
  have h3:=mb h1 h2 i
  unfold bt at h3 hb
  rw[h3]
  by_cases e:x=(i:Int)
  ·subst e;rw[Int.toNat_natCast]at hb;simp[hb]
  ·simp[e]
 rw[<-BitVec.add_eq_or_of_and_eq_zero _ _ hz,BitVec.toNat_add,mo hs,mo hk]
 have h4:=hs.1
 have h5:=hk.1
 generalize ushl 1 x=y at *
 show (s+y)%18446744073709551616=(((s.toNat+y.toNat)%18446744073709551616:Nat):Int)
 omega
theorem Di:∀ (l:List Int) (s:Int),(∀ x∈l,0<=x/\x<64)->Uk s->Uk (ofL l s)/\∀ m:Nat,bt (ofL l s) m=(bt s m||decide ((m:Int)∈l))
 |[],s,_,hs=>⟨hs,fun m=>by simp[ofL]⟩
 |x::l,s,hl,hs=>by
  have hx:=hl x (by simp)
  rw[ofL]
  have hh:=GK (n:=x) hs
  simp only[hx.1,hx.2,decide_true,Bool.true_and]at hh
  cases hb:bt s x.toNat with
  |true=>
   obtain⟨h1,h2⟩:=Di l s (fun y hy=>hl y (by simp[hy])) hs
   rw[hh,hb,cond_true]
   refine⟨h1,fun m=>?_⟩
   rw[h2]
   by_cases e:(m:Int)=x
   ·subst e;rw[Int.toNat_natCast]at hb;simp[hb]
   ·simp[e]
  |false=>
   rw[hh,hb,cond_false,GQ hs hx.1 hx.2 hb]
   obtain⟨h1,h2⟩:=Di l (uor s (ushl 1 x)) (fun y hy=>hl y (by simp[hy])) (pJ _ _)
   refine⟨h1,fun m=>?_⟩
   rw[h2,kJ hs (lB _ _),mb hx.1 hx.2,Bool.or_assoc]
   congr 1
   by_cases e:(m:Int)=x
   ·simp[e]
   ·have e':¬ x=(m:Int):=fun h=>e h.symm
    simp[e,e']
theorem Hs{f r:Int}(hv:vsB f r=true):Uk (allU f r)/\∀ m:Nat,bt (allU f r) m=decide ((m:Int)<f*r):=by
 have hm:=bF hv
 unfold allU
 rw[ee hv,aK (by omega) (by omega)]
 have hk:Uk 18446744073709551615:=⟨by decide,by decide⟩
 refine⟨He hk (by omega) (by omega),fun m=>?_⟩
 rw[GJ hk (by omega) (by omega)]
 unfold bt
 rw[show (18446744073709551615:Int).toNat=2^64-1 by decide,Nat.testBit_two_pow_sub_one]
 congr 1
 exact propext ⟨fun h=>by omega,fun h=>by omega⟩
theorem zT{f r s:Int}(hv:vsB f r=true)(hs:Uk s):qG s (allU f r)=0↔OnS f r s:=by
 obtain⟨h1,h2⟩:=Hs hv
 rw[tP (yW _ _)]
 constructor
 ·intro h m hm hb
  have:=h m hm
  rw[nE hs h1,hb,h2]at this
  simp at this
  exact pH hv (by omega) this
 ·intro h m hm
  rw[nE hs h1,h2]
  cases hb:bt s m with
  |false=>rfl
  |true=>have:=bT (h m hm hb);simp;omega
theorem Dt{f r a s:Int}(hs:Uk s):mq f r a s=true↔aA f r a=true/\OnS f r s:=by
 unfold mq
 rw[Bool.and_eq_true,decide_eq_true_eq]
 exact⟨fun h=>⟨h.1,(zT (bV h.1) hs).1 h.2⟩,fun h=>⟨h.1,(zT (bV h.1) hs).2 h.2⟩⟩
end Go.Ab
namespace Go.Ab
open IntKind
open Go.Proofs
section
variable{kCa kDb:Bool}
def kr(f:Int)(bl:Bool)(a b:Int):Bool:=decide (i64.wrap (i64.wrap (b.tdiv f)-i64.wrap (a.tdiv f))=fwd bl)&&(decide (i64.wrap (b.tmod f-a.tmod f)=1)||decide (i64.wrap (a.tmod f-b.tmod f)=1))
def kn:CF
 |[.agg [.int .i64 f,.int .i64 r],.bool bl,.int .i64 a],[]=>some (vsB f r,.sl 0 0 (dc (kr f bl a) id ((f*r).toNat)).length none,[.ints true .i64 (dc (kr f bl a) id ((f*r).toNat))])
 |_,_=>none
theorem qn:CtOk (GGx kCa kDb) PP (170,kn):=by
 refine aG Tryz.func170 (by kernel_rfl) rfl fun a0 h0 c0 v0 N0 e hc=>?_
 unfold kn at e
 split at e
 ·rename_i f r bl a
  cases e
  have hE:=aF (kCa:=kCa) (kDb:=kDb) (cts:=[(58,dJ),(200,Js)]) (inl:=[]) ⟨cj,FP,trivial⟩ trivial
  refine ak hE 2 Tryz.func170 rfl rfl ?_
  have hm:=bF hc
  have hw:=ee hc
  have hf:=cS hc
  have hf0:¬ f=0:=by omega
  refine bK hE 2 (fun(i:Int) (ys:List Int)=>([(1,Bb bl),(2,I a),(3,.ptr 0 0 0),(7,.sl 1 0 ys.length none),(8,I i)],[.cells true [I f,I r],.ints true .i64 ys])) ((f*r).toNat) (fun j ys=>ys=dc (kr f bl a) id j) [] (by omega) ((Ent.phanT (t:=7) (o:=.ints true .i64 []) rfl ⟨by simp,by simp,trivial,rfl⟩ (aJ rfl)).trans (Ent.ren [0,1] [1,2,3,7,8] rfl rfl rfl)) rfl ?_
  intro j i ys hij hj hz
  have hb:=fq (kr f bl a) id j
  rw[<-hz]at hb
  refine ax (fun hlt=>?_) (fun hlt=>?_)
  ·have hlt':j<(f*r).toNat:=by simp only[decide_eq_true_eq]at hlt;rw[hw]at hlt;omega
   have hs:=eE (kr f bl a) id j
   rw[<-hz,<-hij]at hs
   repeat (first|refine ah ?_|refine sat_nd ?_)
   refine ax (fun hon=>?_) (fun hon=>?_)
   ·skip
    have hon:kr f bl a i=true:=hon
    rw[hon,cond_true]at hs
    refine ag (b:=decide (ys.length=ys.length)&&decide ((ys.length+1)*8<=140737488355328)&&true) (by simp;omega) ?_
    exact ae ⟨hlt',ys++[id i],hs.symm,Ent.ren [0,5] [1,2,3,7,8] rfl rfl rfl⟩
   ·skip
    have hon:kr f bl a i=false:=hon
    rw[hon,cond_false]at hs
    exact ae ⟨hlt',ys,hs.symm,Ent.ren [0,1] [1,2,3,7,8] rfl rfl rfl⟩
  ·obtain rfl:j=(f*r).toNat:=by simp only[decide_eq_false_iff_not]at hlt;rw[hw]at hlt;omega
   subst hz
   refine ae (ae ((da 1 (.inr rfl) rfl rfl rfl rfl rfl rfl)))
 ·cases e
end
end Go.Ab
namespace Go.Ab
open Go.Proofs
theorem Kf{f r X Y:Int}(h:onB f r X Y=false):numR f r X Y=-1:=by unfold numR;rw[tR,h];rfl
theorem IZ(bl:Bool):∀ row∈[[-1,fwd bl],[1,fwd bl]],-8<=row.getD 0 0/\row.getD 0 0<=8/\-8<=row.getD 1 0/\row.getD 1 0<=8:=by cases bl<;>simp[fwd]
theorem EN{f r a:Int}(rs:List (List Int))(m:Nat)(h:rs.any (jB f r a · m)=true):aA f r m=true:=by
 obtain⟨row,_,h2⟩:=List.any_eq_true.1 h
 simp only[jB,Bool.and_eq_true]at h2
 exact h2.1.1
theorem Hu{f r a:Int}{bl:Bool}(ha:aA f r a=true):(mB f r bl a).2=0/\Uk (mB f r bl a).1/\OnS f r (mB f r bl a).1/\∀ b,aA f r b=true->bt (mB f r bl a).1 b.toNat=kr f bl a b:=by
 have L:=pF ha [[-1,fwd bl],[1,fwd bl]] (IZ bl)
 unfold mB
 rw[ha,cond_true]
 refine⟨rfl,L.1,fun m _ hm=>EN _ _ ((L.2 m).symm.trans hm),fun b hb=>?_⟩
 obtain⟨e1,e2⟩:=jh ha hb
 obtain⟨e3,_⟩:=jh hb ha
 have hd:=nQ ha hb
 rw[L.2,jE hb]
 unfold kr eT
 rw[e1,e2,e3]
 simp only[List.any_cons,List.any_nil,Bool.or_false,List.getD_cons_zero,List.getD_cons_succ]
 rw[Bool.eq_iff_iff]
 simp only[Bool.or_eq_true,Bool.and_eq_true,decide_eq_true_eq]
 omega
theorem zf(f r X Y:Int)(hv:vsB f r=true):(onB f r X Y=true/\aA f r (numR f r X Y)=true)\/(onB f r X Y=false/\numR f r X Y=-1):=by
 cases ho:onB f r X Y with
 |true=>
  left
  have h:=uu (X:=X) (Y:=Y) hv
  rw[ho]at h
  have hp:=js (of_decide_eq_true h)
  rw[qR hv ho,hp.2.2.2.2]
  exact⟨rfl,(nW hv ho).1⟩
 |false=>exact .inr ⟨rfl,Kf ho⟩
end Go.Ab
namespace Go.Ab
open Go.Proofs
open Go.Proofs
end Go.Ab
namespace Go.Ab
open Go.Proofs
def Btw(f a b c:Int):Prop:=∃ i k:Nat,∃ df dr:Int,unit df dr/\1<=i/\i<k/\k<=8/\px f b=px f a+k*df/\py f b=py f a+k*dr/\px f c=px f a+i*df/\py f c=py f a+i*dr
theorem Btw.symm{f a b c:Int}(h:Btw f a b c):Btw f b a c:=by
 obtain⟨i,k,df,dr,hu,h1,h2,h3,h4,h5,h6,h7⟩:=h
 refine⟨k-i,k,-df,-dr,?_,by omega,by omega,h3,?_⟩
 ·unfold unit at hu ⊢;omega
 ·rcases cR hu with⟨rfl,rfl⟩|⟨rfl,rfl⟩|⟨rfl,rfl⟩|⟨rfl,rfl⟩|⟨rfl,rfl⟩|⟨rfl,rfl⟩|⟨rfl,rfl⟩|⟨rfl,rfl⟩<;>omega
section
variable{kCa kDb:Bool}
def okP(p:Int):Bool:=decide (-15<=p)&&decide (p<=15)
def orP(p:Int):Bool:=!decide (p=0)&&decide (-6<=p)&&decide (p<=6)
def badP(p:Int):Bool:=!okP p
def norP(p:Int):Bool:=!decide (p=0)&&!orP p
def posP(p:Int):Bool:=decide (0<p)
def negP(p:Int):Bool:=decide (p<0)
def cntR(f r:Int):Int×Int:=bif vsB f r then(IntKind.i64.wrap (f*r),0) else(0,2)
def bZ(p:Int->Bool):List Int->Int->Int
 |[],_=>-1
 |x::l,k=>bif p x then k else bZ p l (k+1)
theorem ny(p:Int->Bool):∀ (l:List Int) (k:Int),0<=k->decide (0<=bZ p l k)=l.any p
 |[],k,_=>rfl
 |x::l,k,hk=>by
  rw[bZ,List.any_cons]
  cases p x with
  |true=>simp[hk]
  |false=>rw[cond_false,Bool.false_or];exact ny p l (k+1) (by omega)
theorem oP{p:Int->Bool}{l:List Int}{i:Nat}{k:Int}(h:i<l.length):bZ p (l.drop i) k=bif p (l.getD i 0)then k else bZ p (l.drop (i+1)) (k+1):=by
 rw[List.drop_eq_getElem_cons h,bZ];simp[List.getD,h]
def fE(p:Int->Bool)(zs:List Int)(s i:Int):Int:=bif p (zs.getD i.toNat 0)then uor s (ushl 1 i)else s
def fV(p:Int->Bool)(zs:List Int):Int:=gw (fE p zs) 0 zs.length
def aL(f r:Int)(zs:List Int):Bool:=decide ((cntR f r).2=0)&&decide ((zs.length:Int)=(cntR f r).1)&&!(zs.any badP)
def aZ(f r:Int)(zs:List Int):Bool:=aL f r zs&&!(zs.any norP)
def jb(f r:Int)(zs:List Int):Int×Int×Int:=bif aL f r zs then(fV posP zs,fV negP zs,0) else(0,0,2)
def occR(f r:Int)(zs:List Int):Int:=uor (jb f r zs).1 (jb f r zs).2.1
def tn:CF
 |[.agg [.int .i64 f,.int .i64 r]],[]=>some (true,.tup [I (cntR f r).1,I (cntR f r).2],[])
 |_,_=>none
theorem yf:CtOk (GGx kCa kDb) PP (129,tn):=by
 refine aG Tryz.func129 (by kernel_rfl) rfl fun a0 h0 c0 v0 N0 e hc=>?_
 unfold tn at e
 split at e
 ·rename_i f r
  cases e
  have hE:=aF (kCa:=kCa) (kDb:=kDb) (cts:=[(70,c_vs)]) (inl:=[]) ⟨gb,trivial⟩ trivial
  refine ak hE 2 Tryz.func129 rfl rfl ?_
  repeat' first|(first|refine ah ?_|refine sat_nd ?_)|refine ax (fun h=>?_) (fun h=>?_)
  all_goals exact ae (ai (.inr rfl) rfl rfl rfl (by first|rfl|(simp only[cntR, *];done)|(simp only[cntR, *];done)|simp_all [cntR]))
 ·cases e
def vL:CF
 |[.int .i8 p],[]=>some (true,.bool (okP p),[])
 |_,_=>none
theorem qA:CtOk (GGx kCa kDb) PP (131,vL):=by
 refine aG Tryz.func131 (by kernel_rfl) rfl fun a0 h0 c0 v0 N0 e hc=>?_
 unfold vL at e
 split at e
 ·rename_i p
  cases e
  have hE:=aF (kCa:=kCa) (kDb:=kDb) (cts:=[]) (inl:=[]) trivial trivial
  refine ak hE 2 Tryz.func131 rfl rfl ?_
  repeat' first|(first|refine ah ?_|refine sat_nd ?_)|refine ax (fun h=>?_) (fun h=>?_)
  all_goals exact ae (ai (.inr rfl) rfl rfl rfl (by first|rfl|(simp only[*,cond_true,cond_false];done)|(simp only[*,cond_true,cond_false,Bool.not_true,Bool.not_false,Bool.and_true,Bool.true_and,Bool.and_false,Bool.false_and,Bool.or_true,Bool.true_or,Bool.or_false,Bool.false_or];done)|simp_all []))
 ·cases e
def uE:CF
 |[.int .i8 p],[]=>some (true,.bool (orP p),[])
 |_,_=>none
theorem yC:CtOk (GGx kCa kDb) PP (189,uE):=by
 refine aG Tryz.func189 (by kernel_rfl) rfl fun a0 h0 c0 v0 N0 e hc=>?_
 unfold uE at e
 split at e
 ·rename_i p
  cases e
  have hE:=aF (kCa:=kCa) (kDb:=kDb) (cts:=[]) (inl:=[]) trivial trivial
  refine ak hE 2 Tryz.func189 rfl rfl ?_
  repeat' first|(first|refine ah ?_|refine sat_nd ?_)|refine ax (fun h=>?_) (fun h=>?_)
  all_goals exact ae (ai (.inr rfl) rfl rfl rfl (by first|rfl|(simp only[*,cond_true,cond_false];done)|(simp only[*,cond_true,cond_false,Bool.not_true,Bool.not_false,Bool.and_true,Bool.true_and,Bool.and_false,Bool.false_and,Bool.or_true,Bool.true_or,Bool.or_false,Bool.false_or];done)|simp_all []))
 ·cases e
def FY:CF
 |[.int .i8 p],[]=>some (true,.bool (badP p),[])
 |_,_=>none
theorem vT:CtOk (GGx kCa kDb) PP (130,FY):=by
 refine aG Tryz.func130 (by kernel_rfl) rfl fun a0 h0 c0 v0 N0 e hc=>?_
 unfold FY at e
 split at e
 ·rename_i p
  cases e
  have hE:=aF (kCa:=kCa) (kDb:=kDb) (cts:=[(131,vL)]) (inl:=[]) ⟨qA,trivial⟩ trivial
  refine ak hE 2 Tryz.func130 rfl rfl ?_
  repeat' first|(first|refine ah ?_|refine sat_nd ?_)|refine ax (fun h=>?_) (fun h=>?_)
  all_goals exact ae (ai (.inr rfl) rfl rfl rfl (by first|rfl|(simp only[*,cond_true,cond_false];done)|(simp only[*,cond_true,cond_false,Bool.not_true,Bool.not_false,Bool.and_true,Bool.true_and,Bool.and_false,Bool.false_and,Bool.or_true,Bool.true_or,Bool.or_false,Bool.false_or];done)|simp_all []))
 ·cases e
def EH:CF
 |[.int .i8 p],[]=>some (true,.bool (norP p),[])
 |_,_=>none
theorem vH:CtOk (GGx kCa kDb) PP (188,EH):=by
 refine aG Tryz.func188 (by kernel_rfl) rfl fun a0 h0 c0 v0 N0 e hc=>?_
 unfold EH at e
 split at e
 ·rename_i p
  cases e
  have hE:=aF (kCa:=kCa) (kDb:=kDb) (cts:=[(189,uE)]) (inl:=[]) ⟨yC,trivial⟩ trivial
  refine ak hE 2 Tryz.func188 rfl rfl ?_
  repeat' first|(first|refine ah ?_|refine sat_nd ?_)|refine ax (fun h=>?_) (fun h=>?_)
  all_goals exact ae (ai (.inr rfl) rfl rfl rfl (by first|rfl|(simp only[*,cond_true,cond_false];done)|(simp only[*,cond_true,cond_false,Bool.not_true,Bool.not_false,Bool.and_true,Bool.true_and,Bool.and_false,Bool.false_and,Bool.or_true,Bool.true_or,Bool.or_false,Bool.false_or];done)|simp_all []))
 ·cases e
def FR:CF
 |[.int .i8 p],[]=>some (true,.bool (posP p),[])
 |_,_=>none
theorem vN:CtOk (GGx kCa kDb) PP (173,FR):=by
 refine aG Tryz.func173 (by kernel_rfl) rfl fun a0 h0 c0 v0 N0 e hc=>?_
 unfold FR at e
 split at e
 ·rename_i p
  cases e
  have hE:=aF (kCa:=kCa) (kDb:=kDb) (cts:=[]) (inl:=[]) trivial trivial
  refine ak hE 2 Tryz.func173 rfl rfl ?_
  repeat' first|(first|refine ah ?_|refine sat_nd ?_)|refine ax (fun h=>?_) (fun h=>?_)
  all_goals exact ae (ai (.inr rfl) rfl rfl rfl (by first|rfl|(simp only[*,cond_true,cond_false];done)|(simp only[*,cond_true,cond_false,Bool.not_true,Bool.not_false,Bool.and_true,Bool.true_and,Bool.and_false,Bool.false_and,Bool.or_true,Bool.true_or,Bool.or_false,Bool.false_or];done)|simp_all []))
 ·cases e
def Fo:CF
 |[.int .i8 p],[]=>some (true,.bool (negP p),[])
 |_,_=>none
theorem wB:CtOk (GGx kCa kDb) PP (174,Fo):=by
 refine aG Tryz.func174 (by kernel_rfl) rfl fun a0 h0 c0 v0 N0 e hc=>?_
 unfold Fo at e
 split at e
 ·rename_i p
  cases e
  have hE:=aF (kCa:=kCa) (kDb:=kDb) (cts:=[]) (inl:=[]) trivial trivial
  refine ak hE 2 Tryz.func174 rfl rfl ?_
  repeat' first|(first|refine ah ?_|refine sat_nd ?_)|refine ax (fun h=>?_) (fun h=>?_)
  all_goals exact ae (ai (.inr rfl) rfl rfl rfl (by first|rfl|(simp only[*,cond_true,cond_false];done)|(simp only[*,cond_true,cond_false,Bool.not_true,Bool.not_false,Bool.and_true,Bool.true_and,Bool.and_false,Bool.false_and,Bool.or_true,Bool.true_or,Bool.or_false,Bool.false_or];done)|simp_all []))
 ·cases e
def wN:CF
 |[.sl 0 0 len none,.fn 130 []],[.ints false .i8 zs]=>some (decide (len=zs.length)&&decide (zs.length<=1000000),.int .i64 (bZ badP zs 0),[])
 |[.sl 0 0 len none,.fn 188 []],[.ints false .i8 zs]=>some (decide (len=zs.length)&&decide (zs.length<=1000000),.int .i64 (bZ norP zs 0),[])
 |_,_=>none
theorem qa:CtOk (GGx kCa kDb) PP (149,wN):=by
 refine aG Tryz.func149 (by kernel_rfl) rfl fun a0 h0 c0 v0 N0 e hc=>?_
 unfold wN at e
 split at e
 ·rename_i len zs
  cases e
  have hE:=aF (kCa:=kCa) (kDb:=kDb) (cts:=[(130,FY),(188,EH)]) (inl:=[]) ⟨vT,vH,trivial⟩ trivial
  refine ak hE 2 Tryz.func149 rfl rfl ?_
  simp only[Bool.and_eq_true,decide_eq_true_eq]at hc
  obtain⟨rfl,hc2⟩:=hc
  refine bK hE 2 (fun i (_:Unit)=>([(0,.sl 0 0 zs.length none),(1,.fn 130 []),(7,I zs.length),(8,I i)],[.ints false .i8 zs])) zs.length (fun j _=>bZ badP (zs.drop j) j=bZ badP zs 0) () (by omega) (Ent.ren [0] [0,1,7,8] rfl rfl rfl) rfl ?_
  intro j i _ hij hj hz
  refine ax (fun hlt=>?_) (fun hlt=>?_)
  ·have hlt':j<zs.length:=by simp at hlt;omega
   rw[oP hlt',show j=i.toNat by omega]at hz
   refine ag (by simp;omega) ?_
   repeat (first|refine ah ?_|refine sat_nd ?_)
   refine ax (fun hon=>?_) (fun hon=>?_)
   ·have hon:badP (zs.getD i.toNat 0)=true:=hon
    rw[hon,cond_true]at hz
    refine ae (ae (ai (.inr rfl) rfl rfl rfl (by rw[<-hz];exact congrArg (V.int IntKind.i64) (by omega))))
   ·have hon:badP (zs.getD i.toNat 0)=false:=hon
    rw[hon,cond_false]at hz
    exact ae ⟨hlt',(),by rw[<-hz,show i.toNat=j by omega];push_cast;rfl,Ent.ren [0] [0,1,7,8] rfl rfl rfl⟩
  ·obtain rfl:j=zs.length:=by simp at hlt;omega
   rw[List.drop_length]at hz
   exact ae (ae (ai (.inr rfl) rfl rfl rfl (by rw[<-hz];rfl)))
 ·rename_i len zs
  cases e
  have hE:=aF (kCa:=kCa) (kDb:=kDb) (cts:=[(130,FY),(188,EH)]) (inl:=[]) ⟨vT,vH,trivial⟩ trivial
  refine ak hE 2 Tryz.func149 rfl rfl ?_
  simp only[Bool.and_eq_true,decide_eq_true_eq]at hc
  obtain⟨rfl,hc2⟩:=hc
  refine bK hE 2 (fun i (_:Unit)=>([(0,.sl 0 0 zs.length none),(1,.fn 188 []),(7,I zs.length),(8,I i)],[.ints false .i8 zs])) zs.length (fun j _=>bZ norP (zs.drop j) j=bZ norP zs 0) () (by omega) (Ent.ren [0] [0,1,7,8] rfl rfl rfl) rfl ?_
  intro j i _ hij hj hz
  refine ax (fun hlt=>?_) (fun hlt=>?_)
  ·have hlt':j<zs.length:=by simp at hlt;omega
   rw[oP hlt',show j=i.toNat by omega]at hz
   refine ag (by simp;omega) ?_
   repeat (first|refine ah ?_|refine sat_nd ?_)
   refine ax (fun hon=>?_) (fun hon=>?_)
   ·have hon:norP (zs.getD i.toNat 0)=true:=hon
    rw[hon,cond_true]at hz
    refine ae (ae (ai (.inr rfl) rfl rfl rfl (by rw[<-hz];exact congrArg (V.int IntKind.i64) (by omega))))
   ·have hon:norP (zs.getD i.toNat 0)=false:=hon
    rw[hon,cond_false]at hz
    exact ae ⟨hlt',(),by rw[<-hz,show i.toNat=j by omega];push_cast;rfl,Ent.ren [0] [0,1,7,8] rfl rfl rfl⟩
  ·obtain rfl:j=zs.length:=by simp at hlt;omega
   rw[List.drop_length]at hz
   exact ae (ae (ai (.inr rfl) rfl rfl rfl (by rw[<-hz];rfl)))
 ·cases e
def oQ:CF
 |[.sl 0 0 len none,.fn 130 []],[.ints false .i8 zs]=>some (decide (len=zs.length)&&decide (zs.length<=1000000),.bool (zs.any badP),[])
 |[.sl 0 0 len none,.fn 188 []],[.ints false .i8 zs]=>some (decide (len=zs.length)&&decide (zs.length<=1000000),.bool (zs.any norP),[])
 |_,_=>none
theorem mM:CtOk (GGx kCa kDb) PP (119,oQ):=by
 refine aG Tryz.func119 (by kernel_rfl) rfl fun a0 h0 c0 v0 N0 e hc=>?_
 unfold oQ at e
 split at e
 ·rename_i len zs
  cases e
  have hE:=aF (kCa:=kCa) (kDb:=kDb) (cts:=[(149,wN)]) (inl:=[]) ⟨qa,trivial⟩ trivial
  refine ak hE 2 Tryz.func119 rfl rfl ?_
  simp only[Bool.and_eq_true,decide_eq_true_eq]at hc
  obtain⟨rfl,hc2⟩:=hc
  refine ag (by simp;omega) ?_
  exact ae (ai (.inr rfl) rfl rfl rfl (congrArg Bb (by
   show decide (0<=bZ badP (tk zs) 0)=_
   rw[aS];exact ny badP zs 0 (by omega))))
 ·rename_i len zs
  cases e
  have hE:=aF (kCa:=kCa) (kDb:=kDb) (cts:=[(149,wN)]) (inl:=[]) ⟨qa,trivial⟩ trivial
  refine ak hE 2 Tryz.func119 rfl rfl ?_
  simp only[Bool.and_eq_true,decide_eq_true_eq]at hc
  obtain⟨rfl,hc2⟩:=hc
  refine ag (by simp;omega) ?_
  exact ae (ai (.inr rfl) rfl rfl rfl (congrArg Bb (by
   show decide (0<=bZ norP (tk zs) 0)=_
   rw[aS];exact ny norP zs 0 (by omega))))
 ·cases e
def eM:CF
 |[.agg [.int .i64 f,.int .i64 r,.sl 0 0 len none]],[.ints false .i8 zs]=>some (decide (len=zs.length)&&decide (zs.length<=1000000),.bool (aL f r zs),[])
 |_,_=>none
theorem dB:CtOk (GGx kCa kDb) PP (83,eM):=by
 refine aG Tryz.func83 (by kernel_rfl) rfl fun a0 h0 c0 v0 N0 e hc=>?_
 unfold eM at e
 split at e
 ·rename_i f r len zs
  cases e
  have hE:=aF (kCa:=kCa) (kDb:=kDb) (cts:=[(129,tn),(119,oQ)]) (inl:=[]) ⟨yf,mM,trivial⟩ trivial
  refine ak hE 2 Tryz.func83 rfl rfl ?_
  simp only[Bool.and_eq_true,decide_eq_true_eq]at hc
  obtain⟨rfl,hc2⟩:=hc
  repeat (first|refine ah ?_|refine sat_nd ?_)
  exact ae (ai (.inr rfl) rfl rfl rfl (congrArg Bb (by
   show (decide ((cntR f r).2=0)&&decide ((zs.length:Int)=(cntR f r).1)&&!((tk zs).any badP))=_
   rw[aS];rfl)))
 ·cases e
def BU:CF
 |[.agg [.int .i64 f,.int .i64 r,.sl 0 0 len none]],[.ints false .i8 zs]=>some (decide (len=zs.length)&&decide (zs.length<=1000000),.bool (aZ f r zs),[])
 |_,_=>none
theorem Cr:CtOk (GGx kCa kDb) PP (158,BU):=by
 refine aG Tryz.func158 (by kernel_rfl) rfl fun a0 h0 c0 v0 N0 e hc=>?_
 unfold BU at e
 split at e
 ·rename_i f r len zs
  cases e
  have hE:=aF (kCa:=kCa) (kDb:=kDb) (cts:=[(83,eM),(119,oQ)]) (inl:=[]) ⟨dB,mM,trivial⟩ trivial
  refine ak hE 2 Tryz.func158 rfl rfl ?_
  simp only[Bool.and_eq_true,decide_eq_true_eq]at hc
  obtain⟨rfl,hc2⟩:=hc
  repeat (first|refine ah ?_|refine sat_nd ?_)
  exact ae (ai (.inr rfl) rfl rfl rfl (congrArg Bb (by
   show (aL f r (tk zs)&&!((tk zs).any norP))=_
   rw[aS];rfl)))
 ·cases e
def va:CF
 |[.agg [.int .i64 _f,.int .i64 _r,.sl 0 0 len none],.fn 173 []],[.ints false .i8 zs]=>some (decide (len=zs.length)&&decide (zs.length<=1000000),.int .u64 (fV posP zs),[])
 |[.agg [.int .i64 _f,.int .i64 _r,.sl 0 0 len none],.fn 174 []],[.ints false .i8 zs]=>some (decide (len=zs.length)&&decide (zs.length<=1000000),.int .u64 (fV negP zs),[])
 |_,_=>none
theorem xe:CtOk (GGx kCa kDb) PP (172,va):=by
 refine aG Tryz.func172 (by kernel_rfl) rfl fun a0 h0 c0 v0 N0 e hc=>?_
 unfold va at e
 split at e
 ·rename_i f r len zs
  cases e
  have hE:=aF (kCa:=kCa) (kDb:=kDb) (cts:=[(173,FR),(174,Fo)]) (inl:=[]) ⟨vN,wB,trivial⟩ trivial
  refine ak hE 2 Tryz.func172 rfl rfl ?_
  simp only[Bool.and_eq_true,decide_eq_true_eq]at hc
  obtain⟨rfl,hc2⟩:=hc
  repeat (first|refine ah ?_|refine sat_nd ?_)
  refine bK hE 2 (fun i (s:Int)=>([(1,.fn 173 []),(2,.ptr 1 0 0),(5,U s),(9,.sl 0 0 zs.length none),(10,I zs.length),(11,I i)],[.ints false .i8 zs,.cells true [I f,I r,.sl 0 0 zs.length none]])) zs.length (fun j s=>s=gw (fE posP zs) 0 j) 0 (by omega) (Ent.ren [0,1] [1,2,5,9,10,11] rfl rfl rfl) rfl ?_
  intro j i s hij hj hz
  refine ax (fun hlt=>?_) (fun hlt=>?_)
  ·have hlt':j<zs.length:=by simp at hlt;omega
   have hs:fE posP zs s i=gw (fE posP zs) 0 (j+1):=by rw[hz,hij];rfl
   refine ag (by simp;omega) ?_
   repeat (first|refine ah ?_|refine sat_nd ?_)
   refine ax (fun hon=>?_) (fun hon=>?_)
   ·have hon:posP (zs.getD i.toNat 0)=true:=hon
    rw[fE,hon,cond_true]at hs
    refine ag (by simp;omega) ?_
    exact ae ⟨hlt',_,hs,Ent.ren [0,1] [1,2,5,9,10,11] rfl rfl rfl⟩
   ·have hon:posP (zs.getD i.toNat 0)=false:=hon
    rw[fE,hon,cond_false]at hs
    exact ae ⟨hlt',_,hs,Ent.ren [0,1] [1,2,5,9,10,11] rfl rfl rfl⟩
  ·obtain rfl:j=zs.length:=by simp at hlt;omega
   subst hz
   exact ae (ae (ai (.inr rfl) rfl rfl rfl rfl))
 ·rename_i f r len zs
  cases e
  have hE:=aF (kCa:=kCa) (kDb:=kDb) (cts:=[(173,FR),(174,Fo)]) (inl:=[]) ⟨vN,wB,trivial⟩ trivial
  refine ak hE 2 Tryz.func172 rfl rfl ?_
  simp only[Bool.and_eq_true,decide_eq_true_eq]at hc
  obtain⟨rfl,hc2⟩:=hc
  repeat (first|refine ah ?_|refine sat_nd ?_)
  refine bK hE 2 (fun i (s:Int)=>([(1,.fn 174 []),(2,.ptr 1 0 0),(5,U s),(9,.sl 0 0 zs.length none),(10,I zs.length),(11,I i)],[.ints false .i8 zs,.cells true [I f,I r,.sl 0 0 zs.length none]])) zs.length (fun j s=>s=gw (fE negP zs) 0 j) 0 (by omega) (Ent.ren [0,1] [1,2,5,9,10,11] rfl rfl rfl) rfl ?_
  intro j i s hij hj hz
  refine ax (fun hlt=>?_) (fun hlt=>?_)
  ·have hlt':j<zs.length:=by simp at hlt;omega
   have hs:fE negP zs s i=gw (fE negP zs) 0 (j+1):=by rw[hz,hij];rfl
   refine ag (by simp;omega) ?_
   repeat (first|refine ah ?_|refine sat_nd ?_)
   refine ax (fun hon=>?_) (fun hon=>?_)
   ·have hon:negP (zs.getD i.toNat 0)=true:=hon
    rw[fE,hon,cond_true]at hs
    refine ag (by simp;omega) ?_
    exact ae ⟨hlt',_,hs,Ent.ren [0,1] [1,2,5,9,10,11] rfl rfl rfl⟩
   ·have hon:negP (zs.getD i.toNat 0)=false:=hon
    rw[fE,hon,cond_false]at hs
    exact ae ⟨hlt',_,hs,Ent.ren [0,1] [1,2,5,9,10,11] rfl rfl rfl⟩
  ·obtain rfl:j=zs.length:=by simp at hlt;omega
   subst hz
   exact ae (ae (ai (.inr rfl) rfl rfl rfl rfl))
 ·cases e
def sS:CF
 |[.agg [.int .i64 f,.int .i64 r,.sl 0 0 len none]],[.ints false .i8 zs]=>some (decide (len=zs.length)&&decide (zs.length<=1000000),.tup [U (jb f r zs).1,U (jb f r zs).2.1,I (jb f r zs).2.2],[])
 |_,_=>none
theorem xR:CtOk (GGx kCa kDb) PP (151,sS):=by
 refine aG Tryz.func151 (by kernel_rfl) rfl fun a0 h0 c0 v0 N0 e hc=>?_
 unfold sS at e
 split at e
 ·rename_i f r len zs
  cases e
  have hE:=aF (kCa:=kCa) (kDb:=kDb) (cts:=[(83,eM),(172,va)]) (inl:=[]) ⟨dB,xe,trivial⟩ trivial
  refine ak hE 2 Tryz.func151 rfl rfl ?_
  simp only[Bool.and_eq_true,decide_eq_true_eq]at hc
  obtain⟨rfl,hc2⟩:=hc
  repeat (first|refine ah ?_|refine sat_nd ?_)
  refine ax (fun h=>?_) (fun h=>?_)
  ·have h:aL f r zs=false:=by simpa using h
   exact ae (ai (.inr rfl) rfl rfl rfl (by rw[jb,h];rfl))
  ·have h:aL f r zs=true:=by simpa using h
   repeat (first|refine ah ?_|refine sat_nd ?_)
   refine ae (ai (.inr rfl) rfl rfl rfl ?_)
   show V.tup [U (fV posP (tk zs)),U (fV negP (tk zs)),I 0]=_
   rw[aS,jb,h];rfl
 ·cases e
def JA:CF
 |[.agg [.int .i64 f,.int .i64 r,.sl 0 0 len none]],[.ints false .i8 zs]=>some (decide (len=zs.length)&&decide (zs.length<=1000000),.int .u64 (occR f r zs),[])
 |_,_=>none
theorem FI:CtOk (GGx kCa kDb) PP (190,JA):=by
 refine aG Tryz.func190 (by kernel_rfl) rfl fun a0 h0 c0 v0 N0 e hc=>?_
 unfold JA at e
 split at e
 ·rename_i f r len zs
  cases e
  have hE:=aF (kCa:=kCa) (kDb:=kDb) (cts:=[(151,sS)]) (inl:=[]) ⟨xR,trivial⟩ trivial
  refine ak hE 2 Tryz.func190 rfl rfl ?_
  simp only[Bool.and_eq_true,decide_eq_true_eq]at hc
  obtain⟨rfl,hc2⟩:=hc
  repeat (first|refine ah ?_|refine sat_nd ?_)
  refine ae (ai (.inr rfl) rfl rfl rfl ?_)
  show U (occR f r (tk zs))=_
  rw[aS]
 ·cases e
end
section
variable{kCa kDb:Bool}
abbrev w8(n:Int):Int:=IntKind.i8.wrap n
def isP(p:Int)(bl:Bool):Bool:=(decide (p<0)&&bl)||(decide (0<p)&&!bl)
def absP(p:Int):Int:=imax true p (w8 (0-p))
def ofR(f r:Int)(zs:List Int)(at_ all_:Int):Int:=bif decide (zs.getD at_.toNat 0=1)||decide (zs.getD at_.toNat 0=-1) then(mB f r (decide (zs.getD at_.toNat 0<0)) at_).1 else(ez f r (absP (zs.getD at_.toNat 0)) at_ all_).1
def Jy:CF
 |[.int .i8 p,.bool bl],[]=>some (true,.bool (isP p bl),[])
 |_,_=>none
theorem Gj:CtOk (GGx kCa kDb) PP (191,Jy):=by
 refine aG Tryz.func191 (by kernel_rfl) rfl fun a0 h0 c0 v0 N0 e hc=>?_
 unfold Jy at e
 split at e
 ·rename_i p bl
  cases e
  have hE:=aF (kCa:=kCa) (kDb:=kDb) (cts:=[]) (inl:=[]) trivial trivial
  refine ak hE 2 Tryz.func191 rfl rfl ?_
  repeat' first|(first|refine ah ?_|refine sat_nd ?_)|refine ax (fun h=>?_) (fun h=>?_)
  all_goals exact ae (ai (.inr rfl) rfl rfl rfl (by first|rfl|(simp only[*,cond_true,cond_false];done)|(simp only[*,cond_true,cond_false,Bool.not_true,Bool.not_false,Bool.and_true,Bool.true_and,Bool.and_false,Bool.false_and,Bool.or_true,Bool.true_or,Bool.or_false,Bool.false_or];done)|simp_all []))
 ·cases e
def c_of:CF
 |[.agg [.int .i64 f,.int .i64 r,.sl 0 0 len none],.int .i64 at_,.int .u64 all_],[.ints false .i8 zs]=>some (decide (len=zs.length)&&decide (zs.length<=64)&&decide (0<=at_)&&decide (at_<zs.length),.int .u64 (ofR f r zs at_ all_),[])
 |_,_=>none
theorem JM:CtOk (GGx kCa kDb) PP (192,c_of):=by
 refine aG Tryz.func192 (by kernel_rfl) rfl fun a0 h0 c0 v0 N0 e hc=>?_
 unfold c_of at e
 split at e
 ·rename_i f r len at_ all_ zs
  cases e
  have hE:=aF (kCa:=kCa) (kDb:=kDb) (cts:=[(206,CQ),(176,uX)]) (inl:=[]) ⟨Dn,yK,trivial⟩ trivial
  refine ak hE 2 Tryz.func192 rfl rfl ?_
  simp only[Bool.and_eq_true,decide_eq_true_eq]at hc
  obtain⟨⟨⟨rfl,hc2⟩,ha1⟩,ha2⟩:=hc
  repeat (first|refine ah ?_|refine sat_nd ?_)
  refine ax (fun h=>?_) (fun h=>?_)
  ·have h:decide (zs.getD at_.toNat 0=1)=true:=h
   refine ck h ?_
   repeat (first|refine ah ?_|refine sat_nd ?_)
   exact ae (ai (.inr rfl) rfl rfl rfl (by rw[ofR,h];rfl))
  have h:decide (zs.getD at_.toNat 0=1)=false:=h
  refine ax (fun h2=>?_) (fun h2=>?_)
  ·have h2:decide (zs.getD at_.toNat 0=-1)=true:=h2
   repeat (first|refine ah ?_|refine sat_nd ?_)
   exact ae (ai (.inr rfl) rfl rfl rfl (by rw[ofR,h,h2];rfl))
  have h2:decide (zs.getD at_.toNat 0=-1)=false:=h2
  repeat (first|refine ah ?_|refine sat_nd ?_)
  exact ae (ai (.inr rfl) rfl rfl rfl (by rw[ofR,h,h2];rfl))
 ·cases e
def attB(f r:Int)(zs:List Int)(at_:Int)(bl:Bool)(all_ i:Int):Bool:=isP (zs.getD i.toNat 0) bl&&decide (uand (ushr (ofR f r zs i all_) at_) 1=1)
def attS(f r:Int)(zs:List Int)(at_:Int)(bl:Bool)(all_ s i:Int):Int:=bif attB f r zs at_ bl all_ i then uor s (ushl 1 i)else s
def attR(f r:Int)(zs:List Int)(at_:Int)(bl:Bool):Int:=gw (attS f r zs at_ bl (occR f r zs)) 0 zs.length
def gk:CF
 |[.agg [.int .i64 f,.int .i64 r,.sl 0 0 len none],.int .i64 at_,.bool bl],[.ints false .i8 zs]=>some (decide (len=zs.length)&&decide (zs.length<=64)&&decide (0<=at_),.int .u64 (attR f r zs at_ bl),[])
 |_,_=>none
theorem mg:CtOk (GGx kCa kDb) PP (160,gk):=by
 refine aG Tryz.func160 (by kernel_rfl) rfl fun a0 h0 c0 v0 N0 e hc=>?_
 unfold gk at e
 split at e
 ·rename_i f r len at_ bl zs
  cases e
  have hE:=aF (kCa:=kCa) (kDb:=kDb) (cts:=[(190,JA),(191,Jy),(192,c_of)]) (inl:=[]) ⟨FI,Gj,JM,trivial⟩ trivial
  refine ak hE 2 Tryz.func160 rfl rfl ?_
  simp only[Bool.and_eq_true,decide_eq_true_eq]at hc
  obtain⟨⟨rfl,hc2⟩,ha1⟩:=hc
  repeat (first|refine ah ?_|refine sat_nd ?_)
  refine bK hE 2 (fun i (s:Int)=>([(1,I at_),(2,Bb bl),(3,.ptr 1 0 0),(7,U s),(8,U (occR f r (tk zs))),(14,.sl 0 0 zs.length none),(15,I zs.length),(16,I i)],[.ints false .i8 zs,.cells true [I f,I r,.sl 0 0 zs.length none]])) zs.length (fun j s=>s=gw (attS f r zs at_ bl (occR f r zs)) 0 j) 0 (by omega) (Ent.ren [0,1] [1,2,3,7,8,14,15,16] rfl rfl rfl) rfl ?_
  intro j i s hij hj hz
  refine ax (fun hlt=>?_) (fun hlt=>?_)
  ·have hlt':j<zs.length:=by simp at hlt;omega
   have hs:attS f r zs at_ bl (occR f r zs) s i=gw (attS f r zs at_ bl (occR f r zs)) 0 (j+1):=by rw[hz,hij];rfl
   refine ag (by simp;omega) ?_
   repeat (first|(first|refine ah ?_|refine sat_nd ?_)|refine ag (by rw[decide_eq_true ha1];exact Bool.or_true _) ?_|refine ag (by simp;right;omega) ?_)
   refine ax (fun hon=>?_) (fun hon=>?_)
   ·have hon:(isP (zs.getD i.toNat 0) bl&&decide (uand (ushr (ofR f r (tk zs) i (occR f r (tk zs))) at_) 1=1))=true:=hon
    rw[aS]at hon
    have hon:attB f r zs at_ bl (occR f r zs) i=true:=hon
    rw[attS,hon,cond_true]at hs
    refine ag (by simp;omega) ?_
    exact ae ⟨hlt',_,hs,Ent.ren [0,1] [1,2,3,7,8,14,15,16] rfl rfl rfl⟩
   ·have hon:(isP (zs.getD i.toNat 0) bl&&decide (uand (ushr (ofR f r (tk zs) i (occR f r (tk zs))) at_) 1=1))=false:=hon
    rw[aS]at hon
    have hon:attB f r zs at_ bl (occR f r zs) i=false:=hon
    rw[attS,hon,cond_false]at hs
    exact ae ⟨hlt',_,hs,Ent.ren [0,1] [1,2,3,7,8,14,15,16] rfl rfl rfl⟩
  ·obtain rfl:j=zs.length:=by simp at hlt;omega
   subst hz
   exact ae (ae (ai (.inr rfl) rfl rfl rfl rfl))
 ·cases e
end
end Go.Ab
namespace Go.Ab
open IntKind
open Go.Proofs
section
variable{kCa kDb:Bool}
theorem bw{f r:Int}{zs:List Int}(h:aZ f r zs=true):vsB f r=true/\(zs.length:Int)=f*r/\aL f r zs=true/\(∀ p∈zs,-6<=p/\p<=6):=by
 simp only[aZ,Bool.and_eq_true,Bool.not_eq_true',List.any_eq_false]at h
 obtain⟨h1,h2⟩:=h
 have h1':=h1
 simp only[aL,Bool.and_eq_true,decide_eq_true_eq]at h1
 obtain⟨⟨h3,h4⟩,_⟩:=h1
 have hv:vsB f r=true:=by
  cases hv:vsB f r with
  |true=>rfl
  |false=>rw[cntR,hv]at h3;simp at h3
 rw[cntR,hv,cond_true]at h4
 refine⟨hv,by rw[h4];exact ee hv,h1',fun p hp=>?_⟩
 have:=h2 p hp
 simp only[norP,orP,Bool.and_eq_true,Bool.not_eq_true',decide_eq_false_iff_not,Bool.and_eq_false_iff,not_and]at this
 by_cases e:p=0
 ·omega
 ·have:=this e
  simp[e]at this
  omega
theorem zi{f r n:Int}{zs:List Int}(h:aZ f r zs=true):aA f r n=true↔0<=n/\n<zs.length:=by
 obtain⟨h1,h2,_⟩:=bw h
 rw[h2]
 exact⟨fun h=>⟨(bT h).1,(bT h).2.1⟩,fun h=>pH h1 h.1 h.2⟩
def isV(v p:Int):Bool:=decide (v=p)
theorem rG{K:Int}{n:Nat}(h1:-1<=K)(h2:K<n)(hn:n<=64):(!!decide (K<0)||(decide (0<=i64.wrap (K+1))&&decide (i64.wrap (K+1)<=n)&&decide ((n:Int)<=n)))=true:=by
 rw[aK (by omega) (by omega)]
 simp
 omega
theorem qm{g:Bool}{zs:List Int}{a m:Nat}(h:m=zs.length)(hn:zs.length<=64):(!g||(decide (m-a=((zs.drop a).take (m-a)).length)&&decide (((zs.drop a).take (m-a)).length<=1000000)))=true:=by
 subst h
 rw[List.take_of_length_le (by simp),List.length_drop]
 have:zs.length-a<=1000000:=by omega
 simp[this]
theorem gU{zs:List Int}{v:Int}{b:Bool}(h:(decide (bZ (isV v) (tk zs) 0<0)||((zs.drop (i64.wrap (bZ (isV v) (tk zs) 0+1)).toNat).take ((zs.length:Int).toNat-(i64.wrap (bZ (isV v) (tk zs) 0+1)).toNat)).any (isV v))=b):(decide (bZ (isV v) zs 0<0)||(zs.drop (i64.wrap (bZ (isV v) zs 0+1)).toNat).any (isV v))=b:=by
 rw[aS]at h
 rwa [List.take_of_length_le (by simp)]at h
def kgP(bl:Bool):Int:=bif bl then -6 else 6
def fz(zs:List Int)(bl:Bool):Int:=bZ (isV (kgP bl)) zs 0
def lj(zs:List Int)(bl:Bool):Bool:=decide (fz zs bl<0)||(zs.drop (i64.wrap (fz zs bl+1)).toNat).any (isV (kgP bl))
def ct(f r:Int)(zs:List Int)(bl:Bool):Int×Int:=bif aZ f r zs then(bif lj zs bl then(0,9) else(fz zs bl,0)) else(0,2)
def bJ(f r:Int)(zs:List Int)(bl:Bool):Int×Int:=bif decide ((ct f r zs bl).2=0) then(attR f r zs (ct f r zs bl).1 (!bl),0) else(0,(ct f r zs bl).2)
theorem jW(p:Int->Bool):∀ (l:List Int) (k:Int),0<=k->-1<=bZ p l k/\bZ p l k<k+l.length
 |[],k,_=>by simp[bZ];omega
 |x::l,k,h=>by
  have:=jW p l (k+1) (by omega)
  rw[bZ]
  cases p x<;>simp<;>omega
theorem Jg{f r:Int}{zs:List Int}{bl:Bool}(h:(ct f r zs bl).2=0):aZ f r zs=true/\lj zs bl=false/\(ct f r zs bl).1=fz zs bl/\0<=fz zs bl/\fz zs bl<zs.length:=by
 unfold ct at h ⊢
 cases ho:aZ f r zs with
 |false=>rw[ho]at h;simp at h
 |true=>
  cases hn:lj zs bl with
  |true=>rw[ho,hn]at h;simp at h
  |false=>
   have hb:=jW (isV (kgP bl)) zs 0 (by omega)
   simp only[lj,Bool.or_eq_false_iff,decide_eq_false_iff_not]at hn
   refine⟨rfl,rfl,rfl,by omega,?_⟩
   unfold fz;omega
def oD:CF
 |[.sl 0 0 len none,.int .i8 v],[.ints false .i8 zs]=>some (decide (len=zs.length)&&decide (zs.length<=1000000),.int .i64 (bZ (isV v) zs 0),[])
 |_,_=>none
theorem mU:CtOk (GGx kCa kDb) PP (159,oD):=by
 refine aG Tryz.func159 (by kernel_rfl) rfl fun a0 h0 c0 v0 N0 e hc=>?_
 unfold oD at e
 split at e
 ·rename_i len v zs
  cases e
  have hE:=aF (kCa:=kCa) (kDb:=kDb) (cts:=[]) (inl:=[]) trivial trivial
  refine ak hE 2 Tryz.func159 rfl rfl ?_
  simp only[Bool.and_eq_true,decide_eq_true_eq]at hc
  obtain⟨rfl,hc2⟩:=hc
  refine bK hE 2 (fun i (_:Unit)=>([(0,.sl 0 0 zs.length none),(1,.int .i8 v),(7,I zs.length),(8,I i)],[.ints false .i8 zs])) zs.length (fun j _=>bZ (isV v) (zs.drop j) j=bZ (isV v) zs 0) () (by omega) (Ent.ren [0] [0,1,7,8] rfl rfl rfl) rfl ?_
  intro j i _ hij hj hz
  refine ax (fun hlt=>?_) (fun hlt=>?_)
  ·have hlt':j<zs.length:=by simp at hlt;omega
   rw[oP hlt',show j=i.toNat by omega]at hz
   refine ag (by simp;omega) ?_
   repeat (first|refine ah ?_|refine sat_nd ?_)
   refine ax (fun hon=>?_) (fun hon=>?_)
   ·have hon:isV v (zs.getD i.toNat 0)=true:=hon
    rw[hon,cond_true]at hz
    refine ae (ae (ai (.inr rfl) rfl rfl rfl (by rw[<-hz];exact congrArg (V.int i64) (by omega))))
   ·have hon:isV v (zs.getD i.toNat 0)=false:=hon
    rw[hon,cond_false]at hz
    exact ae ⟨hlt',(),by rw[<-hz,show i.toNat=j by omega];push_cast;rfl,Ent.ren [0] [0,1,7,8] rfl rfl rfl⟩
  ·obtain rfl:j=zs.length:=by simp at hlt;omega
   rw[List.drop_length]at hz
   exact ae (ae (ai (.inr rfl) rfl rfl rfl (by rw[<-hz];rfl)))
 ·cases e
def fR:CF
 |[.sl 0 0 len none,.int .i8 v],[.ints false .i8 zs]=>some (decide (len=zs.length)&&decide (zs.length<=1000000),.bool (zs.any (isV v)),[])
 |_,_=>none
theorem gA:CtOk (GGx kCa kDb) PP (134,fR):=by
 refine aG Tryz.func134 (by kernel_rfl) rfl fun a0 h0 c0 v0 N0 e hc=>?_
 unfold fR at e
 split at e
 ·rename_i len v zs
  cases e
  have hE:=aF (kCa:=kCa) (kDb:=kDb) (cts:=[(159,oD)]) (inl:=[]) ⟨mU,trivial⟩ trivial
  refine ak hE 2 Tryz.func134 rfl rfl ?_
  simp only[Bool.and_eq_true,decide_eq_true_eq]at hc
  obtain⟨rfl,hc2⟩:=hc
  refine ag (by simp;omega) ?_
  exact ae (ai (.inr rfl) rfl rfl rfl (congrArg Bb (by
   show decide (0<=bZ (isV v) (tk zs) 0)=_
   rw[aS];exact ny (isV v) zs 0 (by omega))))
 ·cases e
def wG:CF
 |[.agg [.int .i64 f,.int .i64 r,.sl 0 0 len none],.bool bl],[.ints false .i8 zs]=>some (decide (len=zs.length)&&decide (zs.length<=64),.tup [I (ct f r zs bl).1,I (ct f r zs bl).2],[])
 |_,_=>none
theorem qT:CtOk (GGx kCa kDb) PP (132,wG):=by
 refine aG Tryz.func132 (by kernel_rfl) rfl fun a0 h0 c0 v0 N0 e hc=>?_
 unfold wG at e
 split at e
 ·rename_i f r len bl zs
  cases e
  have hE:=aF (kCa:=kCa) (kDb:=kDb) (cts:=[(158,BU),(159,oD),(134,fR)]) (inl:=[]) ⟨Cr,mU,gA,trivial⟩ trivial
  refine ak hE 2 Tryz.func132 rfl rfl ?_
  simp only[Bool.and_eq_true,decide_eq_true_eq]at hc
  obtain⟨rfl,hc2⟩:=hc
  repeat (first|refine ah ?_|refine sat_nd ?_)
  refine ax (fun h=>?_) (fun h=>?_)
  ·have h:aZ f r zs=false:=by simpa using h
   exact ae (ai (.inr rfl) rfl rfl rfl (by rw[ct,h];rfl))
  have h:aZ f r zs=true:=by simpa using h
  refine ax (fun hb=>?_) (fun hb=>?_)
  ·subst hb
   have hbd:=jW (isV (kgP true)) zs 0 (by omega)
   repeat (first|refine ah ?_|refine sat_nd ?_)
   refine ag (by
    refine rG (K:=bZ (isV (kgP true)) (tk zs) 0) ?_ ?_ hc2
    ·rw[aS];exact hbd.1
    ·rw[aS];have:=hbd.2;omega) ?_
   repeat (first|(first|refine ah ?_|refine sat_nd ?_)|refine ag (qm rfl hc2) ?_)
   refine ax (fun hk=>?_) (fun hk=>?_)
   ·have hk:=gU (zs:=zs) (v:=kgP true) hk
    exact ae (ai (.inr rfl) rfl rfl rfl (by rw[ct,h,show lj zs true=true from hk];rfl))
   ·have hk:=gU (zs:=zs) (v:=kgP true) hk
    exact ae (ai (.inr rfl) rfl rfl rfl (by
     show V.tup [I (bZ (isV (kgP true)) (tk zs) 0),I 0]=_
     rw[aS,ct,h,show lj zs true=false from hk];rfl))
  ·subst hb
   have hbd:=jW (isV (kgP false)) zs 0 (by omega)
   repeat (first|refine ah ?_|refine sat_nd ?_)
   refine ag (by
    refine rG (K:=bZ (isV (kgP false)) (tk zs) 0) ?_ ?_ hc2
    ·rw[aS];exact hbd.1
    ·rw[aS];have:=hbd.2;omega) ?_
   repeat (first|(first|refine ah ?_|refine sat_nd ?_)|refine ag (qm rfl hc2) ?_)
   refine ax (fun hk=>?_) (fun hk=>?_)
   ·have hk:=gU (zs:=zs) (v:=kgP false) hk
    exact ae (ai (.inr rfl) rfl rfl rfl (by rw[ct,h,show lj zs false=true from hk];rfl))
   ·have hk:=gU (zs:=zs) (v:=kgP false) hk
    exact ae (ai (.inr rfl) rfl rfl rfl (by
     show V.tup [I (bZ (isV (kgP false)) (tk zs) 0),I 0]=_
     rw[aS,ct,h,show lj zs false=false from hk];rfl))
 ·cases e
def iC:CF
 |[.agg [.int .i64 f,.int .i64 r,.sl 0 0 len none],.bool bl],[.ints false .i8 zs]=>some (decide (len=zs.length)&&decide (zs.length<=64),.tup [U (bJ f r zs bl).1,I (bJ f r zs bl).2],[])
 |_,_=>none
theorem oz:CtOk (GGx kCa kDb) PP (133,iC):=by
 refine aG Tryz.func133 (by kernel_rfl) rfl fun a0 h0 c0 v0 N0 e hc=>?_
 unfold iC at e
 split at e
 ·rename_i f r len bl zs
  cases e
  have hE:=aF (kCa:=kCa) (kDb:=kDb) (cts:=[(132,wG),(160,gk)]) (inl:=[]) ⟨qT,mg,trivial⟩ trivial
  refine ak hE 2 Tryz.func133 rfl rfl ?_
  simp only[Bool.and_eq_true,decide_eq_true_eq]at hc
  obtain⟨rfl,hc2⟩:=hc
  repeat (first|refine ah ?_|refine sat_nd ?_)
  refine ax (fun h=>?_) (fun h=>?_)
  ·have h:decide ((ct f r zs bl).2=0)=false:=by simpa using h
   exact ae (ai (.inr rfl) rfl rfl rfl (by
    show V.tup [U 0,I (ct f r (tk zs) bl).2]=_
    rw[aS,bJ,h];rfl))
  have h:decide ((ct f r zs bl).2=0)=true:=by simpa using h
  obtain⟨_,_,k3,k4,k5⟩:=Jg (of_decide_eq_true h)
  refine ag (by
   have e:(ct f r (tk zs) bl).1=fz zs bl:=by rw[aS,k3]
   rw[e];simp;omega) ?_
  exact ae (ai (.inr rfl) rfl rfl rfl (by
   show V.tup [U (attR f r (tk zs) (ct f r (tk zs) bl).1 (!bl)),I 0]=_
   rw[aS,bJ,h];rfl))
 ·cases e
end
end Go.Ab
set_option maxHeartbeats 4000000
namespace Go.Ab
open IntKind
open Go.Proofs
section
variable{kCa kDb:Bool}
structure Psn where
 f:Int
 r:Int
 zs:List Int
 bl:Bool
 ca:Int
 pa:Int
 ha:Int
 fu:Int
structure Mov where
 a:Int
 b:Int
 p:Int
abbrev LW(a b:Int):Int:=band .and .u8 a b
def ofP(k:Int)(b:Bool):Int:=bif b then w8 (0-k)else k
def mvB(f r a b p:Int):Bool:=aA f r a&&aA f r b&&!decide (a=b)&&(decide (p=0)||(decide (2<=p)&&decide (p<=5)))
def is88(f r:Int):Bool:=decide (f=8)&&decide (r=8)
def rtX(f r:Int)(zs:List Int)(ca bit:Int)(k q:Nat)(b:Bool):Bool:=!decide (LW ca bit=0)&&((!is88 f r||!decide (zs.getD k 0=ofP 6 b))||!decide (zs.getD q 0=ofP 4 b))
def gj(f r:Int)(zs:List Int)(ca:Int):Bool:=!rtX f r zs ca 1 4 7 false&&!rtX f r zs ca 2 4 0 false&&!rtX f r zs ca 4 60 63 true&&!rtX f r zs ca 8 60 56 true&&decide (ca<16)
def upP(f:Int)(bl:Bool):Int:=bif bl then f else i64.wrap (0-f)
def rkP(r:Int)(bl:Bool):Int:=bif bl then 2 else i64.wrap (r-3)
def jx(f r:Int)(zs:List Int)(bl:Bool)(pa ha:Int):Bool:=decide (pa=-1) ||
 (decide (6<=r)&&decide (ha=0)&&aA f r pa&&decide (i64.wrap (pa.tdiv f)=rkP r bl)&&decide (zs.getD pa.toNat 0=0)&&decide (zs.getD (i64.wrap (pa-upP f bl)).toNat 0=0)&&decide (zs.getD (i64.wrap (pa+upP f bl)).toNat 0=ofP 1 (!bl)))
def gx(f:Int)(zs:List Int):Bool:=!(zs.drop (zs.length-f.toNat)).any (isV 1)&&!(zs.take f.toNat).any (isV (-1))
def fW(f r:Int)(zs:List Int)(bl:Bool):Bool:=decide ((ct f r zs bl).2=0)&&decide ((bJ f r zs (!bl)).2=0)&&decide ((bJ f r zs (!bl)).1=0)
def cntB(ha fu:Int):Bool:=decide (0<=ha)&&decide (ha<=10000)&&decide (1<=fu)&&decide (fu<=10000)
def Psn.ok(p:Psn):Bool:=aL p.f p.r p.zs&&fW p.f p.r p.zs p.bl&&gx p.f p.zs&&gj p.f p.r p.zs p.ca&&jx p.f p.r p.zs p.bl p.pa p.ha&&cntB p.ha p.fu
theorem bS{f r:Int}{zs:List Int}(h:aL f r zs=true):vsB f r=true/\(zs.length:Int)=f*r:=by
 simp only[aL,Bool.and_eq_true,decide_eq_true_eq]at h
 obtain⟨⟨h1,h2⟩,_⟩:=h
 unfold cntR at h1 h2
 cases hv:vsB f r with
 |false=>rw[hv]at h1;simp at h1
 |true=>rw[hv]at h2;exact⟨rfl,by rw[cond_true]at h2;rw[h2];exact ee hv⟩
theorem sE{f r n:Int}{zs:List Int}(h:aL f r zs=true):aA f r n=true↔0<=n/\n<zs.length:=by
 obtain⟨h1,h2⟩:=bS h
 rw[h2]
 exact⟨fun h=>⟨(bT h).1,(bT h).2.1⟩,fun h=>pH h1 h.1 h.2⟩
theorem ID{f r:Int}{zs:List Int}(h:aL f r zs=true)(h8:is88 f r=true):zs.length=64:=by
 have:=(bS h).2
 simp only[is88,Bool.and_eq_true,decide_eq_true_eq]at h8
 obtain⟨rfl,rfl⟩:=h8
 omega
def Fh:CF
 |[.int .i8 k,.bool b],[]=>some (true,.int .i8 (ofP k b),[])
 |_,_=>none
theorem wC:CtOk (GGx kCa kDb) PP (136,Fh):=by
 refine aG Tryz.func136 (by kernel_rfl) rfl fun a0 h0 c0 v0 N0 e hc=>?_
 unfold Fh at e
 split at e
 ·rename_i k b
  cases e
  have hE:=aF (kCa:=kCa) (kDb:=kDb) (cts:=[]) (inl:=[]) trivial trivial
  refine ak hE 2 Tryz.func136 rfl rfl ?_
  repeat' first|(first|refine ah ?_|refine sat_nd ?_)|refine ax (fun h=>?_) (fun h=>?_)
  all_goals exact ae (ai (.inr rfl) rfl rfl rfl (by first|rfl|(simp only[ofP, *,cond_true,cond_false];done)|(simp only[ofP, *,cond_true,cond_false,Bool.not_true,Bool.not_false,Bool.and_true,Bool.true_and,Bool.and_false,Bool.false_and,Bool.or_true,Bool.true_or,Bool.or_false,Bool.false_or];done)|simp_all [ofP]))
 ·cases e
theorem yD:qQ { (EE kCa kDb [] [])with pf:=oJ (EE kCa kDb [] []) [] 1000 4,cc:=true } 3 1000 Tryz.f135 [] []=some (.agg [.int .u8 1,.str [75],.lit false,I 4,I 7,.int .u8 2,.str [81],.lit false,I 4,I 0,.int .u8 4,.str [107],.lit true,I 60,I 63,.int .u8 8,.str [113],.lit true,I 60,I 56],[]):=by kernel_rfl
def jJ:CF
 |[],[]=>some (true,.agg [.int .u8 1,.str [75],.lit false,I 4,I 7,.int .u8 2,.str [81],.lit false,I 4,I 0,.int .u8 4,.str [107],.lit true,I 60,I 63,.int .u8 8,.str [113],.lit true,I 60,I 56],[])
 |_,_=>none
theorem kp:CtOk (GGx kCa kDb) PP (135,jJ):=by
 refine aG Tryz.func135 (by kernel_rfl) rfl fun a0 h0 c0 v0 N0 e hc=>?_
 unfold jJ at e
 split at e
 ·cases e
  exact aj.like (aY (aF (kCa:=kCa) (kDb:=kDb) (cts:=[]) (inl:=[]) trivial trivial) (xs:=[]) trivial 1000 4 Tryz.func135 yD) (fun _ _ h=>h)
 ·cases e
def oT:CF
 |[.agg [.int .i64 f,.int .i64 r],.agg [.int .i64 a,.int .i64 b,.int .i8 pr]],[]=>some (true,.bool (mvB f r a b pr),[])
 |_,_=>none
theorem sY:CtOk (GGx kCa kDb) PP (71,oT):=by
 refine aG Tryz.func71 (by kernel_rfl) rfl fun a0 h0 c0 v0 N0 e hc=>?_
 unfold oT at e
 split at e
 ·rename_i f r a b pr
  cases e
  have hE:=aF (kCa:=kCa) (kDb:=kDb) (cts:=[(75,fb)]) (inl:=[]) ⟨dx,trivial⟩ trivial
  refine ak hE 2 Tryz.func71 rfl rfl ?_
  repeat (first|refine ah ?_|refine sat_nd ?_)
  exact ae (ai (.inr rfl) rfl rfl rfl rfl)
 ·cases e
theorem wF{f r:Int}{zs:List Int}{g:Bool}{k:Int}(h:aL f r zs=true)(h0:0<=k)(h1:k<64):(!(g&&!!is88 f r)||(decide (0<=k)&&decide (k<zs.length)))=true:=by
 cases h8:is88 f r with
 |false=>simp
 |true=>have:=ID h h8;simp;omega
theorem po{f r:Int}{zs:List Int}{g x:Bool}{k:Int}(h:aL f r zs=true)(h0:0<=k)(h1:k<64):(!(g&&!(!is88 f r||x))||(decide (0<=k)&&decide (k<zs.length)))=true:=by
 cases h8:is88 f r with
 |false=>simp
 |true=>have:=ID h h8;simp;omega
def fN:CF
 |[.agg [.int .i64 f,.int .i64 r,.sl 0 0 len none,.bool _bl,.int .u8 ca,.int .i64 _pa,.int .i64 _ha,.int .i64 _fu]],[.ints false .i8 zs]=>some (decide (len=zs.length)&&decide (zs.length<=64)&&aL f r zs,.bool (gj f r zs ca),[])
 |_,_=>none
theorem gZ:CtOk (GGx kCa kDb) PP (89,fN):=by
 refine aG Tryz.func89 (by kernel_rfl) rfl fun a0 h0 c0 v0 N0 e hc=>?_
 unfold fN at e
 split at e
 ·rename_i f r len bl ca pa ha fu zs
  cases e
  have hE:=aF (kCa:=kCa) (kDb:=kDb) (cts:=[(135,jJ),(136,Fh)]) (inl:=[]) ⟨kp,wC,trivial⟩ trivial
  refine ak hE 2 Tryz.func89 rfl rfl ?_
  simp only[Bool.and_eq_true,decide_eq_true_eq]at hc
  obtain⟨⟨rfl,hc2⟩,hbd⟩:=hc
  repeat (first|refine ah ?_|refine sat_nd ?_)
  refine dn hE 2 5 ?_
  refine rnd ?_
  refine ck (by rfl) ?_
  repeat (first|(first|refine ah ?_|refine sat_nd ?_)|refine ag (wF hbd (by omega) (by omega)) ?_|refine ag (po hbd (by omega) (by omega)) ?_)
  refine ax (fun h0=>?_) (fun h0=>?_)
  ·have h0:rtX f r zs ca 1 4 7 false=true:=h0
   exact ae (ae (ai (.inr rfl) rfl rfl rfl (by simp[gj,h0])))
  have h0:rtX f r zs ca 1 4 7 false=false:=h0
  refine ae ⟨[(1,.ptr 1 0 0),(5,.agg [.int .u8 1,.str [75],.lit false,I 4,I 7,.int .u8 2,.str [81],.lit false,I 4,I 0,.int .u8 4,.str [107],.lit true,I 60,I 63,.int .u8 8,.str [113],.lit true,I 60,I 56]),(6,I 1)],[.ints false .i8 zs,.cells true [I f,I r,.sl 0 0 zs.length none,Bb bl,.int .u8 ca,I pa,I ha,I fu]],Ent.ren [0,1] [1,5,6] rfl rfl rfl,?_⟩
  refine rnd ?_
  refine ck (by rfl) ?_
  repeat (first|(first|refine ah ?_|refine sat_nd ?_)|refine ag (wF hbd (by omega) (by omega)) ?_|refine ag (po hbd (by omega) (by omega)) ?_)
  refine ax (fun h1=>?_) (fun h1=>?_)
  ·have h1:rtX f r zs ca 2 4 0 false=true:=h1
   exact ae (ae (ai (.inr rfl) rfl rfl rfl (by simp[gj,h1])))
  have h1:rtX f r zs ca 2 4 0 false=false:=h1
  refine ae ⟨[(1,.ptr 1 0 0),(5,.agg [.int .u8 1,.str [75],.lit false,I 4,I 7,.int .u8 2,.str [81],.lit false,I 4,I 0,.int .u8 4,.str [107],.lit true,I 60,I 63,.int .u8 8,.str [113],.lit true,I 60,I 56]),(6,I 2)],[.ints false .i8 zs,.cells true [I f,I r,.sl 0 0 zs.length none,Bb bl,.int .u8 ca,I pa,I ha,I fu]],Ent.ren [0,1] [1,5,6] rfl rfl rfl,?_⟩
  refine rnd ?_
  refine ck (by rfl) ?_
  repeat (first|(first|refine ah ?_|refine sat_nd ?_)|refine ag (wF hbd (by omega) (by omega)) ?_|refine ag (po hbd (by omega) (by omega)) ?_)
  refine ax (fun h2=>?_) (fun h2=>?_)
  ·have h2:rtX f r zs ca 4 60 63 true=true:=h2
   exact ae (ae (ai (.inr rfl) rfl rfl rfl (by simp[gj,h2])))
  have h2:rtX f r zs ca 4 60 63 true=false:=h2
  refine ae ⟨[(1,.ptr 1 0 0),(5,.agg [.int .u8 1,.str [75],.lit false,I 4,I 7,.int .u8 2,.str [81],.lit false,I 4,I 0,.int .u8 4,.str [107],.lit true,I 60,I 63,.int .u8 8,.str [113],.lit true,I 60,I 56]),(6,I 3)],[.ints false .i8 zs,.cells true [I f,I r,.sl 0 0 zs.length none,Bb bl,.int .u8 ca,I pa,I ha,I fu]],Ent.ren [0,1] [1,5,6] rfl rfl rfl,?_⟩
  refine rnd ?_
  refine ck (by rfl) ?_
  repeat (first|(first|refine ah ?_|refine sat_nd ?_)|refine ag (wF hbd (by omega) (by omega)) ?_|refine ag (po hbd (by omega) (by omega)) ?_)
  refine ax (fun h3=>?_) (fun h3=>?_)
  ·have h3:rtX f r zs ca 8 60 56 true=true:=h3
   exact ae (ae (ai (.inr rfl) rfl rfl rfl (by simp[gj,h3])))
  have h3:rtX f r zs ca 8 60 56 true=false:=h3
  refine ae ⟨[(1,.ptr 1 0 0),(5,.agg [.int .u8 1,.str [75],.lit false,I 4,I 7,.int .u8 2,.str [81],.lit false,I 4,I 0,.int .u8 4,.str [107],.lit true,I 60,I 63,.int .u8 8,.str [113],.lit true,I 60,I 56]),(6,I 4)],[.ints false .i8 zs,.cells true [I f,I r,.sl 0 0 zs.length none,Bb bl,.int .u8 ca,I pa,I ha,I fu]],Ent.ren [0,1] [1,5,6] rfl rfl rfl,?_⟩
  refine rnd ?_
  refine vS (by rfl) ?_
  refine ae (ae (ai (.inr rfl) rfl rfl rfl (by simp[gj,h0,h1,h2,h3])))
 ·cases e
end
end Go.Ab
namespace Go.Ab
open Go.Proofs
theorem EV{p:Int}(h:-6<=p/\p<=6):absP p=p.natAbs:=by
 have hw:w8 (0-p)=-p:=by
  have hb:IntKind.i8.bits=8:=rfl
  have:∀ q:_root_.Fin 13,w8 (0-((q.val:Int)-6))=-((q.val:Int)-6):=by decide +kernel
  have h2:=this ⟨(p+6).toNat,by omega⟩
  simp only at h2
  rwa [show (((p+6).toNat:Int)-6)=p by omega]at h2
 unfold absP
 rw[hw]
 unfold imax
 by_cases h1:p < -p<;>simp[h1]<;>omega
end Go.Ab
