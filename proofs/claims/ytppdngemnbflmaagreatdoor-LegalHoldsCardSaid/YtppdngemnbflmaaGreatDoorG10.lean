/- Contracts of the functions that the laws reach, and plain laws of what they compute (text G10); no condition. -/
import Derived.Test.YtppdngemnbflmaaGreatDoorG9
import Derived.Test.YtppdngemnbflmaaGreatDoorG3
import Derived.Test.YtppdngemnbflmaaGreatDoorG4
set_option maxRecDepth 100000
set_option maxHeartbeats 4000000
namespace Go.Ab
open IntKind
open Go.Proofs
section
variable{kCa:Bool}
def tzf(x:Int):Int:=(tz x).getD 0
def eL(x:Int):Int:=uand x (u64.wrap (x-1))
theorem e58:(2:Int)^Min.min (Int.toNat 58) u64.bits=288230376151711744:=by decide
theorem w0(y:Int):0<=u64.wrap y/\u64.wrap y<18446744073709551616:=by
 rw[jb]
 exact⟨Int.emod_nonneg _ (by decide),Int.emod_lt_of_pos _ (by decide)⟩
theorem d58(z:Int)(h2:0<=z/\z<18446744073709551616):(decide (0<=z.fdiv 288230376151711744)&&decide (z.fdiv 288230376151711744<Int.ofNat 64))=true:=by
 have h3:z.fdiv 288230376151711744=z/288230376151711744:=Int.fdiv_eq_ediv_of_nonneg _ (by decide)
 rw[h3]
 have h4:decide (0<=z/288230376151711744)=true:=by simp;omega
 have h5:decide (z/288230376151711744<Int.ofNat 64)=true:=by
  rw[decide_eq_true_eq];show z/288230376151711744<64;omega
 rw[h4,h5];rfl
theorem IS(x:Int):(tz x).isSome=true:=by
 unfold tz
 cases decide (x=0)
 ·rw[cond_false,e58,d58 _ (w0 _)];rfl
 ·rfl
def iD:Nat->Int->List Int
 |0,_=>[]
 |k+1,s=>bif decide (s=0) then[]else tzf s::iD k (eL s)
def lO(s:Int):List Int:=iD 66 s
theorem tS(x:Int):Uk (eL x):=pQ _ _
theorem Jb(n:Nat)(h:n≠0):∃ t k,n=2^t*(2*k+1):=by
 induction n using Nat.strongRecOn with
 |_ n ih=>
  by_cases ho:n%2=1
  ·exact⟨0,n/2,by omega⟩
  ·obtain⟨t,k,e⟩:=ih (n/2) (by omega) (by omega)
   exact⟨t+1,k,by rw[Nat.pow_succ,Nat.mul_assoc,Nat.mul_comm 2,<-Nat.mul_assoc,<-e];omega⟩
theorem sy(t k j:Nat):(2^t*(2*k+1)).testBit j=(decide (t<=j)&&(decide (j=t)||k.testBit (j-t-1))):=by
 rw[Nat.testBit_two_pow_mul]
 by_cases h:t<=j
 ·by_cases e:j=t
  ·subst e;simp
  ·obtain⟨i,rfl⟩:∃ i,j=t+1+i:=⟨j-t-1,by omega⟩
   have e1:t+1+i-t=i+1:=by omega
   have e2:t+1+i-t-1=i:=by omega
   rw[e1]
   have e3:(2*k+1).testBit (i+1)=k.testBit i:=by rw[Nat.testBit_succ];congr 1;omega
   simp only[e3,decide_eq_true h,decide_eq_false e,Bool.true_and,Bool.false_or,Nat.add_sub_cancel]
 ·simp[h]
theorem ya(t k j:Nat):(2^t*(2*k+1)-1).testBit j=(decide (j<t)||(!decide (j=t)&&k.testBit (j-t-1))):=by
 have hp:0<2^t:=Nat.two_pow_pos t
 have e:2^t*(2*k+1)-1=2^t*(2*k)+(2^t-1):=by rw[Nat.mul_add];omega
 rw[e,Nat.testBit_two_pow_mul_add _ (by omega)]
 by_cases h:j<t
 ·rw[if_pos h,Nat.testBit_two_pow_sub_one];simp[h]
 ·rw[if_neg h]
  by_cases e2:j=t
  ·subst e2;simp
  ·obtain⟨i,rfl⟩:∃ i,j=t+1+i:=⟨j-t-1,by omega⟩
   have e1:t+1+i-t=i+1:=by omega
   have e4:t+1+i-t-1=i:=by omega
   rw[e1,Nat.testBit_succ,show 2*k/2=k by omega]
   simp only[decide_eq_false h,decide_eq_false e2,Bool.false_or,Bool.not_false,Bool.true_and,Nat.add_sub_cancel]
theorem Ij{x:Int}(hu:Uk x)(h0:x≠0):∃ t k:Nat,t<64/\x.toNat=2^t*(2*k+1):=by
 obtain⟨t,k,e⟩:=Jb x.toNat (by have:=hu.1;omega)
 refine⟨t,k,?_,e⟩
 refine Decidable.byContradiction fun h=>?_
 have h1:2^64<=2^t:=Nat.pow_le_pow_right (by decide) (by omega)
 have h2:2^t<=x.toNat:=by rw[e];exact Nat.le_mul_of_pos_right _ (by omega)
 have:=hu.2
 omega
theorem Ko{t:Nat}(ht:t<64):Uk ((2^t:Nat):Int):=by
 have:(2:Nat)^t<2^64:=Nat.pow_lt_pow_right (by decide) ht
 exact⟨Int.natCast_nonneg _,by omega⟩
theorem IK{x:Int}(hu:Uk x){t k:Nat}(ht:t<64)(e:x.toNat=2^t*(2*k+1)):uand x (u64.wrap (0-x))=((2^t:Nat):Int):=by
 have hw:Uk (u64.wrap (0-x)):=w0 _
 have hp:0<2^t:=Nat.two_pow_pos t
 have hpos:0<x.toNat:=by rw[e];exact Nat.mul_pos hp (by omega)
 have hn:(u64.wrap (0-x)).toNat=2^64-(x.toNat-1+1):=by
  rw[jb]
  have h1:=hu.1
  have h2:=hu.2
  have:(0-x)%18446744073709551616=18446744073709551616-x:=by omega
  rw[this];omega
 refine lj (pQ _ _) (Ko ht) fun j hj=>?_
 rw[ji hu hw]
 unfold bt
 rw[hn,Nat.testBit_two_pow_sub_succ (by have:=hu.2;omega),e,sy,ya,Int.toNat_natCast,Nat.testBit_two_pow]
 by_cases h1:j<t
 ·rw[decide_eq_true h1,decide_eq_false (show ¬ t<=j by omega),decide_eq_false (show ¬ t=j by omega)];rfl
 ·by_cases h2:j=t
  ·rw[decide_eq_false h1,decide_eq_true h2,decide_eq_true (show t<=j by omega),decide_eq_true hj,decide_eq_true h2.symm];rfl
  ·rw[decide_eq_false h1,decide_eq_false h2,decide_eq_true (show t<=j by omega),decide_eq_true hj,decide_eq_false (show ¬ t=j by omega)]
   cases k.testBit (j-t-1)<;>rfl
theorem EG:∀ t:_root_.Fin 64,i64.wrap (zV.getD ((u64.wrap (((2^t.val:Nat):Int)*285870213051353865)).fdiv 288230376151711744).toNat 0)=((t.val:Nat):Int):=by decide +kernel
theorem Bf(v:Int):(bE true (some v)).getD 0=v:=rfl
theorem Ht{x:Int}(h:x≠0){z:Int}(hz:band Go.BinOp.and u64 x (u64.wrap (0-x))=z):tzf x=i64.wrap (zV.getD ((u64.wrap (z*285870213051353865)).fdiv 288230376151711744).toNat 0):=by
 unfold tzf tz
 rw[decide_eq_false h,cond_false,e58,d58 _ (w0 _),Bf,hz]
theorem Im{x:Int}(hu:Uk x){t k:Nat}(ht:t<64)(e:x.toNat=2^t*(2*k+1)):tzf x=t:=by
 have hp:0<2^t:=Nat.two_pow_pos t
 have hpos:0<x.toNat:=by rw[e];exact Nat.mul_pos hp (by omega)
 exact(Ht (by omega) (IK hu ht e)).trans (EG ⟨t,ht⟩)
theorem vc{x:Int}(hu:Uk x){t k:Nat}(_ht:t<64)(e:x.toNat=2^t*(2*k+1))(j:Nat):bt (eL x) j=(bt x j&&!decide (j=t)):=by
 have hp:0<2^t:=Nat.two_pow_pos t
 have hpos:0<x.toNat:=by rw[e];exact Nat.mul_pos hp (by omega)
 have h1:=hu.1
 have h2:=hu.2
 have hw:u64.wrap (x-1)=x-1:=sU ⟨by omega,by omega⟩
 unfold eL
 rw[hw,ji hu ⟨by omega,by omega⟩]
 unfold bt
 rw[show (x-1).toNat=x.toNat-1 by omega,e,sy,ya]
 by_cases h1:j<t
 ·rw[decide_eq_true h1,decide_eq_false (show ¬ t<=j by omega)];rfl
 ·by_cases h2:j=t
  ·rw[decide_eq_false h1,decide_eq_true h2];simp
  ·rw[decide_eq_false h1,decide_eq_false h2,decide_eq_true (show t<=j by omega)]
   cases k.testBit (j-t-1)<;>rfl
def bitL(x:Int):List Int:=((List.range 64).filter (bt x)).map Int.ofNat
theorem filter_none{α:Type}{p:α->Bool}{l:List α}(h:∀ a∈l,p a=false):l.filter p=[]:=by
 rw[List.filter_eq_nil_iff];exact fun a ha=>by rw[h a ha];decide
theorem mK{x:Int}(hu:Uk x){t k:Nat}(ht:t<64)(e:x.toNat=2^t*(2*k+1)):bitL x=(t:Int)::bitL (eL x):=by
 have hr:List.range 64=List.range' 0 t++t::List.range' (t+1) (63-t):=by
  rw[List.range_eq_range',show 64=t+(1+(63-t)) by omega,<-List.range'_append_1,<-List.range'_append_1]
  simp[Nat.add_comm]
 have hlow:∀ j∈List.range' 0 t,bt x j=false:=by
  intro j hj
  have:=List.mem_range'_1.1 hj
  unfold bt
  rw[e,sy,decide_eq_false (show ¬ t<=j by omega)];rfl
 have ht1:bt x t=true:=by unfold bt;rw[e,sy];simp
 unfold bitL
 rw[hr,List.filter_append,List.filter_append,filter_none hlow,filter_none (p:=bt (eL x)) (l:=List.range' 0 t) (fun j hj=>by rw[vc hu ht e,hlow j hj];rfl),List.filter_cons,List.filter_cons,ht1,vc hu ht e,ht1]
 have h2:(List.range' (t+1) (63-t)).filter (bt (eL x))=(List.range' (t+1) (63-t)).filter (bt x):=by
  refine List.filter_congr fun j hj=>?_
  have:=List.mem_range'_1.1 hj
  rw[vc hu ht e,decide_eq_false (show ¬ j=t by omega)];simp
 rw[h2]
 simp
theorem JP:bitL 0=[]:=by unfold bitL;rw[filter_none fun j _=>bt_0 j];rfl
theorem mz(x:Int):(bitL x).length<=64:=by
 unfold bitL
 rw[List.length_map]
 exact Nat.le_trans (List.length_filter_le _ _) (by simp)
theorem DC:∀ (n:Nat) {x:Int},Uk x->(bitL x).length<n->iD n x=bitL x
 |0,_,_,h=>absurd h (by omega)
 |n+1,x,hu,h=>by
  unfold iD
  by_cases h0:x=0
  ·subst h0;rw[JP];rfl
  ·obtain⟨t,k,ht,e⟩:=Ij hu h0
   have hc:=mK hu ht e
   rw[hc]at h ⊢
   rw[decide_eq_false h0,cond_false,Im hu ht e,DC n (tS x) (by simpa using h)]
theorem yG{x:Int}(hu:Uk x):lO x=bitL x:=DC 66 hu (by have:=mz x;omega)
theorem xw(s:Int):kX (GGx kCa true) PP 113 [[U s]] ((lO s).map fun x=>[I x]):=by
 have hE:=aC (kCa:=kCa) (kDb:=true) (cts:=[(114,c_tz)]) (inl:=[]) ⟨Hs,trivial⟩ trivial
 refine yB hE Tryz.func113 rfl rfl rfl rfl fun nn l S0 ρc J ok=>?_
 refine YG.seq (YG.seg hE 2 ?_)
 repeat (first|refine ah ?_|refine sat_nd ?_)
 refine ae ?_
 refine YG.block (YG.loop (fun a:Nat×Int=>(some a.1,[(0,.yl 1),(1,.ptr 0 0 0),(3,U a.2)],hp0 [[U s]]))
  (fun a=>a.1<=(lO s).length/\a.1<=65/\(lO s).drop a.1=iD (66-a.1) a.2/\(a.1=0\/(Uk a.2/\(bitL a.2).length+a.1<=65)))
  (fun a=>66-a.1) (0,s) rfl (Ent.ren [0,1] [0,1,3] rfl rfl rfl) ⟨Nat.zero_le _,Nat.zero_le _,rfl,.inl rfl⟩ ?_)
 rintro⟨i,x⟩ ⟨i1,i2,i3,i4⟩
 dsimp only at i1 i2 i3 i4 ⊢
 refine YG.seq (YG.seg hE 2 ?_)
 repeat (first|refine ah ?_|refine sat_nd ?_)
 refine aq (fun h1=>ae ?_) (fun h1=>ae ?_)
 ·have h0:x≠0:=by simpa using h1
  have hi:i<=64:=by
   rcases i4 with h|⟨hu,h⟩
   ·omega
   ·obtain⟨t,k,ht,e⟩:=Ij hu h0
    rw[mK hu ht e,List.length_cons]at h
    omega
  have hgo:iD (66-i) x=tzf x::iD (66-(i+1)) (eL x):=by
   rw[show 66-i=(66-(i+1))+1 by omega,iD,decide_eq_false h0,cond_false]
  rw[hgo]at i3
  have hlt:i<(lO s).length:=by
   have:=congrArg List.length i3
   simp only[List.length_drop,List.length_cons]at this
   omega
  have hat:(lO s)[i]?=some (tzf x):=by
   have:=congrArg (fun l:List Int=>l[0]?) i3
   simpa using this
  have hdr:(lO s).drop (i+1)=iD (66-(i+1)) (eL x):=by
   have:=congrArg (List.drop 1) i3
   simpa[List.drop_drop,Nat.add_comm]using this
  refine YG.seq (YG.block (YG.seq (YG.yregAt ok 2 3 rfl rfl rfl ?_)))
  repeat (first|(first|refine ah ?_|refine sat_nd ?_)|refine ag (by simp[IS]) ?_)
  refine ae ?_
  refine⟨i,[I (tzf x)],[0,1,3],rfl,by simp[hat],rfl,rfl,rfl,rfl,fun b=>?_⟩
  cases b with
  |true=>
   refine ae ?_
   refine YG.seg hE 2 ?_
   refine ae ?_
   refine YG.seg hE 2 ?_
   repeat (first|refine ah ?_|refine sat_nd ?_)
   refine ae ⟨(i+1,eL x),?_,?_,rfl,Ent.ren [0,1] [0,1,3] rfl rfl rfl⟩
   ·dsimp only
    refine⟨hlt,by omega,hdr,.inr ⟨tS x,?_⟩⟩
    rcases i4 with h|⟨hu,h⟩
    ·have:=mz (eL x);omega
    ·obtain⟨t,k,ht,e⟩:=Ij hu h0
     rw[mK hu ht e,List.length_cons]at h
     omega
   ·dsimp only;omega
  |false=>
   refine ae ?_
   refine YG.seg hE 2 ?_
   exact ae ⟨.inr rfl,.inr rfl⟩
 ·have h0:x=0:=by simpa using h1
  rw[h0]at i3
  have hlen:i=(lO s).length:=by
   have:iD (66-i) 0=[]:=by rw[show 66-i=(65-i)+1 by omega];rfl
   rw[this]at i3
   have:=congrArg List.length i3
   simp only[List.length_drop,List.length_nil]at this
   omega
  exact⟨.inl rfl,.inl (by simp[<-hlen])⟩
end
section
variable{kCa kDb:Bool}
def eu:Int->Int->List (List Int)×Int->Option (List (List Int)×Int ⊕ List (List Int) ⊕ List (List Int) ⊕ List (List Int) ⊕ List (List Int)):=fun(at_ e4:Int) (s25:List (List Int)×Int)=>let x39:=(s25.1.length+1)*24;bif decide (s25.2<=5)then bE (decide (x39<=140737488355328)) (some (Sum.inl (s25.1++List.take 1 (List.drop 0 [iL [at_,e4,s25.2]]),i8.wrap (s25.2+1))))else some (Sum.inr (Sum.inl s25.1))
def sn:Sgt->Int->(Int->Int->List (List Int)×Int->Option (List (List Int)×Int ⊕ List (List Int) ⊕ List (List Int) ⊕ List (List Int) ⊕ List (List Int)))->Int->List (List Int)->Option (List (List Int) ⊕ List (List Int) ⊕ List (List Int)):=fun(s:Sgt) (at_:Int) (eu:Int->Int->List (List Int)×Int->Option (List (List Int)×Int ⊕ List (List Int) ⊕ List (List Int) ⊕ List (List Int) ⊕ List (List Int)))=>let x42:=Sgt.mk (Psn.mk s.p.f s.p.r (List.take s.p.zs.length (List.drop 0 s.p.zs)) s.p.bl s.p.ca s.p.pa s.p.ha s.p.fu) s.own s.all;let x43:=(vm (s.p.zs.getD at_.toNat 0)).getD 0;let x41:=!decide (x43=1);fun(e4:Int) (s20:List (List Int))=>let x46:=(s20.length+1)*24;bE (decide (0<=at_)&&decide (at_<Int.ofNat s.p.zs.length)) (fF (vm (s.p.zs.getD at_.toNat 0)) Inhabited.default fun(_y21:Int)=>bE (!!x41||(Af x42 e4).isSome) (bif x41||!(Af x42 e4).getD false then bE (decide (x46<=140737488355328)) (some (Sum.inl (s20++List.take 1 (List.drop 0 [iL [at_,e4,0]]))))else ew (eu at_ e4) (fun(s33:List (List Int))=>some (Sum.inl s33)) 1000000 (s20,2)))
def yX(s:Sgt)(at_:Int):Option (List (List Int)):=let x50:=band Go.BinOp.and u64 (s.own.fdiv (2^Min.min at_.toNat u64.bits)) 1;bE (decide (0<=at_)) (bif decide (x50=0)then some []else fF (dB (Sgt.mk (Psn.mk s.p.f s.p.r (List.take s.p.zs.length (List.drop 0 s.p.zs)) s.p.bl s.p.ca s.p.pa s.p.ha s.p.fu) s.own s.all) at_) 0 fun(y3:Int)=>ef (sn s at_ eu) (fun(s20:List (List Int))=>some s20) (fun(_s20:List (List Int))=>none) (lO y3) [])
def wV(R:List (List Int)):V:=.sl 1 0 R.length none
def wh(R:List (List Int)):List O:=[.rows true [.i64,.i64,.i8] R]
def rE:CF
 |[.agg [.int .i64 s_0,.int .i64 s_1,.sl 0 0 s_2n none,.bool s_3,.int .u8 s_4,.int .i64 s_5,.int .i64 s_6,.int .i64 s_7,.int .u64 s_8,.int .u64 s_9],.int .i64 at__0],[.ints false .i8 s_2]=>retC (decide (s_2n=s_2.length)) (yX ⟨⟨s_0,s_1,s_2,s_3,s_4,s_5,s_6,s_7⟩,s_8,s_9⟩ at__0) [] wV wh
 |_,_=>none
theorem BA(s:Sgt)(at_:Int){r}(hr:yX s at_=some r):aS (GGx kCa true) PP 64 [.agg [.int .i64 s.p.f,.int .i64 s.p.r,.sl 0 0 s.p.zs.length none,Bb s.p.bl,.int .u8 s.p.ca,.int .i64 s.p.pa,.int .i64 s.p.ha,.int .i64 s.p.fu,.int .u64 s.own,.int .u64 s.all],.int .i64 at_] [.ints false .i8 s.p.zs] (wV r) (wh r):=by
 have hE:=cutE (aC (kCa:=kCa) (kDb:=true) (cts:=[(116,rF),(115,kj),(117,wv)]) (inl:=[(63,Tryz.f63)]) ⟨pJ,qA,Ae,trivial⟩ ⟨⟨Tryz.func63,by kernel_rfl⟩,trivial⟩)
 refine fy hE 2 Tryz.func64 rfl rfl wV wh hr ?_ rfl rfl
 refine ct ?_
 refine aP hE 2 rfl ?_ ?_
 ·exact aY (vl 4 (.rows true [.i64,.i64,.i8] []) rfl rfl rfl<|bp [3] (.inr rfl) rfl rfl rfl rfl rfl)
 refine bJ (pl (decide_eq_true (bL rfl)) id) ?_
 refine xF hE 2 5 (fun(s20:List (List Int))=>[O.ints false i8 s.p.zs,O.cells true [I s.p.f,I s.p.r,V.sl 0 0 s.p.zs.length none,Bb s.p.bl,V.int u8 s.p.ca,I s.p.pa,I s.p.ha,I s.p.fu,U s.own,U s.all],O.cells true [I at_],O.cells true [V.sl 5 0 s20.length none],O.cells true [U ((dB (Sgt.mk (Psn.mk s.p.f s.p.r (List.take s.p.zs.length (List.drop 0 s.p.zs)) s.p.bl s.p.ca s.p.pa s.p.ha s.p.fu) s.own s.all) at_).getD 0)],O.rows true [i64,i64,i8] s20]) (fun(s20:List (List Int))=>[O.ints false i8 s.p.zs,O.cells true [I s.p.f,I s.p.r,V.sl 0 0 s.p.zs.length none,Bb s.p.bl,V.int u8 s.p.ca,I s.p.pa,I s.p.ha,I s.p.fu,U s.own,U s.all],O.cells true [I at_],O.cells true [V.sl 5 0 s20.length none],O.cells true [U ((dB (Sgt.mk (Psn.mk s.p.f s.p.r (List.take s.p.zs.length (List.drop 0 s.p.zs)) s.p.bl s.p.ca s.p.pa s.p.ha s.p.fu) s.own s.all) at_).getD 0)],O.rows true [i64,i64,i8] s20]) 0 (lO ((dB (Sgt.mk (Psn.mk s.p.f s.p.r (List.take s.p.zs.length (List.drop 0 s.p.zs)) s.p.bl s.p.ca s.p.pa s.p.ha s.p.fu) s.own s.all) at_).getD 0)) (fun(e4:Int)=>[I e4]) (fun(e4:Int) (s20:List (List Int))=>(6,I e4)::putPs (#[18]:Array Nat).toList [I e4] [(2,V.ptr 1 0 0),(3,V.ptr 2 0 0),(4,V.nils),(5,V.ptr 3 0 0),(17,V.fn 113 [V.ptr 4 0 0])]) [4] [2,3,4,5,17] ((Ent.rn [0,1,2,3,4] [2,3,4,5,17] rfl rfl rfl rfl rfl).trans ((Ent.phC 3 0 (O.rows true [i64,i64,i8] []) rfl rfl rfl rfl rfl).trans (Ent.rn [0,1,2,3,4,5] [2,3,4,5,17] rfl rfl rfl rfl rfl))) (xw _) (fun _=>rfl) (ent Tryz.func113 (by kernel_rfl) rfl) rfl rfl rfl rfl rfl rfl (fun _=>rfl) (fun _=>rfl) (fun _ _=>rfl) (fun e4 s20=>?_) (fun s20=>?_) (fun s20=>vz)
 ·refine ct ?_
  refine bJ (pl rfl id) ?_
  refine ak (Bool.not_or_self _) ?_
  refine ak (Bool.not_or_self _) ?_
  refine eS (pi (pl (decide_eq_true (bL rfl)) id)) ?_
  refine ak (Bool.not_or_self _) ?_
  refine ak (Bool.or_not_self _) ?_
  refine aP hE 2 rfl ?_ ?_
  ·refine eS (pr (pl (decide_eq_true rfl) id) rfl) ?_
   exact rh ((Ent.rn [0,1,2,3,4,7] [] rfl rfl rfl rfl rfl))
  refine gD hE 2 (fun(s25:List (List Int)×Int)=>([(3,V.ptr 2 0 0),(5,V.ptr 3 0 0),(6,I e4),(7,V.int i8 s25.2)],[O.ints false i8 s.p.zs,O.cells true [I s.p.f,I s.p.r,V.sl 0 0 s.p.zs.length none,Bb s.p.bl,V.int u8 s.p.ca,I s.p.pa,I s.p.ha,I s.p.fu,U s.own,U s.all],O.cells true [I at_],O.cells true [V.sl 5 0 s25.1.length none],O.cells true [U ((dB (Sgt.mk (Psn.mk s.p.f s.p.r (List.take s.p.zs.length (List.drop 0 s.p.zs)) s.p.bl s.p.ca s.p.pa s.p.ha s.p.fu) s.own s.all) at_).getD 0)],O.rows true [i64,i64,i8] s25.1])) (fun(s33:List (List Int))=>([],[O.ints false i8 s.p.zs,O.cells true [I s.p.f,I s.p.r,V.sl 0 0 s.p.zs.length none,Bb s.p.bl,V.int u8 s.p.ca,I s.p.pa,I s.p.ha,I s.p.fu,U s.own,U s.all],O.cells true [I at_],O.cells true [V.sl 5 0 s33.length none],O.cells true [U ((dB (Sgt.mk (Psn.mk s.p.f s.p.r (List.take s.p.zs.length (List.drop 0 s.p.zs)) s.p.bl s.p.ca s.p.pa s.p.ha s.p.fu) s.own s.all) at_).getD 0)],O.rows true [i64,i64,i8] s33])) (.exit 2) ((Ent.rn [0,1,2,3,4,5] [3,5,6,7] rfl rfl rfl rfl rfl)) (fun s25=>?_) (fun s33=>?_)
  ·refine aP hE 2 rfl ?_ ?_
   ·refine eS (pr (pl (decide_eq_true rfl) id) rfl) ?_
    exact fY ((Ent.rn [0,1,2,3,4,7] [3,5,6,7] rfl rfl rfl rfl rfl))
   exact gF ((Ent.rn [0,1,2,3,4,5] [] rfl rfl rfl rfl rfl))
  exact rh ((Ent.rn [0,1,2,3,4,5] [] rfl rfl rfl rfl rfl))
 exact aY (bp [5] (.inr rfl) rfl rfl rfl rfl rfl)
theorem pY:CtOk (GGx kCa true) PP (64,rE):=by
 refine aE Tryz.func64 (by kernel_rfl) rfl fun a0 h0 c0 v0 N0 e hc=>?_
 unfold rE at e
 split at e
 ·rename_i s_0 s_1 s_2n s_3 s_4 s_5 s_6 s_7 s_8 s_9 at__0 s_2
  obtain⟨hl,r,hr,rfl,rfl⟩:=cO e hc
  simp only[decide_eq_true_eq]at hl
  obtain rfl:=hl
  exact BA ⟨⟨s_0,s_1,s_2,s_3,s_4,s_5,s_6,s_7⟩,s_8,s_9⟩ at__0 hr
 ·cases e
def nc:Psn->Sgt->Int->List (List Int)->Option (List (List Int) ⊕ List (List Int) ⊕ List (List Int)×Int):=fun(p:Psn) (y2:Sgt)=>let x13:=(List.take y2.p.zs.length (List.drop 0 p.zs)).length;fun(e3:Int) (s7:List (List Int))=>bE (decide (y2.p.zs.length=x13)) (fF (yX (Sgt.mk (Psn.mk y2.p.f y2.p.r (List.take y2.p.zs.length (List.drop 0 p.zs)) y2.p.bl y2.p.ca y2.p.pa y2.p.ha y2.p.fu) y2.own y2.all) e3) [] fun(y8:List (List Int))=>let x17:=(s7.length+y8.length)*24;bE (decide (x17<=140737488355328)&&!Nat.beq 4 (1-hlen ([]++[O.ints false i8 (List.take y2.p.zs.length (List.drop 0 p.zs))])+4+1)) (some (Sum.inl (s7++List.take y8.length (List.drop 0 y8)))))
def jR(p:Psn):Option (List (List Int)×Int):=let x21:=List.take p.zs.length (List.drop 0 p.zs);let x19:=Psn.mk p.f p.r x21 p.bl p.ca p.pa p.ha p.fu;let x20:=x21.length;bE (decide (x20<=64)) (bif !x19.ok then some ([],2)else fF (si x19) (Sgt.mk (Psn.mk 0 0 [] false 0 0 0 0) 0 0) fun(y2:Sgt)=>ef (nc p y2) (fun(s7:List (List Int))=>some (s7,0)) (fun(_s7:List (List Int))=>none) (lO y2.own) [])
def rI(R:List (List Int)×Int):V:=.tup [.sl 1 0 R.1.length none,.int .i64 R.2]
def qv(R:List (List Int)×Int):List O:=[.rows true [.i64,.i64,.i8] R.1]
def jx:CF
 |[.agg [.int .i64 p_0,.int .i64 p_1,.sl 0 0 p_2n none,.bool p_3,.int .u8 p_4,.int .i64 p_5,.int .i64 p_6,.int .i64 p_7]],[.ints false .i8 p_2]=>retC (decide (p_2n=p_2.length)) (jR ⟨p_0,p_1,p_2,p_3,p_4,p_5,p_6,p_7⟩) ([],0) rI qv
 |_,_=>none
theorem yO(p:Psn){r}(hr:jR p=some r):aS (GGx kCa true) PP 30 [.agg [.int .i64 p.f,.int .i64 p.r,.sl 0 0 p.zs.length none,Bb p.bl,.int .u8 p.ca,.int .i64 p.pa,.int .i64 p.ha,.int .i64 p.fu]] [.ints false .i8 p.zs] (rI r) (qv r):=by
 have hE:=cutE (aC (kCa:=kCa) (kDb:=true) (cts:=[(60,hO),(62,ry),(64,rE)]) (inl:=[(63,Tryz.f63)]) ⟨gm,pP,pY,trivial⟩ ⟨⟨Tryz.func63,by kernel_rfl⟩,trivial⟩)
 refine fy hE 2 Tryz.func30 rfl rfl rI qv hr ?_ rfl rfl
 refine eS (pl (decide_eq_true (bL rfl)) id) ?_
 refine aP hE 2 rfl ?_ ?_
 ·exact aY (vl 2 (.rows true [.i64,.i64,.i8] []) rfl rfl rfl<|bp [2] (.inr rfl) rfl rfl rfl rfl rfl)
 refine bJ (pl (decide_eq_true (bL rfl)) id) ?_
 refine xF hE 2 4 (let x27:=(si (Psn.mk p.f p.r (List.take p.zs.length (List.drop 0 p.zs)) p.bl p.ca p.pa p.ha p.fu)).getD (Sgt.mk (Psn.mk 0 0 [] false 0 0 0 0) 0 0);let x25:=x27.own;let x26:=x27.p;fun(s7:List (List Int))=>[O.ints false i8 p.zs,O.cells true [I x26.f,I x26.r,V.sl 0 0 x26.zs.length none,Bb x26.bl,V.int u8 x26.ca,I x26.pa,I x26.ha,I x26.fu,U x25,U x27.all],O.cells true [V.sl 4 0 s7.length none],O.cells true [U x25],O.rows true [i64,i64,i8] s7]) (let x31:=(si (Psn.mk p.f p.r (List.take p.zs.length (List.drop 0 p.zs)) p.bl p.ca p.pa p.ha p.fu)).getD (Sgt.mk (Psn.mk 0 0 [] false 0 0 0 0) 0 0);let x29:=x31.own;let x30:=x31.p;fun(s7:List (List Int))=>[O.ints false i8 p.zs,O.cells true [I x30.f,I x30.r,V.sl 0 0 x30.zs.length none,Bb x30.bl,V.int u8 x30.ca,I x30.pa,I x30.ha,I x30.fu,U x29,U x31.all],O.cells true [V.sl 4 0 s7.length none],O.cells true [U x29],O.rows true [i64,i64,i8] s7]) 0 (lO ((si (Psn.mk p.f p.r (List.take p.zs.length (List.drop 0 p.zs)) p.bl p.ca p.pa p.ha p.fu)).getD (Sgt.mk (Psn.mk 0 0 [] false 0 0 0 0) 0 0)).own) (fun(e3:Int)=>[I e3]) (fun(e3:Int) (s7:List (List Int))=>(6,I e3)::putPs (#[15]:Array Nat).toList [I e3] [(2,V.nils),(3,I 0),(4,V.ptr 1 0 0),(5,V.ptr 2 0 0),(14,V.fn 113 [V.ptr 3 0 0])]) [3] [2,3,4,5,14] ((Ent.rn [0,2,3,4] [2,3,4,5,14] rfl rfl rfl rfl rfl).trans ((Ent.phC 2 0 (O.rows true [i64,i64,i8] []) rfl rfl rfl rfl rfl).trans (Ent.rn [0,1,2,3,4] [2,3,4,5,14] rfl rfl rfl rfl rfl))) (xw _) (fun _=>rfl) (ent Tryz.func113 (by kernel_rfl) rfl) rfl rfl rfl rfl rfl rfl (fun _=>rfl) (fun _=>rfl) (fun _ _=>rfl) (fun e3 s7=>?_) (fun s7=>?_) (fun s7=>vz)
 ·refine ak rfl ?_
  refine GM id ?_
  refine eS (pb (pl (decide_eq_true rfl) id) id) ?_
  exact rh ((Ent.rn [0,1,2,3,6] [] rfl rfl rfl rfl rfl))
 exact aY (bp [4] (.inr rfl) rfl rfl rfl rfl rfl)
theorem iH:CtOk (GGx kCa true) PP (30,jx):=by
 refine aE Tryz.func30 (by kernel_rfl) rfl fun a0 h0 c0 v0 N0 e hc=>?_
 unfold jx at e
 split at e
 ·rename_i p_0 p_1 p_2n p_3 p_4 p_5 p_6 p_7 p_2
  obtain⟨hl,r,hr,rfl,rfl⟩:=cO e hc
  simp only[decide_eq_true_eq]at hl
  obtain rfl:=hl
  exact yO ⟨p_0,p_1,p_2,p_3,p_4,p_5,p_6,p_7⟩ hr
 ·cases e
def KZ(p:Psn)(at_:Int):Option (List (List Int)×Int):=let x7:=List.take p.zs.length (List.drop 0 p.zs);let x5:=Psn.mk p.f p.r x7 p.bl p.ca p.pa p.ha p.fu;let x6:=x7.length;bE (decide (x6<=64)) (bif !x5.ok||!ai p.f p.r at_ then some ([],2)else fF (si x5) (Sgt.mk (Psn.mk 0 0 [] false 0 0 0 0) 0 0) fun(y3:Sgt)=>let x10:=List.take y3.p.zs.length (List.drop 0 p.zs);let x9:=x10.length;bE (decide (y3.p.zs.length=x9)) (fF (yX (Sgt.mk (Psn.mk y3.p.f y3.p.r x10 y3.p.bl y3.p.ca y3.p.pa y3.p.ha y3.p.fu) y3.own y3.all) at_) [] fun(y4:List (List Int))=>some (y4,0)))
def vi(R:List (List Int)×Int):V:=.tup [.sl 1 0 R.1.length none,.int .i64 R.2]
def vU(R:List (List Int)×Int):List O:=[.rows true [.i64,.i64,.i8] R.1]
def uR:CF
 |[.agg [.int .i64 p_0,.int .i64 p_1,.sl 0 0 p_2n none,.bool p_3,.int .u8 p_4,.int .i64 p_5,.int .i64 p_6,.int .i64 p_7],.int .i64 at__0],[.ints false .i8 p_2]=>retC (decide (p_2n=p_2.length)) (KZ ⟨p_0,p_1,p_2,p_3,p_4,p_5,p_6,p_7⟩ at__0) ([],0) vi vU
 |_,_=>none
theorem Dq(p:Psn)(at_:Int){r}(hr:KZ p at_=some r):aS (GGx kCa true) PP 57 [.agg [.int .i64 p.f,.int .i64 p.r,.sl 0 0 p.zs.length none,Bb p.bl,.int .u8 p.ca,.int .i64 p.pa,.int .i64 p.ha,.int .i64 p.fu],.int .i64 at_] [.ints false .i8 p.zs] (vi r) (vU r):=by
 have hE:=cutE (aC (kCa:=kCa) (kDb:=true) (cts:=[(60,hO),(62,ry),(64,rE),(44,eD)]) (inl:=[]) ⟨gm,pP,pY,cz,trivial⟩ trivial)
 refine fy hE 2 Tryz.func57 rfl rfl vi vU hr ?_ rfl rfl
 refine eS (pl (decide_eq_true (bL rfl)) id) ?_
 refine ak (Bool.not_or_self _) ?_
 refine ak (Bool.not_or_self _) ?_
 refine ak (Bool.not_or_self _) ?_
 refine ak (pg rfl) ?_
 refine ak (Bool.not_or_self _) ?_
 refine ak (Bool.or_not_self _) ?_
 refine aP hE 2 rfl ?_ ?_
 ·exact aY (vl 4 (.rows true [.i64,.i64,.i8] []) rfl rfl rfl<|bp [2] (.inr rfl) rfl rfl rfl rfl rfl)
 refine bJ (pl (decide_eq_true (bL rfl)) id) ?_
 refine GM id ?_
 exact aY (bp [2] (.inr rfl) rfl rfl rfl rfl rfl)
theorem zw:CtOk (GGx kCa true) PP (57,uR):=by
 refine aE Tryz.func57 (by kernel_rfl) rfl fun a0 h0 c0 v0 N0 e hc=>?_
 unfold uR at e
 split at e
 ·rename_i p_0 p_1 p_2n p_3 p_4 p_5 p_6 p_7 at__0 p_2
  obtain⟨hl,r,hr,rfl,rfl⟩:=cO e hc
  simp only[decide_eq_true_eq]at hl
  obtain rfl:=hl
  exact Dq ⟨p_0,p_1,p_2,p_3,p_4,p_5,p_6,p_7⟩ at__0 hr
 ·cases e
end
end Go.Ab
namespace Go.Ab
open Go.Proofs
section
structure PsH(p:Psn):Prop where
 h:aD p.f p.r p.zs=true
 hl:p.zs.length<=64
 ok:p.ok=true
 ca:0<=p.ca
theorem psh{p:Psn}(hl:p.zs.length<=64)(hca:0<=p.ca)(hok:p.ok=true):PsH p:=by
 refine⟨?_,hl,hok,hca⟩
 have hk:=hok
 simp only[Psn.ok,ei,Bool.and_eq_true,decide_eq_true_eq]at hk
 cases h:aD p.f p.r p.zs with
 |true=>rfl
 |false=>have:=hk.1.1.1.1.2.1.1;unfold aK at this;rw[h]at this;cases this
section
variable{p:Psn}
theorem PsH.bd(o:PsH p):aI p.f p.r p.zs=true:=(aJ o.h).2.2.1
theorem PsH.cast(o:PsH p):er p.f p.r p.zs p.ca=true:=by have:=o.ok;simp only[Psn.ok,Bool.and_eq_true]at this;exact this.1.1.2
theorem PsH.pass(o:PsH p):iQ p.f p.r p.zs p.bl p.pa p.ha=true:=by have:=o.ok;simp only[Psn.ok,Bool.and_eq_true]at this;exact this.1.2
end
def canM(p:Psn)(a b pr:Int):Bool:=mvB p.f p.r a b pr&&isP (p.zs.getD a.toNat 0) p.bl&&!err3 p ⟨a,b,pr⟩
def prs:List Int:=[0,2,3,4,5]
def rG(p:Psn)(a b:Int):List (List Int):=(prs.filter (canM p a b)).map fun pr=>[a,b,pr]
def psL(p:Psn)(a:Int):List (List Int):=((List.range p.zs.length).map Int.ofNat).flatMap (rG p a)
def ownS(p:Psn):Int:=bif p.bl then fc negP p.zs else fc posP p.zs
theorem yN{p:Psn}(hl:p.zs.length<=64):Uk (ownS p)/\∀ m:Nat,bt (ownS p) m=(decide (m<p.zs.length)&&isP (p.zs.getD m 0) p.bl):=by
 obtain⟨h1,h2⟩:=my posP hl
 obtain⟨h3,h4⟩:=my negP hl
 unfold ownS
 cases hb:p.bl with
 |true=>exact⟨h3,fun m=>by rw[cond_true,h4];unfold negP isP;simp⟩
 |false=>exact⟨h1,fun m=>by rw[cond_false,h2];unfold posP isP;simp⟩
theorem tA(p:Psn)(w x:Int):(⟨⟨p.f,p.r,p.zs,p.bl,p.ca,p.pa,p.ha,p.fu⟩,w,x⟩:Sgt)=⟨p,w,x⟩:=rfl
theorem look_eq{p:Psn}(hl:p.zs.length<=64)(hbd:aI p.f p.r p.zs=true):si p=some ⟨p,ownS p,occR p.f p.r p.zs⟩:=by
 have h1:decide (p.zs.length<=1000000)=true:=by simp;omega
 have h2:(eP p.f p.r p.zs).1=fc posP p.zs/\(eP p.f p.r p.zs).2.1=fc negP p.zs:=by unfold eP;rw[hbd];exact⟨rfl,rfl⟩
 unfold si ownS occR
 simp only[List.drop_zero,List.take_length,h1,h2.1,h2.2,be,tA]
 cases p.bl<;>rfl
def swS(prev:Int)(skip free:Bool)(y:Int):Int:=bif skip then prev else bif free then y else prev
theorem HL{α:Type}{prev y:Int}{skip free:Bool}{F:Int->Option α}:dV (bif skip then some (.inl prev)else dV (bif free then some (.inl y)else some (.inl prev)) fun s=>some (.inl s)) F=F (swS prev skip free y):=by
 cases skip<;>cases free<;>rfl
def sw1(p:Psn)(a:Int):Int:=swS 0 (decide (bS p.ca 1=0)||!p.bl==false||!decide (a=4)) (decide (uand (bC p.f p.r 4 7).1 (occR p.f p.r p.zs)=0)) (uor 0 (ushl 1 6))
def sw2(p:Psn)(a:Int):Int:=swS (sw1 p a) (decide (bS p.ca 2=0)||!p.bl==false||!decide (a=4)) (decide (uand (bC p.f p.r 4 0).1 (occR p.f p.r p.zs)=0)) (uor (sw1 p a) (ushl 1 2))
def sw3(p:Psn)(a:Int):Int:=swS (sw2 p a) (decide (bS p.ca 4=0)||!p.bl==true||!decide (a=60)) (decide (uand (bC p.f p.r 60 63).1 (occR p.f p.r p.zs)=0)) (uor (sw2 p a) (ushl 1 62))
def sw4(p:Psn)(a:Int):Int:=swS (sw3 p a) (decide (bS p.ca 8=0)||!p.bl==true||!decide (a=60)) (decide (uand (bC p.f p.r 60 56).1 (occR p.f p.r p.zs)=0)) (uor (sw3 p a) (ushl 1 58))
theorem IX{p:Psn}{w a:Int}:Ds ⟨p,w,occR p.f p.r p.zs⟩ a=some (sw4 p a):=by
 unfold Ds
 simp only[HL]
 rfl
theorem qy{x prev g:Int}{skip free:Bool}(hp:Uk prev)(hg0:0<=g)(hg:g<64)(hx:x=swS prev skip free (uor prev (ushl 1 g))):Uk x/\∀ n:Nat,bt x n=(bt prev n||(!skip&&free&&decide (g=n))):=by
 subst hx
 unfold swS
 cases skip with
 |true=>exact⟨hp,fun n=>by simp⟩
 |false=>
  cases free with
  |true=>exact⟨gi _ _,fun n=>by rw[cond_false,cond_true,eI hp (eM _ _),dS hg0 hg];rfl⟩
  |false=>exact⟨hp,fun n=>by simp⟩
theorem Fa{p:Psn}{a:Int}:Uk (sw4 p a)/\∀ n:Nat,bt (sw4 p a) n=((!(decide (bS p.ca 1=0)||!p.bl==false||!decide (a=4))&&decide (uand (bC p.f p.r 4 7).1 (occR p.f p.r p.zs)=0)&&decide ((6:Int)=n)) ||
  (!(decide (bS p.ca 2=0)||!p.bl==false||!decide (a=4))&&decide (uand (bC p.f p.r 4 0).1 (occR p.f p.r p.zs)=0)&&decide ((2:Int)=n)) ||
  (!(decide (bS p.ca 4=0)||!p.bl==true||!decide (a=60))&&decide (uand (bC p.f p.r 60 63).1 (occR p.f p.r p.zs)=0)&&decide ((62:Int)=n)) ||
  (!(decide (bS p.ca 8=0)||!p.bl==true||!decide (a=60))&&decide (uand (bC p.f p.r 60 56).1 (occR p.f p.r p.zs)=0)&&decide ((58:Int)=n))):=by
 obtain⟨u1,b1⟩:=qy (x:=sw1 p a) (g:=6) uk_0 (by decide) (by decide) rfl
 obtain⟨u2,b2⟩:=qy (x:=sw2 p a) (g:=2) u1 (by decide) (by decide) rfl
 obtain⟨u3,b3⟩:=qy (x:=sw3 p a) (g:=62) u2 (by decide) (by decide) rfl
 obtain⟨u4,b4⟩:=qy (x:=sw4 p a) (g:=58) u3 (by decide) (by decide) rfl
 exact⟨u4,fun n=>by rw[b4,b3,b2,b1,bt_0,Bool.false_or]⟩
theorem KT{p:Psn}{a b:Int}(hk:absP (p.zs.getD a.toNat 0)=6)(hb:0<=b):bt (sw4 p a) b.toNat=wayB p.f p.r p.zs (wayN p.zs p.bl p.ca a b):=by
 have hs:∀ {c:Bool} {bit k to:Int},(!(decide (bS p.ca bit=0)||!p.bl==c||!decide (a=k))&&decide (to=((b.toNat:Nat):Int)))=!aV p.bl p.ca a b c bit k to:=by
  intro c bit k to
  rw[Bool.eq_iff_iff,cA,show ((b.toNat:Nat):Int)=b by omega]
  simp only[Bool.and_eq_true,Bool.not_eq_true',Bool.or_eq_false_iff,decide_eq_false_iff_not,Bool.not_eq_false',decide_eq_true_eq]
  constructor
  ·rintro⟨⟨⟨h1,h2⟩,h3⟩,h4⟩
   exact⟨(by cases c<;>cases hb:p.bl<;>rw[hb]at h2<;>first|rfl|cases h2),h1,h3.symm,h4⟩
  ·rintro⟨h1,h2,h3,h4⟩
   exact⟨⟨⟨h2,by rw[h1];cases p.bl<;>rfl⟩,h3.symm⟩,h4⟩
 have re:∀ x y z:Bool,(x&&y&&z)=((x&&z)&&y):=by decide
 rw[Fa.2,re,re (!(decide (bS p.ca 2=0)||_||_)),re (!(decide (bS p.ca 4=0)||_||_)),re (!(decide (bS p.ca 8=0)||_||_)),hs,hs,hs,hs]
 unfold wayN
 rw[hk]
 have w0:wayB p.f p.r p.zs 0=decide (uand (bC p.f p.r 4 7).1 (occR p.f p.r p.zs)=0):=rfl
 have w1:wayB p.f p.r p.zs 1=decide (uand (bC p.f p.r 4 0).1 (occR p.f p.r p.zs)=0):=rfl
 have w2:wayB p.f p.r p.zs 2=decide (uand (bC p.f p.r 60 63).1 (occR p.f p.r p.zs)=0):=rfl
 have w3:wayB p.f p.r p.zs 3=decide (uand (bC p.f p.r 60 56).1 (occR p.f p.r p.zs)=0):=rfl
 have w4:wayB p.f p.r p.zs 4=false:=rfl
 have one:∀ {c c':Bool} {bit bit' k k' to to':Int},(!aV p.bl p.ca a b c bit k to)=true->(c≠c'\/to≠to')->(!aV p.bl p.ca a b c' bit' k' to')=false:=by
  intro c c' bit bit' k k' to to' h1 h2
  rw[Bool.eq_false_iff]
  intro h3
  obtain⟨e1,_,_,e4⟩:=cA.1 h1
  obtain⟨f1,_,_,f4⟩:=cA.1 h3
  rcases h2 with h|h
  ·exact h (e1.trans f1.symm)
  ·exact h (e4.trans f4.symm)
 cases n1:(!aV p.bl p.ca a b false 1 4 6) with
 |true=>
  rw[one n1 (.inr (by decide)),one n1 (.inl (by decide)),one n1 (.inl (by decide))]
  simp only[Bool.true_and,Bool.false_and,Bool.or_false,decide_true,Bool.not_true,cond_true,cond_false,w0]
 |false=>
  cases n2:(!aV p.bl p.ca a b false 2 4 2) with
  |true=>
   rw[one n2 (.inl (by decide)),one n2 (.inl (by decide))]
   simp only[Bool.true_and,Bool.false_and,Bool.or_false,Bool.false_or,decide_true,Bool.not_true,cond_true,cond_false,w1]
  |false=>
   cases n3:(!aV p.bl p.ca a b true 4 60 62) with
   |true=>
    rw[one n3 (.inr (by decide))]
    simp only[Bool.true_and,Bool.false_and,Bool.or_false,Bool.false_or,decide_true,Bool.not_true,cond_true,cond_false,w2]
   |false=>
    cases n4:(!aV p.bl p.ca a b true 8 60 58) with
    |true=>simp only[Bool.true_and,Bool.false_and,Bool.false_or,decide_true,Bool.not_true,cond_true,cond_false,w3]
    |false=>simp only[Bool.false_and,Bool.or_self,decide_true,Bool.not_true,cond_false,w4]
def tgR(p:Psn)(a:Int):Int:=
 bif decide (absP (p.zs.getD a.toNat 0)=1)then uor (cF p.f p.r p.bl a (occR p.f p.r p.zs)).1 (uand (gj p.f p.r p.bl a).1 (bif decide (0<=p.pa)then uor (cj (occR p.f p.r p.zs) (ownS p)) (ushl 1 p.pa)else cj (occR p.f p.r p.zs) (ownS p)))
 else cj (bif decide (absP (p.zs.getD a.toNat 0)=6)then uor (bQ p.f p.r (absP (p.zs.getD a.toNat 0)) a (occR p.f p.r p.zs)).1 (sw4 p a) else(bQ p.f p.r (absP (p.zs.getD a.toNat 0)) a (occR p.f p.r p.zs)).1) (ownS p)
theorem JT(v:Int):vm v=some (absP v):=rfl
theorem FL{p:Psn}{a:Int}:spawn ⟨p,ownS p,occR p.f p.r p.zs⟩ a=some (uor (cF p.f p.r p.bl a (occR p.f p.r p.zs)).1 (uand (gj p.f p.r p.bl a).1 (bif decide (0<=p.pa)then uor (cj (occR p.f p.r p.zs) (ownS p)) (ushl 1 p.pa)else cj (occR p.f p.r p.zs) (ownS p)))):=by
 unfold spawn
 cases h:decide (0<=p.pa) with
 |true=>simp only[cond_true,be,iX]
 |false=>simp only[cond_false,iX]
theorem LD{p:Psn}{a:Int}(ha:0<=a/\a<p.zs.length):dB ⟨p,ownS p,occR p.f p.r p.zs⟩ a=some (tgR p a):=by
 have h1:(decide (0<=a)&&decide (a<Int.ofNat p.zs.length))=true:=by simp;omega
 unfold dB tgR
 simp only[List.drop_zero,List.take_length,tA,JT,h1,be,bG,Option.getD_some,FL,IX]
 by_cases h2:absP (p.zs.getD a.toNat 0)=1
 ·simp only[h2,decide_true,cond_true]
 ·by_cases h3:absP (p.zs.getD a.toNat 0)=6
  ·have h6:((6:Int)=1)=False:=by simp
   simp only[h3,h6,decide_false,decide_true,cond_true,cond_false,iX]
  ·simp only[h2,h3,decide_false,cond_false,iX]
end
section
def sO(p:Psn)(b:Int):Bool:=decide (py p.f b=fM p.r p.bl)
def tgB(p:Psn)(a b:Int):Bool:=!isP (p.zs.getD b.toNat 0) p.bl &&
 (bif decide (aU (p.zs.getD a.toNat 0)=1)then ee p.f p.r p.bl a (occR p.f p.r p.zs) b||(dU p.f p.bl a b&&(!decide (p.zs.getD b.toNat 0=0)||decide (b=p.pa)))
 else aQ p.f p.r (aU (p.zs.getD a.toNat 0)) a b (occR p.f p.r p.zs)||wayB p.f p.r p.zs (wayN p.zs p.bl p.ca a b))
section
variable{p:Psn}{a b:Int}
theorem PsH.ab(o:PsH p)(ha:ai p.f p.r a=true):absP (p.zs.getD a.toNat 0)=aU (p.zs.getD a.toNat 0):=by
 obtain⟨h0,h1⟩:=(cG o.bd).1 ha
 exact mc o.h h0 h1
theorem Lu(o:PsH p)(hb:ai p.f p.r b=true){pr:Int}:pnL p.f p.r p.zs p.bl p.pa a b pr=((sO p b==!decide (pr=0))&&(ee p.f p.r p.bl a (occR p.f p.r p.zs) b||(dU p.f p.bl a b&&(!decide (p.zs.getD b.toNat 0=0)||decide (b=p.pa))))):=by
 have hin:∀ c:Int->Bool,hasL b (cn c id (p.f*p.r).toNat)=c b:=fun c=>by
  rw[Bool.eq_iff_iff,eR,bI]
  have:=aB hb
  exact⟨fun h=>h.2.2,fun h=>⟨this.1,by omega,h⟩⟩
 unfold pnL sO
 rw[hin,hin,gw o.bd o.hl,(de hb).1]
 cases(decide (py p.f b=fM p.r p.bl)==!decide (pr=0))<;>cases ee p.f p.r p.bl a (occR p.f p.r p.zs) b<;>rfl
theorem tL(o:PsH p)(ha:ai p.f p.r a=true)(hb:ai p.f p.r b=true)(hown:isP (p.zs.getD a.toNat 0) p.bl=true){pr:Int}(hpr:pr=0\/(2<=pr/\pr<=5)) :
  canM p a b pr=(tgB p a b&&((decide (aU (p.zs.getD a.toNat 0)=1)&&sO p b)==!decide (pr=0))):=by
 unfold canM tgB err3
 dsimp only
 rw[hown,Bool.and_true,kI (_ca:=p.ca) o.h o.hl ha hb hown,gw o.bd o.hl,Lu o hb]
 cases hi:isP (p.zs.getD b.toNat 0) p.bl with
 |true=>simp
 |false=>
  have hab:a≠b:=fun e=>by rw[e,hi]at hown;cases hown
  have hmv:mvB p.f p.r a b pr=true:=by
   unfold mvB
   rw[ha,hb,decide_eq_false hab]
   rcases hpr with h|h
   ·rw[decide_eq_true h];rfl
   ·rw[decide_eq_true h.1,decide_eq_true h.2];simp
  rw[hmv]
  cases hk:decide (aU (p.zs.getD a.toNat 0)=1) with
  |true=>
   have hw:wayB p.f p.r p.zs (wayN p.zs p.bl p.ca a b)=false:=by
    have:wayN p.zs p.bl p.ca a b=4:=by
     unfold wayN
     rw[o.ab ha,of_decide_eq_true hk];rfl
    rw[this];rfl
   rw[hw]
   cases(ee p.f p.r p.bl a (occR p.f p.r p.zs) b||(dU p.f p.bl a b&&(!decide (p.zs.getD b.toNat 0=0)||decide (b=p.pa))))<;>cases sO p b<;>cases decide (pr=0)<;>rfl
  |false=>
   cases aQ p.f p.r (aU (p.zs.getD a.toNat 0)) a b (occR p.f p.r p.zs)<;>cases wayB p.f p.r p.zs (wayN p.zs p.bl p.ca a b)<;>cases decide (pr=0)<;>rfl
theorem Jo(o:PsH p)(ha:ai p.f p.r a=true)(hb:ai p.f p.r b=true)(hown:isP (p.zs.getD a.toNat 0) p.bl=true) :
  rG p a b=bif tgB p a b then(bif decide (aU (p.zs.getD a.toNat 0)=1)&&sO p b then[[a,b,2],[a,b,3],[a,b,4],[a,b,5]] else[[a,b,0]]) else[]:=by
 unfold rG prs
 simp only[List.filter_cons,List.filter_nil]
 rw[tL o ha hb hown (.inl rfl),tL o ha hb hown (pr:=2) (.inr (by decide)),tL o ha hb hown (pr:=3) (.inr (by decide)),tL o ha hb hown (pr:=4) (.inr (by decide)),tL o ha hb hown (pr:=5) (.inr (by decide))]
 cases tgB p a b<;>cases(decide (aU (p.zs.getD a.toNat 0)=1)&&sO p b)<;>simp
theorem sJ(hown:isP (p.zs.getD a.toNat 0) p.bl=false):rG p a b=[]:=by
 unfold rG
 rw[filter_none fun pr _=>by unfold canM;rw[hown];simp];rfl
theorem PsH.pa0(o:PsH p)(h:0<=p.pa):ai p.f p.r p.pa=true/\p.zs.getD p.pa.toNat 0=0:=by
 have hps:=o.pass
 simp only[iQ,Bool.or_eq_true,Bool.and_eq_true,decide_eq_true_eq]at hps
 rcases hps with hps|⟨⟨⟨⟨⟨⟨_,_⟩,p3⟩,_⟩,p5⟩,_⟩,_⟩
 ·omega
 ·exact⟨p3,p5⟩
theorem LH(o:PsH p)(ha:ai p.f p.r a=true)(hown:isP (p.zs.getD a.toNat 0) p.bl=true) :
  Uk (tgR p a)/\(∀ n:Nat,n<64->bt (tgR p a) n=true->n<p.zs.length)/\∀ b,ai p.f p.r b=true->bt (tgR p a) b.toNat=tgB p a b:=by
 obtain⟨ha0,ha1⟩:=(cG o.bd).1 ha
 obtain⟨hou,hob⟩:=eB o.bd o.hl
 obtain⟨hwu,hwb⟩:=yN o.hl
 have hray:gP p.f p.r a (occR p.f p.r p.zs)=true:=(gJ hou).2 ⟨ha,xA o.h o.hl⟩
 have hon:∀ {s:Int},OnS p.f p.r s->∀ n:Nat,n<64->bt s n=true->n<p.zs.length:=fun h n hn hb=>by
  have:=(cG o.bd).1 (h n hn hb)
  omega
 unfold tgR tgB
 rw[o.ab ha]
 cases hk:decide (aU (p.zs.getD a.toNat 0)=1) with
 |true=>
  simp only[cond_true]
  obtain⟨_,s1,s3,s2⟩:=xR (bl:=p.bl) hray hou
  obtain⟨_,p1,p3,p2⟩:=va (bl:=p.bl) ha
  have hot:Uk (bif decide (0<=p.pa)then uor (cj (occR p.f p.r p.zs) (ownS p)) (ushl 1 p.pa)else cj (occR p.f p.r p.zs) (ownS p))/\∀ b,ai p.f p.r b=true->bt (bif decide (0<=p.pa)then uor (cj (occR p.f p.r p.zs) (ownS p)) (ushl 1 p.pa)else cj (occR p.f p.r p.zs) (ownS p)) b.toNat=((!decide (p.zs.getD b.toNat 0=0)&&!isP (p.zs.getD b.toNat 0) p.bl)||decide (b=p.pa)):=by
   have base:∀ b,ai p.f p.r b=true->bt (cj (occR p.f p.r p.zs) (ownS p)) b.toNat=(!decide (p.zs.getD b.toNat 0=0)&&!isP (p.zs.getD b.toNat 0) p.bl):=fun b hb=>by
    have:=(cG o.bd).1 hb
    rw[eJ hou hwu,hob,hwb,decide_eq_true (show b.toNat<p.zs.length by omega),Bool.true_and,Bool.true_and]
   cases hp:decide (0<=p.pa) with
   |true=>
    have hp0:=of_decide_eq_true hp
    have hv:=(o.pa0 hp0).1
    have hlt:=aB hv
    refine⟨gi _ _,fun b hb=>?_⟩
    have hb0:=(aB hb).1
    rw[cond_true,eI (fm _ _) (eM _ _),base b hb,dS hlt.1 hlt.2.2]
    congr 1
    rw[decide_eq_decide];omega
   |false=>
    refine⟨fm _ _,fun b hb=>?_⟩
    have hb0:=(aB hb).1
    have hp0:=of_decide_eq_false hp
    rw[cond_false,base b hb,decide_eq_false (show ¬ b=p.pa by omega),Bool.or_false]
  refine⟨gi _ _,fun n hn h=>?_,fun b hb=>?_⟩
  ·rw[eI s1 (pQ _ _),Bool.or_eq_true]at h
   rcases h with h|h
   ·exact hon s3 n hn h
   ·rw[ji p1 hot.1,Bool.and_eq_true]at h
    exact hon p3 n hn h.1
  ·have hlt:=(cG o.bd).1 hb
   rw[eI s1 (pQ _ _),s2 b hb,ji p1 hot.1,p2 b hb,hot.2 b hb]
   cases hi:isP (p.zs.getD b.toNat 0) p.bl with
   |true=>
    have hz:=fh hi
    have hst:ee p.f p.r p.bl a (occR p.f p.r p.zs) b=false:=by
     have hocc:hasB (occR p.f p.r p.zs) b=true:=by
      rw[dz hou hb,hob,decide_eq_true (show b.toNat<p.zs.length by omega),decide_eq_false hz];rfl
     rw[Bool.eq_false_iff]
     intro h
     simp only[ee,Bool.or_eq_true,Bool.and_eq_true,decide_eq_true_eq,Bool.not_eq_true']at h
     rcases h with⟨h1,h2⟩|⟨⟨⟨⟨h1,_⟩,_⟩,_⟩,h2⟩<;>rw[<-h1,hocc]at h2<;>cases h2
    have hpa:decide (b=p.pa)=false:=by
     rw[decide_eq_false_iff_not]
     intro e
     have:=(o.pa0 (by omega)).2
     rw[<-e]at this
     exact hz this
    rw[hst,hpa];simp
   |false=>simp
 |false=>
  simp only[cond_false]
  have hk5:=xV o.h ha0 ha1 hown (of_decide_eq_false hk)
  obtain⟨r1,r2,r3⟩:=jg hray hou hk5
  replace r1:Uk (bQ p.f p.r (aU (p.zs.getD a.toNat 0)) a (occR p.f p.r p.zs)).1:=r1
  replace r2:OnS p.f p.r (bQ p.f p.r (aU (p.zs.getD a.toNat 0)) a (occR p.f p.r p.zs)).1:=r2
  replace r3:∀ b,ai p.f p.r b=true->bt (bQ p.f p.r (aU (p.zs.getD a.toNat 0)) a (occR p.f p.r p.zs)).1 b.toNat=aQ p.f p.r (aU (p.zs.getD a.toNat 0)) a b (occR p.f p.r p.zs):=r3
  have hsw:Uk (bif decide (aU (p.zs.getD a.toNat 0)=6)then uor (bQ p.f p.r (aU (p.zs.getD a.toNat 0)) a (occR p.f p.r p.zs)).1 (sw4 p a) else(bQ p.f p.r (aU (p.zs.getD a.toNat 0)) a (occR p.f p.r p.zs)).1) /\
    (∀ n:Nat,n<64->bt (bif decide (aU (p.zs.getD a.toNat 0)=6)then uor (bQ p.f p.r (aU (p.zs.getD a.toNat 0)) a (occR p.f p.r p.zs)).1 (sw4 p a) else(bQ p.f p.r (aU (p.zs.getD a.toNat 0)) a (occR p.f p.r p.zs)).1) n=true->n<p.zs.length) /\
    ∀ b,ai p.f p.r b=true->bt (bif decide (aU (p.zs.getD a.toNat 0)=6)then uor (bQ p.f p.r (aU (p.zs.getD a.toNat 0)) a (occR p.f p.r p.zs)).1 (sw4 p a) else(bQ p.f p.r (aU (p.zs.getD a.toNat 0)) a (occR p.f p.r p.zs)).1) b.toNat=(aQ p.f p.r (aU (p.zs.getD a.toNat 0)) a b (occR p.f p.r p.zs)||wayB p.f p.r p.zs (wayN p.zs p.bl p.ca a b)):=by
   cases h6:decide (aU (p.zs.getD a.toNat 0)=6) with
   |true=>
    have hk6:absP (p.zs.getD a.toNat 0)=6:=by rw[o.ab ha];exact of_decide_eq_true h6
    refine⟨gi _ _,fun n hn h=>?_,fun b hb=>?_⟩
    ·rw[cond_true,eI r1 Fa.1,Bool.or_eq_true]at h
     rcases h with h|h
     ·exact hon r2 n hn h
     ·have h64:p.zs.length=64:=by
       have hc:=o.cast
       simp only[er,Bool.and_eq_true,Bool.not_eq_true',decide_eq_true_eq]at hc
       obtain⟨⟨⟨⟨c1,c2⟩,c3⟩,c4⟩,_⟩:=hc
       rw[Fa.2]at h
       simp only[Bool.or_eq_true,Bool.and_eq_true,Bool.not_eq_true',Bool.or_eq_false_iff,decide_eq_false_iff_not]at h
       have fin:∀ {bit:Int} {k q:Nat} {c:Bool},rtX p.f p.r p.zs p.ca bit k q c=false->bS p.ca bit≠0->p.zs.length=64:=fun h1 h2=>by
        obtain⟨f8,r8,_⟩:=cT h1 h2
        exact uS o.bd (by rw[f8,r8];rfl)
       rcases h with((⟨⟨⟨⟨h,_⟩,_⟩,_⟩,_⟩|⟨⟨⟨⟨h,_⟩,_⟩,_⟩,_⟩)|⟨⟨⟨⟨h,_⟩,_⟩,_⟩,_⟩)|⟨⟨⟨⟨h,_⟩,_⟩,_⟩,_⟩
       ·exact fin c1 h
       ·exact fin c2 h
       ·exact fin c3 h
       ·exact fin c4 h
      omega
    ·rw[cond_true,eI r1 Fa.1,r3 b hb,KT hk6 (aB hb).1]
   |false=>
    refine⟨r1,hon r2,fun b hb=>?_⟩
    have hw:wayN p.zs p.bl p.ca a b=4:=by
     unfold wayN
     rw[o.ab ha,h6];rfl
    rw[cond_false,r3 b hb,hw]
    have:wayB p.f p.r p.zs 4=false:=rfl
    rw[this,Bool.or_false]
  refine⟨fm _ _,fun n hn h=>?_,fun b hb=>?_⟩
  ·rw[eJ hsw.1 hwu,Bool.and_eq_true]at h
   exact hsw.2.1 n hn h.1
  ·have hlt:=(cG o.bd).1 hb
   rw[eJ hsw.1 hwu,hsw.2.2 b hb,hwb,decide_eq_true (show b.toNat<p.zs.length by omega),Bool.true_and,Bool.and_comm]
end
end
end Go.Ab
namespace Go.Ab
open IntKind
open Go.Proofs
section
theorem oF{α β:Type}(q:α->Bool)(g:α->List β):∀ l:List α,(l.filter q).flatMap g=l.flatMap fun x=>bif q x then g x else[]
 |[]=>rfl
 |x::l=>by
  rw[List.filter_cons,List.flatMap_cons,<-oF q g l]
  cases q x<;>simp
theorem jX{α β:Type}{f g:α->List β}:∀ {l:List α},(∀ x∈l,f x=g x)->l.flatMap f=l.flatMap g
 |[],_=>rfl
 |x::l,h=>by rw[List.flatMap_cons,List.flatMap_cons,h x (List.mem_cons_self ..),jX fun y hy=>h y (List.mem_cons_of_mem _ hy)]
theorem pS{β:Type}{q:Nat->Bool}{g:Int->List β}{n:Nat}(hn:n<=64)(hq:∀ m,m<64->q m=true->m<n) :
  (((List.range 64).filter q).map Int.ofNat).flatMap g=((List.range n).map Int.ofNat).flatMap fun x=>bif q x.toNat then g x else[]:=by
 rw[List.flatMap_map,List.flatMap_map,oF,List.range_eq_range',List.range_eq_range',show 64=n+(64-n) by omega,<-List.range'_append_1,List.flatMap_append]
 have h2:(List.range' (0+n) (64-n)).flatMap (fun x=>bif q x then g (Int.ofNat x) else[])=[]:=by
  rw[List.flatMap_eq_nil_iff]
  intro x hx
  have hx:=List.mem_range'_1.1 hx
  cases h:q x with
  |false=>rfl
  |true=>have:=hq x (by omega) h;omega
 rw[h2,List.append_nil]
 rfl
theorem oB{α:Type}{step:Int->List (List Int)->Option (List (List Int) ⊕ (List (List Int) ⊕ α))}{F Fx:List (List Int)->Option α}{rows:Int->List (List Int)}{M k:Nat}:∀ {l:List Int} {acc:List (List Int)},
  (∀ x∈l,∀ acc:List (List Int),acc.length<=M->step x acc=some (.inl (acc++rows x)))->(∀ x∈l,(rows x).length<=k)->acc.length+k*l.length<=M->ef step F Fx l acc=F (acc++l.flatMap rows)
 |[],acc,_,_,_=>by rw[Ai,List.flatMap_nil,List.append_nil]
 |x::l,acc,hs,hr,hM=>by
  rw[List.length_cons,Nat.mul_add]at hM
  rw[mO (hs x (List.mem_cons_self ..) acc (by omega)),oB (fun y hy=>hs y (List.mem_cons_of_mem _ hy)) (fun y hy=>hr y (List.mem_cons_of_mem _ hy)) (by have:=hr x (List.mem_cons_self ..);rw[List.length_append];omega),List.flatMap_cons,List.append_assoc]
theorem Bi{f r b:Int}{zs:List Int}(_hbd:aI f r zs=true)(hb:ai f r b=true):((r-1)*f<=b↔py f b=r-1)/\(b<f↔py f b=0):=by
 obtain⟨b0,b1,b2,b3,b4,b5,b6,b7,b8,b9⟩:=de hb
 constructor
 ·constructor
  ·intro h
   refine Decidable.byContradiction fun hne=>?_
   have:(py f b+1)*f<=(r-1)*f:=Int.mul_le_mul_of_nonneg_right (by omega) (by omega)
   rw[Int.add_mul]at this
   omega
  ·intro h
   rw[<-h];omega
 ·constructor
  ·intro h
   refine Decidable.byContradiction fun hne=>?_
   have:1*f<=py f b*f:=Int.mul_le_mul_of_nonneg_right (by omega) (by omega)
   omega
  ·intro h
   rw[h]at b5;omega
section
variable{p:Psn}{a b:Int}
def wI(p:Psn)(b:Int):Bool:=bif p.bl then decide (b<p.f)else decide (i64.wrap (p.f*i64.wrap (p.r-1))<=b)
theorem Fo(w x:Int):Af ⟨p,w,x⟩ b=some (wI p b):=by
 unfold Af wI
 cases h:p.bl<;>rfl
theorem IE(o:PsH p)(hb:ai p.f p.r b=true):wI p b=sO p b:=by
 obtain⟨w1,w2⟩:=Bi o.bd hb
 obtain⟨b0,b1,b2,b3,b4,b5,b6,b7,b8,b9⟩:=de hb
 have hlt:=aB hb
 unfold wI sO
 cases p.bl with
 |true=>
  rw[cond_true,decide_eq_decide,show fM p.r true=0 from rfl]
  exact w2
 |false=>
  have h1:i64.wrap (p.r-1)=p.r-1:=az (by omega) (by omega)
  have hm:0<=p.f*(p.r-1)/\p.f*(p.r-1)<=64:=by
   have e1:p.f*(p.r-1)<=8*(p.r-1):=Int.mul_le_mul_of_nonneg_right (by omega) (by omega)
   exact⟨Int.mul_nonneg (by omega) (by omega),by omega⟩
  rw[cond_false,decide_eq_decide,h1,az (by omega) (by omega),show fM p.r false=p.r-1 from h1,Int.mul_comm]
  exact w1
def zF(p:Psn)(a b:Int):List (List Int):=bif decide (absP (p.zs.getD a.toNat 0)=1)&&wI p b then[[a,b,2],[a,b,3],[a,b,4],[a,b,5]] else[[a,b,0]]
theorem AN:(zF p a b).length<=4:=by
 unfold zF
 cases(decide (absP (p.zs.getD a.toNat 0)=1)&&wI p b)<;>simp
theorem Gq{acc:List (List Int)}(h:acc.length<=100000):decide ((acc.length+1)*24<=140737488355328)=true:=by simp;omega
theorem jn{acc:List (List Int)}{q:Int}(h:acc.length<=100000)(h1:0<=q)(h2:q<=5):eu a b (acc,q)=some (.inl (acc++[[a,b,q]],q+1)):=by
 unfold eu
 simp only[Gq h,decide_eq_true h2,cond_true,be]
 rw[show i8.wrap (q+1)=q+1 from Bv (by omega) (by omega)]
 rfl
theorem EZ{acc:List (List Int)}:eu a b (acc,2+1+1+1+1)=some (.inr (.inl acc)):=by
 unfold eu
 rfl
theorem ES{acc:List (List Int)}(h:acc.length<=90000):ew (eu a b) (fun s33:List (List Int)=>some (.inl s33)) 1000000 (acc,2)=some (.inl (acc++[[a,b,2],[a,b,3],[a,b,4],[a,b,5]])):=by
 rw[show (1000000:Nat)=999995+1+1+1+1+1 by rfl]
 rw[dw (jn (by omega) (by decide) (by decide)),dw (jn (by simp;omega) (by decide) (by decide)),dw (jn (by simp;omega) (by decide) (by decide)),dw (jn (by simp;omega) (by decide) (by decide)),kf EZ]
 simp
theorem Je(ha:0<=a/\a<p.zs.length){acc:List (List Int)}(h:acc.length<=90000):sn ⟨p,ownS p,occR p.f p.r p.zs⟩ a eu b acc=some (.inl (acc++zF p a b)):=by
 have h1:(decide (0<=a)&&decide (a<Int.ofNat p.zs.length))=true:=by simp;omega
 unfold sn zF
 simp only[List.drop_zero,List.take_length,tA,JT,h1,be,bG,Option.getD_some,Fo,Option.isSome_some,Bool.or_true,Gq (show acc.length<=100000 by omega),ES h]
 by_cases h2:absP (p.zs.getD a.toNat 0)=1
 ·simp only[h2,decide_true,Bool.not_true,Bool.false_or,Bool.true_and]
  cases wI p b<;>rfl
 ·simp only[h2,decide_false,Bool.not_false,Bool.true_or,Bool.false_and]
  rfl
theorem Gg{x n:Int}(h:n∈bitL x):0<=n/\n<64/\bt x n.toNat=true:=by
 unfold bitL at h
 obtain⟨m,hm,rfl⟩:=List.mem_map.1 h
 rw[List.mem_filter,List.mem_range]at hm
 exact⟨Int.natCast_nonneg _,Int.ofNat_lt.2 hm.1,by simpa using hm.2⟩
theorem Fi(o:PsH p)(ha:ai p.f p.r a=true):yX ⟨p,ownS p,occR p.f p.r p.zs⟩ a=some (psL p a):=by
 have hA:=(cG o.bd).1 ha
 have hlt:=aB ha
 obtain⟨hwu,hwb⟩:=yN o.hl
 have h0:decide (band Go.BinOp.and u64 ((ownS p).fdiv (2^Min.min a.toNat u64.bits)) 1=0)=!isP (p.zs.getD a.toNat 0) p.bl:=by
  have:=qC hwu hlt.1 hlt.2.2
  rw[hwb,decide_eq_true (show a.toNat<p.zs.length by omega),Bool.true_and]at this
  exact this
 unfold yX
 simp only[List.drop_zero,List.take_length,tA,decide_eq_true hlt.1,be]
 rw[h0]
 cases hi:isP (p.zs.getD a.toNat 0) p.bl with
 |false=>
  rw[Bool.not_false,cond_true]
  congr 1
  unfold psL
  rw[eq_comm,List.flatMap_eq_nil_iff]
  exact fun _ _=>sJ hi
 |true=>
  rw[Bool.not_true,cond_false,LD hA,bG]
  obtain⟨t1,t2,t3⟩:=LH o ha hi
  rw[yG t1]
  have hlen:=mz (tgR p a)
  rw[oB (rows:=zF p a) (M:=90000) (k:=4) (fun x _ acc h=>Je hA h) (fun _ _=>AN) (by simp;omega),List.nil_append]
  congr 1
  unfold bitL psL
  rw[pS o.hl t2]
  refine jX fun x hx=>?_
  obtain⟨m,hm,rfl⟩:=List.mem_map.1 hx
  have hm:=List.mem_range.1 hm
  have hv:ai p.f p.r (Int.ofNat m)=true:=(cG o.bd).2 ⟨Int.natCast_nonneg _,Int.ofNat_lt.2 hm⟩
  rw[t3 _ hv,Jo o ha hv hi]
  unfold zF
  rw[IE o hv,o.ab ha]
end
end
section
variable{kCa kDb:Bool}
def rA(p:Int):Option (Int):=let x5:=(#[112,110,98,114,113,107,97,99,100,101,102,103,104,105,106]:Array UInt8).toList;let x6:=(#[80,78,66,82,81,75,65,67,68,69,70,71,72,73,74]:Array UInt8).toList;let x7:=i8.wrap (i8.wrap (0-p)-1);let x8:=i8.wrap (p-1);let x3:=Int.ofNat x6.length;let x4:=Int.ofNat x5.length;bif decide (p<0)then bE (decide (0<=x7)&&decide (x7<x4)) (some (Int.ofNat (x5.getD x7.toNat 0).toNat))else bE (decide (0<=x8)&&decide (x8<x3)) (some (Int.ofNat (x6.getD x8.toNat 0).toNat))
def nI(R:Int):V:=.int .u8 R
def mY(_R:Int):List O:=[]
def gT:CF
 |[.int .i8 p_0],[]=>retC true (rA p_0) 0 nI mY
 |_,_=>none
theorem uO(p:Int){r}(hr:rA p=some r):aS (GGx kCa kDb) PP 153 [.int .i8 p] [] (nI r) (mY r):=by
 have hE:=cutE (aC (kCa:=kCa) (kDb:=kDb) (cts:=[]) (inl:=[]) trivial trivial)
 refine fy hE 2 Tryz.func153 rfl rfl nI mY hr ?_ rfl rfl
 refine aP hE 2 rfl ?_ ?_
 ·refine ct ?_
  exact aY (bp [] (.inr rfl) rfl rfl rfl rfl rfl)
 refine ct ?_
 exact aY (bp [] (.inr rfl) rfl rfl rfl rfl rfl)
theorem gU:CtOk (GGx kCa kDb) PP (153,gT):=by
 refine aE Tryz.func153 (by kernel_rfl) rfl fun a0 h0 c0 v0 N0 e hc=>?_
 unfold gT at e
 split at e
 ·rename_i p_0
  obtain⟨hl,r,hr,rfl,rfl⟩:=cO e hc
  exact uO p_0 hr
 ·cases e
def Az:Int->Int->Option (Int ⊕ Unit ⊕ Int):=fun(c s5:Int)=>let x12:=!decide (s5=0);bif decide (s5<=15)then bE (!x12||(rA s5).isSome) (bif x12&&decide ((rA s5).getD 0=c)then escO (escO (some s5))else some (Sum.inl (i8.wrap (s5+1))))else some (Sum.inr (Sum.inl ()))
def Gp(c:Int):Option (Int):=ew (Az c) (fun(_s10:Unit)=>some 0) 1000000 (-15)
def rJ(R:Int):V:=.int .i8 R
def qU(_R:Int):List O:=[]
def qR:CF
 |[.int .u8 c_0],[]=>retC true (Gp c_0) 0 rJ qU
 |_,_=>none
theorem yY(c:Int){r}(hr:Gp c=some r):aS (GGx kCa kDb) PP 136 [.int .u8 c] [] (rJ r) (qU r):=by
 have hE:=cutE (aC (kCa:=kCa) (kDb:=kDb) (cts:=[(153,gT)]) (inl:=[]) ⟨gU,trivial⟩ trivial)
 refine fy hE 2 Tryz.func136 rfl rfl rJ qU hr ?_ rfl rfl
 refine gD hE 2 (fun(s5:Int)=>([(0,V.int u8 c),(2,V.int i8 0),(3,V.int i8 s5)],[])) (fun(s10:Unit)=>([(2,V.int i8 0)],[])) (.exit 0) ((Ent.rn [] [0,2,3] rfl rfl rfl rfl rfl)) (fun s5=>?_) (fun s10=>?_)
 ·refine aP hE 2 rfl ?_ ?_
  ·refine ak (Bool.not_or_self _) ?_
   refine eS (pi (pl rfl id)) ?_
   refine ak (Bool.not_or_self _) ?_
   refine ak (Bool.not_or_self _) ?_
   refine ak (Bool.not_or_self _) ?_
   refine aP hE 2 rfl ?_ ?_
   ·refine pD (by simp) (kF ?_)
    exact aY (bp [] (.inr rfl) rfl rfl rfl rfl rfl)
   exact fY ((Ent.rn [] [0,2,3] rfl rfl rfl rfl rfl))
  exact gF ((Ent.rn [] [2] rfl rfl rfl rfl rfl))
 exact aY (bp [] (.inr rfl) rfl rfl rfl rfl rfl)
theorem vP:CtOk (GGx kCa kDb) PP (136,qR):=by
 refine aE Tryz.func136 (by kernel_rfl) rfl fun a0 h0 c0 v0 N0 e hc=>?_
 unfold qR at e
 split at e
 ·rename_i c_0
  obtain⟨hl,r,hr,rfl,rfl⟩:=cO e hc
  exact yY c_0 hr
 ·cases e
end
end Go.Ab
namespace Go.Ab
open Go.Proofs
section
variable{kCa kDb:Bool}
end
section
variable{kCa kDb:Bool}
def qG:Int->List UInt8×Int->Option (List UInt8×Int ⊕ List UInt8×Int×Bool ⊕ Int ⊕ Unit ⊕ Int):=fun(s27:Int)=>let x54:=(#[75,81,107,113]:Array UInt8).toList;let x53:=Int.ofNat x54.length;fun(s33:List UInt8×Int)=>let x58:=(s27.fdiv (2^Min.min s33.2.toNat IntKind.i64.bits)).tmod 2;let x59:=decide (s33.2<4);let x60:=decide (0<=s33.2);let x61:=IntKind.i64.wrap (s33.2+1);let x57:=List.take (x61.toNat-s33.2.toNat) (List.drop s33.2.toNat x54);let x56:=s33.1.length+x57.length;bif x59 then bE x60 (dV (bif decide (x58=1)then bE (x60&&decide (s33.2<=x61)&&decide (x61<=x53)) (bE (decide (x56<=4611686018427387904)) (some (Sum.inl (s33.1++x57))))else some (Sum.inl s33.1)) fun(s35:List UInt8)=>some (Sum.inl (s35,x61)))else some (Sum.inr (Sum.inl (s33.1,s33.2,x59)))
def Eo:List UInt8->(Int->List UInt8×Int->Option (List UInt8×Int ⊕ List UInt8×Int×Bool ⊕ Int ⊕ Unit ⊕ Int))->Int->Option (Int ⊕ Unit ⊕ Int):=fun(s:List UInt8) (qG:Int->List UInt8×Int->Option (List UInt8×Int ⊕ List UInt8×Int×Bool ⊕ Int ⊕ Unit ⊕ Int)) (s27:Int)=>bif decide (s27<16)then ew (qG s27) (fun(s45:List UInt8×Int×Bool)=>dV (bif s45.1==(#[]:Array UInt8).toList then some (Sum.inl (#[45]:Array UInt8).toList)else some (Sum.inl s45.1)) fun(s47:List UInt8)=>bif s47==s then escO (escO (some s27))else some (Sum.inl (IntKind.i64.wrap (s27+1)))) 1000000 ((#[]:Array UInt8).toList,0)else some (Sum.inr (Sum.inl ()))
def Kj(s:List UInt8):Option (Int):=ew (Eo s qG) (fun(_s52:Unit)=>some (-1)) 1000000 0
def wB(R:Int):V:=.int .i64 R
def vr(_R:Int):List O:=[]
def uU:CF
 |[.str s_0],[]=>retC true (Kj s_0) 0 wB vr
 |_,_=>none
theorem BT(s:List UInt8){r}(hr:Kj s=some r):aS (GGx kCa kDb) PP 99 [.str s] [] (wB r) (vr r):=by
 have hE:=cutE (aC (kCa:=kCa) (kDb:=kDb) (cts:=[]) (inl:=[]) trivial trivial)
 refine fy hE 2 Tryz.func99 rfl rfl wB vr hr ?_ rfl rfl
 refine gD hE 2 (fun(s27:Int)=>([(0,V.str s),(2,I 0),(3,I s27)],[])) (fun(s52:Unit)=>([(2,I 0)],[])) (.exit 0) ((Ent.rn [] [0,2,3] rfl rfl rfl rfl rfl)) (fun s27=>?_) (fun s52=>?_)
 ·refine aP hE 2 rfl ?_ ?_
  ·refine gD hE 2 (fun(s33:List UInt8×Int)=>([(0,V.str s),(2,I 0),(3,I s27),(4,V.str s33.1),(5,I s33.2),(6,I s27),(7,Bb (decide (s27<16)))],[])) (fun(s45:List UInt8×Int×Bool)=>([(0,V.str s),(2,I 0),(3,I s27),(4,V.str s45.1),(5,I s45.2.1),(6,I s27),(7,Bb (decide (s27<16))),(10,I s45.2.1),(11,Bb s45.2.2)],[])) (.exit 2) ((Ent.rn [] [0,2,3,4,5,6,7] rfl rfl rfl rfl rfl)) (fun s33=>?_) (fun s45=>?_)
   ·refine aP hE 2 rfl ?_ ?_
    ·refine ct ?_
     refine ak rfl ?_
     refine dZ hE 2 (let x74:=s27.fdiv (2^Min.min s33.2.toNat IntKind.i64.bits);let x73:=x74.tmod 2;fun(s35:List UInt8)=>([(0,V.str s),(2,I 0),(3,I s27),(4,V.str s35),(5,I s33.2),(6,I s27),(7,Bb (decide (s27<16))),(10,I s33.2),(11,Bb (decide (s33.2<4))),(14,I s27),(15,I s33.2),(16,I x74),(17,I x73),(18,Bb (decide (x73=1)))],[])) rfl ?_ ?_ (fun s35=>?_)
     ·refine ct ?_
      refine ct ?_
      exact cq ((Ent.rn [] [0,2,3,4,5,6,7,10,11,14,15,16,17,18] rfl rfl rfl rfl rfl))
     ·exact cq ((Ent.rn [] [0,2,3,4,5,6,7,10,11,14,15,16,17,18] rfl rfl rfl rfl rfl))
     exact fY ((Ent.rn [] [0,2,3,4,5,6,7] rfl rfl rfl rfl rfl))
    exact gF ((Ent.rn [] [0,2,3,4,5,6,7,10,11] rfl rfl rfl rfl rfl))
   refine dZ hE 2 (fun(s47:List UInt8)=>([(0,V.str s),(2,I 0),(3,I s27),(4,V.str s47),(5,I s45.2.1),(6,I s27),(7,Bb (decide (s27<16))),(10,I s45.2.1),(11,Bb s45.2.2),(25,V.str s45.1),(26,Bb (s45.1==(#[]:Array UInt8).toList))],[])) rfl ?_ ?_ (fun s47=>?_)
   ·exact cq ((Ent.rn [] [0,2,3,4,5,6,7,10,11,25,26] rfl rfl rfl rfl rfl))
   ·exact cq ((Ent.rn [] [0,2,3,4,5,6,7,10,11,25,26] rfl rfl rfl rfl rfl))
   refine aP hE 2 rfl ?_ ?_
   ·refine pD (by simp) (kF ?_)
    exact aY (bp [] (.inr rfl) rfl rfl rfl rfl rfl)
   exact fY ((Ent.rn [] [0,2,3] rfl rfl rfl rfl rfl))
  exact gF ((Ent.rn [] [2] rfl rfl rfl rfl rfl))
 exact aY (bp [] (.inr rfl) rfl rfl rfl rfl rfl)
theorem zG:CtOk (GGx kCa kDb) PP (99,uU):=by
 refine aE Tryz.func99 (by kernel_rfl) rfl fun a0 h0 c0 v0 N0 e hc=>?_
 unfold uU at e
 split at e
 ·rename_i s_0
  obtain⟨hl,r,hr,rfl,rfl⟩:=cO e hc
  exact BT s_0 hr
 ·cases e
end
section
variable{kCa kDb:Bool}
end
end Go.Ab
