/- Contracts of the functions that the laws reach, and plain laws of what they compute (text G6); no condition. -/
import Derived.Test.YtppdngemnbflmaaGreatDoorG5
import Derived.Test.YtppdngemnbflmaaGreatDoorG4
import Derived.Test.YtppdngemnbflmaaGreatDoorCards
import Derived.Test.YtppdngemnbflmaaGreatDoorTie
namespace Go.Ab
open Go.Proofs Go.Proofs.YtppdngemnbflmaaGreatDoor Go.RowKit Go.ChangeShapes Go.WideShapes Go.ChangeAt
set_option maxRecDepth 100000
theorem seat_own:ownKnob Tryz.prog.godebug=none:=by kernel_rfl
theorem seat_laidOut:laidOutB Tryz.prog=true:=by kernel_rfl
theorem seat_g0:Tryz.prog.globalNamed "caissa/making.castles" = some 3:=by kernel_rfl
theorem seat_t0:(Tryz.prog.globals[3]?).map (·.type)=some 164:=by kernel_rfl
theorem seat_g1:Tryz.prog.globalNamed "caissa/position.full" = some 4:=by kernel_rfl
theorem seat_t1:(Tryz.prog.globals[4]?).map (·.type)=some 23:=by kernel_rfl
theorem seat_g2:Tryz.prog.globalNamed "caissa/ray.leaps" = some 0:=by kernel_rfl
theorem seat_t2:(Tryz.prog.globals[0]?).map (·.type)=some 160:=by kernel_rfl
theorem seat_g3:Tryz.prog.globalNamed "caissa/ray.diagonal" = some 1:=by kernel_rfl
theorem seat_t3:(Tryz.prog.globals[1]?).map (·.type)=some 162:=by kernel_rfl
theorem seat_g4:Tryz.prog.globalNamed "caissa/ray.straight" = some 2:=by kernel_rfl
theorem seat_t4:(Tryz.prog.globals[2]?).map (·.type)=some 162:=by kernel_rfl
theorem seat_g5:Tryz.prog.globalNamed "math/bits.deBruijn64tab" = some 5:=by kernel_rfl
theorem seat_t5:(Tryz.prog.globals[5]?).map (·.type)=some 178:=by kernel_rfl
theorem seat_c188:Tryz.prog.cellsOf 159=2:=by kernel_rfl
theorem seat_c3:Tryz.prog.cellsOf 3=1:=by kernel_rfl
theorem seat_c86:Tryz.prog.cellsOf 122=6:=by kernel_rfl
theorem seat_c5:Tryz.prog.cellsOf 5=1:=by kernel_rfl
theorem seat_c200:Tryz.prog.cellsOf 178=64:=by kernel_rfl
theorem seat_c4:Tryz.prog.cellsOf 4=1:=by kernel_rfl
theorem seat_c24:Tryz.prog.cellsOf 24=1:=by kernel_rfl
theorem seat_c28:Tryz.prog.cellsOf 46=1:=by kernel_rfl
theorem seat_c26:Tryz.prog.cellsOf 26=8:=by kernel_rfl
theorem seat_f188{fs:Array Field}(h:Tryz.prog.underlying 159=some (.struct fs)):fs.size=2/\(fs.toList.zipIdx.all fun p=>p.1.offset==p.2&&isK (Tryz.prog.underlying p.1.type) .i64&&Tryz.prog.cellsOf p.1.type==1)=true:=by
 rw[Tryz.underlying159]at h
 cases h
 refine⟨rfl,?_⟩
 simp[isK,Tryz.underlying3,seat_c3]
theorem seat_s23{fs:Array Field}(h:Tryz.prog.underlying 23=some (.struct fs)):(fs.toList.zipIdx.all fun q=>q.1.offset==q.2&&Tryz.prog.cellsOf q.1.type==1&&(match (([8,8]:List Int).map fun z=>Lit.int .i64 z)[q.2]? with|some l=>lG (Tryz.prog.underlying q.1.type) l|none=>false))=true:=by
 rw[Tryz.underlying23]at h
 cases h
 simp[lG,Tryz.underlying3,seat_c3]
def castL4:List (List Lit):=[[.int .u8 1,.bool false,.int .i64 4,.int .i64 6,.int .i64 7,.int .i64 5],[.int .u8 2,.bool false,.int .i64 4,.int .i64 2,.int .i64 0,.int .i64 3],[.int .u8 4,.bool true,.int .i64 60,.int .i64 62,.int .i64 63,.int .i64 61],[.int .u8 8,.bool true,.int .i64 60,.int .i64 58,.int .i64 56,.int .i64 59]]
theorem seat_f86{fs:Array Field}(h:Tryz.prog.underlying 122=some (.struct fs)):(castL4.all fun r=>r.length==6&&fs.toList.zipIdx.all fun q=>q.1.offset==q.2&&Tryz.prog.cellsOf q.1.type==1&&(match r[q.2]? with|some l=>lG (Tryz.prog.underlying q.1.type) l|none=>false))=true:=by
 rw[Tryz.underlying122]at h
 cases h
 simp[castL4,lG,Tryz.underlying3,Tryz.underlying4,Tryz.underlying5,seat_c3,seat_c4,seat_c5]
theorem seat_lawH{GG:List O}{H:Type}{enc:TypeId×Value->H}{f:FuncId}{fn:Func}{s:ChangeSpec}{W:World}{args:Array Value}{ds gs:List (DataW H)}{before:List MemPlace}{tb:TypeId}{vs:List V}{us:List Value}{Hp:List O}{ρ:Ren}
  (hW:DataW.Whole enc PP fn.params.toList s.vars false W args.toList ds gs before) (hr0:HR GG W.heap.size ρ Hp W) (hv:s.vars=[]) (hfn:s.fn H (ds++gs)={ results:=[.lit (.bool true)],args:=ds })
  (hr:(fn.params.toList.all fun t=>PP.readableRec t&&decide (t<PP.types.size))=true) (hrt:fn.resultTypes=#[tb]) (htb:PP.underlying tb=some .bool)
  (hs:aS GG PP f vs Hp (.bool true) []) (hvs:VRL ρ vs us) (hus:args=us.toArray) :
  Calls PP f args W fun e W'=>∃ v,e=.returned v/\s.post enc PP fn false true false false W args v W':=by
 subst hus
 refine(hs _ us W hr0 hvs).mono ?_
 rintro e W' ⟨u,ρ',rfl,hu,_,_,hb⟩
 have hu:u=.bool true:=hu
 subst hu
 exact⟨_,rfl,EO hW hv hfn hb seat_laidOut hr hrt htb⟩
def tabCells(rs:List (List Int)):Array Value:=(rs.flatMap fun r=>r.map fun z=>Value.int .i64 z).toArray
def litVal:Lit->Value
 |.bool b=>.bool b
 |.int k n=>.int k n
 |_=>.bool false
def setTab(c:Array Value):Obj->Obj
 |.cells _ t frozen=>.cells c t frozen
 |o=>o
noncomputable def laidWorld (os:Os):World:=
 { World.holding PP os ⟨#[],#[],[]⟩with heap:=((((((World.holding PP os ⟨#[],#[],[]⟩).heap.modify 3 (setTab (castL4.flatMap fun r=>r.map litVal).toArray)).modify 4 (setTab (tabCells [[8,8]]))).modify 0 (setTab (tabCells iz))).modify 1 (setTab (tabCells fS))).modify 2 (setTab (tabCells fO))).modify 5 (setTab (zV.map fun z=>Value.int .u8 z).toArray) }
theorem seat_ts26:Tryz.prog.cellTypes Tryz.prog.depth 26=some [3,3,24,4,5,3,3,3]:=by kernel_rfl
theorem seat_p26{fs:Array Field}(h:Tryz.prog.underlying 26=some (.struct fs)):∃ f,fs[1]?=some f/\f.offset=2/\f.type=24:=by
 rw[Tryz.underlying26]at h
 cases h
 exact⟨_,rfl,rfl,rfl⟩
theorem arg_pos{H:Type}{enc:TypeId×Value->H}{W:World}{base:Nat}{sp:Nat->Bool}{held:Bool}{b0:Nat}{v:Value}{d:DataW H}{ps:List MemPlace}(hval:Value.okWide PP W .any b0 26 v)(h:DataW.Trod enc PP W base sp held 26 v d ps) :
  ∃ f r s bl ca pa ha fu rg zs,v=.agg #[.int .i64 f,.int .i64 r,s,.bool bl,.int .u8 ca,.int .i64 pa,.int .i64 ha,.int .i64 fu]/\(0<=ca/\ca<=255)/\(∀ (ρ:Ren) b,ρ b=some rg->VR ρ (.sl b 0 (List.length zs) none) s)/\(∀ ρ,OR ρ (.ints false .i8 zs) rg W):=by
 have hv:=hval
 unfold Value.okWide at hv
 rw[Tryz.underlying26]at hv
 obtain⟨cs,rfl,hsz,hrow⟩:=hv
 have hsz:cs.size=8:=hsz.trans seat_c26
 obtain⟨v0,h0,k0⟩:=eY (i:=0) hrow seat_ts26 hsz rfl
 obtain⟨v1,h1,k1⟩:=eY (i:=1) hrow seat_ts26 hsz rfl
 obtain⟨v2,h2,k2⟩:=eY (i:=2) hrow seat_ts26 hsz rfl
 obtain⟨v3,h3,k3⟩:=eY (i:=3) hrow seat_ts26 hsz rfl
 obtain⟨v4,h4,k4⟩:=eY (i:=4) hrow seat_ts26 hsz rfl
 obtain⟨v5,h5,k5⟩:=eY (i:=5) hrow seat_ts26 hsz rfl
 obtain⟨v6,h6,k6⟩:=eY (i:=6) hrow seat_ts26 hsz rfl
 obtain⟨v7,h7,k7⟩:=eY (i:=7) hrow seat_ts26 hsz rfl
 obtain⟨x0,rfl,l0,m0⟩:=ia Tryz.underlying3 k0
 obtain⟨x1,rfl,l1,m1⟩:=ia Tryz.underlying3 k1
 obtain⟨x3,rfl⟩:=As Tryz.underlying4 k3
 obtain⟨x4,rfl,l4,m4⟩:=ia Tryz.underlying5 k4
 obtain⟨x5,rfl,l5,m5⟩:=ia Tryz.underlying3 k5
 obtain⟨x6,rfl,l6,m6⟩:=ia Tryz.underlying3 k6
 obtain⟨x7,rfl,l7,m7⟩:=ia Tryz.underlying3 k7
 obtain⟨fl,hf,ho,hft⟩:=seat_p26 Tryz.underlying26
 obtain⟨fuel,z,hz⟩:=Ag Tryz.underlying26 h hf (by rw[hft];exact seat_c24) (by rw[ho];exact h2)
 rw[hft]at hz
 obtain⟨rg,zs,hr1,hr2,_⟩:=EU Tryz.underlying24 Tryz.underlying46 seat_c28 k2 hz
 refine⟨x0,x1,v2,x3,x4,x5,x6,x7,rg,zs,?_,⟨l4,m4⟩,hr1,hr2⟩
 ·congr 1
  apply Array.ext_getElem?
  intro i
  rcases i with _|_|_|_|_|_|_|_|i
  ·simpa using h0
  ·simpa using h1
  ·simpa using h2
  ·simpa using h3
  ·simpa using h4
  ·simpa using h5
  ·simpa using h6
  ·simpa using h7
  ·rw[Array.getElem?_eq_none (by omega)];simp
theorem vr_pos{ρ:Ren}(f r:Int){b n:Nat}{s:Value}(bl:Bool)(ca pa ha fu:Int)(h:VR ρ (.sl b 0 n none) s):VR ρ (.agg [.int .i64 f,.int .i64 r,.sl b 0 n none,.bool bl,.int .u8 ca,.int .i64 pa,.int .i64 ha,.int .i64 fu]) (.agg #[.int .i64 f,.int .i64 r,s,.bool bl,.int .u8 ca,.int .i64 pa,.int .i64 ha,.int .i64 fu]):=
 ⟨[.int .i64 f,.int .i64 r,s,.bool bl,.int .u8 ca,.int .i64 pa,.int .i64 ha,.int .i64 fu],rfl,_,_,rfl,rfl,_,_,rfl,rfl,_,_,rfl,h,_,_,rfl,rfl,_,_,rfl,rfl,_,_,rfl,rfl,_,_,rfl,rfl,_,_,rfl,rfl,rfl⟩
namespace TLg
abbrev laid:List (String×DataW Unit):=[("math/bits.deBruijn64tab",Rows.laid_math_bits_deBruijn64tab),("caissa/ray.straight",Rows.laid_caissa_ray_straight),("caissa/ray.diagonal",Rows.laid_caissa_ray_diagonal),("caissa/ray.leaps",Rows.laid_caissa_ray_leaps),("caissa/position.full",Rows.laid_caissa_position_full),("caissa/making.castles",Rows.laid_caissa_making_castles)]
theorem tabs{W:World}(h:laidMet PP laid W)(g:Nat)(o:O)(ho:(GGx true true)[g]?=some o):vt W g o:=by
 match g,ho with
 |4,ho=>cases ho;exact tT (k:=.i64) (zs:=[8,8]) (rest:=_) seat_g1 seat_t1 Tryz.underlying23 rfl (seat_s23 Tryz.underlying23) h.tail.tail.tail.tail
 |5,ho=>cases ho;exact zg (k:=.u8) (zs:=zV) (rest:=_) seat_g5 seat_t5 Tryz.underlying178 Tryz.underlying5 seat_c5 seat_c200 h
 |3,ho=>cases ho;exact zZ (rs:=castL4) (rest:=_) seat_g0 seat_t0 Tryz.underlying164 Tryz.underlying122 seat_c86 (seat_f86 Tryz.underlying122) h.tail.tail.tail.tail.tail rfl (by omega) rfl
 |0,ho=>cases ho;exact jZ (k:=.i64) (rs:=iz) (rest:=_) seat_g2 seat_t2 Tryz.underlying160 Tryz.underlying159 seat_c188 (seat_f188 Tryz.underlying159).1 (seat_f188 Tryz.underlying159).2 rfl h.tail.tail.tail
 |1,ho=>cases ho;exact jZ (k:=.i64) (rs:=fS) (rest:=_) seat_g3 seat_t3 Tryz.underlying162 Tryz.underlying159 seat_c188 (seat_f188 Tryz.underlying159).1 (seat_f188 Tryz.underlying159).2 rfl h.tail.tail
 |2,ho=>cases ho;exact jZ (k:=.i64) (rs:=fO) (rest:=_) seat_g4 seat_t4 Tryz.underlying162 Tryz.underlying159 seat_c188 (seat_f188 Tryz.underlying159).1 (seat_f188 Tryz.underlying159).2 rfl h.tail
theorem lts{W:World}(h:laidMet PP laid W)(g:Nat)(o:O)(ho:(GGx true true)[g]?=some o):g<W.heap.size:=by
 have h1:5<W.heap.size:=KB (tabs h 5 _ rfl) rfl rfl rfl
 have h2:=(List.getElem?_eq_some_iff.1 ho).1
 have h3:(GGx true true).length=6:=rfl
 omega
theorem wf:∀ o∈GGx true true,o.wf:=by
 intro o ho
 simp only[GGx,List.mem_cons,List.not_mem_nil,or_false]at ho
 rcases ho with rfl|rfl|rfl|rfl|rfl|rfl<;>simp[O.wf,iz,fS,fO,JG,V.one]
theorem hr{W:World}(h:laidMet PP laid W)(B:Nat):HR (GGx true true) B (gRen (GGx true true)) [] W:=Bc (tabs h) (lts h) rfl wf
theorem none(b:Nat):(getO (GGx true true) [] b).own=false:=by
 unfold getO
 split
 ·have:∀ n:Nat,((GGx true true).getD n .gone).own=false:=by
   intro n
   match n with
   |0=>rfl
   |1=>rfl
   |2=>rfl
   |3=>rfl
   |4=>rfl
   |5=>rfl
   |_+6=>rfl
  exact this _
 ·rfl
end TLg
end Go.Ab
