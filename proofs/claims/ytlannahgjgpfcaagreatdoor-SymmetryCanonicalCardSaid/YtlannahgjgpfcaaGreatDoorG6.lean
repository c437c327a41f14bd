/- Contracts of the functions that the laws reach, and plain laws of what they compute (text G6); no condition. -/
import Derived.Test.YtlannahgjgpfcaaGreatDoorG5
import Derived.Test.YtlannahgjgpfcaaGreatDoorG4
import Derived.Test.YtlannahgjgpfcaaGreatDoorCards
import Derived.Test.YtlannahgjgpfcaaGreatDoorTie
namespace Go.Ab
open Go.Proofs Go.Proofs.YtlannahgjgpfcaaGreatDoor Go.RowKit Go.ChangeShapes Go.WideShapes Go.ChangeAt
set_option maxRecDepth 100000
theorem seat_own:ownKnob Tryz.prog.godebug=none:=by kernel_rfl
theorem seat_laidOut:laidOutB Tryz.prog=true:=by kernel_rfl
theorem seat_g1:Tryz.prog.globalNamed "caissa/position.full" = some 0:=by kernel_rfl
theorem seat_t1:(Tryz.prog.globals[0]?).map (·.type)=some 32:=by kernel_rfl
theorem seat_g2:Tryz.prog.globalNamed "caissa/ray.leaps" = some 3:=by kernel_rfl
theorem seat_t2:(Tryz.prog.globals[3]?).map (·.type)=some 255:=by kernel_rfl
theorem seat_g3:Tryz.prog.globalNamed "caissa/ray.diagonal" = some 4:=by kernel_rfl
theorem seat_t3:(Tryz.prog.globals[4]?).map (·.type)=some 257:=by kernel_rfl
theorem seat_g4:Tryz.prog.globalNamed "caissa/ray.straight" = some 5:=by kernel_rfl
theorem seat_t4:(Tryz.prog.globals[5]?).map (·.type)=some 257:=by kernel_rfl
theorem seat_c188:Tryz.prog.cellsOf 254=2:=by kernel_rfl
theorem seat_c3:Tryz.prog.cellsOf 3=1:=by kernel_rfl
theorem seat_c5:Tryz.prog.cellsOf 5=1:=by kernel_rfl
theorem seat_c24:Tryz.prog.cellsOf 33=1:=by kernel_rfl
theorem seat_c28:Tryz.prog.cellsOf 53=1:=by kernel_rfl
theorem seat_c26:Tryz.prog.cellsOf 35=8:=by kernel_rfl
theorem seat_f188{fs:Array Field}(h:Tryz.prog.underlying 254=some (.struct fs)):fs.size=2/\(fs.toList.zipIdx.all fun p=>p.1.offset==p.2&&isK (Tryz.prog.underlying p.1.type) .i64&&Tryz.prog.cellsOf p.1.type==1)=true:=by
 rw[Tryz.underlying254]at h
 cases h
 refine⟨rfl,?_⟩
 simp[isK,Tryz.underlying3,seat_c3]
theorem seat_s23{fs:Array Field}(h:Tryz.prog.underlying 32=some (.struct fs)):(fs.toList.zipIdx.all fun q=>q.1.offset==q.2&&Tryz.prog.cellsOf q.1.type==1&&(match (([8,8]:List Int).map fun z=>Lit.int .i64 z)[q.2]? with|some l=>lg (Tryz.prog.underlying q.1.type) l|none=>false))=true:=by
 rw[Tryz.underlying32]at h
 cases h
 simp[lg,Tryz.underlying3,seat_c3]
def castL4:List (List Lit):=[[.int .u8 1,.bool false,.int .i64 4,.int .i64 6,.int .i64 7,.int .i64 5],[.int .u8 2,.bool false,.int .i64 4,.int .i64 2,.int .i64 0,.int .i64 3],[.int .u8 4,.bool true,.int .i64 60,.int .i64 62,.int .i64 63,.int .i64 61],[.int .u8 8,.bool true,.int .i64 60,.int .i64 58,.int .i64 56,.int .i64 59]]
theorem seat_g7:Tryz.prog.globalNamed "caissa/piece.kinds" = some 7:=by kernel_rfl
theorem seat_t7:(Tryz.prog.globals[7]?).map (·.type)=some 270:=by kernel_rfl
theorem seat_g8:Tryz.prog.globalNamed "internal/strconv.uint64pow10" = some 8:=by kernel_rfl
theorem seat_t8:(Tryz.prog.globals[8]?).map (·.type)=some 277:=by kernel_rfl
theorem seat_g9:Tryz.prog.globalNamed "math/bits.deBruijn32tab" = some 9:=by kernel_rfl
theorem seat_t9:(Tryz.prog.globals[9]?).map (·.type)=some 286:=by kernel_rfl
theorem seat_c269:Tryz.prog.cellsOf 269=3:=by kernel_rfl
theorem seat_c9:Tryz.prog.cellsOf 9=1:=by kernel_rfl
theorem seat_c64:Tryz.prog.cellsOf 64=1:=by kernel_rfl
theorem seat_c277:Tryz.prog.cellsOf 277=20:=by kernel_rfl
theorem seat_c286:Tryz.prog.cellsOf 286=32:=by kernel_rfl
def bru32T:List Int:=[0,1,28,2,29,14,24,3,30,22,20,15,25,17,4,8,31,27,13,23,21,19,16,7,26,12,18,6,11,5,10,9]
def kindL:List (List Lit):=[
 [.int .u8 80,.int .i64 1,.string [112,97,119,110]],
 [.int .u8 78,.int .i64 3,.string [107,110,105,103,104,116]],
 [.int .u8 66,.int .i64 3,.string [98,105,115,104,111,112]],
 [.int .u8 82,.int .i64 5,.string [114,111,111,107]],
 [.int .u8 81,.int .i64 9,.string [113,117,101,101,110]],
 [.int .u8 75,.int .i64 0,.string [107,105,110,103]],
 [.int .u8 65,.int .i64 0,.string [102,97,105,114,121,45,97]],
 [.int .u8 67,.int .i64 0,.string [102,97,105,114,121,45,99]],
 [.int .u8 68,.int .i64 0,.string [102,97,105,114,121,45,100]],
 [.int .u8 69,.int .i64 0,.string [102,97,105,114,121,45,101]],
 [.int .u8 70,.int .i64 0,.string [102,97,105,114,121,45,102]],
 [.int .u8 71,.int .i64 0,.string [102,97,105,114,121,45,103]],
 [.int .u8 72,.int .i64 0,.string [102,97,105,114,121,45,104]],
 [.int .u8 73,.int .i64 0,.string [102,97,105,114,121,45,105]],
 [.int .u8 74,.int .i64 0,.string [102,97,105,114,121,45,106]]]
theorem seat_f269{fs:Array Field}(h:Tryz.prog.underlying 269=some (.struct fs)):(kindL.all fun r=>r.length==3&&fs.toList.zipIdx.all fun q=>q.1.offset==q.2&&Tryz.prog.cellsOf q.1.type==1&&(match r[q.2]? with|some l=>lg (Tryz.prog.underlying q.1.type) l|none=>false))=true:=by
 rw[Tryz.underlying269]at h
 cases h
 simp[kindL,lg,Tryz.underlying3,Tryz.underlying5,Tryz.underlying9,seat_c3,seat_c5,seat_c9]
theorem seat_lawH{GG:List O}{H:Type}{enc:TypeId×Value->H}{f:FuncId}{fn:Func}{s:ChangeSpec}{W:World}{args:Array Value}{ds gs:List (DataW H)}{before:List MemPlace}{tb:TypeId}{vs:List V}{us:List Value}{Hp:List O}{ρ:Ren}
  (hW:DataW.Whole enc PP fn.params.toList s.vars false W args.toList ds gs before) (hr0:HR GG W.heap.size ρ Hp W) (hv:s.vars=[]) (hfn:s.fn H (ds++gs)={ results:=[.lit (.bool true)],args:=ds })
  (hr:(fn.params.toList.all fun t=>PP.readableRec t&&decide (t<PP.types.size))=true) (hrt:fn.resultTypes=#[tb]) (htb:PP.underlying tb=some .bool)
  (hs:ay GG PP f vs Hp (.bool true) []) (hvs:VRL ρ vs us) (hus:args=us.toArray) :
  Calls PP f args W fun e W'=>∃ v,e=.returned v/\s.post enc PP fn false true false false W args v W':=by
 subst hus
 refine(hs _ us W hr0 hvs).mono ?_
 rintro e W' ⟨u,ρ',rfl,hu,_,_,hb⟩
 have hu:u=.bool true:=hu
 subst hu
 exact⟨_,rfl,GK hW hv hfn hb seat_laidOut hr hrt htb⟩
def tabCells(rs:List (List Int)):Array Value:=(rs.flatMap fun r=>r.map fun z=>Value.int .i64 z).toArray
def litVal:Lit->Value
 |.bool b=>.bool b
 |.int k n=>.int k n
 |.string l=>.string ⟨l.toArray⟩
 |_=>.bool false
def setTab(c:Array Value):Obj->Obj
 |.cells _ t frozen=>.cells c t frozen
 |o=>o
noncomputable def laidWorld (os:Os):World:=
 { World.holding PP os ⟨#[],#[],[]⟩with heap:=(((((((((World.holding PP os ⟨#[],#[],[]⟩).heap.modify 6 (setTab ((castL4.flatMap fun r=>r.map litVal).toArray))).modify 0 (setTab (tabCells [[8,8]]))).modify 3 (setTab (tabCells iy))).modify 4 (setTab (tabCells fI))).modify 5 (setTab (tabCells fD))).modify 2 (setTab ((MP.map fun z=>Value.int .u8 z).toArray))).modify 7 (setTab ((kindL.flatMap fun r=>r.map litVal).toArray))).modify 8 (setTab ((powT.map fun z=>Value.int .u64 z).toArray))).modify 9 (setTab ((bru32T.map fun z=>Value.int .u8 z).toArray)) }
theorem seat_ts26:Tryz.prog.cellTypes Tryz.prog.depth 35=some [3,3,33,4,5,3,3,3]:=by kernel_rfl
theorem seat_p26{fs:Array Field}(h:Tryz.prog.underlying 35=some (.struct fs)):∃ f,fs[1]?=some f/\f.offset=2/\f.type=33:=by
 rw[Tryz.underlying35]at h
 cases h
 exact⟨_,rfl,rfl,rfl⟩
theorem arg_pos{H:Type}{enc:TypeId×Value->H}{W:World}{base:Nat}{sp:Nat->Bool}{held:Bool}{b0:Nat}{v:Value}{d:DataW H}{ps:List MemPlace}(hval:Value.okWide PP W .any b0 35 v)(h:DataW.Trod enc PP W base sp held 35 v d ps) :
  ∃ f r s bl ca pa ha fu rg zs,v=.agg #[.int .i64 f,.int .i64 r,s,.bool bl,.int .u8 ca,.int .i64 pa,.int .i64 ha,.int .i64 fu]/\(0<=ca/\ca<=255)/\(∀ (ρ:Ren) b,ρ b=some rg->VR ρ (.sl b 0 (List.length zs) none) s)/\(∀ ρ,OR ρ (.ints false .i8 zs) rg W):=by
 have hv:=hval
 unfold Value.okWide at hv
 rw[Tryz.underlying35]at hv
 obtain⟨cs,rfl,hsz,hrow⟩:=hv
 have hsz:cs.size=8:=hsz.trans seat_c26
 obtain⟨v0,h0,k0⟩:=eW (i:=0) hrow seat_ts26 hsz rfl
 obtain⟨v1,h1,k1⟩:=eW (i:=1) hrow seat_ts26 hsz rfl
 obtain⟨v2,h2,k2⟩:=eW (i:=2) hrow seat_ts26 hsz rfl
 obtain⟨v3,h3,k3⟩:=eW (i:=3) hrow seat_ts26 hsz rfl
 obtain⟨v4,h4,k4⟩:=eW (i:=4) hrow seat_ts26 hsz rfl
 obtain⟨v5,h5,k5⟩:=eW (i:=5) hrow seat_ts26 hsz rfl
 obtain⟨v6,h6,k6⟩:=eW (i:=6) hrow seat_ts26 hsz rfl
 obtain⟨v7,h7,k7⟩:=eW (i:=7) hrow seat_ts26 hsz rfl
 obtain⟨x0,rfl,l0,m0⟩:=gQ Tryz.underlying3 k0
 obtain⟨x1,rfl,l1,m1⟩:=gQ Tryz.underlying3 k1
 obtain⟨x3,rfl⟩:=Dk Tryz.underlying4 k3
 obtain⟨x4,rfl,l4,m4⟩:=gQ Tryz.underlying5 k4
 obtain⟨x5,rfl,l5,m5⟩:=gQ Tryz.underlying3 k5
 obtain⟨x6,rfl,l6,m6⟩:=gQ Tryz.underlying3 k6
 obtain⟨x7,rfl,l7,m7⟩:=gQ Tryz.underlying3 k7
 obtain⟨fl,hf,ho,hft⟩:=seat_p26 Tryz.underlying35
 obtain⟨fuel,z,hz⟩:=zZ Tryz.underlying35 h hf (by rw[hft];exact seat_c24) (by rw[ho];exact h2)
 rw[hft]at hz
 obtain⟨rg,zs,hr1,hr2,_⟩:=GL Tryz.underlying33 Tryz.underlying53 seat_c28 k2 hz
 refine⟨x0,x1,v2,x3,x4,x5,x6,x7,rg,zs,?_,⟨l4,m4⟩,hr1,hr2⟩
 ·congr 1
  apply Array.ext_getElem?
  intro i
  rcases i with _|_|_|_|_|_|_|_|i
  ·simpa using h0
  ·simpa using h1
  ·simpa using h2
  ·simpa using h3
  ·simpa using h4
  ·simpa using h5
  ·simpa using h6
  ·simpa using h7
  ·rw[Array.getElem?_eq_none (by omega)];simp
theorem vr_pos{ρ:Ren}(f r:Int){b n:Nat}{s:Value}(bl:Bool)(ca pa ha fu:Int)(h:VR ρ (.sl b 0 n none) s):VR ρ (.agg [.int .i64 f,.int .i64 r,.sl b 0 n none,.bool bl,.int .u8 ca,.int .i64 pa,.int .i64 ha,.int .i64 fu]) (.agg #[.int .i64 f,.int .i64 r,s,.bool bl,.int .u8 ca,.int .i64 pa,.int .i64 ha,.int .i64 fu]):=
 ⟨[.int .i64 f,.int .i64 r,s,.bool bl,.int .u8 ca,.int .i64 pa,.int .i64 ha,.int .i64 fu],rfl,_,_,rfl,rfl,_,_,rfl,rfl,_,_,rfl,h,_,_,rfl,rfl,_,_,rfl,rfl,_,_,rfl,rfl,_,_,rfl,rfl,_,_,rfl,rfl,rfl⟩
namespace TSy
abbrev laid:List (String×DataW Unit):=[("caissa/piece.kinds",Rows.laid_caissa_piece_kinds),("math/bits.deBruijn32tab",Rows.laid_math_bits_deBruijn32tab),("math/bits.deBruijn64tab",Rows.laid_math_bits_deBruijn64tab),("internal/strconv.uint64pow10",Rows.laid_internal_strconv_uint64pow10),("caissa/ray.straight",Rows.laid_caissa_ray_straight),("caissa/ray.diagonal",Rows.laid_caissa_ray_diagonal),("caissa/ray.leaps",Rows.laid_caissa_ray_leaps),("caissa/position.full",Rows.laid_caissa_position_full)]
theorem b32{W:World}(h:laidMet PP laid W):td W 9 (.ints false .u8 bru32T):=po (k:=.u8) (zs:=bru32T) (rest:=_) seat_g9 seat_t9 Tryz.underlying286 Tryz.underlying5 seat_c5 seat_c286 h.tail
theorem tabs{W:World}(h:laidMet PP laid W)(g:Nat)(o:O)(ho:(GGx false false)[g]?=some o):td W g o:=by
 match g,ho with
 |0,ho=>cases ho;exact uv (k:=.i64) (zs:=[8,8]) (rest:=_) seat_g1 seat_t1 Tryz.underlying32 rfl (seat_s23 Tryz.underlying32) h.tail.tail.tail.tail.tail.tail.tail
 |1,ho=>cases ho;intro a b v _ _ hv;cases hv
 |2,ho=>cases ho;intro a b v _ _ hv;cases hv
 |3,ho=>cases ho;exact jT (k:=.i64) (rs:=iy) (rest:=_) seat_g2 seat_t2 Tryz.underlying255 Tryz.underlying254 seat_c188 (seat_f188 Tryz.underlying254).1 (seat_f188 Tryz.underlying254).2 rfl h.tail.tail.tail.tail.tail.tail
 |4,ho=>cases ho;exact jT (k:=.i64) (rs:=fI) (rest:=_) seat_g3 seat_t3 Tryz.underlying257 Tryz.underlying254 seat_c188 (seat_f188 Tryz.underlying254).1 (seat_f188 Tryz.underlying254).2 rfl h.tail.tail.tail.tail.tail
 |5,ho=>cases ho;exact jT (k:=.i64) (rs:=fD) (rest:=_) seat_g4 seat_t4 Tryz.underlying257 Tryz.underlying254 seat_c188 (seat_f188 Tryz.underlying254).1 (seat_f188 Tryz.underlying254).2 rfl h.tail.tail.tail.tail
 |6,ho=>cases ho;intro a b v _ _ hv;cases hv
 |7,ho=>cases ho;exact qo (rs:=kindL) (rest:=_) seat_g7 seat_t7 Tryz.underlying270 Tryz.underlying269 seat_c269 (seat_f269 Tryz.underlying269) h rfl
 |8,ho=>cases ho;exact po (k:=.u64) (zs:=powT) (rest:=_) seat_g8 seat_t8 Tryz.underlying277 Tryz.underlying64 seat_c64 seat_c277 h.tail.tail.tail
 |9,ho=>cases ho;intro a b v _ _ hv;cases hv
theorem lts{W:World}(h:laidMet PP laid W)(g:Nat)(o:O)(ho:(GGx false false)[g]?=some o):g<W.heap.size:=by
 have h1:9<W.heap.size:=MM (b32 h) rfl rfl rfl
 have h2:=(List.getElem?_eq_some_iff.1 ho).1
 have h3:(GGx false false).length=10:=rfl
 omega
theorem wf:∀ o∈GGx false false,o.wf:=by
 intro o ho
 simp only[GGx,List.mem_cons,List.not_mem_nil,or_false]at ho
 rcases ho with rfl|rfl|rfl|rfl|rfl|rfl|rfl|rfl|rfl|rfl<;>simp[O.wf,iy,fI,fD,IL,V.one]
theorem hr{W:World}(h:laidMet PP laid W)(B:Nat):HR (GGx false false) B (gRen (GGx false false)) [] W:=DC (tabs h) (lts h) rfl wf
theorem none(b:Nat):(getO (GGx false false) [] b).own=false:=by
 unfold getO
 split
 ·have:∀ n:Nat,((GGx false false).getD n .gone).own=false:=by
   intro n
   match n with
   |0=>rfl
   |1=>rfl
   |2=>rfl
   |3=>rfl
   |4=>rfl
   |5=>rfl
   |6=>rfl
   |7=>rfl
   |8=>rfl
   |9=>rfl
   |_+10=>rfl
  exact this _
 ·rfl
end TSy
end Go.Ab
