/- Contracts of the functions that the laws reach, and plain laws of what they compute (text G12); no condition. -/
import Derived.Test.YtlannahgjgpfcaaGreatDoorG11
import Derived.Test.YtlannahgjgpfcaaGreatDoorG4
import Derived.Test.YtlannahgjgpfcaaGreatDoorG8
import Derived.Test.YtlannahgjgpfcaaGreatDoorG9
import Derived.Test.YtlannahgjgpfcaaGreatDoorG3
import Derived.Test.YtlannahgjgpfcaaGreatDoorG10
set_option maxRecDepth 100000
set_option maxHeartbeats 40000000
namespace Go.Ab
open Go.Proofs
section
variable{E:Env}{P:Program}{N:Nat}{tm:Tm}{hp:List O}{α:Type}{R:α->Exit->Tm->List O->Prop}{K:Option α}
theorem Good.entR{G:List O}{μ:Nat}{c:Code}{Q:Exit->Tm->List O->Prop}(h:Good G P μ N c tm hp fun e tm' hp'=>∃ tm1 hp1,Ent G μ tm' hp' tm1 hp1/\Q e tm1 hp1):Good G P μ N c tm hp Q:=by
 intro B w0 S D gs ρ a w n ro hro hr
 refine wpIn_mono (h B w0 S D gs ρ a w n ro hro hr) ?_
 rintro e a' w' ⟨tm',hp',ρ',h1,h2,tm1,hp1,h3,h4⟩
 obtain⟨ρ2,l1,h5⟩:=h1.ent h3
 exact⟨tm1,hp1,ρ2,h5,Ren.leB_trans h2 l1,h4⟩
theorem vr(hE:E.Fn P)(n m:Nat){μ:Nat}{body:Code}{Q:Exit->Tm->List O->Prop}(h:rnds E P n μ N body Q m tm hp):Good E.G P μ N (.loop body) tm hp Q:=by
 cases m with
 |zero=>exact h.elim
 |succ m=>
 refine Good.loop (fun j tm hp=>rnds E P n μ N body Q (j+1) tm hp) (m:=m) h ?_
 intro j tm1 hp1 hj
 refine(dP hE.mixed hE.ok (gj hE) (eN hE) (cG hE n) body _ _ _ _ hj).mono ?_
 intro e tm2 hp2 h
 cases e with
 |normal=>
  obtain⟨tm3,hp3,h1,h2⟩:=h
  cases j with
  |zero=>exact h2.elim
  |succ j=>exact⟨j,tm3,hp3,rfl,h1,h2⟩
 |_=>exact h
def bJ(E:Env)(P:Program)(R:α->Exit->Tm->List O->Prop)(n μ N:Nat)(body:Code)(k:Exit->Tm->List O->T)(m:Nat)(K:Option α)(tm:Tm)(hp:List O):Prop:=
 ∀ r,K=some r->rnds E P n μ N body (fun e tm hp=>∃ tm1 hp1,Ent E.G μ tm hp tm1 hp1/\sat E.G P (R r) (k e tm1 hp1)) m tm hp
def RD(E:Env)(P:Program)(R:α->Exit->Tm->List O->Prop)(n μ N:Nat)(body:Code)(k:Exit->Tm->List O->T)(m:Nat)(r:α)(e:Exit)(tm:Tm)(hp:List O):Prop:=match e with
 |.normal=>∃ tm2 hp2,Ent E.G μ tm hp tm2 hp2/\rnds E P n μ N body (fun e tm hp=>∃ tm1 hp1,Ent E.G μ tm hp tm1 hp1/\sat E.G P (R r) (k e tm1 hp1)) m tm2 hp2
 |e=>∃ tm1 hp1,Ent E.G μ tm hp tm1 hp1/\sat E.G P (R r) (k e tm1 hp1)
theorem bL{n m μ:Nat}{body:Code}{k:Exit->Tm->List O->T}(h:satO E P (RD E P R n μ N body k m) K (evC E (hdl E n) μ N body tm hp .ret)):bJ E P R n μ N body k (m+1) K tm hp:=fun r hr=>by
 refine rnd (fb ?_ (h r hr))
 intro e tm' hp' hq
 cases e with
 |normal=>exact hq
 |_=>exact hq
theorem aP{n m μ:Nat}{body:Code}{k:Exit->Tm->List O->T}{tm2:Tm}{hp2:List O}(he:Ent E.G μ tm hp tm2 hp2)(h:bJ E P R n μ N body k m K tm2 hp2):satO E P (RD E P R n μ N body k m) K (.ret .normal tm hp):=fun r hr=>⟨tm2,hp2,he,h r hr⟩
theorem eI{n m μ i:Nat}{body:Code}{k:Exit->Tm->List O->T}{tm2:Tm}{hp2:List O}(he:Ent E.G μ tm hp tm2 hp2)(h:satO E P R K (k (.exit i) tm2 hp2)):satO E P (RD E P R n μ N body k m) K (.ret (.exit i) tm hp):=fun r hr=>⟨tm2,hp2,he,h r hr⟩
theorem gW(hE:E.Fn P)(n m:Nat){μ:Nat}{body:Code}{k:Exit->Tm->List O->T}{tm2:Tm}{hp2:List O}(he:Ent E.G μ tm hp tm2 hp2)(h:bJ E P R n μ N body k m K tm2 hp2):satO E P R K (.loop (.loop body) μ N tm hp k):=fun r hr=>
 ⟨fun e tm' hp'=>sat E.G P (R r) (k e tm' hp'),Good.ent he (Good.entR (vr hE n m (h r hr))),fun _ _ _ h=>h⟩
theorem jy(hE:E.Fn P)(n μ':Nat){μ:Nat}{g:Operand}{ps:Array Tmp}{asg body:Code}{k:Exit->Tm->List O->T}{tm1:Tm}{hp1:List O}
  {f:FuncId} {caps capv:List V} {hc hid:List O} {L:List (List V×List O)} (sb:Nat) (bs ts:List Nat) (h0:Ent E.G μ tm hp tm1 hp1)
  (hsq:SqH E.G P f hc capv hid L) (hL:∀ x∈L,x.1.length=ps.size/\x.2.length<=50) (hent:fq P f)
  (hg:evA E tm1 g=.fn f caps) (hμ:Nat.ble μ μ'=true) (htl:limL μ' ((dJ tm1 ts).map (·.2))=true) (hpl:(bG asg&&bG body)=true) (hps:ps.toList.all (fun p=>Nat.blt p N)=true)
  (hh1:Nat.ble hid.length 1=true) (hsb:hid≠[]->(Nat.ble μ sb&&Nat.blt sb μ'&&((dJ tm1 ts).all (fun p=>notZ sb p.2))&&kJ sb caps&&hp1.all (Dz sb))=true) (hhd:hid.all O.data=true)
  (I:Nat->List O->Prop) (hi:I 0 hp1) (hbs:(bs.all fun b=>Nat.blt b μ')=true) (hbl:bs.length=hc.length) (hcv:renL (hp1.length::bs) caps=some capv) (okcv:okZL (hc.length+1) capv=true) (hcov:covB hp1 caps bs=true)
  (hcap:∀ i hp',I i hp'->oH hp' bs sb hid hc)
  (hround:∀ i vs ns hp',L[i]?=some (vs,ns)->I i hp'->sat E.G P (fun e tm2 hp2=>e=.normal/\sat E.G P (fun e _ hp3=>∃ hp4,Ent E.G μ' [] hp3 [] (fY hp4 sb hid)/\match e with
    |.normal=>I (i+1) hp4
    |_=>False) (evC E (hdl E n) μ' N body tm2 hp2 .ret)) (evC E (hdl E n) μ' N asg (putPs ps.toList (upL (hp'.length+hid.length) bs vs) (dJ tm1 ts)) (begH hp' sb hid ns) .ret))
  (hend:∀ hp',I L.length hp'->satO E P R K (k .normal (dJ tm1 ts) hp')) :
  satO E P R K (.loop (.rangeFunc g ps asg body) μ N tm hp k):=fun r hr=>by
 refine pK hE n μ' sb bs ts h0 hsq hL hent hg hμ htl hpl hps hh1 hsb hhd I (fun _ _=>False) hi hbs hbl hcv okcv hcov hcap (fun _ _ h=>h.elim) (fun i vs ns hp' h1 h2=>fb ?_ (hround i vs ns hp' h1 h2)) (fun hp' h=>hend hp' h r hr) (fun _ _ h=>h.elim)
 rintro e tm2 hp2 ⟨rfl,h3⟩
 refine⟨rfl,fb ?_ h3⟩
 rintro e tm3 hp3 ⟨hp4,h4,h5⟩
 refine⟨hp4,h4,?_⟩
 cases e with
 |normal=>exact h5
 |_=>exact h5.elim
end
def xx:Code->Option Code
 |.loop c=>some c
 |.seq a b=>match xx a with|some c=>some c|none=>xx b
 |.block _ c=>xx c
 |_=>none
noncomputable def aY:Code:=(xx (Tryz.f48.body.getD .skip)).getD .skip
noncomputable abbrev Ecan (kCa kDb:Bool):Env:=EE kCa kDb [(37,dH),(51,wM)] [(50,Tryz.f50),(49,Tryz.f49),(103,Tryz.f103),(48,Tryz.f48)]
abbrev Fmt:=List UInt8×Psn×Int
def minO(m:Fmt):List Fmt->Option Fmt
 |[]=>some m
 |x::r=>bif decide (Lib.compareBytes x.1 m.1<0)then minO x r else minO m r
def canV(x:Fmt):V:=.tup [.agg [I x.2.1.f,I x.2.1.r,.sl 1 0 x.2.1.zs.length none,Bb x.2.1.bl,.int .u8 x.2.1.ca,I x.2.1.pa,I x.2.1.ha,I x.2.1.fu],.int .u8 x.2.2,I 0]
def canN(x:Fmt):List O:=[.ints true .i8 x.2.1.zs]
section
variable{kCa kDb:Bool}{R:Fmt->Exit->Tm->List O->Prop}{k:Exit->Tm->List O->T}(p:Psn)(x0 x1 x2 x3 x4 x5 x6 x7:Fmt)
def ch8(p:Psn)(x0 x1 x2 x3 x4 x5 x6 x7:Fmt)(row:List V):List O:=[.ints false .i8 p.zs,.cells true [I p.f,I p.r,.sl 0 0 p.zs.length none,Bb p.bl,.int .u8 p.ca,I p.pa,I p.ha,I p.fu],.cells true [I 0,I 0,.nils,Bb false,.int .u8 0,I 0,I 0,I 0],.cells true [I p.f,I p.r,.sl 0 0 p.zs.length none,Bb p.bl,.int .u8 p.ca,I p.pa,I p.ha,I p.fu],.cells true [.sl 14 0 8 none],.gone,.ints true .i8 x0.2.1.zs,.ints true .i8 x1.2.1.zs,.ints true .i8 x2.2.1.zs,.ints true .i8 x3.2.1.zs,.ints true .i8 x4.2.1.zs,.ints true .i8 x5.2.1.zs,.ints true .i8 x6.2.1.zs,.ints true .i8 x7.2.1.zs,.vals true 10 [[.str x0.1,I x0.2.1.f,I x0.2.1.r,.sl 6 0 x0.2.1.zs.length none,Bb x0.2.1.bl,.int .u8 x0.2.1.ca,I x0.2.1.pa,I x0.2.1.ha,I x0.2.1.fu,.int .u8 x0.2.2],[.str x1.1,I x1.2.1.f,I x1.2.1.r,.sl 7 0 x1.2.1.zs.length none,Bb x1.2.1.bl,.int .u8 x1.2.1.ca,I x1.2.1.pa,I x1.2.1.ha,I x1.2.1.fu,.int .u8 x1.2.2],[.str x2.1,I x2.2.1.f,I x2.2.1.r,.sl 8 0 x2.2.1.zs.length none,Bb x2.2.1.bl,.int .u8 x2.2.1.ca,I x2.2.1.pa,I x2.2.1.ha,I x2.2.1.fu,.int .u8 x2.2.2],[.str x3.1,I x3.2.1.f,I x3.2.1.r,.sl 9 0 x3.2.1.zs.length none,Bb x3.2.1.bl,.int .u8 x3.2.1.ca,I x3.2.1.pa,I x3.2.1.ha,I x3.2.1.fu,.int .u8 x3.2.2],[.str x4.1,I x4.2.1.f,I x4.2.1.r,.sl 10 0 x4.2.1.zs.length none,Bb x4.2.1.bl,.int .u8 x4.2.1.ca,I x4.2.1.pa,I x4.2.1.ha,I x4.2.1.fu,.int .u8 x4.2.2],[.str x5.1,I x5.2.1.f,I x5.2.1.r,.sl 11 0 x5.2.1.zs.length none,Bb x5.2.1.bl,.int .u8 x5.2.1.ca,I x5.2.1.pa,I x5.2.1.ha,I x5.2.1.fu,.int .u8 x5.2.2],[.str x6.1,I x6.2.1.f,I x6.2.1.r,.sl 12 0 x6.2.1.zs.length none,Bb x6.2.1.bl,.int .u8 x6.2.1.ca,I x6.2.1.pa,I x6.2.1.ha,I x6.2.1.fu,.int .u8 x6.2.2],[.str x7.1,I x7.2.1.f,I x7.2.1.r,.sl 13 0 x7.2.1.zs.length none,Bb x7.2.1.bl,.int .u8 x7.2.1.ca,I x7.2.1.pa,I x7.2.1.ha,I x7.2.1.fu,.int .u8 x7.2.2]]]++[.cells true [.str [],I 0,I 0,.nils,Bb false,.int .u8 0,I 0,I 0,I 0,.int .u8 0],.cells true row]
def ct8(i:Nat):Tm:=[(0,.sl 14 0 8 none),(1,.fn 51 []),(4,.ptr 15 0 0),(5,.ptr 16 0 0),(6,I i)]
abbrev tC(kCa kDb:Bool)(R:Fmt->Exit->Tm->List O->Prop)(k:Exit->Tm->List O->T)(p:Psn)(x0 x1 x2 x3 x4 x5 x6 x7:Fmt):Prop:=satO (Ecan kCa kDb) PP R (some x0) (k (.exit 0) (ct8 8) (ch8 p x0 x1 x2 x3 x4 x5 x6 x7 [.str x0.1,I x0.2.1.f,I x0.2.1.r,.sl 6 0 x0.2.1.zs.length none,Bb x0.2.1.bl,.int .u8 x0.2.1.ca,I x0.2.1.pa,I x0.2.1.ha,I x0.2.1.fu,.int .u8 x0.2.2]))
abbrev tn(kCa kDb:Bool)(R:Fmt->Exit->Tm->List O->Prop)(k:Exit->Tm->List O->T)(p:Psn)(x0 x1 x2 x3 x4 x5 x6 x7:Fmt):Prop:=satO (Ecan kCa kDb) PP R (some x1) (k (.exit 0) (ct8 8) (ch8 p x0 x1 x2 x3 x4 x5 x6 x7 [.str x1.1,I x1.2.1.f,I x1.2.1.r,.sl 7 0 x1.2.1.zs.length none,Bb x1.2.1.bl,.int .u8 x1.2.1.ca,I x1.2.1.pa,I x1.2.1.ha,I x1.2.1.fu,.int .u8 x1.2.2]))
abbrev rz(kCa kDb:Bool)(R:Fmt->Exit->Tm->List O->Prop)(k:Exit->Tm->List O->T)(p:Psn)(x0 x1 x2 x3 x4 x5 x6 x7:Fmt):Prop:=satO (Ecan kCa kDb) PP R (some x2) (k (.exit 0) (ct8 8) (ch8 p x0 x1 x2 x3 x4 x5 x6 x7 [.str x2.1,I x2.2.1.f,I x2.2.1.r,.sl 8 0 x2.2.1.zs.length none,Bb x2.2.1.bl,.int .u8 x2.2.1.ca,I x2.2.1.pa,I x2.2.1.ha,I x2.2.1.fu,.int .u8 x2.2.2]))
abbrev nE(kCa kDb:Bool)(R:Fmt->Exit->Tm->List O->Prop)(k:Exit->Tm->List O->T)(p:Psn)(x0 x1 x2 x3 x4 x5 x6 x7:Fmt):Prop:=satO (Ecan kCa kDb) PP R (some x3) (k (.exit 0) (ct8 8) (ch8 p x0 x1 x2 x3 x4 x5 x6 x7 [.str x3.1,I x3.2.1.f,I x3.2.1.r,.sl 9 0 x3.2.1.zs.length none,Bb x3.2.1.bl,.int .u8 x3.2.1.ca,I x3.2.1.pa,I x3.2.1.ha,I x3.2.1.fu,.int .u8 x3.2.2]))
abbrev jz(kCa kDb:Bool)(R:Fmt->Exit->Tm->List O->Prop)(k:Exit->Tm->List O->T)(p:Psn)(x0 x1 x2 x3 x4 x5 x6 x7:Fmt):Prop:=satO (Ecan kCa kDb) PP R (some x4) (k (.exit 0) (ct8 8) (ch8 p x0 x1 x2 x3 x4 x5 x6 x7 [.str x4.1,I x4.2.1.f,I x4.2.1.r,.sl 10 0 x4.2.1.zs.length none,Bb x4.2.1.bl,.int .u8 x4.2.1.ca,I x4.2.1.pa,I x4.2.1.ha,I x4.2.1.fu,.int .u8 x4.2.2]))
abbrev gg(kCa kDb:Bool)(R:Fmt->Exit->Tm->List O->Prop)(k:Exit->Tm->List O->T)(p:Psn)(x0 x1 x2 x3 x4 x5 x6 x7:Fmt):Prop:=satO (Ecan kCa kDb) PP R (some x5) (k (.exit 0) (ct8 8) (ch8 p x0 x1 x2 x3 x4 x5 x6 x7 [.str x5.1,I x5.2.1.f,I x5.2.1.r,.sl 11 0 x5.2.1.zs.length none,Bb x5.2.1.bl,.int .u8 x5.2.1.ca,I x5.2.1.pa,I x5.2.1.ha,I x5.2.1.fu,.int .u8 x5.2.2]))
abbrev eG(kCa kDb:Bool)(R:Fmt->Exit->Tm->List O->Prop)(k:Exit->Tm->List O->T)(p:Psn)(x0 x1 x2 x3 x4 x5 x6 x7:Fmt):Prop:=satO (Ecan kCa kDb) PP R (some x6) (k (.exit 0) (ct8 8) (ch8 p x0 x1 x2 x3 x4 x5 x6 x7 [.str x6.1,I x6.2.1.f,I x6.2.1.r,.sl 12 0 x6.2.1.zs.length none,Bb x6.2.1.bl,.int .u8 x6.2.1.ca,I x6.2.1.pa,I x6.2.1.ha,I x6.2.1.fu,.int .u8 x6.2.2]))
abbrev di(kCa kDb:Bool)(R:Fmt->Exit->Tm->List O->Prop)(k:Exit->Tm->List O->T)(p:Psn)(x0 x1 x2 x3 x4 x5 x6 x7:Fmt):Prop:=satO (Ecan kCa kDb) PP R (some x7) (k (.exit 0) (ct8 8) (ch8 p x0 x1 x2 x3 x4 x5 x6 x7 [.str x7.1,I x7.2.1.f,I x7.2.1.r,.sl 13 0 x7.2.1.zs.length none,Bb x7.2.1.bl,.int .u8 x7.2.1.ca,I x7.2.1.pa,I x7.2.1.ha,I x7.2.1.fu,.int .u8 x7.2.2]))
theorem Ln(h0:tC kCa kDb R k p x0 x1 x2 x3 x4 x5 x6 x7):bJ (Ecan kCa kDb) PP R 5 15 Tryz.f48.ntmps aY k 1 (minO x0 []) (ct8 8) (ch8 p x0 x1 x2 x3 x4 x5 x6 x7 [.str x0.1,I x0.2.1.f,I x0.2.1.r,.sl 6 0 x0.2.1.zs.length none,Bb x0.2.1.bl,.int .u8 x0.2.1.ca,I x0.2.1.pa,I x0.2.1.ha,I x0.2.1.fu,.int .u8 x0.2.2]):=by
 refine bL ?_
 refine dU rfl ?_
 exact eI (Ent.rn [0,1,2,3,4,5,6,7,8,9,10,11,12,13,14,15,16] [0,1,4,5,6] rfl rfl rfl rfl rfl) h0
theorem LC(h1:tn kCa kDb R k p x0 x1 x2 x3 x4 x5 x6 x7):bJ (Ecan kCa kDb) PP R 5 15 Tryz.f48.ntmps aY k 1 (minO x1 []) (ct8 8) (ch8 p x0 x1 x2 x3 x4 x5 x6 x7 [.str x1.1,I x1.2.1.f,I x1.2.1.r,.sl 7 0 x1.2.1.zs.length none,Bb x1.2.1.bl,.int .u8 x1.2.1.ca,I x1.2.1.pa,I x1.2.1.ha,I x1.2.1.fu,.int .u8 x1.2.2]):=by
 refine bL ?_
 refine dU rfl ?_
 exact eI (Ent.rn [0,1,2,3,4,5,6,7,8,9,10,11,12,13,14,15,16] [0,1,4,5,6] rfl rfl rfl rfl rfl) h1
theorem Lj(h2:rz kCa kDb R k p x0 x1 x2 x3 x4 x5 x6 x7):bJ (Ecan kCa kDb) PP R 5 15 Tryz.f48.ntmps aY k 1 (minO x2 []) (ct8 8) (ch8 p x0 x1 x2 x3 x4 x5 x6 x7 [.str x2.1,I x2.2.1.f,I x2.2.1.r,.sl 8 0 x2.2.1.zs.length none,Bb x2.2.1.bl,.int .u8 x2.2.1.ca,I x2.2.1.pa,I x2.2.1.ha,I x2.2.1.fu,.int .u8 x2.2.2]):=by
 refine bL ?_
 refine dU rfl ?_
 exact eI (Ent.rn [0,1,2,3,4,5,6,7,8,9,10,11,12,13,14,15,16] [0,1,4,5,6] rfl rfl rfl rfl rfl) h2
theorem Jr(h3:nE kCa kDb R k p x0 x1 x2 x3 x4 x5 x6 x7):bJ (Ecan kCa kDb) PP R 5 15 Tryz.f48.ntmps aY k 1 (minO x3 []) (ct8 8) (ch8 p x0 x1 x2 x3 x4 x5 x6 x7 [.str x3.1,I x3.2.1.f,I x3.2.1.r,.sl 9 0 x3.2.1.zs.length none,Bb x3.2.1.bl,.int .u8 x3.2.1.ca,I x3.2.1.pa,I x3.2.1.ha,I x3.2.1.fu,.int .u8 x3.2.2]):=by
 refine bL ?_
 refine dU rfl ?_
 exact eI (Ent.rn [0,1,2,3,4,5,6,7,8,9,10,11,12,13,14,15,16] [0,1,4,5,6] rfl rfl rfl rfl rfl) h3
theorem Jw(h4:jz kCa kDb R k p x0 x1 x2 x3 x4 x5 x6 x7):bJ (Ecan kCa kDb) PP R 5 15 Tryz.f48.ntmps aY k 1 (minO x4 []) (ct8 8) (ch8 p x0 x1 x2 x3 x4 x5 x6 x7 [.str x4.1,I x4.2.1.f,I x4.2.1.r,.sl 10 0 x4.2.1.zs.length none,Bb x4.2.1.bl,.int .u8 x4.2.1.ca,I x4.2.1.pa,I x4.2.1.ha,I x4.2.1.fu,.int .u8 x4.2.2]):=by
 refine bL ?_
 refine dU rfl ?_
 exact eI (Ent.rn [0,1,2,3,4,5,6,7,8,9,10,11,12,13,14,15,16] [0,1,4,5,6] rfl rfl rfl rfl rfl) h4
theorem IU(h5:gg kCa kDb R k p x0 x1 x2 x3 x4 x5 x6 x7):bJ (Ecan kCa kDb) PP R 5 15 Tryz.f48.ntmps aY k 1 (minO x5 []) (ct8 8) (ch8 p x0 x1 x2 x3 x4 x5 x6 x7 [.str x5.1,I x5.2.1.f,I x5.2.1.r,.sl 11 0 x5.2.1.zs.length none,Bb x5.2.1.bl,.int .u8 x5.2.1.ca,I x5.2.1.pa,I x5.2.1.ha,I x5.2.1.fu,.int .u8 x5.2.2]):=by
 refine bL ?_
 refine dU rfl ?_
 exact eI (Ent.rn [0,1,2,3,4,5,6,7,8,9,10,11,12,13,14,15,16] [0,1,4,5,6] rfl rfl rfl rfl rfl) h5
theorem KD(h6:eG kCa kDb R k p x0 x1 x2 x3 x4 x5 x6 x7):bJ (Ecan kCa kDb) PP R 5 15 Tryz.f48.ntmps aY k 1 (minO x6 []) (ct8 8) (ch8 p x0 x1 x2 x3 x4 x5 x6 x7 [.str x6.1,I x6.2.1.f,I x6.2.1.r,.sl 12 0 x6.2.1.zs.length none,Bb x6.2.1.bl,.int .u8 x6.2.1.ca,I x6.2.1.pa,I x6.2.1.ha,I x6.2.1.fu,.int .u8 x6.2.2]):=by
 refine bL ?_
 refine dU rfl ?_
 exact eI (Ent.rn [0,1,2,3,4,5,6,7,8,9,10,11,12,13,14,15,16] [0,1,4,5,6] rfl rfl rfl rfl rfl) h6
theorem iR(h7:di kCa kDb R k p x0 x1 x2 x3 x4 x5 x6 x7):bJ (Ecan kCa kDb) PP R 5 15 Tryz.f48.ntmps aY k 1 (minO x7 []) (ct8 8) (ch8 p x0 x1 x2 x3 x4 x5 x6 x7 [.str x7.1,I x7.2.1.f,I x7.2.1.r,.sl 13 0 x7.2.1.zs.length none,Bb x7.2.1.bl,.int .u8 x7.2.1.ca,I x7.2.1.pa,I x7.2.1.ha,I x7.2.1.fu,.int .u8 x7.2.2]):=by
 refine bL ?_
 refine dU rfl ?_
 exact eI (Ent.rn [0,1,2,3,4,5,6,7,8,9,10,11,12,13,14,15,16] [0,1,4,5,6] rfl rfl rfl rfl rfl) h7
theorem Mg(h0:tC kCa kDb R k p x0 x1 x2 x3 x4 x5 x6 x7)(h7:di kCa kDb R k p x0 x1 x2 x3 x4 x5 x6 x7):bJ (Ecan kCa kDb) PP R 5 15 Tryz.f48.ntmps aY k 2 (minO x0 [x7]) (ct8 7) (ch8 p x0 x1 x2 x3 x4 x5 x6 x7 [.str x0.1,I x0.2.1.f,I x0.2.1.r,.sl 6 0 x0.2.1.zs.length none,Bb x0.2.1.bl,.int .u8 x0.2.1.ca,I x0.2.1.pa,I x0.2.1.ha,I x0.2.1.fu,.int .u8 x0.2.2]):=by
 refine bL ?_
 refine cy rfl ?_
 repeat refine ah rfl ?_
 refine ah (pa (pa (decide_eq_true (az rfl)) (decide_eq_true (az rfl))) rfl) ?_
 refine cA ?_ ?_
 ·repeat refine ah rfl ?_
  exact aP (Ent.rn [0,1,2,3,4,5,6,7,8,9,10,11,12,13,14,15,16] [0,1,4,5,6] rfl rfl rfl rfl rfl) (iR p x0 x1 x2 x3 x4 x5 x6 x7 h7)
 ·repeat refine ah rfl ?_
  exact aP (Ent.rn [0,1,2,3,4,5,6,7,8,9,10,11,12,13,14,15,16] [0,1,4,5,6] rfl rfl rfl rfl rfl) (Ln p x0 x1 x2 x3 x4 x5 x6 x7 h0)
theorem Mb(h1:tn kCa kDb R k p x0 x1 x2 x3 x4 x5 x6 x7)(h7:di kCa kDb R k p x0 x1 x2 x3 x4 x5 x6 x7):bJ (Ecan kCa kDb) PP R 5 15 Tryz.f48.ntmps aY k 2 (minO x1 [x7]) (ct8 7) (ch8 p x0 x1 x2 x3 x4 x5 x6 x7 [.str x1.1,I x1.2.1.f,I x1.2.1.r,.sl 7 0 x1.2.1.zs.length none,Bb x1.2.1.bl,.int .u8 x1.2.1.ca,I x1.2.1.pa,I x1.2.1.ha,I x1.2.1.fu,.int .u8 x1.2.2]):=by
 refine bL ?_
 refine cy rfl ?_
 repeat refine ah rfl ?_
 refine ah (pa (pa (decide_eq_true (az rfl)) (decide_eq_true (az rfl))) rfl) ?_
 refine cA ?_ ?_
 ·repeat refine ah rfl ?_
  exact aP (Ent.rn [0,1,2,3,4,5,6,7,8,9,10,11,12,13,14,15,16] [0,1,4,5,6] rfl rfl rfl rfl rfl) (iR p x0 x1 x2 x3 x4 x5 x6 x7 h7)
 ·repeat refine ah rfl ?_
  exact aP (Ent.rn [0,1,2,3,4,5,6,7,8,9,10,11,12,13,14,15,16] [0,1,4,5,6] rfl rfl rfl rfl rfl) (LC p x0 x1 x2 x3 x4 x5 x6 x7 h1)
theorem Ka(h2:rz kCa kDb R k p x0 x1 x2 x3 x4 x5 x6 x7)(h7:di kCa kDb R k p x0 x1 x2 x3 x4 x5 x6 x7):bJ (Ecan kCa kDb) PP R 5 15 Tryz.f48.ntmps aY k 2 (minO x2 [x7]) (ct8 7) (ch8 p x0 x1 x2 x3 x4 x5 x6 x7 [.str x2.1,I x2.2.1.f,I x2.2.1.r,.sl 8 0 x2.2.1.zs.length none,Bb x2.2.1.bl,.int .u8 x2.2.1.ca,I x2.2.1.pa,I x2.2.1.ha,I x2.2.1.fu,.int .u8 x2.2.2]):=by
 refine bL ?_
 refine cy rfl ?_
 repeat refine ah rfl ?_
 refine ah (pa (pa (decide_eq_true (az rfl)) (decide_eq_true (az rfl))) rfl) ?_
 refine cA ?_ ?_
 ·repeat refine ah rfl ?_
  exact aP (Ent.rn [0,1,2,3,4,5,6,7,8,9,10,11,12,13,14,15,16] [0,1,4,5,6] rfl rfl rfl rfl rfl) (iR p x0 x1 x2 x3 x4 x5 x6 x7 h7)
 ·repeat refine ah rfl ?_
  exact aP (Ent.rn [0,1,2,3,4,5,6,7,8,9,10,11,12,13,14,15,16] [0,1,4,5,6] rfl rfl rfl rfl rfl) (Lj p x0 x1 x2 x3 x4 x5 x6 x7 h2)
theorem LP(h3:nE kCa kDb R k p x0 x1 x2 x3 x4 x5 x6 x7)(h7:di kCa kDb R k p x0 x1 x2 x3 x4 x5 x6 x7):bJ (Ecan kCa kDb) PP R 5 15 Tryz.f48.ntmps aY k 2 (minO x3 [x7]) (ct8 7) (ch8 p x0 x1 x2 x3 x4 x5 x6 x7 [.str x3.1,I x3.2.1.f,I x3.2.1.r,.sl 9 0 x3.2.1.zs.length none,Bb x3.2.1.bl,.int .u8 x3.2.1.ca,I x3.2.1.pa,I x3.2.1.ha,I x3.2.1.fu,.int .u8 x3.2.2]):=by
 refine bL ?_
 refine cy rfl ?_
 repeat refine ah rfl ?_
 refine ah (pa (pa (decide_eq_true (az rfl)) (decide_eq_true (az rfl))) rfl) ?_
 refine cA ?_ ?_
 ·repeat refine ah rfl ?_
  exact aP (Ent.rn [0,1,2,3,4,5,6,7,8,9,10,11,12,13,14,15,16] [0,1,4,5,6] rfl rfl rfl rfl rfl) (iR p x0 x1 x2 x3 x4 x5 x6 x7 h7)
 ·repeat refine ah rfl ?_
  exact aP (Ent.rn [0,1,2,3,4,5,6,7,8,9,10,11,12,13,14,15,16] [0,1,4,5,6] rfl rfl rfl rfl rfl) (Jr p x0 x1 x2 x3 x4 x5 x6 x7 h3)
theorem LA(h4:jz kCa kDb R k p x0 x1 x2 x3 x4 x5 x6 x7)(h7:di kCa kDb R k p x0 x1 x2 x3 x4 x5 x6 x7):bJ (Ecan kCa kDb) PP R 5 15 Tryz.f48.ntmps aY k 2 (minO x4 [x7]) (ct8 7) (ch8 p x0 x1 x2 x3 x4 x5 x6 x7 [.str x4.1,I x4.2.1.f,I x4.2.1.r,.sl 10 0 x4.2.1.zs.length none,Bb x4.2.1.bl,.int .u8 x4.2.1.ca,I x4.2.1.pa,I x4.2.1.ha,I x4.2.1.fu,.int .u8 x4.2.2]):=by
 refine bL ?_
 refine cy rfl ?_
 repeat refine ah rfl ?_
 refine ah (pa (pa (decide_eq_true (az rfl)) (decide_eq_true (az rfl))) rfl) ?_
 refine cA ?_ ?_
 ·repeat refine ah rfl ?_
  exact aP (Ent.rn [0,1,2,3,4,5,6,7,8,9,10,11,12,13,14,15,16] [0,1,4,5,6] rfl rfl rfl rfl rfl) (iR p x0 x1 x2 x3 x4 x5 x6 x7 h7)
 ·repeat refine ah rfl ?_
  exact aP (Ent.rn [0,1,2,3,4,5,6,7,8,9,10,11,12,13,14,15,16] [0,1,4,5,6] rfl rfl rfl rfl rfl) (Jw p x0 x1 x2 x3 x4 x5 x6 x7 h4)
theorem Kf(h5:gg kCa kDb R k p x0 x1 x2 x3 x4 x5 x6 x7)(h7:di kCa kDb R k p x0 x1 x2 x3 x4 x5 x6 x7):bJ (Ecan kCa kDb) PP R 5 15 Tryz.f48.ntmps aY k 2 (minO x5 [x7]) (ct8 7) (ch8 p x0 x1 x2 x3 x4 x5 x6 x7 [.str x5.1,I x5.2.1.f,I x5.2.1.r,.sl 11 0 x5.2.1.zs.length none,Bb x5.2.1.bl,.int .u8 x5.2.1.ca,I x5.2.1.pa,I x5.2.1.ha,I x5.2.1.fu,.int .u8 x5.2.2]):=by
 refine bL ?_
 refine cy rfl ?_
 repeat refine ah rfl ?_
 refine ah (pa (pa (decide_eq_true (az rfl)) (decide_eq_true (az rfl))) rfl) ?_
 refine cA ?_ ?_
 ·repeat refine ah rfl ?_
  exact aP (Ent.rn [0,1,2,3,4,5,6,7,8,9,10,11,12,13,14,15,16] [0,1,4,5,6] rfl rfl rfl rfl rfl) (iR p x0 x1 x2 x3 x4 x5 x6 x7 h7)
 ·repeat refine ah rfl ?_
  exact aP (Ent.rn [0,1,2,3,4,5,6,7,8,9,10,11,12,13,14,15,16] [0,1,4,5,6] rfl rfl rfl rfl rfl) (IU p x0 x1 x2 x3 x4 x5 x6 x7 h5)
theorem kf(h6:eG kCa kDb R k p x0 x1 x2 x3 x4 x5 x6 x7)(h7:di kCa kDb R k p x0 x1 x2 x3 x4 x5 x6 x7):bJ (Ecan kCa kDb) PP R 5 15 Tryz.f48.ntmps aY k 2 (minO x6 [x7]) (ct8 7) (ch8 p x0 x1 x2 x3 x4 x5 x6 x7 [.str x6.1,I x6.2.1.f,I x6.2.1.r,.sl 12 0 x6.2.1.zs.length none,Bb x6.2.1.bl,.int .u8 x6.2.1.ca,I x6.2.1.pa,I x6.2.1.ha,I x6.2.1.fu,.int .u8 x6.2.2]):=by
 refine bL ?_
 refine cy rfl ?_
 repeat refine ah rfl ?_
 refine ah (pa (pa (decide_eq_true (az rfl)) (decide_eq_true (az rfl))) rfl) ?_
 refine cA ?_ ?_
 ·repeat refine ah rfl ?_
  exact aP (Ent.rn [0,1,2,3,4,5,6,7,8,9,10,11,12,13,14,15,16] [0,1,4,5,6] rfl rfl rfl rfl rfl) (iR p x0 x1 x2 x3 x4 x5 x6 x7 h7)
 ·repeat refine ah rfl ?_
  exact aP (Ent.rn [0,1,2,3,4,5,6,7,8,9,10,11,12,13,14,15,16] [0,1,4,5,6] rfl rfl rfl rfl rfl) (KD p x0 x1 x2 x3 x4 x5 x6 x7 h6)
theorem JL(h0:tC kCa kDb R k p x0 x1 x2 x3 x4 x5 x6 x7)(h6:eG kCa kDb R k p x0 x1 x2 x3 x4 x5 x6 x7)(h7:di kCa kDb R k p x0 x1 x2 x3 x4 x5 x6 x7):bJ (Ecan kCa kDb) PP R 5 15 Tryz.f48.ntmps aY k 3 (minO x0 [x6,x7]) (ct8 6) (ch8 p x0 x1 x2 x3 x4 x5 x6 x7 [.str x0.1,I x0.2.1.f,I x0.2.1.r,.sl 6 0 x0.2.1.zs.length none,Bb x0.2.1.bl,.int .u8 x0.2.1.ca,I x0.2.1.pa,I x0.2.1.ha,I x0.2.1.fu,.int .u8 x0.2.2]):=by
 refine bL ?_
 refine cy rfl ?_
 repeat refine ah rfl ?_
 refine ah (pa (pa (decide_eq_true (az rfl)) (decide_eq_true (az rfl))) rfl) ?_
 refine cA ?_ ?_
 ·repeat refine ah rfl ?_
  exact aP (Ent.rn [0,1,2,3,4,5,6,7,8,9,10,11,12,13,14,15,16] [0,1,4,5,6] rfl rfl rfl rfl rfl) (kf p x0 x1 x2 x3 x4 x5 x6 x7 h6 h7)
 ·repeat refine ah rfl ?_
  exact aP (Ent.rn [0,1,2,3,4,5,6,7,8,9,10,11,12,13,14,15,16] [0,1,4,5,6] rfl rfl rfl rfl rfl) (Mg p x0 x1 x2 x3 x4 x5 x6 x7 h0 h7)
theorem JC(h1:tn kCa kDb R k p x0 x1 x2 x3 x4 x5 x6 x7)(h6:eG kCa kDb R k p x0 x1 x2 x3 x4 x5 x6 x7)(h7:di kCa kDb R k p x0 x1 x2 x3 x4 x5 x6 x7):bJ (Ecan kCa kDb) PP R 5 15 Tryz.f48.ntmps aY k 3 (minO x1 [x6,x7]) (ct8 6) (ch8 p x0 x1 x2 x3 x4 x5 x6 x7 [.str x1.1,I x1.2.1.f,I x1.2.1.r,.sl 7 0 x1.2.1.zs.length none,Bb x1.2.1.bl,.int .u8 x1.2.1.ca,I x1.2.1.pa,I x1.2.1.ha,I x1.2.1.fu,.int .u8 x1.2.2]):=by
 refine bL ?_
 refine cy rfl ?_
 repeat refine ah rfl ?_
 refine ah (pa (pa (decide_eq_true (az rfl)) (decide_eq_true (az rfl))) rfl) ?_
 refine cA ?_ ?_
 ·repeat refine ah rfl ?_
  exact aP (Ent.rn [0,1,2,3,4,5,6,7,8,9,10,11,12,13,14,15,16] [0,1,4,5,6] rfl rfl rfl rfl rfl) (kf p x0 x1 x2 x3 x4 x5 x6 x7 h6 h7)
 ·repeat refine ah rfl ?_
  exact aP (Ent.rn [0,1,2,3,4,5,6,7,8,9,10,11,12,13,14,15,16] [0,1,4,5,6] rfl rfl rfl rfl rfl) (Mb p x0 x1 x2 x3 x4 x5 x6 x7 h1 h7)
theorem Jc(h2:rz kCa kDb R k p x0 x1 x2 x3 x4 x5 x6 x7)(h6:eG kCa kDb R k p x0 x1 x2 x3 x4 x5 x6 x7)(h7:di kCa kDb R k p x0 x1 x2 x3 x4 x5 x6 x7):bJ (Ecan kCa kDb) PP R 5 15 Tryz.f48.ntmps aY k 3 (minO x2 [x6,x7]) (ct8 6) (ch8 p x0 x1 x2 x3 x4 x5 x6 x7 [.str x2.1,I x2.2.1.f,I x2.2.1.r,.sl 8 0 x2.2.1.zs.length none,Bb x2.2.1.bl,.int .u8 x2.2.1.ca,I x2.2.1.pa,I x2.2.1.ha,I x2.2.1.fu,.int .u8 x2.2.2]):=by
 refine bL ?_
 refine cy rfl ?_
 repeat refine ah rfl ?_
 refine ah (pa (pa (decide_eq_true (az rfl)) (decide_eq_true (az rfl))) rfl) ?_
 refine cA ?_ ?_
 ·repeat refine ah rfl ?_
  exact aP (Ent.rn [0,1,2,3,4,5,6,7,8,9,10,11,12,13,14,15,16] [0,1,4,5,6] rfl rfl rfl rfl rfl) (kf p x0 x1 x2 x3 x4 x5 x6 x7 h6 h7)
 ·repeat refine ah rfl ?_
  exact aP (Ent.rn [0,1,2,3,4,5,6,7,8,9,10,11,12,13,14,15,16] [0,1,4,5,6] rfl rfl rfl rfl rfl) (Ka p x0 x1 x2 x3 x4 x5 x6 x7 h2 h7)
theorem KA(h3:nE kCa kDb R k p x0 x1 x2 x3 x4 x5 x6 x7)(h6:eG kCa kDb R k p x0 x1 x2 x3 x4 x5 x6 x7)(h7:di kCa kDb R k p x0 x1 x2 x3 x4 x5 x6 x7):bJ (Ecan kCa kDb) PP R 5 15 Tryz.f48.ntmps aY k 3 (minO x3 [x6,x7]) (ct8 6) (ch8 p x0 x1 x2 x3 x4 x5 x6 x7 [.str x3.1,I x3.2.1.f,I x3.2.1.r,.sl 9 0 x3.2.1.zs.length none,Bb x3.2.1.bl,.int .u8 x3.2.1.ca,I x3.2.1.pa,I x3.2.1.ha,I x3.2.1.fu,.int .u8 x3.2.2]):=by
 refine bL ?_
 refine cy rfl ?_
 repeat refine ah rfl ?_
 refine ah (pa (pa (decide_eq_true (az rfl)) (decide_eq_true (az rfl))) rfl) ?_
 refine cA ?_ ?_
 ·repeat refine ah rfl ?_
  exact aP (Ent.rn [0,1,2,3,4,5,6,7,8,9,10,11,12,13,14,15,16] [0,1,4,5,6] rfl rfl rfl rfl rfl) (kf p x0 x1 x2 x3 x4 x5 x6 x7 h6 h7)
 ·repeat refine ah rfl ?_
  exact aP (Ent.rn [0,1,2,3,4,5,6,7,8,9,10,11,12,13,14,15,16] [0,1,4,5,6] rfl rfl rfl rfl rfl) (LP p x0 x1 x2 x3 x4 x5 x6 x7 h3 h7)
theorem LG(h4:jz kCa kDb R k p x0 x1 x2 x3 x4 x5 x6 x7)(h6:eG kCa kDb R k p x0 x1 x2 x3 x4 x5 x6 x7)(h7:di kCa kDb R k p x0 x1 x2 x3 x4 x5 x6 x7):bJ (Ecan kCa kDb) PP R 5 15 Tryz.f48.ntmps aY k 3 (minO x4 [x6,x7]) (ct8 6) (ch8 p x0 x1 x2 x3 x4 x5 x6 x7 [.str x4.1,I x4.2.1.f,I x4.2.1.r,.sl 10 0 x4.2.1.zs.length none,Bb x4.2.1.bl,.int .u8 x4.2.1.ca,I x4.2.1.pa,I x4.2.1.ha,I x4.2.1.fu,.int .u8 x4.2.2]):=by
 refine bL ?_
 refine cy rfl ?_
 repeat refine ah rfl ?_
 refine ah (pa (pa (decide_eq_true (az rfl)) (decide_eq_true (az rfl))) rfl) ?_
 refine cA ?_ ?_
 ·repeat refine ah rfl ?_
  exact aP (Ent.rn [0,1,2,3,4,5,6,7,8,9,10,11,12,13,14,15,16] [0,1,4,5,6] rfl rfl rfl rfl rfl) (kf p x0 x1 x2 x3 x4 x5 x6 x7 h6 h7)
 ·repeat refine ah rfl ?_
  exact aP (Ent.rn [0,1,2,3,4,5,6,7,8,9,10,11,12,13,14,15,16] [0,1,4,5,6] rfl rfl rfl rfl rfl) (LA p x0 x1 x2 x3 x4 x5 x6 x7 h4 h7)
theorem nX(h5:gg kCa kDb R k p x0 x1 x2 x3 x4 x5 x6 x7)(h6:eG kCa kDb R k p x0 x1 x2 x3 x4 x5 x6 x7)(h7:di kCa kDb R k p x0 x1 x2 x3 x4 x5 x6 x7):bJ (Ecan kCa kDb) PP R 5 15 Tryz.f48.ntmps aY k 3 (minO x5 [x6,x7]) (ct8 6) (ch8 p x0 x1 x2 x3 x4 x5 x6 x7 [.str x5.1,I x5.2.1.f,I x5.2.1.r,.sl 11 0 x5.2.1.zs.length none,Bb x5.2.1.bl,.int .u8 x5.2.1.ca,I x5.2.1.pa,I x5.2.1.ha,I x5.2.1.fu,.int .u8 x5.2.2]):=by
 refine bL ?_
 refine cy rfl ?_
 repeat refine ah rfl ?_
 refine ah (pa (pa (decide_eq_true (az rfl)) (decide_eq_true (az rfl))) rfl) ?_
 refine cA ?_ ?_
 ·repeat refine ah rfl ?_
  exact aP (Ent.rn [0,1,2,3,4,5,6,7,8,9,10,11,12,13,14,15,16] [0,1,4,5,6] rfl rfl rfl rfl rfl) (kf p x0 x1 x2 x3 x4 x5 x6 x7 h6 h7)
 ·repeat refine ah rfl ?_
  exact aP (Ent.rn [0,1,2,3,4,5,6,7,8,9,10,11,12,13,14,15,16] [0,1,4,5,6] rfl rfl rfl rfl rfl) (Kf p x0 x1 x2 x3 x4 x5 x6 x7 h5 h7)
theorem Lg(h0:tC kCa kDb R k p x0 x1 x2 x3 x4 x5 x6 x7)(h5:gg kCa kDb R k p x0 x1 x2 x3 x4 x5 x6 x7)(h6:eG kCa kDb R k p x0 x1 x2 x3 x4 x5 x6 x7)(h7:di kCa kDb R k p x0 x1 x2 x3 x4 x5 x6 x7):bJ (Ecan kCa kDb) PP R 5 15 Tryz.f48.ntmps aY k 4 (minO x0 [x5,x6,x7]) (ct8 5) (ch8 p x0 x1 x2 x3 x4 x5 x6 x7 [.str x0.1,I x0.2.1.f,I x0.2.1.r,.sl 6 0 x0.2.1.zs.length none,Bb x0.2.1.bl,.int .u8 x0.2.1.ca,I x0.2.1.pa,I x0.2.1.ha,I x0.2.1.fu,.int .u8 x0.2.2]):=by
 refine bL ?_
 refine cy rfl ?_
 repeat refine ah rfl ?_
 refine ah (pa (pa (decide_eq_true (az rfl)) (decide_eq_true (az rfl))) rfl) ?_
 refine cA ?_ ?_
 ·repeat refine ah rfl ?_
  exact aP (Ent.rn [0,1,2,3,4,5,6,7,8,9,10,11,12,13,14,15,16] [0,1,4,5,6] rfl rfl rfl rfl rfl) (nX p x0 x1 x2 x3 x4 x5 x6 x7 h5 h6 h7)
 ·repeat refine ah rfl ?_
  exact aP (Ent.rn [0,1,2,3,4,5,6,7,8,9,10,11,12,13,14,15,16] [0,1,4,5,6] rfl rfl rfl rfl rfl) (JL p x0 x1 x2 x3 x4 x5 x6 x7 h0 h6 h7)
theorem KO(h1:tn kCa kDb R k p x0 x1 x2 x3 x4 x5 x6 x7)(h5:gg kCa kDb R k p x0 x1 x2 x3 x4 x5 x6 x7)(h6:eG kCa kDb R k p x0 x1 x2 x3 x4 x5 x6 x7)(h7:di kCa kDb R k p x0 x1 x2 x3 x4 x5 x6 x7):bJ (Ecan kCa kDb) PP R 5 15 Tryz.f48.ntmps aY k 4 (minO x1 [x5,x6,x7]) (ct8 5) (ch8 p x0 x1 x2 x3 x4 x5 x6 x7 [.str x1.1,I x1.2.1.f,I x1.2.1.r,.sl 7 0 x1.2.1.zs.length none,Bb x1.2.1.bl,.int .u8 x1.2.1.ca,I x1.2.1.pa,I x1.2.1.ha,I x1.2.1.fu,.int .u8 x1.2.2]):=by
 refine bL ?_
 refine cy rfl ?_
 repeat refine ah rfl ?_
 refine ah (pa (pa (decide_eq_true (az rfl)) (decide_eq_true (az rfl))) rfl) ?_
 refine cA ?_ ?_
 ·repeat refine ah rfl ?_
  exact aP (Ent.rn [0,1,2,3,4,5,6,7,8,9,10,11,12,13,14,15,16] [0,1,4,5,6] rfl rfl rfl rfl rfl) (nX p x0 x1 x2 x3 x4 x5 x6 x7 h5 h6 h7)
 ·repeat refine ah rfl ?_
  exact aP (Ent.rn [0,1,2,3,4,5,6,7,8,9,10,11,12,13,14,15,16] [0,1,4,5,6] rfl rfl rfl rfl rfl) (JC p x0 x1 x2 x3 x4 x5 x6 x7 h1 h6 h7)
theorem Kr(h2:rz kCa kDb R k p x0 x1 x2 x3 x4 x5 x6 x7)(h5:gg kCa kDb R k p x0 x1 x2 x3 x4 x5 x6 x7)(h6:eG kCa kDb R k p x0 x1 x2 x3 x4 x5 x6 x7)(h7:di kCa kDb R k p x0 x1 x2 x3 x4 x5 x6 x7):bJ (Ecan kCa kDb) PP R 5 15 Tryz.f48.ntmps aY k 4 (minO x2 [x5,x6,x7]) (ct8 5) (ch8 p x0 x1 x2 x3 x4 x5 x6 x7 [.str x2.1,I x2.2.1.f,I x2.2.1.r,.sl 8 0 x2.2.1.zs.length none,Bb x2.2.1.bl,.int .u8 x2.2.1.ca,I x2.2.1.pa,I x2.2.1.ha,I x2.2.1.fu,.int .u8 x2.2.2]):=by
 refine bL ?_
 refine cy rfl ?_
 repeat refine ah rfl ?_
 refine ah (pa (pa (decide_eq_true (az rfl)) (decide_eq_true (az rfl))) rfl) ?_
 refine cA ?_ ?_
 ·repeat refine ah rfl ?_
  exact aP (Ent.rn [0,1,2,3,4,5,6,7,8,9,10,11,12,13,14,15,16] [0,1,4,5,6] rfl rfl rfl rfl rfl) (nX p x0 x1 x2 x3 x4 x5 x6 x7 h5 h6 h7)
 ·repeat refine ah rfl ?_
  exact aP (Ent.rn [0,1,2,3,4,5,6,7,8,9,10,11,12,13,14,15,16] [0,1,4,5,6] rfl rfl rfl rfl rfl) (Jc p x0 x1 x2 x3 x4 x5 x6 x7 h2 h6 h7)
theorem JM(h3:nE kCa kDb R k p x0 x1 x2 x3 x4 x5 x6 x7)(h5:gg kCa kDb R k p x0 x1 x2 x3 x4 x5 x6 x7)(h6:eG kCa kDb R k p x0 x1 x2 x3 x4 x5 x6 x7)(h7:di kCa kDb R k p x0 x1 x2 x3 x4 x5 x6 x7):bJ (Ecan kCa kDb) PP R 5 15 Tryz.f48.ntmps aY k 4 (minO x3 [x5,x6,x7]) (ct8 5) (ch8 p x0 x1 x2 x3 x4 x5 x6 x7 [.str x3.1,I x3.2.1.f,I x3.2.1.r,.sl 9 0 x3.2.1.zs.length none,Bb x3.2.1.bl,.int .u8 x3.2.1.ca,I x3.2.1.pa,I x3.2.1.ha,I x3.2.1.fu,.int .u8 x3.2.2]):=by
 refine bL ?_
 refine cy rfl ?_
 repeat refine ah rfl ?_
 refine ah (pa (pa (decide_eq_true (az rfl)) (decide_eq_true (az rfl))) rfl) ?_
 refine cA ?_ ?_
 ·repeat refine ah rfl ?_
  exact aP (Ent.rn [0,1,2,3,4,5,6,7,8,9,10,11,12,13,14,15,16] [0,1,4,5,6] rfl rfl rfl rfl rfl) (nX p x0 x1 x2 x3 x4 x5 x6 x7 h5 h6 h7)
 ·repeat refine ah rfl ?_
  exact aP (Ent.rn [0,1,2,3,4,5,6,7,8,9,10,11,12,13,14,15,16] [0,1,4,5,6] rfl rfl rfl rfl rfl) (KA p x0 x1 x2 x3 x4 x5 x6 x7 h3 h6 h7)
theorem rS(h4:jz kCa kDb R k p x0 x1 x2 x3 x4 x5 x6 x7)(h5:gg kCa kDb R k p x0 x1 x2 x3 x4 x5 x6 x7)(h6:eG kCa kDb R k p x0 x1 x2 x3 x4 x5 x6 x7)(h7:di kCa kDb R k p x0 x1 x2 x3 x4 x5 x6 x7):bJ (Ecan kCa kDb) PP R 5 15 Tryz.f48.ntmps aY k 4 (minO x4 [x5,x6,x7]) (ct8 5) (ch8 p x0 x1 x2 x3 x4 x5 x6 x7 [.str x4.1,I x4.2.1.f,I x4.2.1.r,.sl 10 0 x4.2.1.zs.length none,Bb x4.2.1.bl,.int .u8 x4.2.1.ca,I x4.2.1.pa,I x4.2.1.ha,I x4.2.1.fu,.int .u8 x4.2.2]):=by
 refine bL ?_
 refine cy rfl ?_
 repeat refine ah rfl ?_
 refine ah (pa (pa (decide_eq_true (az rfl)) (decide_eq_true (az rfl))) rfl) ?_
 refine cA ?_ ?_
 ·repeat refine ah rfl ?_
  exact aP (Ent.rn [0,1,2,3,4,5,6,7,8,9,10,11,12,13,14,15,16] [0,1,4,5,6] rfl rfl rfl rfl rfl) (nX p x0 x1 x2 x3 x4 x5 x6 x7 h5 h6 h7)
 ·repeat refine ah rfl ?_
  exact aP (Ent.rn [0,1,2,3,4,5,6,7,8,9,10,11,12,13,14,15,16] [0,1,4,5,6] rfl rfl rfl rfl rfl) (LG p x0 x1 x2 x3 x4 x5 x6 x7 h4 h6 h7)
theorem Ly(h0:tC kCa kDb R k p x0 x1 x2 x3 x4 x5 x6 x7)(h4:jz kCa kDb R k p x0 x1 x2 x3 x4 x5 x6 x7)(h5:gg kCa kDb R k p x0 x1 x2 x3 x4 x5 x6 x7)(h6:eG kCa kDb R k p x0 x1 x2 x3 x4 x5 x6 x7)(h7:di kCa kDb R k p x0 x1 x2 x3 x4 x5 x6 x7):bJ (Ecan kCa kDb) PP R 5 15 Tryz.f48.ntmps aY k 5 (minO x0 [x4,x5,x6,x7]) (ct8 4) (ch8 p x0 x1 x2 x3 x4 x5 x6 x7 [.str x0.1,I x0.2.1.f,I x0.2.1.r,.sl 6 0 x0.2.1.zs.length none,Bb x0.2.1.bl,.int .u8 x0.2.1.ca,I x0.2.1.pa,I x0.2.1.ha,I x0.2.1.fu,.int .u8 x0.2.2]):=by
 refine bL ?_
 refine cy rfl ?_
 repeat refine ah rfl ?_
 refine ah (pa (pa (decide_eq_true (az rfl)) (decide_eq_true (az rfl))) rfl) ?_
 refine cA ?_ ?_
 ·repeat refine ah rfl ?_
  exact aP (Ent.rn [0,1,2,3,4,5,6,7,8,9,10,11,12,13,14,15,16] [0,1,4,5,6] rfl rfl rfl rfl rfl) (rS p x0 x1 x2 x3 x4 x5 x6 x7 h4 h5 h6 h7)
 ·repeat refine ah rfl ?_
  exact aP (Ent.rn [0,1,2,3,4,5,6,7,8,9,10,11,12,13,14,15,16] [0,1,4,5,6] rfl rfl rfl rfl rfl) (Lg p x0 x1 x2 x3 x4 x5 x6 x7 h0 h5 h6 h7)
theorem Jt(h1:tn kCa kDb R k p x0 x1 x2 x3 x4 x5 x6 x7)(h4:jz kCa kDb R k p x0 x1 x2 x3 x4 x5 x6 x7)(h5:gg kCa kDb R k p x0 x1 x2 x3 x4 x5 x6 x7)(h6:eG kCa kDb R k p x0 x1 x2 x3 x4 x5 x6 x7)(h7:di kCa kDb R k p x0 x1 x2 x3 x4 x5 x6 x7):bJ (Ecan kCa kDb) PP R 5 15 Tryz.f48.ntmps aY k 5 (minO x1 [x4,x5,x6,x7]) (ct8 4) (ch8 p x0 x1 x2 x3 x4 x5 x6 x7 [.str x1.1,I x1.2.1.f,I x1.2.1.r,.sl 7 0 x1.2.1.zs.length none,Bb x1.2.1.bl,.int .u8 x1.2.1.ca,I x1.2.1.pa,I x1.2.1.ha,I x1.2.1.fu,.int .u8 x1.2.2]):=by
 refine bL ?_
 refine cy rfl ?_
 repeat refine ah rfl ?_
 refine ah (pa (pa (decide_eq_true (az rfl)) (decide_eq_true (az rfl))) rfl) ?_
 refine cA ?_ ?_
 ·repeat refine ah rfl ?_
  exact aP (Ent.rn [0,1,2,3,4,5,6,7,8,9,10,11,12,13,14,15,16] [0,1,4,5,6] rfl rfl rfl rfl rfl) (rS p x0 x1 x2 x3 x4 x5 x6 x7 h4 h5 h6 h7)
 ·repeat refine ah rfl ?_
  exact aP (Ent.rn [0,1,2,3,4,5,6,7,8,9,10,11,12,13,14,15,16] [0,1,4,5,6] rfl rfl rfl rfl rfl) (KO p x0 x1 x2 x3 x4 x5 x6 x7 h1 h5 h6 h7)
theorem Ls(h2:rz kCa kDb R k p x0 x1 x2 x3 x4 x5 x6 x7)(h4:jz kCa kDb R k p x0 x1 x2 x3 x4 x5 x6 x7)(h5:gg kCa kDb R k p x0 x1 x2 x3 x4 x5 x6 x7)(h6:eG kCa kDb R k p x0 x1 x2 x3 x4 x5 x6 x7)(h7:di kCa kDb R k p x0 x1 x2 x3 x4 x5 x6 x7):bJ (Ecan kCa kDb) PP R 5 15 Tryz.f48.ntmps aY k 5 (minO x2 [x4,x5,x6,x7]) (ct8 4) (ch8 p x0 x1 x2 x3 x4 x5 x6 x7 [.str x2.1,I x2.2.1.f,I x2.2.1.r,.sl 8 0 x2.2.1.zs.length none,Bb x2.2.1.bl,.int .u8 x2.2.1.ca,I x2.2.1.pa,I x2.2.1.ha,I x2.2.1.fu,.int .u8 x2.2.2]):=by
 refine bL ?_
 refine cy rfl ?_
 repeat refine ah rfl ?_
 refine ah (pa (pa (decide_eq_true (az rfl)) (decide_eq_true (az rfl))) rfl) ?_
 refine cA ?_ ?_
 ·repeat refine ah rfl ?_
  exact aP (Ent.rn [0,1,2,3,4,5,6,7,8,9,10,11,12,13,14,15,16] [0,1,4,5,6] rfl rfl rfl rfl rfl) (rS p x0 x1 x2 x3 x4 x5 x6 x7 h4 h5 h6 h7)
 ·repeat refine ah rfl ?_
  exact aP (Ent.rn [0,1,2,3,4,5,6,7,8,9,10,11,12,13,14,15,16] [0,1,4,5,6] rfl rfl rfl rfl rfl) (Kr p x0 x1 x2 x3 x4 x5 x6 x7 h2 h5 h6 h7)
theorem uS(h3:nE kCa kDb R k p x0 x1 x2 x3 x4 x5 x6 x7)(h4:jz kCa kDb R k p x0 x1 x2 x3 x4 x5 x6 x7)(h5:gg kCa kDb R k p x0 x1 x2 x3 x4 x5 x6 x7)(h6:eG kCa kDb R k p x0 x1 x2 x3 x4 x5 x6 x7)(h7:di kCa kDb R k p x0 x1 x2 x3 x4 x5 x6 x7):bJ (Ecan kCa kDb) PP R 5 15 Tryz.f48.ntmps aY k 5 (minO x3 [x4,x5,x6,x7]) (ct8 4) (ch8 p x0 x1 x2 x3 x4 x5 x6 x7 [.str x3.1,I x3.2.1.f,I x3.2.1.r,.sl 9 0 x3.2.1.zs.length none,Bb x3.2.1.bl,.int .u8 x3.2.1.ca,I x3.2.1.pa,I x3.2.1.ha,I x3.2.1.fu,.int .u8 x3.2.2]):=by
 refine bL ?_
 refine cy rfl ?_
 repeat refine ah rfl ?_
 refine ah (pa (pa (decide_eq_true (az rfl)) (decide_eq_true (az rfl))) rfl) ?_
 refine cA ?_ ?_
 ·repeat refine ah rfl ?_
  exact aP (Ent.rn [0,1,2,3,4,5,6,7,8,9,10,11,12,13,14,15,16] [0,1,4,5,6] rfl rfl rfl rfl rfl) (rS p x0 x1 x2 x3 x4 x5 x6 x7 h4 h5 h6 h7)
 ·repeat refine ah rfl ?_
  exact aP (Ent.rn [0,1,2,3,4,5,6,7,8,9,10,11,12,13,14,15,16] [0,1,4,5,6] rfl rfl rfl rfl rfl) (JM p x0 x1 x2 x3 x4 x5 x6 x7 h3 h5 h6 h7)
theorem KS(h0:tC kCa kDb R k p x0 x1 x2 x3 x4 x5 x6 x7)(h3:nE kCa kDb R k p x0 x1 x2 x3 x4 x5 x6 x7)(h4:jz kCa kDb R k p x0 x1 x2 x3 x4 x5 x6 x7)(h5:gg kCa kDb R k p x0 x1 x2 x3 x4 x5 x6 x7)(h6:eG kCa kDb R k p x0 x1 x2 x3 x4 x5 x6 x7)(h7:di kCa kDb R k p x0 x1 x2 x3 x4 x5 x6 x7):bJ (Ecan kCa kDb) PP R 5 15 Tryz.f48.ntmps aY k 6 (minO x0 [x3,x4,x5,x6,x7]) (ct8 3) (ch8 p x0 x1 x2 x3 x4 x5 x6 x7 [.str x0.1,I x0.2.1.f,I x0.2.1.r,.sl 6 0 x0.2.1.zs.length none,Bb x0.2.1.bl,.int .u8 x0.2.1.ca,I x0.2.1.pa,I x0.2.1.ha,I x0.2.1.fu,.int .u8 x0.2.2]):=by
 refine bL ?_
 refine cy rfl ?_
 repeat refine ah rfl ?_
 refine ah (pa (pa (decide_eq_true (az rfl)) (decide_eq_true (az rfl))) rfl) ?_
 refine cA ?_ ?_
 ·repeat refine ah rfl ?_
  exact aP (Ent.rn [0,1,2,3,4,5,6,7,8,9,10,11,12,13,14,15,16] [0,1,4,5,6] rfl rfl rfl rfl rfl) (uS p x0 x1 x2 x3 x4 x5 x6 x7 h3 h4 h5 h6 h7)
 ·repeat refine ah rfl ?_
  exact aP (Ent.rn [0,1,2,3,4,5,6,7,8,9,10,11,12,13,14,15,16] [0,1,4,5,6] rfl rfl rfl rfl rfl) (Ly p x0 x1 x2 x3 x4 x5 x6 x7 h0 h4 h5 h6 h7)
theorem LZ(h1:tn kCa kDb R k p x0 x1 x2 x3 x4 x5 x6 x7)(h3:nE kCa kDb R k p x0 x1 x2 x3 x4 x5 x6 x7)(h4:jz kCa kDb R k p x0 x1 x2 x3 x4 x5 x6 x7)(h5:gg kCa kDb R k p x0 x1 x2 x3 x4 x5 x6 x7)(h6:eG kCa kDb R k p x0 x1 x2 x3 x4 x5 x6 x7)(h7:di kCa kDb R k p x0 x1 x2 x3 x4 x5 x6 x7):bJ (Ecan kCa kDb) PP R 5 15 Tryz.f48.ntmps aY k 6 (minO x1 [x3,x4,x5,x6,x7]) (ct8 3) (ch8 p x0 x1 x2 x3 x4 x5 x6 x7 [.str x1.1,I x1.2.1.f,I x1.2.1.r,.sl 7 0 x1.2.1.zs.length none,Bb x1.2.1.bl,.int .u8 x1.2.1.ca,I x1.2.1.pa,I x1.2.1.ha,I x1.2.1.fu,.int .u8 x1.2.2]):=by
 refine bL ?_
 refine cy rfl ?_
 repeat refine ah rfl ?_
 refine ah (pa (pa (decide_eq_true (az rfl)) (decide_eq_true (az rfl))) rfl) ?_
 refine cA ?_ ?_
 ·repeat refine ah rfl ?_
  exact aP (Ent.rn [0,1,2,3,4,5,6,7,8,9,10,11,12,13,14,15,16] [0,1,4,5,6] rfl rfl rfl rfl rfl) (uS p x0 x1 x2 x3 x4 x5 x6 x7 h3 h4 h5 h6 h7)
 ·repeat refine ah rfl ?_
  exact aP (Ent.rn [0,1,2,3,4,5,6,7,8,9,10,11,12,13,14,15,16] [0,1,4,5,6] rfl rfl rfl rfl rfl) (Jt p x0 x1 x2 x3 x4 x5 x6 x7 h1 h4 h5 h6 h7)
theorem DF(h2:rz kCa kDb R k p x0 x1 x2 x3 x4 x5 x6 x7)(h3:nE kCa kDb R k p x0 x1 x2 x3 x4 x5 x6 x7)(h4:jz kCa kDb R k p x0 x1 x2 x3 x4 x5 x6 x7)(h5:gg kCa kDb R k p x0 x1 x2 x3 x4 x5 x6 x7)(h6:eG kCa kDb R k p x0 x1 x2 x3 x4 x5 x6 x7)(h7:di kCa kDb R k p x0 x1 x2 x3 x4 x5 x6 x7):bJ (Ecan kCa kDb) PP R 5 15 Tryz.f48.ntmps aY k 6 (minO x2 [x3,x4,x5,x6,x7]) (ct8 3) (ch8 p x0 x1 x2 x3 x4 x5 x6 x7 [.str x2.1,I x2.2.1.f,I x2.2.1.r,.sl 8 0 x2.2.1.zs.length none,Bb x2.2.1.bl,.int .u8 x2.2.1.ca,I x2.2.1.pa,I x2.2.1.ha,I x2.2.1.fu,.int .u8 x2.2.2]):=by
 refine bL ?_
 refine cy rfl ?_
 repeat refine ah rfl ?_
 refine ah (pa (pa (decide_eq_true (az rfl)) (decide_eq_true (az rfl))) rfl) ?_
 refine cA ?_ ?_
 ·repeat refine ah rfl ?_
  exact aP (Ent.rn [0,1,2,3,4,5,6,7,8,9,10,11,12,13,14,15,16] [0,1,4,5,6] rfl rfl rfl rfl rfl) (uS p x0 x1 x2 x3 x4 x5 x6 x7 h3 h4 h5 h6 h7)
 ·repeat refine ah rfl ?_
  exact aP (Ent.rn [0,1,2,3,4,5,6,7,8,9,10,11,12,13,14,15,16] [0,1,4,5,6] rfl rfl rfl rfl rfl) (Ls p x0 x1 x2 x3 x4 x5 x6 x7 h2 h4 h5 h6 h7)
theorem JN(h0:tC kCa kDb R k p x0 x1 x2 x3 x4 x5 x6 x7)(h2:rz kCa kDb R k p x0 x1 x2 x3 x4 x5 x6 x7)(h3:nE kCa kDb R k p x0 x1 x2 x3 x4 x5 x6 x7)(h4:jz kCa kDb R k p x0 x1 x2 x3 x4 x5 x6 x7)(h5:gg kCa kDb R k p x0 x1 x2 x3 x4 x5 x6 x7)(h6:eG kCa kDb R k p x0 x1 x2 x3 x4 x5 x6 x7)(h7:di kCa kDb R k p x0 x1 x2 x3 x4 x5 x6 x7):bJ (Ecan kCa kDb) PP R 5 15 Tryz.f48.ntmps aY k 7 (minO x0 [x2,x3,x4,x5,x6,x7]) (ct8 2) (ch8 p x0 x1 x2 x3 x4 x5 x6 x7 [.str x0.1,I x0.2.1.f,I x0.2.1.r,.sl 6 0 x0.2.1.zs.length none,Bb x0.2.1.bl,.int .u8 x0.2.1.ca,I x0.2.1.pa,I x0.2.1.ha,I x0.2.1.fu,.int .u8 x0.2.2]):=by
 refine bL ?_
 refine cy rfl ?_
 repeat refine ah rfl ?_
 refine ah (pa (pa (decide_eq_true (az rfl)) (decide_eq_true (az rfl))) rfl) ?_
 refine cA ?_ ?_
 ·repeat refine ah rfl ?_
  exact aP (Ent.rn [0,1,2,3,4,5,6,7,8,9,10,11,12,13,14,15,16] [0,1,4,5,6] rfl rfl rfl rfl rfl) (DF p x0 x1 x2 x3 x4 x5 x6 x7 h2 h3 h4 h5 h6 h7)
 ·repeat refine ah rfl ?_
  exact aP (Ent.rn [0,1,2,3,4,5,6,7,8,9,10,11,12,13,14,15,16] [0,1,4,5,6] rfl rfl rfl rfl rfl) (KS p x0 x1 x2 x3 x4 x5 x6 x7 h0 h3 h4 h5 h6 h7)
theorem Ja(h1:tn kCa kDb R k p x0 x1 x2 x3 x4 x5 x6 x7)(h2:rz kCa kDb R k p x0 x1 x2 x3 x4 x5 x6 x7)(h3:nE kCa kDb R k p x0 x1 x2 x3 x4 x5 x6 x7)(h4:jz kCa kDb R k p x0 x1 x2 x3 x4 x5 x6 x7)(h5:gg kCa kDb R k p x0 x1 x2 x3 x4 x5 x6 x7)(h6:eG kCa kDb R k p x0 x1 x2 x3 x4 x5 x6 x7)(h7:di kCa kDb R k p x0 x1 x2 x3 x4 x5 x6 x7):bJ (Ecan kCa kDb) PP R 5 15 Tryz.f48.ntmps aY k 7 (minO x1 [x2,x3,x4,x5,x6,x7]) (ct8 2) (ch8 p x0 x1 x2 x3 x4 x5 x6 x7 [.str x1.1,I x1.2.1.f,I x1.2.1.r,.sl 7 0 x1.2.1.zs.length none,Bb x1.2.1.bl,.int .u8 x1.2.1.ca,I x1.2.1.pa,I x1.2.1.ha,I x1.2.1.fu,.int .u8 x1.2.2]):=by
 refine bL ?_
 refine cy rfl ?_
 repeat refine ah rfl ?_
 refine ah (pa (pa (decide_eq_true (az rfl)) (decide_eq_true (az rfl))) rfl) ?_
 refine cA ?_ ?_
 ·repeat refine ah rfl ?_
  exact aP (Ent.rn [0,1,2,3,4,5,6,7,8,9,10,11,12,13,14,15,16] [0,1,4,5,6] rfl rfl rfl rfl rfl) (DF p x0 x1 x2 x3 x4 x5 x6 x7 h2 h3 h4 h5 h6 h7)
 ·repeat refine ah rfl ?_
  exact aP (Ent.rn [0,1,2,3,4,5,6,7,8,9,10,11,12,13,14,15,16] [0,1,4,5,6] rfl rfl rfl rfl rfl) (LZ p x0 x1 x2 x3 x4 x5 x6 x7 h1 h3 h4 h5 h6 h7)
theorem JZ(h0:tC kCa kDb R k p x0 x1 x2 x3 x4 x5 x6 x7)(h1:tn kCa kDb R k p x0 x1 x2 x3 x4 x5 x6 x7)(h2:rz kCa kDb R k p x0 x1 x2 x3 x4 x5 x6 x7)(h3:nE kCa kDb R k p x0 x1 x2 x3 x4 x5 x6 x7)(h4:jz kCa kDb R k p x0 x1 x2 x3 x4 x5 x6 x7)(h5:gg kCa kDb R k p x0 x1 x2 x3 x4 x5 x6 x7)(h6:eG kCa kDb R k p x0 x1 x2 x3 x4 x5 x6 x7)(h7:di kCa kDb R k p x0 x1 x2 x3 x4 x5 x6 x7):bJ (Ecan kCa kDb) PP R 5 15 Tryz.f48.ntmps aY k 8 (minO x0 [x1,x2,x3,x4,x5,x6,x7]) (ct8 1) (ch8 p x0 x1 x2 x3 x4 x5 x6 x7 [.str x0.1,I x0.2.1.f,I x0.2.1.r,.sl 6 0 x0.2.1.zs.length none,Bb x0.2.1.bl,.int .u8 x0.2.1.ca,I x0.2.1.pa,I x0.2.1.ha,I x0.2.1.fu,.int .u8 x0.2.2]):=by
 refine bL ?_
 refine cy rfl ?_
 repeat refine ah rfl ?_
 refine ah (pa (pa (decide_eq_true (az rfl)) (decide_eq_true (az rfl))) rfl) ?_
 refine cA ?_ ?_
 ·repeat refine ah rfl ?_
  exact aP (Ent.rn [0,1,2,3,4,5,6,7,8,9,10,11,12,13,14,15,16] [0,1,4,5,6] rfl rfl rfl rfl rfl) (Ja p x0 x1 x2 x3 x4 x5 x6 x7 h1 h2 h3 h4 h5 h6 h7)
 ·repeat refine ah rfl ?_
  exact aP (Ent.rn [0,1,2,3,4,5,6,7,8,9,10,11,12,13,14,15,16] [0,1,4,5,6] rfl rfl rfl rfl rfl) (JN p x0 x1 x2 x3 x4 x5 x6 x7 h0 h2 h3 h4 h5 h6 h7)
end
theorem yT{kCa kDb:Bool}(p:Psn)(l:List Int)(x0 x1 x2 x3 x4 x5 x6 x7:Fmt)(hok:p.ok=true)(hl:p.zs.length<=64)(hsq:SqH (GGx kCa kDb) PP 104 (fmHc p) [.ptr 1 0 0] [.ints true .u8 l] ([x0,x1,x2,x3,x4,x5,x6,x7].map fun x=>(ot x,fmNs x))){r}(hr:minO x0 [x1,x2,x3,x4,x5,x6,x7]=some r) :
  ay (GGx kCa kDb) PP 14 [.agg [I p.f,I p.r,.sl 0 0 p.zs.length none,Bb p.bl,.int .u8 p.ca,I p.pa,I p.ha,I p.fu]] [.ints false .i8 p.zs] (canV r) (canN r):=by
 have hE:=aD (kCa:=kCa) (kDb:=kDb) (cts:=[(37,dH),(51,wM)]) (inl:=[(50,Tryz.f50),(49,Tryz.f49),(103,Tryz.f103),(48,Tryz.f48)]) ⟨cP,mC,trivial⟩ ⟨⟨Tryz.func50,by kernel_rfl⟩,⟨Tryz.func49,by kernel_rfl⟩,⟨Tryz.func103,by kernel_rfl⟩,⟨Tryz.func48,by kernel_rfl⟩,trivial⟩
 have e1:(⟨p.f,p.r,List.take p.zs.length (List.drop 0 p.zs),p.bl,p.ca,p.pa,p.ha,p.fu⟩:Psn)=p:=by rw[List.drop_zero,List.take_length]
 refine cg hE 5 Tryz.func14 rfl rfl canV canN hr ?_ rfl rfl
 refine ah (by rw[List.drop_zero,List.take_length];simp[hl]) ?_
 refine dU (by rw[e1,hok];rfl) ?_
 refine jy hE 5 6 5 [3,0] [2,4] (tm1:=[(2,.ptr 4 0 0),(4,.nils),(6,.fn 104 [.ptr 3 0 0])]) (hp1:=[.ints false .i8 p.zs,.cells true [I p.f,I p.r,.sl 0 0 p.zs.length none,Bb p.bl,.int .u8 p.ca,I p.pa,I p.ha,I p.fu],.cells true [I 0,I 0,.nils,Bb false,.int .u8 0,I 0,I 0,I 0],.cells true [I p.f,I p.r,.sl 0 0 p.zs.length none,Bb p.bl,.int .u8 p.ca,I p.pa,I p.ha,I p.fu],.cells true [.sl 6 0 0 none],.gone,.vals true 10 []]) ((Ent.gap rfl rfl).trans ((Ent.phC 4 0 (.vals true 10 []) rfl rfl rfl rfl rfl).trans (Ent.rn [0,1,2,3,4,5,6] [2,4,6] rfl rfl rfl rfl rfl))) hsq ?_ (ent Tryz.func104 (by kernel_rfl) rfl) rfl rfl rfl rfl rfl rfl (fun _=>rfl) rfl
  (fun i hp'=>match i with
   |0=>hp'=[.ints false .i8 p.zs,.cells true [I p.f,I p.r,.sl 0 0 p.zs.length none,Bb p.bl,.int .u8 p.ca,I p.pa,I p.ha,I p.fu],.cells true [I 0,I 0,.nils,Bb false,.int .u8 0,I 0,I 0,I 0],.cells true [I p.f,I p.r,.sl 0 0 p.zs.length none,Bb p.bl,.int .u8 p.ca,I p.pa,I p.ha,I p.fu],.cells true [.sl 6 0 0 none],.gone,.vals true 10 []]
   |1=>hp'=[.ints false .i8 p.zs,.cells true [I p.f,I p.r,.sl 0 0 p.zs.length none,Bb p.bl,.int .u8 p.ca,I p.pa,I p.ha,I p.fu],.cells true [I 0,I 0,.nils,Bb false,.int .u8 0,I 0,I 0,I 0],.cells true [I p.f,I p.r,.sl 0 0 p.zs.length none,Bb p.bl,.int .u8 p.ca,I p.pa,I p.ha,I p.fu],.cells true [.sl 7 0 1 none],.gone,.ints true .i8 x0.2.1.zs,.vals true 10 [[.str x0.1,I x0.2.1.f,I x0.2.1.r,.sl 6 0 x0.2.1.zs.length none,Bb x0.2.1.bl,.int .u8 x0.2.1.ca,I x0.2.1.pa,I x0.2.1.ha,I x0.2.1.fu,.int .u8 x0.2.2]]]
   |2=>hp'=[.ints false .i8 p.zs,.cells true [I p.f,I p.r,.sl 0 0 p.zs.length none,Bb p.bl,.int .u8 p.ca,I p.pa,I p.ha,I p.fu],.cells true [I 0,I 0,.nils,Bb false,.int .u8 0,I 0,I 0,I 0],.cells true [I p.f,I p.r,.sl 0 0 p.zs.length none,Bb p.bl,.int .u8 p.ca,I p.pa,I p.ha,I p.fu],.cells true [.sl 8 0 2 none],.gone,.ints true .i8 x0.2.1.zs,.ints true .i8 x1.2.1.zs,.vals true 10 [[.str x0.1,I x0.2.1.f,I x0.2.1.r,.sl 6 0 x0.2.1.zs.length none,Bb x0.2.1.bl,.int .u8 x0.2.1.ca,I x0.2.1.pa,I x0.2.1.ha,I x0.2.1.fu,.int .u8 x0.2.2],[.str x1.1,I x1.2.1.f,I x1.2.1.r,.sl 7 0 x1.2.1.zs.length none,Bb x1.2.1.bl,.int .u8 x1.2.1.ca,I x1.2.1.pa,I x1.2.1.ha,I x1.2.1.fu,.int .u8 x1.2.2]]]
   |3=>hp'=[.ints false .i8 p.zs,.cells true [I p.f,I p.r,.sl 0 0 p.zs.length none,Bb p.bl,.int .u8 p.ca,I p.pa,I p.ha,I p.fu],.cells true [I 0,I 0,.nils,Bb false,.int .u8 0,I 0,I 0,I 0],.cells true [I p.f,I p.r,.sl 0 0 p.zs.length none,Bb p.bl,.int .u8 p.ca,I p.pa,I p.ha,I p.fu],.cells true [.sl 9 0 3 none],.gone,.ints true .i8 x0.2.1.zs,.ints true .i8 x1.2.1.zs,.ints true .i8 x2.2.1.zs,.vals true 10 [[.str x0.1,I x0.2.1.f,I x0.2.1.r,.sl 6 0 x0.2.1.zs.length none,Bb x0.2.1.bl,.int .u8 x0.2.1.ca,I x0.2.1.pa,I x0.2.1.ha,I x0.2.1.fu,.int .u8 x0.2.2],[.str x1.1,I x1.2.1.f,I x1.2.1.r,.sl 7 0 x1.2.1.zs.length none,Bb x1.2.1.bl,.int .u8 x1.2.1.ca,I x1.2.1.pa,I x1.2.1.ha,I x1.2.1.fu,.int .u8 x1.2.2],[.str x2.1,I x2.2.1.f,I x2.2.1.r,.sl 8 0 x2.2.1.zs.length none,Bb x2.2.1.bl,.int .u8 x2.2.1.ca,I x2.2.1.pa,I x2.2.1.ha,I x2.2.1.fu,.int .u8 x2.2.2]]]
   |4=>hp'=[.ints false .i8 p.zs,.cells true [I p.f,I p.r,.sl 0 0 p.zs.length none,Bb p.bl,.int .u8 p.ca,I p.pa,I p.ha,I p.fu],.cells true [I 0,I 0,.nils,Bb false,.int .u8 0,I 0,I 0,I 0],.cells true [I p.f,I p.r,.sl 0 0 p.zs.length none,Bb p.bl,.int .u8 p.ca,I p.pa,I p.ha,I p.fu],.cells true [.sl 10 0 4 none],.gone,.ints true .i8 x0.2.1.zs,.ints true .i8 x1.2.1.zs,.ints true .i8 x2.2.1.zs,.ints true .i8 x3.2.1.zs,.vals true 10 [[.str x0.1,I x0.2.1.f,I x0.2.1.r,.sl 6 0 x0.2.1.zs.length none,Bb x0.2.1.bl,.int .u8 x0.2.1.ca,I x0.2.1.pa,I x0.2.1.ha,I x0.2.1.fu,.int .u8 x0.2.2],[.str x1.1,I x1.2.1.f,I x1.2.1.r,.sl 7 0 x1.2.1.zs.length none,Bb x1.2.1.bl,.int .u8 x1.2.1.ca,I x1.2.1.pa,I x1.2.1.ha,I x1.2.1.fu,.int .u8 x1.2.2],[.str x2.1,I x2.2.1.f,I x2.2.1.r,.sl 8 0 x2.2.1.zs.length none,Bb x2.2.1.bl,.int .u8 x2.2.1.ca,I x2.2.1.pa,I x2.2.1.ha,I x2.2.1.fu,.int .u8 x2.2.2],[.str x3.1,I x3.2.1.f,I x3.2.1.r,.sl 9 0 x3.2.1.zs.length none,Bb x3.2.1.bl,.int .u8 x3.2.1.ca,I x3.2.1.pa,I x3.2.1.ha,I x3.2.1.fu,.int .u8 x3.2.2]]]
   |5=>hp'=[.ints false .i8 p.zs,.cells true [I p.f,I p.r,.sl 0 0 p.zs.length none,Bb p.bl,.int .u8 p.ca,I p.pa,I p.ha,I p.fu],.cells true [I 0,I 0,.nils,Bb false,.int .u8 0,I 0,I 0,I 0],.cells true [I p.f,I p.r,.sl 0 0 p.zs.length none,Bb p.bl,.int .u8 p.ca,I p.pa,I p.ha,I p.fu],.cells true [.sl 11 0 5 none],.gone,.ints true .i8 x0.2.1.zs,.ints true .i8 x1.2.1.zs,.ints true .i8 x2.2.1.zs,.ints true .i8 x3.2.1.zs,.ints true .i8 x4.2.1.zs,.vals true 10 [[.str x0.1,I x0.2.1.f,I x0.2.1.r,.sl 6 0 x0.2.1.zs.length none,Bb x0.2.1.bl,.int .u8 x0.2.1.ca,I x0.2.1.pa,I x0.2.1.ha,I x0.2.1.fu,.int .u8 x0.2.2],[.str x1.1,I x1.2.1.f,I x1.2.1.r,.sl 7 0 x1.2.1.zs.length none,Bb x1.2.1.bl,.int .u8 x1.2.1.ca,I x1.2.1.pa,I x1.2.1.ha,I x1.2.1.fu,.int .u8 x1.2.2],[.str x2.1,I x2.2.1.f,I x2.2.1.r,.sl 8 0 x2.2.1.zs.length none,Bb x2.2.1.bl,.int .u8 x2.2.1.ca,I x2.2.1.pa,I x2.2.1.ha,I x2.2.1.fu,.int .u8 x2.2.2],[.str x3.1,I x3.2.1.f,I x3.2.1.r,.sl 9 0 x3.2.1.zs.length none,Bb x3.2.1.bl,.int .u8 x3.2.1.ca,I x3.2.1.pa,I x3.2.1.ha,I x3.2.1.fu,.int .u8 x3.2.2],[.str x4.1,I x4.2.1.f,I x4.2.1.r,.sl 10 0 x4.2.1.zs.length none,Bb x4.2.1.bl,.int .u8 x4.2.1.ca,I x4.2.1.pa,I x4.2.1.ha,I x4.2.1.fu,.int .u8 x4.2.2]]]
   |6=>hp'=[.ints false .i8 p.zs,.cells true [I p.f,I p.r,.sl 0 0 p.zs.length none,Bb p.bl,.int .u8 p.ca,I p.pa,I p.ha,I p.fu],.cells true [I 0,I 0,.nils,Bb false,.int .u8 0,I 0,I 0,I 0],.cells true [I p.f,I p.r,.sl 0 0 p.zs.length none,Bb p.bl,.int .u8 p.ca,I p.pa,I p.ha,I p.fu],.cells true [.sl 12 0 6 none],.gone,.ints true .i8 x0.2.1.zs,.ints true .i8 x1.2.1.zs,.ints true .i8 x2.2.1.zs,.ints true .i8 x3.2.1.zs,.ints true .i8 x4.2.1.zs,.ints true .i8 x5.2.1.zs,.vals true 10 [[.str x0.1,I x0.2.1.f,I x0.2.1.r,.sl 6 0 x0.2.1.zs.length none,Bb x0.2.1.bl,.int .u8 x0.2.1.ca,I x0.2.1.pa,I x0.2.1.ha,I x0.2.1.fu,.int .u8 x0.2.2],[.str x1.1,I x1.2.1.f,I x1.2.1.r,.sl 7 0 x1.2.1.zs.length none,Bb x1.2.1.bl,.int .u8 x1.2.1.ca,I x1.2.1.pa,I x1.2.1.ha,I x1.2.1.fu,.int .u8 x1.2.2],[.str x2.1,I x2.2.1.f,I x2.2.1.r,.sl 8 0 x2.2.1.zs.length none,Bb x2.2.1.bl,.int .u8 x2.2.1.ca,I x2.2.1.pa,I x2.2.1.ha,I x2.2.1.fu,.int .u8 x2.2.2],[.str x3.1,I x3.2.1.f,I x3.2.1.r,.sl 9 0 x3.2.1.zs.length none,Bb x3.2.1.bl,.int .u8 x3.2.1.ca,I x3.2.1.pa,I x3.2.1.ha,I x3.2.1.fu,.int .u8 x3.2.2],[.str x4.1,I x4.2.1.f,I x4.2.1.r,.sl 10 0 x4.2.1.zs.length none,Bb x4.2.1.bl,.int .u8 x4.2.1.ca,I x4.2.1.pa,I x4.2.1.ha,I x4.2.1.fu,.int .u8 x4.2.2],[.str x5.1,I x5.2.1.f,I x5.2.1.r,.sl 11 0 x5.2.1.zs.length none,Bb x5.2.1.bl,.int .u8 x5.2.1.ca,I x5.2.1.pa,I x5.2.1.ha,I x5.2.1.fu,.int .u8 x5.2.2]]]
   |7=>hp'=[.ints false .i8 p.zs,.cells true [I p.f,I p.r,.sl 0 0 p.zs.length none,Bb p.bl,.int .u8 p.ca,I p.pa,I p.ha,I p.fu],.cells true [I 0,I 0,.nils,Bb false,.int .u8 0,I 0,I 0,I 0],.cells true [I p.f,I p.r,.sl 0 0 p.zs.length none,Bb p.bl,.int .u8 p.ca,I p.pa,I p.ha,I p.fu],.cells true [.sl 13 0 7 none],.gone,.ints true .i8 x0.2.1.zs,.ints true .i8 x1.2.1.zs,.ints true .i8 x2.2.1.zs,.ints true .i8 x3.2.1.zs,.ints true .i8 x4.2.1.zs,.ints true .i8 x5.2.1.zs,.ints true .i8 x6.2.1.zs,.vals true 10 [[.str x0.1,I x0.2.1.f,I x0.2.1.r,.sl 6 0 x0.2.1.zs.length none,Bb x0.2.1.bl,.int .u8 x0.2.1.ca,I x0.2.1.pa,I x0.2.1.ha,I x0.2.1.fu,.int .u8 x0.2.2],[.str x1.1,I x1.2.1.f,I x1.2.1.r,.sl 7 0 x1.2.1.zs.length none,Bb x1.2.1.bl,.int .u8 x1.2.1.ca,I x1.2.1.pa,I x1.2.1.ha,I x1.2.1.fu,.int .u8 x1.2.2],[.str x2.1,I x2.2.1.f,I x2.2.1.r,.sl 8 0 x2.2.1.zs.length none,Bb x2.2.1.bl,.int .u8 x2.2.1.ca,I x2.2.1.pa,I x2.2.1.ha,I x2.2.1.fu,.int .u8 x2.2.2],[.str x3.1,I x3.2.1.f,I x3.2.1.r,.sl 9 0 x3.2.1.zs.length none,Bb x3.2.1.bl,.int .u8 x3.2.1.ca,I x3.2.1.pa,I x3.2.1.ha,I x3.2.1.fu,.int .u8 x3.2.2],[.str x4.1,I x4.2.1.f,I x4.2.1.r,.sl 10 0 x4.2.1.zs.length none,Bb x4.2.1.bl,.int .u8 x4.2.1.ca,I x4.2.1.pa,I x4.2.1.ha,I x4.2.1.fu,.int .u8 x4.2.2],[.str x5.1,I x5.2.1.f,I x5.2.1.r,.sl 11 0 x5.2.1.zs.length none,Bb x5.2.1.bl,.int .u8 x5.2.1.ca,I x5.2.1.pa,I x5.2.1.ha,I x5.2.1.fu,.int .u8 x5.2.2],[.str x6.1,I x6.2.1.f,I x6.2.1.r,.sl 12 0 x6.2.1.zs.length none,Bb x6.2.1.bl,.int .u8 x6.2.1.ca,I x6.2.1.pa,I x6.2.1.ha,I x6.2.1.fu,.int .u8 x6.2.2]]]
   |8=>hp'=[.ints false .i8 p.zs,.cells true [I p.f,I p.r,.sl 0 0 p.zs.length none,Bb p.bl,.int .u8 p.ca,I p.pa,I p.ha,I p.fu],.cells true [I 0,I 0,.nils,Bb false,.int .u8 0,I 0,I 0,I 0],.cells true [I p.f,I p.r,.sl 0 0 p.zs.length none,Bb p.bl,.int .u8 p.ca,I p.pa,I p.ha,I p.fu],.cells true [.sl 14 0 8 none],.gone,.ints true .i8 x0.2.1.zs,.ints true .i8 x1.2.1.zs,.ints true .i8 x2.2.1.zs,.ints true .i8 x3.2.1.zs,.ints true .i8 x4.2.1.zs,.ints true .i8 x5.2.1.zs,.ints true .i8 x6.2.1.zs,.ints true .i8 x7.2.1.zs,.vals true 10 [[.str x0.1,I x0.2.1.f,I x0.2.1.r,.sl 6 0 x0.2.1.zs.length none,Bb x0.2.1.bl,.int .u8 x0.2.1.ca,I x0.2.1.pa,I x0.2.1.ha,I x0.2.1.fu,.int .u8 x0.2.2],[.str x1.1,I x1.2.1.f,I x1.2.1.r,.sl 7 0 x1.2.1.zs.length none,Bb x1.2.1.bl,.int .u8 x1.2.1.ca,I x1.2.1.pa,I x1.2.1.ha,I x1.2.1.fu,.int .u8 x1.2.2],[.str x2.1,I x2.2.1.f,I x2.2.1.r,.sl 8 0 x2.2.1.zs.length none,Bb x2.2.1.bl,.int .u8 x2.2.1.ca,I x2.2.1.pa,I x2.2.1.ha,I x2.2.1.fu,.int .u8 x2.2.2],[.str x3.1,I x3.2.1.f,I x3.2.1.r,.sl 9 0 x3.2.1.zs.length none,Bb x3.2.1.bl,.int .u8 x3.2.1.ca,I x3.2.1.pa,I x3.2.1.ha,I x3.2.1.fu,.int .u8 x3.2.2],[.str x4.1,I x4.2.1.f,I x4.2.1.r,.sl 10 0 x4.2.1.zs.length none,Bb x4.2.1.bl,.int .u8 x4.2.1.ca,I x4.2.1.pa,I x4.2.1.ha,I x4.2.1.fu,.int .u8 x4.2.2],[.str x5.1,I x5.2.1.f,I x5.2.1.r,.sl 11 0 x5.2.1.zs.length none,Bb x5.2.1.bl,.int .u8 x5.2.1.ca,I x5.2.1.pa,I x5.2.1.ha,I x5.2.1.fu,.int .u8 x5.2.2],[.str x6.1,I x6.2.1.f,I x6.2.1.r,.sl 12 0 x6.2.1.zs.length none,Bb x6.2.1.bl,.int .u8 x6.2.1.ca,I x6.2.1.pa,I x6.2.1.ha,I x6.2.1.fu,.int .u8 x6.2.2],[.str x7.1,I x7.2.1.f,I x7.2.1.r,.sl 13 0 x7.2.1.zs.length none,Bb x7.2.1.bl,.int .u8 x7.2.1.ca,I x7.2.1.pa,I x7.2.1.ha,I x7.2.1.fu,.int .u8 x7.2.2]]]
   |_=>False) rfl rfl rfl rfl rfl rfl ?_ ?_ ?_
 ·intro x hx
  obtain⟨y,_,rfl⟩:=List.mem_map.1 hx
  exact⟨rfl,Nat.le_of_ble_eq_true rfl⟩
 ·intro i hp' h
  match i with
  |0=>subst h;exact bD rfl rfl rfl rfl rfl rfl rfl rfl
  |1=>subst h;exact bD rfl rfl rfl rfl rfl rfl rfl rfl
  |2=>subst h;exact bD rfl rfl rfl rfl rfl rfl rfl rfl
  |3=>subst h;exact bD rfl rfl rfl rfl rfl rfl rfl rfl
  |4=>subst h;exact bD rfl rfl rfl rfl rfl rfl rfl rfl
  |5=>subst h;exact bD rfl rfl rfl rfl rfl rfl rfl rfl
  |6=>subst h;exact bD rfl rfl rfl rfl rfl rfl rfl rfl
  |7=>subst h;exact bD rfl rfl rfl rfl rfl rfl rfl rfl
  |8=>subst h;exact bD rfl rfl rfl rfl rfl rfl rfl rfl
  |n+9=>exact h.elim
 ·intro i vs ns hp' hvs h
  match i with
  |0=>
   subst h
   cases hvs
   refine af ⟨rfl,?_⟩
   repeat refine ag rfl ?_
   refine af ⟨_,?_,rfl⟩
   exact Ent.rn [0,1,2,3,4,5,8,11] [] rfl rfl rfl rfl rfl
  |1=>
   subst h
   cases hvs
   refine af ⟨rfl,?_⟩
   repeat refine ag rfl ?_
   refine af ⟨_,?_,rfl⟩
   exact Ent.rn [0,1,2,3,4,5,6,9,12] [] rfl rfl rfl rfl rfl
  |2=>
   subst h
   cases hvs
   refine af ⟨rfl,?_⟩
   repeat refine ag rfl ?_
   refine af ⟨_,?_,rfl⟩
   exact Ent.rn [0,1,2,3,4,5,6,7,10,13] [] rfl rfl rfl rfl rfl
  |3=>
   subst h
   cases hvs
   refine af ⟨rfl,?_⟩
   repeat refine ag rfl ?_
   refine af ⟨_,?_,rfl⟩
   exact Ent.rn [0,1,2,3,4,5,6,7,8,11,14] [] rfl rfl rfl rfl rfl
  |4=>
   subst h
   cases hvs
   refine af ⟨rfl,?_⟩
   repeat refine ag rfl ?_
   refine af ⟨_,?_,rfl⟩
   exact Ent.rn [0,1,2,3,4,5,6,7,8,9,12,15] [] rfl rfl rfl rfl rfl
  |5=>
   subst h
   cases hvs
   refine af ⟨rfl,?_⟩
   repeat refine ag rfl ?_
   refine af ⟨_,?_,rfl⟩
   exact Ent.rn [0,1,2,3,4,5,6,7,8,9,10,13,16] [] rfl rfl rfl rfl rfl
  |6=>
   subst h
   cases hvs
   refine af ⟨rfl,?_⟩
   repeat refine ag rfl ?_
   refine af ⟨_,?_,rfl⟩
   exact Ent.rn [0,1,2,3,4,5,6,7,8,9,10,11,14,17] [] rfl rfl rfl rfl rfl
  |7=>
   subst h
   cases hvs
   refine af ⟨rfl,?_⟩
   repeat refine ag rfl ?_
   refine af ⟨_,?_,rfl⟩
   exact Ent.rn [0,1,2,3,4,5,6,7,8,9,10,11,12,15,18] [] rfl rfl rfl rfl rfl
  |n+8=>cases hvs
 ·intro hp' h
  subst h
  refine dU rfl ?_
  repeat refine ah rfl ?_
  refine gW hE 5 8 (body:=aY) (tm2:=ct8 1) (hp2:=ch8 p x0 x1 x2 x3 x4 x5 x6 x7 [.str x0.1,I x0.2.1.f,I x0.2.1.r,.sl 6 0 x0.2.1.zs.length none,Bb x0.2.1.bl,.int .u8 x0.2.1.ca,I x0.2.1.pa,I x0.2.1.ha,I x0.2.1.fu,.int .u8 x0.2.2]) (Ent.rn [0,1,2,3,4,5,6,7,8,9,10,11,12,13,14,15,16] [0,1,4,5,6] rfl rfl rfl rfl rfl) (JZ p x0 x1 x2 x3 x4 x5 x6 x7 ?_ ?_ ?_ ?_ ?_ ?_ ?_ ?_)
  ·repeat refine ah rfl ?_
   exact aN (aJ [6] (.inr rfl) rfl rfl rfl rfl rfl)
  ·repeat refine ah rfl ?_
   exact aN (aJ [7] (.inr rfl) rfl rfl rfl rfl rfl)
  ·repeat refine ah rfl ?_
   exact aN (aJ [8] (.inr rfl) rfl rfl rfl rfl rfl)
  ·repeat refine ah rfl ?_
   exact aN (aJ [9] (.inr rfl) rfl rfl rfl rfl rfl)
  ·repeat refine ah rfl ?_
   exact aN (aJ [10] (.inr rfl) rfl rfl rfl rfl rfl)
  ·repeat refine ah rfl ?_
   exact aN (aJ [11] (.inr rfl) rfl rfl rfl rfl rfl)
  ·repeat refine ah rfl ?_
   exact aN (aJ [12] (.inr rfl) rfl rfl rfl rfl rfl)
  ·repeat refine ah rfl ?_
   exact aN (aJ [13] (.inr rfl) rfl rfl rfl rfl rfl)
end Go.Ab
set_option maxHeartbeats 4000000
namespace Go.Ab
open Go.Proofs
def fmOk(p:Psn)(y:Int):Bool:=(ypos y p).isSome&&(ptxt (fmX p y).2.1).isSome
def canP(p:Psn):Option Fmt:=match yalW p with
 |some ([y0,y1,y2,y3,y4,y5,y6,y7],8)=>bif p.ok&&decide (p.zs.length<=64)&&[y0,y1,y2,y3,y4,y5,y6,y7].all (fmOk p)then minO (fmX p y0) [fmX p y1,fmX p y2,fmX p y3,fmX p y4,fmX p y5,fmX p y6,fmX p y7]else none
 |_=>none
theorem Gd{kCa kDb:Bool}(p:Psn){x:Fmt}(h:canP p=some x):ay (GGx kCa kDb) PP 14 [.agg [I p.f,I p.r,.sl 0 0 p.zs.length none,Bb p.bl,.int .u8 p.ca,I p.pa,I p.ha,I p.fu]] [.ints false .i8 p.zs] (canV x) (canN x):=by
 unfold canP at h
 split at h
 ·rename_i y0 y1 y2 y3 y4 y5 y6 y7 hy
  rw[cond_eq_ite]at h
  split at h
  ·rename_i hc
   simp only[Bool.and_eq_true,decide_eq_true_eq]at hc
   obtain⟨⟨h1,h2⟩,h3⟩:=hc
   have hall:∀ y∈[y0,y1,y2,y3,y4,y5,y6,y7],(ypos y p).isSome=true/\(ptxt (fmX p y).2.1).isSome=true:=fun y hy=>by
    have:=List.all_eq_true.1 h3 y hy
    unfold fmOk at this
    rwa [Bool.and_eq_true]at this
   exact yT p [y0,y1,y2,y3,y4,y5,y6,y7] (fmX p y0) (fmX p y1) (fmX p y2) (fmX p y3) (fmX p y4) (fmX p y5) (fmX p y6) (fmX p y7) h1 h2 (HX p hy h2 (by simp) hall) h
  ·cases h
 ·cases h
def ycan(p:Psn):Option (Psn×Int×Int):=match canP p with
 |some x=>some (x.2.1,x.2.2,0)
 |none=>none
def AF(R:Psn×Int×Int):V:=.tup [.agg [.int .i64 R.1.f,.int .i64 R.1.r,.sl 1 0 R.1.zs.length none,Bb R.1.bl,.int .u8 R.1.ca,.int .i64 R.1.pa,.int .i64 R.1.ha,.int .i64 R.1.fu],.int .u8 R.2.1,.int .i64 R.2.2]
def BC(R:Psn×Int×Int):List O:=[.ints true .i8 R.1.zs]
def AB:CF
 |[.agg [.int .i64 p_0,.int .i64 p_1,.sl 0 0 p_2n none,.bool p_3,.int .u8 p_4,.int .i64 p_5,.int .i64 p_6,.int .i64 p_7]],[.ints false .i8 p_2]=>retC (decide (p_2n=p_2.length)) (ycan ⟨p_0,p_1,p_2,p_3,p_4,p_5,p_6,p_7⟩) (⟨0,0,[],false,0,0,0,0⟩,0,0) AF BC
 |_,_=>none
theorem Ew{kCa kDb:Bool}:CtOk (GGx kCa kDb) PP (14,AB):=by
 refine aF Tryz.func14 (by kernel_rfl) rfl fun a0 h0 c0 v0 N0 e hc=>?_
 unfold AB at e
 split at e
 ·rename_i p_0 p_1 p_2n p_3 p_4 p_5 p_6 p_7 p_2
  obtain⟨hl,r,hr,rfl,rfl⟩:=bu e hc
  simp only[decide_eq_true_eq]at hl
  obtain rfl:=hl
  unfold ycan at hr
  split at hr
  ·rename_i x hx
   cases hr
   exact Gd ⟨p_0,p_1,p_2,p_3,p_4,p_5,p_6,p_7⟩ hx
  ·cases hr
 ·cases e
noncomputable abbrev Eiv:Env:=EE false false [(41,yg)] []
theorem lf:Eiv.Fn PP:=aD ⟨sZ,trivial⟩ trivial
noncomputable abbrev xiv:List (FuncId×Func):=[(42,Tryz.f42)]
theorem kW:qV PP xiv:=⟨⟨Tryz.func42,by kernel_rfl⟩,trivial⟩
def yivT(y:Int):Int:=([0,1,2,3,4,6,5,7]:List Int).getD y.toNat 0
def yinv(y:Int):Option (Int×Int):=bif decide (8<=y)then some (0,2)else bif decide (0<=y)then some (yivT y,0)else none
def IG(R:Int×Int):V:=.tup [.int .u8 R.1,.int .i64 R.2]
def Iv(_:Int×Int):List O:=[]
def EJ:CF
 |[.int .u8 y],[]=>retC true (yinv y) (0,0) IG Iv
 |_,_=>none
theorem OB:ay (GGx false false) PP 10 [.int .u8 0] [] (.tup [.int .u8 0,.int .i64 0]) []:=bw lf kW 1000 3 Tryz.func10 (by kernel_rfl)
theorem NY:ay (GGx false false) PP 10 [.int .u8 1] [] (.tup [.int .u8 1,.int .i64 0]) []:=bw lf kW 1000 3 Tryz.func10 (by kernel_rfl)
theorem On:ay (GGx false false) PP 10 [.int .u8 2] [] (.tup [.int .u8 2,.int .i64 0]) []:=bw lf kW 1000 3 Tryz.func10 (by kernel_rfl)
theorem OF:ay (GGx false false) PP 10 [.int .u8 3] [] (.tup [.int .u8 3,.int .i64 0]) []:=bw lf kW 1000 3 Tryz.func10 (by kernel_rfl)
theorem Oj:ay (GGx false false) PP 10 [.int .u8 4] [] (.tup [.int .u8 4,.int .i64 0]) []:=bw lf kW 1000 3 Tryz.func10 (by kernel_rfl)
theorem Ox:ay (GGx false false) PP 10 [.int .u8 5] [] (.tup [.int .u8 6,.int .i64 0]) []:=bw lf kW 1000 3 Tryz.func10 (by kernel_rfl)
theorem Oe:ay (GGx false false) PP 10 [.int .u8 6] [] (.tup [.int .u8 5,.int .i64 0]) []:=bw lf kW 1000 3 Tryz.func10 (by kernel_rfl)
theorem Om:ay (GGx false false) PP 10 [.int .u8 7] [] (.tup [.int .u8 7,.int .i64 0]) []:=bw lf kW 1000 3 Tryz.func10 (by kernel_rfl)
theorem NB{y:Int}(h:8<=y):ay (GGx false false) PP 10 [.int .u8 y] [] (.tup [.int .u8 0,.int .i64 2]) []:=by
 have hE:=cutE (aD (kCa:=false) (kDb:=false) (cts:=[]) (inl:=[]) trivial trivial)
 refine cg hE 2 Tryz.func10 rfl rfl IG Iv (o:=some (0,2)) rfl ?_ rfl rfl
 refine sI hE 2 rfl (decide_eq_true h) ?_
 exact aN (aJ [] (.inr rfl) rfl rfl rfl rfl rfl)
theorem AS:CtOk (GGx false false) PP (10,EJ):=by
 refine aF Tryz.func10 (by kernel_rfl) rfl fun a0 h0 c0 v0 N0 e hc=>?_
 unfold EJ at e
 split at e
 ·rename_i y
  obtain⟨hl,r,hr,rfl,rfl⟩:=bu e hc
  unfold yinv at hr
  rw[cond_eq_ite]at hr
  split at hr
  ·rename_i h
   cases hr
   exact NB (of_decide_eq_true h)
  ·rename_i h
   rw[cond_eq_ite]at hr
   split at hr
   ·rename_i h2
    cases hr
    have h:¬ 8<=y:=fun e=>h (decide_eq_true e)
    have h2:=of_decide_eq_true h2
    have hy:y=0\/y=1\/y=2\/y=3\/y=4\/y=5\/y=6\/y=7:=by omega
    rcases hy with rfl|rfl|rfl|rfl|rfl|rfl|rfl|rfl
    ·exact OB
    ·exact NY
    ·exact On
    ·exact OF
    ·exact Oj
    ·exact Ox
    ·exact Oe
    ·exact Om
   ·cases hr
 ·cases e
noncomputable abbrev Es:Env:=EE false false [(15,lZ),(101,rI),(118,oX),(53,za),(148,gx),(137,qM),(100,vD)] []
theorem NV:Es.Fn PP:=aD ⟨oz,pR,jG,mE,gI,uM,zR,trivial⟩ trivial
noncomputable abbrev xss:List (FuncId×Func):=[(96,Tryz.f96),(99,Tryz.f99),(98,Tryz.f98),(97,Tryz.f97)]
theorem Ik:qV PP xss:=⟨⟨Tryz.func96,by kernel_rfl⟩,⟨Tryz.func99,by kernel_rfl⟩,⟨Tryz.func98,by kernel_rfl⟩,⟨Tryz.func97,by kernel_rfl⟩,trivial⟩
def Kb:List UInt8:=[51,120,51,32,107,50,47,51,47,75,50,32,119,32,45,32,45,32,48,32,49]
def My:V×List O:=(.tup [.agg [I 3,I 3,.sl 0 0 9 none,.lit false,.int .u8 0,I (-1),I 0,I 1],.lit true],[.ints true .i8 [6,0,0,0,0,0,-6,0,0]])
theorem OI:sK { Es with pf:=qI Es xss 1000 8,cc:=true } 3 1000 Tryz.f45 [.str Kb] []=some My:=by kernel_rfl
def LJ:List UInt8:=[51,120,52,32,107,50,47,51,47,80,50,47,75,50,32,119,32,45,32,45,32,48,32,49]
def MD:V×List O:=(.tup [.agg [I 3,I 4,.sl 0 0 12 none,.lit false,.int .u8 0,I (-1),I 0,I 1],.lit true],[.ints true .i8 [6,0,0,1,0,0,0,0,0,-6,0,0]])
theorem Ov:sK { Es with pf:=qI Es xss 1000 8,cc:=true } 3 1000 Tryz.f45 [.str LJ] []=some MD:=by kernel_rfl
def pasT(s:List UInt8):Option (V×List O):=if s=Kb then some My else if s=LJ then some MD else none
theorem Kc{s:List UInt8}{x:V×List O}(h:pasT s=some x):ay (GGx false false) PP 45 [.str s] [] x.1 x.2:=by
 unfold pasT at h
 by_cases e0:s=Kb
 ·rw[if_pos e0]at h;cases h;subst e0;exact bw NV Ik 1000 8 Tryz.func45 OI
 rw[if_neg e0]at h
 by_cases e1:s=LJ
 ·rw[if_pos e1]at h;cases h;subst e1;exact bw NV Ik 1000 8 Tryz.func45 Ov
 rw[if_neg e1]at h
 cases h
def uG:CF
 |[.str s],[]=>match pasT s with
  |some x=>some (true,x.1,x.2)
  |none=>none
 |_,_=>none
theorem Ak:CtOk (GGx false false) PP (45,uG):=by
 refine aF Tryz.func45 (by kernel_rfl) rfl fun a0 h0 c0 v0 N0 e hc=>?_
 unfold uG at e
 split at e
 ·split at e
  ·rename_i h
   cases e
   exact Kc h
  ·cases e
 ·cases e
noncomputable abbrev Et:Env:=EE false false [(28,yH),(29,AM),(9,AK),(18,vU),(26,vn),(14,AB),(21,vO),(45,uG),(15,lZ),(117,rB),(118,oX),(53,za),(10,EJ)] []
theorem Ot:Et.Fn PP:=aD ⟨sU,Ez,DM,An,zS,Ew,zy,Ak,oz,oO,jG,mE,AS,trivial⟩ trivial
noncomputable abbrev xst:List (FuncId×Func):=[(43,Tryz.f43),(44,Tryz.f44),(46,Tryz.f46),(64,Tryz.f64),(98,Tryz.f98)]
theorem MQ:qV PP xst:=⟨⟨Tryz.func43,by kernel_rfl⟩,⟨Tryz.func44,by kernel_rfl⟩,⟨Tryz.func46,by kernel_rfl⟩,⟨Tryz.func64,by kernel_rfl⟩,⟨Tryz.func98,by kernel_rfl⟩,trivial⟩
theorem OE:sK { Et with pf:=qI Et xst 1000 8,cc:=true } 3 1000 Tryz.f11 [] []=some (.lit true,[]):=by kernel_rfl
def nq:CF
 |[],[]=>some (true,.bool true,[])
 |_,_=>none
theorem tc:CtOk (GGx false false) PP (11,nq):=by
 refine aF Tryz.func11 (by kernel_rfl) rfl fun a0 h0 c0 v0 N0 e hc=>?_
 unfold nq at e
 split at e
 ·cases e
  exact ay.like (bw Ot MQ 1000 8 Tryz.func11 OE) (fun _ _ h=>h)
 ·cases e
section
variable{kCa kDb:Bool}{R:Fmt->Exit->Tm->List O->Prop}{k:Exit->Tm->List O->T}(p:Psn)(x0:Fmt)
def ch1(p:Psn)(x0:Fmt)(row:List V):List O:=[.ints false .i8 p.zs,.cells true [I p.f,I p.r,.sl 0 0 p.zs.length none,Bb p.bl,.int .u8 p.ca,I p.pa,I p.ha,I p.fu],.cells true [I 0,I 0,.nils,Bb false,.int .u8 0,I 0,I 0,I 0],.cells true [I p.f,I p.r,.sl 0 0 p.zs.length none,Bb p.bl,.int .u8 p.ca,I p.pa,I p.ha,I p.fu],.cells true [.sl 7 0 1 none],.gone,.ints true .i8 x0.2.1.zs,.vals true 10 [[.str x0.1,I x0.2.1.f,I x0.2.1.r,.sl 6 0 x0.2.1.zs.length none,Bb x0.2.1.bl,.int .u8 x0.2.1.ca,I x0.2.1.pa,I x0.2.1.ha,I x0.2.1.fu,.int .u8 x0.2.2]]]++[.cells true [.str [],I 0,I 0,.nils,Bb false,.int .u8 0,I 0,I 0,I 0,.int .u8 0],.cells true row]
def ct1(i:Nat):Tm:=[(0,.sl 7 0 1 none),(1,.fn 51 []),(4,.ptr 8 0 0),(5,.ptr 9 0 0),(6,I i)]
abbrev Oa(kCa kDb:Bool)(R:Fmt->Exit->Tm->List O->Prop)(k:Exit->Tm->List O->T)(p:Psn)(x0:Fmt):Prop:=satO (Ecan kCa kDb) PP R (some x0) (k (.exit 0) (ct1 1) (ch1 p x0 [.str x0.1,I x0.2.1.f,I x0.2.1.r,.sl 6 0 x0.2.1.zs.length none,Bb x0.2.1.bl,.int .u8 x0.2.1.ca,I x0.2.1.pa,I x0.2.1.ha,I x0.2.1.fu,.int .u8 x0.2.2]))
theorem JP(h0:Oa kCa kDb R k p x0):bJ (Ecan kCa kDb) PP R 5 8 Tryz.f48.ntmps aY k 1 (minO x0 []) (ct1 1) (ch1 p x0 [.str x0.1,I x0.2.1.f,I x0.2.1.r,.sl 6 0 x0.2.1.zs.length none,Bb x0.2.1.bl,.int .u8 x0.2.1.ca,I x0.2.1.pa,I x0.2.1.ha,I x0.2.1.fu,.int .u8 x0.2.2]):=by
 refine bL ?_
 refine dU rfl ?_
 exact eI (Ent.rn [0,1,2,3,4,5,6,7,8,9] [0,1,4,5,6] rfl rfl rfl rfl rfl) h0
end
theorem GN{kCa kDb:Bool}(p:Psn)(l:List Int)(x0:Fmt)(hok:p.ok=true)(hl:p.zs.length<=64)(hsq:SqH (GGx kCa kDb) PP 104 (fmHc p) [.ptr 1 0 0] [.ints true .u8 l] ([x0].map fun x=>(ot x,fmNs x))){r}(hr:minO x0 []=some r) :
  ay (GGx kCa kDb) PP 14 [.agg [I p.f,I p.r,.sl 0 0 p.zs.length none,Bb p.bl,.int .u8 p.ca,I p.pa,I p.ha,I p.fu]] [.ints false .i8 p.zs] (canV r) (canN r):=by
 have hE:=aD (kCa:=kCa) (kDb:=kDb) (cts:=[(37,dH),(51,wM)]) (inl:=[(50,Tryz.f50),(49,Tryz.f49),(103,Tryz.f103),(48,Tryz.f48)]) ⟨cP,mC,trivial⟩ ⟨⟨Tryz.func50,by kernel_rfl⟩,⟨Tryz.func49,by kernel_rfl⟩,⟨Tryz.func103,by kernel_rfl⟩,⟨Tryz.func48,by kernel_rfl⟩,trivial⟩
 have e1:(⟨p.f,p.r,List.take p.zs.length (List.drop 0 p.zs),p.bl,p.ca,p.pa,p.ha,p.fu⟩:Psn)=p:=by rw[List.drop_zero,List.take_length]
 refine cg hE 5 Tryz.func14 rfl rfl canV canN hr ?_ rfl rfl
 refine ah (by rw[List.drop_zero,List.take_length];simp[hl]) ?_
 refine dU (by rw[e1,hok];rfl) ?_
 refine jy hE 5 6 5 [3,0] [2,4] (tm1:=[(2,.ptr 4 0 0),(4,.nils),(6,.fn 104 [.ptr 3 0 0])]) (hp1:=[.ints false .i8 p.zs,.cells true [I p.f,I p.r,.sl 0 0 p.zs.length none,Bb p.bl,.int .u8 p.ca,I p.pa,I p.ha,I p.fu],.cells true [I 0,I 0,.nils,Bb false,.int .u8 0,I 0,I 0,I 0],.cells true [I p.f,I p.r,.sl 0 0 p.zs.length none,Bb p.bl,.int .u8 p.ca,I p.pa,I p.ha,I p.fu],.cells true [.sl 6 0 0 none],.gone,.vals true 10 []]) ((Ent.gap rfl rfl).trans ((Ent.phC 4 0 (.vals true 10 []) rfl rfl rfl rfl rfl).trans (Ent.rn [0,1,2,3,4,5,6] [2,4,6] rfl rfl rfl rfl rfl))) hsq ?_ (ent Tryz.func104 (by kernel_rfl) rfl) rfl rfl rfl rfl rfl rfl (fun _=>rfl) rfl
  (fun i hp'=>match i with
   |0=>hp'=[.ints false .i8 p.zs,.cells true [I p.f,I p.r,.sl 0 0 p.zs.length none,Bb p.bl,.int .u8 p.ca,I p.pa,I p.ha,I p.fu],.cells true [I 0,I 0,.nils,Bb false,.int .u8 0,I 0,I 0,I 0],.cells true [I p.f,I p.r,.sl 0 0 p.zs.length none,Bb p.bl,.int .u8 p.ca,I p.pa,I p.ha,I p.fu],.cells true [.sl 6 0 0 none],.gone,.vals true 10 []]
   |1=>hp'=[.ints false .i8 p.zs,.cells true [I p.f,I p.r,.sl 0 0 p.zs.length none,Bb p.bl,.int .u8 p.ca,I p.pa,I p.ha,I p.fu],.cells true [I 0,I 0,.nils,Bb false,.int .u8 0,I 0,I 0,I 0],.cells true [I p.f,I p.r,.sl 0 0 p.zs.length none,Bb p.bl,.int .u8 p.ca,I p.pa,I p.ha,I p.fu],.cells true [.sl 7 0 1 none],.gone,.ints true .i8 x0.2.1.zs,.vals true 10 [[.str x0.1,I x0.2.1.f,I x0.2.1.r,.sl 6 0 x0.2.1.zs.length none,Bb x0.2.1.bl,.int .u8 x0.2.1.ca,I x0.2.1.pa,I x0.2.1.ha,I x0.2.1.fu,.int .u8 x0.2.2]]]
   |_=>False) rfl rfl rfl rfl rfl rfl ?_ ?_ ?_
 ·intro x hx
  obtain⟨y,_,rfl⟩:=List.mem_map.1 hx
  exact⟨rfl,Nat.le_of_ble_eq_true rfl⟩
 ·intro i hp' h
  match i with
  |0=>subst h;exact bD rfl rfl rfl rfl rfl rfl rfl rfl
  |1=>subst h;exact bD rfl rfl rfl rfl rfl rfl rfl rfl
  |n+2=>exact h.elim
 ·intro i vs ns hp' hvs h
  match i with
  |0=>
   subst h
   cases hvs
   refine af ⟨rfl,?_⟩
   repeat refine ag rfl ?_
   refine af ⟨_,?_,rfl⟩
   exact Ent.rn [0,1,2,3,4,5,8,11] [] rfl rfl rfl rfl rfl
  |n+1=>cases hvs
 ·intro hp' h
  subst h
  refine dU rfl ?_
  repeat refine ah rfl ?_
  refine gW hE 5 1 (body:=aY) (tm2:=ct1 1) (hp2:=ch1 p x0 [.str x0.1,I x0.2.1.f,I x0.2.1.r,.sl 6 0 x0.2.1.zs.length none,Bb x0.2.1.bl,.int .u8 x0.2.1.ca,I x0.2.1.pa,I x0.2.1.ha,I x0.2.1.fu,.int .u8 x0.2.2]) (Ent.rn [0,1,2,3,4,5,6,7,8,9] [0,1,4,5,6] rfl rfl rfl rfl rfl) (JP p x0 ?_)
  ·repeat refine ah rfl ?_
   exact aN (aJ [6] (.inr rfl) rfl rfl rfl rfl rfl)
section
variable{kCa kDb:Bool}{R:Fmt->Exit->Tm->List O->Prop}{k:Exit->Tm->List O->T}(p:Psn)(x0 x1:Fmt)
def ch2(p:Psn)(x0 x1:Fmt)(row:List V):List O:=[.ints false .i8 p.zs,.cells true [I p.f,I p.r,.sl 0 0 p.zs.length none,Bb p.bl,.int .u8 p.ca,I p.pa,I p.ha,I p.fu],.cells true [I 0,I 0,.nils,Bb false,.int .u8 0,I 0,I 0,I 0],.cells true [I p.f,I p.r,.sl 0 0 p.zs.length none,Bb p.bl,.int .u8 p.ca,I p.pa,I p.ha,I p.fu],.cells true [.sl 8 0 2 none],.gone,.ints true .i8 x0.2.1.zs,.ints true .i8 x1.2.1.zs,.vals true 10 [[.str x0.1,I x0.2.1.f,I x0.2.1.r,.sl 6 0 x0.2.1.zs.length none,Bb x0.2.1.bl,.int .u8 x0.2.1.ca,I x0.2.1.pa,I x0.2.1.ha,I x0.2.1.fu,.int .u8 x0.2.2],[.str x1.1,I x1.2.1.f,I x1.2.1.r,.sl 7 0 x1.2.1.zs.length none,Bb x1.2.1.bl,.int .u8 x1.2.1.ca,I x1.2.1.pa,I x1.2.1.ha,I x1.2.1.fu,.int .u8 x1.2.2]]]++[.cells true [.str [],I 0,I 0,.nils,Bb false,.int .u8 0,I 0,I 0,I 0,.int .u8 0],.cells true row]
def ct2(i:Nat):Tm:=[(0,.sl 8 0 2 none),(1,.fn 51 []),(4,.ptr 9 0 0),(5,.ptr 10 0 0),(6,I i)]
abbrev Mj(kCa kDb:Bool)(R:Fmt->Exit->Tm->List O->Prop)(k:Exit->Tm->List O->T)(p:Psn)(x0 x1:Fmt):Prop:=satO (Ecan kCa kDb) PP R (some x0) (k (.exit 0) (ct2 2) (ch2 p x0 x1 [.str x0.1,I x0.2.1.f,I x0.2.1.r,.sl 6 0 x0.2.1.zs.length none,Bb x0.2.1.bl,.int .u8 x0.2.1.ca,I x0.2.1.pa,I x0.2.1.ha,I x0.2.1.fu,.int .u8 x0.2.2]))
abbrev Nt(kCa kDb:Bool)(R:Fmt->Exit->Tm->List O->Prop)(k:Exit->Tm->List O->T)(p:Psn)(x0 x1:Fmt):Prop:=satO (Ecan kCa kDb) PP R (some x1) (k (.exit 0) (ct2 2) (ch2 p x0 x1 [.str x1.1,I x1.2.1.f,I x1.2.1.r,.sl 7 0 x1.2.1.zs.length none,Bb x1.2.1.bl,.int .u8 x1.2.1.ca,I x1.2.1.pa,I x1.2.1.ha,I x1.2.1.fu,.int .u8 x1.2.2]))
theorem Ll(h0:Mj kCa kDb R k p x0 x1):bJ (Ecan kCa kDb) PP R 5 9 Tryz.f48.ntmps aY k 1 (minO x0 []) (ct2 2) (ch2 p x0 x1 [.str x0.1,I x0.2.1.f,I x0.2.1.r,.sl 6 0 x0.2.1.zs.length none,Bb x0.2.1.bl,.int .u8 x0.2.1.ca,I x0.2.1.pa,I x0.2.1.ha,I x0.2.1.fu,.int .u8 x0.2.2]):=by
 refine bL ?_
 refine dU rfl ?_
 exact eI (Ent.rn [0,1,2,3,4,5,6,7,8,9,10] [0,1,4,5,6] rfl rfl rfl rfl rfl) h0
theorem JX(h1:Nt kCa kDb R k p x0 x1):bJ (Ecan kCa kDb) PP R 5 9 Tryz.f48.ntmps aY k 1 (minO x1 []) (ct2 2) (ch2 p x0 x1 [.str x1.1,I x1.2.1.f,I x1.2.1.r,.sl 7 0 x1.2.1.zs.length none,Bb x1.2.1.bl,.int .u8 x1.2.1.ca,I x1.2.1.pa,I x1.2.1.ha,I x1.2.1.fu,.int .u8 x1.2.2]):=by
 refine bL ?_
 refine dU rfl ?_
 exact eI (Ent.rn [0,1,2,3,4,5,6,7,8,9,10] [0,1,4,5,6] rfl rfl rfl rfl rfl) h1
theorem Js(h0:Mj kCa kDb R k p x0 x1)(h1:Nt kCa kDb R k p x0 x1):bJ (Ecan kCa kDb) PP R 5 9 Tryz.f48.ntmps aY k 2 (minO x0 [x1]) (ct2 1) (ch2 p x0 x1 [.str x0.1,I x0.2.1.f,I x0.2.1.r,.sl 6 0 x0.2.1.zs.length none,Bb x0.2.1.bl,.int .u8 x0.2.1.ca,I x0.2.1.pa,I x0.2.1.ha,I x0.2.1.fu,.int .u8 x0.2.2]):=by
 refine bL ?_
 refine cy rfl ?_
 repeat refine ah rfl ?_
 refine ah (pa (pa (decide_eq_true (az rfl)) (decide_eq_true (az rfl))) rfl) ?_
 refine cA ?_ ?_
 ·repeat refine ah rfl ?_
  exact aP (Ent.rn [0,1,2,3,4,5,6,7,8,9,10] [0,1,4,5,6] rfl rfl rfl rfl rfl) (JX p x0 x1 h1)
 ·repeat refine ah rfl ?_
  exact aP (Ent.rn [0,1,2,3,4,5,6,7,8,9,10] [0,1,4,5,6] rfl rfl rfl rfl rfl) (Ll p x0 x1 h0)
end
theorem HM{kCa kDb:Bool}(p:Psn)(l:List Int)(x0 x1:Fmt)(hok:p.ok=true)(hl:p.zs.length<=64)(hsq:SqH (GGx kCa kDb) PP 104 (fmHc p) [.ptr 1 0 0] [.ints true .u8 l] ([x0,x1].map fun x=>(ot x,fmNs x))){r}(hr:minO x0 [x1]=some r) :
  ay (GGx kCa kDb) PP 14 [.agg [I p.f,I p.r,.sl 0 0 p.zs.length none,Bb p.bl,.int .u8 p.ca,I p.pa,I p.ha,I p.fu]] [.ints false .i8 p.zs] (canV r) (canN r):=by
 have hE:=aD (kCa:=kCa) (kDb:=kDb) (cts:=[(37,dH),(51,wM)]) (inl:=[(50,Tryz.f50),(49,Tryz.f49),(103,Tryz.f103),(48,Tryz.f48)]) ⟨cP,mC,trivial⟩ ⟨⟨Tryz.func50,by kernel_rfl⟩,⟨Tryz.func49,by kernel_rfl⟩,⟨Tryz.func103,by kernel_rfl⟩,⟨Tryz.func48,by kernel_rfl⟩,trivial⟩
 have e1:(⟨p.f,p.r,List.take p.zs.length (List.drop 0 p.zs),p.bl,p.ca,p.pa,p.ha,p.fu⟩:Psn)=p:=by rw[List.drop_zero,List.take_length]
 refine cg hE 5 Tryz.func14 rfl rfl canV canN hr ?_ rfl rfl
 refine ah (by rw[List.drop_zero,List.take_length];simp[hl]) ?_
 refine dU (by rw[e1,hok];rfl) ?_
 refine jy hE 5 6 5 [3,0] [2,4] (tm1:=[(2,.ptr 4 0 0),(4,.nils),(6,.fn 104 [.ptr 3 0 0])]) (hp1:=[.ints false .i8 p.zs,.cells true [I p.f,I p.r,.sl 0 0 p.zs.length none,Bb p.bl,.int .u8 p.ca,I p.pa,I p.ha,I p.fu],.cells true [I 0,I 0,.nils,Bb false,.int .u8 0,I 0,I 0,I 0],.cells true [I p.f,I p.r,.sl 0 0 p.zs.length none,Bb p.bl,.int .u8 p.ca,I p.pa,I p.ha,I p.fu],.cells true [.sl 6 0 0 none],.gone,.vals true 10 []]) ((Ent.gap rfl rfl).trans ((Ent.phC 4 0 (.vals true 10 []) rfl rfl rfl rfl rfl).trans (Ent.rn [0,1,2,3,4,5,6] [2,4,6] rfl rfl rfl rfl rfl))) hsq ?_ (ent Tryz.func104 (by kernel_rfl) rfl) rfl rfl rfl rfl rfl rfl (fun _=>rfl) rfl
  (fun i hp'=>match i with
   |0=>hp'=[.ints false .i8 p.zs,.cells true [I p.f,I p.r,.sl 0 0 p.zs.length none,Bb p.bl,.int .u8 p.ca,I p.pa,I p.ha,I p.fu],.cells true [I 0,I 0,.nils,Bb false,.int .u8 0,I 0,I 0,I 0],.cells true [I p.f,I p.r,.sl 0 0 p.zs.length none,Bb p.bl,.int .u8 p.ca,I p.pa,I p.ha,I p.fu],.cells true [.sl 6 0 0 none],.gone,.vals true 10 []]
   |1=>hp'=[.ints false .i8 p.zs,.cells true [I p.f,I p.r,.sl 0 0 p.zs.length none,Bb p.bl,.int .u8 p.ca,I p.pa,I p.ha,I p.fu],.cells true [I 0,I 0,.nils,Bb false,.int .u8 0,I 0,I 0,I 0],.cells true [I p.f,I p.r,.sl 0 0 p.zs.length none,Bb p.bl,.int .u8 p.ca,I p.pa,I p.ha,I p.fu],.cells true [.sl 7 0 1 none],.gone,.ints true .i8 x0.2.1.zs,.vals true 10 [[.str x0.1,I x0.2.1.f,I x0.2.1.r,.sl 6 0 x0.2.1.zs.length none,Bb x0.2.1.bl,.int .u8 x0.2.1.ca,I x0.2.1.pa,I x0.2.1.ha,I x0.2.1.fu,.int .u8 x0.2.2]]]
   |2=>hp'=[.ints false .i8 p.zs,.cells true [I p.f,I p.r,.sl 0 0 p.zs.length none,Bb p.bl,.int .u8 p.ca,I p.pa,I p.ha,I p.fu],.cells true [I 0,I 0,.nils,Bb false,.int .u8 0,I 0,I 0,I 0],.cells true [I p.f,I p.r,.sl 0 0 p.zs.length none,Bb p.bl,.int .u8 p.ca,I p.pa,I p.ha,I p.fu],.cells true [.sl 8 0 2 none],.gone,.ints true .i8 x0.2.1.zs,.ints true .i8 x1.2.1.zs,.vals true 10 [[.str x0.1,I x0.2.1.f,I x0.2.1.r,.sl 6 0 x0.2.1.zs.length none,Bb x0.2.1.bl,.int .u8 x0.2.1.ca,I x0.2.1.pa,I x0.2.1.ha,I x0.2.1.fu,.int .u8 x0.2.2],[.str x1.1,I x1.2.1.f,I x1.2.1.r,.sl 7 0 x1.2.1.zs.length none,Bb x1.2.1.bl,.int .u8 x1.2.1.ca,I x1.2.1.pa,I x1.2.1.ha,I x1.2.1.fu,.int .u8 x1.2.2]]]
   |_=>False) rfl rfl rfl rfl rfl rfl ?_ ?_ ?_
 ·intro x hx
  obtain⟨y,_,rfl⟩:=List.mem_map.1 hx
  exact⟨rfl,Nat.le_of_ble_eq_true rfl⟩
 ·intro i hp' h
  match i with
  |0=>subst h;exact bD rfl rfl rfl rfl rfl rfl rfl rfl
  |1=>subst h;exact bD rfl rfl rfl rfl rfl rfl rfl rfl
  |2=>subst h;exact bD rfl rfl rfl rfl rfl rfl rfl rfl
  |n+3=>exact h.elim
 ·intro i vs ns hp' hvs h
  match i with
  |0=>
   subst h
   cases hvs
   refine af ⟨rfl,?_⟩
   repeat refine ag rfl ?_
   refine af ⟨_,?_,rfl⟩
   exact Ent.rn [0,1,2,3,4,5,8,11] [] rfl rfl rfl rfl rfl
  |1=>
   subst h
   cases hvs
   refine af ⟨rfl,?_⟩
   repeat refine ag rfl ?_
   refine af ⟨_,?_,rfl⟩
   exact Ent.rn [0,1,2,3,4,5,6,9,12] [] rfl rfl rfl rfl rfl
  |n+2=>cases hvs
 ·intro hp' h
  subst h
  refine dU rfl ?_
  repeat refine ah rfl ?_
  refine gW hE 5 2 (body:=aY) (tm2:=ct2 1) (hp2:=ch2 p x0 x1 [.str x0.1,I x0.2.1.f,I x0.2.1.r,.sl 6 0 x0.2.1.zs.length none,Bb x0.2.1.bl,.int .u8 x0.2.1.ca,I x0.2.1.pa,I x0.2.1.ha,I x0.2.1.fu,.int .u8 x0.2.2]) (Ent.rn [0,1,2,3,4,5,6,7,8,9,10] [0,1,4,5,6] rfl rfl rfl rfl rfl) (Js p x0 x1 ?_ ?_)
  ·repeat refine ah rfl ?_
   exact aN (aJ [6] (.inr rfl) rfl rfl rfl rfl rfl)
  ·repeat refine ah rfl ?_
   exact aN (aJ [7] (.inr rfl) rfl rfl rfl rfl rfl)
section
variable{kCa kDb:Bool}{R:Fmt->Exit->Tm->List O->Prop}{k:Exit->Tm->List O->T}(p:Psn)(x0 x1 x2 x3:Fmt)
def ch4(p:Psn)(x0 x1 x2 x3:Fmt)(row:List V):List O:=[.ints false .i8 p.zs,.cells true [I p.f,I p.r,.sl 0 0 p.zs.length none,Bb p.bl,.int .u8 p.ca,I p.pa,I p.ha,I p.fu],.cells true [I 0,I 0,.nils,Bb false,.int .u8 0,I 0,I 0,I 0],.cells true [I p.f,I p.r,.sl 0 0 p.zs.length none,Bb p.bl,.int .u8 p.ca,I p.pa,I p.ha,I p.fu],.cells true [.sl 10 0 4 none],.gone,.ints true .i8 x0.2.1.zs,.ints true .i8 x1.2.1.zs,.ints true .i8 x2.2.1.zs,.ints true .i8 x3.2.1.zs,.vals true 10 [[.str x0.1,I x0.2.1.f,I x0.2.1.r,.sl 6 0 x0.2.1.zs.length none,Bb x0.2.1.bl,.int .u8 x0.2.1.ca,I x0.2.1.pa,I x0.2.1.ha,I x0.2.1.fu,.int .u8 x0.2.2],[.str x1.1,I x1.2.1.f,I x1.2.1.r,.sl 7 0 x1.2.1.zs.length none,Bb x1.2.1.bl,.int .u8 x1.2.1.ca,I x1.2.1.pa,I x1.2.1.ha,I x1.2.1.fu,.int .u8 x1.2.2],[.str x2.1,I x2.2.1.f,I x2.2.1.r,.sl 8 0 x2.2.1.zs.length none,Bb x2.2.1.bl,.int .u8 x2.2.1.ca,I x2.2.1.pa,I x2.2.1.ha,I x2.2.1.fu,.int .u8 x2.2.2],[.str x3.1,I x3.2.1.f,I x3.2.1.r,.sl 9 0 x3.2.1.zs.length none,Bb x3.2.1.bl,.int .u8 x3.2.1.ca,I x3.2.1.pa,I x3.2.1.ha,I x3.2.1.fu,.int .u8 x3.2.2]]]++[.cells true [.str [],I 0,I 0,.nils,Bb false,.int .u8 0,I 0,I 0,I 0,.int .u8 0],.cells true row]
def ct4(i:Nat):Tm:=[(0,.sl 10 0 4 none),(1,.fn 51 []),(4,.ptr 11 0 0),(5,.ptr 12 0 0),(6,I i)]
abbrev Gp(kCa kDb:Bool)(R:Fmt->Exit->Tm->List O->Prop)(k:Exit->Tm->List O->T)(p:Psn)(x0 x1 x2 x3:Fmt):Prop:=satO (Ecan kCa kDb) PP R (some x0) (k (.exit 0) (ct4 4) (ch4 p x0 x1 x2 x3 [.str x0.1,I x0.2.1.f,I x0.2.1.r,.sl 6 0 x0.2.1.zs.length none,Bb x0.2.1.bl,.int .u8 x0.2.1.ca,I x0.2.1.pa,I x0.2.1.ha,I x0.2.1.fu,.int .u8 x0.2.2]))
abbrev GF(kCa kDb:Bool)(R:Fmt->Exit->Tm->List O->Prop)(k:Exit->Tm->List O->T)(p:Psn)(x0 x1 x2 x3:Fmt):Prop:=satO (Ecan kCa kDb) PP R (some x1) (k (.exit 0) (ct4 4) (ch4 p x0 x1 x2 x3 [.str x1.1,I x1.2.1.f,I x1.2.1.r,.sl 7 0 x1.2.1.zs.length none,Bb x1.2.1.bl,.int .u8 x1.2.1.ca,I x1.2.1.pa,I x1.2.1.ha,I x1.2.1.fu,.int .u8 x1.2.2]))
abbrev Bp(kCa kDb:Bool)(R:Fmt->Exit->Tm->List O->Prop)(k:Exit->Tm->List O->T)(p:Psn)(x0 x1 x2 x3:Fmt):Prop:=satO (Ecan kCa kDb) PP R (some x2) (k (.exit 0) (ct4 4) (ch4 p x0 x1 x2 x3 [.str x2.1,I x2.2.1.f,I x2.2.1.r,.sl 8 0 x2.2.1.zs.length none,Bb x2.2.1.bl,.int .u8 x2.2.1.ca,I x2.2.1.pa,I x2.2.1.ha,I x2.2.1.fu,.int .u8 x2.2.2]))
abbrev wm(kCa kDb:Bool)(R:Fmt->Exit->Tm->List O->Prop)(k:Exit->Tm->List O->T)(p:Psn)(x0 x1 x2 x3:Fmt):Prop:=satO (Ecan kCa kDb) PP R (some x3) (k (.exit 0) (ct4 4) (ch4 p x0 x1 x2 x3 [.str x3.1,I x3.2.1.f,I x3.2.1.r,.sl 9 0 x3.2.1.zs.length none,Bb x3.2.1.bl,.int .u8 x3.2.1.ca,I x3.2.1.pa,I x3.2.1.ha,I x3.2.1.fu,.int .u8 x3.2.2]))
theorem LK(h0:Gp kCa kDb R k p x0 x1 x2 x3):bJ (Ecan kCa kDb) PP R 5 11 Tryz.f48.ntmps aY k 1 (minO x0 []) (ct4 4) (ch4 p x0 x1 x2 x3 [.str x0.1,I x0.2.1.f,I x0.2.1.r,.sl 6 0 x0.2.1.zs.length none,Bb x0.2.1.bl,.int .u8 x0.2.1.ca,I x0.2.1.pa,I x0.2.1.ha,I x0.2.1.fu,.int .u8 x0.2.2]):=by
 refine bL ?_
 refine dU rfl ?_
 exact eI (Ent.rn [0,1,2,3,4,5,6,7,8,9,10,11,12] [0,1,4,5,6] rfl rfl rfl rfl rfl) h0
theorem JO(h1:GF kCa kDb R k p x0 x1 x2 x3):bJ (Ecan kCa kDb) PP R 5 11 Tryz.f48.ntmps aY k 1 (minO x1 []) (ct4 4) (ch4 p x0 x1 x2 x3 [.str x1.1,I x1.2.1.f,I x1.2.1.r,.sl 7 0 x1.2.1.zs.length none,Bb x1.2.1.bl,.int .u8 x1.2.1.ca,I x1.2.1.pa,I x1.2.1.ha,I x1.2.1.fu,.int .u8 x1.2.2]):=by
 refine bL ?_
 refine dU rfl ?_
 exact eI (Ent.rn [0,1,2,3,4,5,6,7,8,9,10,11,12] [0,1,4,5,6] rfl rfl rfl rfl rfl) h1
theorem IW(h2:Bp kCa kDb R k p x0 x1 x2 x3):bJ (Ecan kCa kDb) PP R 5 11 Tryz.f48.ntmps aY k 1 (minO x2 []) (ct4 4) (ch4 p x0 x1 x2 x3 [.str x2.1,I x2.2.1.f,I x2.2.1.r,.sl 8 0 x2.2.1.zs.length none,Bb x2.2.1.bl,.int .u8 x2.2.1.ca,I x2.2.1.pa,I x2.2.1.ha,I x2.2.1.fu,.int .u8 x2.2.2]):=by
 refine bL ?_
 refine dU rfl ?_
 exact eI (Ent.rn [0,1,2,3,4,5,6,7,8,9,10,11,12] [0,1,4,5,6] rfl rfl rfl rfl rfl) h2
theorem ve(h3:wm kCa kDb R k p x0 x1 x2 x3):bJ (Ecan kCa kDb) PP R 5 11 Tryz.f48.ntmps aY k 1 (minO x3 []) (ct4 4) (ch4 p x0 x1 x2 x3 [.str x3.1,I x3.2.1.f,I x3.2.1.r,.sl 9 0 x3.2.1.zs.length none,Bb x3.2.1.bl,.int .u8 x3.2.1.ca,I x3.2.1.pa,I x3.2.1.ha,I x3.2.1.fu,.int .u8 x3.2.2]):=by
 refine bL ?_
 refine dU rfl ?_
 exact eI (Ent.rn [0,1,2,3,4,5,6,7,8,9,10,11,12] [0,1,4,5,6] rfl rfl rfl rfl rfl) h3
theorem Kv(h0:Gp kCa kDb R k p x0 x1 x2 x3)(h3:wm kCa kDb R k p x0 x1 x2 x3):bJ (Ecan kCa kDb) PP R 5 11 Tryz.f48.ntmps aY k 2 (minO x0 [x3]) (ct4 3) (ch4 p x0 x1 x2 x3 [.str x0.1,I x0.2.1.f,I x0.2.1.r,.sl 6 0 x0.2.1.zs.length none,Bb x0.2.1.bl,.int .u8 x0.2.1.ca,I x0.2.1.pa,I x0.2.1.ha,I x0.2.1.fu,.int .u8 x0.2.2]):=by
 refine bL ?_
 refine cy rfl ?_
 repeat refine ah rfl ?_
 refine ah (pa (pa (decide_eq_true (az rfl)) (decide_eq_true (az rfl))) rfl) ?_
 refine cA ?_ ?_
 ·repeat refine ah rfl ?_
  exact aP (Ent.rn [0,1,2,3,4,5,6,7,8,9,10,11,12] [0,1,4,5,6] rfl rfl rfl rfl rfl) (ve p x0 x1 x2 x3 h3)
 ·repeat refine ah rfl ?_
  exact aP (Ent.rn [0,1,2,3,4,5,6,7,8,9,10,11,12] [0,1,4,5,6] rfl rfl rfl rfl rfl) (LK p x0 x1 x2 x3 h0)
theorem KZ(h1:GF kCa kDb R k p x0 x1 x2 x3)(h3:wm kCa kDb R k p x0 x1 x2 x3):bJ (Ecan kCa kDb) PP R 5 11 Tryz.f48.ntmps aY k 2 (minO x1 [x3]) (ct4 3) (ch4 p x0 x1 x2 x3 [.str x1.1,I x1.2.1.f,I x1.2.1.r,.sl 7 0 x1.2.1.zs.length none,Bb x1.2.1.bl,.int .u8 x1.2.1.ca,I x1.2.1.pa,I x1.2.1.ha,I x1.2.1.fu,.int .u8 x1.2.2]):=by
 refine bL ?_
 refine cy rfl ?_
 repeat refine ah rfl ?_
 refine ah (pa (pa (decide_eq_true (az rfl)) (decide_eq_true (az rfl))) rfl) ?_
 refine cA ?_ ?_
 ·repeat refine ah rfl ?_
  exact aP (Ent.rn [0,1,2,3,4,5,6,7,8,9,10,11,12] [0,1,4,5,6] rfl rfl rfl rfl rfl) (ve p x0 x1 x2 x3 h3)
 ·repeat refine ah rfl ?_
  exact aP (Ent.rn [0,1,2,3,4,5,6,7,8,9,10,11,12] [0,1,4,5,6] rfl rfl rfl rfl rfl) (JO p x0 x1 x2 x3 h1)
theorem Ci(h2:Bp kCa kDb R k p x0 x1 x2 x3)(h3:wm kCa kDb R k p x0 x1 x2 x3):bJ (Ecan kCa kDb) PP R 5 11 Tryz.f48.ntmps aY k 2 (minO x2 [x3]) (ct4 3) (ch4 p x0 x1 x2 x3 [.str x2.1,I x2.2.1.f,I x2.2.1.r,.sl 8 0 x2.2.1.zs.length none,Bb x2.2.1.bl,.int .u8 x2.2.1.ca,I x2.2.1.pa,I x2.2.1.ha,I x2.2.1.fu,.int .u8 x2.2.2]):=by
 refine bL ?_
 refine cy rfl ?_
 repeat refine ah rfl ?_
 refine ah (pa (pa (decide_eq_true (az rfl)) (decide_eq_true (az rfl))) rfl) ?_
 refine cA ?_ ?_
 ·repeat refine ah rfl ?_
  exact aP (Ent.rn [0,1,2,3,4,5,6,7,8,9,10,11,12] [0,1,4,5,6] rfl rfl rfl rfl rfl) (ve p x0 x1 x2 x3 h3)
 ·repeat refine ah rfl ?_
  exact aP (Ent.rn [0,1,2,3,4,5,6,7,8,9,10,11,12] [0,1,4,5,6] rfl rfl rfl rfl rfl) (IW p x0 x1 x2 x3 h2)
theorem Jn(h0:Gp kCa kDb R k p x0 x1 x2 x3)(h2:Bp kCa kDb R k p x0 x1 x2 x3)(h3:wm kCa kDb R k p x0 x1 x2 x3):bJ (Ecan kCa kDb) PP R 5 11 Tryz.f48.ntmps aY k 3 (minO x0 [x2,x3]) (ct4 2) (ch4 p x0 x1 x2 x3 [.str x0.1,I x0.2.1.f,I x0.2.1.r,.sl 6 0 x0.2.1.zs.length none,Bb x0.2.1.bl,.int .u8 x0.2.1.ca,I x0.2.1.pa,I x0.2.1.ha,I x0.2.1.fu,.int .u8 x0.2.2]):=by
 refine bL ?_
 refine cy rfl ?_
 repeat refine ah rfl ?_
 refine ah (pa (pa (decide_eq_true (az rfl)) (decide_eq_true (az rfl))) rfl) ?_
 refine cA ?_ ?_
 ·repeat refine ah rfl ?_
  exact aP (Ent.rn [0,1,2,3,4,5,6,7,8,9,10,11,12] [0,1,4,5,6] rfl rfl rfl rfl rfl) (Ci p x0 x1 x2 x3 h2 h3)
 ·repeat refine ah rfl ?_
  exact aP (Ent.rn [0,1,2,3,4,5,6,7,8,9,10,11,12] [0,1,4,5,6] rfl rfl rfl rfl rfl) (Kv p x0 x1 x2 x3 h0 h3)
theorem KX(h1:GF kCa kDb R k p x0 x1 x2 x3)(h2:Bp kCa kDb R k p x0 x1 x2 x3)(h3:wm kCa kDb R k p x0 x1 x2 x3):bJ (Ecan kCa kDb) PP R 5 11 Tryz.f48.ntmps aY k 3 (minO x1 [x2,x3]) (ct4 2) (ch4 p x0 x1 x2 x3 [.str x1.1,I x1.2.1.f,I x1.2.1.r,.sl 7 0 x1.2.1.zs.length none,Bb x1.2.1.bl,.int .u8 x1.2.1.ca,I x1.2.1.pa,I x1.2.1.ha,I x1.2.1.fu,.int .u8 x1.2.2]):=by
 refine bL ?_
 refine cy rfl ?_
 repeat refine ah rfl ?_
 refine ah (pa (pa (decide_eq_true (az rfl)) (decide_eq_true (az rfl))) rfl) ?_
 refine cA ?_ ?_
 ·repeat refine ah rfl ?_
  exact aP (Ent.rn [0,1,2,3,4,5,6,7,8,9,10,11,12] [0,1,4,5,6] rfl rfl rfl rfl rfl) (Ci p x0 x1 x2 x3 h2 h3)
 ·repeat refine ah rfl ?_
  exact aP (Ent.rn [0,1,2,3,4,5,6,7,8,9,10,11,12] [0,1,4,5,6] rfl rfl rfl rfl rfl) (KZ p x0 x1 x2 x3 h1 h3)
theorem KP(h0:Gp kCa kDb R k p x0 x1 x2 x3)(h1:GF kCa kDb R k p x0 x1 x2 x3)(h2:Bp kCa kDb R k p x0 x1 x2 x3)(h3:wm kCa kDb R k p x0 x1 x2 x3):bJ (Ecan kCa kDb) PP R 5 11 Tryz.f48.ntmps aY k 4 (minO x0 [x1,x2,x3]) (ct4 1) (ch4 p x0 x1 x2 x3 [.str x0.1,I x0.2.1.f,I x0.2.1.r,.sl 6 0 x0.2.1.zs.length none,Bb x0.2.1.bl,.int .u8 x0.2.1.ca,I x0.2.1.pa,I x0.2.1.ha,I x0.2.1.fu,.int .u8 x0.2.2]):=by
 refine bL ?_
 refine cy rfl ?_
 repeat refine ah rfl ?_
 refine ah (pa (pa (decide_eq_true (az rfl)) (decide_eq_true (az rfl))) rfl) ?_
 refine cA ?_ ?_
 ·repeat refine ah rfl ?_
  exact aP (Ent.rn [0,1,2,3,4,5,6,7,8,9,10,11,12] [0,1,4,5,6] rfl rfl rfl rfl rfl) (KX p x0 x1 x2 x3 h1 h2 h3)
 ·repeat refine ah rfl ?_
  exact aP (Ent.rn [0,1,2,3,4,5,6,7,8,9,10,11,12] [0,1,4,5,6] rfl rfl rfl rfl rfl) (Jn p x0 x1 x2 x3 h0 h2 h3)
end
theorem Hv{kCa kDb:Bool}(p:Psn)(l:List Int)(x0 x1 x2 x3:Fmt)(hok:p.ok=true)(hl:p.zs.length<=64)(hsq:SqH (GGx kCa kDb) PP 104 (fmHc p) [.ptr 1 0 0] [.ints true .u8 l] ([x0,x1,x2,x3].map fun x=>(ot x,fmNs x))){r}(hr:minO x0 [x1,x2,x3]=some r) :
  ay (GGx kCa kDb) PP 14 [.agg [I p.f,I p.r,.sl 0 0 p.zs.length none,Bb p.bl,.int .u8 p.ca,I p.pa,I p.ha,I p.fu]] [.ints false .i8 p.zs] (canV r) (canN r):=by
 have hE:=aD (kCa:=kCa) (kDb:=kDb) (cts:=[(37,dH),(51,wM)]) (inl:=[(50,Tryz.f50),(49,Tryz.f49),(103,Tryz.f103),(48,Tryz.f48)]) ⟨cP,mC,trivial⟩ ⟨⟨Tryz.func50,by kernel_rfl⟩,⟨Tryz.func49,by kernel_rfl⟩,⟨Tryz.func103,by kernel_rfl⟩,⟨Tryz.func48,by kernel_rfl⟩,trivial⟩
 have e1:(⟨p.f,p.r,List.take p.zs.length (List.drop 0 p.zs),p.bl,p.ca,p.pa,p.ha,p.fu⟩:Psn)=p:=by rw[List.drop_zero,List.take_length]
 refine cg hE 5 Tryz.func14 rfl rfl canV canN hr ?_ rfl rfl
 refine ah (by rw[List.drop_zero,List.take_length];simp[hl]) ?_
 refine dU (by rw[e1,hok];rfl) ?_
 refine jy hE 5 6 5 [3,0] [2,4] (tm1:=[(2,.ptr 4 0 0),(4,.nils),(6,.fn 104 [.ptr 3 0 0])]) (hp1:=[.ints false .i8 p.zs,.cells true [I p.f,I p.r,.sl 0 0 p.zs.length none,Bb p.bl,.int .u8 p.ca,I p.pa,I p.ha,I p.fu],.cells true [I 0,I 0,.nils,Bb false,.int .u8 0,I 0,I 0,I 0],.cells true [I p.f,I p.r,.sl 0 0 p.zs.length none,Bb p.bl,.int .u8 p.ca,I p.pa,I p.ha,I p.fu],.cells true [.sl 6 0 0 none],.gone,.vals true 10 []]) ((Ent.gap rfl rfl).trans ((Ent.phC 4 0 (.vals true 10 []) rfl rfl rfl rfl rfl).trans (Ent.rn [0,1,2,3,4,5,6] [2,4,6] rfl rfl rfl rfl rfl))) hsq ?_ (ent Tryz.func104 (by kernel_rfl) rfl) rfl rfl rfl rfl rfl rfl (fun _=>rfl) rfl
  (fun i hp'=>match i with
   |0=>hp'=[.ints false .i8 p.zs,.cells true [I p.f,I p.r,.sl 0 0 p.zs.length none,Bb p.bl,.int .u8 p.ca,I p.pa,I p.ha,I p.fu],.cells true [I 0,I 0,.nils,Bb false,.int .u8 0,I 0,I 0,I 0],.cells true [I p.f,I p.r,.sl 0 0 p.zs.length none,Bb p.bl,.int .u8 p.ca,I p.pa,I p.ha,I p.fu],.cells true [.sl 6 0 0 none],.gone,.vals true 10 []]
   |1=>hp'=[.ints false .i8 p.zs,.cells true [I p.f,I p.r,.sl 0 0 p.zs.length none,Bb p.bl,.int .u8 p.ca,I p.pa,I p.ha,I p.fu],.cells true [I 0,I 0,.nils,Bb false,.int .u8 0,I 0,I 0,I 0],.cells true [I p.f,I p.r,.sl 0 0 p.zs.length none,Bb p.bl,.int .u8 p.ca,I p.pa,I p.ha,I p.fu],.cells true [.sl 7 0 1 none],.gone,.ints true .i8 x0.2.1.zs,.vals true 10 [[.str x0.1,I x0.2.1.f,I x0.2.1.r,.sl 6 0 x0.2.1.zs.length none,Bb x0.2.1.bl,.int .u8 x0.2.1.ca,I x0.2.1.pa,I x0.2.1.ha,I x0.2.1.fu,.int .u8 x0.2.2]]]
   |2=>hp'=[.ints false .i8 p.zs,.cells true [I p.f,I p.r,.sl 0 0 p.zs.length none,Bb p.bl,.int .u8 p.ca,I p.pa,I p.ha,I p.fu],.cells true [I 0,I 0,.nils,Bb false,.int .u8 0,I 0,I 0,I 0],.cells true [I p.f,I p.r,.sl 0 0 p.zs.length none,Bb p.bl,.int .u8 p.ca,I p.pa,I p.ha,I p.fu],.cells true [.sl 8 0 2 none],.gone,.ints true .i8 x0.2.1.zs,.ints true .i8 x1.2.1.zs,.vals true 10 [[.str x0.1,I x0.2.1.f,I x0.2.1.r,.sl 6 0 x0.2.1.zs.length none,Bb x0.2.1.bl,.int .u8 x0.2.1.ca,I x0.2.1.pa,I x0.2.1.ha,I x0.2.1.fu,.int .u8 x0.2.2],[.str x1.1,I x1.2.1.f,I x1.2.1.r,.sl 7 0 x1.2.1.zs.length none,Bb x1.2.1.bl,.int .u8 x1.2.1.ca,I x1.2.1.pa,I x1.2.1.ha,I x1.2.1.fu,.int .u8 x1.2.2]]]
   |3=>hp'=[.ints false .i8 p.zs,.cells true [I p.f,I p.r,.sl 0 0 p.zs.length none,Bb p.bl,.int .u8 p.ca,I p.pa,I p.ha,I p.fu],.cells true [I 0,I 0,.nils,Bb false,.int .u8 0,I 0,I 0,I 0],.cells true [I p.f,I p.r,.sl 0 0 p.zs.length none,Bb p.bl,.int .u8 p.ca,I p.pa,I p.ha,I p.fu],.cells true [.sl 9 0 3 none],.gone,.ints true .i8 x0.2.1.zs,.ints true .i8 x1.2.1.zs,.ints true .i8 x2.2.1.zs,.vals true 10 [[.str x0.1,I x0.2.1.f,I x0.2.1.r,.sl 6 0 x0.2.1.zs.length none,Bb x0.2.1.bl,.int .u8 x0.2.1.ca,I x0.2.1.pa,I x0.2.1.ha,I x0.2.1.fu,.int .u8 x0.2.2],[.str x1.1,I x1.2.1.f,I x1.2.1.r,.sl 7 0 x1.2.1.zs.length none,Bb x1.2.1.bl,.int .u8 x1.2.1.ca,I x1.2.1.pa,I x1.2.1.ha,I x1.2.1.fu,.int .u8 x1.2.2],[.str x2.1,I x2.2.1.f,I x2.2.1.r,.sl 8 0 x2.2.1.zs.length none,Bb x2.2.1.bl,.int .u8 x2.2.1.ca,I x2.2.1.pa,I x2.2.1.ha,I x2.2.1.fu,.int .u8 x2.2.2]]]
   |4=>hp'=[.ints false .i8 p.zs,.cells true [I p.f,I p.r,.sl 0 0 p.zs.length none,Bb p.bl,.int .u8 p.ca,I p.pa,I p.ha,I p.fu],.cells true [I 0,I 0,.nils,Bb false,.int .u8 0,I 0,I 0,I 0],.cells true [I p.f,I p.r,.sl 0 0 p.zs.length none,Bb p.bl,.int .u8 p.ca,I p.pa,I p.ha,I p.fu],.cells true [.sl 10 0 4 none],.gone,.ints true .i8 x0.2.1.zs,.ints true .i8 x1.2.1.zs,.ints true .i8 x2.2.1.zs,.ints true .i8 x3.2.1.zs,.vals true 10 [[.str x0.1,I x0.2.1.f,I x0.2.1.r,.sl 6 0 x0.2.1.zs.length none,Bb x0.2.1.bl,.int .u8 x0.2.1.ca,I x0.2.1.pa,I x0.2.1.ha,I x0.2.1.fu,.int .u8 x0.2.2],[.str x1.1,I x1.2.1.f,I x1.2.1.r,.sl 7 0 x1.2.1.zs.length none,Bb x1.2.1.bl,.int .u8 x1.2.1.ca,I x1.2.1.pa,I x1.2.1.ha,I x1.2.1.fu,.int .u8 x1.2.2],[.str x2.1,I x2.2.1.f,I x2.2.1.r,.sl 8 0 x2.2.1.zs.length none,Bb x2.2.1.bl,.int .u8 x2.2.1.ca,I x2.2.1.pa,I x2.2.1.ha,I x2.2.1.fu,.int .u8 x2.2.2],[.str x3.1,I x3.2.1.f,I x3.2.1.r,.sl 9 0 x3.2.1.zs.length none,Bb x3.2.1.bl,.int .u8 x3.2.1.ca,I x3.2.1.pa,I x3.2.1.ha,I x3.2.1.fu,.int .u8 x3.2.2]]]
   |_=>False) rfl rfl rfl rfl rfl rfl ?_ ?_ ?_
 ·intro x hx
  obtain⟨y,_,rfl⟩:=List.mem_map.1 hx
  exact⟨rfl,Nat.le_of_ble_eq_true rfl⟩
 ·intro i hp' h
  match i with
  |0=>subst h;exact bD rfl rfl rfl rfl rfl rfl rfl rfl
  |1=>subst h;exact bD rfl rfl rfl rfl rfl rfl rfl rfl
  |2=>subst h;exact bD rfl rfl rfl rfl rfl rfl rfl rfl
  |3=>subst h;exact bD rfl rfl rfl rfl rfl rfl rfl rfl
  |4=>subst h;exact bD rfl rfl rfl rfl rfl rfl rfl rfl
  |n+5=>exact h.elim
 ·intro i vs ns hp' hvs h
  match i with
  |0=>
   subst h
   cases hvs
   refine af ⟨rfl,?_⟩
   repeat refine ag rfl ?_
   refine af ⟨_,?_,rfl⟩
   exact Ent.rn [0,1,2,3,4,5,8,11] [] rfl rfl rfl rfl rfl
  |1=>
   subst h
   cases hvs
   refine af ⟨rfl,?_⟩
   repeat refine ag rfl ?_
   refine af ⟨_,?_,rfl⟩
   exact Ent.rn [0,1,2,3,4,5,6,9,12] [] rfl rfl rfl rfl rfl
  |2=>
   subst h
   cases hvs
   refine af ⟨rfl,?_⟩
   repeat refine ag rfl ?_
   refine af ⟨_,?_,rfl⟩
   exact Ent.rn [0,1,2,3,4,5,6,7,10,13] [] rfl rfl rfl rfl rfl
  |3=>
   subst h
   cases hvs
   refine af ⟨rfl,?_⟩
   repeat refine ag rfl ?_
   refine af ⟨_,?_,rfl⟩
   exact Ent.rn [0,1,2,3,4,5,6,7,8,11,14] [] rfl rfl rfl rfl rfl
  |n+4=>cases hvs
 ·intro hp' h
  subst h
  refine dU rfl ?_
  repeat refine ah rfl ?_
  refine gW hE 5 4 (body:=aY) (tm2:=ct4 1) (hp2:=ch4 p x0 x1 x2 x3 [.str x0.1,I x0.2.1.f,I x0.2.1.r,.sl 6 0 x0.2.1.zs.length none,Bb x0.2.1.bl,.int .u8 x0.2.1.ca,I x0.2.1.pa,I x0.2.1.ha,I x0.2.1.fu,.int .u8 x0.2.2]) (Ent.rn [0,1,2,3,4,5,6,7,8,9,10,11,12] [0,1,4,5,6] rfl rfl rfl rfl rfl) (KP p x0 x1 x2 x3 ?_ ?_ ?_ ?_)
  ·repeat refine ah rfl ?_
   exact aN (aJ [6] (.inr rfl) rfl rfl rfl rfl rfl)
  ·repeat refine ah rfl ?_
   exact aN (aJ [7] (.inr rfl) rfl rfl rfl rfl rfl)
  ·repeat refine ah rfl ?_
   exact aN (aJ [8] (.inr rfl) rfl rfl rfl rfl rfl)
  ·repeat refine ah rfl ?_
   exact aN (aJ [9] (.inr rfl) rfl rfl rfl rfl rfl)
theorem Fe{kCa kDb:Bool}(p:Psn){l:List Int}{n:Nat}(hp:yalW p=some (l,n))(hnl:n<=l.length)(_hl:p.zs.length<=64)(hn:l.length<=100000)
  (hall:∀ y∈l.take n,(ypos y p).isSome=true/\(ptxt (fmX p y).2.1).isSome=true):SqH (GGx kCa kDb) PP 104 (fmHc p) [.ptr 1 0 0] [.ints true .u8 l] ((l.take n).map fun y=>(ot (fmX p y),fmNs (fmX p y))):=by
 have hE:=aD (kCa:=kCa) (kDb:=kDb) (cts:=[(65,tZ),(67,sL),(105,yO)]) (inl:=[]) ⟨nH,nT,sP,trivial⟩ trivial
 refine ox hE Tryz.func104 rfl rfl rfl rfl rfl fun nn l0 S0 ρc J ok=>?_
 refine YH.seq (YH.seg hE 2 ?_)
 have e1:(⟨p.f,p.r,List.take p.zs.length (List.drop 0 p.zs),p.bl,p.ca,p.pa,p.ha,p.fu⟩:Psn)=p:=by rw[List.drop_zero,List.take_length]
 refine ag (by rw[e1,hp,List.drop_zero,List.take_length];simp) ?_
 refine af ?_
 rw[e1,hp]
 refine YH.block (YH.loop (fun a:Nat×Bool=>((some a.1,a.2),[(0,.yl 0),(1,.ptr 1 0 0),(9,.sl 3 0 n none),(10,I n),(11,I a.1)],
   [.gone,.cells false [I p.f,I p.r,.sl 2 0 p.zs.length none,Bb p.bl,.int .u8 p.ca,I p.pa,I p.ha,I p.fu],.ints false .i8 p.zs,match a.2 with|true=>.ints false .u8 l|false=>.ints true .u8 l]))
  (fun a=>a.1<=n) (fun a=>n-a.1) (0,false) rfl (Ent.ren [0,1,2,3] [0,1,9,10,11] rfl rfl rfl) (Nat.zero_le _) ?_)
 rintro⟨j,hd⟩ i1
 cases hd
 all_goals
  dsimp only at i1 ⊢
  refine YH.seq (YH.seg hE 2 ?_)
  repeat (first|refine ai ?_|refine ag (by first|rfl|exact tt1 _ _|exact tt5 _ _|(simp;done)|(simp;omega)) ?_)
  refine af ?_
  refine YH.seq (YH.seg hE 2 ?_)
  refine aq (fun h1=>af ?_) (fun h1=>af ?_)
  ·have hjn:j<n:=by have h1:=of_decide_eq_true h1;omega
   have hj:j<l.length:=by omega
   have hw:IntKind.i64.wrap ((j:Int)+1)=((j+1:Nat):Int):=aC (by omega) (by omega)
   have hx:l.getD (j:Int).toNat 0=l[j]:=by simp[List.getD,hj]
   obtain⟨ha1,ha2⟩:=hall l[j] (List.mem_take_iff_getElem.2 ⟨j,by omega,rfl⟩)
   refine YH.seq (YH.block (YH.seq (YH.seg hE 2 ?_)))
   repeat (first|refine ai ?_|refine ag (by first|rfl|exact tt1 _ _|exact tt5 _ _|(simp;done)|(simp;omega)) ?_)
   refine af ?_
   refine YH.seq (YH.seg hE 2 ?_)
   have hx':l.getD (addN 0 ((j:Nat):Int).toNat) 0=l[j]:=hx
   refine ag (by rw[hx',e1,List.drop_zero,List.take_length,ha1];simp) ?_
   refine af ?_
   rw[hx',e1]
   have hfx:fmX p l[j]=(((ptxt ((ypos l[j] p).getD ⟨0,0,[],false,0,0,0,0⟩)).getD ([],0)).1,(ypos l[j] p).getD ⟨0,0,[],false,0,0,0,0⟩,l[j]):=rfl
   rw[hfx]at ha2
   generalize (ypos l[j] p).getD ⟨0,0,[],false,0,0,0,0⟩=q at hfx ha2 ⊢
   dsimp only at ha2
   have e2:(⟨q.f,q.r,List.take q.zs.length (List.drop 0 q.zs),q.bl,q.ca,q.pa,q.ha,q.fu⟩:Psn)=q:=by rw[List.drop_zero,List.take_length]
   refine YH.seq (YH.seg hE 2 ?_)
   refine ag (by rw[e2,List.drop_zero,List.take_length,ha2];simp) ?_
   repeat (first|refine ai ?_|refine ag (by first|rfl|(simp;done)) ?_)
   refine af ?_
   rw[e2]
   refine YH.seq (YH.yregAt ok 2 5 rfl rfl rfl ?_)
   repeat (first|refine ai ?_|refine ag (by first|rfl|exact tt1 _ _|exact tt5 _ _|(simp;done)|(simp;omega)) ?_)
   refine af ?_
   have hg:((l.take n).map fun y=>(ot (fmX p y),fmNs (fmX p y)))[j]?=some (ot (fmX p l[j]),fmNs (fmX p l[j])):=by rw[List.getElem?_map,List.getElem?_take,if_pos hjn,List.getElem?_eq_getElem hj];rfl
   rw[hfx]at hg
   first
    |refine⟨j,_,_,[0,1,9,10,11],[3,4],_,rfl,hg,rfl,rfl,rfl,rfl,rfl,rfl,rfl,rfl,fun b=>?_⟩
    |refine⟨j,_,_,[0,1,9,10,11],[4],_,rfl,hg,rfl,rfl,rfl,rfl,rfl,rfl,rfl,rfl,fun b=>?_⟩
   cases b with
   |true=>
    repeat (first|refine ai ?_|refine ag (by first|rfl|exact tt1 _ _|exact tt5 _ _|(simp;done)|(simp;omega)) ?_)
    refine af ?_
    refine YH.seg hE 2 ?_
    repeat (first|refine ai ?_|refine ag (by first|rfl|exact tt1 _ _|exact tt5 _ _|(simp;done)|(simp;omega)) ?_)
    refine af ?_
    refine YH.seg hE 2 ?_
    repeat (first|refine ai ?_|refine ag (by first|rfl|exact tt1 _ _|exact tt5 _ _|(simp;done)|(simp;omega)) ?_)
    refine af ⟨(j+1,true),hjn,by dsimp only;omega,rfl,?_⟩
    dsimp only
    rw[hw]
    exact Ent.ren [0,1,2,3] [0,1,9,10,11] rfl rfl rfl
   |false=>
    repeat (first|refine ai ?_|refine ag (by first|rfl|exact tt1 _ _|exact tt5 _ _|(simp;done)|(simp;omega)) ?_)
    refine af ?_
    refine YH.seg hE 2 ?_
    repeat (first|refine ai ?_|refine ag (by first|rfl|exact tt1 _ _|exact tt5 _ _|(simp;done)|(simp;omega)) ?_)
    exact af ⟨.inr rfl,.inr rfl⟩
  ·have hj:j=n:=by have h1:=of_decide_eq_false h1;omega
   refine⟨.inl rfl,.inl ?_⟩
   dsimp only
   rw[hj,List.length_map,List.length_take,Nat.min_eq_left hnl]
section
variable{kCa kDb:Bool}
def cfmM:List Fmt->Option Fmt
 |[x0]=>minO x0 []
 |[x0,x1]=>minO x0 [x1]
 |[x0,x1,x2,x3]=>minO x0 [x1,x2,x3]
 |[x0,x1,x2,x3,x4,x5,x6,x7]=>minO x0 [x1,x2,x3,x4,x5,x6,x7]
 |_=>none
def canW(p:Psn):Option Fmt:=match yalW p with
 |some (l,n)=>bif p.ok&&decide (p.zs.length<=64)&&decide (n<=l.length)&&decide (l.length<=100000)&&(l.take n).all (fmOk p)then cfmM ((l.take n).map (fmX p))else none
 |none=>none
theorem HG(p:Psn){x:Fmt}(h:canW p=some x):ay (GGx kCa kDb) PP 14 [.agg [I p.f,I p.r,.sl 0 0 p.zs.length none,Bb p.bl,.int .u8 p.ca,I p.pa,I p.ha,I p.fu]] [.ints false .i8 p.zs] (canV x) (canN x):=by
 unfold canW at h
 split at h
 ·rename_i l n hy
  rw[cond_eq_ite]at h
  split at h
  ·rename_i hc
   simp only[Bool.and_eq_true,decide_eq_true_eq]at hc
   obtain⟨⟨⟨⟨h1,h2⟩,h3⟩,h4⟩,h5⟩:=hc
   have hall:∀ y∈l.take n,(ypos y p).isSome=true/\(ptxt (fmX p y).2.1).isSome=true:=fun y hy=>by
    have:=List.all_eq_true.1 h5 y hy
    unfold fmOk at this
    rwa [Bool.and_eq_true]at this
   have hsq:SqH (GGx kCa kDb) PP 104 (fmHc p) [.ptr 1 0 0] [.ints true .u8 l] (((l.take n).map (fmX p)).map fun x=>(ot x,fmNs x)):=by
    have:=Fe (kCa:=kCa) (kDb:=kDb) p hy h3 h2 h4 hall
    rw[List.map_map]
    exact this
   generalize (l.take n).map (fmX p)=L at h hsq
   unfold cfmM at h
   split at h
   ·exact GN p l _ h1 h2 hsq h
   ·exact HM p l _ _ h1 h2 hsq h
   ·exact Hv p l _ _ _ _ h1 h2 hsq h
   ·exact yT p l _ _ _ _ _ _ _ _ h1 h2 hsq h
   ·cases h
  ·cases h
 ·cases h
theorem yX(p:Psn)(hok:p.ok=false)(hl:p.zs.length<=1000000):ay (GGx kCa kDb) PP 14 [.agg [I p.f,I p.r,.sl 0 0 p.zs.length none,Bb p.bl,.int .u8 p.ca,I p.pa,I p.ha,I p.fu]] [.ints false .i8 p.zs] (AF (⟨0,0,[],false,0,0,0,0⟩,0,2)) (BC (⟨0,0,[],false,0,0,0,0⟩,0,2)):=by
 have hE:=aD (kCa:=kCa) (kDb:=kDb) (cts:=[(37,mZ)]) (inl:=[]) ⟨sC,trivial⟩ trivial
 have e1:(⟨p.f,p.r,List.take p.zs.length (List.drop 0 p.zs),p.bl,p.ca,p.pa,p.ha,p.fu⟩:Psn)=p:=by rw[List.drop_zero,List.take_length]
 refine cg hE 2 Tryz.func14 rfl rfl AF BC (o:=some (⟨0,0,[],false,0,0,0,0⟩,0,2)) rfl ?_ rfl rfl
 refine ah (by rw[List.drop_zero,List.take_length];simp[hl]) ?_
 refine cy (by rw[e1,hok];rfl) ?_
 exact aN (Df 2 2 (.ints true .i8 []) rfl rfl rfl rfl<|aJ [3] (.inr rfl) rfl rfl rfl rfl rfl)
def vo(p:Psn):Option (Psn×Int×Int):=bif p.ok then(match canW p with
 |some x=>some (x.2.1,x.2.2,0)
 |none=>none)else bif decide (p.zs.length<=1000000)then some (⟨0,0,[],false,0,0,0,0⟩,0,2)else none
def Jv(R:Psn×Int×Int):V:=.tup [.agg [.int .i64 R.1.f,.int .i64 R.1.r,.sl 1 0 R.1.zs.length none,Bb R.1.bl,.int .u8 R.1.ca,.int .i64 R.1.pa,.int .i64 R.1.ha,.int .i64 R.1.fu],.int .u8 R.2.1,.int .i64 R.2.2]
def JB(R:Psn×Int×Int):List O:=[.ints true .i8 R.1.zs]
def vR:CF
 |[.agg [.int .i64 p_0,.int .i64 p_1,.sl 0 0 p_2n none,.bool p_3,.int .u8 p_4,.int .i64 p_5,.int .i64 p_6,.int .i64 p_7]],[.ints false .i8 p_2]=>retC (decide (p_2n=p_2.length)) (vo ⟨p_0,p_1,p_2,p_3,p_4,p_5,p_6,p_7⟩) (⟨0,0,[],false,0,0,0,0⟩,0,0) Jv JB
 |_,_=>none
theorem As:CtOk (GGx kCa kDb) PP (14,vR):=by
 refine aF Tryz.func14 (by kernel_rfl) rfl fun a0 h0 c0 v0 N0 e hc=>?_
 unfold vR at e
 split at e
 ·rename_i p_0 p_1 p_2n p_3 p_4 p_5 p_6 p_7 p_2
  obtain⟨hl,r,hr,rfl,rfl⟩:=bu e hc
  simp only[decide_eq_true_eq]at hl
  obtain rfl:=hl
  unfold vo at hr
  rw[cond_eq_ite]at hr
  split at hr
  ·split at hr
   ·rename_i x hx
    cases hr
    exact HG ⟨p_0,p_1,p_2,p_3,p_4,p_5,p_6,p_7⟩ hx
   ·cases hr
  ·rename_i hok
   rw[cond_eq_ite]at hr
   split at hr
   ·rename_i hl
    cases hr
    exact yX ⟨p_0,p_1,p_2,p_3,p_4,p_5,p_6,p_7⟩ (by simpa using hok) (of_decide_eq_true hl)
   ·cases hr
 ·cases e
end
section
variable{kCa kDb:Bool}
def Lv(p:Psn):Option (Bool):=let x3:=Psn.mk 0 0 [] false 0 0 0 0;let x6:=List.take p.zs.length (List.drop 0 p.zs);let x4:=Psn.mk p.f p.r x6 p.bl p.ca p.pa p.ha p.fu;let x5:=x6.length;bif decide (70<Int.ofNat p.zs.length)then some true else bn (vo x4) (x3,0,0) fun(y1:Psn×Int×Int)=>let x10:=decide (y1.2.2=0);let x12:=List.take y1.1.zs.length (List.drop 0 y1.1.zs);let x8:=Psn.mk y1.1.f y1.1.r x12 y1.1.bl y1.1.ca y1.1.pa y1.1.ha y1.1.fu;let x11:=x12.length;let x9:=decide (x11<=70);aQ (decide (x5<=70)) (bif !fA x4 then aQ x9 (some (pL x8 x3&&decide (y1.2.1=0)&&decide (y1.2.2=2)&&true))else bn (zo x4) (x3,0) fun(y2:Psn×Int)=>let x15:=List.take y2.1.zs.length (List.drop 0 y2.1.zs);let x14:=x15.length;aQ (!x10||x9&&decide (x14<=70)) (some (x10&&pL x8 (Psn.mk y2.1.f y2.1.r x15 y2.1.bl y2.1.ca y2.1.pa y2.1.ha y2.1.fu)&&decide (y1.2.1=y2.2)&&true)))
def Cv(R:Bool):V:=Bb R
def Ej(_:Bool):List O:=[]
theorem EP(p:Psn){r}(hr:Lv p=some r):ay (GGx false false) PP 4 [.agg [.int .i64 p.f,.int .i64 p.r,.sl 0 0 p.zs.length none,Bb p.bl,.int .u8 p.ca,.int .i64 p.pa,.int .i64 p.ha,.int .i64 p.fu]] [.ints false .i8 p.zs] (Cv r) (Ej r):=by
 have hE:=cutE (aD (kCa:=false) (kDb:=false) (cts:=[(11,nq),(14,vR),(15,nl),(16,pE),(17,wD)]) (inl:=[]) ⟨tc,As,tV,rG,yY,trivial⟩ trivial)
 refine cg hE 2 Tryz.func4 rfl rfl Cv Ej hr ?_ rfl rfl
 refine aR hE 2 rfl ?_ ?_
 ·refine ah rfl ?_
  exact aN (aJ [] (.inr rfl) rfl rfl rfl rfl rfl)
 refine aE (pl (decide_eq_true (az rfl)) id) ?_
 refine fV (pl (decide_eq_true (az rfl)) id) ?_
 refine aR hE 2 rfl ?_ ?_
 ·refine fV (pl (decide_eq_true (az rfl)) id) ?_
  refine ah (Bool.not_or_self _) ?_
  refine ah (Bool.not_or_self _) ?_
  refine ah (Bool.not_or_self _) ?_
  refine ah (Bool.not_or_self _) ?_
  refine ah (pg rfl) ?_
  refine ah (Bool.not_or_self _) ?_
  exact aN (aJ [] (.inr rfl) rfl rfl rfl rfl rfl)
 refine aE (pl (decide_eq_true (az rfl)) id) ?_
 refine ah (Bool.not_or_self _) ?_
 refine ah (Bool.not_or_self _) ?_
 refine fV (pi (pb (pr (pl (decide_eq_true (az rfl)) id) (decide_eq_true (az rfl))) id)) ?_
 refine ah (Bool.not_or_self _) ?_
 refine ah (Bool.not_or_self _) ?_
 refine ah (Bool.not_or_self _) ?_
 refine ah (Bool.not_or_self _) ?_
 refine ah (pg rfl) ?_
 refine ah (Bool.not_or_self _) ?_
 exact aN (aJ [] (.inr rfl) rfl rfl rfl rfl rfl)
end
theorem Ch{f r:Int}(hv:vsB f r=true){j:Nat}(hj:(j:Int)<f*r):qv f r 0 j=j:=by
 obtain⟨x1,y1⟩:=zD (y:=0) hv (by omega) (by omega) (.inl (by omega)) hj
 have w1:=iQ (ec (y:=0) hv (by omega) (by omega) (.inl (by omega)) hj)
 have w2:=iQ (ee hv (Int.natCast_nonneg j) hj)
 have ex:sxX f r 0 (px f j) (py f j)=px f j:=rfl
 have ey:sxY f r 0 (px f j) (py f j)=py f j:=rfl
 rw[x1,y1,ex,ey]at w1
 omega
theorem FC{p:Psn}(hv:vsB p.f p.r=true)(hn:(p.zs.length:Int)=p.f*p.r)(hpa:p.pa<p.f*p.r):mvP p 0=p:=by
 have hz:mvZ p 0=p.zs:=by
  refine List.ext_getElem (by rw[ic];omega) fun m h1 h2=>?_
  have hm:(m:Int)<p.f*p.r:=by omega
  have:=nY (y:=0) hv (by omega) (by omega) (.inl (by omega)) hm
  rw[Ch hv hm,Int.toNat_natCast]at this
  simpa[List.getD,h1,h2]using this
 have hp:(bif decide (0<=p.pa) then(yrSq ⟨p.f,p.r⟩ 0 p.pa).getD 0 else p.pa)=p.pa:=by
  by_cases h:0<=p.pa
  ·have hj:((p.pa.toNat:Nat):Int)<p.f*p.r:=by omega
   obtain⟨e,_⟩:=jX (y:=0) hv (by omega) (by omega) (.inl (by omega)) hj
   rw[Ch hv hj,show ((p.pa.toNat:Nat):Int)=p.pa by omega]at e
   rw[decide_eq_true h,e];rfl
  ·rw[decide_eq_false h];rfl
 unfold mvP
 rw[hz,hp]
def alL(p:Psn):List Int:=(yaL (decide (p.f=p.r))).take (alN p)
theorem Iz{p:Psn}{y:Int}(h:y∈alL p):0<=y/\y<8/\(y<4\/p.f=p.r)/\(p.ca≠0->y=0)/\(p.ca=0->p.zs.any isPw=true->y=0\/y=1):=by
 unfold alL alN at h
 by_cases hc:p.ca=0
 ·rw[decide_eq_true hc]at h
  cases hp:p.zs.any isPw with
  |true=>
   rw[hp]at h
   have h:y∈List.take 2 (yaL (decide (p.f=p.r))):=h
   have:y=0\/y=1:=by
    cases hd:decide (p.f=p.r)<;>rw[hd]at h<;>simpa[yaL]using h
   exact⟨by omega,by omega,.inl (by omega),fun e=>absurd hc e,fun _ _=>this⟩
  |false=>
   rw[hp]at h
   have h:y∈List.take (yaL (decide (p.f=p.r))).length (yaL (decide (p.f=p.r))):=h
   rw[List.take_length]at h
   cases hd:decide (p.f=p.r) with
   |true=>
    rw[hd]at h
    have:y=0\/y=1\/y=2\/y=3\/y=4\/y=5\/y=6\/y=7:=by simpa[yaL]using h
    exact⟨by omega,by omega,.inr (of_decide_eq_true hd),fun e=>absurd hc e,fun _ e=>by cases e⟩
   |false=>
    rw[hd]at h
    have:y=0\/y=1\/y=2\/y=3:=by simpa[yaL]using h
    exact⟨by omega,by omega,.inl (by omega),fun e=>absurd hc e,fun _ e=>by cases e⟩
 ·rw[decide_eq_false hc]at h
  have h:y∈List.take 1 (yaL (decide (p.f=p.r))):=h
  have:y=0:=by cases hd:decide (p.f=p.r)<;>rw[hd]at h<;>simpa[yaL]using h
  exact⟨by omega,by omega,.inl (by omega),fun _=>this,fun e=>absurd e hc⟩
theorem BO{p:Psn}{y:Int}(hok:p.ok=true)(hca:0<=p.ca)(hy:y∈alL p):(mvP p y).ok=true:=by
 obtain⟨hv,hn,h6,hpa,hcast⟩:=zA hok
 obtain⟨y0,y8,yb,yc,yp⟩:=Iz hy
 by_cases hc:p.ca=0
 ·have o:=psh h6 hca hok
  have hk:=hok
  unfold Psn.ok at hk
  simp only[Bool.and_eq_true]at hk
  obtain⟨⟨⟨⟨⟨_,k1⟩,k2⟩,_⟩,k3⟩,k4⟩:=hk
  have hB:(∀ x∈p.zs,isPw x=false)\/(by2 y=false/\by4 y=false):=by
   cases hp:p.zs.any isPw with
   |true=>
    right
    rcases yp hc hp with rfl|rfl<;>exact⟨rfl,rfl⟩
   |false=>
    left
    rw[List.any_eq_false]at hp
    intro x hx
    have:=hp x hx
    simpa using this
  have hp:∀ i:Nat,(i:Int)<p.f*p.r->cw (p.zs.getD i 0)=1->by2 y=false/\by4 y=false:=by
   intro i hi hki
   rcases hB with hB|hB
   ·have hm:=fa (zs:=p.zs) (i:=i) (by omega)
    have:=JS ((aK o.h).2.2.2 _ hm) hki
    rw[hB _ hm]at this;cases this
   ·exact hB
  have hcb:gw p.f p.r (mvZ p y) p.ca=true:=by rw[hc];rfl
  show (aL p.f p.r (mvZ p y)&&eJ p.f p.r (mvZ p y) p.bl&&fC p.f (mvZ p y)&&gw p.f p.r (mvZ p y) p.ca&&fo p.f p.r (mvZ p y) p.bl (mvP p y).pa p.ha&&cntB p.ha p.fu)=true
  rw[(aK (qc hv y0 y8 yb hn o.h)).2.2.1,Ba hv y0 y8 yb hn o.h h6 k1 hp,Dc hv y0 y8 yb hn hB k2,hcb,Hh hv y0 y8 yb hn h6 hB k3,k4]
  rfl
 ·rw[yc hc,FC hv hn hpa];exact hok
theorem AZ:∀ a b:List UInt8,decide (Lib.compareBytes a b<0)=Op.bytesLess a b
 |[],[]=>rfl
 |[],_::_=>rfl
 |_::_,[]=>rfl
 |a::x,b::y=>by
  unfold Lib.compareBytes Op.bytesLess
  have ih:=AZ x y
  by_cases h1:a<b
  ·rw[if_pos h1,decide_eq_true h1];rfl
  ·rw[if_neg h1,decide_eq_false h1]
   by_cases h2:b<a
   ·have hne:(a==b)=false:=by
     rw[beq_eq_false_iff_ne];rintro rfl;exact h1 h2
    rw[if_pos h2,hne];rfl
   ·have he:a=b:=by
     have e1:=UInt8.not_lt.1 h1
     have e2:=UInt8.not_lt.1 h2
     exact UInt8.le_antisymm e2 e1
    rw[if_neg h2,ih,he];simp
def minY(p:Psn)(yb:Int):List Int->Int
 |[]=>yb
 |y::l=>bif Op.bytesLess (txt (mvP p y)) (txt (mvP p yb))then minY p y l else minY p yb l
theorem pV{p:Psn}{y:Int}(hok:p.ok=true)(hca:0<=p.ca)(hy:y∈alL p):ypos y p=some (mvP p y)/\fmX p y=(txt (mvP p y),mvP p y,y)/\fmOk p y=true/\qX p y=some (mvP p y):=by
 obtain⟨hv,hn,h6,hpa,_⟩:=zA hok
 obtain⟨y0,y8,yb,_⟩:=Iz hy
 obtain⟨e1,e2⟩:=KF hv y0 y8 yb hn.symm rfl hpa
 have ht:=Jf (BO hok hca hy) hca
 have hf:fmX p y=(txt (mvP p y),mvP p y,y):=by
  unfold fmX
  rw[e1,Option.getD_some,ht];rfl
 refine⟨e1,hf,?_,e2⟩
 unfold fmOk
 rw[hf,e1]
 dsimp only
 rw[ht];rfl
theorem vI{p:Psn}(hok:p.ok=true)(hca:0<=p.ca):∀ (l:List Int) (yb:Int),yb∈alL p->(∀ y∈l,y∈alL p)->minO (fmX p yb) (l.map (fmX p))=some (fmX p (minY p yb l))
 |[],yb,_,_=>rfl
 |y::l,yb,hb,h=>by
  obtain⟨_,f1,_⟩:=pV hok hca hb
  obtain⟨_,f2,_⟩:=pV hok hca (h y (by simp))
  have hl:decide (Lib.compareBytes (fmX p y).1 (fmX p yb).1<0)=Op.bytesLess (txt (mvP p y)) (txt (mvP p yb)):=by rw[f1,f2,AZ]
  rw[List.map_cons]
  unfold minO minY
  rw[hl]
  cases Op.bytesLess (txt (mvP p y)) (txt (mvP p yb)) with
  |true=>exact vI hok hca l y (h y (by simp)) fun z hz=>h z (by simp[hz])
  |false=>exact vI hok hca l yb hb fun z hz=>h z (by simp[hz])
theorem ry{p:Psn}:∀ (l:List Int) (yb:Int),yb∈alL p->(∀ y∈l,y∈alL p)->minY p yb l∈alL p
 |[],yb,h,_=>h
 |y::l,yb,h,hl=>by
  unfold minY
  cases Op.bytesLess (txt (mvP p y)) (txt (mvP p yb)) with
  |true=>exact ry l y (hl y (by simp)) fun z hz=>hl z (by simp[hz])
  |false=>exact ry l yb h fun z hz=>hl z (by simp[hz])
theorem EM(p:Psn):∃ y l,alL p=y::l/\(l.length=0\/l.length=1\/l.length=3\/l.length=7):=by
 unfold alL
 have:=En p
 simp only[List.mem_cons,List.not_mem_nil,or_false]at this
 rcases this with h|h|h
 ·rw[h];cases decide (p.f=p.r)<;>exact⟨_,_,rfl,by simp⟩
 ·rw[h];cases decide (p.f=p.r)<;>exact⟨_,_,rfl,by simp⟩
 ·rw[h];cases decide (p.f=p.r)<;>exact⟨_,_,rfl,by simp⟩
theorem LI:∀ (x:Fmt) (l:List Fmt),(l.length=0\/l.length=1\/l.length=3\/l.length=7)->cfmM (x::l)=minO x l
 |_,[],_|_,[_],_|_,[_,_,_],_|_,[_,_,_,_,_,_,_],_=>rfl
 |_,[_,_],h|_,[_,_,_,_],h|_,[_,_,_,_,_],h|_,[_,_,_,_,_,_],h=>by simp at h
 |_,_::_::_::_::_::_::_::_::_,h=>by simp only[List.length_cons]at h;omega
theorem LW{p:Psn}(hok:p.ok=true)(hca:0<=p.ca){y:Int}{l:List Int}(hs:alL p=y::l)(hl:l.length=0\/l.length=1\/l.length=3\/l.length=7):canW p=some (fmX p (minY p y l)):=by
 obtain⟨hv,hn,h6,_⟩:=zA hok
 have hle:alN p<=(yaL (decide (p.f=p.r))).length:=by
  have:=(OG p).1
  rw[List.drop_zero,List.length_take]at this
  omega
 have hlen:(yaL (decide (p.f=p.r))).length<=8:=by cases decide (p.f=p.r)<;>simp[yaL]
 have hall:∀ z∈y::l,z∈alL p:=fun z hz=>by rw[hs];exact hz
 have hm:=vI hok hca l y (hall y (by simp)) fun z hz=>hall z (by simp[hz])
 unfold canW
 rw[Lf hv h6]
 dsimp only
 rw[hok,decide_eq_true h6,decide_eq_true hle,decide_eq_true (show (yaL (decide (p.f=p.r))).length<=100000 by omega)]
 have hfo:(List.take (alN p) (yaL (decide (p.f=p.r)))).all (fmOk p)=true:=List.all_eq_true.2 fun z hz=>(pV hok hca hz).2.2.1
 rw[hfo]
 have hs':List.take (alN p) (yaL (decide (p.f=p.r)))=y::l:=hs
 rw[hs',List.map_cons,LI _ _ (by simpa using hl)]
 exact hm
section
abbrev StC:=List Int×Int×Int×Bool×Int×Int×Int×Int×Int×Int
def stP(q:Psn)(y i:Int):StC:=(q.zs,q.f,q.r,q.bl,q.ca,q.pa,q.ha,q.fu,y,i)
theorem BT(p:Psn):pL p p=true:=by simp[pL,FB]
theorem CD(p:Psn):(⟨p.f,p.r,p.zs,p.bl,p.ca,p.pa,p.ha,p.fu⟩:Psn)=p:=rfl
section
variable{p:Psn}(hok:p.ok=true)(hca:0<=p.ca)
include hok hca in
theorem LB{k:Nat}(hk:k<(alL p).length)(hk8:(alL p).length<=8){yb:Int}(hyb:yb∈alL p):jt p (alL p) (stP (mvP p yb) yb (k:Int)) =
  some (.inl (bif Op.bytesLess (txt (mvP p ((alL p).getD k 0))) (txt (mvP p yb))then stP (mvP p ((alL p).getD k 0)) ((alL p).getD k 0) ((k+1:Nat):Int)else stP (mvP p yb) yb ((k+1:Nat):Int))):=by
 have hy:(alL p).getD k 0∈alL p:=fa hk
 obtain⟨_,_,_,e2⟩:=pV hok hca hy
 have t1:=Dm (BO hok hca hy) hca
 have t2:=Dm (BO hok hca hyb) hca
 have d1:decide ((k:Int)<Int.ofNat (alL p).length)=true:=decide_eq_true (by simp only[Int.ofNat_eq_natCast];omega)
 have d2:decide ((0:Int)<=k)=true:=decide_eq_true (Int.natCast_nonneg k)
 have hw:IntKind.i64.wrap ((k:Int)+1)=((k+1:Nat):Int):=by rw[aC (by omega) (by omega)];omega
 unfold jt stP
 simp only[List.drop_zero,List.take_length,CD,Int.toNat_natCast]
 rw[d1,d2,hw,e2,aU,Option.getD_some]
 rw[t1,aU,t2,aU,Option.getD_some]
 cases Op.bytesLess (txt (mvP p ((alL p).getD k 0))) (txt (mvP p yb))<;>rfl
include hok hca in
theorem wc(hk8:(alL p).length<=8){F:List Int×Int×Int×Bool×Int×Int×Int×Int×Int->Option (Psn×Int)}(hF:∀ q y,F (q.zs,q.f,q.r,q.bl,q.ca,q.pa,q.ha,q.fu,y)=some (q,y))(x:Nat):∀ (d k:Nat),k+d=(alL p).length->∀ yb:Int,yb∈alL p ->
  bV (jt p (alL p)) F (d+1+x) (stP (mvP p yb) yb (k:Int))=some (mvP p (minY p yb ((alL p).drop k)),minY p yb ((alL p).drop k))
 |0,k,hkd,yb,hyb=>by
  rw[show 0+1+x=x+1 by omega,List.drop_eq_nil_of_le (by omega)]
  rw[cE (x:=((mvP p yb).zs,(mvP p yb).f,(mvP p yb).r,(mvP p yb).bl,(mvP p yb).ca,(mvP p yb).pa,(mvP p yb).ha,(mvP p yb).fu,yb)) (by
   unfold jt stP
   dsimp only
   rw[decide_eq_false (show ¬ ((k:Int)<Int.ofNat (alL p).length) by simp only[Int.ofNat_eq_natCast];omega)]
   rfl),hF]
  rfl
 |d+1,k,hkd,yb,hyb=>by
  have hlt:k<(alL p).length:=by omega
  have hy:(alL p).getD k 0∈alL p:=fa hlt
  rw[show d+1+1+x=(d+1+x)+1 by omega,bN (LB hok hca hlt hk8 hyb),drop_cons hlt]
  unfold minY
  cases Op.bytesLess (txt (mvP p ((alL p).getD k 0))) (txt (mvP p yb)) with
  |true=>exact wc hk8 hF x d (k+1) (by omega) _ hy
  |false=>exact wc hk8 hF x d (k+1) (by omega) _ hyb
include hok hca in
theorem Fs{y:Int}{l:List Int}(hs:alL p=y::l)(hl:l.length<=7):zo p=some (mvP p (minY p y l),minY p y l):=by
 obtain⟨hv,hn,h6,_⟩:=zA hok
 have hy:y∈alL p:=by rw[hs];simp
 obtain⟨_,_,_,e2⟩:=pV hok hca hy
 have hlen:(alL p).length=l.length+1:=by rw[hs];rfl
 have hg:(alL p).getD (Int.toNat 0) 0=y:=by rw[hs];rfl
 unfold zo
 simp only[List.drop_zero,List.take_length,CD]
 rw[show yrAl p=some (alL p)from JU h6,aU]
 rw[hg,e2,decide_eq_true (show 0<Int.ofNat (alL p).length by rw[hlen];simp only[Int.ofNat_eq_natCast];omega),aV,aU,aV,Option.getD_some]
 have:=wc hok hca (by omega) (F:=fun(s74:List Int×Int×Int×Bool×Int×Int×Int×Int×Int)=>some (Psn.mk s74.2.1 s74.2.2.1 s74.1 s74.2.2.2.1 s74.2.2.2.2.1 s74.2.2.2.2.2.1 s74.2.2.2.2.2.2.1 s74.2.2.2.2.2.2.2.1,s74.2.2.2.2.2.2.2.2)) (fun q y=>rfl) (999999-l.length) l.length 1 (by omega) y hy
 rw[show l.length+1+(999999-l.length)=1000000 by omega,show (alL p).drop 1=l by rw[hs];rfl]at this
 exact this
end
theorem zz{p:Psn}(hca:0<=p.ca):Lv p=some true:=by
 unfold Lv
 simp only[List.drop_zero,List.take_length,CD]
 by_cases hl:p.zs.length<=70
 ·rw[decide_eq_false (show ¬ (70<Int.ofNat p.zs.length) by simp only[Int.ofNat_eq_natCast];omega),cond_false,decide_eq_true hl,Ah hca]
  cases hok:p.ok with
  |false=>
   have:vo p=some (⟨0,0,[],false,0,0,0,0⟩,0,2):=by
    unfold vo
    rw[hok,decide_eq_true (show p.zs.length<=1000000 by omega)];rfl
   rw[this];rfl
  |true=>
   obtain⟨y,l,hs,hl7⟩:=EM p
   have hw:=LW hok hca hs hl7
   have hy:y∈alL p:=by rw[hs];simp
   have hm:minY p y l∈alL p:=ry l y hy fun z hz=>by rw[hs];simp[hz]
   obtain⟨_,f1,_⟩:=pV hok hca hm
   have hx:vo p=some (mvP p (minY p y l),minY p y l,0):=by
    unfold vo
    rw[hok,hw,f1];rfl
   have hr:=Fs hok hca hs (by omega)
   obtain⟨hv,_⟩:=zA hok
   have m:=cV hv
   have h70:decide ((mvP p (minY p y l)).zs.length<=70)=true:=decide_eq_true (by rw[Lb];omega)
   rw[hx,aU,hr]
   simp only[aV,Bool.not_true,cond_false,aU,decide_true,h70,Bool.and_self,Bool.or_true,BT]
 ·rw[decide_eq_true (show 70<Int.ofNat p.zs.length by simp only[Int.ofNat_eq_natCast];omega)];rfl
end
end Go.Ab
