/- Contracts of the functions that the laws reach, and plain laws of what they compute (text G10); no condition. -/
import Derived.Shelf.Strings.OnBuilder
import Derived.Shelf.Small.Strs
import Derived.Shelf.LaysM
import Derived.Shelf.Strconv.Itoa3
import Derived.Test.YtlannahgjgpfcaaGreatDoorG5
import Derived.Test.YtlannahgjgpfcaaGreatDoorG4
import Derived.Test.YtlannahgjgpfcaaGreatDoorG7
import Derived.Test.YtlannahgjgpfcaaGreatDoorG3
import Derived.Test.YtlannahgjgpfcaaGreatDoorG8
import Derived.Test.YtlannahgjgpfcaaGreatDoorG9
namespace Go.Ab
open Go.Proofs Go.Shelf
def fY:Go.Shelf.Ren:=⟨fun|156=>165|165=>196|166=>197|169=>198|240=>216|241=>217|276=>230|277=>231|n=>n,fun|31=>133|9=>9|3=>3|4=>4|0=>0|20=>20|72=>237|76=>241|70=>235|37=>150|75=>240|127=>271|164=>281|5=>5|80=>243|n=>n,fun|n=>n⟩
theorem mK:Go.Proofs.Lays.n156 Tryz.prog fY:={
 mixed:=by kernel_rfl
 f156:=Tryz.func165.trans (congrArg some (by kernel_rfl))
 f165:=Tryz.func196.trans (congrArg some (by kernel_rfl))
 f166:=Tryz.func197.trans (congrArg some (by kernel_rfl))
 f169:=Tryz.func198.trans (congrArg some (by kernel_rfl))
 f240:=Tryz.func216.trans (congrArg some (by kernel_rfl))
 f241:=Tryz.func217.trans (congrArg some (by kernel_rfl))
 f276:=Tryz.func230.trans (congrArg some (by kernel_rfl))
 f277:=Tryz.func231.trans (congrArg some (by kernel_rfl))
 t0:=Tryz.underlying0
 a0:=Tryz.isAgg0
 z0:=Tryz.sizeOf0
 v0:=Tryz.zeroValue0
 t3:=Tryz.underlying3
 a3:=Tryz.isAgg3
 z3:=Tryz.sizeOf3
 v3:=Tryz.zeroValue3
 t4:=Tryz.underlying4
 a4:=Tryz.isAgg4
 z4:=Tryz.sizeOf4
 v4:=Tryz.zeroValue4
 t9:=Tryz.underlying9
 a9:=Tryz.isAgg9
 z9:=Tryz.sizeOf9
 v9:=Tryz.zeroValue9
 t20:=Tryz.underlying20
 a20:=Tryz.isAgg20
 z20:=Tryz.sizeOf20
 v20:=Tryz.zeroValue20
 t31:=Tryz.underlying133
 a31:=Tryz.isAgg133
 z31:=Tryz.sizeOf133
 v31:=Tryz.zeroValue133
 t37:=Tryz.underlying150
 a37:=Tryz.isAgg150
 z37:=Tryz.sizeOf150
 v37:=Tryz.zeroValue150
 t70:=Tryz.underlying235
 a70:=Tryz.isAgg235
 z70:=Tryz.sizeOf235
 v70:=Tryz.zeroValue235
 t72:=Tryz.underlying237
 a72:=Tryz.isAgg237
 z72:=Tryz.sizeOf237
 v72:=Tryz.zeroValue237
 t75:=Tryz.underlying240
 a75:=Tryz.isAgg240
 z75:=Tryz.sizeOf240
 v75:=Tryz.zeroValue240
 t76:=Tryz.underlying241
 a76:=Tryz.isAgg241
 z76:=Tryz.sizeOf241
 v76:=Tryz.zeroValue241
 t127:=Tryz.underlying271
 a127:=Tryz.isAgg271
 z127:=Tryz.sizeOf271
 v127:=Tryz.zeroValue271
 t164:=Tryz.underlying281
 a164:=Tryz.isAgg281
 z164:=Tryz.sizeOf281
 v164:=Tryz.zeroValue281 }
theorem dh:Builder.Extra Tryz.prog fY:={
 sizeBuilder:=by kernel_rfl
 liesBuilder:=by kernel_rfl
 t5:=Tryz.underlying5
 a5:=Tryz.isAgg5
 z5:=Tryz.sizeOf5
 v5:=Tryz.zeroValue5
 infoByte:=by kernel_rfl
 cellsByte:=by kernel_rfl
 sizeByte:=by kernel_rfl
 neB5:=by decide }
open Go.RowKit in
theorem kO(bk o c:Nat)(xs:List ByteArray)(sep:ByteArray)(w:World)(hcells:∀ (j:Nat) x,xs[j]?=some x->w.cell? ⟨bk,o+j,none⟩=some (.string x))(hbk:bk<w.heap.size)(hN:xs.length<=140737488355328)(hcap:xs.length<=c)(hlen:(Lib.join (xs.map (·.data.toList)) sep.data.toList).length<=140737488355328) :
  Calls Tryz.prog 165 #[.slice (some ⟨bk,o,none⟩) xs.length c,.string sep] w fun e w'=>e=.returned (.string ⟨(Lib.join (xs.map (·.data.toList)) sep.data.toList).toArray⟩)/\Below w.heap.size w w':=Any.strings_Join mK dh bk o c xs sep w hcells hbk hN hcap hlen
def mw:Go.Shelf.Ren:=⟨fun|106=>52|213=>106|265=>142|n=>n,fun|9=>9|3=>3|n=>n,fun|n=>n⟩
theorem yt:Go.Proofs.Lays.n106 Tryz.prog mw:={
 mixed:=by kernel_rfl
 f106:=Tryz.func52.trans (congrArg some (by kernel_rfl))
 f213:=Tryz.func106.trans (congrArg some (by kernel_rfl))
 f265:=Tryz.func142.trans (congrArg some (by kernel_rfl))
 t3:=Tryz.underlying3
 a3:=Tryz.isAgg3
 z3:=Tryz.sizeOf3
 v3:=Tryz.zeroValue3
 t9:=Tryz.underlying9
 a9:=Tryz.isAgg9
 z9:=Tryz.sizeOf9
 v9:=Tryz.zeroValue9 }
open Go.RowKit in
theorem gp(a b:ByteArray)(w:World) :
  Calls Tryz.prog 52 #[.string a,.string b] w fun e w'=>e=.returned (.int .i64 (Lib.compareBytes a.data.toList b.data.toList))/\w'=w:=Any.strings_Compare yt a b w
open Go.RowKit Go.Sort Go.Lib in
def mc:Go.Shelf.Ren:=⟨fun|171=>138|243=>161|246=>193|283=>212|284=>213|285=>214|286=>215|129=>226|317=>225|318=>227|319=>228|320=>229|337=>235|338=>153|n=>n,fun|3=>3|9=>9|2=>2|4=>4|171=>264|0=>0|53=>64|37=>150|5=>5|173=>266|212=>277|51=>278|20=>20|213=>279|46=>122|232=>286|233=>216|n=>n,fun|17=>8|18=>9|19=>2|n=>n⟩
theorem yR:Go.Proofs.Lays.n171 Tryz.prog mc:={
 mixed:=by kernel_rfl
 f129:=Tryz.func226.trans (congrArg some (by kernel_rfl))
 f171:=Tryz.func138.trans (congrArg some (by kernel_rfl))
 f243:=Tryz.func161.trans (congrArg some (by kernel_rfl))
 f246:=Tryz.func193.trans (congrArg some (by kernel_rfl))
 f283:=Tryz.func212.trans (congrArg some (by kernel_rfl))
 f284:=Tryz.func213.trans (congrArg some (by kernel_rfl))
 f285:=Tryz.func214.trans (congrArg some (by kernel_rfl))
 f286:=Tryz.func215.trans (congrArg some (by kernel_rfl))
 f317:=Tryz.func225.trans (congrArg some (by kernel_rfl))
 f318:=Tryz.func227.trans (congrArg some (by kernel_rfl))
 f319:=Tryz.func228.trans (congrArg some (by kernel_rfl))
 f320:=Tryz.func229.trans (congrArg some (by kernel_rfl))
 f337:=Tryz.func235.trans (congrArg some (by kernel_rfl))
 f338:=Tryz.func153.trans (congrArg some (by kernel_rfl))
 t0:=Tryz.underlying0
 a0:=Tryz.isAgg0
 z0:=Tryz.sizeOf0
 v0:=Tryz.zeroValue0
 t2:=Tryz.underlying2
 a2:=Tryz.isAgg2
 z2:=Tryz.sizeOf2
 v2:=Tryz.zeroValue2
 t3:=Tryz.underlying3
 a3:=Tryz.isAgg3
 z3:=Tryz.sizeOf3
 v3:=Tryz.zeroValue3
 t4:=Tryz.underlying4
 a4:=Tryz.isAgg4
 z4:=Tryz.sizeOf4
 v4:=Tryz.zeroValue4
 t5:=Tryz.underlying5
 a5:=Tryz.isAgg5
 z5:=Tryz.sizeOf5
 v5:=Tryz.zeroValue5
 t9:=Tryz.underlying9
 a9:=Tryz.isAgg9
 z9:=Tryz.sizeOf9
 v9:=Tryz.zeroValue9
 t20:=Tryz.underlying20
 a20:=Tryz.isAgg20
 z20:=Tryz.sizeOf20
 v20:=Tryz.zeroValue20
 t37:=Tryz.underlying150
 a37:=Tryz.isAgg150
 z37:=Tryz.sizeOf150
 v37:=Tryz.zeroValue150
 t46:=Tryz.underlying122
 a46:=Tryz.isAgg122
 z46:=Tryz.sizeOf122
 v46:=Tryz.zeroValue122
 t51:=Tryz.underlying278
 a51:=Tryz.isAgg278
 z51:=Tryz.sizeOf278
 v51:=Tryz.zeroValue278
 t53:=Tryz.underlying64
 a53:=Tryz.isAgg64
 z53:=Tryz.sizeOf64
 v53:=Tryz.zeroValue64
 t171:=Tryz.underlying264
 a171:=Tryz.isAgg264
 z171:=Tryz.sizeOf264
 v171:=Tryz.zeroValue264
 t173:=Tryz.underlying266
 a173:=Tryz.isAgg266
 z173:=Tryz.sizeOf266
 v173:=Tryz.zeroValue266
 t212:=Tryz.underlying277
 a212:=Tryz.isAgg277
 z212:=Tryz.sizeOf277
 v212:=Tryz.zeroValue277
 t213:=Tryz.underlying279
 a213:=Tryz.isAgg279
 z213:=Tryz.sizeOf279
 t232:=Tryz.underlying286
 a232:=Tryz.isAgg286
 z232:=Tryz.sizeOf286
 v232:=Tryz.zeroValue286
 t233:=Tryz.underlying216
 a233:=Tryz.isAgg216
 z233:=Tryz.sizeOf216
 v233:=Tryz.zeroValue216
 g17:=by kernel_rfl
 g18:=by kernel_rfl
 g19:=by kernel_rfl }
theorem sF{G:List O}{P:Program}{f:FuncId}{args:List V}{H:List O}{v:V}
  (h:∀ ρ us w,HR G w.heap.size ρ H w->VRL ρ args us->∃ u,VR ρ v u/\Calls P f us.toArray w fun e w'=>e=.returned u/\RowKit.Below w.heap.size w w'):aj G P f args H v []:=by
 intro ρ us w hh hv
 obtain⟨u,hu,hc⟩:=h ρ us w hh hv
 refine hc.mono fun e w' ⟨he,hb⟩=>⟨u,ρ,he,hu,?_,Ren.le_refl ρ,hb⟩
 rw[List.append_nil]
 exact hh.frame hb.size fun k hk=>hb.block k hk
def cmpS(a b:List UInt8):Option Int:=some (Lib.compareBytes a b)
def Lh(R:Int):V:=.int .i64 R
def Lp(_:Int):List O:=[]
def zw:CF
 |[.str a,.str b],[]=>retC true (cmpS a b) 0 Lh Lp
 |_,_=>none
theorem Dj{kCa kDb:Bool}:CtOk (GGx kCa kDb) PP (52,zw):=by
 refine aG Tryz.func52 (by kernel_rfl) rfl fun a0 h0 c0 v0 N0 e hc=>?_
 unfold zw at e
 split at e
 ·rename_i a b
  obtain⟨hl,r,hr,rfl,rfl⟩:=aQ e hc
  cases hr
  refine sF fun ρ us w hh hv=>?_
  obtain⟨u,r,rfl,h1,u2,r2,rfl,h2,rfl⟩:=hv
  simp only[VR]at h1 h2
  subst h1;subst h2
  refine⟨_,rfl,(gp _ _ w).mono fun e w' ⟨he,hw⟩=>⟨he,hw▸RowKit.Below.refl _ _⟩⟩
 ·cases e
def cI(n:Int):Option (List UInt8):=bif decide (0<=n)&&decide (n<100)then some (Lib.decDigits n.toNat)else none
def Jt(R:List UInt8):V:=.str R
def Jz(_:List UInt8):List O:=[]
def uY:CF
 |[.int .i64 n],[]=>retC true (cI n) [] Jt Jz
 |_,_=>none
theorem xF{kCa kDb:Bool}:CtOk (GGx kCa kDb) PP (138,uY):=by
 refine aG Tryz.func138 (by kernel_rfl) rfl fun a0 h0 c0 v0 N0 e hc=>?_
 unfold uY at e
 split at e
 ·rename_i n
  obtain⟨hl,r,hr,rfl,rfl⟩:=aQ e hc
  unfold cI at hr
  rw[cond_eq_ite]at hr
  split at hr
  ·rename_i hn
   cases hr
   simp only[Bool.and_eq_true,decide_eq_true_eq]at hn
   refine sF fun ρ us w hh hv=>?_
   obtain⟨u,r,rfl,h1,rfl⟩:=hv
   simp only[VR]at h1
   subst h1
   have h:=Any.strconv_Itoa_small yR n.toNat (by omega) w
   rw[show ((n.toNat:Nat):Int)=n by omega]at h
   exact⟨_,rfl,h.mono fun e w' ⟨he,hw⟩=>⟨he,hw▸RowKit.Below.refl _ _⟩⟩
  ·cases hr
 ·cases e
def yO:List (List V)->Option (List (List UInt8))
 |[]=>some []
 |[.str s]::r=>match yO r with|some l=>some (s::l)|none=>none
 |_=>none
theorem wu:∀ {rs:List (List V)} {l:List (List UInt8)},yO rs=some l->rs=l.map fun s=>[V.str s]
 |[],l,h=>by cases h;rfl
 |[.str s]::r,l,h=>by
  simp only[yO]at h
  split at h
  ·rename_i l' hl';cases h;rw[wu hl'];rfl
  ·cases h
 |[]::_,_,h=>by cases h
 | (_::_::_)::_,_,h=>by simp[yO]at h
 |[.lit _]::_,_,h|[.bool _]::_,_,h|[.int _ _]::_,_,h|[.ptr _ _ _]::_,_,h|[.nilp]::_,_,h|[.sl _ _ _ _]::_,_,h|[.nils]::_,_,h|[.fn _ _]::_,_,h|[.nilf]::_,_,h|[.yl _]::_,_,h|[.agg _]::_,_,h|[.tup _]::_,_,h|[.nili]::_,_,h|[.when _ _]::_,_,h|[.junk]::_,_,h=>by simp[yO]at h
def qo(rs:List (List V))(sep:List UInt8):Option (List UInt8):=match yO rs with
 |some l=>bif decide (l.length<=100000)&&decide ((Lib.join l sep).length<=140737488355328)then some (Lib.join l sep)else none
 |none=>none
def Bi(R:List UInt8):V:=.str R
def Jb(_:List UInt8):List O:=[]
def nZ:CF
 |[.sl 0 0 n none,.str sep],[.vals false 1 rs]=>retC (decide (n=rs.length)) (qo rs sep) [] Bi Jb
 |_,_=>none
theorem mI{kCa kDb:Bool}:CtOk (GGx kCa kDb) PP (165,nZ):=by
 refine aG Tryz.func165 (by kernel_rfl) rfl fun a0 h0 c0 v0 N0 e hc=>?_
 unfold nZ at e
 split at e
 ·rename_i n sep rs
  obtain⟨hl,r,hr,rfl,rfl⟩:=aQ e hc
  simp only[decide_eq_true_eq]at hl
  subst hl
  unfold qo at hr
  split at hr
  ·rename_i l hs
   obtain rfl:=wu hs
   rw[cond_eq_ite]at hr
   split at hr
   ·rename_i hn
    cases hr
    simp only[Bool.and_eq_true,decide_eq_true_eq]at hn
    refine sF fun ρ us w hh hv=>?_
    obtain⟨u,r,rfl,h1,u2,r2,rfl,h2,rfl⟩:=hv
    obtain⟨rg,hr,hkl,hph,hnp⟩:=h1
    simp only[VR]at h2
    subst h2
    have hob:=hh.blocks 0 rg hr (by simp[getO,av])
    have hxm:(l.map fun s=>(⟨s.toArray⟩:ByteArray)).map (·.data.toList)=l:=by rw[List.map_map];exact(List.map_congr_left fun s _=>rfl).trans (List.map_id l)
    have hlen:rg.n=l.length:=by have:=hob.n;rw[show getO (GGx kCa kDb) [O.vals false 1 (l.map fun s=>[V.str s])] 0=O.vals false 1 (l.map fun s=>[V.str s])from rfl]at this;simpa[O.len]using this
    have hemp:∀ (a:Option Addr) (c:Nat),l=[]->∃ u,VR ρ (Bi (Lib.join l sep)) u/\Calls PP 165 #[.slice a 0 c,.string ⟨sep.toArray⟩] w fun e w'=>e=.returned u/\RowKit.Below w.heap.size w w':=by
     intro a c h0
     subst h0
     exact⟨_,rfl,(Any.strings_Join_none mK dh a c _ w).mono fun e w' ⟨he,hw⟩=>⟨he,hw▸RowKit.Below.refl _ _⟩⟩
    rw[List.length_map]at hkl hph hnp
    cases hp:rg.ph with
    |true=>
     obtain⟨h0,rfl⟩:=hph hp
     exact hemp _ _ (List.length_eq_zero_iff.1 h0)
    |false=>
     obtain⟨hle,ad,rfl,had⟩:=hnp hp
     by_cases h0:l=[]
     ·subst h0;exact hemp _ _ rfl
     ·have hpos:0<l.length:=List.length_pos_iff.2 h0
      rw[had (by omega)]
      refine⟨_,rfl,?_⟩
      have:=kO rg.blk (rg.base+0*rg.m) (Option.getD none (rg.cp-0)) (l.map fun s=>(⟨s.toArray⟩:ByteArray)) ⟨sep.toArray⟩ w (fun j x hx=>?_) (hob.lt hp) (by rw[List.length_map];omega) (by rw[List.length_map];exact hle) (by rw[hxm];exact hn.2)
      ·rw[hxm,List.length_map]at this
       exact this
      ·rw[List.getElem?_map,Option.map_eq_some_iff]at hx
       obtain⟨s,hs,rfl⟩:=hx
       obtain⟨hj,rfl⟩:=List.getElem?_eq_some_iff.1 hs
       obtain⟨u,hu,hvu⟩:=hob.cell hp j 0 (.str l[j]) (by show j<(l.map _).length;rw[List.length_map];exact hj) (by show 0<1;decide) (by
        show (match (l.map fun s=>[V.str s])[j]? with|some r=>r[0]?|.none=>.none)=_
        rw[List.getElem?_map,hs];rfl)
       simp only[VR]at hvu
       subst hvu
       have hm:rg.m=1:=hob.m hp
       rw[hm]at hu ⊢
       simpa using hu
   ·cases hr
  ·cases hr
 ·cases e
end Go.Ab
set_option maxRecDepth 100000
set_option maxHeartbeats 4000000
namespace Go.Ab
open Go.Proofs
section
variable{kCa kDb:Bool}
noncomputable abbrev EpL (kCa kDb:Bool):Env:=EE kCa kDb [(131,vL)] []
theorem bE:(EpL kCa kDb).Fn PP:=aF ⟨qA,trivial⟩ trivial
def pLtr(p:Int):Int:=if 0<p then([80,78,66,82,81,75,65,67,68,69,70,71,72,73,74]:List Int).getD (p-1).toNat 0 else([112,110,98,114,113,107,97,99,100,101,102,103,104,105,106]:List Int).getD (- p-1).toNat 0
def pLet(p:Int):Option (Int×Int):=bif decide (-15<=p)&&decide (p<=15)&&!decide (p=0)then some (pLtr p,0)else none
def KC(R:Int×Int):V:=.tup [.int .u8 R.1,.int .i64 R.2]
def KW(_:Int×Int):List O:=[]
def BO:CF
 |[.int .i8 p],[]=>retC true (pLet p) (0,0) KC KW
 |_,_=>none
theorem Jm:aj (GGx kCa kDb) PP 195 [.int .i8 (-15)] [] (.tup [.int .u8 106,.int .i64 0]) []:=aY bE (xs:=[]) trivial 100 2 Tryz.func195 (by cases kCa<;>cases kDb<;>kernel_rfl)
theorem IJ:aj (GGx kCa kDb) PP 195 [.int .i8 (-14)] [] (.tup [.int .u8 105,.int .i64 0]) []:=aY bE (xs:=[]) trivial 100 2 Tryz.func195 (by cases kCa<;>cases kDb<;>kernel_rfl)
theorem Iq:aj (GGx kCa kDb) PP 195 [.int .i8 (-13)] [] (.tup [.int .u8 104,.int .i64 0]) []:=aY bE (xs:=[]) trivial 100 2 Tryz.func195 (by cases kCa<;>cases kDb<;>kernel_rfl)
theorem HK:aj (GGx kCa kDb) PP 195 [.int .i8 (-12)] [] (.tup [.int .u8 103,.int .i64 0]) []:=aY bE (xs:=[]) trivial 100 2 Tryz.func195 (by cases kCa<;>cases kDb<;>kernel_rfl)
theorem Ii:aj (GGx kCa kDb) PP 195 [.int .i8 (-11)] [] (.tup [.int .u8 102,.int .i64 0]) []:=aY bE (xs:=[]) trivial 100 2 Tryz.func195 (by cases kCa<;>cases kDb<;>kernel_rfl)
theorem HQ:aj (GGx kCa kDb) PP 195 [.int .i8 (-10)] [] (.tup [.int .u8 101,.int .i64 0]) []:=aY bE (xs:=[]) trivial 100 2 Tryz.func195 (by cases kCa<;>cases kDb<;>kernel_rfl)
theorem Lb:aj (GGx kCa kDb) PP 195 [.int .i8 (-9)] [] (.tup [.int .u8 100,.int .i64 0]) []:=aY bE (xs:=[]) trivial 100 2 Tryz.func195 (by cases kCa<;>cases kDb<;>kernel_rfl)
theorem Ky:aj (GGx kCa kDb) PP 195 [.int .i8 (-8)] [] (.tup [.int .u8 99,.int .i64 0]) []:=aY bE (xs:=[]) trivial 100 2 Tryz.func195 (by cases kCa<;>cases kDb<;>kernel_rfl)
theorem KQ:aj (GGx kCa kDb) PP 195 [.int .i8 (-7)] [] (.tup [.int .u8 97,.int .i64 0]) []:=aY bE (xs:=[]) trivial 100 2 Tryz.func195 (by cases kCa<;>cases kDb<;>kernel_rfl)
theorem KB:aj (GGx kCa kDb) PP 195 [.int .i8 (-6)] [] (.tup [.int .u8 107,.int .i64 0]) []:=aY bE (xs:=[]) trivial 100 2 Tryz.func195 (by cases kCa<;>cases kDb<;>kernel_rfl)
theorem LV:aj (GGx kCa kDb) PP 195 [.int .i8 (-5)] [] (.tup [.int .u8 113,.int .i64 0]) []:=aY bE (xs:=[]) trivial 100 2 Tryz.func195 (by cases kCa<;>cases kDb<;>kernel_rfl)
theorem Ld:aj (GGx kCa kDb) PP 195 [.int .i8 (-4)] [] (.tup [.int .u8 114,.int .i64 0]) []:=aY bE (xs:=[]) trivial 100 2 Tryz.func195 (by cases kCa<;>cases kDb<;>kernel_rfl)
theorem Ml:aj (GGx kCa kDb) PP 195 [.int .i8 (-3)] [] (.tup [.int .u8 98,.int .i64 0]) []:=aY bE (xs:=[]) trivial 100 2 Tryz.func195 (by cases kCa<;>cases kDb<;>kernel_rfl)
theorem LK:aj (GGx kCa kDb) PP 195 [.int .i8 (-2)] [] (.tup [.int .u8 110,.int .i64 0]) []:=aY bE (xs:=[]) trivial 100 2 Tryz.func195 (by cases kCa<;>cases kDb<;>kernel_rfl)
theorem LH:aj (GGx kCa kDb) PP 195 [.int .i8 (-1)] [] (.tup [.int .u8 112,.int .i64 0]) []:=aY bE (xs:=[]) trivial 100 2 Tryz.func195 (by cases kCa<;>cases kDb<;>kernel_rfl)
theorem KA:aj (GGx kCa kDb) PP 195 [.int .i8 1] [] (.tup [.int .u8 80,.int .i64 0]) []:=aY bE (xs:=[]) trivial 100 2 Tryz.func195 (by cases kCa<;>cases kDb<;>kernel_rfl)
theorem LP:aj (GGx kCa kDb) PP 195 [.int .i8 2] [] (.tup [.int .u8 78,.int .i64 0]) []:=aY bE (xs:=[]) trivial 100 2 Tryz.func195 (by cases kCa<;>cases kDb<;>kernel_rfl)
theorem Mf:aj (GGx kCa kDb) PP 195 [.int .i8 3] [] (.tup [.int .u8 66,.int .i64 0]) []:=aY bE (xs:=[]) trivial 100 2 Tryz.func195 (by cases kCa<;>cases kDb<;>kernel_rfl)
theorem LO:aj (GGx kCa kDb) PP 195 [.int .i8 4] [] (.tup [.int .u8 82,.int .i64 0]) []:=aY bE (xs:=[]) trivial 100 2 Tryz.func195 (by cases kCa<;>cases kDb<;>kernel_rfl)
theorem LA:aj (GGx kCa kDb) PP 195 [.int .i8 5] [] (.tup [.int .u8 81,.int .i64 0]) []:=aY bE (xs:=[]) trivial 100 2 Tryz.func195 (by cases kCa<;>cases kDb<;>kernel_rfl)
theorem Mk:aj (GGx kCa kDb) PP 195 [.int .i8 6] [] (.tup [.int .u8 75,.int .i64 0]) []:=aY bE (xs:=[]) trivial 100 2 Tryz.func195 (by cases kCa<;>cases kDb<;>kernel_rfl)
theorem KJ:aj (GGx kCa kDb) PP 195 [.int .i8 7] [] (.tup [.int .u8 65,.int .i64 0]) []:=aY bE (xs:=[]) trivial 100 2 Tryz.func195 (by cases kCa<;>cases kDb<;>kernel_rfl)
theorem Mi:aj (GGx kCa kDb) PP 195 [.int .i8 8] [] (.tup [.int .u8 67,.int .i64 0]) []:=aY bE (xs:=[]) trivial 100 2 Tryz.func195 (by cases kCa<;>cases kDb<;>kernel_rfl)
theorem Lm:aj (GGx kCa kDb) PP 195 [.int .i8 9] [] (.tup [.int .u8 68,.int .i64 0]) []:=aY bE (xs:=[]) trivial 100 2 Tryz.func195 (by cases kCa<;>cases kDb<;>kernel_rfl)
theorem Iz:aj (GGx kCa kDb) PP 195 [.int .i8 10] [] (.tup [.int .u8 69,.int .i64 0]) []:=aY bE (xs:=[]) trivial 100 2 Tryz.func195 (by cases kCa<;>cases kDb<;>kernel_rfl)
theorem Kj:aj (GGx kCa kDb) PP 195 [.int .i8 11] [] (.tup [.int .u8 70,.int .i64 0]) []:=aY bE (xs:=[]) trivial 100 2 Tryz.func195 (by cases kCa<;>cases kDb<;>kernel_rfl)
theorem IY:aj (GGx kCa kDb) PP 195 [.int .i8 12] [] (.tup [.int .u8 71,.int .i64 0]) []:=aY bE (xs:=[]) trivial 100 2 Tryz.func195 (by cases kCa<;>cases kDb<;>kernel_rfl)
theorem Iv:aj (GGx kCa kDb) PP 195 [.int .i8 13] [] (.tup [.int .u8 72,.int .i64 0]) []:=aY bE (xs:=[]) trivial 100 2 Tryz.func195 (by cases kCa<;>cases kDb<;>kernel_rfl)
theorem IV:aj (GGx kCa kDb) PP 195 [.int .i8 14] [] (.tup [.int .u8 73,.int .i64 0]) []:=aY bE (xs:=[]) trivial 100 2 Tryz.func195 (by cases kCa<;>cases kDb<;>kernel_rfl)
theorem IK:aj (GGx kCa kDb) PP 195 [.int .i8 15] [] (.tup [.int .u8 74,.int .i64 0]) []:=aY bE (xs:=[]) trivial 100 2 Tryz.func195 (by cases kCa<;>cases kDb<;>kernel_rfl)
theorem Aw:CtOk (GGx kCa kDb) PP (195,BO):=by
 refine aG Tryz.func195 (by kernel_rfl) rfl fun a0 h0 c0 v0 N0 e hc=>?_
 unfold BO at e
 split at e
 ·rename_i p
  obtain⟨hl,r,hr,rfl,rfl⟩:=aQ e hc
  unfold pLet at hr
  rw[cond_eq_ite]at hr
  split at hr
  ·rename_i hn
   cases hr
   simp only[Bool.and_eq_true,decide_eq_true_eq,Bool.not_eq_true',decide_eq_false_iff_not]at hn
   obtain⟨⟨h1,h2⟩,h3⟩:=hn
   have hp:p=-15\/p=-14\/p=-13\/p=-12\/p=-11\/p=-10\/p=-9\/p=-8\/p=-7\/p=-6\/p=-5\/p=-4\/p=-3\/p=-2\/p=-1\/p=1\/p=2\/p=3\/p=4\/p=5\/p=6\/p=7\/p=8\/p=9\/p=10\/p=11\/p=12\/p=13\/p=14\/p=15:=by omega
   rcases hp with rfl|rfl|rfl|rfl|rfl|rfl|rfl|rfl|rfl|rfl|rfl|rfl|rfl|rfl|rfl|rfl|rfl|rfl|rfl|rfl|rfl|rfl|rfl|rfl|rfl|rfl|rfl|rfl|rfl|rfl
   ·exact Jm
   ·exact IJ
   ·exact Iq
   ·exact HK
   ·exact Ii
   ·exact HQ
   ·exact Lb
   ·exact Ky
   ·exact KQ
   ·exact KB
   ·exact LV
   ·exact Ld
   ·exact Ml
   ·exact LK
   ·exact LH
   ·exact KA
   ·exact LP
   ·exact Mf
   ·exact LO
   ·exact LA
   ·exact Mk
   ·exact KJ
   ·exact Mi
   ·exact Lm
   ·exact Iz
   ·exact Kj
   ·exact IY
   ·exact Iv
   ·exact IV
   ·exact IK
  ·cases hr
 ·cases e
end
end Go.Ab
namespace Go.Ab
open IntKind
open Go.Proofs
section
variable{kCa kDb:Bool}
def GF:List Int->List Int×Nat×Int->Option (List Int×Nat×Int ⊕ List Int×Nat ⊕ List UInt8):=fun(pieces:List Int)=>let x34:=List.take 1 (List.drop 0 (iL [49]));fun(s17:List Int×Nat×Int)=>let x41:=decide (0<Int.ofNat s17.2.1);let x42:=(s17.2.1+1)*1;let x43:=decide (s17.2.2<Int.ofNat pieces.length);let x45:=i64.wrap (Int.ofNat s17.2.1-1);let x46:=i64.wrap (s17.2.2+1);let x47:=s17.1++x34;let x48:=pieces.getD s17.2.2.toNat 0;let x36:=decide (0<=x45)&&decide (x45<Int.ofNat s17.2.1);let x38:=decide (s17.2.1=s17.1.length)&&decide (x42<=140737488355328);let x39:=s17.1++List.take 1 (List.drop 0 (iL [((pLet x48).getD (0,0)).fst]));let x44:=x45.toNat;let x40:=s17.1.getD x44 0;let x37:=x41&&decide (49<=x40);bif x43 then aM (decide (0<=s17.2.2)&&x43) (bif !decide (x48=0)then aN (pLet x48) Inhabited.default fun(_y19:Int×Int)=>aM x38 (some (Sum.inl (x39,x39.length,x46)))else aM (!x41||x36) (aM (!x37||x36) (bG (bif x37&&decide (x40<=56)then aM x36 (aM x36 (some (Sum.inl (s17.1.set x44 (u8.wrap (x40+1)),s17.2.1))))else aM x38 (some (Sum.inl (x47,x47.length)))) fun(s22:List Int×Nat)=>some (Sum.inl (s22.1,s22.2,x46)))))else some (Sum.inr (Sum.inl (s17.1,s17.2.1)))
def AU(pieces:List Int):Option (List UInt8):=bx (GF pieces) (fun(s33:List Int×Nat)=>some (mC (List.take s33.2 (List.drop 0 s33.1)))) 1000000 ([],0,0)
def tD(R:List UInt8):V:=.str R
def sn(_:List UInt8):List O:=[]
def uU:CF
 |[.sl 0 0 pieces_0n none],[.ints false .i8 pieces_0]=>retC (decide (pieces_0n=pieces_0.length)) (AU pieces_0) [] tD sn
 |_,_=>none
theorem Cu(pieces:List Int){r}(hr:AU pieces=some r):aj (GGx kCa kDb) PP 163 [.sl 0 0 pieces.length none] [.ints false .i8 pieces] (tD r) (sn r):=by
 have hE:=cutE (aF (kCa:=kCa) (kDb:=kDb) (cts:=[(195,BO)]) (inl:=[]) ⟨Aw,trivial⟩ trivial)
 refine bn hE 2 Tryz.func163 rfl rfl tD sn hr ?_ rfl rfl
 refine bB hE 2 (fun(s17:List Int×Nat×Int)=>([(2,V.str (#[]:Array UInt8).toList),(3,V.sl 1 0 s17.2.1 none),(9,V.sl 0 0 pieces.length none),(10,I (Int.ofNat pieces.length)),(11,I s17.2.2)],[O.ints false i8 pieces,O.ints true u8 s17.1])) (fun(s33:List Int×Nat)=>([(2,V.str (#[]:Array UInt8).toList),(3,V.sl 1 0 s33.2 none)],[O.ints false i8 pieces,O.ints true u8 s33.1])) (.exit 0) ((Ent.phT 3 (O.ints true u8 []) rfl rfl rfl rfl rfl).trans (Ent.rn [0,1] [2,3,9,10,11] rfl rfl rfl rfl rfl)) (fun s17=>?_) (fun s33=>?_)
 ·refine ay hE 2 rfl ?_ ?_
  ·refine aO ?_
   refine ay hE 2 rfl ?_ ?_
   ·refine aq (pl rfl id) ?_
    refine cr (pr id rfl) ?_
    exact bu ((Ent.rn [0,3] [2,3,9,10,11] rfl rfl rfl rfl rfl))
   refine af (Bool.not_or_self _) ?_
   refine af (Bool.not_or_self _) ?_
   refine af (Bool.not_or_self _) ?_
   refine aO ?_
   refine af (Bool.not_or_self _) ?_
   refine af (Bool.not_or_self _) ?_
   refine af (Bool.not_or_self _) ?_
   refine af (Bool.not_or_self _) ?_
   refine af (Bool.not_or_self _) ?_
   refine af (Bool.not_or_self _) ?_
   refine aO ?_
   refine af (Bool.not_or_self _) ?_
   refine af (Bool.not_or_self _) ?_
   refine af (Bool.not_or_self _) ?_
   refine bz hE 2 (fun(s22:List Int×Nat)=>([(2,V.str (#[]:Array UInt8).toList),(3,V.sl 1 0 s22.2 none),(9,V.sl 0 0 pieces.length none),(10,I (Int.ofNat pieces.length)),(11,I s17.2.2)],[O.ints false i8 pieces,O.ints true u8 s22.1])) rfl ?_ ?_ (fun s22=>?_)
   ·refine aO ?_
    refine aO ?_
    exact aU ((Ent.rn [0,1] [2,3,9,10,11] rfl rfl rfl rfl rfl))
   ·refine cr (pr id rfl) ?_
    exact aU ((Ent.rn [0,3] [2,3,9,10,11] rfl rfl rfl rfl rfl))
   exact bu ((Ent.rn [0,1] [2,3,9,10,11] rfl rfl rfl rfl rfl))
  exact bA ((Ent.rn [0,1] [2,3] rfl rfl rfl rfl rfl))
 exact aB (aD [] (.inr rfl) rfl rfl rfl rfl rfl)
theorem yh:CtOk (GGx kCa kDb) PP (163,uU):=by
 refine aG Tryz.func163 (by kernel_rfl) rfl fun a0 h0 c0 v0 N0 e hc=>?_
 unfold uU at e
 split at e
 ·rename_i pieces_0n pieces_0
  obtain⟨hl,r,hr,rfl,rfl⟩:=aQ e hc
  simp only[decide_eq_true_eq]at hl
  obtain rfl:=hl
  exact Cu pieces_0 hr
 ·cases e
def Ik(s:Siz)(at_:Int):Option (List UInt8×Int):=let x4:=(aV s.f s.r at_).snd.2;bif !decide (x4=0)then some ((#[]:Array UInt8).toList,x4)else some (mC (List.take 2 (List.drop 0 (iL [u8.wrap (97+u8.wrap (aV s.f s.r at_).fst),u8.wrap (49+u8.wrap (aV s.f s.r at_).snd.1)]))),0)
def tq(R:List UInt8×Int):V:=.tup [.str R.1,.int .i64 R.2]
def tK(_:List UInt8×Int):List O:=[]
def tj:CF
 |[.agg [.int .i64 s_0,.int .i64 s_1],.int .i64 at__0],[]=>retC true (Ik ⟨s_0,s_1⟩ at__0) ([],0) tq tK
 |_,_=>none
theorem AS(s:Siz)(at_:Int){r}(hr:Ik s at_=some r):aj (GGx kCa kDb) PP 140 [.agg [.int .i64 s.f,.int .i64 s.r],.int .i64 at_] [] (tq r) (tK r):=by
 have hE:=cutE (aF (kCa:=kCa) (kDb:=kDb) (cts:=[(166,lq)]) (inl:=[]) ⟨ig,trivial⟩ trivial)
 refine bn hE 2 Tryz.func140 rfl rfl tq tK hr ?_ rfl rfl
 refine af rfl ?_
 refine ay hE 2 rfl ?_ ?_
 ·exact aB (aD [] (.inr rfl) rfl rfl rfl rfl rfl)
 exact aB (aD [] (.inr rfl) rfl rfl rfl rfl rfl)
theorem xC:CtOk (GGx kCa kDb) PP (140,tj):=by
 refine aG Tryz.func140 (by kernel_rfl) rfl fun a0 h0 c0 v0 N0 e hc=>?_
 unfold tj at e
 split at e
 ·rename_i s_0 s_1 at__0
  obtain⟨hl,r,hr,rfl,rfl⟩:=aQ e hc
  exact AS ⟨s_0,s_1⟩ at__0 hr
 ·cases e
end
end Go.Ab
namespace Go.Ab
open Go.Proofs
def ckHc(zs:List Int)(k:Int):List O:=[.cells false [.sl 3 0 zs.length none],.cells false [I k],.ints false .i8 zs]
def JH(k:Nat)(j:Nat):List V:=[.sl 52 (j*k) k (some k)]
theorem FT{kCa kDb:Bool}(zs:List Int)(k m:Nat)(hk:0<k)(hn:zs.length=m*k)(hs:zs.length<=100000):SqH (GGx kCa kDb) PP 194 (ckHc zs k) [.ptr 1 0 0,.ptr 2 0 0] [] ((List.range m).map fun j=>(JH k j,([]:List O))):=by
 have hE:=aF (kCa:=kCa) (kDb:=kDb) (cts:=[]) (inl:=[]) trivial trivial
 refine rI hE Tryz.func194 rfl rfl rfl rfl rfl fun nn l0 S0 ρc J ok=>?_
 refine YH.seq (YH.seg hE 2 ?_)
 refine ae ?_
 refine YH.block (YH.loop (fun a:Nat×Bool=>((some a.1,a.2),[(0,.yl 0),(1,.ptr 1 0 0),(2,.ptr 2 0 0),(4,I ((a.1*k:Nat):Int))],
   [.gone,.cells false [.sl 3 0 zs.length none],.cells false [I k],.ints false .i8 zs]))
  (fun a=>a.1<=m) (fun a=>m-a.1) (0,false) rfl ?_ (Nat.zero_le _) ?_)
 ·rw[show (0*k:Nat)=0 from Nat.zero_mul k]
  exact Ent.ren [0,1,2,3] [0,1,2,4] rfl rfl rfl
 rintro⟨j,hd⟩ i1
 cases hd
 all_goals
  dsimp only at i1 ⊢
  refine YH.seq (YH.seg hE 2 ?_)
  repeat (first|refine ah ?_|refine sat_nd ?_)
  refine ax (fun h1=>ae ?_) (fun h1=>ae ?_)
  ·have h2:j*k<zs.length:=by have:=of_decide_eq_true h1;omega
   have hj:j<m:=by rw[hn]at h2;exact Nat.lt_of_mul_lt_mul_right h2
   have h3:j*k+k<=zs.length:=by rw[hn,<-Nat.succ_mul];exact Nat.mul_le_mul_right k hj
   have hw:((zs.length:Nat):Int).toNat-((j*k:Nat):Int).toNat=zs.length-j*k:=by omega
   refine YH.seq (YH.block (YH.seq (YH.seg hE 2 ?_)))
   repeat (first|refine ah ?_|refine ag (by first|rfl|exact tt1 _ _|exact tt5 _ _|(simp;done)|(simp;omega)) ?_)
   refine ae ?_
   have hmin:imax false (k:Int) (((Option.none.getD (zs.length:Int)).toNat-((some ((j*k:Nat):Int)).getD 0).toNat:Nat):Int)=(k:Int):=by
    have:((Option.none.getD (zs.length:Int)).toNat-((some ((j*k:Nat):Int)).getD 0).toNat:Nat)=zs.length-j*k:=hw
    rw[this]
    unfold imax
    rw[show decide (((zs.length-j*k:Nat):Int)<(k:Int))=false by simp;omega]
    rfl
   have hwr:IntKind.i64.wrap (((j*k:Nat):Int)+(k:Int))=((j*k+k:Nat):Int):=by rw[aK (by omega) (by omega)];omega
   rw[hmin]
   refine YH.seq (YH.yregAt ok 2 10 rfl rfl rfl ?_)
   refine ag (b:=?B) ?hB ?_
   case hB=>rw[hwr];simp;omega
   refine ae ?_
   refine⟨j,JH k j,[],[0,1,2,4],[],_,rfl,by rw[List.getElem?_map,List.getElem?_range hj];rfl,rfl,rfl,rfl,?_,rfl,rfl,rfl,rfl,fun b=>?_⟩
   ·have e1:(IntKind.i64.wrap (((j*k:Nat):Int)+(k:Int))).toNat-((some ((j*k:Nat):Int)).getD 0).toNat=k:=by
     rw[hwr];show (j*k+k)-(j*k)=k;omega
    have e2:renL (padY [] 3) [V.sl 3 (j*k) k (some k)]=some [.sl 52 (j*k) k (some k)]:=rfl
    refine Eq.trans (congrArg (renL (padY [] 3)) ?_) e2
    show [V.sl 3 (addN 0 (j*k)) ((IntKind.i64.wrap (((j*k:Nat):Int)+(k:Int))).toNat-((some ((j*k:Nat):Int)).getD 0).toNat) (some ((IntKind.i64.wrap (((j*k:Nat):Int)+(k:Int))).toNat-((some ((j*k:Nat):Int)).getD 0).toNat))]=_
    rw[e1]
    rfl
   cases b with
   |true=>
    repeat (first|refine ah ?_|refine ag (by first|rfl|exact tt1 _ _|exact tt5 _ _|(simp;done)|(simp;omega)) ?_)
    refine ae ?_
    refine YH.seg hE 2 ?_
    repeat (first|refine ah ?_|refine ag (by first|rfl|exact tt1 _ _|exact tt5 _ _|(simp;done)|(simp;omega)) ?_)
    refine ae ?_
    refine YH.seg hE 2 ?_
    repeat (first|refine ah ?_|refine ag (by first|rfl|exact tt1 _ _|exact tt5 _ _|(simp;done)|(simp;omega)) ?_)
    refine ae ⟨(j+1,true),hj,by dsimp only;omega,rfl,?_⟩
    dsimp only
    rw[hwr,show (j+1)*k=j*k+k from Nat.succ_mul j k]
    exact Ent.ren [0,1,2,3] [0,1,2,4] rfl rfl rfl
   |false=>
    repeat (first|refine ah ?_|refine ag (by first|rfl|exact tt1 _ _|exact tt5 _ _|(simp;done)|(simp;omega)) ?_)
    refine ae ?_
    refine YH.seg hE 2 ?_
    repeat (first|refine ah ?_|refine ag (by first|rfl|exact tt1 _ _|exact tt5 _ _|(simp;done)|(simp;omega)) ?_)
    exact ae ⟨.inr rfl,.inr rfl⟩
  ·have h2:¬ j*k<zs.length:=by have:=of_decide_eq_false h1;omega
   have hj:j=m:=by
    rcases Nat.lt_or_ge j m with h|h
    ·exact absurd (by rw[hn];exact Nat.mul_lt_mul_of_pos_right h hk) h2
    ·omega
   refine⟨.inl rfl,.inl ?_⟩
   dsimp only
   rw[hj,List.length_map,List.length_range]
def strR(l:List (List UInt8)):List (List V):=l.map fun t=>[V.str t]
theorem vC(l:List (List UInt8))(t:List UInt8):strR l++[[V.str t]]=strR (l++[t]):=by simp[strR]
theorem nc(bs:List Nat):∀ l:List (List UInt8),rf bs (strR l)=some (strR l)
 |[]=>rfl
 |t::l=>by
  show (match renL bs [V.str t] with|some r=>(match rf bs (strR l) with|some l=>some (r::l)|none=>none)|none=>none)=_
  rw[nc bs l];rfl
theorem FJ{bs:List Nat}{w:Bool}{m:Nat}(l:List (List UInt8)):O.ren bs (.vals w m (strR l))=some (.vals w m (strR l)):=by
 show (match rf bs (strR l) with|some rs=>some (O.vals w m rs)|none=>none)=_
 rw[nc]
theorem GA{bs:List Nat}{w:Bool}{m:Nat}(l:List (List UInt8))(t:List UInt8):O.ren bs (.vals w m (strR l++[[V.str t]]))=some (.vals w m (strR l++[[V.str t]])):=by
 rw[vC];exact FJ _
theorem dw{bs r:List Nat}{hp l:List O}{b:Nat}{o:O}(h1:O.ren bs (hp.getD b .gone)=some o)(h2:gF bs hp r=some l):gF bs hp (b::r)=some (o::l):=by
 rw[gF,h1,h2]
def pbS(zs:List Int)(k:Nat)(j:Nat)(s:List (List UInt8)):Option (List (List UInt8)):=
 match AU ((zs.drop (j*k)).take k) with
 |some t=>bif decide (((strR s).length+1)*16<=140737488355328)&&decide (j*k+k<=zs.length)then some (s++[t])else none
 |none=>none
def pbJ(l:List (List UInt8)):Option (List UInt8×Int):=aN (qo (strR l) [47]) [] fun t=>some (t,0)
def pbF:List (List UInt8)->Option (List UInt8×Int)
 |[a,b,c]=>pbJ [c,b,a]
 |_=>none
def GR(k m:Nat)(zs:List Int):Option (List UInt8×Int):=qD (pbS zs k) pbF (List.range m) []
theorem xq{kCa kDb:Bool}(k m:Nat)(zs:List Int)(hk:0<k)(hn:zs.length=m*k)(hs:zs.length<=100000)(hv:aL k m zs=true){r}(hr:GR k m zs=some r) :
  aj (GGx kCa kDb) PP 139 [.agg [I (k:Int),I (m:Int),.sl 0 0 zs.length none]] [.ints false .i8 zs] (.tup [.str r.1,I r.2]) []:=by
 have hE:=aF (kCa:=kCa) (kDb:=kDb) (cts:=[(83,eM),(163,uU),(165,nZ)]) (inl:=[(162,Tryz.f162),(164,Tryz.f164)]) ⟨dB,yh,mI,trivial⟩ ⟨⟨Tryz.func162,by kernel_rfl⟩,⟨Tryz.func164,by kernel_rfl⟩,trivial⟩
 have e1:List.take zs.length (List.drop 0 zs)=zs:=by rw[List.drop_zero,List.take_length]
 refine bn hE 3 Tryz.func139 rfl rfl (fun r=>.tup [.str r.1,I r.2]) (fun _=>[]) hr ?_ rfl rfl
 refine af (by rw[e1];simp;omega) ?_
 refine jA (by rw[e1,hv];rfl) ?_
 refine jA (by simp;omega) ?_
 refine zZ hE 3 5 (fun s=>[.ints false .i8 zs,.cells true [I (k:Int),I (m:Int),.sl 0 0 zs.length none],.cells true [.sl 5 0 (strR s).length none],.cells true [.sl 0 0 zs.length none],.cells true [I (k:Int)],.vals true 1 (strR s)])
  (List.range m) (JH k) (fun _=>[]) (ckHc zs k) [.ptr 1 0 0,.ptr 2 0 0] (fun j s=>(5,.sl 0 (j*k) k (some k))::putPs (#[15]:Array Nat).toList [.sl 0 (j*k) k (some k)] [(2,.str []),(3,I 0),(4,.ptr 2 0 0),(14,.fn 194 [.ptr 3 0 0,.ptr 4 0 0])]) (fun _ s=>[.ints false .i8 zs,.cells true [I (k:Int),I (m:Int),.sl 0 0 zs.length none],.cells true [.sl 5 0 (strR s).length none],.cells true [.sl 0 0 zs.length none],.cells true [I (k:Int)],.vals true 1 (strR s)]) [3,4,0] [2,3,4,14]
  (tm1:=[(2,.str []),(3,I 0),(4,.ptr 2 0 0),(14,.fn 194 [.ptr 3 0 0,.ptr 4 0 0])])
  ((Ent.phC 2 0 (.vals true 1 []) rfl rfl rfl rfl rfl).trans (Ent.rn [0,1,2,3,4,5] [2,3,4,14] rfl rfl rfl rfl rfl)) (FT zs k m hk hn hs) (fun _=>⟨rfl,Nat.zero_le _⟩) (ent Tryz.func194 (by kernel_rfl) rfl) rfl rfl rfl rfl rfl rfl rfl rfl rfl rfl (fun s=>CR rfl rfl rfl rfl) (fun j s=>rfl) (fun j s=>?_) (fun s=>?_)
 ·intro s' hs'
  unfold pbS at hs'
  split at hs'
  ·rename_i t ht
   rw[cond_eq_ite]at hs'
   split at hs'
   ·rename_i hc
    cases hs'
    simp only[Bool.and_eq_true,decide_eq_true_eq]at hc
    have hlen:k=((zs.drop (j*k)).take k).length:=by rw[List.length_take,List.length_drop];omega
    ·have h1:(AU ((zs.drop (j*k)).take k)).isSome=true:=by rw[ht];rfl
     have h2:decide (((strR s).length+1)*16<=140737488355328)=true:=decide_eq_true hc.1
     have h3:decide (k=((zs.drop (j*k)).take k).length)=true:=decide_eq_true hlen
     have h4:decide ((strR s).length=(strR s).length)=true:=decide_eq_true rfl
     refine ag rfl ?_
     refine ag (pa h3 h1) ?_
     refine ag (pa (pa h4 h2) rfl) ?_
     have h5:(AU ((zs.drop (j*k)).take k)).getD []=t:=by rw[ht];rfl
     clear ht hs
     subst h5
     refine ae ⟨rfl,?_⟩
     rw[<-vC]
     exact Ent.ren [0,1,2,3,4,7] [] (dw rfl (dw rfl (dw rfl (dw rfl (dw rfl (dw (GA _ _) rfl)))))) rfl rfl
   ·cases hs'
  ·cases hs'
 ·match s with
  |[]|[_]|[_,_]|_::_::_::_::_=>exact Ka
  |[a,b,c]=>
   intro r' hr'
   change aN (qo (strR [c,b,a]) [47]) [] (fun t=>some (t,0))=some r' at hr'
   cases hj:qo (strR [c,b,a]) [47] with
   |none=>rw[hj]at hr';cases hr'
   |some tt=>
   rw[hj]at hr'
   cases hr'
   refine dn hE 3 3 (rnd ?_)
   refine ax (fun _=>?_) (fun h=>by cases(show true=false from h))
   repeat refine ag rfl ?_
   refine ae ?_
   refine Gm (rnd ?_)
   refine ax (fun h=>by cases(show false=true from h)) (fun _=>?_)
   refine ae ?_
   change sat _ _ _ _
   refine ag (b:=?B) ?_ ?_
   ·exact pa rfl (show (qo (strR [c,b,a]) [47]).isSome=true by rw[hj];rfl)
   refine ae ?_
   refine aD [] (.inr rfl) rfl rfl rfl rfl ?_
   show V.tup [V.str ((qo (strR [c,b,a]) [47]).getD []),I 0]=_
   rw[hj]
def pbTx(b:Bd):Option (List UInt8×Int):=bif aL b.f b.r b.zs&&decide (0<b.f)&&decide (0<=b.r)&&decide (b.zs.length=b.r.toNat*b.f.toNat)&&decide (b.zs.length<=100000)then GR b.f.toNat b.r.toNat b.zs else none
def KN(R:List UInt8×Int):V:=.tup [.str R.1,.int .i64 R.2]
def Lc(_:List UInt8×Int):List O:=[]
def zC:CF
 |[.agg [.int .i64 b_0,.int .i64 b_1,.sl 0 0 b_2n none]],[.ints false .i8 b_2]=>retC (decide (b_2n=b_2.length)) (pbTx ⟨b_0,b_1,b_2⟩) ([],0) KN Lc
 |_,_=>none
theorem Ak{kCa kDb:Bool}:CtOk (GGx kCa kDb) PP (139,zC):=by
 refine aG Tryz.func139 (by kernel_rfl) rfl fun a0 h0 c0 v0 N0 e hc=>?_
 unfold zC at e
 split at e
 ·rename_i f r n zs
  obtain⟨hl,r',hr,rfl,rfl⟩:=aQ e hc
  simp only[decide_eq_true_eq]at hl
  subst hl
  unfold pbTx at hr
  rw[cond_eq_ite]at hr
  split at hr
  ·rename_i hc
   simp only[Bool.and_eq_true,decide_eq_true_eq]at hc
   obtain⟨⟨⟨⟨h1,h2⟩,h3⟩,h4⟩,h5⟩:=hc
   have ef:((f.toNat:Nat):Int)=f:=by omega
   have er:((r.toNat:Nat):Int)=r:=by omega
   have:=xq (kCa:=kCa) (kDb:=kDb) f.toNat r.toNat zs (by omega) h4 h5 (by rw[ef,er];exact h1) hr
   rw[ef,er]at this
   exact this
  ·cases hr
 ·cases e
end Go.Ab
namespace Go.Ab
open IntKind
open Go.Proofs
section
variable{kCa kDb:Bool}
def ptxt(p:Psn):Option (List UInt8×Int):=let x35:=List.take p.zs.length (List.drop 0 p.zs);let x36:=(#[120]:Array UInt8).toList.length;let x34:=x35.length;aM (decide (x34<=64)) (bif !(Psn.mk p.f p.r x35 p.bl p.ca p.pa p.ha p.fu).ok then some ((#[]:Array UInt8).toList,2)else aN (cI p.f) [] fun(y3:List UInt8)=>let x39:=y3++(#[120]:Array UInt8).toList;let x38:=x39.length;aM (decide (y3.length+x36<=4611686018427387904)) (aN (cI p.r) [] fun(y4:List UInt8)=>let x41:=x39++y4;aM (decide (x38+y4.length<=4611686018427387904)) (aN (pbTx (Bd.mk p.f p.r x35)) ([],0) fun(y5:List UInt8×Int)=>bG (bif p.bl then some (Sum.inl (#[98]:Array UInt8).toList)else some (Sum.inl (#[119]:Array UInt8).toList)) fun(s7:List UInt8)=>bG (bG (bif !decide (band Go.BinOp.and u8 p.ca 1=0)then some (Sum.inl ((#[]:Array UInt8).toList++[75]))else some (Sum.inl (#[]:Array UInt8).toList)) fun(s9:List UInt8)=>some (Sum.inl s9)) fun(s11:List UInt8)=>let x46:=s11.length+[81].length;bG (bG (bif !decide (band Go.BinOp.and u8 p.ca 2=0)then aM (decide (x46<=4611686018427387904)) (some (Sum.inl (s11++[81])))else some (Sum.inl s11)) fun(s13:List UInt8)=>some (Sum.inl s13)) fun(s15:List UInt8)=>let x49:=s15.length+[107].length;bG (bG (bif !decide (band Go.BinOp.and u8 p.ca 4=0)then aM (decide (x49<=4611686018427387904)) (some (Sum.inl (s15++[107])))else some (Sum.inl s15)) fun(s17:List UInt8)=>some (Sum.inl s17)) fun(s19:List UInt8)=>let x52:=s19.length+[113].length;bG (bG (bif !decide (band Go.BinOp.and u8 p.ca 8=0)then aM (decide (x52<=4611686018427387904)) (some (Sum.inl (s19++[113])))else some (Sum.inl s19)) fun(s21:List UInt8)=>some (Sum.inl s21)) fun(s23:List UInt8)=>bG (escO (bG (bif s23==(#[]:Array UInt8).toList then some (Sum.inl (#[45]:Array UInt8).toList)else some (Sum.inl s23)) fun(s25:List UInt8)=>bG (bif decide (0<=p.pa)then aN (Ik (Siz.mk p.f p.r) p.pa) ([],0) fun(y26:List UInt8×Int)=>some (Sum.inl y26.1)else some (Sum.inl (#[45]:Array UInt8).toList)) fun(s28:List UInt8)=>aN (cI p.ha) [] fun(y29:List UInt8)=>aN (cI p.fu) [] fun(y30:List UInt8)=>let x63:List (List V):=[[V.str x41],[V.str y5.1],[V.str s7],[V.str s25],[V.str s28],[V.str y29],[V.str y30]];let x62:=x63.length;aM (decide (7=x62)) (aN (qo x63 (#[32]:Array UInt8).toList) [] fun(y31:List UInt8)=>some (y31,0)))) fun(_s32:Unit)=>none)))
def zm(R:List UInt8×Int):V:=.tup [.str R.1,.int .i64 R.2]
def Db(_:List UInt8×Int):List O:=[]
def AZ:CF
 |[.agg [.int .i64 p_0,.int .i64 p_1,.sl 0 0 p_2n none,.bool p_3,.int .u8 p_4,.int .i64 p_5,.int .i64 p_6,.int .i64 p_7]],[.ints false .i8 p_2]=>retC (decide (p_2n=p_2.length)) (ptxt ⟨p_0,p_1,p_2,p_3,p_4,p_5,p_6,p_7⟩) ([],0) zm Db
 |_,_=>none
theorem Ft(p:Psn){r}(hr:ptxt p=some r):aj (GGx kCa kDb) PP 105 [.agg [.int .i64 p.f,.int .i64 p.r,.sl 0 0 p.zs.length none,Bb p.bl,.int .u8 p.ca,.int .i64 p.pa,.int .i64 p.ha,.int .i64 p.fu]] [.ints false .i8 p.zs] (zm r) (Db r):=by
 have hE:=cutE (aF (kCa:=kCa) (kDb:=kDb) (cts:=[(37,eJ),(135,jJ),(138,uY),(139,zC),(140,tj),(165,nZ)]) (inl:=[(141,Tryz.f141)]) ⟨eI,kp,xF,Ak,xC,mI,trivial⟩ ⟨⟨Tryz.func141,by kernel_rfl⟩,trivial⟩)
 refine bn hE 2 Tryz.func105 rfl rfl zm Db hr ?_ rfl rfl
 refine cr (pl (decide_eq_true (az rfl)) id) ?_
 refine ay hE 2 rfl ?_ ?_
 ·exact aB (aD [] (.inr rfl) rfl rfl rfl rfl rfl)
 refine af rfl ?_
 refine aq (pl rfl id) ?_
 refine aO ?_
 refine aq (pl rfl id) ?_
 refine aO ?_
 refine aq (pl (decide_eq_true (az rfl)) id) ?_
 refine bz hE 2 (fun(s7:List UInt8)=>([(1,V.ptr 1 0 0),(2,V.str (#[]:Array UInt8).toList),(3,I 0),(4,V.str ((cI p.f).getD []++(#[120]:Array UInt8).toList++(cI p.r).getD [])),(5,V.str ((pbTx (Bd.mk p.f p.r (List.take p.zs.length (List.drop 0 p.zs)))).getD ([],0)).fst),(7,V.str s7),(8,V.str (#[]:Array UInt8).toList),(9,V.str (#[45]:Array UInt8).toList)],[O.ints false i8 p.zs,O.cells true [I p.f,I p.r,V.sl 0 0 p.zs.length none,Bb p.bl,V.int u8 p.ca,I p.pa,I p.ha,I p.fu]])) rfl ?_ ?_ (fun s7=>?_)
 ·exact aU ((Ent.rn [0,1] [1,2,3,4,5,7,8,9] rfl rfl rfl rfl rfl))
 ·exact aU ((Ent.rn [0,1] [1,2,3,4,5,7,8,9] rfl rfl rfl rfl rfl))
 refine af rfl ?_
 refine Cb hE 2 5 ?_
 refine pW (let x96:=[I 4,I 7];let x97:=i64.wrap (0+1);fun(s11:List UInt8)=>([(1,V.ptr 1 0 0),(2,V.str (#[]:Array UInt8).toList),(3,I 0),(4,V.str ((cI p.f).getD []++(#[120]:Array UInt8).toList++(cI p.r).getD [])),(5,V.str ((pbTx (Bd.mk p.f p.r (List.take p.zs.length (List.drop 0 p.zs)))).getD ([],0)).fst),(7,V.str s7),(8,V.str s11),(9,V.str (#[45]:Array UInt8).toList),(11,V.ptr 2 0 0),(36,V.agg [V.int u8 1,V.str [75],V.lit false,I 4,I 7,V.int u8 2,V.str [81],V.lit false,I 4,I 0,V.int u8 4,V.str [107],V.lit true,I 60,I 63,V.int u8 8,V.str [113],V.lit true,I 60,I 56]),(37,I x97),(38,Bb (decide (0<4))),(39,V.agg (V.int u8 1::V.str [75]::V.lit false::x96)),(40,V.ptr 1 0 4),(41,V.int u8 p.ca),(42,V.ptr 2 0 0),(43,V.int u8 1),(44,V.int u8 (band Go.BinOp.and u8 p.ca 1)),(45,Bb !decide (band Go.BinOp.and u8 p.ca 1=0)),(50,I x97)],[O.ints false i8 p.zs,O.cells true [I p.f,I p.r,V.sl 0 0 p.zs.length none,Bb p.bl,V.int u8 p.ca,I p.pa,I p.ha,I p.fu],O.cells true (V.int u8 1::V.str [75]::Bb false::x96)])) ?_ (fun s11=>?_)
 ·refine qK hE 2 rfl rfl ?_
  refine af rfl ?_
  refine bz hE 2 (let x68:=[I 4,I 7];fun(s9:List UInt8)=>([(1,V.ptr 1 0 0),(2,V.str (#[]:Array UInt8).toList),(3,I 0),(4,V.str ((cI p.f).getD []++(#[120]:Array UInt8).toList++(cI p.r).getD [])),(5,V.str ((pbTx (Bd.mk p.f p.r (List.take p.zs.length (List.drop 0 p.zs)))).getD ([],0)).fst),(7,V.str s7),(8,V.str s9),(9,V.str (#[45]:Array UInt8).toList),(11,V.ptr 2 0 0),(36,V.agg [V.int u8 1,V.str [75],V.lit false,I 4,I 7,V.int u8 2,V.str [81],V.lit false,I 4,I 0,V.int u8 4,V.str [107],V.lit true,I 60,I 63,V.int u8 8,V.str [113],V.lit true,I 60,I 56]),(37,I 0),(38,Bb (decide (0<4))),(39,V.agg (V.int u8 1::V.str [75]::V.lit false::x68)),(40,V.ptr 1 0 4),(41,V.int u8 p.ca),(42,V.ptr 2 0 0),(43,V.int u8 1),(44,V.int u8 (band Go.BinOp.and u8 p.ca 1)),(45,Bb !decide (band Go.BinOp.and u8 p.ca 1=0))],[O.ints false i8 p.zs,O.cells true [I p.f,I p.r,V.sl 0 0 p.zs.length none,Bb p.bl,V.int u8 p.ca,I p.pa,I p.ha,I p.fu],O.cells true (V.int u8 1::V.str [75]::Bb false::x68)])) rfl ?_ ?_ (fun s9=>?_)
  ·refine af rfl ?_
   exact aU ((Ent.rn [0,1,2] [1,2,3,4,5,7,8,9,11,36,37,38,39,40,41,42,43,44,45] rfl rfl rfl rfl rfl))
  ·exact aU ((Ent.rn [0,1,2] [1,2,3,4,5,7,8,9,11,36,37,38,39,40,41,42,43,44,45] rfl rfl rfl rfl rfl))
  exact nF ((Ent.rn [0,1,2] [1,2,3,4,5,7,8,9,11,36,37,38,39,40,41,42,43,44,45,50] rfl rfl rfl rfl rfl))
 refine pW (let x93:=[I 4,I 0];let x94:=i64.wrap (0+1);let x92:=i64.wrap (x94+1);fun(s15:List UInt8)=>([(1,V.ptr 1 0 0),(2,V.str (#[]:Array UInt8).toList),(3,I 0),(4,V.str ((cI p.f).getD []++(#[120]:Array UInt8).toList++(cI p.r).getD [])),(5,V.str ((pbTx (Bd.mk p.f p.r (List.take p.zs.length (List.drop 0 p.zs)))).getD ([],0)).fst),(7,V.str s7),(8,V.str s15),(9,V.str (#[45]:Array UInt8).toList),(11,V.ptr 2 0 0),(36,V.agg [V.int u8 1,V.str [75],V.lit false,I 4,I 7,V.int u8 2,V.str [81],V.lit false,I 4,I 0,V.int u8 4,V.str [107],V.lit true,I 60,I 63,V.int u8 8,V.str [113],V.lit true,I 60,I 56]),(37,I x92),(38,Bb (decide (x94<4))),(39,V.agg (V.int u8 2::V.str [81]::V.lit false::x93)),(40,V.ptr 1 0 4),(41,V.int u8 p.ca),(42,V.ptr 2 0 0),(43,V.int u8 2),(44,V.int u8 (band Go.BinOp.and u8 p.ca 2)),(45,Bb !decide (band Go.BinOp.and u8 p.ca 2=0)),(50,I x92)],[O.ints false i8 p.zs,O.cells true [I p.f,I p.r,V.sl 0 0 p.zs.length none,Bb p.bl,V.int u8 p.ca,I p.pa,I p.ha,I p.fu],O.cells true (V.int u8 2::V.str [81]::Bb false::x93)])) ?_ (fun s15=>?_)
 ·refine qK hE 2 rfl rfl ?_
  refine af rfl ?_
  refine bz hE 2 (let x70:=[I 4,I 0];let x71:=i64.wrap (0+1);fun(s13:List UInt8)=>([(1,V.ptr 1 0 0),(2,V.str (#[]:Array UInt8).toList),(3,I 0),(4,V.str ((cI p.f).getD []++(#[120]:Array UInt8).toList++(cI p.r).getD [])),(5,V.str ((pbTx (Bd.mk p.f p.r (List.take p.zs.length (List.drop 0 p.zs)))).getD ([],0)).fst),(7,V.str s7),(8,V.str s13),(9,V.str (#[45]:Array UInt8).toList),(11,V.ptr 2 0 0),(36,V.agg [V.int u8 1,V.str [75],V.lit false,I 4,I 7,V.int u8 2,V.str [81],V.lit false,I 4,I 0,V.int u8 4,V.str [107],V.lit true,I 60,I 63,V.int u8 8,V.str [113],V.lit true,I 60,I 56]),(37,I x71),(38,Bb (decide (x71<4))),(39,V.agg (V.int u8 2::V.str [81]::V.lit false::x70)),(40,V.ptr 1 0 4),(41,V.int u8 p.ca),(42,V.ptr 2 0 0),(43,V.int u8 2),(44,V.int u8 (band Go.BinOp.and u8 p.ca 2)),(45,Bb !decide (band Go.BinOp.and u8 p.ca 2=0)),(50,I x71)],[O.ints false i8 p.zs,O.cells true [I p.f,I p.r,V.sl 0 0 p.zs.length none,Bb p.bl,V.int u8 p.ca,I p.pa,I p.ha,I p.fu],O.cells true (V.int u8 2::V.str [81]::Bb false::x70)])) rfl ?_ ?_ (fun s13=>?_)
  ·refine aO ?_
   exact aU ((Ent.rn [0,1,3] [1,2,3,4,5,7,8,9,11,36,37,38,39,40,41,42,43,44,45,50] rfl rfl rfl rfl rfl))
  ·exact aU ((Ent.rn [0,1,3] [1,2,3,4,5,7,8,9,11,36,37,38,39,40,41,42,43,44,45,50] rfl rfl rfl rfl rfl))
  exact nF ((Ent.rn [0,1,2] [1,2,3,4,5,7,8,9,11,36,37,38,39,40,41,42,43,44,45,50] rfl rfl rfl rfl rfl))
 refine pW (let x89:=i64.wrap (i64.wrap (0+1)+1);let x90:=[I 60,I 63];let x88:=i64.wrap (x89+1);fun(s19:List UInt8)=>([(1,V.ptr 1 0 0),(2,V.str (#[]:Array UInt8).toList),(3,I 0),(4,V.str ((cI p.f).getD []++(#[120]:Array UInt8).toList++(cI p.r).getD [])),(5,V.str ((pbTx (Bd.mk p.f p.r (List.take p.zs.length (List.drop 0 p.zs)))).getD ([],0)).fst),(7,V.str s7),(8,V.str s19),(9,V.str (#[45]:Array UInt8).toList),(11,V.ptr 2 0 0),(36,V.agg [V.int u8 1,V.str [75],V.lit false,I 4,I 7,V.int u8 2,V.str [81],V.lit false,I 4,I 0,V.int u8 4,V.str [107],V.lit true,I 60,I 63,V.int u8 8,V.str [113],V.lit true,I 60,I 56]),(37,I x88),(38,Bb (decide (x89<4))),(39,V.agg (V.int u8 4::V.str [107]::V.lit true::x90)),(40,V.ptr 1 0 4),(41,V.int u8 p.ca),(42,V.ptr 2 0 0),(43,V.int u8 4),(44,V.int u8 (band Go.BinOp.and u8 p.ca 4)),(45,Bb !decide (band Go.BinOp.and u8 p.ca 4=0)),(50,I x88)],[O.ints false i8 p.zs,O.cells true [I p.f,I p.r,V.sl 0 0 p.zs.length none,Bb p.bl,V.int u8 p.ca,I p.pa,I p.ha,I p.fu],O.cells true (V.int u8 4::V.str [107]::Bb true::x90)])) ?_ (fun s19=>?_)
 ·refine qK hE 2 rfl rfl ?_
  refine af rfl ?_
  refine bz hE 2 (let x73:=i64.wrap (i64.wrap (0+1)+1);let x74:=[I 60,I 63];fun(s17:List UInt8)=>([(1,V.ptr 1 0 0),(2,V.str (#[]:Array UInt8).toList),(3,I 0),(4,V.str ((cI p.f).getD []++(#[120]:Array UInt8).toList++(cI p.r).getD [])),(5,V.str ((pbTx (Bd.mk p.f p.r (List.take p.zs.length (List.drop 0 p.zs)))).getD ([],0)).fst),(7,V.str s7),(8,V.str s17),(9,V.str (#[45]:Array UInt8).toList),(11,V.ptr 2 0 0),(36,V.agg [V.int u8 1,V.str [75],V.lit false,I 4,I 7,V.int u8 2,V.str [81],V.lit false,I 4,I 0,V.int u8 4,V.str [107],V.lit true,I 60,I 63,V.int u8 8,V.str [113],V.lit true,I 60,I 56]),(37,I x73),(38,Bb (decide (x73<4))),(39,V.agg (V.int u8 4::V.str [107]::V.lit true::x74)),(40,V.ptr 1 0 4),(41,V.int u8 p.ca),(42,V.ptr 2 0 0),(43,V.int u8 4),(44,V.int u8 (band Go.BinOp.and u8 p.ca 4)),(45,Bb !decide (band Go.BinOp.and u8 p.ca 4=0)),(50,I x73)],[O.ints false i8 p.zs,O.cells true [I p.f,I p.r,V.sl 0 0 p.zs.length none,Bb p.bl,V.int u8 p.ca,I p.pa,I p.ha,I p.fu],O.cells true (V.int u8 4::V.str [107]::Bb true::x74)])) rfl ?_ ?_ (fun s17=>?_)
  ·refine aO ?_
   exact aU ((Ent.rn [0,1,3] [1,2,3,4,5,7,8,9,11,36,37,38,39,40,41,42,43,44,45,50] rfl rfl rfl rfl rfl))
  ·exact aU ((Ent.rn [0,1,3] [1,2,3,4,5,7,8,9,11,36,37,38,39,40,41,42,43,44,45,50] rfl rfl rfl rfl rfl))
  exact nF ((Ent.rn [0,1,2] [1,2,3,4,5,7,8,9,11,36,37,38,39,40,41,42,43,44,45,50] rfl rfl rfl rfl rfl))
 refine pW (let x84:=i64.wrap (i64.wrap (i64.wrap (0+1)+1)+1);let x86:=[I 60,I 56];let x83:=i64.wrap (x84+1);let x85:=V.int u8 8::V.str [113]::V.lit true::x86;fun(s23:List UInt8)=>([(1,V.ptr 1 0 0),(2,V.str (#[]:Array UInt8).toList),(3,I 0),(4,V.str ((cI p.f).getD []++(#[120]:Array UInt8).toList++(cI p.r).getD [])),(5,V.str ((pbTx (Bd.mk p.f p.r (List.take p.zs.length (List.drop 0 p.zs)))).getD ([],0)).fst),(7,V.str s7),(8,V.str s23),(9,V.str (#[45]:Array UInt8).toList),(11,V.ptr 2 0 0),(36,V.agg (V.int u8 1::V.str [75]::V.lit false::I 4::I 7::V.int u8 2::V.str [81]::V.lit false::I 4::I 0::V.int u8 4::V.str [107]::V.lit true::I 60::I 63::x85)),(37,I x83),(38,Bb (decide (x84<4))),(39,V.agg x85),(40,V.ptr 1 0 4),(41,V.int u8 p.ca),(42,V.ptr 2 0 0),(43,V.int u8 8),(44,V.int u8 (band Go.BinOp.and u8 p.ca 8)),(45,Bb !decide (band Go.BinOp.and u8 p.ca 8=0)),(50,I x83)],[O.ints false i8 p.zs,O.cells true [I p.f,I p.r,V.sl 0 0 p.zs.length none,Bb p.bl,V.int u8 p.ca,I p.pa,I p.ha,I p.fu],O.cells true (V.int u8 8::V.str [113]::Bb true::x86)])) ?_ (fun s23=>?_)
 ·refine qK hE 2 rfl rfl ?_
  refine af rfl ?_
  refine bz hE 2 (let x76:=i64.wrap (i64.wrap (i64.wrap (0+1)+1)+1);let x78:=[I 60,I 56];let x77:=V.int u8 8::V.str [113]::V.lit true::x78;fun(s21:List UInt8)=>([(1,V.ptr 1 0 0),(2,V.str (#[]:Array UInt8).toList),(3,I 0),(4,V.str ((cI p.f).getD []++(#[120]:Array UInt8).toList++(cI p.r).getD [])),(5,V.str ((pbTx (Bd.mk p.f p.r (List.take p.zs.length (List.drop 0 p.zs)))).getD ([],0)).fst),(7,V.str s7),(8,V.str s21),(9,V.str (#[45]:Array UInt8).toList),(11,V.ptr 2 0 0),(36,V.agg (V.int u8 1::V.str [75]::V.lit false::I 4::I 7::V.int u8 2::V.str [81]::V.lit false::I 4::I 0::V.int u8 4::V.str [107]::V.lit true::I 60::I 63::x77)),(37,I x76),(38,Bb (decide (x76<4))),(39,V.agg x77),(40,V.ptr 1 0 4),(41,V.int u8 p.ca),(42,V.ptr 2 0 0),(43,V.int u8 8),(44,V.int u8 (band Go.BinOp.and u8 p.ca 8)),(45,Bb !decide (band Go.BinOp.and u8 p.ca 8=0)),(50,I x76)],[O.ints false i8 p.zs,O.cells true [I p.f,I p.r,V.sl 0 0 p.zs.length none,Bb p.bl,V.int u8 p.ca,I p.pa,I p.ha,I p.fu],O.cells true (V.int u8 8::V.str [113]::Bb true::x78)])) rfl ?_ ?_ (fun s21=>?_)
  ·refine aO ?_
   exact aU ((Ent.rn [0,1,3] [1,2,3,4,5,7,8,9,11,36,37,38,39,40,41,42,43,44,45,50] rfl rfl rfl rfl rfl))
  ·exact aU ((Ent.rn [0,1,3] [1,2,3,4,5,7,8,9,11,36,37,38,39,40,41,42,43,44,45,50] rfl rfl rfl rfl rfl))
  exact nF ((Ent.rn [0,1,2] [1,2,3,4,5,7,8,9,11,36,37,38,39,40,41,42,43,44,45,50] rfl rfl rfl rfl rfl))
 refine pW (fun(s:Unit)=>([],[])) ?_ Jk
 refine LZ hE 2 rfl rfl ?_
 refine IW (by simp) ?_
 refine bz hE 2 (fun(s25:List UInt8)=>([(1,V.ptr 1 0 0),(2,V.str (#[]:Array UInt8).toList),(3,I 0),(4,V.str ((cI p.f).getD []++(#[120]:Array UInt8).toList++(cI p.r).getD [])),(5,V.str ((pbTx (Bd.mk p.f p.r (List.take p.zs.length (List.drop 0 p.zs)))).getD ([],0)).fst),(7,V.str s7),(8,V.str s25),(9,V.str (#[45]:Array UInt8).toList)],[O.ints false i8 p.zs,O.cells true [I p.f,I p.r,V.sl 0 0 p.zs.length none,Bb p.bl,V.int u8 p.ca,I p.pa,I p.ha,I p.fu]])) rfl ?_ ?_ (fun s25=>?_)
 ·exact aU ((Ent.rn [0,1] [1,2,3,4,5,7,8,9] rfl rfl rfl rfl rfl))
 ·exact aU ((Ent.rn [0,1] [1,2,3,4,5,7,8,9] rfl rfl rfl rfl rfl))
 refine bz hE 2 (fun(s28:List UInt8)=>([(1,V.ptr 1 0 0),(2,V.str (#[]:Array UInt8).toList),(3,I 0),(4,V.str ((cI p.f).getD []++(#[120]:Array UInt8).toList++(cI p.r).getD [])),(5,V.str ((pbTx (Bd.mk p.f p.r (List.take p.zs.length (List.drop 0 p.zs)))).getD ([],0)).fst),(7,V.str s7),(8,V.str s25),(9,V.str s28)],[O.ints false i8 p.zs,O.cells true [I p.f,I p.r,V.sl 0 0 p.zs.length none,Bb p.bl,V.int u8 p.ca,I p.pa,I p.ha,I p.fu]])) rfl ?_ ?_ (fun s28=>?_)
 ·refine aq (pl rfl id) ?_
  exact aU ((Ent.rn [0,1] [1,2,3,4,5,7,8,9] rfl rfl rfl rfl rfl))
 ·exact aU ((Ent.rn [0,1] [1,2,3,4,5,7,8,9] rfl rfl rfl rfl rfl))
 refine af rfl ?_
 refine aq (pl rfl id) ?_
 refine aq (pl rfl id) ?_
 refine Bv id ?_
 exact aB (aD [] (.inr rfl) rfl rfl rfl rfl rfl)
theorem yY:CtOk (GGx kCa kDb) PP (105,AZ):=by
 refine aG Tryz.func105 (by kernel_rfl) rfl fun a0 h0 c0 v0 N0 e hc=>?_
 unfold AZ at e
 split at e
 ·rename_i p_0 p_1 p_2n p_3 p_4 p_5 p_6 p_7 p_2
  obtain⟨hl,r,hr,rfl,rfl⟩:=aQ e hc
  simp only[decide_eq_true_eq]at hl
  obtain rfl:=hl
  exact Ft ⟨p_0,p_1,p_2,p_3,p_4,p_5,p_6,p_7⟩ hr
 ·cases e
end
end Go.Ab
namespace Go.Ab
open Go.Proofs
def fmX(p:Psn)(y:Int):List UInt8×Psn×Int:=(((ptxt ((ypos y p).getD ⟨0,0,[],false,0,0,0,0⟩)).getD ([],0)).1,(ypos y p).getD ⟨0,0,[],false,0,0,0,0⟩,y)
def EO(x:List UInt8×Psn×Int):List V:=[.agg [.str x.1,I x.2.1.f,I x.2.1.r,.sl 0 0 x.2.1.zs.length none,Bb x.2.1.bl,.int .u8 x.2.1.ca,I x.2.1.pa,I x.2.1.ha,I x.2.1.fu,.int .u8 x.2.2]]
def fmNs(x:List UInt8×Psn×Int):List O:=[.ints true .i8 x.2.1.zs]
def fmHc(p:Psn):List O:=[.cells false [I p.f,I p.r,.sl 2 0 p.zs.length none,Bb p.bl,.int .u8 p.ca,I p.pa,I p.ha,I p.fu],.ints false .i8 p.zs]
theorem EI{kCa kDb:Bool}(p:Psn){l:List Int}(hp:yalW p=some (l,l.length))(_hl:p.zs.length<=64)(hn:l.length<=100000)
  (hall:∀ y∈l,(ypos y p).isSome=true/\(ptxt (fmX p y).2.1).isSome=true):SqH (GGx kCa kDb) PP 104 (fmHc p) [.ptr 1 0 0] [.ints true .u8 l] (l.map fun y=>(EO (fmX p y),fmNs (fmX p y))):=by
 have hE:=aF (kCa:=kCa) (kDb:=kDb) (cts:=[(65,mE),(67,nu),(105,AZ)]) (inl:=[]) ⟨gK,gC,yY,trivial⟩ trivial
 refine rI hE Tryz.func104 rfl rfl rfl rfl rfl fun nn l0 S0 ρc J ok=>?_
 refine YH.seq (YH.seg hE 2 ?_)
 have e1:(⟨p.f,p.r,List.take p.zs.length (List.drop 0 p.zs),p.bl,p.ca,p.pa,p.ha,p.fu⟩:Psn)=p:=by rw[List.drop_zero,List.take_length]
 refine ag (by rw[e1,hp,List.drop_zero,List.take_length];simp) ?_
 refine ae ?_
 rw[e1,hp]
 refine YH.block (YH.loop (fun a:Nat×Bool=>((some a.1,a.2),[(0,.yl 0),(1,.ptr 1 0 0),(9,.sl 3 0 l.length none),(10,I l.length),(11,I a.1)],
   [.gone,.cells false [I p.f,I p.r,.sl 2 0 p.zs.length none,Bb p.bl,.int .u8 p.ca,I p.pa,I p.ha,I p.fu],.ints false .i8 p.zs,match a.2 with|true=>.ints false .u8 l|false=>.ints true .u8 l]))
  (fun a=>a.1<=l.length) (fun a=>l.length-a.1) (0,false) rfl (Ent.ren [0,1,2,3] [0,1,9,10,11] rfl rfl rfl) (Nat.zero_le _) ?_)
 rintro⟨j,hd⟩ i1
 cases hd
 all_goals
  dsimp only at i1 ⊢
  refine YH.seq (YH.seg hE 2 ?_)
  repeat (first|refine ah ?_|refine ag (by first|rfl|exact tt1 _ _|exact tt5 _ _|(simp;done)|(simp;omega)) ?_)
  refine ae ?_
  refine YH.seq (YH.seg hE 2 ?_)
  refine ax (fun h1=>ae ?_) (fun h1=>ae ?_)
  ·have hj:j<l.length:=by have h1:=of_decide_eq_true h1;omega
   have hw:IntKind.i64.wrap ((j:Int)+1)=((j+1:Nat):Int):=aK (by omega) (by omega)
   have hx:l.getD (j:Int).toNat 0=l[j]:=by simp[List.getD,hj]
   obtain⟨ha1,ha2⟩:=hall l[j] (List.getElem_mem hj)
   refine YH.seq (YH.block (YH.seq (YH.seg hE 2 ?_)))
   repeat (first|refine ah ?_|refine ag (by first|rfl|exact tt1 _ _|exact tt5 _ _|(simp;done)|(simp;omega)) ?_)
   refine ae ?_
   refine YH.seq (YH.seg hE 2 ?_)
   have hx':l.getD (addN 0 ((j:Nat):Int).toNat) 0=l[j]:=hx
   refine ag (by rw[hx',e1,List.drop_zero,List.take_length,ha1];simp) ?_
   refine ae ?_
   rw[hx',e1]
   have hfx:fmX p l[j]=(((ptxt ((ypos l[j] p).getD ⟨0,0,[],false,0,0,0,0⟩)).getD ([],0)).1,(ypos l[j] p).getD ⟨0,0,[],false,0,0,0,0⟩,l[j]):=rfl
   rw[hfx]at ha2
   generalize (ypos l[j] p).getD ⟨0,0,[],false,0,0,0,0⟩=q at hfx ha2 ⊢
   dsimp only at ha2
   have e2:(⟨q.f,q.r,List.take q.zs.length (List.drop 0 q.zs),q.bl,q.ca,q.pa,q.ha,q.fu⟩:Psn)=q:=by rw[List.drop_zero,List.take_length]
   refine YH.seq (YH.seg hE 2 ?_)
   refine ag (by rw[e2,List.drop_zero,List.take_length,ha2];simp) ?_
   repeat (first|refine ah ?_|refine ag (by first|rfl|(simp;done)) ?_)
   refine ae ?_
   rw[e2]
   refine YH.seq (YH.yregAt ok 2 5 rfl rfl rfl ?_)
   repeat (first|refine ah ?_|refine ag (by first|rfl|exact tt1 _ _|exact tt5 _ _|(simp;done)|(simp;omega)) ?_)
   refine ae ?_
   have hg:(l.map fun y=>(EO (fmX p y),fmNs (fmX p y)))[j]?=some (EO (fmX p l[j]),fmNs (fmX p l[j])):=by rw[List.getElem?_map,List.getElem?_eq_getElem hj];rfl
   rw[hfx]at hg
   first
    |refine⟨j,_,_,[0,1,9,10,11],[3,4],_,rfl,hg,rfl,rfl,rfl,rfl,rfl,rfl,rfl,rfl,fun b=>?_⟩
    |refine⟨j,_,_,[0,1,9,10,11],[4],_,rfl,hg,rfl,rfl,rfl,rfl,rfl,rfl,rfl,rfl,fun b=>?_⟩
   cases b with
   |true=>
    repeat (first|refine ah ?_|refine ag (by first|rfl|exact tt1 _ _|exact tt5 _ _|(simp;done)|(simp;omega)) ?_)
    refine ae ?_
    refine YH.seg hE 2 ?_
    repeat (first|refine ah ?_|refine ag (by first|rfl|exact tt1 _ _|exact tt5 _ _|(simp;done)|(simp;omega)) ?_)
    refine ae ?_
    refine YH.seg hE 2 ?_
    repeat (first|refine ah ?_|refine ag (by first|rfl|exact tt1 _ _|exact tt5 _ _|(simp;done)|(simp;omega)) ?_)
    refine ae ⟨(j+1,true),hj,by dsimp only;omega,rfl,?_⟩
    dsimp only
    rw[hw]
    exact Ent.ren [0,1,2,3] [0,1,9,10,11] rfl rfl rfl
   |false=>
    repeat (first|refine ah ?_|refine ag (by first|rfl|exact tt1 _ _|exact tt5 _ _|(simp;done)|(simp;omega)) ?_)
    refine ae ?_
    refine YH.seg hE 2 ?_
    repeat (first|refine ah ?_|refine ag (by first|rfl|exact tt1 _ _|exact tt5 _ _|(simp;done)|(simp;omega)) ?_)
    exact ae ⟨.inr rfl,.inr rfl⟩
  ·have hj:j=l.length:=by have h1:=of_decide_eq_false h1;omega
   refine⟨.inl rfl,.inl ?_⟩
   dsimp only
   rw[hj,List.length_map]
section
variable{kCa kDb:Bool}
structure Frm where
 t:List UInt8
 f:Int
 r:Int
 zs:List Int
 bl:Bool
 ca:Int
 pa:Int
 ha:Int
 fu:Int
 y:Int
def ycl(a:Frm)(b:Frm):Option (Int):=aN (cmpS a.t b.t) 0 fun(y4:Int)=>some y4
def Kh(R:Int):V:=.int .i64 R
def JP(_:Int):List O:=[]
def Fs:CF
 |[.agg [.str a_0,.int .i64 a_1,.int .i64 a_2,.sl 0 0 a_3n none,.bool a_4,.int .u8 a_5,.int .i64 a_6,.int .i64 a_7,.int .i64 a_8,.int .u8 a_9],.agg [.str b_0,.int .i64 b_1,.int .i64 b_2,.sl 1 0 b_3n none,.bool b_4,.int .u8 b_5,.int .i64 b_6,.int .i64 b_7,.int .i64 b_8,.int .u8 b_9]],[.ints false .i8 a_3,.ints false .i8 b_3]=>retC (decide (a_3n=a_3.length)&&decide (b_3n=b_3.length)) (ycl ⟨a_0,a_1,a_2,a_3,a_4,a_5,a_6,a_7,a_8,a_9⟩ ⟨b_0,b_1,b_2,b_3,b_4,b_5,b_6,b_7,b_8,b_9⟩) 0 Kh JP
 |_,_=>none
theorem Ih(a:Frm)(b:Frm){r}(hr:ycl a b=some r):aj (GGx kCa kDb) PP 51 [.agg [.str a.t,.int .i64 a.f,.int .i64 a.r,.sl 0 0 a.zs.length none,Bb a.bl,.int .u8 a.ca,.int .i64 a.pa,.int .i64 a.ha,.int .i64 a.fu,.int .u8 a.y],.agg [.str b.t,.int .i64 b.f,.int .i64 b.r,.sl 1 0 b.zs.length none,Bb b.bl,.int .u8 b.ca,.int .i64 b.pa,.int .i64 b.ha,.int .i64 b.fu,.int .u8 b.y]] [.ints false .i8 a.zs,.ints false .i8 b.zs] (Kh r) (JP r):=by
 have hE:=cutE (aF (kCa:=kCa) (kDb:=kDb) (cts:=[(52,zw)]) (inl:=[]) ⟨Dj,trivial⟩ trivial)
 refine bn hE 2 Tryz.func51 rfl rfl Kh JP hr ?_ rfl rfl
 unfold ycl
 refine aq (pl rfl id) ?_
 exact aB (aD [] (.inr rfl) rfl rfl rfl rfl rfl)
theorem FQ:CtOk (GGx kCa kDb) PP (51,Fs):=by
 refine aG Tryz.func51 (by kernel_rfl) rfl fun a0 h0 c0 v0 N0 e hc=>?_
 unfold Fs at e
 split at e
 ·rename_i a_0 a_1 a_2 a_3n a_4 a_5 a_6 a_7 a_8 a_9 b_0 b_1 b_2 b_3n b_4 b_5 b_6 b_7 b_8 b_9 a_3 b_3
  obtain⟨hl,r,hr,rfl,rfl⟩:=aQ e hc
  simp only[Bool.and_eq_true,decide_eq_true_eq]at hl
  obtain⟨rfl,rfl⟩:=hl
  exact Ih ⟨a_0,a_1,a_2,a_3,a_4,a_5,a_6,a_7,a_8,a_9⟩ ⟨b_0,b_1,b_2,b_3,b_4,b_5,b_6,b_7,b_8,b_9⟩ hr
 ·cases e
end
end Go.Ab
set_option maxHeartbeats 40000000
namespace Go.Ab
open Go.Proofs
section
variable{E:Env}{P:Program}{N:Nat}{tm:Tm}{hp:List O}{α:Type}{R:α->Exit->Tm->List O->Prop}{K:Option α}
theorem Good.entR{G:List O}{μ:Nat}{c:Code}{Q:Exit->Tm->List O->Prop}(h:Good G P μ N c tm hp fun e tm' hp'=>∃ tm1 hp1,Ent G μ tm' hp' tm1 hp1/\Q e tm1 hp1):Good G P μ N c tm hp Q:=by
 intro B w0 S D gs ρ a w n ro hro hr
 refine wpIn_mono (h B w0 S D gs ρ a w n ro hro hr) ?_
 rintro e a' w' ⟨tm',hp',ρ',h1,h2,tm1,hp1,h3,h4⟩
 obtain⟨ρ2,l1,h5⟩:=h1.ent h3
 exact⟨tm1,hp1,ρ2,h5,Ren.leB_trans h2 l1,h4⟩
theorem sQ(hE:E.Fn P)(n m:Nat){μ:Nat}{body:Code}{Q:Exit->Tm->List O->Prop}(h:rnds E P n μ N body Q m tm hp):Good E.G P μ N (.loop body) tm hp Q:=by
 cases m with
 |zero=>exact h.elim
 |succ m=>
 refine Good.loop (fun j tm hp=>rnds E P n μ N body Q (j+1) tm hp) (m:=m) h ?_
 intro j tm1 hp1 hj
 refine(cW hE.mixed hE.ok (eW hE) (dM hE) (cn hE n) body _ _ _ _ hj).mono ?_
 intro e tm2 hp2 h
 cases e with
 |normal=>
  obtain⟨tm3,hp3,h1,h2⟩:=h
  cases j with
  |zero=>exact h2.elim
  |succ j=>exact⟨j,tm3,hp3,rfl,h1,h2⟩
 |_=>exact h
def bM(E:Env)(P:Program)(R:α->Exit->Tm->List O->Prop)(n μ N:Nat)(body:Code)(k:Exit->Tm->List O->T)(m:Nat)(K:Option α)(tm:Tm)(hp:List O):Prop:=
 ∀ r,K=some r->rnds E P n μ N body (fun e tm hp=>∃ tm1 hp1,Ent E.G μ tm hp tm1 hp1/\sat E.G P (R r) (k e tm1 hp1)) m tm hp
def RD(E:Env)(P:Program)(R:α->Exit->Tm->List O->Prop)(n μ N:Nat)(body:Code)(k:Exit->Tm->List O->T)(m:Nat)(r:α)(e:Exit)(tm:Tm)(hp:List O):Prop:=match e with
 |.normal=>∃ tm2 hp2,Ent E.G μ tm hp tm2 hp2/\rnds E P n μ N body (fun e tm hp=>∃ tm1 hp1,Ent E.G μ tm hp tm1 hp1/\sat E.G P (R r) (k e tm1 hp1)) m tm2 hp2
 |e=>∃ tm1 hp1,Ent E.G μ tm hp tm1 hp1/\sat E.G P (R r) (k e tm1 hp1)
theorem bW{n m μ:Nat}{body:Code}{k:Exit->Tm->List O->T}(h:satO E P (RD E P R n μ N body k m) K (evC E (hdl E n) μ N body tm hp .ret)):bM E P R n μ N body k (m+1) K tm hp:=fun r hr=>by
 refine rnd (dX ?_ (h r hr))
 intro e tm' hp' hq
 cases e with
 |normal=>exact hq
 |_=>exact hq
theorem aR{n m μ:Nat}{body:Code}{k:Exit->Tm->List O->T}{tm2:Tm}{hp2:List O}(he:Ent E.G μ tm hp tm2 hp2)(h:bM E P R n μ N body k m K tm2 hp2):satO E P (RD E P R n μ N body k m) K (.ret .normal tm hp):=fun r hr=>⟨tm2,hp2,he,h r hr⟩
theorem jd{n m μ i:Nat}{body:Code}{k:Exit->Tm->List O->T}{tm2:Tm}{hp2:List O}(he:Ent E.G μ tm hp tm2 hp2)(h:satO E P R K (k (.exit i) tm2 hp2)):satO E P (RD E P R n μ N body k m) K (.ret (.exit i) tm hp):=fun r hr=>⟨tm2,hp2,he,h r hr⟩
theorem xJ(hE:E.Fn P)(n m:Nat){μ:Nat}{body:Code}{k:Exit->Tm->List O->T}{tm2:Tm}{hp2:List O}(he:Ent E.G μ tm hp tm2 hp2)(h:bM E P R n μ N body k m K tm2 hp2):satO E P R K (.loop (.loop body) μ N tm hp k):=fun r hr=>
 ⟨fun e tm' hp'=>sat E.G P (R r) (k e tm' hp'),Good.ent he (Good.entR (sQ hE n m (h r hr))),fun _ _ _ h=>h⟩
theorem CN(hE:E.Fn P)(n μ':Nat){μ:Nat}{g:Operand}{ps:Array Tmp}{asg body:Code}{k:Exit->Tm->List O->T}{tm1:Tm}{hp1:List O}
  {f:FuncId} {caps capv:List V} {hc hid:List O} {L:List (List V×List O)} (sb:Nat) (bs ts:List Nat) (h0:Ent E.G μ tm hp tm1 hp1)
  (hsq:SqH E.G P f hc capv hid L) (hL:∀ x∈L,x.1.length=ps.size/\x.2.length<=50) (hent:dY P f)
  (hg:evA E tm1 g=.fn f caps) (hμ:Nat.ble μ μ'=true) (htl:limL μ' ((cZ tm1 ts).map (·.2))=true) (hpl:(bq asg&&bq body)=true) (hps:ps.toList.all (fun p=>Nat.blt p N)=true)
  (hh1:Nat.ble hid.length 1=true) (hsb:hid≠[]->(Nat.ble μ sb&&Nat.blt sb μ'&&((cZ tm1 ts).all (fun p=>notZ sb p.2))&&iq sb caps&&hp1.all (zJ sb))=true) (hhd:hid.all O.data=true)
  (I:Nat->List O->Prop) (hi:I 0 hp1) (hbs:(bs.all fun b=>Nat.blt b μ')=true) (hbl:bs.length=hc.length) (hcv:renL (hp1.length::bs) caps=some capv) (okcv:okZL (hc.length+1) capv=true) (hcov:covB hp1 caps bs=true)
  (hcap:∀ i hp',I i hp'->my hp' bs sb hid hc)
  (hround:∀ i vs ns hp',L[i]?=some (vs,ns)->I i hp'->sat E.G P (fun e tm2 hp2=>e=.normal/\sat E.G P (fun e _ hp3=>∃ hp4,Ent E.G μ' [] hp3 [] (eH hp4 sb hid)/\match e with
    |.normal=>I (i+1) hp4
    |_=>False) (evC E (hdl E n) μ' N body tm2 hp2 .ret)) (evC E (hdl E n) μ' N asg (putPs ps.toList (upL (hp'.length+hid.length) bs vs) (cZ tm1 ts)) (begH hp' sb hid ns) .ret))
  (hend:∀ hp',I L.length hp'->satO E P R K (k .normal (cZ tm1 ts) hp')) :
  satO E P R K (.loop (.rangeFunc g ps asg body) μ N tm hp k):=fun r hr=>by
 refine mN hE n μ' sb bs ts h0 hsq hL hent hg hμ htl hpl hps hh1 hsb hhd I (fun _ _=>False) hi hbs hbl hcv okcv hcov hcap (fun _ _ h=>h.elim) (fun i vs ns hp' h1 h2=>dX ?_ (hround i vs ns hp' h1 h2)) (fun hp' h=>hend hp' h r hr) (fun _ _ h=>h.elim)
 rintro e tm2 hp2 ⟨rfl,h3⟩
 refine⟨rfl,dX ?_ h3⟩
 rintro e tm3 hp3 ⟨hp4,h4,h5⟩
 refine⟨hp4,h4,?_⟩
 cases e with
 |normal=>exact h5
 |_=>exact h5.elim
end
def wS:Code->Option Code
 |.loop c=>some c
 |.seq a b=>match wS a with|some c=>some c|none=>wS b
 |.block _ c=>wS c
 |_=>none
noncomputable def bp:Code:=(wS (Tryz.f48.body.getD .skip)).getD .skip
noncomputable abbrev Ecan (kCa kDb:Bool):Env:=EE kCa kDb [(37,eJ),(51,Fs)] [(50,Tryz.f50),(49,Tryz.f49),(103,Tryz.f103),(48,Tryz.f48)]
abbrev Fmt:=List UInt8×Psn×Int
def minO(m:Fmt):List Fmt->Option Fmt
 |[]=>some m
 |x::r=>bif decide (Lib.compareBytes x.1 m.1<0)then minO x r else minO m r
def canV(x:Fmt):V:=.tup [.agg [I x.2.1.f,I x.2.1.r,.sl 1 0 x.2.1.zs.length none,Bb x.2.1.bl,.int .u8 x.2.1.ca,I x.2.1.pa,I x.2.1.ha,I x.2.1.fu],.int .u8 x.2.2,I 0]
def canN(x:Fmt):List O:=[.ints true .i8 x.2.1.zs]
section
variable{kCa kDb:Bool}{R:Fmt->Exit->Tm->List O->Prop}{k:Exit->Tm->List O->T}(p:Psn)(x0 x1 x2 x3 x4 x5 x6 x7:Fmt)
def ch8(p:Psn)(x0 x1 x2 x3 x4 x5 x6 x7:Fmt)(row:List V):List O:=[.ints false .i8 p.zs,.cells true [I p.f,I p.r,.sl 0 0 p.zs.length none,Bb p.bl,.int .u8 p.ca,I p.pa,I p.ha,I p.fu],.cells true [I 0,I 0,.nils,Bb false,.int .u8 0,I 0,I 0,I 0],.cells true [I p.f,I p.r,.sl 0 0 p.zs.length none,Bb p.bl,.int .u8 p.ca,I p.pa,I p.ha,I p.fu],.cells true [.sl 14 0 8 none],.gone,.ints true .i8 x0.2.1.zs,.ints true .i8 x1.2.1.zs,.ints true .i8 x2.2.1.zs,.ints true .i8 x3.2.1.zs,.ints true .i8 x4.2.1.zs,.ints true .i8 x5.2.1.zs,.ints true .i8 x6.2.1.zs,.ints true .i8 x7.2.1.zs,.vals true 10 [[.str x0.1,I x0.2.1.f,I x0.2.1.r,.sl 6 0 x0.2.1.zs.length none,Bb x0.2.1.bl,.int .u8 x0.2.1.ca,I x0.2.1.pa,I x0.2.1.ha,I x0.2.1.fu,.int .u8 x0.2.2],[.str x1.1,I x1.2.1.f,I x1.2.1.r,.sl 7 0 x1.2.1.zs.length none,Bb x1.2.1.bl,.int .u8 x1.2.1.ca,I x1.2.1.pa,I x1.2.1.ha,I x1.2.1.fu,.int .u8 x1.2.2],[.str x2.1,I x2.2.1.f,I x2.2.1.r,.sl 8 0 x2.2.1.zs.length none,Bb x2.2.1.bl,.int .u8 x2.2.1.ca,I x2.2.1.pa,I x2.2.1.ha,I x2.2.1.fu,.int .u8 x2.2.2],[.str x3.1,I x3.2.1.f,I x3.2.1.r,.sl 9 0 x3.2.1.zs.length none,Bb x3.2.1.bl,.int .u8 x3.2.1.ca,I x3.2.1.pa,I x3.2.1.ha,I x3.2.1.fu,.int .u8 x3.2.2],[.str x4.1,I x4.2.1.f,I x4.2.1.r,.sl 10 0 x4.2.1.zs.length none,Bb x4.2.1.bl,.int .u8 x4.2.1.ca,I x4.2.1.pa,I x4.2.1.ha,I x4.2.1.fu,.int .u8 x4.2.2],[.str x5.1,I x5.2.1.f,I x5.2.1.r,.sl 11 0 x5.2.1.zs.length none,Bb x5.2.1.bl,.int .u8 x5.2.1.ca,I x5.2.1.pa,I x5.2.1.ha,I x5.2.1.fu,.int .u8 x5.2.2],[.str x6.1,I x6.2.1.f,I x6.2.1.r,.sl 12 0 x6.2.1.zs.length none,Bb x6.2.1.bl,.int .u8 x6.2.1.ca,I x6.2.1.pa,I x6.2.1.ha,I x6.2.1.fu,.int .u8 x6.2.2],[.str x7.1,I x7.2.1.f,I x7.2.1.r,.sl 13 0 x7.2.1.zs.length none,Bb x7.2.1.bl,.int .u8 x7.2.1.ca,I x7.2.1.pa,I x7.2.1.ha,I x7.2.1.fu,.int .u8 x7.2.2]]]++[.cells true [.str [],I 0,I 0,.nils,Bb false,.int .u8 0,I 0,I 0,I 0,.int .u8 0],.cells true row]
def ct8(i:Nat):Tm:=[(0,.sl 14 0 8 none),(1,.fn 51 []),(4,.ptr 15 0 0),(5,.ptr 16 0 0),(6,I i)]
abbrev pP(kCa kDb:Bool)(R:Fmt->Exit->Tm->List O->Prop)(k:Exit->Tm->List O->T)(p:Psn)(x0 x1 x2 x3 x4 x5 x6 x7:Fmt):Prop:=satO (Ecan kCa kDb) PP R (some x0) (k (.exit 0) (ct8 8) (ch8 p x0 x1 x2 x3 x4 x5 x6 x7 [.str x0.1,I x0.2.1.f,I x0.2.1.r,.sl 6 0 x0.2.1.zs.length none,Bb x0.2.1.bl,.int .u8 x0.2.1.ca,I x0.2.1.pa,I x0.2.1.ha,I x0.2.1.fu,.int .u8 x0.2.2]))
abbrev qL(kCa kDb:Bool)(R:Fmt->Exit->Tm->List O->Prop)(k:Exit->Tm->List O->T)(p:Psn)(x0 x1 x2 x3 x4 x5 x6 x7:Fmt):Prop:=satO (Ecan kCa kDb) PP R (some x1) (k (.exit 0) (ct8 8) (ch8 p x0 x1 x2 x3 x4 x5 x6 x7 [.str x1.1,I x1.2.1.f,I x1.2.1.r,.sl 7 0 x1.2.1.zs.length none,Bb x1.2.1.bl,.int .u8 x1.2.1.ca,I x1.2.1.pa,I x1.2.1.ha,I x1.2.1.fu,.int .u8 x1.2.2]))
abbrev pc(kCa kDb:Bool)(R:Fmt->Exit->Tm->List O->Prop)(k:Exit->Tm->List O->T)(p:Psn)(x0 x1 x2 x3 x4 x5 x6 x7:Fmt):Prop:=satO (Ecan kCa kDb) PP R (some x2) (k (.exit 0) (ct8 8) (ch8 p x0 x1 x2 x3 x4 x5 x6 x7 [.str x2.1,I x2.2.1.f,I x2.2.1.r,.sl 8 0 x2.2.1.zs.length none,Bb x2.2.1.bl,.int .u8 x2.2.1.ca,I x2.2.1.pa,I x2.2.1.ha,I x2.2.1.fu,.int .u8 x2.2.2]))
abbrev kz(kCa kDb:Bool)(R:Fmt->Exit->Tm->List O->Prop)(k:Exit->Tm->List O->T)(p:Psn)(x0 x1 x2 x3 x4 x5 x6 x7:Fmt):Prop:=satO (Ecan kCa kDb) PP R (some x3) (k (.exit 0) (ct8 8) (ch8 p x0 x1 x2 x3 x4 x5 x6 x7 [.str x3.1,I x3.2.1.f,I x3.2.1.r,.sl 9 0 x3.2.1.zs.length none,Bb x3.2.1.bl,.int .u8 x3.2.1.ca,I x3.2.1.pa,I x3.2.1.ha,I x3.2.1.fu,.int .u8 x3.2.2]))
abbrev gO(kCa kDb:Bool)(R:Fmt->Exit->Tm->List O->Prop)(k:Exit->Tm->List O->T)(p:Psn)(x0 x1 x2 x3 x4 x5 x6 x7:Fmt):Prop:=satO (Ecan kCa kDb) PP R (some x4) (k (.exit 0) (ct8 8) (ch8 p x0 x1 x2 x3 x4 x5 x6 x7 [.str x4.1,I x4.2.1.f,I x4.2.1.r,.sl 10 0 x4.2.1.zs.length none,Bb x4.2.1.bl,.int .u8 x4.2.1.ca,I x4.2.1.pa,I x4.2.1.ha,I x4.2.1.fu,.int .u8 x4.2.2]))
abbrev eV(kCa kDb:Bool)(R:Fmt->Exit->Tm->List O->Prop)(k:Exit->Tm->List O->T)(p:Psn)(x0 x1 x2 x3 x4 x5 x6 x7:Fmt):Prop:=satO (Ecan kCa kDb) PP R (some x5) (k (.exit 0) (ct8 8) (ch8 p x0 x1 x2 x3 x4 x5 x6 x7 [.str x5.1,I x5.2.1.f,I x5.2.1.r,.sl 11 0 x5.2.1.zs.length none,Bb x5.2.1.bl,.int .u8 x5.2.1.ca,I x5.2.1.pa,I x5.2.1.ha,I x5.2.1.fu,.int .u8 x5.2.2]))
abbrev dz(kCa kDb:Bool)(R:Fmt->Exit->Tm->List O->Prop)(k:Exit->Tm->List O->T)(p:Psn)(x0 x1 x2 x3 x4 x5 x6 x7:Fmt):Prop:=satO (Ecan kCa kDb) PP R (some x6) (k (.exit 0) (ct8 8) (ch8 p x0 x1 x2 x3 x4 x5 x6 x7 [.str x6.1,I x6.2.1.f,I x6.2.1.r,.sl 12 0 x6.2.1.zs.length none,Bb x6.2.1.bl,.int .u8 x6.2.1.ca,I x6.2.1.pa,I x6.2.1.ha,I x6.2.1.fu,.int .u8 x6.2.2]))
abbrev cB(kCa kDb:Bool)(R:Fmt->Exit->Tm->List O->Prop)(k:Exit->Tm->List O->T)(p:Psn)(x0 x1 x2 x3 x4 x5 x6 x7:Fmt):Prop:=satO (Ecan kCa kDb) PP R (some x7) (k (.exit 0) (ct8 8) (ch8 p x0 x1 x2 x3 x4 x5 x6 x7 [.str x7.1,I x7.2.1.f,I x7.2.1.r,.sl 13 0 x7.2.1.zs.length none,Bb x7.2.1.bl,.int .u8 x7.2.1.ca,I x7.2.1.pa,I x7.2.1.ha,I x7.2.1.fu,.int .u8 x7.2.2]))
theorem HM(h0:pP kCa kDb R k p x0 x1 x2 x3 x4 x5 x6 x7):bM (Ecan kCa kDb) PP R 5 15 Tryz.f48.ntmps bp k 1 (minO x0 []) (ct8 8) (ch8 p x0 x1 x2 x3 x4 x5 x6 x7 [.str x0.1,I x0.2.1.f,I x0.2.1.r,.sl 6 0 x0.2.1.zs.length none,Bb x0.2.1.bl,.int .u8 x0.2.1.ca,I x0.2.1.pa,I x0.2.1.ha,I x0.2.1.fu,.int .u8 x0.2.2]):=by
 refine bW ?_
 refine jA rfl ?_
 exact jd (Ent.rn [0,1,2,3,4,5,6,7,8,9,10,11,12,13,14,15,16] [0,1,4,5,6] rfl rfl rfl rfl rfl) h0
theorem JD(h1:qL kCa kDb R k p x0 x1 x2 x3 x4 x5 x6 x7):bM (Ecan kCa kDb) PP R 5 15 Tryz.f48.ntmps bp k 1 (minO x1 []) (ct8 8) (ch8 p x0 x1 x2 x3 x4 x5 x6 x7 [.str x1.1,I x1.2.1.f,I x1.2.1.r,.sl 7 0 x1.2.1.zs.length none,Bb x1.2.1.bl,.int .u8 x1.2.1.ca,I x1.2.1.pa,I x1.2.1.ha,I x1.2.1.fu,.int .u8 x1.2.2]):=by
 refine bW ?_
 refine jA rfl ?_
 exact jd (Ent.rn [0,1,2,3,4,5,6,7,8,9,10,11,12,13,14,15,16] [0,1,4,5,6] rfl rfl rfl rfl rfl) h1
theorem Is(h2:pc kCa kDb R k p x0 x1 x2 x3 x4 x5 x6 x7):bM (Ecan kCa kDb) PP R 5 15 Tryz.f48.ntmps bp k 1 (minO x2 []) (ct8 8) (ch8 p x0 x1 x2 x3 x4 x5 x6 x7 [.str x2.1,I x2.2.1.f,I x2.2.1.r,.sl 8 0 x2.2.1.zs.length none,Bb x2.2.1.bl,.int .u8 x2.2.1.ca,I x2.2.1.pa,I x2.2.1.ha,I x2.2.1.fu,.int .u8 x2.2.2]):=by
 refine bW ?_
 refine jA rfl ?_
 exact jd (Ent.rn [0,1,2,3,4,5,6,7,8,9,10,11,12,13,14,15,16] [0,1,4,5,6] rfl rfl rfl rfl rfl) h2
theorem HW(h3:kz kCa kDb R k p x0 x1 x2 x3 x4 x5 x6 x7):bM (Ecan kCa kDb) PP R 5 15 Tryz.f48.ntmps bp k 1 (minO x3 []) (ct8 8) (ch8 p x0 x1 x2 x3 x4 x5 x6 x7 [.str x3.1,I x3.2.1.f,I x3.2.1.r,.sl 9 0 x3.2.1.zs.length none,Bb x3.2.1.bl,.int .u8 x3.2.1.ca,I x3.2.1.pa,I x3.2.1.ha,I x3.2.1.fu,.int .u8 x3.2.2]):=by
 refine bW ?_
 refine jA rfl ?_
 exact jd (Ent.rn [0,1,2,3,4,5,6,7,8,9,10,11,12,13,14,15,16] [0,1,4,5,6] rfl rfl rfl rfl rfl) h3
theorem JV(h4:gO kCa kDb R k p x0 x1 x2 x3 x4 x5 x6 x7):bM (Ecan kCa kDb) PP R 5 15 Tryz.f48.ntmps bp k 1 (minO x4 []) (ct8 8) (ch8 p x0 x1 x2 x3 x4 x5 x6 x7 [.str x4.1,I x4.2.1.f,I x4.2.1.r,.sl 10 0 x4.2.1.zs.length none,Bb x4.2.1.bl,.int .u8 x4.2.1.ca,I x4.2.1.pa,I x4.2.1.ha,I x4.2.1.fu,.int .u8 x4.2.2]):=by
 refine bW ?_
 refine jA rfl ?_
 exact jd (Ent.rn [0,1,2,3,4,5,6,7,8,9,10,11,12,13,14,15,16] [0,1,4,5,6] rfl rfl rfl rfl rfl) h4
theorem HO(h5:eV kCa kDb R k p x0 x1 x2 x3 x4 x5 x6 x7):bM (Ecan kCa kDb) PP R 5 15 Tryz.f48.ntmps bp k 1 (minO x5 []) (ct8 8) (ch8 p x0 x1 x2 x3 x4 x5 x6 x7 [.str x5.1,I x5.2.1.f,I x5.2.1.r,.sl 11 0 x5.2.1.zs.length none,Bb x5.2.1.bl,.int .u8 x5.2.1.ca,I x5.2.1.pa,I x5.2.1.ha,I x5.2.1.fu,.int .u8 x5.2.2]):=by
 refine bW ?_
 refine jA rfl ?_
 exact jd (Ent.rn [0,1,2,3,4,5,6,7,8,9,10,11,12,13,14,15,16] [0,1,4,5,6] rfl rfl rfl rfl rfl) h5
theorem Im(h6:dz kCa kDb R k p x0 x1 x2 x3 x4 x5 x6 x7):bM (Ecan kCa kDb) PP R 5 15 Tryz.f48.ntmps bp k 1 (minO x6 []) (ct8 8) (ch8 p x0 x1 x2 x3 x4 x5 x6 x7 [.str x6.1,I x6.2.1.f,I x6.2.1.r,.sl 12 0 x6.2.1.zs.length none,Bb x6.2.1.bl,.int .u8 x6.2.1.ca,I x6.2.1.pa,I x6.2.1.ha,I x6.2.1.fu,.int .u8 x6.2.2]):=by
 refine bW ?_
 refine jA rfl ?_
 exact jd (Ent.rn [0,1,2,3,4,5,6,7,8,9,10,11,12,13,14,15,16] [0,1,4,5,6] rfl rfl rfl rfl rfl) h6
theorem fZ(h7:cB kCa kDb R k p x0 x1 x2 x3 x4 x5 x6 x7):bM (Ecan kCa kDb) PP R 5 15 Tryz.f48.ntmps bp k 1 (minO x7 []) (ct8 8) (ch8 p x0 x1 x2 x3 x4 x5 x6 x7 [.str x7.1,I x7.2.1.f,I x7.2.1.r,.sl 13 0 x7.2.1.zs.length none,Bb x7.2.1.bl,.int .u8 x7.2.1.ca,I x7.2.1.pa,I x7.2.1.ha,I x7.2.1.fu,.int .u8 x7.2.2]):=by
 refine bW ?_
 refine jA rfl ?_
 exact jd (Ent.rn [0,1,2,3,4,5,6,7,8,9,10,11,12,13,14,15,16] [0,1,4,5,6] rfl rfl rfl rfl rfl) h7
theorem HD(h0:pP kCa kDb R k p x0 x1 x2 x3 x4 x5 x6 x7)(h7:cB kCa kDb R k p x0 x1 x2 x3 x4 x5 x6 x7):bM (Ecan kCa kDb) PP R 5 15 Tryz.f48.ntmps bp k 2 (minO x0 [x7]) (ct8 7) (ch8 p x0 x1 x2 x3 x4 x5 x6 x7 [.str x0.1,I x0.2.1.f,I x0.2.1.r,.sl 6 0 x0.2.1.zs.length none,Bb x0.2.1.bl,.int .u8 x0.2.1.ca,I x0.2.1.pa,I x0.2.1.ha,I x0.2.1.fu,.int .u8 x0.2.2]):=by
 refine bW ?_
 refine cK rfl ?_
 repeat refine af rfl ?_
 refine af (pa (pa (decide_eq_true (az rfl)) (decide_eq_true (az rfl))) rfl) ?_
 refine cJ ?_ ?_
 ·repeat refine af rfl ?_
  exact aR (Ent.rn [0,1,2,3,4,5,6,7,8,9,10,11,12,13,14,15,16] [0,1,4,5,6] rfl rfl rfl rfl rfl) (fZ p x0 x1 x2 x3 x4 x5 x6 x7 h7)
 ·repeat refine af rfl ?_
  exact aR (Ent.rn [0,1,2,3,4,5,6,7,8,9,10,11,12,13,14,15,16] [0,1,4,5,6] rfl rfl rfl rfl rfl) (HM p x0 x1 x2 x3 x4 x5 x6 x7 h0)
theorem Kn(h1:qL kCa kDb R k p x0 x1 x2 x3 x4 x5 x6 x7)(h7:cB kCa kDb R k p x0 x1 x2 x3 x4 x5 x6 x7):bM (Ecan kCa kDb) PP R 5 15 Tryz.f48.ntmps bp k 2 (minO x1 [x7]) (ct8 7) (ch8 p x0 x1 x2 x3 x4 x5 x6 x7 [.str x1.1,I x1.2.1.f,I x1.2.1.r,.sl 7 0 x1.2.1.zs.length none,Bb x1.2.1.bl,.int .u8 x1.2.1.ca,I x1.2.1.pa,I x1.2.1.ha,I x1.2.1.fu,.int .u8 x1.2.2]):=by
 refine bW ?_
 refine cK rfl ?_
 repeat refine af rfl ?_
 refine af (pa (pa (decide_eq_true (az rfl)) (decide_eq_true (az rfl))) rfl) ?_
 refine cJ ?_ ?_
 ·repeat refine af rfl ?_
  exact aR (Ent.rn [0,1,2,3,4,5,6,7,8,9,10,11,12,13,14,15,16] [0,1,4,5,6] rfl rfl rfl rfl rfl) (fZ p x0 x1 x2 x3 x4 x5 x6 x7 h7)
 ·repeat refine af rfl ?_
  exact aR (Ent.rn [0,1,2,3,4,5,6,7,8,9,10,11,12,13,14,15,16] [0,1,4,5,6] rfl rfl rfl rfl rfl) (JD p x0 x1 x2 x3 x4 x5 x6 x7 h1)
theorem Jv(h2:pc kCa kDb R k p x0 x1 x2 x3 x4 x5 x6 x7)(h7:cB kCa kDb R k p x0 x1 x2 x3 x4 x5 x6 x7):bM (Ecan kCa kDb) PP R 5 15 Tryz.f48.ntmps bp k 2 (minO x2 [x7]) (ct8 7) (ch8 p x0 x1 x2 x3 x4 x5 x6 x7 [.str x2.1,I x2.2.1.f,I x2.2.1.r,.sl 8 0 x2.2.1.zs.length none,Bb x2.2.1.bl,.int .u8 x2.2.1.ca,I x2.2.1.pa,I x2.2.1.ha,I x2.2.1.fu,.int .u8 x2.2.2]):=by
 refine bW ?_
 refine cK rfl ?_
 repeat refine af rfl ?_
 refine af (pa (pa (decide_eq_true (az rfl)) (decide_eq_true (az rfl))) rfl) ?_
 refine cJ ?_ ?_
 ·repeat refine af rfl ?_
  exact aR (Ent.rn [0,1,2,3,4,5,6,7,8,9,10,11,12,13,14,15,16] [0,1,4,5,6] rfl rfl rfl rfl rfl) (fZ p x0 x1 x2 x3 x4 x5 x6 x7 h7)
 ·repeat refine af rfl ?_
  exact aR (Ent.rn [0,1,2,3,4,5,6,7,8,9,10,11,12,13,14,15,16] [0,1,4,5,6] rfl rfl rfl rfl rfl) (Is p x0 x1 x2 x3 x4 x5 x6 x7 h2)
theorem HN(h3:kz kCa kDb R k p x0 x1 x2 x3 x4 x5 x6 x7)(h7:cB kCa kDb R k p x0 x1 x2 x3 x4 x5 x6 x7):bM (Ecan kCa kDb) PP R 5 15 Tryz.f48.ntmps bp k 2 (minO x3 [x7]) (ct8 7) (ch8 p x0 x1 x2 x3 x4 x5 x6 x7 [.str x3.1,I x3.2.1.f,I x3.2.1.r,.sl 9 0 x3.2.1.zs.length none,Bb x3.2.1.bl,.int .u8 x3.2.1.ca,I x3.2.1.pa,I x3.2.1.ha,I x3.2.1.fu,.int .u8 x3.2.2]):=by
 refine bW ?_
 refine cK rfl ?_
 repeat refine af rfl ?_
 refine af (pa (pa (decide_eq_true (az rfl)) (decide_eq_true (az rfl))) rfl) ?_
 refine cJ ?_ ?_
 ·repeat refine af rfl ?_
  exact aR (Ent.rn [0,1,2,3,4,5,6,7,8,9,10,11,12,13,14,15,16] [0,1,4,5,6] rfl rfl rfl rfl rfl) (fZ p x0 x1 x2 x3 x4 x5 x6 x7 h7)
 ·repeat refine af rfl ?_
  exact aR (Ent.rn [0,1,2,3,4,5,6,7,8,9,10,11,12,13,14,15,16] [0,1,4,5,6] rfl rfl rfl rfl rfl) (HW p x0 x1 x2 x3 x4 x5 x6 x7 h3)
theorem HI(h4:gO kCa kDb R k p x0 x1 x2 x3 x4 x5 x6 x7)(h7:cB kCa kDb R k p x0 x1 x2 x3 x4 x5 x6 x7):bM (Ecan kCa kDb) PP R 5 15 Tryz.f48.ntmps bp k 2 (minO x4 [x7]) (ct8 7) (ch8 p x0 x1 x2 x3 x4 x5 x6 x7 [.str x4.1,I x4.2.1.f,I x4.2.1.r,.sl 10 0 x4.2.1.zs.length none,Bb x4.2.1.bl,.int .u8 x4.2.1.ca,I x4.2.1.pa,I x4.2.1.ha,I x4.2.1.fu,.int .u8 x4.2.2]):=by
 refine bW ?_
 refine cK rfl ?_
 repeat refine af rfl ?_
 refine af (pa (pa (decide_eq_true (az rfl)) (decide_eq_true (az rfl))) rfl) ?_
 refine cJ ?_ ?_
 ·repeat refine af rfl ?_
  exact aR (Ent.rn [0,1,2,3,4,5,6,7,8,9,10,11,12,13,14,15,16] [0,1,4,5,6] rfl rfl rfl rfl rfl) (fZ p x0 x1 x2 x3 x4 x5 x6 x7 h7)
 ·repeat refine af rfl ?_
  exact aR (Ent.rn [0,1,2,3,4,5,6,7,8,9,10,11,12,13,14,15,16] [0,1,4,5,6] rfl rfl rfl rfl rfl) (JV p x0 x1 x2 x3 x4 x5 x6 x7 h4)
theorem IM(h5:eV kCa kDb R k p x0 x1 x2 x3 x4 x5 x6 x7)(h7:cB kCa kDb R k p x0 x1 x2 x3 x4 x5 x6 x7):bM (Ecan kCa kDb) PP R 5 15 Tryz.f48.ntmps bp k 2 (minO x5 [x7]) (ct8 7) (ch8 p x0 x1 x2 x3 x4 x5 x6 x7 [.str x5.1,I x5.2.1.f,I x5.2.1.r,.sl 11 0 x5.2.1.zs.length none,Bb x5.2.1.bl,.int .u8 x5.2.1.ca,I x5.2.1.pa,I x5.2.1.ha,I x5.2.1.fu,.int .u8 x5.2.2]):=by
 refine bW ?_
 refine cK rfl ?_
 repeat refine af rfl ?_
 refine af (pa (pa (decide_eq_true (az rfl)) (decide_eq_true (az rfl))) rfl) ?_
 refine cJ ?_ ?_
 ·repeat refine af rfl ?_
  exact aR (Ent.rn [0,1,2,3,4,5,6,7,8,9,10,11,12,13,14,15,16] [0,1,4,5,6] rfl rfl rfl rfl rfl) (fZ p x0 x1 x2 x3 x4 x5 x6 x7 h7)
 ·repeat refine af rfl ?_
  exact aR (Ent.rn [0,1,2,3,4,5,6,7,8,9,10,11,12,13,14,15,16] [0,1,4,5,6] rfl rfl rfl rfl rfl) (HO p x0 x1 x2 x3 x4 x5 x6 x7 h5)
theorem iY(h6:dz kCa kDb R k p x0 x1 x2 x3 x4 x5 x6 x7)(h7:cB kCa kDb R k p x0 x1 x2 x3 x4 x5 x6 x7):bM (Ecan kCa kDb) PP R 5 15 Tryz.f48.ntmps bp k 2 (minO x6 [x7]) (ct8 7) (ch8 p x0 x1 x2 x3 x4 x5 x6 x7 [.str x6.1,I x6.2.1.f,I x6.2.1.r,.sl 12 0 x6.2.1.zs.length none,Bb x6.2.1.bl,.int .u8 x6.2.1.ca,I x6.2.1.pa,I x6.2.1.ha,I x6.2.1.fu,.int .u8 x6.2.2]):=by
 refine bW ?_
 refine cK rfl ?_
 repeat refine af rfl ?_
 refine af (pa (pa (decide_eq_true (az rfl)) (decide_eq_true (az rfl))) rfl) ?_
 refine cJ ?_ ?_
 ·repeat refine af rfl ?_
  exact aR (Ent.rn [0,1,2,3,4,5,6,7,8,9,10,11,12,13,14,15,16] [0,1,4,5,6] rfl rfl rfl rfl rfl) (fZ p x0 x1 x2 x3 x4 x5 x6 x7 h7)
 ·repeat refine af rfl ?_
  exact aR (Ent.rn [0,1,2,3,4,5,6,7,8,9,10,11,12,13,14,15,16] [0,1,4,5,6] rfl rfl rfl rfl rfl) (Im p x0 x1 x2 x3 x4 x5 x6 x7 h6)
theorem Kg(h0:pP kCa kDb R k p x0 x1 x2 x3 x4 x5 x6 x7)(h6:dz kCa kDb R k p x0 x1 x2 x3 x4 x5 x6 x7)(h7:cB kCa kDb R k p x0 x1 x2 x3 x4 x5 x6 x7):bM (Ecan kCa kDb) PP R 5 15 Tryz.f48.ntmps bp k 3 (minO x0 [x6,x7]) (ct8 6) (ch8 p x0 x1 x2 x3 x4 x5 x6 x7 [.str x0.1,I x0.2.1.f,I x0.2.1.r,.sl 6 0 x0.2.1.zs.length none,Bb x0.2.1.bl,.int .u8 x0.2.1.ca,I x0.2.1.pa,I x0.2.1.ha,I x0.2.1.fu,.int .u8 x0.2.2]):=by
 refine bW ?_
 refine cK rfl ?_
 repeat refine af rfl ?_
 refine af (pa (pa (decide_eq_true (az rfl)) (decide_eq_true (az rfl))) rfl) ?_
 refine cJ ?_ ?_
 ·repeat refine af rfl ?_
  exact aR (Ent.rn [0,1,2,3,4,5,6,7,8,9,10,11,12,13,14,15,16] [0,1,4,5,6] rfl rfl rfl rfl rfl) (iY p x0 x1 x2 x3 x4 x5 x6 x7 h6 h7)
 ·repeat refine af rfl ?_
  exact aR (Ent.rn [0,1,2,3,4,5,6,7,8,9,10,11,12,13,14,15,16] [0,1,4,5,6] rfl rfl rfl rfl rfl) (HD p x0 x1 x2 x3 x4 x5 x6 x7 h0 h7)
theorem IU(h1:qL kCa kDb R k p x0 x1 x2 x3 x4 x5 x6 x7)(h6:dz kCa kDb R k p x0 x1 x2 x3 x4 x5 x6 x7)(h7:cB kCa kDb R k p x0 x1 x2 x3 x4 x5 x6 x7):bM (Ecan kCa kDb) PP R 5 15 Tryz.f48.ntmps bp k 3 (minO x1 [x6,x7]) (ct8 6) (ch8 p x0 x1 x2 x3 x4 x5 x6 x7 [.str x1.1,I x1.2.1.f,I x1.2.1.r,.sl 7 0 x1.2.1.zs.length none,Bb x1.2.1.bl,.int .u8 x1.2.1.ca,I x1.2.1.pa,I x1.2.1.ha,I x1.2.1.fu,.int .u8 x1.2.2]):=by
 refine bW ?_
 refine cK rfl ?_
 repeat refine af rfl ?_
 refine af (pa (pa (decide_eq_true (az rfl)) (decide_eq_true (az rfl))) rfl) ?_
 refine cJ ?_ ?_
 ·repeat refine af rfl ?_
  exact aR (Ent.rn [0,1,2,3,4,5,6,7,8,9,10,11,12,13,14,15,16] [0,1,4,5,6] rfl rfl rfl rfl rfl) (iY p x0 x1 x2 x3 x4 x5 x6 x7 h6 h7)
 ·repeat refine af rfl ?_
  exact aR (Ent.rn [0,1,2,3,4,5,6,7,8,9,10,11,12,13,14,15,16] [0,1,4,5,6] rfl rfl rfl rfl rfl) (Kn p x0 x1 x2 x3 x4 x5 x6 x7 h1 h7)
theorem IX(h2:pc kCa kDb R k p x0 x1 x2 x3 x4 x5 x6 x7)(h6:dz kCa kDb R k p x0 x1 x2 x3 x4 x5 x6 x7)(h7:cB kCa kDb R k p x0 x1 x2 x3 x4 x5 x6 x7):bM (Ecan kCa kDb) PP R 5 15 Tryz.f48.ntmps bp k 3 (minO x2 [x6,x7]) (ct8 6) (ch8 p x0 x1 x2 x3 x4 x5 x6 x7 [.str x2.1,I x2.2.1.f,I x2.2.1.r,.sl 8 0 x2.2.1.zs.length none,Bb x2.2.1.bl,.int .u8 x2.2.1.ca,I x2.2.1.pa,I x2.2.1.ha,I x2.2.1.fu,.int .u8 x2.2.2]):=by
 refine bW ?_
 refine cK rfl ?_
 repeat refine af rfl ?_
 refine af (pa (pa (decide_eq_true (az rfl)) (decide_eq_true (az rfl))) rfl) ?_
 refine cJ ?_ ?_
 ·repeat refine af rfl ?_
  exact aR (Ent.rn [0,1,2,3,4,5,6,7,8,9,10,11,12,13,14,15,16] [0,1,4,5,6] rfl rfl rfl rfl rfl) (iY p x0 x1 x2 x3 x4 x5 x6 x7 h6 h7)
 ·repeat refine af rfl ?_
  exact aR (Ent.rn [0,1,2,3,4,5,6,7,8,9,10,11,12,13,14,15,16] [0,1,4,5,6] rfl rfl rfl rfl rfl) (Jv p x0 x1 x2 x3 x4 x5 x6 x7 h2 h7)
theorem Ie(h3:kz kCa kDb R k p x0 x1 x2 x3 x4 x5 x6 x7)(h6:dz kCa kDb R k p x0 x1 x2 x3 x4 x5 x6 x7)(h7:cB kCa kDb R k p x0 x1 x2 x3 x4 x5 x6 x7):bM (Ecan kCa kDb) PP R 5 15 Tryz.f48.ntmps bp k 3 (minO x3 [x6,x7]) (ct8 6) (ch8 p x0 x1 x2 x3 x4 x5 x6 x7 [.str x3.1,I x3.2.1.f,I x3.2.1.r,.sl 9 0 x3.2.1.zs.length none,Bb x3.2.1.bl,.int .u8 x3.2.1.ca,I x3.2.1.pa,I x3.2.1.ha,I x3.2.1.fu,.int .u8 x3.2.2]):=by
 refine bW ?_
 refine cK rfl ?_
 repeat refine af rfl ?_
 refine af (pa (pa (decide_eq_true (az rfl)) (decide_eq_true (az rfl))) rfl) ?_
 refine cJ ?_ ?_
 ·repeat refine af rfl ?_
  exact aR (Ent.rn [0,1,2,3,4,5,6,7,8,9,10,11,12,13,14,15,16] [0,1,4,5,6] rfl rfl rfl rfl rfl) (iY p x0 x1 x2 x3 x4 x5 x6 x7 h6 h7)
 ·repeat refine af rfl ?_
  exact aR (Ent.rn [0,1,2,3,4,5,6,7,8,9,10,11,12,13,14,15,16] [0,1,4,5,6] rfl rfl rfl rfl rfl) (HN p x0 x1 x2 x3 x4 x5 x6 x7 h3 h7)
theorem Km(h4:gO kCa kDb R k p x0 x1 x2 x3 x4 x5 x6 x7)(h6:dz kCa kDb R k p x0 x1 x2 x3 x4 x5 x6 x7)(h7:cB kCa kDb R k p x0 x1 x2 x3 x4 x5 x6 x7):bM (Ecan kCa kDb) PP R 5 15 Tryz.f48.ntmps bp k 3 (minO x4 [x6,x7]) (ct8 6) (ch8 p x0 x1 x2 x3 x4 x5 x6 x7 [.str x4.1,I x4.2.1.f,I x4.2.1.r,.sl 10 0 x4.2.1.zs.length none,Bb x4.2.1.bl,.int .u8 x4.2.1.ca,I x4.2.1.pa,I x4.2.1.ha,I x4.2.1.fu,.int .u8 x4.2.2]):=by
 refine bW ?_
 refine cK rfl ?_
 repeat refine af rfl ?_
 refine af (pa (pa (decide_eq_true (az rfl)) (decide_eq_true (az rfl))) rfl) ?_
 refine cJ ?_ ?_
 ·repeat refine af rfl ?_
  exact aR (Ent.rn [0,1,2,3,4,5,6,7,8,9,10,11,12,13,14,15,16] [0,1,4,5,6] rfl rfl rfl rfl rfl) (iY p x0 x1 x2 x3 x4 x5 x6 x7 h6 h7)
 ·repeat refine af rfl ?_
  exact aR (Ent.rn [0,1,2,3,4,5,6,7,8,9,10,11,12,13,14,15,16] [0,1,4,5,6] rfl rfl rfl rfl rfl) (HI p x0 x1 x2 x3 x4 x5 x6 x7 h4 h7)
theorem kQ(h5:eV kCa kDb R k p x0 x1 x2 x3 x4 x5 x6 x7)(h6:dz kCa kDb R k p x0 x1 x2 x3 x4 x5 x6 x7)(h7:cB kCa kDb R k p x0 x1 x2 x3 x4 x5 x6 x7):bM (Ecan kCa kDb) PP R 5 15 Tryz.f48.ntmps bp k 3 (minO x5 [x6,x7]) (ct8 6) (ch8 p x0 x1 x2 x3 x4 x5 x6 x7 [.str x5.1,I x5.2.1.f,I x5.2.1.r,.sl 11 0 x5.2.1.zs.length none,Bb x5.2.1.bl,.int .u8 x5.2.1.ca,I x5.2.1.pa,I x5.2.1.ha,I x5.2.1.fu,.int .u8 x5.2.2]):=by
 refine bW ?_
 refine cK rfl ?_
 repeat refine af rfl ?_
 refine af (pa (pa (decide_eq_true (az rfl)) (decide_eq_true (az rfl))) rfl) ?_
 refine cJ ?_ ?_
 ·repeat refine af rfl ?_
  exact aR (Ent.rn [0,1,2,3,4,5,6,7,8,9,10,11,12,13,14,15,16] [0,1,4,5,6] rfl rfl rfl rfl rfl) (iY p x0 x1 x2 x3 x4 x5 x6 x7 h6 h7)
 ·repeat refine af rfl ?_
  exact aR (Ent.rn [0,1,2,3,4,5,6,7,8,9,10,11,12,13,14,15,16] [0,1,4,5,6] rfl rfl rfl rfl rfl) (IM p x0 x1 x2 x3 x4 x5 x6 x7 h5 h7)
theorem Kl(h0:pP kCa kDb R k p x0 x1 x2 x3 x4 x5 x6 x7)(h5:eV kCa kDb R k p x0 x1 x2 x3 x4 x5 x6 x7)(h6:dz kCa kDb R k p x0 x1 x2 x3 x4 x5 x6 x7)(h7:cB kCa kDb R k p x0 x1 x2 x3 x4 x5 x6 x7):bM (Ecan kCa kDb) PP R 5 15 Tryz.f48.ntmps bp k 4 (minO x0 [x5,x6,x7]) (ct8 5) (ch8 p x0 x1 x2 x3 x4 x5 x6 x7 [.str x0.1,I x0.2.1.f,I x0.2.1.r,.sl 6 0 x0.2.1.zs.length none,Bb x0.2.1.bl,.int .u8 x0.2.1.ca,I x0.2.1.pa,I x0.2.1.ha,I x0.2.1.fu,.int .u8 x0.2.2]):=by
 refine bW ?_
 refine cK rfl ?_
 repeat refine af rfl ?_
 refine af (pa (pa (decide_eq_true (az rfl)) (decide_eq_true (az rfl))) rfl) ?_
 refine cJ ?_ ?_
 ·repeat refine af rfl ?_
  exact aR (Ent.rn [0,1,2,3,4,5,6,7,8,9,10,11,12,13,14,15,16] [0,1,4,5,6] rfl rfl rfl rfl rfl) (kQ p x0 x1 x2 x3 x4 x5 x6 x7 h5 h6 h7)
 ·repeat refine af rfl ?_
  exact aR (Ent.rn [0,1,2,3,4,5,6,7,8,9,10,11,12,13,14,15,16] [0,1,4,5,6] rfl rfl rfl rfl rfl) (Kg p x0 x1 x2 x3 x4 x5 x6 x7 h0 h6 h7)
theorem Ir(h1:qL kCa kDb R k p x0 x1 x2 x3 x4 x5 x6 x7)(h5:eV kCa kDb R k p x0 x1 x2 x3 x4 x5 x6 x7)(h6:dz kCa kDb R k p x0 x1 x2 x3 x4 x5 x6 x7)(h7:cB kCa kDb R k p x0 x1 x2 x3 x4 x5 x6 x7):bM (Ecan kCa kDb) PP R 5 15 Tryz.f48.ntmps bp k 4 (minO x1 [x5,x6,x7]) (ct8 5) (ch8 p x0 x1 x2 x3 x4 x5 x6 x7 [.str x1.1,I x1.2.1.f,I x1.2.1.r,.sl 7 0 x1.2.1.zs.length none,Bb x1.2.1.bl,.int .u8 x1.2.1.ca,I x1.2.1.pa,I x1.2.1.ha,I x1.2.1.fu,.int .u8 x1.2.2]):=by
 refine bW ?_
 refine cK rfl ?_
 repeat refine af rfl ?_
 refine af (pa (pa (decide_eq_true (az rfl)) (decide_eq_true (az rfl))) rfl) ?_
 refine cJ ?_ ?_
 ·repeat refine af rfl ?_
  exact aR (Ent.rn [0,1,2,3,4,5,6,7,8,9,10,11,12,13,14,15,16] [0,1,4,5,6] rfl rfl rfl rfl rfl) (kQ p x0 x1 x2 x3 x4 x5 x6 x7 h5 h6 h7)
 ·repeat refine af rfl ?_
  exact aR (Ent.rn [0,1,2,3,4,5,6,7,8,9,10,11,12,13,14,15,16] [0,1,4,5,6] rfl rfl rfl rfl rfl) (IU p x0 x1 x2 x3 x4 x5 x6 x7 h1 h6 h7)
theorem HG(h2:pc kCa kDb R k p x0 x1 x2 x3 x4 x5 x6 x7)(h5:eV kCa kDb R k p x0 x1 x2 x3 x4 x5 x6 x7)(h6:dz kCa kDb R k p x0 x1 x2 x3 x4 x5 x6 x7)(h7:cB kCa kDb R k p x0 x1 x2 x3 x4 x5 x6 x7):bM (Ecan kCa kDb) PP R 5 15 Tryz.f48.ntmps bp k 4 (minO x2 [x5,x6,x7]) (ct8 5) (ch8 p x0 x1 x2 x3 x4 x5 x6 x7 [.str x2.1,I x2.2.1.f,I x2.2.1.r,.sl 8 0 x2.2.1.zs.length none,Bb x2.2.1.bl,.int .u8 x2.2.1.ca,I x2.2.1.pa,I x2.2.1.ha,I x2.2.1.fu,.int .u8 x2.2.2]):=by
 refine bW ?_
 refine cK rfl ?_
 repeat refine af rfl ?_
 refine af (pa (pa (decide_eq_true (az rfl)) (decide_eq_true (az rfl))) rfl) ?_
 refine cJ ?_ ?_
 ·repeat refine af rfl ?_
  exact aR (Ent.rn [0,1,2,3,4,5,6,7,8,9,10,11,12,13,14,15,16] [0,1,4,5,6] rfl rfl rfl rfl rfl) (kQ p x0 x1 x2 x3 x4 x5 x6 x7 h5 h6 h7)
 ·repeat refine af rfl ?_
  exact aR (Ent.rn [0,1,2,3,4,5,6,7,8,9,10,11,12,13,14,15,16] [0,1,4,5,6] rfl rfl rfl rfl rfl) (IX p x0 x1 x2 x3 x4 x5 x6 x7 h2 h6 h7)
theorem Ht(h3:kz kCa kDb R k p x0 x1 x2 x3 x4 x5 x6 x7)(h5:eV kCa kDb R k p x0 x1 x2 x3 x4 x5 x6 x7)(h6:dz kCa kDb R k p x0 x1 x2 x3 x4 x5 x6 x7)(h7:cB kCa kDb R k p x0 x1 x2 x3 x4 x5 x6 x7):bM (Ecan kCa kDb) PP R 5 15 Tryz.f48.ntmps bp k 4 (minO x3 [x5,x6,x7]) (ct8 5) (ch8 p x0 x1 x2 x3 x4 x5 x6 x7 [.str x3.1,I x3.2.1.f,I x3.2.1.r,.sl 9 0 x3.2.1.zs.length none,Bb x3.2.1.bl,.int .u8 x3.2.1.ca,I x3.2.1.pa,I x3.2.1.ha,I x3.2.1.fu,.int .u8 x3.2.2]):=by
 refine bW ?_
 refine cK rfl ?_
 repeat refine af rfl ?_
 refine af (pa (pa (decide_eq_true (az rfl)) (decide_eq_true (az rfl))) rfl) ?_
 refine cJ ?_ ?_
 ·repeat refine af rfl ?_
  exact aR (Ent.rn [0,1,2,3,4,5,6,7,8,9,10,11,12,13,14,15,16] [0,1,4,5,6] rfl rfl rfl rfl rfl) (kQ p x0 x1 x2 x3 x4 x5 x6 x7 h5 h6 h7)
 ·repeat refine af rfl ?_
  exact aR (Ent.rn [0,1,2,3,4,5,6,7,8,9,10,11,12,13,14,15,16] [0,1,4,5,6] rfl rfl rfl rfl rfl) (Ie p x0 x1 x2 x3 x4 x5 x6 x7 h3 h6 h7)
theorem nw(h4:gO kCa kDb R k p x0 x1 x2 x3 x4 x5 x6 x7)(h5:eV kCa kDb R k p x0 x1 x2 x3 x4 x5 x6 x7)(h6:dz kCa kDb R k p x0 x1 x2 x3 x4 x5 x6 x7)(h7:cB kCa kDb R k p x0 x1 x2 x3 x4 x5 x6 x7):bM (Ecan kCa kDb) PP R 5 15 Tryz.f48.ntmps bp k 4 (minO x4 [x5,x6,x7]) (ct8 5) (ch8 p x0 x1 x2 x3 x4 x5 x6 x7 [.str x4.1,I x4.2.1.f,I x4.2.1.r,.sl 10 0 x4.2.1.zs.length none,Bb x4.2.1.bl,.int .u8 x4.2.1.ca,I x4.2.1.pa,I x4.2.1.ha,I x4.2.1.fu,.int .u8 x4.2.2]):=by
 refine bW ?_
 refine cK rfl ?_
 repeat refine af rfl ?_
 refine af (pa (pa (decide_eq_true (az rfl)) (decide_eq_true (az rfl))) rfl) ?_
 refine cJ ?_ ?_
 ·repeat refine af rfl ?_
  exact aR (Ent.rn [0,1,2,3,4,5,6,7,8,9,10,11,12,13,14,15,16] [0,1,4,5,6] rfl rfl rfl rfl rfl) (kQ p x0 x1 x2 x3 x4 x5 x6 x7 h5 h6 h7)
 ·repeat refine af rfl ?_
  exact aR (Ent.rn [0,1,2,3,4,5,6,7,8,9,10,11,12,13,14,15,16] [0,1,4,5,6] rfl rfl rfl rfl rfl) (Km p x0 x1 x2 x3 x4 x5 x6 x7 h4 h6 h7)
theorem HS(h0:pP kCa kDb R k p x0 x1 x2 x3 x4 x5 x6 x7)(h4:gO kCa kDb R k p x0 x1 x2 x3 x4 x5 x6 x7)(h5:eV kCa kDb R k p x0 x1 x2 x3 x4 x5 x6 x7)(h6:dz kCa kDb R k p x0 x1 x2 x3 x4 x5 x6 x7)(h7:cB kCa kDb R k p x0 x1 x2 x3 x4 x5 x6 x7):bM (Ecan kCa kDb) PP R 5 15 Tryz.f48.ntmps bp k 5 (minO x0 [x4,x5,x6,x7]) (ct8 4) (ch8 p x0 x1 x2 x3 x4 x5 x6 x7 [.str x0.1,I x0.2.1.f,I x0.2.1.r,.sl 6 0 x0.2.1.zs.length none,Bb x0.2.1.bl,.int .u8 x0.2.1.ca,I x0.2.1.pa,I x0.2.1.ha,I x0.2.1.fu,.int .u8 x0.2.2]):=by
 refine bW ?_
 refine cK rfl ?_
 repeat refine af rfl ?_
 refine af (pa (pa (decide_eq_true (az rfl)) (decide_eq_true (az rfl))) rfl) ?_
 refine cJ ?_ ?_
 ·repeat refine af rfl ?_
  exact aR (Ent.rn [0,1,2,3,4,5,6,7,8,9,10,11,12,13,14,15,16] [0,1,4,5,6] rfl rfl rfl rfl rfl) (nw p x0 x1 x2 x3 x4 x5 x6 x7 h4 h5 h6 h7)
 ·repeat refine af rfl ?_
  exact aR (Ent.rn [0,1,2,3,4,5,6,7,8,9,10,11,12,13,14,15,16] [0,1,4,5,6] rfl rfl rfl rfl rfl) (Kl p x0 x1 x2 x3 x4 x5 x6 x7 h0 h5 h6 h7)
theorem HA(h1:qL kCa kDb R k p x0 x1 x2 x3 x4 x5 x6 x7)(h4:gO kCa kDb R k p x0 x1 x2 x3 x4 x5 x6 x7)(h5:eV kCa kDb R k p x0 x1 x2 x3 x4 x5 x6 x7)(h6:dz kCa kDb R k p x0 x1 x2 x3 x4 x5 x6 x7)(h7:cB kCa kDb R k p x0 x1 x2 x3 x4 x5 x6 x7):bM (Ecan kCa kDb) PP R 5 15 Tryz.f48.ntmps bp k 5 (minO x1 [x4,x5,x6,x7]) (ct8 4) (ch8 p x0 x1 x2 x3 x4 x5 x6 x7 [.str x1.1,I x1.2.1.f,I x1.2.1.r,.sl 7 0 x1.2.1.zs.length none,Bb x1.2.1.bl,.int .u8 x1.2.1.ca,I x1.2.1.pa,I x1.2.1.ha,I x1.2.1.fu,.int .u8 x1.2.2]):=by
 refine bW ?_
 refine cK rfl ?_
 repeat refine af rfl ?_
 refine af (pa (pa (decide_eq_true (az rfl)) (decide_eq_true (az rfl))) rfl) ?_
 refine cJ ?_ ?_
 ·repeat refine af rfl ?_
  exact aR (Ent.rn [0,1,2,3,4,5,6,7,8,9,10,11,12,13,14,15,16] [0,1,4,5,6] rfl rfl rfl rfl rfl) (nw p x0 x1 x2 x3 x4 x5 x6 x7 h4 h5 h6 h7)
 ·repeat refine af rfl ?_
  exact aR (Ent.rn [0,1,2,3,4,5,6,7,8,9,10,11,12,13,14,15,16] [0,1,4,5,6] rfl rfl rfl rfl rfl) (Ir p x0 x1 x2 x3 x4 x5 x6 x7 h1 h5 h6 h7)
theorem IG(h2:pc kCa kDb R k p x0 x1 x2 x3 x4 x5 x6 x7)(h4:gO kCa kDb R k p x0 x1 x2 x3 x4 x5 x6 x7)(h5:eV kCa kDb R k p x0 x1 x2 x3 x4 x5 x6 x7)(h6:dz kCa kDb R k p x0 x1 x2 x3 x4 x5 x6 x7)(h7:cB kCa kDb R k p x0 x1 x2 x3 x4 x5 x6 x7):bM (Ecan kCa kDb) PP R 5 15 Tryz.f48.ntmps bp k 5 (minO x2 [x4,x5,x6,x7]) (ct8 4) (ch8 p x0 x1 x2 x3 x4 x5 x6 x7 [.str x2.1,I x2.2.1.f,I x2.2.1.r,.sl 8 0 x2.2.1.zs.length none,Bb x2.2.1.bl,.int .u8 x2.2.1.ca,I x2.2.1.pa,I x2.2.1.ha,I x2.2.1.fu,.int .u8 x2.2.2]):=by
 refine bW ?_
 refine cK rfl ?_
 repeat refine af rfl ?_
 refine af (pa (pa (decide_eq_true (az rfl)) (decide_eq_true (az rfl))) rfl) ?_
 refine cJ ?_ ?_
 ·repeat refine af rfl ?_
  exact aR (Ent.rn [0,1,2,3,4,5,6,7,8,9,10,11,12,13,14,15,16] [0,1,4,5,6] rfl rfl rfl rfl rfl) (nw p x0 x1 x2 x3 x4 x5 x6 x7 h4 h5 h6 h7)
 ·repeat refine af rfl ?_
  exact aR (Ent.rn [0,1,2,3,4,5,6,7,8,9,10,11,12,13,14,15,16] [0,1,4,5,6] rfl rfl rfl rfl rfl) (HG p x0 x1 x2 x3 x4 x5 x6 x7 h2 h5 h6 h7)
theorem uJ(h3:kz kCa kDb R k p x0 x1 x2 x3 x4 x5 x6 x7)(h4:gO kCa kDb R k p x0 x1 x2 x3 x4 x5 x6 x7)(h5:eV kCa kDb R k p x0 x1 x2 x3 x4 x5 x6 x7)(h6:dz kCa kDb R k p x0 x1 x2 x3 x4 x5 x6 x7)(h7:cB kCa kDb R k p x0 x1 x2 x3 x4 x5 x6 x7):bM (Ecan kCa kDb) PP R 5 15 Tryz.f48.ntmps bp k 5 (minO x3 [x4,x5,x6,x7]) (ct8 4) (ch8 p x0 x1 x2 x3 x4 x5 x6 x7 [.str x3.1,I x3.2.1.f,I x3.2.1.r,.sl 9 0 x3.2.1.zs.length none,Bb x3.2.1.bl,.int .u8 x3.2.1.ca,I x3.2.1.pa,I x3.2.1.ha,I x3.2.1.fu,.int .u8 x3.2.2]):=by
 refine bW ?_
 refine cK rfl ?_
 repeat refine af rfl ?_
 refine af (pa (pa (decide_eq_true (az rfl)) (decide_eq_true (az rfl))) rfl) ?_
 refine cJ ?_ ?_
 ·repeat refine af rfl ?_
  exact aR (Ent.rn [0,1,2,3,4,5,6,7,8,9,10,11,12,13,14,15,16] [0,1,4,5,6] rfl rfl rfl rfl rfl) (nw p x0 x1 x2 x3 x4 x5 x6 x7 h4 h5 h6 h7)
 ·repeat refine af rfl ?_
  exact aR (Ent.rn [0,1,2,3,4,5,6,7,8,9,10,11,12,13,14,15,16] [0,1,4,5,6] rfl rfl rfl rfl rfl) (Ht p x0 x1 x2 x3 x4 x5 x6 x7 h3 h5 h6 h7)
theorem JS(h0:pP kCa kDb R k p x0 x1 x2 x3 x4 x5 x6 x7)(h3:kz kCa kDb R k p x0 x1 x2 x3 x4 x5 x6 x7)(h4:gO kCa kDb R k p x0 x1 x2 x3 x4 x5 x6 x7)(h5:eV kCa kDb R k p x0 x1 x2 x3 x4 x5 x6 x7)(h6:dz kCa kDb R k p x0 x1 x2 x3 x4 x5 x6 x7)(h7:cB kCa kDb R k p x0 x1 x2 x3 x4 x5 x6 x7):bM (Ecan kCa kDb) PP R 5 15 Tryz.f48.ntmps bp k 6 (minO x0 [x3,x4,x5,x6,x7]) (ct8 3) (ch8 p x0 x1 x2 x3 x4 x5 x6 x7 [.str x0.1,I x0.2.1.f,I x0.2.1.r,.sl 6 0 x0.2.1.zs.length none,Bb x0.2.1.bl,.int .u8 x0.2.1.ca,I x0.2.1.pa,I x0.2.1.ha,I x0.2.1.fu,.int .u8 x0.2.2]):=by
 refine bW ?_
 refine cK rfl ?_
 repeat refine af rfl ?_
 refine af (pa (pa (decide_eq_true (az rfl)) (decide_eq_true (az rfl))) rfl) ?_
 refine cJ ?_ ?_
 ·repeat refine af rfl ?_
  exact aR (Ent.rn [0,1,2,3,4,5,6,7,8,9,10,11,12,13,14,15,16] [0,1,4,5,6] rfl rfl rfl rfl rfl) (uJ p x0 x1 x2 x3 x4 x5 x6 x7 h3 h4 h5 h6 h7)
 ·repeat refine af rfl ?_
  exact aR (Ent.rn [0,1,2,3,4,5,6,7,8,9,10,11,12,13,14,15,16] [0,1,4,5,6] rfl rfl rfl rfl rfl) (HS p x0 x1 x2 x3 x4 x5 x6 x7 h0 h4 h5 h6 h7)
theorem Ip(h1:qL kCa kDb R k p x0 x1 x2 x3 x4 x5 x6 x7)(h3:kz kCa kDb R k p x0 x1 x2 x3 x4 x5 x6 x7)(h4:gO kCa kDb R k p x0 x1 x2 x3 x4 x5 x6 x7)(h5:eV kCa kDb R k p x0 x1 x2 x3 x4 x5 x6 x7)(h6:dz kCa kDb R k p x0 x1 x2 x3 x4 x5 x6 x7)(h7:cB kCa kDb R k p x0 x1 x2 x3 x4 x5 x6 x7):bM (Ecan kCa kDb) PP R 5 15 Tryz.f48.ntmps bp k 6 (minO x1 [x3,x4,x5,x6,x7]) (ct8 3) (ch8 p x0 x1 x2 x3 x4 x5 x6 x7 [.str x1.1,I x1.2.1.f,I x1.2.1.r,.sl 7 0 x1.2.1.zs.length none,Bb x1.2.1.bl,.int .u8 x1.2.1.ca,I x1.2.1.pa,I x1.2.1.ha,I x1.2.1.fu,.int .u8 x1.2.2]):=by
 refine bW ?_
 refine cK rfl ?_
 repeat refine af rfl ?_
 refine af (pa (pa (decide_eq_true (az rfl)) (decide_eq_true (az rfl))) rfl) ?_
 refine cJ ?_ ?_
 ·repeat refine af rfl ?_
  exact aR (Ent.rn [0,1,2,3,4,5,6,7,8,9,10,11,12,13,14,15,16] [0,1,4,5,6] rfl rfl rfl rfl rfl) (uJ p x0 x1 x2 x3 x4 x5 x6 x7 h3 h4 h5 h6 h7)
 ·repeat refine af rfl ?_
  exact aR (Ent.rn [0,1,2,3,4,5,6,7,8,9,10,11,12,13,14,15,16] [0,1,4,5,6] rfl rfl rfl rfl rfl) (HA p x0 x1 x2 x3 x4 x5 x6 x7 h1 h4 h5 h6 h7)
theorem Cv(h2:pc kCa kDb R k p x0 x1 x2 x3 x4 x5 x6 x7)(h3:kz kCa kDb R k p x0 x1 x2 x3 x4 x5 x6 x7)(h4:gO kCa kDb R k p x0 x1 x2 x3 x4 x5 x6 x7)(h5:eV kCa kDb R k p x0 x1 x2 x3 x4 x5 x6 x7)(h6:dz kCa kDb R k p x0 x1 x2 x3 x4 x5 x6 x7)(h7:cB kCa kDb R k p x0 x1 x2 x3 x4 x5 x6 x7):bM (Ecan kCa kDb) PP R 5 15 Tryz.f48.ntmps bp k 6 (minO x2 [x3,x4,x5,x6,x7]) (ct8 3) (ch8 p x0 x1 x2 x3 x4 x5 x6 x7 [.str x2.1,I x2.2.1.f,I x2.2.1.r,.sl 8 0 x2.2.1.zs.length none,Bb x2.2.1.bl,.int .u8 x2.2.1.ca,I x2.2.1.pa,I x2.2.1.ha,I x2.2.1.fu,.int .u8 x2.2.2]):=by
 refine bW ?_
 refine cK rfl ?_
 repeat refine af rfl ?_
 refine af (pa (pa (decide_eq_true (az rfl)) (decide_eq_true (az rfl))) rfl) ?_
 refine cJ ?_ ?_
 ·repeat refine af rfl ?_
  exact aR (Ent.rn [0,1,2,3,4,5,6,7,8,9,10,11,12,13,14,15,16] [0,1,4,5,6] rfl rfl rfl rfl rfl) (uJ p x0 x1 x2 x3 x4 x5 x6 x7 h3 h4 h5 h6 h7)
 ·repeat refine af rfl ?_
  exact aR (Ent.rn [0,1,2,3,4,5,6,7,8,9,10,11,12,13,14,15,16] [0,1,4,5,6] rfl rfl rfl rfl rfl) (IG p x0 x1 x2 x3 x4 x5 x6 x7 h2 h4 h5 h6 h7)
theorem Ib(h0:pP kCa kDb R k p x0 x1 x2 x3 x4 x5 x6 x7)(h2:pc kCa kDb R k p x0 x1 x2 x3 x4 x5 x6 x7)(h3:kz kCa kDb R k p x0 x1 x2 x3 x4 x5 x6 x7)(h4:gO kCa kDb R k p x0 x1 x2 x3 x4 x5 x6 x7)(h5:eV kCa kDb R k p x0 x1 x2 x3 x4 x5 x6 x7)(h6:dz kCa kDb R k p x0 x1 x2 x3 x4 x5 x6 x7)(h7:cB kCa kDb R k p x0 x1 x2 x3 x4 x5 x6 x7):bM (Ecan kCa kDb) PP R 5 15 Tryz.f48.ntmps bp k 7 (minO x0 [x2,x3,x4,x5,x6,x7]) (ct8 2) (ch8 p x0 x1 x2 x3 x4 x5 x6 x7 [.str x0.1,I x0.2.1.f,I x0.2.1.r,.sl 6 0 x0.2.1.zs.length none,Bb x0.2.1.bl,.int .u8 x0.2.1.ca,I x0.2.1.pa,I x0.2.1.ha,I x0.2.1.fu,.int .u8 x0.2.2]):=by
 refine bW ?_
 refine cK rfl ?_
 repeat refine af rfl ?_
 refine af (pa (pa (decide_eq_true (az rfl)) (decide_eq_true (az rfl))) rfl) ?_
 refine cJ ?_ ?_
 ·repeat refine af rfl ?_
  exact aR (Ent.rn [0,1,2,3,4,5,6,7,8,9,10,11,12,13,14,15,16] [0,1,4,5,6] rfl rfl rfl rfl rfl) (Cv p x0 x1 x2 x3 x4 x5 x6 x7 h2 h3 h4 h5 h6 h7)
 ·repeat refine af rfl ?_
  exact aR (Ent.rn [0,1,2,3,4,5,6,7,8,9,10,11,12,13,14,15,16] [0,1,4,5,6] rfl rfl rfl rfl rfl) (JS p x0 x1 x2 x3 x4 x5 x6 x7 h0 h3 h4 h5 h6 h7)
theorem JI(h1:qL kCa kDb R k p x0 x1 x2 x3 x4 x5 x6 x7)(h2:pc kCa kDb R k p x0 x1 x2 x3 x4 x5 x6 x7)(h3:kz kCa kDb R k p x0 x1 x2 x3 x4 x5 x6 x7)(h4:gO kCa kDb R k p x0 x1 x2 x3 x4 x5 x6 x7)(h5:eV kCa kDb R k p x0 x1 x2 x3 x4 x5 x6 x7)(h6:dz kCa kDb R k p x0 x1 x2 x3 x4 x5 x6 x7)(h7:cB kCa kDb R k p x0 x1 x2 x3 x4 x5 x6 x7):bM (Ecan kCa kDb) PP R 5 15 Tryz.f48.ntmps bp k 7 (minO x1 [x2,x3,x4,x5,x6,x7]) (ct8 2) (ch8 p x0 x1 x2 x3 x4 x5 x6 x7 [.str x1.1,I x1.2.1.f,I x1.2.1.r,.sl 7 0 x1.2.1.zs.length none,Bb x1.2.1.bl,.int .u8 x1.2.1.ca,I x1.2.1.pa,I x1.2.1.ha,I x1.2.1.fu,.int .u8 x1.2.2]):=by
 refine bW ?_
 refine cK rfl ?_
 repeat refine af rfl ?_
 refine af (pa (pa (decide_eq_true (az rfl)) (decide_eq_true (az rfl))) rfl) ?_
 refine cJ ?_ ?_
 ·repeat refine af rfl ?_
  exact aR (Ent.rn [0,1,2,3,4,5,6,7,8,9,10,11,12,13,14,15,16] [0,1,4,5,6] rfl rfl rfl rfl rfl) (Cv p x0 x1 x2 x3 x4 x5 x6 x7 h2 h3 h4 h5 h6 h7)
 ·repeat refine af rfl ?_
  exact aR (Ent.rn [0,1,2,3,4,5,6,7,8,9,10,11,12,13,14,15,16] [0,1,4,5,6] rfl rfl rfl rfl rfl) (Ip p x0 x1 x2 x3 x4 x5 x6 x7 h1 h3 h4 h5 h6 h7)
theorem Kc(h0:pP kCa kDb R k p x0 x1 x2 x3 x4 x5 x6 x7)(h1:qL kCa kDb R k p x0 x1 x2 x3 x4 x5 x6 x7)(h2:pc kCa kDb R k p x0 x1 x2 x3 x4 x5 x6 x7)(h3:kz kCa kDb R k p x0 x1 x2 x3 x4 x5 x6 x7)(h4:gO kCa kDb R k p x0 x1 x2 x3 x4 x5 x6 x7)(h5:eV kCa kDb R k p x0 x1 x2 x3 x4 x5 x6 x7)(h6:dz kCa kDb R k p x0 x1 x2 x3 x4 x5 x6 x7)(h7:cB kCa kDb R k p x0 x1 x2 x3 x4 x5 x6 x7):bM (Ecan kCa kDb) PP R 5 15 Tryz.f48.ntmps bp k 8 (minO x0 [x1,x2,x3,x4,x5,x6,x7]) (ct8 1) (ch8 p x0 x1 x2 x3 x4 x5 x6 x7 [.str x0.1,I x0.2.1.f,I x0.2.1.r,.sl 6 0 x0.2.1.zs.length none,Bb x0.2.1.bl,.int .u8 x0.2.1.ca,I x0.2.1.pa,I x0.2.1.ha,I x0.2.1.fu,.int .u8 x0.2.2]):=by
 refine bW ?_
 refine cK rfl ?_
 repeat refine af rfl ?_
 refine af (pa (pa (decide_eq_true (az rfl)) (decide_eq_true (az rfl))) rfl) ?_
 refine cJ ?_ ?_
 ·repeat refine af rfl ?_
  exact aR (Ent.rn [0,1,2,3,4,5,6,7,8,9,10,11,12,13,14,15,16] [0,1,4,5,6] rfl rfl rfl rfl rfl) (JI p x0 x1 x2 x3 x4 x5 x6 x7 h1 h2 h3 h4 h5 h6 h7)
 ·repeat refine af rfl ?_
  exact aR (Ent.rn [0,1,2,3,4,5,6,7,8,9,10,11,12,13,14,15,16] [0,1,4,5,6] rfl rfl rfl rfl rfl) (Ib p x0 x1 x2 x3 x4 x5 x6 x7 h0 h2 h3 h4 h5 h6 h7)
end
theorem DZ{kCa kDb:Bool}(p:Psn)(l:List Int)(x0 x1 x2 x3 x4 x5 x6 x7:Fmt)(hok:p.ok=true)(hl:p.zs.length<=64)(hsq:SqH (GGx kCa kDb) PP 104 (fmHc p) [.ptr 1 0 0] [.ints true .u8 l] ([x0,x1,x2,x3,x4,x5,x6,x7].map fun x=>(EO x,fmNs x))){r}(hr:minO x0 [x1,x2,x3,x4,x5,x6,x7]=some r) :
  aj (GGx kCa kDb) PP 14 [.agg [I p.f,I p.r,.sl 0 0 p.zs.length none,Bb p.bl,.int .u8 p.ca,I p.pa,I p.ha,I p.fu]] [.ints false .i8 p.zs] (canV r) (canN r):=by
 have hE:=aF (kCa:=kCa) (kDb:=kDb) (cts:=[(37,eJ),(51,Fs)]) (inl:=[(50,Tryz.f50),(49,Tryz.f49),(103,Tryz.f103),(48,Tryz.f48)]) ⟨eI,FQ,trivial⟩ ⟨⟨Tryz.func50,by kernel_rfl⟩,⟨Tryz.func49,by kernel_rfl⟩,⟨Tryz.func103,by kernel_rfl⟩,⟨Tryz.func48,by kernel_rfl⟩,trivial⟩
 have e1:(⟨p.f,p.r,List.take p.zs.length (List.drop 0 p.zs),p.bl,p.ca,p.pa,p.ha,p.fu⟩:Psn)=p:=by rw[List.drop_zero,List.take_length]
 refine bn hE 5 Tryz.func14 rfl rfl canV canN hr ?_ rfl rfl
 refine af (by rw[List.drop_zero,List.take_length];simp[hl]) ?_
 refine jA (by rw[e1,hok];rfl) ?_
 refine CN hE 5 6 5 [3,0] [2,4] (tm1:=[(2,.ptr 4 0 0),(4,.nils),(6,.fn 104 [.ptr 3 0 0])]) (hp1:=[.ints false .i8 p.zs,.cells true [I p.f,I p.r,.sl 0 0 p.zs.length none,Bb p.bl,.int .u8 p.ca,I p.pa,I p.ha,I p.fu],.cells true [I 0,I 0,.nils,Bb false,.int .u8 0,I 0,I 0,I 0],.cells true [I p.f,I p.r,.sl 0 0 p.zs.length none,Bb p.bl,.int .u8 p.ca,I p.pa,I p.ha,I p.fu],.cells true [.sl 6 0 0 none],.gone,.vals true 10 []]) ((Ent.gap rfl rfl).trans ((Ent.phC 4 0 (.vals true 10 []) rfl rfl rfl rfl rfl).trans (Ent.rn [0,1,2,3,4,5,6] [2,4,6] rfl rfl rfl rfl rfl))) hsq ?_ (ent Tryz.func104 (by kernel_rfl) rfl) rfl rfl rfl rfl rfl rfl (fun _=>rfl) rfl
  (fun i hp'=>match i with
   |0=>hp'=[.ints false .i8 p.zs,.cells true [I p.f,I p.r,.sl 0 0 p.zs.length none,Bb p.bl,.int .u8 p.ca,I p.pa,I p.ha,I p.fu],.cells true [I 0,I 0,.nils,Bb false,.int .u8 0,I 0,I 0,I 0],.cells true [I p.f,I p.r,.sl 0 0 p.zs.length none,Bb p.bl,.int .u8 p.ca,I p.pa,I p.ha,I p.fu],.cells true [.sl 6 0 0 none],.gone,.vals true 10 []]
   |1=>hp'=[.ints false .i8 p.zs,.cells true [I p.f,I p.r,.sl 0 0 p.zs.length none,Bb p.bl,.int .u8 p.ca,I p.pa,I p.ha,I p.fu],.cells true [I 0,I 0,.nils,Bb false,.int .u8 0,I 0,I 0,I 0],.cells true [I p.f,I p.r,.sl 0 0 p.zs.length none,Bb p.bl,.int .u8 p.ca,I p.pa,I p.ha,I p.fu],.cells true [.sl 7 0 1 none],.gone,.ints true .i8 x0.2.1.zs,.vals true 10 [[.str x0.1,I x0.2.1.f,I x0.2.1.r,.sl 6 0 x0.2.1.zs.length none,Bb x0.2.1.bl,.int .u8 x0.2.1.ca,I x0.2.1.pa,I x0.2.1.ha,I x0.2.1.fu,.int .u8 x0.2.2]]]
   |2=>hp'=[.ints false .i8 p.zs,.cells true [I p.f,I p.r,.sl 0 0 p.zs.length none,Bb p.bl,.int .u8 p.ca,I p.pa,I p.ha,I p.fu],.cells true [I 0,I 0,.nils,Bb false,.int .u8 0,I 0,I 0,I 0],.cells true [I p.f,I p.r,.sl 0 0 p.zs.length none,Bb p.bl,.int .u8 p.ca,I p.pa,I p.ha,I p.fu],.cells true [.sl 8 0 2 none],.gone,.ints true .i8 x0.2.1.zs,.ints true .i8 x1.2.1.zs,.vals true 10 [[.str x0.1,I x0.2.1.f,I x0.2.1.r,.sl 6 0 x0.2.1.zs.length none,Bb x0.2.1.bl,.int .u8 x0.2.1.ca,I x0.2.1.pa,I x0.2.1.ha,I x0.2.1.fu,.int .u8 x0.2.2],[.str x1.1,I x1.2.1.f,I x1.2.1.r,.sl 7 0 x1.2.1.zs.length none,Bb x1.2.1.bl,.int .u8 x1.2.1.ca,I x1.2.1.pa,I x1.2.1.ha,I x1.2.1.fu,.int .u8 x1.2.2]]]
   |3=>hp'=[.ints false .i8 p.zs,.cells true [I p.f,I p.r,.sl 0 0 p.zs.length none,Bb p.bl,.int .u8 p.ca,I p.pa,I p.ha,I p.fu],.cells true [I 0,I 0,.nils,Bb false,.int .u8 0,I 0,I 0,I 0],.cells true [I p.f,I p.r,.sl 0 0 p.zs.length none,Bb p.bl,.int .u8 p.ca,I p.pa,I p.ha,I p.fu],.cells true [.sl 9 0 3 none],.gone,.ints true .i8 x0.2.1.zs,.ints true .i8 x1.2.1.zs,.ints true .i8 x2.2.1.zs,.vals true 10 [[.str x0.1,I x0.2.1.f,I x0.2.1.r,.sl 6 0 x0.2.1.zs.length none,Bb x0.2.1.bl,.int .u8 x0.2.1.ca,I x0.2.1.pa,I x0.2.1.ha,I x0.2.1.fu,.int .u8 x0.2.2],[.str x1.1,I x1.2.1.f,I x1.2.1.r,.sl 7 0 x1.2.1.zs.length none,Bb x1.2.1.bl,.int .u8 x1.2.1.ca,I x1.2.1.pa,I x1.2.1.ha,I x1.2.1.fu,.int .u8 x1.2.2],[.str x2.1,I x2.2.1.f,I x2.2.1.r,.sl 8 0 x2.2.1.zs.length none,Bb x2.2.1.bl,.int .u8 x2.2.1.ca,I x2.2.1.pa,I x2.2.1.ha,I x2.2.1.fu,.int .u8 x2.2.2]]]
   |4=>hp'=[.ints false .i8 p.zs,.cells true [I p.f,I p.r,.sl 0 0 p.zs.length none,Bb p.bl,.int .u8 p.ca,I p.pa,I p.ha,I p.fu],.cells true [I 0,I 0,.nils,Bb false,.int .u8 0,I 0,I 0,I 0],.cells true [I p.f,I p.r,.sl 0 0 p.zs.length none,Bb p.bl,.int .u8 p.ca,I p.pa,I p.ha,I p.fu],.cells true [.sl 10 0 4 none],.gone,.ints true .i8 x0.2.1.zs,.ints true .i8 x1.2.1.zs,.ints true .i8 x2.2.1.zs,.ints true .i8 x3.2.1.zs,.vals true 10 [[.str x0.1,I x0.2.1.f,I x0.2.1.r,.sl 6 0 x0.2.1.zs.length none,Bb x0.2.1.bl,.int .u8 x0.2.1.ca,I x0.2.1.pa,I x0.2.1.ha,I x0.2.1.fu,.int .u8 x0.2.2],[.str x1.1,I x1.2.1.f,I x1.2.1.r,.sl 7 0 x1.2.1.zs.length none,Bb x1.2.1.bl,.int .u8 x1.2.1.ca,I x1.2.1.pa,I x1.2.1.ha,I x1.2.1.fu,.int .u8 x1.2.2],[.str x2.1,I x2.2.1.f,I x2.2.1.r,.sl 8 0 x2.2.1.zs.length none,Bb x2.2.1.bl,.int .u8 x2.2.1.ca,I x2.2.1.pa,I x2.2.1.ha,I x2.2.1.fu,.int .u8 x2.2.2],[.str x3.1,I x3.2.1.f,I x3.2.1.r,.sl 9 0 x3.2.1.zs.length none,Bb x3.2.1.bl,.int .u8 x3.2.1.ca,I x3.2.1.pa,I x3.2.1.ha,I x3.2.1.fu,.int .u8 x3.2.2]]]
   |5=>hp'=[.ints false .i8 p.zs,.cells true [I p.f,I p.r,.sl 0 0 p.zs.length none,Bb p.bl,.int .u8 p.ca,I p.pa,I p.ha,I p.fu],.cells true [I 0,I 0,.nils,Bb false,.int .u8 0,I 0,I 0,I 0],.cells true [I p.f,I p.r,.sl 0 0 p.zs.length none,Bb p.bl,.int .u8 p.ca,I p.pa,I p.ha,I p.fu],.cells true [.sl 11 0 5 none],.gone,.ints true .i8 x0.2.1.zs,.ints true .i8 x1.2.1.zs,.ints true .i8 x2.2.1.zs,.ints true .i8 x3.2.1.zs,.ints true .i8 x4.2.1.zs,.vals true 10 [[.str x0.1,I x0.2.1.f,I x0.2.1.r,.sl 6 0 x0.2.1.zs.length none,Bb x0.2.1.bl,.int .u8 x0.2.1.ca,I x0.2.1.pa,I x0.2.1.ha,I x0.2.1.fu,.int .u8 x0.2.2],[.str x1.1,I x1.2.1.f,I x1.2.1.r,.sl 7 0 x1.2.1.zs.length none,Bb x1.2.1.bl,.int .u8 x1.2.1.ca,I x1.2.1.pa,I x1.2.1.ha,I x1.2.1.fu,.int .u8 x1.2.2],[.str x2.1,I x2.2.1.f,I x2.2.1.r,.sl 8 0 x2.2.1.zs.length none,Bb x2.2.1.bl,.int .u8 x2.2.1.ca,I x2.2.1.pa,I x2.2.1.ha,I x2.2.1.fu,.int .u8 x2.2.2],[.str x3.1,I x3.2.1.f,I x3.2.1.r,.sl 9 0 x3.2.1.zs.length none,Bb x3.2.1.bl,.int .u8 x3.2.1.ca,I x3.2.1.pa,I x3.2.1.ha,I x3.2.1.fu,.int .u8 x3.2.2],[.str x4.1,I x4.2.1.f,I x4.2.1.r,.sl 10 0 x4.2.1.zs.length none,Bb x4.2.1.bl,.int .u8 x4.2.1.ca,I x4.2.1.pa,I x4.2.1.ha,I x4.2.1.fu,.int .u8 x4.2.2]]]
   |6=>hp'=[.ints false .i8 p.zs,.cells true [I p.f,I p.r,.sl 0 0 p.zs.length none,Bb p.bl,.int .u8 p.ca,I p.pa,I p.ha,I p.fu],.cells true [I 0,I 0,.nils,Bb false,.int .u8 0,I 0,I 0,I 0],.cells true [I p.f,I p.r,.sl 0 0 p.zs.length none,Bb p.bl,.int .u8 p.ca,I p.pa,I p.ha,I p.fu],.cells true [.sl 12 0 6 none],.gone,.ints true .i8 x0.2.1.zs,.ints true .i8 x1.2.1.zs,.ints true .i8 x2.2.1.zs,.ints true .i8 x3.2.1.zs,.ints true .i8 x4.2.1.zs,.ints true .i8 x5.2.1.zs,.vals true 10 [[.str x0.1,I x0.2.1.f,I x0.2.1.r,.sl 6 0 x0.2.1.zs.length none,Bb x0.2.1.bl,.int .u8 x0.2.1.ca,I x0.2.1.pa,I x0.2.1.ha,I x0.2.1.fu,.int .u8 x0.2.2],[.str x1.1,I x1.2.1.f,I x1.2.1.r,.sl 7 0 x1.2.1.zs.length none,Bb x1.2.1.bl,.int .u8 x1.2.1.ca,I x1.2.1.pa,I x1.2.1.ha,I x1.2.1.fu,.int .u8 x1.2.2],[.str x2.1,I x2.2.1.f,I x2.2.1.r,.sl 8 0 x2.2.1.zs.length none,Bb x2.2.1.bl,.int .u8 x2.2.1.ca,I x2.2.1.pa,I x2.2.1.ha,I x2.2.1.fu,.int .u8 x2.2.2],[.str x3.1,I x3.2.1.f,I x3.2.1.r,.sl 9 0 x3.2.1.zs.length none,Bb x3.2.1.bl,.int .u8 x3.2.1.ca,I x3.2.1.pa,I x3.2.1.ha,I x3.2.1.fu,.int .u8 x3.2.2],[.str x4.1,I x4.2.1.f,I x4.2.1.r,.sl 10 0 x4.2.1.zs.length none,Bb x4.2.1.bl,.int .u8 x4.2.1.ca,I x4.2.1.pa,I x4.2.1.ha,I x4.2.1.fu,.int .u8 x4.2.2],[.str x5.1,I x5.2.1.f,I x5.2.1.r,.sl 11 0 x5.2.1.zs.length none,Bb x5.2.1.bl,.int .u8 x5.2.1.ca,I x5.2.1.pa,I x5.2.1.ha,I x5.2.1.fu,.int .u8 x5.2.2]]]
   |7=>hp'=[.ints false .i8 p.zs,.cells true [I p.f,I p.r,.sl 0 0 p.zs.length none,Bb p.bl,.int .u8 p.ca,I p.pa,I p.ha,I p.fu],.cells true [I 0,I 0,.nils,Bb false,.int .u8 0,I 0,I 0,I 0],.cells true [I p.f,I p.r,.sl 0 0 p.zs.length none,Bb p.bl,.int .u8 p.ca,I p.pa,I p.ha,I p.fu],.cells true [.sl 13 0 7 none],.gone,.ints true .i8 x0.2.1.zs,.ints true .i8 x1.2.1.zs,.ints true .i8 x2.2.1.zs,.ints true .i8 x3.2.1.zs,.ints true .i8 x4.2.1.zs,.ints true .i8 x5.2.1.zs,.ints true .i8 x6.2.1.zs,.vals true 10 [[.str x0.1,I x0.2.1.f,I x0.2.1.r,.sl 6 0 x0.2.1.zs.length none,Bb x0.2.1.bl,.int .u8 x0.2.1.ca,I x0.2.1.pa,I x0.2.1.ha,I x0.2.1.fu,.int .u8 x0.2.2],[.str x1.1,I x1.2.1.f,I x1.2.1.r,.sl 7 0 x1.2.1.zs.length none,Bb x1.2.1.bl,.int .u8 x1.2.1.ca,I x1.2.1.pa,I x1.2.1.ha,I x1.2.1.fu,.int .u8 x1.2.2],[.str x2.1,I x2.2.1.f,I x2.2.1.r,.sl 8 0 x2.2.1.zs.length none,Bb x2.2.1.bl,.int .u8 x2.2.1.ca,I x2.2.1.pa,I x2.2.1.ha,I x2.2.1.fu,.int .u8 x2.2.2],[.str x3.1,I x3.2.1.f,I x3.2.1.r,.sl 9 0 x3.2.1.zs.length none,Bb x3.2.1.bl,.int .u8 x3.2.1.ca,I x3.2.1.pa,I x3.2.1.ha,I x3.2.1.fu,.int .u8 x3.2.2],[.str x4.1,I x4.2.1.f,I x4.2.1.r,.sl 10 0 x4.2.1.zs.length none,Bb x4.2.1.bl,.int .u8 x4.2.1.ca,I x4.2.1.pa,I x4.2.1.ha,I x4.2.1.fu,.int .u8 x4.2.2],[.str x5.1,I x5.2.1.f,I x5.2.1.r,.sl 11 0 x5.2.1.zs.length none,Bb x5.2.1.bl,.int .u8 x5.2.1.ca,I x5.2.1.pa,I x5.2.1.ha,I x5.2.1.fu,.int .u8 x5.2.2],[.str x6.1,I x6.2.1.f,I x6.2.1.r,.sl 12 0 x6.2.1.zs.length none,Bb x6.2.1.bl,.int .u8 x6.2.1.ca,I x6.2.1.pa,I x6.2.1.ha,I x6.2.1.fu,.int .u8 x6.2.2]]]
   |8=>hp'=[.ints false .i8 p.zs,.cells true [I p.f,I p.r,.sl 0 0 p.zs.length none,Bb p.bl,.int .u8 p.ca,I p.pa,I p.ha,I p.fu],.cells true [I 0,I 0,.nils,Bb false,.int .u8 0,I 0,I 0,I 0],.cells true [I p.f,I p.r,.sl 0 0 p.zs.length none,Bb p.bl,.int .u8 p.ca,I p.pa,I p.ha,I p.fu],.cells true [.sl 14 0 8 none],.gone,.ints true .i8 x0.2.1.zs,.ints true .i8 x1.2.1.zs,.ints true .i8 x2.2.1.zs,.ints true .i8 x3.2.1.zs,.ints true .i8 x4.2.1.zs,.ints true .i8 x5.2.1.zs,.ints true .i8 x6.2.1.zs,.ints true .i8 x7.2.1.zs,.vals true 10 [[.str x0.1,I x0.2.1.f,I x0.2.1.r,.sl 6 0 x0.2.1.zs.length none,Bb x0.2.1.bl,.int .u8 x0.2.1.ca,I x0.2.1.pa,I x0.2.1.ha,I x0.2.1.fu,.int .u8 x0.2.2],[.str x1.1,I x1.2.1.f,I x1.2.1.r,.sl 7 0 x1.2.1.zs.length none,Bb x1.2.1.bl,.int .u8 x1.2.1.ca,I x1.2.1.pa,I x1.2.1.ha,I x1.2.1.fu,.int .u8 x1.2.2],[.str x2.1,I x2.2.1.f,I x2.2.1.r,.sl 8 0 x2.2.1.zs.length none,Bb x2.2.1.bl,.int .u8 x2.2.1.ca,I x2.2.1.pa,I x2.2.1.ha,I x2.2.1.fu,.int .u8 x2.2.2],[.str x3.1,I x3.2.1.f,I x3.2.1.r,.sl 9 0 x3.2.1.zs.length none,Bb x3.2.1.bl,.int .u8 x3.2.1.ca,I x3.2.1.pa,I x3.2.1.ha,I x3.2.1.fu,.int .u8 x3.2.2],[.str x4.1,I x4.2.1.f,I x4.2.1.r,.sl 10 0 x4.2.1.zs.length none,Bb x4.2.1.bl,.int .u8 x4.2.1.ca,I x4.2.1.pa,I x4.2.1.ha,I x4.2.1.fu,.int .u8 x4.2.2],[.str x5.1,I x5.2.1.f,I x5.2.1.r,.sl 11 0 x5.2.1.zs.length none,Bb x5.2.1.bl,.int .u8 x5.2.1.ca,I x5.2.1.pa,I x5.2.1.ha,I x5.2.1.fu,.int .u8 x5.2.2],[.str x6.1,I x6.2.1.f,I x6.2.1.r,.sl 12 0 x6.2.1.zs.length none,Bb x6.2.1.bl,.int .u8 x6.2.1.ca,I x6.2.1.pa,I x6.2.1.ha,I x6.2.1.fu,.int .u8 x6.2.2],[.str x7.1,I x7.2.1.f,I x7.2.1.r,.sl 13 0 x7.2.1.zs.length none,Bb x7.2.1.bl,.int .u8 x7.2.1.ca,I x7.2.1.pa,I x7.2.1.ha,I x7.2.1.fu,.int .u8 x7.2.2]]]
   |_=>False) rfl rfl rfl rfl rfl rfl ?_ ?_ ?_
 ·intro x hx
  obtain⟨y,_,rfl⟩:=List.mem_map.1 hx
  exact⟨rfl,Nat.le_of_ble_eq_true rfl⟩
 ·intro i hp' h
  match i with
  |0=>subst h;exact cH rfl rfl rfl rfl rfl rfl rfl rfl
  |1=>subst h;exact cH rfl rfl rfl rfl rfl rfl rfl rfl
  |2=>subst h;exact cH rfl rfl rfl rfl rfl rfl rfl rfl
  |3=>subst h;exact cH rfl rfl rfl rfl rfl rfl rfl rfl
  |4=>subst h;exact cH rfl rfl rfl rfl rfl rfl rfl rfl
  |5=>subst h;exact cH rfl rfl rfl rfl rfl rfl rfl rfl
  |6=>subst h;exact cH rfl rfl rfl rfl rfl rfl rfl rfl
  |7=>subst h;exact cH rfl rfl rfl rfl rfl rfl rfl rfl
  |8=>subst h;exact cH rfl rfl rfl rfl rfl rfl rfl rfl
  |n+9=>exact h.elim
 ·intro i vs ns hp' hvs h
  match i with
  |0=>
   subst h
   cases hvs
   refine ae ⟨rfl,?_⟩
   repeat refine ag rfl ?_
   refine ae ⟨_,?_,rfl⟩
   exact Ent.rn [0,1,2,3,4,5,8,11] [] rfl rfl rfl rfl rfl
  |1=>
   subst h
   cases hvs
   refine ae ⟨rfl,?_⟩
   repeat refine ag rfl ?_
   refine ae ⟨_,?_,rfl⟩
   exact Ent.rn [0,1,2,3,4,5,6,9,12] [] rfl rfl rfl rfl rfl
  |2=>
   subst h
   cases hvs
   refine ae ⟨rfl,?_⟩
   repeat refine ag rfl ?_
   refine ae ⟨_,?_,rfl⟩
   exact Ent.rn [0,1,2,3,4,5,6,7,10,13] [] rfl rfl rfl rfl rfl
  |3=>
   subst h
   cases hvs
   refine ae ⟨rfl,?_⟩
   repeat refine ag rfl ?_
   refine ae ⟨_,?_,rfl⟩
   exact Ent.rn [0,1,2,3,4,5,6,7,8,11,14] [] rfl rfl rfl rfl rfl
  |4=>
   subst h
   cases hvs
   refine ae ⟨rfl,?_⟩
   repeat refine ag rfl ?_
   refine ae ⟨_,?_,rfl⟩
   exact Ent.rn [0,1,2,3,4,5,6,7,8,9,12,15] [] rfl rfl rfl rfl rfl
  |5=>
   subst h
   cases hvs
   refine ae ⟨rfl,?_⟩
   repeat refine ag rfl ?_
   refine ae ⟨_,?_,rfl⟩
   exact Ent.rn [0,1,2,3,4,5,6,7,8,9,10,13,16] [] rfl rfl rfl rfl rfl
  |6=>
   subst h
   cases hvs
   refine ae ⟨rfl,?_⟩
   repeat refine ag rfl ?_
   refine ae ⟨_,?_,rfl⟩
   exact Ent.rn [0,1,2,3,4,5,6,7,8,9,10,11,14,17] [] rfl rfl rfl rfl rfl
  |7=>
   subst h
   cases hvs
   refine ae ⟨rfl,?_⟩
   repeat refine ag rfl ?_
   refine ae ⟨_,?_,rfl⟩
   exact Ent.rn [0,1,2,3,4,5,6,7,8,9,10,11,12,15,18] [] rfl rfl rfl rfl rfl
  |n+8=>cases hvs
 ·intro hp' h
  subst h
  refine jA rfl ?_
  repeat refine af rfl ?_
  refine xJ hE 5 8 (body:=bp) (tm2:=ct8 1) (hp2:=ch8 p x0 x1 x2 x3 x4 x5 x6 x7 [.str x0.1,I x0.2.1.f,I x0.2.1.r,.sl 6 0 x0.2.1.zs.length none,Bb x0.2.1.bl,.int .u8 x0.2.1.ca,I x0.2.1.pa,I x0.2.1.ha,I x0.2.1.fu,.int .u8 x0.2.2]) (Ent.rn [0,1,2,3,4,5,6,7,8,9,10,11,12,13,14,15,16] [0,1,4,5,6] rfl rfl rfl rfl rfl) (Kc p x0 x1 x2 x3 x4 x5 x6 x7 ?_ ?_ ?_ ?_ ?_ ?_ ?_ ?_)
  ·repeat refine af rfl ?_
   exact aB (aD [6] (.inr rfl) rfl rfl rfl rfl rfl)
  ·repeat refine af rfl ?_
   exact aB (aD [7] (.inr rfl) rfl rfl rfl rfl rfl)
  ·repeat refine af rfl ?_
   exact aB (aD [8] (.inr rfl) rfl rfl rfl rfl rfl)
  ·repeat refine af rfl ?_
   exact aB (aD [9] (.inr rfl) rfl rfl rfl rfl rfl)
  ·repeat refine af rfl ?_
   exact aB (aD [10] (.inr rfl) rfl rfl rfl rfl rfl)
  ·repeat refine af rfl ?_
   exact aB (aD [11] (.inr rfl) rfl rfl rfl rfl rfl)
  ·repeat refine af rfl ?_
   exact aB (aD [12] (.inr rfl) rfl rfl rfl rfl rfl)
  ·repeat refine af rfl ?_
   exact aB (aD [13] (.inr rfl) rfl rfl rfl rfl rfl)
def fmOk(p:Psn)(y:Int):Bool:=(ypos y p).isSome&&(ptxt (fmX p y).2.1).isSome
def canP(p:Psn):Option Fmt:=match yalW p with
 |some ([y0,y1,y2,y3,y4,y5,y6,y7],8)=>bif p.ok&&decide (p.zs.length<=64)&&[y0,y1,y2,y3,y4,y5,y6,y7].all (fmOk p)then minO (fmX p y0) [fmX p y1,fmX p y2,fmX p y3,fmX p y4,fmX p y5,fmX p y6,fmX p y7]else none
 |_=>none
theorem Ev{kCa kDb:Bool}(p:Psn){x:Fmt}(h:canP p=some x):aj (GGx kCa kDb) PP 14 [.agg [I p.f,I p.r,.sl 0 0 p.zs.length none,Bb p.bl,.int .u8 p.ca,I p.pa,I p.ha,I p.fu]] [.ints false .i8 p.zs] (canV x) (canN x):=by
 unfold canP at h
 split at h
 ·rename_i y0 y1 y2 y3 y4 y5 y6 y7 hy
  rw[cond_eq_ite]at h
  split at h
  ·rename_i hc
   simp only[Bool.and_eq_true,decide_eq_true_eq]at hc
   obtain⟨⟨h1,h2⟩,h3⟩:=hc
   have hall:∀ y∈[y0,y1,y2,y3,y4,y5,y6,y7],(ypos y p).isSome=true/\(ptxt (fmX p y).2.1).isSome=true:=fun y hy=>by
    have:=List.all_eq_true.1 h3 y hy
    unfold fmOk at this
    rwa [Bool.and_eq_true]at this
   exact DZ p [y0,y1,y2,y3,y4,y5,y6,y7] (fmX p y0) (fmX p y1) (fmX p y2) (fmX p y3) (fmX p y4) (fmX p y5) (fmX p y6) (fmX p y7) h1 h2 (EI p hy h2 (by simp) hall) h
  ·cases h
 ·cases h
def ycan(p:Psn):Option (Psn×Int×Int):=match canP p with
 |some x=>some (x.2.1,x.2.2,0)
 |none=>none
def LB(R:Psn×Int×Int):V:=.tup [.agg [.int .i64 R.1.f,.int .i64 R.1.r,.sl 1 0 R.1.zs.length none,Bb R.1.bl,.int .u8 R.1.ca,.int .i64 R.1.pa,.int .i64 R.1.ha,.int .i64 R.1.fu],.int .u8 R.2.1,.int .i64 R.2.2]
def KH(R:Psn×Int×Int):List O:=[.ints true .i8 R.1.zs]
def DH:CF
 |[.agg [.int .i64 p_0,.int .i64 p_1,.sl 0 0 p_2n none,.bool p_3,.int .u8 p_4,.int .i64 p_5,.int .i64 p_6,.int .i64 p_7]],[.ints false .i8 p_2]=>retC (decide (p_2n=p_2.length)) (ycan ⟨p_0,p_1,p_2,p_3,p_4,p_5,p_6,p_7⟩) (⟨0,0,[],false,0,0,0,0⟩,0,0) LB KH
 |_,_=>none
theorem AJ{kCa kDb:Bool}:CtOk (GGx kCa kDb) PP (14,DH):=by
 refine aG Tryz.func14 (by kernel_rfl) rfl fun a0 h0 c0 v0 N0 e hc=>?_
 unfold DH at e
 split at e
 ·rename_i p_0 p_1 p_2n p_3 p_4 p_5 p_6 p_7 p_2
  obtain⟨hl,r,hr,rfl,rfl⟩:=aQ e hc
  simp only[decide_eq_true_eq]at hl
  obtain rfl:=hl
  unfold ycan at hr
  split at hr
  ·rename_i x hx
   cases hr
   exact Ev ⟨p_0,p_1,p_2,p_3,p_4,p_5,p_6,p_7⟩ hx
  ·cases hr
 ·cases e
noncomputable abbrev Eiv:Env:=EE false false [(41,vz)] []
theorem jo:Eiv.Fn PP:=aF ⟨rq,trivial⟩ trivial
noncomputable abbrev xiv:List (FuncId×Func):=[(42,Tryz.f42)]
theorem jf:oe PP xiv:=⟨⟨Tryz.func42,by kernel_rfl⟩,trivial⟩
def yivT(y:Int):Int:=([0,1,2,3,4,6,5,7]:List Int).getD y.toNat 0
def yinv(y:Int):Option (Int×Int):=bif decide (8<=y)then some (0,2)else bif decide (0<=y)then some (yivT y,0)else none
def GH(R:Int×Int):V:=.tup [.int .u8 R.1,.int .i64 R.2]
def Hh(_:Int×Int):List O:=[]
def wz:CF
 |[.int .u8 y],[]=>retC true (yinv y) (0,0) GH Hh
 |_,_=>none
theorem Mv:aj (GGx false false) PP 10 [.int .u8 0] [] (.tup [.int .u8 0,.int .i64 0]) []:=aY jo jf 1000 3 Tryz.func10 (by kernel_rfl)
theorem Mp:aj (GGx false false) PP 10 [.int .u8 1] [] (.tup [.int .u8 1,.int .i64 0]) []:=aY jo jf 1000 3 Tryz.func10 (by kernel_rfl)
theorem Mu:aj (GGx false false) PP 10 [.int .u8 2] [] (.tup [.int .u8 2,.int .i64 0]) []:=aY jo jf 1000 3 Tryz.func10 (by kernel_rfl)
theorem Mw:aj (GGx false false) PP 10 [.int .u8 3] [] (.tup [.int .u8 3,.int .i64 0]) []:=aY jo jf 1000 3 Tryz.func10 (by kernel_rfl)
theorem MJ:aj (GGx false false) PP 10 [.int .u8 4] [] (.tup [.int .u8 4,.int .i64 0]) []:=aY jo jf 1000 3 Tryz.func10 (by kernel_rfl)
theorem Mn:aj (GGx false false) PP 10 [.int .u8 5] [] (.tup [.int .u8 6,.int .i64 0]) []:=aY jo jf 1000 3 Tryz.func10 (by kernel_rfl)
theorem MG:aj (GGx false false) PP 10 [.int .u8 6] [] (.tup [.int .u8 5,.int .i64 0]) []:=aY jo jf 1000 3 Tryz.func10 (by kernel_rfl)
theorem ME:aj (GGx false false) PP 10 [.int .u8 7] [] (.tup [.int .u8 7,.int .i64 0]) []:=aY jo jf 1000 3 Tryz.func10 (by kernel_rfl)
theorem KT{y:Int}(h:8<=y):aj (GGx false false) PP 10 [.int .u8 y] [] (.tup [.int .u8 0,.int .i64 2]) []:=by
 have hE:=cutE (aF (kCa:=false) (kDb:=false) (cts:=[]) (inl:=[]) trivial trivial)
 refine bn hE 2 Tryz.func10 rfl rfl GH Hh (o:=some (0,2)) rfl ?_ rfl rfl
 refine qK hE 2 rfl (decide_eq_true h) ?_
 exact aB (aD [] (.inr rfl) rfl rfl rfl rfl rfl)
theorem rK:CtOk (GGx false false) PP (10,wz):=by
 refine aG Tryz.func10 (by kernel_rfl) rfl fun a0 h0 c0 v0 N0 e hc=>?_
 unfold wz at e
 split at e
 ·rename_i y
  obtain⟨hl,r,hr,rfl,rfl⟩:=aQ e hc
  unfold yinv at hr
  rw[cond_eq_ite]at hr
  split at hr
  ·rename_i h
   cases hr
   exact KT (of_decide_eq_true h)
  ·rename_i h
   rw[cond_eq_ite]at hr
   split at hr
   ·rename_i h2
    cases hr
    have h:¬ 8<=y:=fun e=>h (decide_eq_true e)
    have h2:=of_decide_eq_true h2
    have hy:y=0\/y=1\/y=2\/y=3\/y=4\/y=5\/y=6\/y=7:=by omega
    rcases hy with rfl|rfl|rfl|rfl|rfl|rfl|rfl|rfl
    ·exact Mv
    ·exact Mp
    ·exact Mu
    ·exact Mw
    ·exact MJ
    ·exact Mn
    ·exact MG
    ·exact ME
   ·cases hr
 ·cases e
end Go.Ab
namespace Go.Ab
open IntKind
open Go.Proofs
section
variable{kCa kDb:Bool}
def iD(p:Int):Option (Int):=let x5:=(#[112,110,98,114,113,107,97,99,100,101,102,103,104,105,106]:Array UInt8).toList;let x6:=(#[80,78,66,82,81,75,65,67,68,69,70,71,72,73,74]:Array UInt8).toList;let x7:=i8.wrap (i8.wrap (0-p)-1);let x8:=i8.wrap (p-1);let x3:=Int.ofNat x6.length;let x4:=Int.ofNat x5.length;bif decide (p<0)then aM (decide (0<=x7)&&decide (x7<x4)) (some (Int.ofNat (x5.getD x7.toNat 0).toNat))else aM (decide (0<=x8)&&decide (x8<x3)) (some (Int.ofNat (x6.getD x8.toNat 0).toNat))
def lf(R:Int):V:=.int .u8 R
def kB(_R:Int):List O:=[]
def fD:CF
 |[.int .i8 p_0],[]=>retC true (iD p_0) 0 lf kB
 |_,_=>none
theorem uS(p:Int){r}(hr:iD p=some r):aj (GGx kCa kDb) PP 148 [.int .i8 p] [] (lf r) (kB r):=by
 have hE:=cutE (aF (kCa:=kCa) (kDb:=kDb) (cts:=[]) (inl:=[]) trivial trivial)
 refine bn hE 2 Tryz.func148 rfl rfl lf kB hr ?_ rfl rfl
 refine ay hE 2 rfl ?_ ?_
 ·refine aO ?_
  exact aB (aD [] (.inr rfl) rfl rfl rfl rfl rfl)
 refine aO ?_
 exact aB (aD [] (.inr rfl) rfl rfl rfl rfl rfl)
theorem fa:CtOk (GGx kCa kDb) PP (148,fD):=by
 refine aG Tryz.func148 (by kernel_rfl) rfl fun a0 h0 c0 v0 N0 e hc=>?_
 unfold fD at e
 split at e
 ·rename_i p_0
  obtain⟨hl,r,hr,rfl,rfl⟩:=aQ e hc
  exact uS p_0 hr
 ·cases e
def Dp:Int->Int->Option (Int ⊕ Unit ⊕ Int):=fun(c s5:Int)=>let x12:=!decide (s5=0);bif decide (s5<=15)then aM (!x12||(iD s5).isSome) (bif x12&&decide ((iD s5).getD 0=c)then escO (escO (some s5))else some (Sum.inl (i8.wrap (s5+1))))else some (Sum.inr (Sum.inl ()))
def Hj(c:Int):Option (Int):=bx (Dp c) (fun(_s10:Unit)=>some 0) 1000000 (-15)
def ov(R:Int):V:=.int .i8 R
def ot(_R:Int):List O:=[]
def oW:CF
 |[.int .u8 c_0],[]=>retC true (Hj c_0) 0 ov ot
 |_,_=>none
theorem yS(c:Int){r}(hr:Hj c=some r):aj (GGx kCa kDb) PP 137 [.int .u8 c] [] (ov r) (ot r):=by
 have hE:=cutE (aF (kCa:=kCa) (kDb:=kDb) (cts:=[(148,fD)]) (inl:=[]) ⟨fa,trivial⟩ trivial)
 refine bn hE 2 Tryz.func137 rfl rfl ov ot hr ?_ rfl rfl
 refine bB hE 2 (fun(s5:Int)=>([(0,V.int u8 c),(2,V.int i8 0),(3,V.int i8 s5)],[])) (fun(s10:Unit)=>([(2,V.int i8 0)],[])) (.exit 0) ((Ent.rn [] [0,2,3] rfl rfl rfl rfl rfl)) (fun s5=>?_) (fun s10=>?_)
 ·refine ay hE 2 rfl ?_ ?_
  ·refine af (Bool.not_or_self _) ?_
   refine cr (pi (pl rfl id)) ?_
   refine af (Bool.not_or_self _) ?_
   refine af (Bool.not_or_self _) ?_
   refine af (Bool.not_or_self _) ?_
   refine ay hE 2 rfl ?_ ?_
   ·refine gR (by simp) (eL ?_)
    exact aB (aD [] (.inr rfl) rfl rfl rfl rfl rfl)
   exact bu ((Ent.rn [] [0,2,3] rfl rfl rfl rfl rfl))
  exact bA ((Ent.rn [] [2] rfl rfl rfl rfl rfl))
 exact aB (aD [] (.inr rfl) rfl rfl rfl rfl rfl)
theorem uB:CtOk (GGx kCa kDb) PP (137,oW):=by
 refine aG Tryz.func137 (by kernel_rfl) rfl fun a0 h0 c0 v0 N0 e hc=>?_
 unfold oW at e
 split at e
 ·rename_i c_0
  obtain⟨hl,r,hr,rfl,rfl⟩:=aQ e hc
  exact yS c_0 hr
 ·cases e
end
section
variable{kCa kDb:Bool}
def nU:Bd->List UInt8×Int->List UInt8×Int×Int->Option (List UInt8×Int×Int ⊕ List UInt8×Int×Int×Bool ⊕ List UInt8×Int ⊕ List UInt8 ⊕ List UInt8):=fun(b:Bd) (s33:List UInt8×Int)=>let x72:=(#[48,49,50,51,52,53,54,55,56]:Array UInt8).toList;let x73:=i64.wrap (s33.2*b.f);let x71:=Int.ofNat x72.length;fun(s43:List UInt8×Int×Int)=>let x81:=decide (s43.2.2<b.f);let x82:=decide (s43.2.2<=b.f);let x83:=i64.wrap (s43.2.1+1);let x84:=i64.wrap (s43.2.2+1);let x85:=i64.wrap (x73+s43.2.2);let x75:=decide (0<=x85)&&decide (x85<Int.ofNat b.zs.length);let x78:=List.take (x83.toNat-s43.2.1.toNat) (List.drop s43.2.1.toNat x72);let x80:=b.zs.getD x85.toNat 0;let x76:=s43.1.length+x78.length;let x79:=mC (List.take 1 (List.drop 0 (iL [(iD x80).getD 0])));let x77:=x79.length;bif x82 then aM (!x81||x75) (bif x81&&decide (x80=0)then some (Sum.inl (s43.1,x83,x84))else bG (bif decide (0<s43.2.1)then aM (decide (0<=s43.2.1)&&decide (s43.2.1<=x83)&&decide (x83<=x71)) (aM (decide (x76<=4611686018427387904)) (some (Sum.inl (s43.1++x78,0))))else some (Sum.inl (s43.1,s43.2.1))) fun(s46:List UInt8×Int)=>let x87:=s46.1.length+x77;bG (bif x81 then aM x75 (aN (iD x80) Inhabited.default fun(_y47:Int)=>aM (decide (x87<=4611686018427387904)) (some (Sum.inl (s46.1++x79))))else some (Sum.inl s46.1)) fun(s49:List UInt8)=>some (Sum.inl (s49,s46.2,x84)))else some (Sum.inr (Sum.inl (s43.1,s43.2.1,s43.2.2,x82)))
def EA:Bd->(Bd->List UInt8×Int->List UInt8×Int×Int->Option (List UInt8×Int×Int ⊕ List UInt8×Int×Int×Bool ⊕ List UInt8×Int ⊕ List UInt8 ⊕ List UInt8))->List UInt8×Int->Option (List UInt8×Int ⊕ List UInt8 ⊕ List UInt8):=fun(b:Bd) (nU:Bd->List UInt8×Int->List UInt8×Int×Int->Option (List UInt8×Int×Int ⊕ List UInt8×Int×Int×Bool ⊕ List UInt8×Int ⊕ List UInt8 ⊕ List UInt8))=>let x91:=(#[47]:Array UInt8).toList.length;fun(s33:List UInt8×Int)=>let x93:=s33.1.length+x91;bif decide (0<=s33.2)then bG (bif !s33.1==(#[]:Array UInt8).toList then aM (decide (x93<=4611686018427387904)) (some (Sum.inl (s33.1++(#[47]:Array UInt8).toList)))else some (Sum.inl s33.1)) fun(s35:List UInt8)=>bx (nU b s33) (fun(s62:List UInt8×Int×Int×Bool)=>some (Sum.inl (s62.1,i64.wrap (s33.2-1)))) 1000000 (s35,0,0)else some (Sum.inr (Sum.inl s33.1))
def Li(b:Bd):Option (List UInt8):=bx (EA b nU) (fun(s70:List UInt8)=>some s70) 1000000 ((#[]:Array UInt8).toList,i64.wrap (b.r-1))
def tW(R:List UInt8):V:=.str R
def tH(_R:List UInt8):List O:=[]
def td:CF
 |[.agg [.int .i64 b_0,.int .i64 b_1,.sl 0 0 b_2n none]],[.ints false .i8 b_2]=>retC (decide (b_2n=b_2.length)) (Li ⟨b_0,b_1,b_2⟩) [] tW tH
 |_,_=>none
theorem CD(b:Bd){r}(hr:Li b=some r):aj (GGx kCa kDb) PP 117 [.agg [.int .i64 b.f,.int .i64 b.r,.sl 0 0 b.zs.length none]] [.ints false .i8 b.zs] (tW r) (tH r):=by
 have hE:=cutE (aF (kCa:=kCa) (kDb:=kDb) (cts:=[(148,fD)]) (inl:=[]) ⟨fa,trivial⟩ trivial)
 refine bn hE 2 Tryz.func117 rfl rfl tW tH hr ?_ rfl rfl
 refine bB hE 2 (fun(s33:List UInt8×Int)=>([(1,V.ptr 1 0 0),(2,V.str (#[]:Array UInt8).toList),(3,V.str s33.1),(4,I s33.2)],[O.ints false i8 b.zs,O.cells true [I b.f,I b.r,V.sl 0 0 b.zs.length none]])) (fun(s70:List UInt8)=>([(2,V.str (#[]:Array UInt8).toList),(3,V.str s70)],[O.ints false i8 b.zs])) (.exit 0) ((Ent.rn [0,1] [1,2,3,4] rfl rfl rfl rfl rfl)) (fun s33=>?_) (fun s70=>?_)
 ·refine ay hE 2 rfl ?_ ?_
  ·refine bz hE 2 (fun(s35:List UInt8)=>([(1,V.ptr 1 0 0),(2,V.str (#[]:Array UInt8).toList),(3,V.str s35),(4,I s33.2),(11,I s33.2),(12,Bb (decide (0<=s33.2))),(15,V.str s33.1),(16,Bb !s33.1==(#[]:Array UInt8).toList)],[O.ints false i8 b.zs,O.cells true [I b.f,I b.r,V.sl 0 0 b.zs.length none]])) rfl ?_ ?_ (fun s35=>?_)
   ·refine aO ?_
    exact aU ((Ent.rn [0,1] [1,2,3,4,11,12,15,16] rfl rfl rfl rfl rfl))
   ·exact aU ((Ent.rn [0,1] [1,2,3,4,11,12,15,16] rfl rfl rfl rfl rfl))
   refine bB hE 2 (fun(s43:List UInt8×Int×Int)=>([(1,V.ptr 1 0 0),(2,V.str (#[]:Array UInt8).toList),(3,V.str s43.1),(4,I s33.2),(5,I s43.2.1),(6,I s43.2.2),(11,I s33.2),(12,Bb (decide (0<=s33.2))),(15,V.str s33.1),(16,Bb !s33.1==(#[]:Array UInt8).toList)],[O.ints false i8 b.zs,O.cells true [I b.f,I b.r,V.sl 0 0 b.zs.length none]])) (fun(s62:List UInt8×Int×Int×Bool)=>let x103:=s62.2.2.1;([(1,V.ptr 1 0 0),(2,V.str (#[]:Array UInt8).toList),(3,V.str s62.1),(4,I s33.2),(5,I s62.2.1),(6,I x103),(11,I s33.2),(12,Bb (decide (0<=s33.2))),(15,V.str s33.1),(16,Bb !s33.1==(#[]:Array UInt8).toList),(19,I x103),(20,V.ptr 1 0 0),(21,V.ptr 1 0 0),(22,I b.f),(23,Bb s62.2.2.2)],[O.ints false i8 b.zs,O.cells true [I b.f,I b.r,V.sl 0 0 b.zs.length none]])) (.exit 2) ((Ent.rn [0,1] [1,2,3,4,5,6,11,12,15,16] rfl rfl rfl rfl rfl)) (fun s43=>?_) (fun s62=>?_)
   ·refine ay hE 2 rfl ?_ ?_
    ·refine af (Bool.not_or_self _) ?_
     refine af (Bool.not_or_self _) ?_
     refine af (Bool.not_or_self _) ?_
     refine af (Bool.not_or_self _) ?_
     refine af (Bool.not_or_self _) ?_
     refine af (Bool.not_or_self _) ?_
     refine af (Bool.not_or_self _) ?_
     refine af (Bool.not_or_self _) ?_
     refine af (Bool.not_or_self _) ?_
     refine aO ?_
     refine af (Bool.not_or_self _) ?_
     refine af (Bool.not_or_self _) ?_
     refine af (Bool.not_or_self _) ?_
     refine ay hE 2 rfl ?_ ?_
     ·exact bu ((Ent.rn [0,1] [1,2,3,4,5,6,11,12,15,16] rfl rfl rfl rfl rfl))
     refine bz hE 2 (let x104:=b.zs.getD (i64.wrap (i64.wrap (s33.2*b.f)+s43.2.2)).toNat 0;let x105:=decide (s43.2.2<b.f);fun(s46:List UInt8×Int)=>([(1,V.ptr 1 0 0),(2,V.str (#[]:Array UInt8).toList),(3,V.str s46.1),(4,I s33.2),(5,I s46.2),(6,I s43.2.2),(11,I s33.2),(12,Bb (decide (0<=s33.2))),(15,V.str s33.1),(16,Bb !s33.1==(#[]:Array UInt8).toList),(19,I s43.2.2),(20,V.ptr 1 0 0),(21,V.ptr 1 0 0),(22,I b.f),(23,Bb (decide (s43.2.2<=b.f))),(26,I s43.2.2),(27,V.ptr 1 0 0),(28,V.ptr 1 0 0),(29,I b.f),(30,Bb x105),(31,Bb x105),(44,Bb (x105&&decide (x104=0))),(47,I s43.2.1),(48,Bb (decide (0<s43.2.1)))],[O.ints false i8 b.zs,O.cells true [I b.f,I b.r,V.sl 0 0 b.zs.length none]])) rfl ?_ ?_ (fun s46=>?_)
     ·refine aO ?_
      refine aO ?_
      exact aU ((Ent.rn [0,1] [1,2,3,4,5,6,11,12,15,16,19,20,21,22,23,26,27,28,29,30,31,44,47,48] rfl rfl rfl rfl rfl))
     ·exact aU ((Ent.rn [0,1] [1,2,3,4,5,6,11,12,15,16,19,20,21,22,23,26,27,28,29,30,31,44,47,48] rfl rfl rfl rfl rfl))
     refine bz hE 2 (let x107:=b.zs.getD (i64.wrap (i64.wrap (s33.2*b.f)+s43.2.2)).toNat 0;let x108:=decide (s43.2.2<b.f);fun(s49:List UInt8)=>([(1,V.ptr 1 0 0),(2,V.str (#[]:Array UInt8).toList),(3,V.str s49),(4,I s33.2),(5,I s46.2),(6,I s43.2.2),(11,I s33.2),(12,Bb (decide (0<=s33.2))),(15,V.str s33.1),(16,Bb !s33.1==(#[]:Array UInt8).toList),(19,I s43.2.2),(20,V.ptr 1 0 0),(21,V.ptr 1 0 0),(22,I b.f),(23,Bb (decide (s43.2.2<=b.f))),(26,I s43.2.2),(27,V.ptr 1 0 0),(28,V.ptr 1 0 0),(29,I b.f),(30,Bb x108),(31,Bb x108),(44,Bb (x108&&decide (x107=0))),(47,I s43.2.1),(48,Bb (decide (0<s43.2.1))),(55,I s43.2.2),(56,V.ptr 1 0 0),(57,V.ptr 1 0 0),(58,I b.f),(59,Bb x108)],[O.ints false i8 b.zs,O.cells true [I b.f,I b.r,V.sl 0 0 b.zs.length none]])) rfl ?_ ?_ (fun s49=>?_)
     ·refine aO ?_
      refine cr (pl rfl id) ?_
      refine aO ?_
      exact aU ((Ent.rn [0,1] [1,2,3,4,5,6,11,12,15,16,19,20,21,22,23,26,27,28,29,30,31,44,47,48,55,56,57,58,59] rfl rfl rfl rfl rfl))
     ·exact aU ((Ent.rn [0,1] [1,2,3,4,5,6,11,12,15,16,19,20,21,22,23,26,27,28,29,30,31,44,47,48,55,56,57,58,59] rfl rfl rfl rfl rfl))
     exact bu ((Ent.rn [0,1] [1,2,3,4,5,6,11,12,15,16] rfl rfl rfl rfl rfl))
    exact bA ((Ent.rn [0,1] [1,2,3,4,5,6,11,12,15,16,19,20,21,22,23] rfl rfl rfl rfl rfl))
   exact bu ((Ent.rn [0,1] [1,2,3,4] rfl rfl rfl rfl rfl))
  exact bA ((Ent.rn [0] [2,3] rfl rfl rfl rfl rfl))
 exact aB (aD [] (.inr rfl) rfl rfl rfl rfl rfl)
theorem yA:CtOk (GGx kCa kDb) PP (117,td):=by
 refine aG Tryz.func117 (by kernel_rfl) rfl fun a0 h0 c0 v0 N0 e hc=>?_
 unfold td at e
 split at e
 ·rename_i b_0 b_1 b_2n b_2
  obtain⟨hl,r,hr,rfl,rfl⟩:=aQ e hc
  simp only[decide_eq_true_eq]at hl
  obtain rfl:=hl
  exact CD ⟨b_0,b_1,b_2⟩ hr
 ·cases e
end
end Go.Ab
namespace Go.Ab
open Go.Proofs
section
variable{kCa kDb:Bool}
def oh:Int->List UInt8×Int->Option (List UInt8×Int ⊕ List UInt8×Int×Bool ⊕ Int ⊕ Unit ⊕ Int):=fun(s27:Int)=>let x54:=(#[75,81,107,113]:Array UInt8).toList;let x53:=Int.ofNat x54.length;fun(s33:List UInt8×Int)=>let x58:=(s27.fdiv (2^Min.min s33.2.toNat IntKind.i64.bits)).tmod 2;let x59:=decide (s33.2<4);let x60:=decide (0<=s33.2);let x61:=IntKind.i64.wrap (s33.2+1);let x57:=List.take (x61.toNat-s33.2.toNat) (List.drop s33.2.toNat x54);let x56:=s33.1.length+x57.length;bif x59 then aM x60 (bG (bif decide (x58=1)then aM (x60&&decide (s33.2<=x61)&&decide (x61<=x53)) (aM (decide (x56<=4611686018427387904)) (some (Sum.inl (s33.1++x57))))else some (Sum.inl s33.1)) fun(s35:List UInt8)=>some (Sum.inl (s35,x61)))else some (Sum.inr (Sum.inl (s33.1,s33.2,x59)))
def EJ:List UInt8->(Int->List UInt8×Int->Option (List UInt8×Int ⊕ List UInt8×Int×Bool ⊕ Int ⊕ Unit ⊕ Int))->Int->Option (Int ⊕ Unit ⊕ Int):=fun(s:List UInt8) (oh:Int->List UInt8×Int->Option (List UInt8×Int ⊕ List UInt8×Int×Bool ⊕ Int ⊕ Unit ⊕ Int)) (s27:Int)=>bif decide (s27<16)then bx (oh s27) (fun(s45:List UInt8×Int×Bool)=>bG (bif s45.1==(#[]:Array UInt8).toList then some (Sum.inl (#[45]:Array UInt8).toList)else some (Sum.inl s45.1)) fun(s47:List UInt8)=>bif s47==s then escO (escO (some s27))else some (Sum.inl (IntKind.i64.wrap (s27+1)))) 1000000 ((#[]:Array UInt8).toList,0)else some (Sum.inr (Sum.inl ()))
def LD(s:List UInt8):Option (Int):=bx (EJ s oh) (fun(_s52:Unit)=>some (-1)) 1000000 0
def vk(R:Int):V:=.int .i64 R
def sH(_R:Int):List O:=[]
def uF:CF
 |[.str s_0],[]=>retC true (LD s_0) 0 vk sH
 |_,_=>none
theorem Dx(s:List UInt8){r}(hr:LD s=some r):aj (GGx kCa kDb) PP 100 [.str s] [] (vk r) (sH r):=by
 have hE:=cutE (aF (kCa:=kCa) (kDb:=kDb) (cts:=[]) (inl:=[]) trivial trivial)
 refine bn hE 2 Tryz.func100 rfl rfl vk sH hr ?_ rfl rfl
 refine bB hE 2 (fun(s27:Int)=>([(0,V.str s),(2,I 0),(3,I s27)],[])) (fun(s52:Unit)=>([(2,I 0)],[])) (.exit 0) ((Ent.rn [] [0,2,3] rfl rfl rfl rfl rfl)) (fun s27=>?_) (fun s52=>?_)
 ·refine ay hE 2 rfl ?_ ?_
  ·refine bB hE 2 (fun(s33:List UInt8×Int)=>([(0,V.str s),(2,I 0),(3,I s27),(4,V.str s33.1),(5,I s33.2),(6,I s27),(7,Bb (decide (s27<16)))],[])) (fun(s45:List UInt8×Int×Bool)=>([(0,V.str s),(2,I 0),(3,I s27),(4,V.str s45.1),(5,I s45.2.1),(6,I s27),(7,Bb (decide (s27<16))),(10,I s45.2.1),(11,Bb s45.2.2)],[])) (.exit 2) ((Ent.rn [] [0,2,3,4,5,6,7] rfl rfl rfl rfl rfl)) (fun s33=>?_) (fun s45=>?_)
   ·refine ay hE 2 rfl ?_ ?_
    ·refine aO ?_
     refine af rfl ?_
     refine bz hE 2 (let x74:=s27.fdiv (2^Min.min s33.2.toNat IntKind.i64.bits);let x73:=x74.tmod 2;fun(s35:List UInt8)=>([(0,V.str s),(2,I 0),(3,I s27),(4,V.str s35),(5,I s33.2),(6,I s27),(7,Bb (decide (s27<16))),(10,I s33.2),(11,Bb (decide (s33.2<4))),(14,I s27),(15,I s33.2),(16,I x74),(17,I x73),(18,Bb (decide (x73=1)))],[])) rfl ?_ ?_ (fun s35=>?_)
     ·refine aO ?_
      refine aO ?_
      exact aU ((Ent.rn [] [0,2,3,4,5,6,7,10,11,14,15,16,17,18] rfl rfl rfl rfl rfl))
     ·exact aU ((Ent.rn [] [0,2,3,4,5,6,7,10,11,14,15,16,17,18] rfl rfl rfl rfl rfl))
     exact bu ((Ent.rn [] [0,2,3,4,5,6,7] rfl rfl rfl rfl rfl))
    exact bA ((Ent.rn [] [0,2,3,4,5,6,7,10,11] rfl rfl rfl rfl rfl))
   refine bz hE 2 (fun(s47:List UInt8)=>([(0,V.str s),(2,I 0),(3,I s27),(4,V.str s47),(5,I s45.2.1),(6,I s27),(7,Bb (decide (s27<16))),(10,I s45.2.1),(11,Bb s45.2.2),(25,V.str s45.1),(26,Bb (s45.1==(#[]:Array UInt8).toList))],[])) rfl ?_ ?_ (fun s47=>?_)
   ·exact aU ((Ent.rn [] [0,2,3,4,5,6,7,10,11,25,26] rfl rfl rfl rfl rfl))
   ·exact aU ((Ent.rn [] [0,2,3,4,5,6,7,10,11,25,26] rfl rfl rfl rfl rfl))
   refine ay hE 2 rfl ?_ ?_
   ·refine gR (by simp) (eL ?_)
    exact aB (aD [] (.inr rfl) rfl rfl rfl rfl rfl)
   exact bu ((Ent.rn [] [0,2,3] rfl rfl rfl rfl rfl))
  exact bA ((Ent.rn [] [2] rfl rfl rfl rfl rfl))
 exact aB (aD [] (.inr rfl) rfl rfl rfl rfl rfl)
theorem xU:CtOk (GGx kCa kDb) PP (100,uF):=by
 refine aG Tryz.func100 (by kernel_rfl) rfl fun a0 h0 c0 v0 N0 e hc=>?_
 unfold uF at e
 split at e
 ·rename_i s_0
  obtain⟨hl,r,hr,rfl,rfl⟩:=aQ e hc
  exact Dx s_0 hr
 ·cases e
end
noncomputable abbrev Es:Env:=EE false false [(15,jG),(101,og),(118,pZ),(53,CL),(148,fD),(137,oW),(100,uF)] []
theorem KL:Es.Fn PP:=aF ⟨kL,mW,kV,pE,fa,uB,xU,trivial⟩ trivial
noncomputable abbrev xss:List (FuncId×Func):=[(96,Tryz.f96),(99,Tryz.f99),(98,Tryz.f98),(97,Tryz.f97)]
theorem GY:oe PP xss:=⟨⟨Tryz.func96,by kernel_rfl⟩,⟨Tryz.func99,by kernel_rfl⟩,⟨Tryz.func98,by kernel_rfl⟩,⟨Tryz.func97,by kernel_rfl⟩,trivial⟩
def Jh:List UInt8:=[51,120,51,32,107,50,47,51,47,75,50,32,119,32,45,32,45,32,48,32,49]
def LS:V×List O:=(.tup [.agg [I 3,I 3,.sl 0 0 9 none,.lit false,.int .u8 0,I (-1),I 0,I 1],.lit true],[.ints true .i8 [6,0,0,0,0,0,-6,0,0]])
theorem MB:qQ { Es with pf:=oJ Es xss 1000 8,cc:=true } 3 1000 Tryz.f45 [.str Jh] []=some LS:=by kernel_rfl
def JJ:List UInt8:=[51,120,52,32,107,50,47,51,47,80,50,47,75,50,32,119,32,45,32,45,32,48,32,49]
def Ln:V×List O:=(.tup [.agg [I 3,I 4,.sl 0 0 12 none,.lit false,.int .u8 0,I (-1),I 0,I 1],.lit true],[.ints true .i8 [6,0,0,1,0,0,0,0,0,-6,0,0]])
theorem MM:qQ { Es with pf:=oJ Es xss 1000 8,cc:=true } 3 1000 Tryz.f45 [.str JJ] []=some Ln:=by kernel_rfl
def pasT(s:List UInt8):Option (V×List O):=if s=Jh then some LS else if s=JJ then some Ln else none
theorem IT{s:List UInt8}{x:V×List O}(h:pasT s=some x):aj (GGx false false) PP 45 [.str s] [] x.1 x.2:=by
 unfold pasT at h
 by_cases e0:s=Jh
 ·rw[if_pos e0]at h;cases h;subst e0;exact aY KL GY 1000 8 Tryz.func45 MB
 rw[if_neg e0]at h
 by_cases e1:s=JJ
 ·rw[if_pos e1]at h;cases h;subst e1;exact aY KL GY 1000 8 Tryz.func45 MM
 rw[if_neg e1]at h
 cases h
def uL:CF
 |[.str s],[]=>match pasT s with
  |some x=>some (true,x.1,x.2)
  |none=>none
 |_,_=>none
theorem yq:CtOk (GGx false false) PP (45,uL):=by
 refine aG Tryz.func45 (by kernel_rfl) rfl fun a0 h0 c0 v0 N0 e hc=>?_
 unfold uL at e
 split at e
 ·split at e
  ·rename_i h
   cases e
   exact IT h
  ·cases e
 ·cases e
noncomputable abbrev Et:Env:=EE false false [(28,qI),(29,wq),(9,vx),(18,vg),(26,sZ),(14,DH),(21,lY),(45,uL),(15,jG),(117,td),(118,pZ),(53,CL),(10,wz)] []
theorem Mz:Et.Fn PP:=aF ⟨lJ,qz,rA,yP,xH,AJ,iy,yq,kL,yA,kV,pE,rK,trivial⟩ trivial
noncomputable abbrev xst:List (FuncId×Func):=[(43,Tryz.f43),(44,Tryz.f44),(46,Tryz.f46),(64,Tryz.f64),(98,Tryz.f98)]
theorem Lw:oe PP xst:=⟨⟨Tryz.func43,by kernel_rfl⟩,⟨Tryz.func44,by kernel_rfl⟩,⟨Tryz.func46,by kernel_rfl⟩,⟨Tryz.func64,by kernel_rfl⟩,⟨Tryz.func98,by kernel_rfl⟩,trivial⟩
theorem Mt:qQ { Et with pf:=oJ Et xst 1000 8,cc:=true } 3 1000 Tryz.f11 [] []=some (.lit true,[]):=by kernel_rfl
def eB:CF
 |[],[]=>some (true,.bool true,[])
 |_,_=>none
theorem dR:CtOk (GGx false false) PP (11,eB):=by
 refine aG Tryz.func11 (by kernel_rfl) rfl fun a0 h0 c0 v0 N0 e hc=>?_
 unfold eB at e
 split at e
 ·cases e
  exact aj.like (aY Mz Lw 1000 8 Tryz.func11 Mt) (fun _ _ h=>h)
 ·cases e
section
variable{kCa kDb:Bool}
def DY(s:Siz)(y:Int)(at_:Int)(set:Int):Option (Bool):=aN (yall (Siz.mk s.f s.r)) ([],0) fun(y4:List Int×Int)=>aN (ysqE (Siz.mk s.f s.r) y at_) (0,0) fun(y5:Int×Int)=>aN (yset (Siz.mk s.f s.r) y set) (0,0) fun(y6:Int×Int)=>aN (tw (Siz.mk s.f s.r) y at_) (0,0) fun(y7:Int×Int)=>aN (uC (Siz.mk s.f s.r) y set) (0,0) fun(y8:Int×Int)=>bif !decide (y5.1=y7.1)||!decide (y5.2=y7.2)||!decide (y6.1=y8.1)||!decide (y6.2=y8.2)then some false else bif !vsB s.f s.r then some (decide (Int.ofNat y4.1.length=0)&&decide (y4.2=2)&&true)else aN (yb (Siz.mk s.f s.r)) [] fun(y9:List Int)=>aN (mj (List.take y4.1.length (List.drop 0 y4.1)) y4.2 (List.take y9.length (List.drop 0 y9))) false fun(y10:Bool)=>some (y10&&true)
def Ba(R:Bool):V:=Bb R
def zQ(_:Bool):List O:=[]
theorem zA(s:Siz)(y:Int)(at_:Int)(set:Int){r}(hr:DY s y at_ set=some r):aj (GGx false false) PP 7 [.agg [.int .i64 s.f,.int .i64 s.r],.int .u8 y,.int .i64 at_,.int .u64 set] [] (Ba r) (zQ r):=by
 have hE:=cutE (aF (kCa:=false) (kDb:=false) (cts:=[(11,eB),(21,lY),(28,qI),(29,wq),(30,zV),(31,vh),(32,ug),(33,gq),(34,nJ)]) (inl:=[]) ⟨dR,iy,lJ,qz,zU,xn,xA,dD,mG,trivial⟩ trivial)
 refine bn hE 2 Tryz.func7 rfl rfl Ba zQ hr ?_ rfl rfl
 unfold DY
 refine aq (pl rfl id) ?_
 refine aq (pl rfl id) ?_
 refine aq (pl rfl id) ?_
 refine aq (pl rfl id) ?_
 refine aq (pl rfl id) ?_
 refine af (Bool.not_or_self _) ?_
 refine af (Bool.not_or_self _) ?_
 refine af (Bool.or_not_self _) ?_
 refine af (Bool.not_or_self _) ?_
 refine af (Bool.not_or_self _) ?_
 refine af (Bool.or_not_self _) ?_
 refine af (Bool.not_or_self _) ?_
 refine af (Bool.not_or_self _) ?_
 refine af (Bool.or_not_self _) ?_
 refine ay hE 2 rfl ?_ ?_
 ·exact aB (aD [] (.inr rfl) rfl rfl rfl rfl rfl)
 refine af rfl ?_
 refine ay hE 2 rfl ?_ ?_
 ·refine af (Bool.not_or_self _) ?_
  refine af (Bool.not_or_self _) ?_
  refine af (pg rfl) ?_
  refine af (Bool.not_or_self _) ?_
  exact aB (aD [] (.inr rfl) rfl rfl rfl rfl rfl)
 refine aq (pl rfl id) ?_
 refine aq (pl (pa (decide_eq_true (az rfl)) (decide_eq_true (az rfl))) id) ?_
 refine af (pg rfl) ?_
 refine af (Bool.not_or_self _) ?_
 exact aB (aD [] (.inr rfl) rfl rfl rfl rfl rfl)
def Fm(a:Int)(b:Int):Option (Bool):=aN (ycmp a b) (0,0) fun(y2:Int×Int)=>let x5:=decide (y2.1=0)&&decide (y2.2=2);let x6:=decide (y2.2=0);aN (yinv a) (0,0) fun(y3:Int×Int)=>let x8:=!decide (y3.2=0);bif decide (7<a)then some (x5&&decide (y3.1=0)&&decide (y3.2=2)&&true)else aM (!!x8||(yj a).isSome) (bif x8||!decide (y3.1=(yj a).getD 0)then some false else bif decide (7<b)then some (x5&&true)else aM (!x6||(yrCo a b).isSome) (some (x6&&decide (y2.1=(yrCo a b).getD 0)&&true)))
def AL(R:Bool):V:=Bb R
def Al(_:Bool):List O:=[]
theorem zY(a:Int)(b:Int){r}(hr:Fm a b=some r):aj (GGx false false) PP 3 [.int .u8 a,.int .u8 b] [] (AL r) (Al r):=by
 have hE:=cutE (aF (kCa:=false) (kDb:=false) (cts:=[(9,vx),(10,wz),(11,eB),(12,sR),(13,wK)]) (inl:=[]) ⟨rA,rK,dR,yL,pS,trivial⟩ trivial)
 refine bn hE 2 Tryz.func3 rfl rfl AL Al hr ?_ rfl rfl
 unfold Fm
 refine aq (pl rfl id) ?_
 refine aq (pl rfl id) ?_
 refine ay hE 2 rfl ?_ ?_
 ·refine af (Bool.not_or_self _) ?_
  refine af (Bool.not_or_self _) ?_
  refine af (Bool.not_or_self _) ?_
  refine af (Bool.not_or_self _) ?_
  refine af (Bool.not_or_self _) ?_
  refine af (Bool.not_or_self _) ?_
  refine af (pg rfl) ?_
  refine af (Bool.not_or_self _) ?_
  exact aB (aD [] (.inr rfl) rfl rfl rfl rfl rfl)
 refine af (Bool.not_or_self _) ?_
 refine cr (pi (pl rfl id)) ?_
 refine af (Bool.not_or_self _) ?_
 refine af (Bool.not_or_self _) ?_
 refine af (Bool.or_not_self _) ?_
 refine ay hE 2 rfl ?_ ?_
 ·exact aB (aD [] (.inr rfl) rfl rfl rfl rfl rfl)
 refine ay hE 2 rfl ?_ ?_
 ·refine af (Bool.not_or_self _) ?_
  refine af (Bool.not_or_self _) ?_
  refine af (pg rfl) ?_
  refine af (Bool.not_or_self _) ?_
  exact aB (aD [] (.inr rfl) rfl rfl rfl rfl rfl)
 refine af (Bool.not_or_self _) ?_
 refine af (Bool.not_or_self _) ?_
 refine cr (pi (pl rfl id)) ?_
 refine af (Bool.not_or_self _) ?_
 refine af (Bool.not_or_self _) ?_
 refine af (Bool.not_or_self _) ?_
 refine af (pg rfl) ?_
 refine af (Bool.not_or_self _) ?_
 exact aB (aD [] (.inr rfl) rfl rfl rfl rfl rfl)
end
end Go.Ab
namespace Go.Ab
theorem vn{y f r:Int}{b:Bool}(h:yrB ⟨f,r⟩ y=some b)(hb:b=true):y<4\/f=r:=by
 subst hb
 unfold yrB at h
 have h:=Option.some.inj h
 simp only[Bool.or_eq_true,Bool.and_eq_true,decide_eq_true_eq]at h
 exact h.imp_right (·.2)
theorem xm{y:Int}(h0:0<=y)(s:Siz)(a:Int):∃ r,tw s y a=some r:=by
 obtain⟨f,r⟩:=s
 unfold tw
 dsimp only
 cases hv:vsB f r with
 |false=>exact⟨_,rfl⟩
 |true=>
  by_cases hy:y<8
  ·rw[show decide (7<y)=false by simp;omega]
   by_cases h1:a<0
   ·rw[decide_eq_true h1];exact⟨_,rfl⟩
   ·rw[decide_eq_false h1,nC hv]
    by_cases h2:f*r<=a
    ·rw[decide_eq_true h2];exact⟨_,rfl⟩
    ·rw[decide_eq_false h2]
     cases hb:yrB ⟨f,r⟩ y with
     |none=>unfold yrB at hb;cases hb
     |some b=>
      cases b with
      |false=>exact⟨_,rfl⟩
      |true=>
       obtain⟨q,hq,_⟩:=AF hv h0 hy (vn hb rfl) (by omega:0<=a) (by omega)
       simp only[Bool.not_true,Bool.or_self,cond_false,aH,hq]
       exact⟨_,rfl⟩
  ·rw[show decide (7<y)=true by simp;omega]
   exact⟨(0,2),by simp⟩
theorem yz{y set:Int}(h0:0<=y)(hs:Uk set)(s:Siz):∃ r,uC s y set=some r:=by
 obtain⟨f,r⟩:=s
 unfold uC
 dsimp only
 cases hv:vsB f r with
 |false=>exact⟨_,rfl⟩
 |true=>
  by_cases hy:y<8
  ·rw[show decide (7<y)=false by simp;omega,zK hv hs]
   simp only[Bool.not_true,Bool.not_false,Bool.false_or,Bool.or_false,Option.isSome_some,Bool.or_true,aP,Option.getD_some]
   cases decide (band BinOp.andNot IntKind.u64 set (allU f r)=0) with
   |false=>exact⟨_,rfl⟩
   |true=>
    cases hb:yrB ⟨f,r⟩ y with
    |none=>unfold yrB at hb;cases hb
    |some b=>
     cases b with
     |false=>exact⟨_,rfl⟩
     |true=>
      obtain⟨m1,m2⟩:=bF hv
      obtain⟨n,hn⟩:∃ n:Nat,f*r=n:=⟨(f*r).toNat,by omega⟩
      have e2:=iv hv h0 hy (vn hb rfl) hs (fun(s51:Int)=>some s51) (999999-n) n 0 (by rw[hn];omega)
      rw[show n+1+(999999-n)=1000000 by omega,Nat.zero_add]at e2
      have e2:bx (eR ⟨f,r⟩ y set cD) (fun(s51:Int)=>some s51) 1000000 (0,1,0)=_:=e2
      simp only[Bool.not_true,cond_false,aH]
      unfold Bh
      rw[e2]
      exact⟨_,rfl⟩
  ·rw[show decide (7<y)=true by simp;omega]
   exact⟨(0,2),by simp⟩
theorem Fl(b:Bool):mj (List.take (yaL b).length (List.drop 0 (yaL b))) 0 (List.take (yaL b).length (List.drop 0 (yaL b)))=some true:=by cases b<;>kernel_rfl
theorem xN{s:Siz}{y a set:Int}(h0:0<=y)(hs:Uk set):DY s y a set=some true:=by
 unfold DY
 rw[Af,JE h0,II h0 hs]
 obtain⟨r1,h1⟩:=xm h0 ⟨s.f,s.r⟩ a
 obtain⟨r2,h2⟩:=yz h0 hs ⟨s.f,s.r⟩
 rw[h1,h2,vw]
 dsimp only
 cases vsB s.f s.r with
 |false=>simp[aH]
 |true=>
  simp only[cond_true,aH,decide_true,Bool.not_true,Bool.or_self,cond_false]
  rw[Fl,aH];rfl
theorem xk{a b:Int}(ha:0<=a)(hb:0<=b):Fm a b=some true:=by
 unfold Fm ycmp yinv
 by_cases ha8:a<8
 ·rw[decide_eq_false (show ¬ 8<=a by omega),decide_eq_false (show ¬ 7<a by omega),decide_eq_true ha,MO ha ha8]
  by_cases hb8:b<8
  ·obtain⟨c,c1,c2⟩:=MD ha ha8 hb hb8
   rw[decide_eq_false (show ¬ 8<=b by omega),decide_eq_false (show ¬ 7<b by omega),c1,c2]
   simp[aH,yivT,ynv,aP]
  ·rw[decide_eq_true (show 8<=b by omega),decide_eq_true (show 7<b by omega)]
   simp[aH,yivT,ynv,aP]
 ·rw[decide_eq_true (show 8<=a by omega),decide_eq_true (show 7<a by omega)]
  simp[aH]
end Go.Ab
namespace Go.Ab
open Go.Proofs
section
variable{kCa kDb:Bool}
def orCF(c1 c2:CF):CF:=fun a h=>match c1 a h with
 |some x=>some x
 |none=>c2 a h
theorem Jd{G:List O}{P:Program}{f:FuncId}{c1 c2:CF}(h1:CtOk G P (f,c1))(h2:CtOk G P (f,c2)):CtOk G P (f,orCF c1 c2):=by
 refine⟨h1.1,fun a h c v N e hc=>?_⟩
 change orCF c1 c2 a h=_ at e
 unfold orCF at e
 split at e
 ·rename_i x hx
  cases e
  exact h1.2 a h c v N hx hc
 ·exact h2.2 a h c v N e hc
end
section
variable{kCa kDb:Bool}
instance:Inhabited Psn:=⟨⟨0,0,[],false,0,0,0,0⟩⟩
def iQ:CF
 |[.agg [.int .i64 f,.int .i64 r,.sl 0 0 len none,.bool bl,.int .u8 ca,.int .i64 pa,.int .i64 ha,.int .i64 fu],.agg [.int .i64 f2,.int .i64 r2,.nils,.bool bl2,.int .u8 ca2,.int .i64 pa2,.int .i64 ha2,.int .i64 fu2]],[.ints false .i8 zs]=>some (decide (len=zs.length)&&decide (zs.length<=70),.bool (jq ⟨f,r,zs,bl,ca,pa,ha,fu⟩ ⟨f2,r2,[],bl2,ca2,pa2,ha2,fu2⟩),[])
 |_,_=>none
theorem oY:CtOk (GGx kCa kDb) PP (16,iQ):=by
 refine aG Tryz.func16 (by kernel_rfl) rfl fun a0 h0 c0 v0 N0 e hc=>?_
 unfold iQ at e
 split at e
 ·rename_i f r len bl ca pa ha fu f2 r2 bl2 ca2 pa2 ha2 fu2 zs
  cases e
  simp only[Bool.and_eq_true,decide_eq_true_eq]at hc
  obtain⟨rfl,hc2⟩:=hc
  refine aj.nil (args':=[.agg [.int .i64 f,.int .i64 r,.sl 0 0 zs.length none,.bool bl,.int .u8 ca,.int .i64 pa,.int .i64 ha,.int .i64 fu],.agg [.int .i64 f2,.int .i64 r2,.sl 1 0 0 none,.bool bl2,.int .u8 ca2,.int .i64 pa2,.int .i64 ha2,.int .i64 fu2]]) .i8 (aJ rfl) ?_ ((eZ (kCa:=kCa) (kDb:=kDb)).2 _ _ _ _ _ rfl (by simp[hc2]))
  rintro ρ us h1 ⟨u1,r1,rfl,h2,u2,r2,rfl,⟨ws,rfl,x0,y0,rfl,e0,x1,y1,rfl,e1,x2,y2,rfl,e2,e3⟩,e4⟩
  exact⟨u1,_,rfl,h2,_,_,rfl,⟨_,rfl,x0,_,rfl,e0,x1,_,rfl,e1,x2,_,rfl,ML h1 e2,e3⟩,e4⟩
 ·cases e
def nt:CF:=orCF gB iQ
theorem pM:CtOk (GGx kCa kDb) PP (16,nt):=Jd eZ oY
end
section
variable{kCa kDb:Bool}
def Ij(p:Psn)(y:Int):Option (Bool):=let x22:=Psn.mk 0 0 [] false 0 0 0 0;let x25:=p.zs.length*1;let x26:=List.take p.zs.length (List.drop 0 p.zs);let x23:=Psn.mk p.f p.r x26 p.bl p.ca p.pa p.ha p.fu;let x24:=x26.length;let x19:=decide (x24<=70);let x21:=List.take x24 (List.drop 0 x26);let x18:=Psn.mk p.f p.r x21 p.bl p.ca p.pa p.ha p.fu;let x20:=x21.length;let x12:=((sP x18 y).getD (x22,0)).snd;let x13:=((sP x18 y).getD (x22,0)).fst;let x15:=((qH x18).getD (([],0),0)).fst.2;let x16:=((qH x18).getD (([],0),0)).snd;let x17:=!jq x18 x23;let x10:=List.take x15 (List.drop 0 ((qH x18).getD (([],0),0)).fst.1);let x11:=x13.zs;let x14:=Int.ofNat x15;let x8:=List.take x11.length (List.drop 0 x11);let x9:=x10.length;let x7:=x8.length;bif decide (70<Int.ofNat p.zs.length)then some true else aM (decide (x25<=140737488355328)) (aN (qH x18) Inhabited.default fun(_y2:(List Int×Nat)×Int)=>aN (sP x18 y) Inhabited.default fun(_y3:Psn×Int)=>aN (CH x23 y) (x22,0) fun(y4:Psn×Int)=>let x31:=List.take y4.1.zs.length (List.drop 0 y4.1.zs);let x30:=x31.length;aM (decide (x20<=70)&&x19) (aM (!!x17||decide (x7<=70)&&decide (x30<=70)) (bif x17||!jq (Psn.mk x13.f x13.r x8 x13.bl x13.ca x13.pa x13.ha x13.fu) (Psn.mk y4.1.f y4.1.r x31 y4.1.bl y4.1.ca y4.1.pa y4.1.ha y4.1.fu)||!decide (x12=y4.2)then some false else aM x19 (bif !dy x23 then some (decide (x14=0)&&decide (x16=2)&&true)else aN (yrAl x23) [] fun(y5:List Int)=>aM (decide (x15=x9)) (aN (mj x10 x16 (List.take y5.length (List.drop 0 y5))) Inhabited.default fun(_y6:Bool)=>some ((mj x10 x16 (List.take y5.length (List.drop 0 y5))).getD false&&true))))))
def Cs(R:Bool):V:=Bb R
def Cq(_:Bool):List O:=[]
theorem AO(p:Psn)(y:Int){r}(hr:Ij p y=some r):aj (GGx false false) PP 5 [.agg [.int .i64 p.f,.int .i64 p.r,.sl 0 0 p.zs.length none,Bb p.bl,.int .u8 p.ca,.int .i64 p.pa,.int .i64 p.ha,.int .i64 p.fu],.int .u8 y] [.ints false .i8 p.zs] (Cs r) (Cq r):=by
 have hE:=cutE (aF (kCa:=false) (kDb:=false) (cts:=[(11,eB),(15,fm),(16,gB),(18,uN),(19,tB),(20,ve),(21,lY),(22,vp)]) (inl:=[]) ⟨dR,fG,eZ,xh,yB,yo,iy,pQ,trivial⟩ trivial)
 refine bn hE 2 Tryz.func5 rfl rfl Cs Cq hr ?_ rfl rfl
 refine ay hE 2 rfl ?_ ?_
 ·refine af rfl ?_
  exact aB (aD [] (.inr rfl) rfl rfl rfl rfl rfl)
 refine aO ?_
 refine aq (pl (decide_eq_true (az rfl)) id) ?_
 refine aq (pl (decide_eq_true (az rfl)) id) ?_
 refine aq (pl (decide_eq_true (az rfl)) id) ?_
 refine cr (pb (pr (pl (decide_eq_true (az rfl)) id) (decide_eq_true (az rfl))) id) ?_
 refine af (Bool.not_or_self _) ?_
 refine af (Bool.not_or_self _) ?_
 refine cr (pi (pb (pr (pl (decide_eq_true (az rfl)) id) (decide_eq_true (az rfl))) id)) ?_
 refine af (Bool.not_or_self _) ?_
 refine af (Bool.or_not_self _) ?_
 refine af (Bool.not_or_self _) ?_
 refine af (Bool.not_or_self _) ?_
 refine af (Bool.or_not_self _) ?_
 refine ay hE 2 rfl ?_ ?_
 ·exact aB (aD [] (.inr rfl) rfl rfl rfl rfl rfl)
 refine cr (pl (decide_eq_true (az rfl)) id) ?_
 refine ay hE 2 rfl ?_ ?_
 ·refine af (Bool.not_or_self _) ?_
  refine af (Bool.not_or_self _) ?_
  refine af (pg rfl) ?_
  refine af (Bool.not_or_self _) ?_
  exact aB (aD [] (.inr rfl) rfl rfl rfl rfl rfl)
 refine aq (pl (decide_eq_true (az rfl)) id) ?_
 refine Bv (pb (pr id (decide_eq_true (az rfl))) id) ?_
 refine af (pg rfl) ?_
 refine af (Bool.not_or_self _) ?_
 exact aB (aD [] (.inr rfl) rfl rfl rfl rfl rfl)
def Iw(p:Psn)(s:Siz)(y:Int)(m:Mov):Option (Bool):=let x13:=Psn.mk 0 0 [] false 0 0 0 0;let x16:=Mov.mk 0 0 0;let x17:=List.take p.zs.length (List.drop 0 p.zs);let x14:=Psn.mk p.f p.r x17 p.bl p.ca p.pa p.ha p.fu;let x15:=x17.length;let x12:=(yrFl x14).getD x13;let x11:=x12.zs;let x10:=List.take x11.length (List.drop 0 x11);let x9:=x10.length;bif decide (70<Int.ofNat p.zs.length)then some true else aN (yMov (Siz.mk s.f s.r) y (Mov.mk m.a m.b m.p)) (x16,0) fun(y4:Mov×Int)=>aN (iG (Siz.mk s.f s.r) y (Mov.mk m.a m.b m.p)) (x16,0) fun(y5:Mov×Int)=>aN (yFM (Siz.mk s.f s.r) (Mov.mk m.a m.b m.p)) (x16,0) fun(y6:Mov×Int)=>aN (iG (Siz.mk s.f s.r) 2 (Mov.mk m.a m.b m.p)) (x16,0) fun(y7:Mov×Int)=>bif !(decide (y4.1.a=y5.1.a)&&(decide (y4.1.b=y5.1.b)&&decide (y4.1.p=y5.1.p)))||!decide (y4.2=y5.2)||!(decide (y6.1.a=y7.1.a)&&(decide (y6.1.b=y7.1.b)&&decide (y6.1.p=y7.1.p)))||!decide (y6.2=y7.2)then some false else aN (ry x14) (x13,0) fun(y8:Psn×Int)=>let x27:=decide (y8.2=0);let x28:=List.take y8.1.zs.length (List.drop 0 y8.1.zs);let x24:=Psn.mk y8.1.f y8.1.r x28 y8.1.bl y8.1.ca y8.1.pa y8.1.ha y8.1.fu;let x25:=x28.length;let x26:=!x27;let x23:=decide (x25<=70);aM (decide (x15<=70)) (bif !dy x14 then aM x23 (some (jq x24 x13&&decide (y8.2=2)&&true))else aM (x26||(yrFl x14).isSome) (aM (x26||x23&&decide (x9<=70)) (some (x27&&jq x24 (Psn.mk x12.f x12.r x10 x12.bl x12.ca x12.pa x12.ha x12.fu)&&true))))
def Ds(R:Bool):V:=Bb R
def Dd(_:Bool):List O:=[]
theorem Av(p:Psn)(s:Siz)(y:Int)(m:Mov){r}(hr:Iw p s y m=some r):aj (GGx false false) PP 6 [.agg [.int .i64 p.f,.int .i64 p.r,.sl 0 0 p.zs.length none,Bb p.bl,.int .u8 p.ca,.int .i64 p.pa,.int .i64 p.ha,.int .i64 p.fu],.agg [.int .i64 s.f,.int .i64 s.r],.int .u8 y,.agg [.int .i64 m.a,.int .i64 m.b,.int .i8 m.p]] [.ints false .i8 p.zs] (Ds r) (Dd r):=by
 have hE:=cutE (aF (kCa:=false) (kDb:=false) (cts:=[(11,eB),(15,fm),(16,nt),(23,wh),(24,sC),(25,Hw),(26,nD),(27,zG)]) (inl:=[]) ⟨dR,fG,pM,rM,xx,Ed,vc,Cc,trivial⟩ trivial)
 refine bn hE 2 Tryz.func6 rfl rfl Ds Dd hr ?_ rfl rfl
 refine ay hE 2 rfl ?_ ?_
 ·refine af rfl ?_
  exact aB (aD [] (.inr rfl) rfl rfl rfl rfl rfl)
 refine aq (pl rfl id) ?_
 refine aq (pl rfl id) ?_
 refine aq (pl rfl id) ?_
 refine aq (pl rfl id) ?_
 refine af (Bool.not_or_self _) ?_
 refine af (Bool.not_or_self _) ?_
 refine af (Bool.or_not_self _) ?_
 refine af (Bool.not_or_self _) ?_
 refine af (Bool.not_or_self _) ?_
 refine af (Bool.or_not_self _) ?_
 refine af (Bool.not_or_self _) ?_
 refine af (Bool.not_or_self _) ?_
 refine af (Bool.or_not_self _) ?_
 refine ay hE 2 rfl ?_ ?_
 ·exact aB (aD [] (.inr rfl) rfl rfl rfl rfl rfl)
 refine aq (pl (decide_eq_true (az rfl)) id) ?_
 refine cr (pl (decide_eq_true (az rfl)) id) ?_
 refine ay hE 2 rfl ?_ ?_
 ·refine cr (pl (decide_eq_true (az rfl)) id) ?_
  refine af (Bool.not_or_self _) ?_
  refine af (Bool.not_or_self _) ?_
  refine af (pg rfl) ?_
  refine af (Bool.not_or_self _) ?_
  exact aB (aD [] (.inr rfl) rfl rfl rfl rfl rfl)
 refine af rfl ?_
 refine af (Bool.not_or_self _) ?_
 refine cr (pi (pl (decide_eq_true (az rfl)) id)) ?_
 refine af (Bool.not_or_self _) ?_
 refine af (Bool.not_or_self _) ?_
 refine cr (pi (pb (pr (pl (decide_eq_true (az rfl)) id) (decide_eq_true (az rfl))) id)) ?_
 refine af (Bool.not_or_self _) ?_
 refine af (pg rfl) ?_
 refine af (Bool.not_or_self _) ?_
 exact aB (aD [] (.inr rfl) rfl rfl rfl rfl rfl)
end
end Go.Ab
namespace Go.Ab
theorem vB(p:Psn):jq p p=true:=by simp[jq,FN]
theorem AA(p:Psn):(⟨p.f,p.r,p.zs,p.bl,p.ca,p.pa,p.ha,p.fu⟩:Psn)=p:=rfl
theorem xM{p:Psn}{y:Int}(hca:0<=p.ca)(h0:0<=y):Ij p y=some true:=by
 unfold Ij
 simp only[List.drop_zero,List.take_length,AA]
 by_cases hl:p.zs.length<=70
 ·have hq:((yPR p y).1.zs.length:Nat)<=70:=Nat.le_trans IP (by decide)
  rw[decide_eq_false (show ¬ (70<Int.ofNat p.zs.length) by simp only[Int.ofNat_eq_natCast];omega),cond_false,decide_eq_true (show p.zs.length*1<=140737488355328 by omega),aP,Ei hl,ED hl h0,Fz hca hl h0,aH,aH,aH]
  simp only[Option.getD_some,vB,decide_eq_true hl,decide_eq_true hq,Bool.not_true,Bool.not_false,Bool.and_self,Bool.or_true,Bool.or_self,aP,cond_false,decide_true,iI hca]
  cases h:p.ok with
  |false=>rfl
  |true=>
   obtain⟨hv,hn,h6,_⟩:=nY h
   obtain⟨s1,s2⟩:=LQ p
   rw[List.drop_zero]at s1 s2
   rw[List.drop_zero,List.take_length]at s2
   simp only[Bool.not_true,cond_false,cond_true,Dh h6,aH]
   show aM (decide (alN p=(List.take (alN p) (yaL (decide (p.f=p.r)))).length)) (aN (mj (List.take (alN p) (yaL (decide (p.f=p.r)))) 0 (List.take (alN p) (yaL (decide (p.f=p.r))))) default fun(_:Bool)=>some ((mj (List.take (alN p) (yaL (decide (p.f=p.r)))) 0 (List.take (alN p) (yaL (decide (p.f=p.r))))).getD false&&true))=some true
   rw[decide_eq_true s1,aP,s2,aH];rfl
 ·rw[decide_eq_true (show 70<Int.ofNat p.zs.length by simp only[Int.ofNat_eq_natCast];omega)];rfl
theorem iO{y:Int}(h0:0<=y)(s:Siz)(m:Mov):∃ r,iG s y m=some r:=by
 obtain⟨f,r⟩:=s
 unfold iG
 dsimp only
 cases hv:vsB f r with
 |false=>exact⟨_,rfl⟩
 |true=>
  by_cases hy:y<8
  ·rw[show decide (7<y)=false by simp;omega]
   cases hm:mvB f r m.a m.b m.p with
   |false=>exact⟨_,rfl⟩
   |true=>
    cases hb:yrB ⟨f,r⟩ y with
    |none=>unfold yrB at hb;cases hb
    |some b=>
     cases b with
     |false=>exact⟨_,rfl⟩
     |true=>
      have hab:(0<=m.a/\m.a<f*r)/\0<=m.b/\m.b<f*r:=by
       unfold mvB aA at hm
       rw[nC hv]at hm
       simp only[Bool.and_eq_true,decide_eq_true_eq]at hm
       omega
      obtain⟨q1,hq1,_⟩:=AF hv h0 hy (vn hb rfl) hab.1.1 hab.1.2
      obtain⟨q2,hq2,_⟩:=AF hv h0 hy (vn hb rfl) hab.2.1 hab.2.2
      unfold Dw
      simp only[hq1,hq2,Bool.not_true,Bool.or_self,cond_false,aH]
      exact⟨_,rfl⟩
  ·rw[show decide (7<y)=true by simp;omega]
   exact⟨(⟨0,0,0⟩,2),by simp⟩
theorem KI(s:Siz)(m:Mov):yFM s m=iG s 2 m:=by
 unfold yFM
 rw[yV (by omega)]
 obtain⟨r,hr⟩:=iO (y:=2) (by omega) s m
 have hr:iG ⟨s.f,s.r⟩ 2 ⟨m.a,m.b,m.p⟩=some r:=hr
 have h2:iG s 2 m=some r:=hr
 rw[hr,aH]
theorem xu{p:Psn}{s:Siz}{y:Int}{m:Mov}(hca:0<=p.ca)(h0:0<=y):Iw p s y m=some true:=by
 obtain⟨r1,h1⟩:=iO h0 s m
 obtain⟨r2,h2⟩:=iO (y:=2) (by omega) s m
 have h1':iG ⟨s.f,s.r⟩ y ⟨m.a,m.b,m.p⟩=some r1:=h1
 have h2':iG ⟨s.f,s.r⟩ 2 ⟨m.a,m.b,m.p⟩=some r2:=h2
 unfold Iw
 simp only[List.drop_zero,List.take_length,AA]
 by_cases hl:p.zs.length<=70
 ·rw[decide_eq_false (show ¬ (70<Int.ofNat p.zs.length) by simp only[Int.ofNat_eq_natCast];omega),cond_false,yV h0,KI,h1',h2',aH,aH,aH,aH,zl hca hl]
  simp only[decide_true,Bool.and_self,Bool.not_true,Bool.or_self,cond_false,aH,decide_eq_true hl,aP,iI hca]
  cases h:p.ok with
  |false=>rfl
  |true=>
   have hf:(flP p).zs.length<=70:=Nat.le_trans (JF h) (by decide)
   simp only[Bool.not_true,cond_false,cond_true,HP h,Option.isSome_some,Option.getD_some,Bool.or_true,decide_eq_true hf,decide_true,Bool.and_self,aP,vB]
 ·rw[decide_eq_true (show 70<Int.ofNat p.zs.length by simp only[Int.ofNat_eq_natCast];omega)];rfl
end Go.Ab
