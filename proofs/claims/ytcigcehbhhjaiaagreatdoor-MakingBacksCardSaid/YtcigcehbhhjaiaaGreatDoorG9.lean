/- Contracts of the functions that the laws reach, and plain laws of what they compute (text G9); no condition. -/
import Derived.Test.YtcigcehbhhjaiaaGreatDoorG8
import Derived.Test.YtcigcehbhhjaiaaGreatDoorG4
import Derived.Test.YtcigcehbhhjaiaaGreatDoorG7
set_option maxRecDepth 100000
set_option maxHeartbeats 4000000
namespace Go.Ab
open Go.Proofs Go.RowKit
variable {kDb : Bool}
theorem quiet_region {E : Env} {P : Program} {N : Nat} {tm : Tm} {hp : List O} {n : Nat} {B : Nat} {w0 : World} {S : Nat} {D : List Deferred} {gs : List (Nat × Obj)} {ρ : Ren} {a : Act} {w : World} (hE : E.Fn P) (m : Nat) {id : Nat} {ops : Array Oper} (hq : ops.toList.all (fun o => quietOp o.op) = true) {Q2 : Tm → List O → Prop} {K : Act → World → Prop}
  (hs : sat E.G P (fun _ tm hp => Q2 tm hp) (evOps E (hdl E m) N ops.toList ops.toList tm hp (.ret .normal) noX)) (h : Rel E.G B w0 S N D gs ρ tm hp a w) (hd : a.defers = D)
  (hK : ∀ a' w' tm' hp' ρ', Rel E.G B w0 S N D gs ρ' tm' hp' a' w' → a'.defers = D → ρ.le ρ' → Q2 tm' hp' → K a' w') : (Code.region id ops false).wpIn (Fr none) n P (fun e a' w' => e = .normal ∧ K a' w') a w := by
 refine wpIn_region ?_
 have h1 := evOps_gen (n := n) (ro := none) (ρ0 := ρ) (tl := []) (suf := []) (Qx := fun e a' w' => e = .normal ∧ ∃ tm1 hp1 ρ1, Rel E.G B w0 S N D gs ρ1 tm1 hp1 a' w' ∧ ρ.le ρ1 ∧ Q2 tm1 hp1) hE.ok (ps_ok hE) (hdl_ok hE m) (ops := ops)
  (fun a' w' ⟨tm1, hp1, ρ1, r1, r2, r3⟩ => ⟨rfl, tm1, hp1, ρ1, r1, r2, r3⟩) (fun e a2 w2 ⟨_, _, _, _, _, q⟩ => q.elim) ops.toList [] tm hp ρ a w (by simp) hs h (Ren.le_refl ρ)
 rw [List.append_nil, List.length_nil, Array.length_toList, ← List.range_eq_range'] at h1
 rw [← List.append_nil (List.range ops.size)]
 refine quiet_ops (fun e a w he hq => absurd hq.1 he) _ a w (fun i _ o ho => ?_) h1 ?_
 ·rw [← Array.getElem?_toList] at ho
  exact List.all_eq_true.1 hq o (List.mem_of_getElem? ho)
 ·rintro a1 w1 hd1 ⟨_, tm1, hp1, ρ1, r1, r2, r3⟩
  exact ⟨rfl, hK a1 w1 tm1 hp1 ρ1 r1 (hd1.trans hd) r2 r3⟩
abbrev u8andn (a b : Int) : Int := band .andNot .u8 a b
def epB (zs : List Int) (pa a b : Int) : Bool := decide (absP (zs.getD a.toNat 0) = 1) && decide (b = pa)
def at1R (f : Int) (zs : List Int) (pa a b : Int) : Int := bif epB zs pa a b then IntKind.i64.wrap (IntKind.i64.wrap (a - a.tmod f) + b.tmod f) else b
def capR (f : Int) (zs : List Int) (pa a b : Int) : Int := zs.getD (at1R f zs pa a b).toNat 0
def at2R (f : Int) (zs : List Int) (pa a b : Int) : Int := bif decide (capR f zs pa a b = 0) then -1 else at1R f zs pa a b
def zs1R (f : Int) (zs : List Int) (pa a b : Int) : List Int := bif decide (0 ≤ at2R f zs pa a b) then zs.set (at2R f zs pa a b).toNat 0 else zs
def zs2R (f : Int) (zs : List Int) (pa a b : Int) : List Int := ((zs1R f zs pa a b).set a.toNat 0).set b.toNat (zs.getD a.toNat 0)
def cstR (f r : Int) (zs : List Int) (bl : Bool) (ca pa a b pr : Int) : Bool := wayB f r zs (wayN zs bl ca a b) && !goesB f r zs bl pa a b pr
def putR (l : List Int) (bl : Bool) (b pr : Int) (c : Bool) (n : Nat) : List Int := bif !decide (pr = 0) && bl then l.set b.toNat (w8 (0 - pr)) else bif !decide (pr = 0) then l.set b.toNat pr else bif c then (l.set (wCro n).toNat (l.getD (wCor n).toNat 0)).set (wCor n).toNat 0 else l
def zs3R (f r : Int) (zs : List Int) (bl : Bool) (ca pa a b pr : Int) : List Int := putR (zs2R f zs pa a b) bl b pr (cstR f r zs bl ca pa a b pr) (wayN zs bl ca a b)
def caR (ca a b : Int) : Int := u8andn ca (u8or (lostR a) (lostR b))
def twoB (f : Int) (zs : List Int) (a b : Int) : Bool := decide (absP (zs.getD a.toNat 0) = 1) && (decide (IntKind.i64.wrap (b - a) = IntKind.i64.wrap (2 * f)) || decide (IntKind.i64.wrap (b - a) = IntKind.i64.wrap (-2 * f)))
def paR (f : Int) (zs : List Int) (a b : Int) : Int := bif twoB f zs a b then IntKind.i64.wrap (a + IntKind.i64.wrap ((IntKind.i64.wrap (b - a)).tdiv 2)) else -1
def haR (f : Int) (zs : List Int) (pa ha a b : Int) : Int := bif decide (absP (zs.getD a.toNat 0) = 1) || !decide (capR f zs pa a b = 0) then 0 else IntKind.i64.wrap (ha + 1)
def fuR (bl : Bool) (fu : Int) : Int := bif bl then IntKind.i64.wrap (fu + 1) else fu
def err1 (p : Psn) (m : Mov) : Bool := !p.ok || !mvB p.f p.r m.a m.b m.p
def err3 (p : Psn) (m : Mov) : Bool := isP (p.zs.getD m.b.toNat 0) p.bl || (!goesB p.f p.r p.zs p.bl p.pa m.a m.b m.p && (!wayB p.f p.r p.zs (wayN p.zs p.bl p.ca m.a m.b) || !decide (m.p = 0)))
def err4 (p : Psn) (m : Mov) : Bool := chkB p.f p.r (zs3R p.f p.r p.zs p.bl p.ca p.pa m.a m.b m.p) p.bl || (cstR p.f p.r p.zs p.bl p.ca p.pa m.a m.b m.p && (chkB p.f p.r p.zs p.bl || !decide ((attackersR p.f p.r p.zs (wCro (wayN p.zs p.bl p.ca m.a m.b)) (!p.bl)).1 = 0)))
def err5 (p : Psn) (m : Mov) : Bool := decide (10000 < haR p.f p.zs p.pa p.ha m.a m.b) || decide (10000 < fuR p.bl p.fu)
def mkE5 (p : Psn) (m : Mov) : Int := bif err1 p m then 2 else bif !isP (p.zs.getD m.a.toNat 0) p.bl then 9 else bif err3 p m then 10 else bif err4 p m then 90 else bif err5 p m then 7 else 0
def mkP (p : Psn) (m : Mov) : Psn := bif decide (mkE5 p m = 0) then ⟨p.f, p.r, zs3R p.f p.r p.zs p.bl p.ca p.pa m.a m.b m.p, !p.bl, caR p.ca m.a m.b, paR p.f p.zs m.a m.b, haR p.f p.zs p.pa p.ha m.a m.b, fuR p.bl p.fu⟩ else ⟨0, 0, [], false, 0, 0, 0, 0⟩
def mkU (p : Psn) (m : Mov) : Und := bif decide (mkE5 p m = 0) then ⟨m, capR p.f p.zs p.pa m.a m.b, at2R p.f p.zs p.pa m.a m.b, p.ca, p.pa, p.ha, p.fu⟩ else ⟨⟨0, 0, 0⟩, 0, 0, 0, 0, 0, 0⟩
abbrev psV (b : Nat) (p : Psn) : V := .agg [I p.f, I p.r, .sl b 0 p.zs.length none, Bb p.bl, .int .u8 p.ca, I p.pa, I p.ha, I p.fu]
abbrev unV (u : Und) : V := .agg [I u.m.a, I u.m.b, .int .i8 u.m.p, .int .i8 u.c, I u.at_, .int .u8 u.ca, I u.pa, I u.ha, I u.fu]
theorem pnR_ok : ∀ a b v, pnRefuse 36 a = some (b, v) → PnSound PP 45 a b v := by
 intro a b v h
 unfold pnRefuse at h
 split at h
 ·cases h; exact refuse_pn _ _ _
 ·cases h
def seqTail : Code → Code
 | .seq _ y => y
 | c => c
noncomputable abbrev EM (kDb : Bool) : Env := { mkEP tyT (GGx true kDb) [(46, c_pvalid), (47, c_mvalid), (48, c_is), (51, c_kind), (49, c_mcastling), (50, c_mgoes), (52, c_pcopy), (53, c_mlost), (54, c_Attackers), (55, c_mchk)] [] [(45, pnRefuse 36)] with cut := true }
theorem EM_ok {kDb : Bool} : (EM kDb).Fn PP := cutE (envP_ok mixedOk tyOk ⟨c_pvalid_ok, c_mvalid_ok, c_is_ok, c_kind_ok, c_mcastling_ok, c_mgoes_ok, c_pcopy_ok, c_mlost_ok, c_Attackers_ok, c_mchk_ok, trivial⟩ trivial ⟨pnR_ok, trivial⟩)
theorem mk_pan {kDb : Bool} {zs : List Int} {B1 B2 : O} (n : Int) (hn : (!decide (n = 0)) = true) (o1 o2 o3 o4 o5 o6 o7 o8 u1 u2 u3 u4 u5 u6 u7 u8 u9 : V) :
  Lv (EM kDb) PP (fun tm hp => FinL (EM kDb) Tryz.f15 1 (.tup [psV 1 ⟨0, 0, [], false, 0, 0, 0, 0⟩, unV ⟨⟨0, 0, 0⟩, 0, 0, 0, 0, 0, 0⟩, I n]) [.ints true .i8 []] .ret tm hp) [⟨44, [], [.ptr 5 0 0]⟩, ⟨43, [.ptr 5 0 0, .ptr 3 0 0, .ptr 4 0 0], []⟩]
   (.panicking [{ v := .iface 36 (.int .i64 n), recovered := false }]) [(4, .ptr 3 0 0), (5, .ptr 4 0 0), (6, .ptr 5 0 0)] [.ints false .i8 zs, B1, B2, .cells true [o1, o2, o3, o4, o5, o6, o7, o8], .cells true [u1, u2, u3, u4, u5, u6, u7, u8, u9], .cells true [I 0]] := by
 have hE := EM_ok (kDb := kDb)
 refine ⟨by simp, _, _, refused_panic (kCa := true) (kDb := kDb) (b := 5) (v0 := I 0) rfl, ?_⟩
 rintro _ rfl
 refine ⟨by simp [Go.settle], _, fun hp' => hp' = [.ints false .i8 zs, B1, B2, .cells true [I 0, I 0, .nils, .lit false, .int .u8 0, I 0, I 0, I 0], .cells true [I 0, I 0, .int .i8 0, .int .i8 0, I 0, .int .u8 0, I 0, I 0, I 0], .cells true [I n]], defS_of hE 2 Tryz.func43 (by kernel_rfl) rfl rfl ?_, ?_⟩
 ·refine sat_split hE 2 rfl (fun _ => ?_) (fun h => absurd (hn.symm.trans h) (by simp))
  exact sat_ret ⟨.inl rfl, [], rfl, rfl⟩
 ·rintro _ rfl
  refine ⟨rfl, ?_⟩
  refine fin_le (Ent.phan (b := 3) (j := 2) (ww := true) (o := .ints true .i8 []) rfl rfl ⟨by simp, by simp, trivial, rfl⟩ (blt_lt rfl)) (fin_new 6 (.inr rfl) rfl rfl rfl rfl rfl rfl) (fun _ _ h => h)
theorem mk_pan7 {kDb : Bool} {zs : List Int} {B1 B2 : O} (lx : List Int) (n : Int) (hn : (!decide (n = 0)) = true) (o1 o2 o3 o4 o5 o6 o7 o8 u1 u2 u3 u4 u5 u6 u7 u8 u9 : V) :
  Lv (EM kDb) PP (fun tm hp => FinL (EM kDb) Tryz.f15 1 (.tup [psV 1 ⟨0, 0, [], false, 0, 0, 0, 0⟩, unV ⟨⟨0, 0, 0⟩, 0, 0, 0, 0, 0, 0⟩, I n]) [.ints true .i8 []] .ret tm hp) [⟨44, [], [.ptr 5 0 0]⟩, ⟨43, [.ptr 5 0 0, .ptr 3 0 0, .ptr 4 0 0], []⟩]
   (.panicking [{ v := .iface 36 (.int .i64 n), recovered := false }]) [(4, .ptr 3 0 0), (5, .ptr 4 0 0), (6, .ptr 5 0 0)] [.ints false .i8 zs, B1, B2, .cells true [o1, o2, o3, o4, o5, o6, o7, o8], .cells true [u1, u2, u3, u4, u5, u6, u7, u8, u9], .cells true [I 0], .ints true .i8 lx] := by
 have hE := EM_ok (kDb := kDb)
 refine ⟨by simp, _, _, refused_panic (kCa := true) (kDb := kDb) (b := 5) (v0 := I 0) rfl, ?_⟩
 rintro _ rfl
 refine ⟨by simp [Go.settle], _, fun hp' => hp' = [.ints false .i8 zs, B1, B2, .cells true [I 0, I 0, .nils, .lit false, .int .u8 0, I 0, I 0, I 0], .cells true [I 0, I 0, .int .i8 0, .int .i8 0, I 0, .int .u8 0, I 0, I 0, I 0], .cells true [I n], .ints true .i8 lx], defS_of hE 2 Tryz.func43 (by kernel_rfl) rfl rfl ?_, ?_⟩
 ·refine sat_split hE 2 rfl (fun _ => ?_) (fun h => absurd (hn.symm.trans h) (by simp))
  exact sat_ret ⟨.inl rfl, [], rfl, rfl⟩
 ·rintro _ rfl
  refine ⟨rfl, ?_⟩
  refine fin_le (Ent.phan (b := 3) (j := 2) (ww := true) (o := .ints true .i8 []) rfl rfl ⟨by simp, by simp, trivial, rfl⟩ (blt_lt rfl)) (fin_new 7 (.inr rfl) rfl rfl rfl rfl rfl rfl) (fun _ _ h => h)
theorem mk_ret {kDb : Bool} {zs : List Int} {B1 B2 : O} (q : Psn) (x : Und) (hq : q.zs.length = zs.length) :
  Lv (EM kDb) PP (fun tm hp => FinL (EM kDb) Tryz.f15 1 (.tup [psV 1 q, unV x, I 0]) [.ints true .i8 q.zs] .ret tm hp) [⟨44, [], [.ptr 5 0 0]⟩, ⟨43, [.ptr 5 0 0, .ptr 3 0 0, .ptr 4 0 0], []⟩]
   .returning [(4, .ptr 3 0 0), (5, .ptr 4 0 0), (6, .ptr 5 0 0)] [.ints false .i8 zs, B1, B2, .cells true [I q.f, I q.r, .sl 6 0 zs.length none, Bb q.bl, .int .u8 q.ca, I q.pa, I q.ha, I q.fu], .cells true [I x.m.a, I x.m.b, .int .i8 x.m.p, .int .i8 x.c, I x.at_, .int .u8 x.ca, I x.pa, I x.ha, I x.fu], .cells true [I 0], .ints true .i8 q.zs] := by
 have hE := EM_ok (kDb := kDb)
 refine ⟨by simp, _, _, refused_idle (kCa := true) (kDb := kDb) 5 _ 0, ?_⟩
 rintro _ rfl
 refine ⟨by simp [Go.settle], _, fun hp' => hp' = [.ints false .i8 zs, B1, B2, .cells true [I q.f, I q.r, .sl 6 0 zs.length none, Bb q.bl, .int .u8 q.ca, I q.pa, I q.ha, I q.fu], .cells true [I x.m.a, I x.m.b, .int .i8 x.m.p, .int .i8 x.c, I x.at_, .int .u8 x.ca, I x.pa, I x.ha, I x.fu], .cells true [I 0], .ints true .i8 q.zs], defS_of hE 2 Tryz.func43 (by kernel_rfl) rfl rfl ?_, ?_⟩
 ·refine sat_split hE 2 rfl (fun h => absurd h (by simp)) (fun _ => ?_)
  exact sat_ret ⟨.inl rfl, [], rfl, rfl⟩
 ·rintro _ rfl
  refine ⟨rfl, ?_⟩
  rw [← hq]
  exact fin_l0 (fin_new 6 (.inr rfl) rfl rfl rfl rfl rfl rfl)
theorem mk_err {p : Psn} {m : Mov} {n : Int} (h : mkE5 p m = n) (hn : (!decide (n = 0)) = true) : mkP p m = ⟨0, 0, [], false, 0, 0, 0, 0⟩ ∧ mkU p m = ⟨⟨0, 0, 0⟩, 0, 0, 0, 0, 0, 0⟩ := by
 have h0 : decide (mkE5 p m = 0) = false := by rw [h]; simpa using hn
 exact ⟨by rw [mkP, h0]; rfl, by rw [mkU, h0]; rfl⟩
theorem mk_pleaf {kDb : Bool} {zs : List Int} {B1 B2 : O} {p : Psn} {m : Mov} {n : Int} {tm : Tm} {hp : List O} {o1 o2 o3 o4 o5 o6 o7 o8 u1 u2 u3 u4 u5 u6 u7 u8 u9 : V} (he : mkE5 p m = n) (hn : (!decide (n = 0)) = true) (hent : Ent (GGx true kDb) 6 tm hp [(4, .ptr 3 0 0), (5, .ptr 4 0 0), (6, .ptr 5 0 0)] [.ints false .i8 zs, B1, B2, .cells true [o1, o2, o3, o4, o5, o6, o7, o8], .cells true [u1, u2, u3, u4, u5, u6, u7, u8, u9], .cells true [I 0]]) :
  FinDL (EM kDb) PP Tryz.f15 6 1 (.tup [psV 1 (mkP p m), unV (mkU p m), I (mkE5 p m)]) [.ints true .i8 (mkP p m).zs] [⟨44, [], [.ptr 5 0 0]⟩, ⟨43, [.ptr 5 0 0, .ptr 3 0 0, .ptr 4 0 0], []⟩] (.panic [{ v := .iface 36 (.int .i64 n), recovered := false }]) tm hp := by
 obtain ⟨h1, h2⟩ := mk_err he hn
 rw [h1, h2, he]
 exact ⟨_, _, _, rfl, hent, mk_pan n hn o1 o2 o3 o4 o5 o6 o7 o8 u1 u2 u3 u4 u5 u6 u7 u8 u9⟩
theorem mk_pleaf7 {kDb : Bool} {zs : List Int} {B1 B2 : O} {lx : List Int} {p : Psn} {m : Mov} {n : Int} {tm : Tm} {hp : List O} {o1 o2 o3 o4 o5 o6 o7 o8 u1 u2 u3 u4 u5 u6 u7 u8 u9 : V} (he : mkE5 p m = n) (hn : (!decide (n = 0)) = true) (hent : Ent (GGx true kDb) 6 tm hp [(4, .ptr 3 0 0), (5, .ptr 4 0 0), (6, .ptr 5 0 0)] [.ints false .i8 zs, B1, B2, .cells true [o1, o2, o3, o4, o5, o6, o7, o8], .cells true [u1, u2, u3, u4, u5, u6, u7, u8, u9], .cells true [I 0], .ints true .i8 lx]) :
  FinDL (EM kDb) PP Tryz.f15 6 1 (.tup [psV 1 (mkP p m), unV (mkU p m), I (mkE5 p m)]) [.ints true .i8 (mkP p m).zs] [⟨44, [], [.ptr 5 0 0]⟩, ⟨43, [.ptr 5 0 0, .ptr 3 0 0, .ptr 4 0 0], []⟩] (.panic [{ v := .iface 36 (.int .i64 n), recovered := false }]) tm hp := by
 obtain ⟨h1, h2⟩ := mk_err he hn
 rw [h1, h2, he]
 exact ⟨_, _, _, rfl, hent, mk_pan7 lx n hn o1 o2 o3 o4 o5 o6 o7 o8 u1 u2 u3 u4 u5 u6 u7 u8 u9⟩
theorem mk_rleaf {kDb : Bool} {zs : List Int} {B1 B2 : O} {p : Psn} {m : Mov} {q : Psn} {x : Und} {tm : Tm} {hp : List O} (he : mkE5 p m = 0) (h1 : mkP p m = q) (h2 : mkU p m = x) (hq : q.zs.length = zs.length) (hent : Ent (GGx true kDb) 6 tm hp [(4, .ptr 3 0 0), (5, .ptr 4 0 0), (6, .ptr 5 0 0)] [.ints false .i8 zs, B1, B2, .cells true [I q.f, I q.r, .sl 6 0 zs.length none, Bb q.bl, .int .u8 q.ca, I q.pa, I q.ha, I q.fu], .cells true [I x.m.a, I x.m.b, .int .i8 x.m.p, .int .i8 x.c, I x.at_, .int .u8 x.ca, I x.pa, I x.ha, I x.fu], .cells true [I 0], .ints true .i8 q.zs]) :
  FinDL (EM kDb) PP Tryz.f15 6 1 (.tup [psV 1 (mkP p m), unV (mkU p m), I (mkE5 p m)]) [.ints true .i8 (mkP p m).zs] [⟨44, [], [.ptr 5 0 0]⟩, ⟨43, [.ptr 5 0 0, .ptr 3 0 0, .ptr 4 0 0], []⟩] .ret tm hp := by
 rw [h1, h2, he]
 exact ⟨_, _, _, rfl, hent, mk_ret q x hq⟩
theorem need_g2 {zs : List Int} (h : zs.length ≤ 64) {n : Nat} (hn : n = zs.length) {g b : Bool} (hb : b = true) : (!g || (decide (n = (tk zs).length) && decide ((tk zs).length ≤ 64) && b)) = true := by
 rw [need_bdv h hn hb]; simp
theorem ok_bd {p : Psn} (h : p.ok = true) : validBd p.f p.r p.zs = true ∧ castB p.f p.r p.zs p.ca = true := by
 simp only [Psn.ok, Bool.and_eq_true] at h
 exact ⟨h.1.1.1.1.1, h.1.1.2⟩
theorem mv_ab {f r a b p : Int} (h : mvB f r a b p = true) : validB f r a = true ∧ validB f r b = true := by
 simp only [mvB, Bool.and_eq_true] at h
 exact ⟨h.1.1.1, h.1.1.2⟩
theorem ep_ok {f r a b : Int} (ha : validB f r a = true) (hb : validB f r b = true) : validB f r (IntKind.i64.wrap (IntKind.i64.wrap (a - a.tmod f) + b.tmod f)) = true ∧ IntKind.i64.wrap (IntKind.i64.wrap (a - a.tmod f) + b.tmod f) = px f b + py f a * f := by
 obtain ⟨_, a1, a2, a3, a4, a5, a6, a7, a8, a9⟩ := px_bd ha
 obtain ⟨_, b1, b2, b3, b4, b5, _⟩ := px_bd hb
 have h1 := valid_lt ha
 have h2 := valid_lt hb
 have hv := on_valid (X := px f b) (Y := py f a) (valid_vs ha) (on_mk b1 b2 a3 a4)
 have h3 := valid_lt hv.1
 have e1 : IntKind.i64.wrap (a - a.tmod f) = py f a * f := by
  have : a - a.tmod f = py f a * f := by have : a.tmod f = px f a := rfl; omega
  rw [this]; exact w64_id (by omega) (by omega)
 have e2 : IntKind.i64.wrap (IntKind.i64.wrap (a - a.tmod f) + b.tmod f) = px f b + py f a * f := by
  rw [e1, show py f a * f + b.tmod f = px f b + py f a * f by have : b.tmod f = px f b := rfl; omega]
  exact w64_id (by omega) (by omega)
 exact ⟨by rw [e2]; exact hv.1, e2⟩
theorem at1_ok {f r : Int} {zs : List Int} {pa a b : Int} (ha : validB f r a = true) (hb : validB f r b = true) : validB f r (at1R f zs pa a b) = true := by
 unfold at1R
 cases epB zs pa a b
 ·exact hb
 ·exact (ep_ok ha hb).1
theorem at2_ok {f r : Int} {zs : List Int} {pa a b : Int} (hbd : validBd f r zs = true) (ha : validB f r a = true) (hb : validB f r b = true) (h0 : 0 ≤ at2R f zs pa a b) : at2R f zs pa a b < zs.length := by
 unfold at2R at h0 ⊢
 cases h : decide (capR f zs pa a b = 0) with
 | true => rw [h] at h0; simp at h0
 | false => exact ((bd_sq hbd).1 (at1_ok ha hb)).2
theorem zs1_len {f : Int} {zs : List Int} {pa a b : Int} : (zs1R f zs pa a b).length = zs.length := by
 unfold zs1R; cases decide (0 ≤ at2R f zs pa a b) <;> simp
theorem zs2_len {f : Int} {zs : List Int} {pa a b : Int} : (zs2R f zs pa a b).length = zs.length := by
 simp [zs2R, zs1_len]
theorem put_len {l : List Int} {bl : Bool} {b pr : Int} {c : Bool} {n : Nat} : (putR l bl b pr c n).length = l.length := by
 unfold putR
 cases (!decide (pr = 0) && bl) <;> cases (!decide (pr = 0)) <;> cases c <;> simp
theorem zs3_len {f r : Int} {zs : List Int} {bl : Bool} {ca pa a b pr : Int} : (zs3R f r zs bl ca pa a b pr).length = zs.length := by
 rw [zs3R, put_len, zs2_len]
theorem need_out {l : List Int} {n : Nat} (h1 : n = l.length) (h2 : n ≤ 64) : (decide (n = ((l.drop 0).take n).length) && decide (((l.drop 0).take n).length ≤ 64)) = true := by
 subst h1; simp [h2]
theorem need_outg {l : List Int} {n : Nat} {g : Bool} (h1 : n = l.length) (h2 : n ≤ 64) : (!g || (decide (n = ((l.drop 0).take n).length) && decide (((l.drop 0).take n).length ≤ 64))) = true := by
 rw [need_out h1 h2]; simp
theorem need_ixt {zs : List Int} {b : Int} (h : 0 ≤ b) (h1 : b < zs.length) : (decide (0 ≤ b) && decide (b < (tk zs).length)) = true := by rw [tk_eq]; simp [h, h1]
theorem tk_n {l : List Int} {n : Nat} (h1 : n = l.length) : (l.drop 0).take n = l := by subst h1; simp
theorem cast_88 {f r : Int} {zs : List Int} {bl : Bool} {ca a b : Int} (hbd : validBd f r zs = true) (hc : castB f r zs ca = true) (hn : ¬ wayN zs bl ca a b = 4) : is88 f r = true ∧ zs.length = 64 ∧ 0 ≤ wCor (wayN zs bl ca a b) ∧ wCor (wayN zs bl ca a b) < 64 ∧ 0 ≤ wCro (wayN zs bl ca a b) ∧ wCro (wayN zs bl ca a b) < 64 := by
 have key : is88 f r = true := by
  unfold wayN at hn
  simp only [castB, rtX, Bool.and_eq_true, Bool.not_eq_true'] at hc
  obtain ⟨⟨⟨⟨c1, c2⟩, c3⟩, c4⟩, _⟩ := hc
  cases hk : (!decide (absP (zs.getD a.toNat 0) = 6)) with
  | true => rw [hk] at hn; exact absurd rfl hn
  | false =>
   rw [hk, cond_false] at hn
   have go : ∀ {bit : Int} {c : Bool} {k to : Int} {X Y : Bool}, csSkip bl ca a b c bit k to = false → ((!decide (u8and ca bit = 0)) && ((!is88 f r || X) || Y)) = false → is88 f r = true := by
    intro bit c k to X Y h1 h2
    simp only [csSkip, Bool.or_eq_false_iff] at h1
    rw [h1.1.1.2] at h2
    cases h8 : is88 f r with
    | true => rfl
    | false => rw [h8] at h2; simp at h2
   cases h1 : csSkip bl ca a b false 1 4 6 with
   | false => exact go h1 c1
   | true =>
    rw [h1] at hn
    cases h2 : csSkip bl ca a b false 2 4 2 with
    | false => exact go h2 c2
    | true =>
     rw [h2] at hn
     cases h3 : csSkip bl ca a b true 4 60 62 with
     | false => exact go h3 c3
     | true =>
      rw [h3] at hn
      cases h4 : csSkip bl ca a b true 8 60 58 with
      | false => exact go h4 c4
      | true => rw [h4] at hn; exact absurd rfl hn
 have h4 : wayN zs bl ca a b ≤ 4 := by
  unfold wayN
  cases (!decide (absP (zs.getD a.toNat 0) = 6)) <;> cases (!csSkip bl ca a b false 1 4 6) <;> cases (!csSkip bl ca a b false 2 4 2) <;> cases (!csSkip bl ca a b true 4 60 62) <;> cases (!csSkip bl ca a b true 8 60 58) <;> simp
 refine ⟨key, bd_88 hbd key, ?_⟩
 generalize wayN zs bl ca a b = n at h4 hn ⊢
 have : n = 0 ∨ n = 1 ∨ n = 2 ∨ n = 3 := by omega
 rcases this with rfl | rfl | rfl | rfl <;> decide
theorem mk_sound {kDb : Bool} {f r : Int} {zs : List Int} {bl : Bool} {ca pa ha fu a b pr : Int} (hc2 : zs.length ≤ 64) : FnSound (GGx true kDb) PP 15 [.agg [I f, I r, .sl 0 0 zs.length none, Bb bl, .int .u8 ca, I pa, I ha, I fu], .agg [I a, I b, .int .i8 pr]] [.ints false .i8 zs] (.tup [psV 1 (mkP ⟨f, r, zs, bl, ca, pa, ha, fu⟩ ⟨a, b, pr⟩), unV (mkU ⟨f, r, zs, bl, ca, pa, ha, fu⟩ ⟨a, b, pr⟩), I (mkE5 ⟨f, r, zs, bl, ca, pa, ha, fu⟩ ⟨a, b, pr⟩)]) [.ints true .i8 (mkP ⟨f, r, zs, bl, ca, pa, ha, fu⟩ ⟨a, b, pr⟩).zs] := by
 refine fn_soundDM (rest := seqTail (seqTail (seqTail (Tryz.f15.body.getD .skip)))) (EM_ok (kDb := kDb)) 2 Tryz.func15 rfl rfl [⟨44, [], [.ptr 5 0 0]⟩, ⟨43, [.ptr 5 0 0, .ptr 3 0 0, .ptr 4 0 0], []⟩] (Q1 := fun tm hp => tm = (13, .fn 43 [.ptr 5 0 0, .ptr 3 0 0, .ptr 4 0 0]) :: [(6, .ptr 5 0 0), (5, .ptr 4 0 0), (4, .ptr 3 0 0), (3, .ptr 2 0 0), (2, .ptr 1 0 0), (0, .agg [I f, I r, .sl 0 0 zs.length none, Bb bl, .int .u8 ca, I pa, I ha, I fu]), (1, .agg [I a, I b, .int .i8 pr])] ∧ hp = [.ints false .i8 zs, .cells true [I f, I r, .sl 0 0 zs.length none, Bb bl, .int .u8 ca, I pa, I ha, I fu], .cells true [I a, I b, .int .i8 pr], .cells true [I 0, I 0, .nils, .lit false, .int .u8 0, I 0, I 0, I 0], .cells true [I 0, I 0, .int .i8 0, .int .i8 0, I 0, .int .u8 0, I 0, I 0, I 0], .cells true [I 0]]) ?_ ?_
 ·intro B w0 S ρ aa w k Q hrel hd hrest
  refine wpIn_seq (wpIn_mono (quiet_region (K := (seqTail (Tryz.f15.body.getD .skip)).wpIn (Fr none) k PP Q) EM_ok 2 rfl (Q2 := fun tm hp => tm = [(6, .ptr 5 0 0), (5, .ptr 4 0 0), (4, .ptr 3 0 0), (3, .ptr 2 0 0), (2, .ptr 1 0 0), (0, .agg [I f, I r, .sl 0 0 zs.length none, Bb bl, .int .u8 ca, I pa, I ha, I fu]), (1, .agg [I a, I b, .int .i8 pr])] ∧ hp = [.ints false .i8 zs, .cells true [I f, I r, .sl 0 0 zs.length none, Bb bl, .int .u8 ca, I pa, I ha, I fu], .cells true [I a, I b, .int .i8 pr], .cells true [I 0, I 0, .nils, .lit false, .int .u8 0, I 0, I 0, I 0], .cells true [I 0, I 0, .int .i8 0, .int .i8 0, I 0, .int .u8 0, I 0, I 0, I 0], .cells true [I 0]]) (sat_ret ⟨rfl, rfl⟩) hrel hd ?_) ?_)
  rotate_left
  ·rintro e a' w' ⟨rfl, h⟩; exact h
  rintro a1 w1 tm1 hp1 ρ1 r1 hd1 l1 ⟨rfl, rfl⟩
  refine wpIn_seq (wpIn_mono (pre_region (K := (seqTail (seqTail (Tryz.f15.body.getD .skip))).wpIn (Fr none) k PP Q) EM_ok 2 [_] _ [] rfl rfl rfl rfl rfl rfl (f := 43) (caps := [.ptr 5 0 0, .ptr 3 0 0, .ptr 4 0 0]) (args := []) (Q2 := fun tm hp => tm = (13, .fn 43 [.ptr 5 0 0, .ptr 3 0 0, .ptr 4 0 0]) :: [(6, .ptr 5 0 0), (5, .ptr 4 0 0), (4, .ptr 3 0 0), (3, .ptr 2 0 0), (2, .ptr 1 0 0), (0, .agg [I f, I r, .sl 0 0 zs.length none, Bb bl, .int .u8 ca, I pa, I ha, I fu]), (1, .agg [I a, I b, .int .i8 pr])] ∧ hp = [.ints false .i8 zs, .cells true [I f, I r, .sl 0 0 zs.length none, Bb bl, .int .u8 ca, I pa, I ha, I fu], .cells true [I a, I b, .int .i8 pr], .cells true [I 0, I 0, .nils, .lit false, .int .u8 0, I 0, I 0, I 0], .cells true [I 0, I 0, .int .i8 0, .int .i8 0, I 0, .int .u8 0, I 0, I 0, I 0], .cells true [I 0]]) (sat_ret ⟨rfl, rfl, sat_ret ⟨rfl, rfl⟩⟩) r1 hd1 ?_) ?_)
  rotate_left
  ·rintro e a' w' ⟨rfl, h⟩; exact h
  rintro a2 w2 tm2 hp2 ρ2 cus1 us1 r2 hd2 l2 hc1 hu1 ⟨rfl, rfl⟩
  refine wpIn_seq (wpIn_mono (pre_region (K := (seqTail (seqTail (seqTail (Tryz.f15.body.getD .skip)))).wpIn (Fr none) k PP Q) EM_ok 2 [] _ [] rfl rfl rfl rfl rfl rfl (f := 44) (caps := []) (args := [.ptr 5 0 0]) (Q2 := fun tm hp => tm = (13, .fn 43 [.ptr 5 0 0, .ptr 3 0 0, .ptr 4 0 0]) :: [(6, .ptr 5 0 0), (5, .ptr 4 0 0), (4, .ptr 3 0 0), (3, .ptr 2 0 0), (2, .ptr 1 0 0), (0, .agg [I f, I r, .sl 0 0 zs.length none, Bb bl, .int .u8 ca, I pa, I ha, I fu]), (1, .agg [I a, I b, .int .i8 pr])] ∧ hp = [.ints false .i8 zs, .cells true [I f, I r, .sl 0 0 zs.length none, Bb bl, .int .u8 ca, I pa, I ha, I fu], .cells true [I a, I b, .int .i8 pr], .cells true [I 0, I 0, .nils, .lit false, .int .u8 0, I 0, I 0, I 0], .cells true [I 0, I 0, .int .i8 0, .int .i8 0, I 0, .int .u8 0, I 0, I 0, I 0], .cells true [I 0]]) (sat_ret ⟨rfl, rfl, sat_ret ⟨rfl, rfl⟩⟩) r2 hd2 ?_) ?_)
  rotate_left
  ·rintro e a' w' ⟨rfl, h⟩; exact h
  rintro a3 w3 tm3 hp3 ρ3 cus2 us2 r3 hd3 l3 hc3 hu3 ⟨rfl, rfl⟩
  exact hrest _ _ _ _ _ _ r3 (Ren.le_trans l1 (Ren.le_trans l2 l3)) ⟨cus2, us2, _, rfl, hc3, hu3, cus1, us1, [], rfl, VRL.mono l3 _ _ hc1, VRL.mono l3 _ _ hu1, rfl⟩ ⟨rfl, rfl⟩
 rintro tm1 hp1 ⟨rfl, rfl⟩
 refine ⟨by simp, ?_⟩
 have hE := EM_ok (kDb := kDb)
 repeat (first | (first | refine sat_self ?_ | refine sat_nd ?_) | refine sat_need (need_ix ha0 ha1) ?_ | refine sat_need (need_ix hb0 hb1) ?_ | refine sat_need (need_bdv hc2 rfl hv3) ?_ | refine sat_need (need_g2 hc2 rfl hv3) ?_ | refine sat_need (need_bd hc2 rfl) ?_)
 refine sat_br (fun h => ?_) (fun h => ?_)
 ·have h : (!(Psn.ok ⟨f, r, tk zs, bl, ca, pa, ha, fu⟩) || !mvB f r a b pr) = true := h
  rw [tk_eq] at h
  have h : err1 ⟨f, r, zs, bl, ca, pa, ha, fu⟩ ⟨a, b, pr⟩ = true := h
  exact sat_ret (mk_pleaf (by simp only [mkE5, h, cond_true]) rfl (Ent.ren [0, 1, 2, 3, 4, 5] [4, 5, 6] rfl rfl rfl))
 have h : (!(Psn.ok ⟨f, r, tk zs, bl, ca, pa, ha, fu⟩) || !mvB f r a b pr) = false := h
 rw [tk_eq] at h
 have e1 : err1 ⟨f, r, zs, bl, ca, pa, ha, fu⟩ ⟨a, b, pr⟩ = false := h
 simp only [Bool.or_eq_false_iff, Bool.not_eq_false'] at h
 obtain ⟨hbd, hcas⟩ := ok_bd h.1
 obtain ⟨hva, hvb⟩ := mv_ab h.2
 dsimp only at hbd hcas
 obtain ⟨ha0, ha1⟩ := (bd_sq hbd).1 hva
 obtain ⟨hb0, hb1⟩ := (bd_sq hbd).1 hvb
 have hv3 : (validBd f r (tk zs) && validB f r a && validB f r b) = true := by rw [tk_eq, hbd, hva, hvb]; rfl
 have hf0 : (!decide (f = 0)) = true := by have := vs_bd (bd_valid hbd).1; simp; omega
 clear h
 repeat (first | (first | refine sat_self ?_ | refine sat_nd ?_) | refine sat_need (need_ix ha0 ha1) ?_ | refine sat_need (need_ix hb0 hb1) ?_ | refine sat_need (need_bdv hc2 rfl hv3) ?_ | refine sat_need (need_g2 hc2 rfl hv3) ?_ | refine sat_need (need_bd hc2 rfl) ?_ | refine sat_need hf0 ?_)
 refine sat_br (fun h => ?_) (fun h => ?_)
 ·have h : (!isP (zs.getD a.toNat 0) bl) = true := h
  exact sat_ret (mk_pleaf (by simp only [mkE5, e1, h, cond_true, cond_false]) rfl (Ent.ren [0, 1, 2, 3, 4, 5] [4, 5, 6] rfl rfl rfl))
 have e2 : (!isP (zs.getD a.toNat 0) bl) = false := h
 repeat (first | (first | refine sat_self ?_ | refine sat_nd ?_) | refine sat_need (need_ix ha0 ha1) ?_ | refine sat_need (need_ix hb0 hb1) ?_ | refine sat_need (need_bdv hc2 rfl hv3) ?_ | refine sat_need (need_g2 hc2 rfl hv3) ?_ | refine sat_need (need_bd hc2 rfl) ?_ | refine sat_need hf0 ?_)
 refine sat_br (fun h => ?_) (fun h => ?_)
 ·have h : (isP (zs.getD b.toNat 0) bl || (!goesB f r (tk zs) bl pa a b pr && (!wayB f r (tk zs) (wayN (tk zs) bl ca a b) || !decide (pr = 0)))) = true := h
  rw [tk_eq] at h
  have h : err3 ⟨f, r, zs, bl, ca, pa, ha, fu⟩ ⟨a, b, pr⟩ = true := h
  exact sat_ret (mk_pleaf (by simp only [mkE5, e1, e2, h, cond_true, cond_false]) rfl (Ent.ren [0, 1, 2, 3, 4, 5] [4, 5, 6] rfl rfl rfl))
 have h : (isP (zs.getD b.toNat 0) bl || (!goesB f r (tk zs) bl pa a b pr && (!wayB f r (tk zs) (wayN (tk zs) bl ca a b) || !decide (pr = 0)))) = false := h
 rw [tk_eq] at h
 have e3 : err3 ⟨f, r, zs, bl, ca, pa, ha, fu⟩ ⟨a, b, pr⟩ = false := h
 clear h
 repeat (first | (first | refine sat_self ?_ | refine sat_nd ?_) | refine sat_need (need_ix ha0 ha1) ?_ | refine sat_need (need_ix hb0 hb1) ?_ | refine sat_need (need_bdv hc2 rfl hv3) ?_ | refine sat_need (need_g2 hc2 rfl hv3) ?_ | refine sat_need (need_bd hc2 rfl) ?_ | refine sat_need hf0 ?_)
 refine sat_join hE 2 (fun e tm hp => e = .normal ∧ ∃ (n : Nat) (c : Bool) (at_ cap : Int), n = wayN zs bl ca a b ∧ c = cstR f r zs bl ca pa a b pr ∧ at_ = at1R f zs pa a b ∧ cap = capR f zs pa a b ∧ tm = [(2, .ptr 1 0 0), (3, .ptr 2 0 0), (4, .ptr 3 0 0), (5, .ptr 4 0 0), (6, .ptr 5 0 0), (7, .int .i8 (zs.getD a.toNat 0)), (8, .ptr 6 0 0), (9, Bb c)] ∧ hp = [.ints false .i8 zs, .cells true [I f, I r, .sl 0 0 zs.length none, Bb bl, .int .u8 ca, I pa, I ha, I fu], .cells true [I a, I b, .int .i8 pr], .cells true [I 0, I 0, .nils, .lit false, .int .u8 0, I 0, I 0, I 0], .cells true [I a, I b, .int .i8 pr, .int .i8 cap, I at_, .int .u8 ca, I pa, I ha, I fu], .cells true [I 0], .cells true [.int .u8 (wBit n), Bb (wBl n), I (wFrom n), I (wTo n), I (wCor n), I (wCro n)]]) rfl (fun h => ?_) (fun h => ?_) ?_
 ·have hep : epB zs pa a b = true := h
  have hx := (bd_sq hbd).1 (ep_ok hva hvb).1
  repeat (first | (first | refine sat_self ?_ | refine sat_nd ?_) | refine sat_need hf0 ?_ | refine sat_need (need_ix hx.1 hx.2) ?_)
  refine sat_ret ⟨_, _, Ent.ren [0, 1, 2, 3, 4, 5, 6] [2, 3, 4, 5, 6, 7, 8, 9] rfl rfl rfl, rfl, wayN (tk zs) bl ca a b, wayB f r (tk zs) (wayN (tk zs) bl ca a b) && !goesB f r (tk zs) bl pa a b pr, _, _, by rw [tk_eq], by rw [tk_eq]; rfl, ?_, ?_, rfl, rfl⟩
  ·rw [at1R, hep]; rfl
  ·rw [capR, at1R, hep]; rfl
 ·have hep : epB zs pa a b = false := h
  refine sat_ret ⟨_, _, Ent.ren [0, 1, 2, 3, 4, 5, 6] [2, 3, 4, 5, 6, 7, 8, 9] rfl rfl rfl, rfl, wayN (tk zs) bl ca a b, wayB f r (tk zs) (wayN (tk zs) bl ca a b) && !goesB f r (tk zs) bl pa a b pr, _, _, by rw [tk_eq], by rw [tk_eq]; rfl, ?_, ?_, rfl, rfl⟩
  ·rw [at1R, hep]; rfl
  ·rw [capR, at1R, hep]; rfl
 rintro e tm hp ⟨rfl, n, c, at_, cap, hn, hcs, hat, hcap, rfl, rfl⟩
 repeat (first | (first | refine sat_self ?_ | refine sat_nd ?_) | refine sat_need (need_ix ha0 ha1) ?_ | refine sat_need (need_ix hb0 hb1) ?_ | refine sat_need (need_bdv hc2 rfl hv3) ?_ | refine sat_need (need_g2 hc2 rfl hv3) ?_ | refine sat_need (need_bd hc2 rfl) ?_ | refine sat_need hf0 ?_)
 refine sat_join hE 2 (fun e tm hp => e = .normal ∧ ∃ at2 : Int, at2 = at2R f zs pa a b ∧ tm = [(2, .ptr 1 0 0), (3, .ptr 2 0 0), (4, .ptr 3 0 0), (5, .ptr 4 0 0), (6, .ptr 5 0 0), (7, .int .i8 (zs.getD a.toNat 0)), (8, .ptr 6 0 0), (9, Bb c)] ∧ hp = [.ints false .i8 zs, .cells true [I f, I r, .sl 0 0 zs.length none, Bb bl, .int .u8 ca, I pa, I ha, I fu], .cells true [I a, I b, .int .i8 pr], .cells true [I 0, I 0, .nils, .lit false, .int .u8 0, I 0, I 0, I 0], .cells true [I a, I b, .int .i8 pr, .int .i8 cap, I at2, .int .u8 ca, I pa, I ha, I fu], .cells true [I 0], .cells true [.int .u8 (wBit n), Bb (wBl n), I (wFrom n), I (wTo n), I (wCor n), I (wCro n)]]) rfl (fun h => ?_) (fun h => ?_) ?_
 ·have h : decide (cap = 0) = true := h
  refine sat_ret ⟨_, _, Ent.ren [0, 1, 2, 3, 4, 5, 6] [2, 3, 4, 5, 6, 7, 8, 9] rfl rfl rfl, rfl, _, ?_, rfl, rfl⟩
  rw [at2R, ← hcap, h]; rfl
 ·have h : decide (cap = 0) = false := h
  refine sat_ret ⟨_, _, Ent.ren [0, 1, 2, 3, 4, 5, 6] [2, 3, 4, 5, 6, 7, 8, 9] rfl rfl rfl, rfl, _, ?_, rfl, rfl⟩
  rw [at2R, ← hcap, h, ← hat]; rfl
 rintro e tm hp ⟨rfl, at2, hat2, rfl, rfl⟩
 clear hat
 repeat (first | (first | refine sat_self ?_ | refine sat_nd ?_) | refine sat_need (need_ix ha0 ha1) ?_ | refine sat_need (need_ix hb0 hb1) ?_ | refine sat_need (need_bdv hc2 rfl hv3) ?_ | refine sat_need (need_g2 hc2 rfl hv3) ?_ | refine sat_need (need_bd hc2 rfl) ?_ | refine sat_need hf0 ?_)
 refine sat_join hE 2 (fun e tm hp => e = .normal ∧ ∃ (l : List Int) (len : Nat), l = zs1R f zs pa a b ∧ len = zs.length ∧ tm = [(2, .ptr 1 0 0), (3, .ptr 2 0 0), (4, .ptr 3 0 0), (5, .ptr 4 0 0), (6, .ptr 5 0 0), (7, .int .i8 (zs.getD a.toNat 0)), (8, .ptr 6 0 0), (9, Bb c)] ∧ hp = [.ints false .i8 zs, .cells true [I f, I r, .sl 0 0 zs.length none, Bb bl, .int .u8 ca, I pa, I ha, I fu], .cells true [I a, I b, .int .i8 pr], .cells true [I f, I r, .sl 7 0 len none, Bb bl, .int .u8 ca, I pa, I ha, I fu], .cells true [I a, I b, .int .i8 pr, .int .i8 cap, I at2, .int .u8 ca, I pa, I ha, I fu], .cells true [I 0], .cells true [.int .u8 (wBit n), Bb (wBl n), I (wFrom n), I (wTo n), I (wCor n), I (wCro n)], .ints true .i8 l]) rfl (fun h => ?_) (fun h => ?_) ?_
 ·have h : decide (0 ≤ at2) = true := h
  have hx : at2 < zs.length := by rw [hat2]; exact at2_ok hbd hva hvb (by rw [← hat2]; exact of_decide_eq_true h)
  repeat (first | (first | refine sat_self ?_ | refine sat_nd ?_) | refine sat_need (need_ixt (of_decide_eq_true h) hx) ?_)
  refine sat_ret ⟨_, _, Ent.ren [0, 1, 2, 3, 4, 5, 6, 7] [2, 3, 4, 5, 6, 7, 8, 9] rfl rfl rfl, rfl, (tk zs).set at2.toNat 0, (tk zs).length, ?_, by rw [tk_eq], rfl, rfl⟩
  rw [tk_eq, zs1R, ← hat2, h]; rfl
 ·have h : decide (0 ≤ at2) = false := h
  refine sat_ret ⟨_, _, Ent.ren [0, 1, 2, 3, 4, 5, 6, 7] [2, 3, 4, 5, 6, 7, 8, 9] rfl rfl rfl, rfl, tk zs, (tk zs).length, ?_, by rw [tk_eq], rfl, rfl⟩
  rw [tk_eq, zs1R, ← hat2, h]; rfl
 rintro e tm hp ⟨rfl, l, len, hl, hlen, rfl, rfl⟩
 have ha1 : a < len := by rw [hlen]; exact ha1
 have hb1 : b < len := by rw [hlen]; exact hb1
 repeat (first | (first | refine sat_self ?_ | refine sat_nd ?_) | refine sat_need (need_ix ha0 ha1) ?_ | refine sat_need (need_ix hb0 hb1) ?_ | refine sat_need (need_bdv hc2 rfl hv3) ?_ | refine sat_need (need_g2 hc2 rfl hv3) ?_ | refine sat_need (need_bd hc2 rfl) ?_ | refine sat_need hf0 ?_)
 refine sat_join hE 2 (fun e tm hp => e = .normal ∧ ∃ l3 : List Int, l3 = zs3R f r zs bl ca pa a b pr ∧ tm = [(2, .ptr 1 0 0), (3, .ptr 2 0 0), (4, .ptr 3 0 0), (5, .ptr 4 0 0), (6, .ptr 5 0 0), (7, .int .i8 (zs.getD a.toNat 0)), (8, .ptr 6 0 0), (9, Bb c)] ∧ hp = [.ints false .i8 zs, .cells true [I f, I r, .sl 0 0 zs.length none, Bb bl, .int .u8 ca, I pa, I ha, I fu], .cells true [I a, I b, .int .i8 pr], .cells true [I f, I r, .sl 7 0 len none, Bb bl, .int .u8 ca, I pa, I ha, I fu], .cells true [I a, I b, .int .i8 pr, .int .i8 cap, I at2, .int .u8 ca, I pa, I ha, I fu], .cells true [I 0], .cells true [.int .u8 (wBit n), Bb (wBl n), I (wFrom n), I (wTo n), I (wCor n), I (wCro n)], .ints true .i8 l3]) rfl (fun h => ?_) (fun h => ?_) ?_
 ·have h : (!decide (pr = 0) && bl) = true := h
  repeat (first | (first | refine sat_self ?_ | refine sat_nd ?_) | refine sat_need (need_ix ha0 ha1) ?_ | refine sat_need (need_ix hb0 hb1) ?_ | refine sat_need (need_bdv hc2 rfl hv3) ?_ | refine sat_need (need_g2 hc2 rfl hv3) ?_ | refine sat_need (need_bd hc2 rfl) ?_ | refine sat_need hf0 ?_)
  refine sat_ret ⟨_, _, Ent.ren [0, 1, 2, 3, 4, 5, 6, 7] [2, 3, 4, 5, 6, 7, 8, 9] rfl rfl rfl, rfl, _, ?_, rfl, rfl⟩
  rw [zs3R, putR, zs2R, ← hl, h]; rfl
 ·have h : (!decide (pr = 0) && bl) = false := h
  refine sat_split hE 2 rfl (fun h2 => ?_) (fun h2 => ?_)
  ·have h2 : (!decide (pr = 0)) = true := h2
   repeat (first | (first | refine sat_self ?_ | refine sat_nd ?_) | refine sat_need (need_ix ha0 ha1) ?_ | refine sat_need (need_ix hb0 hb1) ?_ | refine sat_need (need_bdv hc2 rfl hv3) ?_ | refine sat_need (need_g2 hc2 rfl hv3) ?_ | refine sat_need (need_bd hc2 rfl) ?_ | refine sat_need hf0 ?_)
   refine sat_ret ⟨_, _, Ent.ren [0, 1, 2, 3, 4, 5, 6, 7] [2, 3, 4, 5, 6, 7, 8, 9] rfl rfl rfl, rfl, _, ?_, rfl, rfl⟩
   rw [zs3R, putR, zs2R, ← hl, h, h2]; rfl
  ·have h2 : (!decide (pr = 0)) = false := h2
   refine sat_split hE 2 rfl (fun h3 => ?_) (fun h3 => ?_)
   ·have h3 : c = true := h3
    have hw : ¬ n = 4 := by
     intro h4
     rw [cstR, ← hn, h4] at hcs
     rw [h3] at hcs
     exact absurd hcs (by simp [wayB])
    obtain ⟨_, h64, w1, w2, w3, w4⟩ := cast_88 (a := a) (b := b) (bl := bl) hbd hcas (by rw [← hn]; exact hw)
    rw [← hn] at w1 w2 w3 w4
    have w2 : wCor n < len := by rw [hlen, h64]; exact w2
    have w4 : wCro n < len := by rw [hlen, h64]; exact w4
    repeat (first | (first | refine sat_self ?_ | refine sat_nd ?_) | refine sat_need (need_ix ha0 ha1) ?_ | refine sat_need (need_ix hb0 hb1) ?_ | refine sat_need (need_bdv hc2 rfl hv3) ?_ | refine sat_need (need_g2 hc2 rfl hv3) ?_ | refine sat_need (need_bd hc2 rfl) ?_ | refine sat_need hf0 ?_)
    refine sat_ret ⟨_, _, Ent.ren [0, 1, 2, 3, 4, 5, 6, 7] [2, 3, 4, 5, 6, 7, 8, 9] rfl rfl rfl, rfl, _, ?_, rfl, rfl⟩
    rw [zs3R, putR, zs2R, ← hl, h, h2, ← hcs, h3, ← hn]; rfl
   ·have h3 : c = false := h3
    refine sat_ret ⟨_, _, Ent.ren [0, 1, 2, 3, 4, 5, 6, 7] [2, 3, 4, 5, 6, 7, 8, 9] rfl rfl rfl, rfl, _, ?_, rfl, rfl⟩
    rw [zs3R, putR, zs2R, ← hl, h, h2, ← hcs, h3]; rfl
 clear hl
 rintro e tm hp ⟨rfl, l3, hl3, rfl, rfl⟩
 repeat (first | (first | refine sat_self ?_ | refine sat_nd ?_) | refine sat_need (need_ix ha0 ha1) ?_ | refine sat_need (need_ix hb0 hb1) ?_ | refine sat_need (need_bdv hc2 rfl hv3) ?_ | refine sat_need (need_g2 hc2 rfl hv3) ?_ | refine sat_need (need_bd hc2 rfl) ?_ | refine sat_need hf0 ?_)
 refine sat_join hE 2 (fun e tm hp => e = .normal ∧ ∃ ca2 pa2 : Int, ca2 = caR ca a b ∧ pa2 = paR f zs a b ∧ tm = [(2, .ptr 1 0 0), (3, .ptr 2 0 0), (4, .ptr 3 0 0), (5, .ptr 4 0 0), (6, .ptr 5 0 0), (7, .int .i8 (zs.getD a.toNat 0)), (8, .ptr 6 0 0), (9, Bb c)] ∧ hp = [.ints false .i8 zs, .cells true [I f, I r, .sl 0 0 zs.length none, Bb bl, .int .u8 ca, I pa, I ha, I fu], .cells true [I a, I b, .int .i8 pr], .cells true [I f, I r, .sl 7 0 len none, Bb bl, .int .u8 ca2, I pa2, I ha, I fu], .cells true [I a, I b, .int .i8 pr, .int .i8 cap, I at2, .int .u8 ca, I pa, I ha, I fu], .cells true [I 0], .cells true [.int .u8 (wBit n), Bb (wBl n), I (wFrom n), I (wTo n), I (wCor n), I (wCro n)], .ints true .i8 l3]) rfl (fun h => ?_) (fun h => ?_) ?_
 ·have h : twoB f zs a b = true := h
  repeat (first | (first | refine sat_self ?_ | refine sat_nd ?_) | refine sat_need (need_ix ha0 ha1) ?_ | refine sat_need (need_ix hb0 hb1) ?_ | refine sat_need (need_bdv hc2 rfl hv3) ?_ | refine sat_need (need_g2 hc2 rfl hv3) ?_ | refine sat_need (need_bd hc2 rfl) ?_ | refine sat_need hf0 ?_)
  refine sat_ret ⟨_, _, Ent.ren [0, 1, 2, 3, 4, 5, 6, 7] [2, 3, 4, 5, 6, 7, 8, 9] rfl rfl rfl, rfl, _, _, rfl, ?_, rfl, rfl⟩
  rw [paR, h]; rfl
 ·have h : twoB f zs a b = false := h
  refine sat_ret ⟨_, _, Ent.ren [0, 1, 2, 3, 4, 5, 6, 7] [2, 3, 4, 5, 6, 7, 8, 9] rfl rfl rfl, rfl, _, _, rfl, ?_, rfl, rfl⟩
  rw [paR, h]; rfl
 rintro e tm hp ⟨rfl, ca2, pa2, hca2, hpa2, rfl, rfl⟩
 repeat (first | (first | refine sat_self ?_ | refine sat_nd ?_) | refine sat_need (need_ix ha0 ha1) ?_ | refine sat_need (need_ix hb0 hb1) ?_ | refine sat_need (need_bdv hc2 rfl hv3) ?_ | refine sat_need (need_g2 hc2 rfl hv3) ?_ | refine sat_need (need_bd hc2 rfl) ?_ | refine sat_need hf0 ?_)
 refine sat_join hE 2 (fun e tm hp => e = .normal ∧ ∃ ha2 : Int, ha2 = haR f zs pa ha a b ∧ tm = [(2, .ptr 1 0 0), (3, .ptr 2 0 0), (4, .ptr 3 0 0), (5, .ptr 4 0 0), (6, .ptr 5 0 0), (7, .int .i8 (zs.getD a.toNat 0)), (8, .ptr 6 0 0), (9, Bb c)] ∧ hp = [.ints false .i8 zs, .cells true [I f, I r, .sl 0 0 zs.length none, Bb bl, .int .u8 ca, I pa, I ha, I fu], .cells true [I a, I b, .int .i8 pr], .cells true [I f, I r, .sl 7 0 len none, Bb bl, .int .u8 ca2, I pa2, I ha2, I fu], .cells true [I a, I b, .int .i8 pr, .int .i8 cap, I at2, .int .u8 ca, I pa, I ha, I fu], .cells true [I 0], .cells true [.int .u8 (wBit n), Bb (wBl n), I (wFrom n), I (wTo n), I (wCor n), I (wCro n)], .ints true .i8 l3]) rfl (fun h => ?_) (fun h => ?_) ?_
 ·have h : (decide (absP (zs.getD a.toNat 0) = 1) || !decide (cap = 0)) = true := h
  refine sat_ret ⟨_, _, Ent.ren [0, 1, 2, 3, 4, 5, 6, 7] [2, 3, 4, 5, 6, 7, 8, 9] rfl rfl rfl, rfl, _, ?_, rfl, rfl⟩
  rw [haR, ← hcap, h]; rfl
 ·have h : (decide (absP (zs.getD a.toNat 0) = 1) || !decide (cap = 0)) = false := h
  refine sat_ret ⟨_, _, Ent.ren [0, 1, 2, 3, 4, 5, 6, 7] [2, 3, 4, 5, 6, 7, 8, 9] rfl rfl rfl, rfl, _, ?_, rfl, rfl⟩
  rw [haR, ← hcap, h]; rfl
 rintro e tm hp ⟨rfl, ha2, hha2, rfl, rfl⟩
 repeat (first | (first | refine sat_self ?_ | refine sat_nd ?_) | refine sat_need (need_ix ha0 ha1) ?_ | refine sat_need (need_ix hb0 hb1) ?_ | refine sat_need (need_bdv hc2 rfl hv3) ?_ | refine sat_need (need_g2 hc2 rfl hv3) ?_ | refine sat_need (need_bd hc2 rfl) ?_ | refine sat_need hf0 ?_)
 refine sat_join hE 2 (fun e tm hp => e = .normal ∧ ∃ fu2 : Int, fu2 = fuR bl fu ∧ tm = [(2, .ptr 1 0 0), (3, .ptr 2 0 0), (4, .ptr 3 0 0), (5, .ptr 4 0 0), (6, .ptr 5 0 0), (7, .int .i8 (zs.getD a.toNat 0)), (8, .ptr 6 0 0), (9, Bb c)] ∧ hp = [.ints false .i8 zs, .cells true [I f, I r, .sl 0 0 zs.length none, Bb bl, .int .u8 ca, I pa, I ha, I fu], .cells true [I a, I b, .int .i8 pr], .cells true [I f, I r, .sl 7 0 len none, Bb bl, .int .u8 ca2, I pa2, I ha2, I fu2], .cells true [I a, I b, .int .i8 pr, .int .i8 cap, I at2, .int .u8 ca, I pa, I ha, I fu], .cells true [I 0], .cells true [.int .u8 (wBit n), Bb (wBl n), I (wFrom n), I (wTo n), I (wCor n), I (wCro n)], .ints true .i8 l3]) rfl (fun h => ?_) (fun h => ?_) ?_
 ·have h : bl = true := h
  refine sat_ret ⟨_, _, Ent.ren [0, 1, 2, 3, 4, 5, 6, 7] [2, 3, 4, 5, 6, 7, 8, 9] rfl rfl rfl, rfl, _, ?_, rfl, rfl⟩
  rw [fuR, h]; rfl
 ·have h : bl = false := h
  refine sat_ret ⟨_, _, Ent.ren [0, 1, 2, 3, 4, 5, 6, 7] [2, 3, 4, 5, 6, 7, 8, 9] rfl rfl rfl, rfl, _, ?_, rfl, rfl⟩
  rw [fuR, h]; rfl
 rintro e tm hp ⟨rfl, fu2, hfu2, rfl, rfl⟩
 have hl3n : len = l3.length := by rw [hl3, zs3_len, hlen]
 have hl64 : len ≤ 64 := by rw [hlen]; exact hc2
 repeat (first | (first | refine sat_self ?_ | refine sat_nd ?_) | refine sat_need (need_ix ha0 ha1) ?_ | refine sat_need (need_ix hb0 hb1) ?_ | refine sat_need (need_bdv hc2 rfl hv3) ?_ | refine sat_need (need_g2 hc2 rfl hv3) ?_ | refine sat_need (need_bd hc2 rfl) ?_ | refine sat_need hf0 ?_ | refine sat_need (need_out hl3n hl64) ?_ | refine sat_need (need_outg hl3n hl64) ?_)
 refine sat_br (fun h => ?_) (fun h => ?_)
 ·have h : (chkB f r ((l3.drop 0).take len) bl || (c && (chkB f r (tk zs) bl || !decide ((attackersR f r (tk zs) (wCro n) (!bl)).1 = 0)))) = true := h
  rw [tk_eq, tk_n hl3n, hl3, hcs, hn] at h
  have h : err4 ⟨f, r, zs, bl, ca, pa, ha, fu⟩ ⟨a, b, pr⟩ = true := h
  exact sat_ret (mk_pleaf7 (by simp only [mkE5, e1, e2, e3, h, cond_true, cond_false]) rfl (Ent.ren [0, 1, 2, 3, 4, 5, 7] [4, 5, 6] rfl rfl rfl))
 have h : (chkB f r ((l3.drop 0).take len) bl || (c && (chkB f r (tk zs) bl || !decide ((attackersR f r (tk zs) (wCro n) (!bl)).1 = 0)))) = false := h
 rw [tk_eq, tk_n hl3n, hl3, hcs, hn] at h
 have e4 : err4 ⟨f, r, zs, bl, ca, pa, ha, fu⟩ ⟨a, b, pr⟩ = false := h
 clear h
 repeat (first | (first | refine sat_self ?_ | refine sat_nd ?_) | refine sat_need (need_ix ha0 ha1) ?_ | refine sat_need (need_ix hb0 hb1) ?_ | refine sat_need (need_bdv hc2 rfl hv3) ?_ | refine sat_need (need_g2 hc2 rfl hv3) ?_ | refine sat_need (need_bd hc2 rfl) ?_ | refine sat_need hf0 ?_ | refine sat_need (need_out hl3n hl64) ?_ | refine sat_need (need_outg hl3n hl64) ?_)
 refine sat_br (fun h => ?_) (fun h => ?_)
 ·have h : (decide (10000 < ha2) || decide (10000 < fu2)) = true := h
  rw [hha2, hfu2] at h
  have h : err5 ⟨f, r, zs, bl, ca, pa, ha, fu⟩ ⟨a, b, pr⟩ = true := h
  exact sat_ret (mk_pleaf7 (by simp only [mkE5, e1, e2, e3, e4, h, cond_true, cond_false]) rfl (Ent.ren [0, 1, 2, 3, 4, 5, 7] [4, 5, 6] rfl rfl rfl))
 have h : (decide (10000 < ha2) || decide (10000 < fu2)) = false := h
 rw [hha2, hfu2] at h
 have e5 : err5 ⟨f, r, zs, bl, ca, pa, ha, fu⟩ ⟨a, b, pr⟩ = false := h
 clear h
 repeat (first | (first | refine sat_self ?_ | refine sat_nd ?_) | refine sat_need (need_ix ha0 ha1) ?_ | refine sat_need (need_ix hb0 hb1) ?_ | refine sat_need (need_bdv hc2 rfl hv3) ?_ | refine sat_need (need_g2 hc2 rfl hv3) ?_ | refine sat_need (need_bd hc2 rfl) ?_ | refine sat_need hf0 ?_ | refine sat_need (need_out hl3n hl64) ?_ | refine sat_need (need_outg hl3n hl64) ?_)
 have he : mkE5 ⟨f, r, zs, bl, ca, pa, ha, fu⟩ ⟨a, b, pr⟩ = 0 := by simp only [mkE5, e1, e2, e3, e4, e5, cond_false]
 subst hlen
 exact sat_ret (mk_rleaf (q := ⟨f, r, l3, !bl, ca2, pa2, ha2, fu2⟩) (x := ⟨⟨a, b, pr⟩, cap, at2, ca, pa, ha, fu⟩) he (by rw [mkP, he, hl3, hca2, hpa2, hha2, hfu2]; rfl) (by rw [mkU, he, hcap, hat2]; rfl) hl3n.symm (Ent.ren [0, 1, 2, 3, 4, 5, 7] [4, 5, 6] rfl rfl rfl))
def c_make : CF
 | [.agg [.int .i64 f, .int .i64 r, .sl 0 0 len none, .bool bl, .int .u8 ca, .int .i64 pa, .int .i64 ha, .int .i64 fu], .agg [.int .i64 a, .int .i64 b, .int .i8 pr]], [.ints false .i8 zs] => some (decide (len = zs.length) && decide (zs.length ≤ 64), .tup [psV 1 (mkP ⟨f, r, zs, bl, ca, pa, ha, fu⟩ ⟨a, b, pr⟩), unV (mkU ⟨f, r, zs, bl, ca, pa, ha, fu⟩ ⟨a, b, pr⟩), I (mkE5 ⟨f, r, zs, bl, ca, pa, ha, fu⟩ ⟨a, b, pr⟩)], [.ints true .i8 (mkP ⟨f, r, zs, bl, ca, pa, ha, fu⟩ ⟨a, b, pr⟩).zs])
 | _, _ => none
theorem c_make_ok : CtOk (GGx true kDb) PP (15, c_make) := by
 refine ct_mk Tryz.func15 (by kernel_rfl) rfl fun a0 h0 c0 v0 N0 e hc => ?_
 unfold c_make at e
 split at e
 ·rename_i f r len bl ca pa ha fu a b pr zs
  cases e
  simp only [Bool.and_eq_true, decide_eq_true_eq] at hc
  obtain ⟨rfl, hc2⟩ := hc
  exact mk_sound hc2
 ·cases e
end Go.Ab

set_option maxRecDepth 100000
set_option maxHeartbeats 4000000
namespace Go.Ab
open Go.Proofs
variable {kCa kDb : Bool}
def afZ1 (f r : Int) (zs : List Int) (pa a b : Int) : List Int := bif decide (0 ≤ capL f r zs pa a b) then zs.set (capL f r zs pa a b).toNat 0 else zs
def afZ2 (f r : Int) (zs : List Int) (pa a b : Int) : List Int := ((afZ1 f r zs pa a b).set a.toNat 0).set b.toNat (zs.getD a.toNat 0)
def afZ3 (f r : Int) (zs : List Int) (pa a b pr : Int) : List Int := bif !decide (pr = 0) then (afZ2 f r zs pa a b).set b.toNat (w8 (pr * w8 (sgn (zs.getD a.toNat 0)))) else afZ2 f r zs pa a b
def afZ4 (l : List Int) (c : Int) : List Int := bif !decide (c = 0) then (l.set (sqW c 3).toNat (l.getD (sqW c 2).toNat 0)).set (sqW c 2).toNat 0 else l
def afZ (f r : Int) (zs : List Int) (bl : Bool) (ca pa a b pr : Int) : List Int := afZ4 (afZ3 f r zs pa a b pr) (cgL f r zs bl ca a b pr)
def afS (ca a b bit : Int) : Int := bif decide ((IntKind.u8.wrap (ca.tdiv bit)).tmod 2 = 1) && (hasL a [sqW bit 0, sqW bit 2] || hasL b [sqW bit 0, sqW bit 2]) then IntKind.u8.wrap (ca - bit) else ca
def afC (ca a b : Int) : Int := afS (afS (afS (afS ca a b 1) a b 2) a b 4) a b 8
def afPa (f r : Int) (zs : List Int) (a b : Int) : Int := bif decide (kind8 (zs.getD a.toNat 0) = 1) && (decide (IntKind.i64.wrap (IntKind.i64.wrap (a.tdiv f) - IntKind.i64.wrap (b.tdiv f)) = 2) || decide (IntKind.i64.wrap (IntKind.i64.wrap (b.tdiv f) - IntKind.i64.wrap (a.tdiv f)) = 2)) then numR f r (a.tmod f) (IntKind.i64.wrap ((IntKind.i64.wrap (IntKind.i64.wrap (a.tdiv f) + IntKind.i64.wrap (b.tdiv f))).tdiv 2)) else -1
def afHa (f r : Int) (zs : List Int) (pa ha a b : Int) : Int := bif decide (kind8 (zs.getD a.toNat 0) = 1) || decide (0 ≤ capL f r zs pa a b) then 0 else IntKind.i64.wrap (ha + 1)
def afP (p : Psn) (m : Mov) : Psn := ⟨p.f, p.r, afZ p.f p.r p.zs p.bl p.ca p.pa m.a m.b m.p, !p.bl, afC p.ca m.a m.b, afPa p.f p.r p.zs m.a m.b, afHa p.f p.r p.zs p.pa p.ha m.a m.b, fuR p.bl p.fu⟩
theorem need_ixn {n : Nat} {b : Int} (h : 0 ≤ b) (h1 : b < n) : (decide (0 ≤ b) && decide (b < n)) = true := by simp [h, h1]
theorem afZ1_len {f r : Int} {zs : List Int} {pa a b : Int} : (afZ1 f r zs pa a b).length = zs.length := by unfold afZ1; cases decide (0 ≤ capL f r zs pa a b) <;> simp
theorem afZ3_len {f r : Int} {zs : List Int} {pa a b pr : Int} : (afZ3 f r zs pa a b pr).length = zs.length := by unfold afZ3 afZ2; cases (!decide (pr = 0)) <;> simp [afZ1_len]
theorem afZ_len {f r : Int} {zs : List Int} {bl : Bool} {ca pa a b pr : Int} : (afZ f r zs bl ca pa a b pr).length = zs.length := by unfold afZ afZ4; cases (!decide (cgL f r zs bl ca a b pr = 0)) <;> simp [afZ3_len]
theorem cap_ok {f r : Int} {zs : List Int} {pa a b : Int} (hbd : validBd f r zs = true) (hb1 : b < zs.length) (h : 0 ≤ capL f r zs pa a b) : capL f r zs pa a b < zs.length := by
 unfold capL at h ⊢
 cases h1 : (decide (kind8 (zs.getD a.toNat 0) = 1) && decide (b = pa)) with
 | true =>
  rw [h1, cond_true] at h
  rw [cond_true]
  rcases num_cases f r (b.tmod f) (IntKind.i64.wrap (a.tdiv f)) (bd_valid hbd).1 with ⟨_, hv⟩ | ⟨_, hv⟩
  ·exact ((bd_sq hbd).1 hv).2
  ·rw [hv] at h; omega
 | false =>
  rw [h1, cond_false] at h
  rw [cond_false]
  cases h2 : (!decide (zs.getD b.toNat 0 = 0)) with
  | true => exact hb1
  | false => rw [h2] at h; simp at h
theorem sqs : sqW 1 2 = 7 ∧ sqW 1 3 = 5 ∧ sqW 2 2 = 0 ∧ sqW 2 3 = 3 ∧ sqW 4 2 = 63 ∧ sqW 4 3 = 61 ∧ sqW 8 2 = 56 ∧ sqW 8 3 = 59 := ⟨by kernel_rfl, by kernel_rfl, by kernel_rfl, by kernel_rfl, by kernel_rfl, by kernel_rfl, by kernel_rfl, by kernel_rfl⟩
theorem cg_bit {f r : Int} {zs : List Int} {bl : Bool} {ca a b pr : Int} (h : (!decide (cgL f r zs bl ca a b pr = 0)) = true) : ∃ bit, (bit = 1 ∨ bit = 2 ∨ bit = 4 ∨ bit = 8) ∧ cgL f r zs bl ca a b pr = bit ∧ cgS f r zs bl ca a b bit = true := by
 unfold cgL at h ⊢
 cases h0 : (!decide (kind8 (zs.getD a.toNat 0) = 6) || !decide (pr = 0)) with
 | true => rw [h0] at h; simp at h
 | false =>
  cases h1 : cgS f r zs bl ca a b 1 with
  | true => exact ⟨1, by simp, by simp, h1⟩
  | false =>
   cases h2 : cgS f r zs bl ca a b 2 with
   | true => exact ⟨2, by simp, by simp, h2⟩
   | false =>
    cases h3 : cgS f r zs bl ca a b 4 with
    | true => exact ⟨4, by simp, by simp, h3⟩
    | false =>
     cases h4 : cgS f r zs bl ca a b 8 with
     | true => exact ⟨8, by simp, by simp, h4⟩
     | false => rw [h0, h1, h2, h3, h4] at h; simp at h
theorem cg_ok {f r : Int} {zs : List Int} {bl : Bool} {ca a b pr : Int} (hbd : validBd f r zs = true) (hcs : castL f r zs ca = true) (h : (!decide (cgL f r zs bl ca a b pr = 0)) = true) : zs.length = 64 ∧ 0 ≤ sqW (cgL f r zs bl ca a b pr) 2 ∧ sqW (cgL f r zs bl ca a b pr) 2 < 64 ∧ 0 ≤ sqW (cgL f r zs bl ca a b pr) 3 ∧ sqW (cgL f r zs bl ca a b pr) 3 < 64 := by
 obtain ⟨bit, hb, he, hs⟩ := cg_bit h
 simp only [cgS, Bool.and_eq_true] at hs
 obtain ⟨rfl, rfl⟩ := home_88 (cast_home hcs hb hs.1.1.1.1)
 refine ⟨bd_88 hbd rfl, ?_⟩
 rw [he]
 obtain ⟨s1, s2, s3, s4, s5, s6, s7, s8⟩ := sqs
 rcases hb with rfl | rfl | rfl | rfl
 ·rw [s1, s2]; decide
 ·rw [s3, s4]; decide
 ·rw [s5, s6]; decide
 ·rw [s7, s8]; decide
def c_rhas : CF
 | [.sl 0 0 len none, .int .i64 n], [.ints false .i64 zs] => some (decide (len = zs.length) && decide (zs.length ≤ 1000000), .bool (hasL n zs), [])
 | _, _ => none
theorem c_rhas_ok : CtOk (GGx kCa kDb) PP (118, c_rhas) := by
 refine ct_mk Tryz.func118 (by kernel_rfl) rfl fun a0 h0 c0 v0 N0 e hc => ?_
 unfold c_rhas at e
 split at e
 ·rename_i len n zs
  cases e
  have hE := EE_ok (kCa := kCa) (kDb := kDb) (cts := []) (inl := []) trivial trivial
  refine fn_sound hE 2 Tryz.func118 rfl rfl ?_
  simp only [Bool.and_eq_true, decide_eq_true_eq] at hc
  obtain ⟨rfl, hc2⟩ := hc
  refine sat_idx hE 2 (fun i (_ : Unit) => ([(0, .sl 0 0 zs.length none), (1, I n), (5, I i)], [.ints false .i64 zs])) zs.length (fun j _ => hasL n (zs.drop j) = hasL n zs) () (by omega) (Ent.ren [0] [0, 1, 5] rfl rfl rfl) rfl ?_
  intro j i _ hij hj hz
  refine sat_br (fun hlt => ?_) (fun hlt => ?_)
  ·have hlt' : j < zs.length := by simp at hlt; omega
   rw [hasL_at hlt', show j = i.toNat by omega] at hz
   refine sat_need (by simp; omega) ?_
   repeat (first | refine sat_self ?_ | refine sat_nd ?_)
   refine sat_br (fun hon => ?_) (fun hon => ?_)
   ·have hon : decide (zs.getD i.toNat 0 = n) = true := hon
    rw [hon] at hz
    exact sat_ret (sat_ret (fin_val (.inr rfl) rfl rfl rfl (by rw [← hz]; rfl)))
   ·have hon : decide (zs.getD i.toNat 0 = n) = false := hon
    rw [hon] at hz
    exact sat_ret ⟨hlt', (), by rw [← hz, show i.toNat = j by omega]; rfl, Ent.ren [0] [0, 1, 5] rfl rfl rfl⟩
  ·obtain rfl : j = zs.length := by simp at hlt; omega
   rw [List.drop_length] at hz
   exact sat_ret (sat_ret (fin_val (.inr rfl) rfl rfl rfl (by rw [← hz]; rfl)))
 ·cases e
def c_rafter : CF
 | [.agg [.int .i64 f, .int .i64 r, .sl 0 0 len none, .bool bl, .int .u8 ca, .int .i64 pa, .int .i64 ha, .int .i64 fu], .agg [.int .i64 a, .int .i64 b, .int .i8 pr]], [.ints false .i8 zs] => some (decide (len = zs.length) && decide (zs.length ≤ 64) && (validBd f r zs && castL f r zs ca && validB f r a && validB f r b), psV 1 (afP ⟨f, r, zs, bl, ca, pa, ha, fu⟩ ⟨a, b, pr⟩), [.ints true .i8 (afZ f r zs bl ca pa a b pr)])
 | _, _ => none
theorem c_rafter_ok : CtOk (GGx kCa kDb) PP (59, c_rafter) := by
 refine ct_mk Tryz.func59 (by kernel_rfl) rfl fun a0 h0 c0 v0 N0 e hc => ?_
 unfold c_rafter at e
 split at e
 ·rename_i f r len bl ca pa ha fu a b pr zs
  cases e
  have hE := cutE (EE_ok (kCa := kCa) (kDb := kDb) (cts := [(14, c_rcopy), (35, c_rcap), (36, c_rcgl), (117, c_rpside), (82, c_rrow), (83, c_rsquare), (118, c_rhas), (73, c_Place), (72, c_rpkind), (81, c_Number)]) (inl := []) ⟨c_rcopy_ok, c_rcap_ok, c_rcgl_ok, c_rpside_ok, c_rrow_ok, c_rsquare_ok, c_rhas_ok, c_Place_ok, c_rpkind_ok, c_Number_ok, trivial⟩ trivial)
  refine fn_soundL hE 2 Tryz.func59 rfl rfl ?_
  simp only [Bool.and_eq_true, decide_eq_true_eq] at hc
  obtain ⟨⟨rfl, hc2⟩, ⟨⟨hbd, hcs⟩, hva⟩, hvb⟩ := hc
  have hvs := (bd_valid hbd).1
  obtain ⟨ha0, ha1⟩ := (bd_sq hbd).1 hva
  obtain ⟨hb0, hb1⟩ := (bd_sq hbd).1 hvb
  have hf0 : (!decide (f = 0)) = true := by have := vs_bd hvs; simp; omega
  have hf1 : ∀ g : Bool, (!g || !decide (f = 0)) = true := fun g => by rw [hf0]; simp
  have hbt : validBd f r (tk zs) = true := by rw [tk_eq]; exact hbd
  have hct : castL f r (tk zs) ca = true := by rw [tk_eq]; exact hcs
  have hv4 : (validBd f r (tk zs) && castL f r (tk zs) ca && validB f r a && validB f r b) = true := by rw [hbt, hct, hva, hvb]; rfl
  repeat (first | (first | refine sat_self ?_ | refine sat_nd ?_) | refine sat_need (need_ix ha0 ha1) ?_ | refine sat_need (need_ix hb0 hb1) ?_ | refine sat_need (need_it ha0 ha1) ?_ | refine sat_need (need_it hb0 hb1) ?_ | refine sat_need hf0 ?_ | refine sat_need (hf1 _) ?_ | refine sat_need (need_bd hc2 rfl) ?_ | refine sat_need (need_bdv hc2 rfl hv4) ?_)
  refine sat_join hE 2 (fun e tm hp => e = .normal ∧ ∃ (pc cp : Int) (l : List Int) (len : Nat), pc = zs.getD a.toNat 0 ∧ cp = capL f r zs pa a b ∧ l = afZ1 f r zs pa a b ∧ len = zs.length ∧ tm = [(2, .ptr 1 0 0), (3, .ptr 2 0 0), (4, .ptr 3 0 0), (5, .ptr 5 0 0), (6, .int .i8 pc), (7, I cp)] ∧ hp = [.ints false .i8 zs, .cells true [I f, I r, .sl 0 0 zs.length none, Bb bl, .int .u8 ca, I pa, I ha, I fu], .cells true [I a, I b, .int .i8 pr], .cells true [I 0, I 0, .nils, .lit false, .int .u8 0, I 0, I 0, I 0], .ints true .i8 l, .cells true [I f, I r, .sl 4 0 len none, Bb bl, .int .u8 ca, I pa, I ha, I fu]]) rfl (fun h => ?_) (fun h => ?_) ?_
  ·have h : decide (0 ≤ capL f r (tk zs) pa a b) = true := h
   rw [tk_eq] at h
   have hx := cap_ok hbd hb1 (of_decide_eq_true h)
   have hx' : (decide (0 ≤ capL f r (tk zs) pa a b) && decide (capL f r (tk zs) pa a b < (tk zs).length)) = true := by rw [tk_eq, h]; simpa using hx
   repeat (first | (first | refine sat_self ?_ | refine sat_nd ?_) | refine sat_need hx' ?_)
   exact sat_ret ⟨_, _, Ent.ren [0, 1, 2, 3, 4, 5] [2, 3, 4, 5, 6, 7] rfl rfl rfl, rfl, (tk zs).getD a.toNat 0, capL f r (tk zs) pa a b, (tk zs).set (capL f r (tk zs) pa a b).toNat 0, (tk zs).length, by rw [tk_eq], by rw [tk_eq], by rw [tk_eq, afZ1, h]; rfl, by rw [tk_eq], rfl, rfl⟩
  ·have h : decide (0 ≤ capL f r (tk zs) pa a b) = false := h
   rw [tk_eq] at h
   exact sat_ret ⟨_, _, Ent.ren [0, 1, 2, 3, 4, 5] [2, 3, 4, 5, 6, 7] rfl rfl rfl, rfl, (tk zs).getD a.toNat 0, capL f r (tk zs) pa a b, tk zs, (tk zs).length, by rw [tk_eq], by rw [tk_eq], by rw [tk_eq, afZ1, h]; rfl, by rw [tk_eq], rfl, rfl⟩
  rintro e tm hp ⟨rfl, pc, cp, l, len, hpc, hcp, hl, hlen, rfl, rfl⟩
  have ha1' := ha1
  have hb1' := hb1
  rw [← hlen] at ha1' hb1'
  repeat (first | (first | refine sat_self ?_ | refine sat_nd ?_) | refine sat_need (need_ix ha0 ha1) ?_ | refine sat_need (need_ix hb0 hb1) ?_ | refine sat_need (need_it ha0 ha1) ?_ | refine sat_need (need_it hb0 hb1) ?_ | refine sat_need hf0 ?_ | refine sat_need (hf1 _) ?_ | refine sat_need (need_bd hc2 rfl) ?_ | refine sat_need (need_bdv hc2 rfl hv4) ?_ | refine sat_need (need_ixn ha0 ha1') ?_ | refine sat_need (need_ixn hb0 hb1') ?_)
  refine sat_join hE 2 (fun e tm hp => e = .normal ∧ ∃ l2 : List Int, l2 = afZ3 f r zs pa a b pr ∧ tm = [(2, .ptr 1 0 0), (3, .ptr 2 0 0), (4, .ptr 3 0 0), (5, .ptr 5 0 0), (6, .int .i8 pc), (7, I cp)] ∧ hp = [.ints false .i8 zs, .cells true [I f, I r, .sl 0 0 zs.length none, Bb bl, .int .u8 ca, I pa, I ha, I fu], .cells true [I a, I b, .int .i8 pr], .cells true [I 0, I 0, .nils, .lit false, .int .u8 0, I 0, I 0, I 0], .ints true .i8 l2, .cells true [I f, I r, .sl 4 0 len none, Bb bl, .int .u8 ca, I pa, I ha, I fu]]) rfl (fun h => ?_) (fun h => ?_) ?_
  ·have h : (!decide (pr = 0)) = true := h
   repeat (first | (first | refine sat_self ?_ | refine sat_nd ?_) | refine sat_need (need_ix ha0 ha1) ?_ | refine sat_need (need_ix hb0 hb1) ?_ | refine sat_need (need_it ha0 ha1) ?_ | refine sat_need (need_it hb0 hb1) ?_ | refine sat_need hf0 ?_ | refine sat_need (hf1 _) ?_ | refine sat_need (need_bd hc2 rfl) ?_ | refine sat_need (need_bdv hc2 rfl hv4) ?_ | refine sat_need (need_ixn ha0 ha1') ?_ | refine sat_need (need_ixn hb0 hb1') ?_)
   exact sat_ret ⟨_, _, Ent.ren [0, 1, 2, 3, 4, 5] [2, 3, 4, 5, 6, 7] rfl rfl rfl, rfl, _, by rw [afZ3, afZ2, ← hl, ← hpc, h]; rfl, rfl, rfl⟩
  ·have h : (!decide (pr = 0)) = false := h
   exact sat_ret ⟨_, _, Ent.ren [0, 1, 2, 3, 4, 5] [2, 3, 4, 5, 6, 7] rfl rfl rfl, rfl, _, by rw [afZ3, afZ2, ← hl, ← hpc, h]; rfl, rfl, rfl⟩
  clear hl
  rintro e tm hp ⟨rfl, l, hl, rfl, rfl⟩
  repeat (first | (first | refine sat_self ?_ | refine sat_nd ?_) | refine sat_need (need_ix ha0 ha1) ?_ | refine sat_need (need_ix hb0 hb1) ?_ | refine sat_need (need_it ha0 ha1) ?_ | refine sat_need (need_it hb0 hb1) ?_ | refine sat_need hf0 ?_ | refine sat_need (hf1 _) ?_ | refine sat_need (need_bd hc2 rfl) ?_ | refine sat_need (need_bdv hc2 rfl hv4) ?_ | refine sat_need (need_ixn ha0 ha1') ?_ | refine sat_need (need_ixn hb0 hb1') ?_)
  refine sat_join hE 2 (fun e tm hp => e = .normal ∧ ∃ l2 : List Int, l2 = afZ f r zs bl ca pa a b pr ∧ tm = [(2, .ptr 1 0 0), (3, .ptr 2 0 0), (4, .ptr 3 0 0), (5, .ptr 5 0 0), (6, .int .i8 pc), (7, I cp)] ∧ hp = [.ints false .i8 zs, .cells true [I f, I r, .sl 0 0 zs.length none, Bb bl, .int .u8 ca, I pa, I ha, I fu], .cells true [I a, I b, .int .i8 pr], .cells true [I 0, I 0, .nils, .lit false, .int .u8 0, I 0, I 0, I 0], .ints true .i8 l2, .cells true [I f, I r, .sl 4 0 len none, Bb bl, .int .u8 ca, I pa, I ha, I fu]]) rfl (fun h => ?_) (fun h => ?_) ?_
  ·have h : (!decide (cgL f r (tk zs) bl ca a b pr = 0)) = true := h
   rw [tk_eq] at h
   obtain ⟨h64, w1, w2, w3, w4⟩ := cg_ok hbd hcs h
   have n2 : (decide (0 ≤ sqW (cgL f r (tk zs) bl ca a b pr) 2) && decide (sqW (cgL f r (tk zs) bl ca a b pr) 2 < len)) = true := by rw [tk_eq, hlen, h64]; simp [w1]; omega
   have n3 : (decide (0 ≤ sqW (cgL f r (tk zs) bl ca a b pr) 3) && decide (sqW (cgL f r (tk zs) bl ca a b pr) 3 < len)) = true := by rw [tk_eq, hlen, h64]; simp [w3]; omega
   repeat (first | refine sat_need n2 ?_ | refine sat_need n3 ?_ | (first | refine sat_self ?_ | refine sat_nd ?_))
   exact sat_ret ⟨_, _, Ent.ren [0, 1, 2, 3, 4, 5] [2, 3, 4, 5, 6, 7] rfl rfl rfl, rfl, (l.set (sqW (cgL f r (tk zs) bl ca a b pr) 3).toNat (l.getD (sqW (cgL f r (tk zs) bl ca a b pr) 2).toNat 0)).set (sqW (cgL f r (tk zs) bl ca a b pr) 2).toNat 0, by rw [tk_eq, afZ, afZ4, ← hl, h]; rfl, rfl, rfl⟩
  ·have h : (!decide (cgL f r (tk zs) bl ca a b pr = 0)) = false := h
   rw [tk_eq] at h
   exact sat_ret ⟨_, _, Ent.ren [0, 1, 2, 3, 4, 5] [2, 3, 4, 5, 6, 7] rfl rfl rfl, rfl, _, by rw [afZ, afZ4, ← hl, h]; rfl, rfl, rfl⟩
  clear hl
  rintro e tm hp ⟨rfl, l, hl, rfl, rfl⟩
  repeat (first | (first | refine sat_self ?_ | refine sat_nd ?_) | refine sat_need (need_ix ha0 ha1) ?_ | refine sat_need (need_ix hb0 hb1) ?_ | refine sat_need (need_it ha0 ha1) ?_ | refine sat_need (need_it hb0 hb1) ?_ | refine sat_need hf0 ?_ | refine sat_need (hf1 _) ?_ | refine sat_need (need_bd hc2 rfl) ?_ | refine sat_need (need_bdv hc2 rfl hv4) ?_ | refine sat_need (need_ixn ha0 ha1') ?_ | refine sat_need (need_ixn hb0 hb1') ?_)
  refine sat_rounds hE 2 5 ?_
  refine rnd ?_
  refine sat_split hE 2 rfl (fun _ => ?_) (fun h => absurd h (by decide))
  repeat (first | (first | refine sat_self ?_ | refine sat_nd ?_) | refine sat_need (need_ix ha0 ha1) ?_ | refine sat_need (need_ix hb0 hb1) ?_ | refine sat_need (need_it ha0 ha1) ?_ | refine sat_need (need_it hb0 hb1) ?_ | refine sat_need hf0 ?_ | refine sat_need (hf1 _) ?_ | refine sat_need (need_bd hc2 rfl) ?_ | refine sat_need (need_bdv hc2 rfl hv4) ?_ | refine sat_need (need_ixn ha0 ha1') ?_ | refine sat_need (need_ixn hb0 hb1') ?_)
  refine sat_join hE 2 (fun e tm hp => e = .normal ∧ ∃ c2 : Int, c2 = afS ca a b 1 ∧ tm = [(2, .ptr 1 0 0), (3, .ptr 2 0 0), (4, .ptr 3 0 0), (5, .ptr 5 0 0), (6, .int .i8 pc), (7, I cp), (86, .sl 6 0 4 none), (87, I 4), (88, I 0)] ∧ hp = [.ints false .i8 zs, .cells true [I f, I r, .sl 0 0 zs.length none, Bb bl, .int .u8 ca, I pa, I ha, I fu], .cells true [I a, I b, .int .i8 pr], .cells true [I 0, I 0, .nils, .lit false, .int .u8 0, I 0, I 0, I 0], .ints true .i8 l, .cells true [I f, I r, .sl 4 0 len none, Bb bl, .int .u8 c2, I pa, I ha, I fu], .ints true .u8 [1, 2, 4, 8]]) rfl (fun h => ?_) (fun h => ?_) ?_
  ·have h : (decide ((IntKind.u8.wrap (ca.tdiv 1)).tmod 2 = 1) && (hasL a [sqW 1 0, sqW 1 2] || hasL b [sqW 1 0, sqW 1 2])) = true := h
   exact sat_ret ⟨_, _, Ent.ren [0, 1, 2, 3, 4, 5, 6] [2, 3, 4, 5, 6, 7, 86, 87, 88] rfl rfl rfl, rfl, _, by rw [afS, h]; rfl, rfl, rfl⟩
  ·have h : (decide ((IntKind.u8.wrap (ca.tdiv 1)).tmod 2 = 1) && (hasL a [sqW 1 0, sqW 1 2] || hasL b [sqW 1 0, sqW 1 2])) = false := h
   exact sat_ret ⟨_, _, Ent.ren [0, 1, 2, 3, 4, 5, 6] [2, 3, 4, 5, 6, 7, 86, 87, 88] rfl rfl rfl, rfl, _, by rw [afS, h]; rfl, rfl, rfl⟩
  skip
  rintro e tm hp ⟨rfl, c, hcc, rfl, rfl⟩
  refine sat_ret ⟨[(2, .ptr 1 0 0), (3, .ptr 2 0 0), (4, .ptr 3 0 0), (5, .ptr 5 0 0), (6, .int .i8 pc), (7, I cp), (86, .sl 6 0 4 none), (87, I 4), (88, I 1)], [.ints false .i8 zs, .cells true [I f, I r, .sl 0 0 zs.length none, Bb bl, .int .u8 ca, I pa, I ha, I fu], .cells true [I a, I b, .int .i8 pr], .cells true [I 0, I 0, .nils, .lit false, .int .u8 0, I 0, I 0, I 0], .ints true .i8 l, .cells true [I f, I r, .sl 4 0 len none, Bb bl, .int .u8 c, I pa, I ha, I fu], .ints true .u8 [1, 2, 4, 8]], Ent.ren [0, 1, 2, 3, 4, 5, 6] [2, 3, 4, 5, 6, 7, 86, 87, 88] rfl rfl rfl, ?_⟩
  refine rnd ?_
  refine sat_split hE 2 rfl (fun _ => ?_) (fun h => absurd h (by decide))
  repeat (first | (first | refine sat_self ?_ | refine sat_nd ?_) | refine sat_need (need_ix ha0 ha1) ?_ | refine sat_need (need_ix hb0 hb1) ?_ | refine sat_need (need_it ha0 ha1) ?_ | refine sat_need (need_it hb0 hb1) ?_ | refine sat_need hf0 ?_ | refine sat_need (hf1 _) ?_ | refine sat_need (need_bd hc2 rfl) ?_ | refine sat_need (need_bdv hc2 rfl hv4) ?_ | refine sat_need (need_ixn ha0 ha1') ?_ | refine sat_need (need_ixn hb0 hb1') ?_)
  refine sat_join hE 2 (fun e tm hp => e = .normal ∧ ∃ c2 : Int, c2 = afS c a b 2 ∧ tm = [(2, .ptr 1 0 0), (3, .ptr 2 0 0), (4, .ptr 3 0 0), (5, .ptr 5 0 0), (6, .int .i8 pc), (7, I cp), (86, .sl 6 0 4 none), (87, I 4), (88, I 1)] ∧ hp = [.ints false .i8 zs, .cells true [I f, I r, .sl 0 0 zs.length none, Bb bl, .int .u8 ca, I pa, I ha, I fu], .cells true [I a, I b, .int .i8 pr], .cells true [I 0, I 0, .nils, .lit false, .int .u8 0, I 0, I 0, I 0], .ints true .i8 l, .cells true [I f, I r, .sl 4 0 len none, Bb bl, .int .u8 c2, I pa, I ha, I fu], .ints true .u8 [1, 2, 4, 8]]) rfl (fun h => ?_) (fun h => ?_) ?_
  ·have h : (decide ((IntKind.u8.wrap (c.tdiv 2)).tmod 2 = 1) && (hasL a [sqW 2 0, sqW 2 2] || hasL b [sqW 2 0, sqW 2 2])) = true := h
   exact sat_ret ⟨_, _, Ent.ren [0, 1, 2, 3, 4, 5, 6] [2, 3, 4, 5, 6, 7, 86, 87, 88] rfl rfl rfl, rfl, _, by rw [afS, h]; rfl, rfl, rfl⟩
  ·have h : (decide ((IntKind.u8.wrap (c.tdiv 2)).tmod 2 = 1) && (hasL a [sqW 2 0, sqW 2 2] || hasL b [sqW 2 0, sqW 2 2])) = false := h
   exact sat_ret ⟨_, _, Ent.ren [0, 1, 2, 3, 4, 5, 6] [2, 3, 4, 5, 6, 7, 86, 87, 88] rfl rfl rfl, rfl, _, by rw [afS, h]; rfl, rfl, rfl⟩
  subst hcc
  rintro e tm hp ⟨rfl, c, hcc, rfl, rfl⟩
  refine sat_ret ⟨[(2, .ptr 1 0 0), (3, .ptr 2 0 0), (4, .ptr 3 0 0), (5, .ptr 5 0 0), (6, .int .i8 pc), (7, I cp), (86, .sl 6 0 4 none), (87, I 4), (88, I 2)], [.ints false .i8 zs, .cells true [I f, I r, .sl 0 0 zs.length none, Bb bl, .int .u8 ca, I pa, I ha, I fu], .cells true [I a, I b, .int .i8 pr], .cells true [I 0, I 0, .nils, .lit false, .int .u8 0, I 0, I 0, I 0], .ints true .i8 l, .cells true [I f, I r, .sl 4 0 len none, Bb bl, .int .u8 c, I pa, I ha, I fu], .ints true .u8 [1, 2, 4, 8]], Ent.ren [0, 1, 2, 3, 4, 5, 6] [2, 3, 4, 5, 6, 7, 86, 87, 88] rfl rfl rfl, ?_⟩
  refine rnd ?_
  refine sat_split hE 2 rfl (fun _ => ?_) (fun h => absurd h (by decide))
  repeat (first | (first | refine sat_self ?_ | refine sat_nd ?_) | refine sat_need (need_ix ha0 ha1) ?_ | refine sat_need (need_ix hb0 hb1) ?_ | refine sat_need (need_it ha0 ha1) ?_ | refine sat_need (need_it hb0 hb1) ?_ | refine sat_need hf0 ?_ | refine sat_need (hf1 _) ?_ | refine sat_need (need_bd hc2 rfl) ?_ | refine sat_need (need_bdv hc2 rfl hv4) ?_ | refine sat_need (need_ixn ha0 ha1') ?_ | refine sat_need (need_ixn hb0 hb1') ?_)
  refine sat_join hE 2 (fun e tm hp => e = .normal ∧ ∃ c2 : Int, c2 = afS c a b 4 ∧ tm = [(2, .ptr 1 0 0), (3, .ptr 2 0 0), (4, .ptr 3 0 0), (5, .ptr 5 0 0), (6, .int .i8 pc), (7, I cp), (86, .sl 6 0 4 none), (87, I 4), (88, I 2)] ∧ hp = [.ints false .i8 zs, .cells true [I f, I r, .sl 0 0 zs.length none, Bb bl, .int .u8 ca, I pa, I ha, I fu], .cells true [I a, I b, .int .i8 pr], .cells true [I 0, I 0, .nils, .lit false, .int .u8 0, I 0, I 0, I 0], .ints true .i8 l, .cells true [I f, I r, .sl 4 0 len none, Bb bl, .int .u8 c2, I pa, I ha, I fu], .ints true .u8 [1, 2, 4, 8]]) rfl (fun h => ?_) (fun h => ?_) ?_
  ·have h : (decide ((IntKind.u8.wrap (c.tdiv 4)).tmod 2 = 1) && (hasL a [sqW 4 0, sqW 4 2] || hasL b [sqW 4 0, sqW 4 2])) = true := h
   exact sat_ret ⟨_, _, Ent.ren [0, 1, 2, 3, 4, 5, 6] [2, 3, 4, 5, 6, 7, 86, 87, 88] rfl rfl rfl, rfl, _, by rw [afS, h]; rfl, rfl, rfl⟩
  ·have h : (decide ((IntKind.u8.wrap (c.tdiv 4)).tmod 2 = 1) && (hasL a [sqW 4 0, sqW 4 2] || hasL b [sqW 4 0, sqW 4 2])) = false := h
   exact sat_ret ⟨_, _, Ent.ren [0, 1, 2, 3, 4, 5, 6] [2, 3, 4, 5, 6, 7, 86, 87, 88] rfl rfl rfl, rfl, _, by rw [afS, h]; rfl, rfl, rfl⟩
  subst hcc
  rintro e tm hp ⟨rfl, c, hcc, rfl, rfl⟩
  refine sat_ret ⟨[(2, .ptr 1 0 0), (3, .ptr 2 0 0), (4, .ptr 3 0 0), (5, .ptr 5 0 0), (6, .int .i8 pc), (7, I cp), (86, .sl 6 0 4 none), (87, I 4), (88, I 3)], [.ints false .i8 zs, .cells true [I f, I r, .sl 0 0 zs.length none, Bb bl, .int .u8 ca, I pa, I ha, I fu], .cells true [I a, I b, .int .i8 pr], .cells true [I 0, I 0, .nils, .lit false, .int .u8 0, I 0, I 0, I 0], .ints true .i8 l, .cells true [I f, I r, .sl 4 0 len none, Bb bl, .int .u8 c, I pa, I ha, I fu], .ints true .u8 [1, 2, 4, 8]], Ent.ren [0, 1, 2, 3, 4, 5, 6] [2, 3, 4, 5, 6, 7, 86, 87, 88] rfl rfl rfl, ?_⟩
  refine rnd ?_
  refine sat_split hE 2 rfl (fun _ => ?_) (fun h => absurd h (by decide))
  repeat (first | (first | refine sat_self ?_ | refine sat_nd ?_) | refine sat_need (need_ix ha0 ha1) ?_ | refine sat_need (need_ix hb0 hb1) ?_ | refine sat_need (need_it ha0 ha1) ?_ | refine sat_need (need_it hb0 hb1) ?_ | refine sat_need hf0 ?_ | refine sat_need (hf1 _) ?_ | refine sat_need (need_bd hc2 rfl) ?_ | refine sat_need (need_bdv hc2 rfl hv4) ?_ | refine sat_need (need_ixn ha0 ha1') ?_ | refine sat_need (need_ixn hb0 hb1') ?_)
  refine sat_join hE 2 (fun e tm hp => e = .normal ∧ ∃ c2 : Int, c2 = afS c a b 8 ∧ tm = [(2, .ptr 1 0 0), (3, .ptr 2 0 0), (4, .ptr 3 0 0), (5, .ptr 5 0 0), (6, .int .i8 pc), (7, I cp), (86, .sl 6 0 4 none), (87, I 4), (88, I 3)] ∧ hp = [.ints false .i8 zs, .cells true [I f, I r, .sl 0 0 zs.length none, Bb bl, .int .u8 ca, I pa, I ha, I fu], .cells true [I a, I b, .int .i8 pr], .cells true [I 0, I 0, .nils, .lit false, .int .u8 0, I 0, I 0, I 0], .ints true .i8 l, .cells true [I f, I r, .sl 4 0 len none, Bb bl, .int .u8 c2, I pa, I ha, I fu], .ints true .u8 [1, 2, 4, 8]]) rfl (fun h => ?_) (fun h => ?_) ?_
  ·have h : (decide ((IntKind.u8.wrap (c.tdiv 8)).tmod 2 = 1) && (hasL a [sqW 8 0, sqW 8 2] || hasL b [sqW 8 0, sqW 8 2])) = true := h
   exact sat_ret ⟨_, _, Ent.ren [0, 1, 2, 3, 4, 5, 6] [2, 3, 4, 5, 6, 7, 86, 87, 88] rfl rfl rfl, rfl, _, by rw [afS, h]; rfl, rfl, rfl⟩
  ·have h : (decide ((IntKind.u8.wrap (c.tdiv 8)).tmod 2 = 1) && (hasL a [sqW 8 0, sqW 8 2] || hasL b [sqW 8 0, sqW 8 2])) = false := h
   exact sat_ret ⟨_, _, Ent.ren [0, 1, 2, 3, 4, 5, 6] [2, 3, 4, 5, 6, 7, 86, 87, 88] rfl rfl rfl, rfl, _, by rw [afS, h]; rfl, rfl, rfl⟩
  subst hcc
  rintro e tm hp ⟨rfl, c, hcc, rfl, rfl⟩
  refine sat_ret ⟨[(2, .ptr 1 0 0), (3, .ptr 2 0 0), (4, .ptr 3 0 0), (5, .ptr 5 0 0), (6, .int .i8 pc), (7, I cp), (86, .sl 6 0 4 none), (87, I 4), (88, I 4)], [.ints false .i8 zs, .cells true [I f, I r, .sl 0 0 zs.length none, Bb bl, .int .u8 ca, I pa, I ha, I fu], .cells true [I a, I b, .int .i8 pr], .cells true [I 0, I 0, .nils, .lit false, .int .u8 0, I 0, I 0, I 0], .ints true .i8 l, .cells true [I f, I r, .sl 4 0 len none, Bb bl, .int .u8 c, I pa, I ha, I fu], .ints true .u8 [1, 2, 4, 8]], Ent.ren [0, 1, 2, 3, 4, 5, 6] [2, 3, 4, 5, 6, 7, 86, 87, 88] rfl rfl rfl, ?_⟩
  refine rnd ?_
  refine sat_split hE 2 rfl (fun h => absurd h (by decide)) (fun _ => ?_)
  refine sat_ret ?_
  have hcc : c = afC ca a b := hcc
  repeat (first | (first | refine sat_self ?_ | refine sat_nd ?_) | refine sat_need (need_ix ha0 ha1) ?_ | refine sat_need (need_ix hb0 hb1) ?_ | refine sat_need (need_it ha0 ha1) ?_ | refine sat_need (need_it hb0 hb1) ?_ | refine sat_need hf0 ?_ | refine sat_need (hf1 _) ?_ | refine sat_need (need_bd hc2 rfl) ?_ | refine sat_need (need_bdv hc2 rfl hv4) ?_ | refine sat_need (need_ixn ha0 ha1') ?_ | refine sat_need (need_ixn hb0 hb1') ?_)
  refine sat_join hE 2 (fun e tm hp => e = .normal ∧ ∃ pa2 : Int, pa2 = afPa f r zs a b ∧ tm = [(2, .ptr 1 0 0), (3, .ptr 2 0 0), (4, .ptr 3 0 0), (5, .ptr 5 0 0), (6, .int .i8 pc), (7, I cp)] ∧ hp = [.ints false .i8 zs, .cells true [I f, I r, .sl 0 0 zs.length none, Bb bl, .int .u8 ca, I pa, I ha, I fu], .cells true [I a, I b, .int .i8 pr], .cells true [I 0, I 0, .nils, .lit false, .int .u8 0, I 0, I 0, I 0], .ints true .i8 l, .cells true [I f, I r, .sl 4 0 len none, Bb bl, .int .u8 c, I pa2, I ha, I fu]]) rfl (fun h => ?_) (fun h => ?_) ?_
  ·have h : (decide (kind8 pc = 1) && (decide (IntKind.i64.wrap (IntKind.i64.wrap (a.tdiv f) - IntKind.i64.wrap (b.tdiv f)) = 2) || decide (IntKind.i64.wrap (IntKind.i64.wrap (b.tdiv f) - IntKind.i64.wrap (a.tdiv f)) = 2))) = true := h
   repeat (first | (first | refine sat_self ?_ | refine sat_nd ?_) | refine sat_need (need_ix ha0 ha1) ?_ | refine sat_need (need_ix hb0 hb1) ?_ | refine sat_need (need_it ha0 ha1) ?_ | refine sat_need (need_it hb0 hb1) ?_ | refine sat_need hf0 ?_ | refine sat_need (hf1 _) ?_ | refine sat_need (need_bd hc2 rfl) ?_ | refine sat_need (need_bdv hc2 rfl hv4) ?_ | refine sat_need (need_ixn ha0 ha1') ?_ | refine sat_need (need_ixn hb0 hb1') ?_)
   exact sat_ret ⟨_, _, Ent.ren [0, 1, 2, 3, 4, 5] [2, 3, 4, 5, 6, 7] rfl rfl rfl, rfl, _, by rw [afPa, ← hpc, h]; rfl, rfl, rfl⟩
  ·have h : (decide (kind8 pc = 1) && (decide (IntKind.i64.wrap (IntKind.i64.wrap (a.tdiv f) - IntKind.i64.wrap (b.tdiv f)) = 2) || decide (IntKind.i64.wrap (IntKind.i64.wrap (b.tdiv f) - IntKind.i64.wrap (a.tdiv f)) = 2))) = false := h
   exact sat_ret ⟨_, _, Ent.ren [0, 1, 2, 3, 4, 5] [2, 3, 4, 5, 6, 7] rfl rfl rfl, rfl, _, by rw [afPa, ← hpc, h]; rfl, rfl, rfl⟩
  rintro e tm hp ⟨rfl, pa2, hpa2, rfl, rfl⟩
  repeat (first | (first | refine sat_self ?_ | refine sat_nd ?_) | refine sat_need (need_ix ha0 ha1) ?_ | refine sat_need (need_ix hb0 hb1) ?_ | refine sat_need (need_it ha0 ha1) ?_ | refine sat_need (need_it hb0 hb1) ?_ | refine sat_need hf0 ?_ | refine sat_need (hf1 _) ?_ | refine sat_need (need_bd hc2 rfl) ?_ | refine sat_need (need_bdv hc2 rfl hv4) ?_ | refine sat_need (need_ixn ha0 ha1') ?_ | refine sat_need (need_ixn hb0 hb1') ?_)
  refine sat_join hE 2 (fun e tm hp => e = .normal ∧ ∃ ha2 : Int, ha2 = afHa f r zs pa ha a b ∧ tm = [(2, .ptr 1 0 0), (3, .ptr 2 0 0), (4, .ptr 3 0 0), (5, .ptr 5 0 0), (6, .int .i8 pc), (7, I cp)] ∧ hp = [.ints false .i8 zs, .cells true [I f, I r, .sl 0 0 zs.length none, Bb bl, .int .u8 ca, I pa, I ha, I fu], .cells true [I a, I b, .int .i8 pr], .cells true [I 0, I 0, .nils, .lit false, .int .u8 0, I 0, I 0, I 0], .ints true .i8 l, .cells true [I f, I r, .sl 4 0 len none, Bb bl, .int .u8 c, I pa2, I ha2, I fu]]) rfl (fun h => ?_) (fun h => ?_) ?_
  ·have h : (decide (kind8 pc = 1) || decide (0 ≤ cp)) = true := h
   exact sat_ret ⟨_, _, Ent.ren [0, 1, 2, 3, 4, 5] [2, 3, 4, 5, 6, 7] rfl rfl rfl, rfl, _, by rw [afHa, ← hpc, ← hcp, h]; rfl, rfl, rfl⟩
  ·have h : (decide (kind8 pc = 1) || decide (0 ≤ cp)) = false := h
   exact sat_ret ⟨_, _, Ent.ren [0, 1, 2, 3, 4, 5] [2, 3, 4, 5, 6, 7] rfl rfl rfl, rfl, _, by rw [afHa, ← hpc, ← hcp, h]; rfl, rfl, rfl⟩
  rintro e tm hp ⟨rfl, ha2, hha2, rfl, rfl⟩
  repeat (first | (first | refine sat_self ?_ | refine sat_nd ?_) | refine sat_need (need_ix ha0 ha1) ?_ | refine sat_need (need_ix hb0 hb1) ?_ | refine sat_need (need_it ha0 ha1) ?_ | refine sat_need (need_it hb0 hb1) ?_ | refine sat_need hf0 ?_ | refine sat_need (hf1 _) ?_ | refine sat_need (need_bd hc2 rfl) ?_ | refine sat_need (need_bdv hc2 rfl hv4) ?_ | refine sat_need (need_ixn ha0 ha1') ?_ | refine sat_need (need_ixn hb0 hb1') ?_)
  refine sat_join hE 2 (fun e tm hp => e = .normal ∧ ∃ fu2 : Int, fu2 = fuR bl fu ∧ tm = [(2, .ptr 1 0 0), (3, .ptr 2 0 0), (4, .ptr 3 0 0), (5, .ptr 5 0 0), (6, .int .i8 pc), (7, I cp)] ∧ hp = [.ints false .i8 zs, .cells true [I f, I r, .sl 0 0 zs.length none, Bb bl, .int .u8 ca, I pa, I ha, I fu], .cells true [I a, I b, .int .i8 pr], .cells true [I 0, I 0, .nils, .lit false, .int .u8 0, I 0, I 0, I 0], .ints true .i8 l, .cells true [I f, I r, .sl 4 0 len none, Bb bl, .int .u8 c, I pa2, I ha2, I fu2]]) rfl (fun h => ?_) (fun h => ?_) ?_
  ·have h : bl = true := h
   exact sat_ret ⟨_, _, Ent.ren [0, 1, 2, 3, 4, 5] [2, 3, 4, 5, 6, 7] rfl rfl rfl, rfl, _, by rw [fuR, h]; rfl, rfl, rfl⟩
  ·have h : bl = false := h
   exact sat_ret ⟨_, _, Ent.ren [0, 1, 2, 3, 4, 5] [2, 3, 4, 5, 6, 7] rfl rfl rfl, rfl, _, by rw [fuR, h]; rfl, rfl, rfl⟩
  rintro e tm hp ⟨rfl, fu2, hfu2, rfl, rfl⟩
  repeat (first | (first | refine sat_self ?_ | refine sat_nd ?_) | refine sat_need (need_ix ha0 ha1) ?_ | refine sat_need (need_ix hb0 hb1) ?_ | refine sat_need (need_it ha0 ha1) ?_ | refine sat_need (need_it hb0 hb1) ?_ | refine sat_need hf0 ?_ | refine sat_need (hf1 _) ?_ | refine sat_need (need_bd hc2 rfl) ?_ | refine sat_need (need_bdv hc2 rfl hv4) ?_ | refine sat_need (need_ixn ha0 ha1') ?_ | refine sat_need (need_ixn hb0 hb1') ?_)
  refine sat_ret (fin_l0 (fin_new 4 (.inr rfl) rfl rfl rfl rfl (by rw [← hl]; rfl) ?_))
  show V.agg [I f, I r, .sl 1 0 len none, Bb (!bl), .int .u8 c, I pa2, I ha2, I fu2] = V.agg [I f, I r, .sl 1 0 (afZ f r zs bl ca pa a b pr).length none, Bb (!bl), .int .u8 (afC ca a b), I (afPa f r zs a b), I (afHa f r zs pa ha a b), I (fuR bl fu)]
  rw [hcc, hpa2, hha2, hfu2, hlen, afZ_len]
 ·cases e
end Go.Ab

set_option maxRecDepth 100000
set_option maxHeartbeats 4000000
namespace Go.Ab
open Go.Proofs
variable {kCa kDb : Bool}
theorem need_hs8 {l : List Int} (h : l.length ≤ 64) {n : Nat} (hn : n = l.length) : (decide (n = ((l.drop 0).take n).length) && decide (((l.drop 0).take n).length ≤ 1000000)) = true := by subst hn; simp; omega
def c_rpn : CF
 | [.agg [.int .i64 f, .int .i64 r, .sl 0 0 len none, .bool bl, .int .u8 ca, .int .i64 pa, .int .i64 _ha, .int .i64 _fu], .agg [.int .i64 a, .int .i64 b, .int .i8 pr]], [.ints false .i8 zs] => some (decide (len = zs.length) && decide (zs.length ≤ 64) && (validBd f r zs && castL f r zs ca && validB f r a && validB f r b), .bool (pnL f r zs bl pa a b pr), [])
 | _, _ => none
theorem c_rpn_ok : CtOk (GGx kCa kDb) PP (113, c_rpn) := by
 refine ct_mk Tryz.func113 (by kernel_rfl) rfl fun a0 h0 c0 v0 N0 e hc => ?_
 unfold c_rpn at e
 split at e
 ·rename_i f r len bl ca pa ha fu a b pr zs
  cases e
  have hE := EE_ok (kCa := kCa) (kDb := kDb) (cts := [(68, c_rOf), (115, c_Occ), (73, c_Place), (74, c_rLast), (164, c_refSteps), (165, c_refPawn), (118, c_rhas)]) (inl := []) ⟨c_rOf_ok, c_Occ_ok, c_Place_ok, c_rLast_ok, c_refSteps_ok, c_refPawn_ok, c_rhas_ok, trivial⟩ trivial
  refine fn_sound hE 2 Tryz.func113 rfl rfl ?_
  simp only [Bool.and_eq_true, decide_eq_true_eq] at hc
  obtain ⟨⟨rfl, hc2⟩, ⟨⟨hbd, hcs⟩, hva⟩, hvb⟩ := hc
  have hvs := (bd_valid hbd).1
  obtain ⟨ha0, ha1⟩ := (bd_sq hbd).1 hva
  obtain ⟨hb0, hb1⟩ := (bd_sq hbd).1 hvb
  have hf0 : (!decide (f = 0)) = true := by have := vs_bd hvs; simp; omega
  have hf1 : ∀ g : Bool, (!g || !decide (f = 0)) = true := fun g => by rw [hf0]; simp
  have hbt : validBd f r (tk zs) = true := by rw [tk_eq]; exact hbd
  have hct : castL f r (tk zs) ca = true := by rw [tk_eq]; exact hcs
  have hv4 : (validBd f r (tk zs) && castL f r (tk zs) ca && validB f r a && validB f r b) = true := by rw [hbt, hct, hva, hvb]; rfl
  have hv5 : (validBd f r (tk zs) && castL f r (tk zs) ca && (validB f r a && validB f r b)) = true := by rw [hbt, hct, hva, hvb]; rfl
  have hs1 : (filtB (stepsB f r bl a (occL (tk zs))) id ((f * r).toNat)).length ≤ 64 := by have := filtB_len (stepsB f r bl a (occL (tk zs))) id ((f * r).toNat); have := (bd_valid hbd).2; omega
  have hs2 : (filtB (pawnC f bl a) id ((f * r).toNat)).length ≤ 64 := by have := filtB_len (pawnC f bl a) id ((f * r).toNat); have := (bd_valid hbd).2; omega
  repeat (first | (first | refine sat_self ?_ | refine sat_nd ?_) | refine sat_need (need_i ha0 ha1) ?_ | refine sat_need (need_i hb0 hb1) ?_ | refine sat_need (need_ig ha0 ha1) ?_ | refine sat_need (need_ig hb0 hb1) ?_ | refine sat_need hvs ?_ | refine sat_need hf0 ?_ | refine sat_need (hf1 _) ?_ | refine sat_need (need_bd hc2 rfl) ?_ | refine sat_need (need_bdg hc2 rfl) ?_ | refine sat_need (need_bdv hc2 rfl hv4) ?_ | refine sat_need (need_hs8 hs1 rfl) ?_ | refine sat_need (need_hs8 hs2 rfl) ?_)
  refine sat_br (fun h => ?_) (fun h => ?_)
  ·have h : (!(decide (IntKind.i64.wrap (b.tdiv f) = lastR r bl) == !decide (pr = 0))) = true := h
   exact sat_ret (fin_val (.inr rfl) rfl rfl rfl (by rw [pnL, h]; rfl))
  have h : (!(decide (IntKind.i64.wrap (b.tdiv f) = lastR r bl) == !decide (pr = 0))) = false := h
  repeat (first | (first | refine sat_self ?_ | refine sat_nd ?_) | refine sat_need (need_i ha0 ha1) ?_ | refine sat_need (need_i hb0 hb1) ?_ | refine sat_need (need_ig ha0 ha1) ?_ | refine sat_need (need_ig hb0 hb1) ?_ | refine sat_need hvs ?_ | refine sat_need hf0 ?_ | refine sat_need (hf1 _) ?_ | refine sat_need (need_bd hc2 rfl) ?_ | refine sat_need (need_bdg hc2 rfl) ?_ | refine sat_need (need_bdv hc2 rfl hv4) ?_ | refine sat_need (need_hs8 hs1 rfl) ?_ | refine sat_need (need_hs8 hs2 rfl) ?_)
  refine sat_br (fun h2 => ?_) (fun h2 => ?_)
  ·have h2 : hasL b (tk (filtB (stepsB f r bl a (occL (tk zs))) id ((f * r).toNat))) = true := h2
   rw [tk_eq, tk_eq] at h2
   exact sat_ret (fin_val (.inr rfl) rfl rfl rfl (by rw [pnL, h, h2]; rfl))
  have h2 : hasL b (tk (filtB (stepsB f r bl a (occL (tk zs))) id ((f * r).toNat))) = false := h2
  rw [tk_eq, tk_eq] at h2
  repeat (first | (first | refine sat_self ?_ | refine sat_nd ?_) | refine sat_need (need_i ha0 ha1) ?_ | refine sat_need (need_i hb0 hb1) ?_ | refine sat_need (need_ig ha0 ha1) ?_ | refine sat_need (need_ig hb0 hb1) ?_ | refine sat_need hvs ?_ | refine sat_need hf0 ?_ | refine sat_need (hf1 _) ?_ | refine sat_need (need_bd hc2 rfl) ?_ | refine sat_need (need_bdg hc2 rfl) ?_ | refine sat_need (need_bdv hc2 rfl hv4) ?_ | refine sat_need (need_hs8 hs1 rfl) ?_ | refine sat_need (need_hs8 hs2 rfl) ?_)
  exact sat_ret (fin_val (.inr rfl) rfl rfl rfl (congrArg V.bool (by
   show (hasL b (tk (filtB (pawnC f bl a) id ((f * r).toNat))) && (!decide (zs.getD b.toNat 0 = 0) || decide (b = pa))) = _
   rw [tk_eq, pnL, h, h2]; rfl)))
 ·cases e
def c_rso : CF
 | [.agg [.int .i64 f, .int .i64 r, .sl 0 0 len none, .bool bl, .int .u8 ca, .int .i64 pa, .int .i64 _ha, .int .i64 _fu], .agg [.int .i64 a, .int .i64 b, .int .i8 pr]], [.ints false .i8 zs] => some (decide (len = zs.length) && decide (zs.length ≤ 64) && (validBd f r zs && castL f r zs ca && validB f r a && validB f r b), .bool (soL f r zs bl ca pa a b pr), [])
 | _, _ => none
theorem c_rso_ok : CtOk (GGx kCa kDb) PP (57, c_rso) := by
 refine ct_mk Tryz.func57 (by kernel_rfl) rfl fun a0 h0 c0 v0 N0 e hc => ?_
 unfold c_rso at e
 split at e
 ·rename_i f r len bl ca pa ha fu a b pr zs
  cases e
  have hE := EE_ok (kCa := kCa) (kDb := kDb) (cts := [(56, c_rown), (72, c_rpkind), (113, c_rpn), (36, c_rcgl), (68, c_rOf), (115, c_Occ), (114, c_Reaches)]) (inl := []) ⟨c_rown_ok, c_rpkind_ok, c_rpn_ok, c_rcgl_ok, c_rOf_ok, c_Occ_ok, c_Reaches_ok, trivial⟩ trivial
  refine fn_sound hE 2 Tryz.func57 rfl rfl ?_
  simp only [Bool.and_eq_true, decide_eq_true_eq] at hc
  obtain ⟨⟨rfl, hc2⟩, ⟨⟨hbd, hcs⟩, hva⟩, hvb⟩ := hc
  have hvs := (bd_valid hbd).1
  obtain ⟨ha0, ha1⟩ := (bd_sq hbd).1 hva
  obtain ⟨hb0, hb1⟩ := (bd_sq hbd).1 hvb
  have hf0 : (!decide (f = 0)) = true := by have := vs_bd hvs; simp; omega
  have hf1 : ∀ g : Bool, (!g || !decide (f = 0)) = true := fun g => by rw [hf0]; simp
  have hbt : validBd f r (tk zs) = true := by rw [tk_eq]; exact hbd
  have hct : castL f r (tk zs) ca = true := by rw [tk_eq]; exact hcs
  have hv4 : (validBd f r (tk zs) && castL f r (tk zs) ca && validB f r a && validB f r b) = true := by rw [hbt, hct, hva, hvb]; rfl
  have hv5 : (validBd f r (tk zs) && castL f r (tk zs) ca && (validB f r a && validB f r b)) = true := by rw [hbt, hct, hva, hvb]; rfl
  have hs1 : (filtB (stepsB f r bl a (occL (tk zs))) id ((f * r).toNat)).length ≤ 64 := by have := filtB_len (stepsB f r bl a (occL (tk zs))) id ((f * r).toNat); have := (bd_valid hbd).2; omega
  have hs2 : (filtB (pawnC f bl a) id ((f * r).toNat)).length ≤ 64 := by have := filtB_len (pawnC f bl a) id ((f * r).toNat); have := (bd_valid hbd).2; omega
  repeat (first | (first | refine sat_self ?_ | refine sat_nd ?_) | refine sat_need (need_i ha0 ha1) ?_ | refine sat_need (need_i hb0 hb1) ?_ | refine sat_need (need_ig ha0 ha1) ?_ | refine sat_need (need_ig hb0 hb1) ?_ | refine sat_need hvs ?_ | refine sat_need hf0 ?_ | refine sat_need (hf1 _) ?_ | refine sat_need (need_bd hc2 rfl) ?_ | refine sat_need (need_bdg hc2 rfl) ?_ | refine sat_need (need_bdv hc2 rfl hv4) ?_ | refine sat_need (need_hs8 hs1 rfl) ?_ | refine sat_need (need_hs8 hs2 rfl) ?_)
  refine sat_br (fun h => ?_) (fun h => ?_)
  ·have h : ownL (zs.getD b.toNat 0) bl = true := h
   exact sat_ret (fin_val (.inr rfl) rfl rfl rfl (by rw [soL, h]; rfl))
  have h : ownL (zs.getD b.toNat 0) bl = false := h
  repeat (first | (first | refine sat_self ?_ | refine sat_nd ?_) | refine sat_need (need_i ha0 ha1) ?_ | refine sat_need (need_i hb0 hb1) ?_ | refine sat_need (need_ig ha0 ha1) ?_ | refine sat_need (need_ig hb0 hb1) ?_ | refine sat_need hvs ?_ | refine sat_need hf0 ?_ | refine sat_need (hf1 _) ?_ | refine sat_need (need_bd hc2 rfl) ?_ | refine sat_need (need_bdg hc2 rfl) ?_ | refine sat_need (need_bdv hc2 rfl hv4) ?_ | refine sat_need (need_hs8 hs1 rfl) ?_ | refine sat_need (need_hs8 hs2 rfl) ?_)
  refine sat_br (fun h2 => ?_) (fun h2 => ?_)
  ·have h2 : decide (kind8 (zs.getD a.toNat 0) = 1) = true := h2
   repeat (first | (first | refine sat_self ?_ | refine sat_nd ?_) | refine sat_need (need_i ha0 ha1) ?_ | refine sat_need (need_i hb0 hb1) ?_ | refine sat_need (need_ig ha0 ha1) ?_ | refine sat_need (need_ig hb0 hb1) ?_ | refine sat_need hvs ?_ | refine sat_need hf0 ?_ | refine sat_need (hf1 _) ?_ | refine sat_need (need_bd hc2 rfl) ?_ | refine sat_need (need_bdg hc2 rfl) ?_ | refine sat_need (need_bdv hc2 rfl hv4) ?_ | refine sat_need (need_hs8 hs1 rfl) ?_ | refine sat_need (need_hs8 hs2 rfl) ?_)
   exact sat_ret (fin_val (.inr rfl) rfl rfl rfl (congrArg V.bool (by
    show pnL f r (tk zs) bl pa a b pr = _
    rw [tk_eq, soL, h, h2]; rfl)))
  have h2 : decide (kind8 (zs.getD a.toNat 0) = 1) = false := h2
  repeat (first | (first | refine sat_self ?_ | refine sat_nd ?_) | refine sat_need (need_i ha0 ha1) ?_ | refine sat_need (need_i hb0 hb1) ?_ | refine sat_need (need_ig ha0 ha1) ?_ | refine sat_need (need_ig hb0 hb1) ?_ | refine sat_need hvs ?_ | refine sat_need hf0 ?_ | refine sat_need (hf1 _) ?_ | refine sat_need (need_bd hc2 rfl) ?_ | refine sat_need (need_bdg hc2 rfl) ?_ | refine sat_need (need_bdv hc2 rfl hv4) ?_ | refine sat_need (need_hs8 hs1 rfl) ?_ | refine sat_need (need_hs8 hs2 rfl) ?_)
  refine sat_br (fun h3 => ?_) (fun h3 => ?_)
  ·have h3 : (!decide (cgL f r (tk zs) bl ca a b pr = 0)) = true := h3
   rw [tk_eq] at h3
   exact sat_ret (fin_val (.inr rfl) rfl rfl rfl (by rw [soL, h, h2, h3]; rfl))
  have h3 : (!decide (cgL f r (tk zs) bl ca a b pr = 0)) = false := h3
  rw [tk_eq] at h3
  repeat (first | (first | refine sat_self ?_ | refine sat_nd ?_) | refine sat_need (need_i ha0 ha1) ?_ | refine sat_need (need_i hb0 hb1) ?_ | refine sat_need (need_ig ha0 ha1) ?_ | refine sat_need (need_ig hb0 hb1) ?_ | refine sat_need hvs ?_ | refine sat_need hf0 ?_ | refine sat_need (hf1 _) ?_ | refine sat_need (need_bd hc2 rfl) ?_ | refine sat_need (need_bdg hc2 rfl) ?_ | refine sat_need (need_bdv hc2 rfl hv4) ?_ | refine sat_need (need_hs8 hs1 rfl) ?_ | refine sat_need (need_hs8 hs2 rfl) ?_)
  exact sat_ret (fin_val (.inr rfl) rfl rfl rfl (congrArg V.bool (by
   show (decide (pr = 0) && reachesB f r (kind8 (zs.getD a.toNat 0)) a b (occL (tk zs))) = _
   rw [tk_eq, soL, h, h2, h3]; rfl)))
 ·cases e
end Go.Ab

set_option maxRecDepth 100000
set_option maxHeartbeats 4000000
namespace Go.Ab
open Go.Proofs
variable {kCa kDb : Bool}
abbrev psn0 : Psn := ⟨0, 0, [], false, 0, 0, 0, 0⟩
def sfL (p : Psn) (m : Mov) : Bool := bif chkL p.f p.r (afP p m).zs p.bl then false else bif decide (cgL p.f p.r p.zs p.bl p.ca m.a m.b m.p = 0) then true else !chkL p.f p.r p.zs p.bl && decide (((attL p.f p.r p.zs (sqW (cgL p.f p.r p.zs p.bl p.ca m.a m.b m.p) 3) (!p.bl)).length : Int) = 0)
def rmE (p : Psn) (m : Mov) : Int := bif !validL p || !mvB p.f p.r m.a m.b m.p then 2 else bif !ownL (p.zs.getD m.a.toNat 0) p.bl then 9 else bif !soL p.f p.r p.zs p.bl p.ca p.pa m.a m.b m.p then 10 else bif !sfL p m then 90 else bif decide (10000 < (afP p m).ha) || decide (10000 < (afP p m).fu) then 7 else 0
def rmP (p : Psn) (m : Mov) : Psn := bif decide (rmE p m = 0) then afP p m else psn0
def rmU (p : Psn) (m : Mov) : Und := bif decide (rmE p m = 0) then ⟨m, bif decide (0 ≤ capL p.f p.r p.zs p.pa m.a m.b) then p.zs.getD (capL p.f p.r p.zs p.pa m.a m.b).toNat 0 else 0, capL p.f p.r p.zs p.pa m.a m.b, p.ca, p.pa, p.ha, p.fu⟩ else ⟨⟨0, 0, 0⟩, 0, 0, 0, 0, 0, 0⟩
theorem rm_err {p : Psn} {m : Mov} {n : Int} (h : rmE p m = n) (hn : n ≠ 0) : rmP p m = psn0 ∧ rmU p m = ⟨⟨0, 0, 0⟩, 0, 0, 0, 0, 0, 0⟩ := by
 have h0 : decide (rmE p m = 0) = false := by rw [h]; simpa using hn
 exact ⟨by rw [rmP, h0]; rfl, by rw [rmU, h0]; rfl⟩
theorem need_af {l : List Int} {f r : Int} (h : l.length ≤ 64) (hv : vsB f r = true) : (decide (l.length = ((l.drop 0).take l.length).length) && decide (((l.drop 0).take l.length).length ≤ 64) && vsB f r) = true := by rw [hv]; simp [h]
theorem vl_ok {p : Psn} (h : validL p = true) : validBd p.f p.r p.zs = true ∧ castL p.f p.r p.zs p.ca = true := by
 unfold validL at h
 cases h1 : (!orthBd p.f p.r p.zs || decide (refKing p.zs false < 0) || decide (refKing p.zs true < 0) || chkL p.f p.r p.zs (!p.bl)) with
 | true => rw [h1] at h; cases h
 | false =>
  cases h2 : pwAny p.f p.r p.zs with
  | true => rw [h1, h2] at h; cases h
  | false =>
   rw [h1, h2] at h
   simp only [cond_false, Bool.and_eq_true] at h
   simp only [Bool.or_eq_false_iff, Bool.not_eq_false'] at h1
   exact ⟨(orth_valid h1.1.1.1).2.2.1, h.1.1.1.1.1⟩
def c_rsafe : CF
 | [.agg [.int .i64 f, .int .i64 r, .sl 0 0 len none, .bool bl, .int .u8 ca, .int .i64 pa, .int .i64 ha, .int .i64 fu], .agg [.int .i64 a, .int .i64 b, .int .i8 pr]], [.ints false .i8 zs] => some (decide (len = zs.length) && decide (zs.length ≤ 64) && (validBd f r zs && castL f r zs ca && validB f r a && validB f r b), .bool (sfL ⟨f, r, zs, bl, ca, pa, ha, fu⟩ ⟨a, b, pr⟩), [])
 | _, _ => none
theorem c_rsafe_ok : CtOk (GGx kCa kDb) PP (58, c_rsafe) := by
 refine ct_mk Tryz.func58 (by kernel_rfl) rfl fun a0 h0 c0 v0 N0 e hc => ?_
 unfold c_rsafe at e
 split at e
 ·rename_i f r len bl ca pa ha fu a b pr zs
  cases e
  have hE := EE_ok (kCa := kCa) (kDb := kDb) (cts := [(59, c_rafter), (68, c_rOf), (71, c_rCheck), (36, c_rcgl), (82, c_rrow), (83, c_rsquare), (116, c_refAttackers)]) (inl := []) ⟨c_rafter_ok, c_rOf_ok, c_rCheck_ok, c_rcgl_ok, c_rrow_ok, c_rsquare_ok, c_refAttackers_ok, trivial⟩ trivial
  refine fn_sound hE 2 Tryz.func58 rfl rfl ?_
  simp only [Bool.and_eq_true, decide_eq_true_eq] at hc
  obtain ⟨⟨rfl, hc2⟩, ⟨⟨hbd, hcs⟩, hva⟩, hvb⟩ := hc
  have hvs := (bd_valid hbd).1
  obtain ⟨ha0, ha1⟩ := (bd_sq hbd).1 hva
  obtain ⟨hb0, hb1⟩ := (bd_sq hbd).1 hvb
  have hbt : validBd f r (tk zs) = true := by rw [tk_eq]; exact hbd
  have hct : castL f r (tk zs) ca = true := by rw [tk_eq]; exact hcs
  have hv4 : (validBd f r (tk zs) && castL f r (tk zs) ca && validB f r a && validB f r b) = true := by rw [hbt, hct, hva, hvb]; rfl
  have hzl : (afZ f r (tk zs) bl ca pa a b pr).length ≤ 64 := by rw [afZ_len, tk_len]; exact hc2
  repeat (first | (first | refine sat_self ?_ | refine sat_nd ?_) | refine sat_need (need_i ha0 ha1) ?_ | refine sat_need (need_i hb0 hb1) ?_ | refine sat_need (need_bd hc2 rfl) ?_ | refine sat_need (need_bdg hc2 rfl) ?_ | refine sat_need (need_bdv hc2 rfl hv4) ?_ | refine sat_need (need_bdv hc2 rfl hvs) ?_ | refine sat_need (need_bdw hc2 hvs) ?_ | refine sat_need (need_af hzl hvs) ?_)
  refine sat_br (fun h => ?_) (fun h => ?_)
  ·have h : chkL f r (tk (afZ f r (tk zs) bl ca pa a b pr)) bl = true := h
   rw [tk_eq, tk_eq] at h
   have h : chkL f r (afP ⟨f, r, zs, bl, ca, pa, ha, fu⟩ ⟨a, b, pr⟩).zs bl = true := h
   exact sat_ret (fin_val (.inr rfl) rfl rfl rfl (by simp only [sfL, h, cond_true]))
  have h : chkL f r (tk (afZ f r (tk zs) bl ca pa a b pr)) bl = false := h
  rw [tk_eq, tk_eq] at h
  have h : chkL f r (afP ⟨f, r, zs, bl, ca, pa, ha, fu⟩ ⟨a, b, pr⟩).zs bl = false := h
  repeat (first | (first | refine sat_self ?_ | refine sat_nd ?_) | refine sat_need (need_i ha0 ha1) ?_ | refine sat_need (need_i hb0 hb1) ?_ | refine sat_need (need_bd hc2 rfl) ?_ | refine sat_need (need_bdg hc2 rfl) ?_ | refine sat_need (need_bdv hc2 rfl hv4) ?_ | refine sat_need (need_bdv hc2 rfl hvs) ?_ | refine sat_need (need_bdw hc2 hvs) ?_ | refine sat_need (need_af hzl hvs) ?_)
  refine sat_br (fun h2 => ?_) (fun h2 => ?_)
  ·have h2 : decide (cgL f r (tk zs) bl ca a b pr = 0) = true := h2
   rw [tk_eq] at h2
   exact sat_ret (fin_val (.inr rfl) rfl rfl rfl (by simp only [sfL, h, h2, cond_true, cond_false]))
  have h2 : decide (cgL f r (tk zs) bl ca a b pr = 0) = false := h2
  rw [tk_eq] at h2
  repeat (first | (first | refine sat_self ?_ | refine sat_nd ?_) | refine sat_need (need_i ha0 ha1) ?_ | refine sat_need (need_i hb0 hb1) ?_ | refine sat_need (need_bd hc2 rfl) ?_ | refine sat_need (need_bdg hc2 rfl) ?_ | refine sat_need (need_bdv hc2 rfl hv4) ?_ | refine sat_need (need_bdv hc2 rfl hvs) ?_ | refine sat_need (need_bdw hc2 hvs) ?_ | refine sat_need (need_af hzl hvs) ?_)
  refine sat_br (fun hq => ?_) (fun hq => ?_)
  ·have hq : (!chkL f r (tk zs) bl) = true := hq
   rw [tk_eq] at hq
   repeat (first | (first | refine sat_self ?_ | refine sat_nd ?_) | refine sat_need (need_i ha0 ha1) ?_ | refine sat_need (need_i hb0 hb1) ?_ | refine sat_need (need_bd hc2 rfl) ?_ | refine sat_need (need_bdg hc2 rfl) ?_ | refine sat_need (need_bdv hc2 rfl hv4) ?_ | refine sat_need (need_bdv hc2 rfl hvs) ?_ | refine sat_need (need_bdw hc2 hvs) ?_ | refine sat_need (need_af hzl hvs) ?_)
   exact sat_ret (fin_val (.inr rfl) rfl rfl rfl (congrArg V.bool (by
    show decide (((attL f r (tk zs) (sqW (cgL f r (tk zs) bl ca a b pr) 3) (!bl)).length : Int) = 0) = _
    rw [tk_eq]
    simp only [sfL, h, h2, hq, cond_false, Bool.true_and])))
  ·have hq : (!chkL f r (tk zs) bl) = false := hq
   rw [tk_eq] at hq
   exact sat_ret (fin_val (.inr rfl) rfl rfl rfl (congrArg V.bool (by
    show false = _
    simp only [sfL, h, h2, hq, cond_false, Bool.false_and])))
 ·cases e
def c_rmake : CF
 | [.agg [.int .i64 f, .int .i64 r, .sl 0 0 len none, .bool bl, .int .u8 ca, .int .i64 pa, .int .i64 ha, .int .i64 fu], .agg [.int .i64 a, .int .i64 b, .int .i8 pr]], [.ints false .i8 zs] => some (decide (len = zs.length) && decide (zs.length ≤ 64), .tup [psV 1 (rmP ⟨f, r, zs, bl, ca, pa, ha, fu⟩ ⟨a, b, pr⟩), unV (rmU ⟨f, r, zs, bl, ca, pa, ha, fu⟩ ⟨a, b, pr⟩), I (rmE ⟨f, r, zs, bl, ca, pa, ha, fu⟩ ⟨a, b, pr⟩)], [.ints true .i8 (rmP ⟨f, r, zs, bl, ca, pa, ha, fu⟩ ⟨a, b, pr⟩).zs])
 | _, _ => none
theorem c_rmake_ok : CtOk (GGx kCa kDb) PP (16, c_rmake) := by
 refine ct_mk Tryz.func16 (by kernel_rfl) rfl fun a0 h0 c0 v0 N0 e hc => ?_
 unfold c_rmake at e
 split at e
 ·rename_i f r len bl ca pa ha fu a b pr zs
  cases e
  have hE := EE_ok (kCa := kCa) (kDb := kDb) (cts := [(25, c_rvalid), (31, c_rmvalid), (56, c_rown), (57, c_rso), (58, c_rsafe), (59, c_rafter), (35, c_rcap)]) (inl := []) ⟨c_rvalid_ok, c_rmvalid_ok, c_rown_ok, c_rso_ok, c_rsafe_ok, c_rafter_ok, c_rcap_ok, trivial⟩ trivial
  refine fn_soundL hE 2 Tryz.func16 rfl rfl ?_
  simp only [Bool.and_eq_true, decide_eq_true_eq] at hc
  obtain ⟨rfl, hc2⟩ := hc
  repeat (first | (first | refine sat_self ?_ | refine sat_nd ?_) | refine sat_need (need_bd hc2 rfl) ?_)
  refine sat_br (fun h => ?_) (fun h => ?_)
  ·have h : (!validL ⟨f, r, tk zs, bl, ca, pa, ha, fu⟩ || !mvB f r a b pr) = true := h
   rw [tk_eq] at h
   have he : rmE ⟨f, r, zs, bl, ca, pa, ha, fu⟩ ⟨a, b, pr⟩ = 2 := by simp only [rmE, h, cond_true]
   obtain ⟨x1, x2⟩ := rm_err he (by decide)
   rw [x1, x2, he]
   exact sat_ret (fin_le (Ent.phan (b := 3) (j := 2) (ww := true) (o := .ints true .i8 []) rfl rfl ⟨by simp, by simp, trivial, rfl⟩ (blt_lt rfl)) (fin_new 5 (.inr rfl) rfl rfl rfl rfl rfl rfl) (fun _ _ h => h))
  have h : (!validL ⟨f, r, tk zs, bl, ca, pa, ha, fu⟩ || !mvB f r a b pr) = false := h
  rw [tk_eq] at h
  have h' := h
  simp only [Bool.or_eq_false_iff, Bool.not_eq_false'] at h'
  obtain ⟨hbd, hcs⟩ := vl_ok h'.1
  obtain ⟨hva, hvb⟩ := mv_ab h'.2
  dsimp only at hbd hcs
  have hvs := (bd_valid hbd).1
  obtain ⟨ha0, ha1⟩ := (bd_sq hbd).1 hva
  obtain ⟨hb0, hb1⟩ := (bd_sq hbd).1 hvb
  have hbt : validBd f r (tk zs) = true := by rw [tk_eq]; exact hbd
  have hct : castL f r (tk zs) ca = true := by rw [tk_eq]; exact hcs
  have hv4 : (validBd f r (tk zs) && castL f r (tk zs) ca && validB f r a && validB f r b) = true := by rw [hbt, hct, hva, hvb]; rfl
  have hzl : (afZ f r (tk zs) bl ca pa a b pr).length ≤ 64 := by rw [afZ_len, tk_len]; exact hc2
  repeat (first | (first | refine sat_self ?_ | refine sat_nd ?_) | refine sat_need (need_i ha0 ha1) ?_ | refine sat_need (need_i hb0 hb1) ?_ | refine sat_need (need_bd hc2 rfl) ?_ | refine sat_need (need_bdg hc2 rfl) ?_ | refine sat_need (need_bdv hc2 rfl hv4) ?_ | refine sat_need (need_bdv hc2 rfl hvs) ?_ | refine sat_need (need_bdw hc2 hvs) ?_ | refine sat_need (need_af hzl hvs) ?_)
  refine sat_br (fun h2 => ?_) (fun h2 => ?_)
  ·have h2 : (!ownL (zs.getD a.toNat 0) bl) = true := h2
   have he : rmE ⟨f, r, zs, bl, ca, pa, ha, fu⟩ ⟨a, b, pr⟩ = 9 := by simp only [rmE, h, h2, cond_true, cond_false]
   obtain ⟨x1, x2⟩ := rm_err he (by decide)
   rw [x1, x2, he]
   exact sat_ret (fin_le (Ent.phan (b := 3) (j := 2) (ww := true) (o := .ints true .i8 []) rfl rfl ⟨by simp, by simp, trivial, rfl⟩ (blt_lt rfl)) (fin_new 5 (.inr rfl) rfl rfl rfl rfl rfl rfl) (fun _ _ h => h))
  have h2 : (!ownL (zs.getD a.toNat 0) bl) = false := h2
  repeat (first | (first | refine sat_self ?_ | refine sat_nd ?_) | refine sat_need (need_i ha0 ha1) ?_ | refine sat_need (need_i hb0 hb1) ?_ | refine sat_need (need_bd hc2 rfl) ?_ | refine sat_need (need_bdg hc2 rfl) ?_ | refine sat_need (need_bdv hc2 rfl hv4) ?_ | refine sat_need (need_bdv hc2 rfl hvs) ?_ | refine sat_need (need_bdw hc2 hvs) ?_ | refine sat_need (need_af hzl hvs) ?_)
  refine sat_br (fun h3 => ?_) (fun h3 => ?_)
  ·have h3 : (!soL f r (tk zs) bl ca pa a b pr) = true := h3
   rw [tk_eq] at h3
   have he : rmE ⟨f, r, zs, bl, ca, pa, ha, fu⟩ ⟨a, b, pr⟩ = 10 := by simp only [rmE, h, h2, h3, cond_true, cond_false]
   obtain ⟨x1, x2⟩ := rm_err he (by decide)
   rw [x1, x2, he]
   exact sat_ret (fin_le (Ent.phan (b := 3) (j := 2) (ww := true) (o := .ints true .i8 []) rfl rfl ⟨by simp, by simp, trivial, rfl⟩ (blt_lt rfl)) (fin_new 5 (.inr rfl) rfl rfl rfl rfl rfl rfl) (fun _ _ h => h))
  have h3 : (!soL f r (tk zs) bl ca pa a b pr) = false := h3
  rw [tk_eq] at h3
  repeat (first | (first | refine sat_self ?_ | refine sat_nd ?_) | refine sat_need (need_i ha0 ha1) ?_ | refine sat_need (need_i hb0 hb1) ?_ | refine sat_need (need_bd hc2 rfl) ?_ | refine sat_need (need_bdg hc2 rfl) ?_ | refine sat_need (need_bdv hc2 rfl hv4) ?_ | refine sat_need (need_bdv hc2 rfl hvs) ?_ | refine sat_need (need_bdw hc2 hvs) ?_ | refine sat_need (need_af hzl hvs) ?_)
  refine sat_br (fun h4 => ?_) (fun h4 => ?_)
  ·have h4 : (!sfL ⟨f, r, tk zs, bl, ca, pa, ha, fu⟩ ⟨a, b, pr⟩) = true := h4
   rw [tk_eq] at h4
   have he : rmE ⟨f, r, zs, bl, ca, pa, ha, fu⟩ ⟨a, b, pr⟩ = 90 := by simp only [rmE, h, h2, h3, h4, cond_true, cond_false]
   obtain ⟨x1, x2⟩ := rm_err he (by decide)
   rw [x1, x2, he]
   exact sat_ret (fin_le (Ent.phan (b := 3) (j := 2) (ww := true) (o := .ints true .i8 []) rfl rfl ⟨by simp, by simp, trivial, rfl⟩ (blt_lt rfl)) (fin_new 5 (.inr rfl) rfl rfl rfl rfl rfl rfl) (fun _ _ h => h))
  have h4 : (!sfL ⟨f, r, tk zs, bl, ca, pa, ha, fu⟩ ⟨a, b, pr⟩) = false := h4
  rw [tk_eq] at h4
  repeat (first | (first | refine sat_self ?_ | refine sat_nd ?_) | refine sat_need (need_i ha0 ha1) ?_ | refine sat_need (need_i hb0 hb1) ?_ | refine sat_need (need_bd hc2 rfl) ?_ | refine sat_need (need_bdg hc2 rfl) ?_ | refine sat_need (need_bdv hc2 rfl hv4) ?_ | refine sat_need (need_bdv hc2 rfl hvs) ?_ | refine sat_need (need_bdw hc2 hvs) ?_ | refine sat_need (need_af hzl hvs) ?_)
  refine sat_br (fun h5 => ?_) (fun h5 => ?_)
  ·have h5 : (decide (10000 < (afP ⟨f, r, tk zs, bl, ca, pa, ha, fu⟩ ⟨a, b, pr⟩).ha) || decide (10000 < (afP ⟨f, r, tk zs, bl, ca, pa, ha, fu⟩ ⟨a, b, pr⟩).fu)) = true := h5
   rw [tk_eq] at h5
   have he : rmE ⟨f, r, zs, bl, ca, pa, ha, fu⟩ ⟨a, b, pr⟩ = 7 := by simp only [rmE, h, h2, h3, h4, h5, cond_true, cond_false]
   obtain ⟨x1, x2⟩ := rm_err he (by decide)
   rw [x1, x2, he]
   exact sat_ret (fin_le (Ent.phan (b := 3) (j := 2) (ww := true) (o := .ints true .i8 []) rfl rfl ⟨by simp, by simp, trivial, rfl⟩ (blt_lt rfl)) (fin_new 7 (.inr rfl) rfl rfl rfl rfl rfl rfl) (fun _ _ h => h))
  have h5 : (decide (10000 < (afP ⟨f, r, tk zs, bl, ca, pa, ha, fu⟩ ⟨a, b, pr⟩).ha) || decide (10000 < (afP ⟨f, r, tk zs, bl, ca, pa, ha, fu⟩ ⟨a, b, pr⟩).fu)) = false := h5
  rw [tk_eq] at h5
  have he : rmE ⟨f, r, zs, bl, ca, pa, ha, fu⟩ ⟨a, b, pr⟩ = 0 := by simp only [rmE, h, h2, h3, h4, h5, cond_false]
  rw [show rmP ⟨f, r, zs, bl, ca, pa, ha, fu⟩ ⟨a, b, pr⟩ = afP ⟨f, r, zs, bl, ca, pa, ha, fu⟩ ⟨a, b, pr⟩ by rw [rmP, he]; rfl, he]
  have hx : ∀ g : Bool, (0 ≤ capL f r (tk zs) pa a b) → (decide (0 ≤ capL f r (tk zs) pa a b) && decide (capL f r (tk zs) pa a b < zs.length)) = true := fun _ h0 => by
   rw [tk_eq] at h0 ⊢
   have := cap_ok hbd hb1 h0
   simp [h0, this]
  repeat (first | (first | refine sat_self ?_ | refine sat_nd ?_) | refine sat_need (need_i ha0 ha1) ?_ | refine sat_need (need_i hb0 hb1) ?_ | refine sat_need (need_bd hc2 rfl) ?_ | refine sat_need (need_bdg hc2 rfl) ?_ | refine sat_need (need_bdv hc2 rfl hv4) ?_ | refine sat_need (need_bdv hc2 rfl hvs) ?_ | refine sat_need (need_bdw hc2 hvs) ?_ | refine sat_need (need_af hzl hvs) ?_)
  refine sat_br (fun h6 => ?_) (fun h6 => ?_)
  ·have h6 : decide (0 ≤ capL f r (tk zs) pa a b) = true := h6
   repeat (first | (first | refine sat_self ?_ | refine sat_nd ?_) | refine sat_need (hx true (of_decide_eq_true h6)) ?_)
   refine sat_ret (fin_l0 (fin_new 5 (.inr rfl) rfl rfl rfl rfl (by show [O.ints true .i8 (afP ⟨f, r, tk zs, bl, ca, pa, ha, fu⟩ ⟨a, b, pr⟩).zs] = _; rw [tk_eq]) ?_))
   show V.tup [psV 1 (afP ⟨f, r, tk zs, bl, ca, pa, ha, fu⟩ ⟨a, b, pr⟩), .agg [I a, I b, .int .i8 pr, .int .i8 (zs.getD (capL f r (tk zs) pa a b).toNat 0), I (capL f r (tk zs) pa a b), .int .u8 ca, I pa, I ha, I fu], I 0] = _
   rw [tk_eq] at h6 ⊢
   rw [rmU, he, h6]; rfl
  ·have h6 : decide (0 ≤ capL f r (tk zs) pa a b) = false := h6
   repeat (first | refine sat_self ?_ | refine sat_nd ?_)
   refine sat_ret (fin_l0 (fin_new 5 (.inr rfl) rfl rfl rfl rfl (by show [O.ints true .i8 (afP ⟨f, r, tk zs, bl, ca, pa, ha, fu⟩ ⟨a, b, pr⟩).zs] = _; rw [tk_eq]) ?_))
   show V.tup [psV 1 (afP ⟨f, r, tk zs, bl, ca, pa, ha, fu⟩ ⟨a, b, pr⟩), .agg [I a, I b, .int .i8 pr, .int .i8 0, I (capL f r (tk zs) pa a b), .int .u8 ca, I pa, I ha, I fu], I 0] = _
   rw [tk_eq] at h6 ⊢
   rw [rmU, he, h6]; rfl
 ·cases e
end Go.Ab

set_option maxRecDepth 100000
set_option maxHeartbeats 4000000
namespace Go.Ab
open Go.Proofs
theorem own_is (p : Int) (bl : Bool) : ownL p bl = isP p bl := by
 unfold ownL isP
 have h : p < 0 ∨ p = 0 ∨ 0 < p := by omega
 rcases h with h | h | h
 ·have h1 : ¬ p = 0 := by omega
  have h2 : ¬ 0 < p := by omega
  cases bl <;> simp [h, h1, h2]
 ·subst h; cases bl <;> rfl
 ·have h1 : ¬ p = 0 := by omega
  have h2 : ¬ p < 0 := by omega
  cases bl <;> simp [h, h1, h2]
theorem bit_eq {ca : Int} (h : 0 ≤ ca ∧ ca ≤ 15) {bit : Int} (hb : bit = 1 ∨ bit = 2 ∨ bit = 4 ∨ bit = 8) : decide ((IntKind.u8.wrap (ca.tdiv bit)).tmod 2 = 1) = !decide (u8and ca bit = 0) := by
 obtain ⟨h1, h2⟩ := h
 have : ca = 0 ∨ ca = 1 ∨ ca = 2 ∨ ca = 3 ∨ ca = 4 ∨ ca = 5 ∨ ca = 6 ∨ ca = 7 ∨ ca = 8 ∨ ca = 9 ∨ ca = 10 ∨ ca = 11 ∨ ca = 12 ∨ ca = 13 ∨ ca = 14 ∨ ca = 15 := by omega
 rcases hb with rfl | rfl | rfl | rfl <;> rcases this with rfl | rfl | rfl | rfl | rfl | rfl | rfl | rfl | rfl | rfl | rfl | rfl | rfl | rfl | rfl | rfl <;> decide
theorem home_rt {f r : Int} {zs : List Int} : (homeB f r zs 1 = !((!is88 f r || !decide (zs.getD 4 0 = ofP 6 false)) || !decide (zs.getD 7 0 = ofP 4 false))) ∧ (homeB f r zs 2 = !((!is88 f r || !decide (zs.getD 4 0 = ofP 6 false)) || !decide (zs.getD 0 0 = ofP 4 false))) ∧ (homeB f r zs 4 = !((!is88 f r || !decide (zs.getD 60 0 = ofP 6 true)) || !decide (zs.getD 63 0 = ofP 4 true))) ∧ (homeB f r zs 8 = !((!is88 f r || !decide (zs.getD 60 0 = ofP 6 true)) || !decide (zs.getD 56 0 = ofP 4 true))) := by
 have e1 : ofP 6 false = 6 := by decide
 have e2 : ofP 4 false = 4 := by decide
 have e3 : ofP 6 true = -6 := by decide
 have e4 : ofP 4 true = -4 := by decide
 rw [e1, e2, e3, e4]
 unfold homeB is88
 cases decide (f = 8) <;> cases decide (r = 8) <;> simp
theorem cast_eq {f r : Int} {zs : List Int} {ca : Int} (h0 : 0 ≤ ca) : castL f r zs ca = castB f r zs ca := by
 unfold castL castB
 rcases Int.lt_or_le 15 ca with h | h
 ·have h2 : ¬ ca < 16 := by omega
  simp [h, h2]
 ·have h2 : ca < 16 := by omega
  have h1 : ¬ 15 < ca := by omega
  obtain ⟨a1, a2, a3, a4⟩ := home_rt (f := f) (r := r) (zs := zs)
  have hx : 0 ≤ ca ∧ ca ≤ 15 := ⟨h0, h⟩
  simp only [rXL, rtX, bit_eq hx (.inl rfl), bit_eq hx (.inr (.inl rfl)), bit_eq hx (.inr (.inr (.inl rfl))), bit_eq hx (.inr (.inr (.inr rfl))), a1, a2, a3, a4, Bool.not_not, decide_eq_true h2, decide_eq_false h1, cond_false, Bool.and_true, Bool.not_or, Bool.not_and]
end Go.Ab

set_option maxRecDepth 100000
namespace Go.Ab
open Go.Proofs
theorem findI_spec (p : Int → Bool) : ∀ (l : List Int) (k : Int), (findI p l k = -1 ∧ ∀ i, i < l.length → p (l.getD i 0) = false) ∨ (∃ j, j < l.length ∧ findI p l k = k + (j : Nat) ∧ p (l.getD j 0) = true ∧ ∀ i, i < j → p (l.getD i 0) = false)
 | [], k => .inl ⟨rfl, fun i h => by simp at h⟩
 | x :: l, k => by
  rw [findI]
  cases hx : p x with
  | true => right; exact ⟨0, by simp, by simp, by simpa using hx, fun i h => by omega⟩
  | false =>
   rw [cond_false]
   rcases findI_spec p l (k + 1) with ⟨h1, h2⟩ | ⟨j, h1, h2, h3, h4⟩
   ·left
    refine ⟨h1, fun i hi => ?_⟩
    cases i with
    | zero => simpa using hx
    | succ i => have := h2 i (by simpa using hi); simpa using this
   ·right
    refine ⟨j + 1, by simpa using h1, by rw [h2]; push_cast; omega, by simpa using h3, fun i hi => ?_⟩
    cases i with
    | zero => simpa using hx
    | succ i => have := h4 i (by omega); simpa using this
theorem filt_none {c : Int → Bool} : ∀ (n : Nat), (∀ i : Nat, i < n → c i = false) → filtB c id n = []
 | 0, _ => rfl
 | n + 1, h => by rw [filtB_succ, h n (by omega), cond_false]; exact filt_none n fun i hi => h i (by omega)
theorem filt_one {c : Int → Bool} {a : Nat} (ha : c a = true) : ∀ (n : Nat), a < n → (∀ i : Nat, i < n → c i = true → i = a) → filtB c id n = [(a : Int)]
 | 0, h, _ => by omega
 | n + 1, h, hu => by
  rw [filtB_succ]
  by_cases e : n = a
  ·subst e
   rw [ha, cond_true, filt_none n fun i hi => ?_]
   ·rfl
   ·cases hc : c i with
    | false => rfl
    | true => have := hu i (by omega) hc; omega
  ·have : c n = false := by
    cases hc : c n with
    | false => rfl
    | true => exact absurd (hu n (by omega) hc) e
   rw [this, cond_false]
   exact filt_one ha n (by omega) fun i hi => hu i (by omega)
theorem kg_eq (bl : Bool) : w8 (IntKind.i64.wrap (6 * sdI bl)) = kgP bl := by cases bl <;> decide
theorem any_drop {zs : List Int} {p : Int → Bool} {k : Nat} : (zs.drop k).any p = true ↔ ∃ i, k ≤ i ∧ i < zs.length ∧ p (zs.getD i 0) = true := by
 rw [List.any_eq_true]
 constructor
 ·rintro ⟨x, hx, hp⟩
  obtain ⟨i, hi, rfl⟩ := List.mem_iff_getElem.1 hx
  rw [List.getElem_drop] at hp
  rw [List.length_drop] at hi
  exact ⟨k + i, by omega, by omega, by simpa [List.getD, show k + i < zs.length by omega] using hp⟩
 ·rintro ⟨i, h1, h2, h3⟩
  refine ⟨zs.getD i 0, ?_, h3⟩
  rw [List.mem_iff_getElem]
  refine ⟨i - k, by rw [List.length_drop]; omega, ?_⟩
  rw [List.getElem_drop]
  simp [List.getD, h2, show k + (i - k) = i by omega]
theorem king_ref (zs : List Int) (bl : Bool) (hl : zs.length ≤ 64) : (kingN zs bl = true ∧ refKing zs bl = -1) ∨ (kingN zs bl = false ∧ refKing zs bl = kingI zs bl ∧ 0 ≤ kingI zs bl ∧ kingI zs bl < zs.length ∧ zs.getD (kingI zs bl).toNat 0 = kgP bl ∧ ∀ i : Nat, i < zs.length → zs.getD i 0 = kgP bl → (i : Int) = kingI zs bl) := by
 unfold refKing kingN
 rw [kg_eq]
 rcases findI_spec (isV (kgP bl)) zs 0 with ⟨h1, h2⟩ | ⟨j, h1, h2, h3, h4⟩
 ·left
  have hn : listL zs (kgP bl) = [] := filt_none _ fun i hi => by
   have := h2 i hi
   simp only [isV, decide_eq_false_iff_not] at this
   simp only [listC, Int.toNat_natCast, decide_eq_false_iff_not]
   exact fun e => this e.symm
  rw [hn]
  refine ⟨?_, rfl⟩
  rw [show kingI zs bl = -1 from h1]; rfl
 ·have hK : kingI zs bl = (j : Int) := by unfold kingI; rw [h2]; omega
  simp only [isV, decide_eq_true_eq] at h3
  rw [hK, show IntKind.i64.wrap ((j : Int) + 1) = ((j + 1 : Nat) : Int) by rw [w64_id (by omega) (by omega)]; omega, Int.toNat_natCast, show decide ((j : Int) < 0) = false by simp, Bool.false_or]
  cases ha : (zs.drop (j + 1)).any (isV (kgP bl)) with
  | true =>
   left
   refine ⟨rfl, ?_⟩
   obtain ⟨i, g1, g2, g3⟩ := any_drop.1 ha
   simp only [isV, decide_eq_true_eq] at g3
   have m1 : (j : Int) ∈ listL zs (kgP bl) := mem_filtB.2 ⟨by omega, by omega, by simp [listC, h3]⟩
   have m2 : (i : Int) ∈ listL zs (kgP bl) := mem_filtB.2 ⟨by omega, by omega, by simp [listC, g3]⟩
   cases hd : decide (((listL zs (kgP bl)).length : Int) = 1) with
   | false => rfl
   | true =>
    have : (listL zs (kgP bl)).length = 1 := by have := of_decide_eq_true hd; omega
    obtain ⟨x, hx⟩ := List.length_eq_one_iff.1 this
    rw [hx] at m1 m2
    simp at m1 m2
    omega
  | false =>
   right
   have hno : ∀ i : Nat, i < zs.length → zs.getD i 0 = kgP bl → i = j := by
    intro i hi he
    rcases Nat.lt_trichotomy i j with g | g | g
    ·have := h4 i g
     simp only [isV, decide_eq_false_iff_not] at this
     exact absurd he.symm this
    ·exact g
    ·have : (zs.drop (j + 1)).any (isV (kgP bl)) = true := any_drop.2 ⟨i, by omega, hi, by simp only [isV, decide_eq_true_eq]; exact he.symm⟩
     rw [ha] at this; cases this
   have hone : listL zs (kgP bl) = [(j : Int)] := filt_one (by simp [listC, h3]) _ h1 fun i hi hc => hno i hi (by simpa [listC] using hc)
   refine ⟨rfl, by rw [hone]; rfl, by omega, by omega, by rw [h3, Int.toNat_natCast], fun i hi he => by rw [hno i hi he]⟩
theorem king_iff {f r : Int} {zs : List Int} {bl : Bool} (h : orthBd f r zs = true) (hl : zs.length ≤ 64) : (refKing zs bl < 0 ∧ kingR f r zs bl = (0, 9)) ∨ (kingR f r zs bl = (refKing zs bl, 0) ∧ validB f r (refKing zs bl) = true ∧ refKing zs bl = kingI zs bl) := by
 rcases king_ref zs bl hl with ⟨h1, h2⟩ | ⟨h1, h2, h3, h4, _⟩
 ·left; exact ⟨by rw [h2]; decide, by unfold kingR; rw [h, h1]; rfl⟩
 ·right; exact ⟨by unfold kingR; rw [h, h1, h2]; rfl, (sq_iff h).2 (by rw [h2]; exact ⟨h3, h4⟩), h2⟩
end Go.Ab

set_option maxRecDepth 100000
namespace Go.Ab
open Go.Proofs
theorem att_zero {f r : Int} {zs : List Int} {to : Int} {bl : Bool} (h : orthBd f r zs = true) (hl : zs.length ≤ 64) (ht : validB f r to = true) : decide (attR f r zs to bl = 0) = decide (((attL f r zs to bl).length : Int) = 0) := by
 obtain ⟨hu, hb⟩ := attR_bt (bl := bl) h hl ht
 rw [decide_eq_decide, uk_eq_0 hu]
 constructor
 ·intro h0
  have : attL f r zs to bl = [] := List.eq_nil_iff_forall_not_mem.2 fun x hx => by
   have hx' := mem_attL.1 hx
   have := h0 x.toNat (by omega)
   rw [hb, show ((x.toNat : Nat) : Int) = x by omega] at this
   simp [hx] at this
  rw [this]; rfl
 ·intro h0 n _
  have : attL f r zs to bl = [] := List.eq_nil_of_length_eq_zero (by omega)
  rw [hb, this]; simp
theorem chk_eq {f r : Int} {zs : List Int} {bl : Bool} (h : orthBd f r zs = true) (hl : zs.length ≤ 64) (hk : (kingR f r zs bl).2 = 0) : chkL f r zs bl = chkB f r zs bl := by
 rcases king_iff (bl := bl) h hl with ⟨_, h2⟩ | ⟨h1, h2, _⟩
 ·rw [h2] at hk; cases hk
 ·unfold chkL chkB checkersR
  rw [h1]
  simp only [decide_true, cond_true]
  rw [att_zero h hl h2]
  have : (0 : Int) ≤ ((attL f r zs (refKing zs bl) (!bl)).length : Int) := Int.natCast_nonneg _
  by_cases h0 : ((attL f r zs (refKing zs bl) (!bl)).length : Int) = 0
  ·simp [h0]
  ·have : 0 < ((attL f r zs (refKing zs bl) (!bl)).length : Int) := by omega
   rw [decide_eq_false h0, decide_eq_true this]; rfl
theorem kings_eq {f r : Int} {zs : List Int} {bl : Bool} (hl : zs.length ≤ 64) : (validBd f r zs && kingsB f r zs bl) = (orthBd f r zs && !decide (refKing zs false < 0) && !decide (refKing zs true < 0) && !chkL f r zs (!bl)) := by
 cases ho : orthBd f r zs with
 | false =>
  have : kingsB f r zs bl = false := by unfold kingsB kingR; rw [ho]; simp
  rw [this]; simp
 | true =>
  have hv := (orth_valid ho).2.2.1
  rw [hv]
  simp only [Bool.true_and]
  have key : ∀ b, decide (refKing zs b < 0) = !decide ((kingR f r zs b).2 = 0) := fun b => by
   rcases king_iff (bl := b) ho hl with ⟨h1, h2⟩ | ⟨h1, h2, _⟩
   ·rw [h2]; simp [h1]
   ·rw [h1]; have := (valid_lt h2).1; simp; omega
  rw [key, key]
  unfold kingsB
  have hch : ∀ b, (checkersR f r zs b).2 = 0 ↔ (kingR f r zs b).2 = 0 := fun b => by
   unfold checkersR
   by_cases h : (kingR f r zs b).2 = 0
   ·simp [h]
   ·simp [h]
  cases hk1 : decide ((kingR f r zs bl).2 = 0) with
  | false => cases bl <;> rw [hk1] <;> simp
  | true =>
   cases hk2 : decide ((kingR f r zs (!bl)).2 = 0) with
   | false =>
    have : decide ((checkersR f r zs (!bl)).2 = 0) = false := by rw [decide_eq_false_iff_not, hch]; exact of_decide_eq_false hk2
    rw [this]
    cases bl <;> simp only [Bool.not_true, Bool.not_false] at hk2 ⊢ <;> rw [hk2] <;> simp
   | true =>
    have h1 : decide ((checkersR f r zs (!bl)).2 = 0) = true := by rw [decide_eq_true_eq, hch]; exact of_decide_eq_true hk2
    rw [h1, chk_eq ho hl (of_decide_eq_true hk2)]
    unfold chkB
    cases bl <;> simp only [Bool.not_true, Bool.not_false] at hk2 ⊢ <;> rw [hk1, hk2] <;> simp
theorem any_getD {zs : List Int} {p : Int → Bool} : zs.any p = true ↔ ∃ i, i < zs.length ∧ p (zs.getD i 0) = true := by
 have := any_drop (zs := zs) (p := p) (k := 0)
 rw [List.drop_zero] at this
 rw [this]; exact ⟨fun ⟨i, _, h⟩ => ⟨i, h⟩, fun ⟨i, h⟩ => ⟨i, by omega, h⟩⟩
theorem any_take {zs : List Int} {p : Int → Bool} {k : Nat} : (zs.take k).any p = true ↔ ∃ i, i < k ∧ i < zs.length ∧ p (zs.getD i 0) = true := by
 rw [any_getD]
 constructor
 ·rintro ⟨i, h1, h2⟩
  rw [List.length_take] at h1
  exact ⟨i, by omega, by omega, by simpa [List.getD, List.getElem?_take, show i < k by omega] using h2⟩
 ·rintro ⟨i, h1, h2, h3⟩
  exact ⟨i, by rw [List.length_take]; omega, by simpa [List.getD, List.getElem?_take, h1] using h3⟩
theorem pawns_eq {f r : Int} {zs : List Int} (h : orthBd f r zs = true) (_hl : zs.length ≤ 64) : pawnsB f zs = !pwAny f r zs := by
 obtain ⟨hv, hn, hbd, hp⟩ := orth_valid h
 have hb := vs_bd hv
 have hpw : ∀ i : Nat, i < zs.length → (pwL f r zs i = true ↔ (zs.getD i 0 = 1 ∧ zs.length - f.toNat ≤ i) ∨ (zs.getD i 0 = -1 ∧ i < f.toNat)) := by
  intro i hi
  have hvi : validB f r (i : Int) = true := (bd_sq hbd).2 ⟨by omega, by omega⟩
  obtain ⟨hd, x0, x1, y0, y1, he, _⟩ := px_bd hvi
  have hpc := piece_bd h (i := (i : Int)) (by omega) (by omega)
  have hl0 : lastR r (decide ((1 : Int) < 0)) = r - 1 := w64_id (by omega) (by omega)
  have hl1 : lastR r (decide ((-1 : Int) < 0)) = 0 := rfl
  have hmul : f * r = (r - 1) * f + f := by rw [Int.sub_mul, Int.mul_comm r f]; omega
  rw [Int.toNat_natCast] at hpc
  unfold pwL
  rw [hd, Int.toNat_natCast, kind_abs hpc]
  simp only [Bool.and_eq_true, decide_eq_true_eq]
  constructor
  ·rintro ⟨h1, h2⟩
   have : zs.getD i 0 = 1 ∨ zs.getD i 0 = -1 := by omega
   rcases this with e | e
   ·left
    rw [e, hl0] at h2
    rw [h2] at he
    exact ⟨e, by omega⟩
   ·right
    rw [e, hl1] at h2
    rw [h2] at he
    exact ⟨e, by omega⟩
  ·rintro (⟨e, h2⟩ | ⟨e, h2⟩)
   ·rw [e, hl0]
    refine ⟨by decide, ?_⟩
    have h5 : ¬ py f i < r - 1 := by
     intro h6
     have : (py f i + 1) * f ≤ (r - 1) * f := Int.mul_le_mul_of_nonneg_right (by omega) (by omega)
     rw [Int.add_mul] at this
     omega
    omega
   ·rw [e, hl1]
    refine ⟨by decide, ?_⟩
    have h5 : ¬ 1 ≤ py f i := by
     intro h6
     have : 1 * f ≤ py f i * f := Int.mul_le_mul_of_nonneg_right h6 (by omega)
     omega
    omega
 have hiff : pwAny f r zs = true ↔ ((zs.drop (zs.length - f.toNat)).any (isV 1) = true ∨ (zs.take f.toNat).any (isV (-1)) = true) := by
  rw [any_drop, any_take]
  unfold pwAny
  rw [List.any_eq_true]
  constructor
  ·rintro ⟨i, hi, hp⟩
   have hi := List.mem_range.1 hi
   rcases (hpw i hi).1 hp with ⟨e, g⟩ | ⟨e, g⟩
   ·left; exact ⟨i, g, hi, by rw [e]; rfl⟩
   ·right; exact ⟨i, g, hi, by rw [e]; rfl⟩
  ·rintro (⟨i, g1, g2, g3⟩ | ⟨i, g1, g2, g3⟩)
   ·simp only [isV, decide_eq_true_eq] at g3
    exact ⟨i, List.mem_range.2 g2, (hpw i g2).2 (.inl ⟨g3.symm, g1⟩)⟩
   ·simp only [isV, decide_eq_true_eq] at g3
    exact ⟨i, List.mem_range.2 g2, (hpw i g2).2 (.inr ⟨g3.symm, g1⟩)⟩
 unfold pawnsB
 cases h1 : (zs.drop (zs.length - f.toNat)).any (isV 1) <;> cases h2 : (zs.take f.toNat).any (isV (-1)) <;> rw [h1, h2] at hiff <;> cases h3 : pwAny f r zs <;> rw [h3] at hiff <;> simp at hiff ⊢
theorem px_up {f r n k : Int} {zs : List Int} (hbd : validBd f r zs = true) (hn : validB f r n = true) (_hk : k = 1 ∨ k = -1) (hb : validB f r (n + k * f) = true) : px f (n + k * f) = px f n ∧ py f (n + k * f) = py f n + k := by
 obtain ⟨_, a1, a2, a3, a4, a5, a6⟩ := px_bd hn
 obtain ⟨_, b1, b2, b3, b4, b5, _⟩ := px_bd hb
 have := hbd
 refine pl_uniq (f := f) (by omega) b1 b2 a1 a2 ?_
 rw [b5, Int.add_mul]; omega
theorem pass_eq {f r : Int} {zs : List Int} {bl : Bool} {pa ha : Int} (hbd : validBd f r zs = true) : pasL f r zs bl pa ha = passB f r zs bl pa ha := by
 unfold pasL passB
 cases h1 : decide (pa = -1) with
 | true => rfl
 | false =>
  rw [cond_false, Bool.false_or]
  by_cases h2 : 6 ≤ r
  ·have e2 : decide (r < 6) = false := by simp; omega
   rw [e2, decide_eq_true h2]
   cases h3 : decide (ha = 0) with
   | false => simp
   | true =>
    cases h4 : validB f r pa with
    | false => simp
    | true =>
     have hv := (bd_valid hbd).1
     have hb := vs_bd hv
     obtain ⟨hd, x0, x1, y0, y1, he, _⟩ := px_bd h4
     have hm : pa.tmod f = px f pa := rfl
     have hr2 : rankR r (!bl) 2 = (bif bl then 1 else r - 2) := by
      unfold rankR; cases bl
      ·exact w64_id (by omega) (by omega)
      ·rfl
     have hr4 : rankR r (!bl) 4 = (bif bl then 3 else r - 4) := by
      unfold rankR; cases bl
      ·exact w64_id (by omega) (by omega)
      ·rfl
     have hk : decide (IntKind.i64.wrap (2 * IntKind.i64.wrap (pa.tdiv f)) = IntKind.i64.wrap (rankR r (!bl) 2 + rankR r (!bl) 4)) = decide (IntKind.i64.wrap (pa.tdiv f) = rkP r bl) := by
      rw [hd, hr2, hr4, decide_eq_decide]
      rw [w64_id (n := 2 * py f pa) (by omega) (by omega)]
      unfold rkP
      cases bl
      ·simp only [cond_false]
       rw [w64_id (by omega) (by omega), w64_id (by omega) (by omega)]; omega
      ·simp only [cond_true]
       rw [w64_id (by omega) (by omega)]; omega
     rw [hk]
     cases h5 : decide (IntKind.i64.wrap (pa.tdiv f) = rkP r bl) with
     | false => simp
     | true =>
      obtain ⟨n1, n2, n3, n4, n5, n6, n7⟩ := pass_near (bl := bl) hbd h2 h4 (of_decide_eq_true h5)
      have hlt := (bd_sq hbd).1 h4
      have hm1 : validB f r (pa + -1 * f) = true := (bd_sq hbd).2 ⟨by omega, by omega⟩
      have hp1 : validB f r (pa + 1 * f) = true := (bd_sq hbd).2 ⟨by omega, by omega⟩
      have hy : py f pa = (bif bl then 2 else r - 3) := by
       have := of_decide_eq_true h5
       rw [hd] at this
       rw [this]; unfold rkP; cases bl
       ·exact w64_id (by omega) (by omega)
       ·rfl
      have hnum : ∀ {k R : Int}, (k = 1 ∨ k = -1) → R = py f pa + k → validB f r (pa + k * f) = true → numR f r (pa.tmod f) R = pa + k * f := by
       intro k R hk hR hvk
       obtain ⟨p1, p2⟩ := px_up hbd h4 hk hvk
       have ho : onB f r (pa.tmod f) R = true := by
        obtain ⟨_, _, _, q3, q4, _⟩ := px_bd hvk
        rw [p2, ← hR] at q3 q4
        exact on_mk (by rw [hm]; exact x0) (by rw [hm]; exact x1) q3 q4
       exact (num_iff hv ho hvk).2 ⟨by rw [p1, hm], by rw [p2, hR]⟩
      have hpc : pieceR 1 (!bl) = ofP 1 (!bl) := rfl
      rw [hr2, hr4, hpc]
      cases bl
      ·simp only [cond_false] at hy ⊢
       have q1 := hnum (k := 1) (R := r - 2) (.inl rfl) (by omega) hp1
       have q2 := hnum (k := -1) (R := r - 4) (.inr rfl) (by omega) hm1
       simp only [q1, q2, upP, cond_false, n5, n6, n7]
       have z1 : pa + 1 * f = pa + f := by omega
       have z2 : pa + -1 * f = pa - f := by omega
       simp only [z1, z2]
       simp [Bool.and_assoc]
      ·simp only [cond_true] at hy ⊢
       have q1 := hnum (k := -1) (R := 1) (.inr rfl) (by omega) hm1
       have q2 := hnum (k := 1) (R := 3) (.inl rfl) (by omega) hp1
       simp only [q1, q2, upP, cond_true, n3, n4]
       have z1 : pa + 1 * f = pa + f := by omega
       have z2 : pa + -1 * f = pa - f := by omega
       simp only [z1, z2]
       simp [Bool.and_assoc]
  ·have e2 : decide (r < 6) = true := by simp; omega
   rw [e2, decide_eq_false h2]; simp
theorem psn_valid {p : Psn} (hl : p.zs.length ≤ 64) (hca : 0 ≤ p.ca) : validL p = p.ok := by
 have hk := kings_eq (f := p.f) (r := p.r) (bl := p.bl) hl
 unfold validL Psn.ok
 cases ho : orthBd p.f p.r p.zs with
 | false =>
  rw [ho] at hk
  rw [hk]; simp
 | true =>
  rw [ho] at hk
  rw [hk, pawns_eq ho hl, cast_eq hca, pass_eq (orth_valid ho).2.2.1]
  cases decide (refKing p.zs false < 0) <;> cases decide (refKing p.zs true < 0) <;> cases chkL p.f p.r p.zs (!p.bl) <;> cases pwAny p.f p.r p.zs <;> simp [cntB, Bool.and_assoc]
end Go.Ab

set_option maxRecDepth 100000
namespace Go.Ab
open Go.Proofs
theorem betw_bt {f r : Int} {x K : Int} (hx : validB f r x = true) (hK : validB f r K = true) (hl : (lineR f x K).2.2 = true) : Uk (betwR f r x K).1 ∧ ∀ m : Nat, bt (betwR f r x K).1 m = decide ((m : Int) ∈ betwL f r x K) := by
 rw [(betw_set hx hK hl).2]
 obtain ⟨h1, h2⟩ := ofL_bt (betwL f r x K) 0 (fun y hy => ⟨(valid_lt ((betwL_bd hx).2 y hy)).1, (valid_lt ((betwL_bd hx).2 y hy)).2.2⟩) uk_0
 exact ⟨h1, fun m => by rw [h2, bt_0, Bool.false_or]⟩
theorem orth_set {f r : Int} {zs : List Int} {j v : Int} (h : orthBd f r zs = true) (hv : -6 ≤ v ∧ v ≤ 6) : orthBd f r (zs.set j.toNat v) = true := by
 simp only [orthBd, validBd, Bool.and_eq_true, Bool.not_eq_true', List.any_eq_false] at h ⊢
 rw [List.length_set]
 refine ⟨⟨h.1.1, fun p hp => ?_⟩, fun p hp => ?_⟩
 ·rcases List.mem_or_eq_of_mem_set hp with hp | rfl
  ·exact h.1.2 p hp
  ·simp [badP, okP]; omega
 ·rcases List.mem_or_eq_of_mem_set hp with hp | rfl
  ·exact h.2 p hp
  ·simp [norP, orP]; omega
end Go.Ab

set_option maxRecDepth 100000
namespace Go.Ab
open Go.Proofs
theorem w8_in {n : Int} (h1 : -128 ≤ n) (h2 : n ≤ 127) : w8 n = n := by
 show IntKind.wrap .i8 n = n
 unfold IntKind.wrap IntKind.bits IntKind.signed
 simp only [Bool.true_and, decide_eq_true_eq]
 split <;> omega
theorem abs_kind {f r : Int} {zs : List Int} (h : orthBd f r zs = true) {i : Int} (h0 : 0 ≤ i) (h1 : i < zs.length) : absP (zs.getD i.toNat 0) = kind8 (zs.getD i.toNat 0) := by
 have hp := piece_bd h h0 h1
 have hw : w8 (0 - zs.getD i.toNat 0) = 0 - zs.getD i.toNat 0 := w8_in (by omega) (by omega)
 rw [kind_abs hp]
 unfold absP imax
 rw [hw]
 by_cases hn : zs.getD i.toNat 0 < 0 - zs.getD i.toNat 0
 ·simp only [hn, decide_true, cond_true]; omega
 ·simp only [hn, decide_false, cond_false]; omega
theorem kinds_of {f r : Int} {zs : List Int} {bl : Bool} (h : orthBd f r zs = true) {i : Int} (h0 : 0 ≤ i) (h1 : i < zs.length) (hp : isP (zs.getD i.toNat 0) bl = true) (hk : ¬ kind8 (zs.getD i.toNat 0) = 1) : kinds5 (kind8 (zs.getD i.toNat 0)) := by
 have hb := piece_bd h h0 h1
 have hz := isP_nz hp
 rw [kind_abs hb] at hk ⊢
 unfold kinds5
 omega
theorem goes_eq {f r : Int} {zs : List Int} {bl : Bool} {_ca pa a b pr : Int} (h : orthBd f r zs = true) (hl : zs.length ≤ 64) (ha : validB f r a = true) (hb : validB f r b = true) (hp : isP (zs.getD a.toNat 0) bl = true) :
  goesB f r zs bl pa a b pr = bif decide (kind8 (zs.getD a.toNat 0) = 1) then pnL f r zs bl pa a b pr else decide (pr = 0) && reachesB f r (kind8 (zs.getD a.toNat 0)) a b (occL zs) := by
 have hbd := (orth_valid h).2.2.1
 obtain ⟨ha0, ha1⟩ := (bd_sq hbd).1 ha
 obtain ⟨hb0, hb1⟩ := (bd_sq hbd).1 hb
 have hb64 : b < 64 := by omega
 obtain ⟨hou, _⟩ := occ_bt hbd hl
 have hray : rayOn f r a (occR f r zs) = true := (rayOn_iff hou).2 ⟨ha, occ_on h hl⟩
 unfold goesB
 rw [abs_kind h ha0 ha1, occ_eq hbd hl]
 cases hk : decide (kind8 (zs.getD a.toNat 0) = 1) with
 | false =>
  obtain ⟨r1, _, r3⟩ := reach_bt hray hou (kinds_of h ha0 ha1 hp (of_decide_eq_false hk))
  simp only [Bool.not_false, cond_true, cond_false]
  have r1 : Uk (reachR f r (kind8 (zs.getD a.toNat 0)) a (occR f r zs)).1 := r1
  rw [bit_of r1 hb0 hb64]
  congr 1
  exact r3 b hb
 | true =>
  simp only [Bool.not_true, cond_true, cond_false]
  obtain ⟨_, s1, _, s2⟩ := steps_bt (bl := bl) hray hou
  obtain ⟨_, p1, _, p2⟩ := pawn_bt (bl := bl) ha
  have hu : Uk (bif decide (zs.getD b.toNat 0 = 0) && !decide (b = pa) then 0 else (pawnR f r bl a).1) := by
   cases (decide (zs.getD b.toNat 0 = 0) && !decide (b = pa))
   ·exact p1
   ·exact uk_0
  rw [bit_of (uk_or _ _) hb0 hb64, bt_or s1 hu, s2 b hb]
  have hpb : bt (bif decide (zs.getD b.toNat 0 = 0) && !decide (b = pa) then 0 else (pawnR f r bl a).1) b.toNat = (pawnC f bl a b && (!decide (zs.getD b.toNat 0 = 0) || decide (b = pa))) := by
   cases h1 : decide (zs.getD b.toNat 0 = 0) <;> cases h2 : decide (b = pa) <;> simp [p2 b hb, bt_0]
  rw [hpb]
  have hv := (bd_valid hbd).1
  have hin : ∀ c : Int → Bool, hasL b (filtB c id (f * r).toNat) = c b := fun c => by
   rw [Bool.eq_iff_iff, has_mem, mem_filtB]
   have := valid_lt hb
   exact ⟨fun h => h.2.2, fun h => ⟨hb0, by omega, h⟩⟩
  unfold pnL
  rw [hin, hin, occ_eq hbd hl]
  have hlast : lastP r bl = lastR r bl := rfl
  rw [hlast]
  cases decide (IntKind.i64.wrap (b.tdiv f) = lastR r bl) <;> cases decide (pr = 0) <;> cases stepsB f r bl a (occR f r zs) b <;> cases pawnC f bl a b <;> simp
theorem empty_eq {zs : List Int} {x K : Int} (hbd : validBd 8 8 zs = true) (hl : zs.length ≤ 64) (hx : validB 8 8 x = true) (hK : validB 8 8 K = true) (hln : (lineR 8 x K).2.2 = true) : emptyB zs (betwL 8 8 x K) = decide (uand (betwR 8 8 x K).1 (occR 8 8 zs) = 0) := by
 obtain ⟨bu, bb⟩ := betw_bt hx hK hln
 obtain ⟨ou, ob⟩ := occ_bt hbd hl
 have h64 := bd_88 hbd rfl
 rw [Bool.eq_iff_iff, decide_eq_true_eq, uk_eq_0 (uk_and _ _)]
 unfold emptyB
 rw [List.all_eq_true]
 constructor
 ·intro h n hn
  rw [bt_and bu ou, bb, ob]
  by_cases hm : (n : Int) ∈ betwL 8 8 x K
  ·have := of_decide_eq_true (h _ hm)
   rw [Int.toNat_natCast] at this
   rw [this]; simp
  ·simp [hm]
 ·intro h i hi
  have hb : 0 ≤ i ∧ i < 64 := by
   have hv : validB 8 8 i = true := by
    unfold betwL at hi
    cases hh : hasL K (betwZ 8 8 x K) with
    | true => rw [hh] at hi; exact ray_valid hx (List.mem_of_mem_take hi)
    | false => rw [hh] at hi; simp at hi
   exact ⟨(valid_lt hv).1, (valid_lt hv).2.2⟩
  have := h i.toNat (by omega)
  rw [bt_and bu ou, bb, ob, show ((i.toNat : Nat) : Int) = i by omega] at this
  simp only [hi, decide_true, Bool.true_and, Bool.and_eq_false_iff, decide_eq_false_iff_not, Bool.not_eq_false'] at this
  rcases this with this | this
  ·omega
  ·exact this
theorem sq01 : sqW 1 0 = 4 ∧ sqW 1 1 = 6 ∧ sqW 2 0 = 4 ∧ sqW 2 1 = 2 ∧ sqW 4 0 = 60 ∧ sqW 4 1 = 62 ∧ sqW 8 0 = 60 ∧ sqW 8 1 = 58 := ⟨by kernel_rfl, by kernel_rfl, by kernel_rfl, by kernel_rfl, by kernel_rfl, by kernel_rfl, by kernel_rfl, by kernel_rfl⟩
theorem sk_iff {bl : Bool} {ca a b : Int} {c : Bool} {bit k to : Int} : (!csSkip bl ca a b c bit k to) = true ↔ c = bl ∧ u8and ca bit ≠ 0 ∧ k = a ∧ to = b := by
 unfold csSkip
 cases c <;> cases bl <;> simp [and_assoc]
theorem right_88 {f r : Int} {zs : List Int} {ca bit : Int} {k q : Nat} {c : Bool} (h : rtX f r zs ca bit k q c = false) (hr : u8and ca bit ≠ 0) : f = 8 ∧ r = 8 ∧ zs.getD k 0 = ofP 6 c ∧ zs.getD q 0 = ofP 4 c := by
 unfold rtX at h
 rw [decide_eq_false hr] at h
 simp only [Bool.not_false, Bool.true_and, Bool.or_eq_false_iff, Bool.not_eq_false', is88, Bool.and_eq_true, decide_eq_true_eq] at h
 exact ⟨h.1.1.1, h.1.1.2, h.1.2, h.2⟩
theorem cgS_N {f r : Int} {zs : List Int} {bl : Bool} {ca a b bit k to cor : Int} {c : Bool} (hca : 0 ≤ ca ∧ ca ≤ 15) (hb : bit = 1 ∨ bit = 2 ∨ bit = 4 ∨ bit = 8) (hc : decide (2 < bit) = c) (h0 : sqW bit 0 = k) (h1 : sqW bit 1 = to) (h2 : sqW bit 2 = cor) :
  cgS f r zs bl ca a b bit = (!csSkip bl ca a b c bit k to && emptyB zs (betwL f r k cor)) := by
 unfold cgS csSkip
 rw [bit_eq hca hb, hc, h0, h1, h2]
 have e1 : decide (a = k) = decide (k = a) := by rw [decide_eq_decide]; exact eq_comm
 have e2 : decide (b = to) = decide (to = b) := by rw [decide_eq_decide]; exact eq_comm
 rw [e1, e2]
 cases decide (u8and ca bit = 0) <;> cases c <;> cases bl <;> cases decide (k = a) <;> cases decide (to = b) <;> rfl
theorem way_cg {f r : Int} {zs : List Int} {bl : Bool} {ca a b pr : Int} (h : orthBd f r zs = true) (hl : zs.length ≤ 64) (hcas : castB f r zs ca = true) (hca : 0 ≤ ca) (ha0 : 0 ≤ a) (ha1 : a < zs.length) :
  (!decide (cgL f r zs bl ca a b pr = 0)) = (decide (pr = 0) && wayB f r zs (wayN zs bl ca a b)) ∧
   ((!decide (cgL f r zs bl ca a b pr = 0)) = true → sqW (cgL f r zs bl ca a b pr) 2 = wCor (wayN zs bl ca a b) ∧ sqW (cgL f r zs bl ca a b pr) 3 = wCro (wayN zs bl ca a b) ∧ kind8 (zs.getD a.toNat 0) = 6) := by
 have hbd := (orth_valid h).2.2.1
 simp only [castB, Bool.and_eq_true, Bool.not_eq_true', decide_eq_true_eq] at hcas
 obtain ⟨⟨⟨⟨c1, c2⟩, c3⟩, c4⟩, c5⟩ := hcas
 obtain ⟨q1, q2, q3, q4, q5, q6, q7, q8⟩ := sqs
 obtain ⟨p1, p2, p3, p4, p5, p6, p7, p8⟩ := sq01
 have hx : 0 ≤ ca ∧ ca ≤ 15 := ⟨hca, by omega⟩
 have g1 : cgS f r zs bl ca a b 1 = _ := cgS_N (c := false) hx (.inl rfl) rfl p1 p2 q1
 have g2 : cgS f r zs bl ca a b 2 = _ := cgS_N (c := false) hx (.inr (.inl rfl)) rfl p3 p4 q3
 have g3 : cgS f r zs bl ca a b 4 = _ := cgS_N (c := true) hx (.inr (.inr (.inl rfl))) rfl p5 p6 q5
 have g4 : cgS f r zs bl ca a b 8 = _ := cgS_N (c := true) hx (.inr (.inr (.inr rfl))) rfl p7 p8 q7
 unfold cgL wayN
 rw [abs_kind h ha0 ha1]
 cases hK : decide (kind8 (zs.getD a.toNat 0) = 6) with
 | false => simp [wayB]
 | true =>
  cases hp : decide (pr = 0) with
  | false => simp
  | true =>
   have hk6 := of_decide_eq_true hK
   rw [g1, g2, g3, g4]
   have key : ∀ {bit k to cor : Int} {kn qn : Nat} {c : Bool}, rtX f r zs ca bit kn qn c = false → (!csSkip bl ca a b c bit k to) = true → validB 8 8 k = true → validB 8 8 cor = true → (lineR 8 k cor).2.2 = true →
     emptyB zs (betwL f r k cor) = decide (uand (betwR f r k cor).1 (occR f r zs) = 0) := by
    intro bit k to cor kn qn c hr hs hk hc hln
    obtain ⟨_, hu, _, _⟩ := sk_iff.1 hs
    obtain ⟨rfl, rfl, _⟩ := right_88 hr hu
    exact empty_eq hbd hl hk hc hln
   cases n1 : (!csSkip bl ca a b false 1 4 6) with
   | true =>
    obtain ⟨rfl, _, rfl, rfl⟩ := sk_iff.1 n1
    have k1 := key c1 n1 (cor := 7) (by decide) (by decide) (by decide)
    have n2 : (!csSkip false ca 4 6 false 2 4 2) = false := by rw [Bool.eq_false_iff]; exact fun hh => by have := (sk_iff.1 hh).2.2.2; omega
    have n3 : (!csSkip false ca 4 6 true 4 60 62) = false := by rw [Bool.eq_false_iff]; exact fun hh => by have := (sk_iff.1 hh).1; cases this
    have n4 : (!csSkip false ca 4 6 true 8 60 58) = false := by rw [Bool.eq_false_iff]; exact fun hh => by have := (sk_iff.1 hh).1; cases this
    rw [n2, n3, n4, k1]
    have hw : wayB f r zs 0 = decide (uand (betwR f r 4 7).1 (occR f r zs) = 0) := rfl
    simp only [Bool.not_true, Bool.or_self, cond_false, cond_true, Bool.true_and, Bool.false_and, hw]
    cases decide (uand (betwR f r 4 7).1 (occR f r zs) = 0)
    ·simp
    ·exact ⟨rfl, fun _ => ⟨q1, q2, hk6⟩⟩
   | false =>
    cases n2 : (!csSkip bl ca a b false 2 4 2) with
    | true =>
     obtain ⟨rfl, _, rfl, rfl⟩ := sk_iff.1 n2
     have k1 := key c2 n2 (cor := 0) (by decide) (by decide) (by decide)
     have n3 : (!csSkip false ca 4 2 true 4 60 62) = false := by rw [Bool.eq_false_iff]; exact fun hh => by have := (sk_iff.1 hh).1; cases this
     have n4 : (!csSkip false ca 4 2 true 8 60 58) = false := by rw [Bool.eq_false_iff]; exact fun hh => by have := (sk_iff.1 hh).1; cases this
     rw [n3, n4, k1]
     have hw : wayB f r zs 1 = decide (uand (betwR f r 4 0).1 (occR f r zs) = 0) := rfl
     simp only [Bool.not_true, Bool.or_self, cond_false, cond_true, Bool.true_and, Bool.false_and, hw]
     cases decide (uand (betwR f r 4 0).1 (occR f r zs) = 0)
     ·simp
     ·exact ⟨rfl, fun _ => ⟨q3, q4, hk6⟩⟩
    | false =>
     cases n3 : (!csSkip bl ca a b true 4 60 62) with
     | true =>
      obtain ⟨rfl, _, rfl, rfl⟩ := sk_iff.1 n3
      have k1 := key c3 n3 (cor := 63) (by decide) (by decide) (by decide)
      have n4 : (!csSkip true ca 60 62 true 8 60 58) = false := by rw [Bool.eq_false_iff]; exact fun hh => by have := (sk_iff.1 hh).2.2.2; omega
      rw [n4, k1]
      have hw : wayB f r zs 2 = decide (uand (betwR f r 60 63).1 (occR f r zs) = 0) := rfl
      simp only [Bool.not_true, Bool.or_self, cond_false, cond_true, Bool.true_and, Bool.false_and, hw]
      cases decide (uand (betwR f r 60 63).1 (occR f r zs) = 0)
      ·simp
      ·exact ⟨rfl, fun _ => ⟨q5, q6, hk6⟩⟩
     | false =>
      cases n4 : (!csSkip bl ca a b true 8 60 58) with
      | true =>
       obtain ⟨rfl, _, rfl, rfl⟩ := sk_iff.1 n4
       have k1 := key c4 n4 (cor := 56) (by decide) (by decide) (by decide)
       rw [k1]
       have hw : wayB f r zs 3 = decide (uand (betwR f r 60 56).1 (occR f r zs) = 0) := rfl
       simp only [Bool.not_true, Bool.or_self, cond_false, cond_true, Bool.true_and, Bool.false_and, hw]
       cases decide (uand (betwR f r 60 56).1 (occR f r zs) = 0)
       ·simp
       ·exact ⟨rfl, fun _ => ⟨q7, q8, hk6⟩⟩
      | false => simp [wayB]
theorem so_eq {p : Psn} {m : Mov} (h : orthBd p.f p.r p.zs = true) (hl : p.zs.length ≤ 64) (hcas : castB p.f p.r p.zs p.ca = true) (hca : 0 ≤ p.ca) (ha : validB p.f p.r m.a = true) (hb : validB p.f p.r m.b = true) (hp : isP (p.zs.getD m.a.toNat 0) p.bl = true) :
  soL p.f p.r p.zs p.bl p.ca p.pa m.a m.b m.p = !err3 p m := by
 have hbd := (orth_valid h).2.2.1
 obtain ⟨ha0, ha1⟩ := (bd_sq hbd).1 ha
 unfold soL err3
 rw [own_is, goes_eq (_ca := p.ca) h hl ha hb hp]
 cases isP (p.zs.getD m.b.toNat 0) p.bl with
 | true => rfl
 | false =>
  obtain ⟨w1, _⟩ := way_cg (bl := p.bl) (b := m.b) (pr := m.p) h hl hcas hca ha0 ha1
  rw [w1]
  cases hk : decide (kind8 (p.zs.getD m.a.toNat 0) = 1) with
  | true =>
   have : wayN p.zs p.bl p.ca m.a m.b = 4 := by
    unfold wayN
    rw [abs_kind h ha0 ha1, of_decide_eq_true hk]; rfl
   rw [this]
   simp [wayB]
  | false =>
   cases decide (m.p = 0) <;> cases wayB p.f p.r p.zs (wayN p.zs p.bl p.ca m.a m.b) <;> simp
end Go.Ab

set_option maxRecDepth 100000
namespace Go.Ab
open Go.Proofs
theorem pc_w {f r a b : Int} (ha : validB f r a = true) (hb : validB f r b = true) : IntKind.i64.wrap (IntKind.i64.wrap (b.tdiv f) - IntKind.i64.wrap (a.tdiv f)) = py f b - py f a := (diff_w ha hb).2
theorem own_pass {n : Int} {bl : Bool} (h : isP n bl = true) (h2 : n = ofP 1 (!bl)) : False := by
 subst h2
 cases bl <;> revert h <;> decide
theorem isP_other {n : Int} {bl : Bool} (hz : n ≠ 0) (h : isP n bl = false) : isP n (!bl) = true := by
 unfold isP at h ⊢
 rcases Int.lt_or_gt_of_ne hz with h3 | h3
 ·have h4 : ¬ 0 < n := by omega
  cases bl <;> simp [h3, h4] at h ⊢
 ·have h4 : ¬ n < 0 := by omega
  cases bl <;> simp [h3, h4] at h ⊢ <;> omega
structure MvOk (p : Psn) (m : Mov) : Prop where
 h : orthBd p.f p.r p.zs = true
 hl : p.zs.length ≤ 64
 ok : p.ok = true
 ca : 0 ≤ p.ca
 ha : validB p.f p.r m.a = true
 hb : validB p.f p.r m.b = true
 hab : m.a ≠ m.b
 hpr : m.p = 0 ∨ (2 ≤ m.p ∧ m.p ≤ 5)
 hp : isP (p.zs.getD m.a.toNat 0) p.bl = true
 so : err3 p m = false
section
variable {p : Psn} {m : Mov}
theorem MvOk.bd (o : MvOk p m) : validBd p.f p.r p.zs = true := (orth_valid o.h).2.2.1
theorem MvOk.cast (o : MvOk p m) : castB p.f p.r p.zs p.ca = true := by have := o.ok; simp only [Psn.ok, Bool.and_eq_true] at this; exact this.1.1.2
theorem MvOk.pass (o : MvOk p m) : passB p.f p.r p.zs p.bl p.pa p.ha = true := by have := o.ok; simp only [Psn.ok, Bool.and_eq_true] at this; exact this.1.2
theorem MvOk.kings (o : MvOk p m) : kingsB p.f p.r p.zs p.bl = true := by have := o.ok; simp only [Psn.ok, Bool.and_eq_true] at this; exact this.1.1.1.1.2
theorem MvOk.nto (o : MvOk p m) : isP (p.zs.getD m.b.toNat 0) p.bl = false := by have := o.so; simp only [err3, Bool.or_eq_false_iff] at this; exact this.1
theorem MvOk.sq (o : MvOk p m) : (0 ≤ m.a ∧ m.a < p.zs.length) ∧ (0 ≤ m.b ∧ m.b < p.zs.length) := ⟨(bd_sq o.bd).1 o.ha, (bd_sq o.bd).1 o.hb⟩
theorem MvOk.kd (o : MvOk p m) : absP (p.zs.getD m.a.toNat 0) = kind8 (p.zs.getD m.a.toNat 0) := abs_kind o.h o.sq.1.1 o.sq.1.2
theorem MvOk.pawn (o : MvOk p m) (hk : kind8 (p.zs.getD m.a.toNat 0) = 1) : pnL p.f p.r p.zs p.bl p.pa m.a m.b m.p = true := by
 have := o.so
 have hw : wayN p.zs p.bl p.ca m.a m.b = 4 := by unfold wayN; rw [o.kd, hk]; rfl
 simp only [err3, hw, Bool.or_eq_false_iff] at this
 have hg := goes_eq (bl := p.bl) (_ca := p.ca) (pa := p.pa) (pr := m.p) o.h o.hl o.ha o.hb o.hp
 rw [hk] at hg
 rw [hg] at this
 simp only [decide_true, cond_true] at this
 have h2 := this.2
 cases hpn : pnL p.f p.r p.zs p.bl p.pa m.a m.b m.p with
 | true => rfl
 | false => rw [hpn] at h2; simp [wayB] at h2
theorem MvOk.steps (o : MvOk p m) (hk : kind8 (p.zs.getD m.a.toNat 0) = 1) :
  (stepsB p.f p.r p.bl m.a (occR p.f p.r p.zs) m.b = true ∨ (pawnC p.f p.bl m.a m.b = true ∧ (p.zs.getD m.b.toNat 0 ≠ 0 ∨ m.b = p.pa))) ∧ (m.p ≠ 0 ↔ py p.f m.b = lastR p.r p.bl) := by
 have h := o.pawn hk
 have hin : ∀ c : Int → Bool, hasL m.b (filtB c id (p.f * p.r).toNat) = c m.b := fun c => by
  rw [Bool.eq_iff_iff, has_mem, mem_filtB]
  have := valid_lt o.hb
  exact ⟨fun h => h.2.2, fun h => ⟨this.1, by omega, h⟩⟩
 unfold pnL at h
 rw [hin, hin, occ_eq o.bd o.hl] at h
 rw [(px_bd o.hb).1] at h
 cases h1 : (!(decide (py p.f m.b = lastR p.r p.bl) == !decide (m.p = 0))) with
 | true => rw [h1] at h; cases h
 | false =>
  rw [h1, cond_false] at h
  refine ⟨?_, ?_⟩
  ·cases h2 : stepsB p.f p.r p.bl m.a (occR p.f p.r p.zs) m.b with
   | true => exact .inl rfl
   | false =>
    rw [h2, cond_false, Bool.and_eq_true, Bool.or_eq_true, decide_eq_true_eq, Bool.not_eq_true', decide_eq_false_iff_not] at h
    exact .inr h
  ·by_cases h3 : py p.f m.b = lastR p.r p.bl <;> by_cases h4 : m.p = 0 <;> simp [h3, h4] at h1 ⊢
theorem fwd_2 (bl : Bool) : IntKind.i64.wrap (2 * fwd bl) = 2 * fwd bl := by cases bl <;> decide
theorem step_sq {f r a b : Int} {bl : Bool} {occ : Int} (ha : validB f r a = true) (hb : validB f r b = true) (h : stepsB f r bl a occ b = true) :
  px f b = px f a ∧ ((py f b = py f a + fwd bl) ∨ (py f b = py f a + 2 * fwd bl ∧ py f a = secR r bl ∧ 6 ≤ r ∧ validB f r (b - fwd bl * f) = true ∧ hasB occ (b - fwd bl * f) = false)) := by
 have hv := (valid_vs ha)
 obtain ⟨a0, a1, a2, a3, a4, a5, a6⟩ := px_bd ha
 obtain ⟨_, b1, b2, b3, b4, b5, _⟩ := px_bd hb
 have hfw : fwd bl = 1 ∨ fwd bl = -1 := by cases bl <;> simp [fwd]
 have hone : one4 f r bl a = numR f r (px f a) (py f a + fwd bl) := by unfold one4; rw [a0, w64_id (by omega) (by omega)]
 have htwo : two4 f r bl a = numR f r (px f a) (py f a + 2 * fwd bl) := by unfold two4; rw [a0, fwd_2, w64_id (by omega) (by omega)]
 simp only [stepsB, Bool.or_eq_true, Bool.and_eq_true, decide_eq_true_eq, Bool.not_eq_true'] at h
 rw [hone, htwo, a0] at h
 have hbn : ∀ {X Y : Int}, b = numR f r X Y → px f b = X ∧ py f b = Y := by
  intro X Y e
  rcases num_cases f r X Y hv with ⟨ho, _⟩ | ⟨_, hn⟩
  ·exact (num_iff hv ho hb).1 e.symm
  ·have := (valid_lt hb).1; omega
 rcases h with ⟨h1, _⟩ | ⟨⟨⟨⟨h1, h2⟩, h3⟩, h4⟩, _⟩
 ·obtain ⟨e1, e2⟩ := hbn h1
  exact ⟨e1, .inl e2⟩
 ·obtain ⟨e1, e2⟩ := hbn h1
  refine ⟨e1, .inr ⟨e2, h3, h2, ?_⟩⟩
  have ho : onB f r (px f a) (py f a + fwd bl) = true := on_mk a1 a2 (by omega) (by omega)
  obtain ⟨v1, v2, v3⟩ := on_valid hv ho
  have heq : px f a + (py f a + fwd bl) * f = b - fwd bl * f := by
   rw [← b5, e1, e2]
   rw [Int.add_mul, Int.add_mul, Int.mul_assoc]; omega
  rw [heq] at v1 v2 v3
  exact ⟨v1, by rw [← (num_iff hv ho v1).2 ⟨v2, v3⟩]; exact h4⟩
theorem MvOk.ep (o : MvOk p m) (hk : kind8 (p.zs.getD m.a.toNat 0) = 1) (hb : m.b = p.pa) :
  at1R p.f p.zs p.pa m.a m.b = m.b - fwd p.bl * p.f ∧ validB p.f p.r (m.b - fwd p.bl * p.f) = true ∧ p.zs.getD (m.b - fwd p.bl * p.f).toNat 0 = ofP 1 (!p.bl) ∧ numR p.f p.r (m.b.tmod p.f) (IntKind.i64.wrap (m.a.tdiv p.f)) = m.b - fwd p.bl * p.f ∧ p.zs.getD m.b.toNat 0 = 0 ∧ pawnC p.f p.bl m.a m.b = true := by
 have hbd := o.bd
 have hv := (bd_valid hbd).1
 obtain ⟨a0, a1, a2, a3, a4, a5, a6⟩ := px_bd o.ha
 obtain ⟨b0, b1, b2, b3, b4, b5, _⟩ := px_bd o.hb
 have hps := o.pass
 have hb0 := (valid_lt o.hb).1
 simp only [passB, Bool.or_eq_true, Bool.and_eq_true, decide_eq_true_eq, ← hb] at hps
 rcases hps with hps | ⟨⟨⟨⟨⟨⟨p1, p2⟩, p3⟩, p4⟩, p5⟩, p6⟩, p7⟩
 ·omega
 obtain ⟨n1, n2, n3, n4, n5, n6, n7⟩ := pass_near (bl := p.bl) hbd p1 o.hb p4
 have hfw : fwd p.bl = 1 ∨ fwd p.bl = -1 := by cases p.bl <;> simp [fwd]
 have hup : IntKind.i64.wrap (m.b + upP p.f p.bl) = m.b - fwd p.bl * p.f := by
  cases hbl : p.bl
  ·simp only [upP, fwd, cond_false, n5, n7]; omega
  ·simp only [upP, fwd, cond_true, n4]; omega
 rw [hup] at p7
 have hvd : validB p.f p.r (m.b - fwd p.bl * p.f) = true := by
  refine (bd_sq hbd).2 ?_
  rcases hfw with e | e <;> rw [e] <;> constructor <;> omega
 have hat : pawnC p.f p.bl m.a m.b = true := by
  rcases (o.steps hk).1 with h | h
  ·exfalso
   obtain ⟨e1, h2⟩ := step_sq o.ha o.hb h
   rcases h2 with e2 | ⟨_, _, _, _, h5⟩
   ·have : m.b - fwd p.bl * p.f = m.a := by rw [← b5, ← a5, e1, e2, Int.add_mul]; omega
    rw [this] at p7
    exact own_pass o.hp p7
   ·obtain ⟨hou, hob⟩ := occ_bt hbd o.hl
    rw [has_bt' hou hvd, hob, p7] at h5
    have hlt := (bd_sq hbd).1 hvd
    rw [decide_eq_true (show (m.b - fwd p.bl * p.f).toNat < p.zs.length by omega), decide_eq_false (show ¬ ofP 1 (!p.bl) = 0 by cases p.bl <;> decide)] at h5
    cases h5
  ·exact h.1
 have hpy : py p.f m.b = py p.f m.a + fwd p.bl := by
  have := hat
  simp only [pawnC, Bool.and_eq_true, decide_eq_true_eq] at this
  rw [pc_w o.ha o.hb] at this
  omega
 have hsq : px p.f m.b + py p.f m.a * p.f = m.b - fwd p.bl * p.f := by
  have : py p.f m.b * p.f = py p.f m.a * p.f + fwd p.bl * p.f := by rw [hpy, Int.add_mul]
  omega
 have hlt := (valid_lt hvd)
 refine ⟨?_, hvd, p7, ?_, p5, hat⟩
 ·have hepB : epB p.zs p.pa m.a m.b = true := by simp only [epB, o.kd, hk, hb, decide_true, Bool.and_self]
  unfold at1R
  rw [hepB, cond_true]
  have e1 : m.a.tmod p.f = px p.f m.a := rfl
  have e2 : m.b.tmod p.f = px p.f m.b := rfl
  rw [e1, e2]
  have hla := valid_lt o.ha
  rw [w64_id (n := m.a - px p.f m.a) (by omega) (by omega)]
  rw [show m.a - px p.f m.a + px p.f m.b = m.b - fwd p.bl * p.f by omega, w64_id (by omega) (by omega)]
 ·rw [a0]
  have ho : onB p.f p.r (px p.f m.b) (py p.f m.a) = true := on_mk b1 b2 a3 a4
  obtain ⟨v1, v2, v3⟩ := on_valid hv ho
  rw [hsq] at v1 v2 v3
  exact (num_iff hv ho v1).2 ⟨v2, v3⟩
theorem MvOk.cap (o : MvOk p m) : capL p.f p.r p.zs p.pa m.a m.b = at2R p.f p.zs p.pa m.a m.b ∧ (0 ≤ at2R p.f p.zs p.pa m.a m.b → at2R p.f p.zs p.pa m.a m.b < p.zs.length ∧ isP (p.zs.getD (at2R p.f p.zs p.pa m.a m.b).toNat 0) (!p.bl) = true ∧ at2R p.f p.zs p.pa m.a m.b ≠ m.a ∧ at2R p.f p.zs p.pa m.a m.b = at1R p.f p.zs p.pa m.a m.b) ∧
  (at2R p.f p.zs p.pa m.a m.b < 0 → at2R p.f p.zs p.pa m.a m.b = -1 ∧ capR p.f p.zs p.pa m.a m.b = 0 ∧ p.zs.getD m.b.toNat 0 = 0) ∧ (0 ≤ at2R p.f p.zs p.pa m.a m.b → capR p.f p.zs p.pa m.a m.b ≠ 0) := by
 have ⟨⟨sa0, sa1⟩, ⟨sb0, sb1⟩⟩ := o.sq
 cases hep : (decide (kind8 (p.zs.getD m.a.toNat 0) = 1) && decide (m.b = p.pa)) with
 | true =>
  simp only [Bool.and_eq_true, decide_eq_true_eq] at hep
  obtain ⟨e1, e2, e3, e4, e5, e6⟩ := o.ep hep.1 hep.2
  have hc : capR p.f p.zs p.pa m.a m.b = ofP 1 (!p.bl) := by unfold capR; rw [e1, e3]
  have hnz : ofP 1 (!p.bl) ≠ 0 := by cases p.bl <;> decide
  have h2 : at2R p.f p.zs p.pa m.a m.b = m.b - fwd p.bl * p.f := by unfold at2R; rw [hc, decide_eq_false hnz, cond_false, e1]
  have hcl : capL p.f p.r p.zs p.pa m.a m.b = m.b - fwd p.bl * p.f := by unfold capL; rw [decide_eq_true hep.1, decide_eq_true hep.2]; exact e4
  have hlt := (bd_sq o.bd).1 e2
  refine ⟨by rw [hcl, h2], fun _ => ⟨by rw [h2]; exact hlt.2, ?_, ?_, by rw [h2, e1]⟩, fun hh => (by rw [h2] at hh; omega), fun _ => by rw [hc]; exact hnz⟩
  ·rw [h2, e3]; cases p.bl <;> decide
  ·rw [h2]
   intro he
   rw [he] at e3
   exact own_pass o.hp e3
 | false =>
  have hepB : epB p.zs p.pa m.a m.b = false := by unfold epB; rw [o.kd]; exact hep
  have h1 : at1R p.f p.zs p.pa m.a m.b = m.b := by unfold at1R; rw [hepB]; rfl
  have hc : capR p.f p.zs p.pa m.a m.b = p.zs.getD m.b.toNat 0 := by unfold capR; rw [h1]
  unfold capL at2R
  rw [hep, hc, h1, cond_false]
  by_cases hz : p.zs.getD m.b.toNat 0 = 0
  ·simp only [decide_eq_true hz, Bool.not_true, cond_true, cond_false]
   exact ⟨trivial, fun hh => absurd hh (by decide), fun _ => ⟨trivial, hz, hz⟩, fun hh => absurd hh (by decide)⟩
  ·simp only [decide_eq_false hz, Bool.not_false, cond_true, cond_false]
   have h5 := isP_other hz o.nto
   exact ⟨trivial, fun _ => ⟨sb1, h5, fun e => o.hab e.symm, trivial⟩, fun hh => absurd hh (by omega), fun _ => hz⟩
end
end Go.Ab

set_option maxRecDepth 100000
namespace Go.Ab
open Go.Proofs
theorem king_one {f r : Int} {z : List Int} {bl : Bool} {K : Nat} (h : orthBd f r z = true) (hl : z.length ≤ 64) (hK : K < z.length) (h1 : z.getD K 0 = kgP bl) (hu : ∀ i : Nat, i < z.length → z.getD i 0 = kgP bl → i = K) : (kingR f r z bl).2 = 0 ∧ refKing z bl = (K : Int) := by
 have hone : listL z (kgP bl) = [(K : Int)] := filt_one (by simp only [listC, Int.toNat_natCast, h1, decide_true]) _ hK fun i hi hc => hu i hi (by simpa [listC] using hc)
 have hrk : refKing z bl = (K : Int) := by
  unfold refKing
  rw [kg_eq, hone]; rfl
 rcases king_iff (bl := bl) h hl with ⟨h2, _⟩ | ⟨h2, _, _⟩
 ·omega
 ·exact ⟨by rw [h2], hrk⟩
theorem king_uniq {f r : Int} {zs : List Int} {bl : Bool} (h : orthBd f r zs = true) (hl : zs.length ≤ 64) (hk : (kingR f r zs bl).2 = 0) : ∃ K : Nat, K < zs.length ∧ zs.getD K 0 = kgP bl ∧ refKing zs bl = (K : Int) ∧ ∀ i : Nat, i < zs.length → zs.getD i 0 = kgP bl → i = K := by
 rcases king_ref zs bl hl with ⟨h1, _⟩ | ⟨h1, h2, h3, h4, h5, h6⟩
 ·unfold kingR at hk; rw [h, h1] at hk; cases hk
 ·refine ⟨(kingI zs bl).toNat, by omega, h5, by omega, fun i hi he => ?_⟩
  have := h6 i hi he
  omega
theorem own_kg (bl : Bool) : isP (kgP bl) bl = true := by cases bl <;> decide
theorem reaches_king {f r a b occ : Int} (_ha : validB f r a = true) (_hb : validB f r b = true) (h : reachesB f r 6 a b occ = true) : distR f a b = 1 := by
 unfold reachesB at h
 simpa using h
def WayIs (p : Psn) (m : Mov) (n : Nat) (bl : Bool) (bit k to : Int) : Prop := wayN p.zs p.bl p.ca m.a m.b = n ∧ p.bl = bl ∧ u8and p.ca bit ≠ 0 ∧ m.a = k ∧ m.b = to
theorem way_is {p : Psn} {m : Mov} (hn : wayN p.zs p.bl p.ca m.a m.b ≠ 4) : absP (p.zs.getD m.a.toNat 0) = 6 ∧ (WayIs p m 0 false 1 4 6 ∨ WayIs p m 1 false 2 4 2 ∨ WayIs p m 2 true 4 60 62 ∨ WayIs p m 3 true 8 60 58) := by
 unfold WayIs
 cases hk : decide (absP (p.zs.getD m.a.toNat 0) = 6) with
 | false => exact absurd (by unfold wayN; rw [hk]; rfl) hn
 | true =>
  refine ⟨of_decide_eq_true hk, ?_⟩
  cases n1 : (!csSkip p.bl p.ca m.a m.b false 1 4 6) with
  | true =>
   obtain ⟨e1, e2, e3, e4⟩ := sk_iff.1 n1
   exact .inl ⟨by unfold wayN; rw [hk, n1]; rfl, e1.symm, e2, e3.symm, e4.symm⟩
  | false =>
   cases n2 : (!csSkip p.bl p.ca m.a m.b false 2 4 2) with
   | true =>
    obtain ⟨e1, e2, e3, e4⟩ := sk_iff.1 n2
    exact .inr (.inl ⟨by unfold wayN; rw [hk, n1, n2]; rfl, e1.symm, e2, e3.symm, e4.symm⟩)
   | false =>
    cases n3 : (!csSkip p.bl p.ca m.a m.b true 4 60 62) with
    | true =>
     obtain ⟨e1, e2, e3, e4⟩ := sk_iff.1 n3
     exact .inr (.inr (.inl ⟨by unfold wayN; rw [hk, n1, n2, n3]; rfl, e1.symm, e2, e3.symm, e4.symm⟩))
    | false =>
     cases n4 : (!csSkip p.bl p.ca m.a m.b true 8 60 58) with
     | true =>
      obtain ⟨e1, e2, e3, e4⟩ := sk_iff.1 n4
      exact .inr (.inr (.inr ⟨by unfold wayN; rw [hk, n1, n2, n3, n4]; rfl, e1.symm, e2, e3.symm, e4.symm⟩))
     | false => exact absurd (by unfold wayN; rw [hk, n1, n2, n3, n4]; rfl) hn
section
variable {p : Psn} {m : Mov}
theorem MvOk.kU (o : MvOk p m) : ∃ K : Nat, K < p.zs.length ∧ p.zs.getD K 0 = kgP p.bl ∧ refKing p.zs p.bl = (K : Int) ∧ ∀ i : Nat, i < p.zs.length → p.zs.getD i 0 = kgP p.bl → i = K := by
 have := o.kings
 simp only [kingsB, Bool.and_eq_true, decide_eq_true_eq] at this
 exact king_uniq o.h o.hl this.1.1
theorem MvOk.pr0 (o : MvOk p m) (hk : kind8 (p.zs.getD m.a.toNat 0) ≠ 1) : m.p = 0 := by
 have := o.so
 simp only [err3, Bool.or_eq_false_iff] at this
 have hg := goes_eq (bl := p.bl) (_ca := p.ca) (pa := p.pa) (pr := m.p) o.h o.hl o.ha o.hb o.hp
 rw [decide_eq_false hk, cond_false] at hg
 rw [hg] at this
 by_cases h : m.p = 0
 ·exact h
 ·rw [decide_eq_false h] at this; simp at this
theorem MvOk.wayg (o : MvOk p m) (hn : wayN p.zs p.bl p.ca m.a m.b ≠ 4) : kind8 (p.zs.getD m.a.toNat 0) = 6 ∧ m.p = 0 ∧ goesB p.f p.r p.zs p.bl p.pa m.a m.b m.p = false := by
 obtain ⟨hk6, hsq⟩ := way_is hn
 have hk : kind8 (p.zs.getD m.a.toNat 0) = 6 := by rw [← o.kd]; exact hk6
 have hp0 : m.p = 0 := o.pr0 (by rw [hk]; decide)
 refine ⟨hk, hp0, ?_⟩
 rw [goes_eq (_ca := p.ca) o.h o.hl o.ha o.hb o.hp, hk, hp0]
 simp only [decide_true, Bool.true_and]
 cases hr : reachesB p.f p.r 6 m.a m.b (occL p.zs) with
 | false => rfl
 | true =>
  exfalso
  have hd := reaches_king o.ha o.hb hr
  obtain ⟨h88, _⟩ := cast_88 (a := m.a) (b := m.b) (bl := p.bl) o.bd o.cast hn
  simp only [is88, Bool.and_eq_true, decide_eq_true_eq] at h88
  rw [h88.1] at hd
  rcases hsq with ⟨_, _, _, e1, e2⟩ | ⟨_, _, _, e1, e2⟩ | ⟨_, _, _, e1, e2⟩ | ⟨_, _, _, e1, e2⟩ <;> rw [e1, e2] at hd <;> exact absurd hd (by decide)
theorem MvOk.way (o : MvOk p m) (hw : wayB p.f p.r p.zs (wayN p.zs p.bl p.ca m.a m.b) = true) : kind8 (p.zs.getD m.a.toNat 0) = 6 ∧ m.p = 0 ∧ goesB p.f p.r p.zs p.bl p.pa m.a m.b m.p = false ∧
  (cgL p.f p.r p.zs p.bl p.ca m.a m.b m.p ≠ 0) ∧ sqW (cgL p.f p.r p.zs p.bl p.ca m.a m.b m.p) 2 = wCor (wayN p.zs p.bl p.ca m.a m.b) ∧ sqW (cgL p.f p.r p.zs p.bl p.ca m.a m.b m.p) 3 = wCro (wayN p.zs p.bl p.ca m.a m.b) := by
 have hn : wayN p.zs p.bl p.ca m.a m.b ≠ 4 := by intro e; rw [e] at hw; simp [wayB] at hw
 obtain ⟨hk, hp0, hg⟩ := o.wayg hn
 obtain ⟨w1, w2⟩ := way_cg (bl := p.bl) (b := m.b) (pr := m.p) o.h o.hl o.cast o.ca o.sq.1.1 o.sq.1.2
 rw [hw, hp0] at w1
 rw [hp0] at w2 hg ⊢
 have hc : (!decide (cgL p.f p.r p.zs p.bl p.ca m.a m.b 0 = 0)) = true := w1
 obtain ⟨s1, s2, _⟩ := w2 hc
 exact ⟨hk, rfl, hg, by simpa using hc, s1, s2⟩
theorem MvOk.noway (o : MvOk p m) (hw : wayB p.f p.r p.zs (wayN p.zs p.bl p.ca m.a m.b) = false) : cgL p.f p.r p.zs p.bl p.ca m.a m.b m.p = 0 := by
 obtain ⟨w1, _⟩ := way_cg (bl := p.bl) (b := m.b) (pr := m.p) o.h o.hl o.cast o.ca o.sq.1.1 o.sq.1.2
 rw [hw, Bool.and_false] at w1
 simpa using w1
theorem sgn_own {n : Int} {bl : Bool} (h : isP n bl = true) : sgn n = sdI bl := by rw [isP_sgn] at h; exact of_decide_eq_true h
theorem MvOk.af (o : MvOk p m) : afZ p.f p.r p.zs p.bl p.ca p.pa m.a m.b m.p = zs3R p.f p.r p.zs p.bl p.ca p.pa m.a m.b m.p := by
 have h1 : afZ1 p.f p.r p.zs p.pa m.a m.b = zs1R p.f p.zs p.pa m.a m.b := by unfold afZ1 zs1R; rw [o.cap.1]
 have h2 : afZ2 p.f p.r p.zs p.pa m.a m.b = zs2R p.f p.zs p.pa m.a m.b := by unfold afZ2 zs2R; rw [h1]
 unfold afZ zs3R putR afZ3
 rw [h2]
 by_cases hp : m.p = 0
 ·rw [hp]
  simp only [decide_true, Bool.not_true, Bool.false_and, cond_false]
  cases hw : wayB p.f p.r p.zs (wayN p.zs p.bl p.ca m.a m.b) with
  | true =>
   obtain ⟨_, _, g, c, s1, s2⟩ := o.way hw
   rw [hp] at g c s1 s2
   unfold cstR afZ4
   rw [hw, g, s1, s2, decide_eq_false c]; rfl
  | false =>
   have hc := o.noway hw
   rw [hp] at hc
   unfold cstR afZ4
   rw [hw, hc]; rfl
 ·have hpr : 2 ≤ m.p ∧ m.p ≤ 5 := o.hpr.resolve_left hp
  have hc : cgL p.f p.r p.zs p.bl p.ca m.a m.b m.p = 0 := by unfold cgL; rw [decide_eq_false hp]; simp
  rw [hc, decide_eq_false hp]
  simp only [Bool.not_false, Bool.true_and, cond_true]
  have hs := sgn_own o.hp
  unfold afZ4
  rw [hs]
  cases p.bl with
  | true =>
   have : w8 (m.p * w8 (sdI true)) = w8 (0 - m.p) := by
    rw [show w8 (sdI true) = -1 by decide]; congr 1; omega
   rw [this]; rfl
  | false =>
   have : w8 (m.p * w8 (sdI false)) = m.p := by
    rw [show w8 (sdI false) = 1 by decide, Int.mul_one]; exact w8_in (by omega) (by omega)
   rw [this]; rfl
end
end Go.Ab

set_option maxRecDepth 100000
namespace Go.Ab
open Go.Proofs
theorem getD_setn {l : List Int} {j i : Nat} {v : Int} (hi : i < l.length) : (l.set j v).getD i 0 = if i = j then v else l.getD i 0 := by
 by_cases e : i = j
 ·subst e; simp [List.getD, hi]
 ·rw [if_neg e]; simp [List.getD, List.getElem?_set_ne (Ne.symm e)]
theorem orth_setn {f r : Int} {zs : List Int} {j : Nat} {v : Int} (h : orthBd f r zs = true) (hv : -6 ≤ v ∧ v ≤ 6) : orthBd f r (zs.set j v) = true := by
 have := orth_set (j := (j : Int)) h hv
 rwa [Int.toNat_natCast] at this
theorem getD_bd {f r : Int} {zs : List Int} (h : orthBd f r zs = true) (i : Nat) : -6 ≤ zs.getD i 0 ∧ zs.getD i 0 ≤ 6 := by
 by_cases hi : i < zs.length
 ·exact (orth_valid h).2.2.2 _ (getD_mem hi)
 ·simp [List.getD, List.getElem?_eq_none (by omega : zs.length ≤ i)]
theorem kind_kg {n : Int} {bl : Bool} (h : -6 ≤ n ∧ n ≤ 6) (hp : isP n bl = true) (hk : kind8 n = 6) : n = kgP bl := by
 rw [kind_abs h] at hk
 have : n = 6 ∨ n = -6 := by omega
 rcases this with rfl | rfl <;> cases bl <;> first | rfl | (revert hp; decide)
section
variable {p : Psn} {m : Mov}
theorem MvOk.z1 (o : MvOk p m) : orthBd p.f p.r (zs1R p.f p.zs p.pa m.a m.b) = true ∧ ∀ i : Nat, i < p.zs.length → (zs1R p.f p.zs p.pa m.a m.b).getD i 0 = p.zs.getD i 0 ∨ ((zs1R p.f p.zs p.pa m.a m.b).getD i 0 = 0 ∧ isP (p.zs.getD i 0) p.bl = false) := by
 unfold zs1R
 cases hc : decide (0 ≤ at2R p.f p.zs p.pa m.a m.b) with
 | false => exact ⟨o.h, fun i _ => .inl rfl⟩
 | true =>
  obtain ⟨c1, c2, c3, _⟩ := o.cap.2.1 (of_decide_eq_true hc)
  refine ⟨orth_setn o.h (by omega), fun i hi => ?_⟩
  rw [cond_true, getD_setn hi]
  by_cases e : i = (at2R p.f p.zs p.pa m.a m.b).toNat
  ·right
   rw [if_pos e, e]
   refine ⟨rfl, ?_⟩
   rw [isP_sgn] at c2 ⊢
   rw [of_decide_eq_true c2]
   cases p.bl <;> decide
  ·left; rw [if_neg e]
theorem MvOk.z2 (o : MvOk p m) : orthBd p.f p.r (zs2R p.f p.zs p.pa m.a m.b) = true ∧ ∀ i : Nat, i < p.zs.length → (zs2R p.f p.zs p.pa m.a m.b).getD i 0 = if i = m.b.toNat then p.zs.getD m.a.toNat 0 else if i = m.a.toNat then 0 else (zs1R p.f p.zs p.pa m.a m.b).getD i 0 := by
 have hl := zs1_len (f := p.f) (zs := p.zs) (pa := p.pa) (a := m.a) (b := m.b)
 refine ⟨orth_setn (orth_setn o.z1.1 (by omega)) (getD_bd o.h _), fun i hi => ?_⟩
 unfold zs2R
 rw [getD_setn (by rw [List.length_set, hl]; exact hi), getD_setn (by rw [hl]; exact hi)]
theorem MvOk.z3 (o : MvOk p m) : orthBd p.f p.r (zs3R p.f p.r p.zs p.bl p.ca p.pa m.a m.b m.p) = true ∧ (kingR p.f p.r (zs3R p.f p.r p.zs p.bl p.ca p.pa m.a m.b m.p) p.bl).2 = 0 := by
 obtain ⟨⟨sa0, sa1⟩, ⟨sb0, sb1⟩⟩ := o.sq
 obtain ⟨z2o, z2g⟩ := o.z2
 obtain ⟨K, k1, k2, _, k4⟩ := o.kU
 have hlen := zs3_len (f := p.f) (r := p.r) (zs := p.zs) (bl := p.bl) (ca := p.ca) (pa := p.pa) (a := m.a) (b := m.b) (pr := m.p)
 have hl2 := zs2_len (f := p.f) (zs := p.zs) (pa := p.pa) (a := m.a) (b := m.b)
 have hkb : K ≠ m.b.toNat := by intro e; have h1 := own_kg p.bl; rw [← k2, e, o.nto] at h1; cases h1
 have kz : (0 : Int) ≠ kgP p.bl := by cases p.bl <;> decide
 have hK1 : (zs1R p.f p.zs p.pa m.a m.b).getD K 0 = kgP p.bl := by
  rcases o.z1.2 K k1 with h | ⟨_, h⟩
  ·rw [h, k2]
  ·rw [k2, own_kg] at h; cases h
 have h1U : ∀ i : Nat, i < p.zs.length → (zs1R p.f p.zs p.pa m.a m.b).getD i 0 = kgP p.bl → i = K := by
  intro i hi he
  rcases o.z1.2 i hi with h | ⟨h, _⟩
  ·rw [h] at he; exact k4 i hi he
  ·rw [h] at he; exact absurd he kz
 -- a board that is like zs2R but for a piece that is put down
 have fin : ∀ (z : List Int) (v : Int), z.length = p.zs.length → (∀ i : Nat, i < p.zs.length → z.getD i 0 = if i = m.b.toNat then v else if i = m.a.toNat then 0 else (zs1R p.f p.zs p.pa m.a m.b).getD i 0) → orthBd p.f p.r z = true → (v = kgP p.bl ↔ K = m.a.toNat) → (kingR p.f p.r z p.bl).2 = 0 := by
  intro z v hzl hz hzo hv
  by_cases hKa : K = m.a.toNat
  ·refine (king_one (K := m.b.toNat) hzo (by rw [hzl]; exact o.hl) (by omega) ?_ fun i hi he => ?_).1
   ·rw [hz _ (by omega), if_pos rfl]; exact hv.2 hKa
   ·rw [hz _ (by omega)] at he
    by_cases e : i = m.b.toNat
    ·exact e
    ·rw [if_neg e] at he
     by_cases e2 : i = m.a.toNat
     ·rw [if_pos e2] at he; exact absurd he kz
     ·rw [if_neg e2] at he; exact absurd ((h1U i (by omega) he).trans hKa) e2
  ·refine (king_one (K := K) hzo (by rw [hzl]; exact o.hl) (by omega) ?_ fun i hi he => ?_).1
   ·rw [hz _ k1, if_neg hkb, if_neg hKa, hK1]
   ·rw [hz _ (by omega)] at he
    by_cases e : i = m.b.toNat
    ·rw [if_pos e] at he; exact absurd (hv.1 he) hKa
    ·rw [if_neg e] at he
     by_cases e2 : i = m.a.toNat
     ·rw [if_pos e2] at he; exact absurd he kz
     ·rw [if_neg e2] at he; exact h1U i (by omega) he
 have haK : p.zs.getD m.a.toNat 0 = kgP p.bl ↔ K = m.a.toNat := ⟨fun h => (k4 _ (by omega) h).symm, fun h => by rw [← h, k2]⟩
 unfold zs3R putR
 by_cases hp : m.p = 0
 ·rw [decide_eq_true hp]
  simp only [Bool.not_true, Bool.false_and, cond_false]
  cases hw : wayB p.f p.r p.zs (wayN p.zs p.bl p.ca m.a m.b) with
  | false =>
   unfold cstR
   rw [hw]
   exact ⟨z2o, fin _ _ hl2 z2g z2o haK⟩
  | true =>
   obtain ⟨hk6, _, g, _, _, _⟩ := o.way hw
   have hn : wayN p.zs p.bl p.ca m.a m.b ≠ 4 := by intro e; rw [e] at hw; simp [wayB] at hw
   obtain ⟨h88, h64, w1, w2, w3, w4⟩ := cast_88 (a := m.a) (b := m.b) (bl := p.bl) o.bd o.cast hn
   unfold cstR
   rw [hw, g]
   simp only [Bool.not_false, Bool.and_self, cond_true]
   have hpiece : p.zs.getD m.a.toNat 0 = kgP p.bl := kind_kg (getD_bd o.h _) o.hp hk6
   have hKa := haK.1 hpiece
   -- the rook
   have hrook : p.zs.getD (wCor (wayN p.zs p.bl p.ca m.a m.b)).toNat 0 = ofP 4 p.bl ∧ wCor (wayN p.zs p.bl p.ca m.a m.b) ≠ m.a ∧ wCor (wayN p.zs p.bl p.ca m.a m.b) ≠ m.b ∧ wCro (wayN p.zs p.bl p.ca m.a m.b) ≠ m.b ∧ wCro (wayN p.zs p.bl p.ca m.a m.b) ≠ m.a := by
    have hcs := o.cast
    simp only [castB, Bool.and_eq_true, Bool.not_eq_true', decide_eq_true_eq] at hcs
    obtain ⟨⟨⟨⟨c1, c2⟩, c3⟩, c4⟩, c5⟩ := hcs
    unfold wayN at hn ⊢
    rw [o.kd, hk6] at hn ⊢
    cases n1 : (!csSkip p.bl p.ca m.a m.b false 1 4 6) with
    | true =>
     obtain ⟨e1, e2, e3, e4⟩ := sk_iff.1 n1
     obtain ⟨_, _, _, e5⟩ := right_88 c1 e2
     rw [← e1, ← e3, ← e4]
     exact ⟨e5, show (7 : Int) ≠ 4 by decide, show (7 : Int) ≠ 6 by decide, show (5 : Int) ≠ 6 by decide, show (5 : Int) ≠ 4 by decide⟩
    | false =>
     cases n2 : (!csSkip p.bl p.ca m.a m.b false 2 4 2) with
     | true =>
      obtain ⟨e1, e2, e3, e4⟩ := sk_iff.1 n2
      obtain ⟨_, _, _, e5⟩ := right_88 c2 e2
      rw [← e1, ← e3, ← e4]
      exact ⟨e5, show (0 : Int) ≠ 4 by decide, show (0 : Int) ≠ 2 by decide, show (3 : Int) ≠ 2 by decide, show (3 : Int) ≠ 4 by decide⟩
     | false =>
      cases n3 : (!csSkip p.bl p.ca m.a m.b true 4 60 62) with
      | true =>
       obtain ⟨e1, e2, e3, e4⟩ := sk_iff.1 n3
       obtain ⟨_, _, _, e5⟩ := right_88 c3 e2
       rw [← e1, ← e3, ← e4]
       exact ⟨e5, show (63 : Int) ≠ 60 by decide, show (63 : Int) ≠ 62 by decide, show (61 : Int) ≠ 62 by decide, show (61 : Int) ≠ 60 by decide⟩
      | false =>
       cases n4 : (!csSkip p.bl p.ca m.a m.b true 8 60 58) with
       | true =>
        obtain ⟨e1, e2, e3, e4⟩ := sk_iff.1 n4
        obtain ⟨_, _, _, e5⟩ := right_88 c4 e2
        rw [← e1, ← e3, ← e4]
        exact ⟨e5, show (56 : Int) ≠ 60 by decide, show (56 : Int) ≠ 58 by decide, show (59 : Int) ≠ 58 by decide, show (59 : Int) ≠ 60 by decide⟩
       | false => rw [n1, n2, n3, n4] at hn; exact absurd rfl hn
   obtain ⟨r1, r2, r3, r4, r5⟩ := hrook
   have hro : orthBd p.f p.r (((zs2R p.f p.zs p.pa m.a m.b).set (wCro (wayN p.zs p.bl p.ca m.a m.b)).toNat ((zs2R p.f p.zs p.pa m.a m.b).getD (wCor (wayN p.zs p.bl p.ca m.a m.b)).toNat 0)).set (wCor (wayN p.zs p.bl p.ca m.a m.b)).toNat 0) = true := orth_setn (orth_setn z2o (getD_bd z2o _)) (by omega)
   refine ⟨hro, (king_one (K := m.b.toNat) hro (by simp only [List.length_set, hl2]; exact o.hl) (by simp only [List.length_set, hl2]; omega) ?_ fun i hi he => ?_).1⟩
   ·rw [getD_setn (by simp only [List.length_set, hl2]; omega), if_neg (by omega), getD_setn (by rw [hl2]; omega), if_neg (by omega), z2g _ (by omega), if_pos rfl, hpiece]
   ·simp only [List.length_set, hl2] at hi
    rw [getD_setn (by simp only [List.length_set, hl2]; omega)] at he
    by_cases e1 : i = (wCor (wayN p.zs p.bl p.ca m.a m.b)).toNat
    ·rw [if_pos e1] at he; exact absurd he kz
    ·rw [if_neg e1, getD_setn (by rw [hl2]; omega)] at he
     by_cases e2 : i = (wCro (wayN p.zs p.bl p.ca m.a m.b)).toNat
     ·exfalso
      rw [if_pos e2, z2g _ (by omega), if_neg (by omega), if_neg (by omega)] at he
      rcases o.z1.2 (wCor (wayN p.zs p.bl p.ca m.a m.b)).toNat (by omega) with h | ⟨h, _⟩
      ·rw [h, r1] at he; revert he; cases p.bl <;> decide
      ·rw [h] at he; exact kz he
     ·rw [if_neg e2, z2g _ hi] at he
      by_cases e : i = m.b.toNat
      ·exact e
      ·rw [if_neg e] at he
       by_cases e3 : i = m.a.toNat
       ·rw [if_pos e3] at he; exact absurd he kz
       ·rw [if_neg e3] at he; exact absurd ((h1U i hi he).trans hKa) e3
 ·have hpr : 2 ≤ m.p ∧ m.p ≤ 5 := o.hpr.resolve_left hp
  have hk1 : kind8 (p.zs.getD m.a.toNat 0) = 1 := by
   by_cases h : kind8 (p.zs.getD m.a.toNat 0) = 1
   ·exact h
   ·exact absurd (o.pr0 h) hp
  have hnK : ¬ K = m.a.toNat := fun e => by
   have := haK.2 e
   rw [this] at hk1
   revert hk1; cases p.bl <;> decide
  rw [decide_eq_false hp]
  simp only [Bool.not_false, Bool.true_and, cond_true]
  have hput : ∀ v : Int, -6 ≤ v ∧ v ≤ 6 → v ≠ kgP p.bl → orthBd p.f p.r ((zs2R p.f p.zs p.pa m.a m.b).set m.b.toNat v) = true ∧ (kingR p.f p.r ((zs2R p.f p.zs p.pa m.a m.b).set m.b.toNat v) p.bl).2 = 0 := by
   intro v hv hvk
   have hzo := orth_setn (j := m.b.toNat) z2o hv
   refine ⟨hzo, fin _ v (by rw [List.length_set, hl2]) (fun i hi => ?_) hzo ⟨fun h => absurd h hvk, fun h => absurd h hnK⟩⟩
   rw [getD_setn (by rw [hl2]; exact hi), z2g i hi]
   by_cases e : i = m.b.toNat <;> simp [e]
  have hkg : kgP p.bl = 6 ∨ kgP p.bl = -6 := by cases p.bl <;> simp [kgP]
  have hw : w8 (0 - m.p) = -m.p := by rw [w8_in (by omega) (by omega)]; omega
  have key : ∀ v, v = m.p ∨ v = -m.p → _ := fun v hv => hput v (by omega) (by omega)
  cases hb : p.bl with
  | true =>
   have := key (-m.p) (.inr rfl)
   rw [hb] at this
   simp only [cond_true, hw]
   exact this
  | false =>
   have := key m.p (.inl rfl)
   rw [hb] at this
   simp only [cond_false]
   exact this
theorem MvOk.safe (o : MvOk p m) : sfL p m = !err4 p m := by
 obtain ⟨z1, z2⟩ := o.z3
 have hz64 : (zs3R p.f p.r p.zs p.bl p.ca p.pa m.a m.b m.p).length ≤ 64 := by rw [zs3_len]; exact o.hl
 have hkk := o.kings
 simp only [kingsB, Bool.and_eq_true, decide_eq_true_eq] at hkk
 have hzs : (afP p m).zs = zs3R p.f p.r p.zs p.bl p.ca p.pa m.a m.b m.p := o.af
 unfold sfL err4
 rw [hzs, chk_eq z1 hz64 z2, chk_eq o.h o.hl hkk.1.1]
 cases chkB p.f p.r (zs3R p.f p.r p.zs p.bl p.ca p.pa m.a m.b m.p) p.bl with
 | true => rfl
 | false =>
  cases hw : wayB p.f p.r p.zs (wayN p.zs p.bl p.ca m.a m.b) with
  | false =>
   have : cstR p.f p.r p.zs p.bl p.ca p.pa m.a m.b m.p = false := by unfold cstR; rw [hw]; rfl
   rw [this, o.noway hw]; rfl
  | true =>
   obtain ⟨_, _, g, c, _, s2⟩ := o.way hw
   have hn : wayN p.zs p.bl p.ca m.a m.b ≠ 4 := by intro e; rw [e] at hw; simp [wayB] at hw
   obtain ⟨h88, h64, _, _, w3, w4⟩ := cast_88 (a := m.a) (b := m.b) (bl := p.bl) o.bd o.cast hn
   have hcst : cstR p.f p.r p.zs p.bl p.ca p.pa m.a m.b m.p = true := by unfold cstR; rw [hw, g]; rfl
   have hv : validB p.f p.r (wCro (wayN p.zs p.bl p.ca m.a m.b)) = true := (bd_sq o.bd).2 ⟨w3, by omega⟩
   rw [hcst, decide_eq_false c, s2]
   simp only [cond_false, Bool.false_or, Bool.true_and, Bool.not_or, Bool.not_not]
   congr 1
   unfold attackersR
   rw [o.h, hv]
   simp only [Bool.and_self, cond_true]
   rw [att_zero o.h o.hl hv]
end
end Go.Ab

set_option maxRecDepth 100000
namespace Go.Ab
open Go.Proofs
def fR4 (k1 k2 k3 k4 : Bool) : Int := bif k4 then u8or (bif k3 then u8or (bif k2 then u8or (bif k1 then u8or 0 1 else 0) 2 else (bif k1 then u8or 0 1 else 0)) 4 else (bif k2 then u8or (bif k1 then u8or 0 1 else 0) 2 else (bif k1 then u8or 0 1 else 0))) 8 else (bif k3 then u8or (bif k2 then u8or (bif k1 then u8or 0 1 else 0) 2 else (bif k1 then u8or 0 1 else 0)) 4 else (bif k2 then u8or (bif k1 then u8or 0 1 else 0) 2 else (bif k1 then u8or 0 1 else 0)))
def gR1 (ca bit : Int) (k : Bool) : Int := bif decide ((IntKind.u8.wrap (ca.tdiv bit)).tmod 2 = 1) && k then IntKind.u8.wrap (ca - bit) else ca
theorem rights_all : ∀ ca : _root_.Fin 16, ∀ a1 a2 a3 a4 b1 b2 b3 b4 : Bool, u8andn (ca.val : Int) (u8or (fR4 a1 a2 a3 a4) (fR4 b1 b2 b3 b4)) = gR1 (gR1 (gR1 (gR1 (ca.val : Int) 1 (a1 || b1)) 2 (a2 || b2)) 4 (a3 || b3)) 8 (a4 || b4) := by decide +kernel
theorem rights_eq {ca a b : Int} (h : 0 ≤ ca ∧ ca ≤ 15) : afC ca a b = caR ca a b := by
 obtain ⟨q1, q2, q3, q4, q5, q6, q7, q8⟩ := sqs
 obtain ⟨p1, p2, p3, p4, p5, p6, p7, p8⟩ := sq01
 have hl : ∀ at_, lostR at_ = fR4 (decide (4 = at_) || decide (7 = at_)) (decide (4 = at_) || decide (0 = at_)) (decide (60 = at_) || decide (63 = at_)) (decide (60 = at_) || decide (56 = at_)) := fun at_ => rfl
 have hs : ∀ c bit k q, sqW bit 0 = k → sqW bit 2 = q → afS c a b bit = gR1 c bit ((decide (k = a) || decide (q = a)) || (decide (k = b) || decide (q = b))) := by
  intro c bit k q h0 h2
  unfold afS gR1 hasL
  rw [h0, h2]
  unfold hasL hasL
  simp only [Bool.or_false]
 have := rights_all ⟨ca.toNat, by omega⟩ (decide (4 = a) || decide (7 = a)) (decide (4 = a) || decide (0 = a)) (decide (60 = a) || decide (63 = a)) (decide (60 = a) || decide (56 = a)) (decide (4 = b) || decide (7 = b)) (decide (4 = b) || decide (0 = b)) (decide (60 = b) || decide (63 = b)) (decide (60 = b) || decide (56 = b))
 unfold afC caR
 rw [hl, hl, hs _ 1 4 7 p1 q1, hs _ 2 4 0 p3 q3, hs _ 4 60 63 p5 q5, hs _ 8 60 56 p7 q7]
 dsimp only at this
 rw [show ((ca.toNat : Nat) : Int) = ca by omega] at this
 exact this.symm
section
variable {p : Psn} {m : Mov}
theorem MvOk.pas (o : MvOk p m) : afPa p.f p.r p.zs m.a m.b = paR p.f p.zs m.a m.b := by
 unfold afPa paR twoB
 rw [o.kd]
 cases hk : decide (kind8 (p.zs.getD m.a.toNat 0) = 1) with
 | false => rfl
 | true =>
  obtain ⟨a0, a1, a2, a3, a4, a5, a6⟩ := px_bd o.ha
  obtain ⟨b0, b1, b2, b3, b4, b5, _⟩ := px_bd o.hb
  have hla := valid_lt o.ha
  have hlb := valid_lt o.hb
  have hfw : fwd p.bl = 1 ∨ fwd p.bl = -1 := by cases p.bl <;> simp [fwd]
  rw [pc_w o.hb o.ha, pc_w o.ha o.hb, a0, b0, w64_id (n := m.b - m.a) (by omega) (by omega), w64_id (n := 2 * p.f) (by omega) (by omega), w64_id (n := -2 * p.f) (by omega) (by omega)]
  simp only [Bool.true_and]
  have hdiff : m.b - m.a = (px p.f m.b - px p.f m.a) + (py p.f m.b * p.f - py p.f m.a * p.f) := by omega
  have one : ∀ d : Int, (d = 1 ∨ d = -1) → py p.f m.b = py p.f m.a + d → (-1 ≤ px p.f m.b - px p.f m.a ∧ px p.f m.b - px p.f m.a ≤ 1) → (decide (py p.f m.a - py p.f m.b = 2) || decide (py p.f m.b - py p.f m.a = 2)) = false ∧ (decide (m.b - m.a = 2 * p.f) || decide (m.b - m.a = -2 * p.f)) = false := by
   intro d hd hy hx
   have : py p.f m.b * p.f = py p.f m.a * p.f + d * p.f := by rw [hy, Int.add_mul]
   constructor
   ·rw [decide_eq_false (by omega), decide_eq_false (by omega)]; rfl
   ·rcases hd with rfl | rfl <;> rw [decide_eq_false (by omega), decide_eq_false (by omega)] <;> rfl
  rcases (o.steps (of_decide_eq_true hk)).1 with h | h
  ·obtain ⟨e1, h2⟩ := step_sq o.ha o.hb h
   rcases h2 with e2 | ⟨e2, _, _, e5, _⟩
   ·obtain ⟨g1, g2⟩ := one (fwd p.bl) hfw e2 (by omega)
    rw [g1, g2]; rfl
   ·have hmul : py p.f m.b * p.f = py p.f m.a * p.f + 2 * (fwd p.bl * p.f) := by rw [e2, Int.add_mul, Int.mul_assoc]
    have hd2 : m.b - m.a = 2 * (fwd p.bl * p.f) := by omega
    have g1 : (decide (py p.f m.a - py p.f m.b = 2) || decide (py p.f m.b - py p.f m.a = 2)) = true := by
     rcases hfw with e | e
     ·rw [decide_eq_true (p := py p.f m.b - py p.f m.a = 2) (by omega), Bool.or_true]
     ·rw [decide_eq_true (p := py p.f m.a - py p.f m.b = 2) (by omega), Bool.true_or]
    have g2 : (decide (m.b - m.a = 2 * p.f) || decide (m.b - m.a = -2 * p.f)) = true := by
     rcases hfw with e | e <;> rw [e] at hd2
     ·rw [decide_eq_true (p := m.b - m.a = 2 * p.f) (by omega), Bool.true_or]
     ·rw [decide_eq_true (p := m.b - m.a = -2 * p.f) (by omega), Bool.or_true]
    rw [g1, g2, cond_true, cond_true, hd2, Int.mul_tdiv_cancel_left _ (by decide)]
    have hr : m.b - fwd p.bl * p.f = m.a + fwd p.bl * p.f := by omega
    have hlc := valid_lt e5
    rw [hr] at e5 hlc
    rw [w64_id (n := fwd p.bl * p.f) (by omega) (by omega), w64_id (n := m.a + fwd p.bl * p.f) (by omega) (by omega)]
    have hy : py p.f m.a + py p.f m.b = 2 * (py p.f m.a + fwd p.bl) := by omega
    rw [w64_id (n := py p.f m.a + py p.f m.b) (by omega) (by omega), hy, Int.mul_tdiv_cancel_left _ (by decide), w64_id (n := py p.f m.a + fwd p.bl) (by omega) (by omega)]
    obtain ⟨_, c1, c2, c3, c4, c5, _⟩ := px_bd e5
    have hu := pl_uniq (f := p.f) (by omega) c1 c2 a1 a2 (show px p.f (m.a + fwd p.bl * p.f) + py p.f (m.a + fwd p.bl * p.f) * p.f = px p.f m.a + (py p.f m.a + fwd p.bl) * p.f by rw [c5, Int.add_mul]; omega)
    have ho : onB p.f p.r (m.a.tmod p.f) (py p.f m.a + fwd p.bl) = true := on_mk a1 a2 (by omega) (by omega)
    exact (num_iff (valid_vs o.ha) ho e5).2 ⟨hu.1, hu.2⟩
  ·have hat := h.1
   simp only [pawnC, Bool.and_eq_true, Bool.or_eq_true, decide_eq_true_eq] at hat
   rw [pc_w o.ha o.hb] at hat
   have e1 : m.a.tmod p.f = px p.f m.a := rfl
   have e2 : m.b.tmod p.f = px p.f m.b := rfl
   rw [e1, e2, w64_id (n := px p.f m.b - px p.f m.a) (by omega) (by omega), w64_id (n := px p.f m.a - px p.f m.b) (by omega) (by omega)] at hat
   obtain ⟨g1, g2⟩ := one (fwd p.bl) hfw (by omega) (by omega)
   rw [g1, g2]; rfl
theorem MvOk.half (o : MvOk p m) : afHa p.f p.r p.zs p.pa p.ha m.a m.b = haR p.f p.zs p.pa p.ha m.a m.b := by
 unfold afHa haR
 rw [o.kd, o.cap.1]
 have : decide (0 ≤ at2R p.f p.zs p.pa m.a m.b) = !decide (capR p.f p.zs p.pa m.a m.b = 0) := by
  by_cases h : 0 ≤ at2R p.f p.zs p.pa m.a m.b
  ·rw [decide_eq_true h, decide_eq_false (o.cap.2.2.2 h)]; rfl
  ·rw [decide_eq_false h, decide_eq_true (o.cap.2.2.1 (by omega)).2.1]; rfl
 rw [this]
theorem MvOk.caB (o : MvOk p m) : 0 ≤ p.ca ∧ p.ca ≤ 15 := by
 have := o.cast
 simp only [castB, Bool.and_eq_true, decide_eq_true_eq] at this
 exact ⟨o.ca, by omega⟩
theorem MvOk.after (o : MvOk p m) : afP p m = ⟨p.f, p.r, zs3R p.f p.r p.zs p.bl p.ca p.pa m.a m.b m.p, !p.bl, caR p.ca m.a m.b, paR p.f p.zs m.a m.b, haR p.f p.zs p.pa p.ha m.a m.b, fuR p.bl p.fu⟩ := by
 unfold afP
 rw [o.af, o.pas, o.half, rights_eq o.caB]
theorem mvok {p : Psn} {m : Mov} (hl : p.zs.length ≤ 64) (hca : 0 ≤ p.ca) (h1 : err1 p m = false) (h2 : isP (p.zs.getD m.a.toNat 0) p.bl = true) (h3 : err3 p m = false) : MvOk p m := by
 simp only [err1, Bool.or_eq_false_iff, Bool.not_eq_false'] at h1
 obtain ⟨hok, hmv⟩ := h1
 simp only [mvB, Bool.and_eq_true, Bool.or_eq_true, decide_eq_true_eq, Bool.not_eq_true', decide_eq_false_iff_not] at hmv
 obtain ⟨⟨⟨ha, hb⟩, hab⟩, hpr⟩ := hmv
 have ho : orthBd p.f p.r p.zs = true := by
  have hk := hok
  simp only [Psn.ok, kingsB, Bool.and_eq_true, decide_eq_true_eq] at hk
  cases h : orthBd p.f p.r p.zs with
  | true => rfl
  | false => have := hk.1.1.1.1.2.1.1; unfold kingR at this; rw [h] at this; cases this
 exact ⟨ho, hl, hok, hca, ha, hb, hab, hpr, h2, h3⟩
theorem make_eq {p : Psn} {m : Mov} (hl : p.zs.length ≤ 64) (hca : 0 ≤ p.ca) : rmE p m = mkE5 p m ∧ rmP p m = mkP p m ∧ rmU p m = mkU p m := by
 have he1 : (!validL p || !mvB p.f p.r m.a m.b m.p) = err1 p m := by unfold err1; rw [psn_valid hl hca]
 unfold rmP mkP rmU mkU
 unfold rmE mkE5
 rw [he1]
 cases h1 : err1 p m with
 | true => exact ⟨rfl, rfl, rfl⟩
 | false =>
  rw [own_is]
  cases h2 : isP (p.zs.getD m.a.toNat 0) p.bl with
  | false => exact ⟨rfl, rfl, rfl⟩
  | true =>
   have hso : soL p.f p.r p.zs p.bl p.ca p.pa m.a m.b m.p = !err3 p m := by
    have h1' := h1
    simp only [err1, Bool.or_eq_false_iff, Bool.not_eq_false'] at h1'
    obtain ⟨hok, hmv⟩ := h1'
    simp only [mvB, Bool.and_eq_true] at hmv
    have ho : orthBd p.f p.r p.zs = true := by
     have hk := hok
     simp only [Psn.ok, kingsB, Bool.and_eq_true, decide_eq_true_eq] at hk
     cases h : orthBd p.f p.r p.zs with
     | true => rfl
     | false => have := hk.1.1.1.1.2.1.1; unfold kingR at this; rw [h] at this; cases this
    have hcas : castB p.f p.r p.zs p.ca = true := by have := hok; simp only [Psn.ok, Bool.and_eq_true] at this; exact this.1.1.2
    exact so_eq ho hl hcas hca hmv.1.1.1 hmv.1.1.2 h2
   rw [hso]
   cases h3 : err3 p m with
   | true => exact ⟨rfl, rfl, rfl⟩
   | false =>
    have o := mvok hl hca h1 h2 h3
    rw [o.safe]
    cases h4 : err4 p m with
    | true => exact ⟨rfl, rfl, rfl⟩
    | false =>
     have h5 : (decide (10000 < (afP p m).ha) || decide (10000 < (afP p m).fu)) = err5 p m := by rw [o.after]; rfl
     rw [h5]
     cases h6 : err5 p m with
     | true => exact ⟨rfl, rfl, rfl⟩
     | false =>
      simp only [Bool.not_true, Bool.not_false, cond_false, decide_true, cond_true]
      refine ⟨trivial, o.after, ?_⟩
      rw [o.cap.1]
      by_cases h : 0 ≤ at2R p.f p.zs p.pa m.a m.b
      ·rw [decide_eq_true h, cond_true]
       have := (o.cap.2.1 h).2.2.2
       unfold capR
       rw [← this]
      ·rw [decide_eq_false h, cond_false, (o.cap.2.2.1 (by omega)).2.1]
end
end Go.Ab

namespace Go.Ab
abbrev iL (l : List Int) : List Int := l
structure Bd where
 f : Int
 r : Int
 zs : List Int
end Go.Ab

set_option maxRecDepth 100000
set_option maxHeartbeats 4000000
namespace Go.Ab
open Go.Proofs
variable {kCa kDb : Bool}
def pletter (p : Int) : Option (Int) := let x5 := (#[112, 110, 98, 114, 113, 107, 97, 99, 100, 101, 102, 103, 104, 105, 106] : Array UInt8).toList; let x6 := (#[80, 78, 66, 82, 81, 75, 65, 67, 68, 69, 70, 71, 72, 73, 74] : Array UInt8).toList; let x7 := IntKind.i8.wrap (IntKind.i8.wrap (0 - p) - 1); let x8 := IntKind.i8.wrap (p - 1); let x3 := Int.ofNat x6.length; let x4 := Int.ofNat x5.length; bif decide (p < 0) then needO (decide (0 ≤ x7) && decide (x7 < x4)) (some (Int.ofNat (x5.getD x7.toNat 0).toNat)) else needO (decide (0 ≤ x8) && decide (x8 < x3)) (some (Int.ofNat (x6.getD x8.toNat 0).toNat))
def pletter_V (R : Int) : V := .int .u8 R
def pletter_N (_R : Int) : List O := []
def c_pletter : CF
 | [.int .i8 p_0], [] => retC true (pletter p_0) 0 pletter_V pletter_N
 | _, _ => none
theorem pletter_snd (p : Int) {r} (hr : pletter p = some r) : FnSound (GGx kCa kDb) PP 144 [.int .i8 p] [] (pletter_V r) (pletter_N r) := by
 have hE := cutE (EE_ok (kCa := kCa) (kDb := kDb) (cts := []) (inl := []) trivial trivial)
 refine so_fn hE 2 Tryz.func144 rfl rfl pletter_V pletter_N hr ?_ rfl rfl
 refine so_split hE 2 rfl ?_ ?_
 ·refine so_need ?_
  exact so_ret (fin_bs [] (.inr rfl) rfl rfl rfl rfl rfl)
 refine so_need ?_
 exact so_ret (fin_bs [] (.inr rfl) rfl rfl rfl rfl rfl)
theorem c_pletter_ok : CtOk (GGx kCa kDb) PP (144, c_pletter) := by
 refine ct_mk Tryz.func144 (by kernel_rfl) rfl fun a0 h0 c0 v0 N0 e hc => ?_
 unfold c_pletter at e
 split at e
 ·rename_i p_0
  obtain ⟨hl, r, hr, rfl, rfl⟩ := ret_ok e hc
  exact pletter_snd p_0 hr
 ·cases e
def pparse_s1 : Int → Int → Option (Int ⊕ Unit ⊕ Int) := fun (c s5 : Int) => let x12 := !decide (s5 = 0); bif decide (s5 ≤ 15) then needO (!x12 || (pletter s5).isSome) (bif x12 && decide ((pletter s5).getD 0 = c) then escO (escO (some s5)) else some (Sum.inl (IntKind.i8.wrap (s5 + 1)))) else some (Sum.inr (Sum.inl ()))
def pparse (c : Int) : Option (Int) := loopO (pparse_s1 c) (fun (_s10 : Unit) => some 0) 1000000 (-15)
def pparse_V (R : Int) : V := .int .i8 R
def pparse_N (_R : Int) : List O := []
def c_pparse : CF
 | [.int .u8 c_0], [] => retC true (pparse c_0) 0 pparse_V pparse_N
 | _, _ => none
theorem pparse_snd (c : Int) {r} (hr : pparse c = some r) : FnSound (GGx kCa kDb) PP 181 [.int .u8 c] [] (pparse_V r) (pparse_N r) := by
 have hE := cutE (EE_ok (kCa := kCa) (kDb := kDb) (cts := [(144, c_pletter)]) (inl := []) ⟨c_pletter_ok, trivial⟩ trivial)
 refine so_fn hE 2 Tryz.func181 rfl rfl pparse_V pparse_N hr ?_ rfl rfl
 refine so_loop hE 2 (fun (s5 : Int) => ([(0, V.int IntKind.u8 c), (2, V.int IntKind.i8 0), (3, V.int IntKind.i8 s5)], [])) (fun (s10 : Unit) => ([(2, V.int IntKind.i8 0)], [])) (.exit 0) ((Ent.rn [] [0, 2, 3] rfl rfl rfl rfl rfl)) (fun s5 => ?_) (fun s10 => ?_)
 ·refine so_split hE 2 rfl ?_ ?_
  ·refine so_triv (Bool.not_or_self _) ?_
   refine so_as (pi (pl rfl id)) ?_
   refine so_triv (Bool.not_or_self _) ?_
   refine so_triv (Bool.not_or_self _) ?_
   refine so_triv (Bool.not_or_self _) ?_
   refine so_split hE 2 rfl ?_ ?_
   ·refine so_out (by simp) (so_out1 ?_)
    exact so_ret (fin_bs [] (.inr rfl) rfl rfl rfl rfl rfl)
   exact so_next ((Ent.rn [] [0, 2, 3] rfl rfl rfl rfl rfl))
  exact so_exit ((Ent.rn [] [2] rfl rfl rfl rfl rfl))
 exact so_ret (fin_bs [] (.inr rfl) rfl rfl rfl rfl rfl)
theorem c_pparse_ok : CtOk (GGx kCa kDb) PP (181, c_pparse) := by
 refine ct_mk Tryz.func181 (by kernel_rfl) rfl fun a0 h0 c0 v0 N0 e hc => ?_
 unfold c_pparse at e
 split at e
 ·rename_i c_0
  obtain ⟨hl, r, hr, rfl, rfl⟩ := ret_ok e hc
  exact pparse_snd c_0 hr
 ·cases e
end Go.Ab

set_option maxRecDepth 100000
set_option maxHeartbeats 4000000
namespace Go.Ab
open Go.Proofs
variable {kCa kDb : Bool}
def btext_s1 : Bd → List UInt8 × Int → List UInt8 × Int × Int → Option (List UInt8 × Int × Int ⊕ List UInt8 × Int × Int × Bool ⊕ List UInt8 × Int ⊕ List UInt8 ⊕ List UInt8) := fun (b : Bd) (s33 : List UInt8 × Int) => let x72 := (#[48, 49, 50, 51, 52, 53, 54, 55, 56] : Array UInt8).toList; let x73 := IntKind.i64.wrap (s33.2 * b.f); let x71 := Int.ofNat x72.length; fun (s43 : List UInt8 × Int × Int) => let x81 := decide (s43.2.2 < b.f); let x82 := decide (s43.2.2 ≤ b.f); let x83 := IntKind.i64.wrap (s43.2.1 + 1); let x84 := IntKind.i64.wrap (s43.2.2 + 1); let x85 := IntKind.i64.wrap (x73 + s43.2.2); let x75 := decide (0 ≤ x85) && decide (x85 < Int.ofNat b.zs.length); let x78 := List.take (x83.toNat - s43.2.1.toNat) (List.drop s43.2.1.toNat x72); let x80 := b.zs.getD x85.toNat 0; let x76 := s43.1.length + x78.length; let x79 := bytesS (List.take 1 (List.drop 0 (iL [(pletter x80).getD 0]))); let x77 := x79.length; bif x82 then needO (!x81 || x75) (bif x81 && decide (x80 = 0) then some (Sum.inl (s43.1, x83, x84)) else joinO (bif decide (0 < s43.2.1) then needO (decide (0 ≤ s43.2.1) && decide (s43.2.1 ≤ x83) && decide (x83 ≤ x71)) (needO (decide (x76 ≤ 4611686018427387904)) (some (Sum.inl (s43.1 ++ x78, 0)))) else some (Sum.inl (s43.1, s43.2.1))) fun (s46 : List UInt8 × Int) => let x87 := s46.1.length + x77; joinO (bif x81 then needO x75 (callO (pletter x80) Inhabited.default fun (_y47 : Int) => needO (decide (x87 ≤ 4611686018427387904)) (some (Sum.inl (s46.1 ++ x79)))) else some (Sum.inl s46.1)) fun (s49 : List UInt8) => some (Sum.inl (s49, s46.2, x84))) else some (Sum.inr (Sum.inl (s43.1, s43.2.1, s43.2.2, x82)))
def btext_s2 : Bd → (Bd → List UInt8 × Int → List UInt8 × Int × Int → Option (List UInt8 × Int × Int ⊕ List UInt8 × Int × Int × Bool ⊕ List UInt8 × Int ⊕ List UInt8 ⊕ List UInt8)) → List UInt8 × Int → Option (List UInt8 × Int ⊕ List UInt8 ⊕ List UInt8) := fun (b : Bd) (btext_s1 : Bd → List UInt8 × Int → List UInt8 × Int × Int → Option (List UInt8 × Int × Int ⊕ List UInt8 × Int × Int × Bool ⊕ List UInt8 × Int ⊕ List UInt8 ⊕ List UInt8)) => let x91 := (#[47] : Array UInt8).toList.length; fun (s33 : List UInt8 × Int) => let x93 := s33.1.length + x91; bif decide (0 ≤ s33.2) then joinO (bif !s33.1 == (#[] : Array UInt8).toList then needO (decide (x93 ≤ 4611686018427387904)) (some (Sum.inl (s33.1 ++ (#[47] : Array UInt8).toList))) else some (Sum.inl s33.1)) fun (s35 : List UInt8) => loopO (btext_s1 b s33) (fun (s62 : List UInt8 × Int × Int × Bool) => some (Sum.inl (s62.1, IntKind.i64.wrap (s33.2 - 1)))) 1000000 (s35, 0, 0) else some (Sum.inr (Sum.inl s33.1))
def btext (b : Bd) : Option (List UInt8) := loopO (btext_s2 b btext_s1) (fun (s70 : List UInt8) => some s70) 1000000 ((#[] : Array UInt8).toList, IntKind.i64.wrap (b.r - 1))
def btext_V (R : List UInt8) : V := .str R
def btext_N (_R : List UInt8) : List O := []
def c_btext : CF
 | [.agg [.int .i64 b_0, .int .i64 b_1, .sl 0 0 b_2n none]], [.ints false .i8 b_2] => retC (decide (b_2n = b_2.length)) (btext ⟨b_0, b_1, b_2⟩) [] btext_V btext_N
 | _, _ => none
theorem btext_snd (b : Bd) {r} (hr : btext b = some r) : FnSound (GGx kCa kDb) PP 91 [.agg [.int .i64 b.f, .int .i64 b.r, .sl 0 0 b.zs.length none]] [.ints false .i8 b.zs] (btext_V r) (btext_N r) := by
 have hE := cutE (EE_ok (kCa := kCa) (kDb := kDb) (cts := [(144, c_pletter)]) (inl := []) ⟨c_pletter_ok, trivial⟩ trivial)
 refine so_fn hE 2 Tryz.func91 rfl rfl btext_V btext_N hr ?_ rfl rfl
 refine so_loop hE 2 (fun (s33 : List UInt8 × Int) => ([(1, V.ptr 1 0 0), (2, V.str (#[] : Array UInt8).toList), (3, V.str s33.1), (4, V.int IntKind.i64 s33.2)], [O.ints false IntKind.i8 b.zs, O.cells true [V.int IntKind.i64 b.f, V.int IntKind.i64 b.r, V.sl 0 0 b.zs.length none]])) (fun (s70 : List UInt8) => ([(2, V.str (#[] : Array UInt8).toList), (3, V.str s70)], [O.ints false IntKind.i8 b.zs])) (.exit 0) ((Ent.rn [0, 1] [1, 2, 3, 4] rfl rfl rfl rfl rfl)) (fun s33 => ?_) (fun s70 => ?_)
 ·refine so_split hE 2 rfl ?_ ?_
  ·refine so_join hE 2 (fun (s35 : List UInt8) => ([(1, V.ptr 1 0 0), (2, V.str (#[] : Array UInt8).toList), (3, V.str s35), (4, V.int IntKind.i64 s33.2), (11, V.int IntKind.i64 s33.2), (12, V.bool (decide (0 ≤ s33.2))), (15, V.str s33.1), (16, V.bool !s33.1 == (#[] : Array UInt8).toList)], [O.ints false IntKind.i8 b.zs, O.cells true [V.int IntKind.i64 b.f, V.int IntKind.i64 b.r, V.sl 0 0 b.zs.length none]])) rfl ?_ ?_ (fun s35 => ?_)
   ·refine so_need ?_
    exact so_nrm ((Ent.rn [0, 1] [1, 2, 3, 4, 11, 12, 15, 16] rfl rfl rfl rfl rfl))
   ·exact so_nrm ((Ent.rn [0, 1] [1, 2, 3, 4, 11, 12, 15, 16] rfl rfl rfl rfl rfl))
   refine so_loop hE 2 (fun (s43 : List UInt8 × Int × Int) => ([(1, V.ptr 1 0 0), (2, V.str (#[] : Array UInt8).toList), (3, V.str s43.1), (4, V.int IntKind.i64 s33.2), (5, V.int IntKind.i64 s43.2.1), (6, V.int IntKind.i64 s43.2.2), (11, V.int IntKind.i64 s33.2), (12, V.bool (decide (0 ≤ s33.2))), (15, V.str s33.1), (16, V.bool !s33.1 == (#[] : Array UInt8).toList)], [O.ints false IntKind.i8 b.zs, O.cells true [V.int IntKind.i64 b.f, V.int IntKind.i64 b.r, V.sl 0 0 b.zs.length none]])) (fun (s62 : List UInt8 × Int × Int × Bool) => let x103 := s62.2.2.1; ([(1, V.ptr 1 0 0), (2, V.str (#[] : Array UInt8).toList), (3, V.str s62.1), (4, V.int IntKind.i64 s33.2), (5, V.int IntKind.i64 s62.2.1), (6, V.int IntKind.i64 x103), (11, V.int IntKind.i64 s33.2), (12, V.bool (decide (0 ≤ s33.2))), (15, V.str s33.1), (16, V.bool !s33.1 == (#[] : Array UInt8).toList), (19, V.int IntKind.i64 x103), (20, V.ptr 1 0 0), (21, V.ptr 1 0 0), (22, V.int IntKind.i64 b.f), (23, V.bool s62.2.2.2)], [O.ints false IntKind.i8 b.zs, O.cells true [V.int IntKind.i64 b.f, V.int IntKind.i64 b.r, V.sl 0 0 b.zs.length none]])) (.exit 2) ((Ent.rn [0, 1] [1, 2, 3, 4, 5, 6, 11, 12, 15, 16] rfl rfl rfl rfl rfl)) (fun s43 => ?_) (fun s62 => ?_)
   ·refine so_split hE 2 rfl ?_ ?_
    ·refine so_triv (Bool.not_or_self _) ?_
     refine so_triv (Bool.not_or_self _) ?_
     refine so_triv (Bool.not_or_self _) ?_
     refine so_triv (Bool.not_or_self _) ?_
     refine so_triv (Bool.not_or_self _) ?_
     refine so_triv (Bool.not_or_self _) ?_
     refine so_triv (Bool.not_or_self _) ?_
     refine so_triv (Bool.not_or_self _) ?_
     refine so_triv (Bool.not_or_self _) ?_
     refine so_need ?_
     refine so_triv (Bool.not_or_self _) ?_
     refine so_triv (Bool.not_or_self _) ?_
     refine so_triv (Bool.not_or_self _) ?_
     refine so_split hE 2 rfl ?_ ?_
     ·exact so_next ((Ent.rn [0, 1] [1, 2, 3, 4, 5, 6, 11, 12, 15, 16] rfl rfl rfl rfl rfl))
     refine so_join hE 2 (let x104 := b.zs.getD (IntKind.i64.wrap (IntKind.i64.wrap (s33.2 * b.f) + s43.2.2)).toNat 0; let x105 := decide (s43.2.2 < b.f); fun (s46 : List UInt8 × Int) => ([(1, V.ptr 1 0 0), (2, V.str (#[] : Array UInt8).toList), (3, V.str s46.1), (4, V.int IntKind.i64 s33.2), (5, V.int IntKind.i64 s46.2), (6, V.int IntKind.i64 s43.2.2), (11, V.int IntKind.i64 s33.2), (12, V.bool (decide (0 ≤ s33.2))), (15, V.str s33.1), (16, V.bool !s33.1 == (#[] : Array UInt8).toList), (19, V.int IntKind.i64 s43.2.2), (20, V.ptr 1 0 0), (21, V.ptr 1 0 0), (22, V.int IntKind.i64 b.f), (23, V.bool (decide (s43.2.2 ≤ b.f))), (26, V.int IntKind.i64 s43.2.2), (27, V.ptr 1 0 0), (28, V.ptr 1 0 0), (29, V.int IntKind.i64 b.f), (30, V.bool x105), (31, V.bool x105), (44, V.bool (x105 && decide (x104 = 0))), (47, V.int IntKind.i64 s43.2.1), (48, V.bool (decide (0 < s43.2.1)))], [O.ints false IntKind.i8 b.zs, O.cells true [V.int IntKind.i64 b.f, V.int IntKind.i64 b.r, V.sl 0 0 b.zs.length none]])) rfl ?_ ?_ (fun s46 => ?_)
     ·refine so_need ?_
      refine so_need ?_
      exact so_nrm ((Ent.rn [0, 1] [1, 2, 3, 4, 5, 6, 11, 12, 15, 16, 19, 20, 21, 22, 23, 26, 27, 28, 29, 30, 31, 44, 47, 48] rfl rfl rfl rfl rfl))
     ·exact so_nrm ((Ent.rn [0, 1] [1, 2, 3, 4, 5, 6, 11, 12, 15, 16, 19, 20, 21, 22, 23, 26, 27, 28, 29, 30, 31, 44, 47, 48] rfl rfl rfl rfl rfl))
     refine so_join hE 2 (let x107 := b.zs.getD (IntKind.i64.wrap (IntKind.i64.wrap (s33.2 * b.f) + s43.2.2)).toNat 0; let x108 := decide (s43.2.2 < b.f); fun (s49 : List UInt8) => ([(1, V.ptr 1 0 0), (2, V.str (#[] : Array UInt8).toList), (3, V.str s49), (4, V.int IntKind.i64 s33.2), (5, V.int IntKind.i64 s46.2), (6, V.int IntKind.i64 s43.2.2), (11, V.int IntKind.i64 s33.2), (12, V.bool (decide (0 ≤ s33.2))), (15, V.str s33.1), (16, V.bool !s33.1 == (#[] : Array UInt8).toList), (19, V.int IntKind.i64 s43.2.2), (20, V.ptr 1 0 0), (21, V.ptr 1 0 0), (22, V.int IntKind.i64 b.f), (23, V.bool (decide (s43.2.2 ≤ b.f))), (26, V.int IntKind.i64 s43.2.2), (27, V.ptr 1 0 0), (28, V.ptr 1 0 0), (29, V.int IntKind.i64 b.f), (30, V.bool x108), (31, V.bool x108), (44, V.bool (x108 && decide (x107 = 0))), (47, V.int IntKind.i64 s43.2.1), (48, V.bool (decide (0 < s43.2.1))), (55, V.int IntKind.i64 s43.2.2), (56, V.ptr 1 0 0), (57, V.ptr 1 0 0), (58, V.int IntKind.i64 b.f), (59, V.bool x108)], [O.ints false IntKind.i8 b.zs, O.cells true [V.int IntKind.i64 b.f, V.int IntKind.i64 b.r, V.sl 0 0 b.zs.length none]])) rfl ?_ ?_ (fun s49 => ?_)
     ·refine so_need ?_
      refine so_as (pl rfl id) ?_
      refine so_need ?_
      exact so_nrm ((Ent.rn [0, 1] [1, 2, 3, 4, 5, 6, 11, 12, 15, 16, 19, 20, 21, 22, 23, 26, 27, 28, 29, 30, 31, 44, 47, 48, 55, 56, 57, 58, 59] rfl rfl rfl rfl rfl))
     ·exact so_nrm ((Ent.rn [0, 1] [1, 2, 3, 4, 5, 6, 11, 12, 15, 16, 19, 20, 21, 22, 23, 26, 27, 28, 29, 30, 31, 44, 47, 48, 55, 56, 57, 58, 59] rfl rfl rfl rfl rfl))
     exact so_next ((Ent.rn [0, 1] [1, 2, 3, 4, 5, 6, 11, 12, 15, 16] rfl rfl rfl rfl rfl))
    exact so_exit ((Ent.rn [0, 1] [1, 2, 3, 4, 5, 6, 11, 12, 15, 16, 19, 20, 21, 22, 23] rfl rfl rfl rfl rfl))
   exact so_next ((Ent.rn [0, 1] [1, 2, 3, 4] rfl rfl rfl rfl rfl))
  exact so_exit ((Ent.rn [0] [2, 3] rfl rfl rfl rfl rfl))
 exact so_ret (fin_bs [] (.inr rfl) rfl rfl rfl rfl rfl)
theorem c_btext_ok : CtOk (GGx kCa kDb) PP (91, c_btext) := by
 refine ct_mk Tryz.func91 (by kernel_rfl) rfl fun a0 h0 c0 v0 N0 e hc => ?_
 unfold c_btext at e
 split at e
 ·rename_i b_0 b_1 b_2n b_2
  obtain ⟨hl, r, hr, rfl, rfl⟩ := ret_ok e hc
  simp only [decide_eq_true_eq] at hl
  obtain rfl := hl
  exact btext_snd ⟨b_0, b_1, b_2⟩ hr
 ·cases e
end Go.Ab

set_option maxRecDepth 100000
set_option maxHeartbeats 4000000
namespace Go.Ab
open Go.Proofs
variable {kCa kDb : Bool}
def cast6_s1 : Int → List UInt8 × Int → Option (List UInt8 × Int ⊕ List UInt8 × Int × Bool ⊕ Int ⊕ Unit ⊕ Int) := fun (s27 : Int) => let x54 := (#[75, 81, 107, 113] : Array UInt8).toList; let x53 := Int.ofNat x54.length; fun (s33 : List UInt8 × Int) => let x58 := (s27.fdiv (2 ^ Min.min s33.2.toNat IntKind.i64.bits)).tmod 2; let x59 := decide (s33.2 < 4); let x60 := decide (0 ≤ s33.2); let x61 := IntKind.i64.wrap (s33.2 + 1); let x57 := List.take (x61.toNat - s33.2.toNat) (List.drop s33.2.toNat x54); let x56 := s33.1.length + x57.length; bif x59 then needO x60 (joinO (bif decide (x58 = 1) then needO (x60 && decide (s33.2 ≤ x61) && decide (x61 ≤ x53)) (needO (decide (x56 ≤ 4611686018427387904)) (some (Sum.inl (s33.1 ++ x57)))) else some (Sum.inl s33.1)) fun (s35 : List UInt8) => some (Sum.inl (s35, x61))) else some (Sum.inr (Sum.inl (s33.1, s33.2, x59)))
def cast6_s2 : List UInt8 → (Int → List UInt8 × Int → Option (List UInt8 × Int ⊕ List UInt8 × Int × Bool ⊕ Int ⊕ Unit ⊕ Int)) → Int → Option (Int ⊕ Unit ⊕ Int) := fun (s : List UInt8) (cast6_s1 : Int → List UInt8 × Int → Option (List UInt8 × Int ⊕ List UInt8 × Int × Bool ⊕ Int ⊕ Unit ⊕ Int)) (s27 : Int) => bif decide (s27 < 16) then loopO (cast6_s1 s27) (fun (s45 : List UInt8 × Int × Bool) => joinO (bif s45.1 == (#[] : Array UInt8).toList then some (Sum.inl (#[45] : Array UInt8).toList) else some (Sum.inl s45.1)) fun (s47 : List UInt8) => bif s47 == s then escO (escO (some s27)) else some (Sum.inl (IntKind.i64.wrap (s27 + 1)))) 1000000 ((#[] : Array UInt8).toList, 0) else some (Sum.inr (Sum.inl ()))
def cast6 (s : List UInt8) : Option (Int) := loopO (cast6_s2 s cast6_s1) (fun (_s52 : Unit) => some (-1)) 1000000 0
def cast6_V (R : Int) : V := .int .i64 R
def cast6_N (_R : Int) : List O := []
def c_cast6 : CF
 | [.str s_0], [] => retC true (cast6 s_0) 0 cast6_V cast6_N
 | _, _ => none
theorem cast6_snd (s : List UInt8) {r} (hr : cast6 s = some r) : FnSound (GGx kCa kDb) PP 143 [.str s] [] (cast6_V r) (cast6_N r) := by
 have hE := cutE (EE_ok (kCa := kCa) (kDb := kDb) (cts := []) (inl := []) trivial trivial)
 refine so_fn hE 2 Tryz.func143 rfl rfl cast6_V cast6_N hr ?_ rfl rfl
 refine so_loop hE 2 (fun (s27 : Int) => ([(0, V.str s), (2, V.int IntKind.i64 0), (3, V.int IntKind.i64 s27)], [])) (fun (s52 : Unit) => ([(2, V.int IntKind.i64 0)], [])) (.exit 0) ((Ent.rn [] [0, 2, 3] rfl rfl rfl rfl rfl)) (fun s27 => ?_) (fun s52 => ?_)
 ·refine so_split hE 2 rfl ?_ ?_
  ·refine so_loop hE 2 (fun (s33 : List UInt8 × Int) => ([(0, V.str s), (2, V.int IntKind.i64 0), (3, V.int IntKind.i64 s27), (4, V.str s33.1), (5, V.int IntKind.i64 s33.2), (6, V.int IntKind.i64 s27), (7, V.bool (decide (s27 < 16)))], [])) (fun (s45 : List UInt8 × Int × Bool) => ([(0, V.str s), (2, V.int IntKind.i64 0), (3, V.int IntKind.i64 s27), (4, V.str s45.1), (5, V.int IntKind.i64 s45.2.1), (6, V.int IntKind.i64 s27), (7, V.bool (decide (s27 < 16))), (10, V.int IntKind.i64 s45.2.1), (11, V.bool s45.2.2)], [])) (.exit 2) ((Ent.rn [] [0, 2, 3, 4, 5, 6, 7] rfl rfl rfl rfl rfl)) (fun s33 => ?_) (fun s45 => ?_)
   ·refine so_split hE 2 rfl ?_ ?_
    ·refine so_need ?_
     refine so_triv rfl ?_
     refine so_join hE 2 (let x74 := s27.fdiv (2 ^ Min.min s33.2.toNat IntKind.i64.bits); let x73 := x74.tmod 2; fun (s35 : List UInt8) => ([(0, V.str s), (2, V.int IntKind.i64 0), (3, V.int IntKind.i64 s27), (4, V.str s35), (5, V.int IntKind.i64 s33.2), (6, V.int IntKind.i64 s27), (7, V.bool (decide (s27 < 16))), (10, V.int IntKind.i64 s33.2), (11, V.bool (decide (s33.2 < 4))), (14, V.int IntKind.i64 s27), (15, V.int IntKind.i64 s33.2), (16, V.int IntKind.i64 x74), (17, V.int IntKind.i64 x73), (18, V.bool (decide (x73 = 1)))], [])) rfl ?_ ?_ (fun s35 => ?_)
     ·refine so_need ?_
      refine so_need ?_
      exact so_nrm ((Ent.rn [] [0, 2, 3, 4, 5, 6, 7, 10, 11, 14, 15, 16, 17, 18] rfl rfl rfl rfl rfl))
     ·exact so_nrm ((Ent.rn [] [0, 2, 3, 4, 5, 6, 7, 10, 11, 14, 15, 16, 17, 18] rfl rfl rfl rfl rfl))
     exact so_next ((Ent.rn [] [0, 2, 3, 4, 5, 6, 7] rfl rfl rfl rfl rfl))
    exact so_exit ((Ent.rn [] [0, 2, 3, 4, 5, 6, 7, 10, 11] rfl rfl rfl rfl rfl))
   refine so_join hE 2 (fun (s47 : List UInt8) => ([(0, V.str s), (2, V.int IntKind.i64 0), (3, V.int IntKind.i64 s27), (4, V.str s47), (5, V.int IntKind.i64 s45.2.1), (6, V.int IntKind.i64 s27), (7, V.bool (decide (s27 < 16))), (10, V.int IntKind.i64 s45.2.1), (11, V.bool s45.2.2), (25, V.str s45.1), (26, V.bool (s45.1 == (#[] : Array UInt8).toList))], [])) rfl ?_ ?_ (fun s47 => ?_)
   ·exact so_nrm ((Ent.rn [] [0, 2, 3, 4, 5, 6, 7, 10, 11, 25, 26] rfl rfl rfl rfl rfl))
   ·exact so_nrm ((Ent.rn [] [0, 2, 3, 4, 5, 6, 7, 10, 11, 25, 26] rfl rfl rfl rfl rfl))
   refine so_split hE 2 rfl ?_ ?_
   ·refine so_out (by simp) (so_out1 ?_)
    exact so_ret (fin_bs [] (.inr rfl) rfl rfl rfl rfl rfl)
   exact so_next ((Ent.rn [] [0, 2, 3] rfl rfl rfl rfl rfl))
  exact so_exit ((Ent.rn [] [2] rfl rfl rfl rfl rfl))
 exact so_ret (fin_bs [] (.inr rfl) rfl rfl rfl rfl rfl)
theorem c_cast6_ok : CtOk (GGx kCa kDb) PP (143, c_cast6) := by
 refine ct_mk Tryz.func143 (by kernel_rfl) rfl fun a0 h0 c0 v0 N0 e hc => ?_
 unfold c_cast6 at e
 split at e
 ·rename_i s_0
  obtain ⟨hl, r, hr, rfl, rfl⟩ := ret_ok e hc
  exact cast6_snd s_0 hr
 ·cases e
end Go.Ab
