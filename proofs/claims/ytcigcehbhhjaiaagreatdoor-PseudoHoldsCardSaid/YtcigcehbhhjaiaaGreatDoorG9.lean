/- Contracts of the functions that the laws reach, and plain laws of what they compute (text G9); no condition. -/
import Derived.Test.YtcigcehbhhjaiaaGreatDoorG8
import Derived.Test.YtcigcehbhhjaiaaGreatDoorG4
import Derived.Test.YtcigcehbhhjaiaaGreatDoorG7
set_option maxRecDepth 100000
set_option maxHeartbeats 4000000
namespace Go.Ab
open Go.Proofs Go.RowKit
variable {kDb : Bool}
theorem quiet_region {E : Env} {P : Program} {N : Nat} {tm : Tm} {hp : List O} {n : Nat} {B : Nat} {w0 : World} {S : Nat} {D : List Deferred} {gs : List (Nat × Obj)} {ρ : Ren} {a : Act} {w : World} (hE : E.Fn P) (m : Nat) {id : Nat} {ops : Array Oper} (hq : ops.toList.all (fun o => quietOp o.op) = true) {Q2 : Tm → List O → Prop} {K : Act → World → Prop}
  (hs : sat E.G P (fun _ tm hp => Q2 tm hp) (evOps E (hdl E m) N ops.toList ops.toList tm hp (.ret .normal) noX)) (h : Rel E.G B w0 S N D gs ρ tm hp a w) (hd : a.defers = D)
  (hK : ∀ a' w' tm' hp' ρ', Rel E.G B w0 S N D gs ρ' tm' hp' a' w' → a'.defers = D → ρ.le ρ' → Q2 tm' hp' → K a' w') : (Code.region id ops false).wpIn (Fr none) n P (fun e a' w' => e = .normal ∧ K a' w') a w := by
 refine wpIn_region ?_
 have h1 := evOps_gen (n := n) (ro := none) (ρ0 := ρ) (tl := []) (suf := []) (Qx := fun e a' w' => e = .normal ∧ ∃ tm1 hp1 ρ1, Rel E.G B w0 S N D gs ρ1 tm1 hp1 a' w' ∧ ρ.le ρ1 ∧ Q2 tm1 hp1) hE.ok (ps_ok hE) (hdl_ok hE m) (ops := ops)
  (fun a' w' ⟨tm1, hp1, ρ1, r1, r2, r3⟩ => ⟨rfl, tm1, hp1, ρ1, r1, r2, r3⟩) (fun e a2 w2 ⟨_, _, _, _, _, q⟩ => q.elim) ops.toList [] tm hp ρ a w (by simp) hs h (Ren.le_refl ρ)
 rw [List.append_nil, List.length_nil, Array.length_toList, ← List.range_eq_range'] at h1
 rw [← List.append_nil (List.range ops.size)]
 refine quiet_ops (fun e a w he hq => absurd hq.1 he) _ a w (fun i _ o ho => ?_) h1 ?_
 ·rw [← Array.getElem?_toList] at ho
  exact List.all_eq_true.1 hq o (List.mem_of_getElem? ho)
 ·rintro a1 w1 hd1 ⟨_, tm1, hp1, ρ1, r1, r2, r3⟩
  exact ⟨rfl, hK a1 w1 tm1 hp1 ρ1 r1 (hd1.trans hd) r2 r3⟩
abbrev u8andn (a b : Int) : Int := band .andNot .u8 a b
def epB (zs : List Int) (pa a b : Int) : Bool := decide (absP (zs.getD a.toNat 0) = 1) && decide (b = pa)
def at1R (f : Int) (zs : List Int) (pa a b : Int) : Int := bif epB zs pa a b then IntKind.i64.wrap (IntKind.i64.wrap (a - a.tmod f) + b.tmod f) else b
def capR (f : Int) (zs : List Int) (pa a b : Int) : Int := zs.getD (at1R f zs pa a b).toNat 0
def at2R (f : Int) (zs : List Int) (pa a b : Int) : Int := bif decide (capR f zs pa a b = 0) then -1 else at1R f zs pa a b
def zs1R (f : Int) (zs : List Int) (pa a b : Int) : List Int := bif decide (0 ≤ at2R f zs pa a b) then zs.set (at2R f zs pa a b).toNat 0 else zs
def zs2R (f : Int) (zs : List Int) (pa a b : Int) : List Int := ((zs1R f zs pa a b).set a.toNat 0).set b.toNat (zs.getD a.toNat 0)
def cstR (f r : Int) (zs : List Int) (bl : Bool) (ca pa a b pr : Int) : Bool := wayB f r zs (wayN zs bl ca a b) && !goesB f r zs bl pa a b pr
def putR (l : List Int) (bl : Bool) (b pr : Int) (c : Bool) (n : Nat) : List Int := bif !decide (pr = 0) && bl then l.set b.toNat (w8 (0 - pr)) else bif !decide (pr = 0) then l.set b.toNat pr else bif c then (l.set (wCro n).toNat (l.getD (wCor n).toNat 0)).set (wCor n).toNat 0 else l
def zs3R (f r : Int) (zs : List Int) (bl : Bool) (ca pa a b pr : Int) : List Int := putR (zs2R f zs pa a b) bl b pr (cstR f r zs bl ca pa a b pr) (wayN zs bl ca a b)
def caR (ca a b : Int) : Int := u8andn ca (u8or (lostR a) (lostR b))
def twoB (f : Int) (zs : List Int) (a b : Int) : Bool := decide (absP (zs.getD a.toNat 0) = 1) && (decide (IntKind.i64.wrap (b - a) = IntKind.i64.wrap (2 * f)) || decide (IntKind.i64.wrap (b - a) = IntKind.i64.wrap (-2 * f)))
def paR (f : Int) (zs : List Int) (a b : Int) : Int := bif twoB f zs a b then IntKind.i64.wrap (a + IntKind.i64.wrap ((IntKind.i64.wrap (b - a)).tdiv 2)) else -1
def haR (f : Int) (zs : List Int) (pa ha a b : Int) : Int := bif decide (absP (zs.getD a.toNat 0) = 1) || !decide (capR f zs pa a b = 0) then 0 else IntKind.i64.wrap (ha + 1)
def fuR (bl : Bool) (fu : Int) : Int := bif bl then IntKind.i64.wrap (fu + 1) else fu
def err1 (p : Psn) (m : Mov) : Bool := !p.ok || !mvB p.f p.r m.a m.b m.p
def err3 (p : Psn) (m : Mov) : Bool := isP (p.zs.getD m.b.toNat 0) p.bl || (!goesB p.f p.r p.zs p.bl p.pa m.a m.b m.p && (!wayB p.f p.r p.zs (wayN p.zs p.bl p.ca m.a m.b) || !decide (m.p = 0)))
def err4 (p : Psn) (m : Mov) : Bool := chkB p.f p.r (zs3R p.f p.r p.zs p.bl p.ca p.pa m.a m.b m.p) p.bl || (cstR p.f p.r p.zs p.bl p.ca p.pa m.a m.b m.p && (chkB p.f p.r p.zs p.bl || !decide ((attackersR p.f p.r p.zs (wCro (wayN p.zs p.bl p.ca m.a m.b)) (!p.bl)).1 = 0)))
def err5 (p : Psn) (m : Mov) : Bool := decide (10000 < haR p.f p.zs p.pa p.ha m.a m.b) || decide (10000 < fuR p.bl p.fu)
def mkE5 (p : Psn) (m : Mov) : Int := bif err1 p m then 2 else bif !isP (p.zs.getD m.a.toNat 0) p.bl then 9 else bif err3 p m then 10 else bif err4 p m then 90 else bif err5 p m then 7 else 0
def mkP (p : Psn) (m : Mov) : Psn := bif decide (mkE5 p m = 0) then ⟨p.f, p.r, zs3R p.f p.r p.zs p.bl p.ca p.pa m.a m.b m.p, !p.bl, caR p.ca m.a m.b, paR p.f p.zs m.a m.b, haR p.f p.zs p.pa p.ha m.a m.b, fuR p.bl p.fu⟩ else ⟨0, 0, [], false, 0, 0, 0, 0⟩
def mkU (p : Psn) (m : Mov) : Und := bif decide (mkE5 p m = 0) then ⟨m, capR p.f p.zs p.pa m.a m.b, at2R p.f p.zs p.pa m.a m.b, p.ca, p.pa, p.ha, p.fu⟩ else ⟨⟨0, 0, 0⟩, 0, 0, 0, 0, 0, 0⟩
abbrev psV (b : Nat) (p : Psn) : V := .agg [I p.f, I p.r, .sl b 0 p.zs.length none, Bb p.bl, .int .u8 p.ca, I p.pa, I p.ha, I p.fu]
abbrev unV (u : Und) : V := .agg [I u.m.a, I u.m.b, .int .i8 u.m.p, .int .i8 u.c, I u.at_, .int .u8 u.ca, I u.pa, I u.ha, I u.fu]
theorem pnR_ok : ∀ a b v, pnRefuse 36 a = some (b, v) → PnSound PP 45 a b v := by
 intro a b v h
 unfold pnRefuse at h
 split at h
 ·cases h; exact refuse_pn _ _ _
 ·cases h
def seqTail : Code → Code
 | .seq _ y => y
 | c => c
noncomputable abbrev EM (kDb : Bool) : Env := { mkEP tyT (GGx true kDb) [(46, c_pvalid), (47, c_mvalid), (48, c_is), (51, c_kind), (49, c_mcastling), (50, c_mgoes), (52, c_pcopy), (53, c_mlost), (54, c_Attackers), (55, c_mchk)] [] [(45, pnRefuse 36)] with cut := true }
theorem EM_ok {kDb : Bool} : (EM kDb).Fn PP := cutE (envP_ok mixedOk tyOk ⟨c_pvalid_ok, c_mvalid_ok, c_is_ok, c_kind_ok, c_mcastling_ok, c_mgoes_ok, c_pcopy_ok, c_mlost_ok, c_Attackers_ok, c_mchk_ok, trivial⟩ trivial ⟨pnR_ok, trivial⟩)
theorem mk_pan {kDb : Bool} {zs : List Int} {B1 B2 : O} (n : Int) (hn : (!decide (n = 0)) = true) (o1 o2 o3 o4 o5 o6 o7 o8 u1 u2 u3 u4 u5 u6 u7 u8 u9 : V) :
  Lv (EM kDb) PP (fun tm hp => FinL (EM kDb) Tryz.f15 1 (.tup [psV 1 ⟨0, 0, [], false, 0, 0, 0, 0⟩, unV ⟨⟨0, 0, 0⟩, 0, 0, 0, 0, 0, 0⟩, I n]) [.ints true .i8 []] .ret tm hp) [⟨44, [], [.ptr 5 0 0]⟩, ⟨43, [.ptr 5 0 0, .ptr 3 0 0, .ptr 4 0 0], []⟩]
   (.panicking [{ v := .iface 36 (.int .i64 n), recovered := false }]) [(4, .ptr 3 0 0), (5, .ptr 4 0 0), (6, .ptr 5 0 0)] [.ints false .i8 zs, B1, B2, .cells true [o1, o2, o3, o4, o5, o6, o7, o8], .cells true [u1, u2, u3, u4, u5, u6, u7, u8, u9], .cells true [I 0]] := by
 have hE := EM_ok (kDb := kDb)
 refine ⟨by simp, _, _, refused_panic (kCa := true) (kDb := kDb) (b := 5) (v0 := I 0) rfl, ?_⟩
 rintro _ rfl
 refine ⟨by simp [Go.settle], _, fun hp' => hp' = [.ints false .i8 zs, B1, B2, .cells true [I 0, I 0, .nils, .lit false, .int .u8 0, I 0, I 0, I 0], .cells true [I 0, I 0, .int .i8 0, .int .i8 0, I 0, .int .u8 0, I 0, I 0, I 0], .cells true [I n]], defS_of hE 2 Tryz.func43 (by kernel_rfl) rfl rfl ?_, ?_⟩
 ·refine sat_split hE 2 rfl (fun _ => ?_) (fun h => absurd (hn.symm.trans h) (by simp))
  exact sat_ret ⟨.inl rfl, [], rfl, rfl⟩
 ·rintro _ rfl
  refine ⟨rfl, ?_⟩
  refine fin_le (Ent.phan (b := 3) (j := 2) (ww := true) (o := .ints true .i8 []) rfl rfl ⟨by simp, by simp, trivial, rfl⟩ (blt_lt rfl)) (fin_new 6 (.inr rfl) rfl rfl rfl rfl rfl rfl) (fun _ _ h => h)
theorem mk_pan7 {kDb : Bool} {zs : List Int} {B1 B2 : O} (lx : List Int) (n : Int) (hn : (!decide (n = 0)) = true) (o1 o2 o3 o4 o5 o6 o7 o8 u1 u2 u3 u4 u5 u6 u7 u8 u9 : V) :
  Lv (EM kDb) PP (fun tm hp => FinL (EM kDb) Tryz.f15 1 (.tup [psV 1 ⟨0, 0, [], false, 0, 0, 0, 0⟩, unV ⟨⟨0, 0, 0⟩, 0, 0, 0, 0, 0, 0⟩, I n]) [.ints true .i8 []] .ret tm hp) [⟨44, [], [.ptr 5 0 0]⟩, ⟨43, [.ptr 5 0 0, .ptr 3 0 0, .ptr 4 0 0], []⟩]
   (.panicking [{ v := .iface 36 (.int .i64 n), recovered := false }]) [(4, .ptr 3 0 0), (5, .ptr 4 0 0), (6, .ptr 5 0 0)] [.ints false .i8 zs, B1, B2, .cells true [o1, o2, o3, o4, o5, o6, o7, o8], .cells true [u1, u2, u3, u4, u5, u6, u7, u8, u9], .cells true [I 0], .ints true .i8 lx] := by
 have hE := EM_ok (kDb := kDb)
 refine ⟨by simp, _, _, refused_panic (kCa := true) (kDb := kDb) (b := 5) (v0 := I 0) rfl, ?_⟩
 rintro _ rfl
 refine ⟨by simp [Go.settle], _, fun hp' => hp' = [.ints false .i8 zs, B1, B2, .cells true [I 0, I 0, .nils, .lit false, .int .u8 0, I 0, I 0, I 0], .cells true [I 0, I 0, .int .i8 0, .int .i8 0, I 0, .int .u8 0, I 0, I 0, I 0], .cells true [I n], .ints true .i8 lx], defS_of hE 2 Tryz.func43 (by kernel_rfl) rfl rfl ?_, ?_⟩
 ·refine sat_split hE 2 rfl (fun _ => ?_) (fun h => absurd (hn.symm.trans h) (by simp))
  exact sat_ret ⟨.inl rfl, [], rfl, rfl⟩
 ·rintro _ rfl
  refine ⟨rfl, ?_⟩
  refine fin_le (Ent.phan (b := 3) (j := 2) (ww := true) (o := .ints true .i8 []) rfl rfl ⟨by simp, by simp, trivial, rfl⟩ (blt_lt rfl)) (fin_new 7 (.inr rfl) rfl rfl rfl rfl rfl rfl) (fun _ _ h => h)
theorem mk_ret {kDb : Bool} {zs : List Int} {B1 B2 : O} (q : Psn) (x : Und) (hq : q.zs.length = zs.length) :
  Lv (EM kDb) PP (fun tm hp => FinL (EM kDb) Tryz.f15 1 (.tup [psV 1 q, unV x, I 0]) [.ints true .i8 q.zs] .ret tm hp) [⟨44, [], [.ptr 5 0 0]⟩, ⟨43, [.ptr 5 0 0, .ptr 3 0 0, .ptr 4 0 0], []⟩]
   .returning [(4, .ptr 3 0 0), (5, .ptr 4 0 0), (6, .ptr 5 0 0)] [.ints false .i8 zs, B1, B2, .cells true [I q.f, I q.r, .sl 6 0 zs.length none, Bb q.bl, .int .u8 q.ca, I q.pa, I q.ha, I q.fu], .cells true [I x.m.a, I x.m.b, .int .i8 x.m.p, .int .i8 x.c, I x.at_, .int .u8 x.ca, I x.pa, I x.ha, I x.fu], .cells true [I 0], .ints true .i8 q.zs] := by
 have hE := EM_ok (kDb := kDb)
 refine ⟨by simp, _, _, refused_idle (kCa := true) (kDb := kDb) 5 _ 0, ?_⟩
 rintro _ rfl
 refine ⟨by simp [Go.settle], _, fun hp' => hp' = [.ints false .i8 zs, B1, B2, .cells true [I q.f, I q.r, .sl 6 0 zs.length none, Bb q.bl, .int .u8 q.ca, I q.pa, I q.ha, I q.fu], .cells true [I x.m.a, I x.m.b, .int .i8 x.m.p, .int .i8 x.c, I x.at_, .int .u8 x.ca, I x.pa, I x.ha, I x.fu], .cells true [I 0], .ints true .i8 q.zs], defS_of hE 2 Tryz.func43 (by kernel_rfl) rfl rfl ?_, ?_⟩
 ·refine sat_split hE 2 rfl (fun h => absurd h (by simp)) (fun _ => ?_)
  exact sat_ret ⟨.inl rfl, [], rfl, rfl⟩
 ·rintro _ rfl
  refine ⟨rfl, ?_⟩
  rw [← hq]
  exact fin_l0 (fin_new 6 (.inr rfl) rfl rfl rfl rfl rfl rfl)
theorem mk_err {p : Psn} {m : Mov} {n : Int} (h : mkE5 p m = n) (hn : (!decide (n = 0)) = true) : mkP p m = ⟨0, 0, [], false, 0, 0, 0, 0⟩ ∧ mkU p m = ⟨⟨0, 0, 0⟩, 0, 0, 0, 0, 0, 0⟩ := by
 have h0 : decide (mkE5 p m = 0) = false := by rw [h]; simpa using hn
 exact ⟨by rw [mkP, h0]; rfl, by rw [mkU, h0]; rfl⟩
theorem mk_pleaf {kDb : Bool} {zs : List Int} {B1 B2 : O} {p : Psn} {m : Mov} {n : Int} {tm : Tm} {hp : List O} {o1 o2 o3 o4 o5 o6 o7 o8 u1 u2 u3 u4 u5 u6 u7 u8 u9 : V} (he : mkE5 p m = n) (hn : (!decide (n = 0)) = true) (hent : Ent (GGx true kDb) 6 tm hp [(4, .ptr 3 0 0), (5, .ptr 4 0 0), (6, .ptr 5 0 0)] [.ints false .i8 zs, B1, B2, .cells true [o1, o2, o3, o4, o5, o6, o7, o8], .cells true [u1, u2, u3, u4, u5, u6, u7, u8, u9], .cells true [I 0]]) :
  FinDL (EM kDb) PP Tryz.f15 6 1 (.tup [psV 1 (mkP p m), unV (mkU p m), I (mkE5 p m)]) [.ints true .i8 (mkP p m).zs] [⟨44, [], [.ptr 5 0 0]⟩, ⟨43, [.ptr 5 0 0, .ptr 3 0 0, .ptr 4 0 0], []⟩] (.panic [{ v := .iface 36 (.int .i64 n), recovered := false }]) tm hp := by
 obtain ⟨h1, h2⟩ := mk_err he hn
 rw [h1, h2, he]
 exact ⟨_, _, _, rfl, hent, mk_pan n hn o1 o2 o3 o4 o5 o6 o7 o8 u1 u2 u3 u4 u5 u6 u7 u8 u9⟩
theorem mk_pleaf7 {kDb : Bool} {zs : List Int} {B1 B2 : O} {lx : List Int} {p : Psn} {m : Mov} {n : Int} {tm : Tm} {hp : List O} {o1 o2 o3 o4 o5 o6 o7 o8 u1 u2 u3 u4 u5 u6 u7 u8 u9 : V} (he : mkE5 p m = n) (hn : (!decide (n = 0)) = true) (hent : Ent (GGx true kDb) 6 tm hp [(4, .ptr 3 0 0), (5, .ptr 4 0 0), (6, .ptr 5 0 0)] [.ints false .i8 zs, B1, B2, .cells true [o1, o2, o3, o4, o5, o6, o7, o8], .cells true [u1, u2, u3, u4, u5, u6, u7, u8, u9], .cells true [I 0], .ints true .i8 lx]) :
  FinDL (EM kDb) PP Tryz.f15 6 1 (.tup [psV 1 (mkP p m), unV (mkU p m), I (mkE5 p m)]) [.ints true .i8 (mkP p m).zs] [⟨44, [], [.ptr 5 0 0]⟩, ⟨43, [.ptr 5 0 0, .ptr 3 0 0, .ptr 4 0 0], []⟩] (.panic [{ v := .iface 36 (.int .i64 n), recovered := false }]) tm hp := by
 obtain ⟨h1, h2⟩ := mk_err he hn
 rw [h1, h2, he]
 exact ⟨_, _, _, rfl, hent, mk_pan7 lx n hn o1 o2 o3 o4 o5 o6 o7 o8 u1 u2 u3 u4 u5 u6 u7 u8 u9⟩
theorem mk_rleaf {kDb : Bool} {zs : List Int} {B1 B2 : O} {p : Psn} {m : Mov} {q : Psn} {x : Und} {tm : Tm} {hp : List O} (he : mkE5 p m = 0) (h1 : mkP p m = q) (h2 : mkU p m = x) (hq : q.zs.length = zs.length) (hent : Ent (GGx true kDb) 6 tm hp [(4, .ptr 3 0 0), (5, .ptr 4 0 0), (6, .ptr 5 0 0)] [.ints false .i8 zs, B1, B2, .cells true [I q.f, I q.r, .sl 6 0 zs.length none, Bb q.bl, .int .u8 q.ca, I q.pa, I q.ha, I q.fu], .cells true [I x.m.a, I x.m.b, .int .i8 x.m.p, .int .i8 x.c, I x.at_, .int .u8 x.ca, I x.pa, I x.ha, I x.fu], .cells true [I 0], .ints true .i8 q.zs]) :
  FinDL (EM kDb) PP Tryz.f15 6 1 (.tup [psV 1 (mkP p m), unV (mkU p m), I (mkE5 p m)]) [.ints true .i8 (mkP p m).zs] [⟨44, [], [.ptr 5 0 0]⟩, ⟨43, [.ptr 5 0 0, .ptr 3 0 0, .ptr 4 0 0], []⟩] .ret tm hp := by
 rw [h1, h2, he]
 exact ⟨_, _, _, rfl, hent, mk_ret q x hq⟩
theorem need_g2 {zs : List Int} (h : zs.length ≤ 64) {n : Nat} (hn : n = zs.length) {g b : Bool} (hb : b = true) : (!g || (decide (n = (tk zs).length) && decide ((tk zs).length ≤ 64) && b)) = true := by
 rw [need_bdv h hn hb]; simp
theorem ok_bd {p : Psn} (h : p.ok = true) : validBd p.f p.r p.zs = true ∧ castB p.f p.r p.zs p.ca = true := by
 simp only [Psn.ok, Bool.and_eq_true] at h
 exact ⟨h.1.1.1.1.1, h.1.1.2⟩
theorem mv_ab {f r a b p : Int} (h : mvB f r a b p = true) : validB f r a = true ∧ validB f r b = true := by
 simp only [mvB, Bool.and_eq_true] at h
 exact ⟨h.1.1.1, h.1.1.2⟩
theorem ep_ok {f r a b : Int} (ha : validB f r a = true) (hb : validB f r b = true) : validB f r (IntKind.i64.wrap (IntKind.i64.wrap (a - a.tmod f) + b.tmod f)) = true ∧ IntKind.i64.wrap (IntKind.i64.wrap (a - a.tmod f) + b.tmod f) = px f b + py f a * f := by
 obtain ⟨_, a1, a2, a3, a4, a5, a6, a7, a8, a9⟩ := px_bd ha
 obtain ⟨_, b1, b2, b3, b4, b5, _⟩ := px_bd hb
 have h1 := valid_lt ha
 have h2 := valid_lt hb
 have hv := on_valid (X := px f b) (Y := py f a) (valid_vs ha) (on_mk b1 b2 a3 a4)
 have h3 := valid_lt hv.1
 have e1 : IntKind.i64.wrap (a - a.tmod f) = py f a * f := by
  have : a - a.tmod f = py f a * f := by have : a.tmod f = px f a := rfl; omega
  rw [this]; exact w64_id (by omega) (by omega)
 have e2 : IntKind.i64.wrap (IntKind.i64.wrap (a - a.tmod f) + b.tmod f) = px f b + py f a * f := by
  rw [e1, show py f a * f + b.tmod f = px f b + py f a * f by have : b.tmod f = px f b := rfl; omega]
  exact w64_id (by omega) (by omega)
 exact ⟨by rw [e2]; exact hv.1, e2⟩
theorem at1_ok {f r : Int} {zs : List Int} {pa a b : Int} (ha : validB f r a = true) (hb : validB f r b = true) : validB f r (at1R f zs pa a b) = true := by
 unfold at1R
 cases epB zs pa a b
 ·exact hb
 ·exact (ep_ok ha hb).1
theorem at2_ok {f r : Int} {zs : List Int} {pa a b : Int} (hbd : validBd f r zs = true) (ha : validB f r a = true) (hb : validB f r b = true) (h0 : 0 ≤ at2R f zs pa a b) : at2R f zs pa a b < zs.length := by
 unfold at2R at h0 ⊢
 cases h : decide (capR f zs pa a b = 0) with
 | true => rw [h] at h0; simp at h0
 | false => exact ((bd_sq hbd).1 (at1_ok ha hb)).2
theorem zs1_len {f : Int} {zs : List Int} {pa a b : Int} : (zs1R f zs pa a b).length = zs.length := by
 unfold zs1R; cases decide (0 ≤ at2R f zs pa a b) <;> simp
theorem zs2_len {f : Int} {zs : List Int} {pa a b : Int} : (zs2R f zs pa a b).length = zs.length := by
 simp [zs2R, zs1_len]
theorem put_len {l : List Int} {bl : Bool} {b pr : Int} {c : Bool} {n : Nat} : (putR l bl b pr c n).length = l.length := by
 unfold putR
 cases (!decide (pr = 0) && bl) <;> cases (!decide (pr = 0)) <;> cases c <;> simp
theorem zs3_len {f r : Int} {zs : List Int} {bl : Bool} {ca pa a b pr : Int} : (zs3R f r zs bl ca pa a b pr).length = zs.length := by
 rw [zs3R, put_len, zs2_len]
theorem need_out {l : List Int} {n : Nat} (h1 : n = l.length) (h2 : n ≤ 64) : (decide (n = ((l.drop 0).take n).length) && decide (((l.drop 0).take n).length ≤ 64)) = true := by
 subst h1; simp [h2]
theorem need_outg {l : List Int} {n : Nat} {g : Bool} (h1 : n = l.length) (h2 : n ≤ 64) : (!g || (decide (n = ((l.drop 0).take n).length) && decide (((l.drop 0).take n).length ≤ 64))) = true := by
 rw [need_out h1 h2]; simp
theorem need_ixt {zs : List Int} {b : Int} (h : 0 ≤ b) (h1 : b < zs.length) : (decide (0 ≤ b) && decide (b < (tk zs).length)) = true := by rw [tk_eq]; simp [h, h1]
theorem tk_n {l : List Int} {n : Nat} (h1 : n = l.length) : (l.drop 0).take n = l := by subst h1; simp
theorem cast_88 {f r : Int} {zs : List Int} {bl : Bool} {ca a b : Int} (hbd : validBd f r zs = true) (hc : castB f r zs ca = true) (hn : ¬ wayN zs bl ca a b = 4) : is88 f r = true ∧ zs.length = 64 ∧ 0 ≤ wCor (wayN zs bl ca a b) ∧ wCor (wayN zs bl ca a b) < 64 ∧ 0 ≤ wCro (wayN zs bl ca a b) ∧ wCro (wayN zs bl ca a b) < 64 := by
 have key : is88 f r = true := by
  unfold wayN at hn
  simp only [castB, rtX, Bool.and_eq_true, Bool.not_eq_true'] at hc
  obtain ⟨⟨⟨⟨c1, c2⟩, c3⟩, c4⟩, _⟩ := hc
  cases hk : (!decide (absP (zs.getD a.toNat 0) = 6)) with
  | true => rw [hk] at hn; exact absurd rfl hn
  | false =>
   rw [hk, cond_false] at hn
   have go : ∀ {bit : Int} {c : Bool} {k to : Int} {X Y : Bool}, csSkip bl ca a b c bit k to = false → ((!decide (u8and ca bit = 0)) && ((!is88 f r || X) || Y)) = false → is88 f r = true := by
    intro bit c k to X Y h1 h2
    simp only [csSkip, Bool.or_eq_false_iff] at h1
    rw [h1.1.1.2] at h2
    cases h8 : is88 f r with
    | true => rfl
    | false => rw [h8] at h2; simp at h2
   cases h1 : csSkip bl ca a b false 1 4 6 with
   | false => exact go h1 c1
   | true =>
    rw [h1] at hn
    cases h2 : csSkip bl ca a b false 2 4 2 with
    | false => exact go h2 c2
    | true =>
     rw [h2] at hn
     cases h3 : csSkip bl ca a b true 4 60 62 with
     | false => exact go h3 c3
     | true =>
      rw [h3] at hn
      cases h4 : csSkip bl ca a b true 8 60 58 with
      | false => exact go h4 c4
      | true => rw [h4] at hn; exact absurd rfl hn
 have h4 : wayN zs bl ca a b ≤ 4 := by
  unfold wayN
  cases (!decide (absP (zs.getD a.toNat 0) = 6)) <;> cases (!csSkip bl ca a b false 1 4 6) <;> cases (!csSkip bl ca a b false 2 4 2) <;> cases (!csSkip bl ca a b true 4 60 62) <;> cases (!csSkip bl ca a b true 8 60 58) <;> simp
 refine ⟨key, bd_88 hbd key, ?_⟩
 generalize wayN zs bl ca a b = n at h4 hn ⊢
 have : n = 0 ∨ n = 1 ∨ n = 2 ∨ n = 3 := by omega
 rcases this with rfl | rfl | rfl | rfl <;> decide
theorem mk_sound {kDb : Bool} {f r : Int} {zs : List Int} {bl : Bool} {ca pa ha fu a b pr : Int} (hc2 : zs.length ≤ 64) : FnSound (GGx true kDb) PP 15 [.agg [I f, I r, .sl 0 0 zs.length none, Bb bl, .int .u8 ca, I pa, I ha, I fu], .agg [I a, I b, .int .i8 pr]] [.ints false .i8 zs] (.tup [psV 1 (mkP ⟨f, r, zs, bl, ca, pa, ha, fu⟩ ⟨a, b, pr⟩), unV (mkU ⟨f, r, zs, bl, ca, pa, ha, fu⟩ ⟨a, b, pr⟩), I (mkE5 ⟨f, r, zs, bl, ca, pa, ha, fu⟩ ⟨a, b, pr⟩)]) [.ints true .i8 (mkP ⟨f, r, zs, bl, ca, pa, ha, fu⟩ ⟨a, b, pr⟩).zs] := by
 refine fn_soundDM (rest := seqTail (seqTail (seqTail (Tryz.f15.body.getD .skip)))) (EM_ok (kDb := kDb)) 2 Tryz.func15 rfl rfl [⟨44, [], [.ptr 5 0 0]⟩, ⟨43, [.ptr 5 0 0, .ptr 3 0 0, .ptr 4 0 0], []⟩] (Q1 := fun tm hp => tm = (13, .fn 43 [.ptr 5 0 0, .ptr 3 0 0, .ptr 4 0 0]) :: [(6, .ptr 5 0 0), (5, .ptr 4 0 0), (4, .ptr 3 0 0), (3, .ptr 2 0 0), (2, .ptr 1 0 0), (0, .agg [I f, I r, .sl 0 0 zs.length none, Bb bl, .int .u8 ca, I pa, I ha, I fu]), (1, .agg [I a, I b, .int .i8 pr])] ∧ hp = [.ints false .i8 zs, .cells true [I f, I r, .sl 0 0 zs.length none, Bb bl, .int .u8 ca, I pa, I ha, I fu], .cells true [I a, I b, .int .i8 pr], .cells true [I 0, I 0, .nils, .lit false, .int .u8 0, I 0, I 0, I 0], .cells true [I 0, I 0, .int .i8 0, .int .i8 0, I 0, .int .u8 0, I 0, I 0, I 0], .cells true [I 0]]) ?_ ?_
 ·intro B w0 S ρ aa w k Q hrel hd hrest
  refine wpIn_seq (wpIn_mono (quiet_region (K := (seqTail (Tryz.f15.body.getD .skip)).wpIn (Fr none) k PP Q) EM_ok 2 rfl (Q2 := fun tm hp => tm = [(6, .ptr 5 0 0), (5, .ptr 4 0 0), (4, .ptr 3 0 0), (3, .ptr 2 0 0), (2, .ptr 1 0 0), (0, .agg [I f, I r, .sl 0 0 zs.length none, Bb bl, .int .u8 ca, I pa, I ha, I fu]), (1, .agg [I a, I b, .int .i8 pr])] ∧ hp = [.ints false .i8 zs, .cells true [I f, I r, .sl 0 0 zs.length none, Bb bl, .int .u8 ca, I pa, I ha, I fu], .cells true [I a, I b, .int .i8 pr], .cells true [I 0, I 0, .nils, .lit false, .int .u8 0, I 0, I 0, I 0], .cells true [I 0, I 0, .int .i8 0, .int .i8 0, I 0, .int .u8 0, I 0, I 0, I 0], .cells true [I 0]]) (sat_ret ⟨rfl, rfl⟩) hrel hd ?_) ?_)
  rotate_left
  ·rintro e a' w' ⟨rfl, h⟩; exact h
  rintro a1 w1 tm1 hp1 ρ1 r1 hd1 l1 ⟨rfl, rfl⟩
  refine wpIn_seq (wpIn_mono (pre_region (K := (seqTail (seqTail (Tryz.f15.body.getD .skip))).wpIn (Fr none) k PP Q) EM_ok 2 [_] _ [] rfl rfl rfl rfl rfl rfl (f := 43) (caps := [.ptr 5 0 0, .ptr 3 0 0, .ptr 4 0 0]) (args := []) (Q2 := fun tm hp => tm = (13, .fn 43 [.ptr 5 0 0, .ptr 3 0 0, .ptr 4 0 0]) :: [(6, .ptr 5 0 0), (5, .ptr 4 0 0), (4, .ptr 3 0 0), (3, .ptr 2 0 0), (2, .ptr 1 0 0), (0, .agg [I f, I r, .sl 0 0 zs.length none, Bb bl, .int .u8 ca, I pa, I ha, I fu]), (1, .agg [I a, I b, .int .i8 pr])] ∧ hp = [.ints false .i8 zs, .cells true [I f, I r, .sl 0 0 zs.length none, Bb bl, .int .u8 ca, I pa, I ha, I fu], .cells true [I a, I b, .int .i8 pr], .cells true [I 0, I 0, .nils, .lit false, .int .u8 0, I 0, I 0, I 0], .cells true [I 0, I 0, .int .i8 0, .int .i8 0, I 0, .int .u8 0, I 0, I 0, I 0], .cells true [I 0]]) (sat_ret ⟨rfl, rfl, sat_ret ⟨rfl, rfl⟩⟩) r1 hd1 ?_) ?_)
  rotate_left
  ·rintro e a' w' ⟨rfl, h⟩; exact h
  rintro a2 w2 tm2 hp2 ρ2 cus1 us1 r2 hd2 l2 hc1 hu1 ⟨rfl, rfl⟩
  refine wpIn_seq (wpIn_mono (pre_region (K := (seqTail (seqTail (seqTail (Tryz.f15.body.getD .skip)))).wpIn (Fr none) k PP Q) EM_ok 2 [] _ [] rfl rfl rfl rfl rfl rfl (f := 44) (caps := []) (args := [.ptr 5 0 0]) (Q2 := fun tm hp => tm = (13, .fn 43 [.ptr 5 0 0, .ptr 3 0 0, .ptr 4 0 0]) :: [(6, .ptr 5 0 0), (5, .ptr 4 0 0), (4, .ptr 3 0 0), (3, .ptr 2 0 0), (2, .ptr 1 0 0), (0, .agg [I f, I r, .sl 0 0 zs.length none, Bb bl, .int .u8 ca, I pa, I ha, I fu]), (1, .agg [I a, I b, .int .i8 pr])] ∧ hp = [.ints false .i8 zs, .cells true [I f, I r, .sl 0 0 zs.length none, Bb bl, .int .u8 ca, I pa, I ha, I fu], .cells true [I a, I b, .int .i8 pr], .cells true [I 0, I 0, .nils, .lit false, .int .u8 0, I 0, I 0, I 0], .cells true [I 0, I 0, .int .i8 0, .int .i8 0, I 0, .int .u8 0, I 0, I 0, I 0], .cells true [I 0]]) (sat_ret ⟨rfl, rfl, sat_ret ⟨rfl, rfl⟩⟩) r2 hd2 ?_) ?_)
  rotate_left
  ·rintro e a' w' ⟨rfl, h⟩; exact h
  rintro a3 w3 tm3 hp3 ρ3 cus2 us2 r3 hd3 l3 hc3 hu3 ⟨rfl, rfl⟩
  exact hrest _ _ _ _ _ _ r3 (Ren.le_trans l1 (Ren.le_trans l2 l3)) ⟨cus2, us2, _, rfl, hc3, hu3, cus1, us1, [], rfl, VRL.mono l3 _ _ hc1, VRL.mono l3 _ _ hu1, rfl⟩ ⟨rfl, rfl⟩
 rintro tm1 hp1 ⟨rfl, rfl⟩
 refine ⟨by simp, ?_⟩
 have hE := EM_ok (kDb := kDb)
 repeat (first | (first | refine sat_self ?_ | refine sat_nd ?_) | refine sat_need (need_ix ha0 ha1) ?_ | refine sat_need (need_ix hb0 hb1) ?_ | refine sat_need (need_bdv hc2 rfl hv3) ?_ | refine sat_need (need_g2 hc2 rfl hv3) ?_ | refine sat_need (need_bd hc2 rfl) ?_)
 refine sat_br (fun h => ?_) (fun h => ?_)
 ·have h : (!(Psn.ok ⟨f, r, tk zs, bl, ca, pa, ha, fu⟩) || !mvB f r a b pr) = true := h
  rw [tk_eq] at h
  have h : err1 ⟨f, r, zs, bl, ca, pa, ha, fu⟩ ⟨a, b, pr⟩ = true := h
  exact sat_ret (mk_pleaf (by simp only [mkE5, h, cond_true]) rfl (Ent.ren [0, 1, 2, 3, 4, 5] [4, 5, 6] rfl rfl rfl))
 have h : (!(Psn.ok ⟨f, r, tk zs, bl, ca, pa, ha, fu⟩) || !mvB f r a b pr) = false := h
 rw [tk_eq] at h
 have e1 : err1 ⟨f, r, zs, bl, ca, pa, ha, fu⟩ ⟨a, b, pr⟩ = false := h
 simp only [Bool.or_eq_false_iff, Bool.not_eq_false'] at h
 obtain ⟨hbd, hcas⟩ := ok_bd h.1
 obtain ⟨hva, hvb⟩ := mv_ab h.2
 dsimp only at hbd hcas
 obtain ⟨ha0, ha1⟩ := (bd_sq hbd).1 hva
 obtain ⟨hb0, hb1⟩ := (bd_sq hbd).1 hvb
 have hv3 : (validBd f r (tk zs) && validB f r a && validB f r b) = true := by rw [tk_eq, hbd, hva, hvb]; rfl
 have hf0 : (!decide (f = 0)) = true := by have := vs_bd (bd_valid hbd).1; simp; omega
 clear h
 repeat (first | (first | refine sat_self ?_ | refine sat_nd ?_) | refine sat_need (need_ix ha0 ha1) ?_ | refine sat_need (need_ix hb0 hb1) ?_ | refine sat_need (need_bdv hc2 rfl hv3) ?_ | refine sat_need (need_g2 hc2 rfl hv3) ?_ | refine sat_need (need_bd hc2 rfl) ?_ | refine sat_need hf0 ?_)
 refine sat_br (fun h => ?_) (fun h => ?_)
 ·have h : (!isP (zs.getD a.toNat 0) bl) = true := h
  exact sat_ret (mk_pleaf (by simp only [mkE5, e1, h, cond_true, cond_false]) rfl (Ent.ren [0, 1, 2, 3, 4, 5] [4, 5, 6] rfl rfl rfl))
 have e2 : (!isP (zs.getD a.toNat 0) bl) = false := h
 repeat (first | (first | refine sat_self ?_ | refine sat_nd ?_) | refine sat_need (need_ix ha0 ha1) ?_ | refine sat_need (need_ix hb0 hb1) ?_ | refine sat_need (need_bdv hc2 rfl hv3) ?_ | refine sat_need (need_g2 hc2 rfl hv3) ?_ | refine sat_need (need_bd hc2 rfl) ?_ | refine sat_need hf0 ?_)
 refine sat_br (fun h => ?_) (fun h => ?_)
 ·have h : (isP (zs.getD b.toNat 0) bl || (!goesB f r (tk zs) bl pa a b pr && (!wayB f r (tk zs) (wayN (tk zs) bl ca a b) || !decide (pr = 0)))) = true := h
  rw [tk_eq] at h
  have h : err3 ⟨f, r, zs, bl, ca, pa, ha, fu⟩ ⟨a, b, pr⟩ = true := h
  exact sat_ret (mk_pleaf (by simp only [mkE5, e1, e2, h, cond_true, cond_false]) rfl (Ent.ren [0, 1, 2, 3, 4, 5] [4, 5, 6] rfl rfl rfl))
 have h : (isP (zs.getD b.toNat 0) bl || (!goesB f r (tk zs) bl pa a b pr && (!wayB f r (tk zs) (wayN (tk zs) bl ca a b) || !decide (pr = 0)))) = false := h
 rw [tk_eq] at h
 have e3 : err3 ⟨f, r, zs, bl, ca, pa, ha, fu⟩ ⟨a, b, pr⟩ = false := h
 clear h
 repeat (first | (first | refine sat_self ?_ | refine sat_nd ?_) | refine sat_need (need_ix ha0 ha1) ?_ | refine sat_need (need_ix hb0 hb1) ?_ | refine sat_need (need_bdv hc2 rfl hv3) ?_ | refine sat_need (need_g2 hc2 rfl hv3) ?_ | refine sat_need (need_bd hc2 rfl) ?_ | refine sat_need hf0 ?_)
 refine sat_join hE 2 (fun e tm hp => e = .normal ∧ ∃ (n : Nat) (c : Bool) (at_ cap : Int), n = wayN zs bl ca a b ∧ c = cstR f r zs bl ca pa a b pr ∧ at_ = at1R f zs pa a b ∧ cap = capR f zs pa a b ∧ tm = [(2, .ptr 1 0 0), (3, .ptr 2 0 0), (4, .ptr 3 0 0), (5, .ptr 4 0 0), (6, .ptr 5 0 0), (7, .int .i8 (zs.getD a.toNat 0)), (8, .ptr 6 0 0), (9, Bb c)] ∧ hp = [.ints false .i8 zs, .cells true [I f, I r, .sl 0 0 zs.length none, Bb bl, .int .u8 ca, I pa, I ha, I fu], .cells true [I a, I b, .int .i8 pr], .cells true [I 0, I 0, .nils, .lit false, .int .u8 0, I 0, I 0, I 0], .cells true [I a, I b, .int .i8 pr, .int .i8 cap, I at_, .int .u8 ca, I pa, I ha, I fu], .cells true [I 0], .cells true [.int .u8 (wBit n), Bb (wBl n), I (wFrom n), I (wTo n), I (wCor n), I (wCro n)]]) rfl (fun h => ?_) (fun h => ?_) ?_
 ·have hep : epB zs pa a b = true := h
  have hx := (bd_sq hbd).1 (ep_ok hva hvb).1
  repeat (first | (first | refine sat_self ?_ | refine sat_nd ?_) | refine sat_need hf0 ?_ | refine sat_need (need_ix hx.1 hx.2) ?_)
  refine sat_ret ⟨_, _, Ent.ren [0, 1, 2, 3, 4, 5, 6] [2, 3, 4, 5, 6, 7, 8, 9] rfl rfl rfl, rfl, wayN (tk zs) bl ca a b, wayB f r (tk zs) (wayN (tk zs) bl ca a b) && !goesB f r (tk zs) bl pa a b pr, _, _, by rw [tk_eq], by rw [tk_eq]; rfl, ?_, ?_, rfl, rfl⟩
  ·rw [at1R, hep]; rfl
  ·rw [capR, at1R, hep]; rfl
 ·have hep : epB zs pa a b = false := h
  refine sat_ret ⟨_, _, Ent.ren [0, 1, 2, 3, 4, 5, 6] [2, 3, 4, 5, 6, 7, 8, 9] rfl rfl rfl, rfl, wayN (tk zs) bl ca a b, wayB f r (tk zs) (wayN (tk zs) bl ca a b) && !goesB f r (tk zs) bl pa a b pr, _, _, by rw [tk_eq], by rw [tk_eq]; rfl, ?_, ?_, rfl, rfl⟩
  ·rw [at1R, hep]; rfl
  ·rw [capR, at1R, hep]; rfl
 rintro e tm hp ⟨rfl, n, c, at_, cap, hn, hcs, hat, hcap, rfl, rfl⟩
 repeat (first | (first | refine sat_self ?_ | refine sat_nd ?_) | refine sat_need (need_ix ha0 ha1) ?_ | refine sat_need (need_ix hb0 hb1) ?_ | refine sat_need (need_bdv hc2 rfl hv3) ?_ | refine sat_need (need_g2 hc2 rfl hv3) ?_ | refine sat_need (need_bd hc2 rfl) ?_ | refine sat_need hf0 ?_)
 refine sat_join hE 2 (fun e tm hp => e = .normal ∧ ∃ at2 : Int, at2 = at2R f zs pa a b ∧ tm = [(2, .ptr 1 0 0), (3, .ptr 2 0 0), (4, .ptr 3 0 0), (5, .ptr 4 0 0), (6, .ptr 5 0 0), (7, .int .i8 (zs.getD a.toNat 0)), (8, .ptr 6 0 0), (9, Bb c)] ∧ hp = [.ints false .i8 zs, .cells true [I f, I r, .sl 0 0 zs.length none, Bb bl, .int .u8 ca, I pa, I ha, I fu], .cells true [I a, I b, .int .i8 pr], .cells true [I 0, I 0, .nils, .lit false, .int .u8 0, I 0, I 0, I 0], .cells true [I a, I b, .int .i8 pr, .int .i8 cap, I at2, .int .u8 ca, I pa, I ha, I fu], .cells true [I 0], .cells true [.int .u8 (wBit n), Bb (wBl n), I (wFrom n), I (wTo n), I (wCor n), I (wCro n)]]) rfl (fun h => ?_) (fun h => ?_) ?_
 ·have h : decide (cap = 0) = true := h
  refine sat_ret ⟨_, _, Ent.ren [0, 1, 2, 3, 4, 5, 6] [2, 3, 4, 5, 6, 7, 8, 9] rfl rfl rfl, rfl, _, ?_, rfl, rfl⟩
  rw [at2R, ← hcap, h]; rfl
 ·have h : decide (cap = 0) = false := h
  refine sat_ret ⟨_, _, Ent.ren [0, 1, 2, 3, 4, 5, 6] [2, 3, 4, 5, 6, 7, 8, 9] rfl rfl rfl, rfl, _, ?_, rfl, rfl⟩
  rw [at2R, ← hcap, h, ← hat]; rfl
 rintro e tm hp ⟨rfl, at2, hat2, rfl, rfl⟩
 clear hat
 repeat (first | (first | refine sat_self ?_ | refine sat_nd ?_) | refine sat_need (need_ix ha0 ha1) ?_ | refine sat_need (need_ix hb0 hb1) ?_ | refine sat_need (need_bdv hc2 rfl hv3) ?_ | refine sat_need (need_g2 hc2 rfl hv3) ?_ | refine sat_need (need_bd hc2 rfl) ?_ | refine sat_need hf0 ?_)
 refine sat_join hE 2 (fun e tm hp => e = .normal ∧ ∃ (l : List Int) (len : Nat), l = zs1R f zs pa a b ∧ len = zs.length ∧ tm = [(2, .ptr 1 0 0), (3, .ptr 2 0 0), (4, .ptr 3 0 0), (5, .ptr 4 0 0), (6, .ptr 5 0 0), (7, .int .i8 (zs.getD a.toNat 0)), (8, .ptr 6 0 0), (9, Bb c)] ∧ hp = [.ints false .i8 zs, .cells true [I f, I r, .sl 0 0 zs.length none, Bb bl, .int .u8 ca, I pa, I ha, I fu], .cells true [I a, I b, .int .i8 pr], .cells true [I f, I r, .sl 7 0 len none, Bb bl, .int .u8 ca, I pa, I ha, I fu], .cells true [I a, I b, .int .i8 pr, .int .i8 cap, I at2, .int .u8 ca, I pa, I ha, I fu], .cells true [I 0], .cells true [.int .u8 (wBit n), Bb (wBl n), I (wFrom n), I (wTo n), I (wCor n), I (wCro n)], .ints true .i8 l]) rfl (fun h => ?_) (fun h => ?_) ?_
 ·have h : decide (0 ≤ at2) = true := h
  have hx : at2 < zs.length := by rw [hat2]; exact at2_ok hbd hva hvb (by rw [← hat2]; exact of_decide_eq_true h)
  repeat (first | (first | refine sat_self ?_ | refine sat_nd ?_) | refine sat_need (need_ixt (of_decide_eq_true h) hx) ?_)
  refine sat_ret ⟨_, _, Ent.ren [0, 1, 2, 3, 4, 5, 6, 7] [2, 3, 4, 5, 6, 7, 8, 9] rfl rfl rfl, rfl, (tk zs).set at2.toNat 0, (tk zs).length, ?_, by rw [tk_eq], rfl, rfl⟩
  rw [tk_eq, zs1R, ← hat2, h]; rfl
 ·have h : decide (0 ≤ at2) = false := h
  refine sat_ret ⟨_, _, Ent.ren [0, 1, 2, 3, 4, 5, 6, 7] [2, 3, 4, 5, 6, 7, 8, 9] rfl rfl rfl, rfl, tk zs, (tk zs).length, ?_, by rw [tk_eq], rfl, rfl⟩
  rw [tk_eq, zs1R, ← hat2, h]; rfl
 rintro e tm hp ⟨rfl, l, len, hl, hlen, rfl, rfl⟩
 have ha1 : a < len := by rw [hlen]; exact ha1
 have hb1 : b < len := by rw [hlen]; exact hb1
 repeat (first | (first | refine sat_self ?_ | refine sat_nd ?_) | refine sat_need (need_ix ha0 ha1) ?_ | refine sat_need (need_ix hb0 hb1) ?_ | refine sat_need (need_bdv hc2 rfl hv3) ?_ | refine sat_need (need_g2 hc2 rfl hv3) ?_ | refine sat_need (need_bd hc2 rfl) ?_ | refine sat_need hf0 ?_)
 refine sat_join hE 2 (fun e tm hp => e = .normal ∧ ∃ l3 : List Int, l3 = zs3R f r zs bl ca pa a b pr ∧ tm = [(2, .ptr 1 0 0), (3, .ptr 2 0 0), (4, .ptr 3 0 0), (5, .ptr 4 0 0), (6, .ptr 5 0 0), (7, .int .i8 (zs.getD a.toNat 0)), (8, .ptr 6 0 0), (9, Bb c)] ∧ hp = [.ints false .i8 zs, .cells true [I f, I r, .sl 0 0 zs.length none, Bb bl, .int .u8 ca, I pa, I ha, I fu], .cells true [I a, I b, .int .i8 pr], .cells true [I f, I r, .sl 7 0 len none, Bb bl, .int .u8 ca, I pa, I ha, I fu], .cells true [I a, I b, .int .i8 pr, .int .i8 cap, I at2, .int .u8 ca, I pa, I ha, I fu], .cells true [I 0], .cells true [.int .u8 (wBit n), Bb (wBl n), I (wFrom n), I (wTo n), I (wCor n), I (wCro n)], .ints true .i8 l3]) rfl (fun h => ?_) (fun h => ?_) ?_
 ·have h : (!decide (pr = 0) && bl) = true := h
  repeat (first | (first | refine sat_self ?_ | refine sat_nd ?_) | refine sat_need (need_ix ha0 ha1) ?_ | refine sat_need (need_ix hb0 hb1) ?_ | refine sat_need (need_bdv hc2 rfl hv3) ?_ | refine sat_need (need_g2 hc2 rfl hv3) ?_ | refine sat_need (need_bd hc2 rfl) ?_ | refine sat_need hf0 ?_)
  refine sat_ret ⟨_, _, Ent.ren [0, 1, 2, 3, 4, 5, 6, 7] [2, 3, 4, 5, 6, 7, 8, 9] rfl rfl rfl, rfl, _, ?_, rfl, rfl⟩
  rw [zs3R, putR, zs2R, ← hl, h]; rfl
 ·have h : (!decide (pr = 0) && bl) = false := h
  refine sat_split hE 2 rfl (fun h2 => ?_) (fun h2 => ?_)
  ·have h2 : (!decide (pr = 0)) = true := h2
   repeat (first | (first | refine sat_self ?_ | refine sat_nd ?_) | refine sat_need (need_ix ha0 ha1) ?_ | refine sat_need (need_ix hb0 hb1) ?_ | refine sat_need (need_bdv hc2 rfl hv3) ?_ | refine sat_need (need_g2 hc2 rfl hv3) ?_ | refine sat_need (need_bd hc2 rfl) ?_ | refine sat_need hf0 ?_)
   refine sat_ret ⟨_, _, Ent.ren [0, 1, 2, 3, 4, 5, 6, 7] [2, 3, 4, 5, 6, 7, 8, 9] rfl rfl rfl, rfl, _, ?_, rfl, rfl⟩
   rw [zs3R, putR, zs2R, ← hl, h, h2]; rfl
  ·have h2 : (!decide (pr = 0)) = false := h2
   refine sat_split hE 2 rfl (fun h3 => ?_) (fun h3 => ?_)
   ·have h3 : c = true := h3
    have hw : ¬ n = 4 := by
     intro h4
     rw [cstR, ← hn, h4] at hcs
     rw [h3] at hcs
     exact absurd hcs (by simp [wayB])
    obtain ⟨_, h64, w1, w2, w3, w4⟩ := cast_88 (a := a) (b := b) (bl := bl) hbd hcas (by rw [← hn]; exact hw)
    rw [← hn] at w1 w2 w3 w4
    have w2 : wCor n < len := by rw [hlen, h64]; exact w2
    have w4 : wCro n < len := by rw [hlen, h64]; exact w4
    repeat (first | (first | refine sat_self ?_ | refine sat_nd ?_) | refine sat_need (need_ix ha0 ha1) ?_ | refine sat_need (need_ix hb0 hb1) ?_ | refine sat_need (need_bdv hc2 rfl hv3) ?_ | refine sat_need (need_g2 hc2 rfl hv3) ?_ | refine sat_need (need_bd hc2 rfl) ?_ | refine sat_need hf0 ?_)
    refine sat_ret ⟨_, _, Ent.ren [0, 1, 2, 3, 4, 5, 6, 7] [2, 3, 4, 5, 6, 7, 8, 9] rfl rfl rfl, rfl, _, ?_, rfl, rfl⟩
    rw [zs3R, putR, zs2R, ← hl, h, h2, ← hcs, h3, ← hn]; rfl
   ·have h3 : c = false := h3
    refine sat_ret ⟨_, _, Ent.ren [0, 1, 2, 3, 4, 5, 6, 7] [2, 3, 4, 5, 6, 7, 8, 9] rfl rfl rfl, rfl, _, ?_, rfl, rfl⟩
    rw [zs3R, putR, zs2R, ← hl, h, h2, ← hcs, h3]; rfl
 clear hl
 rintro e tm hp ⟨rfl, l3, hl3, rfl, rfl⟩
 repeat (first | (first | refine sat_self ?_ | refine sat_nd ?_) | refine sat_need (need_ix ha0 ha1) ?_ | refine sat_need (need_ix hb0 hb1) ?_ | refine sat_need (need_bdv hc2 rfl hv3) ?_ | refine sat_need (need_g2 hc2 rfl hv3) ?_ | refine sat_need (need_bd hc2 rfl) ?_ | refine sat_need hf0 ?_)
 refine sat_join hE 2 (fun e tm hp => e = .normal ∧ ∃ ca2 pa2 : Int, ca2 = caR ca a b ∧ pa2 = paR f zs a b ∧ tm = [(2, .ptr 1 0 0), (3, .ptr 2 0 0), (4, .ptr 3 0 0), (5, .ptr 4 0 0), (6, .ptr 5 0 0), (7, .int .i8 (zs.getD a.toNat 0)), (8, .ptr 6 0 0), (9, Bb c)] ∧ hp = [.ints false .i8 zs, .cells true [I f, I r, .sl 0 0 zs.length none, Bb bl, .int .u8 ca, I pa, I ha, I fu], .cells true [I a, I b, .int .i8 pr], .cells true [I f, I r, .sl 7 0 len none, Bb bl, .int .u8 ca2, I pa2, I ha, I fu], .cells true [I a, I b, .int .i8 pr, .int .i8 cap, I at2, .int .u8 ca, I pa, I ha, I fu], .cells true [I 0], .cells true [.int .u8 (wBit n), Bb (wBl n), I (wFrom n), I (wTo n), I (wCor n), I (wCro n)], .ints true .i8 l3]) rfl (fun h => ?_) (fun h => ?_) ?_
 ·have h : twoB f zs a b = true := h
  repeat (first | (first | refine sat_self ?_ | refine sat_nd ?_) | refine sat_need (need_ix ha0 ha1) ?_ | refine sat_need (need_ix hb0 hb1) ?_ | refine sat_need (need_bdv hc2 rfl hv3) ?_ | refine sat_need (need_g2 hc2 rfl hv3) ?_ | refine sat_need (need_bd hc2 rfl) ?_ | refine sat_need hf0 ?_)
  refine sat_ret ⟨_, _, Ent.ren [0, 1, 2, 3, 4, 5, 6, 7] [2, 3, 4, 5, 6, 7, 8, 9] rfl rfl rfl, rfl, _, _, rfl, ?_, rfl, rfl⟩
  rw [paR, h]; rfl
 ·have h : twoB f zs a b = false := h
  refine sat_ret ⟨_, _, Ent.ren [0, 1, 2, 3, 4, 5, 6, 7] [2, 3, 4, 5, 6, 7, 8, 9] rfl rfl rfl, rfl, _, _, rfl, ?_, rfl, rfl⟩
  rw [paR, h]; rfl
 rintro e tm hp ⟨rfl, ca2, pa2, hca2, hpa2, rfl, rfl⟩
 repeat (first | (first | refine sat_self ?_ | refine sat_nd ?_) | refine sat_need (need_ix ha0 ha1) ?_ | refine sat_need (need_ix hb0 hb1) ?_ | refine sat_need (need_bdv hc2 rfl hv3) ?_ | refine sat_need (need_g2 hc2 rfl hv3) ?_ | refine sat_need (need_bd hc2 rfl) ?_ | refine sat_need hf0 ?_)
 refine sat_join hE 2 (fun e tm hp => e = .normal ∧ ∃ ha2 : Int, ha2 = haR f zs pa ha a b ∧ tm = [(2, .ptr 1 0 0), (3, .ptr 2 0 0), (4, .ptr 3 0 0), (5, .ptr 4 0 0), (6, .ptr 5 0 0), (7, .int .i8 (zs.getD a.toNat 0)), (8, .ptr 6 0 0), (9, Bb c)] ∧ hp = [.ints false .i8 zs, .cells true [I f, I r, .sl 0 0 zs.length none, Bb bl, .int .u8 ca, I pa, I ha, I fu], .cells true [I a, I b, .int .i8 pr], .cells true [I f, I r, .sl 7 0 len none, Bb bl, .int .u8 ca2, I pa2, I ha2, I fu], .cells true [I a, I b, .int .i8 pr, .int .i8 cap, I at2, .int .u8 ca, I pa, I ha, I fu], .cells true [I 0], .cells true [.int .u8 (wBit n), Bb (wBl n), I (wFrom n), I (wTo n), I (wCor n), I (wCro n)], .ints true .i8 l3]) rfl (fun h => ?_) (fun h => ?_) ?_
 ·have h : (decide (absP (zs.getD a.toNat 0) = 1) || !decide (cap = 0)) = true := h
  refine sat_ret ⟨_, _, Ent.ren [0, 1, 2, 3, 4, 5, 6, 7] [2, 3, 4, 5, 6, 7, 8, 9] rfl rfl rfl, rfl, _, ?_, rfl, rfl⟩
  rw [haR, ← hcap, h]; rfl
 ·have h : (decide (absP (zs.getD a.toNat 0) = 1) || !decide (cap = 0)) = false := h
  refine sat_ret ⟨_, _, Ent.ren [0, 1, 2, 3, 4, 5, 6, 7] [2, 3, 4, 5, 6, 7, 8, 9] rfl rfl rfl, rfl, _, ?_, rfl, rfl⟩
  rw [haR, ← hcap, h]; rfl
 rintro e tm hp ⟨rfl, ha2, hha2, rfl, rfl⟩
 repeat (first | (first | refine sat_self ?_ | refine sat_nd ?_) | refine sat_need (need_ix ha0 ha1) ?_ | refine sat_need (need_ix hb0 hb1) ?_ | refine sat_need (need_bdv hc2 rfl hv3) ?_ | refine sat_need (need_g2 hc2 rfl hv3) ?_ | refine sat_need (need_bd hc2 rfl) ?_ | refine sat_need hf0 ?_)
 refine sat_join hE 2 (fun e tm hp => e = .normal ∧ ∃ fu2 : Int, fu2 = fuR bl fu ∧ tm = [(2, .ptr 1 0 0), (3, .ptr 2 0 0), (4, .ptr 3 0 0), (5, .ptr 4 0 0), (6, .ptr 5 0 0), (7, .int .i8 (zs.getD a.toNat 0)), (8, .ptr 6 0 0), (9, Bb c)] ∧ hp = [.ints false .i8 zs, .cells true [I f, I r, .sl 0 0 zs.length none, Bb bl, .int .u8 ca, I pa, I ha, I fu], .cells true [I a, I b, .int .i8 pr], .cells true [I f, I r, .sl 7 0 len none, Bb bl, .int .u8 ca2, I pa2, I ha2, I fu2], .cells true [I a, I b, .int .i8 pr, .int .i8 cap, I at2, .int .u8 ca, I pa, I ha, I fu], .cells true [I 0], .cells true [.int .u8 (wBit n), Bb (wBl n), I (wFrom n), I (wTo n), I (wCor n), I (wCro n)], .ints true .i8 l3]) rfl (fun h => ?_) (fun h => ?_) ?_
 ·have h : bl = true := h
  refine sat_ret ⟨_, _, Ent.ren [0, 1, 2, 3, 4, 5, 6, 7] [2, 3, 4, 5, 6, 7, 8, 9] rfl rfl rfl, rfl, _, ?_, rfl, rfl⟩
  rw [fuR, h]; rfl
 ·have h : bl = false := h
  refine sat_ret ⟨_, _, Ent.ren [0, 1, 2, 3, 4, 5, 6, 7] [2, 3, 4, 5, 6, 7, 8, 9] rfl rfl rfl, rfl, _, ?_, rfl, rfl⟩
  rw [fuR, h]; rfl
 rintro e tm hp ⟨rfl, fu2, hfu2, rfl, rfl⟩
 have hl3n : len = l3.length := by rw [hl3, zs3_len, hlen]
 have hl64 : len ≤ 64 := by rw [hlen]; exact hc2
 repeat (first | (first | refine sat_self ?_ | refine sat_nd ?_) | refine sat_need (need_ix ha0 ha1) ?_ | refine sat_need (need_ix hb0 hb1) ?_ | refine sat_need (need_bdv hc2 rfl hv3) ?_ | refine sat_need (need_g2 hc2 rfl hv3) ?_ | refine sat_need (need_bd hc2 rfl) ?_ | refine sat_need hf0 ?_ | refine sat_need (need_out hl3n hl64) ?_ | refine sat_need (need_outg hl3n hl64) ?_)
 refine sat_br (fun h => ?_) (fun h => ?_)
 ·have h : (chkB f r ((l3.drop 0).take len) bl || (c && (chkB f r (tk zs) bl || !decide ((attackersR f r (tk zs) (wCro n) (!bl)).1 = 0)))) = true := h
  rw [tk_eq, tk_n hl3n, hl3, hcs, hn] at h
  have h : err4 ⟨f, r, zs, bl, ca, pa, ha, fu⟩ ⟨a, b, pr⟩ = true := h
  exact sat_ret (mk_pleaf7 (by simp only [mkE5, e1, e2, e3, h, cond_true, cond_false]) rfl (Ent.ren [0, 1, 2, 3, 4, 5, 7] [4, 5, 6] rfl rfl rfl))
 have h : (chkB f r ((l3.drop 0).take len) bl || (c && (chkB f r (tk zs) bl || !decide ((attackersR f r (tk zs) (wCro n) (!bl)).1 = 0)))) = false := h
 rw [tk_eq, tk_n hl3n, hl3, hcs, hn] at h
 have e4 : err4 ⟨f, r, zs, bl, ca, pa, ha, fu⟩ ⟨a, b, pr⟩ = false := h
 clear h
 repeat (first | (first | refine sat_self ?_ | refine sat_nd ?_) | refine sat_need (need_ix ha0 ha1) ?_ | refine sat_need (need_ix hb0 hb1) ?_ | refine sat_need (need_bdv hc2 rfl hv3) ?_ | refine sat_need (need_g2 hc2 rfl hv3) ?_ | refine sat_need (need_bd hc2 rfl) ?_ | refine sat_need hf0 ?_ | refine sat_need (need_out hl3n hl64) ?_ | refine sat_need (need_outg hl3n hl64) ?_)
 refine sat_br (fun h => ?_) (fun h => ?_)
 ·have h : (decide (10000 < ha2) || decide (10000 < fu2)) = true := h
  rw [hha2, hfu2] at h
  have h : err5 ⟨f, r, zs, bl, ca, pa, ha, fu⟩ ⟨a, b, pr⟩ = true := h
  exact sat_ret (mk_pleaf7 (by simp only [mkE5, e1, e2, e3, e4, h, cond_true, cond_false]) rfl (Ent.ren [0, 1, 2, 3, 4, 5, 7] [4, 5, 6] rfl rfl rfl))
 have h : (decide (10000 < ha2) || decide (10000 < fu2)) = false := h
 rw [hha2, hfu2] at h
 have e5 : err5 ⟨f, r, zs, bl, ca, pa, ha, fu⟩ ⟨a, b, pr⟩ = false := h
 clear h
 repeat (first | (first | refine sat_self ?_ | refine sat_nd ?_) | refine sat_need (need_ix ha0 ha1) ?_ | refine sat_need (need_ix hb0 hb1) ?_ | refine sat_need (need_bdv hc2 rfl hv3) ?_ | refine sat_need (need_g2 hc2 rfl hv3) ?_ | refine sat_need (need_bd hc2 rfl) ?_ | refine sat_need hf0 ?_ | refine sat_need (need_out hl3n hl64) ?_ | refine sat_need (need_outg hl3n hl64) ?_)
 have he : mkE5 ⟨f, r, zs, bl, ca, pa, ha, fu⟩ ⟨a, b, pr⟩ = 0 := by simp only [mkE5, e1, e2, e3, e4, e5, cond_false]
 subst hlen
 exact sat_ret (mk_rleaf (q := ⟨f, r, l3, !bl, ca2, pa2, ha2, fu2⟩) (x := ⟨⟨a, b, pr⟩, cap, at2, ca, pa, ha, fu⟩) he (by rw [mkP, he, hl3, hca2, hpa2, hha2, hfu2]; rfl) (by rw [mkU, he, hcap, hat2]; rfl) hl3n.symm (Ent.ren [0, 1, 2, 3, 4, 5, 7] [4, 5, 6] rfl rfl rfl))
def c_make : CF
 | [.agg [.int .i64 f, .int .i64 r, .sl 0 0 len none, .bool bl, .int .u8 ca, .int .i64 pa, .int .i64 ha, .int .i64 fu], .agg [.int .i64 a, .int .i64 b, .int .i8 pr]], [.ints false .i8 zs] => some (decide (len = zs.length) && decide (zs.length ≤ 64), .tup [psV 1 (mkP ⟨f, r, zs, bl, ca, pa, ha, fu⟩ ⟨a, b, pr⟩), unV (mkU ⟨f, r, zs, bl, ca, pa, ha, fu⟩ ⟨a, b, pr⟩), I (mkE5 ⟨f, r, zs, bl, ca, pa, ha, fu⟩ ⟨a, b, pr⟩)], [.ints true .i8 (mkP ⟨f, r, zs, bl, ca, pa, ha, fu⟩ ⟨a, b, pr⟩).zs])
 | _, _ => none
theorem c_make_ok : CtOk (GGx true kDb) PP (15, c_make) := by
 refine ct_mk Tryz.func15 (by kernel_rfl) rfl fun a0 h0 c0 v0 N0 e hc => ?_
 unfold c_make at e
 split at e
 ·rename_i f r len bl ca pa ha fu a b pr zs
  cases e
  simp only [Bool.and_eq_true, decide_eq_true_eq] at hc
  obtain ⟨rfl, hc2⟩ := hc
  exact mk_sound hc2
 ·cases e
end Go.Ab

set_option maxRecDepth 100000
set_option maxHeartbeats 4000000
namespace Go.Ab
open Go.Proofs
variable {kCa kDb : Bool}
def afZ1 (f r : Int) (zs : List Int) (pa a b : Int) : List Int := bif decide (0 ≤ capL f r zs pa a b) then zs.set (capL f r zs pa a b).toNat 0 else zs
def afZ2 (f r : Int) (zs : List Int) (pa a b : Int) : List Int := ((afZ1 f r zs pa a b).set a.toNat 0).set b.toNat (zs.getD a.toNat 0)
def afZ3 (f r : Int) (zs : List Int) (pa a b pr : Int) : List Int := bif !decide (pr = 0) then (afZ2 f r zs pa a b).set b.toNat (w8 (pr * w8 (sgn (zs.getD a.toNat 0)))) else afZ2 f r zs pa a b
def afZ4 (l : List Int) (c : Int) : List Int := bif !decide (c = 0) then (l.set (sqW c 3).toNat (l.getD (sqW c 2).toNat 0)).set (sqW c 2).toNat 0 else l
def afZ (f r : Int) (zs : List Int) (bl : Bool) (ca pa a b pr : Int) : List Int := afZ4 (afZ3 f r zs pa a b pr) (cgL f r zs bl ca a b pr)
def afS (ca a b bit : Int) : Int := bif decide ((IntKind.u8.wrap (ca.tdiv bit)).tmod 2 = 1) && (hasL a [sqW bit 0, sqW bit 2] || hasL b [sqW bit 0, sqW bit 2]) then IntKind.u8.wrap (ca - bit) else ca
def afC (ca a b : Int) : Int := afS (afS (afS (afS ca a b 1) a b 2) a b 4) a b 8
def afPa (f r : Int) (zs : List Int) (a b : Int) : Int := bif decide (kind8 (zs.getD a.toNat 0) = 1) && (decide (IntKind.i64.wrap (IntKind.i64.wrap (a.tdiv f) - IntKind.i64.wrap (b.tdiv f)) = 2) || decide (IntKind.i64.wrap (IntKind.i64.wrap (b.tdiv f) - IntKind.i64.wrap (a.tdiv f)) = 2)) then numR f r (a.tmod f) (IntKind.i64.wrap ((IntKind.i64.wrap (IntKind.i64.wrap (a.tdiv f) + IntKind.i64.wrap (b.tdiv f))).tdiv 2)) else -1
def afHa (f r : Int) (zs : List Int) (pa ha a b : Int) : Int := bif decide (kind8 (zs.getD a.toNat 0) = 1) || decide (0 ≤ capL f r zs pa a b) then 0 else IntKind.i64.wrap (ha + 1)
def afP (p : Psn) (m : Mov) : Psn := ⟨p.f, p.r, afZ p.f p.r p.zs p.bl p.ca p.pa m.a m.b m.p, !p.bl, afC p.ca m.a m.b, afPa p.f p.r p.zs m.a m.b, afHa p.f p.r p.zs p.pa p.ha m.a m.b, fuR p.bl p.fu⟩
theorem sqs : sqW 1 2 = 7 ∧ sqW 1 3 = 5 ∧ sqW 2 2 = 0 ∧ sqW 2 3 = 3 ∧ sqW 4 2 = 63 ∧ sqW 4 3 = 61 ∧ sqW 8 2 = 56 ∧ sqW 8 3 = 59 := ⟨by kernel_rfl, by kernel_rfl, by kernel_rfl, by kernel_rfl, by kernel_rfl, by kernel_rfl, by kernel_rfl, by kernel_rfl⟩
def c_rhas : CF
 | [.sl 0 0 len none, .int .i64 n], [.ints false .i64 zs] => some (decide (len = zs.length) && decide (zs.length ≤ 1000000), .bool (hasL n zs), [])
 | _, _ => none
theorem c_rhas_ok : CtOk (GGx kCa kDb) PP (118, c_rhas) := by
 refine ct_mk Tryz.func118 (by kernel_rfl) rfl fun a0 h0 c0 v0 N0 e hc => ?_
 unfold c_rhas at e
 split at e
 ·rename_i len n zs
  cases e
  have hE := EE_ok (kCa := kCa) (kDb := kDb) (cts := []) (inl := []) trivial trivial
  refine fn_sound hE 2 Tryz.func118 rfl rfl ?_
  simp only [Bool.and_eq_true, decide_eq_true_eq] at hc
  obtain ⟨rfl, hc2⟩ := hc
  refine sat_idx hE 2 (fun i (_ : Unit) => ([(0, .sl 0 0 zs.length none), (1, I n), (5, I i)], [.ints false .i64 zs])) zs.length (fun j _ => hasL n (zs.drop j) = hasL n zs) () (by omega) (Ent.ren [0] [0, 1, 5] rfl rfl rfl) rfl ?_
  intro j i _ hij hj hz
  refine sat_br (fun hlt => ?_) (fun hlt => ?_)
  ·have hlt' : j < zs.length := by simp at hlt; omega
   rw [hasL_at hlt', show j = i.toNat by omega] at hz
   refine sat_need (by simp; omega) ?_
   repeat (first | refine sat_self ?_ | refine sat_nd ?_)
   refine sat_br (fun hon => ?_) (fun hon => ?_)
   ·have hon : decide (zs.getD i.toNat 0 = n) = true := hon
    rw [hon] at hz
    exact sat_ret (sat_ret (fin_val (.inr rfl) rfl rfl rfl (by rw [← hz]; rfl)))
   ·have hon : decide (zs.getD i.toNat 0 = n) = false := hon
    rw [hon] at hz
    exact sat_ret ⟨hlt', (), by rw [← hz, show i.toNat = j by omega]; rfl, Ent.ren [0] [0, 1, 5] rfl rfl rfl⟩
  ·obtain rfl : j = zs.length := by simp at hlt; omega
   rw [List.drop_length] at hz
   exact sat_ret (sat_ret (fin_val (.inr rfl) rfl rfl rfl (by rw [← hz]; rfl)))
 ·cases e
end Go.Ab

set_option maxRecDepth 100000
set_option maxHeartbeats 4000000
namespace Go.Ab
open Go.Proofs
variable {kCa kDb : Bool}
theorem need_hs8 {l : List Int} (h : l.length ≤ 64) {n : Nat} (hn : n = l.length) : (decide (n = ((l.drop 0).take n).length) && decide (((l.drop 0).take n).length ≤ 1000000)) = true := by subst hn; simp; omega
def c_rpn : CF
 | [.agg [.int .i64 f, .int .i64 r, .sl 0 0 len none, .bool bl, .int .u8 ca, .int .i64 pa, .int .i64 _ha, .int .i64 _fu], .agg [.int .i64 a, .int .i64 b, .int .i8 pr]], [.ints false .i8 zs] => some (decide (len = zs.length) && decide (zs.length ≤ 64) && (validBd f r zs && castL f r zs ca && validB f r a && validB f r b), .bool (pnL f r zs bl pa a b pr), [])
 | _, _ => none
theorem c_rpn_ok : CtOk (GGx kCa kDb) PP (113, c_rpn) := by
 refine ct_mk Tryz.func113 (by kernel_rfl) rfl fun a0 h0 c0 v0 N0 e hc => ?_
 unfold c_rpn at e
 split at e
 ·rename_i f r len bl ca pa ha fu a b pr zs
  cases e
  have hE := EE_ok (kCa := kCa) (kDb := kDb) (cts := [(68, c_rOf), (115, c_Occ), (73, c_Place), (74, c_rLast), (164, c_refSteps), (165, c_refPawn), (118, c_rhas)]) (inl := []) ⟨c_rOf_ok, c_Occ_ok, c_Place_ok, c_rLast_ok, c_refSteps_ok, c_refPawn_ok, c_rhas_ok, trivial⟩ trivial
  refine fn_sound hE 2 Tryz.func113 rfl rfl ?_
  simp only [Bool.and_eq_true, decide_eq_true_eq] at hc
  obtain ⟨⟨rfl, hc2⟩, ⟨⟨hbd, hcs⟩, hva⟩, hvb⟩ := hc
  have hvs := (bd_valid hbd).1
  obtain ⟨ha0, ha1⟩ := (bd_sq hbd).1 hva
  obtain ⟨hb0, hb1⟩ := (bd_sq hbd).1 hvb
  have hf0 : (!decide (f = 0)) = true := by have := vs_bd hvs; simp; omega
  have hf1 : ∀ g : Bool, (!g || !decide (f = 0)) = true := fun g => by rw [hf0]; simp
  have hbt : validBd f r (tk zs) = true := by rw [tk_eq]; exact hbd
  have hct : castL f r (tk zs) ca = true := by rw [tk_eq]; exact hcs
  have hv4 : (validBd f r (tk zs) && castL f r (tk zs) ca && validB f r a && validB f r b) = true := by rw [hbt, hct, hva, hvb]; rfl
  have hv5 : (validBd f r (tk zs) && castL f r (tk zs) ca && (validB f r a && validB f r b)) = true := by rw [hbt, hct, hva, hvb]; rfl
  have hs1 : (filtB (stepsB f r bl a (occL (tk zs))) id ((f * r).toNat)).length ≤ 64 := by have := filtB_len (stepsB f r bl a (occL (tk zs))) id ((f * r).toNat); have := (bd_valid hbd).2; omega
  have hs2 : (filtB (pawnC f bl a) id ((f * r).toNat)).length ≤ 64 := by have := filtB_len (pawnC f bl a) id ((f * r).toNat); have := (bd_valid hbd).2; omega
  repeat (first | (first | refine sat_self ?_ | refine sat_nd ?_) | refine sat_need (need_i ha0 ha1) ?_ | refine sat_need (need_i hb0 hb1) ?_ | refine sat_need (need_ig ha0 ha1) ?_ | refine sat_need (need_ig hb0 hb1) ?_ | refine sat_need hvs ?_ | refine sat_need hf0 ?_ | refine sat_need (hf1 _) ?_ | refine sat_need (need_bd hc2 rfl) ?_ | refine sat_need (need_bdg hc2 rfl) ?_ | refine sat_need (need_bdv hc2 rfl hv4) ?_ | refine sat_need (need_hs8 hs1 rfl) ?_ | refine sat_need (need_hs8 hs2 rfl) ?_)
  refine sat_br (fun h => ?_) (fun h => ?_)
  ·have h : (!(decide (IntKind.i64.wrap (b.tdiv f) = lastR r bl) == !decide (pr = 0))) = true := h
   exact sat_ret (fin_val (.inr rfl) rfl rfl rfl (by rw [pnL, h]; rfl))
  have h : (!(decide (IntKind.i64.wrap (b.tdiv f) = lastR r bl) == !decide (pr = 0))) = false := h
  repeat (first | (first | refine sat_self ?_ | refine sat_nd ?_) | refine sat_need (need_i ha0 ha1) ?_ | refine sat_need (need_i hb0 hb1) ?_ | refine sat_need (need_ig ha0 ha1) ?_ | refine sat_need (need_ig hb0 hb1) ?_ | refine sat_need hvs ?_ | refine sat_need hf0 ?_ | refine sat_need (hf1 _) ?_ | refine sat_need (need_bd hc2 rfl) ?_ | refine sat_need (need_bdg hc2 rfl) ?_ | refine sat_need (need_bdv hc2 rfl hv4) ?_ | refine sat_need (need_hs8 hs1 rfl) ?_ | refine sat_need (need_hs8 hs2 rfl) ?_)
  refine sat_br (fun h2 => ?_) (fun h2 => ?_)
  ·have h2 : hasL b (tk (filtB (stepsB f r bl a (occL (tk zs))) id ((f * r).toNat))) = true := h2
   rw [tk_eq, tk_eq] at h2
   exact sat_ret (fin_val (.inr rfl) rfl rfl rfl (by rw [pnL, h, h2]; rfl))
  have h2 : hasL b (tk (filtB (stepsB f r bl a (occL (tk zs))) id ((f * r).toNat))) = false := h2
  rw [tk_eq, tk_eq] at h2
  repeat (first | (first | refine sat_self ?_ | refine sat_nd ?_) | refine sat_need (need_i ha0 ha1) ?_ | refine sat_need (need_i hb0 hb1) ?_ | refine sat_need (need_ig ha0 ha1) ?_ | refine sat_need (need_ig hb0 hb1) ?_ | refine sat_need hvs ?_ | refine sat_need hf0 ?_ | refine sat_need (hf1 _) ?_ | refine sat_need (need_bd hc2 rfl) ?_ | refine sat_need (need_bdg hc2 rfl) ?_ | refine sat_need (need_bdv hc2 rfl hv4) ?_ | refine sat_need (need_hs8 hs1 rfl) ?_ | refine sat_need (need_hs8 hs2 rfl) ?_)
  exact sat_ret (fin_val (.inr rfl) rfl rfl rfl (congrArg V.bool (by
   show (hasL b (tk (filtB (pawnC f bl a) id ((f * r).toNat))) && (!decide (zs.getD b.toNat 0 = 0) || decide (b = pa))) = _
   rw [tk_eq, pnL, h, h2]; rfl)))
 ·cases e
def c_rso : CF
 | [.agg [.int .i64 f, .int .i64 r, .sl 0 0 len none, .bool bl, .int .u8 ca, .int .i64 pa, .int .i64 _ha, .int .i64 _fu], .agg [.int .i64 a, .int .i64 b, .int .i8 pr]], [.ints false .i8 zs] => some (decide (len = zs.length) && decide (zs.length ≤ 64) && (validBd f r zs && castL f r zs ca && validB f r a && validB f r b), .bool (soL f r zs bl ca pa a b pr), [])
 | _, _ => none
theorem c_rso_ok : CtOk (GGx kCa kDb) PP (57, c_rso) := by
 refine ct_mk Tryz.func57 (by kernel_rfl) rfl fun a0 h0 c0 v0 N0 e hc => ?_
 unfold c_rso at e
 split at e
 ·rename_i f r len bl ca pa ha fu a b pr zs
  cases e
  have hE := EE_ok (kCa := kCa) (kDb := kDb) (cts := [(56, c_rown), (72, c_rpkind), (113, c_rpn), (36, c_rcgl), (68, c_rOf), (115, c_Occ), (114, c_Reaches)]) (inl := []) ⟨c_rown_ok, c_rpkind_ok, c_rpn_ok, c_rcgl_ok, c_rOf_ok, c_Occ_ok, c_Reaches_ok, trivial⟩ trivial
  refine fn_sound hE 2 Tryz.func57 rfl rfl ?_
  simp only [Bool.and_eq_true, decide_eq_true_eq] at hc
  obtain ⟨⟨rfl, hc2⟩, ⟨⟨hbd, hcs⟩, hva⟩, hvb⟩ := hc
  have hvs := (bd_valid hbd).1
  obtain ⟨ha0, ha1⟩ := (bd_sq hbd).1 hva
  obtain ⟨hb0, hb1⟩ := (bd_sq hbd).1 hvb
  have hf0 : (!decide (f = 0)) = true := by have := vs_bd hvs; simp; omega
  have hf1 : ∀ g : Bool, (!g || !decide (f = 0)) = true := fun g => by rw [hf0]; simp
  have hbt : validBd f r (tk zs) = true := by rw [tk_eq]; exact hbd
  have hct : castL f r (tk zs) ca = true := by rw [tk_eq]; exact hcs
  have hv4 : (validBd f r (tk zs) && castL f r (tk zs) ca && validB f r a && validB f r b) = true := by rw [hbt, hct, hva, hvb]; rfl
  have hv5 : (validBd f r (tk zs) && castL f r (tk zs) ca && (validB f r a && validB f r b)) = true := by rw [hbt, hct, hva, hvb]; rfl
  have hs1 : (filtB (stepsB f r bl a (occL (tk zs))) id ((f * r).toNat)).length ≤ 64 := by have := filtB_len (stepsB f r bl a (occL (tk zs))) id ((f * r).toNat); have := (bd_valid hbd).2; omega
  have hs2 : (filtB (pawnC f bl a) id ((f * r).toNat)).length ≤ 64 := by have := filtB_len (pawnC f bl a) id ((f * r).toNat); have := (bd_valid hbd).2; omega
  repeat (first | (first | refine sat_self ?_ | refine sat_nd ?_) | refine sat_need (need_i ha0 ha1) ?_ | refine sat_need (need_i hb0 hb1) ?_ | refine sat_need (need_ig ha0 ha1) ?_ | refine sat_need (need_ig hb0 hb1) ?_ | refine sat_need hvs ?_ | refine sat_need hf0 ?_ | refine sat_need (hf1 _) ?_ | refine sat_need (need_bd hc2 rfl) ?_ | refine sat_need (need_bdg hc2 rfl) ?_ | refine sat_need (need_bdv hc2 rfl hv4) ?_ | refine sat_need (need_hs8 hs1 rfl) ?_ | refine sat_need (need_hs8 hs2 rfl) ?_)
  refine sat_br (fun h => ?_) (fun h => ?_)
  ·have h : ownL (zs.getD b.toNat 0) bl = true := h
   exact sat_ret (fin_val (.inr rfl) rfl rfl rfl (by rw [soL, h]; rfl))
  have h : ownL (zs.getD b.toNat 0) bl = false := h
  repeat (first | (first | refine sat_self ?_ | refine sat_nd ?_) | refine sat_need (need_i ha0 ha1) ?_ | refine sat_need (need_i hb0 hb1) ?_ | refine sat_need (need_ig ha0 ha1) ?_ | refine sat_need (need_ig hb0 hb1) ?_ | refine sat_need hvs ?_ | refine sat_need hf0 ?_ | refine sat_need (hf1 _) ?_ | refine sat_need (need_bd hc2 rfl) ?_ | refine sat_need (need_bdg hc2 rfl) ?_ | refine sat_need (need_bdv hc2 rfl hv4) ?_ | refine sat_need (need_hs8 hs1 rfl) ?_ | refine sat_need (need_hs8 hs2 rfl) ?_)
  refine sat_br (fun h2 => ?_) (fun h2 => ?_)
  ·have h2 : decide (kind8 (zs.getD a.toNat 0) = 1) = true := h2
   repeat (first | (first | refine sat_self ?_ | refine sat_nd ?_) | refine sat_need (need_i ha0 ha1) ?_ | refine sat_need (need_i hb0 hb1) ?_ | refine sat_need (need_ig ha0 ha1) ?_ | refine sat_need (need_ig hb0 hb1) ?_ | refine sat_need hvs ?_ | refine sat_need hf0 ?_ | refine sat_need (hf1 _) ?_ | refine sat_need (need_bd hc2 rfl) ?_ | refine sat_need (need_bdg hc2 rfl) ?_ | refine sat_need (need_bdv hc2 rfl hv4) ?_ | refine sat_need (need_hs8 hs1 rfl) ?_ | refine sat_need (need_hs8 hs2 rfl) ?_)
   exact sat_ret (fin_val (.inr rfl) rfl rfl rfl (congrArg V.bool (by
    show pnL f r (tk zs) bl pa a b pr = _
    rw [tk_eq, soL, h, h2]; rfl)))
  have h2 : decide (kind8 (zs.getD a.toNat 0) = 1) = false := h2
  repeat (first | (first | refine sat_self ?_ | refine sat_nd ?_) | refine sat_need (need_i ha0 ha1) ?_ | refine sat_need (need_i hb0 hb1) ?_ | refine sat_need (need_ig ha0 ha1) ?_ | refine sat_need (need_ig hb0 hb1) ?_ | refine sat_need hvs ?_ | refine sat_need hf0 ?_ | refine sat_need (hf1 _) ?_ | refine sat_need (need_bd hc2 rfl) ?_ | refine sat_need (need_bdg hc2 rfl) ?_ | refine sat_need (need_bdv hc2 rfl hv4) ?_ | refine sat_need (need_hs8 hs1 rfl) ?_ | refine sat_need (need_hs8 hs2 rfl) ?_)
  refine sat_br (fun h3 => ?_) (fun h3 => ?_)
  ·have h3 : (!decide (cgL f r (tk zs) bl ca a b pr = 0)) = true := h3
   rw [tk_eq] at h3
   exact sat_ret (fin_val (.inr rfl) rfl rfl rfl (by rw [soL, h, h2, h3]; rfl))
  have h3 : (!decide (cgL f r (tk zs) bl ca a b pr = 0)) = false := h3
  rw [tk_eq] at h3
  repeat (first | (first | refine sat_self ?_ | refine sat_nd ?_) | refine sat_need (need_i ha0 ha1) ?_ | refine sat_need (need_i hb0 hb1) ?_ | refine sat_need (need_ig ha0 ha1) ?_ | refine sat_need (need_ig hb0 hb1) ?_ | refine sat_need hvs ?_ | refine sat_need hf0 ?_ | refine sat_need (hf1 _) ?_ | refine sat_need (need_bd hc2 rfl) ?_ | refine sat_need (need_bdg hc2 rfl) ?_ | refine sat_need (need_bdv hc2 rfl hv4) ?_ | refine sat_need (need_hs8 hs1 rfl) ?_ | refine sat_need (need_hs8 hs2 rfl) ?_)
  exact sat_ret (fin_val (.inr rfl) rfl rfl rfl (congrArg V.bool (by
   show (decide (pr = 0) && reachesB f r (kind8 (zs.getD a.toNat 0)) a b (occL (tk zs))) = _
   rw [tk_eq, soL, h, h2, h3]; rfl)))
 ·cases e
end Go.Ab

set_option maxRecDepth 100000
set_option maxHeartbeats 4000000
namespace Go.Ab
open Go.Proofs
variable {kCa kDb : Bool}
end Go.Ab

set_option maxRecDepth 100000
set_option maxHeartbeats 4000000
namespace Go.Ab
open Go.Proofs
theorem own_is (p : Int) (bl : Bool) : ownL p bl = isP p bl := by
 unfold ownL isP
 have h : p < 0 ∨ p = 0 ∨ 0 < p := by omega
 rcases h with h | h | h
 ·have h1 : ¬ p = 0 := by omega
  have h2 : ¬ 0 < p := by omega
  cases bl <;> simp [h, h1, h2]
 ·subst h; cases bl <;> rfl
 ·have h1 : ¬ p = 0 := by omega
  have h2 : ¬ p < 0 := by omega
  cases bl <;> simp [h, h1, h2]
theorem bit_eq {ca : Int} (h : 0 ≤ ca ∧ ca ≤ 15) {bit : Int} (hb : bit = 1 ∨ bit = 2 ∨ bit = 4 ∨ bit = 8) : decide ((IntKind.u8.wrap (ca.tdiv bit)).tmod 2 = 1) = !decide (u8and ca bit = 0) := by
 obtain ⟨h1, h2⟩ := h
 have : ca = 0 ∨ ca = 1 ∨ ca = 2 ∨ ca = 3 ∨ ca = 4 ∨ ca = 5 ∨ ca = 6 ∨ ca = 7 ∨ ca = 8 ∨ ca = 9 ∨ ca = 10 ∨ ca = 11 ∨ ca = 12 ∨ ca = 13 ∨ ca = 14 ∨ ca = 15 := by omega
 rcases hb with rfl | rfl | rfl | rfl <;> rcases this with rfl | rfl | rfl | rfl | rfl | rfl | rfl | rfl | rfl | rfl | rfl | rfl | rfl | rfl | rfl | rfl <;> decide
theorem home_rt {f r : Int} {zs : List Int} : (homeB f r zs 1 = !((!is88 f r || !decide (zs.getD 4 0 = ofP 6 false)) || !decide (zs.getD 7 0 = ofP 4 false))) ∧ (homeB f r zs 2 = !((!is88 f r || !decide (zs.getD 4 0 = ofP 6 false)) || !decide (zs.getD 0 0 = ofP 4 false))) ∧ (homeB f r zs 4 = !((!is88 f r || !decide (zs.getD 60 0 = ofP 6 true)) || !decide (zs.getD 63 0 = ofP 4 true))) ∧ (homeB f r zs 8 = !((!is88 f r || !decide (zs.getD 60 0 = ofP 6 true)) || !decide (zs.getD 56 0 = ofP 4 true))) := by
 have e1 : ofP 6 false = 6 := by decide
 have e2 : ofP 4 false = 4 := by decide
 have e3 : ofP 6 true = -6 := by decide
 have e4 : ofP 4 true = -4 := by decide
 rw [e1, e2, e3, e4]
 unfold homeB is88
 cases decide (f = 8) <;> cases decide (r = 8) <;> simp
theorem cast_eq {f r : Int} {zs : List Int} {ca : Int} (h0 : 0 ≤ ca) : castL f r zs ca = castB f r zs ca := by
 unfold castL castB
 rcases Int.lt_or_le 15 ca with h | h
 ·have h2 : ¬ ca < 16 := by omega
  simp [h, h2]
 ·have h2 : ca < 16 := by omega
  have h1 : ¬ 15 < ca := by omega
  obtain ⟨a1, a2, a3, a4⟩ := home_rt (f := f) (r := r) (zs := zs)
  have hx : 0 ≤ ca ∧ ca ≤ 15 := ⟨h0, h⟩
  simp only [rXL, rtX, bit_eq hx (.inl rfl), bit_eq hx (.inr (.inl rfl)), bit_eq hx (.inr (.inr (.inl rfl))), bit_eq hx (.inr (.inr (.inr rfl))), a1, a2, a3, a4, Bool.not_not, decide_eq_true h2, decide_eq_false h1, cond_false, Bool.and_true, Bool.not_or, Bool.not_and]
end Go.Ab

set_option maxRecDepth 100000
namespace Go.Ab
open Go.Proofs
theorem findI_spec (p : Int → Bool) : ∀ (l : List Int) (k : Int), (findI p l k = -1 ∧ ∀ i, i < l.length → p (l.getD i 0) = false) ∨ (∃ j, j < l.length ∧ findI p l k = k + (j : Nat) ∧ p (l.getD j 0) = true ∧ ∀ i, i < j → p (l.getD i 0) = false)
 | [], k => .inl ⟨rfl, fun i h => by simp at h⟩
 | x :: l, k => by
  rw [findI]
  cases hx : p x with
  | true => right; exact ⟨0, by simp, by simp, by simpa using hx, fun i h => by omega⟩
  | false =>
   rw [cond_false]
   rcases findI_spec p l (k + 1) with ⟨h1, h2⟩ | ⟨j, h1, h2, h3, h4⟩
   ·left
    refine ⟨h1, fun i hi => ?_⟩
    cases i with
    | zero => simpa using hx
    | succ i => have := h2 i (by simpa using hi); simpa using this
   ·right
    refine ⟨j + 1, by simpa using h1, by rw [h2]; push_cast; omega, by simpa using h3, fun i hi => ?_⟩
    cases i with
    | zero => simpa using hx
    | succ i => have := h4 i (by omega); simpa using this
theorem filt_none {c : Int → Bool} : ∀ (n : Nat), (∀ i : Nat, i < n → c i = false) → filtB c id n = []
 | 0, _ => rfl
 | n + 1, h => by rw [filtB_succ, h n (by omega), cond_false]; exact filt_none n fun i hi => h i (by omega)
theorem filt_one {c : Int → Bool} {a : Nat} (ha : c a = true) : ∀ (n : Nat), a < n → (∀ i : Nat, i < n → c i = true → i = a) → filtB c id n = [(a : Int)]
 | 0, h, _ => by omega
 | n + 1, h, hu => by
  rw [filtB_succ]
  by_cases e : n = a
  ·subst e
   rw [ha, cond_true, filt_none n fun i hi => ?_]
   ·rfl
   ·cases hc : c i with
    | false => rfl
    | true => have := hu i (by omega) hc; omega
  ·have : c n = false := by
    cases hc : c n with
    | false => rfl
    | true => exact absurd (hu n (by omega) hc) e
   rw [this, cond_false]
   exact filt_one ha n (by omega) fun i hi => hu i (by omega)
theorem kg_eq (bl : Bool) : w8 (IntKind.i64.wrap (6 * sdI bl)) = kgP bl := by cases bl <;> decide
theorem any_drop {zs : List Int} {p : Int → Bool} {k : Nat} : (zs.drop k).any p = true ↔ ∃ i, k ≤ i ∧ i < zs.length ∧ p (zs.getD i 0) = true := by
 rw [List.any_eq_true]
 constructor
 ·rintro ⟨x, hx, hp⟩
  obtain ⟨i, hi, rfl⟩ := List.mem_iff_getElem.1 hx
  rw [List.getElem_drop] at hp
  rw [List.length_drop] at hi
  exact ⟨k + i, by omega, by omega, by simpa [List.getD, show k + i < zs.length by omega] using hp⟩
 ·rintro ⟨i, h1, h2, h3⟩
  refine ⟨zs.getD i 0, ?_, h3⟩
  rw [List.mem_iff_getElem]
  refine ⟨i - k, by rw [List.length_drop]; omega, ?_⟩
  rw [List.getElem_drop]
  simp [List.getD, h2, show k + (i - k) = i by omega]
theorem king_ref (zs : List Int) (bl : Bool) (hl : zs.length ≤ 64) : (kingN zs bl = true ∧ refKing zs bl = -1) ∨ (kingN zs bl = false ∧ refKing zs bl = kingI zs bl ∧ 0 ≤ kingI zs bl ∧ kingI zs bl < zs.length ∧ zs.getD (kingI zs bl).toNat 0 = kgP bl ∧ ∀ i : Nat, i < zs.length → zs.getD i 0 = kgP bl → (i : Int) = kingI zs bl) := by
 unfold refKing kingN
 rw [kg_eq]
 rcases findI_spec (isV (kgP bl)) zs 0 with ⟨h1, h2⟩ | ⟨j, h1, h2, h3, h4⟩
 ·left
  have hn : listL zs (kgP bl) = [] := filt_none _ fun i hi => by
   have := h2 i hi
   simp only [isV, decide_eq_false_iff_not] at this
   simp only [listC, Int.toNat_natCast, decide_eq_false_iff_not]
   exact fun e => this e.symm
  rw [hn]
  refine ⟨?_, rfl⟩
  rw [show kingI zs bl = -1 from h1]; rfl
 ·have hK : kingI zs bl = (j : Int) := by unfold kingI; rw [h2]; omega
  simp only [isV, decide_eq_true_eq] at h3
  rw [hK, show IntKind.i64.wrap ((j : Int) + 1) = ((j + 1 : Nat) : Int) by rw [w64_id (by omega) (by omega)]; omega, Int.toNat_natCast, show decide ((j : Int) < 0) = false by simp, Bool.false_or]
  cases ha : (zs.drop (j + 1)).any (isV (kgP bl)) with
  | true =>
   left
   refine ⟨rfl, ?_⟩
   obtain ⟨i, g1, g2, g3⟩ := any_drop.1 ha
   simp only [isV, decide_eq_true_eq] at g3
   have m1 : (j : Int) ∈ listL zs (kgP bl) := mem_filtB.2 ⟨by omega, by omega, by simp [listC, h3]⟩
   have m2 : (i : Int) ∈ listL zs (kgP bl) := mem_filtB.2 ⟨by omega, by omega, by simp [listC, g3]⟩
   cases hd : decide (((listL zs (kgP bl)).length : Int) = 1) with
   | false => rfl
   | true =>
    have : (listL zs (kgP bl)).length = 1 := by have := of_decide_eq_true hd; omega
    obtain ⟨x, hx⟩ := List.length_eq_one_iff.1 this
    rw [hx] at m1 m2
    simp at m1 m2
    omega
  | false =>
   right
   have hno : ∀ i : Nat, i < zs.length → zs.getD i 0 = kgP bl → i = j := by
    intro i hi he
    rcases Nat.lt_trichotomy i j with g | g | g
    ·have := h4 i g
     simp only [isV, decide_eq_false_iff_not] at this
     exact absurd he.symm this
    ·exact g
    ·have : (zs.drop (j + 1)).any (isV (kgP bl)) = true := any_drop.2 ⟨i, by omega, hi, by simp only [isV, decide_eq_true_eq]; exact he.symm⟩
     rw [ha] at this; cases this
   have hone : listL zs (kgP bl) = [(j : Int)] := filt_one (by simp [listC, h3]) _ h1 fun i hi hc => hno i hi (by simpa [listC] using hc)
   refine ⟨rfl, by rw [hone]; rfl, by omega, by omega, by rw [h3, Int.toNat_natCast], fun i hi he => by rw [hno i hi he]⟩
theorem king_iff {f r : Int} {zs : List Int} {bl : Bool} (h : orthBd f r zs = true) (hl : zs.length ≤ 64) : (refKing zs bl < 0 ∧ kingR f r zs bl = (0, 9)) ∨ (kingR f r zs bl = (refKing zs bl, 0) ∧ validB f r (refKing zs bl) = true ∧ refKing zs bl = kingI zs bl) := by
 rcases king_ref zs bl hl with ⟨h1, h2⟩ | ⟨h1, h2, h3, h4, _⟩
 ·left; exact ⟨by rw [h2]; decide, by unfold kingR; rw [h, h1]; rfl⟩
 ·right; exact ⟨by unfold kingR; rw [h, h1, h2]; rfl, (sq_iff h).2 (by rw [h2]; exact ⟨h3, h4⟩), h2⟩
end Go.Ab

set_option maxRecDepth 100000
namespace Go.Ab
open Go.Proofs
theorem att_zero {f r : Int} {zs : List Int} {to : Int} {bl : Bool} (h : orthBd f r zs = true) (hl : zs.length ≤ 64) (ht : validB f r to = true) : decide (attR f r zs to bl = 0) = decide (((attL f r zs to bl).length : Int) = 0) := by
 obtain ⟨hu, hb⟩ := attR_bt (bl := bl) h hl ht
 rw [decide_eq_decide, uk_eq_0 hu]
 constructor
 ·intro h0
  have : attL f r zs to bl = [] := List.eq_nil_iff_forall_not_mem.2 fun x hx => by
   have hx' := mem_attL.1 hx
   have := h0 x.toNat (by omega)
   rw [hb, show ((x.toNat : Nat) : Int) = x by omega] at this
   simp [hx] at this
  rw [this]; rfl
 ·intro h0 n _
  have : attL f r zs to bl = [] := List.eq_nil_of_length_eq_zero (by omega)
  rw [hb, this]; simp
theorem chk_eq {f r : Int} {zs : List Int} {bl : Bool} (h : orthBd f r zs = true) (hl : zs.length ≤ 64) (hk : (kingR f r zs bl).2 = 0) : chkL f r zs bl = chkB f r zs bl := by
 rcases king_iff (bl := bl) h hl with ⟨_, h2⟩ | ⟨h1, h2, _⟩
 ·rw [h2] at hk; cases hk
 ·unfold chkL chkB checkersR
  rw [h1]
  simp only [decide_true, cond_true]
  rw [att_zero h hl h2]
  have : (0 : Int) ≤ ((attL f r zs (refKing zs bl) (!bl)).length : Int) := Int.natCast_nonneg _
  by_cases h0 : ((attL f r zs (refKing zs bl) (!bl)).length : Int) = 0
  ·simp [h0]
  ·have : 0 < ((attL f r zs (refKing zs bl) (!bl)).length : Int) := by omega
   rw [decide_eq_false h0, decide_eq_true this]; rfl
theorem kings_eq {f r : Int} {zs : List Int} {bl : Bool} (hl : zs.length ≤ 64) : (validBd f r zs && kingsB f r zs bl) = (orthBd f r zs && !decide (refKing zs false < 0) && !decide (refKing zs true < 0) && !chkL f r zs (!bl)) := by
 cases ho : orthBd f r zs with
 | false =>
  have : kingsB f r zs bl = false := by unfold kingsB kingR; rw [ho]; simp
  rw [this]; simp
 | true =>
  have hv := (orth_valid ho).2.2.1
  rw [hv]
  simp only [Bool.true_and]
  have key : ∀ b, decide (refKing zs b < 0) = !decide ((kingR f r zs b).2 = 0) := fun b => by
   rcases king_iff (bl := b) ho hl with ⟨h1, h2⟩ | ⟨h1, h2, _⟩
   ·rw [h2]; simp [h1]
   ·rw [h1]; have := (valid_lt h2).1; simp; omega
  rw [key, key]
  unfold kingsB
  have hch : ∀ b, (checkersR f r zs b).2 = 0 ↔ (kingR f r zs b).2 = 0 := fun b => by
   unfold checkersR
   by_cases h : (kingR f r zs b).2 = 0
   ·simp [h]
   ·simp [h]
  cases hk1 : decide ((kingR f r zs bl).2 = 0) with
  | false => cases bl <;> rw [hk1] <;> simp
  | true =>
   cases hk2 : decide ((kingR f r zs (!bl)).2 = 0) with
   | false =>
    have : decide ((checkersR f r zs (!bl)).2 = 0) = false := by rw [decide_eq_false_iff_not, hch]; exact of_decide_eq_false hk2
    rw [this]
    cases bl <;> simp only [Bool.not_true, Bool.not_false] at hk2 ⊢ <;> rw [hk2] <;> simp
   | true =>
    have h1 : decide ((checkersR f r zs (!bl)).2 = 0) = true := by rw [decide_eq_true_eq, hch]; exact of_decide_eq_true hk2
    rw [h1, chk_eq ho hl (of_decide_eq_true hk2)]
    unfold chkB
    cases bl <;> simp only [Bool.not_true, Bool.not_false] at hk2 ⊢ <;> rw [hk1, hk2] <;> simp
theorem any_getD {zs : List Int} {p : Int → Bool} : zs.any p = true ↔ ∃ i, i < zs.length ∧ p (zs.getD i 0) = true := by
 have := any_drop (zs := zs) (p := p) (k := 0)
 rw [List.drop_zero] at this
 rw [this]; exact ⟨fun ⟨i, _, h⟩ => ⟨i, h⟩, fun ⟨i, h⟩ => ⟨i, by omega, h⟩⟩
theorem any_take {zs : List Int} {p : Int → Bool} {k : Nat} : (zs.take k).any p = true ↔ ∃ i, i < k ∧ i < zs.length ∧ p (zs.getD i 0) = true := by
 rw [any_getD]
 constructor
 ·rintro ⟨i, h1, h2⟩
  rw [List.length_take] at h1
  exact ⟨i, by omega, by omega, by simpa [List.getD, List.getElem?_take, show i < k by omega] using h2⟩
 ·rintro ⟨i, h1, h2, h3⟩
  exact ⟨i, by rw [List.length_take]; omega, by simpa [List.getD, List.getElem?_take, h1] using h3⟩
theorem pawns_eq {f r : Int} {zs : List Int} (h : orthBd f r zs = true) (_hl : zs.length ≤ 64) : pawnsB f zs = !pwAny f r zs := by
 obtain ⟨hv, hn, hbd, hp⟩ := orth_valid h
 have hb := vs_bd hv
 have hpw : ∀ i : Nat, i < zs.length → (pwL f r zs i = true ↔ (zs.getD i 0 = 1 ∧ zs.length - f.toNat ≤ i) ∨ (zs.getD i 0 = -1 ∧ i < f.toNat)) := by
  intro i hi
  have hvi : validB f r (i : Int) = true := (bd_sq hbd).2 ⟨by omega, by omega⟩
  obtain ⟨hd, x0, x1, y0, y1, he, _⟩ := px_bd hvi
  have hpc := piece_bd h (i := (i : Int)) (by omega) (by omega)
  have hl0 : lastR r (decide ((1 : Int) < 0)) = r - 1 := w64_id (by omega) (by omega)
  have hl1 : lastR r (decide ((-1 : Int) < 0)) = 0 := rfl
  have hmul : f * r = (r - 1) * f + f := by rw [Int.sub_mul, Int.mul_comm r f]; omega
  rw [Int.toNat_natCast] at hpc
  unfold pwL
  rw [hd, Int.toNat_natCast, kind_abs hpc]
  simp only [Bool.and_eq_true, decide_eq_true_eq]
  constructor
  ·rintro ⟨h1, h2⟩
   have : zs.getD i 0 = 1 ∨ zs.getD i 0 = -1 := by omega
   rcases this with e | e
   ·left
    rw [e, hl0] at h2
    rw [h2] at he
    exact ⟨e, by omega⟩
   ·right
    rw [e, hl1] at h2
    rw [h2] at he
    exact ⟨e, by omega⟩
  ·rintro (⟨e, h2⟩ | ⟨e, h2⟩)
   ·rw [e, hl0]
    refine ⟨by decide, ?_⟩
    have h5 : ¬ py f i < r - 1 := by
     intro h6
     have : (py f i + 1) * f ≤ (r - 1) * f := Int.mul_le_mul_of_nonneg_right (by omega) (by omega)
     rw [Int.add_mul] at this
     omega
    omega
   ·rw [e, hl1]
    refine ⟨by decide, ?_⟩
    have h5 : ¬ 1 ≤ py f i := by
     intro h6
     have : 1 * f ≤ py f i * f := Int.mul_le_mul_of_nonneg_right h6 (by omega)
     omega
    omega
 have hiff : pwAny f r zs = true ↔ ((zs.drop (zs.length - f.toNat)).any (isV 1) = true ∨ (zs.take f.toNat).any (isV (-1)) = true) := by
  rw [any_drop, any_take]
  unfold pwAny
  rw [List.any_eq_true]
  constructor
  ·rintro ⟨i, hi, hp⟩
   have hi := List.mem_range.1 hi
   rcases (hpw i hi).1 hp with ⟨e, g⟩ | ⟨e, g⟩
   ·left; exact ⟨i, g, hi, by rw [e]; rfl⟩
   ·right; exact ⟨i, g, hi, by rw [e]; rfl⟩
  ·rintro (⟨i, g1, g2, g3⟩ | ⟨i, g1, g2, g3⟩)
   ·simp only [isV, decide_eq_true_eq] at g3
    exact ⟨i, List.mem_range.2 g2, (hpw i g2).2 (.inl ⟨g3.symm, g1⟩)⟩
   ·simp only [isV, decide_eq_true_eq] at g3
    exact ⟨i, List.mem_range.2 g2, (hpw i g2).2 (.inr ⟨g3.symm, g1⟩)⟩
 unfold pawnsB
 cases h1 : (zs.drop (zs.length - f.toNat)).any (isV 1) <;> cases h2 : (zs.take f.toNat).any (isV (-1)) <;> rw [h1, h2] at hiff <;> cases h3 : pwAny f r zs <;> rw [h3] at hiff <;> simp at hiff ⊢
theorem px_up {f r n k : Int} {zs : List Int} (hbd : validBd f r zs = true) (hn : validB f r n = true) (_hk : k = 1 ∨ k = -1) (hb : validB f r (n + k * f) = true) : px f (n + k * f) = px f n ∧ py f (n + k * f) = py f n + k := by
 obtain ⟨_, a1, a2, a3, a4, a5, a6⟩ := px_bd hn
 obtain ⟨_, b1, b2, b3, b4, b5, _⟩ := px_bd hb
 have := hbd
 refine pl_uniq (f := f) (by omega) b1 b2 a1 a2 ?_
 rw [b5, Int.add_mul]; omega
theorem pass_eq {f r : Int} {zs : List Int} {bl : Bool} {pa ha : Int} (hbd : validBd f r zs = true) : pasL f r zs bl pa ha = passB f r zs bl pa ha := by
 unfold pasL passB
 cases h1 : decide (pa = -1) with
 | true => rfl
 | false =>
  rw [cond_false, Bool.false_or]
  by_cases h2 : 6 ≤ r
  ·have e2 : decide (r < 6) = false := by simp; omega
   rw [e2, decide_eq_true h2]
   cases h3 : decide (ha = 0) with
   | false => simp
   | true =>
    cases h4 : validB f r pa with
    | false => simp
    | true =>
     have hv := (bd_valid hbd).1
     have hb := vs_bd hv
     obtain ⟨hd, x0, x1, y0, y1, he, _⟩ := px_bd h4
     have hm : pa.tmod f = px f pa := rfl
     have hr2 : rankR r (!bl) 2 = (bif bl then 1 else r - 2) := by
      unfold rankR; cases bl
      ·exact w64_id (by omega) (by omega)
      ·rfl
     have hr4 : rankR r (!bl) 4 = (bif bl then 3 else r - 4) := by
      unfold rankR; cases bl
      ·exact w64_id (by omega) (by omega)
      ·rfl
     have hk : decide (IntKind.i64.wrap (2 * IntKind.i64.wrap (pa.tdiv f)) = IntKind.i64.wrap (rankR r (!bl) 2 + rankR r (!bl) 4)) = decide (IntKind.i64.wrap (pa.tdiv f) = rkP r bl) := by
      rw [hd, hr2, hr4, decide_eq_decide]
      rw [w64_id (n := 2 * py f pa) (by omega) (by omega)]
      unfold rkP
      cases bl
      ·simp only [cond_false]
       rw [w64_id (by omega) (by omega), w64_id (by omega) (by omega)]; omega
      ·simp only [cond_true]
       rw [w64_id (by omega) (by omega)]; omega
     rw [hk]
     cases h5 : decide (IntKind.i64.wrap (pa.tdiv f) = rkP r bl) with
     | false => simp
     | true =>
      obtain ⟨n1, n2, n3, n4, n5, n6, n7⟩ := pass_near (bl := bl) hbd h2 h4 (of_decide_eq_true h5)
      have hlt := (bd_sq hbd).1 h4
      have hm1 : validB f r (pa + -1 * f) = true := (bd_sq hbd).2 ⟨by omega, by omega⟩
      have hp1 : validB f r (pa + 1 * f) = true := (bd_sq hbd).2 ⟨by omega, by omega⟩
      have hy : py f pa = (bif bl then 2 else r - 3) := by
       have := of_decide_eq_true h5
       rw [hd] at this
       rw [this]; unfold rkP; cases bl
       ·exact w64_id (by omega) (by omega)
       ·rfl
      have hnum : ∀ {k R : Int}, (k = 1 ∨ k = -1) → R = py f pa + k → validB f r (pa + k * f) = true → numR f r (pa.tmod f) R = pa + k * f := by
       intro k R hk hR hvk
       obtain ⟨p1, p2⟩ := px_up hbd h4 hk hvk
       have ho : onB f r (pa.tmod f) R = true := by
        obtain ⟨_, _, _, q3, q4, _⟩ := px_bd hvk
        rw [p2, ← hR] at q3 q4
        exact on_mk (by rw [hm]; exact x0) (by rw [hm]; exact x1) q3 q4
       exact (num_iff hv ho hvk).2 ⟨by rw [p1, hm], by rw [p2, hR]⟩
      have hpc : pieceR 1 (!bl) = ofP 1 (!bl) := rfl
      rw [hr2, hr4, hpc]
      cases bl
      ·simp only [cond_false] at hy ⊢
       have q1 := hnum (k := 1) (R := r - 2) (.inl rfl) (by omega) hp1
       have q2 := hnum (k := -1) (R := r - 4) (.inr rfl) (by omega) hm1
       simp only [q1, q2, upP, cond_false, n5, n6, n7]
       have z1 : pa + 1 * f = pa + f := by omega
       have z2 : pa + -1 * f = pa - f := by omega
       simp only [z1, z2]
       simp [Bool.and_assoc]
      ·simp only [cond_true] at hy ⊢
       have q1 := hnum (k := -1) (R := 1) (.inr rfl) (by omega) hm1
       have q2 := hnum (k := 1) (R := 3) (.inl rfl) (by omega) hp1
       simp only [q1, q2, upP, cond_true, n3, n4]
       have z1 : pa + 1 * f = pa + f := by omega
       have z2 : pa + -1 * f = pa - f := by omega
       simp only [z1, z2]
       simp [Bool.and_assoc]
  ·have e2 : decide (r < 6) = true := by simp; omega
   rw [e2, decide_eq_false h2]; simp
theorem psn_valid {p : Psn} (hl : p.zs.length ≤ 64) (hca : 0 ≤ p.ca) : validL p = p.ok := by
 have hk := kings_eq (f := p.f) (r := p.r) (bl := p.bl) hl
 unfold validL Psn.ok
 cases ho : orthBd p.f p.r p.zs with
 | false =>
  rw [ho] at hk
  rw [hk]; simp
 | true =>
  rw [ho] at hk
  rw [hk, pawns_eq ho hl, cast_eq hca, pass_eq (orth_valid ho).2.2.1]
  cases decide (refKing p.zs false < 0) <;> cases decide (refKing p.zs true < 0) <;> cases chkL p.f p.r p.zs (!p.bl) <;> cases pwAny p.f p.r p.zs <;> simp [cntB, Bool.and_assoc]
end Go.Ab

set_option maxRecDepth 100000
namespace Go.Ab
open Go.Proofs
theorem betw_bt {f r : Int} {x K : Int} (hx : validB f r x = true) (hK : validB f r K = true) (hl : (lineR f x K).2.2 = true) : Uk (betwR f r x K).1 ∧ ∀ m : Nat, bt (betwR f r x K).1 m = decide ((m : Int) ∈ betwL f r x K) := by
 rw [(betw_set hx hK hl).2]
 obtain ⟨h1, h2⟩ := ofL_bt (betwL f r x K) 0 (fun y hy => ⟨(valid_lt ((betwL_bd hx).2 y hy)).1, (valid_lt ((betwL_bd hx).2 y hy)).2.2⟩) uk_0
 exact ⟨h1, fun m => by rw [h2, bt_0, Bool.false_or]⟩
theorem orth_set {f r : Int} {zs : List Int} {j v : Int} (h : orthBd f r zs = true) (hv : -6 ≤ v ∧ v ≤ 6) : orthBd f r (zs.set j.toNat v) = true := by
 simp only [orthBd, validBd, Bool.and_eq_true, Bool.not_eq_true', List.any_eq_false] at h ⊢
 rw [List.length_set]
 refine ⟨⟨h.1.1, fun p hp => ?_⟩, fun p hp => ?_⟩
 ·rcases List.mem_or_eq_of_mem_set hp with hp | rfl
  ·exact h.1.2 p hp
  ·simp [badP, okP]; omega
 ·rcases List.mem_or_eq_of_mem_set hp with hp | rfl
  ·exact h.2 p hp
  ·simp [norP, orP]; omega
end Go.Ab

set_option maxRecDepth 100000
namespace Go.Ab
open Go.Proofs
theorem w8_in {n : Int} (h1 : -128 ≤ n) (h2 : n ≤ 127) : w8 n = n := by
 show IntKind.wrap .i8 n = n
 unfold IntKind.wrap IntKind.bits IntKind.signed
 simp only [Bool.true_and, decide_eq_true_eq]
 split <;> omega
theorem abs_kind {f r : Int} {zs : List Int} (h : orthBd f r zs = true) {i : Int} (h0 : 0 ≤ i) (h1 : i < zs.length) : absP (zs.getD i.toNat 0) = kind8 (zs.getD i.toNat 0) := by
 have hp := piece_bd h h0 h1
 have hw : w8 (0 - zs.getD i.toNat 0) = 0 - zs.getD i.toNat 0 := w8_in (by omega) (by omega)
 rw [kind_abs hp]
 unfold absP imax
 rw [hw]
 by_cases hn : zs.getD i.toNat 0 < 0 - zs.getD i.toNat 0
 ·simp only [hn, decide_true, cond_true]; omega
 ·simp only [hn, decide_false, cond_false]; omega
theorem kinds_of {f r : Int} {zs : List Int} {bl : Bool} (h : orthBd f r zs = true) {i : Int} (h0 : 0 ≤ i) (h1 : i < zs.length) (hp : isP (zs.getD i.toNat 0) bl = true) (hk : ¬ kind8 (zs.getD i.toNat 0) = 1) : kinds5 (kind8 (zs.getD i.toNat 0)) := by
 have hb := piece_bd h h0 h1
 have hz := isP_nz hp
 rw [kind_abs hb] at hk ⊢
 unfold kinds5
 omega
theorem goes_eq {f r : Int} {zs : List Int} {bl : Bool} {_ca pa a b pr : Int} (h : orthBd f r zs = true) (hl : zs.length ≤ 64) (ha : validB f r a = true) (hb : validB f r b = true) (hp : isP (zs.getD a.toNat 0) bl = true) :
  goesB f r zs bl pa a b pr = bif decide (kind8 (zs.getD a.toNat 0) = 1) then pnL f r zs bl pa a b pr else decide (pr = 0) && reachesB f r (kind8 (zs.getD a.toNat 0)) a b (occL zs) := by
 have hbd := (orth_valid h).2.2.1
 obtain ⟨ha0, ha1⟩ := (bd_sq hbd).1 ha
 obtain ⟨hb0, hb1⟩ := (bd_sq hbd).1 hb
 have hb64 : b < 64 := by omega
 obtain ⟨hou, _⟩ := occ_bt hbd hl
 have hray : rayOn f r a (occR f r zs) = true := (rayOn_iff hou).2 ⟨ha, occ_on h hl⟩
 unfold goesB
 rw [abs_kind h ha0 ha1, occ_eq hbd hl]
 cases hk : decide (kind8 (zs.getD a.toNat 0) = 1) with
 | false =>
  obtain ⟨r1, _, r3⟩ := reach_bt hray hou (kinds_of h ha0 ha1 hp (of_decide_eq_false hk))
  simp only [Bool.not_false, cond_true, cond_false]
  have r1 : Uk (reachR f r (kind8 (zs.getD a.toNat 0)) a (occR f r zs)).1 := r1
  rw [bit_of r1 hb0 hb64]
  congr 1
  exact r3 b hb
 | true =>
  simp only [Bool.not_true, cond_true, cond_false]
  obtain ⟨_, s1, _, s2⟩ := steps_bt (bl := bl) hray hou
  obtain ⟨_, p1, _, p2⟩ := pawn_bt (bl := bl) ha
  have hu : Uk (bif decide (zs.getD b.toNat 0 = 0) && !decide (b = pa) then 0 else (pawnR f r bl a).1) := by
   cases (decide (zs.getD b.toNat 0 = 0) && !decide (b = pa))
   ·exact p1
   ·exact uk_0
  rw [bit_of (uk_or _ _) hb0 hb64, bt_or s1 hu, s2 b hb]
  have hpb : bt (bif decide (zs.getD b.toNat 0 = 0) && !decide (b = pa) then 0 else (pawnR f r bl a).1) b.toNat = (pawnC f bl a b && (!decide (zs.getD b.toNat 0 = 0) || decide (b = pa))) := by
   cases h1 : decide (zs.getD b.toNat 0 = 0) <;> cases h2 : decide (b = pa) <;> simp [p2 b hb, bt_0]
  rw [hpb]
  have hv := (bd_valid hbd).1
  have hin : ∀ c : Int → Bool, hasL b (filtB c id (f * r).toNat) = c b := fun c => by
   rw [Bool.eq_iff_iff, has_mem, mem_filtB]
   have := valid_lt hb
   exact ⟨fun h => h.2.2, fun h => ⟨hb0, by omega, h⟩⟩
  unfold pnL
  rw [hin, hin, occ_eq hbd hl]
  have hlast : lastP r bl = lastR r bl := rfl
  rw [hlast]
  cases decide (IntKind.i64.wrap (b.tdiv f) = lastR r bl) <;> cases decide (pr = 0) <;> cases stepsB f r bl a (occR f r zs) b <;> cases pawnC f bl a b <;> simp
theorem empty_eq {zs : List Int} {x K : Int} (hbd : validBd 8 8 zs = true) (hl : zs.length ≤ 64) (hx : validB 8 8 x = true) (hK : validB 8 8 K = true) (hln : (lineR 8 x K).2.2 = true) : emptyB zs (betwL 8 8 x K) = decide (uand (betwR 8 8 x K).1 (occR 8 8 zs) = 0) := by
 obtain ⟨bu, bb⟩ := betw_bt hx hK hln
 obtain ⟨ou, ob⟩ := occ_bt hbd hl
 have h64 := bd_88 hbd rfl
 rw [Bool.eq_iff_iff, decide_eq_true_eq, uk_eq_0 (uk_and _ _)]
 unfold emptyB
 rw [List.all_eq_true]
 constructor
 ·intro h n hn
  rw [bt_and bu ou, bb, ob]
  by_cases hm : (n : Int) ∈ betwL 8 8 x K
  ·have := of_decide_eq_true (h _ hm)
   rw [Int.toNat_natCast] at this
   rw [this]; simp
  ·simp [hm]
 ·intro h i hi
  have hb : 0 ≤ i ∧ i < 64 := by
   have hv : validB 8 8 i = true := by
    unfold betwL at hi
    cases hh : hasL K (betwZ 8 8 x K) with
    | true => rw [hh] at hi; exact ray_valid hx (List.mem_of_mem_take hi)
    | false => rw [hh] at hi; simp at hi
   exact ⟨(valid_lt hv).1, (valid_lt hv).2.2⟩
  have := h i.toNat (by omega)
  rw [bt_and bu ou, bb, ob, show ((i.toNat : Nat) : Int) = i by omega] at this
  simp only [hi, decide_true, Bool.true_and, Bool.and_eq_false_iff, decide_eq_false_iff_not, Bool.not_eq_false'] at this
  rcases this with this | this
  ·omega
  ·exact this
theorem sq01 : sqW 1 0 = 4 ∧ sqW 1 1 = 6 ∧ sqW 2 0 = 4 ∧ sqW 2 1 = 2 ∧ sqW 4 0 = 60 ∧ sqW 4 1 = 62 ∧ sqW 8 0 = 60 ∧ sqW 8 1 = 58 := ⟨by kernel_rfl, by kernel_rfl, by kernel_rfl, by kernel_rfl, by kernel_rfl, by kernel_rfl, by kernel_rfl, by kernel_rfl⟩
theorem sk_iff {bl : Bool} {ca a b : Int} {c : Bool} {bit k to : Int} : (!csSkip bl ca a b c bit k to) = true ↔ c = bl ∧ u8and ca bit ≠ 0 ∧ k = a ∧ to = b := by
 unfold csSkip
 cases c <;> cases bl <;> simp [and_assoc]
theorem right_88 {f r : Int} {zs : List Int} {ca bit : Int} {k q : Nat} {c : Bool} (h : rtX f r zs ca bit k q c = false) (hr : u8and ca bit ≠ 0) : f = 8 ∧ r = 8 ∧ zs.getD k 0 = ofP 6 c ∧ zs.getD q 0 = ofP 4 c := by
 unfold rtX at h
 rw [decide_eq_false hr] at h
 simp only [Bool.not_false, Bool.true_and, Bool.or_eq_false_iff, Bool.not_eq_false', is88, Bool.and_eq_true, decide_eq_true_eq] at h
 exact ⟨h.1.1.1, h.1.1.2, h.1.2, h.2⟩
theorem cgS_N {f r : Int} {zs : List Int} {bl : Bool} {ca a b bit k to cor : Int} {c : Bool} (hca : 0 ≤ ca ∧ ca ≤ 15) (hb : bit = 1 ∨ bit = 2 ∨ bit = 4 ∨ bit = 8) (hc : decide (2 < bit) = c) (h0 : sqW bit 0 = k) (h1 : sqW bit 1 = to) (h2 : sqW bit 2 = cor) :
  cgS f r zs bl ca a b bit = (!csSkip bl ca a b c bit k to && emptyB zs (betwL f r k cor)) := by
 unfold cgS csSkip
 rw [bit_eq hca hb, hc, h0, h1, h2]
 have e1 : decide (a = k) = decide (k = a) := by rw [decide_eq_decide]; exact eq_comm
 have e2 : decide (b = to) = decide (to = b) := by rw [decide_eq_decide]; exact eq_comm
 rw [e1, e2]
 cases decide (u8and ca bit = 0) <;> cases c <;> cases bl <;> cases decide (k = a) <;> cases decide (to = b) <;> rfl
theorem way_cg {f r : Int} {zs : List Int} {bl : Bool} {ca a b pr : Int} (h : orthBd f r zs = true) (hl : zs.length ≤ 64) (hcas : castB f r zs ca = true) (hca : 0 ≤ ca) (ha0 : 0 ≤ a) (ha1 : a < zs.length) :
  (!decide (cgL f r zs bl ca a b pr = 0)) = (decide (pr = 0) && wayB f r zs (wayN zs bl ca a b)) ∧
   ((!decide (cgL f r zs bl ca a b pr = 0)) = true → sqW (cgL f r zs bl ca a b pr) 2 = wCor (wayN zs bl ca a b) ∧ sqW (cgL f r zs bl ca a b pr) 3 = wCro (wayN zs bl ca a b) ∧ kind8 (zs.getD a.toNat 0) = 6) := by
 have hbd := (orth_valid h).2.2.1
 simp only [castB, Bool.and_eq_true, Bool.not_eq_true', decide_eq_true_eq] at hcas
 obtain ⟨⟨⟨⟨c1, c2⟩, c3⟩, c4⟩, c5⟩ := hcas
 obtain ⟨q1, q2, q3, q4, q5, q6, q7, q8⟩ := sqs
 obtain ⟨p1, p2, p3, p4, p5, p6, p7, p8⟩ := sq01
 have hx : 0 ≤ ca ∧ ca ≤ 15 := ⟨hca, by omega⟩
 have g1 : cgS f r zs bl ca a b 1 = _ := cgS_N (c := false) hx (.inl rfl) rfl p1 p2 q1
 have g2 : cgS f r zs bl ca a b 2 = _ := cgS_N (c := false) hx (.inr (.inl rfl)) rfl p3 p4 q3
 have g3 : cgS f r zs bl ca a b 4 = _ := cgS_N (c := true) hx (.inr (.inr (.inl rfl))) rfl p5 p6 q5
 have g4 : cgS f r zs bl ca a b 8 = _ := cgS_N (c := true) hx (.inr (.inr (.inr rfl))) rfl p7 p8 q7
 unfold cgL wayN
 rw [abs_kind h ha0 ha1]
 cases hK : decide (kind8 (zs.getD a.toNat 0) = 6) with
 | false => simp [wayB]
 | true =>
  cases hp : decide (pr = 0) with
  | false => simp
  | true =>
   have hk6 := of_decide_eq_true hK
   rw [g1, g2, g3, g4]
   have key : ∀ {bit k to cor : Int} {kn qn : Nat} {c : Bool}, rtX f r zs ca bit kn qn c = false → (!csSkip bl ca a b c bit k to) = true → validB 8 8 k = true → validB 8 8 cor = true → (lineR 8 k cor).2.2 = true →
     emptyB zs (betwL f r k cor) = decide (uand (betwR f r k cor).1 (occR f r zs) = 0) := by
    intro bit k to cor kn qn c hr hs hk hc hln
    obtain ⟨_, hu, _, _⟩ := sk_iff.1 hs
    obtain ⟨rfl, rfl, _⟩ := right_88 hr hu
    exact empty_eq hbd hl hk hc hln
   cases n1 : (!csSkip bl ca a b false 1 4 6) with
   | true =>
    obtain ⟨rfl, _, rfl, rfl⟩ := sk_iff.1 n1
    have k1 := key c1 n1 (cor := 7) (by decide) (by decide) (by decide)
    have n2 : (!csSkip false ca 4 6 false 2 4 2) = false := by rw [Bool.eq_false_iff]; exact fun hh => by have := (sk_iff.1 hh).2.2.2; omega
    have n3 : (!csSkip false ca 4 6 true 4 60 62) = false := by rw [Bool.eq_false_iff]; exact fun hh => by have := (sk_iff.1 hh).1; cases this
    have n4 : (!csSkip false ca 4 6 true 8 60 58) = false := by rw [Bool.eq_false_iff]; exact fun hh => by have := (sk_iff.1 hh).1; cases this
    rw [n2, n3, n4, k1]
    have hw : wayB f r zs 0 = decide (uand (betwR f r 4 7).1 (occR f r zs) = 0) := rfl
    simp only [Bool.not_true, Bool.or_self, cond_false, cond_true, Bool.true_and, Bool.false_and, hw]
    cases decide (uand (betwR f r 4 7).1 (occR f r zs) = 0)
    ·simp
    ·exact ⟨rfl, fun _ => ⟨q1, q2, hk6⟩⟩
   | false =>
    cases n2 : (!csSkip bl ca a b false 2 4 2) with
    | true =>
     obtain ⟨rfl, _, rfl, rfl⟩ := sk_iff.1 n2
     have k1 := key c2 n2 (cor := 0) (by decide) (by decide) (by decide)
     have n3 : (!csSkip false ca 4 2 true 4 60 62) = false := by rw [Bool.eq_false_iff]; exact fun hh => by have := (sk_iff.1 hh).1; cases this
     have n4 : (!csSkip false ca 4 2 true 8 60 58) = false := by rw [Bool.eq_false_iff]; exact fun hh => by have := (sk_iff.1 hh).1; cases this
     rw [n3, n4, k1]
     have hw : wayB f r zs 1 = decide (uand (betwR f r 4 0).1 (occR f r zs) = 0) := rfl
     simp only [Bool.not_true, Bool.or_self, cond_false, cond_true, Bool.true_and, Bool.false_and, hw]
     cases decide (uand (betwR f r 4 0).1 (occR f r zs) = 0)
     ·simp
     ·exact ⟨rfl, fun _ => ⟨q3, q4, hk6⟩⟩
    | false =>
     cases n3 : (!csSkip bl ca a b true 4 60 62) with
     | true =>
      obtain ⟨rfl, _, rfl, rfl⟩ := sk_iff.1 n3
      have k1 := key c3 n3 (cor := 63) (by decide) (by decide) (by decide)
      have n4 : (!csSkip true ca 60 62 true 8 60 58) = false := by rw [Bool.eq_false_iff]; exact fun hh => by have := (sk_iff.1 hh).2.2.2; omega
      rw [n4, k1]
      have hw : wayB f r zs 2 = decide (uand (betwR f r 60 63).1 (occR f r zs) = 0) := rfl
      simp only [Bool.not_true, Bool.or_self, cond_false, cond_true, Bool.true_and, Bool.false_and, hw]
      cases decide (uand (betwR f r 60 63).1 (occR f r zs) = 0)
      ·simp
      ·exact ⟨rfl, fun _ => ⟨q5, q6, hk6⟩⟩
     | false =>
      cases n4 : (!csSkip bl ca a b true 8 60 58) with
      | true =>
       obtain ⟨rfl, _, rfl, rfl⟩ := sk_iff.1 n4
       have k1 := key c4 n4 (cor := 56) (by decide) (by decide) (by decide)
       rw [k1]
       have hw : wayB f r zs 3 = decide (uand (betwR f r 60 56).1 (occR f r zs) = 0) := rfl
       simp only [Bool.not_true, Bool.or_self, cond_false, cond_true, Bool.true_and, Bool.false_and, hw]
       cases decide (uand (betwR f r 60 56).1 (occR f r zs) = 0)
       ·simp
       ·exact ⟨rfl, fun _ => ⟨q7, q8, hk6⟩⟩
      | false => simp [wayB]
theorem so_eq {p : Psn} {m : Mov} (h : orthBd p.f p.r p.zs = true) (hl : p.zs.length ≤ 64) (hcas : castB p.f p.r p.zs p.ca = true) (hca : 0 ≤ p.ca) (ha : validB p.f p.r m.a = true) (hb : validB p.f p.r m.b = true) (hp : isP (p.zs.getD m.a.toNat 0) p.bl = true) :
  soL p.f p.r p.zs p.bl p.ca p.pa m.a m.b m.p = !err3 p m := by
 have hbd := (orth_valid h).2.2.1
 obtain ⟨ha0, ha1⟩ := (bd_sq hbd).1 ha
 unfold soL err3
 rw [own_is, goes_eq (_ca := p.ca) h hl ha hb hp]
 cases isP (p.zs.getD m.b.toNat 0) p.bl with
 | true => rfl
 | false =>
  obtain ⟨w1, _⟩ := way_cg (bl := p.bl) (b := m.b) (pr := m.p) h hl hcas hca ha0 ha1
  rw [w1]
  cases hk : decide (kind8 (p.zs.getD m.a.toNat 0) = 1) with
  | true =>
   have : wayN p.zs p.bl p.ca m.a m.b = 4 := by
    unfold wayN
    rw [abs_kind h ha0 ha1, of_decide_eq_true hk]; rfl
   rw [this]
   simp [wayB]
  | false =>
   cases decide (m.p = 0) <;> cases wayB p.f p.r p.zs (wayN p.zs p.bl p.ca m.a m.b) <;> simp
end Go.Ab

set_option maxRecDepth 100000
namespace Go.Ab
open Go.Proofs
theorem pc_w {f r a b : Int} (ha : validB f r a = true) (hb : validB f r b = true) : IntKind.i64.wrap (IntKind.i64.wrap (b.tdiv f) - IntKind.i64.wrap (a.tdiv f)) = py f b - py f a := (diff_w ha hb).2
theorem own_pass {n : Int} {bl : Bool} (h : isP n bl = true) (h2 : n = ofP 1 (!bl)) : False := by
 subst h2
 cases bl <;> revert h <;> decide
theorem isP_other {n : Int} {bl : Bool} (hz : n ≠ 0) (h : isP n bl = false) : isP n (!bl) = true := by
 unfold isP at h ⊢
 rcases Int.lt_or_gt_of_ne hz with h3 | h3
 ·have h4 : ¬ 0 < n := by omega
  cases bl <;> simp [h3, h4] at h ⊢
 ·have h4 : ¬ n < 0 := by omega
  cases bl <;> simp [h3, h4] at h ⊢ <;> omega
structure MvOk (p : Psn) (m : Mov) : Prop where
 h : orthBd p.f p.r p.zs = true
 hl : p.zs.length ≤ 64
 ok : p.ok = true
 ca : 0 ≤ p.ca
 ha : validB p.f p.r m.a = true
 hb : validB p.f p.r m.b = true
 hab : m.a ≠ m.b
 hpr : m.p = 0 ∨ (2 ≤ m.p ∧ m.p ≤ 5)
 hp : isP (p.zs.getD m.a.toNat 0) p.bl = true
 so : err3 p m = false
section
variable {p : Psn} {m : Mov}
theorem MvOk.bd (o : MvOk p m) : validBd p.f p.r p.zs = true := (orth_valid o.h).2.2.1
theorem MvOk.cast (o : MvOk p m) : castB p.f p.r p.zs p.ca = true := by have := o.ok; simp only [Psn.ok, Bool.and_eq_true] at this; exact this.1.1.2
theorem MvOk.pass (o : MvOk p m) : passB p.f p.r p.zs p.bl p.pa p.ha = true := by have := o.ok; simp only [Psn.ok, Bool.and_eq_true] at this; exact this.1.2
theorem MvOk.kings (o : MvOk p m) : kingsB p.f p.r p.zs p.bl = true := by have := o.ok; simp only [Psn.ok, Bool.and_eq_true] at this; exact this.1.1.1.1.2
theorem MvOk.nto (o : MvOk p m) : isP (p.zs.getD m.b.toNat 0) p.bl = false := by have := o.so; simp only [err3, Bool.or_eq_false_iff] at this; exact this.1
theorem MvOk.sq (o : MvOk p m) : (0 ≤ m.a ∧ m.a < p.zs.length) ∧ (0 ≤ m.b ∧ m.b < p.zs.length) := ⟨(bd_sq o.bd).1 o.ha, (bd_sq o.bd).1 o.hb⟩
theorem MvOk.kd (o : MvOk p m) : absP (p.zs.getD m.a.toNat 0) = kind8 (p.zs.getD m.a.toNat 0) := abs_kind o.h o.sq.1.1 o.sq.1.2
theorem MvOk.pawn (o : MvOk p m) (hk : kind8 (p.zs.getD m.a.toNat 0) = 1) : pnL p.f p.r p.zs p.bl p.pa m.a m.b m.p = true := by
 have := o.so
 have hw : wayN p.zs p.bl p.ca m.a m.b = 4 := by unfold wayN; rw [o.kd, hk]; rfl
 simp only [err3, hw, Bool.or_eq_false_iff] at this
 have hg := goes_eq (bl := p.bl) (_ca := p.ca) (pa := p.pa) (pr := m.p) o.h o.hl o.ha o.hb o.hp
 rw [hk] at hg
 rw [hg] at this
 simp only [decide_true, cond_true] at this
 have h2 := this.2
 cases hpn : pnL p.f p.r p.zs p.bl p.pa m.a m.b m.p with
 | true => rfl
 | false => rw [hpn] at h2; simp [wayB] at h2
theorem MvOk.steps (o : MvOk p m) (hk : kind8 (p.zs.getD m.a.toNat 0) = 1) :
  (stepsB p.f p.r p.bl m.a (occR p.f p.r p.zs) m.b = true ∨ (pawnC p.f p.bl m.a m.b = true ∧ (p.zs.getD m.b.toNat 0 ≠ 0 ∨ m.b = p.pa))) ∧ (m.p ≠ 0 ↔ py p.f m.b = lastR p.r p.bl) := by
 have h := o.pawn hk
 have hin : ∀ c : Int → Bool, hasL m.b (filtB c id (p.f * p.r).toNat) = c m.b := fun c => by
  rw [Bool.eq_iff_iff, has_mem, mem_filtB]
  have := valid_lt o.hb
  exact ⟨fun h => h.2.2, fun h => ⟨this.1, by omega, h⟩⟩
 unfold pnL at h
 rw [hin, hin, occ_eq o.bd o.hl] at h
 rw [(px_bd o.hb).1] at h
 cases h1 : (!(decide (py p.f m.b = lastR p.r p.bl) == !decide (m.p = 0))) with
 | true => rw [h1] at h; cases h
 | false =>
  rw [h1, cond_false] at h
  refine ⟨?_, ?_⟩
  ·cases h2 : stepsB p.f p.r p.bl m.a (occR p.f p.r p.zs) m.b with
   | true => exact .inl rfl
   | false =>
    rw [h2, cond_false, Bool.and_eq_true, Bool.or_eq_true, decide_eq_true_eq, Bool.not_eq_true', decide_eq_false_iff_not] at h
    exact .inr h
  ·by_cases h3 : py p.f m.b = lastR p.r p.bl <;> by_cases h4 : m.p = 0 <;> simp [h3, h4] at h1 ⊢
theorem fwd_2 (bl : Bool) : IntKind.i64.wrap (2 * fwd bl) = 2 * fwd bl := by cases bl <;> decide
theorem step_sq {f r a b : Int} {bl : Bool} {occ : Int} (ha : validB f r a = true) (hb : validB f r b = true) (h : stepsB f r bl a occ b = true) :
  px f b = px f a ∧ ((py f b = py f a + fwd bl) ∨ (py f b = py f a + 2 * fwd bl ∧ py f a = secR r bl ∧ 6 ≤ r ∧ validB f r (b - fwd bl * f) = true ∧ hasB occ (b - fwd bl * f) = false)) := by
 have hv := (valid_vs ha)
 obtain ⟨a0, a1, a2, a3, a4, a5, a6⟩ := px_bd ha
 obtain ⟨_, b1, b2, b3, b4, b5, _⟩ := px_bd hb
 have hfw : fwd bl = 1 ∨ fwd bl = -1 := by cases bl <;> simp [fwd]
 have hone : one4 f r bl a = numR f r (px f a) (py f a + fwd bl) := by unfold one4; rw [a0, w64_id (by omega) (by omega)]
 have htwo : two4 f r bl a = numR f r (px f a) (py f a + 2 * fwd bl) := by unfold two4; rw [a0, fwd_2, w64_id (by omega) (by omega)]
 simp only [stepsB, Bool.or_eq_true, Bool.and_eq_true, decide_eq_true_eq, Bool.not_eq_true'] at h
 rw [hone, htwo, a0] at h
 have hbn : ∀ {X Y : Int}, b = numR f r X Y → px f b = X ∧ py f b = Y := by
  intro X Y e
  rcases num_cases f r X Y hv with ⟨ho, _⟩ | ⟨_, hn⟩
  ·exact (num_iff hv ho hb).1 e.symm
  ·have := (valid_lt hb).1; omega
 rcases h with ⟨h1, _⟩ | ⟨⟨⟨⟨h1, h2⟩, h3⟩, h4⟩, _⟩
 ·obtain ⟨e1, e2⟩ := hbn h1
  exact ⟨e1, .inl e2⟩
 ·obtain ⟨e1, e2⟩ := hbn h1
  refine ⟨e1, .inr ⟨e2, h3, h2, ?_⟩⟩
  have ho : onB f r (px f a) (py f a + fwd bl) = true := on_mk a1 a2 (by omega) (by omega)
  obtain ⟨v1, v2, v3⟩ := on_valid hv ho
  have heq : px f a + (py f a + fwd bl) * f = b - fwd bl * f := by
   rw [← b5, e1, e2]
   rw [Int.add_mul, Int.add_mul, Int.mul_assoc]; omega
  rw [heq] at v1 v2 v3
  exact ⟨v1, by rw [← (num_iff hv ho v1).2 ⟨v2, v3⟩]; exact h4⟩
theorem MvOk.ep (o : MvOk p m) (hk : kind8 (p.zs.getD m.a.toNat 0) = 1) (hb : m.b = p.pa) :
  at1R p.f p.zs p.pa m.a m.b = m.b - fwd p.bl * p.f ∧ validB p.f p.r (m.b - fwd p.bl * p.f) = true ∧ p.zs.getD (m.b - fwd p.bl * p.f).toNat 0 = ofP 1 (!p.bl) ∧ numR p.f p.r (m.b.tmod p.f) (IntKind.i64.wrap (m.a.tdiv p.f)) = m.b - fwd p.bl * p.f ∧ p.zs.getD m.b.toNat 0 = 0 ∧ pawnC p.f p.bl m.a m.b = true := by
 have hbd := o.bd
 have hv := (bd_valid hbd).1
 obtain ⟨a0, a1, a2, a3, a4, a5, a6⟩ := px_bd o.ha
 obtain ⟨b0, b1, b2, b3, b4, b5, _⟩ := px_bd o.hb
 have hps := o.pass
 have hb0 := (valid_lt o.hb).1
 simp only [passB, Bool.or_eq_true, Bool.and_eq_true, decide_eq_true_eq, ← hb] at hps
 rcases hps with hps | ⟨⟨⟨⟨⟨⟨p1, p2⟩, p3⟩, p4⟩, p5⟩, p6⟩, p7⟩
 ·omega
 obtain ⟨n1, n2, n3, n4, n5, n6, n7⟩ := pass_near (bl := p.bl) hbd p1 o.hb p4
 have hfw : fwd p.bl = 1 ∨ fwd p.bl = -1 := by cases p.bl <;> simp [fwd]
 have hup : IntKind.i64.wrap (m.b + upP p.f p.bl) = m.b - fwd p.bl * p.f := by
  cases hbl : p.bl
  ·simp only [upP, fwd, cond_false, n5, n7]; omega
  ·simp only [upP, fwd, cond_true, n4]; omega
 rw [hup] at p7
 have hvd : validB p.f p.r (m.b - fwd p.bl * p.f) = true := by
  refine (bd_sq hbd).2 ?_
  rcases hfw with e | e <;> rw [e] <;> constructor <;> omega
 have hat : pawnC p.f p.bl m.a m.b = true := by
  rcases (o.steps hk).1 with h | h
  ·exfalso
   obtain ⟨e1, h2⟩ := step_sq o.ha o.hb h
   rcases h2 with e2 | ⟨_, _, _, _, h5⟩
   ·have : m.b - fwd p.bl * p.f = m.a := by rw [← b5, ← a5, e1, e2, Int.add_mul]; omega
    rw [this] at p7
    exact own_pass o.hp p7
   ·obtain ⟨hou, hob⟩ := occ_bt hbd o.hl
    rw [has_bt' hou hvd, hob, p7] at h5
    have hlt := (bd_sq hbd).1 hvd
    rw [decide_eq_true (show (m.b - fwd p.bl * p.f).toNat < p.zs.length by omega), decide_eq_false (show ¬ ofP 1 (!p.bl) = 0 by cases p.bl <;> decide)] at h5
    cases h5
  ·exact h.1
 have hpy : py p.f m.b = py p.f m.a + fwd p.bl := by
  have := hat
  simp only [pawnC, Bool.and_eq_true, decide_eq_true_eq] at this
  rw [pc_w o.ha o.hb] at this
  omega
 have hsq : px p.f m.b + py p.f m.a * p.f = m.b - fwd p.bl * p.f := by
  have : py p.f m.b * p.f = py p.f m.a * p.f + fwd p.bl * p.f := by rw [hpy, Int.add_mul]
  omega
 have hlt := (valid_lt hvd)
 refine ⟨?_, hvd, p7, ?_, p5, hat⟩
 ·have hepB : epB p.zs p.pa m.a m.b = true := by simp only [epB, o.kd, hk, hb, decide_true, Bool.and_self]
  unfold at1R
  rw [hepB, cond_true]
  have e1 : m.a.tmod p.f = px p.f m.a := rfl
  have e2 : m.b.tmod p.f = px p.f m.b := rfl
  rw [e1, e2]
  have hla := valid_lt o.ha
  rw [w64_id (n := m.a - px p.f m.a) (by omega) (by omega)]
  rw [show m.a - px p.f m.a + px p.f m.b = m.b - fwd p.bl * p.f by omega, w64_id (by omega) (by omega)]
 ·rw [a0]
  have ho : onB p.f p.r (px p.f m.b) (py p.f m.a) = true := on_mk b1 b2 a3 a4
  obtain ⟨v1, v2, v3⟩ := on_valid hv ho
  rw [hsq] at v1 v2 v3
  exact (num_iff hv ho v1).2 ⟨v2, v3⟩
theorem MvOk.cap (o : MvOk p m) : capL p.f p.r p.zs p.pa m.a m.b = at2R p.f p.zs p.pa m.a m.b ∧ (0 ≤ at2R p.f p.zs p.pa m.a m.b → at2R p.f p.zs p.pa m.a m.b < p.zs.length ∧ isP (p.zs.getD (at2R p.f p.zs p.pa m.a m.b).toNat 0) (!p.bl) = true ∧ at2R p.f p.zs p.pa m.a m.b ≠ m.a ∧ at2R p.f p.zs p.pa m.a m.b = at1R p.f p.zs p.pa m.a m.b) ∧
  (at2R p.f p.zs p.pa m.a m.b < 0 → at2R p.f p.zs p.pa m.a m.b = -1 ∧ capR p.f p.zs p.pa m.a m.b = 0 ∧ p.zs.getD m.b.toNat 0 = 0) ∧ (0 ≤ at2R p.f p.zs p.pa m.a m.b → capR p.f p.zs p.pa m.a m.b ≠ 0) := by
 have ⟨⟨sa0, sa1⟩, ⟨sb0, sb1⟩⟩ := o.sq
 cases hep : (decide (kind8 (p.zs.getD m.a.toNat 0) = 1) && decide (m.b = p.pa)) with
 | true =>
  simp only [Bool.and_eq_true, decide_eq_true_eq] at hep
  obtain ⟨e1, e2, e3, e4, e5, e6⟩ := o.ep hep.1 hep.2
  have hc : capR p.f p.zs p.pa m.a m.b = ofP 1 (!p.bl) := by unfold capR; rw [e1, e3]
  have hnz : ofP 1 (!p.bl) ≠ 0 := by cases p.bl <;> decide
  have h2 : at2R p.f p.zs p.pa m.a m.b = m.b - fwd p.bl * p.f := by unfold at2R; rw [hc, decide_eq_false hnz, cond_false, e1]
  have hcl : capL p.f p.r p.zs p.pa m.a m.b = m.b - fwd p.bl * p.f := by unfold capL; rw [decide_eq_true hep.1, decide_eq_true hep.2]; exact e4
  have hlt := (bd_sq o.bd).1 e2
  refine ⟨by rw [hcl, h2], fun _ => ⟨by rw [h2]; exact hlt.2, ?_, ?_, by rw [h2, e1]⟩, fun hh => (by rw [h2] at hh; omega), fun _ => by rw [hc]; exact hnz⟩
  ·rw [h2, e3]; cases p.bl <;> decide
  ·rw [h2]
   intro he
   rw [he] at e3
   exact own_pass o.hp e3
 | false =>
  have hepB : epB p.zs p.pa m.a m.b = false := by unfold epB; rw [o.kd]; exact hep
  have h1 : at1R p.f p.zs p.pa m.a m.b = m.b := by unfold at1R; rw [hepB]; rfl
  have hc : capR p.f p.zs p.pa m.a m.b = p.zs.getD m.b.toNat 0 := by unfold capR; rw [h1]
  unfold capL at2R
  rw [hep, hc, h1, cond_false]
  by_cases hz : p.zs.getD m.b.toNat 0 = 0
  ·simp only [decide_eq_true hz, Bool.not_true, cond_true, cond_false]
   exact ⟨trivial, fun hh => absurd hh (by decide), fun _ => ⟨trivial, hz, hz⟩, fun hh => absurd hh (by decide)⟩
  ·simp only [decide_eq_false hz, Bool.not_false, cond_true, cond_false]
   have h5 := isP_other hz o.nto
   exact ⟨trivial, fun _ => ⟨sb1, h5, fun e => o.hab e.symm, trivial⟩, fun hh => absurd hh (by omega), fun _ => hz⟩
end
end Go.Ab

namespace Go.Ab
abbrev iL (l : List Int) : List Int := l
structure Bd where
 f : Int
 r : Int
 zs : List Int
structure Siz where
 f : Int
 r : Int
structure Sgt where
 p : Psn
 own : Int
 all : Int
end Go.Ab

set_option maxRecDepth 100000
set_option maxHeartbeats 4000000
namespace Go.Ab
open Go.Proofs
variable {kCa kDb : Bool}
def small9 (p : Psn) : Option (Bool) := some (decide (Int.ofNat p.zs.length ≤ 64))
def small9_V (R : Bool) : V := Bb R
def small9_N (_R : Bool) : List O := []
def c_small9 : CF
 | [.agg [.int .i64 p_0, .int .i64 p_1, .sl 0 0 p_2n none, .bool p_3, .int .u8 p_4, .int .i64 p_5, .int .i64 p_6, .int .i64 p_7]], [.ints false .i8 p_2] => retC (decide (p_2n = p_2.length)) (small9 ⟨p_0, p_1, p_2, p_3, p_4, p_5, p_6, p_7⟩) false small9_V small9_N
 | _, _ => none
theorem small9_snd (p : Psn) {r} (hr : small9 p = some r) : FnSound (GGx kCa kDb) PP 21 [.agg [.int .i64 p.f, .int .i64 p.r, .sl 0 0 p.zs.length none, Bb p.bl, .int .u8 p.ca, .int .i64 p.pa, .int .i64 p.ha, .int .i64 p.fu]] [.ints false .i8 p.zs] (small9_V r) (small9_N r) := by
 have hE := cutE (EE_ok (kCa := kCa) (kDb := kDb) (cts := []) (inl := []) trivial trivial)
 refine so_fn hE 2 Tryz.func21 rfl rfl small9_V small9_N hr ?_ rfl rfl
 exact so_ret (fin_bs [] (.inr rfl) rfl rfl rfl rfl rfl)
theorem c_small9_ok : CtOk (GGx kCa kDb) PP (21, c_small9) := by
 refine ct_mk Tryz.func21 (by kernel_rfl) rfl fun a0 h0 c0 v0 N0 e hc => ?_
 unfold c_small9 at e
 split at e
 ·rename_i p_0 p_1 p_2n p_3 p_4 p_5 p_6 p_7 p_2
  obtain ⟨hl, r, hr, rfl, rfl⟩ := ret_ok e hc
  simp only [decide_eq_true_eq] at hl
  obtain rfl := hl
  exact small9_snd ⟨p_0, p_1, p_2, p_3, p_4, p_5, p_6, p_7⟩ hr
 ·cases e
def msame_s1 : List (List Int) → List (List Int) → Int → Option (Int ⊕ Unit ⊕ Bool) := fun (a b : List (List Int)) (s6 : Int) => let x13 := (a.getD s6.toNat []).getD 1 0; let x14 := (a.getD s6.toNat []).getD 0 0; let x15 := (b.getD s6.toNat []).getD 2 0; let x16 := (a.getD s6.toNat []).getD 2 0; let x17 := (b.getD s6.toNat []).getD 1 0; let x18 := (b.getD s6.toNat []).getD 0 0; let x19 := decide (s6 < Int.ofNat a.length); let x20 := decide (0 ≤ s6); bif x19 then needO (x20 && x19) (needO (x20 && decide (s6 < Int.ofNat b.length)) (bif !(decide (x14 = x18) && (decide (x13 = x17) && decide (x16 = x15))) then escO (escO (some false)) else some (Sum.inl (IntKind.i64.wrap (s6 + 1))))) else some (Sum.inr (Sum.inl ()))
def msame (a : List (List Int)) (b : List (List Int)) : Option (Bool) := bif !decide (Int.ofNat a.length = Int.ofNat b.length) then some false else loopO (msame_s1 a b) (fun (_s11 : Unit) => some true) 1000000 0
def msame_V (R : Bool) : V := Bb R
def msame_N (_R : Bool) : List O := []
def c_msame : CF
 | [.sl 0 0 a_0n none, .sl 1 0 b_0n none], [.rows false [.i64, .i64, .i8] a_0, .rows false [.i64, .i64, .i8] b_0] => retC (decide (a_0n = a_0.length) && decide (b_0n = b_0.length)) (msame a_0 b_0) false msame_V msame_N
 | _, _ => none
theorem msame_snd (a : List (List Int)) (b : List (List Int)) {r} (hr : msame a b = some r) : FnSound (GGx kCa kDb) PP 26 [.sl 0 0 a.length none, .sl 1 0 b.length none] [.rows false [.i64, .i64, .i8] a, .rows false [.i64, .i64, .i8] b] (msame_V r) (msame_N r) := by
 have hE := cutE (EE_ok (kCa := kCa) (kDb := kDb) (cts := []) (inl := []) trivial trivial)
 refine so_fn hE 2 Tryz.func26 rfl rfl msame_V msame_N hr ?_ rfl rfl
 refine so_split hE 2 rfl ?_ ?_
 ·exact so_ret (fin_bs [] (.inr rfl) rfl rfl rfl rfl rfl)
 refine so_loop hE 2 (fun (s6 : Int) => ([(0, V.sl 0 0 a.length none), (1, V.sl 1 0 b.length none), (4, V.bool false), (5, V.int IntKind.i64 s6)], [O.rows false [IntKind.i64, IntKind.i64, IntKind.i8] a, O.rows false [IntKind.i64, IntKind.i64, IntKind.i8] b])) (fun (s11 : Unit) => ([(4, V.bool false)], [O.rows false [IntKind.i64, IntKind.i64, IntKind.i8] a, O.rows false [IntKind.i64, IntKind.i64, IntKind.i8] b])) (.exit 0) ((Ent.rn [0, 1] [0, 1, 4, 5] rfl rfl rfl rfl rfl)) (fun s6 => ?_) (fun s11 => ?_)
 ·refine so_split hE 2 rfl ?_ ?_
  ·refine so_triv rfl ?_
   refine so_need ?_
   refine so_need ?_
   refine so_split hE 2 rfl ?_ ?_
   ·refine so_out (by simp) (so_out1 ?_)
    exact so_ret (fin_bs [] (.inr rfl) rfl rfl rfl rfl rfl)
   exact so_next ((Ent.rn [0, 1] [0, 1, 4, 5] rfl rfl rfl rfl rfl))
  exact so_exit ((Ent.rn [0, 1] [4] rfl rfl rfl rfl rfl))
 exact so_ret (fin_bs [] (.inr rfl) rfl rfl rfl rfl rfl)
theorem c_msame_ok : CtOk (GGx kCa kDb) PP (26, c_msame) := by
 refine ct_mk Tryz.func26 (by kernel_rfl) rfl fun a0 h0 c0 v0 N0 e hc => ?_
 unfold c_msame at e
 split at e
 ·rename_i a_0n b_0n a_0 b_0
  obtain ⟨hl, r, hr, rfl, rfl⟩ := ret_ok e hc
  simp only [Bool.and_eq_true, decide_eq_true_eq] at hl
  obtain ⟨rfl, rfl⟩ := hl
  exact msame_snd a_0 b_0 hr
 ·cases e
end Go.Ab

set_option maxRecDepth 100000
set_option maxHeartbeats 4000000
namespace Go.Ab
open Go.Proofs
variable {kDb : Bool}
end Go.Ab

set_option maxRecDepth 100000
set_option maxHeartbeats 4000000
namespace Go.Ab
open Go.Proofs
variable {kDb : Bool}
end Go.Ab

set_option maxRecDepth 100000
set_option maxHeartbeats 4000000
namespace Go.Ab
open Go.Proofs
variable {kCa kDb : Bool}
def plook (p : Psn) : Option (Sgt) := let x18 := List.take p.zs.length (List.drop 0 p.zs); let x15 := (sidesR p.f p.r x18).snd.1; let x16 := (sidesR p.f p.r x18).fst; let x17 := x18.length; needO (decide (x17 ≤ 1000000)) (joinO (bif p.bl then some (Sum.inl x15) else some (Sum.inl x16)) fun (s4 : Int) => some (Sgt.mk (Psn.mk p.f p.r p.zs p.bl p.ca p.pa p.ha p.fu) s4 (band Go.BinOp.or IntKind.u64 x16 x15)))
def plook_V (R : Sgt) : V := .agg [.int .i64 R.p.f, .int .i64 R.p.r, .sl 0 0 R.p.zs.length none, Bb R.p.bl, .int .u8 R.p.ca, .int .i64 R.p.pa, .int .i64 R.p.ha, .int .i64 R.p.fu, .int .u64 R.own, .int .u64 R.all]
def plook_N (_R : Sgt) : List O := []
def c_plook : CF
 | [.agg [.int .i64 p_0, .int .i64 p_1, .sl 0 0 p_2n none, .bool p_3, .int .u8 p_4, .int .i64 p_5, .int .i64 p_6, .int .i64 p_7]], [.ints false .i8 p_2] => retC (decide (p_2n = p_2.length)) (plook ⟨p_0, p_1, p_2, p_3, p_4, p_5, p_6, p_7⟩) ⟨⟨0, 0, [], false, 0, 0, 0, 0⟩, 0, 0⟩ plook_V plook_N
 | _, _ => none
theorem plook_snd (p : Psn) {r} (hr : plook p = some r) : FnSound (GGx kCa kDb) PP 64 [.agg [.int .i64 p.f, .int .i64 p.r, .sl 0 0 p.zs.length none, Bb p.bl, .int .u8 p.ca, .int .i64 p.pa, .int .i64 p.ha, .int .i64 p.fu]] [.ints false .i8 p.zs] (plook_V r) (plook_N r) := by
 have hE := cutE (EE_ok (kCa := kCa) (kDb := kDb) (cts := [(121, c_sides)]) (inl := []) ⟨c_sides_ok, trivial⟩ trivial)
 refine so_fn hE 2 Tryz.func64 rfl rfl plook_V plook_N hr ?_ rfl rfl
 refine so_as (pl (decide_eq_true (win_len rfl)) id) ?_
 refine so_join hE 2 (let x20 := List.take p.zs.length (List.drop 0 p.zs); fun (s4 : Int) => ([(2, V.ptr 1 0 0), (6, V.ptr 2 0 0)], [O.ints false IntKind.i8 p.zs, O.cells true [V.int IntKind.i64 0, V.int IntKind.i64 0, V.nils, V.bool false, V.int IntKind.u8 0, V.int IntKind.i64 0, V.int IntKind.i64 0, V.int IntKind.i64 0, V.int IntKind.u64 0, V.int IntKind.u64 0], O.cells true [V.int IntKind.i64 p.f, V.int IntKind.i64 p.r, V.sl 0 0 p.zs.length none, V.bool p.bl, V.int IntKind.u8 p.ca, V.int IntKind.i64 p.pa, V.int IntKind.i64 p.ha, V.int IntKind.i64 p.fu, V.int IntKind.u64 s4, V.int IntKind.u64 (band Go.BinOp.or IntKind.u64 (sidesR p.f p.r x20).fst (sidesR p.f p.r x20).snd.1)]])) rfl ?_ ?_ (fun s4 => ?_)
 ·exact so_nrm ((Ent.rn [0, 2, 3] [2, 6] rfl rfl rfl rfl rfl))
 ·exact so_nrm ((Ent.rn [0, 2, 3] [2, 6] rfl rfl rfl rfl rfl))
 exact so_ret (fin_bs [] (.inr rfl) rfl rfl rfl rfl rfl)
theorem c_plook_ok : CtOk (GGx kCa kDb) PP (64, c_plook) := by
 refine ct_mk Tryz.func64 (by kernel_rfl) rfl fun a0 h0 c0 v0 N0 e hc => ?_
 unfold c_plook at e
 split at e
 ·rename_i p_0 p_1 p_2n p_3 p_4 p_5 p_6 p_7 p_2
  obtain ⟨hl, r, hr, rfl, rfl⟩ := ret_ok e hc
  simp only [decide_eq_true_eq] at hl
  obtain rfl := hl
  exact plook_snd ⟨p_0, p_1, p_2, p_3, p_4, p_5, p_6, p_7⟩ hr
 ·cases e
def pkind (p : Int) : Option (Int) := some (imax true p (IntKind.i8.wrap (0 - p)))
def pkind_V (R : Int) : V := .int .i8 R
def pkind_N (_R : Int) : List O := []
def c_pkind : CF
 | [.int .i8 p_0], [] => retC true (pkind p_0) 0 pkind_V pkind_N
 | _, _ => none
theorem pkind_snd (p : Int) {r} (hr : pkind p = some r) : FnSound (GGx kCa kDb) PP 79 [.int .i8 p] [] (pkind_V r) (pkind_N r) := by
 have hE := cutE (EE_ok (kCa := kCa) (kDb := kDb) (cts := []) (inl := []) trivial trivial)
 refine so_fn hE 2 Tryz.func79 rfl rfl pkind_V pkind_N hr ?_ rfl rfl
 exact so_ret (fin_bs [] (.inr rfl) rfl rfl rfl rfl rfl)
theorem c_pkind_ok : CtOk (GGx kCa kDb) PP (79, c_pkind) := by
 refine ct_mk Tryz.func79 (by kernel_rfl) rfl fun a0 h0 c0 v0 N0 e hc => ?_
 unfold c_pkind at e
 split at e
 ·rename_i p_0
  obtain ⟨hl, r, hr, rfl, rfl⟩ := ret_ok e hc
  exact pkind_snd p_0 hr
 ·cases e
def plast (s : Sgt) (at_ : Int) : Option (Bool) := let x4 := IntKind.i64.wrap (s.p.f * IntKind.i64.wrap (s.p.r - 1)); bif s.p.bl then some (decide (at_ < s.p.f)) else some (decide (x4 ≤ at_))
def plast_V (R : Bool) : V := Bb R
def plast_N (_R : Bool) : List O := []
def c_plast : CF
 | [.agg [.int .i64 s_0, .int .i64 s_1, .sl 0 0 s_2n none, .bool s_3, .int .u8 s_4, .int .i64 s_5, .int .i64 s_6, .int .i64 s_7, .int .u64 s_8, .int .u64 s_9], .int .i64 at__0], [.ints false .i8 s_2] => retC (decide (s_2n = s_2.length)) (plast ⟨⟨s_0, s_1, s_2, s_3, s_4, s_5, s_6, s_7⟩, s_8, s_9⟩ at__0) false plast_V plast_N
 | _, _ => none
theorem plast_snd (s : Sgt) (at_ : Int) {r} (hr : plast s at_ = some r) : FnSound (GGx kCa kDb) PP 125 [.agg [.int .i64 s.p.f, .int .i64 s.p.r, .sl 0 0 s.p.zs.length none, Bb s.p.bl, .int .u8 s.p.ca, .int .i64 s.p.pa, .int .i64 s.p.ha, .int .i64 s.p.fu, .int .u64 s.own, .int .u64 s.all], .int .i64 at_] [.ints false .i8 s.p.zs] (plast_V r) (plast_N r) := by
 have hE := cutE (EE_ok (kCa := kCa) (kDb := kDb) (cts := []) (inl := []) trivial trivial)
 refine so_fn hE 2 Tryz.func125 rfl rfl plast_V plast_N hr ?_ rfl rfl
 refine so_split hE 2 rfl ?_ ?_
 ·exact so_ret (fin_bs [] (.inr rfl) rfl rfl rfl rfl rfl)
 exact so_ret (fin_bs [] (.inr rfl) rfl rfl rfl rfl rfl)
theorem c_plast_ok : CtOk (GGx kCa kDb) PP (125, c_plast) := by
 refine ct_mk Tryz.func125 (by kernel_rfl) rfl fun a0 h0 c0 v0 N0 e hc => ?_
 unfold c_plast at e
 split at e
 ·rename_i s_0 s_1 s_2n s_3 s_4 s_5 s_6 s_7 s_8 s_9 at__0 s_2
  obtain ⟨hl, r, hr, rfl, rfl⟩ := ret_ok e hc
  simp only [decide_eq_true_eq] at hl
  obtain rfl := hl
  exact plast_snd ⟨⟨s_0, s_1, s_2, s_3, s_4, s_5, s_6, s_7⟩, s_8, s_9⟩ at__0 hr
 ·cases e
end Go.Ab
