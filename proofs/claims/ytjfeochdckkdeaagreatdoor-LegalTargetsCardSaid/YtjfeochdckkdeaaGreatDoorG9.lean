/- Contracts of the functions that the laws reach, and plain laws of what they compute (text G9); no condition. -/
import Derived.Test.YtjfeochdckkdeaaGreatDoorG8
import Derived.Test.YtjfeochdckkdeaaGreatDoorG7
import Derived.Test.YtjfeochdckkdeaaGreatDoorG4
import Derived.Test.YtjfeochdckkdeaaGreatDoorG3
set_option maxRecDepth 100000
set_option maxHeartbeats 4000000
namespace Go.Ab
open Go.Proofs
variable {kCa kDb : Bool}
def afZ1 (f r : Int) (zs : List Int) (pa a b : Int) : List Int := bif decide (0 ≤ capL f r zs pa a b) then zs.set (capL f r zs pa a b).toNat 0 else zs
def afZ2 (f r : Int) (zs : List Int) (pa a b : Int) : List Int := ((afZ1 f r zs pa a b).set a.toNat 0).set b.toNat (zs.getD a.toNat 0)
def afZ3 (f r : Int) (zs : List Int) (pa a b pr : Int) : List Int := bif !decide (pr = 0) then (afZ2 f r zs pa a b).set b.toNat (w8 (pr * w8 (sgn (zs.getD a.toNat 0)))) else afZ2 f r zs pa a b
def afZ4 (l : List Int) (c : Int) : List Int := bif !decide (c = 0) then (l.set (sqW c 3).toNat (l.getD (sqW c 2).toNat 0)).set (sqW c 2).toNat 0 else l
def afZ (f r : Int) (zs : List Int) (bl : Bool) (ca pa a b pr : Int) : List Int := afZ4 (afZ3 f r zs pa a b pr) (cgL f r zs bl ca a b pr)
def afS (ca a b bit : Int) : Int := bif decide ((IntKind.u8.wrap (ca.tdiv bit)).tmod 2 = 1) && (hasL a [sqW bit 0, sqW bit 2] || hasL b [sqW bit 0, sqW bit 2]) then IntKind.u8.wrap (ca - bit) else ca
def afC (ca a b : Int) : Int := afS (afS (afS (afS ca a b 1) a b 2) a b 4) a b 8
def afPa (f r : Int) (zs : List Int) (a b : Int) : Int := bif decide (kind8 (zs.getD a.toNat 0) = 1) && (decide (IntKind.i64.wrap (IntKind.i64.wrap (a.tdiv f) - IntKind.i64.wrap (b.tdiv f)) = 2) || decide (IntKind.i64.wrap (IntKind.i64.wrap (b.tdiv f) - IntKind.i64.wrap (a.tdiv f)) = 2)) then numR f r (a.tmod f) (IntKind.i64.wrap ((IntKind.i64.wrap (IntKind.i64.wrap (a.tdiv f) + IntKind.i64.wrap (b.tdiv f))).tdiv 2)) else -1
def afHa (f r : Int) (zs : List Int) (pa ha a b : Int) : Int := bif decide (kind8 (zs.getD a.toNat 0) = 1) || decide (0 ≤ capL f r zs pa a b) then 0 else IntKind.i64.wrap (ha + 1)
def afP (p : Psn) (m : Mov) : Psn := ⟨p.f, p.r, afZ p.f p.r p.zs p.bl p.ca p.pa m.a m.b m.p, !p.bl, afC p.ca m.a m.b, afPa p.f p.r p.zs m.a m.b, afHa p.f p.r p.zs p.pa p.ha m.a m.b, fuR p.bl p.fu⟩
theorem need_ixn {n : Nat} {b : Int} (h : 0 ≤ b) (h1 : b < n) : (decide (0 ≤ b) && decide (b < n)) = true := by simp [h, h1]
theorem afZ1_len {f r : Int} {zs : List Int} {pa a b : Int} : (afZ1 f r zs pa a b).length = zs.length := by unfold afZ1; cases decide (0 ≤ capL f r zs pa a b) <;> simp
theorem afZ3_len {f r : Int} {zs : List Int} {pa a b pr : Int} : (afZ3 f r zs pa a b pr).length = zs.length := by unfold afZ3 afZ2; cases (!decide (pr = 0)) <;> simp [afZ1_len]
theorem afZ_len {f r : Int} {zs : List Int} {bl : Bool} {ca pa a b pr : Int} : (afZ f r zs bl ca pa a b pr).length = zs.length := by unfold afZ afZ4; cases (!decide (cgL f r zs bl ca a b pr = 0)) <;> simp [afZ3_len]
theorem cap_ok {f r : Int} {zs : List Int} {pa a b : Int} (hbd : validBd f r zs = true) (hb1 : b < zs.length) (h : 0 ≤ capL f r zs pa a b) : capL f r zs pa a b < zs.length := by
 unfold capL at h ⊢
 cases h1 : (decide (kind8 (zs.getD a.toNat 0) = 1) && decide (b = pa)) with
 | true =>
  rw [h1, cond_true] at h
  rw [cond_true]
  rcases num_cases f r (b.tmod f) (IntKind.i64.wrap (a.tdiv f)) (bd_valid hbd).1 with ⟨_, hv⟩ | ⟨_, hv⟩
  ·exact ((bd_sq hbd).1 hv).2
  ·rw [hv] at h; omega
 | false =>
  rw [h1, cond_false] at h
  rw [cond_false]
  cases h2 : (!decide (zs.getD b.toNat 0 = 0)) with
  | true => exact hb1
  | false => rw [h2] at h; simp at h
theorem sqs : sqW 1 2 = 7 ∧ sqW 1 3 = 5 ∧ sqW 2 2 = 0 ∧ sqW 2 3 = 3 ∧ sqW 4 2 = 63 ∧ sqW 4 3 = 61 ∧ sqW 8 2 = 56 ∧ sqW 8 3 = 59 := ⟨by kernel_rfl, by kernel_rfl, by kernel_rfl, by kernel_rfl, by kernel_rfl, by kernel_rfl, by kernel_rfl, by kernel_rfl⟩
theorem cg_bit {f r : Int} {zs : List Int} {bl : Bool} {ca a b pr : Int} (h : (!decide (cgL f r zs bl ca a b pr = 0)) = true) : ∃ bit, (bit = 1 ∨ bit = 2 ∨ bit = 4 ∨ bit = 8) ∧ cgL f r zs bl ca a b pr = bit ∧ cgS f r zs bl ca a b bit = true := by
 unfold cgL at h ⊢
 cases h0 : (!decide (kind8 (zs.getD a.toNat 0) = 6) || !decide (pr = 0)) with
 | true => rw [h0] at h; simp at h
 | false =>
  cases h1 : cgS f r zs bl ca a b 1 with
  | true => exact ⟨1, by simp, by simp, h1⟩
  | false =>
   cases h2 : cgS f r zs bl ca a b 2 with
   | true => exact ⟨2, by simp, by simp, h2⟩
   | false =>
    cases h3 : cgS f r zs bl ca a b 4 with
    | true => exact ⟨4, by simp, by simp, h3⟩
    | false =>
     cases h4 : cgS f r zs bl ca a b 8 with
     | true => exact ⟨8, by simp, by simp, h4⟩
     | false => rw [h0, h1, h2, h3, h4] at h; simp at h
theorem cg_ok {f r : Int} {zs : List Int} {bl : Bool} {ca a b pr : Int} (hbd : validBd f r zs = true) (hcs : castL f r zs ca = true) (h : (!decide (cgL f r zs bl ca a b pr = 0)) = true) : zs.length = 64 ∧ 0 ≤ sqW (cgL f r zs bl ca a b pr) 2 ∧ sqW (cgL f r zs bl ca a b pr) 2 < 64 ∧ 0 ≤ sqW (cgL f r zs bl ca a b pr) 3 ∧ sqW (cgL f r zs bl ca a b pr) 3 < 64 := by
 obtain ⟨bit, hb, he, hs⟩ := cg_bit h
 simp only [cgS, Bool.and_eq_true] at hs
 obtain ⟨rfl, rfl⟩ := home_88 (cast_home hcs hb hs.1.1.1.1)
 refine ⟨bd_88 hbd rfl, ?_⟩
 rw [he]
 obtain ⟨s1, s2, s3, s4, s5, s6, s7, s8⟩ := sqs
 rcases hb with rfl | rfl | rfl | rfl
 ·rw [s1, s2]; decide
 ·rw [s3, s4]; decide
 ·rw [s5, s6]; decide
 ·rw [s7, s8]; decide
def c_rhas : CF
 | [.sl 0 0 len none, .int .i64 n], [.ints false .i64 zs] => some (decide (len = zs.length) && decide (zs.length ≤ 1000000), .bool (hasL n zs), [])
 | _, _ => none
theorem c_rhas_ok : CtOk (GGx kCa kDb) PP (117, c_rhas) := by
 refine ct_mk Tryz.func117 (by kernel_rfl) rfl fun a0 h0 c0 v0 N0 e hc => ?_
 unfold c_rhas at e
 split at e
 ·rename_i len n zs
  cases e
  have hE := EE_ok (kCa := kCa) (kDb := kDb) (cts := []) (inl := []) trivial trivial
  refine fn_sound hE 2 Tryz.func117 rfl rfl ?_
  simp only [Bool.and_eq_true, decide_eq_true_eq] at hc
  obtain ⟨rfl, hc2⟩ := hc
  refine sat_idx hE 2 (fun i (_ : Unit) => ([(0, .sl 0 0 zs.length none), (1, I n), (5, I i)], [.ints false .i64 zs])) zs.length (fun j _ => hasL n (zs.drop j) = hasL n zs) () (by omega) (Ent.ren [0] [0, 1, 5] rfl rfl rfl) rfl ?_
  intro j i _ hij hj hz
  refine sat_br (fun hlt => ?_) (fun hlt => ?_)
  ·have hlt' : j < zs.length := by simp at hlt; omega
   rw [hasL_at hlt', show j = i.toNat by omega] at hz
   refine sat_need (by simp; omega) ?_
   repeat (first | refine sat_self ?_ | refine sat_nd ?_)
   refine sat_br (fun hon => ?_) (fun hon => ?_)
   ·have hon : decide (zs.getD i.toNat 0 = n) = true := hon
    rw [hon] at hz
    exact sat_ret (sat_ret (fin_val (.inr rfl) rfl rfl rfl (by rw [← hz]; rfl)))
   ·have hon : decide (zs.getD i.toNat 0 = n) = false := hon
    rw [hon] at hz
    exact sat_ret ⟨hlt', (), by rw [← hz, show i.toNat = j by omega]; rfl, Ent.ren [0] [0, 1, 5] rfl rfl rfl⟩
  ·obtain rfl : j = zs.length := by simp at hlt; omega
   rw [List.drop_length] at hz
   exact sat_ret (sat_ret (fin_val (.inr rfl) rfl rfl rfl (by rw [← hz]; rfl)))
 ·cases e
def c_rafter : CF
 | [.agg [.int .i64 f, .int .i64 r, .sl 0 0 len none, .bool bl, .int .u8 ca, .int .i64 pa, .int .i64 ha, .int .i64 fu], .agg [.int .i64 a, .int .i64 b, .int .i8 pr]], [.ints false .i8 zs] => some (decide (len = zs.length) && decide (zs.length ≤ 64) && (validBd f r zs && castL f r zs ca && validB f r a && validB f r b), psV 1 (afP ⟨f, r, zs, bl, ca, pa, ha, fu⟩ ⟨a, b, pr⟩), [.ints true .i8 (afZ f r zs bl ca pa a b pr)])
 | _, _ => none
theorem c_rafter_ok : CtOk (GGx kCa kDb) PP (61, c_rafter) := by
 refine ct_mk Tryz.func61 (by kernel_rfl) rfl fun a0 h0 c0 v0 N0 e hc => ?_
 unfold c_rafter at e
 split at e
 ·rename_i f r len bl ca pa ha fu a b pr zs
  cases e
  have hE := cutE (EE_ok (kCa := kCa) (kDb := kDb) (cts := [(10, c_rcopy), (115, c_rcap), (100, c_rcgl), (116, c_rpside), (102, c_rrow), (101, c_rsquare), (117, c_rhas), (48, c_Place), (47, c_rpkind), (97, c_Number)]) (inl := []) ⟨c_rcopy_ok, c_rcap_ok, c_rcgl_ok, c_rpside_ok, c_rrow_ok, c_rsquare_ok, c_rhas_ok, c_Place_ok, c_rpkind_ok, c_Number_ok, trivial⟩ trivial)
  refine fn_soundL hE 2 Tryz.func61 rfl rfl ?_
  simp only [Bool.and_eq_true, decide_eq_true_eq] at hc
  obtain ⟨⟨rfl, hc2⟩, ⟨⟨hbd, hcs⟩, hva⟩, hvb⟩ := hc
  have hvs := (bd_valid hbd).1
  obtain ⟨ha0, ha1⟩ := (bd_sq hbd).1 hva
  obtain ⟨hb0, hb1⟩ := (bd_sq hbd).1 hvb
  have hf0 : (!decide (f = 0)) = true := by have := vs_bd hvs; simp; omega
  have hf1 : ∀ g : Bool, (!g || !decide (f = 0)) = true := fun g => by rw [hf0]; simp
  have hbt : validBd f r (tk zs) = true := by rw [tk_eq]; exact hbd
  have hct : castL f r (tk zs) ca = true := by rw [tk_eq]; exact hcs
  have hv4 : (validBd f r (tk zs) && castL f r (tk zs) ca && validB f r a && validB f r b) = true := by rw [hbt, hct, hva, hvb]; rfl
  repeat (first | (first | refine sat_self ?_ | refine sat_nd ?_) | refine sat_need (need_ix ha0 ha1) ?_ | refine sat_need (need_ix hb0 hb1) ?_ | refine sat_need (need_it ha0 ha1) ?_ | refine sat_need (need_it hb0 hb1) ?_ | refine sat_need hf0 ?_ | refine sat_need (hf1 _) ?_ | refine sat_need (need_bd hc2 rfl) ?_ | refine sat_need (need_bdv hc2 rfl hv4) ?_)
  refine sat_join hE 2 (fun e tm hp => e = .normal ∧ ∃ (pc cp : Int) (l : List Int) (len : Nat), pc = zs.getD a.toNat 0 ∧ cp = capL f r zs pa a b ∧ l = afZ1 f r zs pa a b ∧ len = zs.length ∧ tm = [(2, .ptr 1 0 0), (3, .ptr 2 0 0), (4, .ptr 3 0 0), (5, .ptr 5 0 0), (6, .int .i8 pc), (7, I cp)] ∧ hp = [.ints false .i8 zs, .cells true [I f, I r, .sl 0 0 zs.length none, Bb bl, .int .u8 ca, I pa, I ha, I fu], .cells true [I a, I b, .int .i8 pr], .cells true [I 0, I 0, .nils, .lit false, .int .u8 0, I 0, I 0, I 0], .ints true .i8 l, .cells true [I f, I r, .sl 4 0 len none, Bb bl, .int .u8 ca, I pa, I ha, I fu]]) rfl (fun h => ?_) (fun h => ?_) ?_
  ·have h : decide (0 ≤ capL f r (tk zs) pa a b) = true := h
   rw [tk_eq] at h
   have hx := cap_ok hbd hb1 (of_decide_eq_true h)
   have hx' : (decide (0 ≤ capL f r (tk zs) pa a b) && decide (capL f r (tk zs) pa a b < (tk zs).length)) = true := by rw [tk_eq, h]; simpa using hx
   repeat (first | (first | refine sat_self ?_ | refine sat_nd ?_) | refine sat_need hx' ?_)
   exact sat_ret ⟨_, _, Ent.ren [0, 1, 2, 3, 4, 5] [2, 3, 4, 5, 6, 7] rfl rfl rfl, rfl, (tk zs).getD a.toNat 0, capL f r (tk zs) pa a b, (tk zs).set (capL f r (tk zs) pa a b).toNat 0, (tk zs).length, by rw [tk_eq], by rw [tk_eq], by rw [tk_eq, afZ1, h]; rfl, by rw [tk_eq], rfl, rfl⟩
  ·have h : decide (0 ≤ capL f r (tk zs) pa a b) = false := h
   rw [tk_eq] at h
   exact sat_ret ⟨_, _, Ent.ren [0, 1, 2, 3, 4, 5] [2, 3, 4, 5, 6, 7] rfl rfl rfl, rfl, (tk zs).getD a.toNat 0, capL f r (tk zs) pa a b, tk zs, (tk zs).length, by rw [tk_eq], by rw [tk_eq], by rw [tk_eq, afZ1, h]; rfl, by rw [tk_eq], rfl, rfl⟩
  rintro e tm hp ⟨rfl, pc, cp, l, len, hpc, hcp, hl, hlen, rfl, rfl⟩
  have ha1' := ha1
  have hb1' := hb1
  rw [← hlen] at ha1' hb1'
  repeat (first | (first | refine sat_self ?_ | refine sat_nd ?_) | refine sat_need (need_ix ha0 ha1) ?_ | refine sat_need (need_ix hb0 hb1) ?_ | refine sat_need (need_it ha0 ha1) ?_ | refine sat_need (need_it hb0 hb1) ?_ | refine sat_need hf0 ?_ | refine sat_need (hf1 _) ?_ | refine sat_need (need_bd hc2 rfl) ?_ | refine sat_need (need_bdv hc2 rfl hv4) ?_ | refine sat_need (need_ixn ha0 ha1') ?_ | refine sat_need (need_ixn hb0 hb1') ?_)
  refine sat_join hE 2 (fun e tm hp => e = .normal ∧ ∃ l2 : List Int, l2 = afZ3 f r zs pa a b pr ∧ tm = [(2, .ptr 1 0 0), (3, .ptr 2 0 0), (4, .ptr 3 0 0), (5, .ptr 5 0 0), (6, .int .i8 pc), (7, I cp)] ∧ hp = [.ints false .i8 zs, .cells true [I f, I r, .sl 0 0 zs.length none, Bb bl, .int .u8 ca, I pa, I ha, I fu], .cells true [I a, I b, .int .i8 pr], .cells true [I 0, I 0, .nils, .lit false, .int .u8 0, I 0, I 0, I 0], .ints true .i8 l2, .cells true [I f, I r, .sl 4 0 len none, Bb bl, .int .u8 ca, I pa, I ha, I fu]]) rfl (fun h => ?_) (fun h => ?_) ?_
  ·have h : (!decide (pr = 0)) = true := h
   repeat (first | (first | refine sat_self ?_ | refine sat_nd ?_) | refine sat_need (need_ix ha0 ha1) ?_ | refine sat_need (need_ix hb0 hb1) ?_ | refine sat_need (need_it ha0 ha1) ?_ | refine sat_need (need_it hb0 hb1) ?_ | refine sat_need hf0 ?_ | refine sat_need (hf1 _) ?_ | refine sat_need (need_bd hc2 rfl) ?_ | refine sat_need (need_bdv hc2 rfl hv4) ?_ | refine sat_need (need_ixn ha0 ha1') ?_ | refine sat_need (need_ixn hb0 hb1') ?_)
   exact sat_ret ⟨_, _, Ent.ren [0, 1, 2, 3, 4, 5] [2, 3, 4, 5, 6, 7] rfl rfl rfl, rfl, _, by rw [afZ3, afZ2, ← hl, ← hpc, h]; rfl, rfl, rfl⟩
  ·have h : (!decide (pr = 0)) = false := h
   exact sat_ret ⟨_, _, Ent.ren [0, 1, 2, 3, 4, 5] [2, 3, 4, 5, 6, 7] rfl rfl rfl, rfl, _, by rw [afZ3, afZ2, ← hl, ← hpc, h]; rfl, rfl, rfl⟩
  clear hl
  rintro e tm hp ⟨rfl, l, hl, rfl, rfl⟩
  repeat (first | (first | refine sat_self ?_ | refine sat_nd ?_) | refine sat_need (need_ix ha0 ha1) ?_ | refine sat_need (need_ix hb0 hb1) ?_ | refine sat_need (need_it ha0 ha1) ?_ | refine sat_need (need_it hb0 hb1) ?_ | refine sat_need hf0 ?_ | refine sat_need (hf1 _) ?_ | refine sat_need (need_bd hc2 rfl) ?_ | refine sat_need (need_bdv hc2 rfl hv4) ?_ | refine sat_need (need_ixn ha0 ha1') ?_ | refine sat_need (need_ixn hb0 hb1') ?_)
  refine sat_join hE 2 (fun e tm hp => e = .normal ∧ ∃ l2 : List Int, l2 = afZ f r zs bl ca pa a b pr ∧ tm = [(2, .ptr 1 0 0), (3, .ptr 2 0 0), (4, .ptr 3 0 0), (5, .ptr 5 0 0), (6, .int .i8 pc), (7, I cp)] ∧ hp = [.ints false .i8 zs, .cells true [I f, I r, .sl 0 0 zs.length none, Bb bl, .int .u8 ca, I pa, I ha, I fu], .cells true [I a, I b, .int .i8 pr], .cells true [I 0, I 0, .nils, .lit false, .int .u8 0, I 0, I 0, I 0], .ints true .i8 l2, .cells true [I f, I r, .sl 4 0 len none, Bb bl, .int .u8 ca, I pa, I ha, I fu]]) rfl (fun h => ?_) (fun h => ?_) ?_
  ·have h : (!decide (cgL f r (tk zs) bl ca a b pr = 0)) = true := h
   rw [tk_eq] at h
   obtain ⟨h64, w1, w2, w3, w4⟩ := cg_ok hbd hcs h
   have n2 : (decide (0 ≤ sqW (cgL f r (tk zs) bl ca a b pr) 2) && decide (sqW (cgL f r (tk zs) bl ca a b pr) 2 < len)) = true := by rw [tk_eq, hlen, h64]; simp [w1]; omega
   have n3 : (decide (0 ≤ sqW (cgL f r (tk zs) bl ca a b pr) 3) && decide (sqW (cgL f r (tk zs) bl ca a b pr) 3 < len)) = true := by rw [tk_eq, hlen, h64]; simp [w3]; omega
   repeat (first | refine sat_need n2 ?_ | refine sat_need n3 ?_ | (first | refine sat_self ?_ | refine sat_nd ?_))
   exact sat_ret ⟨_, _, Ent.ren [0, 1, 2, 3, 4, 5] [2, 3, 4, 5, 6, 7] rfl rfl rfl, rfl, (l.set (sqW (cgL f r (tk zs) bl ca a b pr) 3).toNat (l.getD (sqW (cgL f r (tk zs) bl ca a b pr) 2).toNat 0)).set (sqW (cgL f r (tk zs) bl ca a b pr) 2).toNat 0, by rw [tk_eq, afZ, afZ4, ← hl, h]; rfl, rfl, rfl⟩
  ·have h : (!decide (cgL f r (tk zs) bl ca a b pr = 0)) = false := h
   rw [tk_eq] at h
   exact sat_ret ⟨_, _, Ent.ren [0, 1, 2, 3, 4, 5] [2, 3, 4, 5, 6, 7] rfl rfl rfl, rfl, _, by rw [afZ, afZ4, ← hl, h]; rfl, rfl, rfl⟩
  clear hl
  rintro e tm hp ⟨rfl, l, hl, rfl, rfl⟩
  repeat (first | (first | refine sat_self ?_ | refine sat_nd ?_) | refine sat_need (need_ix ha0 ha1) ?_ | refine sat_need (need_ix hb0 hb1) ?_ | refine sat_need (need_it ha0 ha1) ?_ | refine sat_need (need_it hb0 hb1) ?_ | refine sat_need hf0 ?_ | refine sat_need (hf1 _) ?_ | refine sat_need (need_bd hc2 rfl) ?_ | refine sat_need (need_bdv hc2 rfl hv4) ?_ | refine sat_need (need_ixn ha0 ha1') ?_ | refine sat_need (need_ixn hb0 hb1') ?_)
  refine sat_rounds hE 2 5 ?_
  refine rnd ?_
  refine sat_split hE 2 rfl (fun _ => ?_) (fun h => absurd h (by decide))
  repeat (first | (first | refine sat_self ?_ | refine sat_nd ?_) | refine sat_need (need_ix ha0 ha1) ?_ | refine sat_need (need_ix hb0 hb1) ?_ | refine sat_need (need_it ha0 ha1) ?_ | refine sat_need (need_it hb0 hb1) ?_ | refine sat_need hf0 ?_ | refine sat_need (hf1 _) ?_ | refine sat_need (need_bd hc2 rfl) ?_ | refine sat_need (need_bdv hc2 rfl hv4) ?_ | refine sat_need (need_ixn ha0 ha1') ?_ | refine sat_need (need_ixn hb0 hb1') ?_)
  refine sat_join hE 2 (fun e tm hp => e = .normal ∧ ∃ c2 : Int, c2 = afS ca a b 1 ∧ tm = [(2, .ptr 1 0 0), (3, .ptr 2 0 0), (4, .ptr 3 0 0), (5, .ptr 5 0 0), (6, .int .i8 pc), (7, I cp), (86, .sl 6 0 4 none), (87, I 4), (88, I 0)] ∧ hp = [.ints false .i8 zs, .cells true [I f, I r, .sl 0 0 zs.length none, Bb bl, .int .u8 ca, I pa, I ha, I fu], .cells true [I a, I b, .int .i8 pr], .cells true [I 0, I 0, .nils, .lit false, .int .u8 0, I 0, I 0, I 0], .ints true .i8 l, .cells true [I f, I r, .sl 4 0 len none, Bb bl, .int .u8 c2, I pa, I ha, I fu], .ints true .u8 [1, 2, 4, 8]]) rfl (fun h => ?_) (fun h => ?_) ?_
  ·have h : (decide ((IntKind.u8.wrap (ca.tdiv 1)).tmod 2 = 1) && (hasL a [sqW 1 0, sqW 1 2] || hasL b [sqW 1 0, sqW 1 2])) = true := h
   exact sat_ret ⟨_, _, Ent.ren [0, 1, 2, 3, 4, 5, 6] [2, 3, 4, 5, 6, 7, 86, 87, 88] rfl rfl rfl, rfl, _, by rw [afS, h]; rfl, rfl, rfl⟩
  ·have h : (decide ((IntKind.u8.wrap (ca.tdiv 1)).tmod 2 = 1) && (hasL a [sqW 1 0, sqW 1 2] || hasL b [sqW 1 0, sqW 1 2])) = false := h
   exact sat_ret ⟨_, _, Ent.ren [0, 1, 2, 3, 4, 5, 6] [2, 3, 4, 5, 6, 7, 86, 87, 88] rfl rfl rfl, rfl, _, by rw [afS, h]; rfl, rfl, rfl⟩
  skip
  rintro e tm hp ⟨rfl, c, hcc, rfl, rfl⟩
  refine sat_ret ⟨[(2, .ptr 1 0 0), (3, .ptr 2 0 0), (4, .ptr 3 0 0), (5, .ptr 5 0 0), (6, .int .i8 pc), (7, I cp), (86, .sl 6 0 4 none), (87, I 4), (88, I 1)], [.ints false .i8 zs, .cells true [I f, I r, .sl 0 0 zs.length none, Bb bl, .int .u8 ca, I pa, I ha, I fu], .cells true [I a, I b, .int .i8 pr], .cells true [I 0, I 0, .nils, .lit false, .int .u8 0, I 0, I 0, I 0], .ints true .i8 l, .cells true [I f, I r, .sl 4 0 len none, Bb bl, .int .u8 c, I pa, I ha, I fu], .ints true .u8 [1, 2, 4, 8]], Ent.ren [0, 1, 2, 3, 4, 5, 6] [2, 3, 4, 5, 6, 7, 86, 87, 88] rfl rfl rfl, ?_⟩
  refine rnd ?_
  refine sat_split hE 2 rfl (fun _ => ?_) (fun h => absurd h (by decide))
  repeat (first | (first | refine sat_self ?_ | refine sat_nd ?_) | refine sat_need (need_ix ha0 ha1) ?_ | refine sat_need (need_ix hb0 hb1) ?_ | refine sat_need (need_it ha0 ha1) ?_ | refine sat_need (need_it hb0 hb1) ?_ | refine sat_need hf0 ?_ | refine sat_need (hf1 _) ?_ | refine sat_need (need_bd hc2 rfl) ?_ | refine sat_need (need_bdv hc2 rfl hv4) ?_ | refine sat_need (need_ixn ha0 ha1') ?_ | refine sat_need (need_ixn hb0 hb1') ?_)
  refine sat_join hE 2 (fun e tm hp => e = .normal ∧ ∃ c2 : Int, c2 = afS c a b 2 ∧ tm = [(2, .ptr 1 0 0), (3, .ptr 2 0 0), (4, .ptr 3 0 0), (5, .ptr 5 0 0), (6, .int .i8 pc), (7, I cp), (86, .sl 6 0 4 none), (87, I 4), (88, I 1)] ∧ hp = [.ints false .i8 zs, .cells true [I f, I r, .sl 0 0 zs.length none, Bb bl, .int .u8 ca, I pa, I ha, I fu], .cells true [I a, I b, .int .i8 pr], .cells true [I 0, I 0, .nils, .lit false, .int .u8 0, I 0, I 0, I 0], .ints true .i8 l, .cells true [I f, I r, .sl 4 0 len none, Bb bl, .int .u8 c2, I pa, I ha, I fu], .ints true .u8 [1, 2, 4, 8]]) rfl (fun h => ?_) (fun h => ?_) ?_
  ·have h : (decide ((IntKind.u8.wrap (c.tdiv 2)).tmod 2 = 1) && (hasL a [sqW 2 0, sqW 2 2] || hasL b [sqW 2 0, sqW 2 2])) = true := h
   exact sat_ret ⟨_, _, Ent.ren [0, 1, 2, 3, 4, 5, 6] [2, 3, 4, 5, 6, 7, 86, 87, 88] rfl rfl rfl, rfl, _, by rw [afS, h]; rfl, rfl, rfl⟩
  ·have h : (decide ((IntKind.u8.wrap (c.tdiv 2)).tmod 2 = 1) && (hasL a [sqW 2 0, sqW 2 2] || hasL b [sqW 2 0, sqW 2 2])) = false := h
   exact sat_ret ⟨_, _, Ent.ren [0, 1, 2, 3, 4, 5, 6] [2, 3, 4, 5, 6, 7, 86, 87, 88] rfl rfl rfl, rfl, _, by rw [afS, h]; rfl, rfl, rfl⟩
  subst hcc
  rintro e tm hp ⟨rfl, c, hcc, rfl, rfl⟩
  refine sat_ret ⟨[(2, .ptr 1 0 0), (3, .ptr 2 0 0), (4, .ptr 3 0 0), (5, .ptr 5 0 0), (6, .int .i8 pc), (7, I cp), (86, .sl 6 0 4 none), (87, I 4), (88, I 2)], [.ints false .i8 zs, .cells true [I f, I r, .sl 0 0 zs.length none, Bb bl, .int .u8 ca, I pa, I ha, I fu], .cells true [I a, I b, .int .i8 pr], .cells true [I 0, I 0, .nils, .lit false, .int .u8 0, I 0, I 0, I 0], .ints true .i8 l, .cells true [I f, I r, .sl 4 0 len none, Bb bl, .int .u8 c, I pa, I ha, I fu], .ints true .u8 [1, 2, 4, 8]], Ent.ren [0, 1, 2, 3, 4, 5, 6] [2, 3, 4, 5, 6, 7, 86, 87, 88] rfl rfl rfl, ?_⟩
  refine rnd ?_
  refine sat_split hE 2 rfl (fun _ => ?_) (fun h => absurd h (by decide))
  repeat (first | (first | refine sat_self ?_ | refine sat_nd ?_) | refine sat_need (need_ix ha0 ha1) ?_ | refine sat_need (need_ix hb0 hb1) ?_ | refine sat_need (need_it ha0 ha1) ?_ | refine sat_need (need_it hb0 hb1) ?_ | refine sat_need hf0 ?_ | refine sat_need (hf1 _) ?_ | refine sat_need (need_bd hc2 rfl) ?_ | refine sat_need (need_bdv hc2 rfl hv4) ?_ | refine sat_need (need_ixn ha0 ha1') ?_ | refine sat_need (need_ixn hb0 hb1') ?_)
  refine sat_join hE 2 (fun e tm hp => e = .normal ∧ ∃ c2 : Int, c2 = afS c a b 4 ∧ tm = [(2, .ptr 1 0 0), (3, .ptr 2 0 0), (4, .ptr 3 0 0), (5, .ptr 5 0 0), (6, .int .i8 pc), (7, I cp), (86, .sl 6 0 4 none), (87, I 4), (88, I 2)] ∧ hp = [.ints false .i8 zs, .cells true [I f, I r, .sl 0 0 zs.length none, Bb bl, .int .u8 ca, I pa, I ha, I fu], .cells true [I a, I b, .int .i8 pr], .cells true [I 0, I 0, .nils, .lit false, .int .u8 0, I 0, I 0, I 0], .ints true .i8 l, .cells true [I f, I r, .sl 4 0 len none, Bb bl, .int .u8 c2, I pa, I ha, I fu], .ints true .u8 [1, 2, 4, 8]]) rfl (fun h => ?_) (fun h => ?_) ?_
  ·have h : (decide ((IntKind.u8.wrap (c.tdiv 4)).tmod 2 = 1) && (hasL a [sqW 4 0, sqW 4 2] || hasL b [sqW 4 0, sqW 4 2])) = true := h
   exact sat_ret ⟨_, _, Ent.ren [0, 1, 2, 3, 4, 5, 6] [2, 3, 4, 5, 6, 7, 86, 87, 88] rfl rfl rfl, rfl, _, by rw [afS, h]; rfl, rfl, rfl⟩
  ·have h : (decide ((IntKind.u8.wrap (c.tdiv 4)).tmod 2 = 1) && (hasL a [sqW 4 0, sqW 4 2] || hasL b [sqW 4 0, sqW 4 2])) = false := h
   exact sat_ret ⟨_, _, Ent.ren [0, 1, 2, 3, 4, 5, 6] [2, 3, 4, 5, 6, 7, 86, 87, 88] rfl rfl rfl, rfl, _, by rw [afS, h]; rfl, rfl, rfl⟩
  subst hcc
  rintro e tm hp ⟨rfl, c, hcc, rfl, rfl⟩
  refine sat_ret ⟨[(2, .ptr 1 0 0), (3, .ptr 2 0 0), (4, .ptr 3 0 0), (5, .ptr 5 0 0), (6, .int .i8 pc), (7, I cp), (86, .sl 6 0 4 none), (87, I 4), (88, I 3)], [.ints false .i8 zs, .cells true [I f, I r, .sl 0 0 zs.length none, Bb bl, .int .u8 ca, I pa, I ha, I fu], .cells true [I a, I b, .int .i8 pr], .cells true [I 0, I 0, .nils, .lit false, .int .u8 0, I 0, I 0, I 0], .ints true .i8 l, .cells true [I f, I r, .sl 4 0 len none, Bb bl, .int .u8 c, I pa, I ha, I fu], .ints true .u8 [1, 2, 4, 8]], Ent.ren [0, 1, 2, 3, 4, 5, 6] [2, 3, 4, 5, 6, 7, 86, 87, 88] rfl rfl rfl, ?_⟩
  refine rnd ?_
  refine sat_split hE 2 rfl (fun _ => ?_) (fun h => absurd h (by decide))
  repeat (first | (first | refine sat_self ?_ | refine sat_nd ?_) | refine sat_need (need_ix ha0 ha1) ?_ | refine sat_need (need_ix hb0 hb1) ?_ | refine sat_need (need_it ha0 ha1) ?_ | refine sat_need (need_it hb0 hb1) ?_ | refine sat_need hf0 ?_ | refine sat_need (hf1 _) ?_ | refine sat_need (need_bd hc2 rfl) ?_ | refine sat_need (need_bdv hc2 rfl hv4) ?_ | refine sat_need (need_ixn ha0 ha1') ?_ | refine sat_need (need_ixn hb0 hb1') ?_)
  refine sat_join hE 2 (fun e tm hp => e = .normal ∧ ∃ c2 : Int, c2 = afS c a b 8 ∧ tm = [(2, .ptr 1 0 0), (3, .ptr 2 0 0), (4, .ptr 3 0 0), (5, .ptr 5 0 0), (6, .int .i8 pc), (7, I cp), (86, .sl 6 0 4 none), (87, I 4), (88, I 3)] ∧ hp = [.ints false .i8 zs, .cells true [I f, I r, .sl 0 0 zs.length none, Bb bl, .int .u8 ca, I pa, I ha, I fu], .cells true [I a, I b, .int .i8 pr], .cells true [I 0, I 0, .nils, .lit false, .int .u8 0, I 0, I 0, I 0], .ints true .i8 l, .cells true [I f, I r, .sl 4 0 len none, Bb bl, .int .u8 c2, I pa, I ha, I fu], .ints true .u8 [1, 2, 4, 8]]) rfl (fun h => ?_) (fun h => ?_) ?_
  ·have h : (decide ((IntKind.u8.wrap (c.tdiv 8)).tmod 2 = 1) && (hasL a [sqW 8 0, sqW 8 2] || hasL b [sqW 8 0, sqW 8 2])) = true := h
   exact sat_ret ⟨_, _, Ent.ren [0, 1, 2, 3, 4, 5, 6] [2, 3, 4, 5, 6, 7, 86, 87, 88] rfl rfl rfl, rfl, _, by rw [afS, h]; rfl, rfl, rfl⟩
  ·have h : (decide ((IntKind.u8.wrap (c.tdiv 8)).tmod 2 = 1) && (hasL a [sqW 8 0, sqW 8 2] || hasL b [sqW 8 0, sqW 8 2])) = false := h
   exact sat_ret ⟨_, _, Ent.ren [0, 1, 2, 3, 4, 5, 6] [2, 3, 4, 5, 6, 7, 86, 87, 88] rfl rfl rfl, rfl, _, by rw [afS, h]; rfl, rfl, rfl⟩
  subst hcc
  rintro e tm hp ⟨rfl, c, hcc, rfl, rfl⟩
  refine sat_ret ⟨[(2, .ptr 1 0 0), (3, .ptr 2 0 0), (4, .ptr 3 0 0), (5, .ptr 5 0 0), (6, .int .i8 pc), (7, I cp), (86, .sl 6 0 4 none), (87, I 4), (88, I 4)], [.ints false .i8 zs, .cells true [I f, I r, .sl 0 0 zs.length none, Bb bl, .int .u8 ca, I pa, I ha, I fu], .cells true [I a, I b, .int .i8 pr], .cells true [I 0, I 0, .nils, .lit false, .int .u8 0, I 0, I 0, I 0], .ints true .i8 l, .cells true [I f, I r, .sl 4 0 len none, Bb bl, .int .u8 c, I pa, I ha, I fu], .ints true .u8 [1, 2, 4, 8]], Ent.ren [0, 1, 2, 3, 4, 5, 6] [2, 3, 4, 5, 6, 7, 86, 87, 88] rfl rfl rfl, ?_⟩
  refine rnd ?_
  refine sat_split hE 2 rfl (fun h => absurd h (by decide)) (fun _ => ?_)
  refine sat_ret ?_
  have hcc : c = afC ca a b := hcc
  repeat (first | (first | refine sat_self ?_ | refine sat_nd ?_) | refine sat_need (need_ix ha0 ha1) ?_ | refine sat_need (need_ix hb0 hb1) ?_ | refine sat_need (need_it ha0 ha1) ?_ | refine sat_need (need_it hb0 hb1) ?_ | refine sat_need hf0 ?_ | refine sat_need (hf1 _) ?_ | refine sat_need (need_bd hc2 rfl) ?_ | refine sat_need (need_bdv hc2 rfl hv4) ?_ | refine sat_need (need_ixn ha0 ha1') ?_ | refine sat_need (need_ixn hb0 hb1') ?_)
  refine sat_join hE 2 (fun e tm hp => e = .normal ∧ ∃ pa2 : Int, pa2 = afPa f r zs a b ∧ tm = [(2, .ptr 1 0 0), (3, .ptr 2 0 0), (4, .ptr 3 0 0), (5, .ptr 5 0 0), (6, .int .i8 pc), (7, I cp)] ∧ hp = [.ints false .i8 zs, .cells true [I f, I r, .sl 0 0 zs.length none, Bb bl, .int .u8 ca, I pa, I ha, I fu], .cells true [I a, I b, .int .i8 pr], .cells true [I 0, I 0, .nils, .lit false, .int .u8 0, I 0, I 0, I 0], .ints true .i8 l, .cells true [I f, I r, .sl 4 0 len none, Bb bl, .int .u8 c, I pa2, I ha, I fu]]) rfl (fun h => ?_) (fun h => ?_) ?_
  ·have h : (decide (kind8 pc = 1) && (decide (IntKind.i64.wrap (IntKind.i64.wrap (a.tdiv f) - IntKind.i64.wrap (b.tdiv f)) = 2) || decide (IntKind.i64.wrap (IntKind.i64.wrap (b.tdiv f) - IntKind.i64.wrap (a.tdiv f)) = 2))) = true := h
   repeat (first | (first | refine sat_self ?_ | refine sat_nd ?_) | refine sat_need (need_ix ha0 ha1) ?_ | refine sat_need (need_ix hb0 hb1) ?_ | refine sat_need (need_it ha0 ha1) ?_ | refine sat_need (need_it hb0 hb1) ?_ | refine sat_need hf0 ?_ | refine sat_need (hf1 _) ?_ | refine sat_need (need_bd hc2 rfl) ?_ | refine sat_need (need_bdv hc2 rfl hv4) ?_ | refine sat_need (need_ixn ha0 ha1') ?_ | refine sat_need (need_ixn hb0 hb1') ?_)
   exact sat_ret ⟨_, _, Ent.ren [0, 1, 2, 3, 4, 5] [2, 3, 4, 5, 6, 7] rfl rfl rfl, rfl, _, by rw [afPa, ← hpc, h]; rfl, rfl, rfl⟩
  ·have h : (decide (kind8 pc = 1) && (decide (IntKind.i64.wrap (IntKind.i64.wrap (a.tdiv f) - IntKind.i64.wrap (b.tdiv f)) = 2) || decide (IntKind.i64.wrap (IntKind.i64.wrap (b.tdiv f) - IntKind.i64.wrap (a.tdiv f)) = 2))) = false := h
   exact sat_ret ⟨_, _, Ent.ren [0, 1, 2, 3, 4, 5] [2, 3, 4, 5, 6, 7] rfl rfl rfl, rfl, _, by rw [afPa, ← hpc, h]; rfl, rfl, rfl⟩
  rintro e tm hp ⟨rfl, pa2, hpa2, rfl, rfl⟩
  repeat (first | (first | refine sat_self ?_ | refine sat_nd ?_) | refine sat_need (need_ix ha0 ha1) ?_ | refine sat_need (need_ix hb0 hb1) ?_ | refine sat_need (need_it ha0 ha1) ?_ | refine sat_need (need_it hb0 hb1) ?_ | refine sat_need hf0 ?_ | refine sat_need (hf1 _) ?_ | refine sat_need (need_bd hc2 rfl) ?_ | refine sat_need (need_bdv hc2 rfl hv4) ?_ | refine sat_need (need_ixn ha0 ha1') ?_ | refine sat_need (need_ixn hb0 hb1') ?_)
  refine sat_join hE 2 (fun e tm hp => e = .normal ∧ ∃ ha2 : Int, ha2 = afHa f r zs pa ha a b ∧ tm = [(2, .ptr 1 0 0), (3, .ptr 2 0 0), (4, .ptr 3 0 0), (5, .ptr 5 0 0), (6, .int .i8 pc), (7, I cp)] ∧ hp = [.ints false .i8 zs, .cells true [I f, I r, .sl 0 0 zs.length none, Bb bl, .int .u8 ca, I pa, I ha, I fu], .cells true [I a, I b, .int .i8 pr], .cells true [I 0, I 0, .nils, .lit false, .int .u8 0, I 0, I 0, I 0], .ints true .i8 l, .cells true [I f, I r, .sl 4 0 len none, Bb bl, .int .u8 c, I pa2, I ha2, I fu]]) rfl (fun h => ?_) (fun h => ?_) ?_
  ·have h : (decide (kind8 pc = 1) || decide (0 ≤ cp)) = true := h
   exact sat_ret ⟨_, _, Ent.ren [0, 1, 2, 3, 4, 5] [2, 3, 4, 5, 6, 7] rfl rfl rfl, rfl, _, by rw [afHa, ← hpc, ← hcp, h]; rfl, rfl, rfl⟩
  ·have h : (decide (kind8 pc = 1) || decide (0 ≤ cp)) = false := h
   exact sat_ret ⟨_, _, Ent.ren [0, 1, 2, 3, 4, 5] [2, 3, 4, 5, 6, 7] rfl rfl rfl, rfl, _, by rw [afHa, ← hpc, ← hcp, h]; rfl, rfl, rfl⟩
  rintro e tm hp ⟨rfl, ha2, hha2, rfl, rfl⟩
  repeat (first | (first | refine sat_self ?_ | refine sat_nd ?_) | refine sat_need (need_ix ha0 ha1) ?_ | refine sat_need (need_ix hb0 hb1) ?_ | refine sat_need (need_it ha0 ha1) ?_ | refine sat_need (need_it hb0 hb1) ?_ | refine sat_need hf0 ?_ | refine sat_need (hf1 _) ?_ | refine sat_need (need_bd hc2 rfl) ?_ | refine sat_need (need_bdv hc2 rfl hv4) ?_ | refine sat_need (need_ixn ha0 ha1') ?_ | refine sat_need (need_ixn hb0 hb1') ?_)
  refine sat_join hE 2 (fun e tm hp => e = .normal ∧ ∃ fu2 : Int, fu2 = fuR bl fu ∧ tm = [(2, .ptr 1 0 0), (3, .ptr 2 0 0), (4, .ptr 3 0 0), (5, .ptr 5 0 0), (6, .int .i8 pc), (7, I cp)] ∧ hp = [.ints false .i8 zs, .cells true [I f, I r, .sl 0 0 zs.length none, Bb bl, .int .u8 ca, I pa, I ha, I fu], .cells true [I a, I b, .int .i8 pr], .cells true [I 0, I 0, .nils, .lit false, .int .u8 0, I 0, I 0, I 0], .ints true .i8 l, .cells true [I f, I r, .sl 4 0 len none, Bb bl, .int .u8 c, I pa2, I ha2, I fu2]]) rfl (fun h => ?_) (fun h => ?_) ?_
  ·have h : bl = true := h
   exact sat_ret ⟨_, _, Ent.ren [0, 1, 2, 3, 4, 5] [2, 3, 4, 5, 6, 7] rfl rfl rfl, rfl, _, by rw [fuR, h]; rfl, rfl, rfl⟩
  ·have h : bl = false := h
   exact sat_ret ⟨_, _, Ent.ren [0, 1, 2, 3, 4, 5] [2, 3, 4, 5, 6, 7] rfl rfl rfl, rfl, _, by rw [fuR, h]; rfl, rfl, rfl⟩
  rintro e tm hp ⟨rfl, fu2, hfu2, rfl, rfl⟩
  repeat (first | (first | refine sat_self ?_ | refine sat_nd ?_) | refine sat_need (need_ix ha0 ha1) ?_ | refine sat_need (need_ix hb0 hb1) ?_ | refine sat_need (need_it ha0 ha1) ?_ | refine sat_need (need_it hb0 hb1) ?_ | refine sat_need hf0 ?_ | refine sat_need (hf1 _) ?_ | refine sat_need (need_bd hc2 rfl) ?_ | refine sat_need (need_bdv hc2 rfl hv4) ?_ | refine sat_need (need_ixn ha0 ha1') ?_ | refine sat_need (need_ixn hb0 hb1') ?_)
  refine sat_ret (fin_l0 (fin_new 4 (.inr rfl) rfl rfl rfl rfl (by rw [← hl]; rfl) ?_))
  show V.agg [I f, I r, .sl 1 0 len none, Bb (!bl), .int .u8 c, I pa2, I ha2, I fu2] = V.agg [I f, I r, .sl 1 0 (afZ f r zs bl ca pa a b pr).length none, Bb (!bl), .int .u8 (afC ca a b), I (afPa f r zs a b), I (afHa f r zs pa ha a b), I (fuR bl fu)]
  rw [hcc, hpa2, hha2, hfu2, hlen, afZ_len]
 ·cases e
end Go.Ab

set_option maxRecDepth 100000
set_option maxHeartbeats 4000000
namespace Go.Ab
open Go.Proofs
variable {kCa kDb : Bool}
theorem need_hs8 {l : List Int} (h : l.length ≤ 64) {n : Nat} (hn : n = l.length) : (decide (n = ((l.drop 0).take n).length) && decide (((l.drop 0).take n).length ≤ 1000000)) = true := by subst hn; simp; omega
def c_rpn : CF
 | [.agg [.int .i64 f, .int .i64 r, .sl 0 0 len none, .bool bl, .int .u8 ca, .int .i64 pa, .int .i64 _ha, .int .i64 _fu], .agg [.int .i64 a, .int .i64 b, .int .i8 pr]], [.ints false .i8 zs] => some (decide (len = zs.length) && decide (zs.length ≤ 64) && (validBd f r zs && castL f r zs ca && validB f r a && validB f r b), .bool (pnL f r zs bl pa a b pr), [])
 | _, _ => none
theorem c_rpn_ok : CtOk (GGx kCa kDb) PP (154, c_rpn) := by
 refine ct_mk Tryz.func154 (by kernel_rfl) rfl fun a0 h0 c0 v0 N0 e hc => ?_
 unfold c_rpn at e
 split at e
 ·rename_i f r len bl ca pa ha fu a b pr zs
  cases e
  have hE := EE_ok (kCa := kCa) (kDb := kDb) (cts := [(27, c_rOf), (148, c_Occ), (48, c_Place), (49, c_rLast), (173, c_refSteps), (172, c_refPawn), (117, c_rhas)]) (inl := []) ⟨c_rOf_ok, c_Occ_ok, c_Place_ok, c_rLast_ok, c_refSteps_ok, c_refPawn_ok, c_rhas_ok, trivial⟩ trivial
  refine fn_sound hE 2 Tryz.func154 rfl rfl ?_
  simp only [Bool.and_eq_true, decide_eq_true_eq] at hc
  obtain ⟨⟨rfl, hc2⟩, ⟨⟨hbd, hcs⟩, hva⟩, hvb⟩ := hc
  have hvs := (bd_valid hbd).1
  obtain ⟨ha0, ha1⟩ := (bd_sq hbd).1 hva
  obtain ⟨hb0, hb1⟩ := (bd_sq hbd).1 hvb
  have hf0 : (!decide (f = 0)) = true := by have := vs_bd hvs; simp; omega
  have hf1 : ∀ g : Bool, (!g || !decide (f = 0)) = true := fun g => by rw [hf0]; simp
  have hbt : validBd f r (tk zs) = true := by rw [tk_eq]; exact hbd
  have hct : castL f r (tk zs) ca = true := by rw [tk_eq]; exact hcs
  have hv4 : (validBd f r (tk zs) && castL f r (tk zs) ca && validB f r a && validB f r b) = true := by rw [hbt, hct, hva, hvb]; rfl
  have hv5 : (validBd f r (tk zs) && castL f r (tk zs) ca && (validB f r a && validB f r b)) = true := by rw [hbt, hct, hva, hvb]; rfl
  have hs1 : (filtB (stepsB f r bl a (occL (tk zs))) id ((f * r).toNat)).length ≤ 64 := by have := filtB_len (stepsB f r bl a (occL (tk zs))) id ((f * r).toNat); have := (bd_valid hbd).2; omega
  have hs2 : (filtB (pawnC f bl a) id ((f * r).toNat)).length ≤ 64 := by have := filtB_len (pawnC f bl a) id ((f * r).toNat); have := (bd_valid hbd).2; omega
  repeat (first | (first | refine sat_self ?_ | refine sat_nd ?_) | refine sat_need (need_i ha0 ha1) ?_ | refine sat_need (need_i hb0 hb1) ?_ | refine sat_need (need_ig ha0 ha1) ?_ | refine sat_need (need_ig hb0 hb1) ?_ | refine sat_need hvs ?_ | refine sat_need hf0 ?_ | refine sat_need (hf1 _) ?_ | refine sat_need (need_bd hc2 rfl) ?_ | refine sat_need (need_bdg hc2 rfl) ?_ | refine sat_need (need_bdv hc2 rfl hv4) ?_ | refine sat_need (need_hs8 hs1 rfl) ?_ | refine sat_need (need_hs8 hs2 rfl) ?_)
  refine sat_br (fun h => ?_) (fun h => ?_)
  ·have h : (!(decide (IntKind.i64.wrap (b.tdiv f) = lastR r bl) == !decide (pr = 0))) = true := h
   exact sat_ret (fin_val (.inr rfl) rfl rfl rfl (by rw [pnL, h]; rfl))
  have h : (!(decide (IntKind.i64.wrap (b.tdiv f) = lastR r bl) == !decide (pr = 0))) = false := h
  repeat (first | (first | refine sat_self ?_ | refine sat_nd ?_) | refine sat_need (need_i ha0 ha1) ?_ | refine sat_need (need_i hb0 hb1) ?_ | refine sat_need (need_ig ha0 ha1) ?_ | refine sat_need (need_ig hb0 hb1) ?_ | refine sat_need hvs ?_ | refine sat_need hf0 ?_ | refine sat_need (hf1 _) ?_ | refine sat_need (need_bd hc2 rfl) ?_ | refine sat_need (need_bdg hc2 rfl) ?_ | refine sat_need (need_bdv hc2 rfl hv4) ?_ | refine sat_need (need_hs8 hs1 rfl) ?_ | refine sat_need (need_hs8 hs2 rfl) ?_)
  refine sat_br (fun h2 => ?_) (fun h2 => ?_)
  ·have h2 : hasL b (tk (filtB (stepsB f r bl a (occL (tk zs))) id ((f * r).toNat))) = true := h2
   rw [tk_eq, tk_eq] at h2
   exact sat_ret (fin_val (.inr rfl) rfl rfl rfl (by rw [pnL, h, h2]; rfl))
  have h2 : hasL b (tk (filtB (stepsB f r bl a (occL (tk zs))) id ((f * r).toNat))) = false := h2
  rw [tk_eq, tk_eq] at h2
  repeat (first | (first | refine sat_self ?_ | refine sat_nd ?_) | refine sat_need (need_i ha0 ha1) ?_ | refine sat_need (need_i hb0 hb1) ?_ | refine sat_need (need_ig ha0 ha1) ?_ | refine sat_need (need_ig hb0 hb1) ?_ | refine sat_need hvs ?_ | refine sat_need hf0 ?_ | refine sat_need (hf1 _) ?_ | refine sat_need (need_bd hc2 rfl) ?_ | refine sat_need (need_bdg hc2 rfl) ?_ | refine sat_need (need_bdv hc2 rfl hv4) ?_ | refine sat_need (need_hs8 hs1 rfl) ?_ | refine sat_need (need_hs8 hs2 rfl) ?_)
  exact sat_ret (fin_val (.inr rfl) rfl rfl rfl (congrArg V.bool (by
   show (hasL b (tk (filtB (pawnC f bl a) id ((f * r).toNat))) && (!decide (zs.getD b.toNat 0 = 0) || decide (b = pa))) = _
   rw [tk_eq, pnL, h, h2]; rfl)))
 ·cases e
def c_rso : CF
 | [.agg [.int .i64 f, .int .i64 r, .sl 0 0 len none, .bool bl, .int .u8 ca, .int .i64 pa, .int .i64 _ha, .int .i64 _fu], .agg [.int .i64 a, .int .i64 b, .int .i8 pr]], [.ints false .i8 zs] => some (decide (len = zs.length) && decide (zs.length ≤ 64) && (validBd f r zs && castL f r zs ca && validB f r a && validB f r b), .bool (soL f r zs bl ca pa a b pr), [])
 | _, _ => none
theorem c_rso_ok : CtOk (GGx kCa kDb) PP (103, c_rso) := by
 refine ct_mk Tryz.func103 (by kernel_rfl) rfl fun a0 h0 c0 v0 N0 e hc => ?_
 unfold c_rso at e
 split at e
 ·rename_i f r len bl ca pa ha fu a b pr zs
  cases e
  have hE := EE_ok (kCa := kCa) (kDb := kDb) (cts := [(153, c_rown), (47, c_rpkind), (154, c_rpn), (100, c_rcgl), (27, c_rOf), (148, c_Occ), (155, c_Reaches)]) (inl := []) ⟨c_rown_ok, c_rpkind_ok, c_rpn_ok, c_rcgl_ok, c_rOf_ok, c_Occ_ok, c_Reaches_ok, trivial⟩ trivial
  refine fn_sound hE 2 Tryz.func103 rfl rfl ?_
  simp only [Bool.and_eq_true, decide_eq_true_eq] at hc
  obtain ⟨⟨rfl, hc2⟩, ⟨⟨hbd, hcs⟩, hva⟩, hvb⟩ := hc
  have hvs := (bd_valid hbd).1
  obtain ⟨ha0, ha1⟩ := (bd_sq hbd).1 hva
  obtain ⟨hb0, hb1⟩ := (bd_sq hbd).1 hvb
  have hf0 : (!decide (f = 0)) = true := by have := vs_bd hvs; simp; omega
  have hf1 : ∀ g : Bool, (!g || !decide (f = 0)) = true := fun g => by rw [hf0]; simp
  have hbt : validBd f r (tk zs) = true := by rw [tk_eq]; exact hbd
  have hct : castL f r (tk zs) ca = true := by rw [tk_eq]; exact hcs
  have hv4 : (validBd f r (tk zs) && castL f r (tk zs) ca && validB f r a && validB f r b) = true := by rw [hbt, hct, hva, hvb]; rfl
  have hv5 : (validBd f r (tk zs) && castL f r (tk zs) ca && (validB f r a && validB f r b)) = true := by rw [hbt, hct, hva, hvb]; rfl
  have hs1 : (filtB (stepsB f r bl a (occL (tk zs))) id ((f * r).toNat)).length ≤ 64 := by have := filtB_len (stepsB f r bl a (occL (tk zs))) id ((f * r).toNat); have := (bd_valid hbd).2; omega
  have hs2 : (filtB (pawnC f bl a) id ((f * r).toNat)).length ≤ 64 := by have := filtB_len (pawnC f bl a) id ((f * r).toNat); have := (bd_valid hbd).2; omega
  repeat (first | (first | refine sat_self ?_ | refine sat_nd ?_) | refine sat_need (need_i ha0 ha1) ?_ | refine sat_need (need_i hb0 hb1) ?_ | refine sat_need (need_ig ha0 ha1) ?_ | refine sat_need (need_ig hb0 hb1) ?_ | refine sat_need hvs ?_ | refine sat_need hf0 ?_ | refine sat_need (hf1 _) ?_ | refine sat_need (need_bd hc2 rfl) ?_ | refine sat_need (need_bdg hc2 rfl) ?_ | refine sat_need (need_bdv hc2 rfl hv4) ?_ | refine sat_need (need_hs8 hs1 rfl) ?_ | refine sat_need (need_hs8 hs2 rfl) ?_)
  refine sat_br (fun h => ?_) (fun h => ?_)
  ·have h : ownL (zs.getD b.toNat 0) bl = true := h
   exact sat_ret (fin_val (.inr rfl) rfl rfl rfl (by rw [soL, h]; rfl))
  have h : ownL (zs.getD b.toNat 0) bl = false := h
  repeat (first | (first | refine sat_self ?_ | refine sat_nd ?_) | refine sat_need (need_i ha0 ha1) ?_ | refine sat_need (need_i hb0 hb1) ?_ | refine sat_need (need_ig ha0 ha1) ?_ | refine sat_need (need_ig hb0 hb1) ?_ | refine sat_need hvs ?_ | refine sat_need hf0 ?_ | refine sat_need (hf1 _) ?_ | refine sat_need (need_bd hc2 rfl) ?_ | refine sat_need (need_bdg hc2 rfl) ?_ | refine sat_need (need_bdv hc2 rfl hv4) ?_ | refine sat_need (need_hs8 hs1 rfl) ?_ | refine sat_need (need_hs8 hs2 rfl) ?_)
  refine sat_br (fun h2 => ?_) (fun h2 => ?_)
  ·have h2 : decide (kind8 (zs.getD a.toNat 0) = 1) = true := h2
   repeat (first | (first | refine sat_self ?_ | refine sat_nd ?_) | refine sat_need (need_i ha0 ha1) ?_ | refine sat_need (need_i hb0 hb1) ?_ | refine sat_need (need_ig ha0 ha1) ?_ | refine sat_need (need_ig hb0 hb1) ?_ | refine sat_need hvs ?_ | refine sat_need hf0 ?_ | refine sat_need (hf1 _) ?_ | refine sat_need (need_bd hc2 rfl) ?_ | refine sat_need (need_bdg hc2 rfl) ?_ | refine sat_need (need_bdv hc2 rfl hv4) ?_ | refine sat_need (need_hs8 hs1 rfl) ?_ | refine sat_need (need_hs8 hs2 rfl) ?_)
   exact sat_ret (fin_val (.inr rfl) rfl rfl rfl (congrArg V.bool (by
    show pnL f r (tk zs) bl pa a b pr = _
    rw [tk_eq, soL, h, h2]; rfl)))
  have h2 : decide (kind8 (zs.getD a.toNat 0) = 1) = false := h2
  repeat (first | (first | refine sat_self ?_ | refine sat_nd ?_) | refine sat_need (need_i ha0 ha1) ?_ | refine sat_need (need_i hb0 hb1) ?_ | refine sat_need (need_ig ha0 ha1) ?_ | refine sat_need (need_ig hb0 hb1) ?_ | refine sat_need hvs ?_ | refine sat_need hf0 ?_ | refine sat_need (hf1 _) ?_ | refine sat_need (need_bd hc2 rfl) ?_ | refine sat_need (need_bdg hc2 rfl) ?_ | refine sat_need (need_bdv hc2 rfl hv4) ?_ | refine sat_need (need_hs8 hs1 rfl) ?_ | refine sat_need (need_hs8 hs2 rfl) ?_)
  refine sat_br (fun h3 => ?_) (fun h3 => ?_)
  ·have h3 : (!decide (cgL f r (tk zs) bl ca a b pr = 0)) = true := h3
   rw [tk_eq] at h3
   exact sat_ret (fin_val (.inr rfl) rfl rfl rfl (by rw [soL, h, h2, h3]; rfl))
  have h3 : (!decide (cgL f r (tk zs) bl ca a b pr = 0)) = false := h3
  rw [tk_eq] at h3
  repeat (first | (first | refine sat_self ?_ | refine sat_nd ?_) | refine sat_need (need_i ha0 ha1) ?_ | refine sat_need (need_i hb0 hb1) ?_ | refine sat_need (need_ig ha0 ha1) ?_ | refine sat_need (need_ig hb0 hb1) ?_ | refine sat_need hvs ?_ | refine sat_need hf0 ?_ | refine sat_need (hf1 _) ?_ | refine sat_need (need_bd hc2 rfl) ?_ | refine sat_need (need_bdg hc2 rfl) ?_ | refine sat_need (need_bdv hc2 rfl hv4) ?_ | refine sat_need (need_hs8 hs1 rfl) ?_ | refine sat_need (need_hs8 hs2 rfl) ?_)
  exact sat_ret (fin_val (.inr rfl) rfl rfl rfl (congrArg V.bool (by
   show (decide (pr = 0) && reachesB f r (kind8 (zs.getD a.toNat 0)) a b (occL (tk zs))) = _
   rw [tk_eq, soL, h, h2, h3]; rfl)))
 ·cases e
end Go.Ab

set_option maxRecDepth 100000
set_option maxHeartbeats 4000000
namespace Go.Ab
open Go.Proofs
variable {kCa kDb : Bool}
def sfL (p : Psn) (m : Mov) : Bool := bif chkL p.f p.r (afP p m).zs p.bl then false else bif decide (cgL p.f p.r p.zs p.bl p.ca m.a m.b m.p = 0) then true else !chkL p.f p.r p.zs p.bl && decide (((attL p.f p.r p.zs (sqW (cgL p.f p.r p.zs p.bl p.ca m.a m.b m.p) 3) (!p.bl)).length : Int) = 0)
theorem need_af {l : List Int} {f r : Int} (h : l.length ≤ 64) (hv : vsB f r = true) : (decide (l.length = ((l.drop 0).take l.length).length) && decide (((l.drop 0).take l.length).length ≤ 64) && vsB f r) = true := by rw [hv]; simp [h]
def c_rsafe : CF
 | [.agg [.int .i64 f, .int .i64 r, .sl 0 0 len none, .bool bl, .int .u8 ca, .int .i64 pa, .int .i64 ha, .int .i64 fu], .agg [.int .i64 a, .int .i64 b, .int .i8 pr]], [.ints false .i8 zs] => some (decide (len = zs.length) && decide (zs.length ≤ 64) && (validBd f r zs && castL f r zs ca && validB f r a && validB f r b), .bool (sfL ⟨f, r, zs, bl, ca, pa, ha, fu⟩ ⟨a, b, pr⟩), [])
 | _, _ => none
theorem c_rsafe_ok : CtOk (GGx kCa kDb) PP (55, c_rsafe) := by
 refine ct_mk Tryz.func55 (by kernel_rfl) rfl fun a0 h0 c0 v0 N0 e hc => ?_
 unfold c_rsafe at e
 split at e
 ·rename_i f r len bl ca pa ha fu a b pr zs
  cases e
  have hE := EE_ok (kCa := kCa) (kDb := kDb) (cts := [(61, c_rafter), (27, c_rOf), (46, c_rCheck), (100, c_rcgl), (102, c_rrow), (101, c_rsquare), (94, c_refAttackers)]) (inl := []) ⟨c_rafter_ok, c_rOf_ok, c_rCheck_ok, c_rcgl_ok, c_rrow_ok, c_rsquare_ok, c_refAttackers_ok, trivial⟩ trivial
  refine fn_sound hE 2 Tryz.func55 rfl rfl ?_
  simp only [Bool.and_eq_true, decide_eq_true_eq] at hc
  obtain ⟨⟨rfl, hc2⟩, ⟨⟨hbd, hcs⟩, hva⟩, hvb⟩ := hc
  have hvs := (bd_valid hbd).1
  obtain ⟨ha0, ha1⟩ := (bd_sq hbd).1 hva
  obtain ⟨hb0, hb1⟩ := (bd_sq hbd).1 hvb
  have hbt : validBd f r (tk zs) = true := by rw [tk_eq]; exact hbd
  have hct : castL f r (tk zs) ca = true := by rw [tk_eq]; exact hcs
  have hv4 : (validBd f r (tk zs) && castL f r (tk zs) ca && validB f r a && validB f r b) = true := by rw [hbt, hct, hva, hvb]; rfl
  have hzl : (afZ f r (tk zs) bl ca pa a b pr).length ≤ 64 := by rw [afZ_len, tk_len]; exact hc2
  repeat (first | (first | refine sat_self ?_ | refine sat_nd ?_) | refine sat_need (need_i ha0 ha1) ?_ | refine sat_need (need_i hb0 hb1) ?_ | refine sat_need (need_bd hc2 rfl) ?_ | refine sat_need (need_bdg hc2 rfl) ?_ | refine sat_need (need_bdv hc2 rfl hv4) ?_ | refine sat_need (need_bdv hc2 rfl hvs) ?_ | refine sat_need (need_bdw hc2 hvs) ?_ | refine sat_need (need_af hzl hvs) ?_)
  refine sat_br (fun h => ?_) (fun h => ?_)
  ·have h : chkL f r (tk (afZ f r (tk zs) bl ca pa a b pr)) bl = true := h
   rw [tk_eq, tk_eq] at h
   have h : chkL f r (afP ⟨f, r, zs, bl, ca, pa, ha, fu⟩ ⟨a, b, pr⟩).zs bl = true := h
   exact sat_ret (fin_val (.inr rfl) rfl rfl rfl (by simp only [sfL, h, cond_true]))
  have h : chkL f r (tk (afZ f r (tk zs) bl ca pa a b pr)) bl = false := h
  rw [tk_eq, tk_eq] at h
  have h : chkL f r (afP ⟨f, r, zs, bl, ca, pa, ha, fu⟩ ⟨a, b, pr⟩).zs bl = false := h
  repeat (first | (first | refine sat_self ?_ | refine sat_nd ?_) | refine sat_need (need_i ha0 ha1) ?_ | refine sat_need (need_i hb0 hb1) ?_ | refine sat_need (need_bd hc2 rfl) ?_ | refine sat_need (need_bdg hc2 rfl) ?_ | refine sat_need (need_bdv hc2 rfl hv4) ?_ | refine sat_need (need_bdv hc2 rfl hvs) ?_ | refine sat_need (need_bdw hc2 hvs) ?_ | refine sat_need (need_af hzl hvs) ?_)
  refine sat_br (fun h2 => ?_) (fun h2 => ?_)
  ·have h2 : decide (cgL f r (tk zs) bl ca a b pr = 0) = true := h2
   rw [tk_eq] at h2
   exact sat_ret (fin_val (.inr rfl) rfl rfl rfl (by simp only [sfL, h, h2, cond_true, cond_false]))
  have h2 : decide (cgL f r (tk zs) bl ca a b pr = 0) = false := h2
  rw [tk_eq] at h2
  repeat (first | (first | refine sat_self ?_ | refine sat_nd ?_) | refine sat_need (need_i ha0 ha1) ?_ | refine sat_need (need_i hb0 hb1) ?_ | refine sat_need (need_bd hc2 rfl) ?_ | refine sat_need (need_bdg hc2 rfl) ?_ | refine sat_need (need_bdv hc2 rfl hv4) ?_ | refine sat_need (need_bdv hc2 rfl hvs) ?_ | refine sat_need (need_bdw hc2 hvs) ?_ | refine sat_need (need_af hzl hvs) ?_)
  refine sat_br (fun hq => ?_) (fun hq => ?_)
  ·have hq : (!chkL f r (tk zs) bl) = true := hq
   rw [tk_eq] at hq
   repeat (first | (first | refine sat_self ?_ | refine sat_nd ?_) | refine sat_need (need_i ha0 ha1) ?_ | refine sat_need (need_i hb0 hb1) ?_ | refine sat_need (need_bd hc2 rfl) ?_ | refine sat_need (need_bdg hc2 rfl) ?_ | refine sat_need (need_bdv hc2 rfl hv4) ?_ | refine sat_need (need_bdv hc2 rfl hvs) ?_ | refine sat_need (need_bdw hc2 hvs) ?_ | refine sat_need (need_af hzl hvs) ?_)
   exact sat_ret (fin_val (.inr rfl) rfl rfl rfl (congrArg V.bool (by
    show decide (((attL f r (tk zs) (sqW (cgL f r (tk zs) bl ca a b pr) 3) (!bl)).length : Int) = 0) = _
    rw [tk_eq]
    simp only [sfL, h, h2, hq, cond_false, Bool.true_and])))
  ·have hq : (!chkL f r (tk zs) bl) = false := hq
   rw [tk_eq] at hq
   exact sat_ret (fin_val (.inr rfl) rfl rfl rfl (congrArg V.bool (by
    show false = _
    simp only [sfL, h, h2, hq, cond_false, Bool.false_and])))
 ·cases e
end Go.Ab

set_option maxRecDepth 100000
set_option maxHeartbeats 4000000
namespace Go.Ab
open Go.Proofs
theorem own_is (p : Int) (bl : Bool) : ownL p bl = isP p bl := by
 unfold ownL isP
 have h : p < 0 ∨ p = 0 ∨ 0 < p := by omega
 rcases h with h | h | h
 ·have h1 : ¬ p = 0 := by omega
  have h2 : ¬ 0 < p := by omega
  cases bl <;> simp [h, h1, h2]
 ·subst h; cases bl <;> rfl
 ·have h1 : ¬ p = 0 := by omega
  have h2 : ¬ p < 0 := by omega
  cases bl <;> simp [h, h1, h2]
theorem bit_eq {ca : Int} (h : 0 ≤ ca ∧ ca ≤ 15) {bit : Int} (hb : bit = 1 ∨ bit = 2 ∨ bit = 4 ∨ bit = 8) : decide ((IntKind.u8.wrap (ca.tdiv bit)).tmod 2 = 1) = !decide (u8and ca bit = 0) := by
 obtain ⟨h1, h2⟩ := h
 have : ca = 0 ∨ ca = 1 ∨ ca = 2 ∨ ca = 3 ∨ ca = 4 ∨ ca = 5 ∨ ca = 6 ∨ ca = 7 ∨ ca = 8 ∨ ca = 9 ∨ ca = 10 ∨ ca = 11 ∨ ca = 12 ∨ ca = 13 ∨ ca = 14 ∨ ca = 15 := by omega
 rcases hb with rfl | rfl | rfl | rfl <;> rcases this with rfl | rfl | rfl | rfl | rfl | rfl | rfl | rfl | rfl | rfl | rfl | rfl | rfl | rfl | rfl | rfl <;> decide
theorem home_rt {f r : Int} {zs : List Int} : (homeB f r zs 1 = !((!is88 f r || !decide (zs.getD 4 0 = ofP 6 false)) || !decide (zs.getD 7 0 = ofP 4 false))) ∧ (homeB f r zs 2 = !((!is88 f r || !decide (zs.getD 4 0 = ofP 6 false)) || !decide (zs.getD 0 0 = ofP 4 false))) ∧ (homeB f r zs 4 = !((!is88 f r || !decide (zs.getD 60 0 = ofP 6 true)) || !decide (zs.getD 63 0 = ofP 4 true))) ∧ (homeB f r zs 8 = !((!is88 f r || !decide (zs.getD 60 0 = ofP 6 true)) || !decide (zs.getD 56 0 = ofP 4 true))) := by
 have e1 : ofP 6 false = 6 := by decide
 have e2 : ofP 4 false = 4 := by decide
 have e3 : ofP 6 true = -6 := by decide
 have e4 : ofP 4 true = -4 := by decide
 rw [e1, e2, e3, e4]
 unfold homeB is88
 cases decide (f = 8) <;> cases decide (r = 8) <;> simp
theorem cast_eq {f r : Int} {zs : List Int} {ca : Int} (h0 : 0 ≤ ca) : castL f r zs ca = castB f r zs ca := by
 unfold castL castB
 rcases Int.lt_or_le 15 ca with h | h
 ·have h2 : ¬ ca < 16 := by omega
  simp [h, h2]
 ·have h2 : ca < 16 := by omega
  have h1 : ¬ 15 < ca := by omega
  obtain ⟨a1, a2, a3, a4⟩ := home_rt (f := f) (r := r) (zs := zs)
  have hx : 0 ≤ ca ∧ ca ≤ 15 := ⟨h0, h⟩
  simp only [rXL, rtX, bit_eq hx (.inl rfl), bit_eq hx (.inr (.inl rfl)), bit_eq hx (.inr (.inr (.inl rfl))), bit_eq hx (.inr (.inr (.inr rfl))), a1, a2, a3, a4, Bool.not_not, decide_eq_true h2, decide_eq_false h1, cond_false, Bool.and_true, Bool.not_or, Bool.not_and]
end Go.Ab

set_option maxRecDepth 100000
namespace Go.Ab
open Go.Proofs
theorem findI_spec (p : Int → Bool) : ∀ (l : List Int) (k : Int), (findI p l k = -1 ∧ ∀ i, i < l.length → p (l.getD i 0) = false) ∨ (∃ j, j < l.length ∧ findI p l k = k + (j : Nat) ∧ p (l.getD j 0) = true ∧ ∀ i, i < j → p (l.getD i 0) = false)
 | [], k => .inl ⟨rfl, fun i h => by simp at h⟩
 | x :: l, k => by
  rw [findI]
  cases hx : p x with
  | true => right; exact ⟨0, by simp, by simp, by simpa using hx, fun i h => by omega⟩
  | false =>
   rw [cond_false]
   rcases findI_spec p l (k + 1) with ⟨h1, h2⟩ | ⟨j, h1, h2, h3, h4⟩
   ·left
    refine ⟨h1, fun i hi => ?_⟩
    cases i with
    | zero => simpa using hx
    | succ i => have := h2 i (by simpa using hi); simpa using this
   ·right
    refine ⟨j + 1, by simpa using h1, by rw [h2]; push_cast; omega, by simpa using h3, fun i hi => ?_⟩
    cases i with
    | zero => simpa using hx
    | succ i => have := h4 i (by omega); simpa using this
theorem filt_none {c : Int → Bool} : ∀ (n : Nat), (∀ i : Nat, i < n → c i = false) → filtB c id n = []
 | 0, _ => rfl
 | n + 1, h => by rw [filtB_succ, h n (by omega), cond_false]; exact filt_none n fun i hi => h i (by omega)
theorem filt_one {c : Int → Bool} {a : Nat} (ha : c a = true) : ∀ (n : Nat), a < n → (∀ i : Nat, i < n → c i = true → i = a) → filtB c id n = [(a : Int)]
 | 0, h, _ => by omega
 | n + 1, h, hu => by
  rw [filtB_succ]
  by_cases e : n = a
  ·subst e
   rw [ha, cond_true, filt_none n fun i hi => ?_]
   ·rfl
   ·cases hc : c i with
    | false => rfl
    | true => have := hu i (by omega) hc; omega
  ·have : c n = false := by
    cases hc : c n with
    | false => rfl
    | true => exact absurd (hu n (by omega) hc) e
   rw [this, cond_false]
   exact filt_one ha n (by omega) fun i hi => hu i (by omega)
theorem kg_eq (bl : Bool) : w8 (IntKind.i64.wrap (6 * sdI bl)) = kgP bl := by cases bl <;> decide
theorem any_drop {zs : List Int} {p : Int → Bool} {k : Nat} : (zs.drop k).any p = true ↔ ∃ i, k ≤ i ∧ i < zs.length ∧ p (zs.getD i 0) = true := by
 rw [List.any_eq_true]
 constructor
 ·rintro ⟨x, hx, hp⟩
  obtain ⟨i, hi, rfl⟩ := List.mem_iff_getElem.1 hx
  rw [List.getElem_drop] at hp
  rw [List.length_drop] at hi
  exact ⟨k + i, by omega, by omega, by simpa [List.getD, show k + i < zs.length by omega] using hp⟩
 ·rintro ⟨i, h1, h2, h3⟩
  refine ⟨zs.getD i 0, ?_, h3⟩
  rw [List.mem_iff_getElem]
  refine ⟨i - k, by rw [List.length_drop]; omega, ?_⟩
  rw [List.getElem_drop]
  simp [List.getD, h2, show k + (i - k) = i by omega]
theorem king_ref (zs : List Int) (bl : Bool) (hl : zs.length ≤ 64) : (kingN zs bl = true ∧ refKing zs bl = -1) ∨ (kingN zs bl = false ∧ refKing zs bl = kingI zs bl ∧ 0 ≤ kingI zs bl ∧ kingI zs bl < zs.length ∧ zs.getD (kingI zs bl).toNat 0 = kgP bl ∧ ∀ i : Nat, i < zs.length → zs.getD i 0 = kgP bl → (i : Int) = kingI zs bl) := by
 unfold refKing kingN
 rw [kg_eq]
 rcases findI_spec (isV (kgP bl)) zs 0 with ⟨h1, h2⟩ | ⟨j, h1, h2, h3, h4⟩
 ·left
  have hn : listL zs (kgP bl) = [] := filt_none _ fun i hi => by
   have := h2 i hi
   simp only [isV, decide_eq_false_iff_not] at this
   simp only [listC, Int.toNat_natCast, decide_eq_false_iff_not]
   exact fun e => this e.symm
  rw [hn]
  refine ⟨?_, rfl⟩
  rw [show kingI zs bl = -1 from h1]; rfl
 ·have hK : kingI zs bl = (j : Int) := by unfold kingI; rw [h2]; omega
  simp only [isV, decide_eq_true_eq] at h3
  rw [hK, show IntKind.i64.wrap ((j : Int) + 1) = ((j + 1 : Nat) : Int) by rw [w64_id (by omega) (by omega)]; omega, Int.toNat_natCast, show decide ((j : Int) < 0) = false by simp, Bool.false_or]
  cases ha : (zs.drop (j + 1)).any (isV (kgP bl)) with
  | true =>
   left
   refine ⟨rfl, ?_⟩
   obtain ⟨i, g1, g2, g3⟩ := any_drop.1 ha
   simp only [isV, decide_eq_true_eq] at g3
   have m1 : (j : Int) ∈ listL zs (kgP bl) := mem_filtB.2 ⟨by omega, by omega, by simp [listC, h3]⟩
   have m2 : (i : Int) ∈ listL zs (kgP bl) := mem_filtB.2 ⟨by omega, by omega, by simp [listC, g3]⟩
   cases hd : decide (((listL zs (kgP bl)).length : Int) = 1) with
   | false => rfl
   | true =>
    have : (listL zs (kgP bl)).length = 1 := by have := of_decide_eq_true hd; omega
    obtain ⟨x, hx⟩ := List.length_eq_one_iff.1 this
    rw [hx] at m1 m2
    simp at m1 m2
    omega
  | false =>
   right
   have hno : ∀ i : Nat, i < zs.length → zs.getD i 0 = kgP bl → i = j := by
    intro i hi he
    rcases Nat.lt_trichotomy i j with g | g | g
    ·have := h4 i g
     simp only [isV, decide_eq_false_iff_not] at this
     exact absurd he.symm this
    ·exact g
    ·have : (zs.drop (j + 1)).any (isV (kgP bl)) = true := any_drop.2 ⟨i, by omega, hi, by simp only [isV, decide_eq_true_eq]; exact he.symm⟩
     rw [ha] at this; cases this
   have hone : listL zs (kgP bl) = [(j : Int)] := filt_one (by simp [listC, h3]) _ h1 fun i hi hc => hno i hi (by simpa [listC] using hc)
   refine ⟨rfl, by rw [hone]; rfl, by omega, by omega, by rw [h3, Int.toNat_natCast], fun i hi he => by rw [hno i hi he]⟩
theorem king_iff {f r : Int} {zs : List Int} {bl : Bool} (h : orthBd f r zs = true) (hl : zs.length ≤ 64) : (refKing zs bl < 0 ∧ kingR f r zs bl = (0, 9)) ∨ (kingR f r zs bl = (refKing zs bl, 0) ∧ validB f r (refKing zs bl) = true ∧ refKing zs bl = kingI zs bl) := by
 rcases king_ref zs bl hl with ⟨h1, h2⟩ | ⟨h1, h2, h3, h4, _⟩
 ·left; exact ⟨by rw [h2]; decide, by unfold kingR; rw [h, h1]; rfl⟩
 ·right; exact ⟨by unfold kingR; rw [h, h1, h2]; rfl, (sq_iff h).2 (by rw [h2]; exact ⟨h3, h4⟩), h2⟩
end Go.Ab

set_option maxRecDepth 100000
namespace Go.Ab
open Go.Proofs
theorem att_zero {f r : Int} {zs : List Int} {to : Int} {bl : Bool} (h : orthBd f r zs = true) (hl : zs.length ≤ 64) (ht : validB f r to = true) : decide (attR f r zs to bl = 0) = decide (((attL f r zs to bl).length : Int) = 0) := by
 obtain ⟨hu, hb⟩ := attR_bt (bl := bl) h hl ht
 rw [decide_eq_decide, uk_eq_0 hu]
 constructor
 ·intro h0
  have : attL f r zs to bl = [] := List.eq_nil_iff_forall_not_mem.2 fun x hx => by
   have hx' := mem_attL.1 hx
   have := h0 x.toNat (by omega)
   rw [hb, show ((x.toNat : Nat) : Int) = x by omega] at this
   simp [hx] at this
  rw [this]; rfl
 ·intro h0 n _
  have : attL f r zs to bl = [] := List.eq_nil_of_length_eq_zero (by omega)
  rw [hb, this]; simp
theorem chk_eq {f r : Int} {zs : List Int} {bl : Bool} (h : orthBd f r zs = true) (hl : zs.length ≤ 64) (hk : (kingR f r zs bl).2 = 0) : chkL f r zs bl = chkB f r zs bl := by
 rcases king_iff (bl := bl) h hl with ⟨_, h2⟩ | ⟨h1, h2, _⟩
 ·rw [h2] at hk; cases hk
 ·unfold chkL chkB checkersR
  rw [h1]
  simp only [decide_true, cond_true]
  rw [att_zero h hl h2]
  have : (0 : Int) ≤ ((attL f r zs (refKing zs bl) (!bl)).length : Int) := Int.natCast_nonneg _
  by_cases h0 : ((attL f r zs (refKing zs bl) (!bl)).length : Int) = 0
  ·simp [h0]
  ·have : 0 < ((attL f r zs (refKing zs bl) (!bl)).length : Int) := by omega
   rw [decide_eq_false h0, decide_eq_true this]; rfl
theorem kings_eq {f r : Int} {zs : List Int} {bl : Bool} (hl : zs.length ≤ 64) : (validBd f r zs && kingsB f r zs bl) = (orthBd f r zs && !decide (refKing zs false < 0) && !decide (refKing zs true < 0) && !chkL f r zs (!bl)) := by
 cases ho : orthBd f r zs with
 | false =>
  have : kingsB f r zs bl = false := by unfold kingsB kingR; rw [ho]; simp
  rw [this]; simp
 | true =>
  have hv := (orth_valid ho).2.2.1
  rw [hv]
  simp only [Bool.true_and]
  have key : ∀ b, decide (refKing zs b < 0) = !decide ((kingR f r zs b).2 = 0) := fun b => by
   rcases king_iff (bl := b) ho hl with ⟨h1, h2⟩ | ⟨h1, h2, _⟩
   ·rw [h2]; simp [h1]
   ·rw [h1]; have := (valid_lt h2).1; simp; omega
  rw [key, key]
  unfold kingsB
  have hch : ∀ b, (checkersR f r zs b).2 = 0 ↔ (kingR f r zs b).2 = 0 := fun b => by
   unfold checkersR
   by_cases h : (kingR f r zs b).2 = 0
   ·simp [h]
   ·simp [h]
  cases hk1 : decide ((kingR f r zs bl).2 = 0) with
  | false => cases bl <;> rw [hk1] <;> simp
  | true =>
   cases hk2 : decide ((kingR f r zs (!bl)).2 = 0) with
   | false =>
    have : decide ((checkersR f r zs (!bl)).2 = 0) = false := by rw [decide_eq_false_iff_not, hch]; exact of_decide_eq_false hk2
    rw [this]
    cases bl <;> simp only [Bool.not_true, Bool.not_false] at hk2 ⊢ <;> rw [hk2] <;> simp
   | true =>
    have h1 : decide ((checkersR f r zs (!bl)).2 = 0) = true := by rw [decide_eq_true_eq, hch]; exact of_decide_eq_true hk2
    rw [h1, chk_eq ho hl (of_decide_eq_true hk2)]
    unfold chkB
    cases bl <;> simp only [Bool.not_true, Bool.not_false] at hk2 ⊢ <;> rw [hk1, hk2] <;> simp
theorem any_getD {zs : List Int} {p : Int → Bool} : zs.any p = true ↔ ∃ i, i < zs.length ∧ p (zs.getD i 0) = true := by
 have := any_drop (zs := zs) (p := p) (k := 0)
 rw [List.drop_zero] at this
 rw [this]; exact ⟨fun ⟨i, _, h⟩ => ⟨i, h⟩, fun ⟨i, h⟩ => ⟨i, by omega, h⟩⟩
theorem any_take {zs : List Int} {p : Int → Bool} {k : Nat} : (zs.take k).any p = true ↔ ∃ i, i < k ∧ i < zs.length ∧ p (zs.getD i 0) = true := by
 rw [any_getD]
 constructor
 ·rintro ⟨i, h1, h2⟩
  rw [List.length_take] at h1
  exact ⟨i, by omega, by omega, by simpa [List.getD, List.getElem?_take, show i < k by omega] using h2⟩
 ·rintro ⟨i, h1, h2, h3⟩
  exact ⟨i, by rw [List.length_take]; omega, by simpa [List.getD, List.getElem?_take, h1] using h3⟩
theorem pawns_eq {f r : Int} {zs : List Int} (h : orthBd f r zs = true) (_hl : zs.length ≤ 64) : pawnsB f zs = !pwAny f r zs := by
 obtain ⟨hv, hn, hbd, hp⟩ := orth_valid h
 have hb := vs_bd hv
 have hpw : ∀ i : Nat, i < zs.length → (pwL f r zs i = true ↔ (zs.getD i 0 = 1 ∧ zs.length - f.toNat ≤ i) ∨ (zs.getD i 0 = -1 ∧ i < f.toNat)) := by
  intro i hi
  have hvi : validB f r (i : Int) = true := (bd_sq hbd).2 ⟨by omega, by omega⟩
  obtain ⟨hd, x0, x1, y0, y1, he, _⟩ := px_bd hvi
  have hpc := piece_bd h (i := (i : Int)) (by omega) (by omega)
  have hl0 : lastR r (decide ((1 : Int) < 0)) = r - 1 := w64_id (by omega) (by omega)
  have hl1 : lastR r (decide ((-1 : Int) < 0)) = 0 := rfl
  have hmul : f * r = (r - 1) * f + f := by rw [Int.sub_mul, Int.mul_comm r f]; omega
  rw [Int.toNat_natCast] at hpc
  unfold pwL
  rw [hd, Int.toNat_natCast, kind_abs hpc]
  simp only [Bool.and_eq_true, decide_eq_true_eq]
  constructor
  ·rintro ⟨h1, h2⟩
   have : zs.getD i 0 = 1 ∨ zs.getD i 0 = -1 := by omega
   rcases this with e | e
   ·left
    rw [e, hl0] at h2
    rw [h2] at he
    exact ⟨e, by omega⟩
   ·right
    rw [e, hl1] at h2
    rw [h2] at he
    exact ⟨e, by omega⟩
  ·rintro (⟨e, h2⟩ | ⟨e, h2⟩)
   ·rw [e, hl0]
    refine ⟨by decide, ?_⟩
    have h5 : ¬ py f i < r - 1 := by
     intro h6
     have : (py f i + 1) * f ≤ (r - 1) * f := Int.mul_le_mul_of_nonneg_right (by omega) (by omega)
     rw [Int.add_mul] at this
     omega
    omega
   ·rw [e, hl1]
    refine ⟨by decide, ?_⟩
    have h5 : ¬ 1 ≤ py f i := by
     intro h6
     have : 1 * f ≤ py f i * f := Int.mul_le_mul_of_nonneg_right h6 (by omega)
     omega
    omega
 have hiff : pwAny f r zs = true ↔ ((zs.drop (zs.length - f.toNat)).any (isV 1) = true ∨ (zs.take f.toNat).any (isV (-1)) = true) := by
  rw [any_drop, any_take]
  unfold pwAny
  rw [List.any_eq_true]
  constructor
  ·rintro ⟨i, hi, hp⟩
   have hi := List.mem_range.1 hi
   rcases (hpw i hi).1 hp with ⟨e, g⟩ | ⟨e, g⟩
   ·left; exact ⟨i, g, hi, by rw [e]; rfl⟩
   ·right; exact ⟨i, g, hi, by rw [e]; rfl⟩
  ·rintro (⟨i, g1, g2, g3⟩ | ⟨i, g1, g2, g3⟩)
   ·simp only [isV, decide_eq_true_eq] at g3
    exact ⟨i, List.mem_range.2 g2, (hpw i g2).2 (.inl ⟨g3.symm, g1⟩)⟩
   ·simp only [isV, decide_eq_true_eq] at g3
    exact ⟨i, List.mem_range.2 g2, (hpw i g2).2 (.inr ⟨g3.symm, g1⟩)⟩
 unfold pawnsB
 cases h1 : (zs.drop (zs.length - f.toNat)).any (isV 1) <;> cases h2 : (zs.take f.toNat).any (isV (-1)) <;> rw [h1, h2] at hiff <;> cases h3 : pwAny f r zs <;> rw [h3] at hiff <;> simp at hiff ⊢
theorem px_up {f r n k : Int} {zs : List Int} (hbd : validBd f r zs = true) (hn : validB f r n = true) (_hk : k = 1 ∨ k = -1) (hb : validB f r (n + k * f) = true) : px f (n + k * f) = px f n ∧ py f (n + k * f) = py f n + k := by
 obtain ⟨_, a1, a2, a3, a4, a5, a6⟩ := px_bd hn
 obtain ⟨_, b1, b2, b3, b4, b5, _⟩ := px_bd hb
 have := hbd
 refine pl_uniq (f := f) (by omega) b1 b2 a1 a2 ?_
 rw [b5, Int.add_mul]; omega
theorem pass_eq {f r : Int} {zs : List Int} {bl : Bool} {pa ha : Int} (hbd : validBd f r zs = true) : pasL f r zs bl pa ha = passB f r zs bl pa ha := by
 unfold pasL passB
 cases h1 : decide (pa = -1) with
 | true => rfl
 | false =>
  rw [cond_false, Bool.false_or]
  by_cases h2 : 6 ≤ r
  ·have e2 : decide (r < 6) = false := by simp; omega
   rw [e2, decide_eq_true h2]
   cases h3 : decide (ha = 0) with
   | false => simp
   | true =>
    cases h4 : validB f r pa with
    | false => simp
    | true =>
     have hv := (bd_valid hbd).1
     have hb := vs_bd hv
     obtain ⟨hd, x0, x1, y0, y1, he, _⟩ := px_bd h4
     have hm : pa.tmod f = px f pa := rfl
     have hr2 : rankR r (!bl) 2 = (bif bl then 1 else r - 2) := by
      unfold rankR; cases bl
      ·exact w64_id (by omega) (by omega)
      ·rfl
     have hr4 : rankR r (!bl) 4 = (bif bl then 3 else r - 4) := by
      unfold rankR; cases bl
      ·exact w64_id (by omega) (by omega)
      ·rfl
     have hk : decide (IntKind.i64.wrap (2 * IntKind.i64.wrap (pa.tdiv f)) = IntKind.i64.wrap (rankR r (!bl) 2 + rankR r (!bl) 4)) = decide (IntKind.i64.wrap (pa.tdiv f) = rkP r bl) := by
      rw [hd, hr2, hr4, decide_eq_decide]
      rw [w64_id (n := 2 * py f pa) (by omega) (by omega)]
      unfold rkP
      cases bl
      ·simp only [cond_false]
       rw [w64_id (by omega) (by omega), w64_id (by omega) (by omega)]; omega
      ·simp only [cond_true]
       rw [w64_id (by omega) (by omega)]; omega
     rw [hk]
     cases h5 : decide (IntKind.i64.wrap (pa.tdiv f) = rkP r bl) with
     | false => simp
     | true =>
      obtain ⟨n1, n2, n3, n4, n5, n6, n7⟩ := pass_near (bl := bl) hbd h2 h4 (of_decide_eq_true h5)
      have hlt := (bd_sq hbd).1 h4
      have hm1 : validB f r (pa + -1 * f) = true := (bd_sq hbd).2 ⟨by omega, by omega⟩
      have hp1 : validB f r (pa + 1 * f) = true := (bd_sq hbd).2 ⟨by omega, by omega⟩
      have hy : py f pa = (bif bl then 2 else r - 3) := by
       have := of_decide_eq_true h5
       rw [hd] at this
       rw [this]; unfold rkP; cases bl
       ·exact w64_id (by omega) (by omega)
       ·rfl
      have hnum : ∀ {k R : Int}, (k = 1 ∨ k = -1) → R = py f pa + k → validB f r (pa + k * f) = true → numR f r (pa.tmod f) R = pa + k * f := by
       intro k R hk hR hvk
       obtain ⟨p1, p2⟩ := px_up hbd h4 hk hvk
       have ho : onB f r (pa.tmod f) R = true := by
        obtain ⟨_, _, _, q3, q4, _⟩ := px_bd hvk
        rw [p2, ← hR] at q3 q4
        exact on_mk (by rw [hm]; exact x0) (by rw [hm]; exact x1) q3 q4
       exact (num_iff hv ho hvk).2 ⟨by rw [p1, hm], by rw [p2, hR]⟩
      have hpc : pieceR 1 (!bl) = ofP 1 (!bl) := rfl
      rw [hr2, hr4, hpc]
      cases bl
      ·simp only [cond_false] at hy ⊢
       have q1 := hnum (k := 1) (R := r - 2) (.inl rfl) (by omega) hp1
       have q2 := hnum (k := -1) (R := r - 4) (.inr rfl) (by omega) hm1
       simp only [q1, q2, upP, cond_false, n5, n6, n7]
       have z1 : pa + 1 * f = pa + f := by omega
       have z2 : pa + -1 * f = pa - f := by omega
       simp only [z1, z2]
       simp [Bool.and_assoc]
      ·simp only [cond_true] at hy ⊢
       have q1 := hnum (k := -1) (R := 1) (.inr rfl) (by omega) hm1
       have q2 := hnum (k := 1) (R := 3) (.inl rfl) (by omega) hp1
       simp only [q1, q2, upP, cond_true, n3, n4]
       have z1 : pa + 1 * f = pa + f := by omega
       have z2 : pa + -1 * f = pa - f := by omega
       simp only [z1, z2]
       simp [Bool.and_assoc]
  ·have e2 : decide (r < 6) = true := by simp; omega
   rw [e2, decide_eq_false h2]; simp
theorem psn_valid {p : Psn} (hl : p.zs.length ≤ 64) (hca : 0 ≤ p.ca) : validL p = p.ok := by
 have hk := kings_eq (f := p.f) (r := p.r) (bl := p.bl) hl
 unfold validL Psn.ok
 cases ho : orthBd p.f p.r p.zs with
 | false =>
  rw [ho] at hk
  rw [hk]; simp
 | true =>
  rw [ho] at hk
  rw [hk, pawns_eq ho hl, cast_eq hca, pass_eq (orth_valid ho).2.2.1]
  cases decide (refKing p.zs false < 0) <;> cases decide (refKing p.zs true < 0) <;> cases chkL p.f p.r p.zs (!p.bl) <;> cases pwAny p.f p.r p.zs <;> simp [cntB, Bool.and_assoc]
end Go.Ab

set_option maxRecDepth 100000
namespace Go.Ab
open Go.Proofs
theorem betw_bt {f r : Int} {x K : Int} (hx : validB f r x = true) (hK : validB f r K = true) (hl : (lineR f x K).2.2 = true) : Uk (betwR f r x K).1 ∧ ∀ m : Nat, bt (betwR f r x K).1 m = decide ((m : Int) ∈ betwL f r x K) := by
 rw [(betw_set hx hK hl).2]
 obtain ⟨h1, h2⟩ := ofL_bt (betwL f r x K) 0 (fun y hy => ⟨(valid_lt ((betwL_bd hx).2 y hy)).1, (valid_lt ((betwL_bd hx).2 y hy)).2.2⟩) uk_0
 exact ⟨h1, fun m => by rw [h2, bt_0, Bool.false_or]⟩
theorem orth_set {f r : Int} {zs : List Int} {j v : Int} (h : orthBd f r zs = true) (hv : -6 ≤ v ∧ v ≤ 6) : orthBd f r (zs.set j.toNat v) = true := by
 simp only [orthBd, validBd, Bool.and_eq_true, Bool.not_eq_true', List.any_eq_false] at h ⊢
 rw [List.length_set]
 refine ⟨⟨h.1.1, fun p hp => ?_⟩, fun p hp => ?_⟩
 ·rcases List.mem_or_eq_of_mem_set hp with hp | rfl
  ·exact h.1.2 p hp
  ·simp [badP, okP]; omega
 ·rcases List.mem_or_eq_of_mem_set hp with hp | rfl
  ·exact h.2 p hp
  ·simp [norP, orP]; omega
end Go.Ab

set_option maxRecDepth 100000
namespace Go.Ab
open Go.Proofs
theorem w8_in {n : Int} (h1 : -128 ≤ n) (h2 : n ≤ 127) : w8 n = n := by
 show IntKind.wrap .i8 n = n
 unfold IntKind.wrap IntKind.bits IntKind.signed
 simp only [Bool.true_and, decide_eq_true_eq]
 split <;> omega
theorem abs_kind {f r : Int} {zs : List Int} (h : orthBd f r zs = true) {i : Int} (h0 : 0 ≤ i) (h1 : i < zs.length) : absP (zs.getD i.toNat 0) = kind8 (zs.getD i.toNat 0) := by
 have hp := piece_bd h h0 h1
 have hw : w8 (0 - zs.getD i.toNat 0) = 0 - zs.getD i.toNat 0 := w8_in (by omega) (by omega)
 rw [kind_abs hp]
 unfold absP imax
 rw [hw]
 by_cases hn : zs.getD i.toNat 0 < 0 - zs.getD i.toNat 0
 ·simp only [hn, decide_true, cond_true]; omega
 ·simp only [hn, decide_false, cond_false]; omega
theorem kinds_of {f r : Int} {zs : List Int} {bl : Bool} (h : orthBd f r zs = true) {i : Int} (h0 : 0 ≤ i) (h1 : i < zs.length) (hp : isP (zs.getD i.toNat 0) bl = true) (hk : ¬ kind8 (zs.getD i.toNat 0) = 1) : kinds5 (kind8 (zs.getD i.toNat 0)) := by
 have hb := piece_bd h h0 h1
 have hz := isP_nz hp
 rw [kind_abs hb] at hk ⊢
 unfold kinds5
 omega
theorem goes_eq {f r : Int} {zs : List Int} {bl : Bool} {_ca pa a b pr : Int} (h : orthBd f r zs = true) (hl : zs.length ≤ 64) (ha : validB f r a = true) (hb : validB f r b = true) (hp : isP (zs.getD a.toNat 0) bl = true) :
  goesB f r zs bl pa a b pr = bif decide (kind8 (zs.getD a.toNat 0) = 1) then pnL f r zs bl pa a b pr else decide (pr = 0) && reachesB f r (kind8 (zs.getD a.toNat 0)) a b (occL zs) := by
 have hbd := (orth_valid h).2.2.1
 obtain ⟨ha0, ha1⟩ := (bd_sq hbd).1 ha
 obtain ⟨hb0, hb1⟩ := (bd_sq hbd).1 hb
 have hb64 : b < 64 := by omega
 obtain ⟨hou, _⟩ := occ_bt hbd hl
 have hray : rayOn f r a (occR f r zs) = true := (rayOn_iff hou).2 ⟨ha, occ_on h hl⟩
 unfold goesB
 rw [abs_kind h ha0 ha1, occ_eq hbd hl]
 cases hk : decide (kind8 (zs.getD a.toNat 0) = 1) with
 | false =>
  obtain ⟨r1, _, r3⟩ := reach_bt hray hou (kinds_of h ha0 ha1 hp (of_decide_eq_false hk))
  simp only [Bool.not_false, cond_true, cond_false]
  have r1 : Uk (reachR f r (kind8 (zs.getD a.toNat 0)) a (occR f r zs)).1 := r1
  rw [bit_of r1 hb0 hb64]
  congr 1
  exact r3 b hb
 | true =>
  simp only [Bool.not_true, cond_true, cond_false]
  obtain ⟨_, s1, _, s2⟩ := steps_bt (bl := bl) hray hou
  obtain ⟨_, p1, _, p2⟩ := pawn_bt (bl := bl) ha
  have hu : Uk (bif decide (zs.getD b.toNat 0 = 0) && !decide (b = pa) then 0 else (pawnR f r bl a).1) := by
   cases (decide (zs.getD b.toNat 0 = 0) && !decide (b = pa))
   ·exact p1
   ·exact uk_0
  rw [bit_of (uk_or _ _) hb0 hb64, bt_or s1 hu, s2 b hb]
  have hpb : bt (bif decide (zs.getD b.toNat 0 = 0) && !decide (b = pa) then 0 else (pawnR f r bl a).1) b.toNat = (pawnC f bl a b && (!decide (zs.getD b.toNat 0 = 0) || decide (b = pa))) := by
   cases h1 : decide (zs.getD b.toNat 0 = 0) <;> cases h2 : decide (b = pa) <;> simp [p2 b hb, bt_0]
  rw [hpb]
  have hv := (bd_valid hbd).1
  have hin : ∀ c : Int → Bool, hasL b (filtB c id (f * r).toNat) = c b := fun c => by
   rw [Bool.eq_iff_iff, has_mem, mem_filtB]
   have := valid_lt hb
   exact ⟨fun h => h.2.2, fun h => ⟨hb0, by omega, h⟩⟩
  unfold pnL
  rw [hin, hin, occ_eq hbd hl]
  have hlast : lastP r bl = lastR r bl := rfl
  rw [hlast]
  cases decide (IntKind.i64.wrap (b.tdiv f) = lastR r bl) <;> cases decide (pr = 0) <;> cases stepsB f r bl a (occR f r zs) b <;> cases pawnC f bl a b <;> simp
theorem empty_eq {zs : List Int} {x K : Int} (hbd : validBd 8 8 zs = true) (hl : zs.length ≤ 64) (hx : validB 8 8 x = true) (hK : validB 8 8 K = true) (hln : (lineR 8 x K).2.2 = true) : emptyB zs (betwL 8 8 x K) = decide (uand (betwR 8 8 x K).1 (occR 8 8 zs) = 0) := by
 obtain ⟨bu, bb⟩ := betw_bt hx hK hln
 obtain ⟨ou, ob⟩ := occ_bt hbd hl
 have h64 := bd_88 hbd rfl
 rw [Bool.eq_iff_iff, decide_eq_true_eq, uk_eq_0 (uk_and _ _)]
 unfold emptyB
 rw [List.all_eq_true]
 constructor
 ·intro h n hn
  rw [bt_and bu ou, bb, ob]
  by_cases hm : (n : Int) ∈ betwL 8 8 x K
  ·have := of_decide_eq_true (h _ hm)
   rw [Int.toNat_natCast] at this
   rw [this]; simp
  ·simp [hm]
 ·intro h i hi
  have hb : 0 ≤ i ∧ i < 64 := by
   have hv : validB 8 8 i = true := by
    unfold betwL at hi
    cases hh : hasL K (betwZ 8 8 x K) with
    | true => rw [hh] at hi; exact ray_valid hx (List.mem_of_mem_take hi)
    | false => rw [hh] at hi; simp at hi
   exact ⟨(valid_lt hv).1, (valid_lt hv).2.2⟩
  have := h i.toNat (by omega)
  rw [bt_and bu ou, bb, ob, show ((i.toNat : Nat) : Int) = i by omega] at this
  simp only [hi, decide_true, Bool.true_and, Bool.and_eq_false_iff, decide_eq_false_iff_not, Bool.not_eq_false'] at this
  rcases this with this | this
  ·omega
  ·exact this
theorem sq01 : sqW 1 0 = 4 ∧ sqW 1 1 = 6 ∧ sqW 2 0 = 4 ∧ sqW 2 1 = 2 ∧ sqW 4 0 = 60 ∧ sqW 4 1 = 62 ∧ sqW 8 0 = 60 ∧ sqW 8 1 = 58 := ⟨by kernel_rfl, by kernel_rfl, by kernel_rfl, by kernel_rfl, by kernel_rfl, by kernel_rfl, by kernel_rfl, by kernel_rfl⟩
theorem sk_iff {bl : Bool} {ca a b : Int} {c : Bool} {bit k to : Int} : (!csSkip bl ca a b c bit k to) = true ↔ c = bl ∧ u8and ca bit ≠ 0 ∧ k = a ∧ to = b := by
 unfold csSkip
 cases c <;> cases bl <;> simp [and_assoc]
theorem right_88 {f r : Int} {zs : List Int} {ca bit : Int} {k q : Nat} {c : Bool} (h : rtX f r zs ca bit k q c = false) (hr : u8and ca bit ≠ 0) : f = 8 ∧ r = 8 ∧ zs.getD k 0 = ofP 6 c ∧ zs.getD q 0 = ofP 4 c := by
 unfold rtX at h
 rw [decide_eq_false hr] at h
 simp only [Bool.not_false, Bool.true_and, Bool.or_eq_false_iff, Bool.not_eq_false', is88, Bool.and_eq_true, decide_eq_true_eq] at h
 exact ⟨h.1.1.1, h.1.1.2, h.1.2, h.2⟩
theorem cgS_N {f r : Int} {zs : List Int} {bl : Bool} {ca a b bit k to cor : Int} {c : Bool} (hca : 0 ≤ ca ∧ ca ≤ 15) (hb : bit = 1 ∨ bit = 2 ∨ bit = 4 ∨ bit = 8) (hc : decide (2 < bit) = c) (h0 : sqW bit 0 = k) (h1 : sqW bit 1 = to) (h2 : sqW bit 2 = cor) :
  cgS f r zs bl ca a b bit = (!csSkip bl ca a b c bit k to && emptyB zs (betwL f r k cor)) := by
 unfold cgS csSkip
 rw [bit_eq hca hb, hc, h0, h1, h2]
 have e1 : decide (a = k) = decide (k = a) := by rw [decide_eq_decide]; exact eq_comm
 have e2 : decide (b = to) = decide (to = b) := by rw [decide_eq_decide]; exact eq_comm
 rw [e1, e2]
 cases decide (u8and ca bit = 0) <;> cases c <;> cases bl <;> cases decide (k = a) <;> cases decide (to = b) <;> rfl
theorem way_cg {f r : Int} {zs : List Int} {bl : Bool} {ca a b pr : Int} (h : orthBd f r zs = true) (hl : zs.length ≤ 64) (hcas : castB f r zs ca = true) (hca : 0 ≤ ca) (ha0 : 0 ≤ a) (ha1 : a < zs.length) :
  (!decide (cgL f r zs bl ca a b pr = 0)) = (decide (pr = 0) && wayB f r zs (wayN zs bl ca a b)) ∧
   ((!decide (cgL f r zs bl ca a b pr = 0)) = true → sqW (cgL f r zs bl ca a b pr) 2 = wCor (wayN zs bl ca a b) ∧ sqW (cgL f r zs bl ca a b pr) 3 = wCro (wayN zs bl ca a b) ∧ kind8 (zs.getD a.toNat 0) = 6) := by
 have hbd := (orth_valid h).2.2.1
 simp only [castB, Bool.and_eq_true, Bool.not_eq_true', decide_eq_true_eq] at hcas
 obtain ⟨⟨⟨⟨c1, c2⟩, c3⟩, c4⟩, c5⟩ := hcas
 obtain ⟨q1, q2, q3, q4, q5, q6, q7, q8⟩ := sqs
 obtain ⟨p1, p2, p3, p4, p5, p6, p7, p8⟩ := sq01
 have hx : 0 ≤ ca ∧ ca ≤ 15 := ⟨hca, by omega⟩
 have g1 : cgS f r zs bl ca a b 1 = _ := cgS_N (c := false) hx (.inl rfl) rfl p1 p2 q1
 have g2 : cgS f r zs bl ca a b 2 = _ := cgS_N (c := false) hx (.inr (.inl rfl)) rfl p3 p4 q3
 have g3 : cgS f r zs bl ca a b 4 = _ := cgS_N (c := true) hx (.inr (.inr (.inl rfl))) rfl p5 p6 q5
 have g4 : cgS f r zs bl ca a b 8 = _ := cgS_N (c := true) hx (.inr (.inr (.inr rfl))) rfl p7 p8 q7
 unfold cgL wayN
 rw [abs_kind h ha0 ha1]
 cases hK : decide (kind8 (zs.getD a.toNat 0) = 6) with
 | false => simp [wayB]
 | true =>
  cases hp : decide (pr = 0) with
  | false => simp
  | true =>
   have hk6 := of_decide_eq_true hK
   rw [g1, g2, g3, g4]
   have key : ∀ {bit k to cor : Int} {kn qn : Nat} {c : Bool}, rtX f r zs ca bit kn qn c = false → (!csSkip bl ca a b c bit k to) = true → validB 8 8 k = true → validB 8 8 cor = true → (lineR 8 k cor).2.2 = true →
     emptyB zs (betwL f r k cor) = decide (uand (betwR f r k cor).1 (occR f r zs) = 0) := by
    intro bit k to cor kn qn c hr hs hk hc hln
    obtain ⟨_, hu, _, _⟩ := sk_iff.1 hs
    obtain ⟨rfl, rfl, _⟩ := right_88 hr hu
    exact empty_eq hbd hl hk hc hln
   cases n1 : (!csSkip bl ca a b false 1 4 6) with
   | true =>
    obtain ⟨rfl, _, rfl, rfl⟩ := sk_iff.1 n1
    have k1 := key c1 n1 (cor := 7) (by decide) (by decide) (by decide)
    have n2 : (!csSkip false ca 4 6 false 2 4 2) = false := by rw [Bool.eq_false_iff]; exact fun hh => by have := (sk_iff.1 hh).2.2.2; omega
    have n3 : (!csSkip false ca 4 6 true 4 60 62) = false := by rw [Bool.eq_false_iff]; exact fun hh => by have := (sk_iff.1 hh).1; cases this
    have n4 : (!csSkip false ca 4 6 true 8 60 58) = false := by rw [Bool.eq_false_iff]; exact fun hh => by have := (sk_iff.1 hh).1; cases this
    rw [n2, n3, n4, k1]
    have hw : wayB f r zs 0 = decide (uand (betwR f r 4 7).1 (occR f r zs) = 0) := rfl
    simp only [Bool.not_true, Bool.or_self, cond_false, cond_true, Bool.true_and, Bool.false_and, hw]
    cases decide (uand (betwR f r 4 7).1 (occR f r zs) = 0)
    ·simp
    ·exact ⟨rfl, fun _ => ⟨q1, q2, hk6⟩⟩
   | false =>
    cases n2 : (!csSkip bl ca a b false 2 4 2) with
    | true =>
     obtain ⟨rfl, _, rfl, rfl⟩ := sk_iff.1 n2
     have k1 := key c2 n2 (cor := 0) (by decide) (by decide) (by decide)
     have n3 : (!csSkip false ca 4 2 true 4 60 62) = false := by rw [Bool.eq_false_iff]; exact fun hh => by have := (sk_iff.1 hh).1; cases this
     have n4 : (!csSkip false ca 4 2 true 8 60 58) = false := by rw [Bool.eq_false_iff]; exact fun hh => by have := (sk_iff.1 hh).1; cases this
     rw [n3, n4, k1]
     have hw : wayB f r zs 1 = decide (uand (betwR f r 4 0).1 (occR f r zs) = 0) := rfl
     simp only [Bool.not_true, Bool.or_self, cond_false, cond_true, Bool.true_and, Bool.false_and, hw]
     cases decide (uand (betwR f r 4 0).1 (occR f r zs) = 0)
     ·simp
     ·exact ⟨rfl, fun _ => ⟨q3, q4, hk6⟩⟩
    | false =>
     cases n3 : (!csSkip bl ca a b true 4 60 62) with
     | true =>
      obtain ⟨rfl, _, rfl, rfl⟩ := sk_iff.1 n3
      have k1 := key c3 n3 (cor := 63) (by decide) (by decide) (by decide)
      have n4 : (!csSkip true ca 60 62 true 8 60 58) = false := by rw [Bool.eq_false_iff]; exact fun hh => by have := (sk_iff.1 hh).2.2.2; omega
      rw [n4, k1]
      have hw : wayB f r zs 2 = decide (uand (betwR f r 60 63).1 (occR f r zs) = 0) := rfl
      simp only [Bool.not_true, Bool.or_self, cond_false, cond_true, Bool.true_and, Bool.false_and, hw]
      cases decide (uand (betwR f r 60 63).1 (occR f r zs) = 0)
      ·simp
      ·exact ⟨rfl, fun _ => ⟨q5, q6, hk6⟩⟩
     | false =>
      cases n4 : (!csSkip bl ca a b true 8 60 58) with
      | true =>
       obtain ⟨rfl, _, rfl, rfl⟩ := sk_iff.1 n4
       have k1 := key c4 n4 (cor := 56) (by decide) (by decide) (by decide)
       rw [k1]
       have hw : wayB f r zs 3 = decide (uand (betwR f r 60 56).1 (occR f r zs) = 0) := rfl
       simp only [Bool.not_true, Bool.or_self, cond_false, cond_true, Bool.true_and, Bool.false_and, hw]
       cases decide (uand (betwR f r 60 56).1 (occR f r zs) = 0)
       ·simp
       ·exact ⟨rfl, fun _ => ⟨q7, q8, hk6⟩⟩
      | false => simp [wayB]
theorem so_eq {p : Psn} {m : Mov} (h : orthBd p.f p.r p.zs = true) (hl : p.zs.length ≤ 64) (hcas : castB p.f p.r p.zs p.ca = true) (hca : 0 ≤ p.ca) (ha : validB p.f p.r m.a = true) (hb : validB p.f p.r m.b = true) (hp : isP (p.zs.getD m.a.toNat 0) p.bl = true) :
  soL p.f p.r p.zs p.bl p.ca p.pa m.a m.b m.p = !err3 p m := by
 have hbd := (orth_valid h).2.2.1
 obtain ⟨ha0, ha1⟩ := (bd_sq hbd).1 ha
 unfold soL err3
 rw [own_is, goes_eq (_ca := p.ca) h hl ha hb hp]
 cases isP (p.zs.getD m.b.toNat 0) p.bl with
 | true => rfl
 | false =>
  obtain ⟨w1, _⟩ := way_cg (bl := p.bl) (b := m.b) (pr := m.p) h hl hcas hca ha0 ha1
  rw [w1]
  cases hk : decide (kind8 (p.zs.getD m.a.toNat 0) = 1) with
  | true =>
   have : wayN p.zs p.bl p.ca m.a m.b = 4 := by
    unfold wayN
    rw [abs_kind h ha0 ha1, of_decide_eq_true hk]; rfl
   rw [this]
   simp [wayB]
  | false =>
   cases decide (m.p = 0) <;> cases wayB p.f p.r p.zs (wayN p.zs p.bl p.ca m.a m.b) <;> simp
end Go.Ab

set_option maxRecDepth 100000
namespace Go.Ab
open Go.Proofs
theorem pc_w {f r a b : Int} (ha : validB f r a = true) (hb : validB f r b = true) : IntKind.i64.wrap (IntKind.i64.wrap (b.tdiv f) - IntKind.i64.wrap (a.tdiv f)) = py f b - py f a := (diff_w ha hb).2
theorem own_pass {n : Int} {bl : Bool} (h : isP n bl = true) (h2 : n = ofP 1 (!bl)) : False := by
 subst h2
 cases bl <;> revert h <;> decide
theorem isP_other {n : Int} {bl : Bool} (hz : n ≠ 0) (h : isP n bl = false) : isP n (!bl) = true := by
 unfold isP at h ⊢
 rcases Int.lt_or_gt_of_ne hz with h3 | h3
 ·have h4 : ¬ 0 < n := by omega
  cases bl <;> simp [h3, h4] at h ⊢
 ·have h4 : ¬ n < 0 := by omega
  cases bl <;> simp [h3, h4] at h ⊢ <;> omega
structure MvOk (p : Psn) (m : Mov) : Prop where
 h : orthBd p.f p.r p.zs = true
 hl : p.zs.length ≤ 64
 ok : p.ok = true
 ca : 0 ≤ p.ca
 ha : validB p.f p.r m.a = true
 hb : validB p.f p.r m.b = true
 hab : m.a ≠ m.b
 hpr : m.p = 0 ∨ (2 ≤ m.p ∧ m.p ≤ 5)
 hp : isP (p.zs.getD m.a.toNat 0) p.bl = true
 so : err3 p m = false
section
variable {p : Psn} {m : Mov}
theorem MvOk.bd (o : MvOk p m) : validBd p.f p.r p.zs = true := (orth_valid o.h).2.2.1
theorem MvOk.cast (o : MvOk p m) : castB p.f p.r p.zs p.ca = true := by have := o.ok; simp only [Psn.ok, Bool.and_eq_true] at this; exact this.1.1.2
theorem MvOk.pass (o : MvOk p m) : passB p.f p.r p.zs p.bl p.pa p.ha = true := by have := o.ok; simp only [Psn.ok, Bool.and_eq_true] at this; exact this.1.2
theorem MvOk.kings (o : MvOk p m) : kingsB p.f p.r p.zs p.bl = true := by have := o.ok; simp only [Psn.ok, Bool.and_eq_true] at this; exact this.1.1.1.1.2
theorem MvOk.nto (o : MvOk p m) : isP (p.zs.getD m.b.toNat 0) p.bl = false := by have := o.so; simp only [err3, Bool.or_eq_false_iff] at this; exact this.1
theorem MvOk.sq (o : MvOk p m) : (0 ≤ m.a ∧ m.a < p.zs.length) ∧ (0 ≤ m.b ∧ m.b < p.zs.length) := ⟨(bd_sq o.bd).1 o.ha, (bd_sq o.bd).1 o.hb⟩
theorem MvOk.kd (o : MvOk p m) : absP (p.zs.getD m.a.toNat 0) = kind8 (p.zs.getD m.a.toNat 0) := abs_kind o.h o.sq.1.1 o.sq.1.2
theorem MvOk.pawn (o : MvOk p m) (hk : kind8 (p.zs.getD m.a.toNat 0) = 1) : pnL p.f p.r p.zs p.bl p.pa m.a m.b m.p = true := by
 have := o.so
 have hw : wayN p.zs p.bl p.ca m.a m.b = 4 := by unfold wayN; rw [o.kd, hk]; rfl
 simp only [err3, hw, Bool.or_eq_false_iff] at this
 have hg := goes_eq (bl := p.bl) (_ca := p.ca) (pa := p.pa) (pr := m.p) o.h o.hl o.ha o.hb o.hp
 rw [hk] at hg
 rw [hg] at this
 simp only [decide_true, cond_true] at this
 have h2 := this.2
 cases hpn : pnL p.f p.r p.zs p.bl p.pa m.a m.b m.p with
 | true => rfl
 | false => rw [hpn] at h2; simp [wayB] at h2
theorem MvOk.steps (o : MvOk p m) (hk : kind8 (p.zs.getD m.a.toNat 0) = 1) :
  (stepsB p.f p.r p.bl m.a (occR p.f p.r p.zs) m.b = true ∨ (pawnC p.f p.bl m.a m.b = true ∧ (p.zs.getD m.b.toNat 0 ≠ 0 ∨ m.b = p.pa))) ∧ (m.p ≠ 0 ↔ py p.f m.b = lastR p.r p.bl) := by
 have h := o.pawn hk
 have hin : ∀ c : Int → Bool, hasL m.b (filtB c id (p.f * p.r).toNat) = c m.b := fun c => by
  rw [Bool.eq_iff_iff, has_mem, mem_filtB]
  have := valid_lt o.hb
  exact ⟨fun h => h.2.2, fun h => ⟨this.1, by omega, h⟩⟩
 unfold pnL at h
 rw [hin, hin, occ_eq o.bd o.hl] at h
 rw [(px_bd o.hb).1] at h
 cases h1 : (!(decide (py p.f m.b = lastR p.r p.bl) == !decide (m.p = 0))) with
 | true => rw [h1] at h; cases h
 | false =>
  rw [h1, cond_false] at h
  refine ⟨?_, ?_⟩
  ·cases h2 : stepsB p.f p.r p.bl m.a (occR p.f p.r p.zs) m.b with
   | true => exact .inl rfl
   | false =>
    rw [h2, cond_false, Bool.and_eq_true, Bool.or_eq_true, decide_eq_true_eq, Bool.not_eq_true', decide_eq_false_iff_not] at h
    exact .inr h
  ·by_cases h3 : py p.f m.b = lastR p.r p.bl <;> by_cases h4 : m.p = 0 <;> simp [h3, h4] at h1 ⊢
theorem fwd_2 (bl : Bool) : IntKind.i64.wrap (2 * fwd bl) = 2 * fwd bl := by cases bl <;> decide
theorem step_sq {f r a b : Int} {bl : Bool} {occ : Int} (ha : validB f r a = true) (hb : validB f r b = true) (h : stepsB f r bl a occ b = true) :
  px f b = px f a ∧ ((py f b = py f a + fwd bl) ∨ (py f b = py f a + 2 * fwd bl ∧ py f a = secR r bl ∧ 6 ≤ r ∧ validB f r (b - fwd bl * f) = true ∧ hasB occ (b - fwd bl * f) = false)) := by
 have hv := (valid_vs ha)
 obtain ⟨a0, a1, a2, a3, a4, a5, a6⟩ := px_bd ha
 obtain ⟨_, b1, b2, b3, b4, b5, _⟩ := px_bd hb
 have hfw : fwd bl = 1 ∨ fwd bl = -1 := by cases bl <;> simp [fwd]
 have hone : one4 f r bl a = numR f r (px f a) (py f a + fwd bl) := by unfold one4; rw [a0, w64_id (by omega) (by omega)]
 have htwo : two4 f r bl a = numR f r (px f a) (py f a + 2 * fwd bl) := by unfold two4; rw [a0, fwd_2, w64_id (by omega) (by omega)]
 simp only [stepsB, Bool.or_eq_true, Bool.and_eq_true, decide_eq_true_eq, Bool.not_eq_true'] at h
 rw [hone, htwo, a0] at h
 have hbn : ∀ {X Y : Int}, b = numR f r X Y → px f b = X ∧ py f b = Y := by
  intro X Y e
  rcases num_cases f r X Y hv with ⟨ho, _⟩ | ⟨_, hn⟩
  ·exact (num_iff hv ho hb).1 e.symm
  ·have := (valid_lt hb).1; omega
 rcases h with ⟨h1, _⟩ | ⟨⟨⟨⟨h1, h2⟩, h3⟩, h4⟩, _⟩
 ·obtain ⟨e1, e2⟩ := hbn h1
  exact ⟨e1, .inl e2⟩
 ·obtain ⟨e1, e2⟩ := hbn h1
  refine ⟨e1, .inr ⟨e2, h3, h2, ?_⟩⟩
  have ho : onB f r (px f a) (py f a + fwd bl) = true := on_mk a1 a2 (by omega) (by omega)
  obtain ⟨v1, v2, v3⟩ := on_valid hv ho
  have heq : px f a + (py f a + fwd bl) * f = b - fwd bl * f := by
   rw [← b5, e1, e2]
   rw [Int.add_mul, Int.add_mul, Int.mul_assoc]; omega
  rw [heq] at v1 v2 v3
  exact ⟨v1, by rw [← (num_iff hv ho v1).2 ⟨v2, v3⟩]; exact h4⟩
theorem MvOk.ep (o : MvOk p m) (hk : kind8 (p.zs.getD m.a.toNat 0) = 1) (hb : m.b = p.pa) :
  at1R p.f p.zs p.pa m.a m.b = m.b - fwd p.bl * p.f ∧ validB p.f p.r (m.b - fwd p.bl * p.f) = true ∧ p.zs.getD (m.b - fwd p.bl * p.f).toNat 0 = ofP 1 (!p.bl) ∧ numR p.f p.r (m.b.tmod p.f) (IntKind.i64.wrap (m.a.tdiv p.f)) = m.b - fwd p.bl * p.f ∧ p.zs.getD m.b.toNat 0 = 0 ∧ pawnC p.f p.bl m.a m.b = true := by
 have hbd := o.bd
 have hv := (bd_valid hbd).1
 obtain ⟨a0, a1, a2, a3, a4, a5, a6⟩ := px_bd o.ha
 obtain ⟨b0, b1, b2, b3, b4, b5, _⟩ := px_bd o.hb
 have hps := o.pass
 have hb0 := (valid_lt o.hb).1
 simp only [passB, Bool.or_eq_true, Bool.and_eq_true, decide_eq_true_eq, ← hb] at hps
 rcases hps with hps | ⟨⟨⟨⟨⟨⟨p1, p2⟩, p3⟩, p4⟩, p5⟩, p6⟩, p7⟩
 ·omega
 obtain ⟨n1, n2, n3, n4, n5, n6, n7⟩ := pass_near (bl := p.bl) hbd p1 o.hb p4
 have hfw : fwd p.bl = 1 ∨ fwd p.bl = -1 := by cases p.bl <;> simp [fwd]
 have hup : IntKind.i64.wrap (m.b + upP p.f p.bl) = m.b - fwd p.bl * p.f := by
  cases hbl : p.bl
  ·simp only [upP, fwd, cond_false, n5, n7]; omega
  ·simp only [upP, fwd, cond_true, n4]; omega
 rw [hup] at p7
 have hvd : validB p.f p.r (m.b - fwd p.bl * p.f) = true := by
  refine (bd_sq hbd).2 ?_
  rcases hfw with e | e <;> rw [e] <;> constructor <;> omega
 have hat : pawnC p.f p.bl m.a m.b = true := by
  rcases (o.steps hk).1 with h | h
  ·exfalso
   obtain ⟨e1, h2⟩ := step_sq o.ha o.hb h
   rcases h2 with e2 | ⟨_, _, _, _, h5⟩
   ·have : m.b - fwd p.bl * p.f = m.a := by rw [← b5, ← a5, e1, e2, Int.add_mul]; omega
    rw [this] at p7
    exact own_pass o.hp p7
   ·obtain ⟨hou, hob⟩ := occ_bt hbd o.hl
    rw [has_bt' hou hvd, hob, p7] at h5
    have hlt := (bd_sq hbd).1 hvd
    rw [decide_eq_true (show (m.b - fwd p.bl * p.f).toNat < p.zs.length by omega), decide_eq_false (show ¬ ofP 1 (!p.bl) = 0 by cases p.bl <;> decide)] at h5
    cases h5
  ·exact h.1
 have hpy : py p.f m.b = py p.f m.a + fwd p.bl := by
  have := hat
  simp only [pawnC, Bool.and_eq_true, decide_eq_true_eq] at this
  rw [pc_w o.ha o.hb] at this
  omega
 have hsq : px p.f m.b + py p.f m.a * p.f = m.b - fwd p.bl * p.f := by
  have : py p.f m.b * p.f = py p.f m.a * p.f + fwd p.bl * p.f := by rw [hpy, Int.add_mul]
  omega
 have hlt := (valid_lt hvd)
 refine ⟨?_, hvd, p7, ?_, p5, hat⟩
 ·have hepB : epB p.zs p.pa m.a m.b = true := by simp only [epB, o.kd, hk, hb, decide_true, Bool.and_self]
  unfold at1R
  rw [hepB, cond_true]
  have e1 : m.a.tmod p.f = px p.f m.a := rfl
  have e2 : m.b.tmod p.f = px p.f m.b := rfl
  rw [e1, e2]
  have hla := valid_lt o.ha
  rw [w64_id (n := m.a - px p.f m.a) (by omega) (by omega)]
  rw [show m.a - px p.f m.a + px p.f m.b = m.b - fwd p.bl * p.f by omega, w64_id (by omega) (by omega)]
 ·rw [a0]
  have ho : onB p.f p.r (px p.f m.b) (py p.f m.a) = true := on_mk b1 b2 a3 a4
  obtain ⟨v1, v2, v3⟩ := on_valid hv ho
  rw [hsq] at v1 v2 v3
  exact (num_iff hv ho v1).2 ⟨v2, v3⟩
theorem MvOk.cap (o : MvOk p m) : capL p.f p.r p.zs p.pa m.a m.b = at2R p.f p.zs p.pa m.a m.b ∧ (0 ≤ at2R p.f p.zs p.pa m.a m.b → at2R p.f p.zs p.pa m.a m.b < p.zs.length ∧ isP (p.zs.getD (at2R p.f p.zs p.pa m.a m.b).toNat 0) (!p.bl) = true ∧ at2R p.f p.zs p.pa m.a m.b ≠ m.a ∧ at2R p.f p.zs p.pa m.a m.b = at1R p.f p.zs p.pa m.a m.b) ∧
  (at2R p.f p.zs p.pa m.a m.b < 0 → at2R p.f p.zs p.pa m.a m.b = -1 ∧ capR p.f p.zs p.pa m.a m.b = 0 ∧ p.zs.getD m.b.toNat 0 = 0) ∧ (0 ≤ at2R p.f p.zs p.pa m.a m.b → capR p.f p.zs p.pa m.a m.b ≠ 0) := by
 have ⟨⟨sa0, sa1⟩, ⟨sb0, sb1⟩⟩ := o.sq
 cases hep : (decide (kind8 (p.zs.getD m.a.toNat 0) = 1) && decide (m.b = p.pa)) with
 | true =>
  simp only [Bool.and_eq_true, decide_eq_true_eq] at hep
  obtain ⟨e1, e2, e3, e4, e5, e6⟩ := o.ep hep.1 hep.2
  have hc : capR p.f p.zs p.pa m.a m.b = ofP 1 (!p.bl) := by unfold capR; rw [e1, e3]
  have hnz : ofP 1 (!p.bl) ≠ 0 := by cases p.bl <;> decide
  have h2 : at2R p.f p.zs p.pa m.a m.b = m.b - fwd p.bl * p.f := by unfold at2R; rw [hc, decide_eq_false hnz, cond_false, e1]
  have hcl : capL p.f p.r p.zs p.pa m.a m.b = m.b - fwd p.bl * p.f := by unfold capL; rw [decide_eq_true hep.1, decide_eq_true hep.2]; exact e4
  have hlt := (bd_sq o.bd).1 e2
  refine ⟨by rw [hcl, h2], fun _ => ⟨by rw [h2]; exact hlt.2, ?_, ?_, by rw [h2, e1]⟩, fun hh => (by rw [h2] at hh; omega), fun _ => by rw [hc]; exact hnz⟩
  ·rw [h2, e3]; cases p.bl <;> decide
  ·rw [h2]
   intro he
   rw [he] at e3
   exact own_pass o.hp e3
 | false =>
  have hepB : epB p.zs p.pa m.a m.b = false := by unfold epB; rw [o.kd]; exact hep
  have h1 : at1R p.f p.zs p.pa m.a m.b = m.b := by unfold at1R; rw [hepB]; rfl
  have hc : capR p.f p.zs p.pa m.a m.b = p.zs.getD m.b.toNat 0 := by unfold capR; rw [h1]
  unfold capL at2R
  rw [hep, hc, h1, cond_false]
  by_cases hz : p.zs.getD m.b.toNat 0 = 0
  ·simp only [decide_eq_true hz, Bool.not_true, cond_true, cond_false]
   exact ⟨trivial, fun hh => absurd hh (by decide), fun _ => ⟨trivial, hz, hz⟩, fun hh => absurd hh (by decide)⟩
  ·simp only [decide_eq_false hz, Bool.not_false, cond_true, cond_false]
   have h5 := isP_other hz o.nto
   exact ⟨trivial, fun _ => ⟨sb1, h5, fun e => o.hab e.symm, trivial⟩, fun hh => absurd hh (by omega), fun _ => hz⟩
end
end Go.Ab

namespace Go.Ab
abbrev iL (l : List Int) : List Int := l
structure Siz where
 f : Int
 r : Int
structure Sgt where
 p : Psn
 own : Int
 all : Int
end Go.Ab

set_option maxRecDepth 100000
set_option maxHeartbeats 4000000
namespace Go.Ab
open Go.Proofs
variable {kCa kDb : Bool}
def msame_s1 : List (List Int) → List (List Int) → Int → Option (Int ⊕ Unit ⊕ Bool) := fun (a b : List (List Int)) (s6 : Int) => let x13 := (a.getD s6.toNat []).getD 1 0; let x14 := (a.getD s6.toNat []).getD 0 0; let x15 := (b.getD s6.toNat []).getD 2 0; let x16 := (a.getD s6.toNat []).getD 2 0; let x17 := (b.getD s6.toNat []).getD 1 0; let x18 := (b.getD s6.toNat []).getD 0 0; let x19 := decide (s6 < Int.ofNat a.length); let x20 := decide (0 ≤ s6); bif x19 then needO (x20 && x19) (needO (x20 && decide (s6 < Int.ofNat b.length)) (bif !(decide (x14 = x18) && (decide (x13 = x17) && decide (x16 = x15))) then escO (escO (some false)) else some (Sum.inl (IntKind.i64.wrap (s6 + 1))))) else some (Sum.inr (Sum.inl ()))
def msame (a : List (List Int)) (b : List (List Int)) : Option (Bool) := bif !decide (Int.ofNat a.length = Int.ofNat b.length) then some false else loopO (msame_s1 a b) (fun (_s11 : Unit) => some true) 1000000 0
def msame_V (R : Bool) : V := Bb R
def msame_N (_R : Bool) : List O := []
def c_msame : CF
 | [.sl 0 0 a_0n none, .sl 1 0 b_0n none], [.rows false [.i64, .i64, .i8] a_0, .rows false [.i64, .i64, .i8] b_0] => retC (decide (a_0n = a_0.length) && decide (b_0n = b_0.length)) (msame a_0 b_0) false msame_V msame_N
 | _, _ => none
theorem msame_snd (a : List (List Int)) (b : List (List Int)) {r} (hr : msame a b = some r) : FnSound (GGx kCa kDb) PP 16 [.sl 0 0 a.length none, .sl 1 0 b.length none] [.rows false [.i64, .i64, .i8] a, .rows false [.i64, .i64, .i8] b] (msame_V r) (msame_N r) := by
 have hE := cutE (EE_ok (kCa := kCa) (kDb := kDb) (cts := []) (inl := []) trivial trivial)
 refine so_fn hE 2 Tryz.func16 rfl rfl msame_V msame_N hr ?_ rfl rfl
 refine so_split hE 2 rfl ?_ ?_
 ·exact so_ret (fin_bs [] (.inr rfl) rfl rfl rfl rfl rfl)
 refine so_loop hE 2 (fun (s6 : Int) => ([(0, V.sl 0 0 a.length none), (1, V.sl 1 0 b.length none), (4, V.bool false), (5, V.int IntKind.i64 s6)], [O.rows false [IntKind.i64, IntKind.i64, IntKind.i8] a, O.rows false [IntKind.i64, IntKind.i64, IntKind.i8] b])) (fun (s11 : Unit) => ([(4, V.bool false)], [O.rows false [IntKind.i64, IntKind.i64, IntKind.i8] a, O.rows false [IntKind.i64, IntKind.i64, IntKind.i8] b])) (.exit 0) ((Ent.rn [0, 1] [0, 1, 4, 5] rfl rfl rfl rfl rfl)) (fun s6 => ?_) (fun s11 => ?_)
 ·refine so_split hE 2 rfl ?_ ?_
  ·refine so_triv rfl ?_
   refine so_need ?_
   refine so_need ?_
   refine so_split hE 2 rfl ?_ ?_
   ·refine so_out (by simp) (so_out1 ?_)
    exact so_ret (fin_bs [] (.inr rfl) rfl rfl rfl rfl rfl)
   exact so_next ((Ent.rn [0, 1] [0, 1, 4, 5] rfl rfl rfl rfl rfl))
  exact so_exit ((Ent.rn [0, 1] [4] rfl rfl rfl rfl rfl))
 exact so_ret (fin_bs [] (.inr rfl) rfl rfl rfl rfl rfl)
theorem c_msame_ok : CtOk (GGx kCa kDb) PP (16, c_msame) := by
 refine ct_mk Tryz.func16 (by kernel_rfl) rfl fun a0 h0 c0 v0 N0 e hc => ?_
 unfold c_msame at e
 split at e
 ·rename_i a_0n b_0n a_0 b_0
  obtain ⟨hl, r, hr, rfl, rfl⟩ := ret_ok e hc
  simp only [Bool.and_eq_true, decide_eq_true_eq] at hl
  obtain ⟨rfl, rfl⟩ := hl
  exact msame_snd a_0 b_0 hr
 ·cases e
end Go.Ab

set_option maxRecDepth 100000
set_option maxHeartbeats 4000000
namespace Go.Ab
open Go.Proofs
variable {kDb : Bool}
end Go.Ab

set_option maxRecDepth 100000
set_option maxHeartbeats 4000000
namespace Go.Ab
open Go.Proofs
variable {kDb : Bool}
end Go.Ab

set_option maxRecDepth 100000
set_option maxHeartbeats 4000000
namespace Go.Ab
open Go.Proofs
variable {kCa kDb : Bool}
def plook (p : Psn) : Option (Sgt) := let x18 := List.take p.zs.length (List.drop 0 p.zs); let x15 := (sidesR p.f p.r x18).snd.1; let x16 := (sidesR p.f p.r x18).fst; let x17 := x18.length; needO (decide (x17 ≤ 1000000)) (joinO (bif p.bl then some (Sum.inl x15) else some (Sum.inl x16)) fun (s4 : Int) => some (Sgt.mk (Psn.mk p.f p.r p.zs p.bl p.ca p.pa p.ha p.fu) s4 (band Go.BinOp.or IntKind.u64 x16 x15)))
def plook_V (R : Sgt) : V := .agg [.int .i64 R.p.f, .int .i64 R.p.r, .sl 0 0 R.p.zs.length none, Bb R.p.bl, .int .u8 R.p.ca, .int .i64 R.p.pa, .int .i64 R.p.ha, .int .i64 R.p.fu, .int .u64 R.own, .int .u64 R.all]
def plook_N (_R : Sgt) : List O := []
def c_plook : CF
 | [.agg [.int .i64 p_0, .int .i64 p_1, .sl 0 0 p_2n none, .bool p_3, .int .u8 p_4, .int .i64 p_5, .int .i64 p_6, .int .i64 p_7]], [.ints false .i8 p_2] => retC (decide (p_2n = p_2.length)) (plook ⟨p_0, p_1, p_2, p_3, p_4, p_5, p_6, p_7⟩) ⟨⟨0, 0, [], false, 0, 0, 0, 0⟩, 0, 0⟩ plook_V plook_N
 | _, _ => none
theorem plook_snd (p : Psn) {r} (hr : plook p = some r) : FnSound (GGx kCa kDb) PP 75 [.agg [.int .i64 p.f, .int .i64 p.r, .sl 0 0 p.zs.length none, Bb p.bl, .int .u8 p.ca, .int .i64 p.pa, .int .i64 p.ha, .int .i64 p.fu]] [.ints false .i8 p.zs] (plook_V r) (plook_N r) := by
 have hE := cutE (EE_ok (kCa := kCa) (kDb := kDb) (cts := [(135, c_sides)]) (inl := []) ⟨c_sides_ok, trivial⟩ trivial)
 refine so_fn hE 2 Tryz.func75 rfl rfl plook_V plook_N hr ?_ rfl rfl
 refine so_as (pl (decide_eq_true (win_len rfl)) id) ?_
 refine so_join hE 2 (let x20 := List.take p.zs.length (List.drop 0 p.zs); fun (s4 : Int) => ([(2, V.ptr 1 0 0), (6, V.ptr 2 0 0)], [O.ints false IntKind.i8 p.zs, O.cells true [V.int IntKind.i64 0, V.int IntKind.i64 0, V.nils, V.bool false, V.int IntKind.u8 0, V.int IntKind.i64 0, V.int IntKind.i64 0, V.int IntKind.i64 0, V.int IntKind.u64 0, V.int IntKind.u64 0], O.cells true [V.int IntKind.i64 p.f, V.int IntKind.i64 p.r, V.sl 0 0 p.zs.length none, V.bool p.bl, V.int IntKind.u8 p.ca, V.int IntKind.i64 p.pa, V.int IntKind.i64 p.ha, V.int IntKind.i64 p.fu, V.int IntKind.u64 s4, V.int IntKind.u64 (band Go.BinOp.or IntKind.u64 (sidesR p.f p.r x20).fst (sidesR p.f p.r x20).snd.1)]])) rfl ?_ ?_ (fun s4 => ?_)
 ·exact so_nrm ((Ent.rn [0, 2, 3] [2, 6] rfl rfl rfl rfl rfl))
 ·exact so_nrm ((Ent.rn [0, 2, 3] [2, 6] rfl rfl rfl rfl rfl))
 exact so_ret (fin_bs [] (.inr rfl) rfl rfl rfl rfl rfl)
theorem c_plook_ok : CtOk (GGx kCa kDb) PP (75, c_plook) := by
 refine ct_mk Tryz.func75 (by kernel_rfl) rfl fun a0 h0 c0 v0 N0 e hc => ?_
 unfold c_plook at e
 split at e
 ·rename_i p_0 p_1 p_2n p_3 p_4 p_5 p_6 p_7 p_2
  obtain ⟨hl, r, hr, rfl, rfl⟩ := ret_ok e hc
  simp only [decide_eq_true_eq] at hl
  obtain rfl := hl
  exact plook_snd ⟨p_0, p_1, p_2, p_3, p_4, p_5, p_6, p_7⟩ hr
 ·cases e
def pkind (p : Int) : Option (Int) := some (imax true p (IntKind.i8.wrap (0 - p)))
def pkind_V (R : Int) : V := .int .i8 R
def pkind_N (_R : Int) : List O := []
def c_pkind : CF
 | [.int .i8 p_0], [] => retC true (pkind p_0) 0 pkind_V pkind_N
 | _, _ => none
theorem pkind_snd (p : Int) {r} (hr : pkind p = some r) : FnSound (GGx kCa kDb) PP 139 [.int .i8 p] [] (pkind_V r) (pkind_N r) := by
 have hE := cutE (EE_ok (kCa := kCa) (kDb := kDb) (cts := []) (inl := []) trivial trivial)
 refine so_fn hE 2 Tryz.func139 rfl rfl pkind_V pkind_N hr ?_ rfl rfl
 exact so_ret (fin_bs [] (.inr rfl) rfl rfl rfl rfl rfl)
theorem c_pkind_ok : CtOk (GGx kCa kDb) PP (139, c_pkind) := by
 refine ct_mk Tryz.func139 (by kernel_rfl) rfl fun a0 h0 c0 v0 N0 e hc => ?_
 unfold c_pkind at e
 split at e
 ·rename_i p_0
  obtain ⟨hl, r, hr, rfl, rfl⟩ := ret_ok e hc
  exact pkind_snd p_0 hr
 ·cases e
def plast (s : Sgt) (at_ : Int) : Option (Bool) := let x4 := IntKind.i64.wrap (s.p.f * IntKind.i64.wrap (s.p.r - 1)); bif s.p.bl then some (decide (at_ < s.p.f)) else some (decide (x4 ≤ at_))
def plast_V (R : Bool) : V := Bb R
def plast_N (_R : Bool) : List O := []
def c_plast : CF
 | [.agg [.int .i64 s_0, .int .i64 s_1, .sl 0 0 s_2n none, .bool s_3, .int .u8 s_4, .int .i64 s_5, .int .i64 s_6, .int .i64 s_7, .int .u64 s_8, .int .u64 s_9], .int .i64 at__0], [.ints false .i8 s_2] => retC (decide (s_2n = s_2.length)) (plast ⟨⟨s_0, s_1, s_2, s_3, s_4, s_5, s_6, s_7⟩, s_8, s_9⟩ at__0) false plast_V plast_N
 | _, _ => none
theorem plast_snd (s : Sgt) (at_ : Int) {r} (hr : plast s at_ = some r) : FnSound (GGx kCa kDb) PP 140 [.agg [.int .i64 s.p.f, .int .i64 s.p.r, .sl 0 0 s.p.zs.length none, Bb s.p.bl, .int .u8 s.p.ca, .int .i64 s.p.pa, .int .i64 s.p.ha, .int .i64 s.p.fu, .int .u64 s.own, .int .u64 s.all], .int .i64 at_] [.ints false .i8 s.p.zs] (plast_V r) (plast_N r) := by
 have hE := cutE (EE_ok (kCa := kCa) (kDb := kDb) (cts := []) (inl := []) trivial trivial)
 refine so_fn hE 2 Tryz.func140 rfl rfl plast_V plast_N hr ?_ rfl rfl
 refine so_split hE 2 rfl ?_ ?_
 ·exact so_ret (fin_bs [] (.inr rfl) rfl rfl rfl rfl rfl)
 exact so_ret (fin_bs [] (.inr rfl) rfl rfl rfl rfl rfl)
theorem c_plast_ok : CtOk (GGx kCa kDb) PP (140, c_plast) := by
 refine ct_mk Tryz.func140 (by kernel_rfl) rfl fun a0 h0 c0 v0 N0 e hc => ?_
 unfold c_plast at e
 split at e
 ·rename_i s_0 s_1 s_2n s_3 s_4 s_5 s_6 s_7 s_8 s_9 at__0 s_2
  obtain ⟨hl, r, hr, rfl, rfl⟩ := ret_ok e hc
  simp only [decide_eq_true_eq] at hl
  obtain rfl := hl
  exact plast_snd ⟨⟨s_0, s_1, s_2, s_3, s_4, s_5, s_6, s_7⟩, s_8, s_9⟩ at__0 hr
 ·cases e
end Go.Ab

set_option maxRecDepth 100000
set_option maxHeartbeats 4000000
namespace Go.Ab
open Go.Proofs
variable {kCa kDb : Bool}
def uis (p : Psn) (m : Mov) : Option (Bool) := let x4 := !decide (p.zs.getD m.a.toNat 0 = 0) && decide (p.zs.getD m.a.toNat 0 < 0) == p.bl; let x6 := List.take p.zs.length (List.drop 0 p.zs); let x5 := x6.length; needO (decide (0 ≤ m.a) && decide (m.a < Int.ofNat p.zs.length)) (needO (!x4 || decide (x5 ≤ 64) && (validBd p.f p.r x6 && castL p.f p.r x6 p.ca && validB p.f p.r m.a && validB p.f p.r m.b)) (some (x4 && soL p.f p.r x6 p.bl p.ca p.pa m.a m.b m.p)))
def uis_V (R : Bool) : V := Bb R
def uis_N (_R : Bool) : List O := []
def c_uis : CF
 | [.agg [.int .i64 p_0, .int .i64 p_1, .sl 0 0 p_2n none, .bool p_3, .int .u8 p_4, .int .i64 p_5, .int .i64 p_6, .int .i64 p_7], .agg [.int .i64 m_0, .int .i64 m_1, .int .i8 m_2]], [.ints false .i8 p_2] => retC (decide (p_2n = p_2.length)) (uis ⟨p_0, p_1, p_2, p_3, p_4, p_5, p_6, p_7⟩ ⟨m_0, m_1, m_2⟩) false uis_V uis_N
 | _, _ => none
theorem uis_snd (p : Psn) (m : Mov) {r} (hr : uis p m = some r) : FnSound (GGx kCa kDb) PP 57 [.agg [.int .i64 p.f, .int .i64 p.r, .sl 0 0 p.zs.length none, Bb p.bl, .int .u8 p.ca, .int .i64 p.pa, .int .i64 p.ha, .int .i64 p.fu], .agg [.int .i64 m.a, .int .i64 m.b, .int .i8 m.p]] [.ints false .i8 p.zs] (uis_V r) (uis_N r) := by
 have hE := cutE (EE_ok (kCa := kCa) (kDb := kDb) (cts := [(103, c_rso)]) (inl := []) ⟨c_rso_ok, trivial⟩ trivial)
 refine so_fn hE 2 Tryz.func57 rfl rfl uis_V uis_N hr ?_ rfl rfl
 refine so_need ?_
 refine so_triv (Bool.not_or_self _) ?_
 refine so_triv (Bool.not_or_self _) ?_
 refine so_triv (Bool.not_or_self _) ?_
 refine so_triv (Bool.not_or_self _) ?_
 refine so_triv (Bool.not_or_self _) ?_
 refine so_triv (Bool.not_or_self _) ?_
 refine so_triv (Bool.not_or_self _) ?_
 refine so_as (pi (pb (pl (decide_eq_true (win_len rfl)) id) id)) ?_
 refine so_triv (Bool.not_or_self _) ?_
 exact so_ret (fin_bs [] (.inr rfl) rfl rfl rfl rfl rfl)
theorem c_uis_ok : CtOk (GGx kCa kDb) PP (57, c_uis) := by
 refine ct_mk Tryz.func57 (by kernel_rfl) rfl fun a0 h0 c0 v0 N0 e hc => ?_
 unfold c_uis at e
 split at e
 ·rename_i p_0 p_1 p_2n p_3 p_4 p_5 p_6 p_7 m_0 m_1 m_2 p_2
  obtain ⟨hl, r, hr, rfl, rfl⟩ := ret_ok e hc
  simp only [decide_eq_true_eq] at hl
  obtain rfl := hl
  exact uis_snd ⟨p_0, p_1, p_2, p_3, p_4, p_5, p_6, p_7⟩ ⟨m_0, m_1, m_2⟩ hr
 ·cases e
def ufrom_s1 : Psn → Int → List (List Int) × Int → List (List Int) × Int → Option (List (List Int) × Int ⊕ List (List Int) ⊕ List (List Int) × Int ⊕ List (List Int) ⊕ List (List Int)) := fun (p : Psn) (from_ : Int) (s23 : List (List Int) × Int) => let x48 := iL [0, 2, 3, 4, 5]; let x49 := Psn.mk p.f p.r (List.take p.zs.length (List.drop 0 p.zs)) p.bl p.ca p.pa p.ha p.fu; fun (s29 : List (List Int) × Int) => let x51 := (s29.1.length + 1) * 24; let x54 := x48.getD s29.2.toNat 0; let x52 := mvB p.f p.r from_ s23.2 x54; let x53 := Mov.mk from_ s23.2 x54; bif decide (s29.2 < Int.ofNat 5) then needO (decide (0 ≤ s29.2) && decide (s29.2 < Int.ofNat 5)) (needO (!x52 || (uis x49 x53).isSome) (joinO (bif x52 && (uis x49 x53).getD false then needO (decide (x51 ≤ 140737488355328)) (some (Sum.inl (s29.1 ++ List.take 1 (List.drop 0 [iL [from_, s23.2, x54]])))) else some (Sum.inl s29.1)) fun (s31 : List (List Int)) => some (Sum.inl (s31, IntKind.i64.wrap (s29.2 + 1))))) else some (Sum.inr (Sum.inl s29.1))
def ufrom_s2 : Psn → Int → (Psn → Int → List (List Int) × Int → List (List Int) × Int → Option (List (List Int) × Int ⊕ List (List Int) ⊕ List (List Int) × Int ⊕ List (List Int) ⊕ List (List Int))) → List (List Int) × Int → Option (List (List Int) × Int ⊕ List (List Int) ⊕ List (List Int)) := fun (p : Psn) (from_ : Int) (ufrom_s1 : Psn → Int → List (List Int) × Int → List (List Int) × Int → Option (List (List Int) × Int ⊕ List (List Int) ⊕ List (List Int) × Int ⊕ List (List Int) ⊕ List (List Int))) (s23 : List (List Int) × Int) => bif decide (s23.2 < Int.ofNat p.zs.length) then loopO (ufrom_s1 p from_ s23) (fun (s39 : List (List Int)) => some (Sum.inl (s39, IntKind.i64.wrap (s23.2 + 1)))) 1000000 (s23.1, 0) else some (Sum.inr (Sum.inl s23.1))
def ufrom (p : Psn) (from_ : Int) : Option (List (List Int)) := loopO (ufrom_s2 p from_ ufrom_s1) (fun (s47 : List (List Int)) => some s47) 1000000 ([], 0)
def ufrom_V (R : List (List Int)) : V := .sl 1 0 R.length none
def ufrom_N (R : List (List Int)) : List O := [.rows true [.i64, .i64, .i8] R]
def c_ufrom : CF
 | [.agg [.int .i64 p_0, .int .i64 p_1, .sl 0 0 p_2n none, .bool p_3, .int .u8 p_4, .int .i64 p_5, .int .i64 p_6, .int .i64 p_7], .int .i64 from__0], [.ints false .i8 p_2] => retC (decide (p_2n = p_2.length)) (ufrom ⟨p_0, p_1, p_2, p_3, p_4, p_5, p_6, p_7⟩ from__0) [] ufrom_V ufrom_N
 | _, _ => none
theorem ufrom_snd (p : Psn) (from_ : Int) {r} (hr : ufrom p from_ = some r) : FnSound (GGx kCa kDb) PP 54 [.agg [.int .i64 p.f, .int .i64 p.r, .sl 0 0 p.zs.length none, Bb p.bl, .int .u8 p.ca, .int .i64 p.pa, .int .i64 p.ha, .int .i64 p.fu], .int .i64 from_] [.ints false .i8 p.zs] (ufrom_V r) (ufrom_N r) := by
 have hE := cutE (EE_ok (kCa := kCa) (kDb := kDb) (cts := [(22, c_rmvalid), (57, c_uis)]) (inl := []) ⟨c_rmvalid_ok, c_uis_ok, trivial⟩ trivial)
 refine so_fn hE 2 Tryz.func54 rfl rfl ufrom_V ufrom_N hr ?_ rfl rfl
 refine so_loop hE 2 (fun (s23 : List (List Int) × Int) => ([(1, V.int IntKind.i64 from_), (2, V.ptr 1 0 0), (4, V.nils), (5, V.sl 2 0 s23.1.length none), (6, V.int IntKind.i64 s23.2)], [O.ints false IntKind.i8 p.zs, O.cells true [V.int IntKind.i64 p.f, V.int IntKind.i64 p.r, V.sl 0 0 p.zs.length none, V.bool p.bl, V.int IntKind.u8 p.ca, V.int IntKind.i64 p.pa, V.int IntKind.i64 p.ha, V.int IntKind.i64 p.fu], O.rows true [IntKind.i64, IntKind.i64, IntKind.i8] s23.1])) (fun (s47 : List (List Int)) => ([(4, V.nils), (5, V.sl 1 0 s47.length none)], [O.ints false IntKind.i8 p.zs, O.rows true [IntKind.i64, IntKind.i64, IntKind.i8] s47])) (.exit 0) ((Ent.phT 5 (O.rows true [IntKind.i64, IntKind.i64, IntKind.i8] []) rfl rfl rfl rfl rfl).trans (Ent.rn [0, 1, 2] [1, 2, 4, 5, 6] rfl rfl rfl rfl rfl)) (fun s23 => ?_) (fun s47 => ?_)
 ·refine so_split hE 2 rfl ?_ ?_
  ·refine so_loop hE 2 (fun (s29 : List (List Int) × Int) => ([(1, V.int IntKind.i64 from_), (2, V.ptr 1 0 0), (4, V.nils), (5, V.sl 2 0 s29.1.length none), (6, V.int IntKind.i64 s23.2), (17, V.sl 3 0 5 none), (18, V.int IntKind.i64 (Int.ofNat 5)), (19, V.int IntKind.i64 s29.2)], [O.ints false IntKind.i8 p.zs, O.cells true [V.int IntKind.i64 p.f, V.int IntKind.i64 p.r, V.sl 0 0 p.zs.length none, V.bool p.bl, V.int IntKind.u8 p.ca, V.int IntKind.i64 p.pa, V.int IntKind.i64 p.ha, V.int IntKind.i64 p.fu], O.rows true [IntKind.i64, IntKind.i64, IntKind.i8] s29.1, O.ints true IntKind.i8 (iL [0, 2, 3, 4, 5])])) (fun (s39 : List (List Int)) => ([(1, V.int IntKind.i64 from_), (2, V.ptr 1 0 0), (4, V.nils), (5, V.sl 2 0 s39.length none), (6, V.int IntKind.i64 s23.2)], [O.ints false IntKind.i8 p.zs, O.cells true [V.int IntKind.i64 p.f, V.int IntKind.i64 p.r, V.sl 0 0 p.zs.length none, V.bool p.bl, V.int IntKind.u8 p.ca, V.int IntKind.i64 p.pa, V.int IntKind.i64 p.ha, V.int IntKind.i64 p.fu], O.rows true [IntKind.i64, IntKind.i64, IntKind.i8] s39])) (.exit 2) ((Ent.rn [0, 1, 2, 3] [1, 2, 4, 5, 6, 17, 18, 19] rfl rfl rfl rfl rfl)) (fun s29 => ?_) (fun s39 => ?_)
   ·refine so_split hE 2 rfl ?_ ?_
    ·refine so_need ?_
     refine so_triv rfl ?_
     refine so_triv (Bool.not_or_self _) ?_
     refine so_triv (Bool.not_or_self _) ?_
     refine so_as (pi (pl (decide_eq_true (win_len rfl)) id)) ?_
     refine so_triv (Bool.not_or_self _) ?_
     refine so_join hE 2 (fun (s31 : List (List Int)) => ([(1, V.int IntKind.i64 from_), (2, V.ptr 1 0 0), (4, V.nils), (5, V.sl 2 0 s31.length none), (6, V.int IntKind.i64 s23.2), (17, V.sl 3 0 5 none), (18, V.int IntKind.i64 (Int.ofNat 5)), (19, V.int IntKind.i64 s29.2)], [O.ints false IntKind.i8 p.zs, O.cells true [V.int IntKind.i64 p.f, V.int IntKind.i64 p.r, V.sl 0 0 p.zs.length none, V.bool p.bl, V.int IntKind.u8 p.ca, V.int IntKind.i64 p.pa, V.int IntKind.i64 p.ha, V.int IntKind.i64 p.fu], O.rows true [IntKind.i64, IntKind.i64, IntKind.i8] s31, O.ints true IntKind.i8 (iL [0, 2, 3, 4, 5])])) rfl ?_ ?_ (fun s31 => ?_)
     ·refine so_as (pr (pl (decide_eq_true rfl) id) rfl) ?_
      exact so_nrm ((Ent.rn [0, 1, 6, 3] [1, 2, 4, 5, 6, 17, 18, 19] rfl rfl rfl rfl rfl))
     ·exact so_nrm ((Ent.rn [0, 1, 2, 3] [1, 2, 4, 5, 6, 17, 18, 19] rfl rfl rfl rfl rfl))
     exact so_next ((Ent.rn [0, 1, 2, 3] [1, 2, 4, 5, 6, 17, 18, 19] rfl rfl rfl rfl rfl))
    exact so_exit ((Ent.rn [0, 1, 2] [1, 2, 4, 5, 6] rfl rfl rfl rfl rfl))
   exact so_next ((Ent.rn [0, 1, 2] [1, 2, 4, 5, 6] rfl rfl rfl rfl rfl))
  exact so_exit ((Ent.rn [0, 2] [4, 5] rfl rfl rfl rfl rfl))
 exact so_ret (fin_bs [1] (.inr rfl) rfl rfl rfl rfl rfl)
theorem c_ufrom_ok : CtOk (GGx kCa kDb) PP (54, c_ufrom) := by
 refine ct_mk Tryz.func54 (by kernel_rfl) rfl fun a0 h0 c0 v0 N0 e hc => ?_
 unfold c_ufrom at e
 split at e
 ·rename_i p_0 p_1 p_2n p_3 p_4 p_5 p_6 p_7 from__0 p_2
  obtain ⟨hl, r, hr, rfl, rfl⟩ := ret_ok e hc
  simp only [decide_eq_true_eq] at hl
  obtain rfl := hl
  exact ufrom_snd ⟨p_0, p_1, p_2, p_3, p_4, p_5, p_6, p_7⟩ from__0 hr
 ·cases e
def sdist (s : Siz) (a : Int) (b : Int) : Option (Int × Int) := let x5 := (placeR s.f s.r a).snd.1; let x6 := (placeR s.f s.r a).snd.2; let x7 := (placeR s.f s.r b).snd.1; let x8 := (placeR s.f s.r b).snd.2; bif !decide (x6 = 0) || !decide (x8 = 0) then some (0, 2) else some (imax true (imax true (imax true (IntKind.i64.wrap ((placeR s.f s.r a).fst - (placeR s.f s.r b).fst)) (IntKind.i64.wrap ((placeR s.f s.r b).fst - (placeR s.f s.r a).fst))) (IntKind.i64.wrap (x5 - x7))) (IntKind.i64.wrap (x7 - x5)), 0)
def spawn (s : Sgt) (from_ : Int) : Option (Int) := let x6 := decide (0 ≤ s.p.pa); joinO (bif x6 then needO x6 (some (Sum.inl (band Go.BinOp.or IntKind.u64 (band Go.BinOp.andNot IntKind.u64 s.all s.own) (IntKind.u64.wrap (1 * 2 ^ Min.min s.p.pa.toNat IntKind.u64.bits))))) else some (Sum.inl (band Go.BinOp.andNot IntKind.u64 s.all s.own))) fun (s5 : Int) => some (band Go.BinOp.or IntKind.u64 (stepsR s.p.f s.p.r s.p.bl from_ s.all).fst (band Go.BinOp.and IntKind.u64 (pawnR s.p.f s.p.r s.p.bl from_).fst s5))
def spawn_V (R : Int) : V := .int .u64 R
def spawn_N (_R : Int) : List O := []
def c_spawn : CF
 | [.agg [.int .i64 s_0, .int .i64 s_1, .sl 0 0 s_2n none, .bool s_3, .int .u8 s_4, .int .i64 s_5, .int .i64 s_6, .int .i64 s_7, .int .u64 s_8, .int .u64 s_9], .int .i64 from__0], [.ints false .i8 s_2] => retC (decide (s_2n = s_2.length)) (spawn ⟨⟨s_0, s_1, s_2, s_3, s_4, s_5, s_6, s_7⟩, s_8, s_9⟩ from__0) 0 spawn_V spawn_N
 | _, _ => none
theorem spawn_snd (s : Sgt) (from_ : Int) {r} (hr : spawn s from_ = some r) : FnSound (GGx kCa kDb) PP 169 [.agg [.int .i64 s.p.f, .int .i64 s.p.r, .sl 0 0 s.p.zs.length none, Bb s.p.bl, .int .u8 s.p.ca, .int .i64 s.p.pa, .int .i64 s.p.ha, .int .i64 s.p.fu, .int .u64 s.own, .int .u64 s.all], .int .i64 from_] [.ints false .i8 s.p.zs] (spawn_V r) (spawn_N r) := by
 have hE := cutE (EE_ok (kCa := kCa) (kDb := kDb) (cts := [(157, c_steps), (158, c_pawn)]) (inl := []) ⟨c_steps_ok, c_pawn_ok, trivial⟩ trivial)
 refine so_fn hE 2 Tryz.func169 rfl rfl spawn_V spawn_N hr ?_ rfl rfl
 refine so_triv rfl ?_
 refine so_triv rfl ?_
 refine so_join hE 2 (fun (s5 : Int) => ([(4, V.int IntKind.u64 0), (5, V.int IntKind.u64 (stepsR s.p.f s.p.r s.p.bl from_ s.all).fst), (7, V.int IntKind.u64 (pawnR s.p.f s.p.r s.p.bl from_).fst), (9, V.int IntKind.u64 s5)], [O.ints false IntKind.i8 s.p.zs])) rfl ?_ ?_ (fun s5 => ?_)
 ·refine so_need ?_
  exact so_nrm ((Ent.rn [0] [4, 5, 7, 9] rfl rfl rfl rfl rfl))
 ·exact so_nrm ((Ent.rn [0] [4, 5, 7, 9] rfl rfl rfl rfl rfl))
 exact so_ret (fin_bs [] (.inr rfl) rfl rfl rfl rfl rfl)
theorem c_spawn_ok : CtOk (GGx kCa kDb) PP (169, c_spawn) := by
 refine ct_mk Tryz.func169 (by kernel_rfl) rfl fun a0 h0 c0 v0 N0 e hc => ?_
 unfold c_spawn at e
 split at e
 ·rename_i s_0 s_1 s_2n s_3 s_4 s_5 s_6 s_7 s_8 s_9 from__0 s_2
  obtain ⟨hl, r, hr, rfl, rfl⟩ := ret_ok e hc
  simp only [decide_eq_true_eq] at hl
  obtain rfl := hl
  exact spawn_snd ⟨⟨s_0, s_1, s_2, s_3, s_4, s_5, s_6, s_7⟩, s_8, s_9⟩ from__0 hr
 ·cases e
end Go.Ab

set_option maxRecDepth 100000
set_option maxHeartbeats 4000000
namespace Go.Ab
open Go.Proofs
variable {kCa kDb : Bool}
def sways (s : Sgt) (from_ : Int) : Option (Int) := let x21 := band Go.BinOp.and IntKind.u64 (betwR s.p.f s.p.r 60 56).fst s.all; let x22 := band Go.BinOp.and IntKind.u64 (betwR s.p.f s.p.r 60 63).fst s.all; let x23 := band Go.BinOp.and IntKind.u64 (betwR s.p.f s.p.r 4 0).fst s.all; let x24 := band Go.BinOp.and IntKind.u64 (betwR s.p.f s.p.r 4 7).fst s.all; let x25 := !decide (from_ = 60); let x26 := !decide (from_ = 4); joinO (bif decide (band Go.BinOp.and IntKind.u8 s.p.ca 1 = 0) || !s.p.bl == false || x26 then some (Sum.inl 0) else joinO (bif decide (x24 = 0) then some (Sum.inl (band Go.BinOp.or IntKind.u64 0 (IntKind.u64.wrap (1 * 2 ^ Min.min (Int.toNat 6) IntKind.u64.bits)))) else some (Sum.inl 0)) fun (s5 : Int) => some (Sum.inl s5)) fun (s7 : Int) => joinO (bif decide (band Go.BinOp.and IntKind.u8 s.p.ca 2 = 0) || !s.p.bl == false || x26 then some (Sum.inl s7) else joinO (bif decide (x23 = 0) then some (Sum.inl (band Go.BinOp.or IntKind.u64 s7 (IntKind.u64.wrap (1 * 2 ^ Min.min (Int.toNat 2) IntKind.u64.bits)))) else some (Sum.inl s7)) fun (s9 : Int) => some (Sum.inl s9)) fun (s11 : Int) => joinO (bif decide (band Go.BinOp.and IntKind.u8 s.p.ca 4 = 0) || !s.p.bl == true || x25 then some (Sum.inl s11) else joinO (bif decide (x22 = 0) then some (Sum.inl (band Go.BinOp.or IntKind.u64 s11 (IntKind.u64.wrap (1 * 2 ^ Min.min (Int.toNat 62) IntKind.u64.bits)))) else some (Sum.inl s11)) fun (s13 : Int) => some (Sum.inl s13)) fun (s15 : Int) => joinO (bif decide (band Go.BinOp.and IntKind.u8 s.p.ca 8 = 0) || !s.p.bl == true || x25 then some (Sum.inl s15) else joinO (bif decide (x21 = 0) then some (Sum.inl (band Go.BinOp.or IntKind.u64 s15 (IntKind.u64.wrap (1 * 2 ^ Min.min (Int.toNat 58) IntKind.u64.bits)))) else some (Sum.inl s15)) fun (s17 : Int) => some (Sum.inl s17)) fun (s19 : Int) => joinO (escO (some s19)) fun (_s20 : Unit) => none
def sways_V (R : Int) : V := .int .u64 R
def sways_N (_R : Int) : List O := []
def c_sways : CF
 | [.agg [.int .i64 s_0, .int .i64 s_1, .sl 0 0 s_2n none, .bool s_3, .int .u8 s_4, .int .i64 s_5, .int .i64 s_6, .int .i64 s_7, .int .u64 s_8, .int .u64 s_9], .int .i64 from__0], [.ints false .i8 s_2] => retC (decide (s_2n = s_2.length)) (sways ⟨⟨s_0, s_1, s_2, s_3, s_4, s_5, s_6, s_7⟩, s_8, s_9⟩ from__0) 0 sways_V sways_N
 | _, _ => none
theorem sways_snd (s : Sgt) (from_ : Int) {r} (hr : sways s from_ = some r) : FnSound (GGx kCa kDb) PP 170 [.agg [.int .i64 s.p.f, .int .i64 s.p.r, .sl 0 0 s.p.zs.length none, Bb s.p.bl, .int .u8 s.p.ca, .int .i64 s.p.pa, .int .i64 s.p.ha, .int .i64 s.p.fu, .int .u64 s.own, .int .u64 s.all], .int .i64 from_] [.ints false .i8 s.p.zs] (sways_V r) (sways_N r) := by
 have hE := cutE (EE_ok (kCa := kCa) (kDb := kDb) (cts := [(124, c_betw)]) (inl := []) ⟨c_betw_ok, trivial⟩ trivial)
 refine so_fn hE 2 Tryz.func170 rfl rfl sways_V sways_N hr ?_ rfl rfl
 refine so_rounds hE 2 5 ?_
 refine so_rnd (let x120 := [V.int IntKind.u8 s.p.ca, V.int IntKind.i64 s.p.pa, V.int IntKind.i64 s.p.ha, V.int IntKind.i64 s.p.fu, V.int IntKind.u64 s.own, V.int IntKind.u64 s.all]; let x122 := decide (band Go.BinOp.and IntKind.u8 s.p.ca 1 = 0); let x123 := [V.int IntKind.i64 4, V.int IntKind.i64 7, V.int IntKind.i64 6]; let x124 := EE kCa kDb [(124, c_betw)] []; let x125 := IntKind.i64.wrap (0 + 1); let x119 := x122 || !s.p.bl == false; let x121 := V.int IntKind.u8 1 :: V.lit false :: x123; let x118 := (13, V.agg [V.int IntKind.u8 8, V.lit true, V.int IntKind.i64 60, V.int IntKind.i64 56, V.int IntKind.i64 58]) :: (12, V.agg [V.int IntKind.u8 4, V.lit true, V.int IntKind.i64 60, V.int IntKind.i64 63, V.int IntKind.i64 62]) :: (11, V.agg [V.int IntKind.u8 2, V.lit false, V.int IntKind.i64 4, V.int IntKind.i64 0, V.int IntKind.i64 2]) :: (10, V.agg x121) :: (5, V.int IntKind.u64 0) :: (4, V.int IntKind.u64 0) :: (2, V.ptr 1 0 0) :: initTm 0 [V.agg (V.int IntKind.i64 s.p.f :: V.int IntKind.i64 s.p.r :: V.sl 0 0 s.p.zs.length none :: Bb s.p.bl :: x120), V.int IntKind.i64 from_]; fun (s7 : Int) => ([(1, V.int IntKind.i64 from_), (2, V.ptr 1 0 0), (4, V.int IntKind.u64 0), (5, V.int IntKind.u64 s7), (7, V.ptr 2 0 0), (14, V.sl 3 0 4 none), (15, V.int IntKind.i64 (Int.ofNat 4)), (16, V.int IntKind.i64 x125), (17, V.bool (decide (0 < Int.ofNat 4))), (18, V.ptr 3 0 0), (19, V.agg x121), (20, V.ptr 1 0 0), (21, V.ptr 1 0 4), (22, V.int IntKind.u8 s.p.ca), (23, V.ptr 2 0 0), (24, V.int IntKind.u8 1), (25, V.int IntKind.u8 (band Go.BinOp.and IntKind.u8 s.p.ca 1)), (26, V.bool x122), (27, V.bool x122), (34, V.bool x119), (35, V.bool x119), (40, V.bool (x119 || !decide (from_ = 4))), (62, V.int IntKind.i64 x125)], [O.ints false IntKind.i8 s.p.zs, O.cells true (V.int IntKind.i64 s.p.f :: V.int IntKind.i64 s.p.r :: V.sl 0 0 s.p.zs.length none :: V.bool s.p.bl :: x120), O.cells true (V.int IntKind.u8 1 :: V.bool false :: x123), O.vals true 5 [(evA (let __src := x124; Env.mk __src.ty __src.G __src.pf __src.inl __src.cc __src.pn true) x118 (Go.Operand.tmp 10)).cells, (evA (let __src := x124; Env.mk __src.ty __src.G __src.pf __src.inl __src.cc __src.pn true) x118 (Go.Operand.tmp 11)).cells, (evA (let __src := x124; Env.mk __src.ty __src.G __src.pf __src.inl __src.cc __src.pn true) x118 (Go.Operand.tmp 12)).cells, (evA (let __src := x124; Env.mk __src.ty __src.G __src.pf __src.inl __src.cc __src.pn true) x118 (Go.Operand.tmp 13)).cells]])) ?_ (fun s7 => ?_)
 ·refine so_yes hE 2 rfl rfl ?_
  refine so_triv rfl ?_
  refine so_triv (Bool.not_or_self _) ?_
  refine so_triv (Bool.not_or_self _) ?_
  refine so_triv (Bool.not_or_self _) ?_
  refine so_triv (Bool.not_or_self _) ?_
  refine so_triv (Bool.not_or_self _) ?_
  refine so_triv (Bool.or_not_self _) ?_
  refine so_triv (Bool.not_or_self _) ?_
  refine so_triv (Bool.not_or_self _) ?_
  refine so_triv (Bool.not_or_self _) ?_
  refine so_triv (Bool.or_not_self _) ?_
  refine so_split hE 2 rfl ?_ ?_
  ·exact so_unrm ((Ent.rn [0, 1, 3, 2] [1, 2, 4, 5, 7, 14, 15, 16, 17, 18, 19, 20, 21, 22, 23, 24, 25, 26, 27, 34, 35, 40, 62] rfl rfl rfl rfl rfl))
  refine so_triv rfl ?_
  refine so_join hE 2 (let x39 := [V.int IntKind.u8 s.p.ca, V.int IntKind.i64 s.p.pa, V.int IntKind.i64 s.p.ha, V.int IntKind.i64 s.p.fu, V.int IntKind.u64 s.own, V.int IntKind.u64 s.all]; let x41 := decide (band Go.BinOp.and IntKind.u8 s.p.ca 1 = 0); let x42 := [V.int IntKind.i64 4, V.int IntKind.i64 7, V.int IntKind.i64 6]; let x44 := EE kCa kDb [(124, c_betw)] []; let x45 := (betwR s.p.f s.p.r 4 7).fst; let x46 := (betwR s.p.f s.p.r 4 7).snd; let x37 := [V.int IntKind.u64 x45, V.int IntKind.i64 x46]; let x38 := x41 || !s.p.bl == false; let x40 := V.int IntKind.u8 1 :: V.lit false :: x42; let x43 := band Go.BinOp.and IntKind.u64 x45 s.all; let x36 := (13, V.agg [V.int IntKind.u8 8, V.lit true, V.int IntKind.i64 60, V.int IntKind.i64 56, V.int IntKind.i64 58]) :: (12, V.agg [V.int IntKind.u8 4, V.lit true, V.int IntKind.i64 60, V.int IntKind.i64 63, V.int IntKind.i64 62]) :: (11, V.agg [V.int IntKind.u8 2, V.lit false, V.int IntKind.i64 4, V.int IntKind.i64 0, V.int IntKind.i64 2]) :: (10, V.agg x40) :: (5, V.int IntKind.u64 0) :: (4, V.int IntKind.u64 0) :: (2, V.ptr 1 0 0) :: initTm 0 [V.agg (V.int IntKind.i64 s.p.f :: V.int IntKind.i64 s.p.r :: V.sl 0 0 s.p.zs.length none :: Bb s.p.bl :: x39), V.int IntKind.i64 from_]; fun (s5 : Int) => ([(1, V.int IntKind.i64 from_), (2, V.ptr 1 0 0), (4, V.int IntKind.u64 0), (5, V.int IntKind.u64 s5), (7, V.ptr 2 0 0), (8, V.int IntKind.u64 x45), (14, V.sl 3 0 4 none), (15, V.int IntKind.i64 (Int.ofNat 4)), (16, V.int IntKind.i64 0), (17, V.bool (decide (0 < Int.ofNat 4))), (18, V.ptr 3 0 0), (19, V.agg x40), (20, V.ptr 1 0 0), (21, V.ptr 1 0 4), (22, V.int IntKind.u8 s.p.ca), (23, V.ptr 2 0 0), (24, V.int IntKind.u8 1), (25, V.int IntKind.u8 (band Go.BinOp.and IntKind.u8 s.p.ca 1)), (26, V.bool x41), (27, V.bool x41), (34, V.bool x38), (35, V.bool x38), (40, V.bool (x38 || !decide (from_ = 4))), (41, V.tup x37), (42, V.ptr 1 0 0), (43, V.ptr 1 0 0), (44, V.agg [V.int IntKind.i64 s.p.f, V.int IntKind.i64 s.p.r]), (45, V.ptr 2 0 2), (46, V.int IntKind.i64 4), (47, V.ptr 2 0 3), (48, V.int IntKind.i64 7), (49, V.tup x37), (50, V.int IntKind.u64 x45), (51, V.int IntKind.i64 x46), (52, V.int IntKind.u64 x45), (53, V.ptr 1 0 9), (54, V.int IntKind.u64 s.all), (55, V.int IntKind.u64 x43), (56, V.bool (decide (x43 = 0)))], [O.ints false IntKind.i8 s.p.zs, O.cells true (V.int IntKind.i64 s.p.f :: V.int IntKind.i64 s.p.r :: V.sl 0 0 s.p.zs.length none :: V.bool s.p.bl :: x39), O.cells true (V.int IntKind.u8 1 :: V.bool false :: x42), O.vals true 5 [(evA (let __src := x44; Env.mk __src.ty __src.G __src.pf __src.inl __src.cc __src.pn true) x36 (Go.Operand.tmp 10)).cells, (evA (let __src := x44; Env.mk __src.ty __src.G __src.pf __src.inl __src.cc __src.pn true) x36 (Go.Operand.tmp 11)).cells, (evA (let __src := x44; Env.mk __src.ty __src.G __src.pf __src.inl __src.cc __src.pn true) x36 (Go.Operand.tmp 12)).cells, (evA (let __src := x44; Env.mk __src.ty __src.G __src.pf __src.inl __src.cc __src.pn true) x36 (Go.Operand.tmp 13)).cells]])) rfl ?_ ?_ (fun s5 => ?_)
  ·refine so_triv rfl ?_
   exact so_nrm ((Ent.rn [0, 1, 3, 2] [1, 2, 4, 5, 7, 8, 14, 15, 16, 17, 18, 19, 20, 21, 22, 23, 24, 25, 26, 27, 34, 35, 40, 41, 42, 43, 44, 45, 46, 47, 48, 49, 50, 51, 52, 53, 54, 55, 56] rfl rfl rfl rfl rfl))
  ·exact so_nrm ((Ent.rn [0, 1, 3, 2] [1, 2, 4, 5, 7, 8, 14, 15, 16, 17, 18, 19, 20, 21, 22, 23, 24, 25, 26, 27, 34, 35, 40, 41, 42, 43, 44, 45, 46, 47, 48, 49, 50, 51, 52, 53, 54, 55, 56] rfl rfl rfl rfl rfl))
  exact so_unrm ((Ent.rn [0, 1, 2, 3] [1, 2, 4, 5, 7, 14, 15, 16, 17, 18, 19, 20, 21, 22, 23, 24, 25, 26, 27, 34, 35, 40, 62] rfl rfl rfl rfl rfl))
 refine so_rnd (let x110 := [V.int IntKind.u8 s.p.ca, V.int IntKind.i64 s.p.pa, V.int IntKind.i64 s.p.ha, V.int IntKind.i64 s.p.fu, V.int IntKind.u64 s.own, V.int IntKind.u64 s.all]; let x112 := decide (band Go.BinOp.and IntKind.u8 s.p.ca 2 = 0); let x114 := [V.int IntKind.i64 4, V.int IntKind.i64 0, V.int IntKind.i64 2]; let x115 := EE kCa kDb [(124, c_betw)] []; let x116 := IntKind.i64.wrap (0 + 1); let x109 := x112 || !s.p.bl == false; let x111 := V.int IntKind.u8 2 :: V.lit false :: x114; let x113 := IntKind.i64.wrap (x116 + 1); let x108 := (13, V.agg [V.int IntKind.u8 8, V.lit true, V.int IntKind.i64 60, V.int IntKind.i64 56, V.int IntKind.i64 58]) :: (12, V.agg [V.int IntKind.u8 4, V.lit true, V.int IntKind.i64 60, V.int IntKind.i64 63, V.int IntKind.i64 62]) :: (11, V.agg x111) :: (10, V.agg [V.int IntKind.u8 1, V.lit false, V.int IntKind.i64 4, V.int IntKind.i64 7, V.int IntKind.i64 6]) :: (5, V.int IntKind.u64 0) :: (4, V.int IntKind.u64 0) :: (2, V.ptr 1 0 0) :: initTm 0 [V.agg (V.int IntKind.i64 s.p.f :: V.int IntKind.i64 s.p.r :: V.sl 0 0 s.p.zs.length none :: Bb s.p.bl :: x110), V.int IntKind.i64 from_]; fun (s11 : Int) => ([(1, V.int IntKind.i64 from_), (2, V.ptr 1 0 0), (4, V.int IntKind.u64 0), (5, V.int IntKind.u64 s11), (7, V.ptr 2 0 0), (14, V.sl 3 0 4 none), (15, V.int IntKind.i64 (Int.ofNat 4)), (16, V.int IntKind.i64 x113), (17, V.bool (decide (x116 < Int.ofNat 4))), (18, V.ptr 3 1 0), (19, V.agg x111), (20, V.ptr 1 0 0), (21, V.ptr 1 0 4), (22, V.int IntKind.u8 s.p.ca), (23, V.ptr 2 0 0), (24, V.int IntKind.u8 2), (25, V.int IntKind.u8 (band Go.BinOp.and IntKind.u8 s.p.ca 2)), (26, V.bool x112), (27, V.bool x112), (34, V.bool x109), (35, V.bool x109), (40, V.bool (x109 || !decide (from_ = 4))), (62, V.int IntKind.i64 x113)], [O.ints false IntKind.i8 s.p.zs, O.cells true (V.int IntKind.i64 s.p.f :: V.int IntKind.i64 s.p.r :: V.sl 0 0 s.p.zs.length none :: V.bool s.p.bl :: x110), O.cells true (V.int IntKind.u8 2 :: V.bool false :: x114), O.vals true 5 [(evA (let __src := x115; Env.mk __src.ty __src.G __src.pf __src.inl __src.cc __src.pn true) x108 (Go.Operand.tmp 10)).cells, (evA (let __src := x115; Env.mk __src.ty __src.G __src.pf __src.inl __src.cc __src.pn true) x108 (Go.Operand.tmp 11)).cells, (evA (let __src := x115; Env.mk __src.ty __src.G __src.pf __src.inl __src.cc __src.pn true) x108 (Go.Operand.tmp 12)).cells, (evA (let __src := x115; Env.mk __src.ty __src.G __src.pf __src.inl __src.cc __src.pn true) x108 (Go.Operand.tmp 13)).cells]])) ?_ (fun s11 => ?_)
 ·refine so_yes hE 2 rfl rfl ?_
  refine so_triv rfl ?_
  refine so_triv (Bool.not_or_self _) ?_
  refine so_triv (Bool.not_or_self _) ?_
  refine so_triv (Bool.not_or_self _) ?_
  refine so_triv (Bool.not_or_self _) ?_
  refine so_triv (Bool.not_or_self _) ?_
  refine so_triv (Bool.or_not_self _) ?_
  refine so_triv (Bool.not_or_self _) ?_
  refine so_triv (Bool.not_or_self _) ?_
  refine so_triv (Bool.not_or_self _) ?_
  refine so_triv (Bool.or_not_self _) ?_
  refine so_split hE 2 rfl ?_ ?_
  ·exact so_unrm ((Ent.rn [0, 1, 4, 3] [1, 2, 4, 5, 7, 14, 15, 16, 17, 18, 19, 20, 21, 22, 23, 24, 25, 26, 27, 34, 35, 40, 62] rfl rfl rfl rfl rfl))
  refine so_triv rfl ?_
  refine so_join hE 2 (let x51 := [V.int IntKind.u8 s.p.ca, V.int IntKind.i64 s.p.pa, V.int IntKind.i64 s.p.ha, V.int IntKind.i64 s.p.fu, V.int IntKind.u64 s.own, V.int IntKind.u64 s.all]; let x53 := decide (band Go.BinOp.and IntKind.u8 s.p.ca 2 = 0); let x54 := [V.int IntKind.i64 4, V.int IntKind.i64 0, V.int IntKind.i64 2]; let x56 := EE kCa kDb [(124, c_betw)] []; let x57 := (betwR s.p.f s.p.r 4 0).fst; let x58 := (betwR s.p.f s.p.r 4 0).snd; let x59 := IntKind.i64.wrap (0 + 1); let x49 := [V.int IntKind.u64 x57, V.int IntKind.i64 x58]; let x50 := x53 || !s.p.bl == false; let x52 := V.int IntKind.u8 2 :: V.lit false :: x54; let x55 := band Go.BinOp.and IntKind.u64 x57 s.all; let x48 := (13, V.agg [V.int IntKind.u8 8, V.lit true, V.int IntKind.i64 60, V.int IntKind.i64 56, V.int IntKind.i64 58]) :: (12, V.agg [V.int IntKind.u8 4, V.lit true, V.int IntKind.i64 60, V.int IntKind.i64 63, V.int IntKind.i64 62]) :: (11, V.agg x52) :: (10, V.agg [V.int IntKind.u8 1, V.lit false, V.int IntKind.i64 4, V.int IntKind.i64 7, V.int IntKind.i64 6]) :: (5, V.int IntKind.u64 0) :: (4, V.int IntKind.u64 0) :: (2, V.ptr 1 0 0) :: initTm 0 [V.agg (V.int IntKind.i64 s.p.f :: V.int IntKind.i64 s.p.r :: V.sl 0 0 s.p.zs.length none :: Bb s.p.bl :: x51), V.int IntKind.i64 from_]; fun (s9 : Int) => ([(1, V.int IntKind.i64 from_), (2, V.ptr 1 0 0), (4, V.int IntKind.u64 0), (5, V.int IntKind.u64 s9), (7, V.ptr 2 0 0), (8, V.int IntKind.u64 x57), (14, V.sl 3 0 4 none), (15, V.int IntKind.i64 (Int.ofNat 4)), (16, V.int IntKind.i64 x59), (17, V.bool (decide (x59 < Int.ofNat 4))), (18, V.ptr 3 1 0), (19, V.agg x52), (20, V.ptr 1 0 0), (21, V.ptr 1 0 4), (22, V.int IntKind.u8 s.p.ca), (23, V.ptr 2 0 0), (24, V.int IntKind.u8 2), (25, V.int IntKind.u8 (band Go.BinOp.and IntKind.u8 s.p.ca 2)), (26, V.bool x53), (27, V.bool x53), (34, V.bool x50), (35, V.bool x50), (40, V.bool (x50 || !decide (from_ = 4))), (41, V.tup x49), (42, V.ptr 1 0 0), (43, V.ptr 1 0 0), (44, V.agg [V.int IntKind.i64 s.p.f, V.int IntKind.i64 s.p.r]), (45, V.ptr 2 0 2), (46, V.int IntKind.i64 4), (47, V.ptr 2 0 3), (48, V.int IntKind.i64 0), (49, V.tup x49), (50, V.int IntKind.u64 x57), (51, V.int IntKind.i64 x58), (52, V.int IntKind.u64 x57), (53, V.ptr 1 0 9), (54, V.int IntKind.u64 s.all), (55, V.int IntKind.u64 x55), (56, V.bool (decide (x55 = 0))), (62, V.int IntKind.i64 x59)], [O.ints false IntKind.i8 s.p.zs, O.cells true (V.int IntKind.i64 s.p.f :: V.int IntKind.i64 s.p.r :: V.sl 0 0 s.p.zs.length none :: V.bool s.p.bl :: x51), O.cells true (V.int IntKind.u8 2 :: V.bool false :: x54), O.vals true 5 [(evA (let __src := x56; Env.mk __src.ty __src.G __src.pf __src.inl __src.cc __src.pn true) x48 (Go.Operand.tmp 10)).cells, (evA (let __src := x56; Env.mk __src.ty __src.G __src.pf __src.inl __src.cc __src.pn true) x48 (Go.Operand.tmp 11)).cells, (evA (let __src := x56; Env.mk __src.ty __src.G __src.pf __src.inl __src.cc __src.pn true) x48 (Go.Operand.tmp 12)).cells, (evA (let __src := x56; Env.mk __src.ty __src.G __src.pf __src.inl __src.cc __src.pn true) x48 (Go.Operand.tmp 13)).cells]])) rfl ?_ ?_ (fun s9 => ?_)
  ·refine so_triv rfl ?_
   exact so_nrm ((Ent.rn [0, 1, 4, 3] [1, 2, 4, 5, 7, 8, 14, 15, 16, 17, 18, 19, 20, 21, 22, 23, 24, 25, 26, 27, 34, 35, 40, 41, 42, 43, 44, 45, 46, 47, 48, 49, 50, 51, 52, 53, 54, 55, 56, 62] rfl rfl rfl rfl rfl))
  ·exact so_nrm ((Ent.rn [0, 1, 4, 3] [1, 2, 4, 5, 7, 8, 14, 15, 16, 17, 18, 19, 20, 21, 22, 23, 24, 25, 26, 27, 34, 35, 40, 41, 42, 43, 44, 45, 46, 47, 48, 49, 50, 51, 52, 53, 54, 55, 56, 62] rfl rfl rfl rfl rfl))
  exact so_unrm ((Ent.rn [0, 1, 2, 3] [1, 2, 4, 5, 7, 14, 15, 16, 17, 18, 19, 20, 21, 22, 23, 24, 25, 26, 27, 34, 35, 40, 62] rfl rfl rfl rfl rfl))
 refine so_rnd (let x101 := [V.int IntKind.u8 s.p.ca, V.int IntKind.i64 s.p.pa, V.int IntKind.i64 s.p.ha, V.int IntKind.i64 s.p.fu, V.int IntKind.u64 s.own, V.int IntKind.u64 s.all]; let x103 := decide (band Go.BinOp.and IntKind.u8 s.p.ca 4 = 0); let x104 := IntKind.i64.wrap (IntKind.i64.wrap (0 + 1) + 1); let x105 := [V.int IntKind.i64 60, V.int IntKind.i64 63, V.int IntKind.i64 62]; let x106 := EE kCa kDb [(124, c_betw)] []; let x99 := x103 || !s.p.bl == true; let x100 := IntKind.i64.wrap (x104 + 1); let x102 := V.int IntKind.u8 4 :: V.lit true :: x105; let x98 := (13, V.agg [V.int IntKind.u8 8, V.lit true, V.int IntKind.i64 60, V.int IntKind.i64 56, V.int IntKind.i64 58]) :: (12, V.agg x102) :: (11, V.agg [V.int IntKind.u8 2, V.lit false, V.int IntKind.i64 4, V.int IntKind.i64 0, V.int IntKind.i64 2]) :: (10, V.agg [V.int IntKind.u8 1, V.lit false, V.int IntKind.i64 4, V.int IntKind.i64 7, V.int IntKind.i64 6]) :: (5, V.int IntKind.u64 0) :: (4, V.int IntKind.u64 0) :: (2, V.ptr 1 0 0) :: initTm 0 [V.agg (V.int IntKind.i64 s.p.f :: V.int IntKind.i64 s.p.r :: V.sl 0 0 s.p.zs.length none :: Bb s.p.bl :: x101), V.int IntKind.i64 from_]; fun (s15 : Int) => ([(1, V.int IntKind.i64 from_), (2, V.ptr 1 0 0), (4, V.int IntKind.u64 0), (5, V.int IntKind.u64 s15), (7, V.ptr 2 0 0), (14, V.sl 3 0 4 none), (15, V.int IntKind.i64 (Int.ofNat 4)), (16, V.int IntKind.i64 x100), (17, V.bool (decide (x104 < Int.ofNat 4))), (18, V.ptr 3 2 0), (19, V.agg x102), (20, V.ptr 1 0 0), (21, V.ptr 1 0 4), (22, V.int IntKind.u8 s.p.ca), (23, V.ptr 2 0 0), (24, V.int IntKind.u8 4), (25, V.int IntKind.u8 (band Go.BinOp.and IntKind.u8 s.p.ca 4)), (26, V.bool x103), (27, V.bool x103), (34, V.bool x99), (35, V.bool x99), (40, V.bool (x99 || !decide (from_ = 60))), (62, V.int IntKind.i64 x100)], [O.ints false IntKind.i8 s.p.zs, O.cells true (V.int IntKind.i64 s.p.f :: V.int IntKind.i64 s.p.r :: V.sl 0 0 s.p.zs.length none :: V.bool s.p.bl :: x101), O.cells true (V.int IntKind.u8 4 :: V.bool true :: x105), O.vals true 5 [(evA (let __src := x106; Env.mk __src.ty __src.G __src.pf __src.inl __src.cc __src.pn true) x98 (Go.Operand.tmp 10)).cells, (evA (let __src := x106; Env.mk __src.ty __src.G __src.pf __src.inl __src.cc __src.pn true) x98 (Go.Operand.tmp 11)).cells, (evA (let __src := x106; Env.mk __src.ty __src.G __src.pf __src.inl __src.cc __src.pn true) x98 (Go.Operand.tmp 12)).cells, (evA (let __src := x106; Env.mk __src.ty __src.G __src.pf __src.inl __src.cc __src.pn true) x98 (Go.Operand.tmp 13)).cells]])) ?_ (fun s15 => ?_)
 ·refine so_yes hE 2 rfl rfl ?_
  refine so_triv rfl ?_
  refine so_triv (Bool.not_or_self _) ?_
  refine so_triv (Bool.not_or_self _) ?_
  refine so_triv (Bool.not_or_self _) ?_
  refine so_triv (Bool.not_or_self _) ?_
  refine so_triv (Bool.not_or_self _) ?_
  refine so_triv (Bool.or_not_self _) ?_
  refine so_triv (Bool.not_or_self _) ?_
  refine so_triv (Bool.not_or_self _) ?_
  refine so_triv (Bool.not_or_self _) ?_
  refine so_triv (Bool.or_not_self _) ?_
  refine so_split hE 2 rfl ?_ ?_
  ·exact so_unrm ((Ent.rn [0, 1, 4, 3] [1, 2, 4, 5, 7, 14, 15, 16, 17, 18, 19, 20, 21, 22, 23, 24, 25, 26, 27, 34, 35, 40, 62] rfl rfl rfl rfl rfl))
  refine so_triv rfl ?_
  refine so_join hE 2 (let x64 := [V.int IntKind.u8 s.p.ca, V.int IntKind.i64 s.p.pa, V.int IntKind.i64 s.p.ha, V.int IntKind.i64 s.p.fu, V.int IntKind.u64 s.own, V.int IntKind.u64 s.all]; let x66 := decide (band Go.BinOp.and IntKind.u8 s.p.ca 4 = 0); let x67 := IntKind.i64.wrap (IntKind.i64.wrap (0 + 1) + 1); let x68 := [V.int IntKind.i64 60, V.int IntKind.i64 63, V.int IntKind.i64 62]; let x70 := EE kCa kDb [(124, c_betw)] []; let x71 := (betwR s.p.f s.p.r 60 63).snd; let x72 := (betwR s.p.f s.p.r 60 63).fst; let x62 := [V.int IntKind.u64 x72, V.int IntKind.i64 x71]; let x63 := x66 || !s.p.bl == true; let x65 := V.int IntKind.u8 4 :: V.lit true :: x68; let x69 := band Go.BinOp.and IntKind.u64 x72 s.all; let x61 := (13, V.agg [V.int IntKind.u8 8, V.lit true, V.int IntKind.i64 60, V.int IntKind.i64 56, V.int IntKind.i64 58]) :: (12, V.agg x65) :: (11, V.agg [V.int IntKind.u8 2, V.lit false, V.int IntKind.i64 4, V.int IntKind.i64 0, V.int IntKind.i64 2]) :: (10, V.agg [V.int IntKind.u8 1, V.lit false, V.int IntKind.i64 4, V.int IntKind.i64 7, V.int IntKind.i64 6]) :: (5, V.int IntKind.u64 0) :: (4, V.int IntKind.u64 0) :: (2, V.ptr 1 0 0) :: initTm 0 [V.agg (V.int IntKind.i64 s.p.f :: V.int IntKind.i64 s.p.r :: V.sl 0 0 s.p.zs.length none :: Bb s.p.bl :: x64), V.int IntKind.i64 from_]; fun (s13 : Int) => ([(1, V.int IntKind.i64 from_), (2, V.ptr 1 0 0), (4, V.int IntKind.u64 0), (5, V.int IntKind.u64 s13), (7, V.ptr 2 0 0), (8, V.int IntKind.u64 x72), (14, V.sl 3 0 4 none), (15, V.int IntKind.i64 (Int.ofNat 4)), (16, V.int IntKind.i64 x67), (17, V.bool (decide (x67 < Int.ofNat 4))), (18, V.ptr 3 2 0), (19, V.agg x65), (20, V.ptr 1 0 0), (21, V.ptr 1 0 4), (22, V.int IntKind.u8 s.p.ca), (23, V.ptr 2 0 0), (24, V.int IntKind.u8 4), (25, V.int IntKind.u8 (band Go.BinOp.and IntKind.u8 s.p.ca 4)), (26, V.bool x66), (27, V.bool x66), (34, V.bool x63), (35, V.bool x63), (40, V.bool (x63 || !decide (from_ = 60))), (41, V.tup x62), (42, V.ptr 1 0 0), (43, V.ptr 1 0 0), (44, V.agg [V.int IntKind.i64 s.p.f, V.int IntKind.i64 s.p.r]), (45, V.ptr 2 0 2), (46, V.int IntKind.i64 60), (47, V.ptr 2 0 3), (48, V.int IntKind.i64 63), (49, V.tup x62), (50, V.int IntKind.u64 x72), (51, V.int IntKind.i64 x71), (52, V.int IntKind.u64 x72), (53, V.ptr 1 0 9), (54, V.int IntKind.u64 s.all), (55, V.int IntKind.u64 x69), (56, V.bool (decide (x69 = 0))), (62, V.int IntKind.i64 x67)], [O.ints false IntKind.i8 s.p.zs, O.cells true (V.int IntKind.i64 s.p.f :: V.int IntKind.i64 s.p.r :: V.sl 0 0 s.p.zs.length none :: V.bool s.p.bl :: x64), O.cells true (V.int IntKind.u8 4 :: V.bool true :: x68), O.vals true 5 [(evA (let __src := x70; Env.mk __src.ty __src.G __src.pf __src.inl __src.cc __src.pn true) x61 (Go.Operand.tmp 10)).cells, (evA (let __src := x70; Env.mk __src.ty __src.G __src.pf __src.inl __src.cc __src.pn true) x61 (Go.Operand.tmp 11)).cells, (evA (let __src := x70; Env.mk __src.ty __src.G __src.pf __src.inl __src.cc __src.pn true) x61 (Go.Operand.tmp 12)).cells, (evA (let __src := x70; Env.mk __src.ty __src.G __src.pf __src.inl __src.cc __src.pn true) x61 (Go.Operand.tmp 13)).cells]])) rfl ?_ ?_ (fun s13 => ?_)
  ·refine so_triv rfl ?_
   exact so_nrm ((Ent.rn [0, 1, 4, 3] [1, 2, 4, 5, 7, 8, 14, 15, 16, 17, 18, 19, 20, 21, 22, 23, 24, 25, 26, 27, 34, 35, 40, 41, 42, 43, 44, 45, 46, 47, 48, 49, 50, 51, 52, 53, 54, 55, 56, 62] rfl rfl rfl rfl rfl))
  ·exact so_nrm ((Ent.rn [0, 1, 4, 3] [1, 2, 4, 5, 7, 8, 14, 15, 16, 17, 18, 19, 20, 21, 22, 23, 24, 25, 26, 27, 34, 35, 40, 41, 42, 43, 44, 45, 46, 47, 48, 49, 50, 51, 52, 53, 54, 55, 56, 62] rfl rfl rfl rfl rfl))
  exact so_unrm ((Ent.rn [0, 1, 2, 3] [1, 2, 4, 5, 7, 14, 15, 16, 17, 18, 19, 20, 21, 22, 23, 24, 25, 26, 27, 34, 35, 40, 62] rfl rfl rfl rfl rfl))
 refine so_rnd (let x91 := IntKind.i64.wrap (IntKind.i64.wrap (IntKind.i64.wrap (0 + 1) + 1) + 1); let x92 := [V.int IntKind.u8 s.p.ca, V.int IntKind.i64 s.p.pa, V.int IntKind.i64 s.p.ha, V.int IntKind.i64 s.p.fu, V.int IntKind.u64 s.own, V.int IntKind.u64 s.all]; let x94 := decide (band Go.BinOp.and IntKind.u8 s.p.ca 8 = 0); let x95 := [V.int IntKind.i64 60, V.int IntKind.i64 56, V.int IntKind.i64 58]; let x96 := EE kCa kDb [(124, c_betw)] []; let x89 := IntKind.i64.wrap (x91 + 1); let x90 := x94 || !s.p.bl == true; let x93 := V.int IntKind.u8 8 :: V.lit true :: x95; let x88 := (13, V.agg x93) :: (12, V.agg [V.int IntKind.u8 4, V.lit true, V.int IntKind.i64 60, V.int IntKind.i64 63, V.int IntKind.i64 62]) :: (11, V.agg [V.int IntKind.u8 2, V.lit false, V.int IntKind.i64 4, V.int IntKind.i64 0, V.int IntKind.i64 2]) :: (10, V.agg [V.int IntKind.u8 1, V.lit false, V.int IntKind.i64 4, V.int IntKind.i64 7, V.int IntKind.i64 6]) :: (5, V.int IntKind.u64 0) :: (4, V.int IntKind.u64 0) :: (2, V.ptr 1 0 0) :: initTm 0 [V.agg (V.int IntKind.i64 s.p.f :: V.int IntKind.i64 s.p.r :: V.sl 0 0 s.p.zs.length none :: Bb s.p.bl :: x92), V.int IntKind.i64 from_]; fun (s19 : Int) => ([(1, V.int IntKind.i64 from_), (2, V.ptr 1 0 0), (4, V.int IntKind.u64 0), (5, V.int IntKind.u64 s19), (7, V.ptr 2 0 0), (14, V.sl 3 0 4 none), (15, V.int IntKind.i64 (Int.ofNat 4)), (16, V.int IntKind.i64 x89), (17, V.bool (decide (x91 < Int.ofNat 4))), (18, V.ptr 3 3 0), (19, V.agg x93), (20, V.ptr 1 0 0), (21, V.ptr 1 0 4), (22, V.int IntKind.u8 s.p.ca), (23, V.ptr 2 0 0), (24, V.int IntKind.u8 8), (25, V.int IntKind.u8 (band Go.BinOp.and IntKind.u8 s.p.ca 8)), (26, V.bool x94), (27, V.bool x94), (34, V.bool x90), (35, V.bool x90), (40, V.bool (x90 || !decide (from_ = 60))), (62, V.int IntKind.i64 x89)], [O.ints false IntKind.i8 s.p.zs, O.cells true (V.int IntKind.i64 s.p.f :: V.int IntKind.i64 s.p.r :: V.sl 0 0 s.p.zs.length none :: V.bool s.p.bl :: x92), O.cells true (V.int IntKind.u8 8 :: V.bool true :: x95), O.vals true 5 [(evA (let __src := x96; Env.mk __src.ty __src.G __src.pf __src.inl __src.cc __src.pn true) x88 (Go.Operand.tmp 10)).cells, (evA (let __src := x96; Env.mk __src.ty __src.G __src.pf __src.inl __src.cc __src.pn true) x88 (Go.Operand.tmp 11)).cells, (evA (let __src := x96; Env.mk __src.ty __src.G __src.pf __src.inl __src.cc __src.pn true) x88 (Go.Operand.tmp 12)).cells, (evA (let __src := x96; Env.mk __src.ty __src.G __src.pf __src.inl __src.cc __src.pn true) x88 (Go.Operand.tmp 13)).cells]])) ?_ (fun s19 => ?_)
 ·refine so_yes hE 2 rfl rfl ?_
  refine so_triv rfl ?_
  refine so_triv (Bool.not_or_self _) ?_
  refine so_triv (Bool.not_or_self _) ?_
  refine so_triv (Bool.not_or_self _) ?_
  refine so_triv (Bool.not_or_self _) ?_
  refine so_triv (Bool.not_or_self _) ?_
  refine so_triv (Bool.or_not_self _) ?_
  refine so_triv (Bool.not_or_self _) ?_
  refine so_triv (Bool.not_or_self _) ?_
  refine so_triv (Bool.not_or_self _) ?_
  refine so_triv (Bool.or_not_self _) ?_
  refine so_split hE 2 rfl ?_ ?_
  ·exact so_unrm ((Ent.rn [0, 1, 4, 3] [1, 2, 4, 5, 7, 14, 15, 16, 17, 18, 19, 20, 21, 22, 23, 24, 25, 26, 27, 34, 35, 40, 62] rfl rfl rfl rfl rfl))
  refine so_triv rfl ?_
  refine so_join hE 2 (let x77 := IntKind.i64.wrap (IntKind.i64.wrap (IntKind.i64.wrap (0 + 1) + 1) + 1); let x78 := [V.int IntKind.u8 s.p.ca, V.int IntKind.i64 s.p.pa, V.int IntKind.i64 s.p.ha, V.int IntKind.i64 s.p.fu, V.int IntKind.u64 s.own, V.int IntKind.u64 s.all]; let x80 := decide (band Go.BinOp.and IntKind.u8 s.p.ca 8 = 0); let x81 := [V.int IntKind.i64 60, V.int IntKind.i64 56, V.int IntKind.i64 58]; let x83 := EE kCa kDb [(124, c_betw)] []; let x84 := (betwR s.p.f s.p.r 60 56).fst; let x85 := (betwR s.p.f s.p.r 60 56).snd; let x75 := [V.int IntKind.u64 x84, V.int IntKind.i64 x85]; let x76 := x80 || !s.p.bl == true; let x79 := V.int IntKind.u8 8 :: V.lit true :: x81; let x82 := band Go.BinOp.and IntKind.u64 x84 s.all; let x74 := (13, V.agg x79) :: (12, V.agg [V.int IntKind.u8 4, V.lit true, V.int IntKind.i64 60, V.int IntKind.i64 63, V.int IntKind.i64 62]) :: (11, V.agg [V.int IntKind.u8 2, V.lit false, V.int IntKind.i64 4, V.int IntKind.i64 0, V.int IntKind.i64 2]) :: (10, V.agg [V.int IntKind.u8 1, V.lit false, V.int IntKind.i64 4, V.int IntKind.i64 7, V.int IntKind.i64 6]) :: (5, V.int IntKind.u64 0) :: (4, V.int IntKind.u64 0) :: (2, V.ptr 1 0 0) :: initTm 0 [V.agg (V.int IntKind.i64 s.p.f :: V.int IntKind.i64 s.p.r :: V.sl 0 0 s.p.zs.length none :: Bb s.p.bl :: x78), V.int IntKind.i64 from_]; fun (s17 : Int) => ([(1, V.int IntKind.i64 from_), (2, V.ptr 1 0 0), (4, V.int IntKind.u64 0), (5, V.int IntKind.u64 s17), (7, V.ptr 2 0 0), (8, V.int IntKind.u64 x84), (14, V.sl 3 0 4 none), (15, V.int IntKind.i64 (Int.ofNat 4)), (16, V.int IntKind.i64 x77), (17, V.bool (decide (x77 < Int.ofNat 4))), (18, V.ptr 3 3 0), (19, V.agg x79), (20, V.ptr 1 0 0), (21, V.ptr 1 0 4), (22, V.int IntKind.u8 s.p.ca), (23, V.ptr 2 0 0), (24, V.int IntKind.u8 8), (25, V.int IntKind.u8 (band Go.BinOp.and IntKind.u8 s.p.ca 8)), (26, V.bool x80), (27, V.bool x80), (34, V.bool x76), (35, V.bool x76), (40, V.bool (x76 || !decide (from_ = 60))), (41, V.tup x75), (42, V.ptr 1 0 0), (43, V.ptr 1 0 0), (44, V.agg [V.int IntKind.i64 s.p.f, V.int IntKind.i64 s.p.r]), (45, V.ptr 2 0 2), (46, V.int IntKind.i64 60), (47, V.ptr 2 0 3), (48, V.int IntKind.i64 56), (49, V.tup x75), (50, V.int IntKind.u64 x84), (51, V.int IntKind.i64 x85), (52, V.int IntKind.u64 x84), (53, V.ptr 1 0 9), (54, V.int IntKind.u64 s.all), (55, V.int IntKind.u64 x82), (56, V.bool (decide (x82 = 0))), (62, V.int IntKind.i64 x77)], [O.ints false IntKind.i8 s.p.zs, O.cells true (V.int IntKind.i64 s.p.f :: V.int IntKind.i64 s.p.r :: V.sl 0 0 s.p.zs.length none :: V.bool s.p.bl :: x78), O.cells true (V.int IntKind.u8 8 :: V.bool true :: x81), O.vals true 5 [(evA (let __src := x83; Env.mk __src.ty __src.G __src.pf __src.inl __src.cc __src.pn true) x74 (Go.Operand.tmp 10)).cells, (evA (let __src := x83; Env.mk __src.ty __src.G __src.pf __src.inl __src.cc __src.pn true) x74 (Go.Operand.tmp 11)).cells, (evA (let __src := x83; Env.mk __src.ty __src.G __src.pf __src.inl __src.cc __src.pn true) x74 (Go.Operand.tmp 12)).cells, (evA (let __src := x83; Env.mk __src.ty __src.G __src.pf __src.inl __src.cc __src.pn true) x74 (Go.Operand.tmp 13)).cells]])) rfl ?_ ?_ (fun s17 => ?_)
  ·refine so_triv rfl ?_
   exact so_nrm ((Ent.rn [0, 1, 4, 3] [1, 2, 4, 5, 7, 8, 14, 15, 16, 17, 18, 19, 20, 21, 22, 23, 24, 25, 26, 27, 34, 35, 40, 41, 42, 43, 44, 45, 46, 47, 48, 49, 50, 51, 52, 53, 54, 55, 56, 62] rfl rfl rfl rfl rfl))
  ·exact so_nrm ((Ent.rn [0, 1, 4, 3] [1, 2, 4, 5, 7, 8, 14, 15, 16, 17, 18, 19, 20, 21, 22, 23, 24, 25, 26, 27, 34, 35, 40, 41, 42, 43, 44, 45, 46, 47, 48, 49, 50, 51, 52, 53, 54, 55, 56, 62] rfl rfl rfl rfl rfl))
  exact so_unrm ((Ent.rn [0, 1, 2, 3] [1, 2, 4, 5, 7, 14, 15, 16, 17, 18, 19, 20, 21, 22, 23, 24, 25, 26, 27, 34, 35, 40, 62] rfl rfl rfl rfl rfl))
 refine so_rnd (fun (s : Unit) => ([], [])) ?_ so_uend
 refine so_no hE 2 rfl rfl ?_
 refine so_uesc (by simp) ?_
 exact so_ret (fin_bs [] (.inr rfl) rfl rfl rfl rfl rfl)
theorem c_sways_ok : CtOk (GGx kCa kDb) PP (170, c_sways) := by
 refine ct_mk Tryz.func170 (by kernel_rfl) rfl fun a0 h0 c0 v0 N0 e hc => ?_
 unfold c_sways at e
 split at e
 ·rename_i s_0 s_1 s_2n s_3 s_4 s_5 s_6 s_7 s_8 s_9 from__0 s_2
  obtain ⟨hl, r, hr, rfl, rfl⟩ := ret_ok e hc
  simp only [decide_eq_true_eq] at hl
  obtain rfl := hl
  exact sways_snd ⟨⟨s_0, s_1, s_2, s_3, s_4, s_5, s_6, s_7⟩, s_8, s_9⟩ from__0 hr
 ·cases e
def stargets (s : Sgt) (from_ : Int) : Option (Int) := let x10 := Sgt.mk (Psn.mk s.p.f s.p.r (List.take s.p.zs.length (List.drop 0 s.p.zs)) s.p.bl s.p.ca s.p.pa s.p.ha s.p.fu) s.own s.all; let x12 := (pkind (s.p.zs.getD from_.toNat 0)).getD 0; let x11 := (reachR s.p.f s.p.r x12 from_ s.all).fst; needO (decide (0 ≤ from_) && decide (from_ < Int.ofNat s.p.zs.length)) (callO (pkind (s.p.zs.getD from_.toNat 0)) Inhabited.default fun (_y4 : Int) => bif decide (x12 = 1) then callO (spawn x10 from_) 0 fun (y6 : Int) => some y6 else joinO (bif decide (x12 = 6) then callO (sways x10 from_) 0 fun (y7 : Int) => some (Sum.inl (band Go.BinOp.or IntKind.u64 x11 y7)) else some (Sum.inl x11)) fun (s9 : Int) => some (band Go.BinOp.andNot IntKind.u64 s9 s.own))
def stargets_V (R : Int) : V := .int .u64 R
def stargets_N (_R : Int) : List O := []
def c_stargets : CF
 | [.agg [.int .i64 s_0, .int .i64 s_1, .sl 0 0 s_2n none, .bool s_3, .int .u8 s_4, .int .i64 s_5, .int .i64 s_6, .int .i64 s_7, .int .u64 s_8, .int .u64 s_9], .int .i64 from__0], [.ints false .i8 s_2] => retC (decide (s_2n = s_2.length)) (stargets ⟨⟨s_0, s_1, s_2, s_3, s_4, s_5, s_6, s_7⟩, s_8, s_9⟩ from__0) 0 stargets_V stargets_N
 | _, _ => none
theorem stargets_snd (s : Sgt) (from_ : Int) {r} (hr : stargets s from_ = some r) : FnSound (GGx kCa kDb) PP 138 [.agg [.int .i64 s.p.f, .int .i64 s.p.r, .sl 0 0 s.p.zs.length none, Bb s.p.bl, .int .u8 s.p.ca, .int .i64 s.p.pa, .int .i64 s.p.ha, .int .i64 s.p.fu, .int .u64 s.own, .int .u64 s.all], .int .i64 from_] [.ints false .i8 s.p.zs] (stargets_V r) (stargets_N r) := by
 have hE := cutE (EE_ok (kCa := kCa) (kDb := kDb) (cts := [(139, c_pkind), (125, c_reach), (169, c_spawn), (170, c_sways)]) (inl := []) ⟨c_pkind_ok, c_reach_ok, c_spawn_ok, c_sways_ok, trivial⟩ trivial)
 refine so_fn hE 2 Tryz.func138 rfl rfl stargets_V stargets_N hr ?_ rfl rfl
 refine so_need ?_
 refine so_callas (pl rfl id) ?_
 refine so_split hE 2 rfl ?_ ?_
 ·refine so_callas (pl (decide_eq_true (win_len rfl)) id) ?_
  exact so_ret (fin_bs [] (.inr rfl) rfl rfl rfl rfl rfl)
 refine so_triv rfl ?_
 refine so_join hE 2 (fun (s9 : Int) => ([(2, V.ptr 1 0 0), (4, V.int IntKind.u64 0), (6, V.int IntKind.u64 s9)], [O.ints false IntKind.i8 s.p.zs, O.cells true [V.int IntKind.i64 s.p.f, V.int IntKind.i64 s.p.r, V.sl 0 0 s.p.zs.length none, V.bool s.p.bl, V.int IntKind.u8 s.p.ca, V.int IntKind.i64 s.p.pa, V.int IntKind.i64 s.p.ha, V.int IntKind.i64 s.p.fu, V.int IntKind.u64 s.own, V.int IntKind.u64 s.all]])) rfl ?_ ?_ (fun s9 => ?_)
 ·refine so_callas (pl (decide_eq_true (win_len rfl)) id) ?_
  exact so_nrm ((Ent.rn [0, 1] [2, 4, 6] rfl rfl rfl rfl rfl))
 ·exact so_nrm ((Ent.rn [0, 1] [2, 4, 6] rfl rfl rfl rfl rfl))
 exact so_ret (fin_bs [] (.inr rfl) rfl rfl rfl rfl rfl)
theorem c_stargets_ok : CtOk (GGx kCa kDb) PP (138, c_stargets) := by
 refine ct_mk Tryz.func138 (by kernel_rfl) rfl fun a0 h0 c0 v0 N0 e hc => ?_
 unfold c_stargets at e
 split at e
 ·rename_i s_0 s_1 s_2n s_3 s_4 s_5 s_6 s_7 s_8 s_9 from__0 s_2
  obtain ⟨hl, r, hr, rfl, rfl⟩ := ret_ok e hc
  simp only [decide_eq_true_eq] at hl
  obtain rfl := hl
  exact stargets_snd ⟨⟨s_0, s_1, s_2, s_3, s_4, s_5, s_6, s_7⟩, s_8, s_9⟩ from__0 hr
 ·cases e
def tz (x : Int) : Option (Int) := let x2 := (IntKind.u64.wrap (band Go.BinOp.and IntKind.u64 x (IntKind.u64.wrap (0 - x)) * 285870213051353865)).fdiv (2 ^ Min.min (Int.toNat 58) IntKind.u64.bits); bif decide (x = 0) then some 64 else needO (decide (0 ≤ x2) && decide (x2 < Int.ofNat 64)) (some (IntKind.i64.wrap (brujT.getD x2.toNat 0)))
def tz_V (R : Int) : V := .int .i64 R
def tz_N (_R : Int) : List O := []
def c_tz : CF
 | [.int .u64 x_0], [] => retC true (tz x_0) 0 tz_V tz_N
 | _, _ => none
theorem tz_snd (x : Int) {r} (hr : tz x = some r) : FnSound (GGx kCa true) PP 137 [.int .u64 x] [] (tz_V r) (tz_N r) := by
 have hE := cutE (EE_ok (kCa := kCa) (kDb := true) (cts := []) (inl := []) trivial trivial)
 refine so_fn hE 2 Tryz.func137 rfl rfl tz_V tz_N hr ?_ rfl rfl
 refine so_split hE 2 rfl ?_ ?_
 ·exact so_ret (fin_bs [] (.inr rfl) rfl rfl rfl rfl rfl)
 refine so_triv rfl ?_
 refine so_need ?_
 exact so_ret (fin_bs [] (.inr rfl) rfl rfl rfl rfl rfl)
theorem c_tz_ok : CtOk (GGx kCa true) PP (137, c_tz) := by
 refine ct_mk Tryz.func137 (by kernel_rfl) rfl fun a0 h0 c0 v0 N0 e hc => ?_
 unfold c_tz at e
 split at e
 ·rename_i x_0
  obtain ⟨hl, r, hr, rfl, rfl⟩ := ret_ok e hc
  exact tz_snd x_0 hr
 ·cases e
end Go.Ab

set_option maxRecDepth 100000
set_option maxHeartbeats 4000000
namespace Go.Ab
open Go.Proofs
variable {kCa : Bool}
def tzf (x : Int) : Int := (tz x).getD 0
def andPred (x : Int) : Int := uand x (IntKind.u64.wrap (x - 1))
theorem e58 : (2 : Int) ^ Min.min (Int.toNat 58) IntKind.u64.bits = 288230376151711744 := by decide
theorem w0 (y : Int) : 0 ≤ IntKind.u64.wrap y ∧ IntKind.u64.wrap y < 18446744073709551616 := by
 rw [u64_wrap]
 exact ⟨Int.emod_nonneg _ (by decide), Int.emod_lt_of_pos _ (by decide)⟩
theorem d58 (z : Int) (h2 : 0 ≤ z ∧ z < 18446744073709551616) : (decide (0 ≤ z.fdiv 288230376151711744) && decide (z.fdiv 288230376151711744 < Int.ofNat 64)) = true := by
 have h3 : z.fdiv 288230376151711744 = z / 288230376151711744 := Int.fdiv_eq_ediv_of_nonneg _ (by decide)
 rw [h3]
 have h4 : decide (0 ≤ z / 288230376151711744) = true := by simp; omega
 have h5 : decide (z / 288230376151711744 < Int.ofNat 64) = true := by
  rw [decide_eq_true_eq]; show z / 288230376151711744 < 64; omega
 rw [h4, h5]; rfl
theorem tz_some (x : Int) : (tz x).isSome = true := by
 unfold tz
 cases decide (x = 0)
 ·rw [cond_false, e58, d58 _ (w0 _)]; rfl
 ·rfl
def eachGo : Nat → Int → List Int
 | 0, _ => []
 | k + 1, s => bif decide (s = 0) then [] else tzf s :: eachGo k (andPred s)
def eachL (s : Int) : List Int := eachGo 66 s
theorem andPred_u (x : Int) : Uk (andPred x) := uk_and _ _
theorem low_bit (n : Nat) (h : n ≠ 0) : ∃ t k, n = 2 ^ t * (2 * k + 1) := by
 induction n using Nat.strongRecOn with
 | _ n ih =>
  by_cases ho : n % 2 = 1
  ·exact ⟨0, n / 2, by omega⟩
  ·obtain ⟨t, k, e⟩ := ih (n / 2) (by omega) (by omega)
   exact ⟨t + 1, k, by rw [Nat.pow_succ, Nat.mul_assoc, Nat.mul_comm 2, ← Nat.mul_assoc, ← e]; omega⟩
theorem bit_odd (t k j : Nat) : (2 ^ t * (2 * k + 1)).testBit j = (decide (t ≤ j) && (decide (j = t) || k.testBit (j - t - 1))) := by
 rw [Nat.testBit_two_pow_mul]
 by_cases h : t ≤ j
 ·by_cases e : j = t
  ·subst e; simp
  ·obtain ⟨i, rfl⟩ : ∃ i, j = t + 1 + i := ⟨j - t - 1, by omega⟩
   have e1 : t + 1 + i - t = i + 1 := by omega
   have e2 : t + 1 + i - t - 1 = i := by omega
   rw [e1]
   have e3 : (2 * k + 1).testBit (i + 1) = k.testBit i := by rw [Nat.testBit_succ]; congr 1; omega
   simp only [e3, decide_eq_true h, decide_eq_false e, Bool.true_and, Bool.false_or, Nat.add_sub_cancel]
 ·simp [h]
theorem bit_pred (t k j : Nat) : (2 ^ t * (2 * k + 1) - 1).testBit j = (decide (j < t) || (!decide (j = t) && k.testBit (j - t - 1))) := by
 have hp : 0 < 2 ^ t := Nat.two_pow_pos t
 have e : 2 ^ t * (2 * k + 1) - 1 = 2 ^ t * (2 * k) + (2 ^ t - 1) := by rw [Nat.mul_add]; omega
 rw [e, Nat.testBit_two_pow_mul_add _ (by omega)]
 by_cases h : j < t
 ·rw [if_pos h, Nat.testBit_two_pow_sub_one]; simp [h]
 ·rw [if_neg h]
  by_cases e2 : j = t
  ·subst e2; simp
  ·obtain ⟨i, rfl⟩ : ∃ i, j = t + 1 + i := ⟨j - t - 1, by omega⟩
   have e1 : t + 1 + i - t = i + 1 := by omega
   have e4 : t + 1 + i - t - 1 = i := by omega
   rw [e1, Nat.testBit_succ, show 2 * k / 2 = k by omega]
   simp only [decide_eq_false h, decide_eq_false e2, Bool.false_or, Bool.not_false, Bool.true_and, Nat.add_sub_cancel]
theorem low_u {x : Int} (hu : Uk x) (h0 : x ≠ 0) : ∃ t k : Nat, t < 64 ∧ x.toNat = 2 ^ t * (2 * k + 1) := by
 obtain ⟨t, k, e⟩ := low_bit x.toNat (by have := hu.1; omega)
 refine ⟨t, k, ?_, e⟩
 refine Decidable.byContradiction fun h => ?_
 have h1 : 2 ^ 64 ≤ 2 ^ t := Nat.pow_le_pow_right (by decide) (by omega)
 have h2 : 2 ^ t ≤ x.toNat := by rw [e]; exact Nat.le_mul_of_pos_right _ (by omega)
 have := hu.2
 omega
theorem uk_pow {t : Nat} (ht : t < 64) : Uk ((2 ^ t : Nat) : Int) := by
 have : (2 : Nat) ^ t < 2 ^ 64 := Nat.pow_lt_pow_right (by decide) ht
 exact ⟨Int.natCast_nonneg _, by omega⟩
theorem neg_and {x : Int} (hu : Uk x) {t k : Nat} (ht : t < 64) (e : x.toNat = 2 ^ t * (2 * k + 1)) : uand x (IntKind.u64.wrap (0 - x)) = ((2 ^ t : Nat) : Int) := by
 have hw : Uk (IntKind.u64.wrap (0 - x)) := w0 _
 have hp : 0 < 2 ^ t := Nat.two_pow_pos t
 have hpos : 0 < x.toNat := by rw [e]; exact Nat.mul_pos hp (by omega)
 have hn : (IntKind.u64.wrap (0 - x)).toNat = 2 ^ 64 - (x.toNat - 1 + 1) := by
  rw [u64_wrap]
  have h1 := hu.1
  have h2 := hu.2
  have : (0 - x) % 18446744073709551616 = 18446744073709551616 - x := by omega
  rw [this]; omega
 refine uk_ext (uk_and _ _) (uk_pow ht) fun j hj => ?_
 rw [bt_and hu hw]
 unfold bt
 rw [hn, Nat.testBit_two_pow_sub_succ (by have := hu.2; omega), e, bit_odd, bit_pred, Int.toNat_natCast, Nat.testBit_two_pow]
 by_cases h1 : j < t
 ·rw [decide_eq_true h1, decide_eq_false (show ¬ t ≤ j by omega), decide_eq_false (show ¬ t = j by omega)]; rfl
 ·by_cases h2 : j = t
  ·rw [decide_eq_false h1, decide_eq_true h2, decide_eq_true (show t ≤ j by omega), decide_eq_true hj, decide_eq_true h2.symm]; rfl
  ·rw [decide_eq_false h1, decide_eq_false h2, decide_eq_true (show t ≤ j by omega), decide_eq_true hj, decide_eq_false (show ¬ t = j by omega)]
   cases k.testBit (j - t - 1) <;> rfl
theorem bruj_all : ∀ t : _root_.Fin 64, IntKind.i64.wrap (brujT.getD ((IntKind.u64.wrap (((2 ^ t.val : Nat) : Int) * 285870213051353865)).fdiv 288230376151711744).toNat 0) = ((t.val : Nat) : Int) := by decide +kernel
theorem getD_need (v : Int) : (needO true (some v)).getD 0 = v := rfl
theorem tz_form {x : Int} (h : x ≠ 0) {z : Int} (hz : band Go.BinOp.and IntKind.u64 x (IntKind.u64.wrap (0 - x)) = z) : tzf x = IntKind.i64.wrap (brujT.getD ((IntKind.u64.wrap (z * 285870213051353865)).fdiv 288230376151711744).toNat 0) := by
 unfold tzf tz
 rw [decide_eq_false h, cond_false, e58, d58 _ (w0 _), getD_need, hz]
theorem tzf_low {x : Int} (hu : Uk x) {t k : Nat} (ht : t < 64) (e : x.toNat = 2 ^ t * (2 * k + 1)) : tzf x = t := by
 have hp : 0 < 2 ^ t := Nat.two_pow_pos t
 have hpos : 0 < x.toNat := by rw [e]; exact Nat.mul_pos hp (by omega)
 exact (tz_form (by omega) (neg_and hu ht e)).trans (bruj_all ⟨t, ht⟩)
theorem pred_bt {x : Int} (hu : Uk x) {t k : Nat} (_ht : t < 64) (e : x.toNat = 2 ^ t * (2 * k + 1)) (j : Nat) : bt (andPred x) j = (bt x j && !decide (j = t)) := by
 have hp : 0 < 2 ^ t := Nat.two_pow_pos t
 have hpos : 0 < x.toNat := by rw [e]; exact Nat.mul_pos hp (by omega)
 have h1 := hu.1
 have h2 := hu.2
 have hw : IntKind.u64.wrap (x - 1) = x - 1 := u64_id ⟨by omega, by omega⟩
 unfold andPred
 rw [hw, bt_and hu ⟨by omega, by omega⟩]
 unfold bt
 rw [show (x - 1).toNat = x.toNat - 1 by omega, e, bit_odd, bit_pred]
 by_cases h1 : j < t
 ·rw [decide_eq_true h1, decide_eq_false (show ¬ t ≤ j by omega)]; rfl
 ·by_cases h2 : j = t
  ·rw [decide_eq_false h1, decide_eq_true h2]; simp
  ·rw [decide_eq_false h1, decide_eq_false h2, decide_eq_true (show t ≤ j by omega)]
   cases k.testBit (j - t - 1) <;> rfl
def bitL (x : Int) : List Int := ((List.range 64).filter (bt x)).map Int.ofNat
theorem filter_none {α : Type} {p : α → Bool} {l : List α} (h : ∀ a ∈ l, p a = false) : l.filter p = [] := by
 rw [List.filter_eq_nil_iff]; exact fun a ha => by rw [h a ha]; decide
theorem bitL_cons {x : Int} (hu : Uk x) {t k : Nat} (ht : t < 64) (e : x.toNat = 2 ^ t * (2 * k + 1)) : bitL x = (t : Int) :: bitL (andPred x) := by
 have hr : List.range 64 = List.range' 0 t ++ t :: List.range' (t + 1) (63 - t) := by
  rw [List.range_eq_range', show 64 = t + (1 + (63 - t)) by omega, ← List.range'_append_1, ← List.range'_append_1]
  simp [Nat.add_comm]
 have hlow : ∀ j ∈ List.range' 0 t, bt x j = false := by
  intro j hj
  have := List.mem_range'_1.1 hj
  unfold bt
  rw [e, bit_odd, decide_eq_false (show ¬ t ≤ j by omega)]; rfl
 have ht1 : bt x t = true := by unfold bt; rw [e, bit_odd]; simp
 unfold bitL
 rw [hr, List.filter_append, List.filter_append, filter_none hlow, filter_none (p := bt (andPred x)) (l := List.range' 0 t) (fun j hj => by rw [pred_bt hu ht e, hlow j hj]; rfl), List.filter_cons, List.filter_cons, ht1, pred_bt hu ht e, ht1]
 have h2 : (List.range' (t + 1) (63 - t)).filter (bt (andPred x)) = (List.range' (t + 1) (63 - t)).filter (bt x) := by
  refine List.filter_congr fun j hj => ?_
  have := List.mem_range'_1.1 hj
  rw [pred_bt hu ht e, decide_eq_false (show ¬ j = t by omega)]; simp
 rw [h2]
 simp
theorem bitL_0 : bitL 0 = [] := by unfold bitL; rw [filter_none fun j _ => bt_0 j]; rfl
theorem bitL_len (x : Int) : (bitL x).length ≤ 64 := by
 unfold bitL
 rw [List.length_map]
 exact Nat.le_trans (List.length_filter_le _ _) (by simp)
theorem each_go : ∀ (n : Nat) {x : Int}, Uk x → (bitL x).length < n → eachGo n x = bitL x
 | 0, _, _, h => absurd h (by omega)
 | n + 1, x, hu, h => by
  unfold eachGo
  by_cases h0 : x = 0
  ·subst h0; rw [bitL_0]; rfl
  ·obtain ⟨t, k, ht, e⟩ := low_u hu h0
   have hc := bitL_cons hu ht e
   rw [hc] at h ⊢
   rw [decide_eq_false h0, cond_false, tzf_low hu ht e, each_go n (andPred_u x) (by simpa using h)]
theorem eachL_eq {x : Int} (hu : Uk x) : eachL x = bitL x := each_go 66 hu (by have := bitL_len x; omega)
theorem eachL_sq (s : Int) : SqSound (GGx kCa true) PP 136 [[U s]] ((eachL s).map fun x => [I x]) := by
 have hE := EE_ok (kCa := kCa) (kDb := true) (cts := [(137, c_tz)]) (inl := []) ⟨c_tz_ok, trivial⟩ trivial
 refine sq_sound hE Tryz.func136 rfl rfl rfl rfl fun nn l S0 ρc J ok => ?_
 refine YG.seq (YG.seg hE 2 ?_)
 repeat (first | refine sat_self ?_ | refine sat_nd ?_)
 refine sat_ret ?_
 refine YG.block (YG.loop (fun a : Nat × Int => (some a.1, [(0, .yl 1), (1, .ptr 0 0 0), (3, U a.2)], hp0 [[U s]]))
  (fun a => a.1 ≤ (eachL s).length ∧ a.1 ≤ 65 ∧ (eachL s).drop a.1 = eachGo (66 - a.1) a.2 ∧ (a.1 = 0 ∨ (Uk a.2 ∧ (bitL a.2).length + a.1 ≤ 65)))
  (fun a => 66 - a.1) (0, s) rfl (Ent.ren [0, 1] [0, 1, 3] rfl rfl rfl) ⟨Nat.zero_le _, Nat.zero_le _, rfl, .inl rfl⟩ ?_)
 rintro ⟨i, x⟩ ⟨i1, i2, i3, i4⟩
 dsimp only at i1 i2 i3 i4 ⊢
 refine YG.seq (YG.seg hE 2 ?_)
 repeat (first | refine sat_self ?_ | refine sat_nd ?_)
 refine sat_br (fun h1 => sat_ret ?_) (fun h1 => sat_ret ?_)
 ·have h0 : x ≠ 0 := by simpa using h1
  have hi : i ≤ 64 := by
   rcases i4 with h | ⟨hu, h⟩
   ·omega
   ·obtain ⟨t, k, ht, e⟩ := low_u hu h0
    rw [bitL_cons hu ht e, List.length_cons] at h
    omega
  have hgo : eachGo (66 - i) x = tzf x :: eachGo (66 - (i + 1)) (andPred x) := by
   rw [show 66 - i = (66 - (i + 1)) + 1 by omega, eachGo, decide_eq_false h0, cond_false]
  rw [hgo] at i3
  have hlt : i < (eachL s).length := by
   have := congrArg List.length i3
   simp only [List.length_drop, List.length_cons] at this
   omega
  have hat : (eachL s)[i]? = some (tzf x) := by
   have := congrArg (fun l : List Int => l[0]?) i3
   simpa using this
  have hdr : (eachL s).drop (i + 1) = eachGo (66 - (i + 1)) (andPred x) := by
   have := congrArg (List.drop 1) i3
   simpa [List.drop_drop, Nat.add_comm] using this
  refine YG.seq (YG.block (YG.seq (YG.yregAt ok 2 3 rfl rfl rfl ?_)))
  repeat (first | (first | refine sat_self ?_ | refine sat_nd ?_) | refine sat_need (by simp [tz_some]) ?_)
  refine sat_ret ?_
  refine ⟨i, [I (tzf x)], [0, 1, 3], rfl, by simp [hat], rfl, rfl, rfl, rfl, fun b => ?_⟩
  cases b with
  | true =>
   refine sat_ret ?_
   refine YG.seg hE 2 ?_
   refine sat_ret ?_
   refine YG.seg hE 2 ?_
   repeat (first | refine sat_self ?_ | refine sat_nd ?_)
   refine sat_ret ⟨(i + 1, andPred x), ?_, ?_, rfl, Ent.ren [0, 1] [0, 1, 3] rfl rfl rfl⟩
   ·dsimp only
    refine ⟨hlt, by omega, hdr, .inr ⟨andPred_u x, ?_⟩⟩
    rcases i4 with h | ⟨hu, h⟩
    ·have := bitL_len (andPred x); omega
    ·obtain ⟨t, k, ht, e⟩ := low_u hu h0
     rw [bitL_cons hu ht e, List.length_cons] at h
     omega
   ·dsimp only; omega
  | false =>
   refine sat_ret ?_
   refine YG.seg hE 2 ?_
   exact sat_ret ⟨.inr rfl, .inr rfl⟩
 ·have h0 : x = 0 := by simpa using h1
  rw [h0] at i3
  have hlen : i = (eachL s).length := by
   have : eachGo (66 - i) 0 = [] := by rw [show 66 - i = (65 - i) + 1 by omega]; rfl
   rw [this] at i3
   have := congrArg List.length i3
   simp only [List.length_drop, List.length_nil] at this
   omega
  exact ⟨.inl rfl, .inl (by simp [← hlen])⟩
end Go.Ab

set_option maxRecDepth 100000
set_option maxHeartbeats 4000000
namespace Go.Ab
open Go.Proofs
variable {kCa kDb : Bool}
def sfrom_s1 : Int → Int → List (List Int) × Int → Option (List (List Int) × Int ⊕ List (List Int) ⊕ List (List Int) ⊕ List (List Int) ⊕ List (List Int)) := fun (at_ e4 : Int) (s25 : List (List Int) × Int) => let x39 := (s25.1.length + 1) * 24; bif decide (s25.2 ≤ 5) then needO (decide (x39 ≤ 140737488355328)) (some (Sum.inl (s25.1 ++ List.take 1 (List.drop 0 [iL [at_, e4, s25.2]]), IntKind.i8.wrap (s25.2 + 1)))) else some (Sum.inr (Sum.inl s25.1))
def sfrom_s2 : Sgt → Int → (Int → Int → List (List Int) × Int → Option (List (List Int) × Int ⊕ List (List Int) ⊕ List (List Int) ⊕ List (List Int) ⊕ List (List Int))) → Int → List (List Int) → Option (List (List Int) ⊕ List (List Int) ⊕ List (List Int)) := fun (s : Sgt) (at_ : Int) (sfrom_s1 : Int → Int → List (List Int) × Int → Option (List (List Int) × Int ⊕ List (List Int) ⊕ List (List Int) ⊕ List (List Int) ⊕ List (List Int))) => let x42 := Sgt.mk (Psn.mk s.p.f s.p.r (List.take s.p.zs.length (List.drop 0 s.p.zs)) s.p.bl s.p.ca s.p.pa s.p.ha s.p.fu) s.own s.all; let x43 := (pkind (s.p.zs.getD at_.toNat 0)).getD 0; let x41 := !decide (x43 = 1); fun (e4 : Int) (s20 : List (List Int)) => let x46 := (s20.length + 1) * 24; needO (decide (0 ≤ at_) && decide (at_ < Int.ofNat s.p.zs.length)) (callO (pkind (s.p.zs.getD at_.toNat 0)) Inhabited.default fun (_y21 : Int) => needO (!!x41 || (plast x42 e4).isSome) (bif x41 || !(plast x42 e4).getD false then needO (decide (x46 ≤ 140737488355328)) (some (Sum.inl (s20 ++ List.take 1 (List.drop 0 [iL [at_, e4, 0]])))) else loopO (sfrom_s1 at_ e4) (fun (s33 : List (List Int)) => some (Sum.inl s33)) 1000000 (s20, 2)))
def sfrom (s : Sgt) (at_ : Int) : Option (List (List Int)) := let x50 := band Go.BinOp.and IntKind.u64 (s.own.fdiv (2 ^ Min.min at_.toNat IntKind.u64.bits)) 1; needO (decide (0 ≤ at_)) (bif decide (x50 = 0) then some [] else callO (stargets (Sgt.mk (Psn.mk s.p.f s.p.r (List.take s.p.zs.length (List.drop 0 s.p.zs)) s.p.bl s.p.ca s.p.pa s.p.ha s.p.fu) s.own s.all) at_) 0 fun (y3 : Int) => rangeO (sfrom_s2 s at_ sfrom_s1) (fun (s20 : List (List Int)) => some s20) (fun (_s20 : List (List Int)) => none) (eachL y3) [])
def sfrom_V (R : List (List Int)) : V := .sl 1 0 R.length none
def sfrom_N (R : List (List Int)) : List O := [.rows true [.i64, .i64, .i8] R]
def c_sfrom : CF
 | [.agg [.int .i64 s_0, .int .i64 s_1, .sl 0 0 s_2n none, .bool s_3, .int .u8 s_4, .int .i64 s_5, .int .i64 s_6, .int .i64 s_7, .int .u64 s_8, .int .u64 s_9], .int .i64 at__0], [.ints false .i8 s_2] => retC (decide (s_2n = s_2.length)) (sfrom ⟨⟨s_0, s_1, s_2, s_3, s_4, s_5, s_6, s_7⟩, s_8, s_9⟩ at__0) [] sfrom_V sfrom_N
 | _, _ => none
theorem sfrom_snd (s : Sgt) (at_ : Int) {r} (hr : sfrom s at_ = some r) : FnSound (GGx kCa true) PP 77 [.agg [.int .i64 s.p.f, .int .i64 s.p.r, .sl 0 0 s.p.zs.length none, Bb s.p.bl, .int .u8 s.p.ca, .int .i64 s.p.pa, .int .i64 s.p.ha, .int .i64 s.p.fu, .int .u64 s.own, .int .u64 s.all], .int .i64 at_] [.ints false .i8 s.p.zs] (sfrom_V r) (sfrom_N r) := by
 have hE := cutE (EE_ok (kCa := kCa) (kDb := true) (cts := [(139, c_pkind), (138, c_stargets), (140, c_plast)]) (inl := [(76, Tryz.f76)]) ⟨c_pkind_ok, c_stargets_ok, c_plast_ok, trivial⟩ ⟨⟨Tryz.func76, by kernel_rfl⟩, trivial⟩)
 refine so_fn hE 2 Tryz.func77 rfl rfl sfrom_V sfrom_N hr ?_ rfl rfl
 refine so_need ?_
 refine so_split hE 2 rfl ?_ ?_
 ·exact so_ret (fin_phT 4 (.rows true [.i64, .i64, .i8] []) rfl rfl rfl <| fin_bs [3] (.inr rfl) rfl rfl rfl rfl rfl)
 refine so_callas (pl (decide_eq_true (win_len rfl)) id) ?_
 refine so_range hE 2 5 (fun (s20 : List (List Int)) => [O.ints false IntKind.i8 s.p.zs, O.cells true [V.int IntKind.i64 s.p.f, V.int IntKind.i64 s.p.r, V.sl 0 0 s.p.zs.length none, V.bool s.p.bl, V.int IntKind.u8 s.p.ca, V.int IntKind.i64 s.p.pa, V.int IntKind.i64 s.p.ha, V.int IntKind.i64 s.p.fu, V.int IntKind.u64 s.own, V.int IntKind.u64 s.all], O.cells true [V.int IntKind.i64 at_], O.cells true [V.sl 5 0 s20.length none], O.cells true [V.int IntKind.u64 ((stargets (Sgt.mk (Psn.mk s.p.f s.p.r (List.take s.p.zs.length (List.drop 0 s.p.zs)) s.p.bl s.p.ca s.p.pa s.p.ha s.p.fu) s.own s.all) at_).getD 0)], O.rows true [IntKind.i64, IntKind.i64, IntKind.i8] s20]) (fun (s20 : List (List Int)) => [O.ints false IntKind.i8 s.p.zs, O.cells true [V.int IntKind.i64 s.p.f, V.int IntKind.i64 s.p.r, V.sl 0 0 s.p.zs.length none, V.bool s.p.bl, V.int IntKind.u8 s.p.ca, V.int IntKind.i64 s.p.pa, V.int IntKind.i64 s.p.ha, V.int IntKind.i64 s.p.fu, V.int IntKind.u64 s.own, V.int IntKind.u64 s.all], O.cells true [V.int IntKind.i64 at_], O.cells true [V.sl 5 0 s20.length none], O.cells true [V.int IntKind.u64 ((stargets (Sgt.mk (Psn.mk s.p.f s.p.r (List.take s.p.zs.length (List.drop 0 s.p.zs)) s.p.bl s.p.ca s.p.pa s.p.ha s.p.fu) s.own s.all) at_).getD 0)], O.rows true [IntKind.i64, IntKind.i64, IntKind.i8] s20]) 0 (eachL ((stargets (Sgt.mk (Psn.mk s.p.f s.p.r (List.take s.p.zs.length (List.drop 0 s.p.zs)) s.p.bl s.p.ca s.p.pa s.p.ha s.p.fu) s.own s.all) at_).getD 0)) (fun (e4 : Int) => [V.int IntKind.i64 e4]) (fun (e4 : Int) (s20 : List (List Int)) => (6, V.int IntKind.i64 e4) :: putPs (#[18] : Array Nat).toList [V.int IntKind.i64 e4] [(2, V.ptr 1 0 0), (3, V.ptr 2 0 0), (4, V.nils), (5, V.ptr 3 0 0), (17, V.fn 136 [V.ptr 4 0 0])]) [4] [2, 3, 4, 5, 17] ((Ent.rn [0, 1, 2, 3, 4] [2, 3, 4, 5, 17] rfl rfl rfl rfl rfl).trans ((Ent.phC 3 0 (O.rows true [IntKind.i64, IntKind.i64, IntKind.i8] []) rfl rfl rfl rfl rfl).trans (Ent.rn [0, 1, 2, 3, 4, 5] [2, 3, 4, 5, 17] rfl rfl rfl rfl rfl))) (eachL_sq _) (fun _ => rfl) (ent Tryz.func136 (by kernel_rfl) rfl) rfl rfl rfl rfl rfl rfl (fun _ => rfl) (fun _ => rfl) (fun _ _ => rfl) (fun e4 s20 => ?_) (fun s20 => ?_) (fun s20 => so_none)
 ·refine so_need ?_
  refine so_callas (pl rfl id) ?_
  refine so_triv (Bool.not_or_self _) ?_
  refine so_triv (Bool.not_or_self _) ?_
  refine so_as (pi (pl (decide_eq_true (win_len rfl)) id)) ?_
  refine so_triv (Bool.not_or_self _) ?_
  refine so_triv (Bool.or_not_self _) ?_
  refine so_split hE 2 rfl ?_ ?_
  ·refine so_as (pr (pl (decide_eq_true rfl) id) rfl) ?_
   exact so_rnext ((Ent.rn [0, 1, 2, 3, 4, 7] [] rfl rfl rfl rfl rfl))
  refine so_loop hE 2 (fun (s25 : List (List Int) × Int) => ([(3, V.ptr 2 0 0), (5, V.ptr 3 0 0), (6, V.int IntKind.i64 e4), (7, V.int IntKind.i8 s25.2)], [O.ints false IntKind.i8 s.p.zs, O.cells true [V.int IntKind.i64 s.p.f, V.int IntKind.i64 s.p.r, V.sl 0 0 s.p.zs.length none, V.bool s.p.bl, V.int IntKind.u8 s.p.ca, V.int IntKind.i64 s.p.pa, V.int IntKind.i64 s.p.ha, V.int IntKind.i64 s.p.fu, V.int IntKind.u64 s.own, V.int IntKind.u64 s.all], O.cells true [V.int IntKind.i64 at_], O.cells true [V.sl 5 0 s25.1.length none], O.cells true [V.int IntKind.u64 ((stargets (Sgt.mk (Psn.mk s.p.f s.p.r (List.take s.p.zs.length (List.drop 0 s.p.zs)) s.p.bl s.p.ca s.p.pa s.p.ha s.p.fu) s.own s.all) at_).getD 0)], O.rows true [IntKind.i64, IntKind.i64, IntKind.i8] s25.1])) (fun (s33 : List (List Int)) => ([], [O.ints false IntKind.i8 s.p.zs, O.cells true [V.int IntKind.i64 s.p.f, V.int IntKind.i64 s.p.r, V.sl 0 0 s.p.zs.length none, V.bool s.p.bl, V.int IntKind.u8 s.p.ca, V.int IntKind.i64 s.p.pa, V.int IntKind.i64 s.p.ha, V.int IntKind.i64 s.p.fu, V.int IntKind.u64 s.own, V.int IntKind.u64 s.all], O.cells true [V.int IntKind.i64 at_], O.cells true [V.sl 5 0 s33.length none], O.cells true [V.int IntKind.u64 ((stargets (Sgt.mk (Psn.mk s.p.f s.p.r (List.take s.p.zs.length (List.drop 0 s.p.zs)) s.p.bl s.p.ca s.p.pa s.p.ha s.p.fu) s.own s.all) at_).getD 0)], O.rows true [IntKind.i64, IntKind.i64, IntKind.i8] s33])) (.exit 2) ((Ent.rn [0, 1, 2, 3, 4, 5] [3, 5, 6, 7] rfl rfl rfl rfl rfl)) (fun s25 => ?_) (fun s33 => ?_)
  ·refine so_split hE 2 rfl ?_ ?_
   ·refine so_as (pr (pl (decide_eq_true rfl) id) rfl) ?_
    exact so_next ((Ent.rn [0, 1, 2, 3, 4, 7] [3, 5, 6, 7] rfl rfl rfl rfl rfl))
   exact so_exit ((Ent.rn [0, 1, 2, 3, 4, 5] [] rfl rfl rfl rfl rfl))
  exact so_rnext ((Ent.rn [0, 1, 2, 3, 4, 5] [] rfl rfl rfl rfl rfl))
 exact so_ret (fin_bs [5] (.inr rfl) rfl rfl rfl rfl rfl)
theorem c_sfrom_ok : CtOk (GGx kCa true) PP (77, c_sfrom) := by
 refine ct_mk Tryz.func77 (by kernel_rfl) rfl fun a0 h0 c0 v0 N0 e hc => ?_
 unfold c_sfrom at e
 split at e
 ·rename_i s_0 s_1 s_2n s_3 s_4 s_5 s_6 s_7 s_8 s_9 at__0 s_2
  obtain ⟨hl, r, hr, rfl, rfl⟩ := ret_ok e hc
  simp only [decide_eq_true_eq] at hl
  obtain rfl := hl
  exact sfrom_snd ⟨⟨s_0, s_1, s_2, s_3, s_4, s_5, s_6, s_7⟩, s_8, s_9⟩ at__0 hr
 ·cases e
def pmoves_s1 : Psn → Sgt → Int → List (List Int) → Option (List (List Int) ⊕ List (List Int) ⊕ List (List Int) × Int) := fun (p : Psn) (y2 : Sgt) => let x13 := (List.take y2.p.zs.length (List.drop 0 p.zs)).length; fun (e3 : Int) (s7 : List (List Int)) => needO (decide (y2.p.zs.length = x13)) (callO (sfrom (Sgt.mk (Psn.mk y2.p.f y2.p.r (List.take y2.p.zs.length (List.drop 0 p.zs)) y2.p.bl y2.p.ca y2.p.pa y2.p.ha y2.p.fu) y2.own y2.all) e3) [] fun (y8 : List (List Int)) => let x17 := (s7.length + y8.length) * 24; needO (decide (x17 ≤ 140737488355328) && !Nat.beq 4 (1 - hlen ([] ++ [O.ints false IntKind.i8 (List.take y2.p.zs.length (List.drop 0 p.zs))]) + 4 + 1)) (some (Sum.inl (s7 ++ List.take y8.length (List.drop 0 y8)))))
def pmoves (p : Psn) : Option (List (List Int) × Int) := let x21 := List.take p.zs.length (List.drop 0 p.zs); let x19 := Psn.mk p.f p.r x21 p.bl p.ca p.pa p.ha p.fu; let x20 := x21.length; needO (decide (x20 ≤ 64)) (bif !x19.ok then some ([], 2) else callO (plook x19) (Sgt.mk (Psn.mk 0 0 [] false 0 0 0 0) 0 0) fun (y2 : Sgt) => rangeO (pmoves_s1 p y2) (fun (s7 : List (List Int)) => some (s7, 0)) (fun (_s7 : List (List Int)) => none) (eachL y2.own) [])
def pmoves_V (R : List (List Int) × Int) : V := .tup [.sl 1 0 R.1.length none, .int .i64 R.2]
def pmoves_N (R : List (List Int) × Int) : List O := [.rows true [.i64, .i64, .i8] R.1]
def c_pmoves : CF
 | [.agg [.int .i64 p_0, .int .i64 p_1, .sl 0 0 p_2n none, .bool p_3, .int .u8 p_4, .int .i64 p_5, .int .i64 p_6, .int .i64 p_7]], [.ints false .i8 p_2] => retC (decide (p_2n = p_2.length)) (pmoves ⟨p_0, p_1, p_2, p_3, p_4, p_5, p_6, p_7⟩) ([], 0) pmoves_V pmoves_N
 | _, _ => none
theorem pmoves_snd (p : Psn) {r} (hr : pmoves p = some r) : FnSound (GGx kCa true) PP 38 [.agg [.int .i64 p.f, .int .i64 p.r, .sl 0 0 p.zs.length none, Bb p.bl, .int .u8 p.ca, .int .i64 p.pa, .int .i64 p.ha, .int .i64 p.fu]] [.ints false .i8 p.zs] (pmoves_V r) (pmoves_N r) := by
 have hE := cutE (EE_ok (kCa := kCa) (kDb := true) (cts := [(40, c_pvalid), (75, c_plook), (77, c_sfrom)]) (inl := [(76, Tryz.f76)]) ⟨c_pvalid_ok, c_plook_ok, c_sfrom_ok, trivial⟩ ⟨⟨Tryz.func76, by kernel_rfl⟩, trivial⟩)
 refine so_fn hE 2 Tryz.func38 rfl rfl pmoves_V pmoves_N hr ?_ rfl rfl
 refine so_as (pl (decide_eq_true (win_len rfl)) id) ?_
 refine so_split hE 2 rfl ?_ ?_
 ·exact so_ret (fin_phT 2 (.rows true [.i64, .i64, .i8] []) rfl rfl rfl <| fin_bs [2] (.inr rfl) rfl rfl rfl rfl rfl)
 refine so_callas (pl (decide_eq_true (win_len rfl)) id) ?_
 refine so_range hE 2 4 (let x27 := (plook (Psn.mk p.f p.r (List.take p.zs.length (List.drop 0 p.zs)) p.bl p.ca p.pa p.ha p.fu)).getD (Sgt.mk (Psn.mk 0 0 [] false 0 0 0 0) 0 0); let x25 := x27.own; let x26 := x27.p; fun (s7 : List (List Int)) => [O.ints false IntKind.i8 p.zs, O.cells true [V.int IntKind.i64 x26.f, V.int IntKind.i64 x26.r, V.sl 0 0 x26.zs.length none, V.bool x26.bl, V.int IntKind.u8 x26.ca, V.int IntKind.i64 x26.pa, V.int IntKind.i64 x26.ha, V.int IntKind.i64 x26.fu, V.int IntKind.u64 x25, V.int IntKind.u64 x27.all], O.cells true [V.sl 4 0 s7.length none], O.cells true [V.int IntKind.u64 x25], O.rows true [IntKind.i64, IntKind.i64, IntKind.i8] s7]) (let x31 := (plook (Psn.mk p.f p.r (List.take p.zs.length (List.drop 0 p.zs)) p.bl p.ca p.pa p.ha p.fu)).getD (Sgt.mk (Psn.mk 0 0 [] false 0 0 0 0) 0 0); let x29 := x31.own; let x30 := x31.p; fun (s7 : List (List Int)) => [O.ints false IntKind.i8 p.zs, O.cells true [V.int IntKind.i64 x30.f, V.int IntKind.i64 x30.r, V.sl 0 0 x30.zs.length none, V.bool x30.bl, V.int IntKind.u8 x30.ca, V.int IntKind.i64 x30.pa, V.int IntKind.i64 x30.ha, V.int IntKind.i64 x30.fu, V.int IntKind.u64 x29, V.int IntKind.u64 x31.all], O.cells true [V.sl 4 0 s7.length none], O.cells true [V.int IntKind.u64 x29], O.rows true [IntKind.i64, IntKind.i64, IntKind.i8] s7]) 0 (eachL ((plook (Psn.mk p.f p.r (List.take p.zs.length (List.drop 0 p.zs)) p.bl p.ca p.pa p.ha p.fu)).getD (Sgt.mk (Psn.mk 0 0 [] false 0 0 0 0) 0 0)).own) (fun (e3 : Int) => [V.int IntKind.i64 e3]) (fun (e3 : Int) (s7 : List (List Int)) => (6, V.int IntKind.i64 e3) :: putPs (#[15] : Array Nat).toList [V.int IntKind.i64 e3] [(2, V.nils), (3, V.int IntKind.i64 0), (4, V.ptr 1 0 0), (5, V.ptr 2 0 0), (14, V.fn 136 [V.ptr 3 0 0])]) [3] [2, 3, 4, 5, 14] ((Ent.rn [0, 2, 3, 4] [2, 3, 4, 5, 14] rfl rfl rfl rfl rfl).trans ((Ent.phC 2 0 (O.rows true [IntKind.i64, IntKind.i64, IntKind.i8] []) rfl rfl rfl rfl rfl).trans (Ent.rn [0, 1, 2, 3, 4] [2, 3, 4, 5, 14] rfl rfl rfl rfl rfl))) (eachL_sq _) (fun _ => rfl) (ent Tryz.func136 (by kernel_rfl) rfl) rfl rfl rfl rfl rfl rfl (fun _ => rfl) (fun _ => rfl) (fun _ _ => rfl) (fun e3 s7 => ?_) (fun s7 => ?_) (fun s7 => so_none)
 ·refine so_triv rfl ?_
  refine so_as2 id ?_
  refine so_as (pb (pl (decide_eq_true rfl) id) id) ?_
  exact so_rnext ((Ent.rn [0, 1, 2, 3, 6] [] rfl rfl rfl rfl rfl))
 exact so_ret (fin_bs [4] (.inr rfl) rfl rfl rfl rfl rfl)
theorem c_pmoves_ok : CtOk (GGx kCa true) PP (38, c_pmoves) := by
 refine ct_mk Tryz.func38 (by kernel_rfl) rfl fun a0 h0 c0 v0 N0 e hc => ?_
 unfold c_pmoves at e
 split at e
 ·rename_i p_0 p_1 p_2n p_3 p_4 p_5 p_6 p_7 p_2
  obtain ⟨hl, r, hr, rfl, rfl⟩ := ret_ok e hc
  simp only [decide_eq_true_eq] at hl
  obtain rfl := hl
  exact pmoves_snd ⟨p_0, p_1, p_2, p_3, p_4, p_5, p_6, p_7⟩ hr
 ·cases e
def pfrom (p : Psn) (at_ : Int) : Option (List (List Int) × Int) := let x7 := List.take p.zs.length (List.drop 0 p.zs); let x5 := Psn.mk p.f p.r x7 p.bl p.ca p.pa p.ha p.fu; let x6 := x7.length; needO (decide (x6 ≤ 64)) (bif !x5.ok || !validB p.f p.r at_ then some ([], 2) else callO (plook x5) (Sgt.mk (Psn.mk 0 0 [] false 0 0 0 0) 0 0) fun (y3 : Sgt) => let x10 := List.take y3.p.zs.length (List.drop 0 p.zs); let x9 := x10.length; needO (decide (y3.p.zs.length = x9)) (callO (sfrom (Sgt.mk (Psn.mk y3.p.f y3.p.r x10 y3.p.bl y3.p.ca y3.p.pa y3.p.ha y3.p.fu) y3.own y3.all) at_) [] fun (y4 : List (List Int)) => some (y4, 0)))
def pfrom_V (R : List (List Int) × Int) : V := .tup [.sl 1 0 R.1.length none, .int .i64 R.2]
def pfrom_N (R : List (List Int) × Int) : List O := [.rows true [.i64, .i64, .i8] R.1]
def c_pfrom : CF
 | [.agg [.int .i64 p_0, .int .i64 p_1, .sl 0 0 p_2n none, .bool p_3, .int .u8 p_4, .int .i64 p_5, .int .i64 p_6, .int .i64 p_7], .int .i64 at__0], [.ints false .i8 p_2] => retC (decide (p_2n = p_2.length)) (pfrom ⟨p_0, p_1, p_2, p_3, p_4, p_5, p_6, p_7⟩ at__0) ([], 0) pfrom_V pfrom_N
 | _, _ => none
theorem pfrom_snd (p : Psn) (at_ : Int) {r} (hr : pfrom p at_ = some r) : FnSound (GGx kCa true) PP 41 [.agg [.int .i64 p.f, .int .i64 p.r, .sl 0 0 p.zs.length none, Bb p.bl, .int .u8 p.ca, .int .i64 p.pa, .int .i64 p.ha, .int .i64 p.fu], .int .i64 at_] [.ints false .i8 p.zs] (pfrom_V r) (pfrom_N r) := by
 have hE := cutE (EE_ok (kCa := kCa) (kDb := true) (cts := [(40, c_pvalid), (75, c_plook), (77, c_sfrom), (71, c_valid)]) (inl := []) ⟨c_pvalid_ok, c_plook_ok, c_sfrom_ok, c_valid_ok, trivial⟩ trivial)
 refine so_fn hE 2 Tryz.func41 rfl rfl pfrom_V pfrom_N hr ?_ rfl rfl
 refine so_as (pl (decide_eq_true (win_len rfl)) id) ?_
 refine so_triv (Bool.not_or_self _) ?_
 refine so_triv (Bool.not_or_self _) ?_
 refine so_triv (Bool.not_or_self _) ?_
 refine so_triv (pg rfl) ?_
 refine so_triv (Bool.not_or_self _) ?_
 refine so_triv (Bool.or_not_self _) ?_
 refine so_split hE 2 rfl ?_ ?_
 ·exact so_ret (fin_phT 4 (.rows true [.i64, .i64, .i8] []) rfl rfl rfl <| fin_bs [2] (.inr rfl) rfl rfl rfl rfl rfl)
 refine so_callas (pl (decide_eq_true (win_len rfl)) id) ?_
 refine so_as2 id ?_
 exact so_ret (fin_bs [2] (.inr rfl) rfl rfl rfl rfl rfl)
theorem c_pfrom_ok : CtOk (GGx kCa true) PP (41, c_pfrom) := by
 refine ct_mk Tryz.func41 (by kernel_rfl) rfl fun a0 h0 c0 v0 N0 e hc => ?_
 unfold c_pfrom at e
 split at e
 ·rename_i p_0 p_1 p_2n p_3 p_4 p_5 p_6 p_7 at__0 p_2
  obtain ⟨hl, r, hr, rfl, rfl⟩ := ret_ok e hc
  simp only [decide_eq_true_eq] at hl
  obtain rfl := hl
  exact pfrom_snd ⟨p_0, p_1, p_2, p_3, p_4, p_5, p_6, p_7⟩ at__0 hr
 ·cases e
end Go.Ab

set_option maxRecDepth 100000
namespace Go.Ab
open Go.Proofs
structure PsH (p : Psn) : Prop where
 h : orthBd p.f p.r p.zs = true
 hl : p.zs.length ≤ 64
 ok : p.ok = true
 ca : 0 ≤ p.ca
theorem psh {p : Psn} (hl : p.zs.length ≤ 64) (hca : 0 ≤ p.ca) (hok : p.ok = true) : PsH p := by
 refine ⟨?_, hl, hok, hca⟩
 have hk := hok
 simp only [Psn.ok, kingsB, Bool.and_eq_true, decide_eq_true_eq] at hk
 cases h : orthBd p.f p.r p.zs with
 | true => rfl
 | false => have := hk.1.1.1.1.2.1.1; unfold kingR at this; rw [h] at this; cases this
section
variable {p : Psn}
theorem PsH.bd (o : PsH p) : validBd p.f p.r p.zs = true := (orth_valid o.h).2.2.1
theorem PsH.cast (o : PsH p) : castB p.f p.r p.zs p.ca = true := by have := o.ok; simp only [Psn.ok, Bool.and_eq_true] at this; exact this.1.1.2
theorem PsH.pass (o : PsH p) : passB p.f p.r p.zs p.bl p.pa p.ha = true := by have := o.ok; simp only [Psn.ok, Bool.and_eq_true] at this; exact this.1.2
end
def canM (p : Psn) (a b pr : Int) : Bool := mvB p.f p.r a b pr && isP (p.zs.getD a.toNat 0) p.bl && !err3 p ⟨a, b, pr⟩
def prs : List Int := [0, 2, 3, 4, 5]
def rowsM (p : Psn) (a b : Int) : List (List Int) := (prs.filter (canM p a b)).map fun pr => [a, b, pr]
def psL (p : Psn) (a : Int) : List (List Int) := ((List.range p.zs.length).map Int.ofNat).flatMap (rowsM p a)
def ownS (p : Psn) : Int := bif p.bl then whereR negP p.zs else whereR posP p.zs
theorem own_bt {p : Psn} (hl : p.zs.length ≤ 64) : Uk (ownS p) ∧ ∀ m : Nat, bt (ownS p) m = (decide (m < p.zs.length) && isP (p.zs.getD m 0) p.bl) := by
 obtain ⟨h1, h2⟩ := where_bt posP hl
 obtain ⟨h3, h4⟩ := where_bt negP hl
 unfold ownS
 cases hb : p.bl with
 | true => exact ⟨h3, fun m => by rw [cond_true, h4]; unfold negP isP; simp⟩
 | false => exact ⟨h1, fun m => by rw [cond_false, h2]; unfold posP isP; simp⟩
theorem sg_eta (p : Psn) (w x : Int) : (⟨⟨p.f, p.r, p.zs, p.bl, p.ca, p.pa, p.ha, p.fu⟩, w, x⟩ : Sgt) = ⟨p, w, x⟩ := rfl
theorem look_eq {p : Psn} (hl : p.zs.length ≤ 64) (hbd : validBd p.f p.r p.zs = true) : plook p = some ⟨p, ownS p, occR p.f p.r p.zs⟩ := by
 have h1 : decide (p.zs.length ≤ 1000000) = true := by simp; omega
 have h2 : (sidesR p.f p.r p.zs).1 = whereR posP p.zs ∧ (sidesR p.f p.r p.zs).2.1 = whereR negP p.zs := by unfold sidesR; rw [hbd]; exact ⟨rfl, rfl⟩
 unfold plook ownS occR
 simp only [List.drop_zero, List.take_length, h1, h2.1, h2.2, needO_true, sg_eta]
 cases p.bl <;> rfl
def swS (prev : Int) (skip free : Bool) (y : Int) : Int := bif skip then prev else bif free then y else prev
theorem sw_join {α : Type} {prev y : Int} {skip free : Bool} {F : Int → Option α} : joinO (bif skip then some (.inl prev) else joinO (bif free then some (.inl y) else some (.inl prev)) fun s => some (.inl s)) F = F (swS prev skip free y) := by
 cases skip <;> cases free <;> rfl
def sw1 (p : Psn) (a : Int) : Int := swS 0 (decide (u8and p.ca 1 = 0) || !p.bl == false || !decide (a = 4)) (decide (uand (betwR p.f p.r 4 7).1 (occR p.f p.r p.zs) = 0)) (uor 0 (ushl 1 6))
def sw2 (p : Psn) (a : Int) : Int := swS (sw1 p a) (decide (u8and p.ca 2 = 0) || !p.bl == false || !decide (a = 4)) (decide (uand (betwR p.f p.r 4 0).1 (occR p.f p.r p.zs) = 0)) (uor (sw1 p a) (ushl 1 2))
def sw3 (p : Psn) (a : Int) : Int := swS (sw2 p a) (decide (u8and p.ca 4 = 0) || !p.bl == true || !decide (a = 60)) (decide (uand (betwR p.f p.r 60 63).1 (occR p.f p.r p.zs) = 0)) (uor (sw2 p a) (ushl 1 62))
def sw4 (p : Psn) (a : Int) : Int := swS (sw3 p a) (decide (u8and p.ca 8 = 0) || !p.bl == true || !decide (a = 60)) (decide (uand (betwR p.f p.r 60 56).1 (occR p.f p.r p.zs) = 0)) (uor (sw3 p a) (ushl 1 58))
theorem ways_eq {p : Psn} {w a : Int} : sways ⟨p, w, occR p.f p.r p.zs⟩ a = some (sw4 p a) := by
 unfold sways
 simp only [sw_join]
 rfl
theorem sw_step {x prev g : Int} {skip free : Bool} (hp : Uk prev) (hg0 : 0 ≤ g) (hg : g < 64) (hx : x = swS prev skip free (uor prev (ushl 1 g))) : Uk x ∧ ∀ n : Nat, bt x n = (bt prev n || (!skip && free && decide (g = n))) := by
 subst hx
 unfold swS
 cases skip with
 | true => exact ⟨hp, fun n => by simp⟩
 | false =>
  cases free with
  | true => exact ⟨uk_or _ _, fun n => by rw [cond_false, cond_true, bt_or hp (uk_shl _ _), bt_shl hg0 hg]; rfl⟩
  | false => exact ⟨hp, fun n => by simp⟩
theorem sw_bt {p : Psn} {a : Int} : Uk (sw4 p a) ∧ ∀ n : Nat, bt (sw4 p a) n = ((!(decide (u8and p.ca 1 = 0) || !p.bl == false || !decide (a = 4)) && decide (uand (betwR p.f p.r 4 7).1 (occR p.f p.r p.zs) = 0) && decide ((6 : Int) = n)) ||
  (!(decide (u8and p.ca 2 = 0) || !p.bl == false || !decide (a = 4)) && decide (uand (betwR p.f p.r 4 0).1 (occR p.f p.r p.zs) = 0) && decide ((2 : Int) = n)) ||
  (!(decide (u8and p.ca 4 = 0) || !p.bl == true || !decide (a = 60)) && decide (uand (betwR p.f p.r 60 63).1 (occR p.f p.r p.zs) = 0) && decide ((62 : Int) = n)) ||
  (!(decide (u8and p.ca 8 = 0) || !p.bl == true || !decide (a = 60)) && decide (uand (betwR p.f p.r 60 56).1 (occR p.f p.r p.zs) = 0) && decide ((58 : Int) = n))) := by
 obtain ⟨u1, b1⟩ := sw_step (x := sw1 p a) (g := 6) uk_0 (by decide) (by decide) rfl
 obtain ⟨u2, b2⟩ := sw_step (x := sw2 p a) (g := 2) u1 (by decide) (by decide) rfl
 obtain ⟨u3, b3⟩ := sw_step (x := sw3 p a) (g := 62) u2 (by decide) (by decide) rfl
 obtain ⟨u4, b4⟩ := sw_step (x := sw4 p a) (g := 58) u3 (by decide) (by decide) rfl
 exact ⟨u4, fun n => by rw [b4, b3, b2, b1, bt_0, Bool.false_or]⟩
theorem way_bt {p : Psn} {a b : Int} (hk : absP (p.zs.getD a.toNat 0) = 6) (hb : 0 ≤ b) : bt (sw4 p a) b.toNat = wayB p.f p.r p.zs (wayN p.zs p.bl p.ca a b) := by
 have hs : ∀ {c : Bool} {bit k to : Int}, (!(decide (u8and p.ca bit = 0) || !p.bl == c || !decide (a = k)) && decide (to = ((b.toNat : Nat) : Int))) = !csSkip p.bl p.ca a b c bit k to := by
  intro c bit k to
  rw [Bool.eq_iff_iff, sk_iff, show ((b.toNat : Nat) : Int) = b by omega]
  simp only [Bool.and_eq_true, Bool.not_eq_true', Bool.or_eq_false_iff, decide_eq_false_iff_not, Bool.not_eq_false', decide_eq_true_eq]
  constructor
  ·rintro ⟨⟨⟨h1, h2⟩, h3⟩, h4⟩
   exact ⟨(by cases c <;> cases hb : p.bl <;> rw [hb] at h2 <;> first | rfl | cases h2), h1, h3.symm, h4⟩
  ·rintro ⟨h1, h2, h3, h4⟩
   exact ⟨⟨⟨h2, by rw [h1]; cases p.bl <;> rfl⟩, h3.symm⟩, h4⟩
 have re : ∀ x y z : Bool, (x && y && z) = ((x && z) && y) := by decide
 rw [sw_bt.2, re, re (!(decide (u8and p.ca 2 = 0) || _ || _)), re (!(decide (u8and p.ca 4 = 0) || _ || _)), re (!(decide (u8and p.ca 8 = 0) || _ || _)), hs, hs, hs, hs]
 unfold wayN
 rw [hk]
 have w0 : wayB p.f p.r p.zs 0 = decide (uand (betwR p.f p.r 4 7).1 (occR p.f p.r p.zs) = 0) := rfl
 have w1 : wayB p.f p.r p.zs 1 = decide (uand (betwR p.f p.r 4 0).1 (occR p.f p.r p.zs) = 0) := rfl
 have w2 : wayB p.f p.r p.zs 2 = decide (uand (betwR p.f p.r 60 63).1 (occR p.f p.r p.zs) = 0) := rfl
 have w3 : wayB p.f p.r p.zs 3 = decide (uand (betwR p.f p.r 60 56).1 (occR p.f p.r p.zs) = 0) := rfl
 have w4 : wayB p.f p.r p.zs 4 = false := rfl
 have one : ∀ {c c' : Bool} {bit bit' k k' to to' : Int}, (!csSkip p.bl p.ca a b c bit k to) = true → (c ≠ c' ∨ to ≠ to') → (!csSkip p.bl p.ca a b c' bit' k' to') = false := by
  intro c c' bit bit' k k' to to' h1 h2
  rw [Bool.eq_false_iff]
  intro h3
  obtain ⟨e1, _, _, e4⟩ := sk_iff.1 h1
  obtain ⟨f1, _, _, f4⟩ := sk_iff.1 h3
  rcases h2 with h | h
  ·exact h (e1.trans f1.symm)
  ·exact h (e4.trans f4.symm)
 cases n1 : (!csSkip p.bl p.ca a b false 1 4 6) with
 | true =>
  rw [one n1 (.inr (by decide)), one n1 (.inl (by decide)), one n1 (.inl (by decide))]
  simp only [Bool.true_and, Bool.false_and, Bool.or_false, decide_true, Bool.not_true, cond_true, cond_false, w0]
 | false =>
  cases n2 : (!csSkip p.bl p.ca a b false 2 4 2) with
  | true =>
   rw [one n2 (.inl (by decide)), one n2 (.inl (by decide))]
   simp only [Bool.true_and, Bool.false_and, Bool.or_false, Bool.false_or, decide_true, Bool.not_true, cond_true, cond_false, w1]
  | false =>
   cases n3 : (!csSkip p.bl p.ca a b true 4 60 62) with
   | true =>
    rw [one n3 (.inr (by decide))]
    simp only [Bool.true_and, Bool.false_and, Bool.or_false, Bool.false_or, decide_true, Bool.not_true, cond_true, cond_false, w2]
   | false =>
    cases n4 : (!csSkip p.bl p.ca a b true 8 60 58) with
    | true => simp only [Bool.true_and, Bool.false_and, Bool.false_or, decide_true, Bool.not_true, cond_true, cond_false, w3]
    | false => simp only [Bool.false_and, Bool.or_self, decide_true, Bool.not_true, cond_false, w4]
def tgR (p : Psn) (a : Int) : Int :=
 bif decide (absP (p.zs.getD a.toNat 0) = 1) then uor (stepsR p.f p.r p.bl a (occR p.f p.r p.zs)).1 (uand (pawnR p.f p.r p.bl a).1 (bif decide (0 ≤ p.pa) then uor (uandn (occR p.f p.r p.zs) (ownS p)) (ushl 1 p.pa) else uandn (occR p.f p.r p.zs) (ownS p)))
 else uandn (bif decide (absP (p.zs.getD a.toNat 0) = 6) then uor (reachR p.f p.r (absP (p.zs.getD a.toNat 0)) a (occR p.f p.r p.zs)).1 (sw4 p a) else (reachR p.f p.r (absP (p.zs.getD a.toNat 0)) a (occR p.f p.r p.zs)).1) (ownS p)
theorem pk_eq (v : Int) : pkind v = some (absP v) := rfl
theorem spawn_eq {p : Psn} {a : Int} : spawn ⟨p, ownS p, occR p.f p.r p.zs⟩ a = some (uor (stepsR p.f p.r p.bl a (occR p.f p.r p.zs)).1 (uand (pawnR p.f p.r p.bl a).1 (bif decide (0 ≤ p.pa) then uor (uandn (occR p.f p.r p.zs) (ownS p)) (ushl 1 p.pa) else uandn (occR p.f p.r p.zs) (ownS p)))) := by
 unfold spawn
 cases h : decide (0 ≤ p.pa) with
 | true => simp only [cond_true, needO_true, joinO_inl]
 | false => simp only [cond_false, joinO_inl]
theorem tg_eq {p : Psn} {a : Int} (ha : 0 ≤ a ∧ a < p.zs.length) : stargets ⟨p, ownS p, occR p.f p.r p.zs⟩ a = some (tgR p a) := by
 have h1 : (decide (0 ≤ a) && decide (a < Int.ofNat p.zs.length)) = true := by simp; omega
 unfold stargets tgR
 simp only [List.drop_zero, List.take_length, sg_eta, pk_eq, h1, needO_true, callO_some, Option.getD_some, spawn_eq, ways_eq]
 by_cases h2 : absP (p.zs.getD a.toNat 0) = 1
 ·simp only [h2, decide_true, cond_true]
 ·by_cases h3 : absP (p.zs.getD a.toNat 0) = 6
  ·have h6 : ((6 : Int) = 1) = False := by simp
   simp only [h3, h6, decide_false, decide_true, cond_true, cond_false, joinO_inl]
  ·simp only [h2, h3, decide_false, cond_false, joinO_inl]
end Go.Ab
