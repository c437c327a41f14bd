/- Contracts of the functions that the laws reach, or plain laws of what they compute (part X5); no condition. -/
import Derived.Test.YtjckbgodcefogaaDoorX4
import Derived.Test.YtjckbgodcefogaaDoorAbFor
namespace Go.Ab
open Go.Proofs
theorem rayL_get {f r n df dr : Int} {i : Nat} {vs : List V} (h : (rayV f r n df dr)[i]? = some vs) : ∃ x, (rayL f r n df dr)[i]? = some x ∧ vs = [I x] ∧ 0 ≤ x ∧ x < 64 := by
  simp only [rayV, List.getElem?_map, Option.map_eq_some_iff] at h
  obtain ⟨x, h1, rfl⟩ := h
  refine ⟨x, h1, rfl, ?_⟩
  have hm := List.mem_of_getElem? h1
  have key : ∀ (k : Nat) (a b : Int), x ∈ rayGo f r df dr k a b → 0 ≤ x ∧ x < 64 := by
    intro k
    induction k with
    | zero => intro a b h; simp [rayGo] at h
    | succ k ih =>
      intro a b h
      rw [rayGo] at h
      cases hb : decide ((atR f r (IntKind.i64.wrap (a + df)) (IntKind.i64.wrap (b + dr))).2 = 0) with
      | false => rw [hb] at h; simp at h
      | true =>
        rw [hb, cond_true] at h
        rcases List.mem_cons.1 h with rfl | h
        · have := at_pos (of_decide_eq_true hb); exact ⟨this.1, this.2.1⟩
        · exact ih _ _ h
  unfold rayL at hm
  cases hc : (validB f r n && !(decide (df = 0) && decide (dr = 0)) && !rayBig df dr) with
  | false => rw [hc] at hm; simp at hm
  | true => rw [hc, cond_true] at hm; exact key _ _ _ hm
theorem rayV_len {f r n df dr : Int} : ∀ vs ∈ rayV f r n df dr, vs.length = 1 := by
  intro vs h
  simp only [rayV, List.mem_map] at h
  obtain ⟨x, _, rfl⟩ := h
  rfl
theorem rayV_length {f r n df dr : Int} : (rayV f r n df dr).length = (rayL f r n df dr).length := by simp [rayV]
theorem ray_ent : Entered PP 49 := ent Tryd.func49 rfl rfl
def untilS (b : Int) : List Int → Int → Int
  | [], s => s
  | x :: l, s => bif decide (x = b) then s else untilS b l (uor s (ushl 1 x))
def betwR (f r a b : Int) : Int × Int := bif decide ((dirR f r a b).2.2 = 0) then (untilS b (rayL f r a (dirR f r a b).1 (dirR f r a b).2.1) 0, 0) else (0, (dirR f r a b).2.2)
theorem untilS_at {b : Int} {l : List Int} {i : Nat} {x s : Int} (h : l[i]? = some x) : untilS b (l.drop i) s = bif decide (x = b) then s else untilS b (l.drop (i + 1)) (uor s (ushl 1 x)) := by
  obtain ⟨h1, h2⟩ := List.getElem?_eq_some_iff.1 h
  rw [List.drop_eq_getElem_cons h1, h2, untilS]
def slideGo (occ : Int) : List Int → Int → Int
  | [], s => s
  | x :: l, s => bif decide (uand (ushr occ x) 1 = 1) then uor s (ushl 1 x) else slideGo occ l (uor s (ushl 1 x))
theorem slideGo_at {b : Int} {l : List Int} {i : Nat} {x s : Int} (h : l[i]? = some x) : slideGo b (l.drop i) s = bif decide (uand (ushr b x) 1 = 1) then uor s (ushl 1 x) else slideGo b (l.drop (i + 1)) (uor s (ushl 1 x)) := by
  obtain ⟨h1, h2⟩ := List.getElem?_eq_some_iff.1 h
  rw [List.drop_eq_getElem_cons h1, h2, slideGo]
def slideStep (f r n occ s : Int) (row : List Int) : Int := slideGo occ (rayL f r n (row.getD 0 0) (row.getD 1 0)) s
def slideR (f r n occ : Int) (rs : List (List Int)) : Int := rs.foldl (slideStep f r n occ) 0
def c_betw : CF
  | [.agg [.int .i64 f, .int .i64 r], .int .i64 a, .int .i64 b], [] => some (true, .tup [U (betwR f r a b).1, I (betwR f r a b).2], [])
  | _, _ => none
theorem c_betw_ok : CtOk GG PP (16, c_betw) := by
  refine ct_mk Tryd.func16 (by kernel_rfl) rfl fun a0 h0 c0 v0 N0 e hc => ?_
  unfold c_betw at e
  split at e
  · rename_i f r a b
    cases e
    have hE := EE_ok (cts := [(17, c_dir)]) (inl := [(14, Tryd.f14)]) ⟨c_dir_ok, trivial⟩ ⟨⟨Tryd.func14, by kernel_rfl⟩, trivial⟩
    refine fn_sound hE 2 Tryd.func16 rfl rfl ?_
    repeat (first | refine sat_self ?_ | refine sat_need (by first | rfl | exact tt1 _ _ | exact tt5 _ _ | exact tt2 _ _ _ | exact tt4 _ _ _ | exact tt6 _ _ _ | exact tt7 _ _ | exact tt8 _ _ _ | exact tt9 _ _ _ | (simp; done) | (simp; omega)) ?_)
    refine sat_br (fun h1 => ?_) (fun h1 => ?_)
    · have h1 : decide ((dirR f r a b).2.2 = 0) = false := by simpa using h1
      exact sat_ret (fin_val (.inr rfl) rfl rfl rfl (by rw [betwR, h1]; rfl))
    have h1 : decide ((dirR f r a b).2.2 = 0) = true := by simpa using h1
    repeat (first | refine sat_self ?_ | refine sat_need (by first | rfl | exact tt1 _ _ | exact tt5 _ _ | exact tt2 _ _ _ | exact tt4 _ _ _ | exact tt6 _ _ _ | exact tt7 _ _ | exact tt8 _ _ _ | exact tt9 _ _ _ | (simp; done) | (simp; omega)) ?_)
    generalize hL : rayL f r a (dirR f r a b).1 (dirR f r a b).2.1 = L
    refine sat_range hE 2 7 [3, 4, 5, 6] [3, 5, 11] (Ent.ren [0, 1, 2, 3, 4, 5, 6] [3, 5, 11, 28] rfl rfl rfl) (ray_sq f r a (dirR f r a b).1 (dirR f r a b).2.1) rayV_len ray_ent rfl rfl rfl rfl rfl rfl
      (fun i hp' => ∃ s, untilS b (L.drop i) s = untilS b L 0 ∧ hp' = [.cells true [I f, I r], .cells true [I b], .cells true [U s], .cells true [I f, I r], .cells true [I a], .cells true [I (dirR f r a b).1], .cells true [I (dirR f r a b).2.1]])
      (fun e hp' => e = .exit 0 ∧ ∃ s, s = untilS b L 0 ∧ hp' = [.cells true [I f, I r], .cells true [I b], .cells true [U s], .cells true [I f, I r], .cells true [I a], .cells true [I (dirR f r a b).1], .cells true [I (dirR f r a b).2.1]])
      ⟨0, rfl, rfl⟩ ?_ ?_ ?_ ?_ ?_
    · rintro i hp' ⟨s, _, rfl⟩; rfl
    · rintro e hp' ⟨_, s, _, rfl⟩; rfl
    · rintro i vs hp' hi ⟨s, hs, rfl⟩
      obtain ⟨x, hx, rfl, x0, x1⟩ := rayL_get hi
      rw [hL] at hx
      rw [untilS_at hx] at hs
      refine sat_ret ⟨rfl, ?_⟩
      refine sat_br (fun h2 => ?_) (fun h2 => ?_)
      · rw [h2, cond_true] at hs
        exact sat_ret ⟨_, Ent.ren [0, 1, 2, 3, 4, 5, 6] [] rfl rfl rfl, rfl, s, hs, rfl⟩
      · rw [h2, cond_false] at hs
        repeat (first | refine sat_self ?_ | refine sat_need (by first | rfl | exact tt1 _ _ | exact tt5 _ _ | exact tt2 _ _ _ | exact tt4 _ _ _ | exact tt6 _ _ _ | exact tt7 _ _ | exact tt8 _ _ _ | exact tt9 _ _ _ | (simp; done) | (simp; omega)) ?_)
        refine sat_ret ⟨_, Ent.ren [0, 1, 2, 3, 4, 5, 6] [] rfl rfl rfl, _, hs, rfl⟩
    · rintro hp' ⟨s, hs, rfl⟩
      rw [rayV_length, hL, List.drop_length] at hs
      have hs : s = untilS b L 0 := hs
      exact sat_ret (fin_val (.inr rfl) rfl rfl rfl (by rw [betwR, h1, hL, hs]; rfl))
    · rintro e hp' ⟨rfl, s, hs, rfl⟩
      exact sat_ret (fin_val (.inr rfl) rfl rfl rfl (by rw [betwR, h1, hL, hs]; rfl))
  · cases e

def c_slide : CF
  | [.agg [.int .i64 f, .int .i64 r], .int .i64 n, .int .u64 occ, .sl 0 0 len none], [.rows false [.i64, .i64] rs] => some (decide (len = rs.length) && decide (rs.length ≤ 1000000), .int .u64 (slideR f r n occ rs), [])
  | _, _ => none
theorem c_slide_ok : CtOk GG PP (61, c_slide) := by
  refine ct_mk Tryd.func61 (by kernel_rfl) rfl fun a0 h0 c0 v0 N0 e hc => ?_
  unfold c_slide at e
  split at e
  · rename_i f r n occ len rs
    cases e
    have hE := EE_ok (cts := []) (inl := [(14, Tryd.f14)]) trivial ⟨⟨Tryd.func14, by kernel_rfl⟩, trivial⟩
    refine fn_sound hE 2 Tryd.func61 rfl rfl ?_
    simp only [Bool.and_eq_true, decide_eq_true_eq] at hc
    obtain ⟨hc1, hc2⟩ := hc
    subst hc1
    repeat (first | refine sat_self ?_ | refine sat_need (by first | rfl | exact tt1 _ _ | exact tt5 _ _ | exact tt2 _ _ _ | exact tt4 _ _ _ | exact tt6 _ _ _ | exact tt7 _ _ | exact tt8 _ _ _ | exact tt9 _ _ _ | (simp; done) | (simp; omega)) ?_)
    refine sat_for hE 2 (fun a : Int × Int => ([(1, I n), (4, .ptr 1 0 0), (6, .ptr 2 0 0), (9, .ptr 3 0 0), (13, .sl 0 0 rs.length none), (14, I rs.length), (15, I a.1)], [.rows false [.i64, .i64] rs, .cells true [I f, I r], .cells true [U occ], .cells true [U a.2]]))
      (fun a => ∃ k : Nat, k ≤ rs.length ∧ a.1 = k ∧ a.2 = (rs.take k).foldl (slideStep f r n occ) 0) (fun a => rs.length - a.1.toNat) (0, 0)
      (Ent.ren [0, 1, 2, 3] [1, 4, 6, 9, 13, 14, 15] rfl rfl rfl) ⟨0, Nat.zero_le _, rfl, rfl⟩ ?_
    rintro ⟨i, set⟩ ⟨k, hk, h1, h2⟩
    dsimp only at h1 h2 ⊢
    refine sat_br (fun hlt => ?_) (fun hlt => ?_)
    · simp only [decide_eq_true_eq] at hlt
      have hki : i.toNat = k := by omega
      refine sat_need (by simp; omega) ?_
      repeat (first | refine sat_self ?_ | refine sat_need (by first | rfl | exact tt1 _ _ | exact tt5 _ _ | exact tt2 _ _ _ | exact tt4 _ _ _ | exact tt6 _ _ _ | exact tt7 _ _ | exact tt8 _ _ _ | exact tt9 _ _ _ | (simp; done) | (simp; omega)) ?_)
      have hstep := take_step rs [] (slideStep f r n occ) 0 (show k < rs.length by omega)
      rw [← h2, ← hki] at hstep
      have hnext : IntKind.i64.wrap (i + 1) = ((k + 1 : Nat) : Int) := by rw [w64_id (by omega) (by omega)]; omega
      generalize hL : rayL f r n ((rs.getD i.toNat []).getD 0 0) ((rs.getD i.toNat []).getD 1 0) = L
      refine sat_range hE 2 9 [5, 6, 7, 8] [1, 4, 6, 9, 13, 14, 15] (Ent.ren [0, 1, 2, 3, 4, 5, 6, 7, 8] [1, 4, 6, 9, 13, 14, 15, 25] rfl rfl rfl) (ray_sq f r n ((rs.getD i.toNat []).getD 0 0) ((rs.getD i.toNat []).getD 1 0)) rayV_len ray_ent rfl rfl rfl rfl rfl rfl
        (fun j hp' => ∃ s, slideGo occ (L.drop j) s = slideGo occ L set ∧ hp' = [.rows false [.i64, .i64] rs, .cells true [I f, I r], .cells true [U occ], .cells true [U s], .cells true [I ((rs.getD i.toNat []).getD 0 0), I ((rs.getD i.toNat []).getD 1 0)], .cells true [I f, I r], .cells true [I n], .cells true [I ((rs.getD i.toNat []).getD 0 0)], .cells true [I ((rs.getD i.toNat []).getD 1 0)]])
        (fun e hp' => e = .exit 2 ∧ ∃ s, s = slideGo occ L set ∧ hp' = [.rows false [.i64, .i64] rs, .cells true [I f, I r], .cells true [U occ], .cells true [U s], .cells true [I ((rs.getD i.toNat []).getD 0 0), I ((rs.getD i.toNat []).getD 1 0)], .cells true [I f, I r], .cells true [I n], .cells true [I ((rs.getD i.toNat []).getD 0 0)], .cells true [I ((rs.getD i.toNat []).getD 1 0)]])
        ⟨set, rfl, rfl⟩ ?_ ?_ ?_ ?_ ?_
      · rintro j hp' ⟨s, _, rfl⟩; rfl
      · rintro e hp' ⟨_, s, _, rfl⟩; rfl
      · rintro j vs hp' hi ⟨s, hs, rfl⟩
        obtain ⟨x, hx, rfl, x0, x1⟩ := rayL_get hi
        rw [hL] at hx
        rw [slideGo_at hx] at hs
        refine sat_ret ⟨rfl, ?_⟩
        repeat (first | refine sat_self ?_ | refine sat_need (by first | rfl | exact tt1 _ _ | exact tt5 _ _ | exact tt2 _ _ _ | exact tt4 _ _ _ | exact tt6 _ _ _ | exact tt7 _ _ | exact tt8 _ _ _ | exact tt9 _ _ _ | (simp; done) | (simp; omega)) ?_)
        refine sat_br (fun h2 => ?_) (fun h2 => ?_)
        · have h2 : decide (uand (ushr occ x) 1 = 1) = true := h2
          rw [h2, cond_true] at hs
          exact sat_ret ⟨_, Ent.ren [0, 1, 2, 3, 4, 5, 6, 7, 8] [] rfl rfl rfl, rfl, _, hs, rfl⟩
        · have h2 : decide (uand (ushr occ x) 1 = 1) = false := h2
          rw [h2, cond_false] at hs
          exact sat_ret ⟨_, Ent.ren [0, 1, 2, 3, 4, 5, 6, 7, 8] [] rfl rfl rfl, _, hs, rfl⟩
      · rintro hp' ⟨s, hs, rfl⟩
        rw [rayV_length, hL, List.drop_length] at hs
        have hs : s = slideGo occ L set := hs
        refine sat_ret ⟨(_, _), ⟨k + 1, by omega, hnext, ?_⟩, ?_, Ent.ren [0, 1, 2, 3] [1, 4, 6, 9, 13, 14, 15] rfl rfl rfl⟩
        · rw [← hki, hstep, slideStep, hL]; exact hs
        · show _ - (IntKind.i64.wrap (i + 1)).toNat < _
          rw [hnext]; omega
      · rintro e hp' ⟨rfl, s, hs, rfl⟩
        refine sat_ret ⟨(_, _), ⟨k + 1, by omega, hnext, ?_⟩, ?_, Ent.ren [0, 1, 2, 3] [1, 4, 6, 9, 13, 14, 15] rfl rfl rfl⟩
        · rw [← hki, hstep, slideStep, hL]; exact hs
        · show _ - (IntKind.i64.wrap (i + 1)).toNat < _
          rw [hnext]; omega
    · simp only [decide_eq_false_iff_not] at hlt
      obtain rfl : k = rs.length := by omega
      rw [List.take_length] at h2
      exact sat_ret (sat_ret (fin_val (.inr rfl) rfl rfl rfl (by rw [h2]; rfl)))
  · cases e

end Go.Ab
