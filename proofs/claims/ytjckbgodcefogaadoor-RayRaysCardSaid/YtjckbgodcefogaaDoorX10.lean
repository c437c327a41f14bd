/- Contracts of the functions that the laws reach, or plain laws of what they compute (part X10); no condition. -/
import Derived.Test.YtjckbgodcefogaaDoorX9
namespace Go.Ab
open Go.Proofs
def kst (l : List O) : List O := [.cells true [.lit false], .cells true [I 8, I 8], .cells true [I 0], .cells true [I 1], .cells true [I 1], .cells true [I 8, I 8], .cells true [I (parseR 8 8 [103, 55])], .cells true [I 1], .cells true [I 1],
  .cells true [I 8, I 8], .cells true [I 0], .cells true [I 0], .cells true [I 0]] ++ l
theorem kn1 : rayL 8 8 0 1 1 = [9, 18, 27, 36, 45, 54, 63] := by decide +kernel
theorem kn2 : rayL 8 8 (parseR 8 8 [103, 55]) 1 1 = [63] := by decide +kernel
theorem kn3 : rayL 8 8 0 0 0 = [] := by decide +kernel
def c_known4 : CF
  | [], [] => some (true, .bool true, [])
  | _, _ => none
theorem c_known4_ok : CtOk GG PP (15, c_known4) := by
  refine ct_mk Tryd.func15 (by kernel_rfl) rfl fun a0 h0 c0 v0 N0 e hc => ?_
  unfold c_known4 at e
  split at e
  · skip
    cases e
    have hE := EE_ok (cts := [(52, c_full), (53, c_at4), (54, c_set4), (16, c_betw), (17, c_dir), (22, c_reach), (25, c_pawn), (26, c_steps)]) (inl := [(14, Tryd.f14)]) ⟨c_full_ok, c_at4_ok, c_set4_ok, c_betw_ok, c_dir_ok, c_reach_ok, c_pawn_ok, c_steps_ok, trivial⟩ ⟨⟨Tryd.func14, by kernel_rfl⟩, trivial⟩
    refine fn_sound hE 2 Tryd.func15 rfl rfl ?_
    repeat (first | refine sat_need (by rfl) ?_ | refine sat_need (by decide +kernel) ?_)
    refine sat_range hE 2 14 [1, 2, 3, 4] [0, 1, 2, 3, 4] (Ent.ren [0, 1, 2, 3, 4, 5, 6, 7, 8, 9, 10, 11, 12, 13] [0, 1, 2, 3, 4, 41] rfl rfl rfl) (ray_sq 8 8 0 1 1) rayV_len ray_ent rfl rfl rfl rfl rfl rfl
      (fun i hp' => ∃ n : Int, n = i ∧ hp' = kst [.cells true [I n]]) (fun _ _ => False) ⟨0, rfl, rfl⟩ ?_ (fun _ _ h => h.elim) ?_ ?_ (fun _ _ h => h.elim)
    · rintro i hp' ⟨n, _, rfl⟩; rfl
    · rintro i vs hp' hi ⟨n, hn, rfl⟩
      obtain ⟨x, hx, rfl, x0, x1⟩ := rayL_get hi
      rw [kn1] at hx
      have hlt := (List.getElem?_eq_some_iff.1 hx).1
      have hx2 : x = 9 * (i + 1) ∧ i < 7 := by
        rcases i with _ | _ | _ | _ | _ | _ | _ | i <;> simp at hx hlt <;> (try omega)
      refine sat_ret ⟨rfl, ?_⟩
      have e1 : IntKind.i64.wrap (n + 1) = n + 1 := w64_id (by omega) (by omega)
      have e2 : IntKind.i64.wrap (9 * IntKind.i64.wrap (n + 1)) = x := by rw [e1, w64_id (by omega) (by omega)]; omega
      repeat (first | refine sat_self ?_ | refine sat_need (by first | rfl | exact tt1 _ _ | exact tt5 _ _ | exact tt2 _ _ _ | exact tt4 _ _ _ | exact tt6 _ _ _ | exact tt7 _ _ | exact tt8 _ _ _ | exact tt9 _ _ _ | (simp; done) | (simp; omega)) ?_)
      refine sat_bf (b := !decide (x = IntKind.i64.wrap (9 * IntKind.i64.wrap (n + 1))) || decide (7 < IntKind.i64.wrap (n + 1))) (by rw [e2, e1]; simp; omega) ?_
      exact sat_ret ⟨_, Ent.ren [0, 1, 2, 3, 4, 5, 6, 7, 8, 9, 10, 11, 12, 13] [] rfl rfl rfl, IntKind.i64.wrap (n + 1), by rw [e1]; omega, rfl⟩
    rintro hp' ⟨n, hn, rfl⟩
    rw [rayV_length, kn1] at hn
    obtain rfl : n = 7 := hn
    refine sat_range hE 2 15 [5, 6, 7, 8] [0, 1, 2, 3, 4, 6] (Ent.ren [0, 1, 2, 3, 4, 5, 6, 7, 8, 9, 10, 11, 12, 13, 14] [0, 1, 2, 3, 4, 6, 53] rfl rfl rfl) (ray_sq 8 8 (parseR 8 8 [103, 55]) 1 1) rayV_len ray_ent rfl rfl rfl rfl rfl rfl
      (fun i hp' => ∃ n : Int, n = i ∧ hp' = kst [.cells true [I 7], .cells true [I n]]) (fun _ _ => False) ⟨0, rfl, rfl⟩ ?_ (fun _ _ h => h.elim) ?_ ?_ (fun _ _ h => h.elim)
    · rintro i hp' ⟨n, _, rfl⟩; rfl
    · rintro i vs hp' hi ⟨n, hn, rfl⟩
      obtain ⟨x, hx, rfl, x0, x1⟩ := rayL_get hi
      rw [kn2] at hx
      have hlt := (List.getElem?_eq_some_iff.1 hx).1
      have hx2 : x = 63 ∧ i = 0 := by
        rcases i with _ | i <;> simp at hx hlt <;> omega
      refine sat_ret ⟨rfl, ?_⟩
      have e1 : IntKind.i64.wrap (n + 1) = n + 1 := w64_id (by omega) (by omega)
      repeat (first | refine sat_self ?_ | refine sat_need (by first | rfl | exact tt1 _ _ | exact tt5 _ _ | exact tt2 _ _ _ | exact tt4 _ _ _ | exact tt6 _ _ _ | exact tt7 _ _ | exact tt8 _ _ _ | exact tt9 _ _ _ | (simp; done) | (simp; omega)) ?_)
      refine sat_bf (b := !decide (x = 63) || decide (1 < IntKind.i64.wrap (n + 1))) (by rw [e1]; simp; omega) ?_
      exact sat_ret ⟨_, Ent.ren [0, 1, 2, 3, 4, 5, 6, 7, 8, 9, 10, 11, 12, 13, 14] [] rfl rfl rfl, IntKind.i64.wrap (n + 1), by rw [e1]; omega, rfl⟩
    rintro hp' ⟨n, hn, rfl⟩
    rw [rayV_length, kn2] at hn
    obtain rfl : n = 1 := hn
    refine sat_range hE 2 15 [9, 10, 11, 12] [0, 4, 6] (Ent.ren [0, 1, 2, 3, 4, 5, 6, 7, 8, 9, 10, 11, 12, 13, 14] [0, 4, 6, 63] rfl rfl rfl) (ray_sq 8 8 0 0 0) rayV_len ray_ent rfl rfl rfl rfl rfl rfl
      (fun i hp' => hp' = kst [.cells true [I 7], .cells true [I 1]]) (fun _ _ => False) rfl ?_ (fun _ _ h => h.elim) ?_ ?_ (fun _ _ h => h.elim)
    · rintro i hp' rfl; rfl
    · rintro i vs hp' hi rfl
      obtain ⟨x, hx, rfl, x0, x1⟩ := rayL_get hi
      rw [kn3] at hx
      simp at hx
    rintro hp' rfl
    repeat (first | refine sat_need (by rfl) ?_ | refine sat_need (by decide +kernel) ?_)
    refine sat_bf (by decide +kernel) ?_
    repeat (first | refine sat_need (by rfl) ?_ | refine sat_need (by decide +kernel) ?_)
    refine sat_bf (by decide +kernel) ?_
    repeat (first | refine sat_need (by rfl) ?_ | refine sat_need (by decide +kernel) ?_)
    exact sat_ret (fin_val (.inr rfl) rfl rfl rfl (congrArg V.bool (by decide +kernel)))
  · cases e

end Go.Ab
