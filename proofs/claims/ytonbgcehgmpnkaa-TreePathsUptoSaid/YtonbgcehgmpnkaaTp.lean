import Derived.Test.YtonbgcehgmpnkaaTo
set_option linter.unusedVariables false
set_option linter.unusedSimpArgs false
namespace Go.Proofs.Ytonbgcehgmpnkaa
open Go Go.RowKit HL BigFrame
theorem ex_apart : Apart exL := ex_new.2.2.2.1
theorem ex_high : ∀ x ∈ exL, x.height ≤ 9223372036854775807 := by decide +kernel
theorem exnew_calls (A : Option Addr) (w : World) (hA : RdS w A (flat (exL.map leafE))) : Calls Try.prog 7 #[hval (idH 0), .int .i64 0, .slice A 4 4] w fun e w' => ∃ g gl gk xs, KidsOf xs exL ∧ e = .returned (.tuple #[.pointer (some ⟨g, 0, none⟩), .int .i64 0]) ∧ St w w' No (treeL g gl gk xs (idH 0) 0 exL) := by
  have h := new_calls (idH 0) 0 A exL 4 w hA (by decide)
  refine Calls.mono (show Calls Try.prog 7 #[hval (idH 0), .int .i64 0, .slice A 4 4] w _ from h) ?_
  rintro e w2 (⟨hno, _, _⟩ | ⟨_, h9⟩)
  · exact absurd ex_new hno
  · exact h9
theorem exbest_calls (g gl gK : Nat) (xs : List (Hash × KV × Nat)) (w : World) (ht : ∀ r ∈ treeL g gl gK xs (idH 0) 0 exL, r.holds w) (hk : KidsOf xs exL) : Calls Try.prog 8 #[.pointer (some ⟨g, 0, none⟩)] w fun e w' => e = .returned (.tuple #[hval (idH 6), .int .i64 2]) ∧ St w w' No [] := by
  refine (best_calls g gl gK xs (idH 0) 0 exL w ht hk ex_apart (by omega) (by omega) (by decide)).mono ?_
  rintro e w2 ⟨h1, n, m, rest, h2, h3, rfl⟩
  obtain ⟨rfl, hm⟩ := ex_best h2 h3
  rw [hm]
  exact ⟨rfl, h1⟩
theorem expath_calls (g gl gK : Nat) (xs : List (Hash × KV × Nat)) (w : World) (ht : ∀ r ∈ treeL g gl gK xs (idH 0) 0 exL, r.holds w) : Calls Try.prog 12 #[.pointer (some ⟨g, 0, none⟩), hval (idH 7), hval (idH 6)] w fun e w' => ∃ A1 c1 A2 c2, e = .returned (.tuple #[.slice A1 2 c1, .slice A2 2 c2, .bool true]) ∧ St w w' No [rowH A1 [idH 7, idH 5] c1, rowH A2 [idH 3, idH 6] c2] := by
  refine (path_calls g gl gK xs (idH 0) 0 exL (idH 7) (idH 6) w ht ex_high (by omega) (by omega) (by decide)).mono ?_
  rintro e w2 ⟨d, u, ok, A1, c1, A2, c2, hp, _, _, rfl, h1⟩
  rw [ex_path] at hp
  rcases hp with ⟨rfl, hp⟩ | ⟨_, hp, _⟩
  · injection hp with hp
    injection hp with hp1 hp2
    subst hp1 hp2
    exact ⟨A1, c1, A2, c2, rfl, h1⟩
  · cases hp
theorem same2_calls (A B : Option Addr) (a b : Hash) (c d : Nat) (w : World) (hA : RdS w A (flat ([a, b].map hval))) (hB : RdS w B (flat ([a, b].map hval))) : Calls Try.prog 19 #[.slice A 2 c, .slice B 2 d] w fun e w' => e = .returned (.bool true) ∧ St w w' No [] := by
  refine Calls.mono (show Calls Try.prog 19 #[.slice A 2 c, .slice B 2 d] w _ from sameHashes_calls A B [a, b] [a, b] c d w hA hB (by simp) (by simp)) ?_
  rintro e w2 ⟨h1, h2⟩
  exact ⟨by simpa using h1, h2⟩
set_option maxRecDepth 100000 in
set_option maxHeartbeats 4000000 in
theorem awake_calls (w : World) : Calls Try.prog 6 #[] w fun e w' => e = .returned (.bool true) ∧ St w w' No [] := by
  have hst := St.start w No
  go_enter Try.func6, Try.ntmps6
  go_wp2_with (first
    | (refine o_call (vs := [.int .i64 0]) Try.func17 rfl rfl rfl rfl rfl (.list rfl) (id_calls 0 _) (by simp) ?_; rintro e w2 ⟨rfl, h3⟩; replace hst := hst.call h3; clear h3; simp only [List.nil_append] at hst; simp only [Act.put, List.setIfInBounds_toArray, List.set_cons_succ, List.set_cons_zero])
    | (refine o_call (vs := [.int .i64 7]) Try.func17 rfl rfl rfl rfl rfl (.list rfl) (id_calls 7 _) (by simp) ?_; rintro e w2 ⟨rfl, h3⟩; replace hst := hst.call h3; clear h3; simp only [List.nil_append] at hst; simp only [Act.put, List.setIfInBounds_toArray, List.set_cons_succ, List.set_cons_zero])
    | (refine o_call (vs := [.int .i64 6]) Try.func17 rfl rfl rfl rfl rfl (.list rfl) (id_calls 6 _) (by simp) ?_; rintro e w2 ⟨rfl, h3⟩; replace hst := hst.call h3; clear h3; simp only [List.nil_append] at hst; simp only [Act.put, List.setIfInBounds_toArray, List.set_cons_succ, List.set_cons_zero])
    | (refine o_call (vs := []) Try.func18 rfl rfl rfl rfl rfl (.list rfl) (example_calls _) (by simp) ?_; rintro e w2 ⟨A, rfl, h3⟩; replace hst := hst.call h3; clear h3; simp only [List.cons_append, List.nil_append] at hst; simp only [Act.put, List.setIfInBounds_toArray, List.set_cons_succ, List.set_cons_zero])
    | (refine o_call (vs := [hval (idH 0), .int .i64 0, .slice A 4 4]) Try.func7 rfl rfl rfl rfl rfl (.list rfl) (exnew_calls A _ (hst.row_rd (i := 0) rfl)) (by simp) ?_; rintro e w2 ⟨g, gl, gK, xs, hks, rfl, h3⟩; replace hst := hst.call h3; clear h3; simp only [Act.put, List.setIfInBounds_toArray, List.set_cons_succ, List.set_cons_zero])
    | (refine o_call (vs := [.pointer (some ⟨g, 0, none⟩)]) Try.func8 rfl rfl rfl rfl rfl (.list rfl) (exbest_calls g gl gK xs _ (fun r hr => hst.res r (List.mem_append_left _ hr)) hks) (by simp) ?_; rintro e w2 ⟨rfl, h3⟩; replace hst := hst.call h3; clear h3; simp only [List.nil_append] at hst; simp only [Act.put, List.setIfInBounds_toArray, List.set_cons_succ, List.set_cons_zero])
    | (refine o_alloc ty23 rfl (.list rfl) hst ?_; clear hst; intro w1 g3 hst; simp only [Act.put, List.setIfInBounds_toArray, List.set_cons_succ, List.set_cons_zero])
    | (refine o_store (i := 0) (k := 0) rfl rfl rfl rfl rfl (.list rfl) hst (fits_hash _) (ok1_hval _) ?_ ?_ ?_; (focus (simp [szs]; done)); (focus (simp [szs]; done)); clear hst; intro w1 hst; simp only [List.set_cons_succ, List.set_cons_zero] at hst; simp only [Act.put, List.setIfInBounds_toArray, List.set_cons_succ, List.set_cons_zero])
    | (refine o_call (vs := [.pointer (some ⟨g, 0, none⟩), hval (idH 7), hval (idH 6)]) Try.func12 rfl rfl rfl rfl rfl (.list rfl) (expath_calls g gl gK xs _ (fun r hr => hst.res r (List.mem_cons_of_mem _ (List.mem_append_left _ hr)))) (by simp) ?_; rintro e w2 ⟨A1, c1, A2, c2, rfl, h3⟩; replace hst := hst.call h3; clear h3; simp only [List.cons_append, List.nil_append] at hst; simp only [Act.put, List.setIfInBounds_toArray, List.set_cons_succ, List.set_cons_zero]))
  replace hst : St w w2 No [rowH A1 [idH 7, idH 5] c1, rowH A2 [idH 3, idH 6] c2, Res.var g3 23 [hval (idH 6)]] := hst.sub (.cons_cons _ (.cons_cons _ (.cons_cons _ (List.nil_sublist _))))
  refine wp_region_sched (.q 0 (.q 1 (.q 2 (.q 3 (.s 4 (.q 5 (.q 6 (.q 7 (.q 8 (.q 9 (.q 10 (.q 11 (.q 12 (.q 13 (.q 14 (.q 15 (.s 16 (.s 17 (.s 18 (.s 19 (.q 20 (.q 21 (.q 22 (.s 23 (.s 24 (.s 25 (.s 26 (.q 27 (.q 28 .nil))))))))))))))))))))))))))))) (fun w1 => St w w1 No [rowH A1 [idH 7, idH 5] c1, rowH A2 [idH 3, idH 6] c2, Res.var g3 23 [hval (idH 6)]]) (by kernel_rfl) (by kernel_rfl) (by kernel_rfl) (by decide) (fun d v c a w h => by cases d <;> exact h) ?_
  have hst := hst.drew
  iterate 3 (refine sched_q rfl rfl rfl hst (fun K hK => ?_); go_big_quiet_op; first | refine hK _ ?_ | refine ⟨_, fun _ _ => rfl, hK _ ?_⟩; clear hK K)
  refine q_load (v := hval (idH 6)) rfl rfl rfl rfl hst (fits_hash _) (fun w1 h => h.field_cells (i := 2) (k := 0) rfl rfl (by simp [szs])) ?_; simp only [Act.put, List.setIfInBounds_toArray, List.set_cons_succ, List.set_cons_zero]
  refine o_call (vs := [.int .i64 6]) Try.func17 rfl rfl rfl rfl rfl (.sched rfl rfl) (id_calls 6 _) (by simp) ?_
  rintro e w2 ⟨rfl, h3⟩
  replace hst := hst.call h3
  clear h3
  simp only [List.nil_append] at hst
  refine ⟨hst, ?_⟩
  try simp only [Act.put, List.setIfInBounds_toArray, List.set_cons_succ, List.set_cons_zero]
  refine q_eq ek23.eq (by omega) isAgg_hval eg23 rfl rfl rfl rfl rfl hst ?_
  try simp only [Act.put, List.setIfInBounds_toArray, List.set_cons_succ, List.set_cons_zero]
  simp only [decide_true]
  iterate 10 (refine sched_q rfl rfl rfl hst (fun K hK => ?_); go_big_quiet_op; first | refine hK _ ?_ | refine ⟨_, fun _ _ => rfl, hK _ ?_⟩; clear hK K)
  refine o_call (vs := [.int .i64 7]) Try.func17 rfl rfl rfl rfl rfl (.sched rfl rfl) (id_calls 7 _) (by simp) ?_
  rintro e w2 ⟨rfl, h3⟩
  replace hst := hst.call h3
  clear h3
  simp only [List.nil_append] at hst
  refine ⟨hst, ?_⟩
  try simp only [Act.put, List.setIfInBounds_toArray, List.set_cons_succ, List.set_cons_zero]
  refine o_call (vs := [.int .i64 5]) Try.func17 rfl rfl rfl rfl rfl (.sched rfl rfl) (id_calls 5 _) (by simp) ?_
  rintro e w2 ⟨rfl, h3⟩
  replace hst := hst.call h3
  clear h3
  simp only [List.nil_append] at hst
  refine ⟨hst, ?_⟩
  try simp only [Act.put, List.setIfInBounds_toArray, List.set_cons_succ, List.set_cons_zero]
  refine o_buildSlice (vs := [hval (idH 7), hval (idH 5)]) Try.underlying39 ty23 (size_hval hz) rfl (.sched rfl rfl) hst rfl rfl (by simp) (by simp) (by omega) ?_
  clear hst
  intro B w1 hst
  refine ⟨hst.drop 0, ?_⟩
  try simp only [Act.put, List.setIfInBounds_toArray, List.set_cons_succ, List.set_cons_zero]
  refine o_call (vs := [.slice A1 2 c1, .slice B 2 2]) Try.func19 rfl rfl rfl rfl rfl (.sched rfl rfl) (same2_calls A1 B (idH 7) (idH 5) c1 2 _ (hst.row_rd (i := 1) rfl) (hst.row_rd (i := 0) rfl)) (by simp) ?_
  rintro e w2 ⟨rfl, h3⟩
  replace hst := (hst.call h3).drop 0
  clear h3
  simp only [List.nil_append, List.eraseIdx_cons_zero] at hst
  refine ⟨hst, ?_⟩
  try simp only [Act.put, List.setIfInBounds_toArray, List.set_cons_succ, List.set_cons_zero]
  iterate 3 (refine sched_q rfl rfl rfl hst (fun K hK => ?_); go_big_quiet_op; first | refine hK _ ?_ | refine ⟨_, fun _ _ => rfl, hK _ ?_⟩; clear hK K)
  refine o_call (vs := [.int .i64 3]) Try.func17 rfl rfl rfl rfl rfl (.sched rfl rfl) (id_calls 3 _) (by simp) ?_
  rintro e w2 ⟨rfl, h3⟩
  replace hst := hst.call h3
  clear h3
  simp only [List.nil_append] at hst
  refine ⟨hst, ?_⟩
  try simp only [Act.put, List.setIfInBounds_toArray, List.set_cons_succ, List.set_cons_zero]
  refine o_call (vs := [.int .i64 6]) Try.func17 rfl rfl rfl rfl rfl (.sched rfl rfl) (id_calls 6 _) (by simp) ?_
  rintro e w2 ⟨rfl, h3⟩
  replace hst := hst.call h3
  clear h3
  simp only [List.nil_append] at hst
  refine ⟨hst, ?_⟩
  try simp only [Act.put, List.setIfInBounds_toArray, List.set_cons_succ, List.set_cons_zero]
  refine o_buildSlice (vs := [hval (idH 3), hval (idH 6)]) Try.underlying39 ty23 (size_hval hz) rfl (.sched rfl rfl) hst rfl rfl (by simp) (by simp) (by omega) ?_
  clear hst
  intro B w1 hst
  refine ⟨hst.drop 0, ?_⟩
  try simp only [Act.put, List.setIfInBounds_toArray, List.set_cons_succ, List.set_cons_zero]
  refine o_call (vs := [.slice A2 2 c2, .slice B 2 2]) Try.func19 rfl rfl rfl rfl rfl (.sched rfl rfl) (same2_calls A2 B (idH 3) (idH 6) c2 2 _ (hst.row_rd (i := 2) rfl) (hst.row_rd (i := 0) rfl)) (by simp) ?_
  rintro e w2 ⟨rfl, h3⟩
  replace hst := (hst.call h3).drop 0
  clear h3
  simp only [List.nil_append, List.eraseIdx_cons_zero] at hst
  refine ⟨hst, ?_⟩
  try simp only [Act.put, List.setIfInBounds_toArray, List.set_cons_succ, List.set_cons_zero]
  (refine sched_q rfl rfl rfl hst (fun K hK => ?_); go_big_quiet_op; first | refine hK _ ?_ | refine ⟨_, fun _ _ => rfl, hK _ ?_⟩; clear hK K)
  refine q_assign rfl rfl rfl rfl hst ?_; simp only [Act.put, List.setIfInBounds_toArray, List.set_cons_succ, List.set_cons_zero]
  refine sched_nil ?_
  try simp only [Act.put, List.setIfInBounds_toArray, List.set_cons_succ, List.set_cons_zero]
  go_wp2
  go_ret
  exact ⟨rfl, hst.sub (by simp)⟩
end Go.Proofs.Ytonbgcehgmpnkaa
