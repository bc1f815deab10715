import Derived.Test.YtonbgcehgmpnkaaTc
set_option linter.unusedVariables false
set_option linter.unusedSimpArgs false
namespace Go.Proofs.Ytonbgcehgmpnkaa
open Go Go.RowKit HL BigFrame
theorem at_map49 {P : Program} {ops rest o} {Q : Exit → Act → World → Prop} {a : Act} {w : World} (h : wpList P ops Q (o :: rest) a w) (ho : o.op = .makeMap 49 none) : wpList P ops Q (o :: rest) a w := h
theorem at_box54 {P : Program} {ops rest o x} {Q : Exit → Act → World → Prop} {a : Act} {w : World} (h : wpList P ops Q (o :: rest) a w) (ho : o.op = .box 54 x) : wpList P ops Q (o :: rest) a w := h
/-- What New asks. -/
def NewOk (root : Hash) (h : Int) (l : List LeafP) : Prop := 0 ≤ h ∧ h ≤ 2147483647 ∧ l.length ≤ 3000 ∧ Apart l ∧ ∀ x ∈ l, x.id ≠ root
/-- A tree in memory. -/
def treeL (g gl gk : Nat) (xs : List (Hash × KV × Nat)) (root : Hash) (h : Int) (l : List LeafP) : List Res :=
  Res.var g 54 [.map (some gl), .map (some gk), hval root, .int .i64 h] :: Res.map gl hval leafE (lents l) l.length :: Res.map gk hval kvE xs xs.length :: krows xs
set_option maxRecDepth 100000 in
set_option maxHeartbeats 4000000 in
theorem new_calls (root : Hash) (h : Int) (A : Option Addr) (l : List LeafP) (c : Nat) (w : World) (hA : RdS w A (flat (l.map leafE))) (hl : l.length ≤ 1048576) :
    Calls Try.prog 7 #[hval root, .int .i64 h, .slice A l.length c] w fun e w' =>
      (¬ NewOk root h l ∧ e = .returned (.tuple #[.pointer none, .int .i64 2]) ∧ St w w' No []) ∨
      (NewOk root h l ∧ ∃ g gl gk xs, KidsOf xs l ∧ e = .returned (.tuple #[.pointer (some ⟨g, 0, none⟩), .int .i64 0]) ∧ St w w' No (treeL g gl gk xs root h l)) := by
  have hst := St.start w No
  by_cases h1 : (decide (h < 0)) = true
  · go_enter Try.func7, Try.ntmps7
    go_wp2_with (first
      | (refine at_box54 ?_ rfl; refine o_box rfl rfl (.list rfl) hst ?_; clear hst; intro w1 g hst; rw [Res.var_mkS, Res.var_nest] at hst; simp only [List.cons_append, List.nil_append] at hst; simp only [Act.put, List.setIfInBounds_toArray, List.set_cons_succ, List.set_cons_zero])
      | (refine o_box rfl rfl (.list rfl) hst ?_; clear hst; intro w1 gr hst; simp only [Act.put, List.setIfInBounds_toArray, List.set_cons_succ, List.set_cons_zero])
      | (refine o_makeMap hval leafE rfl (.list rfl) hst ?_; clear hst; intro w1 gl hst; simp only [Act.put, List.setIfInBounds_toArray, List.set_cons_succ, List.set_cons_zero])
      | (refine o_buildS [(0, .map (some _)), (1, .map (some _))] ty52 pl52 rfl (.list rfl) rfl (by simp [partsFit, szs]) rfl ?_; simp only [applyParts, List.set_cons_succ, List.set_cons_zero]; simp only [Act.put, List.setIfInBounds_toArray, List.set_cons_succ, List.set_cons_zero])
      | (refine o_load (v := hval root) rfl rfl (.list rfl) (fits_hash _) (hst.field_cells (i := 2) (k := 0) rfl rfl ?_) ?_; (focus (simp [szs]; done)); simp only [Act.put, List.setIfInBounds_toArray, List.set_cons_succ, List.set_cons_zero])
      | (refine o_buildS [(0, mkS [.map (some _), .map (some _)]), (1, hval root), (2, .int .i64 h)] ty54 pl54 rfl (.list rfl) rfl (by simp [partsFit, szs]) rfl ?_; simp only [applyParts, List.set_cons_succ, List.set_cons_zero]; simp only [Act.put, List.setIfInBounds_toArray, List.set_cons_succ, List.set_cons_zero]))
    go_ret2
    refine .inl ⟨fun hk => ?_, rfl, hst.sub (by simp)⟩
    have := hk.1
    simp at h1
    omega
  have h1' : decide (h < 0) = false := by simpa using h1
  clear h1
  by_cases h2 : (decide (2147483647 < h)) = true
  · go_enter Try.func7, Try.ntmps7
    go_wp2_with (first
      | (refine at_box54 ?_ rfl; refine o_box rfl rfl (.list rfl) hst ?_; clear hst; intro w1 g hst; rw [Res.var_mkS, Res.var_nest] at hst; simp only [List.cons_append, List.nil_append] at hst; simp only [Act.put, List.setIfInBounds_toArray, List.set_cons_succ, List.set_cons_zero])
      | (refine o_box rfl rfl (.list rfl) hst ?_; clear hst; intro w1 gr hst; simp only [Act.put, List.setIfInBounds_toArray, List.set_cons_succ, List.set_cons_zero])
      | (refine o_makeMap hval leafE rfl (.list rfl) hst ?_; clear hst; intro w1 gl hst; simp only [Act.put, List.setIfInBounds_toArray, List.set_cons_succ, List.set_cons_zero])
      | (refine o_buildS [(0, .map (some _)), (1, .map (some _))] ty52 pl52 rfl (.list rfl) rfl (by simp [partsFit, szs]) rfl ?_; simp only [applyParts, List.set_cons_succ, List.set_cons_zero]; simp only [Act.put, List.setIfInBounds_toArray, List.set_cons_succ, List.set_cons_zero])
      | (refine o_load (v := hval root) rfl rfl (.list rfl) (fits_hash _) (hst.field_cells (i := 2) (k := 0) rfl rfl ?_) ?_; (focus (simp [szs]; done)); simp only [Act.put, List.setIfInBounds_toArray, List.set_cons_succ, List.set_cons_zero])
      | (refine o_buildS [(0, mkS [.map (some _), .map (some _)]), (1, hval root), (2, .int .i64 h)] ty54 pl54 rfl (.list rfl) rfl (by simp [partsFit, szs]) rfl ?_; simp only [applyParts, List.set_cons_succ, List.set_cons_zero]; simp only [Act.put, List.setIfInBounds_toArray, List.set_cons_succ, List.set_cons_zero]))
    go_ret2
    refine .inl ⟨fun hk => ?_, rfl, hst.sub (by simp)⟩
    have := hk.2.1
    simp at h2
    omega
  have h2' : decide (2147483647 < h) = false := by simpa using h2
  clear h2
  by_cases h3 : (decide ((3000 : Int) < (l.length : Int))) = true
  · go_enter Try.func7, Try.ntmps7
    go_wp2_with (first
      | (refine at_box54 ?_ rfl; refine o_box rfl rfl (.list rfl) hst ?_; clear hst; intro w1 g hst; rw [Res.var_mkS, Res.var_nest] at hst; simp only [List.cons_append, List.nil_append] at hst; simp only [Act.put, List.setIfInBounds_toArray, List.set_cons_succ, List.set_cons_zero])
      | (refine o_box rfl rfl (.list rfl) hst ?_; clear hst; intro w1 gr hst; simp only [Act.put, List.setIfInBounds_toArray, List.set_cons_succ, List.set_cons_zero])
      | (refine o_makeMap hval leafE rfl (.list rfl) hst ?_; clear hst; intro w1 gl hst; simp only [Act.put, List.setIfInBounds_toArray, List.set_cons_succ, List.set_cons_zero])
      | (refine o_buildS [(0, .map (some _)), (1, .map (some _))] ty52 pl52 rfl (.list rfl) rfl (by simp [partsFit, szs]) rfl ?_; simp only [applyParts, List.set_cons_succ, List.set_cons_zero]; simp only [Act.put, List.setIfInBounds_toArray, List.set_cons_succ, List.set_cons_zero])
      | (refine o_load (v := hval root) rfl rfl (.list rfl) (fits_hash _) (hst.field_cells (i := 2) (k := 0) rfl rfl ?_) ?_; (focus (simp [szs]; done)); simp only [Act.put, List.setIfInBounds_toArray, List.set_cons_succ, List.set_cons_zero])
      | (refine o_buildS [(0, mkS [.map (some _), .map (some _)]), (1, hval root), (2, .int .i64 h)] ty54 pl54 rfl (.list rfl) rfl (by simp [partsFit, szs]) rfl ?_; simp only [applyParts, List.set_cons_succ, List.set_cons_zero]; simp only [Act.put, List.setIfInBounds_toArray, List.set_cons_succ, List.set_cons_zero]))
    go_ret2
    refine .inl ⟨fun hk => ?_, rfl, hst.sub (by simp)⟩
    have := hk.2.2.1
    simp at h3
    omega
  have h3' : decide ((3000 : Int) < (l.length : Int)) = false := by simpa using h3
  clear h3
  go_enter Try.func7, Try.ntmps7
  go_wp2_with (first
      | (refine at_box54 ?_ rfl; refine o_box rfl rfl (.list rfl) hst ?_; clear hst; intro w1 g hst; rw [Res.var_mkS, Res.var_nest] at hst; simp only [List.cons_append, List.nil_append] at hst; simp only [Act.put, List.setIfInBounds_toArray, List.set_cons_succ, List.set_cons_zero])
      | (refine o_box rfl rfl (.list rfl) hst ?_; clear hst; intro w1 gr hst; simp only [Act.put, List.setIfInBounds_toArray, List.set_cons_succ, List.set_cons_zero])
      | (refine at_map49 ?_ rfl; refine o_makeMap hval leafE rfl (.list rfl) hst ?_; clear hst; intro w1 gl hst; simp only [Act.put, List.setIfInBounds_toArray, List.set_cons_succ, List.set_cons_zero])
      | (refine o_makeMap hval kvE rfl (.list rfl) hst ?_; clear hst; intro w1 gk hst; simp only [Act.put, List.setIfInBounds_toArray, List.set_cons_succ, List.set_cons_zero])
      | (refine o_buildS [(0, .map (some _)), (1, .map (some _))] ty52 pl52 rfl (.list rfl) rfl (by simp [partsFit, szs]) rfl ?_; simp only [applyParts, List.set_cons_succ, List.set_cons_zero]; simp only [Act.put, List.setIfInBounds_toArray, List.set_cons_succ, List.set_cons_zero])
      | (refine o_load (v := hval root) rfl rfl (.list rfl) (fits_hash _) (hst.field_cells (i := 2) (k := 0) rfl rfl ?_) ?_; (focus (simp [szs]; done)); simp only [Act.put, List.setIfInBounds_toArray, List.set_cons_succ, List.set_cons_zero])
      | (refine o_buildS [(0, mkS [.map (some _), .map (some _)]), (1, hval root), (2, .int .i64 h)] ty54 pl54 rfl (.list rfl) rfl (by simp [partsFit, szs]) rfl ?_; simp only [applyParts, List.set_cons_succ, List.set_cons_zero]; simp only [Act.put, List.setIfInBounds_toArray, List.set_cons_succ, List.set_cons_zero])
      | (refine at_nil ?_ rfl; go_must (refine o_nilCheck rfl rfl (.list rfl) ?_; simp only [Act.put, List.setIfInBounds_toArray, List.set_cons_succ, List.set_cons_zero]))
      | (refine o_field rfl rfl (.list rfl) fa54_0 ?_; simp only [Act.put, List.setIfInBounds_toArray, List.set_cons_succ, List.set_cons_zero])
      | (refine o_load (v := mkS [.map (some gl), .map (some gk)]) rfl rfl (.list rfl) (fits_of ty52 (isAgg_mkS _) (by simp [szs])) (CellsAt.pre (us := [.map (some gl), .map (some gk)]) (vs := [hval root, .int .i64 h]) (hst.var_cells (i := 0) rfl)) ?_; simp only [Act.put, List.setIfInBounds_toArray, List.set_cons_succ, List.set_cons_zero])
      | (go_at_call 20; refine (put_calls A l c gl gk _ (hst.old_rd hA (fun _ _ => id)) ?_ (hst.map_get (i := 2) rfl) (hst.map_get (i := 1) rfl) ?_ hl).mono ?_))
  · exact fun e => hst.ne_ (i := 2) (j := 1) rfl rfl (by decide) (b := gl) (fp_map.2 rfl) (fp_map.2 e)
  · intro hpos ad had
    have hb : ad.block < w.heap.size := by
      rcases hA with h | ⟨ad', h, hc⟩
      · have := leaves_sz l
        exfalso
        have h9 := congrArg List.length h
        rw [length_flat, szs_const (leaves_sz l)] at h9
        simp at h9
        omega
      · rw [had] at h
        cases h
        refine hc.lt fun h => ?_
        have h9 := congrArg List.length h
        rw [length_flat, szs_const (leaves_sz l)] at h9
        simp at h9
        omega
    have e1 := (hst.own _ (List.mem_of_getElem? (i := 2) rfl) gl (fp_map.2 rfl)).resolve_left id
    have e2 := (hst.own _ (List.mem_of_getElem? (i := 1) rfl) gk (fp_map.2 rfl)).resolve_left id
    omega
  · rintro e w2 hput
    have hst1 : St w w1 No (putL 0 gl gk [] [] ++ [Res.var g 54 [.map (some gl), .map (some gk), hval root, .int .i64 h], Res.var gr 23 [hval root]]) := hst.pick [2, 1, 0, 3] (by decide)
    clear hst
    have mem : ∀ b, (b = gl ∨ b = gk) → ∃ r ∈ putL 0 gl gk [] [], r.fp b := by
      intro b hb
      rcases hb with rfl | rfl
      · exact ⟨_, List.mem_of_getElem? (i := 0) rfl, fp_map.2 rfl⟩
      · exact ⟨_, List.mem_of_getElem? (i := 1) rfl, fp_map.2 rfl⟩
    rcases hput with ⟨rfl, hna, L, h2⟩ | ⟨rfl, hap, xs, hks, h2⟩
    · have hst := hst1.callN h2 mem
      clear hst1 h2
      go_wp2
      go_ret2
      exact .inl ⟨fun hk => hna hk.2.2.2.1, rfl, hst.sub (by simp)⟩
    · have hst := hst1.callN h2 mem
      clear hst1 h2
      replace hst : St w w2 No ([Res.var g 54 [.map (some gl), .map (some gk), hval root, .int .i64 h], Res.var gr 23 [hval root], Res.map gl hval leafE (lents l) l.length, Res.map gk hval kvE xs xs.length] ++ krows xs) := by
        have h9 := hst.perm (List.perm_append_comm (l₁ := putL 0 gl gk xs l) (l₂ := [Res.var g 54 [.map (some gl), .map (some gk), hval root, .int .i64 h], Res.var gr 23 [hval root]]))
        exact h9
      by_cases hm : mhas (lents l) root = true
      all_goals
        go_wp2
        refine wp_region_sched (.q 0 (.q 1 (.q 2 (.q 3 (.q 4 (.q 5 (.q 6 (.q 7 (.q 8 (.q 9 (.s 10 (.s 11 (.q 12 .nil))))))))))))) (fun w1 => St w w1 No ([Res.var g 54 [.map (some gl), .map (some gk), hval root, .int .i64 h], Res.var gr 23 [hval root], Res.map gl hval leafE (lents l) l.length, Res.map gk hval kvE xs xs.length] ++ krows xs)) (by kernel_rfl) (by kernel_rfl) (by kernel_rfl) (by decide) (fun d v c a w h => by cases d <;> exact h) ?_
        have hst := hst.drew
        refine q_move rfl rfl rfl rfl hst ?_; simp only [Act.put, List.setIfInBounds_toArray, List.set_cons_succ, List.set_cons_zero]
        refine q_nilCheck rfl rfl rfl rfl hst ?_; simp only [Act.put, List.setIfInBounds_toArray, List.set_cons_succ, List.set_cons_zero]
        refine q_field rfl rfl rfl rfl hst fa54_0 ?_; simp only [Act.put, List.setIfInBounds_toArray, List.set_cons_succ, List.set_cons_zero]
        refine q_field rfl rfl rfl rfl hst fa52_0 ?_; simp only [Act.put, List.setIfInBounds_toArray, List.set_cons_succ, List.set_cons_zero]
        refine q_load (v := .map (some gl)) rfl rfl rfl rfl hst (fits_of ty49 rfl rfl) (fun w1 h => h.field_cells (i := 0) (k := 0) rfl rfl (by simp [szs])) ?_; simp only [Act.put, List.setIfInBounds_toArray, List.set_cons_succ, List.set_cons_zero]
        refine q_load (v := hval root) rfl rfl rfl rfl hst (fits_hash _) (fun w1 h => h.field_cells (i := 1) (k := 0) rfl rfl (by simp [szs])) ?_; simp only [Act.put, List.setIfInBounds_toArray, List.set_cons_succ, List.set_cons_zero]
        refine q_lookup ek23 Try.underlying49 ty27 rfl rfl rfl rfl rfl hst (fun w1 h => h.map_get (i := 2) rfl) ?_; simp only [Act.put, List.setIfInBounds_toArray, List.set_cons_succ, List.set_cons_zero]
        simp only [if_true]; rw [getD_leafE]
        refine q_move rfl rfl rfl rfl hst ?_; simp only [Act.put, List.setIfInBounds_toArray, List.set_cons_succ, List.set_cons_zero]
        refine q_extract rfl rfl rfl rfl rfl hst ?_; simp only [Act.put, List.setIfInBounds_toArray, List.set_cons_succ, List.set_cons_zero]
        refine q_extract rfl rfl rfl rfl rfl hst ?_; simp only [Act.put, List.setIfInBounds_toArray, List.set_cons_succ, List.set_cons_zero]
        refine o_alloc ty27 rfl (.sched rfl rfl) hst ?_
        intro w3 gx hst3
        refine ⟨hst3.drop 0, ?_⟩
        try simp only [Act.put, List.setIfInBounds_toArray, List.set_cons_succ, List.set_cons_zero]
        refine o_store (i := 0) (k := 0) rfl rfl rfl rfl rfl (.sched rfl rfl) hst3 (fits_leaf ((mlook (lents l) root).getD leaf0)) (ok1_leafE _) ?_ ?_ ?_
        (focus (simp [szs]; done))
        (focus (simp [szs]; done))
        intro w4 hst4
        simp only [List.set_cons_succ, List.set_cons_zero] at hst4
        refine ⟨hst4.drop 0, ?_⟩
        try simp only [Act.put, List.setIfInBounds_toArray, List.set_cons_succ, List.set_cons_zero]
        have hst := hst4
        clear hst3 hst4
        refine q_assign rfl rfl rfl rfl (hst.drop 0) ?_
        refine sched_nil ?_
        try simp only [Act.put, List.setIfInBounds_toArray, List.set_cons_succ, List.set_cons_zero]
        simp only [hm]
        go_wp2
        go_ret2
      · refine .inl ⟨fun hk => ?_, rfl, hst.sub (by simp)⟩
        rw [mhas_lents, List.any_eq_true] at hm
        obtain ⟨x, hx, he⟩ := hm
        exact hk.2.2.2.2 x hx (by simpa using he)
      · refine .inr ⟨⟨?_, ?_, ?_, hap, ?_⟩, g, gl, gk, xs, hks, rfl, St.pickT [Res.var gx 27 [leafE ((mlook (lents l) root).getD leaf0)], Res.var g 54 [.map (some gl), .map (some gk), hval root, .int .i64 h], Res.var gr 23 [hval root], Res.map gl hval leafE (lents l) l.length, Res.map gk hval kvE xs xs.length] (krows xs) hst [1, 3, 4] (by decide)⟩
        · simpa using h1'
        · simpa using h2'
        · have := of_decide_eq_false h3'; omega
        · intro x hx he
          refine hm ?_
          rw [mhas_lents, List.any_eq_true]
          exact ⟨x, hx, by simpa using he⟩
end Go.Proofs.Ytonbgcehgmpnkaa
