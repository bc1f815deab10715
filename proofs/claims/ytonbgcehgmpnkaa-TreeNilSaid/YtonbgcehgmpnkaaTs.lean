import Derived.Test.YtonbgcehgmpnkaaTr
set_option linter.unusedVariables false
set_option linter.unusedSimpArgs false
namespace Go.Proofs.Ytonbgcehgmpnkaa
open Go Go.RowKit HL BigFrame
set_option maxRecDepth 100000 in
theorem path1_no (p : Option Addr) (a b : Hash) (gt gf gq g6 g7 : Nat) (w : World) (hp : NotMade w p) (h2 : (Res.var gt 29 [.pointer p]).holds w) (h3 : (Res.var gf 23 [hval a]).holds w) (h4 : (Res.var gq 23 [hval b]).holds w) :
    Calls Try.prog 29 #[.pointer (some ⟨gt, 0, none⟩), .pointer (some ⟨gf, 0, none⟩), .pointer (some ⟨gq, 0, none⟩), .pointer (some ⟨g6, 0, none⟩), .pointer (some ⟨g7, 0, none⟩)] w fun e w2 => ∃ ok L, (ok = true ∧ e = .returned (.tuple #[]) ∨ ok = false ∧ e = .panicked fell) ∧ (ok = false ∧ L = []) ∧ St w w2 No L := by
  have hst := St.start w No
  go_enter Try.func29, Try.ntmps29
  go_wp2
  refine wp_region_sched (.q 0 (.q 1 (.q 3 (.q 4 (.s 2 (.s 5 (.q 6 (.q 7 .nil)))))))) (fun w1 => St w w1 No []) (by kernel_rfl) (by kernel_rfl) (by kernel_rfl) (by decide) (fun d v c a w h => by cases d <;> exact h) ?_
  have hst := hst.drew
  refine q_load (v := .pointer p) rfl rfl rfl rfl hst (fits_of ty29 rfl rfl) (fun w1 h => var_field (h.old_holds h2) (k := 0) rfl rfl) ?_; simp only [Act.put, List.setIfInBounds_toArray, List.set_cons_succ, List.set_cons_zero]
  refine q_load (v := hval a) rfl rfl rfl rfl hst (fits_hash _) (fun w1 h => var_field (h.old_holds h3) (k := 0) rfl rfl) ?_; simp only [Act.put, List.setIfInBounds_toArray, List.set_cons_succ, List.set_cons_zero]
  refine q_load (v := .pointer p) rfl rfl rfl rfl hst (fits_of ty29 rfl rfl) (fun w1 h => var_field (h.old_holds h2) (k := 0) rfl rfl) ?_; simp only [Act.put, List.setIfInBounds_toArray, List.set_cons_succ, List.set_cons_zero]
  refine q_load (v := hval b) rfl rfl rfl rfl hst (fits_hash _) (fun w1 h => var_field (h.old_holds h4) (k := 0) rfl rfl) ?_; simp only [Act.put, List.setIfInBounds_toArray, List.set_cons_succ, List.set_cons_zero]
  refine o_call (vs := [.pointer p, hval a]) Try.func27 rfl rfl rfl rfl rfl (.sched rfl rfl) (way_no p a _ (hp.old hst)) (by simp) ?_
  rintro e w2 ⟨rfl, hc⟩
  exact ⟨rfl, false, [], .inr ⟨rfl, rfl⟩, ⟨rfl, rfl⟩, hst.call hc⟩
set_option maxRecDepth 100000 in
theorem path_no (p : Option Addr) (a b : Hash) (w : World) (hp : NotMade w p) : Calls Try.prog 12 #[.pointer p, hval a, hval b] w fun e w' => e = .returned (.tuple #[nilS, nilS, .bool false]) ∧ St w w' No [] := by
  have hst := St.start w No
  have hmf : ∀ (fn : Fn) (first cap : Array Value) (w : World), (Instr.makeFunc fn first cap).run Try.prog w = .ok (.func fn first cap) w := fun _ _ _ _ => rfl
  go_enter Try.func12, Try.ntmps12
  go_wp2_with (first
    | (refine o_box (v := .pointer p) rfl rfl (.list rfl) hst ?_; clear hst; intro w1 gt hst; simp only [Act.put, List.setIfInBounds_toArray, List.set_cons_succ, List.set_cons_zero])
    | (refine o_box (L := [_]) (v := hval a) rfl rfl (.list rfl) hst ?_; clear hst; intro w1 gf hst; simp only [Act.put, List.setIfInBounds_toArray, List.set_cons_succ, List.set_cons_zero])
    | (refine o_box (L := [_, _]) (v := hval b) rfl rfl (.list rfl) hst ?_; clear hst; intro w1 gq hst; simp only [Act.put, List.setIfInBounds_toArray, List.set_cons_succ, List.set_cons_zero])
    | (refine o_alloc (L := [_, _, _]) ty39 rfl (.list rfl) hst ?_; clear hst; intro w1 g6 hst; simp only [Act.put, List.setIfInBounds_toArray, List.set_cons_succ, List.set_cons_zero])
    | (refine o_alloc (L := [_, _, _, _]) ty39 rfl (.list rfl) hst ?_; clear hst; intro w1 g7 hst; simp only [Act.put, List.setIfInBounds_toArray, List.set_cons_succ, List.set_cons_zero])
    | (refine o_call (vs := [.func (.func 29) #[] #[.pointer (some ⟨gt, 0, none⟩), .pointer (some ⟨gf, 0, none⟩), .pointer (some ⟨gq, 0, none⟩), .pointer (some ⟨g6, 0, none⟩), .pointer (some ⟨g7, 0, none⟩)]]) Try.func25 rfl rfl rfl rfl rfl (.list rfl) (stood_calls 29 _ Try.func29 rfl rfl #[.pointer (some ⟨gt, 0, none⟩), .pointer (some ⟨gf, 0, none⟩), .pointer (some ⟨gq, 0, none⟩), .pointer (some ⟨g6, 0, none⟩), .pointer (some ⟨g7, 0, none⟩)] [] No No _ (St.start _ _) (fun b hb => hb.elim) (fun b L => b = false ∧ L = []) (fun w1 g2 h9 => path1_no p a b gt gf gq g6 g7 w1 ((hp.old hst).old h9) (h9.old_holds (hst.get (i := 4) rfl)) (h9.old_holds (hst.get (i := 3) rfl)) (h9.old_holds (hst.get (i := 2) rfl)))) (by simp) ?_; rintro e w2 ⟨b, L, rfl, ⟨rfl, rfl⟩, h3⟩; replace hst := hst.call h3; clear h3; simp only [List.nil_append] at hst; simp only [Act.put, List.setIfInBounds_toArray, List.set_cons_succ, List.set_cons_zero]))
  replace hst := hst.pick [1, 0] (by decide)
  simp only [List.filterMap_cons, List.filterMap_nil, List.getElem?_cons_succ, List.getElem?_cons_zero] at hst
  refine wp_region_sched (.q 0 (.q 1 (.q 2 (.s 3 (.s 4 (.q 5 .nil)))))) (fun w1 => St w w1 No [Res.var g6 39 [nilS], Res.var g7 39 [nilS]]) (by kernel_rfl) (by kernel_rfl) (by kernel_rfl) (by decide) (fun d v c a w h => by cases d <;> exact h) ?_
  have hst := hst.drew
  refine q_load (v := nilS) rfl rfl rfl rfl hst (fits_sl _ rfl rfl) (fun w1 h => h.field_cells (i := 0) (k := 0) rfl rfl (by simp [szs])) ?_; simp only [Act.put, List.setIfInBounds_toArray, List.set_cons_succ, List.set_cons_zero]
  refine q_load (v := nilS) rfl rfl rfl rfl hst (fits_sl _ rfl rfl) (fun w1 h => h.field_cells (i := 1) (k := 0) rfl rfl (by simp [szs])) ?_; simp only [Act.put, List.setIfInBounds_toArray, List.set_cons_succ, List.set_cons_zero]
  refine q_move rfl rfl rfl rfl hst ?_; simp only [Act.put, List.setIfInBounds_toArray, List.set_cons_succ, List.set_cons_zero]
  refine o_store (i := 0) (k := 0) rfl rfl rfl rfl rfl (.sched rfl rfl) hst (fits_sl nilS rfl rfl) (ok1_slice _ _ _) ?_ ?_ ?_
  (focus (simp [szs]; done))
  (focus (simp [szs]; done))
  clear hst
  intro w3 hst
  simp only [List.set_cons_succ, List.set_cons_zero] at hst
  refine ⟨hst, ?_⟩
  try simp only [Act.put, List.setIfInBounds_toArray, List.set_cons_succ, List.set_cons_zero]
  refine o_store (i := 1) (k := 0) rfl rfl rfl rfl rfl (.sched rfl rfl) hst (fits_sl nilS rfl rfl) (ok1_slice _ _ _) ?_ ?_ ?_
  (focus (simp [szs]; done))
  (focus (simp [szs]; done))
  clear hst
  intro w4 hst
  simp only [List.set_cons_succ, List.set_cons_zero] at hst
  refine ⟨hst, ?_⟩
  try simp only [Act.put, List.setIfInBounds_toArray, List.set_cons_succ, List.set_cons_zero]
  refine q_assign rfl rfl rfl rfl hst ?_; simp only [Act.put, List.setIfInBounds_toArray, List.set_cons_succ, List.set_cons_zero]
  refine sched_nil ?_
  try simp only [Act.put, List.setIfInBounds_toArray, List.set_cons_succ, List.set_cons_zero]
  go_wp2
  exact post_cell3 (i := 0) (i2 := 1) rfl rfl rfl rfl rfl hst rfl rfl (fits_sl nilS rfl rfl) (fits_sl nilS rfl rfl) ⟨rfl, hst.sub (by simp)⟩
/-! ### the statement TreeNil, as code -/
def ptrs (g : Nat) : List Value := [.pointer none, .pointer (some ⟨g, 0, none⟩)]
set_option maxRecDepth 100000 in
theorem run_build_hz (w : World) : (Instr.build 23 #[]).run Try.prog w = .ok (hval hz) w := by
  unfold hval
  exact run_build w 23 #[] (hcells hz).toArray (by kernel_rfl)
set_option maxRecDepth 100000 in
set_option maxHeartbeats 8000000 in
theorem nil_calls (a b : Hash) (w : World) : Calls Try.prog 5 #[hval a, hval b] w fun e w' => e = .returned (.bool true) ∧ St w w' No [] := by
  have hst := St.start w No
  go_enter Try.func5, Try.ntmps5
  go_wp2_with (first
    | (refine o_box (L := []) (v := hval a) rfl rfl (.list rfl) hst ?_; clear hst; intro w1 ga hst; simp only [Act.put, List.setIfInBounds_toArray, List.set_cons_succ, List.set_cons_zero])
    | (refine o_box (L := [_]) (v := hval b) rfl rfl (.list rfl) hst ?_; clear hst; intro w1 gb hst; simp only [Act.put, List.setIfInBounds_toArray, List.set_cons_succ, List.set_cons_zero])
    | (refine o_buildS [] ty54 pl54 rfl (.list rfl) rfl (by simp [partsFit, szs]) rfl ?_; simp only [applyParts]; simp only [Act.put, List.setIfInBounds_toArray, List.set_cons_succ, List.set_cons_zero])
    | (refine o_box (L := [_, _]) rfl rfl (.list rfl) hst ?_; clear hst; intro w1 g hst; rw [Res.var_mkS, Res.var_nest] at hst; simp only [List.cons_append, List.nil_append] at hst; simp only [Act.put, List.setIfInBounds_toArray, List.set_cons_succ, List.set_cons_zero])
    | (refine o_buildSlice (vs := ptrs g) Try.underlying55 ty29 rfl rfl (.list rfl) hst rfl rfl (by simp [ptrs]) (by simp [ptrs]) (by omega) ?_; clear hst; intro B w1 hst; simp only [Act.put, List.setIfInBounds_toArray, List.set_cons_succ, List.set_cons_zero]))
  go_loopw [6] (fun s6 wr => ∃ k : Nat, k ≤ 2 ∧ s6 = .int .i64 k ∧ St w wr No [Res.row B 2 2 29 1 (flat (ptrs g)), Res.var g 54 zeroT, Res.var gb 23 [hval b], Res.var ga 23 [hval a]]) (fun s6 _ => 2 - (intOf s6).toNat)
  case atStart => exact ⟨0, by omega, rfl, hst⟩
  case round =>
    clear hst
    obtain ⟨k, hk, rfl, hst⟩ := hrel
    by_cases hk2 : k < 2
    · obtain ⟨p, hp, hpv⟩ : ∃ p, (ptrs g)[k]? = some (.pointer p) ∧ (p = none ∨ p = some ⟨g, 0, none⟩) := by
        match k, hk2 with
        | 0, _ => exact ⟨none, rfl, .inl rfl⟩
        | 1, _ => exact ⟨some ⟨g, 0, none⟩, rfl, .inr rfl⟩
      have nm : ∀ {w1 : World}, (Res.var g 54 zeroT).holds w1 → NotMade w1 p := fun h => hpv.imp id (fun e => ⟨g, e, h⟩)
      have hps : ∀ v ∈ ptrs g, v.cells.size = 1 := by
        intro v hv
        simp [ptrs] at hv
        rcases hv with rfl | rfl <;> rfl
      have hpl : (ptrs g).length = 2 := rfl
      have HP := Lib.hid hp
      clear hp hpv
      go_wp2_with (first
        | (refine o_elem Try.underlying55 ty29 rfl rfl rfl (.list rfl) (by omega) (by omega) (hst.row_rd (i := 0) rfl) hps (by omega) (by simpa using HP.out) ?_; intro q hq; simp only [Act.put, List.setIfInBounds_toArray, List.set_cons_succ, List.set_cons_zero])
        | (refine o_load (v := .pointer p) rfl rfl (.list rfl) (fits_of ty29 rfl rfl) hq ?_; simp only [Act.put, List.setIfInBounds_toArray, List.set_cons_succ, List.set_cons_zero])
        | (refine o_call (vs := [.pointer p]) Try.func8 rfl rfl rfl rfl rfl (.list rfl) (best_no p _ (nm (hst.get (i := 1) rfl))) (by simp) ?_; rintro e w2 ⟨rfl, h3⟩; replace hst := hst.call h3; clear h3; simp only [List.nil_append] at hst; simp only [Act.put, List.setIfInBounds_toArray, List.set_cons_succ, List.set_cons_zero])
        | (refine o_alloc ty23 rfl (.list rfl) hst ?_; clear hst; intro w1 g7 hst; simp only [Act.put, List.setIfInBounds_toArray, List.set_cons_succ, List.set_cons_zero])
        | (refine o_store (i := 0) (k := 0) rfl rfl rfl rfl rfl (.list rfl) hst (fits_hash _) (ok1_hval _) ?_ ?_ ?_; (focus (simp [szs]; done)); (focus (simp [szs]; done)); clear hst; intro w1 hst; simp only [List.set_cons_succ, List.set_cons_zero] at hst; simp only [Act.put, List.setIfInBounds_toArray, List.set_cons_succ, List.set_cons_zero]))
      refine wp_region_sched (.q 0 (.q 1 (.q 2 (.q 3 (.q 4 (.s 5 (.q 6 (.q 7 (.q 8 (.q 9 (.q 10 .nil))))))))))) (fun w1 => St w w1 No [Res.var g7 23 [hval hz], Res.row B 2 2 29 1 (flat (ptrs g)), Res.var g 54 zeroT, Res.var gb 23 [hval b], Res.var ga 23 [hval a]]) (by kernel_rfl) (by kernel_rfl) (by kernel_rfl) (by decide) (fun d v c a w h => by cases d <;> exact h) ?_
      have hst := hst.drew
      iterate 2 (refine sched_q rfl rfl rfl hst (fun K hK => ?_); go_big_quiet_op; first | refine hK _ ?_ | refine ⟨_, fun _ _ => rfl, hK _ ?_⟩; clear hK K)
      refine q_elem Try.underlying55 ty29 rfl rfl rfl rfl rfl hst (by omega) (by omega) (fun w' h => h.row_rd (i := 1) rfl) hps (by omega) (by simpa using HP.out) (fun q hq => ?_)
      refine q_load (v := .pointer p) rfl rfl rfl rfl hst (fits_of ty29 rfl rfl) hq ?_; simp only [Act.put, List.setIfInBounds_toArray, List.set_cons_succ, List.set_cons_zero]
      refine q_load (v := hval a) rfl rfl rfl rfl hst (fits_hash _) (fun w1 h => h.field_cells (i := 4) (k := 0) rfl rfl (by simp [szs])) ?_; simp only [Act.put, List.setIfInBounds_toArray, List.set_cons_succ, List.set_cons_zero]
      refine o_call (vs := [.pointer p, hval a]) Try.func11 rfl rfl rfl rfl rfl (.sched rfl rfl) (way_fn_no p a _ (nm (hst.get (i := 2) rfl))) (by simp) ?_
      rintro e w2 ⟨rfl, h3⟩
      replace hst := hst.call h3
      clear h3
      simp only [List.nil_append] at hst
      refine ⟨hst, ?_⟩
      try simp only [Act.put, List.setIfInBounds_toArray, List.set_cons_succ, List.set_cons_zero]
      iterate 5 (refine sched_q rfl rfl rfl hst (fun K hK => ?_); go_big_quiet_op; first | refine hK _ ?_ | refine ⟨_, fun _ _ => rfl, hK _ ?_⟩; clear hK K)
      refine sched_nil ?_
      try simp only [Act.put, List.setIfInBounds_toArray, List.set_cons_succ, List.set_cons_zero]
      go_wp2
      refine wp_region_sched (.q 0 (.q 1 (.q 2 (.q 3 (.q 4 (.q 5 (.s 6 (.q 7 (.q 8 (.q 9 (.q 10 (.q 11 (.q 12 (.q 13 .nil)))))))))))))) (fun w1 => St w w1 No [Res.var g7 23 [hval hz], Res.row B 2 2 29 1 (flat (ptrs g)), Res.var g 54 zeroT, Res.var gb 23 [hval b], Res.var ga 23 [hval a]]) (by kernel_rfl) (by kernel_rfl) (by kernel_rfl) (by decide) (fun d v c a w h => by cases d <;> exact h) ?_
      have hst := hst.drew
      iterate 2 (refine sched_q rfl rfl rfl hst (fun K hK => ?_); go_big_quiet_op; first | refine hK _ ?_ | refine ⟨_, fun _ _ => rfl, hK _ ?_⟩; clear hK K)
      refine q_elem Try.underlying55 ty29 rfl rfl rfl rfl rfl hst (by omega) (by omega) (fun w' h => h.row_rd (i := 1) rfl) hps (by omega) (by simpa using HP.out) (fun q hq => ?_)
      refine q_load (v := .pointer p) rfl rfl rfl rfl hst (fits_of ty29 rfl rfl) hq ?_; simp only [Act.put, List.setIfInBounds_toArray, List.set_cons_succ, List.set_cons_zero]
      refine q_load (v := hval a) rfl rfl rfl rfl hst (fits_hash _) (fun w1 h => h.field_cells (i := 4) (k := 0) rfl rfl (by simp [szs])) ?_; simp only [Act.put, List.setIfInBounds_toArray, List.set_cons_succ, List.set_cons_zero]
      refine q_load (v := hval b) rfl rfl rfl rfl hst (fits_hash _) (fun w1 h => h.field_cells (i := 3) (k := 0) rfl rfl (by simp [szs])) ?_; simp only [Act.put, List.setIfInBounds_toArray, List.set_cons_succ, List.set_cons_zero]
      refine o_call (vs := [.pointer p, hval a, hval b]) Try.func12 rfl rfl rfl rfl rfl (.sched rfl rfl) (path_no p a b _ (nm (hst.get (i := 2) rfl))) (by simp) ?_
      rintro e w2 ⟨rfl, h3⟩
      replace hst := hst.call h3
      clear h3
      simp only [List.nil_append] at hst
      refine ⟨hst, ?_⟩
      try simp only [Act.put, List.setIfInBounds_toArray, List.set_cons_succ, List.set_cons_zero]
      iterate 7 (refine sched_q rfl rfl rfl hst (fun K hK => ?_); go_big_quiet_op; first | refine hK _ ?_ | refine ⟨_, fun _ _ => rfl, hK _ ?_⟩; clear hK K)
      refine sched_nil ?_
      try simp only [Act.put, List.setIfInBounds_toArray, List.set_cons_succ, List.set_cons_zero]
      go_wp2
      refine wp_region_sched (.q 0 (.q 1 (.q 2 (.q 3 (.q 4 (.q 5 (.q 6 (.q 7 (.q 8 (.q 9 (.q 10 (.q 11 (.q 12 (.q 13 (.q 14 (.q 15 (.q 16 (.q 17 (.q 18 (.s 19 (.q 20 (.q 21 (.q 22 (.q 23 (.q 24 (.q 25 (.q 26 (.q 27 (.q 28 (.q 29 (.q 30 (.q 31 (.q 32 (.q 33 (.q 34 (.q 38 (.q 39 (.q 40 (.q 41 (.q 42 (.s 35 (.q 36 (.q 37 (.s 43 (.q 44 (.q 45 (.q 46 (.q 47 .nil)))))))))))))))))))))))))))))))))))))))))))))))) (fun w1 => St w w1 No [Res.var g7 23 [hval hz], Res.row B 2 2 29 1 (flat (ptrs g)), Res.var g 54 zeroT, Res.var gb 23 [hval b], Res.var ga 23 [hval a]]) (by kernel_rfl) (by kernel_rfl) (by kernel_rfl) (by decide) (fun d v c a w h => by cases d <;> exact h) ?_
      have hst := hst.drew
      refine q_load (v := hval hz) rfl rfl rfl rfl hst (fits_hash _) (fun w1 h => h.field_cells (i := 0) (k := 0) rfl rfl (by simp [szs])) ?_; simp only [Act.put, List.setIfInBounds_toArray, List.set_cons_succ, List.set_cons_zero]
      refine sched_r (v := hval hz) rfl rfl hst (fun w' _ => by unfold execOp; simp [run_build_hz]) ?_
      try simp only [Act.put, List.setIfInBounds_toArray, List.set_cons_succ, List.set_cons_zero]
      refine q_ne ek23.eq (by omega) isAgg_hval eg23 rfl rfl rfl rfl rfl hst ?_
      try simp only [Act.put, List.setIfInBounds_toArray, List.set_cons_succ, List.set_cons_zero]
      simp only [decide_true, Bool.not_true]
      iterate 11 (refine sched_q rfl rfl rfl hst (fun K hK => ?_); go_big_quiet_op; first | refine hK _ ?_ | refine ⟨_, fun _ _ => rfl, hK _ ?_⟩; clear hK K)
      iterate 2 (refine sched_q rfl rfl rfl hst (fun K hK => ?_); go_big_quiet_op; first | refine hK _ ?_ | refine ⟨_, fun _ _ => rfl, hK _ ?_⟩; clear hK K)
      refine q_elem Try.underlying55 ty29 rfl rfl rfl rfl rfl hst (by omega) (by omega) (fun w' h => h.row_rd (i := 1) rfl) hps (by omega) (by simpa using HP.out) (fun q hq => ?_)
      refine q_load (v := .pointer p) rfl rfl rfl rfl hst (fits_of ty29 rfl rfl) hq ?_; simp only [Act.put, List.setIfInBounds_toArray, List.set_cons_succ, List.set_cons_zero]
      refine q_load (v := hval a) rfl rfl rfl rfl hst (fits_hash _) (fun w1 h => h.field_cells (i := 4) (k := 0) rfl rfl (by simp [szs])) ?_; simp only [Act.put, List.setIfInBounds_toArray, List.set_cons_succ, List.set_cons_zero]
      refine o_call (vs := [.pointer p, hval a]) Try.func9 rfl rfl rfl rfl rfl (.sched rfl rfl) (stands_no p a _ (nm (hst.get (i := 2) rfl))) (by simp) ?_
      rintro e w2 ⟨rfl, h3⟩
      replace hst := hst.call h3
      clear h3
      simp only [List.nil_append] at hst
      refine ⟨hst, ?_⟩
      try simp only [Act.put, List.setIfInBounds_toArray, List.set_cons_succ, List.set_cons_zero]
      iterate 10 (refine sched_q rfl rfl rfl hst (fun K hK => ?_); go_big_quiet_op; first | refine hK _ ?_ | refine ⟨_, fun _ _ => rfl, hK _ ?_⟩; clear hK K)
      iterate 2 (refine sched_q rfl rfl rfl hst (fun K hK => ?_); go_big_quiet_op; first | refine hK _ ?_ | refine ⟨_, fun _ _ => rfl, hK _ ?_⟩; clear hK K)
      refine q_elem Try.underlying55 ty29 rfl rfl rfl rfl rfl hst (by omega) (by omega) (fun w' h => h.row_rd (i := 1) rfl) hps (by omega) (by simpa using HP.out) (fun q hq => ?_)
      refine q_load (v := .pointer p) rfl rfl rfl rfl hst (fits_of ty29 rfl rfl) hq ?_; simp only [Act.put, List.setIfInBounds_toArray, List.set_cons_succ, List.set_cons_zero]
      refine q_load (v := hval a) rfl rfl rfl rfl hst (fits_hash _) (fun w1 h => h.field_cells (i := 4) (k := 0) rfl rfl (by simp [szs])) ?_; simp only [Act.put, List.setIfInBounds_toArray, List.set_cons_succ, List.set_cons_zero]
      iterate 2 (refine sched_q rfl rfl rfl hst (fun K hK => ?_); go_big_quiet_op; first | refine hK _ ?_ | refine ⟨_, fun _ _ => rfl, hK _ ?_⟩; clear hK K)
      refine q_elem Try.underlying55 ty29 rfl rfl rfl rfl rfl hst (by omega) (by omega) (fun w' h => h.row_rd (i := 1) rfl) hps (by omega) (by simpa using HP.out) (fun q hq => ?_)
      refine q_load (v := .pointer p) rfl rfl rfl rfl hst (fits_of ty29 rfl rfl) hq ?_; simp only [Act.put, List.setIfInBounds_toArray, List.set_cons_succ, List.set_cons_zero]
      refine q_load (v := hval b) rfl rfl rfl rfl hst (fits_hash _) (fun w1 h => h.field_cells (i := 3) (k := 0) rfl rfl (by simp [szs])) ?_; simp only [Act.put, List.setIfInBounds_toArray, List.set_cons_succ, List.set_cons_zero]
      refine o_call (vs := [.pointer p, hval a]) Try.func16 rfl rfl rfl rfl rfl (.sched rfl rfl) (behind_no p a _ (nm (hst.get (i := 2) rfl))) (by simp) ?_
      rintro e w2 ⟨rfl, h3⟩
      replace hst := hst.call h3
      clear h3
      simp only [List.nil_append] at hst
      refine ⟨hst, ?_⟩
      try simp only [Act.put, List.setIfInBounds_toArray, List.set_cons_succ, List.set_cons_zero]
      iterate 2 (refine sched_q rfl rfl rfl hst (fun K hK => ?_); go_big_quiet_op; first | refine hK _ ?_ | refine ⟨_, fun _ _ => rfl, hK _ ?_⟩; clear hK K)
      refine o_call (vs := [.pointer p, hval b]) Try.func14 rfl rfl rfl rfl rfl (.sched rfl rfl) (gone_no p b _ (nm (hst.get (i := 2) rfl))) (by simp) ?_
      rintro e w2 ⟨rfl, h3⟩
      replace hst := hst.call h3
      clear h3
      simp only [List.nil_append] at hst
      refine ⟨hst, ?_⟩
      try simp only [Act.put, List.setIfInBounds_toArray, List.set_cons_succ, List.set_cons_zero]
      iterate 4 (refine sched_q rfl rfl rfl hst (fun K hK => ?_); go_big_quiet_op; first | refine hK _ ?_ | refine ⟨_, fun _ _ => rfl, hK _ ?_⟩; clear hK K)
      refine sched_nil ?_
      try simp only [Act.put, List.setIfInBounds_toArray, List.set_cons_succ, List.set_cons_zero]
      go_wp2
      refine ⟨⟨k + 1, by omega, by go_num, hst.drop 0⟩, by simp [intOf]; omega⟩
    · have hke : k = 2 := by omega
      subst hke
      go_wp2_with (first
        | (refine o_call (vs := []) Try.func6 rfl rfl rfl rfl rfl (.list rfl) (awake_calls _) (by simp) ?_; rintro e w2 ⟨rfl, h3⟩; replace hst := hst.call h3; clear h3; simp only [List.nil_append] at hst; simp only [Act.put, List.setIfInBounds_toArray, List.set_cons_succ, List.set_cons_zero]))
      go_ret
      exact ⟨rfl, hst.sub (by simp)⟩
end Go.Proofs.Ytonbgcehgmpnkaa
