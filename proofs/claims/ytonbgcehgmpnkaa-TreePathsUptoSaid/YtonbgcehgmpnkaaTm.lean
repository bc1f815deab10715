import Derived.Test.YtonbgcehgmpnkaaTl
set_option linter.unusedVariables false
set_option linter.unusedSimpArgs false
namespace Go.Proofs.Ytonbgcehgmpnkaa
open Go Go.RowKit HL BigFrame
/-- How far two ways are one. -/
def cpl : List Hash → List Hash → Nat
  | a :: x, b :: y => if a = b then cpl x y + 1 else 0
  | _, _ => 0
theorem cpl_le : ∀ (x y : List Hash), cpl x y ≤ x.length ∧ cpl x y ≤ y.length
  | [], y => by simp [cpl]
  | a :: x, [] => by simp [cpl]
  | a :: x, b :: y => by
    have := cpl_le x y
    simp only [cpl]
    split <;> simp <;> omega
theorem cpl_step {x y : List Hash} {n : Nat} (h1 : n < x.length) (h2 : n < y.length) : cpl (x.drop n) (y.drop n) = if x[n] = y[n] then cpl (x.drop (n + 1)) (y.drop (n + 1)) + 1 else 0 := by
  rw [List.drop_eq_getElem_cons h1, List.drop_eq_getElem_cons h2, cpl]
theorem cpl_out {x y : List Hash} {n : Nat} (h : x.length ≤ n ∨ y.length ≤ n) : cpl (x.drop n) (y.drop n) = 0 := by
  have := cpl_le (x.drop n) (y.drop n)
  simp only [List.length_drop] at this
  omega
/-- What Path's closure leaves. -/
def PathL (l : List LeafP) (root : Hash) (h : Int) (a b : Hash) (g6 g7 : Nat) (ok : Bool) (L : List Res) : Prop :=
  (∃ xs ys A1 c1 A2 c2, wayOf l root h a = some xs ∧ wayOf l root h b = some ys ∧ ok = true ∧ xs.length ≤ l.length ∧ ys.length ≤ l.length ∧
    L = [rowH A1 (xs.drop (cpl xs ys)).reverse c1, rowH A2 (ys.drop (cpl xs ys)) c2, Res.var g6 39 [sl A1 (xs.drop (cpl xs ys)).reverse c1], Res.var g7 39 [sl A2 (ys.drop (cpl xs ys)) c2]]) ∨
  ((wayOf l root h a = none ∨ wayOf l root h b = none) ∧ ok = false ∧ L = [Res.var g6 39 [nilS], Res.var g7 39 [nilS]])
set_option maxRecDepth 100000 in
set_option maxHeartbeats 4000000 in
theorem path1_calls (g gl gK : Nat) (xs : List (Hash × KV × Nat)) (root : Hash) (h : Int) (l : List LeafP) (a b : Hash) (gt gf gq g6 g7 : Nat) (w : World) (ht : ∀ r ∈ treeL g gl gK xs root h l, r.holds w) (htm : ∀ r ∈ treeL g gl gK xs root h l, ∀ q, r.fp q → ¬ (q = g6 ∨ q = g7)) (hh : ∀ x ∈ l, x.height ≤ 9223372036854775807) (h0 : 0 ≤ h) (h1 : h ≤ 2147483647) (hl : l.length ≤ 3000)
    (h2 : (Res.var gt 29 [.pointer (some ⟨g, 0, none⟩)]).holds w) (h2m : ¬ (gt = g6 ∨ gt = g7)) (h3 : (Res.var gf 23 [hval a]).holds w) (h3m : ¬ (gf = g6 ∨ gf = g7)) (h4 : (Res.var gq 23 [hval b]).holds w) (h4m : ¬ (gq = g6 ∨ gq = g7)) (h67 : g6 ≠ g7) (h6 : (Res.var g6 39 [nilS]).holds w) (h7 : (Res.var g7 39 [nilS]).holds w) :
    Calls Try.prog 29 #[.pointer (some ⟨gt, 0, none⟩), .pointer (some ⟨gf, 0, none⟩), .pointer (some ⟨gq, 0, none⟩), .pointer (some ⟨g6, 0, none⟩), .pointer (some ⟨g7, 0, none⟩)] w fun e w2 => ∃ ok L, (ok = true ∧ e = .returned (.tuple #[]) ∨ ok = false ∧ e = .panicked fell) ∧ PathL l root h a b g6 g7 ok L ∧ St w w2 (fun q => q = g6 ∨ q = g7) L := by
  have hst : St w w (fun q => q = g6 ∨ q = g7) [Res.var g6 39 [nilS], Res.var g7 39 [nilS]] := (St.startL (L := [Res.var g6 39 [nilS], Res.var g7 39 [nilS]]) (by
      intro r hr
      simp at hr
      rcases hr with rfl | rfl
      · exact h6
      · exact h7) (by
      simp only [List.pairwise_cons]
      refine ⟨?_, by simp, by simp⟩
      intro r hr q hq hq'
      simp at hr
      subst hr
      exact h67 ((fp_var.1 hq).symm.trans (fp_var.1 hq')))).more (by
      rintro q ⟨r, hr, hq⟩
      simp at hr
      rcases hr with rfl | rfl
      · exact .inl (fp_var.1 hq)
      · exact .inr (fp_var.1 hq))
  have old : ∀ {w1 : World} {L : List Res}, St w w1 (fun q => q = g6 ∨ q = g7) L → ∀ r ∈ treeL g gl gK xs root h l, r.holds w1 := fun hs r hr => hs.old_holdsM (ht r hr) (htm r hr)
  have o2 : ∀ {w1 : World} {L : List Res}, St w w1 (fun q => q = g6 ∨ q = g7) L → (Res.var gt 29 [.pointer (some ⟨g, 0, none⟩)]).holds w1 := fun hs => hs.old_holdsM h2 (fun q hq => by rw [fp_var.1 hq]; exact h2m)
  have o3 : ∀ {w1 : World} {L : List Res}, St w w1 (fun q => q = g6 ∨ q = g7) L → (Res.var gf 23 [hval a]).holds w1 := fun hs => hs.old_holdsM h3 (fun q hq => by rw [fp_var.1 hq]; exact h3m)
  have o4 : ∀ {w1 : World} {L : List Res}, St w w1 (fun q => q = g6 ∨ q = g7) L → (Res.var gq 23 [hval b]).holds w1 := fun hs => hs.old_holdsM h4 (fun q hq => by rw [fp_var.1 hq]; exact h4m)
  go_enter Try.func29, Try.ntmps29
  go_wp2
  refine wp_region_sched (.q 0 (.q 1 (.q 3 (.q 4 (.s 2 (.s 5 (.q 6 (.q 7 .nil)))))))) (fun w1 => St w w1 (fun q => q = g6 ∨ q = g7) [Res.var g6 39 [nilS], Res.var g7 39 [nilS]]) (by kernel_rfl) (by kernel_rfl) (by kernel_rfl) (by decide) (fun d v c a w h => by cases d <;> exact h) ?_
  have hst := hst.drew
  refine q_load (v := .pointer (some ⟨g, 0, none⟩)) rfl rfl rfl rfl hst (fits_of ty29 rfl rfl) (fun w1 h => var_field (o2 h) (k := 0) rfl rfl) ?_; simp only [Act.put, List.setIfInBounds_toArray, List.set_cons_succ, List.set_cons_zero]
  refine q_load (v := hval a) rfl rfl rfl rfl hst (fits_hash _) (fun w1 h => var_field (o3 h) (k := 0) rfl rfl) ?_; simp only [Act.put, List.setIfInBounds_toArray, List.set_cons_succ, List.set_cons_zero]
  refine q_load (v := .pointer (some ⟨g, 0, none⟩)) rfl rfl rfl rfl hst (fits_of ty29 rfl rfl) (fun w1 h => var_field (o2 h) (k := 0) rfl rfl) ?_; simp only [Act.put, List.setIfInBounds_toArray, List.set_cons_succ, List.set_cons_zero]
  refine q_load (v := hval b) rfl rfl rfl rfl hst (fits_hash _) (fun w1 h => var_field (o4 h) (k := 0) rfl rfl) ?_; simp only [Act.put, List.setIfInBounds_toArray, List.set_cons_succ, List.set_cons_zero]
  refine o_call (vs := [.pointer (some ⟨g, 0, none⟩), hval a]) Try.func27 rfl rfl rfl rfl rfl (.sched rfl rfl) (way_calls g gl gK xs root h l a _ (old hst) hh h0 h1 hl) (by simp) ?_
  rintro e w2 (⟨hwa, rfl, hc⟩ | ⟨ia, A1, c1, hwa, hla, rfl, hc⟩)
  · exact ⟨rfl, false, [Res.var g6 39 [nilS], Res.var g7 39 [nilS]], .inr ⟨rfl, rfl⟩, .inr ⟨.inl hwa, rfl, rfl⟩, hst.call hc⟩
  refine ⟨(hst.call hc).drop 0, ?_⟩
  replace hst := hst.call hc
  clear hc
  simp only [List.cons_append, List.nil_append] at hst
  try simp only [Act.put, List.setIfInBounds_toArray, List.set_cons_succ, List.set_cons_zero]
  refine o_call (vs := [.pointer (some ⟨g, 0, none⟩), hval b]) Try.func27 rfl rfl rfl rfl rfl (.sched rfl rfl) (way_calls g gl gK xs root h l b _ (old hst) hh h0 h1 hl) (by simp) ?_
  rintro e w2 (⟨hwb, rfl, hc⟩ | ⟨ib, A2, c2, hwb, hlb, rfl, hc⟩)
  · exact ⟨rfl, false, [Res.var g6 39 [nilS], Res.var g7 39 [nilS]], .inr ⟨rfl, rfl⟩, .inr ⟨.inr hwb, rfl, rfl⟩, (hst.call hc).drop 0⟩
  refine ⟨(hst.call hc).pick [2, 3] (by decide), ?_⟩
  replace hst := hst.call hc
  clear hc
  simp only [List.cons_append, List.nil_append] at hst
  try simp only [Act.put, List.setIfInBounds_toArray, List.set_cons_succ, List.set_cons_zero]
  refine q_assign rfl rfl rfl rfl (hst.pick [2, 3] (by decide)) ?_; simp only [Act.put, List.setIfInBounds_toArray, List.set_cons_succ, List.set_cons_zero]
  refine q_assign rfl rfl rfl rfl (hst.pick [2, 3] (by decide)) ?_; simp only [Act.put, List.setIfInBounds_toArray, List.set_cons_succ, List.set_cons_zero]
  refine sched_nil ?_
  have HWA := Lib.hid hwa
  have HWB := Lib.hid hwb
  have hrow1 := hst.row_rd (i := 1) rfl
  have hrow2 := hst.row_rd (i := 0) rfl
  clear hwa hwb
  go_wp2
  go_loopg [7] (ia.length + 1) (fun kx s7 wr => ∃ n : Nat, s7 = .int .i64 n ∧ n ≤ ia.length ∧ n ≤ ib.length ∧ ia.length + 1 - n ≤ kx ∧ n + cpl (ia.drop n) (ib.drop n) = cpl ia ib ∧
    St w wr (fun q => q = g6 ∨ q = g7) [rowH A2 ib c2, rowH A1 ia c1, Res.var g6 39 [nilS], Res.var g7 39 [nilS]])
  case atStart => exact ⟨0, rfl, by omega, by omega, by omega, by simp, hst⟩
  case round =>
    clear hst
    obtain ⟨n, rfl, hn1, hn2, hkx, hcp, hst⟩ := hrel
    have hl1 := hst.row_rd (i := 1) rfl
    have hl2 := hst.row_rd (i := 0) rfl
    by_cases hin : n < ia.length ∧ n < ib.length
    · obtain ⟨hn3, hn4⟩ := hin
      have hst' := cpl_step hn3 hn4
      have g1 := hashes_at ia n hn3
      have g2 := hashes_at ib n hn4
      have G1 := Lib.hid g1
      have G2 := Lib.hid g2
      have HCS := Lib.hid hst'
      have HCP := Lib.hid hcp
      clear g1 g2 hst' hcp hl1 hl2
      go_wp2
      refine wp_region_sched (.q 0 (.q 1 (.q 2 (.q 3 (.q 4 (.q 5 (.q 6 (.q 7 (.q 8 (.q 9 (.q 10 (.q 11 (.q 12 (.q 13 (.q 14 (.q 15 (.q 16 (.q 17 .nil)))))))))))))))))) (fun w1 => St w w1 (fun q => q = g6 ∨ q = g7) [rowH A2 ib c2, rowH A1 ia c1, Res.var g6 39 [nilS], Res.var g7 39 [nilS]]) (by kernel_rfl) (by kernel_rfl) (by kernel_rfl) (by decide) (fun d v c a w h => by cases d <;> exact h) ?_
      have hst := hst.drew
      iterate 6 (refine sched_q rfl rfl rfl hst (fun K hK => ?_); go_big_quiet_op; first | refine hK _ ?_ | refine ⟨_, fun _ _ => rfl, hK _ ?_⟩; clear hK K)
      try simp only [Act.put, List.setIfInBounds_toArray, List.set_cons_succ, List.set_cons_zero]
      obtain ⟨mm, hmm⟩ : ∃ mm : Int, mm = if ib.length < ia.length then (ib.length : Int) else ia.length := ⟨_, rfl⟩
      rw [← hmm]
      have hmd : decide ((n : Int) < mm) = true := decide_eq_true (by rw [hmm]; split <;> omega)
      clear hmm
      (refine sched_q rfl rfl rfl hst (fun K hK => ?_); go_big_quiet_op; first | refine hK _ ?_ | refine ⟨_, fun _ _ => rfl, hK _ ?_⟩; clear hK K)
      try simp only [hmd]
      iterate 3 (refine sched_q rfl rfl rfl hst (fun K hK => ?_); go_big_quiet_op; first | refine hK _ ?_ | refine ⟨_, fun _ _ => rfl, hK _ ?_⟩; clear hK K)
      refine q_elem Try.underlying39 ty23 rfl rfl rfl rfl rfl hst (by omega) (by omega) (fun w' h => h.row_rd (i := 1) rfl) (hashes_sz ia) (by omega) (by simpa using G1.out) (fun p hp => ?_)
      refine q_load (v := hval ia[n]) rfl rfl rfl rfl hst (fits_hash _) hp ?_; simp only [Act.put, List.setIfInBounds_toArray, List.set_cons_succ, List.set_cons_zero]
      iterate 2 (refine sched_q rfl rfl rfl hst (fun K hK => ?_); go_big_quiet_op; first | refine hK _ ?_ | refine ⟨_, fun _ _ => rfl, hK _ ?_⟩; clear hK K)
      refine q_elem Try.underlying39 ty23 rfl rfl rfl rfl rfl hst (by omega) (by omega) (fun w' h => h.row_rd (i := 0) rfl) (hashes_sz ib) (by omega) (by simpa using G2.out) (fun p hp => ?_)
      refine q_load (v := hval ib[n]) rfl rfl rfl rfl hst (fits_hash _) hp ?_; simp only [Act.put, List.setIfInBounds_toArray, List.set_cons_succ, List.set_cons_zero]
      refine q_eq ek23.eq (by omega) isAgg_hval eg23 rfl rfl rfl rfl rfl hst ?_
      try simp only [Act.put, List.setIfInBounds_toArray, List.set_cons_succ, List.set_cons_zero]
      by_cases heq : ia[n] = ib[n]
      · have hd : decide (ia[n] = ib[n]) = true := decide_eq_true heq
        have hcs := HCS.out
        rw [if_pos heq] at hcs
        simp only [hd]
        clear hd heq
        (refine sched_q rfl rfl rfl hst (fun K hK => ?_); go_big_quiet_op; first | refine hK _ ?_ | refine ⟨_, fun _ _ => rfl, hK _ ?_⟩; clear hK K)
        refine sched_nil ?_
        try simp only [Act.put, List.setIfInBounds_toArray, List.set_cons_succ, List.set_cons_zero]
        go_wp2
        go_roundg (ia.length + 1 - (n + 1))
        case measure => omega
        case rel => exact ⟨n + 1, by go_num, by omega, by omega, Nat.le_refl _, by have := HCP.out; omega, hst⟩
      · have hd : decide (ia[n] = ib[n]) = false := decide_eq_false heq
        have hcs := HCS.out
        rw [if_neg heq] at hcs
        have hfin : n = cpl ia ib := by have := HCP.out; omega
        have HFIN := Lib.hid hfin
        clear hfin
        simp only [hd]
        clear hd heq
        (refine sched_q rfl rfl rfl hst (fun K hK => ?_); go_big_quiet_op; first | refine hK _ ?_ | refine ⟨_, fun _ _ => rfl, hK _ ?_⟩; clear hK K)
        refine sched_nil ?_
        try simp only [Act.put, List.setIfInBounds_toArray, List.set_cons_succ, List.set_cons_zero]
        go_wp2
        refine wp_region_sched (.q 0 (.q 1 (.q 2 (.q 3 (.q 4 (.q 5 (.s 6 (.s 7 .nil)))))))) (fun w1 => True) (by kernel_rfl) (by kernel_rfl) (by kernel_rfl) (by decide) (fun d v c a w h => by cases d <;> exact h) ?_
        have hst := hst.drew
        iterate 2 (refine q_move rfl rfl rfl rfl trivial ?_; simp only [Act.put, List.setIfInBounds_toArray, List.set_cons_succ, List.set_cons_zero])
        refine q_sliceLo Try.underlying39 ty23 rfl rfl rfl rfl rfl trivial (by omega) (by omega) ?_; simp only [Act.put, List.setIfInBounds_toArray, List.set_cons_succ, List.set_cons_zero]
        iterate 2 (refine q_move rfl rfl rfl rfl trivial ?_; simp only [Act.put, List.setIfInBounds_toArray, List.set_cons_succ, List.set_cons_zero])
        refine q_sliceLo Try.underlying39 ty23 rfl rfl rfl rfl rfl trivial (by omega) (by omega) ?_; simp only [Act.put, List.setIfInBounds_toArray, List.set_cons_succ, List.set_cons_zero]
        refine o_store (i := 2) (k := 0) rfl rfl rfl rfl rfl (.sched rfl rfl) hst (fits_sl _ rfl rfl) (ok1_slice _ _ _) ?_ ?_ ?_
        (focus (simp [szs]; done))
        (focus (simp [szs]; done))
        intro w3 hst3
        clear hst
        refine ⟨trivial, ?_⟩
        try simp only [Act.put, List.setIfInBounds_toArray, List.set_cons_succ, List.set_cons_zero]
        simp only [List.set_cons_succ, List.set_cons_zero] at hst3
        refine o_store (i := 3) (k := 0) rfl rfl rfl rfl rfl (.sched rfl rfl) hst3 (fits_sl _ rfl rfl) (ok1_slice _ _ _) ?_ ?_ ?_
        (focus (simp [szs]; done))
        (focus (simp [szs]; done))
        intro w4 hst
        clear hst3
        refine ⟨trivial, ?_⟩
        try simp only [Act.put, List.setIfInBounds_toArray, List.set_cons_succ, List.set_cons_zero]
        simp only [List.set_cons_succ, List.set_cons_zero] at hst
        refine sched_nil ?_
        try simp only [Act.put, List.setIfInBounds_toArray, List.set_cons_succ, List.set_cons_zero]
        replace hst := hst.repl (i := 1) rfl (row_tail (i := n) (by omega) (hashes_sz ia) (hst.get (i := 1) rfl) hn1) (fun q hq => fp_row.2 ((obl_tailA _ _ _ _) ▸ fp_row.1 hq))
        replace hst := hst.repl (i := 0) rfl (row_tail (i := n) (by omega) (hashes_sz ib) (hst.get (i := 0) rfl) hn2) (fun q hq => fp_row.2 ((obl_tailA _ _ _ _) ▸ fp_row.1 hq))
        simp only [List.set_cons_succ, List.set_cons_zero, ← List.map_drop, Int.toNat_natCast] at hst
        rw [← List.length_drop, ← List.length_drop] at hst
        simp only [Int.toNat_natCast]
        rw [← List.length_drop (l := ia), ← List.length_drop (l := ib)]
        have hdl : (ia.drop n).length ≤ 1048576 := by rw [List.length_drop]; omega
        have HDL := Lib.hid hdl
        clear hdl
        obtain ⟨d, hd⟩ : ∃ d, d = ia.drop n := ⟨_, rfl⟩
        obtain ⟨u, hu⟩ : ∃ u, u = ib.drop n := ⟨_, rfl⟩
        rw [← hd] at hst HDL ⊢
        rw [← hu] at hst ⊢
        have HD := Lib.hid hd
        have HU := Lib.hid hu
        clear hd hu
        go_wp2_with (first
          | (refine o_load (v := .slice (tailA A1 c1 n 32) d.length (c1 - n)) rfl rfl (.list rfl) (fits_sl _ rfl rfl) (hst.field_cells (i := 2) (k := 0) rfl rfl ?_) ?_; (focus (simp [szs]; done)); simp only [Act.put, List.setIfInBounds_toArray, List.set_cons_succ, List.set_cons_zero])
          | (refine o_call (vs := [.slice (tailA A1 c1 n 32) d.length (c1 - n)]) Try.func30 rfl rfl rfl rfl rfl (.list rfl) (reverse_calls (tailA A1 c1 n 32) d (c1 - n) _ (hst.get (i := 1) rfl) HDL.out) (by simp) ?_; rintro e w5 ⟨rfl, h3⟩; replace hst := (hst.front 1 rfl).call0 h3 (fun b hb => fp_row.2 hb); clear h3; simp only [List.cons_append, List.nil_append, List.eraseIdx_cons_succ, List.eraseIdx_cons_zero] at hst; simp only [Act.put, List.setIfInBounds_toArray, List.set_cons_succ, List.set_cons_zero]))
        refine ⟨rfl, .tuple #[], by simp [results, Try.results29, Sem.run_pure], true, _, .inl ⟨rfl, rfl⟩, .inl ⟨ia, ib, tailA A1 c1 n 32, c1 - n, tailA A2 c2 n 32, c2 - n, HWA.out, HWB.out, rfl, hla, hlb, rfl⟩, ?_⟩
        rw [← HFIN.out, ← HD.out, ← HU.out]
        unfold rowH sl
        rw [List.length_reverse]
        exact hst
    · have hout := cpl_out (x := ia) (y := ib) (n := n) (by omega)
      have hfin : n = cpl ia ib := by omega
      have HFIN := Lib.hid hfin
      clear hfin hl1 hl2
      go_wp2
      refine wp_region_sched (.q 0 (.q 1 (.q 2 (.q 3 (.q 4 (.q 5 (.q 6 (.q 7 (.q 8 (.q 9 (.q 10 (.q 11 (.q 12 (.q 13 (.q 14 (.q 15 (.q 16 (.q 17 .nil)))))))))))))))))) (fun w1 => St w w1 (fun q => q = g6 ∨ q = g7) [rowH A2 ib c2, rowH A1 ia c1, Res.var g6 39 [nilS], Res.var g7 39 [nilS]]) (by kernel_rfl) (by kernel_rfl) (by kernel_rfl) (by decide) (fun d v c a w h => by cases d <;> exact h) ?_
      have hst := hst.drew
      iterate 6 (refine sched_q rfl rfl rfl hst (fun K hK => ?_); go_big_quiet_op; first | refine hK _ ?_ | refine ⟨_, fun _ _ => rfl, hK _ ?_⟩; clear hK K)
      try simp only [Act.put, List.setIfInBounds_toArray, List.set_cons_succ, List.set_cons_zero]
      obtain ⟨mm, hmm⟩ : ∃ mm : Int, mm = if ib.length < ia.length then (ib.length : Int) else ia.length := ⟨_, rfl⟩
      rw [← hmm]
      have hmd : decide ((n : Int) < mm) = false := decide_eq_false (by rw [hmm]; split <;> omega)
      clear hmm
      (refine sched_q rfl rfl rfl hst (fun K hK => ?_); go_big_quiet_op; first | refine hK _ ?_ | refine ⟨_, fun _ _ => rfl, hK _ ?_⟩; clear hK K)
      try simp only [hmd]
      (refine sched_q rfl rfl rfl hst (fun K hK => ?_); go_big_quiet_op; first | refine hK _ ?_ | refine ⟨_, fun _ _ => rfl, hK _ ?_⟩; clear hK K)
      iterate 9 (refine sched_skip rfl rfl hst ?_; simp only [Act.put, List.setIfInBounds_toArray, List.set_cons_succ, List.set_cons_zero])
      (refine sched_q rfl rfl rfl hst (fun K hK => ?_); go_big_quiet_op; first | refine hK _ ?_ | refine ⟨_, fun _ _ => rfl, hK _ ?_⟩; clear hK K)
      refine sched_nil ?_
      try simp only [Act.put, List.setIfInBounds_toArray, List.set_cons_succ, List.set_cons_zero]
      go_wp2
      refine wp_region_sched (.q 0 (.q 1 (.q 2 (.q 3 (.q 4 (.q 5 (.s 6 (.s 7 .nil)))))))) (fun w1 => True) (by kernel_rfl) (by kernel_rfl) (by kernel_rfl) (by decide) (fun d v c a w h => by cases d <;> exact h) ?_
      have hst := hst.drew
      iterate 2 (refine q_move rfl rfl rfl rfl trivial ?_; simp only [Act.put, List.setIfInBounds_toArray, List.set_cons_succ, List.set_cons_zero])
      refine q_sliceLo Try.underlying39 ty23 rfl rfl rfl rfl rfl trivial (by omega) (by omega) ?_; simp only [Act.put, List.setIfInBounds_toArray, List.set_cons_succ, List.set_cons_zero]
      iterate 2 (refine q_move rfl rfl rfl rfl trivial ?_; simp only [Act.put, List.setIfInBounds_toArray, List.set_cons_succ, List.set_cons_zero])
      refine q_sliceLo Try.underlying39 ty23 rfl rfl rfl rfl rfl trivial (by omega) (by omega) ?_; simp only [Act.put, List.setIfInBounds_toArray, List.set_cons_succ, List.set_cons_zero]
      refine o_store (i := 2) (k := 0) rfl rfl rfl rfl rfl (.sched rfl rfl) hst (fits_sl _ rfl rfl) (ok1_slice _ _ _) ?_ ?_ ?_
      (focus (simp [szs]; done))
      (focus (simp [szs]; done))
      intro w3 hst3
      clear hst
      refine ⟨trivial, ?_⟩
      try simp only [Act.put, List.setIfInBounds_toArray, List.set_cons_succ, List.set_cons_zero]
      simp only [List.set_cons_succ, List.set_cons_zero] at hst3
      refine o_store (i := 3) (k := 0) rfl rfl rfl rfl rfl (.sched rfl rfl) hst3 (fits_sl _ rfl rfl) (ok1_slice _ _ _) ?_ ?_ ?_
      (focus (simp [szs]; done))
      (focus (simp [szs]; done))
      intro w4 hst
      clear hst3
      refine ⟨trivial, ?_⟩
      try simp only [Act.put, List.setIfInBounds_toArray, List.set_cons_succ, List.set_cons_zero]
      simp only [List.set_cons_succ, List.set_cons_zero] at hst
      refine sched_nil ?_
      try simp only [Act.put, List.setIfInBounds_toArray, List.set_cons_succ, List.set_cons_zero]
      replace hst := hst.repl (i := 1) rfl (row_tail (i := n) (by omega) (hashes_sz ia) (hst.get (i := 1) rfl) hn1) (fun q hq => fp_row.2 ((obl_tailA _ _ _ _) ▸ fp_row.1 hq))
      replace hst := hst.repl (i := 0) rfl (row_tail (i := n) (by omega) (hashes_sz ib) (hst.get (i := 0) rfl) hn2) (fun q hq => fp_row.2 ((obl_tailA _ _ _ _) ▸ fp_row.1 hq))
      simp only [List.set_cons_succ, List.set_cons_zero, ← List.map_drop, Int.toNat_natCast] at hst
      rw [← List.length_drop, ← List.length_drop] at hst
      simp only [Int.toNat_natCast]
      rw [← List.length_drop (l := ia), ← List.length_drop (l := ib)]
      have hdl : (ia.drop n).length ≤ 1048576 := by rw [List.length_drop]; omega
      have HDL := Lib.hid hdl
      clear hdl
      obtain ⟨d, hd⟩ : ∃ d, d = ia.drop n := ⟨_, rfl⟩
      obtain ⟨u, hu⟩ : ∃ u, u = ib.drop n := ⟨_, rfl⟩
      rw [← hd] at hst HDL ⊢
      rw [← hu] at hst ⊢
      have HD := Lib.hid hd
      have HU := Lib.hid hu
      clear hd hu
      go_wp2_with (first
        | (refine o_load (v := .slice (tailA A1 c1 n 32) d.length (c1 - n)) rfl rfl (.list rfl) (fits_sl _ rfl rfl) (hst.field_cells (i := 2) (k := 0) rfl rfl ?_) ?_; (focus (simp [szs]; done)); simp only [Act.put, List.setIfInBounds_toArray, List.set_cons_succ, List.set_cons_zero])
        | (refine o_call (vs := [.slice (tailA A1 c1 n 32) d.length (c1 - n)]) Try.func30 rfl rfl rfl rfl rfl (.list rfl) (reverse_calls (tailA A1 c1 n 32) d (c1 - n) _ (hst.get (i := 1) rfl) HDL.out) (by simp) ?_; rintro e w5 ⟨rfl, h3⟩; replace hst := (hst.front 1 rfl).call0 h3 (fun b hb => fp_row.2 hb); clear h3; simp only [List.cons_append, List.nil_append, List.eraseIdx_cons_succ, List.eraseIdx_cons_zero] at hst; simp only [Act.put, List.setIfInBounds_toArray, List.set_cons_succ, List.set_cons_zero]))
      refine ⟨rfl, .tuple #[], by simp [results, Try.results29, Sem.run_pure], true, _, .inl ⟨rfl, rfl⟩, .inl ⟨ia, ib, tailA A1 c1 n 32, c1 - n, tailA A2 c2 n 32, c2 - n, HWA.out, HWB.out, rfl, hla, hlb, rfl⟩, ?_⟩
      rw [← HFIN.out, ← HD.out, ← HU.out]
      unfold rowH sl
      rw [List.length_reverse]
      exact hst
end Go.Proofs.Ytonbgcehgmpnkaa
