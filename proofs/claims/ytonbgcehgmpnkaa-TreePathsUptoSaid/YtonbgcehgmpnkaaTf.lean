import Derived.Test.YtonbgcehgmpnkaaTe
set_option linter.unusedVariables false
set_option linter.unusedSimpArgs false
namespace Go.Proofs.Ytonbgcehgmpnkaa
open Go Go.RowKit HL BigFrame
/-- The least hash of a row, from one on. -/
def hmins (m : Hash) (l : List Hash) : Hash := l.foldl (fun m x => if hlt x m then x else m) m
theorem hmins_mem : ∀ (l : List Hash) (m : Hash), hmins m l = m ∨ hmins m l ∈ l
  | [], m => .inl rfl
  | x :: l, m => by
    unfold hmins
    rw [List.foldl_cons]
    by_cases h : hlt x m
    · rw [if_pos h]
      rcases hmins_mem l x with h1 | h1
      · exact .inr (by rw [show l.foldl (fun m x => if hlt x m then x else m) x = x from h1]; simp)
      · exact .inr (List.mem_cons_of_mem _ h1)
    · rw [if_neg h]
      rcases hmins_mem l m with h1 | h1
      · exact .inl h1
      · exact .inr (List.mem_cons_of_mem _ h1)
theorem hmins_le : ∀ (l : List Hash) (m : Hash), ¬ hlt m (hmins m l) ∧ ∀ x ∈ l, ¬ hlt x (hmins m l)
  | [], m => ⟨hlt_irrefl m, by simp⟩
  | y :: l, m => by
    have key : ∀ k, ¬ hlt k (hmins k l) ∧ ∀ x ∈ l, ¬ hlt x (hmins k l) := hmins_le l
    have le_trans : ∀ a b c : Hash, ¬ hlt b a → ¬ hlt c b → ¬ hlt c a := fun a b c h1 h2 h3 => by
      rcases hlt_tri a b with h | h | h
      · exact h2 (hlt_trans h3 h)
      · subst h; exact h2 h3
      · exact h1 h
    have e : hmins m (y :: l) = hmins (if hlt y m then y else m) l := rfl
    rw [e]
    by_cases h : hlt y m
    · rw [if_pos h]
      have k := key y
      refine ⟨le_trans _ _ _ k.1 (hlt_asymm h), ?_⟩
      intro x hx
      rcases List.mem_cons.1 hx with rfl | hx
      · exact k.1
      · exact k.2 x hx
    · rw [if_neg h]
      have k := key m
      refine ⟨k.1, ?_⟩
      intro x hx
      rcases List.mem_cons.1 hx with rfl | hx
      · exact le_trans _ _ _ k.1 h
      · exact k.2 x hx
theorem hashes_at (l : List Hash) (k : Nat) (h : k < l.length) : (l.map hval)[k]? = some (hval l[k]) := by simp [h]
set_option maxHeartbeats 4000000 in
theorem minFunc_calls (A : Option Addr) (m : Hash) (l : List Hash) (c : Nat) (w : World) (hA : RdS w A (flat ((m :: l).map hval))) (hl : l.length ≤ 1048576) :
    Calls Try.prog 22 #[.slice A (l.length + 1) c, .func (.func 23) #[] #[]] w fun e w' => e = .returned (hval (hmins m l)) ∧ St w w' No [] := by
  have hst := St.start w No
  have hln : ¬ ((l.length + 1 : Nat) : Int) < 1 := by omega
  go_enter Try.func22, Try.ntmps22
  have hr := hA
  go_wp2_with (first
    | (refine o_alloc (L := []) ty23 rfl (.list rfl) hst ?_; clear hst; intro w1 g4 hst; simp only [Act.put, List.setIfInBounds_toArray, List.set_cons_succ, List.set_cons_zero])
    | (refine o_alloc (L := [_]) ty23 rfl (.list rfl) hst ?_; clear hst; intro w1 g5 hst; simp only [Act.put, List.setIfInBounds_toArray, List.set_cons_succ, List.set_cons_zero])
    | (refine o_elem Try.underlying39 ty23 rfl rfl rfl (.list rfl) (by omega) (by omega) (hst.old_rd hA (fun _ _ => id)) (hashes_sz (m :: l)) (by omega) (v := hval m) rfl ?_; intro p hp; simp only [Act.put, List.setIfInBounds_toArray, List.set_cons_succ, List.set_cons_zero])
    | (refine o_load (v := hval m) rfl rfl (.list rfl) (fits_hash _) hp ?_; simp only [Act.put, List.setIfInBounds_toArray, List.set_cons_succ, List.set_cons_zero])
    | (refine o_store (i := 0) (k := 0) rfl rfl rfl rfl rfl (.list rfl) hst (fits_hash _) (ok1_hval _) ?_ ?_ ?_; (focus (simp [szs]; done)); (focus (simp [szs]; done)); clear hst; intro w1 hst; simp only [List.set_cons_succ, List.set_cons_zero] at hst; simp only [Act.put, List.setIfInBounds_toArray, List.set_cons_succ, List.set_cons_zero]))
  go_loopw [6] (fun i wr => ∃ k : Nat, k ≤ l.length ∧ i = .int .i64 ((k : Int) + 1) ∧ St w wr No [Res.var g5 23 [hval (hmins m (l.take k))], Res.var g4 23 [hval hz]]) (fun i _ => l.length + 1 - (intOf i).toNat)
  case atStart => exact ⟨0, Nat.zero_le _, rfl, by simpa [hmins] using hst⟩
  case round =>
    clear hst
    obtain ⟨k, hk, rfl, hst⟩ := hrel
    by_cases hkl : k < l.length
    · have hlt2 : (k : Int) + 1 < (l.length + 1 : Nat) := by omega
      go_wp2
      refine wp_region_sched (.q 0 (.q 1 (.q 2 (.q 3 (.q 4 (.q 5 (.s 6 (.q 7 .nil)))))))) (fun w1 => St w w1 No [Res.var g5 23 [hval (hmins m (l.take k))], Res.var g4 23 [hval hz]]) (by kernel_rfl) (by kernel_rfl) (by kernel_rfl) (by decide) (fun d v c a w h => by cases d <;> exact h) ?_
      have hst := hst.drew
      refine q_move rfl rfl rfl rfl hst ?_; simp only [Act.put, List.setIfInBounds_toArray, List.set_cons_succ, List.set_cons_zero]
      refine q_move rfl rfl rfl rfl hst ?_; simp only [Act.put, List.setIfInBounds_toArray, List.set_cons_succ, List.set_cons_zero]
      refine q_move rfl rfl rfl rfl hst ?_; simp only [Act.put, List.setIfInBounds_toArray, List.set_cons_succ, List.set_cons_zero]
      refine q_elem Try.underlying39 ty23 rfl rfl rfl rfl rfl hst (by omega) (by omega) (fun w' h => h.old_rd hA (fun _ _ => id)) (hashes_sz (m :: l)) (by omega) (v := hval l[k]) (by simp [show ((k : Int) + 1).toNat = k + 1 by omega, hkl]) (fun p hp => ?_)
      refine q_load (v := hval l[k]) rfl rfl rfl rfl hst (fits_hash _) hp ?_; simp only [Act.put, List.setIfInBounds_toArray, List.set_cons_succ, List.set_cons_zero]
      refine q_load (v := hval (hmins m (l.take k))) rfl rfl rfl rfl hst (fits_hash _) (fun w1 h => h.field_cells (i := 0) (k := 0) rfl rfl (by simp [szs])) ?_; simp only [Act.put, List.setIfInBounds_toArray, List.set_cons_succ, List.set_cons_zero]
      refine o_call (vs := [hval l[k], hval (hmins m (l.take k))]) Try.func23 rfl rfl rfl rfl rfl (.sched rfl rfl) (order_calls l[k] (hmins m (l.take k)) _) (by simp) ?_
      rintro e w3 ⟨rfl, h3⟩
      refine ⟨hst.call h3, ?_⟩
      replace hst := hst.call h3
      clear h3
      try simp only [Act.put, List.setIfInBounds_toArray, List.set_cons_succ, List.set_cons_zero]
      have hstep : hmins m (l.take (k + 1)) = if hlt l[k] (hmins m (l.take k)) then l[k] else hmins m (l.take k) := by
        rw [List.take_succ_eq_append_getElem hkl, hmins, List.foldl_append]
        rfl
      have HS := Lib.hid hstep
      clear hstep
      (refine sched_q rfl rfl rfl hst (fun K hK => ?_); go_big_quiet_op; first | refine hK _ ?_ | refine ⟨_, fun _ _ => rfl, hK _ ?_⟩; clear hK K)
      refine sched_nil ?_
      try simp only [Act.put, List.setIfInBounds_toArray, List.set_cons_succ, List.set_cons_zero]
      by_cases hcmp : hlt l[k] (hmins m (l.take k))
      · have hd : decide (bcmp (l[k]).toList (hmins m (l.take k)).toList < 0) = true := decide_eq_true hcmp
        simp only [hd]
        clear hd
        rw [if_pos hcmp] at HS
        go_wp2_with (first
          | (refine o_elem Try.underlying39 ty23 rfl rfl rfl (.list rfl) (by omega) (by omega) (hst.old_rd hA (fun _ _ => id)) (hashes_sz (m :: l)) (by omega) (v := hval l[k]) (by simp [show ((k : Int) + 1).toNat = k + 1 by omega, hkl]) ?_; intro p hp; simp only [Act.put, List.setIfInBounds_toArray, List.set_cons_succ, List.set_cons_zero])
          | (refine o_load (v := hval l[k]) rfl rfl (.list rfl) (fits_hash _) hp ?_; simp only [Act.put, List.setIfInBounds_toArray, List.set_cons_succ, List.set_cons_zero])
          | (refine o_store (i := 0) (k := 0) rfl rfl rfl rfl rfl (.list rfl) hst (fits_hash _) (ok1_hval _) ?_ ?_ ?_; (focus (simp [szs]; done)); (focus (simp [szs]; done)); clear hst; intro w1 hst; simp only [List.set_cons_succ, List.set_cons_zero] at hst; simp only [Act.put, List.setIfInBounds_toArray, List.set_cons_succ, List.set_cons_zero]))
        refine ⟨⟨k + 1, by omega, by go_num, by rw [HS.out]; exact hst⟩, by simp [intOf]; omega⟩
      · have hd : decide (bcmp (l[k]).toList (hmins m (l.take k)).toList < 0) = false := decide_eq_false hcmp
        simp only [hd]
        clear hd
        rw [if_neg hcmp] at HS
        go_wp2
        refine ⟨⟨k + 1, by omega, by go_num, by rw [HS.out]; exact hst⟩, by simp [intOf]; omega⟩
    · have hke : k = l.length := by omega
      rw [hke, List.take_length] at hst
      have hlt2 : ¬ (k : Int) + 1 < (l.length + 1 : Nat) := by omega
      go_wp2_with (first
          | (refine o_load (v := hval (hmins m l)) rfl rfl (.list rfl) (fits_hash _) (hst.field_cells (i := 0) (k := 0) rfl rfl ?_) ?_; (focus (simp [szs]; done)); simp only [Act.put, List.setIfInBounds_toArray, List.set_cons_succ, List.set_cons_zero])
          | (refine o_store (i := 1) (k := 0) rfl rfl rfl rfl rfl (.list rfl) hst (fits_hash _) (ok1_hval _) ?_ ?_ ?_; (focus (simp [szs]; done)); (focus (simp [szs]; done)); clear hst; intro w1 hst; simp only [List.set_cons_succ, List.set_cons_zero] at hst; simp only [Act.put, List.setIfInBounds_toArray, List.set_cons_succ, List.set_cons_zero]))
      exact post_cell (i := 1) rfl rfl rfl hst rfl (fits_hash _) (flat_single _) ⟨rfl, hst.sub (by simp)⟩
end Go.Proofs.Ytonbgcehgmpnkaa
