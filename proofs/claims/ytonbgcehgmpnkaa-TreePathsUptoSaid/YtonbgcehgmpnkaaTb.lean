import Derived.Test.YtonbgcehgmpnkaaTa
set_option linter.unusedVariables false
set_option linter.unusedSimpArgs false
namespace Go.Proofs.Ytonbgcehgmpnkaa
open Go Go.RowKit HL BigFrame
theorem hashes_get (l : List Hash) (k : Nat) (h : k < l.length) : (l.map hval)[k]? = some (hval l[k]) := by simp [h]
theorem hashes_sz (l : List Hash) : ∀ v ∈ l.map hval, v.cells.size = 32 := by
  intro v hv
  obtain ⟨h, _, rfl⟩ := List.mem_map.1 hv
  exact size_hval h
/-- SameHashes. -/
theorem sameHashes_calls (A B : Option Addr) (l m : List Hash) (ca cb : Nat) (w : World) (hA : RdS w A (flat (l.map hval))) (hB : RdS w B (flat (m.map hval))) (hl : l.length ≤ 1048576) (hm : m.length ≤ 1048576) :
    Calls Try.prog 19 #[.slice A l.length ca, .slice B m.length cb] w fun e w' => e = .returned (.bool (decide (l = m))) ∧ St w w' No [] := by
  have hst := St.start w No
  by_cases hne : ((l.length : Int) != (m.length : Int)) = true
  · have hd : decide (l = m) = false := by
      simp only [bne_iff_ne, ne_eq] at hne
      exact decide_eq_false (fun h => hne (by rw [h]))
    have HD := Lib.hid hd
    clear hd
    go_enter Try.func19, Try.ntmps19
    go_wp2
    go_ret
    exact ⟨by simp [HD.out], hst⟩
  · have hlm : l.length = m.length := by
      simp only [bne_iff_ne, ne_eq, Decidable.not_not] at hne
      omega
    have hne' : ((l.length : Int) != (m.length : Int)) = false := by simpa using hne
    clear hne
    have HLM := Lib.hid hlm
    clear hlm
    go_enter Try.func19, Try.ntmps19
    go_wp2
    go_loopw [5] (fun i wr => ∃ k : Nat, k ≤ l.length ∧ i = .int .i64 k ∧ l.take k = m.take k ∧ St w wr No []) (fun i _ => l.length - (intOf i).toNat)
    case atStart => exact ⟨0, Nat.zero_le _, rfl, rfl, hst⟩
    case round =>
      obtain ⟨k, hk, rfl, heq, hst⟩ := hrel
      have HEQ := Lib.hid heq
      clear heq
      by_cases hlt : k < l.length
      · have hlt2 : k < m.length := by have := HLM.out; omega
        have g1 := hashes_get l k hlt
        have g2 := hashes_get m k hlt2
        have G1 := Lib.hid g1
        have G2 := Lib.hid g2
        clear g1 g2
        go_wp2
        refine wp_region_sched (.q 0 (.q 1 (.q 2 (.q 3 (.q 4 (.q 5 (.q 6 (.q 7 (.q 8 .nil))))))))) (fun w1 => St w w1 No []) (by kernel_rfl) (by kernel_rfl) (by kernel_rfl) (by decide) (fun d v c a w h => by cases d <;> exact h) ?_
        have hst := hst.drew
        iterate 2 (refine sched_q rfl rfl rfl hst (fun K hK => ?_); go_big_quiet_op; first | refine hK _ ?_ | refine ⟨_, fun _ _ => rfl, hK _ ?_⟩; clear hK K)
        refine q_elem Try.underlying39 ty23 rfl rfl rfl rfl rfl hst (by omega) (by omega) (fun w' h => h.old_rd hA (fun _ _ => id)) (hashes_sz l) (by omega) (by simpa using G1.out) (fun p hp => ?_)
        refine q_load rfl rfl rfl rfl hst (fits_hash _) hp ?_
        try simp only [Act.put, List.setIfInBounds_toArray, List.set_cons_succ, List.set_cons_zero]
        iterate 2 (refine sched_q rfl rfl rfl hst (fun K hK => ?_); go_big_quiet_op; first | refine hK _ ?_ | refine ⟨_, fun _ _ => rfl, hK _ ?_⟩; clear hK K)
        refine q_elem Try.underlying39 ty23 rfl rfl rfl rfl rfl hst (by omega) (by omega) (fun w' h => h.old_rd hB (fun _ _ => id)) (hashes_sz m) (by omega) (by simpa using G2.out) (fun p hp => ?_)
        refine q_load rfl rfl rfl rfl hst (fits_hash _) hp ?_
        refine q_ne ek23.eq (by omega) isAgg_hval eg23 rfl rfl rfl rfl rfl hst ?_
        refine sched_nil ?_
        try simp only [Act.put, List.setIfInBounds_toArray, List.set_cons_succ, List.set_cons_zero]
        by_cases heq : (!decide (l[k] = m[k])) = true
        · have hd : decide (l = m) = false := by
            simp only [Bool.not_eq_true', decide_eq_false_iff_not] at heq
            refine decide_eq_false (fun h => heq ?_)
            subst h
            rfl
          have HD := Lib.hid hd
          clear hd
          simp only [heq]
          clear heq
          go_wp2
          go_ret
          exact ⟨by simp [HD.out], hst⟩
        · have heq' : (!decide (l[k] = m[k])) = false := by simpa using heq
          simp only [heq']
          have HE := Lib.hid heq'
          clear heq heq'
          go_wp2
          refine ⟨⟨k + 1, by omega, by go_num, ?_, hst⟩, by simp [intOf]; omega⟩
          rw [List.take_succ_eq_append_getElem hlt, List.take_succ_eq_append_getElem hlt2, HEQ.out]
          have h3 := HE.out
          simp at h3
          rw [h3]
      · have hkl : k = l.length := by omega
        have hd : decide (l = m) = true := by
          have h1 := HEQ.out
          have h2 := HLM.out
          rw [hkl, List.take_length, h2, List.take_length] at h1
          exact decide_eq_true h1
        have HD := Lib.hid hd
        clear hd hkl
        go_wp2
        go_ret
        exact ⟨by simp [HD.out], hst⟩
end Go.Proofs.Ytonbgcehgmpnkaa
