import Derived.Test.YtonbgcehgmpnkaaTg
set_option linter.unusedVariables false
set_option linter.unusedSimpArgs false
namespace Go.Proofs.Ytonbgcehgmpnkaa
open Go Go.RowKit HL BigFrame
theorem post_cell2 {fn : Func} {R : Ending → World → Prop} {a : Act} {w w0 : World} {M : Nat → Prop} {L : List Res} {i g : Nat} {t u : Tmp} {T : TypeId} {vs : List Value} {v v2 : Value} (hr : fn.results = #[.cell t T, .tmp u]) (ht : opv a (.tmp t) = some (.pointer (some ⟨g, 0, none⟩))) (hu : opv a (.tmp u) = some v2) (hd : a.defers = [])
    (hst : St w0 w M L) (hi : L[i]? = some (Res.var g T vs)) (hf : Fits Try.prog T v) (hv : flat vs = v.cells.toList) (hR : R (.returned (.tuple #[v, v2])) w) : bodyPost Try.prog fn R .ret a w := by
  refine bodyPost_ret (v := .tuple #[v, v2]) ?_ hd hR
  have hc := hst.var_cells hi
  rw [hv] at hc
  have hp' : a.tmps[t]?.getD undef = .pointer (some ⟨g, 0, none⟩) := by simpa [Act.eval] using opv_eval ht
  have hq' : a.tmps[u]?.getD undef = v2 := by simpa [Act.eval] using opv_eval hu
  simp [results, hr, hp', hq', asAddr, run_loadVar hf hc]
theorem looseE_calls (x : LeafP) (w : World) : Calls Try.prog 24 #[leafE x] w fun e w' => e = .returned (.bool (isLoose x)) ∧ St w w' No [] := by
  have := loose_calls x.id x.parent x.height x.mark w
  unfold leafE isLoose
  exact this
theorem part_le {l : List LeafP} (hap : Apart l) (root : Hash) (h : Int) (n i j : Nat) (hi : i < (lev l root h n).length) : ((((lev l root h n).take i).flatMap (next1 l (h + n))) ++ ((kidsIds l (lev l root h n)[i]).take j).filter (good l (h + n))).length ≤ l.length + 1 := by
  refine Nat.le_trans (List.Sublist.length_le ?_) (lev_len hap root h (n + 1))
  rw [lev]
  conv => rhs; rw [← List.take_append_drop i (lev l root h n), List.drop_eq_getElem_cons hi, List.flatMap_append, List.flatMap_cons]
  refine List.Sublist.append (List.Sublist.refl _) ?_
  refine List.Sublist.trans ?_ (List.sublist_append_left _ _)
  exact (List.take_sublist _ _).filter _
theorem best_nil (w : World) : Calls Try.prog 8 #[.pointer none] w fun e w' => e = .returned (.tuple #[hval hz, .int .i64 0]) ∧ St w w' No [] := by
  have hst := St.start w No
  go_enter Try.func8, Try.ntmps8
  go_wp2_with (first
    | (refine o_alloc (L := []) ty23 rfl (.list rfl) hst ?_; clear hst; intro w1 g2 hst; simp only [Act.put, List.setIfInBounds_toArray, List.set_cons_succ, List.set_cons_zero])
    | (refine o_call (vs := [.pointer none]) Try.func21 rfl rfl rfl rfl rfl (.list rfl) (made_nil _) (by simp) ?_; rintro e w2 ⟨rfl, h3⟩; replace hst := hst.call h3; clear h3; simp only [List.nil_append] at hst; simp only [Act.put, List.setIfInBounds_toArray, List.set_cons_succ, List.set_cons_zero])
    | (refine o_load (v := hval hz) rfl rfl (.list rfl) (fits_hash _) (hst.field_cells (i := 0) (k := 0) rfl rfl ?_) ?_; (focus (simp [szs]; done)); simp only [Act.put, List.setIfInBounds_toArray, List.set_cons_succ, List.set_cons_zero])
    | (refine o_store (i := 0) (k := 0) rfl rfl rfl rfl rfl (.list rfl) hst (fits_hash _) (ok1_hval _) ?_ ?_ ?_; (focus (simp [szs]; done)); (focus (simp [szs]; done)); clear hst; intro w1 hst; simp only [List.set_cons_succ, List.set_cons_zero] at hst; simp only [Act.put, List.setIfInBounds_toArray, List.set_cons_succ, List.set_cons_zero]))
  exact post_cell2 (i := 0) rfl rfl rfl rfl hst rfl (fits_hash _) (flat_single _) ⟨rfl, hst.sub (by simp)⟩
set_option maxHeartbeats 8000000 in
set_option maxRecDepth 100000 in
theorem best_calls (g gl gK : Nat) (xs : List (Hash × KV × Nat)) (root : Hash) (h : Int) (l : List LeafP) (w : World) (ht : ∀ r ∈ treeL g gl gK xs root h l, r.holds w) (hk : KidsOf xs l) (hap : Apart l) (h0 : 0 ≤ h) (h1 : h ≤ 2147483647) (hl : l.length ≤ 3000) :
    Calls Try.prog 8 #[.pointer (some ⟨g, 0, none⟩)] w fun e w' => St w w' No [] ∧ ∃ n m rest, lev l root h n = m :: rest ∧ lev l root h (n + 1) = [] ∧ e = .returned (.tuple #[hval (hmins m rest), .int .i64 (h + n)]) := by
  have hst := St.start w No
  have hV : (Res.var g 54 [.map (some gl), .map (some gK), hval root, .int .i64 h]).holds w := ht _ (List.mem_of_getElem? (i := 0) rfl)
  have hL : (Res.map gl hval leafE (lents l) l.length).holds w := ht _ (List.mem_of_getElem? (i := 1) rfl)
  have hK : (Res.map gK hval kvE xs xs.length).holds w := ht _ (List.mem_of_getElem? (i := 2) rfl)
  go_enter Try.func8, Try.ntmps8
  go_wp2_with (first
    | (refine o_alloc (L := []) ty23 rfl (.list rfl) hst ?_; clear hst; intro w1 g2 hst; simp only [Act.put, List.setIfInBounds_toArray, List.set_cons_succ, List.set_cons_zero])
    | (refine o_call (vs := [.pointer (some ⟨g, 0, none⟩)]) Try.func21 rfl rfl rfl rfl rfl (.list rfl) (made_calls g gl gK root h _ (hst.old_holds hV)) (by simp) ?_; rintro e w2 ⟨rfl, h3⟩; replace hst := hst.call h3; clear h3; simp only [List.nil_append] at hst; simp only [Act.put, List.setIfInBounds_toArray, List.set_cons_succ, List.set_cons_zero]))
  refine wp_region_sched (.q 0 (.q 1 (.q 2 (.q 3 (.q 4 (.q 5 (.q 6 (.q 7 (.s 8 (.q 9 .nil)))))))))) (fun w1 => St w w1 No []) (by kernel_rfl) (by kernel_rfl) (by kernel_rfl) (by decide) (fun d v c a w h => by cases d <;> exact h) ?_
  have hst := hst.drew
  have hst0 := hst.sub (L' := []) (by simp)
  refine q_move rfl rfl rfl rfl hst0 ?_; simp only [Act.put, List.setIfInBounds_toArray, List.set_cons_succ, List.set_cons_zero]
  refine q_nilCheck rfl rfl rfl rfl hst0 ?_; simp only [Act.put, List.setIfInBounds_toArray, List.set_cons_succ, List.set_cons_zero]
  refine q_field rfl rfl rfl rfl hst0 fa54_1 ?_; simp only [Act.put, List.setIfInBounds_toArray, List.set_cons_succ, List.set_cons_zero]
  refine q_load (v := hval root) rfl rfl rfl rfl hst0 (fits_hash _) (fun w1 h => var_field (h.old_holds hV) (k := 2) rfl rfl) ?_; simp only [Act.put, List.setIfInBounds_toArray, List.set_cons_succ, List.set_cons_zero]
  refine q_move rfl rfl rfl rfl hst0 ?_; simp only [Act.put, List.setIfInBounds_toArray, List.set_cons_succ, List.set_cons_zero]
  refine q_nilCheck rfl rfl rfl rfl hst0 ?_; simp only [Act.put, List.setIfInBounds_toArray, List.set_cons_succ, List.set_cons_zero]
  refine q_field rfl rfl rfl rfl hst0 fa54_2 ?_; simp only [Act.put, List.setIfInBounds_toArray, List.set_cons_succ, List.set_cons_zero]
  refine q_load (v := .int .i64 h) rfl rfl rfl rfl hst0 (fits_of ty3 rfl rfl) (fun w1 h => var_field (h.old_holds hV) (k := 3) rfl (by simp [szs])) ?_; simp only [Act.put, List.setIfInBounds_toArray, List.set_cons_succ, List.set_cons_zero]
  clear hst0
  refine o_store (i := 0) (k := 0) rfl rfl rfl rfl rfl (.sched rfl rfl) hst (fits_hash _) (ok1_hval _) ?_ ?_ ?_; (focus (simp [szs]; done)); (focus (simp [szs]; done)); clear hst; intro w1 hst; simp only [List.set_cons_succ, List.set_cons_zero] at hst; refine ⟨hst.sub (by simp), ?_⟩; simp only [Act.put, List.setIfInBounds_toArray, List.set_cons_succ, List.set_cons_zero]
  refine q_assign rfl rfl rfl rfl (hst.sub (by simp)) ?_; simp only [Act.put, List.setIfInBounds_toArray, List.set_cons_succ, List.set_cons_zero]
  refine sched_nil ?_
  try simp only [Act.put, List.setIfInBounds_toArray, List.set_cons_succ, List.set_cons_zero]
  go_wp2_with (first
    | (refine at_nil ?_ rfl; go_must (refine o_nilCheck rfl rfl (.list rfl) ?_; simp only [Act.put, List.setIfInBounds_toArray, List.set_cons_succ, List.set_cons_zero]))
    | (refine o_field rfl rfl (.list rfl) fa54_1 ?_; simp only [Act.put, List.setIfInBounds_toArray, List.set_cons_succ, List.set_cons_zero])
    | (refine o_load (v := hval root) rfl rfl (.list rfl) (fits_hash _) (var_field (hst.old_holds hV) (k := 2) rfl rfl) ?_; simp only [Act.put, List.setIfInBounds_toArray, List.set_cons_succ, List.set_cons_zero])
    | (refine o_buildSlice (vs := [hval root]) Try.underlying39 ty23 (size_hval hz) rfl (.list rfl) hst rfl rfl (by simp) (by simp) (by omega) ?_; clear hst; intro B w1 hst; simp only [Act.put, List.setIfInBounds_toArray, List.set_cons_succ, List.set_cons_zero]))
  go_loopg [3, 4] (l.length + 2) (fun kx s3 s4 wr => ∃ (n : Nat) (A : Option Addr) (c : Nat) (b : Hash) (hh : Int), s3 = .int .i64 hh ∧ s4 = .slice A (lev l root h n).length c ∧ l.length + 2 - n ≤ kx ∧
    (lev l root h n ≠ [] → hh = h + n) ∧ (lev l root h n = [] → ∃ k m rest, n = k + 1 ∧ lev l root h k = m :: rest ∧ hh = h + k ∧ b = hmins m rest) ∧
    St w wr No [Res.row A (lev l root h n).length c 23 32 (flat ((lev l root h n).map hval)), Res.var g2 23 [hval b]])
  case atStart => exact ⟨0, _, _, root, h, rfl, rfl, by omega, fun _ => by simp, fun e => by simp [lev] at e, hst⟩
  case round =>
    clear hst
    obtain ⟨n, A, c, b, hh, rfl, rfl, hkx, hne, hnil, hst⟩ := hrel
    by_cases hlv : lev l root h n = []
    · obtain ⟨k, m, rest, rfl, hk1, rfl, rfl⟩ := hnil hlv
      have hz0 : (lev l root h (k + 1)).length = 0 := by rw [hlv]; rfl
      have HL := Lib.hid hlv
      have HK := Lib.hid hk1
      clear hlv hk1 hne hnil
      rw [hz0] at hst ⊢
      go_wp2_with (first
        | (refine o_load (v := hval (hmins m rest)) rfl rfl (.list rfl) (fits_hash _) (hst.field_cells (i := 1) (k := 0) rfl rfl ?_) ?_; (focus (simp [szs]; done)); simp only [Act.put, List.setIfInBounds_toArray, List.set_cons_succ, List.set_cons_zero])
        | (refine o_store (i := 1) (k := 0) rfl rfl rfl rfl rfl (.list rfl) hst (fits_hash _) (ok1_hval _) ?_ ?_ ?_; (focus (simp [szs]; done)); (focus (simp [szs]; done)); clear hst; intro w1 hst; simp only [List.set_cons_succ, List.set_cons_zero] at hst; simp only [Act.put, List.setIfInBounds_toArray, List.set_cons_succ, List.set_cons_zero]))
      exact post_cell2 (i := 1) rfl rfl rfl rfl hst rfl (fits_hash _) (flat_single _) ⟨hst.sub (by simp), k, m, rest, HK.out, HL.out, rfl⟩
    · have hh1 := hne hlv
      subst hh1
      obtain ⟨m, rest, hmr⟩ : ∃ m rest, lev l root h n = m :: rest := by
        cases hq : lev l root h n with
        | nil => exact absurd hq hlv
        | cons m rest => exact ⟨m, rest, rfl⟩
      have hfew := lev_few root h hlv
      have hlen := lev_len hap root h n
      have hrl : (lev l root h n).length = rest.length + 1 := by rw [hmr]; rfl
      have hrow := hst.row_rd (i := 0) rfl
      rw [hmr] at hrow
      have HMR := Lib.hid hmr
      have HR := Lib.hid hrow
      clear hmr hne hnil hlv hrow
      obtain ⟨ln, hln⟩ : ∃ ln, ln = (lev l root h n).length := ⟨_, rfl⟩
      have hpos : (0 : Int) < ln := by omega
      rw [← hln] at hst ⊢
      have hmin : ∀ w1, RdS w1 A (flat ((m :: rest).map hval)) → Calls Try.prog 22 #[.slice A ln c, .func (.func 23) #[] #[]] w1 fun e w' => e = .returned (hval (hmins m rest)) ∧ St w1 w' No [] := by
        intro w1 hr1
        rw [hln, hrl]
        exact minFunc_calls A m rest c _ hr1 (by omega)
      go_wp2_with (first
        | (refine o_call (vs := [.slice A ln c, .func (.func 23) #[] #[]]) Try.func22 rfl rfl rfl rfl rfl (.list rfl) (hmin _ HR.out) (by simp) ?_; rintro e w2 ⟨rfl, h3⟩; replace hst := hst.call h3; clear h3; simp only [List.nil_append] at hst; simp only [Act.put, List.setIfInBounds_toArray, List.set_cons_succ, List.set_cons_zero])
        | (refine o_store (i := 1) (k := 0) rfl rfl rfl rfl rfl (.list rfl) hst (fits_hash _) (ok1_hval _) ?_ ?_ ?_; (focus (simp [szs]; done)); (focus (simp [szs]; done)); clear hst; intro w1 hst; simp only [List.set_cons_succ, List.set_cons_zero] at hst; simp only [Act.put, List.setIfInBounds_toArray, List.set_cons_succ, List.set_cons_zero]))
      have hst := hst.nilrow 23 32
      go_loopg [5, 35] ln (fun kx s5 s35 wr => ∃ (i : Nat) (A5 : Option Addr) (c5 : Nat), i ≤ ln ∧ s35 = .int .i64 i ∧ s5 = .slice A5 (((lev l root h n).take i).flatMap (next1 l (h + n))).length c5 ∧ ln - i ≤ kx ∧
        St w wr No [Res.row A5 (((lev l root h n).take i).flatMap (next1 l (h + n))).length c5 23 32 (flat ((((lev l root h n).take i).flatMap (next1 l (h + n))).map hval)), Res.row A ln c 23 32 (flat ((lev l root h n).map hval)), Res.var g2 23 [hval (hmins m rest)]])
      case atStart => exact ⟨0, none, 0, Nat.zero_le _, rfl, rfl, by omega, by simpa [flat_nil] using hst⟩
      case round =>
        clear hst
        obtain ⟨i, A5, c5, hi, rfl, rfl, hkx2, hst⟩ := hrel
        by_cases hil : i < ln
        · have hil2 : i < (lev l root h n).length := by omega
          have g1 := hashes_at (lev l root h n) i hil2
          have G1 := Lib.hid g1
          clear g1
          obtain ⟨id, hid⟩ : ∃ id, id = (lev l root h n)[i] := ⟨_, rfl⟩
          rw [← hid] at G1
          have HID := Lib.hid hid
          clear hid
          obtain ⟨AK, cK, hkid, hKr⟩ := tree_kids ht hk id
          have HKI := Lib.hid hkid
          clear hkid
          have hpre : (((lev l root h n).take i).flatMap (next1 l (h + n))).length ≤ l.length + 1 := by
            have := part_le hap root h n i 0 hil2
            simpa using this
          obtain ⟨pre, hpr⟩ : ∃ pre, pre = ((lev l root h n).take i).flatMap (next1 l (h + n)) := ⟨_, rfl⟩
          rw [← hpr] at hst hpre ⊢
          have HPRE := Lib.hid hpr
          clear hpr
          go_wp2_with (first
            | (refine o_elem Try.underlying39 ty23 rfl rfl rfl (.list rfl) (by omega) (by omega) (hst.row_rd (i := 1) rfl) (hashes_sz (lev l root h n)) (by omega) (by simpa using G1.out) ?_; intro p hp; simp only [Act.put, List.setIfInBounds_toArray, List.set_cons_succ, List.set_cons_zero])
            | (refine o_load (v := hval id) rfl rfl (.list rfl) (fits_hash _) hp ?_; simp only [Act.put, List.setIfInBounds_toArray, List.set_cons_succ, List.set_cons_zero])
            | (refine o_alloc (L := [_, _, _]) ty23 rfl (.list rfl) hst ?_; clear hst; intro w1 g7 hst; simp only [Act.put, List.setIfInBounds_toArray, List.set_cons_succ, List.set_cons_zero])
            | (refine o_store (i := 0) (k := 0) rfl rfl rfl rfl rfl (.list rfl) hst (fits_hash _) (ok1_hval _) ?_ ?_ ?_; (focus (simp [szs]; done)); (focus (simp [szs]; done)); clear hst; intro w1 hst; simp only [List.set_cons_succ, List.set_cons_zero] at hst; simp only [Act.put, List.setIfInBounds_toArray, List.set_cons_succ, List.set_cons_zero]))
          refine wp_region_sched (.q 0 (.q 1 (.q 2 (.q 3 (.q 4 (.q 5 (.q 6 (.q 7 (.q 8 .nil))))))))) (fun w1 => St w w1 No [Res.var g7 23 [hval id], Res.row A5 pre.length c5 23 32 (flat (pre.map hval)), Res.row A ln c 23 32 (flat ((lev l root h n).map hval)), Res.var g2 23 [hval (hmins m rest)]]) (by kernel_rfl) (by kernel_rfl) (by kernel_rfl) (by decide) (fun d v c a w h => by cases d <;> exact h) ?_
          have hst := hst.drew
          refine q_move rfl rfl rfl rfl hst ?_; simp only [Act.put, List.setIfInBounds_toArray, List.set_cons_succ, List.set_cons_zero]
          refine q_nilCheck rfl rfl rfl rfl hst ?_; simp only [Act.put, List.setIfInBounds_toArray, List.set_cons_succ, List.set_cons_zero]
          refine q_field rfl rfl rfl rfl hst fa54_0 ?_; simp only [Act.put, List.setIfInBounds_toArray, List.set_cons_succ, List.set_cons_zero]
          refine q_field rfl rfl rfl rfl hst fa52_1 ?_; simp only [Act.put, List.setIfInBounds_toArray, List.set_cons_succ, List.set_cons_zero]
          refine q_load (v := .map (some gK)) rfl rfl rfl rfl hst (fits_of ty50 rfl rfl) (fun w1 h => var_field (h.old_holds hV) (k := 1) rfl (by simp [szs])) ?_; simp only [Act.put, List.setIfInBounds_toArray, List.set_cons_succ, List.set_cons_zero]
          refine q_load (v := hval id) rfl rfl rfl rfl hst (fits_hash _) (fun w1 h => h.field_cells (i := 0) (k := 0) rfl rfl (by simp [szs])) ?_; simp only [Act.put, List.setIfInBounds_toArray, List.set_cons_succ, List.set_cons_zero]
          refine q_lookup (kenc := hval) (venc := kvE) ek23 Try.underlying50 ty39 rfl rfl rfl rfl rfl hst (fun w1 h => map_heap (h.old_holds hK)) ?_; simp only [Act.put, List.setIfInBounds_toArray, List.set_cons_succ, List.set_cons_zero]
          simp only [Bool.false_eq_true, if_false]
          rw [getD_kvE, HKI.out]
          simp only [kvE]
          iterate 2 (refine sched_q rfl rfl rfl hst (fun K hK => ?_); go_big_quiet_op; first | refine hK _ ?_ | refine ⟨_, fun _ _ => rfl, hK _ ?_⟩; clear hK K)
          refine sched_nil ?_
          try simp only [Act.put, List.setIfInBounds_toArray, List.set_cons_succ, List.set_cons_zero]
          obtain ⟨ks, hks⟩ : ∃ ks, ks = kidsIds l id := ⟨_, rfl⟩
          rw [← hks] at hKr ⊢
          have HKS := Lib.hid hks
          have hpl : ∀ j, (pre ++ (ks.take j).filter (good l (h + n))).length ≤ l.length + 1 := fun j => by
            have := part_le hap root h n i j hil2
            rw [← HPRE.out, ← HID.out, ← HKS.out] at this
            exact this
          clear hks
          obtain ⟨kn, hkn⟩ : ∃ kn, kn = ks.length := ⟨_, rfl⟩
          rw [← hkn]
          have hkb : kn ≤ 3000 := by
            rw [hkn, HKS.out, kidsIds, List.length_map]
            exact Nat.le_trans (List.length_filter_le _ _) hl
          go_wp2
          go_loopg [5, 47] kn (fun kx s5 s47 wr => ∃ (j : Nat) (A5 : Option Addr) (c5 : Nat), j ≤ kn ∧ s47 = .int .i64 j ∧ s5 = .slice A5 (pre ++ (ks.take j).filter (good l (h + n))).length c5 ∧ kn - j ≤ kx ∧
            St w wr No [Res.row A5 (pre ++ (ks.take j).filter (good l (h + n))).length c5 23 32 (flat ((pre ++ (ks.take j).filter (good l (h + n))).map hval)), Res.var g7 23 [hval id], Res.row A ln c 23 32 (flat ((lev l root h n).map hval)), Res.var g2 23 [hval (hmins m rest)]])
          case atStart => exact ⟨0, A5, c5, Nat.zero_le _, rfl, by simp, by omega, by simpa using hst.pick [1, 0, 2, 3] (by decide)⟩
          case round =>
            clear hst
            obtain ⟨j, A5, c5, hj, rfl, rfl, hkx3, hst⟩ := hrel
            by_cases hjl : j < kn
            · have hjl2 : j < ks.length := by omega
              have g1 := hashes_at ks j hjl2
              have G1 := Lib.hid g1
              clear g1
              have hstep : pre ++ (ks.take (j + 1)).filter (good l (h + n)) = (pre ++ (ks.take j).filter (good l (h + n))) ++ (if good l (h + n) ks[j] then [ks[j]] else []) := by
                rw [List.take_succ_eq_append_getElem hjl2, List.filter_append, List.append_assoc]
                congr 1
                simp only [List.filter_cons, List.filter_nil]
              have hb := hpl j
              obtain ⟨nx, hnx⟩ : ∃ nx, nx = pre ++ (ks.take j).filter (good l (h + n)) := ⟨_, rfl⟩
              rw [← hnx] at hst hb hstep ⊢
              have HNX := Lib.hid hnx
              have HS := Lib.hid hstep
              clear hnx hstep
              obtain ⟨kid, hkid⟩ : ∃ kid, kid = ks[j] := ⟨_, rfl⟩
              rw [← hkid] at G1 HS
              go_wp2_with (first
                | (refine o_elem Try.underlying39 ty23 rfl rfl rfl (.list rfl) (by omega) (by omega) (hst.old_rd hKr (fun _ _ hno => hno)) (hashes_sz ks) (by omega) (by simpa using G1.out) ?_; intro p hp; simp only [Act.put, List.setIfInBounds_toArray, List.set_cons_succ, List.set_cons_zero])
                | (refine o_load (v := hval kid) rfl rfl (.list rfl) (fits_hash _) hp ?_; simp only [Act.put, List.setIfInBounds_toArray, List.set_cons_succ, List.set_cons_zero])
                | (refine o_alloc (L := [_, _, _, _]) ty23 rfl (.list rfl) hst ?_; clear hst; intro w1 g9 hst; simp only [Act.put, List.setIfInBounds_toArray, List.set_cons_succ, List.set_cons_zero])
                | (refine o_store (i := 0) (k := 0) rfl rfl rfl rfl rfl (.list rfl) hst (fits_hash _) (ok1_hval _) ?_ ?_ ?_; (focus (simp [szs]; done)); (focus (simp [szs]; done)); clear hst; intro w1 hst; simp only [List.set_cons_succ, List.set_cons_zero] at hst; simp only [Act.put, List.setIfInBounds_toArray, List.set_cons_succ, List.set_cons_zero]))
              refine wp_region_sched (.q 0 (.q 1 (.q 2 (.q 3 (.q 4 (.q 5 (.q 6 (.s 7 (.s 8 .nil))))))))) (fun w1 => St w w1 No [Res.var g9 23 [hval kid], Res.row A5 nx.length c5 23 32 (flat (nx.map hval)), Res.var g7 23 [hval id], Res.row A ln c 23 32 (flat ((lev l root h n).map hval)), Res.var g2 23 [hval (hmins m rest)]]) (by kernel_rfl) (by kernel_rfl) (by kernel_rfl) (by decide) (fun d v c a w h => by cases d <;> exact h) ?_
              have hst := hst.drew
              refine q_move rfl rfl rfl rfl hst ?_; simp only [Act.put, List.setIfInBounds_toArray, List.set_cons_succ, List.set_cons_zero]
              refine q_nilCheck rfl rfl rfl rfl hst ?_; simp only [Act.put, List.setIfInBounds_toArray, List.set_cons_succ, List.set_cons_zero]
              refine q_field rfl rfl rfl rfl hst fa54_0 ?_; simp only [Act.put, List.setIfInBounds_toArray, List.set_cons_succ, List.set_cons_zero]
              refine q_field rfl rfl rfl rfl hst fa52_0 ?_; simp only [Act.put, List.setIfInBounds_toArray, List.set_cons_succ, List.set_cons_zero]
              refine q_load (v := .map (some gl)) rfl rfl rfl rfl hst (fits_of ty49 rfl rfl) (fun w1 h => var_field (h.old_holds hV) (k := 0) rfl (by simp [szs])) ?_; simp only [Act.put, List.setIfInBounds_toArray, List.set_cons_succ, List.set_cons_zero]
              refine q_load (v := hval kid) rfl rfl rfl rfl hst (fits_hash _) (fun w1 h => h.field_cells (i := 0) (k := 0) rfl rfl (by simp [szs])) ?_; simp only [Act.put, List.setIfInBounds_toArray, List.set_cons_succ, List.set_cons_zero]
              refine q_lookup (kenc := hval) (venc := leafE) ek23 Try.underlying49 ty27 rfl rfl rfl rfl rfl hst (fun w1 h => map_heap (h.old_holds hL)) ?_; simp only [Act.put, List.setIfInBounds_toArray, List.set_cons_succ, List.set_cons_zero]
              simp only [Bool.false_eq_true, if_false]
              rw [getD_leafE, mlook_lents]
              obtain ⟨x, hx⟩ : ∃ x, x = (l.find? fun x => x.id = kid).getD leaf0 := ⟨_, rfl⟩
              rw [← hx]
              have hgx : good l (h + n) kid = (!isLoose x && (x.height == h + n + 1)) := by
                rw [hx]; rfl
              clear hx
              refine o_alloc ty27 rfl (.sched rfl rfl) hst ?_; clear hst; intro w1 g10 hst; refine ⟨hst.drop 0, ?_⟩; simp only [Act.put, List.setIfInBounds_toArray, List.set_cons_succ, List.set_cons_zero]
              refine o_store (i := 0) (k := 0) rfl rfl rfl rfl rfl (.sched rfl rfl) hst (fits_leaf x) (ok1_leafE _) ?_ ?_ ?_; (focus (simp [szs]; done)); (focus (simp [szs]; done)); clear hst; intro w1 hst; simp only [List.set_cons_succ, List.set_cons_zero] at hst; refine ⟨hst.drop 0, ?_⟩; simp only [Act.put, List.setIfInBounds_toArray, List.set_cons_succ, List.set_cons_zero]
              refine sched_nil ?_
              try simp only [Act.put, List.setIfInBounds_toArray, List.set_cons_succ, List.set_cons_zero]
              rw [var_leafE] at hst
              have hwr : IntKind.i64.wrap (h + n + 1) = h + n + 1 := by rw [IntKind.wrap_i64]; omega
              cases hlo : isLoose x
              · by_cases hhx : x.height = h + n + 1
                · have hg : good l (h + n) kid = true := by rw [hgx, hlo, hhx]; simp
                  have HG := Lib.hid hg
                  clear hgx hg
                  rw [HG.out] at HS
                  simp only [if_true] at HS
                  go_wp2_with (first
                    | (refine o_load (v := leafE x) rfl rfl (.list rfl) (fits_leaf _) (by rw [cells_leafE]; exact hst.var_cells (i := 0) rfl) ?_; simp only [Act.put, List.setIfInBounds_toArray, List.set_cons_succ, List.set_cons_zero])
                    | (refine o_call (vs := [leafE x]) Try.func24 rfl rfl rfl rfl rfl (.list rfl) (looseE_calls x _) (by simp) ?_; rintro e w2 ⟨rfl, h3⟩; replace hst := hst.call h3; clear h3; simp only [List.nil_append] at hst; rw [hlo]; simp only [Act.put, List.setIfInBounds_toArray, List.set_cons_succ, List.set_cons_zero])
                    | (refine o_field rfl rfl (.list rfl) fa27_2 ?_; simp only [Act.put, List.setIfInBounds_toArray, List.set_cons_succ, List.set_cons_zero])
                    | (refine o_load (v := .int .i64 x.height) rfl rfl (.list rfl) (fits_of ty3 rfl rfl) (hst.field_cells (i := 0) (k := 2) rfl rfl ?_) ?_; (focus (simp [szs]; done)); simp only [Act.put, List.setIfInBounds_toArray, List.set_cons_succ, List.set_cons_zero])
                    | (refine o_load (v := hval kid) rfl rfl (.list rfl) (fits_hash _) (hst.field_cells (i := 1) (k := 0) rfl rfl ?_) ?_; (focus (simp [szs]; done)); simp only [Act.put, List.setIfInBounds_toArray, List.set_cons_succ, List.set_cons_zero])
                    | (refine o_buildSlice (vs := [hval kid]) Try.underlying39 ty23 (size_hval hz) rfl (.list rfl) hst rfl rfl (by simp) (by simp) (by omega) ?_; clear hst; intro B w1 hst; simp only [Act.put, List.setIfInBounds_toArray, List.set_cons_succ, List.set_cons_zero])
                    | (at_builtin; go_must (refine o_append (i := 3) Try.underlying39 ty23 (by omega) (size_hval hz) rfl rfl rfl (.list rfl) hst rfl (hst.src_row (i := 0) rfl (ok1_flat (by simp [ok1_hval]))) ?_ ?_ ?_; (focus (show (nx.length + 1) * 32 ≤ 140737488355328; omega)); (focus (show nx.length + 1 ≤ 140737488355328; omega)); clear hst; intro B2 c2 w1 hst; simp only [List.set_cons_succ, List.set_cons_zero] at hst; simp only [Act.put, List.setIfInBounds_toArray, List.set_cons_succ, List.set_cons_zero])))
                  go_roundg (kn - (j + 1))
                  case measure => omega
                  case rel =>
                    refine ⟨j + 1, B2, c2, by omega, by go_num, by rw [HS.out]; simp, Nat.le_refl _, ?_⟩
                    have h9 := hst.pick [3, 4, 5, 6] (by decide)
                    rw [HS.out, List.map_append, flat_append, List.length_append]
                    exact h9
                · have hg : good l (h + n) kid = false := by rw [hgx, hlo]; simpa using hhx
                  have HG := Lib.hid hg
                  clear hgx hg
                  rw [HG.out] at HS
                  simp only [Bool.false_eq_true, if_false, List.append_nil] at HS
                  go_wp2_with (first
                    | (refine o_load (v := leafE x) rfl rfl (.list rfl) (fits_leaf _) (by rw [cells_leafE]; exact hst.var_cells (i := 0) rfl) ?_; simp only [Act.put, List.setIfInBounds_toArray, List.set_cons_succ, List.set_cons_zero])
                    | (refine o_call (vs := [leafE x]) Try.func24 rfl rfl rfl rfl rfl (.list rfl) (looseE_calls x _) (by simp) ?_; rintro e w2 ⟨rfl, h3⟩; replace hst := hst.call h3; clear h3; simp only [List.nil_append] at hst; rw [hlo]; simp only [Act.put, List.setIfInBounds_toArray, List.set_cons_succ, List.set_cons_zero])
                    | (refine o_field rfl rfl (.list rfl) fa27_2 ?_; simp only [Act.put, List.setIfInBounds_toArray, List.set_cons_succ, List.set_cons_zero])
                    | (refine o_load (v := .int .i64 x.height) rfl rfl (.list rfl) (fits_of ty3 rfl rfl) (hst.field_cells (i := 0) (k := 2) rfl rfl ?_) ?_; (focus (simp [szs]; done)); simp only [Act.put, List.setIfInBounds_toArray, List.set_cons_succ, List.set_cons_zero]))
                  go_roundg (kn - (j + 1))
                  case measure => omega
                  case rel => exact ⟨j + 1, A5, c5, by omega, by go_num, by rw [HS.out], Nat.le_refl _, by rw [HS.out]; exact hst.pick [2, 3, 4, 5] (by decide)⟩
              · have hg : good l (h + n) kid = false := by rw [hgx, hlo]; rfl
                have HG := Lib.hid hg
                clear hgx hg
                rw [HG.out] at HS
                simp only [Bool.false_eq_true, if_false, List.append_nil] at HS
                go_wp2_with (first
                    | (refine o_load (v := leafE x) rfl rfl (.list rfl) (fits_leaf _) (by rw [cells_leafE]; exact hst.var_cells (i := 0) rfl) ?_; simp only [Act.put, List.setIfInBounds_toArray, List.set_cons_succ, List.set_cons_zero])
                    | (refine o_call (vs := [leafE x]) Try.func24 rfl rfl rfl rfl rfl (.list rfl) (looseE_calls x _) (by simp) ?_; rintro e w2 ⟨rfl, h3⟩; replace hst := hst.call h3; clear h3; simp only [List.nil_append] at hst; rw [hlo]; simp only [Act.put, List.setIfInBounds_toArray, List.set_cons_succ, List.set_cons_zero]))
                go_roundg (kn - (j + 1))
                case measure => omega
                case rel => exact ⟨j + 1, A5, c5, by omega, by go_num, by rw [HS.out], Nat.le_refl _, by rw [HS.out]; exact hst.pick [2, 3, 4, 5] (by decide)⟩
            · have hje : j = kn := by omega
              subst hje
              have hfin : ((lev l root h n).take (i + 1)).flatMap (next1 l (h + n)) = pre ++ (ks.take j).filter (good l (h + n)) := by
                rw [List.take_succ_eq_append_getElem hil2, List.flatMap_append, ← HPRE.out, ← HID.out, hkn, List.take_length]
                simp only [List.flatMap_cons, List.flatMap_nil, List.append_nil, next1, ← HKS.out]
              have HF := Lib.hid hfin
              clear hfin
              go_wp2
              go_roundg (ln - (i + 1))
              case measure => omega
              case rel => exact ⟨i + 1, A5, c5, by omega, by go_num, by rw [HF.out], Nat.le_refl _, by rw [HF.out]; exact hst.pick [0, 2, 3] (by decide)⟩
        · have hie : i = ln := by omega
          have hfin : ((lev l root h n).take i).flatMap (next1 l (h + n)) = lev l root h (n + 1) := by
            rw [hie, hln, List.take_length, lev]
          rw [hfin] at hst ⊢
          have HF := Lib.hid hfin
          clear hfin
          by_cases hlz : lev l root h (n + 1) = []
          · have hz0 : (lev l root h (n + 1)).length = 0 := by rw [hlz]; rfl
            rw [hz0] at hst ⊢
            have HLZ := Lib.hid hlz
            clear hlz
            go_wp2
            go_roundg (l.length + 2 - (n + 1))
            case measure => omega
            case rel => exact ⟨n + 1, A5, c5, hmins m rest, h + n, rfl, by rw [hz0], Nat.le_refl _, fun hh => absurd HLZ.out hh, fun _ => ⟨n, m, rest, rfl, HMR.out, rfl, rfl⟩, by rw [hz0]; exact hst.pick [0, 2] (by decide)⟩
          · have hnz : (0 : Int) < (lev l root h (n + 1)).length := by
              have := List.length_pos_iff.2 hlz
              omega
            have hwr : IntKind.i64.wrap (h + n + 1) = h + n + 1 := by rw [IntKind.wrap_i64]; omega
            have HLZ := Lib.hid hlz
            clear hlz
            obtain ⟨q, hq⟩ : ∃ q, q = (lev l root h (n + 1)).length := ⟨_, rfl⟩
            rw [← hq] at hst hnz ⊢
            go_wp2
            go_roundg (l.length + 2 - (n + 1))
            case measure => omega
            case rel => exact ⟨n + 1, A5, c5, hmins m rest, h + n + 1, rfl, by rw [← hq], Nat.le_refl _, fun _ => by omega, fun hh => absurd hh HLZ.out, by rw [← hq]; exact hst.pick [0, 2] (by decide)⟩
end Go.Proofs.Ytonbgcehgmpnkaa
