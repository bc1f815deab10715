import Derived.Test.YtonbgcehgmpnkaaTi
set_option linter.unusedVariables false
set_option linter.unusedSimpArgs false
namespace Go.Proofs.Ytonbgcehgmpnkaa
open Go Go.RowKit HL BigFrame
/-! ### the way to an id -/
def okStep (l : List LeafP) (h above : Int) (k : Hash) : Bool :=
  (l.any fun x => x.id = k) && !isLoose (leafOf l k) && decide (h < (leafOf l k).height) && (decide (above < 0) || ((leafOf l k).height == above - 1))
def upF (l : List LeafP) (root : Hash) (h : Int) : Nat → Int → Hash → Option (List Hash)
  | 0, _, _ => none
  | f + 1, above, k => if k = root then (if above < 0 ∨ above = h + 1 then some [] else none)
    else if okStep l h above k then (upF l root h f (leafOf l k).height (leafOf l k).parent).map (k :: ·) else none
def wayOf (l : List LeafP) (root : Hash) (h : Int) (k : Hash) : Option (List Hash) := (upF l root h (l.length + 1) (-1) k).map List.reverse
/-- What has been passed: leaves, each of another height. -/
structure Passed (l : List LeafP) (acc : List Hash) (above : Int) : Prop where
  mem : ∀ k ∈ acc, leafOf l k ∈ l ∧ (leafOf l k).id = k ∧ 0 ≤ above ∧ above ≤ (leafOf l k).height
  nd : acc.Nodup
theorem Passed.len {l : List LeafP} {acc : List Hash} {above : Int} (h : Passed l acc above) : acc.length ≤ l.length := by
  have := nodup_le acc (l.map (·.id)) h.nd (fun k hk => List.mem_map.2 ⟨_, (h.mem k hk).1, (h.mem k hk).2.1⟩)
  rwa [List.length_map] at this
theorem Passed.step {l : List LeafP} {acc : List Hash} {h above : Int} {k : Hash} (hp : Passed l acc above) (h0 : 0 ≤ h) (hs : okStep l h above k = true) (hab : above < 0 → acc = []) : Passed l (acc ++ [k]) (leafOf l k).height := by
  simp only [okStep, Bool.and_eq_true, Bool.or_eq_true, decide_eq_true_eq, beq_iff_eq, List.any_eq_true] at hs
  obtain ⟨⟨⟨⟨x, hx, he⟩, hlo⟩, hh⟩, hab2⟩ := hs
  have hl := leafOf_mem (l := l) (k := k) ⟨x, hx, by simpa using he⟩
  have hlt : ∀ q ∈ acc, (leafOf l k).height < (leafOf l q).height ∧ (leafOf l k).height ≤ (leafOf l q).height := fun q hq => by
    have hm := hp.mem q hq
    rcases hab2 with h1 | h1
    · rw [hab h1] at hq; cases hq
    · omega
  refine ⟨fun q hq => ?_, ?_⟩
  · rcases List.mem_append.1 hq with hq | hq
    · have hm := hp.mem q hq
      exact ⟨hm.1, hm.2.1, by omega, (hlt q hq).2⟩
    · simp at hq
      subst hq
      exact ⟨hl.1, hl.2, by omega, Int.le_refl _⟩
  · rw [List.nodup_append]
    refine ⟨hp.nd, by simp, ?_⟩
    intro a ha b hb e
    simp at hb
    subst hb
    subst e
    have := (hlt a ha).1
    omega
set_option maxHeartbeats 8000000 in
set_option maxRecDepth 100000 in
theorem way_nil (dest : Hash) (w : World) : Calls Try.prog 27 #[.pointer none, hval dest] w fun e w' => e = .panicked fell ∧ St w w' No [] := by
  have hst := St.start w No
  go_enter Try.func27, Try.ntmps27
  go_wp2_with (first
    | (refine o_box (v := hval dest) rfl rfl (.list rfl) hst ?_; clear hst; intro w1 g3 hst; simp only [Act.put, List.setIfInBounds_toArray, List.set_cons_succ, List.set_cons_zero])
    | (refine o_call (vs := [.pointer none]) Try.func21 rfl rfl rfl rfl rfl (.list rfl) (made_nil _) (by simp) ?_; rintro e w2 ⟨rfl, h3⟩; replace hst := hst.call h3; clear h3; simp only [List.nil_append] at hst; simp only [Act.put, List.setIfInBounds_toArray, List.set_cons_succ, List.set_cons_zero])
    | (refine o_call (vs := [.bool false]) Try.func36 rfl rfl rfl rfl rfl (.list rfl) (must_calls false _) (by simp) ?_; rintro e w2 ⟨h2, h3⟩; replace hst := hst.call h3; clear h3; simp only [List.nil_append] at hst; rcases h2 with ⟨h2, _⟩ | ⟨_, rfl⟩; (focus (cases h2; done)); simp only [Act.put, List.setIfInBounds_toArray, List.set_cons_succ, List.set_cons_zero]))
  exact ⟨rfl, rfl, hst.sub (by simp)⟩
theorem leafOf_high {l : List LeafP} (hh : ∀ x ∈ l, x.height ≤ 9223372036854775807) (k : Hash) : (leafOf l k).height ≤ 9223372036854775807 := by
  unfold leafOf
  cases hf : l.find? fun x => x.id = k with
  | none => simp [leaf0]
  | some x => exact hh x (List.mem_of_find?_eq_some hf)
set_option maxHeartbeats 8000000 in
set_option maxRecDepth 100000 in
theorem way_calls (g gl gK : Nat) (xs : List (Hash × KV × Nat)) (root : Hash) (h : Int) (l : List LeafP) (dest : Hash) (w : World) (ht : ∀ r ∈ treeL g gl gK xs root h l, r.holds w) (hh : ∀ x ∈ l, x.height ≤ 9223372036854775807) (h0 : 0 ≤ h) (h1 : h ≤ 2147483647) (hl : l.length ≤ 3000) :
    Calls Try.prog 27 #[.pointer (some ⟨g, 0, none⟩), hval dest] w fun e w' => (wayOf l root h dest = none ∧ e = .panicked fell ∧ St w w' No []) ∨ ∃ ids A c, wayOf l root h dest = some ids ∧ ids.length ≤ l.length ∧ e = .returned (.slice A ids.length c) ∧ St w w' No [Res.row A ids.length c 23 32 (flat (ids.map hval))] := by
  have hst := St.start w No
  have hV : (Res.var g 54 [.map (some gl), .map (some gK), hval root, .int .i64 h]).holds w := ht _ (List.mem_of_getElem? (i := 0) rfl)
  have hL : (Res.map gl hval leafE (lents l) l.length).holds w := ht _ (List.mem_of_getElem? (i := 1) rfl)
  go_enter Try.func27, Try.ntmps27
  go_wp2_with (first
    | (refine o_box (v := hval dest) rfl rfl (.list rfl) hst ?_; clear hst; intro w1 g3 hst; simp only [Act.put, List.setIfInBounds_toArray, List.set_cons_succ, List.set_cons_zero])
    | (refine o_call (vs := [.pointer (some ⟨g, 0, none⟩)]) Try.func21 rfl rfl rfl rfl rfl (.list rfl) (made_calls g gl gK root h _ (hst.old_holds hV)) (by simp) ?_; rintro e w2 ⟨rfl, h3⟩; replace hst := hst.call h3; clear h3; simp only [List.nil_append] at hst; simp only [Act.put, List.setIfInBounds_toArray, List.set_cons_succ, List.set_cons_zero])
    | (refine o_call (vs := [.bool true]) Try.func36 rfl rfl rfl rfl rfl (.list rfl) (must_calls true _) (by simp) ?_; rintro e w2 ⟨h2, h3⟩; replace hst := hst.call h3; clear h3; simp only [List.nil_append] at hst; rcases h2 with ⟨_, rfl⟩ | ⟨h2, _⟩; rotate_left; (focus (cases h2; done)); simp only [Act.put, List.setIfInBounds_toArray, List.set_cons_succ, List.set_cons_zero]))
  replace hst := hst.nilrow 23 32
  go_loopg [4, 5] (l.length + 1) (fun kx s4 s5 wr => ∃ (acc : List Hash) (A : Option Addr) (c : Nat) (above : Int) (k : Hash) (f : Nat), s4 = .slice A acc.length c ∧ s5 = .int .i64 above ∧ f + acc.length = l.length + 1 ∧ f ≤ kx ∧
    upF l root h (l.length + 1) (-1) dest = (upF l root h f above k).map (acc ++ ·) ∧ Passed l acc above ∧ (above < 0 → acc = []) ∧ -1 ≤ above ∧ above ≤ 9223372036854775807 ∧ St w wr No [Res.row A acc.length c 23 32 (flat (acc.map hval)), Res.var g3 23 [hval k]])
  case atStart => exact ⟨[], none, 0, -1, dest, l.length + 1, rfl, rfl, rfl, Nat.le_refl _, by simp, ⟨by simp, by simp⟩, fun _ => rfl, by omega, by omega, by simpa [flat_nil] using hst⟩
  case round =>
    clear hst
    obtain ⟨acc, A, c, above, k, f, rfl, rfl, hf, hkx, hup, hp, hab, hlo, hhi, hst⟩ := hrel
    have hal := hp.len
    obtain ⟨f, rfl⟩ : ∃ m, f = m + 1 := ⟨f - 1, by omega⟩
    have HUP := Lib.hid hup
    clear hup
    go_wp2
    refine wp_region_sched (.q 0 (.q 1 (.q 2 (.q 3 (.q 4 (.q 5 .nil)))))) (fun w1 => St w w1 No [Res.row A acc.length c 23 32 (flat (acc.map hval)), Res.var g3 23 [hval k]]) (by kernel_rfl) (by kernel_rfl) (by kernel_rfl) (by decide) (fun d v c a w h => by cases d <;> exact h) ?_
    have hst := hst.drew
    refine q_load (v := hval k) rfl rfl rfl rfl hst (fits_hash _) (fun w1 h => h.field_cells (i := 1) (k := 0) rfl rfl (by simp [szs])) ?_; simp only [Act.put, List.setIfInBounds_toArray, List.set_cons_succ, List.set_cons_zero]
    refine q_move rfl rfl rfl rfl hst ?_; simp only [Act.put, List.setIfInBounds_toArray, List.set_cons_succ, List.set_cons_zero]
    refine q_nilCheck rfl rfl rfl rfl hst ?_; simp only [Act.put, List.setIfInBounds_toArray, List.set_cons_succ, List.set_cons_zero]
    refine q_field rfl rfl rfl rfl hst fa54_1 ?_; simp only [Act.put, List.setIfInBounds_toArray, List.set_cons_succ, List.set_cons_zero]
    refine q_load (v := hval root) rfl rfl rfl rfl hst (fits_hash _) (fun w1 h => var_field (h.old_holds hV) (k := 2) rfl rfl) ?_; simp only [Act.put, List.setIfInBounds_toArray, List.set_cons_succ, List.set_cons_zero]
    refine q_ne ek23.eq (by omega) isAgg_hval eg23 rfl rfl rfl rfl rfl hst ?_
    refine sched_nil ?_
    try simp only [Act.put, List.setIfInBounds_toArray, List.set_cons_succ, List.set_cons_zero]
    by_cases hkr : k = root
    · have hd : (!decide (k = root)) = false := by simp [hkr]
      simp only [hd]
      clear hd
      subst hkr
      have hupF : upF l k h (f + 1) above k = if above < 0 ∨ above = h + 1 then some [] else none := by rw [upF, if_pos rfl]
      by_cases ha0 : above < 0
      · obtain rfl := hab ha0
        have hw : wayOf l k h dest = some [] := by rw [wayOf, HUP.out, hupF, if_pos (.inl ha0)]; simp
        have HW := Lib.hid hw
        clear hw hupF
        go_wp2_with (first
            | (refine o_call (vs := [.bool true]) Try.func36 rfl rfl rfl rfl rfl (.list rfl) (must_calls true _) (by simp) ?_; rintro e w2 ⟨h2, h3⟩; replace hst := hst.call h3; clear h3; simp only [List.nil_append] at hst; rcases h2 with ⟨_, rfl⟩ | ⟨h2, _⟩; rotate_left; (focus (cases h2; done)); simp only [Act.put, List.setIfInBounds_toArray, List.set_cons_succ, List.set_cons_zero])
            | (refine o_call (vs := [.slice A 0 c]) Try.func30 rfl rfl rfl rfl rfl (.list rfl) (reverse_calls A [] c _ (hst.get (i := 0) rfl) (by omega)) (by simp) ?_; rintro e w2 ⟨rfl, h3⟩; replace hst := hst.call0 h3 (fun b hb => fp_row.2 hb); clear h3; simp only [List.cons_append, List.nil_append] at hst; simp only [Act.put, List.setIfInBounds_toArray, List.set_cons_succ, List.set_cons_zero]))
        go_ret
        exact .inr ⟨[], HW.out, by simp, A, c, by simp, by simpa using hst.pick [0] (by decide)⟩
      · by_cases hah : above = h + 1
        · subst hah
          have hw : wayOf l k h dest = some acc.reverse := by rw [wayOf, HUP.out, hupF, if_pos (.inr rfl)]; simp
          have HW := Lib.hid hw
          have hwr : IntKind.i64.wrap (h + 1) = h + 1 := by rw [IntKind.wrap_i64]; omega
          clear hw hupF
          go_wp2_with (first
            | (refine at_nil ?_ rfl; refine o_nilCheck rfl rfl (.list rfl) ?_; simp only [Act.put, List.setIfInBounds_toArray, List.set_cons_succ, List.set_cons_zero])
            | (refine o_field rfl rfl (.list rfl) fa54_2 ?_; simp only [Act.put, List.setIfInBounds_toArray, List.set_cons_succ, List.set_cons_zero])
            | (refine o_load (v := .int .i64 h) rfl rfl (.list rfl) (fits_of ty3 rfl rfl) (var_field (hst.old_holds hV) (k := 3) rfl (by simp [szs])) ?_; simp only [Act.put, List.setIfInBounds_toArray, List.set_cons_succ, List.set_cons_zero])
            | (refine o_call (vs := [.bool true]) Try.func36 rfl rfl rfl rfl rfl (.list rfl) (must_calls true _) (by simp) ?_; rintro e w2 ⟨h2, h3⟩; replace hst := hst.call h3; clear h3; simp only [List.nil_append] at hst; rcases h2 with ⟨_, rfl⟩ | ⟨h2, _⟩; rotate_left; (focus (cases h2; done)); simp only [Act.put, List.setIfInBounds_toArray, List.set_cons_succ, List.set_cons_zero])
            | (refine o_call (vs := [.slice A acc.length c]) Try.func30 rfl rfl rfl rfl rfl (.list rfl) (reverse_calls A acc c _ (hst.get (i := 0) rfl) (by omega)) (by simp) ?_; rintro e w2 ⟨rfl, h3⟩; replace hst := hst.call0 h3 (fun b hb => fp_row.2 hb); clear h3; simp only [List.cons_append, List.nil_append] at hst; simp only [Act.put, List.setIfInBounds_toArray, List.set_cons_succ, List.set_cons_zero]))
          go_ret
          exact .inr ⟨acc.reverse, HW.out, by simpa using hal, A, c, by simp, by simpa using hst.pick [0] (by decide)⟩
        · have hw : wayOf l k h dest = none := by rw [wayOf, HUP.out, hupF, if_neg (by omega)]; simp
          have HW := Lib.hid hw
          have hwr : IntKind.i64.wrap (h + 1) = h + 1 := by rw [IntKind.wrap_i64]; omega
          clear hw hupF
          go_wp2_with (first
            | (refine at_nil ?_ rfl; refine o_nilCheck rfl rfl (.list rfl) ?_; simp only [Act.put, List.setIfInBounds_toArray, List.set_cons_succ, List.set_cons_zero])
            | (refine o_field rfl rfl (.list rfl) fa54_2 ?_; simp only [Act.put, List.setIfInBounds_toArray, List.set_cons_succ, List.set_cons_zero])
            | (refine o_load (v := .int .i64 h) rfl rfl (.list rfl) (fits_of ty3 rfl rfl) (var_field (hst.old_holds hV) (k := 3) rfl (by simp [szs])) ?_; simp only [Act.put, List.setIfInBounds_toArray, List.set_cons_succ, List.set_cons_zero])
            | (refine o_call (vs := [.bool (above == h + 1)]) Try.func36 rfl rfl rfl rfl rfl (.list rfl) (must_calls (above == h + 1) _) (by simp) ?_; rintro e w2 ⟨h2, h3⟩; replace hst := hst.call h3; clear h3; simp only [List.nil_append] at hst; rcases h2 with ⟨h2, _⟩ | ⟨_, rfl⟩; (focus (simp [hah] at h2; done)); simp only [Act.put, List.setIfInBounds_toArray, List.set_cons_succ, List.set_cons_zero]))
          exact ⟨rfl, .inl ⟨HW.out, rfl, hst.sub (by simp)⟩⟩
    · have hd : (!decide (k = root)) = true := by simp [hkr]
      simp only [hd]
      clear hd
      go_wp2
      refine wp_region_sched (.q 0 (.q 1 (.q 2 (.q 3 (.q 4 (.q 5 (.q 6 (.q 7 (.q 8 (.q 9 (.s 10 (.s 11 (.q 12 .nil))))))))))))) (fun w1 => St w w1 No [Res.row A acc.length c 23 32 (flat (acc.map hval)), Res.var g3 23 [hval k]]) (by kernel_rfl) (by kernel_rfl) (by kernel_rfl) (by decide) (fun d v c a w h => by cases d <;> exact h) ?_
      have hst := hst.drew
      refine q_move rfl rfl rfl rfl hst ?_; simp only [Act.put, List.setIfInBounds_toArray, List.set_cons_succ, List.set_cons_zero]
      refine q_nilCheck rfl rfl rfl rfl hst ?_; simp only [Act.put, List.setIfInBounds_toArray, List.set_cons_succ, List.set_cons_zero]
      refine q_field rfl rfl rfl rfl hst fa54_0 ?_; simp only [Act.put, List.setIfInBounds_toArray, List.set_cons_succ, List.set_cons_zero]
      refine q_field rfl rfl rfl rfl hst fa52_0 ?_; simp only [Act.put, List.setIfInBounds_toArray, List.set_cons_succ, List.set_cons_zero]
      refine q_load (v := .map (some gl)) rfl rfl rfl rfl hst (fits_of ty49 rfl rfl) (fun w1 h => var_field (h.old_holds hV) (k := 0) rfl rfl) ?_; simp only [Act.put, List.setIfInBounds_toArray, List.set_cons_succ, List.set_cons_zero]
      refine q_load (v := hval k) rfl rfl rfl rfl hst (fits_hash _) (fun w1 h => h.field_cells (i := 1) (k := 0) rfl rfl (by simp [szs])) ?_; simp only [Act.put, List.setIfInBounds_toArray, List.set_cons_succ, List.set_cons_zero]
      refine q_lookup (kenc := hval) (venc := leafE) ek23 Try.underlying49 ty27 rfl rfl rfl rfl rfl hst (fun w1 h => map_heap (h.old_holds hL)) ?_; simp only [Act.put, List.setIfInBounds_toArray, List.set_cons_succ, List.set_cons_zero]
      simp only [if_true]
      rw [getD_leafE, mlook_lents, mhas_lents]
      refine q_move rfl rfl rfl rfl hst ?_; simp only [Act.put, List.setIfInBounds_toArray, List.set_cons_succ, List.set_cons_zero]
      refine q_extract rfl rfl rfl rfl rfl hst ?_; simp only [Act.put, List.setIfInBounds_toArray, List.set_cons_succ, List.set_cons_zero]
      refine q_extract rfl rfl rfl rfl rfl hst ?_; simp only [Act.put, List.setIfInBounds_toArray, List.set_cons_succ, List.set_cons_zero]
      have hxx : (l.find? fun x => x.id = k).getD leaf0 = leafOf l k := rfl
      rw [hxx]
      clear hxx
      have hsp : upF l root h (f + 1) above k = if okStep l h above k then (upF l root h f (leafOf l k).height (leafOf l k).parent).map (k :: ·) else none := by rw [upF, if_neg hkr]
      have hok : okStep l h above k = ((l.any fun x => x.id = k) && !isLoose (leafOf l k) && decide (h < (leafOf l k).height) && (decide (above < 0) || ((leafOf l k).height == above - 1))) := rfl
      have hxh := leafOf_high hh k
      have hstep := hp.step h0 (k := k) (above := above)
      obtain ⟨x, hx⟩ : ∃ x, x = leafOf l k := ⟨_, rfl⟩
      rw [← hx] at hsp hok hxh hstep ⊢
      refine o_alloc ty27 rfl (.sched rfl rfl) hst ?_; clear hst; intro w1 g6 hst; refine ⟨hst.drop 0, ?_⟩; simp only [Act.put, List.setIfInBounds_toArray, List.set_cons_succ, List.set_cons_zero]
      refine o_store (i := 0) (k := 0) rfl rfl rfl rfl rfl (.sched rfl rfl) hst (fits_leaf x) (ok1_leafE _) ?_ ?_ ?_; (focus (simp [szs]; done)); (focus (simp [szs]; done)); clear hst; intro w1 hst; simp only [List.set_cons_succ, List.set_cons_zero] at hst; refine ⟨hst.drop 0, ?_⟩; simp only [Act.put, List.setIfInBounds_toArray, List.set_cons_succ, List.set_cons_zero]
      refine q_assign rfl rfl rfl rfl (hst.drop 0) ?_; simp only [Act.put, List.setIfInBounds_toArray, List.set_cons_succ, List.set_cons_zero]
      refine sched_nil ?_
      try simp only [Act.put, List.setIfInBounds_toArray, List.set_cons_succ, List.set_cons_zero]
      rw [var_leafE] at hst
      clear hx
      have hfl : ∀ b, okStep l h above k = b → (b = false → wayOf l root h dest = none) := fun b hb hf0 => by
        subst hf0
        rw [wayOf, HUP.out, hsp, hb]
        simp
      cases hfo : (l.any fun x => decide (x.id = k)) with
      | false =>
        have hw := hfl false (by rw [hok, hfo]; rfl) rfl
        have HW := Lib.hid hw
        clear hw hfl hok hsp hstep
        go_wp2
        refine wp_region_sched (.q 0 (.q 1 (.q 2 (.s 3 (.q 4 (.q 5 (.q 6 (.q 7 (.q 8 (.q 9 (.q 10 (.q 11 (.q 12 (.q 13 (.q 14 (.q 15 (.q 16 (.q 17 (.q 18 (.q 19 (.q 20 (.q 21 (.q 22 (.q 23 (.q 24 (.q 25 (.s 26 .nil))))))))))))))))))))))))))) (fun w1 => St w w1 No [Res.var g6 27 [hval x.id, hval x.parent, .int .i64 x.height, .int .i64 x.mark], Res.row A acc.length c 23 32 (flat (acc.map hval)), Res.var g3 23 [hval k]]) (by kernel_rfl) (by kernel_rfl) (by kernel_rfl) (by decide) (fun d v c a w h => by cases d <;> exact h) ?_
        have hst := hst.drew
        repeat (first
          | (refine sched_skip rfl rfl hst ?_; try simp only [Act.put, List.setIfInBounds_toArray, List.set_cons_succ, List.set_cons_zero])
          | (refine sched_sskip rfl rfl hst ?_; try simp only [Act.put, List.setIfInBounds_toArray, List.set_cons_succ, List.set_cons_zero])
          | (refine sched_q rfl rfl rfl hst (fun K hK => ?_); go_big_quiet_op; first | refine hK _ ?_ | refine ⟨_, fun _ _ => rfl, hK _ ?_⟩; clear hK K)
          | (refine q_nilCheck rfl rfl rfl rfl hst ?_; simp only [Act.put, List.setIfInBounds_toArray, List.set_cons_succ, List.set_cons_zero])
          | (refine q_field rfl rfl rfl rfl hst fa27_2 ?_; simp only [Act.put, List.setIfInBounds_toArray, List.set_cons_succ, List.set_cons_zero])
          | (refine q_field rfl rfl rfl rfl hst fa54_2 ?_; simp only [Act.put, List.setIfInBounds_toArray, List.set_cons_succ, List.set_cons_zero])
          | (refine q_load (v := .int .i64 x.height) rfl rfl rfl rfl hst (fits_of ty3 rfl rfl) (fun w1 h => h.field_cells (i := 0) (k := 2) rfl rfl (by simp [szs])) ?_; simp only [Act.put, List.setIfInBounds_toArray, List.set_cons_succ, List.set_cons_zero])
          | (refine q_load (v := .int .i64 h) rfl rfl rfl rfl hst (fits_of ty3 rfl rfl) (fun w1 h => var_field (h.old_holds hV) (k := 3) rfl (by simp [szs])) ?_; simp only [Act.put, List.setIfInBounds_toArray, List.set_cons_succ, List.set_cons_zero])
          | (refine q_load (v := leafE x) rfl rfl rfl rfl hst (fits_leaf _) (fun w1 h => ?_) ?_; (focus (rw [cells_leafE]; exact h.var_cells (i := 0) rfl)); try simp only [Act.put, List.setIfInBounds_toArray, List.set_cons_succ, List.set_cons_zero])
          | (refine o_call (vs := [leafE x]) Try.func24 rfl rfl rfl rfl rfl (.sched rfl rfl) (looseE_calls x _) (by simp) ?_; rintro e w2 ⟨rfl, h3⟩; refine ⟨hst.call h3, ?_⟩; replace hst := hst.call h3; clear h3; simp only [List.nil_append] at hst; rw [hlo]; try simp only [Act.put, List.setIfInBounds_toArray, List.set_cons_succ, List.set_cons_zero]))
        refine o_call (vs := [.bool false]) Try.func36 rfl rfl rfl rfl rfl (.sched rfl rfl) (must_calls false _) (by simp) ?_
        rintro e w2 ⟨h2, h3⟩
        replace hst := hst.call h3
        rcases h2 with ⟨h2, _⟩ | ⟨_, rfl⟩
        · cases h2
        exact ⟨rfl, .inl ⟨HW.out, rfl, hst.sub (by simp)⟩⟩
      | true =>
        cases hlo : isLoose x with
        | true =>
          have hw := hfl false (by rw [hok, hfo, hlo]; rfl) rfl
          have HW := Lib.hid hw
          clear hw hfl hok hsp hstep
          go_wp2
          refine wp_region_sched (.q 0 (.q 1 (.q 2 (.s 3 (.q 4 (.q 5 (.q 6 (.q 7 (.q 8 (.q 9 (.q 10 (.q 11 (.q 12 (.q 13 (.q 14 (.q 15 (.q 16 (.q 17 (.q 18 (.q 19 (.q 20 (.q 21 (.q 22 (.q 23 (.q 24 (.q 25 (.s 26 .nil))))))))))))))))))))))))))) (fun w1 => St w w1 No [Res.var g6 27 [hval x.id, hval x.parent, .int .i64 x.height, .int .i64 x.mark], Res.row A acc.length c 23 32 (flat (acc.map hval)), Res.var g3 23 [hval k]]) (by kernel_rfl) (by kernel_rfl) (by kernel_rfl) (by decide) (fun d v c a w h => by cases d <;> exact h) ?_
          have hst := hst.drew
          repeat (first
            | (refine sched_skip rfl rfl hst ?_; try simp only [Act.put, List.setIfInBounds_toArray, List.set_cons_succ, List.set_cons_zero])
            | (refine sched_sskip rfl rfl hst ?_; try simp only [Act.put, List.setIfInBounds_toArray, List.set_cons_succ, List.set_cons_zero])
            | (refine sched_q rfl rfl rfl hst (fun K hK => ?_); go_big_quiet_op; first | refine hK _ ?_ | refine ⟨_, fun _ _ => rfl, hK _ ?_⟩; clear hK K)
            | (refine q_nilCheck rfl rfl rfl rfl hst ?_; simp only [Act.put, List.setIfInBounds_toArray, List.set_cons_succ, List.set_cons_zero])
            | (refine q_field rfl rfl rfl rfl hst fa27_2 ?_; simp only [Act.put, List.setIfInBounds_toArray, List.set_cons_succ, List.set_cons_zero])
            | (refine q_field rfl rfl rfl rfl hst fa54_2 ?_; simp only [Act.put, List.setIfInBounds_toArray, List.set_cons_succ, List.set_cons_zero])
            | (refine q_load (v := .int .i64 x.height) rfl rfl rfl rfl hst (fits_of ty3 rfl rfl) (fun w1 h => h.field_cells (i := 0) (k := 2) rfl rfl (by simp [szs])) ?_; simp only [Act.put, List.setIfInBounds_toArray, List.set_cons_succ, List.set_cons_zero])
            | (refine q_load (v := .int .i64 h) rfl rfl rfl rfl hst (fits_of ty3 rfl rfl) (fun w1 h => var_field (h.old_holds hV) (k := 3) rfl (by simp [szs])) ?_; simp only [Act.put, List.setIfInBounds_toArray, List.set_cons_succ, List.set_cons_zero])
            | (refine q_load (v := leafE x) rfl rfl rfl rfl hst (fits_leaf _) (fun w1 h => ?_) ?_; (focus (rw [cells_leafE]; exact h.var_cells (i := 0) rfl)); try simp only [Act.put, List.setIfInBounds_toArray, List.set_cons_succ, List.set_cons_zero])
            | (refine o_call (vs := [leafE x]) Try.func24 rfl rfl rfl rfl rfl (.sched rfl rfl) (looseE_calls x _) (by simp) ?_; rintro e w2 ⟨rfl, h3⟩; refine ⟨hst.call h3, ?_⟩; replace hst := hst.call h3; clear h3; simp only [List.nil_append] at hst; rw [hlo]; try simp only [Act.put, List.setIfInBounds_toArray, List.set_cons_succ, List.set_cons_zero]))
          refine o_call (vs := [.bool false]) Try.func36 rfl rfl rfl rfl rfl (.sched rfl rfl) (must_calls false _) (by simp) ?_
          rintro e w2 ⟨h2, h3⟩
          replace hst := hst.call h3
          rcases h2 with ⟨h2, _⟩ | ⟨_, rfl⟩
          · cases h2
          exact ⟨rfl, .inl ⟨HW.out, rfl, hst.sub (by simp)⟩⟩
        | false =>
          by_cases hgt : h < x.height
          rotate_left
          · have hd1 : decide (h < x.height) = false := decide_eq_false hgt
            have hw := hfl false (by rw [hok, hfo, hlo, hd1]; rfl) rfl
            have HW := Lib.hid hw
            clear hw hfl hok hsp hstep
            go_wp2
            refine wp_region_sched (.q 0 (.q 1 (.q 2 (.s 3 (.q 4 (.q 5 (.q 6 (.q 7 (.q 8 (.q 9 (.q 10 (.q 11 (.q 12 (.q 13 (.q 14 (.q 15 (.q 16 (.q 17 (.q 18 (.q 19 (.q 20 (.q 21 (.q 22 (.q 23 (.q 24 (.q 25 (.s 26 .nil))))))))))))))))))))))))))) (fun w1 => St w w1 No [Res.var g6 27 [hval x.id, hval x.parent, .int .i64 x.height, .int .i64 x.mark], Res.row A acc.length c 23 32 (flat (acc.map hval)), Res.var g3 23 [hval k]]) (by kernel_rfl) (by kernel_rfl) (by kernel_rfl) (by decide) (fun d v c a w h => by cases d <;> exact h) ?_
            have hst := hst.drew
            repeat (first
              | (simp only [hd1])
              | (refine sched_skip rfl rfl hst ?_; try simp only [Act.put, List.setIfInBounds_toArray, List.set_cons_succ, List.set_cons_zero])
              | (refine sched_sskip rfl rfl hst ?_; try simp only [Act.put, List.setIfInBounds_toArray, List.set_cons_succ, List.set_cons_zero])
              | (refine sched_q rfl rfl rfl hst (fun K hK => ?_); go_big_quiet_op; first | refine hK _ ?_ | refine ⟨_, fun _ _ => rfl, hK _ ?_⟩; clear hK K)
              | (refine q_nilCheck rfl rfl rfl rfl hst ?_; simp only [Act.put, List.setIfInBounds_toArray, List.set_cons_succ, List.set_cons_zero])
              | (refine q_field rfl rfl rfl rfl hst fa27_2 ?_; simp only [Act.put, List.setIfInBounds_toArray, List.set_cons_succ, List.set_cons_zero])
              | (refine q_field rfl rfl rfl rfl hst fa54_2 ?_; simp only [Act.put, List.setIfInBounds_toArray, List.set_cons_succ, List.set_cons_zero])
              | (refine q_load (v := .int .i64 x.height) rfl rfl rfl rfl hst (fits_of ty3 rfl rfl) (fun w1 h => h.field_cells (i := 0) (k := 2) rfl rfl (by simp [szs])) ?_; simp only [Act.put, List.setIfInBounds_toArray, List.set_cons_succ, List.set_cons_zero])
              | (refine q_load (v := .int .i64 h) rfl rfl rfl rfl hst (fits_of ty3 rfl rfl) (fun w1 h => var_field (h.old_holds hV) (k := 3) rfl (by simp [szs])) ?_; simp only [Act.put, List.setIfInBounds_toArray, List.set_cons_succ, List.set_cons_zero])
              | (refine q_load (v := leafE x) rfl rfl rfl rfl hst (fits_leaf _) (fun w1 h => ?_) ?_; (focus (rw [cells_leafE]; exact h.var_cells (i := 0) rfl)); try simp only [Act.put, List.setIfInBounds_toArray, List.set_cons_succ, List.set_cons_zero])
              | (refine o_call (vs := [leafE x]) Try.func24 rfl rfl rfl rfl rfl (.sched rfl rfl) (looseE_calls x _) (by simp) ?_; rintro e w2 ⟨rfl, h3⟩; refine ⟨hst.call h3, ?_⟩; replace hst := hst.call h3; clear h3; simp only [List.nil_append] at hst; rw [hlo]; try simp only [Act.put, List.setIfInBounds_toArray, List.set_cons_succ, List.set_cons_zero]))
            refine o_call (vs := [.bool false]) Try.func36 rfl rfl rfl rfl rfl (.sched rfl rfl) (must_calls false _) (by simp) ?_
            rintro e w2 ⟨h2, h3⟩
            replace hst := hst.call h3
            rcases h2 with ⟨h2, _⟩ | ⟨_, rfl⟩
            · cases h2
            exact ⟨rfl, .inl ⟨HW.out, rfl, hst.sub (by simp)⟩⟩
          have hd1 : decide (h < x.height) = true := decide_eq_true hgt
          by_cases ha0 : above < 0
          · have hd2 : decide (above < 0) = true := decide_eq_true ha0
            have hoks := hok
            rw [hfo, hlo, hd1, hd2] at hoks
            have hw : okStep l h above k = true := hoks
            rw [hw, if_pos rfl] at hsp
            have hnew := hstep hw hab
            have HSP := Lib.hid hsp
            have HNEW := Lib.hid hnew
            have HA0 := Lib.hid ha0
            clear ha0
            clear hw hfl hok hsp hstep hnew hoks
            go_wp2
            refine wp_region_sched (.q 0 (.q 1 (.q 2 (.s 3 (.q 4 (.q 5 (.q 6 (.q 7 (.q 8 (.q 9 (.q 10 (.q 11 (.q 12 (.q 13 (.q 14 (.q 15 (.q 16 (.q 17 (.q 18 (.q 19 (.q 20 (.q 21 (.q 22 (.q 23 (.q 24 (.q 25 (.s 26 .nil))))))))))))))))))))))))))) (fun w1 => St w w1 No [Res.var g6 27 [hval x.id, hval x.parent, .int .i64 x.height, .int .i64 x.mark], Res.row A acc.length c 23 32 (flat (acc.map hval)), Res.var g3 23 [hval k]]) (by kernel_rfl) (by kernel_rfl) (by kernel_rfl) (by decide) (fun d v c a w h => by cases d <;> exact h) ?_
            have hst := hst.drew
            repeat (first
              | (simp only [hd1, hd2])
              | (refine sched_skip rfl rfl hst ?_; try simp only [Act.put, List.setIfInBounds_toArray, List.set_cons_succ, List.set_cons_zero])
              | (refine sched_sskip rfl rfl hst ?_; try simp only [Act.put, List.setIfInBounds_toArray, List.set_cons_succ, List.set_cons_zero])
              | (refine sched_q rfl rfl rfl hst (fun K hK => ?_); go_big_quiet_op; first | refine hK _ ?_ | refine ⟨_, fun _ _ => rfl, hK _ ?_⟩; clear hK K)
              | (refine q_nilCheck rfl rfl rfl rfl hst ?_; simp only [Act.put, List.setIfInBounds_toArray, List.set_cons_succ, List.set_cons_zero])
              | (refine q_field rfl rfl rfl rfl hst fa27_2 ?_; simp only [Act.put, List.setIfInBounds_toArray, List.set_cons_succ, List.set_cons_zero])
              | (refine q_field rfl rfl rfl rfl hst fa54_2 ?_; simp only [Act.put, List.setIfInBounds_toArray, List.set_cons_succ, List.set_cons_zero])
              | (refine q_load (v := .int .i64 x.height) rfl rfl rfl rfl hst (fits_of ty3 rfl rfl) (fun w1 h => h.field_cells (i := 0) (k := 2) rfl rfl (by simp [szs])) ?_; simp only [Act.put, List.setIfInBounds_toArray, List.set_cons_succ, List.set_cons_zero])
              | (refine q_load (v := .int .i64 h) rfl rfl rfl rfl hst (fits_of ty3 rfl rfl) (fun w1 h => var_field (h.old_holds hV) (k := 3) rfl (by simp [szs])) ?_; simp only [Act.put, List.setIfInBounds_toArray, List.set_cons_succ, List.set_cons_zero])
              | (refine q_load (v := leafE x) rfl rfl rfl rfl hst (fits_leaf _) (fun w1 h => ?_) ?_; (focus (rw [cells_leafE]; exact h.var_cells (i := 0) rfl)); try simp only [Act.put, List.setIfInBounds_toArray, List.set_cons_succ, List.set_cons_zero])
              | (refine o_call (vs := [leafE x]) Try.func24 rfl rfl rfl rfl rfl (.sched rfl rfl) (looseE_calls x _) (by simp) ?_; rintro e w2 ⟨rfl, h3⟩; refine ⟨hst.call h3, ?_⟩; replace hst := hst.call h3; clear h3; simp only [List.nil_append] at hst; rw [hlo]; try simp only [Act.put, List.setIfInBounds_toArray, List.set_cons_succ, List.set_cons_zero]))
            refine o_call (vs := [.bool true]) Try.func36 rfl rfl rfl rfl rfl (.sched rfl rfl) (must_calls true _) (by simp) ?_
            rintro e w2 ⟨h2, h3⟩
            rcases h2 with ⟨_, rfl⟩ | ⟨h2, _⟩
            rotate_left
            · cases h2
            refine ⟨hst.call h3, ?_⟩
            replace hst := hst.call h3
            clear h3
            simp only [List.nil_append] at hst
            refine sched_nil ?_
            try simp only [Act.put, List.setIfInBounds_toArray, List.set_cons_succ, List.set_cons_zero]
            go_wp2_with (first
              | (refine o_load (v := hval k) rfl rfl (.list rfl) (fits_hash _) (hst.field_cells (i := 2) (k := 0) rfl rfl ?_) ?_; (focus (simp [szs]; done)); simp only [Act.put, List.setIfInBounds_toArray, List.set_cons_succ, List.set_cons_zero])
              | (refine o_buildSlice (vs := [hval k]) Try.underlying39 ty23 (size_hval hz) rfl (.list rfl) hst rfl rfl (by simp) (by simp) (by omega) ?_; clear hst; intro B w1 hst; simp only [Act.put, List.setIfInBounds_toArray, List.set_cons_succ, List.set_cons_zero])
              | (at_builtin; go_must (refine o_append (i := 2) Try.underlying39 ty23 (by omega) (size_hval hz) rfl rfl rfl (.list rfl) hst rfl (hst.src_row (i := 0) rfl (ok1_flat (by simp [ok1_hval]))) ?_ ?_ ?_; (focus (show (acc.length + 1) * 32 ≤ 140737488355328; omega)); (focus (show acc.length + 1 ≤ 140737488355328; omega)); clear hst; intro B2 c2 w1 hst; simp only [List.set_cons_succ, List.set_cons_zero] at hst; simp only [Act.put, List.setIfInBounds_toArray, List.set_cons_succ, List.set_cons_zero])))
            have h6 := hst.pick [1] (by decide)
            refine wp_region_sched (.q 0 (.q 1 (.q 2 (.q 3 (.q 4 (.s 5 .nil)))))) (fun w1 => St w w1 No [Res.var g6 27 [hval x.id, hval x.parent, .int .i64 x.height, .int .i64 x.mark]]) (by kernel_rfl) (by kernel_rfl) (by kernel_rfl) (by decide) (fun d v c a w h => by cases d <;> exact h) ?_
            have h6 := h6.drew
            have hst := hst.drew
            refine q_field rfl rfl rfl rfl h6 fa27_2 ?_
            try simp only [Act.put, List.setIfInBounds_toArray, List.set_cons_succ, List.set_cons_zero]
            refine q_load (v := .int .i64 x.height) rfl rfl rfl rfl h6 (fits_of ty3 rfl rfl) (fun w1 h => h.field_cells (i := 0) (k := 2) rfl rfl (by simp [szs])) ?_
            try simp only [Act.put, List.setIfInBounds_toArray, List.set_cons_succ, List.set_cons_zero]
            refine q_field rfl rfl rfl rfl h6 fa27_1 ?_
            try simp only [Act.put, List.setIfInBounds_toArray, List.set_cons_succ, List.set_cons_zero]
            refine q_load (v := hval x.parent) rfl rfl rfl rfl h6 (fits_hash _) (fun w1 h => h.field_cells (i := 0) (k := 1) rfl rfl (by simp [szs])) ?_
            try simp only [Act.put, List.setIfInBounds_toArray, List.set_cons_succ, List.set_cons_zero]
            refine q_assign rfl rfl rfl rfl h6 ?_
            try simp only [Act.put, List.setIfInBounds_toArray, List.set_cons_succ, List.set_cons_zero]
            refine o_store (i := 3) (k := 0) rfl rfl rfl rfl rfl (.sched rfl rfl) hst (fits_hash _) (ok1_hval _) ?_ ?_ ?_
            (focus (simp [szs]; done))
            (focus (simp [szs]; done))
            clear hst h6
            intro w1 hst
            simp only [List.set_cons_succ, List.set_cons_zero] at hst
            refine ⟨hst.pick [1] (by decide), ?_⟩
            refine sched_nil ?_
            try simp only [Act.put, List.setIfInBounds_toArray, List.set_cons_succ, List.set_cons_zero]
            go_wp2
            go_roundg f
            case measure => omega
            case rel => exact ⟨acc ++ [k], B2, c2, x.height, x.parent, f, by simp, rfl, by simp; omega, Nat.le_refl _, by rw [HUP.out, HSP.out, Option.map_map]; congr 1; funext r; simp, HNEW.out, fun hneg => by omega, by omega, hxh, by
              have h9 := hst.pick [2, 3] (by decide)
              rw [List.map_append, flat_append, List.length_append]
              exact h9⟩
          · have hd2 : decide (above < 0) = false := decide_eq_false ha0
            have hwr : IntKind.i64.wrap (above - 1) = above - 1 := by rw [IntKind.wrap_i64]; omega
            by_cases hx1 : x.height = above - 1
            · have hd3 : (x.height == above - 1) = true := by simp [hx1]
              have HX1 := Lib.hid hx1
              clear hx1
              have hoks := hok
              rw [hfo, hlo, hd1, hd2, hd3] at hoks
              have hw : okStep l h above k = true := hoks
              rw [hw, if_pos rfl] at hsp
              have hnew := hstep hw hab
              have HSP := Lib.hid hsp
              have HNEW := Lib.hid hnew
              clear hw hfl hok hsp hstep hnew hoks
              go_wp2
              refine wp_region_sched (.q 0 (.q 1 (.q 2 (.s 3 (.q 4 (.q 5 (.q 6 (.q 7 (.q 8 (.q 9 (.q 10 (.q 11 (.q 12 (.q 13 (.q 14 (.q 15 (.q 16 (.q 17 (.q 18 (.q 19 (.q 20 (.q 21 (.q 22 (.q 23 (.q 24 (.q 25 (.s 26 .nil))))))))))))))))))))))))))) (fun w1 => St w w1 No [Res.var g6 27 [hval x.id, hval x.parent, .int .i64 x.height, .int .i64 x.mark], Res.row A acc.length c 23 32 (flat (acc.map hval)), Res.var g3 23 [hval k]]) (by kernel_rfl) (by kernel_rfl) (by kernel_rfl) (by decide) (fun d v c a w h => by cases d <;> exact h) ?_
              have hst := hst.drew
              repeat (first
                | (simp only [hd1, hd2, hd3, hwr])
                | (refine sched_skip rfl rfl hst ?_; try simp only [Act.put, List.setIfInBounds_toArray, List.set_cons_succ, List.set_cons_zero])
                | (refine sched_sskip rfl rfl hst ?_; try simp only [Act.put, List.setIfInBounds_toArray, List.set_cons_succ, List.set_cons_zero])
                | (refine sched_q rfl rfl rfl hst (fun K hK => ?_); go_big_quiet_op; first | refine hK _ ?_ | refine ⟨_, fun _ _ => rfl, hK _ ?_⟩; clear hK K)
                | (refine q_nilCheck rfl rfl rfl rfl hst ?_; simp only [Act.put, List.setIfInBounds_toArray, List.set_cons_succ, List.set_cons_zero])
                | (refine q_field rfl rfl rfl rfl hst fa27_2 ?_; simp only [Act.put, List.setIfInBounds_toArray, List.set_cons_succ, List.set_cons_zero])
                | (refine q_field rfl rfl rfl rfl hst fa54_2 ?_; simp only [Act.put, List.setIfInBounds_toArray, List.set_cons_succ, List.set_cons_zero])
                | (refine q_load (v := .int .i64 x.height) rfl rfl rfl rfl hst (fits_of ty3 rfl rfl) (fun w1 h => h.field_cells (i := 0) (k := 2) rfl rfl (by simp [szs])) ?_; simp only [Act.put, List.setIfInBounds_toArray, List.set_cons_succ, List.set_cons_zero])
                | (refine q_load (v := .int .i64 h) rfl rfl rfl rfl hst (fits_of ty3 rfl rfl) (fun w1 h => var_field (h.old_holds hV) (k := 3) rfl (by simp [szs])) ?_; simp only [Act.put, List.setIfInBounds_toArray, List.set_cons_succ, List.set_cons_zero])
                | (refine q_load (v := leafE x) rfl rfl rfl rfl hst (fits_leaf _) (fun w1 h => ?_) ?_; (focus (rw [cells_leafE]; exact h.var_cells (i := 0) rfl)); try simp only [Act.put, List.setIfInBounds_toArray, List.set_cons_succ, List.set_cons_zero])
                | (refine o_call (vs := [leafE x]) Try.func24 rfl rfl rfl rfl rfl (.sched rfl rfl) (looseE_calls x _) (by simp) ?_; rintro e w2 ⟨rfl, h3⟩; refine ⟨hst.call h3, ?_⟩; replace hst := hst.call h3; clear h3; simp only [List.nil_append] at hst; rw [hlo]; try simp only [Act.put, List.setIfInBounds_toArray, List.set_cons_succ, List.set_cons_zero]))
              refine o_call (vs := [.bool true]) Try.func36 rfl rfl rfl rfl rfl (.sched rfl rfl) (must_calls true _) (by simp) ?_
              rintro e w2 ⟨h2, h3⟩
              rcases h2 with ⟨_, rfl⟩ | ⟨h2, _⟩
              rotate_left
              · cases h2
              refine ⟨hst.call h3, ?_⟩
              replace hst := hst.call h3
              clear h3
              simp only [List.nil_append] at hst
              refine sched_nil ?_
              try simp only [Act.put, List.setIfInBounds_toArray, List.set_cons_succ, List.set_cons_zero]
              go_wp2_with (first
                | (refine o_load (v := hval k) rfl rfl (.list rfl) (fits_hash _) (hst.field_cells (i := 2) (k := 0) rfl rfl ?_) ?_; (focus (simp [szs]; done)); simp only [Act.put, List.setIfInBounds_toArray, List.set_cons_succ, List.set_cons_zero])
                | (refine o_buildSlice (vs := [hval k]) Try.underlying39 ty23 (size_hval hz) rfl (.list rfl) hst rfl rfl (by simp) (by simp) (by omega) ?_; clear hst; intro B w1 hst; simp only [Act.put, List.setIfInBounds_toArray, List.set_cons_succ, List.set_cons_zero])
                | (at_builtin; go_must (refine o_append (i := 2) Try.underlying39 ty23 (by omega) (size_hval hz) rfl rfl rfl (.list rfl) hst rfl (hst.src_row (i := 0) rfl (ok1_flat (by simp [ok1_hval]))) ?_ ?_ ?_; (focus (show (acc.length + 1) * 32 ≤ 140737488355328; omega)); (focus (show acc.length + 1 ≤ 140737488355328; omega)); clear hst; intro B2 c2 w1 hst; simp only [List.set_cons_succ, List.set_cons_zero] at hst; simp only [Act.put, List.setIfInBounds_toArray, List.set_cons_succ, List.set_cons_zero])))
              have h6 := hst.pick [1] (by decide)
              refine wp_region_sched (.q 0 (.q 1 (.q 2 (.q 3 (.q 4 (.s 5 .nil)))))) (fun w1 => St w w1 No [Res.var g6 27 [hval x.id, hval x.parent, .int .i64 x.height, .int .i64 x.mark]]) (by kernel_rfl) (by kernel_rfl) (by kernel_rfl) (by decide) (fun d v c a w h => by cases d <;> exact h) ?_
              have h6 := h6.drew
              have hst := hst.drew
              refine q_field rfl rfl rfl rfl h6 fa27_2 ?_
              try simp only [Act.put, List.setIfInBounds_toArray, List.set_cons_succ, List.set_cons_zero]
              refine q_load (v := .int .i64 x.height) rfl rfl rfl rfl h6 (fits_of ty3 rfl rfl) (fun w1 h => h.field_cells (i := 0) (k := 2) rfl rfl (by simp [szs])) ?_
              try simp only [Act.put, List.setIfInBounds_toArray, List.set_cons_succ, List.set_cons_zero]
              refine q_field rfl rfl rfl rfl h6 fa27_1 ?_
              try simp only [Act.put, List.setIfInBounds_toArray, List.set_cons_succ, List.set_cons_zero]
              refine q_load (v := hval x.parent) rfl rfl rfl rfl h6 (fits_hash _) (fun w1 h => h.field_cells (i := 0) (k := 1) rfl rfl (by simp [szs])) ?_
              try simp only [Act.put, List.setIfInBounds_toArray, List.set_cons_succ, List.set_cons_zero]
              refine q_assign rfl rfl rfl rfl h6 ?_
              try simp only [Act.put, List.setIfInBounds_toArray, List.set_cons_succ, List.set_cons_zero]
              refine o_store (i := 3) (k := 0) rfl rfl rfl rfl rfl (.sched rfl rfl) hst (fits_hash _) (ok1_hval _) ?_ ?_ ?_
              (focus (simp [szs]; done))
              (focus (simp [szs]; done))
              clear hst h6
              intro w1 hst
              simp only [List.set_cons_succ, List.set_cons_zero] at hst
              refine ⟨hst.pick [1] (by decide), ?_⟩
              refine sched_nil ?_
              try simp only [Act.put, List.setIfInBounds_toArray, List.set_cons_succ, List.set_cons_zero]
              go_wp2
              go_roundg f
              case measure => omega
              case rel => exact ⟨acc ++ [k], B2, c2, x.height, x.parent, f, by simp, rfl, by simp; omega, Nat.le_refl _, by rw [HUP.out, HSP.out, Option.map_map]; congr 1; funext r; simp, HNEW.out, fun hneg => by omega, by omega, hxh, by
                have h9 := hst.pick [2, 3] (by decide)
                rw [List.map_append, flat_append, List.length_append]
                exact h9⟩
            · have hd3 : (x.height == above - 1) = false := by simp [hx1]
              have hw := hfl false (by rw [hok, hfo, hlo, hd1, hd2, hd3]; rfl) rfl
              have HW := Lib.hid hw
              clear hw hfl hok hsp hstep
              go_wp2
              refine wp_region_sched (.q 0 (.q 1 (.q 2 (.s 3 (.q 4 (.q 5 (.q 6 (.q 7 (.q 8 (.q 9 (.q 10 (.q 11 (.q 12 (.q 13 (.q 14 (.q 15 (.q 16 (.q 17 (.q 18 (.q 19 (.q 20 (.q 21 (.q 22 (.q 23 (.q 24 (.q 25 (.s 26 .nil))))))))))))))))))))))))))) (fun w1 => St w w1 No [Res.var g6 27 [hval x.id, hval x.parent, .int .i64 x.height, .int .i64 x.mark], Res.row A acc.length c 23 32 (flat (acc.map hval)), Res.var g3 23 [hval k]]) (by kernel_rfl) (by kernel_rfl) (by kernel_rfl) (by decide) (fun d v c a w h => by cases d <;> exact h) ?_
              have hst := hst.drew
              repeat (first
                | (simp only [hd1, hd2, hd3, hwr])
                | (refine sched_skip rfl rfl hst ?_; try simp only [Act.put, List.setIfInBounds_toArray, List.set_cons_succ, List.set_cons_zero])
                | (refine sched_sskip rfl rfl hst ?_; try simp only [Act.put, List.setIfInBounds_toArray, List.set_cons_succ, List.set_cons_zero])
                | (refine sched_q rfl rfl rfl hst (fun K hK => ?_); go_big_quiet_op; first | refine hK _ ?_ | refine ⟨_, fun _ _ => rfl, hK _ ?_⟩; clear hK K)
                | (refine q_nilCheck rfl rfl rfl rfl hst ?_; simp only [Act.put, List.setIfInBounds_toArray, List.set_cons_succ, List.set_cons_zero])
                | (refine q_field rfl rfl rfl rfl hst fa27_2 ?_; simp only [Act.put, List.setIfInBounds_toArray, List.set_cons_succ, List.set_cons_zero])
                | (refine q_field rfl rfl rfl rfl hst fa54_2 ?_; simp only [Act.put, List.setIfInBounds_toArray, List.set_cons_succ, List.set_cons_zero])
                | (refine q_load (v := .int .i64 x.height) rfl rfl rfl rfl hst (fits_of ty3 rfl rfl) (fun w1 h => h.field_cells (i := 0) (k := 2) rfl rfl (by simp [szs])) ?_; simp only [Act.put, List.setIfInBounds_toArray, List.set_cons_succ, List.set_cons_zero])
                | (refine q_load (v := .int .i64 h) rfl rfl rfl rfl hst (fits_of ty3 rfl rfl) (fun w1 h => var_field (h.old_holds hV) (k := 3) rfl (by simp [szs])) ?_; simp only [Act.put, List.setIfInBounds_toArray, List.set_cons_succ, List.set_cons_zero])
                | (refine q_load (v := leafE x) rfl rfl rfl rfl hst (fits_leaf _) (fun w1 h => ?_) ?_; (focus (rw [cells_leafE]; exact h.var_cells (i := 0) rfl)); try simp only [Act.put, List.setIfInBounds_toArray, List.set_cons_succ, List.set_cons_zero])
                | (refine o_call (vs := [leafE x]) Try.func24 rfl rfl rfl rfl rfl (.sched rfl rfl) (looseE_calls x _) (by simp) ?_; rintro e w2 ⟨rfl, h3⟩; refine ⟨hst.call h3, ?_⟩; replace hst := hst.call h3; clear h3; simp only [List.nil_append] at hst; rw [hlo]; try simp only [Act.put, List.setIfInBounds_toArray, List.set_cons_succ, List.set_cons_zero]))
              refine o_call (vs := [.bool false]) Try.func36 rfl rfl rfl rfl rfl (.sched rfl rfl) (must_calls false _) (by simp) ?_
              rintro e w2 ⟨h2, h3⟩
              replace hst := hst.call h3
              rcases h2 with ⟨h2, _⟩ | ⟨_, rfl⟩
              · cases h2
              exact ⟨rfl, .inl ⟨HW.out, rfl, hst.sub (by simp)⟩⟩
end Go.Proofs.Ytonbgcehgmpnkaa
