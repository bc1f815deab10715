/- Ways, in plain terms: what TreePaths asks. -/
import Derived.Test.YtonbgcehgmpnkaaP2
set_option linter.unusedVariables false
set_option linter.unusedSimpArgs false
namespace Go.Proofs.Ytonbgcehgmpnkaa
open Go Go.RowKit HL
theorem up_chain {l : List LeafP} {root : Hash} {h : Int} (h0 : 0 ≤ h) : ∀ (f : Nat) (above : Int) (k : Hash) (ys : List Hash), upF l root h f above k = some ys → chainOk l root h ys.reverse = true ∧ (ys.reverse.getLast?).getD root = k ∧ (above < 0 ∨ above = h + ys.length + 1)
  | 0, _, _, _, hu => by simp [upF] at hu
  | f + 1, above, k, ys, hu => by
    rw [upF] at hu
    split at hu
    · rename_i hk
      split at hu
      · rename_i ha
        injection hu with hu
        subst hu
        exact ⟨by rw [List.reverse_nil, chainOk], hk.symm, by simpa using ha⟩
      · cases hu
    · split at hu
      · rename_i hs
        obtain ⟨zs, hz, rfl⟩ := Option.map_eq_some_iff.1 hu
        obtain ⟨i1, i2, i3⟩ := up_chain h0 f _ _ zs hz
        unfold okStep at hs
        simp only [Bool.and_eq_true, Bool.not_eq_true', decide_eq_true_eq, Bool.or_eq_true, beq_iff_eq] at hs
        obtain ⟨⟨⟨s1, s2⟩, s3⟩, s4⟩ := hs
        have hf : (findL l k).isSome = true := by
          unfold findL
          rw [List.find?_isSome]
          obtain ⟨x, hx, hx2⟩ := List.any_eq_true.1 s1
          exact ⟨x, hx, hx2⟩
        have hh : (leafOf l k).height = h + zs.length + 1 := by
          rcases i3 with i3 | i3
          · omega
          · exact i3
        have hl : (findL l k).getD leaf0 = leafOf l k := rfl
        unfold isLoose at s2
        simp only [Bool.or_eq_false_iff, beq_eq_false_iff_ne] at s2
        refine ⟨?_, ?_, ?_⟩
        · rw [List.reverse_cons]
          refine chainOk_snoc hf (by rw [hl]; exact s2.1) (by rw [hl]; exact s2.2) _ _ _ i1 ?_ ?_
          · rw [hl, i2]
          · rw [hl, hh, List.length_reverse]
        · simp
        · rcases s4 with s4 | s4
          · exact .inl s4
          · refine .inr ?_
            rw [List.length_cons]
            omega
      · cases hu
theorem way_chain {l : List LeafP} {root : Hash} {h : Int} (h0 : 0 ≤ h) {k : Hash} {w : List Hash} (hw : wayOf l root h k = some w) : chainOk l root h w = true ∧ (w.getLast?).getD root = k := by
  unfold wayOf at hw
  obtain ⟨ys, hy, rfl⟩ := Option.map_eq_some_iff.1 hw
  have := up_chain h0 _ _ _ _ hy
  exact ⟨this.1, this.2.1⟩
/-- A leaf whose way is longer, through another one that stands, is behind it. -/
theorem way_desc {l : List LeafP} {root : Hash} {h : Int} (h0 : 0 ≤ h) {a y : Hash} {wa wy : List Hash} (ha : wayOf l root h a = some wa) (hy : wayOf l root h y = some wy) (hl : wa.length < wy.length) (hp : wa.length = 0 ∨ wy[wa.length - 1]? = some a) : Desc l a y := by
  have c1 := way_chain h0 ha
  have c2 := way_chain h0 hy
  have hne : wy ≠ [] := fun e => by rw [e] at hl; simp at hl
  have hlast : wy.getLast? = some y := by
    have := c2.2
    rw [List.getLast?_eq_some_getLast hne] at this ⊢
    simpa using this
  have hmem : wy[wy.length - 1]? = some y := by rw [← List.getLast?_eq_getElem?]; exact hlast
  rcases hp with hp | hp
  · have : wa = [] := List.length_eq_zero_iff.1 hp
    rw [this] at c1
    have hr : root = a := c1.2
    subst hr
    exact chain_desc wy _ _ c2.1 y (List.mem_of_getElem? hmem)
  · by_cases h1 : wa.length = 0
    · have : wa = [] := List.length_eq_zero_iff.1 h1
      rw [this] at c1
      have hr : root = a := c1.2
      subst hr
      exact chain_desc wy _ _ c2.1 y (List.mem_of_getElem? hmem)
    · have c3 := chain_drop wy _ _ _ _ c2.1 hp
      refine chain_desc _ _ _ c3 y (List.mem_of_getElem? (i := wy.length - 1 - (wa.length - 1 + 1)) ?_)
      rw [List.getElem?_drop]
      rw [show wa.length - 1 + 1 + (wy.length - 1 - (wa.length - 1 + 1)) = wy.length - 1 by omega]
      exact hmem
/-- Who is gone passes not through the other root. -/
theorem gone_way {l : List LeafP} {root : Hash} {h : Int} (h0 : 0 ≤ h) {a y : Hash} {wa wy ids : List Hash} (hg : GoneIs l root h a ids) (ha : wayOf l root h a = some wa) (hy : y ∈ ids) (hw : wayOf l root h y = some wy) (hl : wa.length < wy.length) : ¬ (wa.length = 0 ∨ wy[wa.length - 1]? = some a) := fun hp => by
  have hd := way_desc h0 ha hw hl hp
  have := hg.2.2
  rw [ha, if_pos (show (some wa).isSome = true from rfl)] at this
  obtain ⟨x, hx, rfl, h1, _⟩ := (this y).1 hy
  exact h1 hd
theorem gone_find {l : List LeafP} {root : Hash} {h : Int} {a y : Hash} {wa ids : List Hash} (hg : GoneIs l root h a ids) (ha : wayOf l root h a = some wa) (hy : y ∈ ids) : (findL l y).isSome = true := by
  have := hg.2.2
  rw [ha, if_pos (show (some wa).isSome = true from rfl)] at this
  obtain ⟨x, hx, rfl, _⟩ := (this y).1 hy
  unfold findL
  rw [List.find?_isSome]
  exact ⟨x, hx, by simp⟩
theorem gone_none {l : List LeafP} {root : Hash} {h : Int} {a : Hash} {ids : List Hash} (hg : GoneIs l root h a ids) (ha : wayOf l root h a = none) : ids = [] := by
  have := hg.2.2
  rw [ha, if_neg (by simp)] at this
  exact this
theorem gone_lt {l : List LeafP} {root : Hash} {h : Int} {a x y : Hash} {ids : List Hash} (hg : GoneIs l root h a ids) {i : Nat} (h1 : ids[i]? = some x) (h2 : ids[i + 1]? = some y) : hlt x y := by
  obtain ⟨l1, e1⟩ := List.getElem?_eq_some_iff.1 h1
  obtain ⟨l2, e2⟩ := List.getElem?_eq_some_iff.1 h2
  have := List.pairwise_iff_getElem.1 hg.1 i (i + 1) l1 l2 (Nat.lt_succ_self i)
  rwa [e1, e2] at this
/-! ### what paths are -/
theorem cpl_comm : ∀ (x y : List Hash), cpl x y = cpl y x
  | [], [] => rfl
  | [], b :: y => by simp [cpl]
  | a :: x, [] => by simp [cpl]
  | a :: x, b :: y => by
    rw [cpl, cpl]
    by_cases e : a = b
    · rw [if_pos e, if_pos e.symm, cpl_comm x y]
    · rw [if_neg e, if_neg (fun h => e h.symm)]
theorem cpl_ne : ∀ (x y : List Hash), ∀ u v, x[cpl x y]? = some u → y[cpl x y]? = some v → u ≠ v
  | [], y, u, v, h1, _ => by simp at h1
  | a :: x, [], u, v, _, h2 => by simp at h2
  | a :: x, b :: y, u, v, h1, h2 => by
    rw [cpl] at h1 h2
    by_cases e : a = b
    · rw [if_pos e] at h1 h2
      exact cpl_ne x y u v (by simpa using h1) (by simpa using h2)
    · rw [if_neg e] at h1 h2
      simp at h1 h2
      rw [← h1, ← h2]
      exact e
end Go.Proofs.Ytonbgcehgmpnkaa
