import Derived.Test.YtonbgcehgmpnkaaF2
set_option linter.unusedVariables false
set_option linter.unusedSimpArgs false
namespace Go.Proofs.Ytonbgcehgmpnkaa
open Go Go.RowKit HL
/-! ### what stands, level by level (plain facts, no program) -/
theorem lev_ok {l : List LeafP} {root : Hash} {h : Int} {n : Nat} {k : Hash} (hk : k ∈ lev l root h (n + 1)) (hap : Apart l) : (leafOf l k).parent ∈ lev l root h n ∧ (leafOf l k).height = h + n + 1 ∧ isLoose (leafOf l k) = false ∧ leafOf l k ∈ l ∧ (leafOf l k).id = k := by
  have hl := lev_leaf hk
  rw [lev, List.mem_flatMap] at hk
  obtain ⟨id, hid, hk⟩ := hk
  obtain ⟨⟨x, hx, hp, he⟩, hg⟩ := mem_next1.1 hk
  have e : leafOf l k = x := by rw [← he]; exact leafOf_id hap hx
  simp only [good, Bool.and_eq_true, Bool.not_eq_true', beq_iff_eq] at hg
  exact ⟨by rw [e, hp]; exact hid, hl.2.2, hg.1, hl.1, hl.2.1⟩
theorem lev_up {l : List LeafP} {root : Hash} {h : Int} {k : Hash} {n : Nat} (h1 : leafOf l k ∈ l) (h2 : (leafOf l k).id = k) (h3 : (leafOf l k).parent ∈ lev l root h n) (h4 : (leafOf l k).height = h + n + 1) (h5 : isLoose (leafOf l k) = false) : k ∈ lev l root h (n + 1) := by
  rw [lev, List.mem_flatMap]
  refine ⟨_, h3, mem_next1.2 ⟨⟨_, h1, rfl, h2⟩, ?_⟩⟩
  simp [good, h5, h4]
theorem okStep_iff {l : List LeafP} {h above : Int} {k : Hash} (hap : Apart l) : okStep l h above k = true ↔ leafOf l k ∈ l ∧ (leafOf l k).id = k ∧ isLoose (leafOf l k) = false ∧ h < (leafOf l k).height ∧ (above < 0 ∨ (leafOf l k).height = above - 1) := by
  simp only [okStep, Bool.and_eq_true, Bool.or_eq_true, Bool.not_eq_true', decide_eq_true_eq, beq_iff_eq, List.any_eq_true]
  constructor
  · rintro ⟨⟨⟨⟨x, hx, he⟩, h2⟩, h3⟩, h4⟩
    have := leafOf_mem (l := l) (k := k) ⟨x, hx, he⟩
    exact ⟨this.1, this.2, h2, h3, h4⟩
  · rintro ⟨h1, h2, h3, h4, h5⟩
    exact ⟨⟨⟨⟨_, h1, h2⟩, h3⟩, h4⟩, h5⟩
theorem up_of_lev {l : List LeafP} {root : Hash} {h : Int} (hap : Apart l) (hr : ∀ x ∈ l, x.id ≠ root) (h0 : 0 ≤ h) : ∀ (n : Nat) (k : Hash) (f : Nat) (above : Int), k ∈ lev l root h n → n < f → (above < 0 ∨ above = h + n + 1) → (upF l root h f above k).isSome = true
  | n, k, 0, above, _, hf, _ => absurd hf (Nat.not_lt_zero _)
  | 0, k, f + 1, above, hk, hf, ha => by
    rw [lev, List.mem_singleton] at hk
    rw [upF, if_pos hk, if_pos (by omega)]
    rfl
  | n + 1, k, f + 1, above, hk, hf, ha => by
    obtain ⟨h1, h2, h3, h4, h5⟩ := lev_ok hk hap
    have hne : ¬ k = root := fun e => hr _ h4 (h5.trans e)
    rw [upF, if_neg hne, if_pos ((okStep_iff hap).2 ⟨h4, h5, h3, by omega, by omega⟩)]
    rw [Option.isSome_map]
    exact up_of_lev hap hr h0 n _ f _ h1 (by omega) (by omega)
theorem lev_of_up {l : List LeafP} {root : Hash} {h : Int} (hap : Apart l) (h0 : 0 ≤ h) : ∀ (f : Nat) (above : Int) (k : Hash), (upF l root h f above k).isSome = true → ∃ n, k ∈ lev l root h n ∧ (above < 0 ∨ above = h + n + 1)
  | 0, _, _, hs => by simp [upF] at hs
  | f + 1, above, k, hs => by
    rw [upF] at hs
    by_cases e : k = root
    · rw [if_pos e] at hs
      refine ⟨0, by rw [lev, e]; simp, ?_⟩
      by_cases h1 : above < 0 ∨ above = h + 1
      · omega
      · rw [if_neg h1] at hs; simp at hs
    · rw [if_neg e] at hs
      by_cases ho : okStep l h above k = true
      · rw [if_pos ho, Option.isSome_map] at hs
        obtain ⟨h1, h2, h3, h4, h5⟩ := (okStep_iff hap).1 ho
        obtain ⟨n, q1, q2⟩ := lev_of_up hap h0 f _ _ hs
        exact ⟨n + 1, lev_up h1 h2 q1 (by omega) h3, by omega⟩
      · rw [if_neg ho] at hs; simp at hs
theorem stands_iff {l : List LeafP} {root : Hash} {h : Int} (hok : NewOk root h l) (k : Hash) : (wayOf l root h k).isSome = true ↔ ∃ n, k ∈ lev l root h n := by
  unfold wayOf
  rw [Option.isSome_map]
  constructor
  · intro hs
    obtain ⟨n, h1, _⟩ := lev_of_up hok.2.2.2.1 hok.1 _ _ _ hs
    exact ⟨n, h1⟩
  · rintro ⟨n, hn⟩
    have := lev_few root h (List.ne_nil_of_mem hn)
    exact up_of_lev hok.2.2.2.1 hok.2.2.2.2 hok.1 n k _ _ hn (by omega) (.inl (by omega))
theorem lev_empty {l : List LeafP} {root : Hash} {h : Int} {n : Nat} (hn : lev l root h n = []) : ∀ {m : Nat}, n ≤ m → lev l root h m = []
  | 0, hm => by
    have : n = 0 := by omega
    subst this
    exact hn
  | m + 1, hm => by
    by_cases e : n = m + 1
    · subst e; exact hn
    · exact lev_nil (lev_empty hn (by omega))
theorem best_mem {l : List LeafP} {root : Hash} {h hh : Int} {b : Hash} (hb : BestIs l root h b hh) : ∃ n, b ∈ lev l root h n ∧ hh = h + n ∧ lev l root h (n + 1) = [] ∧ ∀ x ∈ lev l root h n, ¬ hlt x b := by
  obtain ⟨n, m, rest, h1, h2, rfl, h4⟩ := hb
  refine ⟨n, ?_, h4, h2, fun x hx => ?_⟩
  · rw [h1]
    rcases hmins_mem rest m with e | e
    · rw [e]; simp
    · exact List.mem_cons_of_mem _ e
  · rw [h1] at hx
    have := hmins_le rest m
    rcases List.mem_cons.1 hx with rfl | hx
    · exact this.1
    · exact this.2 x hx
theorem best_stands {l : List LeafP} {root : Hash} {h hh : Int} {b : Hash} (hok : NewOk root h l) (hb : BestIs l root h b hh) : (wayOf l root h b).isSome = true := by
  obtain ⟨n, h1, _⟩ := best_mem hb
  exact (stands_iff hok b).2 ⟨n, h1⟩
theorem lev_root {l : List LeafP} {root : Hash} {h : Int} {n : Nat} (hr : ∀ x ∈ l, x.id ≠ root) (hm : root ∈ lev l root h n) : n = 0 := by
  cases n with
  | zero => rfl
  | succ n =>
    have := lev_leaf hm
    exact absurd this.2.1 (hr _ this.1)
theorem best_root {l : List LeafP} {root : Hash} {h hh : Int} {b : Hash} (hok : NewOk root h l) (hb : BestIs l root h b hh) (e : b = root) : hh = h := by
  obtain ⟨n, h1, h2, _⟩ := best_mem hb
  rw [e] at h1
  have := lev_root hok.2.2.2.2 h1
  omega
theorem best_most {l : List LeafP} {root : Hash} {h hh : Int} {b : Hash} (hok : NewOk root h l) (hb : BestIs l root h b hh) {x : LeafP} (hx : x ∈ l) (hs : (wayOf l root h x.id).isSome = true) : x.height ≤ hh ∧ (x.height = hh → ¬ hlt x.id b) := by
  obtain ⟨n, h1, h2, h3, h4⟩ := best_mem hb
  obtain ⟨m, hm⟩ := (stands_iff hok x.id).1 hs
  cases m with
  | zero =>
    rw [lev, List.mem_singleton] at hm
    exact absurd hm (hok.2.2.2.2 x hx)
  | succ m =>
    have h5 := lev_leaf hm
    rw [leafOf_id hok.2.2.2.1 hx] at h5
    have hle : m + 1 ≤ n := by
      rcases Nat.lt_or_ge n (m + 1) with hlt | hge
      · have := lev_empty h3 (m := m + 1) (by omega)
        rw [this] at hm
        cases hm
      · exact hge
    refine ⟨by omega, fun e => h4 _ ?_⟩
    have : m + 1 = n := by omega
    rw [← this]
    exact hm
theorem best_one {l l' : List LeafP} {root : Hash} {h hh hh' : Int} {b b' : Hash} (he : ∀ n k, k ∈ lev l root h n ↔ k ∈ lev l' root h n) (hb : BestIs l root h b hh) (hb' : BestIs l' root h b' hh') : b' = b ∧ hh' = hh := by
  obtain ⟨n, h1, h2, h3, h4⟩ := best_mem hb
  obtain ⟨m, q1, q2, q3, q4⟩ := best_mem hb'
  have hnm : n = m := by
    rcases Nat.lt_trichotomy n m with hlt | e | hgt
    · have := (he m b').2 q1
      rw [lev_empty h3 (m := m) (by omega)] at this
      cases this
    · exact e
    · have := (he n b).1 h1
      rw [lev_empty q3 (m := n) (by omega)] at this
      cases this
  subst hnm
  refine ⟨?_, by omega⟩
  rcases hlt_tri b b' with c | c | c
  · exact absurd c (q4 b ((he n b).1 h1))
  · exact c.symm
  · exact absurd c (h4 b' ((he n b').2 q1))
theorem lev_perm {l l' : List LeafP} {root : Hash} {h : Int} (hap : Apart l) (hp : l.Perm l') : ∀ n k, k ∈ lev l root h n ↔ k ∈ lev l' root h n := by
  have hap' : Apart l' := (hp.map _).nodup_iff.1 hap
  have leaf : ∀ k, (∃ x ∈ l, x.id = k) → leafOf l k = leafOf l' k := fun k ⟨x, hx, he⟩ => by
    rw [← he, leafOf_id hap hx, leafOf_id hap' (hp.mem_iff.1 hx)]
  intro n
  induction n with
  | zero => intro k; rfl
  | succ n ih =>
    intro k
    rw [lev, lev, List.mem_flatMap, List.mem_flatMap]
    constructor
    · rintro ⟨id, h1, h2⟩
      obtain ⟨⟨x, hx, hp', he⟩, hg⟩ := mem_next1.1 h2
      refine ⟨id, (ih id).1 h1, mem_next1.2 ⟨⟨x, hp.mem_iff.1 hx, hp', he⟩, ?_⟩⟩
      unfold good at hg ⊢
      rw [← leaf k ⟨x, hx, he⟩]
      exact hg
    · rintro ⟨id, h1, h2⟩
      obtain ⟨⟨x, hx, hp', he⟩, hg⟩ := mem_next1.1 h2
      refine ⟨id, (ih id).2 h1, mem_next1.2 ⟨⟨x, hp.mem_iff.2 hx, hp', he⟩, ?_⟩⟩
      unfold good at hg ⊢
      rw [leaf k ⟨x, hp.mem_iff.2 hx, he⟩]
      exact hg
theorem new_perm {l l' : List LeafP} {root : Hash} {h : Int} (hp : l.Perm l') (hok : NewOk root h l) : NewOk root h l' :=
  ⟨hok.1, hok.2.1, by rw [← hp.length_eq]; exact hok.2.2.1, (hp.map _).nodup_iff.1 hok.2.2.2.1, fun x hx => hok.2.2.2.2 x (hp.mem_iff.2 hx)⟩
theorem turn_perm (l : List LeafP) (k : Nat) : l.Perm (l.drop k ++ l.take k) := by
  conv => lhs; rw [← List.take_append_drop k l]
  exact List.perm_append_comm
theorem leaf_more {l : List LeafP} {more : LeafP} {k : Hash} (hk : ∃ x ∈ l, x.id = k) : leafOf (l ++ [more]) k = leafOf l k := by
  unfold leafOf
  rw [List.find?_append]
  cases hf : l.find? (fun x => decide (x.id = k)) with
  | some x => rfl
  | none =>
    obtain ⟨x, hx, he⟩ := hk
    have := List.find?_eq_none.1 hf x hx
    simp [he] at this
theorem lev_more {l : List LeafP} {more : LeafP} {root : Hash} {h : Int} : ∀ n k, k ∈ lev l root h n → k ∈ lev (l ++ [more]) root h n := by
  intro n
  induction n with
  | zero => intro k hk; exact hk
  | succ n ih =>
    intro k hk
    rw [lev, List.mem_flatMap] at hk ⊢
    obtain ⟨id, h1, h2⟩ := hk
    obtain ⟨⟨x, hx, hp', he⟩, hg⟩ := mem_next1.1 h2
    refine ⟨id, ih id h1, mem_next1.2 ⟨⟨x, List.mem_append_left _ hx, hp', he⟩, ?_⟩⟩
    unfold good at hg ⊢
    rw [leaf_more ⟨x, hx, he⟩]
    exact hg
theorem lev_less {l : List LeafP} {more : LeafP} {root : Hash} {h : Int} (hno : ∀ n, ¬ more.id ∈ lev (l ++ [more]) root h n) : ∀ n k, k ∈ lev (l ++ [more]) root h n → k ∈ lev l root h n := by
  intro n
  induction n with
  | zero => intro k hk; exact hk
  | succ n ih =>
    intro k hk
    have hk0 := hk
    rw [lev, List.mem_flatMap] at hk ⊢
    obtain ⟨id, h1, h2⟩ := hk
    obtain ⟨⟨x, hx, hp', he⟩, hg⟩ := mem_next1.1 h2
    rcases List.mem_append.1 hx with hx | hx
    · refine ⟨id, ih id h1, mem_next1.2 ⟨⟨x, hx, hp', he⟩, ?_⟩⟩
      unfold good at hg ⊢
      rw [← leaf_more (more := more) ⟨x, hx, he⟩]
      exact hg
    · rw [List.mem_singleton] at hx
      subst hx
      exact absurd (he ▸ hk0) (hno (n + 1))
/-- A leaf more. -/
theorem best_more {l : List LeafP} {more : LeafP} {root : Hash} {h hh hh' : Int} {b b' : Hash} (hok' : NewOk root h (l ++ [more])) (hb : BestIs l root h b hh) (hb' : BestIs (l ++ [more]) root h b' hh') (hne : ¬ (b' = b ∧ hh' = hh)) :
    (wayOf (l ++ [more]) root h more.id).isSome = true ∧ (hh' > hh ∨ hh' = hh ∧ hlt b' b) := by
  constructor
  · refine (stands_iff hok' more.id).2 ?_
    rcases Classical.em (∃ n, more.id ∈ lev (l ++ [more]) root h n) with hh | hno
    · exact hh
    · exfalso
      have hno' : ∀ n, ¬ more.id ∈ lev (l ++ [more]) root h n := fun n hn => hno ⟨n, hn⟩
      exact hne (best_one (fun n k => ⟨lev_more n k, lev_less hno' n k⟩) hb hb')
  · obtain ⟨n, h1, h2, h3, h4⟩ := best_mem hb
    obtain ⟨m, q1, q2, q3, q4⟩ := best_mem hb'
    have h1' := lev_more (more := more) n b h1
    have hnm : n ≤ m := by
      rcases Nat.lt_or_ge m n with hlt | hge
      · rw [lev_empty q3 (m := n) (by omega)] at h1'
        cases h1'
      · exact hge
    by_cases e : n = m
    · subst e
      refine .inr ⟨by omega, ?_⟩
      rcases hlt_tri b' b with c | c | c
      · exact c
      · exact absurd ⟨c, by omega⟩ hne
      · exact absurd c (q4 b h1')
    · exact .inl (by omega)
theorem bltS_hash (a b : Hash) : bltS (ba a.toList) (ba b.toList) ↔ hlt a b := by
  unfold bltS hlt
  rw [ba_data, ba_data]
end Go.Proofs.Ytonbgcehgmpnkaa
