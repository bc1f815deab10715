import Derived.Test.YtonbgcehgmpnkaaTf
import Derived.Deep.LoopGhost
set_option linter.unusedVariables false
set_option linter.unusedSimpArgs false
namespace Go.Proofs.Ytonbgcehgmpnkaa
open Go Go.RowKit HL BigFrame
/-! ### the levels of a tree -/
def kidsIds (l : List LeafP) (id : Hash) : List Hash := (l.filter fun x => x.parent = id).map (·.id)
def isLoose (x : LeafP) : Bool := x.mark == 1 || x.mark == 4
def leafOf (l : List LeafP) (k : Hash) : LeafP := (l.find? fun x => x.id = k).getD leaf0
def good (l : List LeafP) (h : Int) (k : Hash) : Bool := !isLoose (leafOf l k) && ((leafOf l k).height == h + 1)
def next1 (l : List LeafP) (h : Int) (id : Hash) : List Hash := (kidsIds l id).filter (good l h)
def lev (l : List LeafP) (root : Hash) (h : Int) : Nat → List Hash
  | 0 => [root]
  | n + 1 => (lev l root h n).flatMap (next1 l (h + n))
theorem leafOf_mem {l : List LeafP} {k : Hash} (h : ∃ x ∈ l, x.id = k) : leafOf l k ∈ l ∧ (leafOf l k).id = k := by
  unfold leafOf
  cases hf : l.find? fun x => x.id = k with
  | none =>
    obtain ⟨x, hx, he⟩ := h
    have := List.find?_eq_none.1 hf x hx
    simp [he] at this
  | some x =>
    have h1 := List.mem_of_find?_eq_some hf
    have h2 := List.find?_some hf
    exact ⟨h1, by simpa using h2⟩
theorem apart_inj {l : List LeafP} (h : Apart l) {x y : LeafP} (hx : x ∈ l) (hy : y ∈ l) (e : x.id = y.id) : x = y := by
  obtain ⟨i, hi, rfl⟩ := List.mem_iff_getElem.1 hx
  obtain ⟨j, hj, rfl⟩ := List.mem_iff_getElem.1 hy
  have hn := List.pairwise_iff_getElem.1 h
  by_cases hij : i = j
  · subst hij; rfl
  · exfalso
    rcases Nat.lt_or_gt_of_ne hij with hlt | hgt
    · exact hn i j (by simpa using hi) (by simpa using hj) hlt (by simp [e])
    · exact hn j i (by simpa using hj) (by simpa using hi) hgt (by simp [e])
theorem leafOf_id {l : List LeafP} (h : Apart l) {x : LeafP} (hx : x ∈ l) : leafOf l x.id = x := by
  have := leafOf_mem (l := l) (k := x.id) ⟨x, hx, rfl⟩
  exact apart_inj h this.1 hx this.2
theorem mem_next1 {l : List LeafP} {h : Int} {id k : Hash} : k ∈ next1 l h id ↔ (∃ x ∈ l, x.parent = id ∧ x.id = k) ∧ good l h k = true := by
  unfold next1 kidsIds
  rw [List.mem_filter, List.mem_map]
  constructor
  · rintro ⟨⟨x, hx, he⟩, hg⟩
    rw [List.mem_filter] at hx
    exact ⟨⟨x, hx.1, by simpa using hx.2, he⟩, hg⟩
  · rintro ⟨⟨x, hx, hp, he⟩, hg⟩
    exact ⟨⟨x, List.mem_filter.2 ⟨hx, by simpa using hp⟩, he⟩, hg⟩
/-- What lies on a level behind the root's. -/
theorem lev_leaf {l : List LeafP} {root : Hash} {h : Int} {n : Nat} {k : Hash} (hk : k ∈ lev l root h (n + 1)) : leafOf l k ∈ l ∧ (leafOf l k).id = k ∧ (leafOf l k).height = h + n + 1 := by
  rw [lev, List.mem_flatMap] at hk
  obtain ⟨id, _, hk⟩ := hk
  obtain ⟨⟨x, hx, _, he⟩, hg⟩ := mem_next1.1 hk
  have h1 := leafOf_mem (l := l) (k := k) ⟨x, hx, he⟩
  refine ⟨h1.1, h1.2, ?_⟩
  simp only [good, Bool.and_eq_true, beq_iff_eq] at hg
  exact hg.2
theorem nodup_filter_map {l : List LeafP} (h : Apart l) (id : Hash) : (kidsIds l id).Nodup := by
  unfold kidsIds
  have : ((l.filter fun x => x.parent = id).map (·.id)).Sublist (l.map (·.id)) := (List.filter_sublist).map _
  exact this.nodup h
theorem lev_nodup {l : List LeafP} (hap : Apart l) (root : Hash) (h : Int) : ∀ n, (lev l root h n).Nodup
  | 0 => by simp [lev]
  | n + 1 => by
    have ih := lev_nodup hap root h n
    rw [lev]
    have gen : ∀ (ids : List Hash), ids.Nodup → (ids.flatMap (next1 l (h + n))).Nodup := by
      intro ids
      induction ids with
      | nil => intro _; simp
      | cons id ids ih2 =>
        intro hn
        rw [List.nodup_cons] at hn
        rw [List.flatMap_cons, List.nodup_append]
        refine ⟨(nodup_filter_map hap id).filter _, ih2 hn.2, ?_⟩
        intro a ha b hb e
        subst e
        obtain ⟨⟨x, hx, hp, he⟩, _⟩ := mem_next1.1 ha
        obtain ⟨id2, hid2, hb⟩ := List.mem_flatMap.1 hb
        obtain ⟨⟨y, hy, hq, he2⟩, _⟩ := mem_next1.1 hb
        have := apart_inj hap hx hy (he.trans he2.symm)
        subst this
        rw [hp] at hq
        subst hq
        exact hn.1 hid2
    exact gen _ ih
theorem nodup_le : ∀ (a b : List Hash), a.Nodup → (∀ x ∈ a, x ∈ b) → a.length ≤ b.length
  | [], b, _, _ => Nat.zero_le _
  | x :: a, b, hn, hs => by
    rw [List.nodup_cons] at hn
    have hx := hs x (by simp)
    have h1 := nodup_le a (b.erase x) hn.2 (fun y hy => by
      refine (List.mem_erase_of_ne ?_).2 (hs y (by simp [hy]))
      rintro rfl
      exact hn.1 hy)
    rw [List.length_erase_of_mem hx] at h1
    have := List.length_pos_of_mem hx
    simp
    omega
theorem lev_len {l : List LeafP} (hap : Apart l) (root : Hash) (h : Int) (n : Nat) : (lev l root h n).length ≤ l.length + 1 := by
  cases n with
  | zero => simp [lev]
  | succ n =>
    have := nodup_le _ (l.map (·.id)) (lev_nodup hap root h (n + 1)) (fun k hk => by
      have := lev_leaf hk
      exact List.mem_map.2 ⟨_, this.1, this.2.1⟩)
    rw [List.length_map] at this
    omega
theorem lev_nil {l : List LeafP} {root : Hash} {h : Int} {n : Nat} (hn : lev l root h n = []) : lev l root h (n + 1) = [] := by rw [lev, hn]; rfl
theorem lev_few {l : List LeafP} (root : Hash) (h : Int) {n : Nat} (hn : lev l root h n ≠ []) : n ≤ l.length := by
  have gen : ∀ n, lev l root h n ≠ [] → ∃ ks : List Hash, ks.length = n ∧ ks.Nodup ∧ (∀ k ∈ ks, leafOf l k ∈ l ∧ (leafOf l k).id = k ∧ (leafOf l k).height ≤ h + n) := by
    intro n
    induction n with
    | zero => intro _; exact ⟨[], rfl, by simp, by simp⟩
    | succ n ih =>
      intro hne
      obtain ⟨ks, h1, h2, h3⟩ := ih (fun e => hne (lev_nil e))
      obtain ⟨k, hk⟩ := List.exists_mem_of_ne_nil _ hne
      have hl := lev_leaf hk
      refine ⟨k :: ks, by simp [h1], List.nodup_cons.2 ⟨fun hm => ?_, h2⟩, ?_⟩
      · have := (h3 k hm).2.2
        omega
      · intro q hq
        rcases List.mem_cons.1 hq with rfl | hq
        · exact ⟨hl.1, hl.2.1, by omega⟩
        · have := h3 q hq
          exact ⟨this.1, this.2.1, by omega⟩
  obtain ⟨ks, h1, h2, h3⟩ := gen n hn
  have := nodup_le ks (l.map (·.id)) h2 (fun k hk => List.mem_map.2 ⟨_, (h3 k hk).1, (h3 k hk).2.1⟩)
  rw [List.length_map] at this
  omega
/-! ### a tree that is read -/
theorem getD_kvE (o : Option KV) : (o.map kvE).getD (.slice none 0 0) = kvE (o.getD kv0) := by cases o <;> rfl
theorem tree_kids {w : World} {g gl gk : Nat} {xs : List (Hash × KV × Nat)} {root : Hash} {h : Int} {l : List LeafP} (ht : ∀ r ∈ treeL g gl gk xs root h l, r.holds w) (hk : KidsOf xs l) (id : Hash) :
    ∃ A c, (mlook xs id).getD kv0 = (A, c, kidsIds l id) ∧ RdS w A (flat ((kidsIds l id).map hval)) := by
  have hlook := hk.look id
  cases hm : mlook xs id with
  | none =>
    rw [hm] at hlook
    simp only [Option.getD_none, kv0] at hlook
    refine ⟨none, 0, ?_, ?_⟩
    · rw [Option.getD_none, kidsIds, ← hlook]; rfl
    · left
      rw [kidsIds, ← hlook]
      unfold flat
      rfl
  | some v =>
    rw [hm] at hlook
    obtain ⟨A, c, ids⟩ := v
    simp only [Option.getD_some] at hlook
    refine ⟨A, c, by rw [Option.getD_some, kidsIds, ← hlook], ?_⟩
    obtain ⟨j, b, _, hj⟩ := idx_some hm
    have hr := ht _ (List.mem_cons_of_mem _ (List.mem_cons_of_mem _ (List.mem_cons_of_mem _ (List.mem_of_getElem? (krows_get xs hj)))))
    have := row_reads hr
    rw [kidsIds, ← hlook]
    exact this
end Go.Proofs.Ytonbgcehgmpnkaa
