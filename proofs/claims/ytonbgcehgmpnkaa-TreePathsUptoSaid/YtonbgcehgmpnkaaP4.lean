/- Paths, in plain terms. -/
import Derived.Test.YtonbgcehgmpnkaaP3
set_option linter.unusedVariables false
set_option linter.unusedSimpArgs false
namespace Go.Proofs.Ytonbgcehgmpnkaa
open Go Go.RowKit HL
/-- What both paths tell. -/
structure PF (l : List LeafP) (root : Hash) (h : Int) (a b : Hash) (d1 u1 d2 u2 : List Hash) (ok1 ok2 : Bool) : Prop where
  ok : ok1 = ((wayOf l root h a).isSome && (wayOf l root h b).isSome)
  ok2 : ok2 = ok1
  no : ok1 = false → d1 = [] ∧ u1 = []
  yes : ok1 = true → ∃ wa wb, wayOf l root h a = some wa ∧ wayOf l root h b = some wb ∧ d1 = (wa.drop (cpl wa wb)).reverse ∧ u1 = wb.drop (cpl wa wb) ∧ d2 = (wb.drop (cpl wa wb)).reverse ∧ u2 = wa.drop (cpl wa wb)
theorem path_facts {l : List LeafP} {root : Hash} {h : Int} {a b : Hash} {d1 u1 d2 u2 : List Hash} {ok1 ok2 : Bool} (hp1 : ok1 = true ∧ pathOf l root h a b = some (d1, u1) ∨ ok1 = false ∧ pathOf l root h a b = none ∧ d1 = [] ∧ u1 = []) (hp2 : ok2 = true ∧ pathOf l root h b a = some (d2, u2) ∨ ok2 = false ∧ pathOf l root h b a = none ∧ d2 = [] ∧ u2 = []) : PF l root h a b d1 u1 d2 u2 ok1 ok2 := by
  cases ha : wayOf l root h a with
  | none =>
    have e1 := pathOf_none (b := b) (.inl ha)
    have e2 : pathOf l root h b a = none := pathOf_none (.inr ha)
    rw [e1] at hp1
    rw [e2] at hp2
    rcases hp1 with ⟨_, hp1⟩ | ⟨rfl, _, rfl, rfl⟩
    · cases hp1
    rcases hp2 with ⟨_, hp2⟩ | ⟨rfl, _, rfl, rfl⟩
    · cases hp2
    exact ⟨by rw [ha]; rfl, rfl, fun _ => ⟨rfl, rfl⟩, fun e => by cases e⟩
  | some wa =>
    cases hb : wayOf l root h b with
    | none =>
      have e1 : pathOf l root h a b = none := pathOf_none (.inr hb)
      have e2 : pathOf l root h b a = none := pathOf_none (.inl hb)
      rw [e1] at hp1
      rw [e2] at hp2
      rcases hp1 with ⟨_, hp1⟩ | ⟨rfl, _, rfl, rfl⟩
      · cases hp1
      rcases hp2 with ⟨_, hp2⟩ | ⟨rfl, _, rfl, rfl⟩
      · cases hp2
      exact ⟨by rw [ha, hb]; rfl, rfl, fun _ => ⟨rfl, rfl⟩, fun e => by cases e⟩
    | some wb =>
      rw [pathOf_some ha hb] at hp1
      rw [pathOf_some hb ha] at hp2
      rcases hp1 with ⟨rfl, hp1⟩ | ⟨_, hp1, _⟩
      · rcases hp2 with ⟨rfl, hp2⟩ | ⟨_, hp2, _⟩
        · injection hp1 with hp1
          injection hp2 with hp2
          injection hp1 with h1 h2
          injection hp2 with h3 h4
          rw [cpl_comm wb wa] at h3 h4
          exact ⟨by rw [ha, hb]; rfl, rfl, fun e => (by cases e), fun _ => ⟨wa, wb, ha, hb, h1.symm, h2.symm, h3.symm, h4.symm⟩⟩
        · cases hp2
      · cases hp1
/-- Where the paths' parts lie. -/
theorem drop_rev {x : List Hash} {n i : Nat} {y : Hash} (h : ((x.drop n).reverse)[i]? = some y) : x[x.length - 1 - i]? = some y := by
  have hi := (List.getElem?_eq_some_iff.1 h).1
  simp only [List.length_reverse, List.length_drop] at hi
  rw [List.getElem?_reverse (by simpa using hi), List.getElem?_drop, List.length_drop] at h
  rwa [show n + (x.length - n - 1 - i) = x.length - 1 - i by omega] at h
theorem get_uniq {x : List Hash} {i j : Nat} {u v : Hash} (hi : x[i]? = some u) (hj : x[j]? = some v) (e : i = j) : u = v := by
  subst e
  rw [hi] at hj
  injection hj
end Go.Proofs.Ytonbgcehgmpnkaa
