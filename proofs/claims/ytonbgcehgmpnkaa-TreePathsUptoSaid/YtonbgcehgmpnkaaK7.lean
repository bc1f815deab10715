/- Small facts of lists that walks end with. My own text; it names no program. -/
import Derived.Test.YtonbgcehgmpnkaaK6
set_option linter.unusedVariables false
set_option linter.unusedSimpArgs false
namespace Go.Proofs.Ytonbgcehgmpnkaa
namespace HL
open Go Go.RowKit
theorem opt_eq {α : Type} {a : Option α} {x y : α} (h1 : a = some x) (h2 : a = some y) : x = y := by rw [h1] at h2; injection h2
theorem take_get {α : Type} {l : List α} {k : Nat} {x : α} (h : l[k]? = some x) : l.take (k + 1) = l.take k ++ [x] := by
  obtain ⟨hk, rfl⟩ := List.getElem?_eq_some_iff.1 h
  exact List.take_succ_eq_append_getElem hk
theorem all_take {α : Type} {p : α → Prop} {l : List α} {k : Nat} {x : α} (hx : l[k]? = some x) (h : ∀ y ∈ l.take k, p y) (h1 : p x) : ∀ y ∈ l.take (k + 1), p y := by
  rw [take_get hx]
  intro y hy
  rcases List.mem_append.1 hy with hy | hy
  · exact h y hy
  · rw [List.mem_singleton.1 hy]; exact h1
theorem take_all {α : Type} {l : List α} {k : Nat} (h : ¬ ((k : Nat) : Int) < (l.length : Int)) : l.take k = l := List.take_of_length_le (by omega)
theorem find_at {α : Type} {p : α → Bool} {l : List α} {k : Nat} {x : α} (hx : l[k]? = some x) (h : ∀ y ∈ l.take k, ¬ p y = true) (h1 : p x = true) : l.find? p = some x := by
  obtain ⟨hk, rfl⟩ := List.getElem?_eq_some_iff.1 hx
  conv => lhs; rw [← List.take_append_drop k l]
  rw [List.find?_append, List.find?_eq_none.2 h, List.drop_eq_getElem_cons hk, List.find?_cons, h1]
  rfl
theorem find_no {α : Type} {p : α → Bool} {l : List α} (h : ∀ y ∈ l, ¬ p y = true) : l.find? p = none := List.find?_eq_none.2 h
theorem drop_get {α : Type} {l : List α} {k : Nat} {x : α} (h : l[k]? = some x) : l.drop k = x :: l.drop (k + 1) := by
  obtain ⟨hk, rfl⟩ := List.getElem?_eq_some_iff.1 h
  exact List.drop_eq_getElem_cons hk
end HL
end Go.Proofs.Ytonbgcehgmpnkaa
