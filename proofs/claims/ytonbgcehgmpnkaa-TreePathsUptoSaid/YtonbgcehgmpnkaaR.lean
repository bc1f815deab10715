/- HEAP LIBRARY, second part: parts of slices. My own text; it names no program. -/
import Derived.Test.YtonbgcehgmpnkaaH
set_option linter.unusedVariables false
set_option linter.unusedSimpArgs false
set_option linter.unusedSectionVars false
namespace Go.Proofs.Ytonbgcehgmpnkaa
namespace HL
open Go Go.RowKit
theorem St.repl {w0 w : World} {M : Nat → Prop} {L : List Res} (h : St w0 w M L) {i : Nat} {r r' : Res} (hi : L[i]? = some r) (hr : r'.holds w) (hf : ∀ b, r'.fp b → r.fp b) : St w0 w M (L.set i r') := by
  refine ⟨h.os, h.tape, h.output, h.drawn, h.size, h.keep, fun s hs => ?_, ?_, fun s hs b hb => ?_⟩
  · rcases List.mem_or_eq_of_mem_set hs with hs | rfl
    · exact h.res s hs
    · exact hr
  · rw [List.pairwise_iff_getElem]
    intro j k hj hk hjk b hb hb'
    simp only [List.length_set] at hj hk
    have key : ∀ q (hq : q < L.length) (b : Nat), ((L.set i r')[q]'(by simpa using hq)).fp b → L[q].fp b := fun q hq b hb => by
      by_cases e : i = q
      · subst e
        rw [List.getElem_set_self] at hb
        have := (List.getElem?_eq_some_iff.1 hi).2
        rw [this]
        exact hf b hb
      · rwa [List.getElem_set_ne e] at hb
    exact (List.pairwise_iff_getElem.1 h.dis) j k hj hk hjk b (key j hj b hb) (key k hk b hb')
  · rcases List.mem_or_eq_of_mem_set hs with hs | rfl
    · exact h.own s hs b hb
    · exact h.own r (List.mem_of_getElem? hi) b (hf b hb)
/-- Where the rest of a slice lies. -/
def tailA (A : Option Addr) (c i sz : Nat) : Option Addr := if c = i then A else A.map (·.add (i * sz))
theorem obl_tailA (A : Option Addr) (c i sz : Nat) : obl (tailA A c i sz) = obl A := by
  unfold tailA obl
  split
  · rfl
  · cases A <;> simp [block_of_add]
theorem row_tail {w : World} {A : Option Addr} {n c i : Nat} {e : TypeId} {sz : Nat} {vs : List Value} (hsz : 0 < sz) (hs : ∀ v ∈ vs, v.cells.size = sz) (h : (Res.row A n c e sz (flat vs)).holds w) (hi : i ≤ n) : (Res.row (tailA A c i sz) (n - i) (c - i) e sz (flat (vs.drop i))).holds w := by
  have h' : seg w e sz A n c (flat vs) := by
    have := h
    unfold Res.row at this
    exact this
  obtain ⟨h1, h2, h3, h4⟩ := h'
  have hlen : vs.length = n := by
    rw [length_flat, szs_const hs] at h1
    exact Nat.eq_of_mul_eq_mul_right hsz h1
  have hs2 : ∀ v ∈ vs.drop i, v.cells.size = sz := fun v hv => hs v (List.mem_of_mem_drop hv)
  have hs1 : ∀ v ∈ vs.take i, v.cells.size = sz := fun v hv => hs v (List.mem_of_mem_take hv)
  have l2 : (flat (vs.drop i)).length = (n - i) * sz := by rw [length_flat, szs_const hs2, List.length_drop, hlen]
  have l1 : (flat (vs.take i)).length = i * sz := by rw [length_flat, szs_const hs1, List.length_take, hlen, Nat.min_eq_left hi]
  have hsplit : flat vs = flat (vs.take i) ++ flat (vs.drop i) := by rw [← flat_append, List.take_append_drop]
  have goal : seg w e sz (tailA A c i sz) (n - i) (c - i) (flat (vs.drop i)) := by
    refine ⟨l2, by omega, by omega, ?_⟩
    rcases h4 with ⟨rfl, rfl, rfl⟩ | ⟨g, off, pre, post, rfl, hb, hp, hc⟩
    · left
      have : i = 0 := by omega
      subst this
      exact ⟨rfl, rfl, rfl⟩
    · right
      unfold tailA
      by_cases e1 : c = i
      · rw [if_pos e1]
        have hn : n = i := by omega
        have hnil : flat (vs.drop i) = [] := by
          rw [← List.length_eq_zero_iff, l2, hn]; simp
        refine ⟨g, off, pre, flat vs ++ post, rfl, ?_, hp, ?_⟩
        · rw [hnil, hb]; simp
        · rw [hnil, e1]; simp
      · rw [if_neg e1]
        refine ⟨g, off + i * sz, pre ++ flat (vs.take i), post, by simp [add_lit0], ?_, by simp [hp, l1], ?_⟩
        · rw [hb, hsplit]; simp
        · rw [Nat.sub_mul]
          have : (flat vs ++ post).length = i * sz + (flat (vs.drop i) ++ post).length := by
            rw [hsplit]; simp [l1, Nat.add_assoc]
          omega
  unfold Res.row
  exact goal
theorem rds_tail {w : World} {A : Option Addr} {n c i : Nat} {sz : Nat} {vs : List Value} (hsz : 0 < sz) (hs : ∀ v ∈ vs, v.cells.size = sz) (h : RdS w A (flat vs)) (hn : vs.length = n) (hc : n ≤ c) (hi : i ≤ n) : RdS w (tailA A c i sz) (flat (vs.drop i)) := by
  by_cases e : i = n
  · left
    rw [e, ← hn, List.drop_length]
    unfold flat
    rfl
  · rcases h with h | ⟨ad, rfl, h⟩
    · exfalso
      have h9 := congrArg List.length h
      rw [length_flat, szs_const hs, hn, List.length_nil] at h9
      have := Nat.mul_pos (show 0 < n by omega) hsz
      omega
    · right
      refine ⟨ad.add (i * sz), ?_, ?_⟩
      · unfold tailA
        rw [if_neg (by omega)]
        rfl
      · have hsplit : flat vs = flat (vs.take i) ++ flat (vs.drop i) := by rw [← flat_append, List.take_append_drop]
        rw [hsplit] at h
        refine h.right ?_
        rw [length_flat, szs_const (fun v hv => hs v (List.mem_of_mem_take hv)), List.length_take, hn, Nat.min_eq_left hi]
theorem rds_take {w : World} {A : Option Addr} {i : Nat} {vs : List Value} (h : RdS w A (flat vs)) : RdS w A (flat (vs.take i)) := by
  rcases h with h | ⟨ad, rfl, h⟩
  · left
    have : flat (vs.take i) ++ flat (vs.drop i) = [] := by rw [← flat_append, List.take_append_drop]; exact h
    exact (List.append_eq_nil_iff.1 this).1
  · right
    refine ⟨ad, rfl, ?_⟩
    have hsplit : flat vs = flat (vs.take i) ++ flat (vs.drop i) := by rw [← flat_append, List.take_append_drop]
    rw [hsplit] at h
    exact h.left
theorem add_zero (a : Addr) : a.add 0 = a := by unfold Addr.add; split <;> simp_all
section
variable {P : Program} {ops : Array Oper} {Q : Exit → Act → World → Prop} {S : World → Prop} {σ : Plan} {i : Nat}
variable {a : Act} {w : World} {o : Oper} {G : Prop} {K : Act → World → Prop} {x y : Operand}
theorem run_sliceLo {t e : TypeId} {agg : Bool} {sz bytes n c : Nat} {z : Value} {A : Option Addr} {k : IntKind} {j : Int} (hu : P.underlying t = some (.slice e)) (hT : TyIs P e agg sz z bytes) (h0 : 0 ≤ j) (h1 : j ≤ n) (w : World) :
    (Instr.sliceAt t (.slice A n c) (some (.int k j)) none none).run P w = .ok (.slice (tailA A c j.toNat sz) (n - j.toNat) (c - j.toNat)) w := by
  have hs := hT.size w
  unfold Instr.sliceAt
  simp only [Sem.run_bind, run_underlying hu, Result.andThen]
  unfold Instr.slice
  simp only [Sem.run_bind, run_underlying hu, Result.andThen]
  simp [Instr.sliceBounds, Instr.sliceBound, asIntOf, h0, h1, hs, Sem.run_bind, Result.andThen, tailA]
theorem run_sliceHi {t e : TypeId} {agg : Bool} {sz bytes n c : Nat} {z : Value} {A : Option Addr} {k : IntKind} {j : Int} (hu : P.underlying t = some (.slice e)) (hT : TyIs P e agg sz z bytes) (h0 : 0 ≤ j) (h1 : j ≤ c) (w : World) :
    (Instr.sliceAt t (.slice A n c) none (some (.int k j)) none).run P w = .ok (.slice A j.toNat c) w := by
  have hs := hT.size w
  unfold Instr.sliceAt
  simp only [Sem.run_bind, run_underlying hu, Result.andThen]
  unfold Instr.slice
  simp only [Sem.run_bind, run_underlying hu, Result.andThen]
  have e1 : (if c = 0 then A else A.map fun x => x.add 0) = A := by
    split
    · rfl
    · cases A <;> simp [add_zero]
  simp [Instr.sliceBounds, Instr.sliceBound, asIntOf, h0, h1, hs, Sem.run_bind, Result.andThen, e1]
theorem q_sliceLo {t e : TypeId} {agg : Bool} {sz bytes n c : Nat} {z : Value} {A : Option Addr} {k : IntKind} {j : Int} (hu : P.underlying t = some (.slice e)) (hT : TyIs P e agg sz z bytes) (ho0 : ops.toList[i]? = some o) (hop : o.op = .slice t x (some y) none none) (hx : opv a x = some (.slice A n c)) (hy : opv a y = some (.int k j))
    (hw : Region.wanted o (yielded ops a.tmps) = true) (hS : S w) (h0 : 0 ≤ j) (h1 : j ≤ n) (h : wpSched P ops Q S σ (a.put o.dst (.slice (tailA A c j.toNat sz) (n - j.toNat) (c - j.toNat))) w) : wpSched P ops Q S (.q i σ) a w :=
  sched_r ho0 hw hS (fun w' _ => by
    unfold execOp
    simp [hop, opv_eval hx, opv_eval hy, run_sliceLo hu hT h0 h1 w']) h
theorem q_sliceHi {t e : TypeId} {agg : Bool} {sz bytes n c : Nat} {z : Value} {A : Option Addr} {k : IntKind} {j : Int} (hu : P.underlying t = some (.slice e)) (hT : TyIs P e agg sz z bytes) (ho0 : ops.toList[i]? = some o) (hop : o.op = .slice t x none (some y) none) (hx : opv a x = some (.slice A n c)) (hy : opv a y = some (.int k j))
    (hw : Region.wanted o (yielded ops a.tmps) = true) (hS : S w) (h0 : 0 ≤ j) (h1 : j ≤ c) (h : wpSched P ops Q S σ (a.put o.dst (.slice A j.toNat c)) w) : wpSched P ops Q S (.q i σ) a w :=
  sched_r ho0 hw hS (fun w' _ => by
    unfold execOp
    simp [hop, opv_eval hx, opv_eval hy, run_sliceHi hu hT h0 h1 w']) h
end
end HL
end Go.Proofs.Ytonbgcehgmpnkaa
