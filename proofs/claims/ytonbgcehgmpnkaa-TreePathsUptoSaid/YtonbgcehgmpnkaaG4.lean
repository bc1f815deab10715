/- rising, behind: the leaves behind one. -/
import Derived.Test.YtonbgcehgmpnkaaG3
set_option linter.unusedVariables false
set_option linter.unusedSimpArgs false
set_option maxRecDepth 100000
set_option maxHeartbeats 8000000
namespace Go.Proofs.Ytonbgcehgmpnkaa
open Go Go.RowKit HL
theorem rising_spec (g c : Nat) (R : Res) (l : List (Hash × Bool × Nat)) (hm : MapOf R g hashEn boolEn l c) (hw : MWf l c) (hl : l.length ≤ 1048576) : CSpec Try.prog 32 [.one (.mp 0 g)] [(0, R)] [] fun o L =>
    ∃ A c', o = .ret (vsl 0 A l.length c') ∧ L = [Res.rows A c' 23 hashEn (sortH (l.map (·.1)))] := by
  refine k_enter Try.func32 rfl rfl (h := fun w0 => ?_)
  refine c_seq ?_
  refine c_region ?_
  refine l_rd r_assign ?_
  refine l_nil ?_
  refine x_then ?_
  refine c_seq ?_
  refine c_region ?_
  refine l_rd r_move ?_
  refine l_call 20200 [] (keys_spec 0 g) Try.func38 (h := ?_)
  rintro _ _ (⟨gb, rfl, rfl⟩)
  refine l_call 20250 [(1, 20200), (50, 0)] (sortedFunc_spec gb g c R l hm hw hl) Try.func37 (h := ?_)
  rintro _ _ (⟨A, c', rfl, rfl⟩)
  refine l_rd r_assign ?_
  refine l_nil ?_
  refine x_then ?_
  refine c_ret ?_
  refine k_ret [20250] (vsl 0 A l.length c') (.cons (.tmp rfl) .nil) (h := ?_)
  exact ⟨A, c', rfl, rfl⟩
/-! ### the maps of a tree, as one resource -/
def kidEn (i : Nat) : En KV := ⟨fun v => .one (.sl i v.1 v.2.2.length v.2.1), false, 1, fun _ => ⟨rfl, rfl⟩, by decide⟩
instance {i : Nat} : ZeroOf (kidEn i) kv0 (.one (.sl 0 none 0 0)) := ⟨rfl⟩
def kidsR (gk : Nat) (xs : List (Hash × KV × Nat)) : Res := Res.bag (Res.map gk hval kvE xs xs.length :: krows xs)
theorem kidsR_map (i gk : Nat) (xs : List (Hash × KV × Nat)) : MapOf (kidsR gk xs) gk hashEn (kidEn i) xs xs.length := ⟨fun w h => map_heap (h.1 _ (List.mem_cons_self ..))⟩
theorem kidsR_row {gk : Nat} {xs : List (Hash × KV × Nat)} {k : Hash} {v : KV} (h : mlook xs k = some v) : View (kidsR gk xs) (Res.rd v.1 hashEn v.2.2) := by
  obtain ⟨j, b, _, hj⟩ := idx_some h
  have hm : Res.row v.1 v.2.2.length v.2.1 23 32 (flat (v.2.2.map hval)) ∈ krows xs := List.mem_map.2 ⟨(k, v, b), List.mem_of_getElem? hj, rfl⟩
  have h1 : View (Res.rows v.1 v.2.1 23 hashEn v.2.2) (Res.rd v.1 hashEn v.2.2) := view_rows
  exact ⟨fun w hw => h1.h w (hw.1 _ (List.mem_cons_of_mem _ hm)), fun b hb => ⟨_, List.mem_cons_of_mem _ hm, h1.f b hb⟩⟩
theorem kidsR_rowD {gk : Nat} {xs : List (Hash × KV × Nat)} (k : Hash) : View (kidsR gk xs) (Res.rd ((mlook xs k).getD kv0).1 hashEn ((mlook xs k).getD kv0).2.2) := by
  cases hm : mlook xs k with
  | some v => exact kidsR_row hm
  | none =>
    refine ⟨fun w _ => ?_, fun b hb => ?_⟩
    · unfold Res.rd Res.fact
      left
      exact flat_nil
    · unfold Res.rd Res.fact at hb
      exact absurd rfl hb.1
/-- The kids of an id. -/
def kidsOf (l : List LeafP) (p : Hash) : List Hash := (l.filter fun x => x.parent = p).map (·.id)
/-- Behind one. -/
inductive Desc (l : List LeafP) (id : Hash) : Hash → Prop
  | kid {x : Hash} : x ∈ kidsOf l id → Desc l id x
  | on {p x : Hash} : Desc l id p → x ∈ kidsOf l p → Desc l id x
theorem kids_ids {l : List LeafP} {p x : Hash} (h : x ∈ kidsOf l p) : x ∈ l.map (·.id) := by
  obtain ⟨y, hy, rfl⟩ := List.mem_map.1 h
  exact List.mem_map_of_mem (List.mem_filter.1 hy).1
theorem put_keys {l : List (Hash × Bool × Nat)} {c : Nat} {k : Hash} {v : Bool} : ∀ x, x ∈ (mput l c k v).map (·.1) ↔ x = k ∨ x ∈ l.map (·.1) := by
  intro x
  unfold mput
  cases hm : mhas l k with
  | true =>
    simp only [if_true]
    rw [mset_keys]
    have := mhas_keys.1 hm
    constructor
    · exact .inr
    · rintro (rfl | h)
      · exact this
      · exact h
  | false =>
    simp only [Bool.false_eq_true, if_false, List.map_append, List.mem_append, List.map_cons, List.map_nil, List.mem_singleton]
    exact Or.comm
theorem put_new {l : List (Hash × Bool × Nat)} {c : Nat} {k : Hash} {v : Bool} (h : k ∉ l.map (·.1)) : mput l c k v = l ++ [(k, v, c)] := by
  unfold mput
  rw [if_neg (fun e => h (mhas_keys.1 e))]
/-- All that a map of flags says yes of. -/
def AllT (s : List (Hash × Bool × Nat)) : Prop := ∀ x ∈ s, x.2.1 = true
theorem allT_look {s : List (Hash × Bool × Nat)} (h : AllT s) (k : Hash) : (mlook s k).getD false = decide (k ∈ s.map (·.1)) := by
  cases hm : mlook s k with
  | none =>
    have : ¬ mhas s k = true := by unfold mhas; rw [hm]; simp
    rw [mhas_keys] at this
    exact (decide_eq_false this).symm
  | some v =>
    obtain ⟨j, b, _, hj⟩ := idx_some hm
    have hmem := List.mem_of_getElem? hj
    have h1 := h _ hmem
    have h2 : k ∈ s.map (·.1) := List.mem_map.2 ⟨_, hmem, rfl⟩
    rw [decide_eq_true h2]
    exact h1
end Go.Proofs.Ytonbgcehgmpnkaa
