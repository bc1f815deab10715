/- Gone: the walk. -/
import Derived.Test.YtonbgcehgmpnkaaG5
set_option linter.unusedVariables false
set_option linter.unusedSimpArgs false
set_option maxRecDepth 100000
set_option maxHeartbeats 8000000
namespace Go.Proofs.Ytonbgcehgmpnkaa
open Go Go.RowKit HL
def looseL (x : LeafP) : Bool := x.mark == 1 || x.mark == 4
theorem loose_spec (x : LeafP) : CSpec Try.prog 24 [leafEn.f x] [] [] fun o L => o = .ret (vb (looseL x)) ∧ L = [] :=
  cspec_of fun w _ => (loose_calls x.id x.parent x.height x.mark w).mono fun e w' ⟨he, hst⟩ => ⟨.ret (vb (looseL x)), [], he.symm, ⟨rfl, rfl⟩, hst⟩
instance : ZeroOf leafEn leaf0 (.agg [.hash hz, .hash hz, .one (.i .i64 0), .one (.i .i64 0)]) := ⟨rfl⟩
theorem lents_wf {l : List LeafP} (h : Apart l) : MWf (lents l) l.length := by
  refine ⟨?_, ?_, ?_⟩
  · have : (lents l).map (·.2.2) = List.range l.length := by
      unfold lents
      rw [List.map_map]
      show (l.zipIdx.map fun x => x.2) = _
      simp [List.zipIdx_map_snd, List.range_eq_range']
    rw [this]
    exact List.nodup_range
  · intro x hx
    obtain ⟨⟨y, i⟩, hy, rfl⟩ := List.mem_map.1 hx
    have := List.mem_zipIdx hy
    simp at this
    simp
    omega
  · have : (lents l).map (·.1) = l.map (·.id) := by
      unfold lents
      rw [List.map_map]
      show (l.zipIdx.map fun x => x.1.id) = _
      have h2 : (l.zipIdx.map fun x => x.1) = l := by simp [List.zipIdx_map_fst]
      conv => rhs; rw [← h2]
      rw [List.map_map]
      rfl
    rw [this]
    exact h
theorem lents_mem {l : List LeafP} {e : Hash × LeafP × Nat} (h : e ∈ lents l) : e.2.1 ∈ l ∧ e.1 = e.2.1.id := by
  obtain ⟨⟨y, i⟩, hy, rfl⟩ := List.mem_map.1 h
  exact ⟨by
    have := List.mem_map_of_mem (f := fun x : LeafP × Nat => x.1) hy
    simpa [List.zipIdx_map_fst] using this, rfl⟩
theorem mem_lents {l : List LeafP} {x : LeafP} (h : x ∈ l) : ∃ e ∈ lents l, e.2.1 = x := by
  have h2 : (l.zipIdx.map fun x => x.1) = l := by simp [List.zipIdx_map_fst]
  rw [← h2] at h
  obtain ⟨y, hy, rfl⟩ := List.mem_map.1 h
  exact ⟨_, List.mem_map_of_mem hy, rfl⟩
theorem tree_va (g gl gk : Nat) (xs : List (Hash × KV × Nat)) (root : Hash) (h : Int) (l : List LeafP) : View (treeR g gl gk xs root h l) (Res.va g 54 [.one (.mp 100 gl), .one (.mp 101 gk), .hash root, .one (.i .i64 h)]) :=
  ⟨fun w hw => hw.1 _ (List.mem_cons_self ..), fun b hb => ⟨_, List.mem_cons_self .., hb⟩⟩
theorem tree_leaves (g gl gk : Nat) (xs : List (Hash × KV × Nat)) (root : Hash) (h : Int) (l : List LeafP) : View (treeR g gl gk xs root h l) (Res.mp gl hashEn leafEn (lents l) l.length) := by
  have e : Res.mp gl hashEn leafEn (lents l) l.length = Res.map gl hval leafE (lents l) l.length := by
    unfold Res.mp
    have e2 : kdn leafEn = leafE := by funext x; unfold kdn leafE; rfl
    rw [e2]
    rfl
  rw [e]
  exact ⟨fun w hw => hw.1 _ (List.mem_cons_of_mem _ (List.mem_cons_self ..)), fun b hb => ⟨_, List.mem_cons_of_mem _ (List.mem_cons_self ..), hb⟩⟩
theorem tree_kidsR (g gl gk : Nat) (xs : List (Hash × KV × Nat)) (root : Hash) (h : Int) (l : List LeafP) : View (treeR g gl gk xs root h l) (kidsR gk xs) :=
  ⟨fun w hw => ⟨fun r hr => hw.1 r (List.mem_cons_of_mem _ (List.mem_cons_of_mem _ hr)), (List.pairwise_cons.1 (List.pairwise_cons.1 hw.2).2).2⟩, fun b ⟨r, hr, hb⟩ => ⟨r, List.mem_cons_of_mem _ (List.mem_cons_of_mem _ hr), hb⟩⟩
/-- The height that goes with another root. -/
def goneH (l : List LeafP) (h : Int) (dest : Hash) : Int := if (mhas (lents l) dest) = true then ((mlook (lents l) dest).getD leaf0).height else h
def GoneP (l : List LeafP) (h : Int) (dest : Hash) (x : LeafP) : Prop := ¬ Desc l dest x.id ∧ ¬ (looseL x = true ∧ goneH l h dest < x.height)
/-- What Gone tells. -/
def GoneIs (l : List LeafP) (root : Hash) (h : Int) (dest : Hash) (ids : List Hash) : Prop := ids.Pairwise hlt ∧ ids.length ≤ l.length ∧ if (wayOf l root h dest).isSome = true then ∀ y, y ∈ ids ↔ ∃ x ∈ l, x.id = y ∧ GoneP l h dest x else ids = []
structure GInv (l : List LeafP) (h : Int) (dest : Hash) (done : List (Hash × LeafP × Nat)) (s : List (Hash × Bool × Nat)) (c : Nat) : Prop where
  sub : ∀ e ∈ done, e ∈ lents l
  nd : done.Nodup
  wf : MWf s c
  all : AllT s
  iff : ∀ y, y ∈ s.map (·.1) ↔ ∃ e ∈ done, e.1 = y ∧ GoneP l h dest e.2.1
  few : s.length ≤ done.length
theorem GInv.start (l : List LeafP) (h : Int) (dest : Hash) : GInv l h dest [] [] 0 := by
  refine ⟨fun e he => ?_, List.nodup_nil, MWf.nil, fun x hx => ?_, fun y => ?_, Nat.le_refl _⟩
  · cases he
  · cases hx
  · simp
theorem GInv.no {l : List LeafP} {h : Int} {dest : Hash} {done : List (Hash × LeafP × Nat)} {s : List (Hash × Bool × Nat)} {c : Nat} (hi : GInv l h dest done s c) {e : Hash × LeafP × Nat} (he : e ∈ lents l) (hn : e ∉ done) (hg : ¬ GoneP l h dest e.2.1) : GInv l h dest (done ++ [e]) s c := by
  obtain ⟨h1, h2, h3⟩ := iter_snoc hi.sub hi.nd he hn
  refine ⟨h1, h2, hi.wf, hi.all, fun y => ?_, ?_⟩
  · rw [hi.iff]
    constructor
    · rintro ⟨e', he', h4⟩
      exact ⟨e', List.mem_append_left _ he', h4⟩
    · rintro ⟨e', he', h4, h5⟩
      rcases List.mem_append.1 he' with he' | he'
      · exact ⟨e', he', h4, h5⟩
      · rw [List.mem_singleton.1 he'] at h5
        exact absurd h5 hg
  · have := hi.few
    simp only [List.length_append, List.length_cons, List.length_nil]
    omega
theorem GInv.yes {l : List LeafP} {h : Int} {dest : Hash} {done : List (Hash × LeafP × Nat)} {s : List (Hash × Bool × Nat)} {c : Nat} (hi : GInv l h dest done s c) {e : Hash × LeafP × Nat} (he : e ∈ lents l) (hn : e ∉ done) (hg : GoneP l h dest e.2.1) : GInv l h dest (done ++ [e]) (mput s c e.1 true) (mclk s c e.1) := by
  obtain ⟨h1, h2, h3⟩ := iter_snoc hi.sub hi.nd he hn
  refine ⟨h1, h2, hi.wf.put _ _, fun x hx => ?_, fun y => ?_, ?_⟩
  · unfold mput at hx
    split at hx
    · rename_i hm
      -- what is set is true
      have gen : ∀ (s : List (Hash × Bool × Nat)), AllT s → ∀ x ∈ mset s e.1 true, x.2.1 = true := by
        intro s
        induction s with
        | nil => intro _ x hx; cases hx
        | cons z s ih =>
          intro hs x hx
          unfold mset at hx
          split at hx
          · rcases List.mem_cons.1 hx with rfl | hx
            · rfl
            · exact hs x (List.mem_cons_of_mem _ hx)
          · rcases List.mem_cons.1 hx with rfl | hx
            · exact hs _ (List.mem_cons_self ..)
            · exact ih (fun y hy => hs y (List.mem_cons_of_mem _ hy)) x hx
      exact gen s hi.all x hx
    · rcases List.mem_append.1 hx with hx | hx
      · exact hi.all x hx
      · rw [List.mem_singleton.1 hx]
  · rw [put_keys, hi.iff]
    constructor
    · rintro (rfl | ⟨e', he', h4⟩)
      · exact ⟨e, List.mem_append_right _ (List.mem_singleton.2 rfl), rfl, hg⟩
      · exact ⟨e', List.mem_append_left _ he', h4⟩
    · rintro ⟨e', he', h4, h5⟩
      rcases List.mem_append.1 he' with he' | he'
      · exact .inr ⟨e', he', h4, h5⟩
      · rw [List.mem_singleton.1 he'] at h4
        exact .inl h4.symm
  · have := hi.few
    have h9 : (mput s c e.1 true).length ≤ s.length + 1 := by
      unfold mput
      split
      · have := congrArg List.length (mset_keys e.1 true s)
        simp only [List.length_map] at this
        omega
      · simp
    simp only [List.length_append, List.length_cons, List.length_nil]
    omega
theorem GInv.done {l : List LeafP} {root : Hash} {h : Int} {dest : Hash} {done : List (Hash × LeafP × Nat)} {s : List (Hash × Bool × Nat)} {c : Nat} (hi : GInv l h dest done s c) (hall : ∀ e ∈ lents l, e ∈ done) (hw : (wayOf l root h dest).isSome = true) : GoneIs l root h dest (sortH (s.map (·.1))) := by
  have hlen := iter_len hi.sub hi.nd
  have hl : (lents l).length = l.length := by unfold lents; simp
  refine ⟨sortH_lt hi.wf.keys, ?_, ?_⟩
  · rw [(sortH_perm _).length_eq, List.length_map]
    have := hi.few
    omega
  · rw [if_pos hw]
    intro y
    rw [(sortH_perm _).mem_iff, hi.iff]
    constructor
    · rintro ⟨e, he, rfl, h5⟩
      have := lents_mem (hi.sub e he)
      exact ⟨e.2.1, this.1, this.2.symm, h5⟩
    · rintro ⟨x, hx, rfl, h5⟩
      obtain ⟨e, he, rfl⟩ := mem_lents hx
      exact ⟨e, hall e he, (lents_mem he).2, h5⟩
end Go.Proofs.Ytonbgcehgmpnkaa
