import Derived.Test.YtonbgcehgmpnkaaTb
import Derived.Deep.DeepMust
set_option linter.unusedVariables false
set_option linter.unusedSimpArgs false
namespace Go.Proofs.Ytonbgcehgmpnkaa
open Go Go.RowKit HL BigFrame
structure LeafP where
  id : Hash
  parent : Hash
  height : Int
  mark : Int
deriving DecidableEq
def leafE (x : LeafP) : Value := leafV x.id x.parent x.height x.mark
def leaf0 : LeafP := ⟨hz, hz, 0, 0⟩
@[simp] theorem size_leafE (x : LeafP) : (leafE x).cells.size = 66 := by simp [leafE, leafV, szs]
theorem ok1_leafE (x : LeafP) : Ok1 (leafE x) := Ok1.mkS (by
  intro v hv
  simp at hv
  rcases hv with rfl | rfl | rfl | rfl
  · exact ok1_hval _
  · exact ok1_hval _
  · exact ok1_int _ _
  · exact ok1_int _ _)
theorem fits_leaf (x : LeafP) : Fits Try.prog 27 (leafE x) := fits_of ty27 (isAgg_mkS _) (size_leafE x)
theorem leaves_sz (l : List LeafP) : ∀ v ∈ l.map leafE, v.cells.size = 66 := by
  intro v hv
  obtain ⟨h, _, rfl⟩ := List.mem_map.1 hv
  exact size_leafE h
theorem leaves_get (l : List LeafP) (k : Nat) (h : k < l.length) : (l.map leafE)[k]? = some (leafE l[k]) := by simp [h]
/-! ### the two maps of a tree -/
def lents (l : List LeafP) : List (Hash × LeafP × Nat) := l.zipIdx.map fun x => (x.1.id, x.1, x.2)
abbrev KV := Option Addr × Nat × List Hash
def kvE (v : KV) : Value := .slice v.1 v.2.2.length v.2.1
def kv0 : KV := (none, 0, [])
def krows (xs : List (Hash × KV × Nat)) : List Res := xs.map fun x => Res.row x.2.1.1 x.2.1.2.2.length x.2.1.2.1 23 32 (flat (x.2.1.2.2.map hval))
/-- What the map of kids holds of some leaves. -/
structure KidsOf (xs : List (Hash × KV × Nat)) (l : List LeafP) : Prop where
  born : xs.map (·.2.2) = List.range xs.length
  keys : (xs.map (·.1)).Nodup
  look : ∀ p, ((mlook xs p).getD kv0).2.2 = (l.filter fun x => x.parent = p).map (·.id)
  few : xs.length ≤ l.length
theorem mlook_lents (l : List LeafP) (h : Hash) : mlook (lents l) h = l.find? fun x => x.id = h := by
  unfold mlook lents
  have gen : ∀ (l : List LeafP) (n : Nat), (((l.zipIdx n).map fun x => (x.1.id, x.1, x.2)).find? fun x => x.1 = h).map (·.2.1) = l.find? fun x => x.id = h := by
    intro l
    induction l with
    | nil => intro n; rfl
    | cons x l ih =>
      intro n
      by_cases e : x.id = h
      · simp [e]
      · simp only [List.zipIdx_cons, List.map_cons, List.find?_cons, e, decide_false]
        exact ih (n + 1)
  exact gen l 0
theorem lents_snoc (l : List LeafP) (x : LeafP) : lents (l ++ [x]) = lents l ++ [(x.id, x, l.length)] := by simp [lents, List.zipIdx_append]
theorem mput_lents (l : List LeafP) (x : LeafP) (h : ∀ y ∈ l, y.id ≠ x.id) : mput (lents l) l.length x.id x = lents (l ++ [x]) ∧ mclk (lents l) l.length x.id = (l ++ [x]).length := by
  have h1 : mhas (lents l) x.id = false := by
    unfold mhas
    rw [mlook_lents]
    simp only [Option.isSome_eq_false_iff, Option.isNone_iff_eq_none, List.find?_eq_none, decide_eq_true_eq]
    exact h
  constructor
  · rw [mput, h1, lents_snoc]; rfl
  · rw [mclk, h1]; simp
theorem mhas_lents (l : List LeafP) (h : Hash) : mhas (lents l) h = l.any fun x => x.id = h := by
  unfold mhas
  rw [mlook_lents, Bool.eq_iff_iff]
  simp [List.any_eq_true]
/-- The entries behind a parent's first leaf, or a further one. -/
def kpre (xs : List (Hash × KV × Nat)) (p : Hash) : List (Hash × KV × Nat) := if mhas xs p then xs else xs ++ [(p, kv0, xs.length)]
theorem krows_append (xs ys : List (Hash × KV × Nat)) : krows (xs ++ ys) = krows xs ++ krows ys := by simp [krows]
theorem krows_get (xs : List (Hash × KV × Nat)) {j : Nat} {p : Hash} {v : KV} {b : Nat} (h : xs[j]? = some (p, v, b)) : (krows xs)[j]? = some (Res.row v.1 v.2.2.length v.2.1 23 32 (flat (v.2.2.map hval))) := by simp [krows, h]
theorem krows_set (xs : List (Hash × KV × Nat)) (j : Nat) (p : Hash) (v : KV) (b : Nat) : krows (xs.set j (p, v, b)) = (krows xs).set j (Res.row v.1 v.2.2.length v.2.1 23 32 (flat (v.2.2.map hval))) := by simp [krows, List.map_set]
theorem kpre_born {xs : List (Hash × KV × Nat)} {l : List LeafP} (h : KidsOf xs l) (p : Hash) : (kpre xs p).map (·.2.2) = List.range (kpre xs p).length := by
  unfold kpre
  split
  · exact h.born
  · simp [h.born, List.range_succ]
theorem kpre_nodup {xs : List (Hash × KV × Nat)} {l : List LeafP} (h : KidsOf xs l) (p : Hash) : ((kpre xs p).map (·.2.2)).Nodup := by rw [kpre_born h p]; exact List.nodup_range
theorem mlook_append (xs ys : List (Hash × KV × Nat)) (q : Hash) : mlook (xs ++ ys) q = (mlook xs q).or (mlook ys q) := by
  unfold mlook
  rw [List.find?_append]
  cases xs.find? (fun x => decide (x.1 = q)) <;> simp
theorem kpre_keys {xs : List (Hash × KV × Nat)} {l : List LeafP} (h : KidsOf xs l) (p : Hash) : ((kpre xs p).map (·.1)).Nodup := by
  unfold kpre
  split
  · exact h.keys
  · rename_i hn
    rw [List.map_append, List.nodup_append]
    refine ⟨h.keys, by simp, ?_⟩
    intro a ha b hb e
    subst e
    simp at hb
    subst hb
    obtain ⟨x, hx, rfl⟩ := List.mem_map.1 ha
    refine hn ?_
    unfold mhas mlook
    simp only [Option.isSome_map, List.find?_isSome]
    exact ⟨x, hx, by simp⟩
theorem mlook_set {xs : List (Hash × KV × Nat)} (hk : (xs.map (·.1)).Nodup) {j : Nat} {p : Hash} {u v : KV} {b : Nat} (hj : xs[j]? = some (p, u, b)) (q : Hash) : mlook (xs.set j (p, v, b)) q = if q = p then some v else mlook xs q := by
  induction xs generalizing j with
  | nil => simp at hj
  | cons x xs ih =>
    cases j with
    | zero =>
      simp at hj
      subst hj
      by_cases e : q = p
      · subst e; simp [mlook]
      · have e' : ¬ p = q := fun h => e h.symm
        simp [mlook, e, e']
    | succ j =>
      simp at hj
      have hk' : (xs.map (·.1)).Nodup := by simp at hk; exact hk.2
      have hne : x.1 ≠ p := by
        intro e
        rw [List.map_cons, List.nodup_cons] at hk
        exact hk.1 (List.mem_map.2 ⟨(p, u, b), List.mem_of_getElem? hj, e.symm⟩)
      have := ih hk' hj
      by_cases e : x.1 = q
      · have e2 : ¬ q = p := by rw [← e]; exact hne
        simp [mlook, e, e2]
      · simp only [mlook, List.set_cons_succ, List.find?_cons, e, decide_false] at this ⊢
        exact this
theorem kpre_look (xs : List (Hash × KV × Nat)) (p q : Hash) : (mlook (kpre xs p) q).getD kv0 = (mlook xs q).getD kv0 := by
  unfold kpre
  split
  · rfl
  · rename_i hn
    rw [mlook_append]
    cases h : mlook xs q with
    | some v => simp
    | none =>
      by_cases e : p = q
      · simp [mlook, e]
      · simp [mlook, e]
theorem kids_step {xs : List (Hash × KV × Nat)} {l : List LeafP} (h : KidsOf xs l) (x : LeafP) {j b : Nat} {v : KV} (hj : (kpre xs x.parent)[j]? = some (x.parent, (mlook xs x.parent).getD kv0, b)) (hv : v.2.2 = ((mlook xs x.parent).getD kv0).2.2 ++ [x.id]) :
    KidsOf ((kpre xs x.parent).set j (x.parent, v, b)) (l ++ [x]) ∧ ((kpre xs x.parent).set j (x.parent, v, b)).length = mclk xs xs.length x.parent := by
  have hl : ((kpre xs x.parent).set j (x.parent, v, b)).length = mclk xs xs.length x.parent := by
    rw [List.length_set, kpre, mclk]
    split <;> simp
  refine ⟨⟨?_, ?_, ?_, ?_⟩, hl⟩
  · rw [List.length_set, ← kpre_born h x.parent, List.map_set]
    apply List.ext_getElem?
    intro q
    by_cases e : j = q
    · subst e
      have hlt := (List.getElem?_eq_some_iff.1 hj).1
      rw [List.getElem?_set_self (by simpa using hlt), List.getElem?_map, hj]
      rfl
    · rw [List.getElem?_set_ne e]
  · rw [List.map_set]
    have : ((kpre xs x.parent).map (·.1)).set j x.parent = (kpre xs x.parent).map (·.1) := by
      apply List.ext_getElem?
      intro q
      by_cases e : j = q
      · subst e
        have hlt := (List.getElem?_eq_some_iff.1 hj).1
        rw [List.getElem?_set_self (by simpa using hlt), List.getElem?_map, hj]
        rfl
      · rw [List.getElem?_set_ne e]
    rw [this]
    exact kpre_keys h x.parent
  · intro q
    rw [mlook_set (kpre_keys h x.parent) hj q]
    by_cases e : q = x.parent
    · subst e
      simp only [if_true, Option.getD_some, hv, h.look, List.filter_append, List.map_append]
      simp
    · have e' : ¬ x.parent = q := fun hh => e hh.symm
      simp only [e, if_false, kpre_look, h.look, List.filter_append, List.map_append]
      simp [e']
  · rw [hl, mclk]
    have := h.few
    split <;> simp <;> omega
/-- Leaves whose ids are all different. -/
def Apart (l : List LeafP) : Prop := (l.map (·.id)).Nodup
theorem apart_take {l : List LeafP} {k : Nat} (hk : k < l.length) (h : Apart (l.take k)) : Apart (l.take (k + 1)) ↔ mhas (lents (l.take k)) l[k].id = false := by
  unfold Apart at *
  rw [List.take_succ_eq_append_getElem hk, List.map_append, List.nodup_append, mhas_lents]
  constructor
  · intro h1
    rw [Bool.eq_false_iff]
    intro h2
    obtain ⟨x, hx, he⟩ := List.any_eq_true.1 h2
    exact h1.2.2 x.id (List.mem_map.2 ⟨x, hx, rfl⟩) l[k].id (by simp) (by simpa using he)
  · intro h1
    refine ⟨h, by simp, ?_⟩
    intro a ha b hb e
    obtain ⟨x, hx, rfl⟩ := List.mem_map.1 ha
    simp at hb
    subst hb
    have : (l.take k).any (fun y => y.id = l[k].id) = true := List.any_eq_true.2 ⟨x, hx, by simpa using e⟩
    rw [this] at h1
    cases h1
theorem kids_nil : KidsOf [] [] := ⟨rfl, by simp, fun p => by simp [mlook, kv0], Nat.le_refl _⟩
theorem getD_leafE (o : Option LeafP) : (o.map leafE).getD (mkS [hval hz, hval hz, .int .i64 0, .int .i64 0]) = leafE (o.getD leaf0) := by cases o <;> rfl
theorem var_leafE (g e : Nat) (x : LeafP) : Res.var g e [leafE x] = Res.var g e [hval x.id, hval x.parent, .int .i64 x.height, .int .i64 x.mark] := Res.var_mkS g e _
theorem cells_leafE (x : LeafP) : (leafE x).cells.toList = flat [hval x.id, hval x.parent, .int .i64 x.height, .int .i64 x.mark] := cells_mkS _
attribute [irreducible] leafE
theorem kids_pre {w0 w : World} {M : Nat → Prop} {R : List Res} {xs : List (Hash × KV × Nat)} {p : Hash} {gk : Nat} (hst : St w0 w M (R ++ Res.map gk hval kvE (if mhas xs p then xs else xs ++ [(p, kv0, xs.length)]) (mclk xs xs.length p) :: krows xs)) :
    St w0 w M (R ++ Res.map gk hval kvE (kpre xs p) (mclk xs xs.length p) :: krows (kpre xs p)) := by
  unfold kpre
  by_cases h : mhas xs p = true
  · simpa only [h, if_true] using hst
  · simp only [h, if_false, Bool.false_eq_true] at hst ⊢
    rw [krows_append]
    have h2 := hst.nilrow 23 32
    refine h2.perm ?_
    have : krows [(p, kv0, xs.length)] = [Res.row none 0 0 23 32 []] := by
      unfold krows
      simp only [List.map_cons, List.map_nil, kv0, List.length_nil]
      unfold flat
      rfl
    rw [this]
    have h3 := (List.perm_append_singleton (Res.row none 0 0 23 32 []) (R ++ Res.map gk hval kvE (xs ++ [(p, kv0, xs.length)]) (mclk xs xs.length p) :: krows xs)).symm
    simpa only [List.append_assoc, List.cons_append] using h3
theorem kids_len {xs : List (Hash × KV × Nat)} {l : List LeafP} {k : Nat} {p : Hash} {v : KV} (h : KidsOf xs (l.take k)) (hv : (mlook xs p).getD kv0 = v) : v.2.2.length ≤ l.length := by
  have h1 := h.look p
  rw [hv] at h1
  rw [h1, List.length_map]
  exact Nat.le_trans (List.length_filter_le _ _) (by rw [List.length_take]; omega)
theorem at_entry {P : Program} {ops rest o} {Q : Exit → Act → World → Prop} {a : Act} {w : World} {T x y u} (h : wpList P ops Q (o :: rest) a w) (ho : o.op = .entryStore T x y u) : wpList P ops Q (o :: rest) a w := h
/-! ### put -/
def putL (g gl gk : Nat) (xs : List (Hash × KV × Nat)) (l : List LeafP) : List Res :=
  Res.map gl hval leafE (lents l) l.length :: Res.map gk hval kvE xs xs.length :: krows xs
set_option maxHeartbeats 4000000 in
set_option maxRecDepth 100000 in
theorem put_calls (A : Option Addr) (l : List LeafP) (c gl gk : Nat) (w : World) (hA : RdS w A (flat (l.map leafE))) (hne : gl ≠ gk) (h1 : w.heap[gl]? = some (mobj hval leafE [] 0)) (h2 : w.heap[gk]? = some (mobj hval kvE [] 0))
    (hAl : 0 < l.length → ∀ ad, A = some ad → ad.block ≠ gl ∧ ad.block ≠ gk) (hl : l.length ≤ 1048576) :
    Calls Try.prog 20 #[mkS [.map (some gl), .map (some gk)], .slice A l.length c] w fun e w' =>
      (e = .returned (.bool false) ∧ ¬ Apart l ∧ ∃ L, St w w' (fun b => b = gl ∨ b = gk) L) ∨
      (e = .returned (.bool true) ∧ Apart l ∧ ∃ xs, KidsOf xs l ∧ St w w' (fun b => b = gl ∨ b = gk) (putL 0 gl gk xs l)) := by
  have hst : St w w (fun b => b = gl ∨ b = gk) (putL 0 gl gk [] []) :=
    (St.startL (L := putL 0 gl gk [] []) (by
      intro r hr
      simp [putL, krows] at hr
      rcases hr with rfl | rfl
      · exact holds_map h1
      · exact holds_map h2) (by
      simp only [putL, krows, List.map_nil, List.pairwise_cons]
      refine ⟨?_, by simp, by simp⟩
      intro r hr b hb hb'
      simp at hr
      subst hr
      exact hne ((fp_map.1 hb).symm.trans (fp_map.1 hb')))).more (by
      intro b hb
      obtain ⟨r, hr, hb⟩ := hb
      simp [putL, krows] at hr
      rcases hr with rfl | rfl
      · exact .inl (fp_map.1 hb)
      · exact .inr (fp_map.1 hb))
  unfold putL at hst
  clear h1 h2
  go_enter Try.func20, Try.ntmps20
  go_wp2_with (first
    | (refine o_box (v := mkS [.map (some gl), .map (some gk)]) rfl rfl (.list rfl) hst ?_; intro w1 gb hst; rw [Res.var_mkS] at hst))
  simp only [krows, List.map_nil, List.length_nil] at hst
  go_loopw [11] (fun i wr => ∃ (k : Nat) (xs : List (Hash × KV × Nat)), k ≤ l.length ∧ i = .int .i64 k ∧ Apart (l.take k) ∧ KidsOf xs (l.take k) ∧
    St w wr (fun b => b = gl ∨ b = gk) (Res.var gb 52 [.map (some gl), .map (some gk)] :: Res.map gl hval leafE (lents (l.take k)) k :: Res.map gk hval kvE xs xs.length :: krows xs)) (fun i _ => l.length - (intOf i).toNat)
  case atStart => exact ⟨0, [], Nat.zero_le _, rfl, by simp [Apart], kids_nil, hst⟩
  case round =>
    obtain ⟨k, xs, hk, rfl, hap, hks, hst⟩ := hrel
    by_cases hlt : k < l.length
    · have g1 := leaves_get l k hlt
      have G1 := Lib.hid g1
      clear g1
      have hap2 := apart_take hlt hap
      have HAP := Lib.hid hap2
      clear hap2
      by_cases hm : mhas (lents (l.take k)) l[k].id = true
      · go_wp2_with (first
          | (refine o_elem Try.underlying24 ty27 rfl rfl rfl (.list rfl) (by omega) (by omega) (hst.old_rd' hA (fun ad h1 h2 => h2.elim (hAl (by omega) ad h1).1 (hAl (by omega) ad h1).2)) (leaves_sz l) (by omega) (by simpa using G1.out) ?_; intro p hp; simp only [Act.put, List.setIfInBounds_toArray, List.set_cons_succ, List.set_cons_zero])
          | (refine o_load (v := leafE l[k]) rfl rfl (.list rfl) (fits_leaf _) hp ?_; simp only [Act.put, List.setIfInBounds_toArray, List.set_cons_succ, List.set_cons_zero])
          | (refine o_alloc ty27 rfl (.list rfl) hst ?_; clear hst; intro w1 gx hst; simp only [Act.put, List.setIfInBounds_toArray, List.set_cons_succ, List.set_cons_zero])
          | (refine o_store (i := 0) (k := 0) rfl rfl rfl rfl rfl (.list rfl) hst (fits_leaf _) (ok1_leafE _) ?_ ?_ ?_; (focus (simp [szs]; done)); (focus (simp [szs]; done)); clear hst; intro w1 hst; simp only [List.set_cons_succ, List.set_cons_zero] at hst; rw [var_leafE] at hst; simp only [Act.put, List.setIfInBounds_toArray, List.set_cons_succ, List.set_cons_zero])
          | (refine o_field rfl rfl (.list rfl) fa52_0 ?_; simp only [Act.put, List.setIfInBounds_toArray, List.set_cons_succ, List.set_cons_zero])
          | (refine o_field rfl rfl (.list rfl) fa27_0 ?_; simp only [Act.put, List.setIfInBounds_toArray, List.set_cons_succ, List.set_cons_zero])
          | (refine o_load (v := .map (some gl)) rfl rfl (.list rfl) (fits_of ty49 rfl rfl) (hst.field_cells (i := 1) (k := 0) rfl rfl ?_) ?_; (focus (simp [szs]; done)); simp only [Act.put, List.setIfInBounds_toArray, List.set_cons_succ, List.set_cons_zero])
          | (refine o_load (v := hval l[k].id) rfl rfl (.list rfl) (fits_hash _) (hst.field_cells (i := 0) (k := 0) rfl rfl ?_) ?_; (focus (simp [szs]; done)); simp only [Act.put, List.setIfInBounds_toArray, List.set_cons_succ, List.set_cons_zero])
          | (refine o_lookup (i := 2) ek23 Try.underlying49 ty27 rfl rfl rfl (.list rfl) hst rfl ?_; simp only [if_true]; rw [getD_leafE]; simp only [Act.put, List.setIfInBounds_toArray, List.set_cons_succ, List.set_cons_zero]))
        go_ret
        refine .inl ⟨rfl, fun hA2 => ?_, _, hst⟩
        have h1 : Apart (l.take (k + 1)) := by
          unfold Apart at hA2 ⊢
          rw [List.map_take]
          exact (List.take_sublist _ _).nodup hA2
        rw [HAP.out] at h1
        rw [h1] at hm
        cases hm
      · have hm' : mhas (lents (l.take k)) l[k].id = false := by simpa using hm
        have hap3 := HAP.out.2 hm'
        clear hm
        go_wp2_with (first
          | (refine o_elem Try.underlying24 ty27 rfl rfl rfl (.list rfl) (by omega) (by omega) (hst.old_rd' hA (fun ad h1 h2 => h2.elim (hAl (by omega) ad h1).1 (hAl (by omega) ad h1).2)) (leaves_sz l) (by omega) (by simpa using G1.out) ?_; intro p hp; simp only [Act.put, List.setIfInBounds_toArray, List.set_cons_succ, List.set_cons_zero])
          | (refine o_load (v := leafE l[k]) rfl rfl (.list rfl) (fits_leaf _) hp ?_; simp only [Act.put, List.setIfInBounds_toArray, List.set_cons_succ, List.set_cons_zero])
          | (refine o_alloc ty27 rfl (.list rfl) hst ?_; clear hst; intro w1 gx hst; simp only [Act.put, List.setIfInBounds_toArray, List.set_cons_succ, List.set_cons_zero])
          | (refine o_store (i := 0) (k := 0) rfl rfl rfl rfl rfl (.list rfl) hst (fits_leaf _) (ok1_leafE _) ?_ ?_ ?_; (focus (simp [szs]; done)); (focus (simp [szs]; done)); clear hst; intro w1 hst; simp only [List.set_cons_succ, List.set_cons_zero] at hst; rw [var_leafE] at hst; simp only [Act.put, List.setIfInBounds_toArray, List.set_cons_succ, List.set_cons_zero])
          | (refine o_field rfl rfl (.list rfl) fa52_0 ?_; simp only [Act.put, List.setIfInBounds_toArray, List.set_cons_succ, List.set_cons_zero])
          | (refine o_field rfl rfl (.list rfl) fa27_0 ?_; simp only [Act.put, List.setIfInBounds_toArray, List.set_cons_succ, List.set_cons_zero])
          | (refine o_load (v := .map (some gl)) rfl rfl (.list rfl) (fits_of ty49 rfl rfl) (hst.field_cells (i := 1) (k := 0) rfl rfl ?_) ?_; (focus (simp [szs]; done)); simp only [Act.put, List.setIfInBounds_toArray, List.set_cons_succ, List.set_cons_zero])
          | (refine o_load (v := hval l[k].id) rfl rfl (.list rfl) (fits_hash _) (hst.field_cells (i := 0) (k := 0) rfl rfl ?_) ?_; (focus (simp [szs]; done)); simp only [Act.put, List.setIfInBounds_toArray, List.set_cons_succ, List.set_cons_zero])
          | (refine o_lookup (i := 2) ek23 Try.underlying49 ty27 rfl rfl rfl (.list rfl) hst rfl ?_; simp only [if_true]; rw [getD_leafE]; simp only [Act.put, List.setIfInBounds_toArray, List.set_cons_succ, List.set_cons_zero])
          | (refine o_load (v := leafE l[k]) rfl rfl (.list rfl) (fits_leaf _) (by rw [cells_leafE]; exact hst.var_cells (i := 1) rfl) ?_; simp only [Act.put, List.setIfInBounds_toArray, List.set_cons_succ, List.set_cons_zero])
          | (refine o_load (v := .map (some gl)) rfl rfl (.list rfl) (fits_of ty49 rfl rfl) (hst.field_cells (i := 2) (k := 0) rfl rfl ?_) ?_; (focus (simp [szs]; done)); simp only [Act.put, List.setIfInBounds_toArray, List.set_cons_succ, List.set_cons_zero])
          | (refine o_load (v := hval l[k].id) rfl rfl (.list rfl) (fits_hash _) (hst.field_cells (i := 1) (k := 0) rfl rfl ?_) ?_; (focus (simp [szs]; done)); simp only [Act.put, List.setIfInBounds_toArray, List.set_cons_succ, List.set_cons_zero])
          | (refine o_mapUpdate (i := 3) (v := l[k]) ek23 Try.underlying49 rfl rfl rfl rfl (.list rfl) hst rfl ?_; clear hst; intro w1 hst; simp only [List.set_cons_succ, List.set_cons_zero] at hst; simp only [Act.put, List.setIfInBounds_toArray, List.set_cons_succ, List.set_cons_zero])
          | (refine o_field rfl rfl (.list rfl) fa52_1 ?_; simp only [Act.put, List.setIfInBounds_toArray, List.set_cons_succ, List.set_cons_zero])
          | (refine o_field rfl rfl (.list rfl) fa27_1 ?_; simp only [Act.put, List.setIfInBounds_toArray, List.set_cons_succ, List.set_cons_zero])
          | (refine o_load (v := .map (some gk)) rfl rfl (.list rfl) (fits_of ty50 rfl rfl) (hst.field_cells (i := 2) (k := 1) rfl rfl ?_) ?_; (focus (simp [szs]; done)); simp only [Act.put, List.setIfInBounds_toArray, List.set_cons_succ, List.set_cons_zero])
          | (refine o_load (v := hval l[k].parent) rfl rfl (.list rfl) (fits_hash _) (hst.field_cells (i := 1) (k := 1) rfl rfl ?_) ?_; (focus (simp [szs]; done)); simp only [Act.put, List.setIfInBounds_toArray, List.set_cons_succ, List.set_cons_zero])
          | (refine o_buildSlice (vs := [hval l[k].id]) Try.underlying39 ty23 (size_hval hz) rfl (.list rfl) hst rfl rfl (by simp) (by simp) (by omega) ?_; clear hst; intro B w1 hst; simp only [Act.put, List.setIfInBounds_toArray, List.set_cons_succ, List.set_cons_zero])
          | (refine o_mapEntry (i := 5) (zv := kv0) ek23 Try.underlying50 (show TyIs Try.prog 39 false 1 (kvE kv0) 24 from ty39) rfl rfl rfl (.list rfl) hst rfl ?_; clear hst; intro bn j w1 hj1 hj2 hst; simp only [List.set_cons_succ, List.set_cons_zero] at hst; replace hst := kids_pre (R := [_, _, _, _, _]) hst; simp only [List.cons_append, List.nil_append] at hst; obtain ⟨⟨A1, c1, ids⟩, hv⟩ : ∃ v, (mlook xs l[k].parent).getD kv0 = v := ⟨_, rfl⟩; rw [hv] at hj1 ⊢; have HV := Lib.hid hv; clear hv; have HJ := Lib.hid hj1; clear hj1 hj2; simp only [kvE]; have hrow := krows_get _ HJ.out; simp only [Act.put, List.setIfInBounds_toArray, List.set_cons_succ, List.set_cons_zero])
          | (at_builtin; go_must (refine o_append (i := j + 6) Try.underlying39 ty23 (by omega) (size_hval hz) rfl rfl rfl (.list rfl) hst hrow (hst.src_row (i := 0) rfl (ok1_flat (by simp [ok1_hval]))) ?_ ?_ ?_; (focus (have h9 : ids.length ≤ l.length := kids_len hks HV.out; show (ids.length + 1) * 32 ≤ 140737488355328; omega)); (focus (have h9 : ids.length ≤ l.length := kids_len hks HV.out; show ids.length + 1 ≤ 140737488355328; omega)); clear hst hrow; intro B2 c2 w1 hst; simp only [List.set_cons_succ] at hst; simp only [Act.put, List.setIfInBounds_toArray, List.set_cons_succ, List.set_cons_zero]))
          | (refine at_entry ?_ rfl; go_must (refine o_entryStore (i := 5) (v := (B2, c2, ids ++ [l[k].id])) rfl rfl rfl ?_ (.list rfl) hst rfl (kpre_nodup hks _) HJ.out ?_; (focus (simp [opv, kvE]; done)); clear hst; intro w1 hst; simp only [List.set_cons_succ, List.set_cons_zero] at hst; simp only [Act.put, List.setIfInBounds_toArray, List.set_cons_succ, List.set_cons_zero])))
        have hks2 := kids_step hks l[k] (v := (B2, c2, ids ++ [l[k].id])) (by rw [HV.out]; exact HJ.out) (by rw [HV.out])
        have hlen : (l.take k).length = k := by rw [List.length_take]; omega
        have hno : ∀ y ∈ l.take k, y.id ≠ l[k].id := fun y hy he => by
          have h1 := hm'
          rw [mhas_lents, List.any_eq_false] at h1
          exact h1 y hy (by simpa using he)
        have hmp := mput_lents (l.take k) l[k] hno
        rw [hlen, ← List.take_succ_eq_append_getElem hlt] at hmp
        rw [← List.take_succ_eq_append_getElem hlt] at hks2
        refine ⟨⟨k + 1, (kpre xs l[k].parent).set j (l[k].parent, (B2, c2, ids ++ [l[k].id]), bn), by omega, by go_num, hap3, hks2.1, ?_⟩, by simp [intOf]; omega⟩
        have hst2 := ((hst.drop 0).drop 0).drop 0
        simp only [List.eraseIdx_zero, List.tail_cons] at hst2
        rw [hks2.2, krows_set, ← hmp.1]
        have e1 : mclk (lents (l.take k)) k l[k].id = k + 1 := by rw [hmp.2, List.length_take]; omega
        rw [e1] at hst2
        simpa [flat_append] using hst2
    · have hkl : k = l.length := by omega
      go_wp2
      go_ret
      rw [hkl, List.take_length] at hap hks hst
      refine .inr ⟨rfl, hap, xs, hks, ?_⟩
      have hst2 := hst.drop 0
      simp only [List.eraseIdx_zero, List.tail_cons] at hst2
      exact hst2
end Go.Proofs.Ytonbgcehgmpnkaa
