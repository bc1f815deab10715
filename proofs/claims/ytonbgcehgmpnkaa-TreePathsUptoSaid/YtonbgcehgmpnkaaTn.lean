import Derived.Test.YtonbgcehgmpnkaaTm
set_option linter.unusedVariables false
set_option linter.unusedSimpArgs false
namespace Go.Proofs.Ytonbgcehgmpnkaa
open Go Go.RowKit HL BigFrame
theorem post_cell3 {fn : Func} {R : Ending → World → Prop} {a : Act} {w w0 : World} {M : Nat → Prop} {L : List Res} {i i2 g g2 : Nat} {t t2 u : Tmp} {T : TypeId} {v1 v2 v3 : Value} (hr : fn.results = #[.cell t T, .cell t2 T, .tmp u]) (ht : opv a (.tmp t) = some (.pointer (some ⟨g, 0, none⟩))) (ht2 : opv a (.tmp t2) = some (.pointer (some ⟨g2, 0, none⟩))) (hu : opv a (.tmp u) = some v3) (hd : a.defers = [])
    (hst : St w0 w M L) (hi : L[i]? = some (Res.var g T [v1])) (hi2 : L[i2]? = some (Res.var g2 T [v2])) (hf : Fits Try.prog T v1) (hf2 : Fits Try.prog T v2) (hR : R (.returned (.tuple #[v1, v2, v3])) w) : bodyPost Try.prog fn R .ret a w := by
  refine bodyPost_ret (v := .tuple #[v1, v2, v3]) ?_ hd hR
  have hc := hst.var_cells hi
  have hc2 := hst.var_cells hi2
  rw [flat_single] at hc hc2
  have hp' : a.tmps[t]?.getD undef = .pointer (some ⟨g, 0, none⟩) := by simpa [Act.eval] using opv_eval ht
  have hp2 : a.tmps[t2]?.getD undef = .pointer (some ⟨g2, 0, none⟩) := by simpa [Act.eval] using opv_eval ht2
  have hq' : a.tmps[u]?.getD undef = v3 := by simpa [Act.eval] using opv_eval hu
  simp [results, hr, hp', hp2, hq', asAddr, run_loadVar hf hc, run_loadVar hf2 hc2]
/-- What Path tells. -/
def pathOf (l : List LeafP) (root : Hash) (h : Int) (a b : Hash) : Option (List Hash × List Hash) :=
  match wayOf l root h a, wayOf l root h b with
  | some xs, some ys => some ((xs.drop (cpl xs ys)).reverse, ys.drop (cpl xs ys))
  | _, _ => none
theorem pathOf_some {l : List LeafP} {root : Hash} {h : Int} {a b : Hash} {xs ys : List Hash} (h1 : wayOf l root h a = some xs) (h2 : wayOf l root h b = some ys) : pathOf l root h a b = some ((xs.drop (cpl xs ys)).reverse, ys.drop (cpl xs ys)) := by rw [pathOf, h1, h2]
theorem pathOf_none {l : List LeafP} {root : Hash} {h : Int} {a b : Hash} (h1 : wayOf l root h a = none ∨ wayOf l root h b = none) : pathOf l root h a b = none := by
  unfold pathOf
  rcases h1 with h1 | h1
  · rw [h1]
  · rw [h1]; cases wayOf l root h a <;> rfl
theorem at_call25 {P : Program} {ops rest o c} {Q : Exit → Act → World → Prop} {a : Act} {w : World} (h : wpList P ops Q (o :: rest) a w) (ho : o.op = .call { callee := .value (.func 25), args := c, argTypes := #[1] }) : wpList P ops Q (o :: rest) a w := h
set_option maxRecDepth 100000 in
theorem stood_pre (g gl gK : Nat) (xs : List (Hash × KV × Nat)) (root : Hash) (h : Int) (l : List LeafP) (a b : Hash) (gt gf gq g6 g7 : Nat) (w wn : World) (ht : ∀ r ∈ treeL g gl gK xs root h l, r.holds w)
    (hst : St w wn No [Res.var g7 39 [nilS], Res.var g6 39 [nilS], Res.var gq 23 [hval b], Res.var gf 23 [hval a], Res.var gt 29 [.pointer (some ⟨g, 0, none⟩)]])
    (hh : ∀ x ∈ l, x.height ≤ 9223372036854775807) (h0 : 0 ≤ h) (h1 : h ≤ 2147483647) (hl : l.length ≤ 3000) :
    Calls Try.prog 25 #[.func (.func 29) #[] #[.pointer (some ⟨gt, 0, none⟩), .pointer (some ⟨gf, 0, none⟩), .pointer (some ⟨gq, 0, none⟩), .pointer (some ⟨g6, 0, none⟩), .pointer (some ⟨g7, 0, none⟩)]] wn fun e w' => ∃ ok L, e = .returned (.bool ok) ∧ PathL l root h a b g6 g7 ok L ∧ St wn w' (fun q => q = g6 ∨ q = g7) L := by
  have hs2 : St wn wn (fun q => q = g6 ∨ q = g7) [Res.var g6 39 [nilS], Res.var g7 39 [nilS]] := (St.startL (L := [Res.var g6 39 [nilS], Res.var g7 39 [nilS]]) (by
      intro r hr
      simp at hr
      rcases hr with rfl | rfl
      · exact hst.get (i := 1) rfl
      · exact hst.get (i := 0) rfl) (by
      simp only [List.pairwise_cons]
      refine ⟨?_, by simp, by simp⟩
      intro r hr q hq hq'
      simp at hr
      subst hr
      exact hst.ne_ (i := 1) (j := 0) rfl rfl (by decide) hq hq')).more (by
      rintro q ⟨r, hr, hq⟩
      simp at hr
      rcases hr with rfl | rfl
      · exact .inl (fp_var.1 hq)
      · exact .inr (fp_var.1 hq))
  have ne : ∀ (i : Nat) (r : Res), [Res.var g7 39 [nilS], Res.var g6 39 [nilS], Res.var gq 23 [hval b], Res.var gf 23 [hval a], Res.var gt 29 [.pointer (some ⟨g, 0, none⟩)]][i]? = some r → 2 ≤ i → ∀ q, r.fp q → ¬ (q = g6 ∨ q = g7) := by
    intro i r hi h2 q hq hqq
    rcases hqq with e | e
    · exact hst.ne_ (j := 1) hi rfl (by omega) hq (fp_var.2 e)
    · exact hst.ne_ (j := 0) hi rfl (by omega) hq (fp_var.2 e)
  have nt : ∀ r ∈ treeL g gl gK xs root h l, ∀ q, r.fp q → ¬ (q = g6 ∨ q = g7) := by
    intro r hr q hq hqq
    have hb1 := r.bound w (ht r hr) q hq
    have e6 := (hst.own _ (List.mem_of_getElem? (i := 1) rfl) g6 (fp_var.2 rfl)).resolve_left id
    have e7 := (hst.own _ (List.mem_of_getElem? (i := 0) rfl) g7 (fp_var.2 rfl)).resolve_left id
    omega
  have hne : g6 ≠ g7 := fun e => hst.ne_ (i := 1) (j := 0) rfl rfl (by decide) (b := g6) (fp_var.2 rfl) (fp_var.2 e)
  have hc := stood_calls 29 _ Try.func29 rfl rfl #[.pointer (some ⟨gt, 0, none⟩), .pointer (some ⟨gf, 0, none⟩), .pointer (some ⟨gq, 0, none⟩), .pointer (some ⟨g6, 0, none⟩), .pointer (some ⟨g7, 0, none⟩)] [Res.var g6 39 [nilS], Res.var g7 39 [nilS]] (fun q => q = g6 ∨ q = g7) (fun q => q = g6 ∨ q = g7) wn hs2 (by
    rintro q (e | e)
    · exact ⟨_, List.mem_of_getElem? (i := 0) rfl, fp_var.2 e⟩
    · exact ⟨_, List.mem_of_getElem? (i := 1) rfl, fp_var.2 e⟩) (PathL l root h a b g6 g7) (fun w1 g2 h9 => path1_calls g gl gK xs root h l a b gt gf gq g6 g7 w1 (fun r hr => h9.old_holdsM (hst.old_holds (ht r hr)) (nt r hr)) nt hh h0 h1 hl
      (h9.old_holdsM (hst.get (i := 4) rfl) (ne 4 _ rfl (by omega))) (ne 4 _ rfl (by omega) gt (fp_var.2 rfl))
      (h9.old_holdsM (hst.get (i := 3) rfl) (ne 3 _ rfl (by omega))) (ne 3 _ rfl (by omega) gf (fp_var.2 rfl))
      (h9.old_holdsM (hst.get (i := 2) rfl) (ne 2 _ rfl (by omega))) (ne 2 _ rfl (by omega) gq (fp_var.2 rfl)) hne (h9.get (i := 1) rfl) (h9.get (i := 2) rfl))
  exact hc
set_option maxRecDepth 100000 in
set_option maxHeartbeats 4000000 in
theorem path_calls (g gl gK : Nat) (xs : List (Hash × KV × Nat)) (root : Hash) (h : Int) (l : List LeafP) (a b : Hash) (w : World) (ht : ∀ r ∈ treeL g gl gK xs root h l, r.holds w) (hh : ∀ x ∈ l, x.height ≤ 9223372036854775807) (h0 : 0 ≤ h) (h1 : h ≤ 2147483647) (hl : l.length ≤ 3000) :
    Calls Try.prog 12 #[.pointer (some ⟨g, 0, none⟩), hval a, hval b] w fun e w' => ∃ d u ok A1 c1 A2 c2, (ok = true ∧ pathOf l root h a b = some (d, u) ∨ ok = false ∧ pathOf l root h a b = none ∧ d = [] ∧ u = []) ∧ d.length ≤ l.length ∧ u.length ≤ l.length ∧
      e = .returned (.tuple #[sl A1 d c1, sl A2 u c2, .bool ok]) ∧ St w w' No [rowH A1 d c1, rowH A2 u c2] := by
  have hst := St.start w No
  have hmf : ∀ (fn : Fn) (first cap : Array Value) (w : World), (Instr.makeFunc fn first cap).run Try.prog w = .ok (.func fn first cap) w := fun _ _ _ _ => rfl
  go_enter Try.func12, Try.ntmps12
  go_wp2_with (first
    | (refine o_box (v := .pointer (some ⟨g, 0, none⟩)) rfl rfl (.list rfl) hst ?_; clear hst; intro w1 gt hst; simp only [Act.put, List.setIfInBounds_toArray, List.set_cons_succ, List.set_cons_zero])
    | (refine o_box (L := [_]) (v := hval a) rfl rfl (.list rfl) hst ?_; clear hst; intro w1 gf hst; simp only [Act.put, List.setIfInBounds_toArray, List.set_cons_succ, List.set_cons_zero])
    | (refine o_box (L := [_, _]) (v := hval b) rfl rfl (.list rfl) hst ?_; clear hst; intro w1 gq hst; simp only [Act.put, List.setIfInBounds_toArray, List.set_cons_succ, List.set_cons_zero])
    | (refine o_alloc (L := [_, _, _]) ty39 rfl (.list rfl) hst ?_; clear hst; intro w1 g6 hst; simp only [Act.put, List.setIfInBounds_toArray, List.set_cons_succ, List.set_cons_zero])
    | (refine o_alloc (L := [_, _, _, _]) ty39 rfl (.list rfl) hst ?_; clear hst; intro w1 g7 hst; simp only [Act.put, List.setIfInBounds_toArray, List.set_cons_succ, List.set_cons_zero])
    | (refine at_call25 ?_ rfl; have hpre := stood_pre g gl gK xs root h l a b gt gf gq g6 g7 w _ ht hst hh h0 h1 hl; go_must (refine o_call (vs := [.func (.func 29) #[] #[.pointer (some ⟨gt, 0, none⟩), .pointer (some ⟨gf, 0, none⟩), .pointer (some ⟨gq, 0, none⟩), .pointer (some ⟨g6, 0, none⟩), .pointer (some ⟨g7, 0, none⟩)]]) Try.func25 rfl rfl rfl rfl rfl (.list rfl) (hpre) (by simp) ?_); rintro e w2 ⟨ok, L, rfl, hP, h3⟩; clear hpre; have hst1 : St w w1 No ([Res.var g6 39 [nilS], Res.var g7 39 [nilS]] ++ [Res.var gq 23 [hval b], Res.var gf 23 [hval a], Res.var gt 29 [.pointer (some ⟨g, 0, none⟩)]]) := hst.pick [1, 0, 2, 3, 4] (by decide); clear hst; have hst := hst1.callN h3 (by
        rintro q (e | e)
        · exact ⟨_, List.mem_of_getElem? (i := 0) rfl, fp_var.2 e⟩
        · exact ⟨_, List.mem_of_getElem? (i := 1) rfl, fp_var.2 e⟩); clear hst1 h3; rcases hP with ⟨xa, xb, A1, c1, A2, c2, hwa, hwb, rfl, hla, hlb, rfl⟩ | ⟨hno, rfl, rfl⟩ <;> simp only [List.cons_append, List.nil_append] at hst; simp only [Act.put, List.setIfInBounds_toArray, List.set_cons_succ, List.set_cons_zero]))
  · have hp := pathOf_some hwa hwb
    have hl1 : (xa.drop (cpl xa xb)).reverse.length ≤ l.length := by simp; omega
    have hl2 : (xb.drop (cpl xa xb)).length ≤ l.length := by simp; omega
    obtain ⟨d, hd⟩ : ∃ d, d = (xa.drop (cpl xa xb)).reverse := ⟨_, rfl⟩
    obtain ⟨u, hu⟩ : ∃ u, u = xb.drop (cpl xa xb) := ⟨_, rfl⟩
    rw [← hd] at hst hp hl1
    rw [← hu] at hst hp hl2
    have HP := Lib.hid hp
    clear hp hwa hwb hd hu
    refine wp_region_sched (.q 0 (.q 1 (.q 2 (.s 3 (.s 4 (.q 5 .nil)))))) (fun w1 => St w w1 No [Res.var g6 39 [sl A1 d c1], Res.var g7 39 [sl A2 u c2]]) (by kernel_rfl) (by kernel_rfl) (by kernel_rfl) (by decide) (fun d v c a w h => by cases d <;> exact h) ?_
    have hst := hst.drew
    have hs2 := hst.pick [2, 3] (by decide)
    refine q_load (v := sl A1 d c1) rfl rfl rfl rfl hs2 (fits_sl _ rfl rfl) (fun w1 h => h.field_cells (i := 0) (k := 0) rfl rfl (by simp [szs])) ?_; simp only [Act.put, List.setIfInBounds_toArray, List.set_cons_succ, List.set_cons_zero]
    refine q_load (v := sl A2 u c2) rfl rfl rfl rfl hs2 (fits_sl _ rfl rfl) (fun w1 h => h.field_cells (i := 1) (k := 0) rfl rfl (by simp [szs])) ?_; simp only [Act.put, List.setIfInBounds_toArray, List.set_cons_succ, List.set_cons_zero]
    refine q_move rfl rfl rfl rfl hs2 ?_; simp only [Act.put, List.setIfInBounds_toArray, List.set_cons_succ, List.set_cons_zero]
    clear hs2
    refine o_store (i := 2) (k := 0) rfl rfl rfl rfl rfl (.sched rfl rfl) hst (fits_sl (sl A1 d c1) rfl rfl) (ok1_slice _ _ _) ?_ ?_ ?_
    (focus (simp [szs]; done))
    (focus (simp [szs]; done))
    intro w3 hst3
    clear hst
    simp only [List.set_cons_succ, List.set_cons_zero] at hst3
    refine ⟨hst3.pick [2, 3] (by decide), ?_⟩
    try simp only [Act.put, List.setIfInBounds_toArray, List.set_cons_succ, List.set_cons_zero]
    refine o_store (i := 3) (k := 0) rfl rfl rfl rfl rfl (.sched rfl rfl) hst3 (fits_sl (sl A2 u c2) rfl rfl) (ok1_slice _ _ _) ?_ ?_ ?_
    (focus (simp [szs]; done))
    (focus (simp [szs]; done))
    intro w4 hst
    clear hst3
    simp only [List.set_cons_succ, List.set_cons_zero] at hst
    refine ⟨hst.pick [2, 3] (by decide), ?_⟩
    try simp only [Act.put, List.setIfInBounds_toArray, List.set_cons_succ, List.set_cons_zero]
    refine q_assign rfl rfl rfl rfl (hst.pick [2, 3] (by decide)) ?_; simp only [Act.put, List.setIfInBounds_toArray, List.set_cons_succ, List.set_cons_zero]
    refine sched_nil ?_
    try simp only [Act.put, List.setIfInBounds_toArray, List.set_cons_succ, List.set_cons_zero]
    go_wp2
    exact post_cell3 (i := 2) (i2 := 3) rfl rfl rfl rfl rfl hst rfl rfl (fits_sl (sl A1 d c1) rfl rfl) (fits_sl (sl A2 u c2) rfl rfl) ⟨d, u, true, A1, c1, A2, c2, .inl ⟨rfl, HP.out⟩, hl1, hl2, rfl, hst.pick [0, 1] (by decide)⟩
  · have hp := pathOf_none hno
    have HP := Lib.hid hp
    clear hp hno
    refine wp_region_sched (.q 0 (.q 1 (.q 2 (.s 3 (.s 4 (.q 5 .nil)))))) (fun w1 => St w w1 No [Res.var g6 39 [nilS], Res.var g7 39 [nilS]]) (by kernel_rfl) (by kernel_rfl) (by kernel_rfl) (by decide) (fun d v c a w h => by cases d <;> exact h) ?_
    have hst := hst.drew
    have hs2 := hst.pick [0, 1] (by decide)
    refine q_load (v := nilS) rfl rfl rfl rfl hs2 (fits_sl _ rfl rfl) (fun w1 h => h.field_cells (i := 0) (k := 0) rfl rfl (by simp [szs])) ?_; simp only [Act.put, List.setIfInBounds_toArray, List.set_cons_succ, List.set_cons_zero]
    refine q_load (v := nilS) rfl rfl rfl rfl hs2 (fits_sl _ rfl rfl) (fun w1 h => h.field_cells (i := 1) (k := 0) rfl rfl (by simp [szs])) ?_; simp only [Act.put, List.setIfInBounds_toArray, List.set_cons_succ, List.set_cons_zero]
    refine q_move rfl rfl rfl rfl hs2 ?_; simp only [Act.put, List.setIfInBounds_toArray, List.set_cons_succ, List.set_cons_zero]
    clear hs2
    refine o_store (i := 0) (k := 0) rfl rfl rfl rfl rfl (.sched rfl rfl) hst (fits_sl nilS rfl rfl) (ok1_slice _ _ _) ?_ ?_ ?_
    (focus (simp [szs]; done))
    (focus (simp [szs]; done))
    intro w3 hst3
    clear hst
    simp only [List.set_cons_succ, List.set_cons_zero] at hst3
    refine ⟨hst3.pick [0, 1] (by decide), ?_⟩
    try simp only [Act.put, List.setIfInBounds_toArray, List.set_cons_succ, List.set_cons_zero]
    refine o_store (i := 1) (k := 0) rfl rfl rfl rfl rfl (.sched rfl rfl) hst3 (fits_sl nilS rfl rfl) (ok1_slice _ _ _) ?_ ?_ ?_
    (focus (simp [szs]; done))
    (focus (simp [szs]; done))
    intro w4 hst
    clear hst3
    simp only [List.set_cons_succ, List.set_cons_zero] at hst
    refine ⟨hst.pick [0, 1] (by decide), ?_⟩
    try simp only [Act.put, List.setIfInBounds_toArray, List.set_cons_succ, List.set_cons_zero]
    refine q_assign rfl rfl rfl rfl (hst.pick [0, 1] (by decide)) ?_; simp only [Act.put, List.setIfInBounds_toArray, List.set_cons_succ, List.set_cons_zero]
    refine sched_nil ?_
    try simp only [Act.put, List.setIfInBounds_toArray, List.set_cons_succ, List.set_cons_zero]
    go_wp2
    refine post_cell3 (i := 0) (i2 := 1) rfl rfl rfl rfl rfl hst rfl rfl (fits_sl nilS rfl rfl) (fits_sl nilS rfl rfl) ⟨[], [], false, none, 0, none, 0, .inr ⟨rfl, HP.out, rfl, rfl⟩, by simp, by simp, rfl, ?_⟩
    rw [rowH_nil]
    exact ((hst.nilrow 23 32).nilrow 23 32).pick [0, 1] (by decide)
end Go.Proofs.Ytonbgcehgmpnkaa
