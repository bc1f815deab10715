import Derived.Test.YtonbgcehgmpnkaaTn
set_option linter.unusedVariables false
set_option linter.unusedSimpArgs false
namespace Go.Proofs.Ytonbgcehgmpnkaa
open Go Go.RowKit HL BigFrame
theorem leafE_eq (i p : Hash) (h m : Int) : mkS [hval i, hval p, .int .i64 h, .int .i64 m] = leafE ⟨i, p, h, m⟩ := by unfold leafE leafV; rfl
theorem leaf_calls (n p h : Int) (w : World) : Calls Try.prog 33 #[.int .i64 n, .int .i64 p, .int .i64 h] w fun e w' => e = .returned (leafE ⟨idH n, idH p, h, 2⟩) ∧ St w w' No [] := by
  have hst := St.start w No
  go_enter Try.func33, Try.ntmps33
  go_wp2_with (first
    | (refine o_alloc (L := []) ty27 rfl (.list rfl) hst ?_; clear hst; intro w1 g6 hst; simp only [Act.put, List.setIfInBounds_toArray, List.set_cons_succ, List.set_cons_zero])
    | (refine o_call (vs := [.int .i64 n]) Try.func17 rfl rfl rfl rfl rfl (.list rfl) (id_calls n _) (by simp) ?_; rintro e w2 ⟨rfl, h3⟩; replace hst := hst.call h3; clear h3; simp only [List.nil_append] at hst; simp only [Act.put, List.setIfInBounds_toArray, List.set_cons_succ, List.set_cons_zero])
    | (refine o_call (vs := [.int .i64 p]) Try.func17 rfl rfl rfl rfl rfl (.list rfl) (id_calls p _) (by simp) ?_; rintro e w2 ⟨rfl, h3⟩; replace hst := hst.call h3; clear h3; simp only [List.nil_append] at hst; simp only [Act.put, List.setIfInBounds_toArray, List.set_cons_succ, List.set_cons_zero])
    | ((refine o_buildS [(0, hval (idH n)), (1, hval (idH p)), (2, .int .i64 h), (3, .int .i64 2)] ty27 pl27 rfl (.list rfl) rfl (by simp [partsFit, szs]) rfl ?_; simp only [applyParts, List.set_cons_succ, List.set_cons_zero]; simp only [Act.put, List.setIfInBounds_toArray, List.set_cons_succ, List.set_cons_zero]); rw [leafE_eq])
    | (refine o_store (i := 0) (k := 0) rfl rfl rfl rfl rfl (.list rfl) hst (fits_leaf ⟨idH n, idH p, h, 2⟩) (ok1_leafE _) ?_ ?_ ?_; (focus (simp [szs]; done)); (focus (simp [szs]; done)); clear hst; intro w1 hst; simp only [List.set_cons_succ, List.set_cons_zero] at hst; simp only [Act.put, List.setIfInBounds_toArray, List.set_cons_succ, List.set_cons_zero]))
  exact post_cell (i := 0) rfl rfl rfl hst rfl (fits_leaf _) (flat_single _) ⟨rfl, hst.drop 0⟩
def exL : List LeafP := [⟨idH 5, idH 0, 1, 2⟩, ⟨idH 3, idH 0, 1, 2⟩, ⟨idH 7, idH 5, 2, 2⟩, ⟨idH 6, idH 3, 2, 2⟩]
def rowL (A : Option Addr) (l : List LeafP) (c : Nat) : Res := Res.row A l.length c 27 66 (flat (l.map leafE))
theorem example_calls (w : World) : Calls Try.prog 18 #[] w fun e w' => ∃ A, e = .returned (.slice A 4 4) ∧ St w w' No [rowL A exL 4] := by
  have hst := St.start w No
  go_enter Try.func18, Try.ntmps18
  go_wp2_with (first
    | (refine o_call (vs := [.int .i64 5, .int .i64 0, .int .i64 1]) Try.func33 rfl rfl rfl rfl rfl (.list rfl) (leaf_calls 5 0 1 _) (by simp) ?_; rintro e w2 ⟨rfl, h3⟩; replace hst := hst.call h3; clear h3; simp only [List.nil_append] at hst; simp only [Act.put, List.setIfInBounds_toArray, List.set_cons_succ, List.set_cons_zero])
    | (refine o_call (vs := [.int .i64 3, .int .i64 0, .int .i64 1]) Try.func33 rfl rfl rfl rfl rfl (.list rfl) (leaf_calls 3 0 1 _) (by simp) ?_; rintro e w2 ⟨rfl, h3⟩; replace hst := hst.call h3; clear h3; simp only [List.nil_append] at hst; simp only [Act.put, List.setIfInBounds_toArray, List.set_cons_succ, List.set_cons_zero])
    | (refine o_call (vs := [.int .i64 7, .int .i64 5, .int .i64 2]) Try.func33 rfl rfl rfl rfl rfl (.list rfl) (leaf_calls 7 5 2 _) (by simp) ?_; rintro e w2 ⟨rfl, h3⟩; replace hst := hst.call h3; clear h3; simp only [List.nil_append] at hst; simp only [Act.put, List.setIfInBounds_toArray, List.set_cons_succ, List.set_cons_zero])
    | (refine o_call (vs := [.int .i64 6, .int .i64 3, .int .i64 2]) Try.func33 rfl rfl rfl rfl rfl (.list rfl) (leaf_calls 6 3 2 _) (by simp) ?_; rintro e w2 ⟨rfl, h3⟩; replace hst := hst.call h3; clear h3; simp only [List.nil_append] at hst; simp only [Act.put, List.setIfInBounds_toArray, List.set_cons_succ, List.set_cons_zero])
    | (refine o_buildSlice (vs := exL.map leafE) Try.underlying24 ty27 (by simp [szs]) rfl (.list rfl) hst rfl rfl (by intro v hv; exact leaves_sz exL v hv) (by simp [exL]) (by omega) ?_; clear hst; intro B w1 hst; simp only [Act.put, List.setIfInBounds_toArray, List.set_cons_succ, List.set_cons_zero]))
  go_ret
  exact ⟨_, rfl, hst⟩
theorem pick_calls (t n : Int) (w : World) (hn1 : 1 ≤ n) (hn2 : n ≤ 4611686018427387904) : Calls Try.prog 10 #[.int .i64 t, .int .i64 n] w fun e w' => ∃ r : Nat, e = .returned (.int .i64 r) ∧ (r : Int) < n ∧ St w w' No [] := by
  have hst := St.start w No
  have hnz : ¬ n = 0 := by omega
  have hn0 : ¬ n < 1 := by omega
  have h1 : t.tmod n < n := Int.tmod_lt_of_pos t (by omega)
  have h2 : - n < t.tmod n := by
    have := Int.lt_tmod_of_pos t (show 0 < n by omega)
    omega
  by_cases h0 : t.tmod n < 0
  · have hw : IntKind.i64.wrap (t.tmod n + n) = t.tmod n + n := by rw [IntKind.wrap_i64]; omega
    have hw2 : IntKind.i64.wrap (t.tmod n) = t.tmod n := by rw [IntKind.wrap_i64]; omega
    obtain ⟨r, hr, hrn⟩ : ∃ r : Nat, t.tmod n + n = r ∧ (r : Int) < n := ⟨(t.tmod n + n).toNat, by omega, by omega⟩
    have HR := Lib.hid hr
    clear hr h1 h2
    go_enter Try.func10, Try.ntmps10
    go_wp2
    go_ret
    exact ⟨r, by rw [← HR.out]; rfl, hrn, hst⟩
  · have hw2 : IntKind.i64.wrap (t.tmod n) = t.tmod n := by rw [IntKind.wrap_i64]; omega
    obtain ⟨r, hr, hrn⟩ : ∃ r : Nat, t.tmod n = r ∧ (r : Int) < n := ⟨(t.tmod n).toNat, by omega, by omega⟩
    have HR := Lib.hid hr
    clear hr h1 h2
    go_enter Try.func10, Try.ntmps10
    go_wp2
    go_ret
    exact ⟨r, by rw [← HR.out]; rfl, hrn, hst⟩
theorem ex_new : NewOk (idH 0) 0 exL := by
  refine ⟨by omega, by omega, by decide, by unfold Apart; decide +kernel, by decide +kernel⟩
theorem ex_lev : lev exL (idH 0) 0 1 = [idH 5, idH 3] ∧ lev exL (idH 0) 0 2 = [idH 7, idH 6] ∧ lev exL (idH 0) 0 3 = [] := by decide +kernel
theorem ex_path : pathOf exL (idH 0) 0 (idH 7) (idH 6) = some ([idH 7, idH 5], [idH 3, idH 6]) := by decide +kernel
theorem ex_best {n : Nat} {m : Hash} {rest : List Hash} (h1 : lev exL (idH 0) 0 n = m :: rest) (h2 : lev exL (idH 0) 0 (n + 1) = []) : n = 2 ∧ hmins m rest = idH 6 := by
  obtain ⟨e1, e2, e3⟩ := ex_lev
  have gen : ∀ k, lev exL (idH 0) 0 (k + 3) = [] := fun k => by
    induction k with
    | zero => exact e3
    | succ k ih => exact lev_nil ih
  match n, h1, h2 with
  | 0, _, h2 => rw [e1] at h2; cases h2
  | 1, _, h2 => rw [e2] at h2; cases h2
  | 2, h1, _ =>
    rw [e2] at h1
    injection h1 with h3 h4
    subst h3 h4
    exact ⟨rfl, by decide +kernel⟩
  | k + 3, h1, _ => rw [gen k] at h1; cases h1
end Go.Proofs.Ytonbgcehgmpnkaa
