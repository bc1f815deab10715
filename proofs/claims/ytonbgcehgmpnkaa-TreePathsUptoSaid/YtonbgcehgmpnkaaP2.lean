/- Ways, in plain terms. -/
import Derived.Test.YtonbgcehgmpnkaaG7
set_option linter.unusedVariables false
set_option linter.unusedSimpArgs false
namespace Go.Proofs.Ytonbgcehgmpnkaa
open Go Go.RowKit HL
theorem sl_den (A : Option Addr) (l : List Hash) (c : Nat) : sl A l c = (SV.one (.sl 0 A l.length c)).den := rfl
theorem rowH_rows (A : Option Addr) (l : List Hash) (c : Nat) : rowH A l c = Res.rows A c 23 hashEn l := rfl
theorem way_spec (g gl gk : Nat) (xs : List (Hash × KV × Nat)) (root : Hash) (h : Int) (l : List LeafP) (dest : Hash) (hh : High l) (hok : NewOk root h l) : CSpec Try.prog 11 [.one (.ptr 0 ⟨g, 0, none⟩), .agg [.hash dest]] [(0, treeR g gl gk xs root h l)] [] fun o L =>
    ∃ A c, ((wayOf l root h dest).getD []).length ≤ l.length ∧ o = .ret (.tup [.one (.sl 0 A ((wayOf l root h dest).getD []).length c), .one (.b (wayOf l root h dest).isSome)]) ∧ L = [Res.rows A c 23 hashEn ((wayOf l root h dest).getD [])] :=
  cspec_of fun w hB => (way_fn_calls g gl gk xs root h l dest w (treeR_get (hB 0 _ rfl)) hh hok.1 hok.2.1 hok.2.2.1).mono fun e w' ⟨A, c, h1, h2, h3⟩ =>
    ⟨.ret (.tup [.one (.sl 0 A ((wayOf l root h dest).getD []).length c), .one (.b (wayOf l root h dest).isSome)]), [Res.rows A c 23 hashEn ((wayOf l root h dest).getD [])], h2.symm, ⟨A, c, h1, rfl, rfl⟩, h3⟩
theorem path_spec (g gl gk : Nat) (xs : List (Hash × KV × Nat)) (root : Hash) (h : Int) (l : List LeafP) (a b : Hash) (hh : High l) (hok : NewOk root h l) : CSpec Try.prog 12 [.one (.ptr 0 ⟨g, 0, none⟩), .agg [.hash a], .agg [.hash b]] [(0, treeR g gl gk xs root h l)] [] fun o L =>
    ∃ d u ok A1 c1 A2 c2, (ok = true ∧ pathOf l root h a b = some (d, u) ∨ ok = false ∧ pathOf l root h a b = none ∧ d = [] ∧ u = []) ∧ d.length ≤ l.length ∧ u.length ≤ l.length ∧ o = .ret (.tup [.one (.sl 0 A1 d.length c1), .one (.sl 1 A2 u.length c2), .one (.b ok)]) ∧ L = [Res.rows A1 c1 23 hashEn d, Res.rows A2 c2 23 hashEn u] :=
  cspec_of fun w hB => (path_calls g gl gk xs root h l a b w (treeR_get (hB 0 _ rfl)) hh hok.1 hok.2.1 hok.2.2.1).mono fun e w' ⟨d, u, ok, A1, c1, A2, c2, h1, h2, h3, h4, h5⟩ =>
    ⟨.ret (.tup [.one (.sl 0 A1 d.length c1), .one (.sl 1 A2 u.length c2), .one (.b ok)]), [Res.rows A1 c1 23 hashEn d, Res.rows A2 c2 23 hashEn u], h4.symm, ⟨d, u, ok, A1, c1, A2, c2, h1, h2, h3, rfl, rfl⟩, h5⟩
/-! ### a way is a chain -/
theorem chainOk_cons {l : List LeafP} {frm i : Hash} {h : Int} {ids : List Hash} : chainOk l frm h (i :: ids) = true ↔ (findL l i).isSome = true ∧ ((findL l i).getD leaf0).parent = frm ∧ ((findL l i).getD leaf0).height = h + 1 ∧ ((findL l i).getD leaf0).mark ≠ 1 ∧ ((findL l i).getD leaf0).mark ≠ 4 ∧ chainOk l ((findL l i).getD leaf0).id (h + 1) ids = true := by
  rw [chainOk]
  split
  · rename_i hc
    simp only [Bool.or_eq_true, Bool.not_eq_true', decide_eq_false_iff_not, decide_eq_true_eq] at hc
    constructor
    · intro hf; cases hf
    · rintro ⟨h1, h2, h3, h4, h5, _⟩
      rcases hc with (((hc | hc) | hc) | hc) | hc
      · rw [h1] at hc; cases hc
      · exact absurd h2 hc
      · exact absurd h3 hc
      · exact absurd hc h4
      · exact absurd hc h5
  · rename_i hc
    simp only [Bool.or_eq_true, Bool.not_eq_true', decide_eq_false_iff_not, decide_eq_true_eq, not_or, Decidable.not_not, Bool.not_eq_false] at hc
    obtain ⟨⟨⟨⟨h1, h2⟩, h3⟩, h4⟩, h5⟩ := hc
    exact ⟨fun h6 => ⟨h1, h2, h3, h4, h5, h6⟩, fun h6 => h6.2.2.2.2.2⟩
theorem find_mem {l : List LeafP} {i : Hash} (h : (findL l i).isSome = true) : ((findL l i).getD leaf0) ∈ l ∧ ((findL l i).getD leaf0).id = i := by
  obtain ⟨x, hx⟩ := Option.isSome_iff_exists.1 h
  rw [hx]
  unfold findL at hx
  exact ⟨List.mem_of_find?_eq_some hx, by simpa using List.find?_some hx⟩
theorem chainOk_snoc {l : List LeafP} {k : Hash} (hf : (findL l k).isSome = true) (h4 : ((findL l k).getD leaf0).mark ≠ 1) (h5 : ((findL l k).getD leaf0).mark ≠ 4) : ∀ (ids : List Hash) (frm : Hash) (h : Int), chainOk l frm h ids = true → ((findL l k).getD leaf0).parent = (ids.getLast?).getD frm → ((findL l k).getD leaf0).height = h + ids.length + 1 → chainOk l frm h (ids ++ [k]) = true
  | [], frm, h, _, h2, h3 => by
    rw [List.nil_append, chainOk_cons]
    exact ⟨hf, h2, by simpa using h3, h4, h5, by rw [chainOk]⟩
  | i :: ids, frm, h, hc, h2, h3 => by
    rw [chainOk_cons] at hc
    obtain ⟨c1, c2, c3, c4, c5, c6⟩ := hc
    rw [List.cons_append, chainOk_cons]
    refine ⟨c1, c2, c3, c4, c5, chainOk_snoc hf h4 h5 ids _ _ c6 ?_ ?_⟩
    · rw [h2, (find_mem c1).2]
      cases ids with
      | nil => rfl
      | cons j ids => simp [List.getLast?_cons]
    · rw [h3]
      simp only [List.length_cons]
      omega
/-- Along a chain each stands behind what stands ahead of it. -/
theorem chain_desc {l : List LeafP} : ∀ (ids : List Hash) (frm : Hash) (h : Int), chainOk l frm h ids = true → ∀ y ∈ ids, Desc l frm y
  | [], _, _, _, y, hy => by cases hy
  | i :: ids, frm, h, hc, y, hy => by
    rw [chainOk_cons] at hc
    obtain ⟨c1, c2, c3, c4, c5, c6⟩ := hc
    have hm := find_mem c1
    have hi : i ∈ kidsOf l frm := List.mem_map.2 ⟨_, List.mem_filter.2 ⟨hm.1, by simpa using c2⟩, hm.2⟩
    rcases List.mem_cons.1 hy with rfl | hy
    · exact .kid hi
    · have h1 := chain_desc ids _ _ c6 y hy
      rw [hm.2] at h1
      have gen : ∀ z, Desc l i z → Desc l frm z := fun z hz => by
        induction hz with
        | kid hx => exact .on (.kid hi) hx
        | on _ hx ih => exact .on ih hx
      exact gen y h1
theorem chain_drop {l : List LeafP} : ∀ (ids : List Hash) (frm : Hash) (h : Int) (n : Nat) (k : Hash), chainOk l frm h ids = true → ids[n]? = some k → chainOk l k (h + n + 1) (ids.drop (n + 1)) = true
  | [], _, _, n, k, _, hk => by simp at hk
  | i :: ids, frm, h, 0, k, hc, hk => by
    rw [chainOk_cons] at hc
    simp only [List.getElem?_cons_zero, Option.some.injEq] at hk
    subst hk
    have := hc.2.2.2.2.2
    rw [(find_mem hc.1).2] at this
    simpa using this
  | i :: ids, frm, h, n + 1, k, hc, hk => by
    rw [chainOk_cons] at hc
    have := chain_drop ids _ _ n k hc.2.2.2.2.2 (by simpa using hk)
    rw [List.drop_succ_cons]
    rw [show h + ((n + 1 : Nat) : Int) + 1 = h + 1 + n + 1 by omega]
    exact this
end Go.Proofs.Ytonbgcehgmpnkaa
