/- Lemmas and walks: R8, R9, R6, R7. -/
import Derived.Test.YtonbgcehgmpnkaaGreatMT5
import Derived.Test.YtonbgcehgmpnkaaGreatMT2
import Derived.Test.YtonbgcehgmpnkaaGreatMT3
/- The reference: Path, Gone; turned; the program: made, Behind. -/

set_option linter.unusedVariables false
set_option linter.unusedSimpArgs false
set_option maxRecDepth 100000
set_option maxHeartbeats 8000000
namespace Go.Proofs.YtonbgcehgmpnkaaGreat
open Go Go.RowKit HL
theorem goneH_t {l : List LeafP} {h : Int} {dest : Hash} (hf : (findL l dest).isSome = true) : goneH l h dest = ((findL l dest).getD leaf0).height := by
  rw [goneH_in (by rw [mhas_lents, ← findL_any]; exact hf), mlook_lents]
  rfl
theorem goneH_f {l : List LeafP} {h : Int} {dest : Hash} (hf : (findL l dest).isSome = false) : goneH l h dest = h := goneH_out (by rw [mhas_lents, ← findL_any]; exact hf)
theorem cpl_t {x y : List Hash} {k : Nat} (h : (decide ((k : Int) < (x.length : Int)) && decide ((k : Int) < (y.length : Int)) && decide (x.getD k default = y.getD k default)) = true) : cpl (x.drop k) (y.drop k) = cpl (x.drop (k + 1)) (y.drop (k + 1)) + 1 := by
  simp only [Bool.and_eq_true, decide_eq_true_eq] at h
  obtain ⟨⟨h1, h2⟩, h3⟩ := h
  rw [cpl_step (by omega) (by omega), if_pos]
  rw [List.getD_eq_getElem?_getD, List.getD_eq_getElem?_getD, List.getElem?_eq_getElem (by omega), List.getElem?_eq_getElem (by omega)] at h3
  exact h3
theorem cpl_f {x y : List Hash} {k : Nat} (h : (decide ((k : Int) < (x.length : Int)) && decide ((k : Int) < (y.length : Int)) && decide (x.getD k default = y.getD k default)) = false) : cpl (x.drop k) (y.drop k) = 0 := by
  by_cases h1 : k < x.length
  · by_cases h2 : k < y.length
    · rw [decide_eq_true (by omega : (k : Int) < (x.length : Int)), decide_eq_true (by omega : (k : Int) < (y.length : Int))] at h
      simp only [Bool.and_self, Bool.true_and, decide_eq_false_iff_not] at h
      rw [cpl_step h1 h2, if_neg]
      rw [List.getD_eq_getElem?_getD, List.getD_eq_getElem?_getD, List.getElem?_eq_getElem h1, List.getElem?_eq_getElem h2] at h
      exact h
    · exact cpl_out (.inr (by omega))
  · exact cpl_out (.inl (by omega))
theorem rpath_spec (g : Nat) (root : Hash) (h : Int) (A : Option Addr) (c : Nat) (l : List LeafP) (a b : Hash) (hw : Wide64 l) (hok : NewOk root h l) : CSpec Tryz.prog 20 [.one (.ptr 0 ⟨g, 0, none⟩), .agg [.hash a], .agg [.hash b]] (mB g root h A c l) [] fun o L =>
    ∃ d u ok A1 c1 A2 c2, (ok = true ∧ pathOf l root h a b = some (d, u) ∨ ok = false ∧ pathOf l root h a b = none ∧ d = [] ∧ u = []) ∧ d.length ≤ l.length ∧ u.length ≤ l.length ∧ o = .ret (.tup [.one (.sl 0 A1 d.length c1), .one (.sl 1 A2 u.length c2), .one (.b ok)]) ∧ L = [Res.rows A1 c1 23 hashEn d, Res.rows A2 c2 23 hashEn u] := by
  have h2 := hok.2.2.1
  refine k_enter Tryz.func20 rfl rfl (h := fun w0 => ?_)
  refine c_seq ?_
  refine c_region ?_
  refine l_do d_box (fun g4 => ?_)
  refine l_do d_box (fun g5 => ?_)
  refine l_rd r_assign ?_
  refine l_rd r_assign ?_
  refine l_rd r_assign ?_
  refine l_nil ?_
  refine x_then ?_
  refine c_seq ?_
  refine c_region ?_
  refine l_rd r_move ?_
  first | refine l_rd r_load ?_ | refine l_rd r_loadE ?_ | refine l_rd (r_loadT (hj := by omega)) ?_
  refine l_call 20950 [(100, 100)] (rway_spec g root h A c l a hw hok) Tryz.func19 (h := ?_)
  rintro _ _ (⟨Aa, ca, hla, rfl, rfl⟩)
  generalize hWa : (wayOf l root h a).getD [] = wa at hla ⊢
  refine l_rd r_move ?_
  first | refine l_rd r_extract ?_ | refine l_rd r_extractN ?_
  refine l_rd r_extract ?_
  refine l_rd r_assign ?_
  refine l_rd r_assign ?_
  refine l_nil ?_
  refine x_then ?_
  refine c_seq ?_
  refine c_region ?_
  refine l_rd r_move ?_
  first | refine l_rd r_load ?_ | refine l_rd r_loadE ?_ | refine l_rd (r_loadT (hj := by omega)) ?_
  refine l_call 21250 [(100, 100)] (rway_spec g root h A c l b hw hok) Tryz.func19 (h := ?_)
  rintro _ _ (⟨Ab, cb, hlb, rfl, rfl⟩)
  generalize hWb : (wayOf l root h b).getD [] = wb at hlb ⊢
  refine l_rd r_move ?_
  first | refine l_rd r_extract ?_ | refine l_rd r_extractN ?_
  refine l_rd r_extract ?_
  refine l_rd r_assign ?_
  refine l_rd r_assign ?_
  refine l_nil ?_
  refine x_then ?_
  refine c_seq ?_
  refine c_seq ?_
  refine c_region ?_
  refine l_rd r_move ?_
  refine l_rd r_not ?_
  refine l_rd r_move ?_
  refine l_rdG [] rfl (fun hg => r_move) ?_
  refine l_rdG [31] ⟨_, _, ⟨_, .inl ⟨rfl, rfl⟩⟩, rfl, rfl⟩ (fun hg => r_not) ?_
  first | refine l_rd r_or ?_ | refine l_rd r_pickB ?_ | refine l_rd r_pick ?_
  refine l_nil ?_
  refine x_then ?_
  first | refine c_ifd rfl (fun h33 => ?_) (fun h33 => ?_) | refine c_ifn rfl (fun h33 => ?_) (fun h33 => ?_) | refine c_if rfl (fun h33 => ?_) (fun h33 => ?_)
  · refine c_seq ?_
    refine c_region ?_
    refine l_rd r_assign ?_
    refine l_rd r_assign ?_
    refine l_rd r_assign ?_
    refine l_nil ?_
    refine x_then ?_
    refine c_ret ?_
    refine x_thenR ?_
    refine k_nil 704 23 hashEn ?_
    refine k_nil 705 23 hashEn ?_
    refine k_ret [704, 705] (.tup [.one (.sl 0 none 0 0), .one (.sl 1 none 0 0), .one (.b false)]) (.cons (.tmp rfl) (.cons (.tmp rfl) (.cons (.tmp rfl) .nil))) (h := ?_)
    refine ⟨[], [], false, none, 0, none, 0, .inr ⟨rfl, pathOf_none ?_, rfl, rfl⟩, Nat.zero_le _, Nat.zero_le _, rfl, rfl⟩
    simpa [Bool.or_eq_true, Bool.not_eq_true'] using h33
  · simp only [Bool.or_eq_false_iff, Bool.not_eq_false'] at h33
    have hwa : wayOf l root h a = some wa := by obtain ⟨x, hx⟩ := Option.isSome_iff_exists.1 h33.1; rw [hx] at hWa ⊢; rw [← hWa]; rfl
    have hwb : wayOf l root h b = some wb := by obtain ⟨x, hx⟩ := Option.isSome_iff_exists.1 h33.2; rw [hx] at hWb ⊢; rw [← hWb]; rfl
    refine c_skip ?_
    refine x_then ?_
    refine c_seq ?_
    refine c_region ?_
    refine l_rd r_assign ?_
    refine l_nil ?_
    refine x_then ?_
    refine c_seq ?_
    refine c_block ?_
    refine c_loopA (fun m E H => ∃ (k : Nat), E = [(13, vint (((k : Nat) : Int)))] ∧ H = [] ∧ m = wa.length - k ∧ k ≤ wa.length ∧ (cpl wa wb = k + cpl (wa.drop k) (wb.drop k))) [0, 1, 2, 4, 5, 9, 10, 11, 12, 14, 15, 16, 17, 18, 19, 20, 21, 22, 23, 24, 25, 26, 27, 28, 29, 30, 31, 32, 33, 57, 58, 59, 60, 61, 62, 63, 64, 65, 66, 67, 68, 69, 70, 71, 72, 73, 74, 75]  (wa.length) ([(13, vint (((0 : Nat) : Int)))]) ([]) rfl rfl (⟨0, rfl, rfl, by omega, by omega, by simp⟩) (by repeat (first | exact trivial | refine ⟨⟨_, rfl, (by first | rfl | exact den_int (by omega))⟩, ?_⟩)) (by repeat (first | exact trivial | refine ⟨rfl, ?_⟩)) rfl (fun _ _ _ hI => ?_)
    obtain ⟨k, rfl, rfl, hmk, hk, hik0⟩ := hI
    refine c_seq ?_
    refine c_seq ?_
    refine c_draw (.q 0 (.q 1 (.q 2 (.q 3 (.q 4 (.q 5 (.q 6 (.q 7 (.q 8 (.q 9 (.q 10 (.q 11 (.q 12 (.q 13 (.q 14 (.q 15 (.q 16 (.q 17 (.q 18 (.q 19 (.q 20 .nil))))))))))))))))))))) [10004, 10005, 20950, 20951, 20952, 20953, 21250, 21251, 21252, 21253, 10036, 10041, 10058, 10070, 10071] (hm := by kernel_rfl) (hs := by kernel_rfl) (hk := by kernel_rfl) (hQ := fun d v c a w h => by cases d <;> exact h) (h := ?_)
    refine q_rd rfl r_move ?_
    refine q_rd rfl r_move ?_
    refine q_rd rfl r_len ?_
    refine q_rd rfl r_lss ?_
    refine q_rd rfl r_move ?_
    refine q_rdG rfl [] rfl (fun hg => r_move) ?_
    refine q_rdG rfl [] rfl (fun hg => r_move) ?_
    refine q_rdG rfl [40] ⟨_, _, ⟨_, .inl ⟨rfl, rfl⟩⟩, rfl, rfl⟩ (fun hg => r_len) ?_
    refine q_rdG rfl [39, 41] ⟨_, _, ⟨_, .inl ⟨rfl, rfl⟩⟩, ⟨_, _, ⟨_, .inl ⟨rfl, rfl⟩⟩, rfl, rfl⟩, rfl⟩ (fun hg => r_lss) ?_
    first | refine q_rd rfl r_and ?_ | refine q_rd rfl r_pickB ?_ | refine q_rd rfl r_pick ?_
    refine q_rd rfl r_move ?_
    refine q_rdG rfl [] rfl (fun hg => r_move) ?_
    refine q_rdG rfl [] rfl (fun hg => r_move) ?_
    refine q_rdG rfl [45, 46] ⟨_, _, ⟨_, .inl ⟨rfl, rfl⟩⟩, ⟨_, _, ⟨_, .inl ⟨rfl, rfl⟩⟩, rfl, rfl⟩, rfl⟩ (fun hg => (r_indexT (hj := (by first | omega | (have hgg := hg; simp only [cond_true, cond_false, Bool.and_eq_true, Bool.or_eq_true, Bool.not_eq_true', Bool.not_eq_false', Bool.and_eq_false_imp, Bool.or_eq_false_iff, decide_eq_true_eq, decide_eq_false_iff_not] at hgg; omega))))) ?_
    first | refine q_rdG rfl [47] ⟨_, _, ⟨_, .inl ⟨rfl, rfl⟩⟩, rfl, rfl⟩ (fun hg => r_load) ?_ | refine q_rdG rfl [47] ⟨_, _, ⟨_, .inl ⟨rfl, rfl⟩⟩, rfl, rfl⟩ (fun hg => r_loadE) ?_ | refine q_rdG rfl [47] ⟨_, _, ⟨_, .inl ⟨rfl, rfl⟩⟩, rfl, rfl⟩ (fun hg => (r_loadT (hj := (by first | omega | (have hgg := hg; simp only [cond_true, cond_false, Bool.and_eq_true, Bool.or_eq_true, Bool.not_eq_true', Bool.not_eq_false', Bool.and_eq_false_imp, Bool.or_eq_false_iff, decide_eq_true_eq, decide_eq_false_iff_not] at hgg; omega))))) ?_
    refine q_rdG rfl [] rfl (fun hg => r_move) ?_
    refine q_rdG rfl [] rfl (fun hg => r_move) ?_
    refine q_rdG rfl [49, 50] ⟨_, _, ⟨_, .inl ⟨rfl, rfl⟩⟩, ⟨_, _, ⟨_, .inl ⟨rfl, rfl⟩⟩, rfl, rfl⟩, rfl⟩ (fun hg => (r_indexT (hj := (by first | omega | (have hgg := hg; simp only [cond_true, cond_false, Bool.and_eq_true, Bool.or_eq_true, Bool.not_eq_true', Bool.not_eq_false', Bool.and_eq_false_imp, Bool.or_eq_false_iff, decide_eq_true_eq, decide_eq_false_iff_not] at hgg; omega))))) ?_
    first | refine q_rdG rfl [51] ⟨_, _, ⟨_, .inl ⟨rfl, rfl⟩⟩, rfl, rfl⟩ (fun hg => r_load) ?_ | refine q_rdG rfl [51] ⟨_, _, ⟨_, .inl ⟨rfl, rfl⟩⟩, rfl, rfl⟩ (fun hg => r_loadE) ?_ | refine q_rdG rfl [51] ⟨_, _, ⟨_, .inl ⟨rfl, rfl⟩⟩, rfl, rfl⟩ (fun hg => (r_loadT (hj := (by first | omega | (have hgg := hg; simp only [cond_true, cond_false, Bool.and_eq_true, Bool.or_eq_true, Bool.not_eq_true', Bool.not_eq_false', Bool.and_eq_false_imp, Bool.or_eq_false_iff, decide_eq_true_eq, decide_eq_false_iff_not] at hgg; omega))))) ?_
    refine q_rdG rfl [48, 52] ⟨_, _, ⟨_, .inl ⟨rfl, rfl⟩⟩, ⟨_, _, ⟨_, .inl ⟨rfl, rfl⟩⟩, rfl, rfl⟩, rfl⟩ (fun hg => r_eqH) ?_
    first | refine q_rd rfl r_and ?_ | refine q_rd rfl r_pickB ?_ | refine q_rd rfl r_pick ?_
    refine s_nil ?_
    refine x_then ?_
    first | refine c_ifd rfl (fun h54 => ?_) (fun h54 => ?_) | refine c_ifn rfl (fun h54 => ?_) (fun h54 => ?_) | refine c_if rfl (fun h54 => ?_) (fun h54 => ?_)
    · simp only [Int.toNat_natCast] at h54
      have h54a := h54
      simp only [Bool.and_eq_true, decide_eq_true_eq] at h54a
      refine c_skip ?_
      refine x_then ?_
      refine c_block ?_
      refine c_region ?_
      refine l_rd r_move ?_
      first | refine l_rd r_add ?_ | refine l_rd r_addW ?_
      refine l_rd r_assign ?_
      refine l_nil ?_
      refine x_in (x_then ?_)
      refine k_again (wa.length - (k + 1)) ⟨k + 1, rfl, rfl, by omega, by omega, by rw [hik0, cpl_t h54]; omega⟩ (by omega) (by repeat (first | exact trivial | refine ⟨⟨_, rfl, (by first | rfl | exact den_int (by omega))⟩, ?_⟩)) (by repeat (first | exact trivial | refine ⟨rfl, ?_⟩))
    · simp only [Int.toNat_natCast] at h54
      have hkc : k = cpl wa wb := by rw [hik0, cpl_f h54]; omega
      have hle := cpl_le wa wb
      refine c_exit ?_
      refine x_thenE (x_thenE (x_inE (x_then ?_)))
      refine c_seq ?_
      refine c_region ?_
      refine l_rd r_assign ?_
      refine l_nil ?_
      refine x_then ?_
      refine c_seq ?_
      refine c_seq ?_
      refine c_region ?_
      refine l_rd r_move ?_
      refine l_rd r_len ?_
      first | refine l_rd r_sub ?_ | refine l_rd r_subW ?_
      refine l_rd r_assign ?_
      refine l_nil ?_
      refine x_then ?_
      refine c_block ?_
      refine k_nil 614 23 hashEn ?_
      refine c_loopA (fun m E H => ∃ (j : Nat) (dn : List Hash) (dnA : Option Addr) (dnC : Nat), E = [(15, vint ((wa.length : Int) - 1 - (j : Int))), (14, vsl 614 dnA dn.length dnC)] ∧ H = [(614, Res.rows dnA dnC 23 hashEn dn)] ∧ m = (wa.length - k) - j ∧ j ≤ (wa.length - k) ∧ (dn = wa.reverse.take j) ∧ (dn.length = j)) [0, 1, 2, 4, 5, 9, 10, 11, 12, 13, 16, 17, 18, 19, 20, 21, 22, 23, 24, 25, 26, 27, 28, 29, 30, 31, 32, 33, 34, 35, 36, 37, 38, 39, 40, 41, 42, 43, 44, 45, 46, 47, 48, 49, 50, 51, 52, 53, 54, 55, 56, 57, 58, 59, 72, 73, 74, 75]  ((wa.length - k)) ([(15, vint ((wa.length : Int) - 1 - (0 : Int))), (14, vsl 614 (none) ([]).length (0))]) ([(614, Res.rows (none) (0) 23 hashEn ([]))]) rfl rfl (⟨0, [], none, 0, rfl, rfl, by omega, by omega, rfl, rfl⟩) (by repeat (first | exact trivial | refine ⟨⟨_, rfl, (by first | rfl | exact den_int (by omega))⟩, ?_⟩)) (by repeat (first | exact trivial | refine ⟨rfl, ?_⟩)) rfl (fun _ _ _ hI => ?_)
      obtain ⟨j, dn, dnA, dnC, rfl, rfl, hmj, hj, hij0, hij1⟩ := hI
      refine c_seq ?_
      refine c_seq ?_
      refine c_region ?_
      refine l_rd r_move ?_
      refine l_rd r_move ?_
      refine l_rd r_geq ?_
      refine l_nil ?_
      refine x_then ?_
      first | refine c_ifd rfl (fun h62 => ?_) (fun h62 => ?_) | refine c_ifn rfl (fun h62 => ?_) (fun h62 => ?_) | refine c_if rfl (fun h62 => ?_) (fun h62 => ?_)
      · refine c_skip ?_
        refine x_then ?_
        refine c_seq ?_
        refine c_block ?_
        refine c_region ?_
        refine l_rd r_move ?_
        refine l_rd r_move ?_
        refine l_rd r_move ?_
        first | refine l_ix (fun ad68 y68 hA68 h68 => ?_) | refine l_rd (r_indexT (hj := by omega)) ?_
        first | refine l_rd r_load ?_ | refine l_rd r_loadE ?_ | refine l_rd (r_loadT (hj := by omega)) ?_
        refine l_do (d_bslice [_]) (fun B70 => ?_)
        refine l_do d_append (fun p71 => ?_)
        refine l_rd r_assign ?_
        refine l_nil ?_
        refine x_in (x_then ?_)
        refine c_region ?_
        refine l_rd r_move ?_
        first | refine l_rd r_sub ?_ | refine l_rd r_subW ?_
        refine l_rd r_assign ?_
        refine l_nil ?_
        refine x_then ?_
        refine k_again ((wa.length - k) - (j + 1)) ⟨j + 1, dn ++ [wa.getD ((wa.length : Int) - 1 - (j : Int)).toNat default], p71.1, p71.2, rfl, rfl, by omega, by omega, by rw [rev_take default (by omega), hij0]; congr 3; omega, by rw [List.length_append, hij1]; rfl⟩ (by omega) (by repeat (first | exact trivial | refine ⟨⟨_, rfl, (by first | rfl | exact den_int (by omega))⟩, ?_⟩)) (by repeat (first | exact trivial | refine ⟨rfl, ?_⟩))
      · refine c_exit ?_
        refine x_thenE (x_thenE (x_inE (x_then ?_)))
        refine c_seq ?_
        refine c_draw (.q 0 (.q 1 (.q 2 (.q 3 (.q 4 (.q 5 (.q 6 .nil))))))) [10004, 10005, 20950, 20951, 20952, 20953, 21250, 21251, 21252, 21253, 10036, 10041, 10058, 10070, 10071] (hm := by kernel_rfl) (hs := by kernel_rfl) (hk := by kernel_rfl) (hQ := fun d v c a w h => by cases d <;> exact h) (h := ?_)
        refine q_rd rfl r_move ?_
        refine q_rd rfl r_move ?_
        refine q_rd rfl r_move ?_
        refine q_rd rfl (r_sliceL (j := k)) ?_
        refine q_rd rfl r_assign ?_
        refine q_rd rfl r_assign ?_
        refine q_rd rfl r_assign ?_
        refine s_nil ?_
        refine x_then ?_
        refine c_ret ?_
        refine k_conv 21250 (Res.rows (tailA Ab cb k 32) (cb - k) 23 hashEn (wb.drop k)) rfl (fun w h => rows_tail h (by omega)) (fun b hb => by rw [fp_rows] at hb ⊢; rw [← hb, obl_tailA]) ?_
        refine k_val 7 (vsl 1 (tailA Ab cb k 32) (wb.drop k).length (cb - k)) rfl (by rw [List.length_drop]; rfl) ?_
        refine k_ret [614, 21250] (.tup [.one (.sl 0 dnA dn.length dnC), .one (.sl 1 (tailA Ab cb k 32) (wb.drop k).length (cb - k)), .one (.b true)]) (.cons (.tmp rfl) (.cons (.tmp rfl) (.cons (.tmp rfl) .nil))) (h := ?_)
        have hdn : dn = (wa.drop k).reverse := by rw [hij0, List.reverse_drop, show j = wa.length - k by omega]
        refine ⟨dn, wb.drop k, true, dnA, dnC, _, _, .inl ⟨rfl, ?_⟩, by omega, by rw [List.length_drop]; omega, rfl, rfl⟩
        rw [pathOf_some hwa hwb, ← hkc, hdn]
theorem keep_keys {s : List (Hash × Bool × Nat)} {c : Nat} {ids : List Hash} {k : Nat} {y : Hash} (hy : ids[k]? = some y) (h : ∀ z, z ∈ s.map (·.1) ↔ z ∈ ids.take k) : ∀ z, z ∈ (mput s c y true).map (·.1) ↔ z ∈ ids.take (k + 1) := fun z => by
  rw [put_keys, h, take_get hy, List.mem_append, List.mem_singleton]
  exact ⟨fun h => h.symm, fun h => h.symm⟩
theorem AllT.put {s : List (Hash × Bool × Nat)} {c : Nat} {y : Hash} (h : AllT s) : AllT (mput s c y true) := fun x hx => by
  unfold mput at hx
  split at hx
  · revert hx
    generalize hs : mset s y true = s'
    intro hx
    have : ∀ (t : List (Hash × Bool × Nat)), AllT t → AllT (mset t y true) := by
      intro t
      induction t with
      | nil => intro _ x hx; exact absurd hx (by simp [mset])
      | cons e t ih =>
        intro ht x hx
        obtain ⟨k, v, b⟩ := e
        rw [mset] at hx
        split at hx
        · rcases List.mem_cons.1 hx with rfl | hx
          · rfl
          · exact ht x (List.mem_cons_of_mem _ hx)
        · rcases List.mem_cons.1 hx with rfl | hx
          · exact ht _ (List.mem_cons_self ..)
          · exact ih (fun x hx => ht x (List.mem_cons_of_mem _ hx)) x hx
    exact this s h x (by rw [hs]; exact hx)
  · rcases List.mem_append.1 hx with hx | hx
    · exact h x hx
    · rw [List.mem_singleton.1 hx]
/-- The reference's Gone, amid its work. -/
structure RG (l : List LeafP) (h : Int) (dest : Hash) (k : Nat) (out : List Hash) : Prop where
  sorted : out.Pairwise hlt
  iff : ∀ y, y ∈ out ↔ ∃ x ∈ l.take k, x.id = y ∧ GoneP l h dest x
theorem RG.len {l : List LeafP} {h : Int} {dest : Hash} {k : Nat} {out : List Hash} (hi : RG l h dest k out) : out.length ≤ l.length := sorted_len hi.sorted fun y hy => by
  obtain ⟨x, hx, rfl, _⟩ := (hi.iff y).1 hy
  exact List.mem_map_of_mem (List.mem_of_mem_take hx)
theorem RG.yes {l : List LeafP} {h : Int} {dest : Hash} {k : Nat} {out r : List Hash} {x : LeafP} (hi : RG l h dest k out) (hx : l[k]? = some x) (hg : GoneP l h dest x) (hr : PutIs out x.id r) : RG l h dest (k + 1) r := by
  refine ⟨hr.sorted hi.sorted, fun y => ?_⟩
  rw [hr.mem, hi.iff, take_get hx]
  constructor
  · rintro (rfl | ⟨z, hz, h1, h2⟩)
    · exact ⟨x, by simp, rfl, hg⟩
    · exact ⟨z, List.mem_append_left _ hz, h1, h2⟩
  · rintro ⟨z, hz, h1, h2⟩
    rcases List.mem_append.1 hz with hz | hz
    · exact .inr ⟨z, hz, h1, h2⟩
    · rw [List.mem_singleton.1 hz] at h1; exact .inl h1.symm
theorem RG.no {l : List LeafP} {h : Int} {dest : Hash} {k : Nat} {out : List Hash} {x : LeafP} (hi : RG l h dest k out) (hx : l[k]? = some x) (hg : ¬ GoneP l h dest x) : RG l h dest (k + 1) out := by
  refine ⟨hi.sorted, fun y => ?_⟩
  rw [hi.iff, take_get hx]
  constructor
  · rintro ⟨z, hz, h1, h2⟩
    exact ⟨z, List.mem_append_left _ hz, h1, h2⟩
  · rintro ⟨z, hz, h1, h2⟩
    rcases List.mem_append.1 hz with hz | hz
    · exact ⟨z, hz, h1, h2⟩
    · rw [List.mem_singleton.1 hz] at h2; exact absurd h2 hg
theorem gone_dec {l : List LeafP} {h : Int} {dest : Hash} {s : List (Hash × Bool × Nat)} {ids : List Hash} {x : LeafP} (ha : AllT s) (hk : ∀ z, z ∈ s.map (·.1) ↔ z ∈ ids) (hd : ∀ y, y ∈ ids ↔ Desc l dest y) : (!(mlook s x.id).getD false && !((decide (x.mark = 1) || decide (x.mark = 4)) && decide (goneH l h dest < x.height))) = true ↔ GoneP l h dest x := by
  have e1 : (mlook s x.id).getD false = true ↔ Desc l dest x.id := by
    rw [← hd, ← hk]
    constructor
    · intro h; exact look_yes ha (by rw [h]; rfl)
    · intro h
      cases hl : (mlook s x.id).getD false with
      | true => rfl
      | false => exact absurd h (look_no ha (by rw [hl]; rfl))
  have e2 : looseL x = (decide (x.mark = 1) || decide (x.mark = 4)) := rfl
  unfold GoneP
  rw [← e1, e2]
  simp only [Bool.and_eq_true, Bool.not_eq_true', decide_eq_true_eq, Bool.and_eq_false_imp, decide_eq_false_iff_not, not_and, Bool.not_eq_true]
theorem rgone_spec (g : Nat) (root : Hash) (h : Int) (A : Option Addr) (c : Nat) (l : List LeafP) (dest : Hash) (hw : Wide64 l) (hok : NewOk root h l) : CSpec Tryz.prog 26 [.one (.ptr 0 ⟨g, 0, none⟩), .agg [.hash dest]] (mB g root h A c l) [] fun o L =>
    ∃ ids A c, GoneIs l root h dest ids ∧ o = .ret (vsl 0 A ids.length c) ∧ L = [Res.rows A c 23 hashEn ids] := by
  have h2 := hok.2.2.1
  refine k_enter Tryz.func26 rfl rfl (h := fun w0 => ?_)
  refine c_seq ?_
  refine c_region ?_
  refine l_do d_box (fun g3 => ?_)
  refine l_rd r_assign ?_
  refine l_nil ?_
  refine x_then ?_
  refine c_seq ?_
  refine c_seq ?_
  refine c_region ?_
  refine l_rd r_move ?_
  first | refine l_rd r_load ?_ | refine l_rd r_loadE ?_ | refine l_rd (r_loadT (hj := by omega)) ?_
  refine l_call 20850 [(100, 100)] (rstands_spec g root h A c l dest hw hok) Tryz.func24 (h := ?_)
  rintro _ _ (⟨rfl, rfl⟩)
  refine l_rd r_not ?_
  refine l_nil ?_
  refine x_then ?_
  first | refine c_ifd rfl (fun h18 => ?_) (fun h18 => ?_) | refine c_ifn rfl (fun h18 => ?_) (fun h18 => ?_) | refine c_if rfl (fun h18 => ?_) (fun h18 => ?_)
  · refine c_seq ?_
    refine c_region ?_
    refine l_rd r_assign ?_
    refine l_nil ?_
    refine x_then ?_
    refine c_ret ?_
    refine x_thenR ?_
    refine k_nil 704 23 hashEn ?_
    refine k_ret [704] (.s (.one (.sl 0 none 0 0))) (.cons (.tmp rfl) .nil) (h := ?_)
    exact ⟨[], none, 0, ⟨List.Pairwise.nil, Nat.zero_le _, by rw [if_neg (by simpa using h18)]⟩, rfl, rfl⟩
  · refine c_skip ?_
    refine x_then ?_
    refine c_seq ?_
    refine c_region ?_
    refine l_rd r_move ?_
    first | refine l_rd r_nilCheck ?_ | refine l_rd r_nilCheckF ?_
    first | refine l_rd r_field ?_ | refine l_rd r_fieldE ?_
    first | refine l_rd r_load ?_ | refine l_rd r_loadE ?_ | refine l_rd (r_loadT (hj := by omega)) ?_
    refine l_rd r_assign ?_
    refine l_nil ?_
    refine x_then ?_
    refine c_seq ?_
    refine c_region ?_
    refine l_rd r_move ?_
    first | refine l_rd r_load ?_ | refine l_rd r_loadE ?_ | refine l_rd (r_loadT (hj := by omega)) ?_
    refine l_call 21300 [(100, 100)] (rleaf_spec g root h A c l dest h2) Tryz.func38 (h := ?_)
    rintro _ _ (⟨rfl, rfl⟩)
    refine l_rd r_move ?_
    first | refine l_rd r_extract ?_ | refine l_rd r_extractN ?_
    refine l_rd r_extract ?_
    refine l_do d_alloc (fun g6 => ?_)
    first | refine l_do1 d_store ?_ | refine l_do1 d_storeE ?_
    refine l_rd r_assign ?_
    refine l_nil ?_
    refine x_then ?_
    refine c_seq ?_
    refine c_seq ?_
    refine c_region ?_
    refine l_rd r_move ?_
    refine l_nil ?_
    refine x_then ?_
    refine c_cutA (fun E H => E = [(5, vint (goneH l h dest))] ∧ H = []) [0, 1, 3, 6, 7, 8, 9, 10, 11, 12, 13, 14, 15, 16, 17, 18, 19, 20, 21, 22, 23, 24, 25, 26, 27, 28, 29, 32, 33, 34, 35, 36, 37, 38, 39, 40, 41, 42, 43, 44, 45, 46, 47, 48, 49, 50, 51, 52, 53, 54, 55, 56, 57, 58, 59, 60, 61, 62, 63, 64, 65, 66, 67, 68, 69, 70, 71, 72, 73, 74, 75, 76, 77, 78, 79, 80, 81, 82, 83, 84, 85, 86, 87, 88, 89, 90] [] rfl rfl ?_ ?_
    · first | refine c_ifd rfl (fun h29 => ?_) (fun h29 => ?_) | refine c_ifn rfl (fun h29 => ?_) (fun h29 => ?_) | refine c_if rfl (fun h29 => ?_) (fun h29 => ?_)
      · refine c_region ?_
        first | refine l_rd r_field ?_ | refine l_rd r_fieldE ?_
        first | refine l_rd r_load ?_ | refine l_rd r_loadE ?_ | refine l_rd (r_loadT (hj := by omega)) ?_
        refine l_rd r_assign ?_
        refine l_nil ?_
        refine x_then ?_
        first | refine k_val 5 (vint (goneH l h dest)) rfl (den_int (goneH_t h29).symm) ?_ | refine k_val 5 (vint (goneH l h dest)) rfl (den_int (goneH_f h29).symm) ?_
        refine k_join (⟨rfl, rfl⟩) (by repeat (first | exact trivial | refine ⟨⟨_, rfl, (by first | rfl | exact den_int (by omega))⟩, ?_⟩)) (by repeat (first | exact trivial | refine ⟨rfl, ?_⟩))
      · refine c_skip ?_
        refine x_then ?_
        first | refine k_val 5 (vint (goneH l h dest)) rfl (den_int (goneH_t h29).symm) ?_ | refine k_val 5 (vint (goneH l h dest)) rfl (den_int (goneH_f h29).symm) ?_
        refine k_join (⟨rfl, rfl⟩) (by repeat (first | exact trivial | refine ⟨⟨_, rfl, (by first | rfl | exact den_int (by omega))⟩, ?_⟩)) (by repeat (first | exact trivial | refine ⟨rfl, ?_⟩))
    · rintro _ _ (⟨rfl, rfl⟩)
      refine x_then ?_
      refine c_seq ?_
      refine c_region ?_
      refine l_do (d_makeMap hashEn boolEn) (fun g32 => ?_)
      refine l_rd r_assign ?_
      refine l_nil ?_
      refine x_then ?_
      refine c_seq ?_
      refine c_region ?_
      refine l_rd r_move ?_
      first | refine l_rd r_load ?_ | refine l_rd r_loadE ?_ | refine l_rd (r_loadT (hj := by omega)) ?_
      refine l_call 21750 [(100, 100)] (rbehind_spec g root h A c l dest h2) Tryz.func25 (h := ?_)
      rintro _ _ (⟨ids, Ai, ci, hsort, hidl, hdesc, rfl, rfl⟩)
      refine l_rd r_assign ?_
      refine l_nil ?_
      refine x_then ?_
      refine c_seq ?_
      refine c_seq ?_
      refine c_region ?_
      refine l_rd r_assign ?_
      refine l_nil ?_
      refine x_then ?_
      refine c_block ?_
      refine c_loopA (fun m E H => ∃ (k : Nat) (s : List (Hash × Bool × Nat)) (c0 : Nat), E = [(10, vint (((k : Nat) : Int)))] ∧ H = [(10032, Res.mp g32 hashEn boolEn s c0)] ∧ m = ids.length - k ∧ k ≤ ids.length ∧ (MWf s c0) ∧ (AllT s) ∧ (∀ z, z ∈ s.map (·.1) ↔ z ∈ ids.take k)) [0, 1, 3, 5, 6, 7, 8, 9, 11, 12, 13, 14, 15, 16, 17, 18, 19, 20, 21, 22, 23, 24, 25, 26, 27, 28, 29, 30, 31, 32, 33, 34, 35, 47, 48, 49, 50, 51, 52, 53, 54, 55, 56, 57, 58, 59, 60, 61, 62, 63, 64, 65, 66, 67, 68, 69, 70, 71, 72, 73, 74, 75, 76, 77, 78, 79, 80, 81, 82, 83, 84, 85, 86, 87, 88, 89, 90]  (ids.length) ([(10, vint (((0 : Nat) : Int)))]) ([(10032, Res.mp g32 hashEn boolEn ([]) (0))]) rfl rfl (⟨0, [], 0, rfl, rfl, by omega, by omega, MWf.nil, (by intro x hx; cases hx), (by simp)⟩) (by repeat (first | exact trivial | refine ⟨⟨_, rfl, (by first | rfl | exact den_int (by omega))⟩, ?_⟩)) (by repeat (first | exact trivial | refine ⟨rfl, ?_⟩)) rfl (fun _ _ _ hI => ?_)
      obtain ⟨k, s, c0, rfl, rfl, hmk, hk, hik0, hik1, hik2⟩ := hI
      refine c_seq ?_
      refine c_seq ?_
      refine c_region ?_
      refine l_rd r_move ?_
      refine l_rd r_move ?_
      refine l_rd r_len ?_
      refine l_rd r_lss ?_
      refine l_nil ?_
      refine x_then ?_
      first | refine c_ifd rfl (fun h39 => ?_) (fun h39 => ?_) | refine c_ifn rfl (fun h39 => ?_) (fun h39 => ?_) | refine c_if rfl (fun h39 => ?_) (fun h39 => ?_)
      · refine c_skip ?_
        refine x_then ?_
        refine c_seq ?_
        refine c_block ?_
        refine c_region ?_
        refine l_rd r_move ?_
        refine l_rd r_move ?_
        refine l_rd r_move ?_
        first | refine l_ix (fun ad45 y45 hA45 h45 => ?_) | refine l_rd (r_indexT (hj := by omega)) ?_
        first | refine l_rd r_load ?_ | refine l_rd r_loadE ?_ | refine l_rd (r_loadT (hj := by omega)) ?_
        refine l_do1 (d_mapUpdate) ?_
        refine l_nil ?_
        refine x_in (x_then ?_)
        refine c_region ?_
        refine l_rd r_move ?_
        first | refine l_rd r_add ?_ | refine l_rd r_addW ?_
        refine l_rd r_assign ?_
        refine l_nil ?_
        refine x_then ?_
        refine k_again (ids.length - (k + 1)) ⟨k + 1, mput s c0 y45 true, mclk s c0 y45, rfl, rfl, by omega, by omega, hik0.put _ _, hik1.put, keep_keys h45 hik2⟩ (by omega) (by repeat (first | exact trivial | refine ⟨⟨_, rfl, (by first | rfl | exact den_int (by omega))⟩, ?_⟩)) (by repeat (first | exact trivial | refine ⟨rfl, ?_⟩))
      · refine c_exit ?_
        refine x_thenE (x_thenE (x_inE (x_then ?_)))
        refine c_seq ?_
        refine c_region ?_
        refine l_rd r_assign ?_
        refine l_nil ?_
        refine x_then ?_
        refine c_seq ?_
        refine c_seq ?_
        refine c_region ?_
        refine l_rd r_assign ?_
        refine l_nil ?_
        refine x_then ?_
        refine c_block ?_
        rw [List.take_of_length_le (by omega)] at hik2
        refine k_nil 611 23 hashEn ?_
        refine c_loopA (fun m E H => ∃ (j : Nat) (out : List Hash) (A11 : Option Addr) (c11 : Nat), E = [(12, vint j), (11, vsl 611 A11 out.length c11)] ∧ H = [(611, Res.rows A11 c11 23 hashEn out)] ∧ m = l.length - j ∧ j ≤ l.length ∧ RG l h dest j out) [0, 1, 3, 5, 6, 7, 8, 9, 10, 15, 16, 17, 18, 19, 20, 21, 22, 23, 24, 25, 26, 27, 28, 29, 30, 31, 32, 33, 34, 35, 36, 37, 38, 39, 40, 41, 42, 43, 44, 45, 46, 90]  (l.length) ([(12, vint (0 : Nat)), (11, vsl 611 none 0 0)]) ([(611, Res.rows none 0 23 hashEn [])]) rfl rfl (⟨0, [], none, 0, rfl, rfl, rfl, Nat.zero_le _, ⟨List.Pairwise.nil, by simp⟩⟩) (by repeat (first | exact trivial | refine ⟨⟨_, rfl, (by first | rfl | exact den_int (by omega))⟩, ?_⟩)) (by repeat (first | exact trivial | refine ⟨rfl, ?_⟩)) rfl (fun _ _ _ hI => ?_)
        obtain ⟨j, out, A11, c11, rfl, rfl, rfl, hj, hi⟩ := hI
        refine c_seq ?_
        refine c_seq ?_
        refine c_region ?_
        refine l_rd r_move ?_
        refine l_rd r_move ?_
        first | refine l_rd r_nilCheck ?_ | refine l_rd r_nilCheckF ?_
        first | refine l_rd r_field ?_ | refine l_rd r_fieldE ?_
        first | refine l_rd r_load ?_ | refine l_rd r_loadE ?_ | refine l_rd (r_loadT (hj := by omega)) ?_
        refine l_rd r_len ?_
        refine l_rd r_lss ?_
        refine l_nil ?_
        refine x_then ?_
        first | refine c_ifd rfl (fun h53 => ?_) (fun h53 => ?_) | refine c_ifn rfl (fun h53 => ?_) (fun h53 => ?_) | refine c_if rfl (fun h53 => ?_) (fun h53 => ?_)
        · have hol := hi.len
          refine c_skip ?_
          refine x_then ?_
          refine c_seq ?_
          refine c_block ?_
          refine c_seq ?_
          refine c_region ?_
          refine l_rd r_move ?_
          first | refine l_rd r_nilCheck ?_ | refine l_rd r_nilCheckF ?_
          first | refine l_rd r_field ?_ | refine l_rd r_fieldE ?_
          first | refine l_rd r_load ?_ | refine l_rd r_loadE ?_ | refine l_rd (r_loadT (hj := by omega)) ?_
          refine l_rd r_move ?_
          first | refine l_ix (fun ad61 y61 hA61 h61 => ?_) | refine l_rd (r_indexT (hj := by omega)) ?_
          first | refine l_rd r_load ?_ | refine l_rd r_loadE ?_ | refine l_rd (r_loadT (hj := by omega)) ?_
          refine l_do d_alloc (fun g13 => ?_)
          first | refine l_do1 d_store ?_ | refine l_do1 d_storeE ?_
          refine l_nil ?_
          refine x_then ?_
          refine c_seq ?_
          refine c_region ?_
          first | refine l_rd r_field ?_ | refine l_rd r_fieldE ?_
          first | refine l_rd r_load ?_ | refine l_rd r_loadE ?_ | refine l_rd (r_loadT (hj := by omega)) ?_
          refine l_rd r_eql ?_
          refine l_rd r_move ?_
          first | refine l_rdG [] rfl (fun hg => r_field) ?_ | refine l_rdG [] rfl (fun hg => r_fieldE) ?_
          first | refine l_rdG [67] ⟨_, _, ⟨_, .inl ⟨rfl, rfl⟩⟩, rfl, rfl⟩ (fun hg => r_load) ?_ | refine l_rdG [67] ⟨_, _, ⟨_, .inl ⟨rfl, rfl⟩⟩, rfl, rfl⟩ (fun hg => r_loadE) ?_ | refine l_rdG [67] ⟨_, _, ⟨_, .inl ⟨rfl, rfl⟩⟩, rfl, rfl⟩ (fun hg => (r_loadT (hj := (by first | omega | (have hgg := hg; simp only [cond_true, cond_false, Bool.and_eq_true, Bool.or_eq_true, Bool.not_eq_true', Bool.not_eq_false', Bool.and_eq_false_imp, Bool.or_eq_false_iff, decide_eq_true_eq, decide_eq_false_iff_not] at hgg; omega))))) ?_
          refine l_rdG [68] ⟨_, _, ⟨_, .inl ⟨rfl, rfl⟩⟩, rfl, rfl⟩ (fun hg => r_eql) ?_
          first | refine l_rd r_or ?_ | refine l_rd r_pickB ?_ | refine l_rd r_pick ?_
          refine l_rd r_assign ?_
          refine l_nil ?_
          refine x_then ?_
          refine c_seq ?_
          refine c_region ?_
          refine l_rd r_move ?_
          first | refine l_rd r_field ?_ | refine l_rd r_fieldE ?_
          first | refine l_rd r_load ?_ | refine l_rd r_loadE ?_ | refine l_rd (r_loadT (hj := by omega)) ?_
          first | refine l_rd r_lookup1 ?_ | refine l_rd r_lookup1N ?_
          refine l_rd r_not ?_
          refine l_rd r_move ?_
          refine l_rdG [] rfl (fun hg => r_move) ?_
          refine l_rdG [77] ⟨_, _, ⟨_, .inl ⟨rfl, rfl⟩⟩, rfl, rfl⟩ (fun hg => r_move) ?_
          first | refine l_rdG [] rfl (fun hg => r_field) ?_ | refine l_rdG [] rfl (fun hg => r_fieldE) ?_
          first | refine l_rdG [79] ⟨_, _, ⟨_, .inl ⟨rfl, rfl⟩⟩, rfl, rfl⟩ (fun hg => r_load) ?_ | refine l_rdG [79] ⟨_, _, ⟨_, .inl ⟨rfl, rfl⟩⟩, rfl, rfl⟩ (fun hg => r_loadE) ?_ | refine l_rdG [79] ⟨_, _, ⟨_, .inl ⟨rfl, rfl⟩⟩, rfl, rfl⟩ (fun hg => (r_loadT (hj := (by first | omega | (have hgg := hg; simp only [cond_true, cond_false, Bool.and_eq_true, Bool.or_eq_true, Bool.not_eq_true', Bool.not_eq_false', Bool.and_eq_false_imp, Bool.or_eq_false_iff, decide_eq_true_eq, decide_eq_false_iff_not] at hgg; omega))))) ?_
          refine l_rdG [] rfl (fun hg => r_move) ?_
          refine l_rdG [80, 81] ⟨_, _, ⟨_, .inl ⟨rfl, rfl⟩⟩, ⟨_, _, ⟨_, .inl ⟨rfl, rfl⟩⟩, rfl, rfl⟩, rfl⟩ (fun hg => r_gtr) ?_
          first | refine l_rdG [78, 82] ⟨_, _, ⟨_, .inl ⟨rfl, rfl⟩⟩, ⟨_, _, ⟨_, .inr ⟨_, rfl, rfl⟩⟩, rfl, rfl⟩, rfl⟩ (fun hg => r_and) ?_ | refine l_rdG [78, 82] ⟨_, _, ⟨_, .inl ⟨rfl, rfl⟩⟩, ⟨_, _, ⟨_, .inr ⟨_, rfl, rfl⟩⟩, rfl, rfl⟩, rfl⟩ (fun hg => r_pickB) ?_ | refine l_rdG [78, 82] ⟨_, _, ⟨_, .inl ⟨rfl, rfl⟩⟩, ⟨_, _, ⟨_, .inr ⟨_, rfl, rfl⟩⟩, rfl, rfl⟩, rfl⟩ (fun hg => r_pick) ?_
          refine l_rdG [83] ⟨_, _, ⟨_, .inl ⟨rfl, rfl⟩⟩, rfl, rfl⟩ (fun hg => r_not) ?_
          first | refine l_rd r_and ?_ | refine l_rd r_pickB ?_ | refine l_rd r_pick ?_
          refine l_nil ?_
          refine x_then ?_
          first | refine c_ifd rfl (fun h85 => ?_) (fun h85 => ?_) | refine c_ifn rfl (fun h85 => ?_) (fun h85 => ?_) | refine c_if rfl (fun h85 => ?_) (fun h85 => ?_)
          · refine c_region ?_
            refine l_rd r_move ?_
            first | refine l_rd r_field ?_ | refine l_rd r_fieldE ?_
            first | refine l_rd r_load ?_ | refine l_rd r_loadE ?_ | refine l_rd (r_loadT (hj := by omega)) ?_
            refine k_fact (p := out.length ≤ c11) (fun w hf => rows_cap (hf 611 _ rfl)) (fun hc11 => ?_)
            refine l_call 24450 [] (put_spec A11 out c11 y61.id (by omega) hc11) Tryz.func42 (h := ?_)
            rintro _ _ (⟨r, Ar, cr, hr, rfl, rfl⟩)
            refine l_rd r_assign ?_
            refine l_nil ?_
            refine x_in (x_then ?_)
            refine c_region ?_
            refine l_rd r_move ?_
            first | refine l_rd r_add ?_ | refine l_rd r_addW ?_
            refine l_rd r_assign ?_
            refine l_nil ?_
            refine x_then ?_
            first | refine k_ren 24450 611 rfl ?_ | skip
            refine k_again (l.length - (j + 1)) (by first | exact ⟨j + 1, r, Ar, cr, rfl, rfl, rfl, by omega, hi.yes h61 ((gone_dec hik1 hik2 hdesc).1 h85) hr⟩ | exact ⟨j + 1, out, A11, c11, rfl, rfl, rfl, by omega, hi.no h61 (fun hg => by have := (gone_dec hik1 hik2 hdesc).2 hg; rw [h85] at this; cases this)⟩) (by omega) (by repeat (first | exact trivial | refine ⟨⟨_, rfl, (by first | rfl | exact den_int (by omega))⟩, ?_⟩)) (by repeat (first | exact trivial | refine ⟨rfl, ?_⟩))
          · refine c_skip ?_
            refine x_in (x_then ?_)
            refine c_region ?_
            refine l_rd r_move ?_
            first | refine l_rd r_add ?_ | refine l_rd r_addW ?_
            refine l_rd r_assign ?_
            refine l_nil ?_
            refine x_then ?_
            first | refine k_ren 24450 611 rfl ?_ | skip
            refine k_again (l.length - (j + 1)) (by first | exact ⟨j + 1, r, Ar, cr, rfl, rfl, rfl, by omega, hi.yes h61 ((gone_dec hik1 hik2 hdesc).1 h85) hr⟩ | exact ⟨j + 1, out, A11, c11, rfl, rfl, rfl, by omega, hi.no h61 (fun hg => by have := (gone_dec hik1 hik2 hdesc).2 hg; rw [h85] at this; cases this)⟩) (by omega) (by repeat (first | exact trivial | refine ⟨⟨_, rfl, (by first | rfl | exact den_int (by omega))⟩, ?_⟩)) (by repeat (first | exact trivial | refine ⟨rfl, ?_⟩))
        · refine c_exit ?_
          refine x_thenE (x_thenE (x_inE (x_then ?_)))
          refine c_seq ?_
          refine c_region ?_
          refine l_rd r_move ?_
          refine l_rd r_assign ?_
          refine l_nil ?_
          refine x_then ?_
          refine c_ret ?_
          refine k_ret [611] (.s (.one (.sl 0 A11 out.length c11))) (.cons (.tmp rfl) .nil) (h := ?_)
          have hii := hi.iff
          rw [List.take_of_length_le (by omega)] at hii
          exact ⟨out, A11, c11, ⟨hi.sorted, hi.len, by rw [if_pos (by simpa using h18)]; exact hii⟩, rfl, rfl⟩
theorem turned_spec (A : Option Addr) (l : List LeafP) (c : Nat) (hl : l.length ≤ 1048576) : CSpec Tryz.prog 8 [.one (.sl 0 A l.length c)] [(0, Res.rd A leafEn l)] [] fun o L =>
    ∃ A c, l.length ≤ c ∧ o = .ret (vsl 0 A l.length c) ∧ L = [Res.rows A c 59 leafEn l] := by
  refine k_enter Tryz.func8 rfl rfl (h := fun w0 => ?_)
  refine c_seq ?_
  refine c_region ?_
  refine l_rd r_assign ?_
  refine l_nil ?_
  refine x_then ?_
  refine c_seq ?_
  refine c_region ?_
  refine l_rd r_assign ?_
  refine l_nil ?_
  refine x_then ?_
  refine c_seq ?_
  refine c_seq ?_
  refine c_region ?_
  refine l_rd r_assign ?_
  refine l_nil ?_
  refine x_then ?_
  refine c_block ?_
  refine k_nil 603 59 leafEn ?_
  refine c_loopA (fun m E H => ∃ (k : Nat) (acc : List LeafP) (accA : Option Addr) (accC : Nat), E = [(4, vint (((k : Nat) : Int))), (3, vsl 603 accA acc.length accC)] ∧ H = [(603, Res.rows accA accC 59 leafEn acc)] ∧ m = l.length - k ∧ k ≤ l.length ∧ (acc = l.take k) ∧ (acc.length = k)) [0, 35]  (l.length) ([(4, vint (((0 : Nat) : Int))), (3, vsl 603 (none) ([]).length (0))]) ([(603, Res.rows (none) (0) 59 leafEn ([]))]) rfl rfl (⟨0, [], none, 0, rfl, rfl, by omega, by omega, rfl, rfl⟩) (by repeat (first | exact trivial | refine ⟨⟨_, rfl, (by first | rfl | exact den_int (by omega))⟩, ?_⟩)) (by repeat (first | exact trivial | refine ⟨rfl, ?_⟩)) rfl (fun _ _ _ hI => ?_)
  obtain ⟨k, acc, accA, accC, rfl, rfl, hmk, hk, hik0, hik1⟩ := hI
  refine c_seq ?_
  refine c_seq ?_
  refine c_region ?_
  refine l_rd r_move ?_
  refine l_rd r_move ?_
  refine l_rd r_len ?_
  refine l_rd r_lss ?_
  refine l_nil ?_
  refine x_then ?_
  first | refine c_ifd rfl (fun h8 => ?_) (fun h8 => ?_) | refine c_ifn rfl (fun h8 => ?_) (fun h8 => ?_) | refine c_if rfl (fun h8 => ?_) (fun h8 => ?_)
  · refine c_skip ?_
    refine x_then ?_
    refine c_seq ?_
    refine c_block ?_
    refine c_draw (.q 0 (.q 1 (.q 2 (.q 3 (.q 4 (.q 5 (.q 6 (.q 7 (.q 8 (.q 9 (.q 10 (.q 11 (.q 12 (.q 13 (.q 14 (.q 15 (.q 16 (.q 17 (.q 18 (.q 19 (.q 20 (.q 21 (.s 22 (.s 23 (.q 24 .nil))))))))))))))))))))))))) [] (hm := by kernel_rfl) (hs := by kernel_rfl) (hk := by kernel_rfl) (hQ := fun d v c a w h => by cases d <;> exact h) (h := ?_)
    refine q_rd rfl r_move ?_
    refine q_rd rfl r_move ?_
    refine q_rd rfl r_move ?_
    first | refine q_ix rfl (fun ad14 y14 hA14 h14 => ?_) | refine q_rd rfl (r_indexT (hj := by omega)) ?_
    first | refine q_rd rfl r_field ?_ | refine q_rd rfl r_fieldE ?_
    first | refine q_rd rfl r_load ?_ | refine q_rd rfl r_loadE ?_ | refine q_rd rfl (r_loadT (hj := by omega)) ?_
    refine q_rd rfl r_move ?_
    refine q_rd rfl r_move ?_
    first | refine q_ix rfl (fun ad19 y19 hA19 h19 => ?_) | refine q_rd rfl (r_indexT (hj := by omega)) ?_
    first | refine q_rd rfl r_field ?_ | refine q_rd rfl r_fieldE ?_
    first | refine q_rd rfl r_load ?_ | refine q_rd rfl r_loadE ?_ | refine q_rd rfl (r_loadT (hj := by omega)) ?_
    refine q_rd rfl r_move ?_
    refine q_rd rfl r_move ?_
    first | refine q_ix rfl (fun ad24 y24 hA24 h24 => ?_) | refine q_rd rfl (r_indexT (hj := by omega)) ?_
    first | refine q_rd rfl r_field ?_ | refine q_rd rfl r_fieldE ?_
    first | refine q_rd rfl r_load ?_ | refine q_rd rfl r_loadE ?_ | refine q_rd rfl (r_loadT (hj := by omega)) ?_
    refine q_rd rfl r_move ?_
    refine q_rd rfl r_move ?_
    first | refine q_ix rfl (fun ad29 y29 hA29 h29 => ?_) | refine q_rd rfl (r_indexT (hj := by omega)) ?_
    first | refine q_rd rfl r_field ?_ | refine q_rd rfl r_fieldE ?_
    first | refine q_rd rfl r_load ?_ | refine q_rd rfl r_loadE ?_ | refine q_rd rfl (r_loadT (hj := by omega)) ?_
    refine q_rd rfl r_build ?_
    obtain rfl := opt_eq h14 h19
    obtain rfl := opt_eq h14 h24
    obtain rfl := opt_eq h14 h29
    refine s_do rfl (d_bslice [y14]) (fun B33 => ?_)
    refine s_do rfl d_append (fun p34 => ?_)
    refine q_rd rfl r_assign ?_
    refine s_nil ?_
    refine x_in (x_then ?_)
    refine c_region ?_
    refine l_rd r_move ?_
    first | refine l_rd r_add ?_ | refine l_rd r_addW ?_
    refine l_rd r_assign ?_
    refine l_nil ?_
    refine x_then ?_
    refine k_again (l.length - (k + 1)) ⟨k + 1, acc ++ [y14], p34.1, p34.2, rfl, rfl, by omega, by omega, by rw [hik0, ← take_get h14], by rw [List.length_append, hik1]; rfl⟩ (by omega) (by repeat (first | exact trivial | refine ⟨⟨_, rfl, (by first | rfl | exact den_int (by omega))⟩, ?_⟩)) (by repeat (first | exact trivial | refine ⟨rfl, ?_⟩))
  · refine c_exit ?_
    refine x_thenE (x_thenE (x_inE (x_then ?_)))
    refine c_seq ?_
    refine c_region ?_
    refine l_rd r_move ?_
    refine l_rd r_assign ?_
    refine l_nil ?_
    refine x_then ?_
    refine c_ret ?_
    obtain rfl : l = acc := by rw [hik0, List.take_of_length_le (by omega)]
    refine k_fact (p := l.length ≤ accC) (fun w hf => rows_cap (hf 603 _ rfl)) (fun hcap => ?_)
    refine k_ret [603] (.s (.one (.sl 0 accA l.length accC))) (.cons (.tmp rfl) .nil) (h := ?_)
    exact ⟨accA, accC, hcap, rfl, rfl⟩
theorem made_spec (g gl gk : Nat) (xs : List (Hash × KV × Nat)) (root : Hash) (h : Int) (l : List LeafP) : CSpec Tryz.prog 28 [.one (.ptr 0 ⟨g, 0, none⟩)] [(0, treeR g gl gk xs root h l)] [] fun o L => o = .ret (vb true) ∧ L = [] :=
  cspec_of fun w hB => (made_calls g gl gk root h w (treeR_get (hB 0 _ rfl) _ (by unfold treeL; exact List.mem_cons_self ..))).mono fun e w' ⟨h1, h2⟩ => ⟨.ret (vb true), [], h1.symm, ⟨rfl, rfl⟩, h2⟩
theorem pbehind_spec (g gl gk : Nat) (xs : List (Hash × KV × Nat)) (root : Hash) (h : Int) (l : List LeafP) (dest : Hash) (hks : KidsOf xs l) (hok : NewOk root h l) : CSpec Tryz.prog 21 [.one (.ptr 0 ⟨g, 0, none⟩), .agg [.hash dest]] [(0, treeR g gl gk xs root h l)] [] fun o L =>
    ∃ ids A c, ids.Pairwise hlt ∧ ids.length ≤ l.length ∧ (∀ y, y ∈ ids ↔ Desc l dest y) ∧ o = .ret (vsl 0 A ids.length c) ∧ L = [Res.rows A c 23 hashEn ids] := by
  have h3000 := hok.2.2.1
  refine k_enter Tryz.func21 rfl rfl (h := fun w0 => ?_)
  refine c_seq ?_
  refine k_part 0 900 (treeR g gl gk xs root h l) rfl (View.refl _) ?_
  refine k_part 900 101 (kidsR gk xs) rfl (tree_kidsR g gl gk xs root h l) ?_
  refine k_part 900 0 (Res.va g 56 [.one (.mp 100 gl), .one (.mp 101 gk), .hash root, .one (.i .i64 h)]) rfl (tree_va g gl gk xs root h l) ?_
  refine c_region ?_
  refine l_do d_box (fun g3 => ?_)
  refine l_rd r_assign ?_
  refine l_nil ?_
  refine x_then ?_
  refine c_seq ?_
  refine c_seq ?_
  refine c_region ?_
  refine l_rd r_move ?_
  refine l_call 20300 [(0, 900)] (made_spec g gl gk xs root h l) Tryz.func28 (h := ?_)
  rintro _ _ (⟨rfl, rfl⟩)
  refine l_rd r_not ?_
  refine l_nil ?_
  refine x_then ?_
  refine c_false rfl ?_
  refine c_skip ?_
  refine x_then ?_
  refine c_seq ?_
  refine c_draw (.q 0 (.q 1 (.q 2 (.q 3 (.q 4 (.s 5 (.s 6 (.q 7 .nil)))))))) [10003, 20300, 20301, 20302, 20303, 20650, 20651, 20652, 20653, 20700, 20701, 20702, 20703] (hm := by kernel_rfl) (hs := by kernel_rfl) (hk := by kernel_rfl) (hQ := fun d v c a w h => by cases d <;> exact h) (h := ?_)
  refine q_rd rfl r_move ?_
  first | refine q_rd rfl r_nilCheck ?_ | refine q_rd rfl r_nilCheckF ?_
  first | refine q_rd rfl r_field ?_ | refine q_rd rfl r_fieldE ?_
  first | refine q_rd rfl r_load ?_ | refine q_rd rfl r_loadE ?_ | refine q_rd rfl (r_loadT (hj := by omega)) ?_
  first | refine q_rd rfl r_load ?_ | refine q_rd rfl r_loadE ?_ | refine q_rd rfl (r_loadT (hj := by omega)) ?_
  refine s_call rfl 20650 [] (behind_spec gl gk xs l dest hks hok.2.2.1) Tryz.func40 (h := ?_)
  rintro _ _ (⟨gb, sb, cb, hbe, rfl, rfl⟩)
  refine ⟨cov_of (by repeat (first | exact trivial | refine ⟨rfl, ?_⟩)), ?_⟩
  refine s_call rfl 20700 [] (rising_spec gb cb _ sb mapOf_mp hbe.wf (by have := hbe.few; omega)) Tryz.func39 (h := ?_)
  rintro _ _ (⟨A, c, rfl, rfl⟩)
  refine ⟨cov_of (by repeat (first | exact trivial | refine ⟨rfl, ?_⟩)), ?_⟩
  refine q_rd rfl r_assign ?_
  refine s_nil ?_
  refine x_then ?_
  refine c_ret ?_
  refine k_ret [20700] (.s (.one (.sl 0 A sb.length c))) (.cons (.tmp rfl) .nil) (h := ?_)
  have e : (sortH (sb.map (·.1))).length = sb.length := by rw [(sortH_perm _).length_eq, List.length_map]
  exact ⟨sortH (sb.map (·.1)), A, c, sortH_lt hbe.wf.keys, by rw [e]; exact hbe.few, fun y => by rw [(sortH_perm _).mem_iff, hbe.iff], by rw [e], rfl⟩
end Go.Proofs.YtonbgcehgmpnkaaGreat
/- The reference: Best. -/

set_option linter.unusedVariables false
set_option linter.unusedSimpArgs false
set_option maxRecDepth 100000
set_option maxHeartbeats 8000000
namespace Go.Proofs.YtonbgcehgmpnkaaGreat
open Go Go.RowKit HL
/-- The best of the first leaves. -/
structure RBest (l : List LeafP) (root : Hash) (h : Int) (k : Nat) (b : Hash) (hh : Int) : Prop where
  mem : b = root ∧ hh = h ∨ ∃ x ∈ l.take k, x.id = b ∧ x.height = hh ∧ (wayOf l root h x.id).isSome = true
  most : ∀ x ∈ l.take k, (wayOf l root h x.id).isSome = true → x.height ≤ hh ∧ (x.height = hh → ¬ hlt x.id b)
theorem RBest.start (l : List LeafP) (root : Hash) (h : Int) : RBest l root h 0 root h := ⟨.inl ⟨rfl, rfl⟩, by simp⟩
theorem stands_high {l : List LeafP} {root : Hash} {h : Int} (hok : NewOk root h l) {x : LeafP} (hx : x ∈ l) (hs : (wayOf l root h x.id).isSome = true) : h < x.height := by
  obtain ⟨n, hn⟩ := (stands_iff hok x.id).1 hs
  cases n with
  | zero =>
    have : x.id = root := by simpa [lev] using hn
    exact absurd this (hok.2.2.2.2 x hx)
  | succ n =>
    have := (lev_ok hn hok.2.2.2.1).2.1
    rw [leafOf_id hok.2.2.2.1 hx] at this
    omega
theorem RBest.step {l : List LeafP} {root : Hash} {h : Int} {k : Nat} {b : Hash} {hh : Int} {x : LeafP} (hi : RBest l root h k b hh) (hx : l[k]? = some x) :
    (((wayOf l root h x.id).isSome && (decide (hh < x.height) || decide (x.height = hh) && decide (hlt x.id b))) = true → RBest l root h (k + 1) x.id x.height) ∧
    (((wayOf l root h x.id).isSome && (decide (hh < x.height) || decide (x.height = hh) && decide (hlt x.id b))) = false → RBest l root h (k + 1) b hh) := by
  constructor
  · intro hc
    simp only [Bool.and_eq_true, Bool.or_eq_true, decide_eq_true_eq] at hc
    refine ⟨.inr ⟨x, by rw [take_get hx]; simp, rfl, rfl, hc.1⟩, fun y hy hs => ?_⟩
    rw [take_get hx] at hy
    rcases List.mem_append.1 hy with hy | hy
    · have := hi.most y hy hs
      rcases hc.2 with h1 | ⟨h1, h2⟩
      · exact ⟨by omega, fun e => by omega⟩
      · exact ⟨by omega, fun e h3 => this.2 (by omega) (hlt_trans h3 h2)⟩
    · rw [List.mem_singleton.1 hy]
      exact ⟨Int.le_refl _, fun _ h3 => hlt_irrefl _ h3⟩
  · intro hc
    refine ⟨hi.mem.imp id fun ⟨y, hy, h1⟩ => ⟨y, by rw [take_get hx]; exact List.mem_append_left _ hy, h1⟩, fun y hy hs => ?_⟩
    rw [take_get hx] at hy
    rcases List.mem_append.1 hy with hy | hy
    · exact hi.most y hy hs
    · rw [List.mem_singleton.1 hy] at hs ⊢
      rw [hs, Bool.true_and] at hc
      simp only [Bool.or_eq_false_iff, Bool.and_eq_false_imp, decide_eq_false_iff_not, decide_eq_true_eq] at hc
      exact ⟨by omega, fun e => hc.2 e⟩
theorem RBest.is {l : List LeafP} {root : Hash} {h : Int} {k : Nat} {b b' : Hash} {hh hh' : Int} (hok : NewOk root h l) (hi : RBest l root h k b hh) (hk : l.length ≤ k) (hb : BestIs l root h b' hh') : b' = b ∧ hh' = hh := by
  have hm := hi.most
  rw [List.take_of_length_le hk] at hm
  have hmem := hi.mem
  rw [List.take_of_length_le hk] at hmem
  have hs := best_stands hok hb
  -- the program's best is the root or a leaf
  by_cases hr : b' = root
  · have hh0 := best_root hok hb hr
    rcases hmem with ⟨h1, h2⟩ | ⟨x, hx, h1, h2, h3⟩
    · exact ⟨hr.trans h1.symm, hh0.trans h2.symm⟩
    · have h4 := (best_most hok hb hx h3).1
      have h5 := stands_high hok hx h3
      omega
  · obtain ⟨n, hn, hhn, _, _⟩ := best_mem hb
    cases n with
    | zero => exact absurd (by simpa [lev] using hn) hr
    | succ n =>
      have hl := lev_ok hn hok.2.2.2.1
      have hx' := hl.2.2.2.1
      have hid := hl.2.2.2.2
      have h6 := hm (leafOf l b') hx' (by rw [hid]; exact hs)
      rw [hid] at h6
      have h7 : (leafOf l b').height = hh' := by rw [hl.2.1, hhn]; omega
      rcases hmem with ⟨h1, h2⟩ | ⟨x, hx, h1, h2, h3⟩
      · have := stands_high hok hx' (by rw [hid]; exact hs)
        omega
      · have h4 := best_most hok hb hx h3
        have e : hh' = hh := by omega
        refine ⟨?_, e⟩
        rcases hlt_tri b' b with h8 | h8 | h8
        · exact absurd h8 (h6.2 (by omega))
        · exact h8
        · exact absurd (by rw [h1]; exact h8) (h4.2 (by omega))
theorem rbest_spec (g : Nat) (root : Hash) (h : Int) (A : Option Addr) (c : Nat) (l : List LeafP) (hw : Wide64 l) (hok : NewOk root h l) : CSpec Tryz.prog 17 [.one (.ptr 0 ⟨g, 0, none⟩)] (mB g root h A c l) [] fun o L =>
    ∃ b hh, RBest l root h l.length b hh ∧ o = .ret (.tup [.agg [.hash b], .one (.i .i64 hh)]) ∧ L = [] := by
  have h2 := hok.2.2.1
  refine k_enter Tryz.func17 rfl rfl (h := fun w0 => ?_)
  refine c_seq ?_
  refine c_region ?_
  refine l_do d_alloc (fun g2 => ?_)
  refine l_rd r_assign ?_
  refine l_nil ?_
  refine x_then ?_
  refine c_seq ?_
  refine c_draw (.q 0 (.q 1 (.q 2 (.q 3 (.q 4 (.q 5 (.q 6 (.q 7 (.s 8 (.s 9 (.q 10 .nil))))))))))) [10002, 10021, 10007, 21750, 21751, 21752, 21753, 22500, 22501, 22502, 22503] (hm := by kernel_rfl) (hs := by kernel_rfl) (hk := by kernel_rfl) (hQ := fun d v c a w h => by cases d <;> exact h) (h := ?_)
  refine q_rd rfl r_move ?_
  first | refine q_rd rfl r_nilCheck ?_ | refine q_rd rfl r_nilCheckF ?_
  first | refine q_rd rfl r_field ?_ | refine q_rd rfl r_fieldE ?_
  first | refine q_rd rfl r_load ?_ | refine q_rd rfl r_loadE ?_ | refine q_rd rfl (r_loadT (hj := by omega)) ?_
  refine q_rd rfl r_move ?_
  first | refine q_rd rfl r_nilCheck ?_ | refine q_rd rfl r_nilCheckF ?_
  first | refine q_rd rfl r_field ?_ | refine q_rd rfl r_fieldE ?_
  first | refine q_rd rfl r_load ?_ | refine q_rd rfl r_loadE ?_ | refine q_rd rfl (r_loadT (hj := by omega)) ?_
  refine s_do rfl d_alloc (fun g4 => ?_)
  first | refine s_do1 rfl d_store ?_ | refine s_do1 rfl d_storeE ?_
  refine q_rd rfl r_assign ?_
  refine s_nil ?_
  refine x_then ?_
  refine c_seq ?_
  refine c_seq ?_
  refine c_region ?_
  refine l_rd r_assign ?_
  refine l_nil ?_
  refine x_then ?_
  refine c_block ?_
  refine c_loopA (fun m E H => ∃ (k : Nat) (b : Hash) (hh : Int), E = [(6, vint k), (5, vint hh)] ∧ H = [(10004, Res.va g4 23 [.hash b])] ∧ m = l.length - k ∧ k ≤ l.length ∧ RBest l root h k b hh) [0, 2, 3, 4, 8, 9, 10, 11, 12, 13, 14, 15, 58, 59]  (l.length) ([(6, vint (0 : Nat)), (5, vint h)]) ([(10004, Res.va g4 23 [.hash root])]) rfl rfl (⟨0, root, h, rfl, rfl, rfl, Nat.zero_le _, RBest.start l root h⟩) (by repeat (first | exact trivial | refine ⟨⟨_, rfl, (by first | rfl | exact den_int (by omega))⟩, ?_⟩)) (by repeat (first | exact trivial | refine ⟨rfl, ?_⟩)) rfl (fun _ _ _ hI => ?_)
  obtain ⟨k, b, hh, rfl, rfl, rfl, hk, hi⟩ := hI
  refine c_seq ?_
  refine c_seq ?_
  refine c_region ?_
  refine l_rd r_move ?_
  refine l_rd r_move ?_
  first | refine l_rd r_nilCheck ?_ | refine l_rd r_nilCheckF ?_
  first | refine l_rd r_field ?_ | refine l_rd r_fieldE ?_
  first | refine l_rd r_load ?_ | refine l_rd r_loadE ?_ | refine l_rd (r_loadT (hj := by omega)) ?_
  refine l_rd r_len ?_
  refine l_rd r_lss ?_
  refine l_nil ?_
  refine x_then ?_
  first | refine c_ifd rfl (fun h22 => ?_) (fun h22 => ?_) | refine c_ifn rfl (fun h22 => ?_) (fun h22 => ?_) | refine c_if rfl (fun h22 => ?_) (fun h22 => ?_)
  · refine c_skip ?_
    refine x_then ?_
    refine c_seq ?_
    refine c_block ?_
    refine c_seq ?_
    refine c_region ?_
    refine l_rd r_move ?_
    first | refine l_rd r_nilCheck ?_ | refine l_rd r_nilCheckF ?_
    first | refine l_rd r_field ?_ | refine l_rd r_fieldE ?_
    first | refine l_rd r_load ?_ | refine l_rd r_loadE ?_ | refine l_rd (r_loadT (hj := by omega)) ?_
    refine l_rd r_move ?_
    first | refine l_ix (fun ad30 y30 hA30 h30 => ?_) | refine l_rd (r_indexT (hj := by omega)) ?_
    first | refine l_rd r_load ?_ | refine l_rd r_loadE ?_ | refine l_rd (r_loadT (hj := by omega)) ?_
    refine l_do d_alloc (fun g7 => ?_)
    first | refine l_do1 d_store ?_ | refine l_do1 d_storeE ?_
    refine l_nil ?_
    refine x_then ?_
    refine c_seq ?_
    refine c_region ?_
    refine l_rd r_move ?_
    first | refine l_rd r_field ?_ | refine l_rd r_fieldE ?_
    first | refine l_rd r_load ?_ | refine l_rd r_loadE ?_ | refine l_rd (r_loadT (hj := by omega)) ?_
    refine l_call 21750 [(100, 100)] (rstands_spec g root h A c l y30.id hw hok) Tryz.func24 (h := ?_)
    rintro _ _ (⟨rfl, rfl⟩)
    refine l_rd r_move ?_
    first | refine l_rdG [] rfl (fun hg => r_field) ?_ | refine l_rdG [] rfl (fun hg => r_fieldE) ?_
    first | refine l_rdG [37] ⟨_, _, ⟨_, .inl ⟨rfl, rfl⟩⟩, rfl, rfl⟩ (fun hg => r_load) ?_ | refine l_rdG [37] ⟨_, _, ⟨_, .inl ⟨rfl, rfl⟩⟩, rfl, rfl⟩ (fun hg => r_loadE) ?_ | refine l_rdG [37] ⟨_, _, ⟨_, .inl ⟨rfl, rfl⟩⟩, rfl, rfl⟩ (fun hg => (r_loadT (hj := (by first | omega | (have hgg := hg; simp only [cond_true, cond_false, Bool.and_eq_true, Bool.or_eq_true, Bool.not_eq_true', Bool.not_eq_false', Bool.and_eq_false_imp, Bool.or_eq_false_iff, decide_eq_true_eq, decide_eq_false_iff_not] at hgg; omega))))) ?_
    refine l_rdG [] rfl (fun hg => r_move) ?_
    refine l_rdG [38, 39] ⟨_, _, ⟨_, .inl ⟨rfl, rfl⟩⟩, ⟨_, _, ⟨_, .inl ⟨rfl, rfl⟩⟩, rfl, rfl⟩, rfl⟩ (fun hg => r_gtr) ?_
    refine l_rdG [40] ⟨_, _, ⟨_, .inl ⟨rfl, rfl⟩⟩, rfl, rfl⟩ (fun hg => r_move) ?_
    first | refine l_rdG [] rfl (fun hg => r_field) ?_ | refine l_rdG [] rfl (fun hg => r_fieldE) ?_
    first | refine l_rdG [42] ⟨_, _, ⟨_, .inl ⟨rfl, rfl⟩⟩, rfl, rfl⟩ (fun hg => r_load) ?_ | refine l_rdG [42] ⟨_, _, ⟨_, .inl ⟨rfl, rfl⟩⟩, rfl, rfl⟩ (fun hg => r_loadE) ?_ | refine l_rdG [42] ⟨_, _, ⟨_, .inl ⟨rfl, rfl⟩⟩, rfl, rfl⟩ (fun hg => (r_loadT (hj := (by first | omega | (have hgg := hg; simp only [cond_true, cond_false, Bool.and_eq_true, Bool.or_eq_true, Bool.not_eq_true', Bool.not_eq_false', Bool.and_eq_false_imp, Bool.or_eq_false_iff, decide_eq_true_eq, decide_eq_false_iff_not] at hgg; omega))))) ?_
    refine l_rdG [] rfl (fun hg => r_move) ?_
    refine l_rdG [43, 44] ⟨_, _, ⟨_, .inl ⟨rfl, rfl⟩⟩, ⟨_, _, ⟨_, .inl ⟨rfl, rfl⟩⟩, rfl, rfl⟩, rfl⟩ (fun hg => r_eql) ?_
    refine l_rdG [45] ⟨_, _, ⟨_, .inl ⟨rfl, rfl⟩⟩, rfl, rfl⟩ (fun hg => r_move) ?_
    first | refine l_rdG [] rfl (fun hg => r_field) ?_ | refine l_rdG [] rfl (fun hg => r_fieldE) ?_
    first | refine l_rdG [47] ⟨_, _, ⟨_, .inl ⟨rfl, rfl⟩⟩, rfl, rfl⟩ (fun hg => r_load) ?_ | refine l_rdG [47] ⟨_, _, ⟨_, .inl ⟨rfl, rfl⟩⟩, rfl, rfl⟩ (fun hg => r_loadE) ?_ | refine l_rdG [47] ⟨_, _, ⟨_, .inl ⟨rfl, rfl⟩⟩, rfl, rfl⟩ (fun hg => (r_loadT (hj := (by first | omega | (have hgg := hg; simp only [cond_true, cond_false, Bool.and_eq_true, Bool.or_eq_true, Bool.not_eq_true', Bool.not_eq_false', Bool.and_eq_false_imp, Bool.or_eq_false_iff, decide_eq_true_eq, decide_eq_false_iff_not] at hgg; omega))))) ?_
    first | refine l_rdG [] rfl (fun hg => r_load) ?_ | refine l_rdG [] rfl (fun hg => r_loadE) ?_ | refine l_rdG [] rfl (fun hg => (r_loadT (hj := (by first | omega | (have hgg := hg; simp only [cond_true, cond_false, Bool.and_eq_true, Bool.or_eq_true, Bool.not_eq_true', Bool.not_eq_false', Bool.and_eq_false_imp, Bool.or_eq_false_iff, decide_eq_true_eq, decide_eq_false_iff_not] at hgg; omega))))) ?_
    refine l_callG [] [48, 49] ⟨_, _, ⟨_, .inl ⟨rfl, rfl⟩⟩, ⟨_, _, ⟨_, .inl ⟨rfl, rfl⟩⟩, rfl, rfl⟩, rfl⟩ (fun hg => less_spec _ _) Tryz.func36 (h := ?_)
    first | refine l_rdG [46, 50] ⟨_, _, ⟨_, .inl ⟨rfl, rfl⟩⟩, ⟨_, _, ⟨_, .inr ⟨_, rfl, rfl⟩⟩, rfl, rfl⟩, rfl⟩ (fun hg => r_and) ?_ | refine l_rdG [46, 50] ⟨_, _, ⟨_, .inl ⟨rfl, rfl⟩⟩, ⟨_, _, ⟨_, .inr ⟨_, rfl, rfl⟩⟩, rfl, rfl⟩, rfl⟩ (fun hg => r_pickB) ?_ | refine l_rdG [46, 50] ⟨_, _, ⟨_, .inl ⟨rfl, rfl⟩⟩, ⟨_, _, ⟨_, .inr ⟨_, rfl, rfl⟩⟩, rfl, rfl⟩, rfl⟩ (fun hg => r_pick) ?_
    first | refine l_rdG [41, 51] ⟨_, _, ⟨_, .inl ⟨rfl, rfl⟩⟩, ⟨_, _, ⟨_, .inr ⟨_, rfl, rfl⟩⟩, rfl, rfl⟩, rfl⟩ (fun hg => r_or) ?_ | refine l_rdG [41, 51] ⟨_, _, ⟨_, .inl ⟨rfl, rfl⟩⟩, ⟨_, _, ⟨_, .inr ⟨_, rfl, rfl⟩⟩, rfl, rfl⟩, rfl⟩ (fun hg => r_pickB) ?_ | refine l_rdG [41, 51] ⟨_, _, ⟨_, .inl ⟨rfl, rfl⟩⟩, ⟨_, _, ⟨_, .inr ⟨_, rfl, rfl⟩⟩, rfl, rfl⟩, rfl⟩ (fun hg => r_pick) ?_
    first | refine l_rd r_and ?_ | refine l_rd r_pickB ?_ | refine l_rd r_pick ?_
    refine l_nil ?_
    refine x_then ?_
    first | refine c_ifd rfl (fun h53 => ?_) (fun h53 => ?_) | refine c_ifn rfl (fun h53 => ?_) (fun h53 => ?_) | refine c_if rfl (fun h53 => ?_) (fun h53 => ?_)
    · refine c_seq ?_
      refine c_region ?_
      first | refine l_rd r_field ?_ | refine l_rd r_fieldE ?_
      first | refine l_rd r_load ?_ | refine l_rd r_loadE ?_ | refine l_rd (r_loadT (hj := by omega)) ?_
      first | refine l_do1 d_store ?_ | refine l_do1 d_storeE ?_
      refine l_nil ?_
      refine x_then ?_
      refine c_region ?_
      first | refine l_rd r_field ?_ | refine l_rd r_fieldE ?_
      first | refine l_rd r_load ?_ | refine l_rd r_loadE ?_ | refine l_rd (r_loadT (hj := by omega)) ?_
      refine l_rd r_assign ?_
      refine l_nil ?_
      refine x_in (x_then ?_)
      refine c_region ?_
      refine l_rd r_move ?_
      first | refine l_rd r_add ?_ | refine l_rd r_addW ?_
      refine l_rd r_assign ?_
      refine l_nil ?_
      refine x_then ?_
      refine k_again (l.length - (k + 1)) (by first | exact ⟨k + 1, y30.id, y30.height, rfl, rfl, rfl, by omega, (hi.step h30).1 h53⟩ | exact ⟨k + 1, b, hh, rfl, rfl, rfl, by omega, (hi.step h30).2 h53⟩) (by omega) (by repeat (first | exact trivial | refine ⟨⟨_, rfl, (by first | rfl | exact den_int (by omega))⟩, ?_⟩)) (by repeat (first | exact trivial | refine ⟨rfl, ?_⟩))
    · refine c_skip ?_
      refine x_in (x_then ?_)
      refine c_region ?_
      refine l_rd r_move ?_
      first | refine l_rd r_add ?_ | refine l_rd r_addW ?_
      refine l_rd r_assign ?_
      refine l_nil ?_
      refine x_then ?_
      refine k_again (l.length - (k + 1)) (by first | exact ⟨k + 1, y30.id, y30.height, rfl, rfl, rfl, by omega, (hi.step h30).1 h53⟩ | exact ⟨k + 1, b, hh, rfl, rfl, rfl, by omega, (hi.step h30).2 h53⟩) (by omega) (by repeat (first | exact trivial | refine ⟨⟨_, rfl, (by first | rfl | exact den_int (by omega))⟩, ?_⟩)) (by repeat (first | exact trivial | refine ⟨rfl, ?_⟩))
  · refine c_exit ?_
    refine x_thenE (x_thenE (x_inE (x_then ?_)))
    refine c_seq ?_
    refine c_region ?_
    first | refine l_rd r_load ?_ | refine l_rd r_loadE ?_ | refine l_rd (r_loadT (hj := by omega)) ?_
    refine l_rd r_move ?_
    first | refine l_do1 d_store ?_ | refine l_do1 d_storeE ?_
    refine l_rd r_assign ?_
    refine l_nil ?_
    refine x_then ?_
    refine c_ret ?_
    refine k_ret [] _ (.cons (.cell inferInstance rfl rfl rfl rfl) (.cons (.tmp rfl) .nil)) (h := ?_)
    have e : k = l.length := by omega
    subst e
    exact ⟨b, hh, hi, rfl, rfl⟩
end Go.Proofs.YtonbgcehgmpnkaaGreat
/- Marks: what the laws write over what was handed out. -/



set_option linter.unusedVariables false
set_option linter.unusedSimpArgs false
set_option maxRecDepth 100000
set_option maxHeartbeats 8000000
namespace Go.Proofs.YtonbgcehgmpnkaaGreat
open Go Go.RowKit HL
namespace HL
def mk1 (k i : Nat) : Int := 1000003 * ((k : Int) + 7) + i
def mkL {α : Type} (m : Nat → Nat → α) (k n : Nat) : List α := (List.range n).map (m k)
theorem mkL_len {α : Type} {m : Nat → Nat → α} {k n : Nat} : (mkL m k n).length = n := by unfold mkL; simp
theorem mkL_succ {α : Type} {m : Nat → Nat → α} {k n : Nat} : mkL m k (n + 1) = mkL m k n ++ [m k n] := by unfold mkL; rw [List.range_succ, List.map_append]; rfl
theorem mkL_get {α : Type} {m : Nat → Nat → α} {k n i : Nat} {x : α} (h : (mkL m k n)[i]? = some x) : x = m k i := by
  have hn : i < n := by have := (List.getElem?_eq_some_iff.1 h).1; rwa [mkL_len] at this
  unfold mkL at h
  rw [List.getElem?_map, List.getElem?_range hn] at h
  injection h with h
  exact h.symm
theorem mkL_at {α : Type} {m : Nat → Nat → α} {k n i : Nat} (h : i < n) : (mkL m k n)[i]? = some (m k i) := by
  unfold mkL
  rw [List.getElem?_map, List.getElem?_range h]
  rfl
theorem mkL_pre {α : Type} {m : Nat → Nat → α} {k n n' : Nat} (h : n ≤ n') : mkL m k n <+: mkL m k n' := by
  refine ⟨(mkL m k n').drop n, ?_⟩
  conv => rhs; rw [← List.take_append_drop n (mkL m k n')]
  congr 1
  apply List.ext_getElem?
  intro j
  rw [List.getElem?_take]
  by_cases e : j < n
  · rw [if_pos e, mkL_at e, mkL_at (by omega)]
  · rw [if_neg e]
    exact List.getElem?_eq_none (by rw [mkL_len]; omega)
/-- One more is marked. -/
theorem mkL_set {α : Type} {m : Nat → Nat → α} {k i : Nat} {l : List α} (h : i < l.length) : (mkL m k i ++ l.drop i).set i (m k i) = mkL m k (i + 1) ++ l.drop (i + 1) := by
  have e : l.drop i = l[i] :: l.drop (i + 1) := (List.drop_eq_getElem_cons h)
  rw [e, List.set_append_right _ _ (by rw [mkL_len]; exact Nat.le_refl i), mkL_len, Nat.sub_self, List.set_cons_zero, mkL_succ, List.append_assoc]
  rfl
end HL
theorem mark_spec (k i : Nat) (hk : k ≤ 1048576) (hi : i ≤ 1099511627776) : CSpec Tryz.prog 83 [.one (.i .i64 k), .one (.i .i64 i)] [] [] fun o L => o = .ret (vint (mk1 k i)) ∧ L = [] := by
  refine k_enter Tryz.func83 rfl rfl (h := fun w0 => ?_)
  refine c_seq ?_
  refine c_region ?_
  refine l_rd r_assign ?_
  refine l_nil ?_
  refine x_then ?_
  refine c_seq ?_
  refine c_region ?_
  refine l_rd r_move ?_
  first | refine l_rd r_add ?_ | refine l_rd r_addW ?_
  first | refine l_rd r_mul ?_ | refine l_rd r_mulW ?_
  refine l_rd r_move ?_
  first | refine l_rd r_add ?_ | refine l_rd r_addW ?_
  refine l_rd r_assign ?_
  refine l_nil ?_
  refine x_then ?_
  refine c_ret ?_
  refine k_ret [] _ (.cons (.tmp rfl) .nil) (h := ?_)
  exact ⟨rfl, rfl⟩
def mkH (k i : Nat) : Hash := hset hz [(0, u8 (mk1 k i))]
theorem markHash_spec (k i : Nat) (hk : k ≤ 1048576) (hi : i ≤ 1099511627776) : CSpec Tryz.prog 86 [.one (.i .i64 k), .one (.i .i64 i)] [] [] fun o L => o = .ret (vh (mkH k i)) ∧ L = [] := by
  refine k_enter Tryz.func86 rfl rfl (h := fun w0 => ?_)
  refine c_seq ?_
  refine c_region ?_
  refine l_do d_alloc (fun g4 => ?_)
  refine l_nil ?_
  refine x_then ?_
  refine c_seq ?_
  refine c_region ?_
  refine l_rd r_move ?_
  refine l_rd r_move ?_
  refine l_call 20350 [] (mark_spec k i hk hi) Tryz.func83 (h := ?_)
  rintro _ _ (⟨rfl, rfl⟩)
  first | refine l_rd r_conv ?_ | refine l_rd r_convW ?_
  refine l_rd (r_buildH [(0, u8 (mk1 k i))] ⟨rfl, ⟨_, rfl, u8_wrap _⟩, trivial⟩) ?_
  first | refine l_do1 d_store ?_ | refine l_do1 d_storeE ?_
  refine l_nil ?_
  refine x_then ?_
  refine c_ret ?_
  refine k_ret [] _ (.cons (.cell inferInstance rfl rfl rfl rfl) .nil) (h := ?_)
  exact ⟨rfl, rfl⟩
end Go.Proofs.YtonbgcehgmpnkaaGreat
/- Lists that lie apart: hashes. -/

set_option linter.unusedVariables false
set_option linter.unusedSimpArgs false
set_option maxRecDepth 100000
set_option maxHeartbeats 8000000
namespace Go.Proofs.YtonbgcehgmpnkaaGreat
open Go Go.RowKit HL
namespace HL
section
variable {α : Type} (e : TypeId) (E : En α) (m : Nat → Nat → α)
/-- The first of the rows are marked. -/
def F1 (k j : Nat) (s : Hd α) : Res := Res.rows s.A s.c e E (if j < k then mkL m j s.l.length else s.l)
/-- All of them are grown. -/
def F3 (gl : List (Hd α)) (j : Nat) (s : Hd α) : Res := Res.two e E s.A s.c (mkL m j s.l.length) (gl.getD j default).A (gl.getD j default).c (gl.getD j default).l
/-- The first of them are. -/
def F2 (gl : List (Hd α)) (k j : Nat) (s : Hd α) : Res := if j < k then F3 e E m gl j s else Res.rows s.A s.c e E (mkL m j s.l.length)
variable {e E m}
theorem F1_ne {k : Nat} : ∀ (j : Nat) (s : Hd α), j ≠ k → F1 e E m k j s = F1 e E m (k + 1) j s := fun j s h => by
  unfold F1
  by_cases h1 : j < k
  · rw [if_pos h1, if_pos (by omega)]
  · rw [if_neg h1, if_neg (by omega)]
theorem F2_ne {gl : List (Hd α)} {k : Nat} {x : Hd α} (hk : k < gl.length) : ∀ (j : Nat) (s : Hd α), j ≠ k → F2 e E m gl k j s = F2 e E m (gl.set k x) (k + 1) j s := fun j s h => by
  unfold F2 F3
  have hg : (gl.set k x).getD j default = gl.getD j default := by
    rw [List.getD_eq_getElem?_getD, List.getElem?_set_ne (fun e => h e.symm), ← List.getD_eq_getElem?_getD]
  rw [hg]
  by_cases h1 : j < k
  · rw [if_pos h1, if_pos (by omega)]
  · rw [if_neg h1, if_neg (by omega)]
theorem F3_ne {gl : List (Hd α)} {k : Nat} {x : Hd α} : ∀ (j : Nat) (s : Hd α), j ≠ k → F3 e E m gl j s = F3 e E m (gl.set k x) j s := fun j s h => by
  unfold F3
  have hg : (gl.set k x).getD j default = gl.getD j default := by
    rw [List.getD_eq_getElem?_getD, List.getElem?_set_ne (fun e => h e.symm), ← List.getD_eq_getElem?_getD]
  rw [hg]
theorem hdD_set {gl : List (Hd α)} {k : Nat} {x : Hd α} (hk : k < gl.length) : (gl.set k x).getD k default = x := by
  rw [List.getD_eq_getElem?_getD, List.getElem?_set_self hk]
  rfl
theorem hdD_ne {gl : List (Hd α)} {k j : Nat} {x : Hd α} (hk : j ≠ k) : (gl.set k x).getD j default = gl.getD j default := by
  rw [List.getD_eq_getElem?_getD, List.getElem?_set_ne (fun e => hk e.symm), ← List.getD_eq_getElem?_getD]
theorem mkL_pget {k n i : Nat} {l : List α} {x : α} (hp : mkL m k n <+: l) (hi : i < n) (h : l[i]? = some x) : x = m k i := by
  obtain ⟨u, rfl⟩ := hp
  rw [List.getElem?_append_left (by rw [mkL_len]; exact hi)] at h
  exact mkL_get h
theorem map_F1 (ss : List (Hd α)) : ss.map (Hd.res e E) = ss.mapIdx (F1 e E m 0) := by
  apply List.ext_getElem?
  intro j
  rw [List.getElem?_map, List.getElem?_mapIdx]
  cases ss[j]? with
  | none => rfl
  | some s => simp [F1, Hd.res]
theorem F1_F2 {ss : List (Hd α)} {gl : List (Hd α)} {k : Nat} (hk : ss.length ≤ k) : ss.mapIdx (F1 e E m k) = ss.mapIdx (F2 e E m gl 0) := mapIdx_congr fun j s hj => by
  have := (List.getElem?_eq_some_iff.1 hj).1
  unfold F1 F2
  rw [if_pos (by omega), if_neg (by omega)]
theorem F2_F3 {ss : List (Hd α)} {gl : List (Hd α)} {k : Nat} (hk : ss.length ≤ k) : ss.mapIdx (F2 e E m gl k) = ss.mapIdx (F3 e E m gl) := mapIdx_congr fun j s hj => by
  have := (List.getElem?_eq_some_iff.1 hj).1
  unfold F2
  rw [if_pos (by omega)]
theorem view_F3a {ss gl : List (Hd α)} {k : Nat} {s : Hd α} (hs : ss[k]? = some s) : View (Res.bag (ss.mapIdx (F3 e E m gl))) (Res.rd s.A E (mkL m k s.l.length)) := bag_view (mapIdx_get hs rfl) view_two1
theorem view_F3b {ss gl : List (Hd α)} {k : Nat} {s t : Hd α} (hs : ss[k]? = some s) (ht : gl[k]? = some t) : View (Res.bag (ss.mapIdx (F3 e E m gl))) (Res.rd t.A E t.l) := bag_view (mapIdx_get hs rfl) (by
  have : gl.getD k default = t := by rw [List.getD_eq_getElem?_getD, ht]; rfl
  unfold F3
  rw [this]
  exact view_two2)
end
end HL
instance elT_hashes : ElT Tryz.prog 47 (hdEn Hash 50) := ⟨⟩
instance elT_hashB : ElT Tryz.prog 23 hashEn := ⟨⟩
instance zero_hd {α : Type} {i : Nat} : ZeroOf (hdEn α i) default (.one (.sl 0 none 0 0)) := ⟨rfl⟩
theorem flatHashes_spec (A0 : Option Addr) (c0 : Nat) (ss : List (Hd Hash)) (hm : ss.length ≤ 1000) (hln : ∀ s ∈ ss, s.l.length ≤ 1048576) :
    CSpec Tryz.prog 57 [.one (.sl 0 A0 ss.length c0)] [] [(0, Res.rows A0 c0 47 (hdEn Hash 50) ss), (50, Res.bag (ss.map (Hd.res 23 hashEn)))] fun o L => o = .ret (vb true) ∧ L = [] := by
  refine k_enter Tryz.func57 rfl rfl (h := fun w0 => ?_)
  refine c_seq ?_
  refine c_region ?_
  refine l_rd r_assign ?_
  refine l_nil ?_
  refine x_then ?_
  refine c_seq ?_
  refine c_seq ?_
  refine c_region ?_
  refine l_rd r_assign ?_
  refine l_nil ?_
  refine x_then ?_
  refine c_block ?_
  refine k_res 50 (Res.bag (ss.mapIdx (F1 23 hashEn mkH 0))) rfl (by rw [map_F1]) ?_
  refine c_loopA (fun m E H => ∃ (k : Nat), E = [(3, vint (((k : Nat) : Int)))] ∧ H = [(50, Res.bag (ss.mapIdx (F1 23 hashEn mkH k)))] ∧ m = ss.length - k ∧ k ≤ ss.length) [0, 5, 6, 7, 8, 9, 10, 11, 12, 13, 14, 15, 40, 41, 42, 43, 44, 45, 46, 47, 48, 49, 50, 51, 52, 53, 54, 55, 56, 57, 58, 59, 60, 61, 62, 63, 64, 65, 66, 67, 68, 69, 70, 71, 72, 73, 74, 75, 76, 77, 78, 79, 80, 81, 82, 83, 84, 85, 86, 87, 88, 89, 90, 91, 92, 93, 94, 95, 96, 97, 98, 99, 100, 101, 102, 103, 104, 105, 106, 107, 108, 109, 110, 111, 112, 113, 114, 115, 116, 117, 118, 119, 120, 121, 122, 123, 124, 125, 126, 127, 128, 129, 130, 131, 132, 133, 134, 135, 136, 137, 138, 139, 140, 141, 142, 143, 144, 145, 146, 147, 148, 149, 150, 151, 152, 153, 154, 155, 156, 157, 158, 159, 160, 161, 162, 163, 164, 165, 166, 167, 168, 169, 170, 171, 172, 173, 174, 175, 176, 177, 178, 179, 180, 181, 182, 183, 184, 185, 186, 187, 188, 189, 190, 191, 192]  (ss.length) ([(3, vint (((0 : Nat) : Int)))]) ([(50, Res.bag (ss.mapIdx (F1 23 hashEn mkH 0)))]) rfl rfl (⟨0, rfl, rfl, by omega, by omega⟩) (by repeat (first | exact trivial | refine ⟨⟨_, rfl, (by first | rfl | exact den_int (by omega))⟩, ?_⟩)) (by repeat (first | exact trivial | refine ⟨rfl, ?_⟩)) rfl (fun _ _ _ hI => ?_)
  obtain ⟨k, rfl, rfl, hmk, hk⟩ := hI
  refine c_seq ?_
  refine c_seq ?_
  refine c_region ?_
  refine l_rd r_move ?_
  refine l_rd r_move ?_
  refine l_rd r_len ?_
  refine l_rd r_lss ?_
  refine l_nil ?_
  refine x_then ?_
  first | refine c_ifd rfl (fun h19 => ?_) (fun h19 => ?_) | refine c_ifn rfl (fun h19 => ?_) (fun h19 => ?_) | refine c_if rfl (fun h19 => ?_) (fun h19 => ?_)
  · obtain ⟨s, hs⟩ : ∃ s, ss[k]? = some s := ⟨_, List.getElem?_eq_getElem (by omega)⟩
    have hsl := hln s (List.mem_of_getElem? hs)
    refine k_out 50 51 k (r := Res.rows s.A s.c 23 hashEn s.l) (mapIdx_get hs (by simp [F1])) rfl ?_
    refine c_skip ?_
    refine x_then ?_
    refine c_seq ?_
    refine c_block ?_
    refine c_seq ?_
    refine c_region ?_
    refine l_rd r_assign ?_
    refine l_nil ?_
    refine x_then ?_
    refine c_block ?_
    refine c_loopA (fun m E H => ∃ (i : Nat), E = [(4, vint (((i : Nat) : Int)))] ∧ H = [(51, Res.rows s.A s.c 23 hashEn (mkL mkH k i ++ s.l.drop i))] ∧ m = s.l.length - i ∧ i ≤ s.l.length) [0, 3, 5, 6, 7, 8, 9, 10, 11, 12, 13, 14, 15, 16, 17, 18, 19, 20, 21, 40, 41, 42, 43, 44, 45, 46, 47, 48, 49, 50, 51, 52, 53, 54, 55, 56, 57, 58, 59, 60, 61, 62, 63, 64, 65, 66, 67, 68, 69, 70, 71, 72, 73, 74, 75, 76, 77, 78, 79, 80, 81, 82, 83, 84, 85, 86, 87, 88, 89, 90, 91, 92, 93, 94, 95, 96, 97, 98, 99, 100, 101, 102, 103, 104, 105, 106, 107, 108, 109, 110, 111, 112, 113, 114, 115, 116, 117, 118, 119, 120, 121, 122, 123, 124, 125, 126, 127, 128, 129, 130, 131, 132, 133, 134, 135, 136, 137, 138, 139, 140, 141, 142, 143, 144, 145, 146, 147, 148, 149, 150, 151, 152, 153, 154, 155, 156, 157, 158, 159, 160, 161, 162, 163, 164, 165, 166, 167, 168, 169, 170, 171, 172, 173, 174, 175, 176, 177, 178, 179, 180, 181, 182, 183, 184, 185, 186, 187, 188, 189, 190, 191, 192]  (s.l.length) ([(4, vint (((0 : Nat) : Int)))]) ([(51, Res.rows s.A s.c 23 hashEn (mkL mkH k 0 ++ s.l.drop 0))]) rfl rfl (⟨0, rfl, rfl, by omega, by omega⟩) (by repeat (first | exact trivial | refine ⟨⟨_, rfl, (by first | rfl | exact den_int (by omega))⟩, ?_⟩)) (by repeat (first | exact trivial | refine ⟨rfl, ?_⟩)) rfl (fun _ _ _ hI => ?_)
    obtain ⟨i, rfl, rfl, hmi, hi⟩ := hI
    refine c_seq ?_
    refine c_seq ?_
    refine c_region ?_
    refine l_rd r_move ?_
    refine l_rd r_move ?_
    refine l_rd r_move ?_
    first | refine l_ix (fun ad25 y25 hA25 h25 => ?_) | refine l_rd (r_indexT (hj := by omega)) ?_
    refine l_rd r_loadE ?_
    obtain rfl := opt_eq hs h25
    refine k_val 26 (vsl 51 s.A s.l.length s.c) rfl rfl ?_
    refine l_rd r_len ?_
    refine l_rd r_lss ?_
    refine l_nil ?_
    refine x_then ?_
    first | refine c_ifd rfl (fun h28 => ?_) (fun h28 => ?_) | refine c_ifn rfl (fun h28 => ?_) (fun h28 => ?_) | refine c_if rfl (fun h28 => ?_) (fun h28 => ?_)
    · have hml : s.l.length = (mkL mkH k i ++ s.l.drop i).length := by rw [List.length_append, mkL_len, List.length_drop]; omega
      refine c_skip ?_
      refine x_then ?_
      refine c_seq ?_
      refine c_block ?_
      refine c_draw (.q 0 (.q 1 (.q 2 (.q 3 (.q 4 (.q 5 (.q 6 (.s 7 (.q 8 (.s 9 .nil)))))))))) [0, 50, 10042, 10018, 10027, 21900, 21901, 21902, 21903, 10041, 10045, 10063, 23300, 23301, 23302, 23303, 10067, 10068, 10075, 10084, 24850, 24851, 24852, 24853, 10106, 25900, 25901, 25902, 25903, 10125, 10129, 10138, 27050, 27051, 27052, 27053, 10150, 10154, 10163, 28800, 28801, 28802, 28803, 29450, 29451, 29452, 29453] (hm := by kernel_rfl) (hs := by kernel_rfl) (hk := by kernel_rfl) (hQ := fun d v c a w h => by cases d <;> exact h) (h := ?_)
      refine q_rd rfl r_move ?_
      refine q_rd rfl r_move ?_
      first | refine q_ix rfl (fun ad33 y33 hA33 h33 => ?_) | refine q_rd rfl (r_indexT (hj := by omega)) ?_
      refine q_rd rfl r_loadE ?_
      obtain rfl := opt_eq hs h33
      refine k_valC 34 (vsl 51 s.A s.l.length s.c) rfl rfl ?_
      refine q_rd rfl r_move ?_
      refine q_rd rfl r_move ?_
      refine q_rd rfl r_move ?_
      refine s_call rfl 21900 [] (markHash_spec k i (by omega) (by omega)) Tryz.func86 (h := ?_)
      rintro _ _ (⟨rfl, rfl⟩)
      refine ⟨cov_of (by repeat (first | exact trivial | refine ⟨rfl, ?_⟩)), ?_⟩
      first | refine q_ix rfl (fun ad39 y39 hA39 h39 => ?_) | refine q_rd rfl (r_indexT (hj := by omega)) ?_
      first | refine s_do1 rfl d_store ?_ | refine s_do1 rfl d_storeE ?_
      refine s_nil ?_
      refine x_in (x_then ?_)
      refine c_region ?_
      refine l_rd r_move ?_
      first | refine l_rd r_add ?_ | refine l_rd r_addW ?_
      refine l_rd r_assign ?_
      refine l_nil ?_
      refine x_then ?_
      refine k_res 51 (Res.rows s.A s.c 23 hashEn (mkL mkH k (i + 1) ++ s.l.drop (i + 1))) rfl (by rw [mkL_set (by omega)]) ?_
      refine k_again (s.l.length - (i + 1)) ⟨i + 1, rfl, rfl, by omega, by omega⟩ (by omega) (by repeat (first | exact trivial | refine ⟨⟨_, rfl, (by first | rfl | exact den_int (by omega))⟩, ?_⟩)) (by repeat (first | exact trivial | refine ⟨rfl, ?_⟩))
    · refine c_exit ?_
      refine x_thenE (x_thenE (x_inE (x_in (x_then ?_))))
      refine c_region ?_
      refine l_rd r_move ?_
      first | refine l_rd r_add ?_ | refine l_rd r_addW ?_
      refine l_rd r_assign ?_
      refine l_nil ?_
      refine x_then ?_
      have hie : i = s.l.length := by omega
      refine k_in 50 51 k (ss.mapIdx (F1 23 hashEn mkH (k + 1))) (by rw [List.length_mapIdx]; omega) (mapIdx_set hs (by simp [F1, hie]) F1_ne) rfl rfl ?_
      refine k_again (ss.length - (k + 1)) ⟨k + 1, rfl, rfl, by omega, by omega⟩ (by omega) (by repeat (first | exact trivial | refine ⟨⟨_, rfl, (by first | rfl | exact den_int (by omega))⟩, ?_⟩)) (by repeat (first | exact trivial | refine ⟨rfl, ?_⟩))
  · refine c_exit ?_
    refine x_thenE (x_thenE (x_inE (x_then ?_)))
    refine c_seq ?_
    refine c_region ?_
    refine l_rd r_move ?_
    refine l_rd r_len ?_
    refine l_do (d_makeSlice) (fun g42 => ?_)
    refine l_rd r_assign ?_
    refine l_nil ?_
    refine x_then ?_
    refine c_seq ?_
    refine c_seq ?_
    refine c_region ?_
    refine l_rd r_assign ?_
    refine l_nil ?_
    refine x_then ?_
    refine c_block ?_
    refine k_res 50 (Res.bag (ss.mapIdx (F2 23 hashEn mkH (List.replicate ss.length default) 0))) rfl (by rw [F1_F2 (by omega)]) ?_
    refine c_loopA (fun m E H => ∃ (k : Nat) (gl : List (Hd Hash)), E = [(6, vint (((k : Nat) : Int)))] ∧ H = [(10042, Res.rows (some ⟨g42, 0, none⟩) ss.length 47 (hdEn Hash 50) gl), (50, Res.bag (ss.mapIdx (F2 23 hashEn mkH gl k)))] ∧ m = ss.length - k ∧ k ≤ ss.length ∧ (gl.length = ss.length) ∧ (∀ j, j < k → ∀ s, ss[j]? = some s → (gl.getD j default).l = mkL mkH j (s.l.length + 64))) [0, 3, 4, 5, 9, 10, 11, 12, 13, 14, 15, 16, 17, 18, 19, 20, 21, 22, 23, 24, 25, 26, 27, 28, 29, 30, 31, 32, 33, 34, 35, 36, 37, 38, 39, 40, 41, 42, 73, 74, 75, 76, 77, 78, 79, 80, 81, 82, 83, 84, 85, 86, 87, 88, 89, 90, 91, 92, 93, 94, 95, 96, 97, 98, 99, 100, 101, 102, 103, 104, 105, 106, 107, 108, 109, 110, 111, 112, 113, 114, 115, 116, 117, 118, 119, 120, 121, 122, 123, 124, 125, 126, 127, 128, 129, 130, 131, 132, 133, 134, 135, 136, 137, 138, 139, 140, 141, 142, 143, 144, 145, 146, 147, 148, 149, 150, 151, 152, 153, 154, 155, 156, 157, 158, 159, 160, 161, 162, 163, 164, 165, 166, 167, 168, 169, 170, 171, 172, 173, 174, 175, 176, 177, 178, 179, 180, 181, 182, 183, 184, 185, 186, 187, 188, 189, 190, 191, 192]  (ss.length) ([(6, vint (((0 : Nat) : Int)))]) ([(10042, Res.rows (some ⟨g42, 0, none⟩) ss.length 47 (hdEn Hash 50) (List.replicate ss.length default)), (50, Res.bag (ss.mapIdx (F2 23 hashEn mkH (List.replicate ss.length default) 0)))]) rfl rfl (⟨0, List.replicate ss.length default, rfl, rfl, by omega, by omega, by simp, (fun j hj => absurd hj (Nat.not_lt_zero j))⟩) (by repeat (first | exact trivial | refine ⟨⟨_, rfl, (by first | rfl | exact den_int (by omega))⟩, ?_⟩)) (by repeat (first | exact trivial | refine ⟨rfl, ?_⟩)) rfl (fun _ _ _ hI => ?_)
    obtain ⟨k, gl, rfl, rfl, hmk, hk, hik0, hik1⟩ := hI
    refine c_seq ?_
    refine c_seq ?_
    refine c_region ?_
    refine l_rd r_move ?_
    refine l_rd r_move ?_
    refine l_rd r_len ?_
    refine l_rd r_lss ?_
    refine l_nil ?_
    refine x_then ?_
    first | refine c_ifd rfl (fun h46 => ?_) (fun h46 => ?_) | refine c_ifn rfl (fun h46 => ?_) (fun h46 => ?_) | refine c_if rfl (fun h46 => ?_) (fun h46 => ?_)
    · obtain ⟨s, hs⟩ : ∃ s, ss[k]? = some s := ⟨_, List.getElem?_eq_getElem (by omega)⟩
      have hsl := hln s (List.mem_of_getElem? hs)
      refine k_out 50 51 k (r := Res.rows s.A s.c 23 hashEn (mkL mkH k s.l.length)) (mapIdx_get hs (by simp [F2])) rfl ?_
      refine k_conv 51 (Res.two 23 hashEn s.A s.c (mkL mkH k s.l.length) s.A s.c (mkL mkH k s.l.length)) rfl (fun w h => two_of h) (fun b hb => by rw [fp_rows]; exact (fp_two.1 hb).elim id id) ?_
      refine c_skip ?_
      refine x_then ?_
      refine c_seq ?_
      refine c_block ?_
      refine c_seq ?_
      refine c_region ?_
      refine l_rd r_move ?_
      refine l_rd r_move ?_
      first | refine l_ix (fun ad51 y51 hA51 h51 => ?_) | refine l_rd (r_indexT (hj := by omega)) ?_
      refine l_rd r_loadE ?_
      obtain rfl := opt_eq hs h51
      refine k_val 52 (vsl 51 s.A s.l.length s.c) rfl rfl ?_
      refine l_rd r_assign ?_
      refine l_nil ?_
      refine x_then ?_
      refine c_seq ?_
      refine c_seq ?_
      refine c_region ?_
      refine l_rd r_assign ?_
      refine l_nil ?_
      refine x_then ?_
      refine c_block ?_
      refine c_loopA (fun m E H => ∃ (i : Nat) (A7 : Option Addr) (c7 : Nat), E = [(8, vint (((i : Nat) : Int))), (7, vsl 51 A7 (s.l.length + i) c7)] ∧ H = [(51, Res.two 23 hashEn s.A s.c (mkL mkH k s.l.length) A7 c7 (mkL mkH k (s.l.length + i)))] ∧ m = 64 - i ∧ i ≤ 64) [0, 3, 4, 5, 6, 9, 10, 11, 12, 13, 14, 15, 16, 17, 18, 19, 20, 21, 22, 23, 24, 25, 26, 27, 28, 29, 30, 31, 32, 33, 34, 35, 36, 37, 38, 39, 40, 41, 42, 43, 44, 45, 46, 47, 48, 49, 50, 51, 52, 69, 70, 71, 72, 73, 74, 75, 76, 77, 78, 79, 80, 81, 82, 83, 84, 85, 86, 87, 88, 89, 90, 91, 92, 93, 94, 95, 96, 97, 98, 99, 100, 101, 102, 103, 104, 105, 106, 107, 108, 109, 110, 111, 112, 113, 114, 115, 116, 117, 118, 119, 120, 121, 122, 123, 124, 125, 126, 127, 128, 129, 130, 131, 132, 133, 134, 135, 136, 137, 138, 139, 140, 141, 142, 143, 144, 145, 146, 147, 148, 149, 150, 151, 152, 153, 154, 155, 156, 157, 158, 159, 160, 161, 162, 163, 164, 165, 166, 167, 168, 169, 170, 171, 172, 173, 174, 175, 176, 177, 178, 179, 180, 181, 182, 183, 184, 185, 186, 187, 188, 189, 190, 191, 192]  (64) ([(8, vint (((0 : Nat) : Int))), (7, vsl 51 (s.A) (s.l.length + 0) (s.c))]) ([(51, Res.two 23 hashEn s.A s.c (mkL mkH k s.l.length) (s.A) (s.c) (mkL mkH k (s.l.length + 0)))]) rfl rfl (⟨0, s.A, s.c, rfl, rfl, by omega, by omega⟩) (by repeat (first | exact trivial | refine ⟨⟨_, rfl, (by first | rfl | exact den_int (by omega))⟩, ?_⟩)) (by repeat (first | exact trivial | refine ⟨rfl, ?_⟩)) rfl (fun _ _ _ hI => ?_)
      obtain ⟨i, A7, c7, rfl, rfl, hmi, hi⟩ := hI
      refine c_seq ?_
      refine c_seq ?_
      refine c_region ?_
      refine l_rd r_move ?_
      refine l_rd r_lss ?_
      refine l_nil ?_
      refine x_then ?_
      first | refine c_ifd rfl (fun h54 => ?_) (fun h54 => ?_) | refine c_ifn rfl (fun h54 => ?_) (fun h54 => ?_) | refine c_if rfl (fun h54 => ?_) (fun h54 => ?_)
      · have hml : s.l.length + i = (mkL mkH k (s.l.length + i)).length := mkL_len.symm
        refine c_skip ?_
        refine x_then ?_
        refine c_seq ?_
        refine c_block ?_
        refine c_region ?_
        refine l_rd r_move ?_
        refine l_rd r_move ?_
        refine l_rd r_move ?_
        refine l_rd r_move ?_
        first | refine l_ix (fun ad61 y61 hA61 h61 => ?_) | refine l_rd (r_indexT (hj := by omega)) ?_
        refine l_rd r_loadE ?_
        obtain rfl := opt_eq hs h61
        refine l_rd r_len ?_
        refine l_rd r_move ?_
        first | refine l_rd r_add ?_ | refine l_rd r_addW ?_
        refine l_call 23300 [] (markHash_spec k (s.l.length + i) (by omega) (by omega)) Tryz.func86 (h := ?_)
        rintro _ _ (⟨rfl, rfl⟩)
        refine l_do (d_bslice [mkH k (s.l.length + i)]) (fun B67 => ?_)
        refine l_do d_append2 (fun p68 => ?_)
        refine l_rd r_assign ?_
        refine l_nil ?_
        refine x_in (x_then ?_)
        refine c_region ?_
        refine l_rd r_move ?_
        first | refine l_rd r_add ?_ | refine l_rd r_addW ?_
        refine l_rd r_assign ?_
        refine l_nil ?_
        refine x_then ?_
        refine k_val 7 (vsl 51 p68.1 (s.l.length + (i + 1)) p68.2) rfl (by rw [List.length_append, mkL_len]; rfl) ?_
        refine k_res 51 (Res.two 23 hashEn s.A s.c (mkL mkH k s.l.length) p68.1 p68.2 (mkL mkH k (s.l.length + (i + 1)))) rfl (by rw [show s.l.length + (i + 1) = (s.l.length + i) + 1 from rfl, mkL_succ]) ?_
        refine k_again (64 - (i + 1)) ⟨i + 1, p68.1, p68.2, rfl, rfl, by omega, by omega⟩ (by omega) (by repeat (first | exact trivial | refine ⟨⟨_, rfl, (by first | rfl | exact den_int (by omega))⟩, ?_⟩)) (by repeat (first | exact trivial | refine ⟨rfl, ?_⟩))
      · obtain rfl : i = 64 := by omega
        refine c_exit ?_
        refine x_thenE (x_thenE (x_inE (x_then ?_)))
        refine c_region ?_
        refine l_rd r_move ?_
        refine l_rd r_move ?_
        refine l_rd r_move ?_
        refine k_val 71 (vsl 50 A7 (mkL mkH k (s.l.length + 64)).length c7) rfl (by rw [mkL_len]; rfl) ?_
        first | refine l_ix (fun ad72 y72 hA72 h72 => ?_) | refine l_rd (r_indexT (hj := by omega)) ?_
        refine l_do1 (d_storeE (u := y72) (u' := (⟨A7, c7, mkL mkH k (s.l.length + 64)⟩ : Hd Hash))) ?_
        refine l_nil ?_
        refine x_in (x_then ?_)
        refine c_region ?_
        refine l_rd r_move ?_
        first | refine l_rd r_add ?_ | refine l_rd r_addW ?_
        refine l_rd r_assign ?_
        refine l_nil ?_
        refine x_then ?_
        refine k_in 50 51 k (ss.mapIdx (F2 23 hashEn mkH (gl.set k (⟨A7, c7, mkL mkH k (s.l.length + 64)⟩ : Hd Hash)) (k + 1))) (by rw [List.length_mapIdx]; omega) (mapIdx_set hs (by unfold F2 F3; rw [if_pos (by omega), hdD_set (by omega)]) (F2_ne (by omega))) rfl rfl ?_
        refine k_again (ss.length - (k + 1)) ⟨k + 1, gl.set k (⟨A7, c7, mkL mkH k (s.l.length + 64)⟩ : Hd Hash), rfl, rfl, by omega, by omega, by rw [List.length_set, hik0], (fun j hj s2 hs2 => by by_cases e : j = k; (subst e; rw [hdD_set (by omega), opt_eq hs2 hs]); (rw [hdD_ne e]; exact hik1 j (by omega) s2 hs2))⟩ (by omega) (by repeat (first | exact trivial | refine ⟨⟨_, rfl, (by first | rfl | exact den_int (by omega))⟩, ?_⟩)) (by repeat (first | exact trivial | refine ⟨rfl, ?_⟩))
    · refine c_exit ?_
      refine x_thenE (x_thenE (x_inE (x_then ?_)))
      refine c_seq ?_
      refine c_seq ?_
      refine c_region ?_
      refine l_rd r_assign ?_
      refine l_nil ?_
      refine x_then ?_
      refine c_block ?_
      refine k_res 50 (Res.bag (ss.mapIdx (F3 23 hashEn mkH gl))) rfl (by rw [F2_F3 (by omega)]) ?_
      have hgl : ∀ j s, ss[j]? = some s → (gl.getD j default).l = mkL mkH j (s.l.length + 64) := fun j s hj => hik1 j (by have := (List.getElem?_eq_some_iff.1 hj).1; omega) s hj
      refine c_loopA (fun m E H => ∃ (k : Nat), E = [(9, vint (((k : Nat) : Int)))] ∧ H = [] ∧ m = ss.length - k ∧ k ≤ ss.length) [0, 3, 4, 5, 6, 7, 8, 11, 12, 13, 14, 15, 16, 17, 18, 19, 20, 21, 22, 23, 24, 25, 26, 27, 28, 29, 30, 31, 32, 33, 34, 35, 36, 37, 38, 39, 40, 41, 42, 43, 44, 45, 46, 47, 48, 49, 50, 51, 52, 53, 54, 55, 56, 57, 58, 59, 60, 61, 62, 63, 64, 65, 66, 67, 68, 69, 70, 71, 72, 123, 124, 125, 126, 127, 128, 129, 130, 131, 132, 133, 134, 135, 136, 137, 138, 139, 140, 141, 142, 143, 144, 145, 146, 147, 148, 149, 150, 151, 152, 153, 154, 155, 156, 157, 158, 159, 160, 161, 162, 163, 164, 165, 166, 167, 168, 169, 170, 171, 172, 173, 174, 175, 176, 177, 178, 179, 180, 181, 182, 183, 184, 185, 186, 187, 188, 189, 190, 191, 192]  (ss.length) ([(9, vint (((0 : Nat) : Int)))]) ([]) rfl rfl (⟨0, rfl, rfl, by omega, by omega⟩) (by repeat (first | exact trivial | refine ⟨⟨_, rfl, (by first | rfl | exact den_int (by omega))⟩, ?_⟩)) (by repeat (first | exact trivial | refine ⟨rfl, ?_⟩)) rfl (fun _ _ _ hI => ?_)
      obtain ⟨k, rfl, rfl, hmk, hk⟩ := hI
      refine c_seq ?_
      refine c_seq ?_
      refine c_region ?_
      refine l_rd r_move ?_
      refine l_rd r_move ?_
      refine l_rd r_len ?_
      refine l_rd r_lss ?_
      refine l_nil ?_
      refine x_then ?_
      first | refine c_ifd rfl (fun h76 => ?_) (fun h76 => ?_) | refine c_ifn rfl (fun h76 => ?_) (fun h76 => ?_) | refine c_if rfl (fun h76 => ?_) (fun h76 => ?_)
      · obtain ⟨s, hs⟩ : ∃ s, ss[k]? = some s := ⟨_, List.getElem?_eq_getElem (by omega)⟩
        have hsl := hln s (List.mem_of_getElem? hs)
        have hmk : s.l.length = (mkL mkH k s.l.length).length := mkL_len.symm
        obtain ⟨t, ht⟩ : ∃ t, gl[k]? = some t := ⟨_, List.getElem?_eq_getElem (by omega)⟩
        have hl2 : t.l = mkL mkH k (s.l.length + 64) := by rw [← hgl k s hs, List.getD_eq_getElem?_getD, ht]; rfl
        have hll : t.l.length = s.l.length + 64 := by rw [hl2, mkL_len]
        have hv1 := view_F3a (e := 23) (E := hashEn) (m := mkH) (gl := gl) hs
        have hv2 := view_F3b (e := 23) (E := hashEn) (m := mkH) hs ht
        refine c_skip ?_
        refine x_then ?_
        refine c_seq ?_
        refine c_block ?_
        refine c_seq ?_
        refine c_region ?_
        refine l_rd r_assign ?_
        refine l_nil ?_
        refine x_then ?_
        refine c_block ?_
        refine c_loopA (fun m E H => ∃ (i : Nat), E = [(10, vint (((i : Nat) : Int)))] ∧ H = [] ∧ m = t.l.length - i ∧ i ≤ t.l.length) [0, 3, 4, 5, 6, 7, 8, 9, 11, 12, 13, 14, 15, 16, 17, 18, 19, 20, 21, 22, 23, 24, 25, 26, 27, 28, 29, 30, 31, 32, 33, 34, 35, 36, 37, 38, 39, 40, 41, 42, 43, 44, 45, 46, 47, 48, 49, 50, 51, 52, 53, 54, 55, 56, 57, 58, 59, 60, 61, 62, 63, 64, 65, 66, 67, 68, 69, 70, 71, 72, 73, 74, 75, 76, 77, 78, 123, 124, 125, 126, 127, 128, 129, 130, 131, 132, 133, 134, 135, 136, 137, 138, 139, 140, 141, 142, 143, 144, 145, 146, 147, 148, 149, 150, 151, 152, 153, 154, 155, 156, 157, 158, 159, 160, 161, 162, 163, 164, 165, 166, 167, 168, 169, 170, 171, 172, 173, 174, 175, 176, 177, 178, 179, 180, 181, 182, 183, 184, 185, 186, 187, 188, 189, 190, 191, 192]  (t.l.length) ([(10, vint (((0 : Nat) : Int)))]) ([]) rfl rfl (⟨0, rfl, rfl, by omega, by omega⟩) (by repeat (first | exact trivial | refine ⟨⟨_, rfl, (by first | rfl | exact den_int (by omega))⟩, ?_⟩)) (by repeat (first | exact trivial | refine ⟨rfl, ?_⟩)) rfl (fun _ _ _ hI => ?_)
        obtain ⟨i, rfl, rfl, hmi, hi⟩ := hI
        refine c_seq ?_
        refine c_seq ?_
        refine c_region ?_
        refine l_rd r_move ?_
        refine l_rd r_move ?_
        refine l_rd r_move ?_
        first | refine l_ix (fun ad82 y82 hA82 h82 => ?_) | refine l_rd (r_indexT (hj := by omega)) ?_
        refine l_rd r_loadE ?_
        obtain rfl := opt_eq ht h82
        refine l_rd r_len ?_
        refine l_rd r_lss ?_
        refine l_nil ?_
        refine x_then ?_
        first | refine c_ifd rfl (fun h85 => ?_) (fun h85 => ?_) | refine c_ifn rfl (fun h85 => ?_) (fun h85 => ?_) | refine c_if rfl (fun h85 => ?_) (fun h85 => ?_)
        · refine c_skip ?_
          refine x_then ?_
          refine c_seq ?_
          refine c_block ?_
          refine c_seq ?_
          refine c_draw (.q 0 (.q 1 (.q 2 (.q 3 (.q 4 (.q 5 (.q 6 (.q 7 (.q 8 (.s 9 (.q 10 (.q 11 (.q 12 (.q 13 (.q 14 (.q 15 (.q 16 (.q 17 (.q 18 (.q 19 (.q 20 (.q 21 (.q 22 (.q 23 (.q 24 (.q 25 (.q 26 (.q 27 (.q 28 (.q 29 (.s 30 (.q 31 (.q 32 (.q 33 (.q 34 .nil))))))))))))))))))))))))))))))))))) [0, 50, 10042, 10018, 10027, 21900, 21901, 21902, 21903, 10041, 10045, 10063, 23300, 23301, 23302, 23303, 10067, 10068, 10075, 10084, 24850, 24851, 24852, 24853, 10106, 25900, 25901, 25902, 25903, 10125, 10129, 10138, 27050, 27051, 27052, 27053, 10150, 10154, 10163, 28800, 28801, 28802, 28803, 29450, 29451, 29452, 29453] (hm := by kernel_rfl) (hs := by kernel_rfl) (hk := by kernel_rfl) (hQ := fun d v c a w h => by cases d <;> exact h) (h := ?_)
          refine q_rd rfl r_move ?_
          refine q_rd rfl r_move ?_
          first | refine q_ix rfl (fun ad90 y90 hA90 h90 => ?_) | refine q_rd rfl (r_indexT (hj := by omega)) ?_
          refine q_rd rfl r_loadE ?_
          obtain rfl := opt_eq ht h90
          refine q_rd rfl r_move ?_
          first | refine q_ix rfl (fun ad93 y93 hA93 h93 => ?_) | refine q_rd rfl (r_indexT (hj := by omega)) ?_
          first | refine q_rd rfl r_load ?_ | refine q_rd rfl r_loadE ?_ | refine q_rd rfl (r_loadT (hj := by omega)) ?_
          refine q_rd rfl r_move ?_
          refine q_rd rfl r_move ?_
          refine s_call rfl 24850 [] (markHash_spec k i (by omega) (by omega)) Tryz.func86 (h := ?_)
          rintro _ _ (⟨rfl, rfl⟩)
          refine ⟨cov_of (by repeat (first | exact trivial | refine ⟨rfl, ?_⟩)), ?_⟩
          refine q_rd rfl r_eqH ?_
          refine k_knowC 98 true rfl (by rw [hl2] at h93; exact decide_eq_true (mkL_get h93)) ?_
          refine q_rd rfl r_not ?_
          refine q_rd rfl r_move ?_
          refine q_rd rfl r_move ?_
          refine q_rd rfl r_move ?_
          refine q_rd rfl r_move ?_
          first | refine q_ix rfl (fun ad104 y104 hA104 h104 => ?_) | refine q_rd rfl (r_indexT (hj := by omega)) ?_
          refine q_rd rfl r_loadE ?_
          obtain rfl := opt_eq hs h104
          refine q_rd rfl r_len ?_
          refine q_rd rfl r_lss ?_
          refine k_caseC 107 rfl (fun c107 => ?_) (fun c107 => ?_)
          · have c107b := of_decide_eq_true c107
            refine q_rd rfl r_move ?_
            refine q_rd rfl r_move ?_
            refine q_rd rfl r_move ?_
            first | refine q_ix rfl (fun ad111 y111 hA111 h111 => ?_) | refine q_rd rfl (r_indexT (hj := by omega)) ?_
            refine q_rd rfl r_loadE ?_
            obtain rfl := opt_eq hs h111
            refine q_rd rfl r_move ?_
            first | refine q_ix rfl (fun ad114 y114 hA114 h114 => ?_) | refine q_rd rfl (r_indexT (hj := by omega)) ?_
            first | refine q_rd rfl r_load ?_ | refine q_rd rfl r_loadE ?_ | refine q_rd rfl (r_loadT (hj := by omega)) ?_
            refine q_rd rfl r_move ?_
            refine q_rd rfl r_move ?_
            refine s_call rfl 25900 [] (markHash_spec k i (by omega) (by omega)) Tryz.func86 (h := ?_)
            rintro _ _ (⟨rfl, rfl⟩)
            refine ⟨cov_of (by repeat (first | exact trivial | refine ⟨rfl, ?_⟩)), ?_⟩
            refine q_rd rfl r_eqH ?_
            refine k_knowC 119 true rfl (decide_eq_true (mkL_get h114)) ?_
            refine q_rd rfl r_not ?_
            first | refine q_rd rfl r_and ?_ | refine q_rd rfl r_pickB ?_ | refine q_rd rfl r_pick ?_
            first | refine q_rd rfl r_or ?_ | refine q_rd rfl r_pickB ?_ | refine q_rd rfl r_pick ?_
            refine s_nil ?_
            refine x_then ?_
            refine c_false rfl ?_
            refine c_skip ?_
            refine x_in (x_then ?_)
            refine c_region ?_
            refine l_rd r_move ?_
            first | refine l_rd r_add ?_ | refine l_rd r_addW ?_
            refine l_rd r_assign ?_
            refine l_nil ?_
            refine x_then ?_
            refine k_again (t.l.length - (i + 1)) ⟨i + 1, rfl, rfl, by omega, by omega⟩ (by omega) (by repeat (first | exact trivial | refine ⟨⟨_, rfl, (by first | rfl | exact den_int (by omega))⟩, ?_⟩)) (by repeat (first | exact trivial | refine ⟨rfl, ?_⟩))
          · refine q_rd rfl r_move ?_
            refine q_skip rfl ?_
            refine q_skip rfl ?_
            refine q_skip rfl ?_
            refine q_skip rfl ?_
            refine q_skip rfl ?_
            refine q_skip rfl ?_
            refine q_skip rfl ?_
            refine q_skip rfl ?_
            refine q_skip rfl ?_
            refine s_skip rfl ?_
            refine q_skip rfl ?_
            refine q_skip rfl ?_
            first | refine q_rd rfl r_and ?_ | refine q_rd rfl r_pickB ?_ | refine q_rd rfl r_pick ?_
            first | refine q_rd rfl r_or ?_ | refine q_rd rfl r_pickB ?_ | refine q_rd rfl r_pick ?_
            refine s_nil ?_
            refine x_then ?_
            refine c_false rfl ?_
            refine c_skip ?_
            refine x_in (x_then ?_)
            refine c_region ?_
            refine l_rd r_move ?_
            first | refine l_rd r_add ?_ | refine l_rd r_addW ?_
            refine l_rd r_assign ?_
            refine l_nil ?_
            refine x_then ?_
            refine k_again (t.l.length - (i + 1)) ⟨i + 1, rfl, rfl, by omega, by omega⟩ (by omega) (by repeat (first | exact trivial | refine ⟨⟨_, rfl, (by first | rfl | exact den_int (by omega))⟩, ?_⟩)) (by repeat (first | exact trivial | refine ⟨rfl, ?_⟩))
        · refine c_exit ?_
          refine x_thenE (x_thenE (x_inE (x_in (x_then ?_))))
          refine c_region ?_
          refine l_rd r_move ?_
          first | refine l_rd r_add ?_ | refine l_rd r_addW ?_
          refine l_rd r_assign ?_
          refine l_nil ?_
          refine x_then ?_
          refine k_again (ss.length - (k + 1)) ⟨k + 1, rfl, rfl, by omega, by omega⟩ (by omega) (by repeat (first | exact trivial | refine ⟨⟨_, rfl, (by first | rfl | exact den_int (by omega))⟩, ?_⟩)) (by repeat (first | exact trivial | refine ⟨rfl, ?_⟩))
      · refine c_exit ?_
        refine x_thenE (x_thenE (x_inE (x_then ?_)))
        refine c_seq ?_
        refine c_seq ?_
        refine c_region ?_
        refine l_rd r_assign ?_
        refine l_nil ?_
        refine x_then ?_
        refine c_block ?_
        refine c_loopA (fun m E H => ∃ (k : Nat) (gl2 : List (Hd Hash)), E = [(11, vint (((k : Nat) : Int)))] ∧ H = [(10042, Res.rows (some ⟨g42, 0, none⟩) ss.length 47 (hdEn Hash 50) gl2), (50, Res.bag (ss.mapIdx (F3 23 hashEn mkH gl2)))] ∧ m = ss.length - k ∧ k ≤ ss.length ∧ (gl2.length = ss.length) ∧ (∀ j, j < k → ∀ s, ss[j]? = some s → mkL mkH j s.l.length <+: (gl2.getD j default).l)) [0, 3, 4, 5, 6, 7, 8, 9, 10, 14, 15, 16, 17, 18, 19, 20, 21, 22, 23, 24, 25, 26, 27, 28, 29, 30, 31, 32, 33, 34, 35, 36, 37, 38, 39, 40, 41, 42, 43, 44, 45, 46, 47, 48, 49, 50, 51, 52, 53, 54, 55, 56, 57, 58, 59, 60, 61, 62, 63, 64, 65, 66, 67, 68, 69, 70, 71, 72, 73, 74, 75, 76, 77, 78, 79, 80, 81, 82, 83, 84, 85, 86, 87, 88, 89, 90, 91, 92, 93, 94, 95, 96, 97, 98, 99, 100, 101, 102, 103, 104, 105, 106, 107, 108, 109, 110, 111, 112, 113, 114, 115, 116, 117, 118, 119, 120, 121, 122, 152, 153, 154, 155, 156, 157, 158, 159, 160, 161, 162, 163, 164, 165, 166, 167, 168, 169, 170, 171, 172, 173, 174, 175, 176, 177, 178, 179, 180, 181, 182, 183, 184, 185, 186, 187, 188, 189, 190, 191, 192]  (ss.length) ([(11, vint (((0 : Nat) : Int)))]) ([(10042, Res.rows (some ⟨g42, 0, none⟩) ss.length 47 (hdEn Hash 50) (gl)), (50, Res.bag (ss.mapIdx (F3 23 hashEn mkH (gl))))]) rfl rfl (⟨0, gl, rfl, rfl, by omega, by omega, hik0, (fun j hj => absurd hj (Nat.not_lt_zero j))⟩) (by repeat (first | exact trivial | refine ⟨⟨_, rfl, (by first | rfl | exact den_int (by omega))⟩, ?_⟩)) (by repeat (first | exact trivial | refine ⟨rfl, ?_⟩)) rfl (fun _ _ _ hI => ?_)
        obtain ⟨k, gl2, rfl, rfl, hmk, hk, hg2, hp2⟩ := hI
        refine c_seq ?_
        refine c_seq ?_
        refine c_region ?_
        refine l_rd r_move ?_
        refine l_rd r_move ?_
        refine l_rd r_len ?_
        refine l_rd r_lss ?_
        refine l_nil ?_
        refine x_then ?_
        first | refine c_ifd rfl (fun h126 => ?_) (fun h126 => ?_) | refine c_ifn rfl (fun h126 => ?_) (fun h126 => ?_) | refine c_if rfl (fun h126 => ?_) (fun h126 => ?_)
        · obtain ⟨s, hs⟩ : ∃ s, ss[k]? = some s := ⟨_, List.getElem?_eq_getElem (by omega)⟩
          have hsl := hln s (List.mem_of_getElem? hs)
          have hmk : s.l.length = (mkL mkH k s.l.length).length := mkL_len.symm
          refine k_out 50 51 k (r := F3 23 hashEn mkH gl2 k s) (mapIdx_get hs rfl) rfl ?_
          refine k_conv 51 (Res.two 23 hashEn s.A s.c (mkL mkH k s.l.length) s.A s.c (mkL mkH k s.l.length)) rfl (fun w h => two_of (two_rows h)) (fun b hb => (fp_two.1 hb).elim .inl .inl) ?_
          refine c_skip ?_
          refine x_then ?_
          refine c_seq ?_
          refine c_block ?_
          refine c_seq ?_
          refine c_region ?_
          refine l_do (d_makeSlice (m := 64)) (fun g129 => ?_)
          refine l_rd r_assign ?_
          refine l_nil ?_
          refine x_then ?_
          refine c_seq ?_
          refine c_seq ?_
          refine c_region ?_
          refine l_rd r_assign ?_
          refine l_nil ?_
          refine x_then ?_
          refine c_block ?_
          refine c_loopA (fun m E H => ∃ (i : Nat), E = [(13, vint (((i : Nat) : Int)))] ∧ H = [(10129, Res.rows (some ⟨g129, 0, none⟩) 64 23 hashEn (mkL mkH (k + ss.length) i ++ (List.replicate 64 hz).drop i))] ∧ m = 64 - i ∧ i ≤ 64) [0, 3, 4, 5, 6, 7, 8, 9, 10, 11, 12, 14, 15, 16, 17, 18, 19, 20, 21, 22, 23, 24, 25, 26, 27, 28, 29, 30, 31, 32, 33, 34, 35, 36, 37, 38, 39, 40, 41, 42, 43, 44, 45, 46, 47, 48, 49, 50, 51, 52, 53, 54, 55, 56, 57, 58, 59, 60, 61, 62, 63, 64, 65, 66, 67, 68, 69, 70, 71, 72, 73, 74, 75, 76, 77, 78, 79, 80, 81, 82, 83, 84, 85, 86, 87, 88, 89, 90, 91, 92, 93, 94, 95, 96, 97, 98, 99, 100, 101, 102, 103, 104, 105, 106, 107, 108, 109, 110, 111, 112, 113, 114, 115, 116, 117, 118, 119, 120, 121, 122, 123, 124, 125, 126, 127, 128, 129, 143, 144, 145, 146, 147, 148, 149, 150, 151, 152, 153, 154, 155, 156, 157, 158, 159, 160, 161, 162, 163, 164, 165, 166, 167, 168, 169, 170, 171, 172, 173, 174, 175, 176, 177, 178, 179, 180, 181, 182, 183, 184, 185, 186, 187, 188, 189, 190, 191, 192]  (64) ([(13, vint (((0 : Nat) : Int)))]) ([(10129, Res.rows (some ⟨g129, 0, none⟩) 64 23 hashEn (mkL mkH (k + ss.length) 0 ++ (List.replicate 64 hz).drop 0))]) rfl rfl (⟨0, rfl, rfl, by omega, by omega⟩) (by repeat (first | exact trivial | refine ⟨⟨_, rfl, (by first | rfl | exact den_int (by omega))⟩, ?_⟩)) (by repeat (first | exact trivial | refine ⟨rfl, ?_⟩)) rfl (fun _ _ _ hI => ?_)
          obtain ⟨i, rfl, rfl, hmi, hi⟩ := hI
          refine c_seq ?_
          refine c_seq ?_
          refine c_region ?_
          refine l_rd r_move ?_
          refine l_rd r_lss ?_
          refine l_nil ?_
          refine x_then ?_
          first | refine c_ifd rfl (fun h131 => ?_) (fun h131 => ?_) | refine c_ifn rfl (fun h131 => ?_) (fun h131 => ?_) | refine c_if rfl (fun h131 => ?_) (fun h131 => ?_)
          · have hm7 : 64 = (mkL mkH (k + ss.length) i ++ (List.replicate 64 hz).drop i).length := by rw [List.length_append, mkL_len, List.length_drop, List.length_replicate]; omega
            refine c_skip ?_
            refine x_then ?_
            refine c_seq ?_
            refine c_block ?_
            refine c_region ?_
            refine l_rd r_move ?_
            refine l_rd r_move ?_
            refine l_rd r_move ?_
            refine l_rd r_move ?_
            refine l_rd r_len ?_
            first | refine l_rd r_add ?_ | refine l_rd r_addW ?_
            refine l_rd r_move ?_
            refine l_call 27050 [] (markHash_spec (k + ss.length) i (by omega) (by omega)) Tryz.func86 (h := ?_)
            rintro _ _ (⟨rfl, rfl⟩)
            first | refine l_ix (fun ad142 y142 hA142 h142 => ?_) | refine l_rd (r_indexT (hj := by omega)) ?_
            first | refine l_do1 d_store ?_ | refine l_do1 d_storeE ?_
            refine l_nil ?_
            refine x_in (x_then ?_)
            refine c_region ?_
            refine l_rd r_move ?_
            first | refine l_rd r_add ?_ | refine l_rd r_addW ?_
            refine l_rd r_assign ?_
            refine l_nil ?_
            refine x_then ?_
            refine k_res 10129 (Res.rows (some ⟨g129, 0, none⟩) 64 23 hashEn (mkL mkH (k + ss.length) (i + 1) ++ (List.replicate 64 hz).drop (i + 1))) rfl (by rw [mkL_set (by rw [List.length_replicate]; omega)]) ?_
            refine k_again (64 - (i + 1)) ⟨i + 1, rfl, rfl, by omega, by omega⟩ (by omega) (by repeat (first | exact trivial | refine ⟨⟨_, rfl, (by first | rfl | exact den_int (by omega))⟩, ?_⟩)) (by repeat (first | exact trivial | refine ⟨rfl, ?_⟩))
          · obtain rfl : i = 64 := by omega
            have hm64 : 64 = (mkL mkH (k + ss.length) 64).length := mkL_len.symm
            have hm64b : (mkL mkH (k + ss.length) 64).length ≤ 1000 := by rw [mkL_len]; decide
            refine k_res 10129 (Res.rows (some ⟨g129, 0, none⟩) 64 23 hashEn (mkL mkH (k + ss.length) 64)) rfl (by rw [show (List.replicate 64 hz).drop 64 = [] from rfl, List.append_nil]) ?_
            refine c_exit ?_
            refine x_thenE (x_thenE (x_inE (x_then ?_)))
            refine c_region ?_
            refine l_rd r_move ?_
            refine l_rd r_move ?_
            refine l_rd r_move ?_
            refine l_rd r_move ?_
            first | refine l_ix (fun ad147 y147 hA147 h147 => ?_) | refine l_rd (r_indexT (hj := by omega)) ?_
            refine l_rd r_loadE ?_
            obtain rfl := opt_eq hs h147
            refine k_val 148 (vsl 51 s.A s.l.length s.c) rfl rfl ?_
            refine l_rd r_move ?_
            refine l_do (d_append2 (hb := by simp only [mkL_len]; omega)) (fun p150 => ?_)
            refine k_val 150 (vsl 50 p150.1 (mkL mkH k s.l.length ++ mkL mkH (k + ss.length) 64).length p150.2) rfl rfl ?_
            first | refine l_ix (fun ad151 y151 hA151 h151 => ?_) | refine l_rd (r_indexT (hj := by omega)) ?_
            refine l_do1 (d_storeE (u := y151) (u' := (⟨p150.1, p150.2, mkL mkH k s.l.length ++ mkL mkH (k + ss.length) 64⟩ : Hd Hash))) ?_
            refine l_nil ?_
            refine x_in (x_then ?_)
            refine c_region ?_
            refine l_rd r_move ?_
            first | refine l_rd r_add ?_ | refine l_rd r_addW ?_
            refine l_rd r_assign ?_
            refine l_nil ?_
            refine x_then ?_
            refine k_in 50 51 k (ss.mapIdx (F3 23 hashEn mkH (gl2.set k (⟨p150.1, p150.2, mkL mkH k s.l.length ++ mkL mkH (k + ss.length) 64⟩ : Hd Hash)))) (by rw [List.length_mapIdx]; omega) (mapIdx_set hs (by unfold F3; rw [hdD_set (by omega)]) F3_ne) rfl rfl ?_
            refine k_again (ss.length - (k + 1)) ⟨k + 1, gl2.set k (⟨p150.1, p150.2, mkL mkH k s.l.length ++ mkL mkH (k + ss.length) 64⟩ : Hd Hash), rfl, rfl, by omega, by omega, by rw [List.length_set, hg2], (fun j hj s2 hs2 => by by_cases e : j = k; (subst e; rw [hdD_set (by omega), opt_eq hs2 hs]; exact List.prefix_append _ _); (rw [hdD_ne e]; exact hp2 j (by omega) s2 hs2))⟩ (by omega) (by repeat (first | exact trivial | refine ⟨⟨_, rfl, (by first | rfl | exact den_int (by omega))⟩, ?_⟩)) (by repeat (first | exact trivial | refine ⟨rfl, ?_⟩))
        · refine c_exit ?_
          refine x_thenE (x_thenE (x_inE (x_then ?_)))
          refine c_seq ?_
          refine c_seq ?_
          refine c_region ?_
          refine l_rd r_assign ?_
          refine l_nil ?_
          refine x_then ?_
          refine c_block ?_
          have hgl2 : ∀ j s, ss[j]? = some s → mkL mkH j s.l.length <+: (gl2.getD j default).l := fun j s hj => hp2 j (by have := (List.getElem?_eq_some_iff.1 hj).1; omega) s hj
          refine c_loopA (fun m E H => ∃ (k : Nat), E = [(14, vint (((k : Nat) : Int)))] ∧ H = [] ∧ m = ss.length - k ∧ k ≤ ss.length) [0, 3, 4, 5, 6, 7, 8, 9, 10, 11, 12, 13, 16, 17, 18, 19, 20, 21, 22, 23, 24, 25, 26, 27, 28, 29, 30, 31, 32, 33, 34, 35, 36, 37, 38, 39, 40, 41, 42, 43, 44, 45, 46, 47, 48, 49, 50, 51, 52, 53, 54, 55, 56, 57, 58, 59, 60, 61, 62, 63, 64, 65, 66, 67, 68, 69, 70, 71, 72, 73, 74, 75, 76, 77, 78, 79, 80, 81, 82, 83, 84, 85, 86, 87, 88, 89, 90, 91, 92, 93, 94, 95, 96, 97, 98, 99, 100, 101, 102, 103, 104, 105, 106, 107, 108, 109, 110, 111, 112, 113, 114, 115, 116, 117, 118, 119, 120, 121, 122, 123, 124, 125, 126, 127, 128, 129, 130, 131, 132, 133, 134, 135, 136, 137, 138, 139, 140, 141, 142, 143, 144, 145, 146, 147, 148, 149, 150, 151]  (ss.length) ([(14, vint (((0 : Nat) : Int)))]) ([]) rfl rfl (⟨0, rfl, rfl, by omega, by omega⟩) (by repeat (first | exact trivial | refine ⟨⟨_, rfl, (by first | rfl | exact den_int (by omega))⟩, ?_⟩)) (by repeat (first | exact trivial | refine ⟨rfl, ?_⟩)) rfl (fun _ _ _ hI => ?_)
          obtain ⟨k, rfl, rfl, hmk, hk⟩ := hI
          refine c_seq ?_
          refine c_seq ?_
          refine c_region ?_
          refine l_rd r_move ?_
          refine l_rd r_move ?_
          refine l_rd r_len ?_
          refine l_rd r_lss ?_
          refine l_nil ?_
          refine x_then ?_
          first | refine c_ifd rfl (fun h155 => ?_) (fun h155 => ?_) | refine c_ifn rfl (fun h155 => ?_) (fun h155 => ?_) | refine c_if rfl (fun h155 => ?_) (fun h155 => ?_)
          · obtain ⟨s, hs⟩ : ∃ s, ss[k]? = some s := ⟨_, List.getElem?_eq_getElem (by omega)⟩
            have hsl := hln s (List.mem_of_getElem? hs)
            have hmk : s.l.length = (mkL mkH k s.l.length).length := mkL_len.symm
            obtain ⟨t, ht⟩ : ∃ t, gl2[k]? = some t := ⟨_, List.getElem?_eq_getElem (by omega)⟩
            have hpre : mkL mkH k s.l.length <+: t.l := by have := hgl2 k s hs; rwa [List.getD_eq_getElem?_getD, ht] at this
            have htl : s.l.length ≤ t.l.length := by have := hpre.length_le; rwa [mkL_len] at this
            have hv1 := view_F3a (e := 23) (E := hashEn) (m := mkH) (gl := gl2) hs
            have hv2 := view_F3b (e := 23) (E := hashEn) (m := mkH) hs ht
            refine c_skip ?_
            refine x_then ?_
            refine c_seq ?_
            refine c_block ?_
            refine c_seq ?_
            refine c_region ?_
            refine l_rd r_assign ?_
            refine l_nil ?_
            refine x_then ?_
            refine c_block ?_
            refine c_loopA (fun m E H => ∃ (i : Nat), E = [(15, vint (((i : Nat) : Int)))] ∧ H = [] ∧ m = s.l.length - i ∧ i ≤ s.l.length) [0, 3, 4, 5, 6, 7, 8, 9, 10, 11, 12, 13, 14, 16, 17, 18, 19, 20, 21, 22, 23, 24, 25, 26, 27, 28, 29, 30, 31, 32, 33, 34, 35, 36, 37, 38, 39, 40, 41, 42, 43, 44, 45, 46, 47, 48, 49, 50, 51, 52, 53, 54, 55, 56, 57, 58, 59, 60, 61, 62, 63, 64, 65, 66, 67, 68, 69, 70, 71, 72, 73, 74, 75, 76, 77, 78, 79, 80, 81, 82, 83, 84, 85, 86, 87, 88, 89, 90, 91, 92, 93, 94, 95, 96, 97, 98, 99, 100, 101, 102, 103, 104, 105, 106, 107, 108, 109, 110, 111, 112, 113, 114, 115, 116, 117, 118, 119, 120, 121, 122, 123, 124, 125, 126, 127, 128, 129, 130, 131, 132, 133, 134, 135, 136, 137, 138, 139, 140, 141, 142, 143, 144, 145, 146, 147, 148, 149, 150, 151, 152, 153, 154, 155, 156, 157]  (s.l.length) ([(15, vint (((0 : Nat) : Int)))]) ([]) rfl rfl (⟨0, rfl, rfl, by omega, by omega⟩) (by repeat (first | exact trivial | refine ⟨⟨_, rfl, (by first | rfl | exact den_int (by omega))⟩, ?_⟩)) (by repeat (first | exact trivial | refine ⟨rfl, ?_⟩)) rfl (fun _ _ _ hI => ?_)
            obtain ⟨i, rfl, rfl, hmi, hi⟩ := hI
            refine c_seq ?_
            refine c_seq ?_
            refine c_region ?_
            refine l_rd r_move ?_
            refine l_rd r_move ?_
            refine l_rd r_move ?_
            first | refine l_ix (fun ad161 y161 hA161 h161 => ?_) | refine l_rd (r_indexT (hj := by omega)) ?_
            refine l_rd r_loadE ?_
            obtain rfl := opt_eq hs h161
            refine l_rd r_len ?_
            refine l_rd r_lss ?_
            refine l_nil ?_
            refine x_then ?_
            first | refine c_ifd rfl (fun h164 => ?_) (fun h164 => ?_) | refine c_ifn rfl (fun h164 => ?_) (fun h164 => ?_) | refine c_if rfl (fun h164 => ?_) (fun h164 => ?_)
            · refine c_skip ?_
              refine x_then ?_
              refine c_seq ?_
              refine c_block ?_
              refine c_seq ?_
              refine c_draw (.q 0 (.q 1 (.q 2 (.q 3 (.q 4 (.q 5 (.q 6 (.q 7 (.q 8 (.s 9 (.q 10 (.q 11 (.q 12 (.q 13 (.q 14 (.q 15 (.q 16 (.q 17 (.q 18 (.q 19 (.q 20 (.q 21 (.s 22 (.q 23 (.q 24 (.q 25 .nil)))))))))))))))))))))))))) [0, 50, 10042, 10018, 10027, 21900, 21901, 21902, 21903, 10041, 10045, 10063, 23300, 23301, 23302, 23303, 10067, 10068, 10075, 10084, 24850, 24851, 24852, 24853, 10106, 25900, 25901, 25902, 25903, 10125, 10129, 10138, 27050, 27051, 27052, 27053, 10150, 10154, 10163, 28800, 28801, 28802, 28803, 29450, 29451, 29452, 29453] (hm := by kernel_rfl) (hs := by kernel_rfl) (hk := by kernel_rfl) (hQ := fun d v c a w h => by cases d <;> exact h) (h := ?_)
              refine q_rd rfl r_move ?_
              refine q_rd rfl r_move ?_
              first | refine q_ix rfl (fun ad169 y169 hA169 h169 => ?_) | refine q_rd rfl (r_indexT (hj := by omega)) ?_
              refine q_rd rfl r_loadE ?_
              obtain rfl := opt_eq hs h169
              refine q_rd rfl r_move ?_
              first | refine q_ix rfl (fun ad172 y172 hA172 h172 => ?_) | refine q_rd rfl (r_indexT (hj := by omega)) ?_
              first | refine q_rd rfl r_load ?_ | refine q_rd rfl r_loadE ?_ | refine q_rd rfl (r_loadT (hj := by omega)) ?_
              refine q_rd rfl r_move ?_
              refine q_rd rfl r_move ?_
              refine s_call rfl 28800 [] (markHash_spec k i (by omega) (by omega)) Tryz.func86 (h := ?_)
              rintro _ _ (⟨rfl, rfl⟩)
              refine ⟨cov_of (by repeat (first | exact trivial | refine ⟨rfl, ?_⟩)), ?_⟩
              refine q_rd rfl r_eqH ?_
              refine k_knowC 177 true rfl (decide_eq_true (mkL_get h172)) ?_
              refine q_rd rfl r_not ?_
              refine q_rd rfl r_move ?_
              refine q_rd rfl r_move ?_
              refine q_rd rfl r_move ?_
              first | refine q_ix rfl (fun ad182 y182 hA182 h182 => ?_) | refine q_rd rfl (r_indexT (hj := by omega)) ?_
              refine q_rd rfl r_loadE ?_
              obtain rfl := opt_eq ht h182
              refine q_rd rfl r_move ?_
              first | refine q_ix rfl (fun ad185 y185 hA185 h185 => ?_) | refine q_rd rfl (r_indexT (hj := by omega)) ?_
              first | refine q_rd rfl r_load ?_ | refine q_rd rfl r_loadE ?_ | refine q_rd rfl (r_loadT (hj := by omega)) ?_
              refine q_rd rfl r_move ?_
              refine q_rd rfl r_move ?_
              refine s_call rfl 29450 [] (markHash_spec k i (by omega) (by omega)) Tryz.func86 (h := ?_)
              rintro _ _ (⟨rfl, rfl⟩)
              refine ⟨cov_of (by repeat (first | exact trivial | refine ⟨rfl, ?_⟩)), ?_⟩
              refine q_rd rfl r_eqH ?_
              refine k_knowC 190 true rfl (decide_eq_true (mkL_pget hpre (by omega) h185)) ?_
              refine q_rd rfl r_not ?_
              first | refine q_rd rfl r_or ?_ | refine q_rd rfl r_pickB ?_ | refine q_rd rfl r_pick ?_
              refine s_nil ?_
              refine x_then ?_
              refine c_false rfl ?_
              refine c_skip ?_
              refine x_in (x_then ?_)
              refine c_region ?_
              refine l_rd r_move ?_
              first | refine l_rd r_add ?_ | refine l_rd r_addW ?_
              refine l_rd r_assign ?_
              refine l_nil ?_
              refine x_then ?_
              refine k_again (s.l.length - (i + 1)) ⟨i + 1, rfl, rfl, by omega, by omega⟩ (by omega) (by repeat (first | exact trivial | refine ⟨⟨_, rfl, (by first | rfl | exact den_int (by omega))⟩, ?_⟩)) (by repeat (first | exact trivial | refine ⟨rfl, ?_⟩))
            · refine c_exit ?_
              refine x_thenE (x_thenE (x_inE (x_in (x_then ?_))))
              refine c_region ?_
              refine l_rd r_move ?_
              first | refine l_rd r_add ?_ | refine l_rd r_addW ?_
              refine l_rd r_assign ?_
              refine l_nil ?_
              refine x_then ?_
              refine k_again (ss.length - (k + 1)) ⟨k + 1, rfl, rfl, by omega, by omega⟩ (by omega) (by repeat (first | exact trivial | refine ⟨⟨_, rfl, (by first | rfl | exact den_int (by omega))⟩, ?_⟩)) (by repeat (first | exact trivial | refine ⟨rfl, ?_⟩))
          · refine c_exit ?_
            refine x_thenE (x_thenE (x_inE (x_then ?_)))
            refine c_seq ?_
            refine c_region ?_
            refine l_rd r_assign ?_
            refine l_nil ?_
            refine x_then ?_
            refine c_ret ?_
            refine k_ret [] _ (.cons (.tmp rfl) .nil) (h := ?_)
            exact ⟨rfl, rfl⟩
end Go.Proofs.YtonbgcehgmpnkaaGreat
