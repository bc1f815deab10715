/- Lemmas and walks: R3, R4, R5, R8, R9, R6, R7. -/
import Derived.Test.YtehhnfpfefccaaaGreatMS4
import Derived.Test.YtehhnfpfefccaaaGreatMS3
/- The reference: Way, Stands, less, Path. -/


set_option linter.unusedVariables false
set_option linter.unusedSimpArgs false
set_option maxRecDepth 100000
set_option maxHeartbeats 8000000
namespace Go.Proofs.YtehhnfpfefccaaaGreat
open Go Go.RowKit HL
def Wide64 (l : List LeafP) : Prop := ∀ x ∈ l, -9223372036854775808 ≤ x.height ∧ x.height ≤ 9223372036854775807
theorem Wide64.at {l : List LeafP} (h : Wide64 l) (k : Hash) : -9223372036854775808 ≤ ((findL l k).getD leaf0).height ∧ ((findL l k).getD leaf0).height ≤ 9223372036854775807 := by
  cases hf : findL l k with
  | none => decide
  | some x => exact h x (by unfold findL at hf; exact List.mem_of_find?_eq_some hf)
theorem Wide64.high {l : List LeafP} (h : Wide64 l) : High l := fun x hx => (h x hx).2
theorem rev_take {α : Type} {l : List α} {k : Nat} (d : α) (h : k < l.length) : l.reverse.take (k + 1) = l.reverse.take k ++ [l.getD (l.length - 1 - k) d] := by
  rw [take_get (x := l.getD (l.length - 1 - k) d)]
  rw [getD_some d (by rw [List.length_reverse]; exact h), getD_rev h]
theorem rway_spec (g : Nat) (root : Hash) (h : Int) (A : Option Addr) (c : Nat) (l : List LeafP) (dest : Hash) (hw : Wide64 l) (hok : NewOk root h l) : CSpec Tryz.prog 19 [.one (.ptr 0 ⟨g, 0, none⟩), .agg [.hash dest]] (mB g root h A c l) [] fun o L =>
    ∃ A c, ((wayOf l root h dest).getD []).length ≤ l.length ∧ o = .ret (.tup [.one (.sl 0 A ((wayOf l root h dest).getD []).length c), .one (.b (wayOf l root h dest).isSome)]) ∧ L = [Res.rows A c 24 hashEn ((wayOf l root h dest).getD [])] := by
  have h0 := hok.1
  have h1 := hok.2.1
  have h2 := hok.2.2.1
  refine k_enter Tryz.func19 rfl rfl (h := fun w0 => ?_)
  refine c_seq ?_
  refine c_region ?_
  refine l_do d_box (fun g3 => ?_)
  refine l_rd r_assign ?_
  refine l_rd r_assign ?_
  refine l_nil ?_
  refine x_then ?_
  refine c_seq ?_
  refine c_region ?_
  refine l_rd r_assign ?_
  refine l_nil ?_
  refine x_then ?_
  refine c_seq ?_
  refine c_region ?_
  refine l_rd r_move ?_
  first | refine l_rd r_load ?_ | refine l_rd r_loadE ?_ | refine l_rd (r_loadT (hj := by omega)) ?_
  refine l_call 20800 [(100, 100)] (rleaf_spec g root h A c l dest h2) Tryz.func38 (h := ?_)
  rintro _ _ (⟨rfl, rfl⟩)
  refine l_rd r_move ?_
  first | refine l_rd r_extract ?_ | refine l_rd r_extractN ?_
  refine l_rd r_extract ?_
  refine l_do d_alloc (fun g7 => ?_)
  first | refine l_do1 d_store ?_ | refine l_do1 d_storeE ?_
  refine l_rd r_assign ?_
  refine l_nil ?_
  refine x_then ?_
  refine c_seq ?_
  refine c_seq ?_
  refine c_draw (.q 0 (.q 1 (.q 2 (.q 3 (.q 4 (.q 5 .nil)))))) [10003, 20800, 20801, 20802, 20803, 10007, 10037, 10038, 10055, 10066, 10067, 23650, 23651, 23652, 23653, 10011] (hm := by kernel_rfl) (hs := by kernel_rfl) (hk := by kernel_rfl) (hQ := fun d v c a w h => by cases d <;> exact h) (h := ?_)
  first | refine q_rd rfl r_load ?_ | refine q_rd rfl r_loadE ?_ | refine q_rd rfl (r_loadT (hj := by omega)) ?_
  refine q_rd rfl r_move ?_
  first | refine q_rd rfl r_nilCheck ?_ | refine q_rd rfl r_nilCheckF ?_
  first | refine q_rd rfl r_field ?_ | refine q_rd rfl r_fieldE ?_
  first | refine q_rd rfl r_load ?_ | refine q_rd rfl r_loadE ?_ | refine q_rd rfl (r_loadT (hj := by omega)) ?_
  refine q_rd rfl r_eqH ?_
  refine s_nil ?_
  refine x_then ?_
  first | refine c_ifd rfl (fun h24 => ?_) (fun h24 => ?_) | refine c_ifn rfl (fun h24 => ?_) (fun h24 => ?_) | refine c_if rfl (fun h24 => ?_) (fun h24 => ?_)
  · refine c_seq ?_
    refine c_region ?_
    refine l_rd r_assign ?_
    refine l_rd r_assign ?_
    refine l_nil ?_
    refine x_then ?_
    refine c_ret ?_
    refine x_thenR ?_
    refine k_nil 704 24 hashEn ?_
    refine k_ret [704] (.tup [.one (.sl 0 none 0 0), .one (.b true)]) (.cons (.tmp rfl) (.cons (.tmp rfl) .nil)) (h := ?_)
    have e : wayOf l root h dest = some [] := by unfold wayOf; rw [upF, if_pos h24]; rfl
    rw [e]
    exact ⟨none, 0, Nat.zero_le _, rfl, rfl⟩
  · refine c_skip ?_
    refine x_then ?_
    refine c_seq ?_
    refine c_block ?_
    refine k_nil 606 24 hashEn ?_
    refine c_loopA (fun m E H => ∃ (acc : List Hash) (A6 : Option Addr) (c6 : Nat) (x : LeafP) (ok : Bool), E = [(6, vsl 606 A6 acc.length c6), (8, vb ok)] ∧ H = [(606, Res.rows A6 c6 24 hashEn acc), (10007, Res.va g7 59 (leafEn.f x).ats)] ∧ m = l.length - acc.length ∧ RW l root h dest acc x ok) [0, 1, 3, 7, 13, 14, 15, 16, 17, 18, 19, 20, 21, 22, 23, 24]  (l.length) ([(6, vsl 606 none 0 0), (8, vb (findL l dest).isSome)]) ([(606, Res.rows none 0 24 hashEn []), (10007, Res.va g7 59 (leafEn.f ((findL l dest).getD leaf0)).ats)]) rfl rfl (⟨[], none, 0, _, _, rfl, rfl, rfl, RW.start hok.2.2.2.1 h24⟩) (by repeat (first | exact trivial | refine ⟨⟨_, rfl, (by first | rfl | exact den_int (by omega))⟩, ?_⟩)) (by repeat (first | exact trivial | refine ⟨rfl, ?_⟩)) rfl (fun _ _ _ hI => ?_)
    obtain ⟨acc, A6, c6, x, ok, rfl, rfl, rfl, hi⟩ := hI
    refine c_seq ?_
    refine c_seq ?_
    refine c_region ?_
    refine l_rd r_move ?_
    refine l_nil ?_
    refine x_then ?_
    first | refine c_ifd rfl (fun h25 => ?_) (fun h25 => ?_) | refine c_ifn rfl (fun h25 => ?_) (fun h25 => ?_) | refine c_if rfl (fun h25 => ?_) (fun h25 => ?_)
    · subst h25
      have hs := (hi.snoc hok.2.2.2.1).2.2
      have hxw := hw x (hi.on rfl).1
      have hbl : (acc ++ [x.id]).length = acc.length + 1 := by simp
      refine c_skip ?_
      refine x_then ?_
      refine c_block ?_
      refine c_seq ?_
      refine c_seq ?_
      refine c_region ?_
      first | refine l_rd r_field ?_ | refine l_rd r_fieldE ?_
      first | refine l_rd r_load ?_ | refine l_rd r_loadE ?_ | refine l_rd (r_loadT (hj := by omega)) ?_
      refine l_rd r_eql ?_
      refine l_rd r_move ?_
      first | refine l_rdG [] rfl (fun hg => r_field) ?_ | refine l_rdG [] rfl (fun hg => r_fieldE) ?_
      first | refine l_rdG [30] ⟨_, _, ⟨_, .inl ⟨rfl, rfl⟩⟩, rfl, rfl⟩ (fun hg => r_load) ?_ | refine l_rdG [30] ⟨_, _, ⟨_, .inl ⟨rfl, rfl⟩⟩, rfl, rfl⟩ (fun hg => r_loadE) ?_ | refine l_rdG [30] ⟨_, _, ⟨_, .inl ⟨rfl, rfl⟩⟩, rfl, rfl⟩ (fun hg => (r_loadT (hj := (by first | omega | (have hgg := hg; simp only [cond_true, cond_false, Bool.and_eq_true, Bool.or_eq_true, Bool.not_eq_true', Bool.not_eq_false', Bool.and_eq_false_imp, Bool.or_eq_false_iff, decide_eq_true_eq, decide_eq_false_iff_not] at hgg; omega))))) ?_
      refine l_rdG [31] ⟨_, _, ⟨_, .inl ⟨rfl, rfl⟩⟩, rfl, rfl⟩ (fun hg => r_eql) ?_
      first | refine l_rd r_or ?_ | refine l_rd r_pickB ?_ | refine l_rd r_pick ?_
      refine l_nil ?_
      refine x_then ?_
      first | refine c_ifd rfl (fun h33 => ?_) (fun h33 => ?_) | refine c_ifn rfl (fun h33 => ?_) (fun h33 => ?_) | refine c_if rfl (fun h33 => ?_) (fun h33 => ?_)
      · refine c_seq ?_
        refine c_region ?_
        refine l_rd r_assign ?_
        refine l_rd r_assign ?_
        refine l_nil ?_
        refine x_then ?_
        refine c_ret ?_
        refine x_thenR (x_inR (x_thenR (x_inR (x_thenR ?_))))
        refine k_nil 704 24 hashEn ?_
        refine k_ret [704] (.tup [.one (.sl 0 none 0 0), .one (.b false)]) (.cons (.tmp rfl) (.cons (.tmp rfl) .nil)) (h := ?_)
        rw [hi.loose hok h33]
        exact ⟨none, 0, Nat.zero_le _, rfl, rfl⟩
      · refine c_skip ?_
        refine x_then ?_
        refine c_seq ?_
        refine c_region ?_
        refine l_rd r_move ?_
        first | refine l_rd r_field ?_ | refine l_rd r_fieldE ?_
        first | refine l_rd r_load ?_ | refine l_rd r_loadE ?_ | refine l_rd (r_loadT (hj := by omega)) ?_
        refine l_do (d_bslice [_]) (fun B37 => ?_)
        refine l_do d_append (fun p38 => ?_)
        refine l_rd r_assign ?_
        refine l_nil ?_
        refine x_then ?_
        refine c_seq ?_
        refine c_seq ?_
        refine c_draw (.q 0 (.q 1 (.q 2 (.q 3 (.q 4 (.q 5 (.q 6 .nil))))))) [10003, 20800, 20801, 20802, 20803, 10007, 10037, 10038, 10055, 10066, 10067, 23650, 23651, 23652, 23653, 10011] (hm := by kernel_rfl) (hs := by kernel_rfl) (hk := by kernel_rfl) (hQ := fun d v c a w h => by cases d <;> exact h) (h := ?_)
        first | refine q_rd rfl r_field ?_ | refine q_rd rfl r_fieldE ?_
        first | refine q_rd rfl r_load ?_ | refine q_rd rfl r_loadE ?_ | refine q_rd rfl (r_loadT (hj := by omega)) ?_
        refine q_rd rfl r_move ?_
        first | refine q_rd rfl r_nilCheck ?_ | refine q_rd rfl r_nilCheckF ?_
        first | refine q_rd rfl r_field ?_ | refine q_rd rfl r_fieldE ?_
        first | refine q_rd rfl r_load ?_ | refine q_rd rfl r_loadE ?_ | refine q_rd rfl (r_loadT (hj := by omega)) ?_
        refine q_rd rfl r_eqH ?_
        refine s_nil ?_
        refine x_then ?_
        first | refine c_ifd rfl (fun h45 => ?_) (fun h45 => ?_) | refine c_ifn rfl (fun h45 => ?_) (fun h45 => ?_) | refine c_if rfl (fun h45 => ?_) (fun h45 => ?_)
        · refine c_seq ?_
          refine c_seq ?_
          refine c_draw (.q 0 (.q 1 (.q 2 (.q 3 (.q 4 (.q 5 (.q 6 (.q 7 .nil)))))))) [10003, 20800, 20801, 20802, 20803, 10007, 10037, 10038, 10055, 10066, 10067, 23650, 23651, 23652, 23653, 10011] (hm := by kernel_rfl) (hs := by kernel_rfl) (hk := by kernel_rfl) (hQ := fun d v c a w h => by cases d <;> exact h) (h := ?_)
          first | refine q_rd rfl r_field ?_ | refine q_rd rfl r_fieldE ?_
          first | refine q_rd rfl r_load ?_ | refine q_rd rfl r_loadE ?_ | refine q_rd rfl (r_loadT (hj := by omega)) ?_
          refine q_rd rfl r_move ?_
          first | refine q_rd rfl r_nilCheck ?_ | refine q_rd rfl r_nilCheckF ?_
          first | refine q_rd rfl r_field ?_ | refine q_rd rfl r_fieldE ?_
          first | refine q_rd rfl r_load ?_ | refine q_rd rfl r_loadE ?_ | refine q_rd rfl (r_loadT (hj := by omega)) ?_
          first | refine q_rd rfl r_add ?_ | refine q_rd rfl r_addW ?_
          refine q_rd rfl r_neq ?_
          refine s_nil ?_
          refine x_then ?_
          first | refine c_ifd rfl (fun h53 => ?_) (fun h53 => ?_) | refine c_ifn rfl (fun h53 => ?_) (fun h53 => ?_) | refine c_if rfl (fun h53 => ?_) (fun h53 => ?_)
          · refine c_seq ?_
            refine c_region ?_
            refine l_rd r_assign ?_
            refine l_rd r_assign ?_
            refine l_nil ?_
            refine x_then ?_
            refine c_ret ?_
            refine x_thenR (x_thenR (x_inR (x_thenR (x_inR (x_thenR ?_)))))
            refine k_nil 704 24 hashEn ?_
            refine k_ret [704] (.tup [.one (.sl 0 none 0 0), .one (.b false)]) (.cons (.tmp rfl) (.cons (.tmp rfl) .nil)) (h := ?_)
            rw [hi.top hok h33 h45, if_neg h53]
            exact ⟨none, 0, Nat.zero_le _, rfl, rfl⟩
          · refine c_skip ?_
            refine x_then ?_
            refine c_seq ?_
            refine c_region ?_
            refine l_rd r_assign ?_
            refine l_nil ?_
            refine x_then ?_
            refine c_seq ?_
            refine c_seq ?_
            refine c_region ?_
            refine l_rd r_move ?_
            refine l_rd r_len ?_
            first | refine l_rd r_sub ?_ | refine l_rd r_subW ?_
            refine l_rd r_assign ?_
            refine l_nil ?_
            refine x_then ?_
            refine c_block ?_
            refine k_nil 609 24 hashEn ?_
            refine c_loopA (fun m E H => ∃ (k : Nat) (bk : List Hash) (bkA : Option Addr) (bkC : Nat), E = [(10, vint ((((acc ++ [x.id]).length : Nat) : Int) - 1 - (k : Int))), (9, vsl 609 bkA bk.length bkC)] ∧ H = [(609, Res.rows bkA bkC 24 hashEn bk)] ∧ m = (acc ++ [x.id]).length - k ∧ k ≤ (acc ++ [x.id]).length ∧ (bk = (acc ++ [x.id]).reverse.take k) ∧ (bk.length = k)) [0, 1, 3, 6, 7, 8, 11, 12, 13, 14, 15, 16, 17, 18, 19, 20, 21, 22, 23, 24, 25, 26, 27, 28, 29, 30, 31, 32, 33, 34, 35, 36, 37, 38, 39, 40, 41, 42, 43, 44, 45, 46, 47, 48, 49, 50, 51, 52, 53, 54, 55, 56, 68, 69, 70, 71, 72, 73, 74, 75, 76, 77, 78, 79, 80, 81, 82, 83, 84, 85, 86, 87, 88, 89, 90, 91, 92]  ((acc ++ [x.id]).length) ([(10, vint ((((acc ++ [x.id]).length : Nat) : Int) - 1 - (0 : Int))), (9, vsl 609 (none) ([]).length (0))]) ([(609, Res.rows (none) (0) 24 hashEn ([]))]) rfl rfl (⟨0, [], none, 0, rfl, rfl, by omega, by omega, rfl, rfl⟩) (by repeat (first | exact trivial | refine ⟨⟨_, rfl, (by first | rfl | exact den_int (by omega))⟩, ?_⟩)) (by repeat (first | exact trivial | refine ⟨rfl, ?_⟩)) rfl (fun _ _ _ hI => ?_)
            obtain ⟨k, bk, bkA, bkC, rfl, rfl, hmk, hk, hik0, hik1⟩ := hI
            refine c_seq ?_
            refine c_seq ?_
            refine c_region ?_
            refine l_rd r_move ?_
            refine l_rd r_geq ?_
            refine l_nil ?_
            refine x_then ?_
            first | refine c_ifd rfl (fun h58 => ?_) (fun h58 => ?_) | refine c_ifn rfl (fun h58 => ?_) (fun h58 => ?_) | refine c_if rfl (fun h58 => ?_) (fun h58 => ?_)
            · refine c_skip ?_
              refine x_then ?_
              refine c_seq ?_
              refine c_block ?_
              refine c_region ?_
              refine l_rd r_move ?_
              refine l_rd r_move ?_
              refine l_rd r_move ?_
              first | refine l_ix (fun ad64 y64 hA64 h64 => ?_) | refine l_rd (r_indexT (hj := by omega)) ?_
              first | refine l_rd r_load ?_ | refine l_rd r_loadE ?_ | refine l_rd (r_loadT (hj := by omega)) ?_
              refine l_do (d_bslice [_]) (fun B66 => ?_)
              refine l_do d_append (fun p67 => ?_)
              refine l_rd r_assign ?_
              refine l_nil ?_
              refine x_in (x_then ?_)
              refine c_region ?_
              refine l_rd r_move ?_
              first | refine l_rd r_sub ?_ | refine l_rd r_subW ?_
              refine l_rd r_assign ?_
              refine l_nil ?_
              refine x_then ?_
              refine k_again ((acc ++ [x.id]).length - (k + 1)) ⟨k + 1, bk ++ [(acc ++ [x.id]).getD ((((acc ++ [x.id]).length : Nat) : Int) - 1 - (k : Int)).toNat default], p67.1, p67.2, rfl, rfl, by omega, by omega, by rw [rev_take default (by omega), hik0]; congr 3; omega, by rw [List.length_append, hik1]; rfl⟩ (by omega) (by repeat (first | exact trivial | refine ⟨⟨_, rfl, (by first | rfl | exact den_int (by omega))⟩, ?_⟩)) (by repeat (first | exact trivial | refine ⟨rfl, ?_⟩))
            · refine c_exit ?_
              refine x_thenE (x_thenE (x_inE (x_then ?_)))
              refine c_seq ?_
              refine c_region ?_
              refine l_rd r_move ?_
              refine l_rd r_assign ?_
              refine l_rd r_assign ?_
              refine l_nil ?_
              refine x_then ?_
              refine c_ret ?_
              refine x_thenR (x_inR (x_thenR (x_inR (x_thenR ?_))))
              refine k_ret [609] (.tup [.one (.sl 0 bkA bk.length bkC), .one (.b true)]) (.cons (.tmp rfl) (.cons (.tmp rfl) .nil)) (h := ?_)
              rw [hi.top hok h33 h45, if_pos h53]
              rw [List.take_of_length_le (by rw [List.length_reverse]; omega)] at hik0
              subst hik0
              refine ⟨bkA, bkC, ?_, rfl, rfl⟩
              show ((acc ++ [x.id]).reverse).length ≤ _
              rw [List.length_reverse]
              omega
        · refine c_skip ?_
          refine x_then ?_
          refine c_seq ?_
          refine c_region ?_
          refine l_rd r_move ?_
          first | refine l_rd r_field ?_ | refine l_rd r_fieldE ?_
          first | refine l_rd r_load ?_ | refine l_rd r_loadE ?_ | refine l_rd (r_loadT (hj := by omega)) ?_
          refine l_call 23650 [(100, 100)] (rleaf_spec g root h A c l x.parent h2) Tryz.func38 (h := ?_)
          rintro _ _ (⟨rfl, rfl⟩)
          have hub := hw.at x.parent
          refine l_rd r_move ?_
          first | refine l_rd r_extract ?_ | refine l_rd r_extractN ?_
          refine l_rd r_extract ?_
          refine l_do d_alloc (fun g11 => ?_)
          first | refine l_do1 d_store ?_ | refine l_do1 d_storeE ?_
          refine l_rd r_assign ?_
          refine l_nil ?_
          refine x_then ?_
          refine c_seq ?_
          refine c_region ?_
          refine l_rd r_move ?_
          refine l_rd r_move ?_
          first | refine l_rdG [] rfl (fun hg => r_field) ?_ | refine l_rdG [] rfl (fun hg => r_fieldE) ?_
          first | refine l_rdG [78] ⟨_, _, ⟨_, .inl ⟨rfl, rfl⟩⟩, rfl, rfl⟩ (fun hg => r_load) ?_ | refine l_rdG [78] ⟨_, _, ⟨_, .inl ⟨rfl, rfl⟩⟩, rfl, rfl⟩ (fun hg => r_loadE) ?_ | refine l_rdG [78] ⟨_, _, ⟨_, .inl ⟨rfl, rfl⟩⟩, rfl, rfl⟩ (fun hg => (r_loadT (hj := (by first | omega | (have hgg := hg; simp only [cond_true, cond_false, Bool.and_eq_true, Bool.or_eq_true, Bool.not_eq_true', Bool.not_eq_false', Bool.and_eq_false_imp, Bool.or_eq_false_iff, decide_eq_true_eq, decide_eq_false_iff_not] at hgg; omega))))) ?_
          first | refine l_rdG [] rfl (fun hg => r_field) ?_ | refine l_rdG [] rfl (fun hg => r_fieldE) ?_
          first | refine l_rdG [80] ⟨_, _, ⟨_, .inl ⟨rfl, rfl⟩⟩, rfl, rfl⟩ (fun hg => r_load) ?_ | refine l_rdG [80] ⟨_, _, ⟨_, .inl ⟨rfl, rfl⟩⟩, rfl, rfl⟩ (fun hg => r_loadE) ?_ | refine l_rdG [80] ⟨_, _, ⟨_, .inl ⟨rfl, rfl⟩⟩, rfl, rfl⟩ (fun hg => (r_loadT (hj := (by first | omega | (have hgg := hg; simp only [cond_true, cond_false, Bool.and_eq_true, Bool.or_eq_true, Bool.not_eq_true', Bool.not_eq_false', Bool.and_eq_false_imp, Bool.or_eq_false_iff, decide_eq_true_eq, decide_eq_false_iff_not] at hgg; omega))))) ?_
          refine l_rdG [79, 81] ⟨_, _, ⟨_, .inl ⟨rfl, rfl⟩⟩, ⟨_, _, ⟨_, .inl ⟨rfl, rfl⟩⟩, rfl, rfl⟩, rfl⟩ (fun hg => r_lss) ?_
          first | refine l_rd r_and ?_ | refine l_rd r_pickB ?_ | refine l_rd r_pick ?_
          refine l_rd r_move ?_
          first | refine l_rdG [] rfl (fun hg => r_field) ?_ | refine l_rdG [] rfl (fun hg => r_fieldE) ?_
          first | refine l_rdG [85] ⟨_, _, ⟨_, .inl ⟨rfl, rfl⟩⟩, rfl, rfl⟩ (fun hg => r_load) ?_ | refine l_rdG [85] ⟨_, _, ⟨_, .inl ⟨rfl, rfl⟩⟩, rfl, rfl⟩ (fun hg => r_loadE) ?_ | refine l_rdG [85] ⟨_, _, ⟨_, .inl ⟨rfl, rfl⟩⟩, rfl, rfl⟩ (fun hg => (r_loadT (hj := (by first | omega | (have hgg := hg; simp only [cond_true, cond_false, Bool.and_eq_true, Bool.or_eq_true, Bool.not_eq_true', Bool.not_eq_false', Bool.and_eq_false_imp, Bool.or_eq_false_iff, decide_eq_true_eq, decide_eq_false_iff_not] at hgg; omega))))) ?_
          first | refine l_rdG [86] ⟨_, _, ⟨_, .inl ⟨rfl, rfl⟩⟩, rfl, rfl⟩ (fun hg => r_add) ?_ | refine l_rdG [86] ⟨_, _, ⟨_, .inl ⟨rfl, rfl⟩⟩, rfl, rfl⟩ (fun hg => (r_add (h := (by first | omega | (have hgg := hg; simp only [cond_true, cond_false, Bool.and_eq_true, Bool.or_eq_true, Bool.not_eq_true', Bool.not_eq_false', Bool.and_eq_false_imp, Bool.or_eq_false_iff, decide_eq_true_eq, decide_eq_false_iff_not] at hgg; omega))))) ?_ | refine l_rdG [86] ⟨_, _, ⟨_, .inl ⟨rfl, rfl⟩⟩, rfl, rfl⟩ (fun hg => r_addW) ?_
          first | refine l_rdG [] rfl (fun hg => r_field) ?_ | refine l_rdG [] rfl (fun hg => r_fieldE) ?_
          first | refine l_rdG [88] ⟨_, _, ⟨_, .inl ⟨rfl, rfl⟩⟩, rfl, rfl⟩ (fun hg => r_load) ?_ | refine l_rdG [88] ⟨_, _, ⟨_, .inl ⟨rfl, rfl⟩⟩, rfl, rfl⟩ (fun hg => r_loadE) ?_ | refine l_rdG [88] ⟨_, _, ⟨_, .inl ⟨rfl, rfl⟩⟩, rfl, rfl⟩ (fun hg => (r_loadT (hj := (by first | omega | (have hgg := hg; simp only [cond_true, cond_false, Bool.and_eq_true, Bool.or_eq_true, Bool.not_eq_true', Bool.not_eq_false', Bool.and_eq_false_imp, Bool.or_eq_false_iff, decide_eq_true_eq, decide_eq_false_iff_not] at hgg; omega))))) ?_
          refine l_rdG [87, 89] ⟨_, _, ⟨_, .inl ⟨rfl, rfl⟩⟩, ⟨_, _, ⟨_, .inl ⟨rfl, rfl⟩⟩, rfl, rfl⟩, rfl⟩ (fun hg => r_eql) ?_
          first | refine l_rd r_and ?_ | refine l_rd r_pickB ?_ | refine l_rd r_pick ?_
          refine l_rd r_assign ?_
          refine l_nil ?_
          refine x_then ?_
          refine c_region ?_
          first | refine l_rd r_load ?_ | refine l_rd r_loadE ?_ | refine l_rd (r_loadT (hj := by omega)) ?_
          first | refine l_do1 d_store ?_ | refine l_do1 d_storeE ?_
          refine l_nil ?_
          refine x_in (x_then ?_)
          refine k_again (l.length - (acc.length + 1)) ⟨acc ++ [x.id], p38.1, p38.2, (findL l x.parent).getD leaf0, _, rfl, rfl, by rw [hbl], hi.up hok h33 h45⟩ (by omega) (by repeat (first | exact trivial | refine ⟨⟨_, rfl, (by first | rfl | exact den_int (by omega))⟩, ?_⟩)) (by repeat (first | exact trivial | refine ⟨rfl, ?_⟩))
    · refine c_exit ?_
      refine x_thenE (x_thenE (x_inE (x_then ?_)))
      refine c_seq ?_
      refine c_region ?_
      refine l_rd r_assign ?_
      refine l_rd r_assign ?_
      refine l_nil ?_
      refine x_then ?_
      refine c_ret ?_
      refine k_nil 704 24 hashEn ?_
      refine k_ret [704] (.tup [.one (.sl 0 none 0 0), .one (.b false)]) (.cons (.tmp rfl) (.cons (.tmp rfl) .nil)) (h := ?_)
      rw [hi.off h25]
      exact ⟨none, 0, Nat.zero_le _, rfl, rfl⟩
theorem rstands_spec (g : Nat) (root : Hash) (h : Int) (A : Option Addr) (c : Nat) (l : List LeafP) (dest : Hash) (hw : Wide64 l) (hok : NewOk root h l) : CSpec Tryz.prog 24 [.one (.ptr 0 ⟨g, 0, none⟩), .agg [.hash dest]] (mB g root h A c l) [] fun o L =>
    o = .ret (vb (wayOf l root h dest).isSome) ∧ L = [] := by
  refine k_enter Tryz.func24 rfl rfl (h := fun w0 => ?_)
  refine c_seq ?_
  refine c_region ?_
  refine l_do d_box (fun g3 => ?_)
  refine l_rd r_assign ?_
  refine l_nil ?_
  refine x_then ?_
  refine c_seq ?_
  refine c_region ?_
  refine l_rd r_move ?_
  first | refine l_rd r_load ?_ | refine l_rd r_loadE ?_ | refine l_rd (r_loadT (hj := by omega)) ?_
  refine l_call 20500 [(100, 100)] (rway_spec g root h A c l dest hw hok) Tryz.func19 (h := ?_)
  rintro _ _ (⟨Aw, cw, hlw, rfl, rfl⟩)
  refine l_rd r_move ?_
  first | refine l_rd r_extract ?_ | refine l_rd r_extractN ?_
  refine l_rd r_extract ?_
  refine l_rd r_assign ?_
  refine l_rd r_assign ?_
  refine l_nil ?_
  refine x_then ?_
  refine c_seq ?_
  refine c_region ?_
  refine l_rd r_move ?_
  refine l_rd r_assign ?_
  refine l_nil ?_
  refine x_then ?_
  refine c_ret ?_
  refine k_ret [] _ (.cons (.tmp rfl) .nil) (h := ?_)
  exact ⟨rfl, rfl⟩
theorem less_spec (a b : Hash) : CSpec Tryz.prog 36 [.agg [.hash a], .agg [.hash b]] [] [] fun o L => o = .ret (vb (decide (hlt a b))) ∧ L = [] := by
  refine k_enter Tryz.func36 rfl rfl (h := fun w0 => ?_)
  refine c_seq ?_
  refine c_region ?_
  refine l_do d_box (fun g2 => ?_)
  refine l_do d_box (fun g3 => ?_)
  refine l_rd r_assign ?_
  refine l_nil ?_
  refine x_then ?_
  refine c_seq ?_
  refine c_draw (.q 0 (.q 1 (.q 2 (.q 3 (.q 4 (.q 5 .nil)))))) [10002, 10003] (hm := by kernel_rfl) (hs := by kernel_rfl) (hk := by kernel_rfl) (hQ := fun d v c a w h => by cases d <;> exact h) (h := ?_)
  first | refine q_rd rfl r_sliceArr ?_ | refine q_rd rfl r_sliceArrE ?_
  first | refine q_rd rfl r_convStrV ?_ | refine q_rd rfl r_convStrE ?_ | refine q_rd rfl r_convStr ?_
  first | refine q_rd rfl r_sliceArr ?_ | refine q_rd rfl r_sliceArrE ?_
  first | refine q_rd rfl r_convStrV ?_ | refine q_rd rfl r_convStrE ?_ | refine q_rd rfl r_convStr ?_
  refine q_rd rfl r_lssS ?_
  refine q_rd rfl r_assign ?_
  refine s_nil ?_
  refine x_then ?_
  refine c_ret ?_
  refine k_ret [] _ (.cons (.tmp rfl) .nil) (h := ?_)
  exact ⟨by rw [decide_eq_decide.2 (bltS_hash a b)]; rfl, rfl⟩
end Go.Proofs.YtehhnfpfefccaaaGreat
/- The reference's rows that rise, and what lies behind, in plain terms. -/

set_option linter.unusedVariables false
set_option linter.unusedSimpArgs false
namespace Go.Proofs.YtehhnfpfefccaaaGreat
open Go Go.RowKit HL
theorem sorted_nodup {l : List Hash} (h : l.Pairwise hlt) : l.Nodup := by
  refine List.Pairwise.imp (S := fun a b => a ≠ b) ?_ h
  intro a b hab e
  rw [e] at hab
  exact hlt_irrefl _ hab
theorem sorted_one : ∀ {a b : List Hash}, a.Pairwise hlt → b.Pairwise hlt → (∀ y, y ∈ a ↔ y ∈ b) → a = b
  | [], [], _, _, _ => rfl
  | [], y :: b, _, _, h => by have := (h y).2 (List.mem_cons_self ..); cases this
  | x :: a, [], _, _, h => by have := (h x).1 (List.mem_cons_self ..); cases this
  | x :: a, y :: b, ha, hb, h => by
    obtain ⟨ha1, ha2⟩ := List.pairwise_cons.1 ha
    obtain ⟨hb1, hb2⟩ := List.pairwise_cons.1 hb
    have e : x = y := by
      rcases List.mem_cons.1 ((h x).1 (List.mem_cons_self ..)) with e | e
      · exact e
      · rcases List.mem_cons.1 ((h y).2 (List.mem_cons_self ..)) with e2 | e2
        · exact e2.symm
        · exact absurd (hlt_trans (hb1 x e) (ha1 y e2)) (hlt_irrefl y)
    subst e
    rw [sorted_one ha2 hb2 fun z => ?_]
    have hz := h z
    constructor
    · intro hm
      rcases List.mem_cons.1 (hz.1 (List.mem_cons_of_mem _ hm)) with e | e
      · subst e; exact absurd (ha1 _ hm) (hlt_irrefl _)
      · exact e
    · intro hm
      rcases List.mem_cons.1 (hz.2 (List.mem_cons_of_mem _ hm)) with e | e
      · subst e; exact absurd (hb1 _ hm) (hlt_irrefl _)
      · exact e
theorem sorted_len {l : List LeafP} {a : List Hash} (h : a.Pairwise hlt) (hm : ∀ y ∈ a, y ∈ l.map (·.id)) : a.length ≤ l.length := by
  have := nodup_le a _ (sorted_nodup h) hm
  rwa [List.length_map] at this
structure PutIs (l : List Hash) (h : Hash) (r : List Hash) : Prop where
  ex : ∃ k, k ≤ l.length ∧ (∀ y ∈ l.take k, hlt y h) ∧ (∀ z, l[k]? = some z → ¬ hlt z h) ∧ r = l.take k ++ (if l[k]? = some h then [] else [h]) ++ l.drop k
theorem PutIs.mem {l r : List Hash} {h : Hash} (hp : PutIs l h r) (y : Hash) : y ∈ r ↔ y = h ∨ y ∈ l := by
  obtain ⟨k, hk, h1, h2, rfl⟩ := hp.ex
  have e : y ∈ l ↔ y ∈ l.take k ∨ y ∈ l.drop k := by
    conv => lhs; rw [← List.take_append_drop k l]
    rw [List.mem_append]
  rw [List.mem_append, List.mem_append, e]
  by_cases hc : l[k]? = some h
  · rw [if_pos hc]
    have : h ∈ l.drop k := List.mem_of_getElem? (i := 0) (by rw [List.getElem?_drop]; exact hc)
    constructor
    · rintro ((h3 | h3) | h3)
      · exact .inr (.inl h3)
      · cases h3
      · exact .inr (.inr h3)
    · rintro (rfl | h3 | h3)
      · exact .inr this
      · exact .inl (.inl h3)
      · exact .inr h3
  · rw [if_neg hc, List.mem_singleton]
    constructor
    · rintro ((h3 | h3) | h3)
      · exact .inr (.inl h3)
      · exact .inl h3
      · exact .inr (.inr h3)
    · rintro (h3 | h3 | h3)
      · exact .inl (.inr h3)
      · exact .inl (.inl h3)
      · exact .inr h3
theorem PutIs.sorted {l r : List Hash} {h : Hash} (hp : PutIs l h r) (hs : l.Pairwise hlt) : r.Pairwise hlt := by
  obtain ⟨k, hk, h1, h2, rfl⟩ := hp.ex
  have hs' := hs
  rw [← List.take_append_drop k l, List.pairwise_append] at hs'
  obtain ⟨p1, p2, p3⟩ := hs'
  have hge : ∀ y ∈ l.drop k, h = y ∨ hlt h y := by
    intro y hy
    cases hd : l[k]? with
    | none =>
      rw [List.drop_eq_nil_of_le (by simpa using hd)] at hy
      cases hy
    | some z =>
      have hz : z = h ∨ hlt h z := by
        rcases hlt_tri z h with e | e | e
        · exact absurd e (h2 z hd)
        · exact .inl e
        · exact .inr e
      rw [drop_get hd] at hy p2
      rcases List.mem_cons.1 hy with rfl | hy
      · rcases hz with rfl | hz
        · exact .inl rfl
        · exact .inr hz
      · have := (List.pairwise_cons.1 p2).1 y hy
        rcases hz with rfl | hz
        · exact .inr this
        · exact .inr (hlt_trans hz this)
  by_cases hc : l[k]? = some h
  · rw [if_pos hc, List.append_nil, List.pairwise_append]
    exact ⟨p1, p2, p3⟩
  · rw [if_neg hc, List.append_assoc, List.pairwise_append]
    refine ⟨p1, ?_, ?_⟩
    · refine List.pairwise_cons.2 ⟨fun y hy => ?_, p2⟩
      replace hy : y ∈ l.drop k := hy
      rcases hge y hy with rfl | e
      · exfalso
        obtain ⟨j, hj⟩ := List.mem_iff_getElem?.1 hy
        rw [List.getElem?_drop] at hj
        rcases Nat.eq_zero_or_pos j with rfl | hpos
        · exact hc hj
        · cases hd : l[k]? with
          | none =>
            rw [List.drop_eq_nil_of_le (by simpa using hd)] at hy
            cases hy
          | some z =>
            have hlt2 := List.pairwise_iff_getElem.1 hs k (k + j) (List.getElem?_eq_some_iff.1 hd).1 (List.getElem?_eq_some_iff.1 hj).1 (by omega)
            rw [(List.getElem?_eq_some_iff.1 hd).2, (List.getElem?_eq_some_iff.1 hj).2] at hlt2
            exact h2 z hd hlt2
      · exact e
    · intro a ha b hb
      rcases List.mem_append.1 hb with hb | hb
      · rw [List.mem_singleton.1 hb]; exact h1 a ha
      · exact p3 a ha b hb
theorem PutIs.len {l r : List Hash} {h : Hash} (hp : PutIs l h r) : r.length ≤ l.length + 1 := by
  obtain ⟨k, hk, h1, h2, rfl⟩ := hp.ex
  rw [List.length_append, List.length_append, List.length_take, List.length_drop]
  split <;> simp <;> omega
structure RB (l : List LeafP) (id : Hash) (q : List Hash) (s : List (Hash × Bool × Nat)) (c : Nat) (found : List Hash) (i j : Nat) : Prop where
  wf : MWf s c
  all : AllT s
  keys : ∀ y, y ∈ s.map (·.1) ↔ y ∈ q
  first : id ∈ q
  qnd : q.Nodup
  qs : ∀ y ∈ q, y = id ∨ Desc l id y
  fs : ∀ y ∈ found, Desc l id y
  sorted : found.Pairwise hlt
  qf : ∀ y ∈ q, y ≠ id → y ∈ found
  clo : ∀ k, k < i → ∀ p, q[k]? = some p → ∀ x ∈ l, x.parent = p → x.id ∈ found ∧ x.id ∈ q
  cur : ∀ p, q[i]? = some p → ∀ x ∈ l.take j, x.parent = p → x.id ∈ found ∧ x.id ∈ q
theorem RB.start (l : List LeafP) (id : Hash) : RB l id [id] (mput [] 0 id true) (mclk ([] : List (Hash × Bool × Nat)) 0 id) [] 0 0 := by
  refine ⟨MWf.nil.put id true, ?_, fun y => ?_, by simp, by simp, fun y hy => .inl (List.mem_singleton.1 hy), fun y hy => ?_, List.Pairwise.nil, fun y hy hn => absurd (List.mem_singleton.1 hy) hn, fun k hk => absurd hk (Nat.not_lt_zero _), fun p _ x hx => ?_⟩
  · intro x hx
    rw [put_new (by simp)] at hx
    have e : x = (id, true, 0) := by simpa using hx
    rw [e]
  · rw [put_keys]; simp
  · cases hy
  · simp at hx
theorem RB.qlen {l : List LeafP} {id : Hash} {q : List Hash} {s : List (Hash × Bool × Nat)} {c : Nat} {found : List Hash} {i j : Nat} (h : RB l id q s c found i j) : q.length ≤ l.length + 1 := by
  have := nodup_le q (id :: l.map (·.id)) h.qnd fun y hy => by
    rcases h.qs y hy with rfl | hd
    · exact List.mem_cons_self ..
    · exact List.mem_cons_of_mem _ hd.leaf
  simpa using this
theorem RB.flen {l : List LeafP} {id : Hash} {q : List Hash} {s : List (Hash × Bool × Nat)} {c : Nat} {found : List Hash} {i j : Nat} (h : RB l id q s c found i j) : found.length ≤ l.length := sorted_len h.sorted fun y hy => (h.fs y hy).leaf
theorem RB.skip {l : List LeafP} {id : Hash} {q : List Hash} {s : List (Hash × Bool × Nat)} {c : Nat} {found : List Hash} {i j : Nat} {x : LeafP} {p : Hash} (h : RB l id q s c found i j) (hp : q[i]? = some p) (hx : l[j]? = some x) (hn : x.parent ≠ p) : RB l id q s c found i (j + 1) :=
  ⟨h.wf, h.all, h.keys, h.first, h.qnd, h.qs, h.fs, h.sorted, h.qf, h.clo, fun p' hp' y hy e => by
    rw [take_get hx] at hy
    rcases List.mem_append.1 hy with hy | hy
    · exact h.cur p' hp' y hy e
    · rw [List.mem_singleton.1 hy] at e
      rw [hp] at hp'
      injection hp' with hp'
      exact absurd (e.trans hp'.symm) hn⟩
theorem RB.next {l : List LeafP} {id : Hash} {q : List Hash} {s : List (Hash × Bool × Nat)} {c : Nat} {found : List Hash} {i j : Nat} (h : RB l id q s c found i j) (hj : l.length ≤ j) : RB l id q s c found (i + 1) 0 :=
  ⟨h.wf, h.all, h.keys, h.first, h.qnd, h.qs, h.fs, h.sorted, h.qf, fun k hk p hp x hx e => by
    rcases Nat.lt_succ_iff_lt_or_eq.1 hk with hk | rfl
    · exact h.clo k hk p hp x hx e
    · exact h.cur p hp x (by rw [List.take_of_length_le hj]; exact hx) e, fun p hp x hx => by simp at hx⟩
theorem RB.desc {l : List LeafP} {id : Hash} {q : List Hash} {s : List (Hash × Bool × Nat)} {c : Nat} {found : List Hash} {i j : Nat} {x : LeafP} {p : Hash} (h : RB l id q s c found i j) (hp : q[i]? = some p) (hx : l[j]? = some x) (he : x.parent = p) : Desc l id x.id := by
  have hk : x.id ∈ kidsOf l p := by
    unfold kidsOf
    exact List.mem_map.2 ⟨x, List.mem_filter.2 ⟨List.mem_of_getElem? hx, by simpa using he⟩, rfl⟩
  rcases h.qs p (List.mem_of_getElem? hp) with rfl | hd
  · exact .kid hk
  · exact .on hd hk
theorem RB.cur1 {l : List LeafP} {q q' : List Hash} {found found' : List Hash} {i j : Nat} {x : LeafP} (hx : l[j]? = some x) (hf : ∀ y ∈ found, y ∈ found') (hq : ∀ y ∈ q, y ∈ q') (h : ∀ p, q[i]? = some p → ∀ y ∈ l.take j, y.parent = p → y.id ∈ found ∧ y.id ∈ q) (h1 : x.id ∈ found' ∧ x.id ∈ q') (hi : ∀ p, q'[i]? = some p → q[i]? = some p) : ∀ p, q'[i]? = some p → ∀ y ∈ l.take (j + 1), y.parent = p → y.id ∈ found' ∧ y.id ∈ q' := fun p hp y hy e => by
  rw [take_get hx] at hy
  rcases List.mem_append.1 hy with hy | hy
  · have := h p (hi p hp) y hy e
    exact ⟨hf _ this.1, hq _ this.2⟩
  · rw [List.mem_singleton.1 hy]; exact h1
theorem RB.seen {l : List LeafP} {id : Hash} {q : List Hash} {s : List (Hash × Bool × Nat)} {c : Nat} {found : List Hash} {i j : Nat} {x : LeafP} {p : Hash} (h : RB l id q s c found i j) (hp : q[i]? = some p) (hx : l[j]? = some x) (he : x.parent = p) (hs : x.id ∈ s.map (·.1)) (hne : x.id ≠ id) : RB l id q s c found i (j + 1) := by
  have hq := (h.keys _).1 hs
  exact ⟨h.wf, h.all, h.keys, h.first, h.qnd, h.qs, h.fs, h.sorted, h.qf, h.clo, RB.cur1 hx (fun _ h => h) (fun _ h => h) h.cur ⟨h.qf _ hq hne, hq⟩ fun _ h => h⟩
theorem RB.again {l : List LeafP} {id : Hash} {q : List Hash} {s : List (Hash × Bool × Nat)} {c : Nat} {found r : List Hash} {i j : Nat} {x : LeafP} {p : Hash} (h : RB l id q s c found i j) (hp : q[i]? = some p) (hx : l[j]? = some x) (he : x.parent = p) (hs : x.id ∈ s.map (·.1)) (hr : PutIs found x.id r) : RB l id q s c r i (j + 1) := by
  have hq := (h.keys _).1 hs
  have hd := h.desc hp hx he
  have hm : ∀ y ∈ found, y ∈ r := fun y hy => (hr.mem y).2 (.inr hy)
  exact ⟨h.wf, h.all, h.keys, h.first, h.qnd, h.qs, fun y hy => ((hr.mem y).1 hy).elim (fun e => e ▸ hd) (h.fs y), hr.sorted h.sorted, fun y hy hn => hm _ (h.qf y hy hn), fun k hk p hp x hx e => ⟨hm _ (h.clo k hk p hp x hx e).1, (h.clo k hk p hp x hx e).2⟩, RB.cur1 hx hm (fun _ h => h) h.cur ⟨(hr.mem _).2 (.inl rfl), hq⟩ fun _ h => h⟩
theorem RB.add {l : List LeafP} {id : Hash} {q : List Hash} {s : List (Hash × Bool × Nat)} {c : Nat} {found r : List Hash} {i j : Nat} {x : LeafP} {p : Hash} (h : RB l id q s c found i j) (hp : q[i]? = some p) (hx : l[j]? = some x) (he : x.parent = p) (hs : x.id ∉ s.map (·.1)) (hr : PutIs found x.id r) : RB l id (q ++ [x.id]) (mput s c x.id true) (mclk s c x.id) r i (j + 1) := by
  have hq : x.id ∉ q := fun hm => hs ((h.keys _).2 hm)
  have hd := h.desc hp hx he
  have hm : ∀ y ∈ found, y ∈ r := fun y hy => (hr.mem y).2 (.inr hy)
  have hqq : ∀ y ∈ q, y ∈ q ++ [x.id] := fun y hy => List.mem_append_left _ hy
  have hi := (List.getElem?_eq_some_iff.1 hp).1
  have hold : ∀ k, k ≤ i → ∀ p, (q ++ [x.id])[k]? = some p → q[k]? = some p := fun k hk p hp => by
    rwa [List.getElem?_append_left (by omega)] at hp
  refine ⟨h.wf.put _ _, fun y hy => ?_, fun y => ?_, hqq _ h.first, ?_, fun y hy => ?_, fun y hy => ((hr.mem y).1 hy).elim (fun e => e ▸ hd) (h.fs y), hr.sorted h.sorted, fun y hy hn => ?_, fun k hk p hp x hx e => ⟨hm _ (h.clo k hk p (hold k (by omega) p hp) x hx e).1, hqq _ (h.clo k hk p (hold k (by omega) p hp) x hx e).2⟩, RB.cur1 hx hm hqq h.cur ⟨(hr.mem _).2 (.inl rfl), by simp⟩ fun p hp => hold i (Nat.le_refl _) p hp⟩
  · rw [put_new hs] at hy
    rcases List.mem_append.1 hy with hy | hy
    · exact h.all y hy
    · rw [List.mem_singleton.1 hy]
  · rw [put_keys, h.keys, List.mem_append, List.mem_singleton]
    exact ⟨fun h => h.symm, fun h => h.symm⟩
  · rw [List.nodup_append]
    exact ⟨h.qnd, by simp, fun a ha b hb e => hq (by rw [← List.mem_singleton.1 hb, ← e]; exact ha)⟩
  · rcases List.mem_append.1 hy with hy | hy
    · exact h.qs y hy
    · rw [List.mem_singleton.1 hy]; exact .inr hd
  · rcases List.mem_append.1 hy with hy | hy
    · exact hm _ (h.qf y hy hn)
    · rw [List.mem_singleton.1 hy]; exact (hr.mem _).2 (.inl rfl)
theorem RB.done {l : List LeafP} {id : Hash} {q : List Hash} {s : List (Hash × Bool × Nat)} {c : Nat} {found : List Hash} {i j : Nat} (h : RB l id q s c found i j) (hi : q.length ≤ i) (y : Hash) : y ∈ found ↔ Desc l id y := by
  refine ⟨h.fs y, fun hd => ?_⟩
  have kid : ∀ {p k : Hash}, p ∈ q → k ∈ kidsOf l p → k ∈ found ∧ k ∈ q := fun {p k} hp hk => by
    obtain ⟨n, hn⟩ := List.mem_iff_getElem?.1 hp
    obtain ⟨x, hx, rfl⟩ := List.mem_map.1 hk
    obtain ⟨hx1, hx2⟩ := List.mem_filter.1 hx
    exact h.clo n (by have := (List.getElem?_eq_some_iff.1 hn).1; omega) p hn x hx1 (by simpa using hx2)
  have : y ∈ found ∧ y ∈ q := by
    induction hd with
    | kid hk => exact kid h.first hk
    | on _ hk ih => exact kid ih.2 hk
  exact this.1
theorem put_yes {l : List Hash} {v : Hash} {k : Nat} (hk : k ≤ l.length) (h1 : ∀ y ∈ l.take k, hlt y v) (h2 : (decide ((k : Int) < (l.length : Int)) && decide (hlt (l.getD (k : Int).toNat default) v)) = false) (h3 : (decide ((k : Int) = (l.length : Int)) || !decide (l.getD (k : Int).toNat default = v)) = true) : PutIs l v (l.take k ++ [v] ++ l.drop k) := by
  refine ⟨⟨k, hk, h1, fun z hz hlt1 => ?_, ?_⟩⟩
  · have hkl := (List.getElem?_eq_some_iff.1 hz).1
    rw [Int.toNat_natCast, getD_of hz, decide_eq_true (by omega : (k : Int) < (l.length : Int)), decide_eq_true hlt1] at h2
    cases h2
  · rw [if_neg]
    intro e
    have hkl := (List.getElem?_eq_some_iff.1 e).1
    rw [Int.toNat_natCast, getD_of e, decide_eq_false (by omega : ¬ (k : Int) = (l.length : Int)), decide_eq_true rfl] at h3
    cases h3
theorem put_no {l : List Hash} {v : Hash} {k : Nat} (hk : k ≤ l.length) (h1 : ∀ y ∈ l.take k, hlt y v) (h2 : (decide ((k : Int) < (l.length : Int)) && decide (hlt (l.getD (k : Int).toNat default) v)) = false) (h3 : (decide ((k : Int) = (l.length : Int)) || !decide (l.getD (k : Int).toNat default = v)) = false) : PutIs l v (l.take k ++ l.drop k) := by
  simp only [Bool.or_eq_false_iff, decide_eq_false_iff_not, Bool.not_eq_false', decide_eq_true_eq, Int.toNat_natCast] at h3
  have hs : l[k]? = some v := by rw [getD_some default (by omega), h3.2]
  refine ⟨⟨k, hk, h1, fun z hz hlt1 => ?_, ?_⟩⟩
  · rw [hs] at hz
    injection hz with hz
    rw [hz] at hlt1
    exact hlt_irrefl _ hlt1
  · rw [if_pos hs, List.append_nil]
end Go.Proofs.YtehhnfpfefccaaaGreat
/- The reference: put, Behind, Gone. The program: Behind. -/


set_option linter.unusedVariables false
set_option linter.unusedSimpArgs false
set_option maxRecDepth 100000
set_option maxHeartbeats 8000000
namespace Go.Proofs.YtehhnfpfefccaaaGreat
open Go Go.RowKit HL
theorem put_spec (A : Option Addr) (l : List Hash) (c : Nat) (v : Hash) (hl : l.length ≤ 1048576) (hc : l.length ≤ c) : CSpec Tryz.prog 42 [.one (.sl 0 A l.length c), .agg [.hash v]] [(0, Res.rd A hashEn l)] [] fun o L =>
    ∃ r A c, PutIs l v r ∧ o = .ret (vsl 0 A r.length c) ∧ L = [Res.rows A c 24 hashEn r] := by
  refine k_enter Tryz.func42 rfl rfl (h := fun w0 => ?_)
  refine c_seq ?_
  refine c_region ?_
  refine l_do d_box (fun g3 => ?_)
  refine l_rd r_assign ?_
  refine l_nil ?_
  refine x_then ?_
  refine c_seq ?_
  refine c_region ?_
  refine l_rd r_assign ?_
  refine l_nil ?_
  refine x_then ?_
  refine c_seq ?_
  refine c_region ?_
  refine l_rd r_assign ?_
  refine l_nil ?_
  refine x_then ?_
  refine c_seq ?_
  refine c_block ?_
  refine k_nil 605 24 hashEn ?_
  refine c_loopA (fun m E H => ∃ (k : Nat) (acc : List Hash) (accA : Option Addr) (accC : Nat), E = [(6, vint (((k : Nat) : Int))), (5, vsl 605 accA acc.length accC)] ∧ H = [(605, Res.rows accA accC 24 hashEn acc)] ∧ m = l.length - k ∧ k ≤ l.length ∧ (acc = l.take k) ∧ (acc.length = k) ∧ (∀ y ∈ l.take k, hlt y v)) [0, 1, 3, 28, 29, 30, 31, 32, 33, 34, 35, 36, 37, 38, 39, 40, 41, 42, 43, 44, 45, 46, 47, 48]  (l.length) ([(6, vint (((0 : Nat) : Int))), (5, vsl 605 (none) ([]).length (0))]) ([(605, Res.rows (none) (0) 24 hashEn ([]))]) rfl rfl (⟨0, [], none, 0, rfl, rfl, by omega, by omega, rfl, rfl, by simp⟩) (by repeat (first | exact trivial | refine ⟨⟨_, rfl, (by first | rfl | exact den_int (by omega))⟩, ?_⟩)) (by repeat (first | exact trivial | refine ⟨rfl, ?_⟩)) rfl (fun _ _ _ hI => ?_)
  obtain ⟨k, acc, accA, accC, rfl, rfl, hmk, hk, hik0, hik1, hik2⟩ := hI
  refine c_seq ?_
  refine c_seq ?_
  refine c_draw (.q 0 (.q 1 (.q 2 (.q 3 (.q 4 (.q 5 (.q 6 (.q 7 (.q 8 (.q 9 (.s 10 (.q 11 .nil)))))))))))) [10003, 10009, 20850, 20851, 20852, 20853, 10024, 10025, 10030, 10042, 10043, 10048] (hm := by kernel_rfl) (hs := by kernel_rfl) (hk := by kernel_rfl) (hQ := fun d v c a w h => by cases d <;> exact h) (h := ?_)
  refine q_rd rfl r_move ?_
  refine q_rd rfl r_move ?_
  refine q_rd rfl r_len ?_
  refine q_rd rfl r_lss ?_
  refine q_rd rfl r_move ?_
  refine q_rdG rfl [] rfl (fun hg => r_move) ?_
  refine q_rdG rfl [] rfl (fun hg => r_move) ?_
  refine q_rdG rfl [12, 13] ⟨_, _, ⟨_, .inl ⟨rfl, rfl⟩⟩, ⟨_, _, ⟨_, .inl ⟨rfl, rfl⟩⟩, rfl, rfl⟩, rfl⟩ (fun hg => (r_indexT (hj := (by first | omega | (have hgg := hg; simp only [cond_true, cond_false, Bool.and_eq_true, Bool.or_eq_true, Bool.not_eq_true', Bool.not_eq_false', Bool.and_eq_false_imp, Bool.or_eq_false_iff, decide_eq_true_eq, decide_eq_false_iff_not] at hgg; omega))))) ?_
  first | refine q_rdG rfl [14] ⟨_, _, ⟨_, .inl ⟨rfl, rfl⟩⟩, rfl, rfl⟩ (fun hg => r_load) ?_ | refine q_rdG rfl [14] ⟨_, _, ⟨_, .inl ⟨rfl, rfl⟩⟩, rfl, rfl⟩ (fun hg => r_loadE) ?_ | refine q_rdG rfl [14] ⟨_, _, ⟨_, .inl ⟨rfl, rfl⟩⟩, rfl, rfl⟩ (fun hg => (r_loadT (hj := (by first | omega | (have hgg := hg; simp only [cond_true, cond_false, Bool.and_eq_true, Bool.or_eq_true, Bool.not_eq_true', Bool.not_eq_false', Bool.and_eq_false_imp, Bool.or_eq_false_iff, decide_eq_true_eq, decide_eq_false_iff_not] at hgg; omega))))) ?_
  first | refine q_rdG rfl [] rfl (fun hg => r_load) ?_ | refine q_rdG rfl [] rfl (fun hg => r_loadE) ?_ | refine q_rdG rfl [] rfl (fun hg => (r_loadT (hj := (by first | omega | (have hgg := hg; simp only [cond_true, cond_false, Bool.and_eq_true, Bool.or_eq_true, Bool.not_eq_true', Bool.not_eq_false', Bool.and_eq_false_imp, Bool.or_eq_false_iff, decide_eq_true_eq, decide_eq_false_iff_not] at hgg; omega))))) ?_
  refine s_callG rfl [] [15, 16] ⟨_, _, ⟨_, .inl ⟨rfl, rfl⟩⟩, ⟨_, _, ⟨_, .inl ⟨rfl, rfl⟩⟩, rfl, rfl⟩, rfl⟩ (fun hg => less_spec _ _) Tryz.func36 (h := ?_)
  first | refine q_rd rfl r_and ?_ | refine q_rd rfl r_pickB ?_ | refine q_rd rfl r_pick ?_
  refine s_nil ?_
  refine x_then ?_
  first | refine c_ifd rfl (fun h18 => ?_) (fun h18 => ?_) | refine c_ifn rfl (fun h18 => ?_) (fun h18 => ?_) | refine c_if rfl (fun h18 => ?_) (fun h18 => ?_)
  · simp only [Bool.and_eq_true, decide_eq_true_eq, Int.toNat_natCast] at h18
    refine c_skip ?_
    refine x_then ?_
    refine c_block ?_
    refine c_seq ?_
    refine c_region ?_
    refine l_rd r_move ?_
    refine l_rd r_move ?_
    refine l_rd r_move ?_
    first | refine l_ix (fun ad22 y22 hA22 h22 => ?_) | refine l_rd (r_indexT (hj := by omega)) ?_
    first | refine l_rd r_load ?_ | refine l_rd r_loadE ?_ | refine l_rd (r_loadT (hj := by omega)) ?_
    refine l_do (d_bslice [_]) (fun B24 => ?_)
    refine l_do d_append (fun p25 => ?_)
    refine l_rd r_assign ?_
    refine l_nil ?_
    refine x_then ?_
    refine c_region ?_
    refine l_rd r_move ?_
    first | refine l_rd r_add ?_ | refine l_rd r_addW ?_
    refine l_rd r_assign ?_
    refine l_nil ?_
    refine x_in (x_then ?_)
    refine k_again (l.length - (k + 1)) ⟨k + 1, acc ++ [y22], p25.1, p25.2, rfl, rfl, by omega, by omega, by rw [hik0, ← take_get h22], by rw [List.length_append, hik1]; rfl, all_take h22 hik2 (by rw [← getD_of (d := default) h22]; exact h18.2)⟩ (by omega) (by repeat (first | exact trivial | refine ⟨⟨_, rfl, (by first | rfl | exact den_int (by omega))⟩, ?_⟩)) (by repeat (first | exact trivial | refine ⟨rfl, ?_⟩))
  · refine c_exit ?_
    refine x_thenE (x_thenE (x_inE (x_then ?_)))
    refine c_seq ?_
    refine c_seq ?_
    refine c_draw (.q 0 (.q 1 (.q 2 (.q 3 (.q 4 (.q 5 (.q 6 (.q 7 (.q 8 (.q 9 (.q 10 (.q 11 .nil)))))))))))) [10003, 10009, 20850, 20851, 20852, 20853, 10024, 10025, 10030, 10042, 10043, 10048] (hm := by kernel_rfl) (hs := by kernel_rfl) (hk := by kernel_rfl) (hQ := fun d v c a w h => by cases d <;> exact h) (h := ?_)
    refine q_rd rfl r_move ?_
    refine q_rd rfl r_move ?_
    refine q_rd rfl r_len ?_
    refine q_rd rfl r_eql ?_
    refine q_rd rfl r_move ?_
    refine q_rdG rfl [] rfl (fun hg => r_move) ?_
    refine q_rdG rfl [] rfl (fun hg => r_move) ?_
    refine q_rdG rfl [33, 34] ⟨_, _, ⟨_, .inl ⟨rfl, rfl⟩⟩, ⟨_, _, ⟨_, .inl ⟨rfl, rfl⟩⟩, rfl, rfl⟩, rfl⟩ (fun hg => (r_indexT (hj := (by first | omega | (have hgg := hg; simp only [cond_true, cond_false, Bool.and_eq_true, Bool.or_eq_true, Bool.not_eq_true', Bool.not_eq_false', Bool.and_eq_false_imp, Bool.or_eq_false_iff, decide_eq_true_eq, decide_eq_false_iff_not] at hgg; omega))))) ?_
    first | refine q_rdG rfl [35] ⟨_, _, ⟨_, .inl ⟨rfl, rfl⟩⟩, rfl, rfl⟩ (fun hg => r_load) ?_ | refine q_rdG rfl [35] ⟨_, _, ⟨_, .inl ⟨rfl, rfl⟩⟩, rfl, rfl⟩ (fun hg => r_loadE) ?_ | refine q_rdG rfl [35] ⟨_, _, ⟨_, .inl ⟨rfl, rfl⟩⟩, rfl, rfl⟩ (fun hg => (r_loadT (hj := (by first | omega | (have hgg := hg; simp only [cond_true, cond_false, Bool.and_eq_true, Bool.or_eq_true, Bool.not_eq_true', Bool.not_eq_false', Bool.and_eq_false_imp, Bool.or_eq_false_iff, decide_eq_true_eq, decide_eq_false_iff_not] at hgg; omega))))) ?_
    first | refine q_rdG rfl [] rfl (fun hg => r_load) ?_ | refine q_rdG rfl [] rfl (fun hg => r_loadE) ?_ | refine q_rdG rfl [] rfl (fun hg => (r_loadT (hj := (by first | omega | (have hgg := hg; simp only [cond_true, cond_false, Bool.and_eq_true, Bool.or_eq_true, Bool.not_eq_true', Bool.not_eq_false', Bool.and_eq_false_imp, Bool.or_eq_false_iff, decide_eq_true_eq, decide_eq_false_iff_not] at hgg; omega))))) ?_
    refine q_rdG rfl [36, 37] ⟨_, _, ⟨_, .inl ⟨rfl, rfl⟩⟩, ⟨_, _, ⟨_, .inl ⟨rfl, rfl⟩⟩, rfl, rfl⟩, rfl⟩ (fun hg => r_neH) ?_
    first | refine q_rd rfl r_or ?_ | refine q_rd rfl r_pickB ?_ | refine q_rd rfl r_pick ?_
    refine s_nil ?_
    refine x_then ?_
    first | refine c_ifd rfl (fun h39 => ?_) (fun h39 => ?_) | refine c_ifn rfl (fun h39 => ?_) (fun h39 => ?_) | refine c_if rfl (fun h39 => ?_) (fun h39 => ?_)
    · refine c_region ?_
      refine l_rd r_move ?_
      first | refine l_rd r_load ?_ | refine l_rd r_loadE ?_ | refine l_rd (r_loadT (hj := by omega)) ?_
      refine l_do (d_bslice [_]) (fun B42 => ?_)
      refine l_do d_append (fun p43 => ?_)
      refine l_rd r_assign ?_
      refine l_nil ?_
      refine x_then ?_
      refine c_seq ?_
      refine c_region ?_
      refine l_rd r_move ?_
      refine l_rd r_move ?_
      refine l_rd r_move ?_
      refine l_rd r_sliceL ?_
      refine l_do d_append (fun p48 => ?_)
      refine l_rd r_assign ?_
      refine l_nil ?_
      refine x_then ?_
      refine c_ret ?_
      refine k_ret [605] (.s (.one (.sl 0 p48.1 _ p48.2))) (.cons (.tmp rfl) .nil) (h := ?_)
      subst hik0
      first | exact ⟨_, p48.1, p48.2, put_yes hk hik2 h18 h39, rfl, rfl⟩ | exact ⟨_, p48.1, p48.2, put_no hk hik2 h18 h39, rfl, rfl⟩
    · refine c_skip ?_
      refine x_then ?_
      refine c_seq ?_
      refine c_region ?_
      refine l_rd r_move ?_
      refine l_rd r_move ?_
      refine l_rd r_move ?_
      refine l_rd r_sliceL ?_
      refine l_do d_append (fun p48 => ?_)
      refine l_rd r_assign ?_
      refine l_nil ?_
      refine x_then ?_
      refine c_ret ?_
      refine k_ret [605] (.s (.one (.sl 0 p48.1 _ p48.2))) (.cons (.tmp rfl) .nil) (h := ?_)
      subst hik0
      first | exact ⟨_, p48.1, p48.2, put_yes hk hik2 h18 h39, rfl, rfl⟩ | exact ⟨_, p48.1, p48.2, put_no hk hik2 h18 h39, rfl, rfl⟩
theorem rbehind_spec (g : Nat) (root : Hash) (h : Int) (A : Option Addr) (c : Nat) (l : List LeafP) (id : Hash) (hl : l.length ≤ 3000) : CSpec Tryz.prog 25 [.one (.ptr 0 ⟨g, 0, none⟩), .agg [.hash id]] (mB g root h A c l) [] fun o L =>
    ∃ ids A c, ids.Pairwise hlt ∧ ids.length ≤ l.length ∧ (∀ y, y ∈ ids ↔ Desc l id y) ∧ o = .ret (vsl 0 A ids.length c) ∧ L = [Res.rows A c 24 hashEn ids] := by
  refine k_enter Tryz.func25 rfl rfl (h := fun w0 => ?_)
  refine c_seq ?_
  refine c_region ?_
  refine l_do d_box (fun g3 => ?_)
  refine l_rd r_assign ?_
  refine l_nil ?_
  refine x_then ?_
  refine c_seq ?_
  refine c_region ?_
  refine l_rd r_assign ?_
  refine l_nil ?_
  refine x_then ?_
  refine c_seq ?_
  refine c_region ?_
  refine l_do (d_makeMap hashEn boolEn) (fun g11 => ?_)
  refine l_rd r_assign ?_
  refine l_nil ?_
  refine x_then ?_
  refine c_seq ?_
  refine c_region ?_
  refine l_rd r_move ?_
  first | refine l_rd r_load ?_ | refine l_rd r_loadE ?_ | refine l_rd (r_loadT (hj := by omega)) ?_
  refine l_do1 (d_mapUpdate) ?_
  refine l_nil ?_
  refine x_then ?_
  refine c_seq ?_
  refine c_region ?_
  first | refine l_rd r_load ?_ | refine l_rd r_loadE ?_ | refine l_rd (r_loadT (hj := by omega)) ?_
  refine l_do (d_bslice [_]) (fun B15 => ?_)
  refine l_rd r_assign ?_
  refine l_nil ?_
  refine x_then ?_
  refine c_seq ?_
  refine c_seq ?_
  refine c_region ?_
  refine l_rd r_assign ?_
  refine l_nil ?_
  refine x_then ?_
  refine c_block ?_
  refine k_nil 605 24 hashEn ?_
  refine c_loopA (fun m E H => ∃ (i : Nat) (q : List Hash) (s : List (Hash × Bool × Nat)) (c0 : Nat) (f : List Hash) (A5 : Option Addr) (c5 : Nat) (A7 : Option Addr) (c7 : Nat), E = [(8, vint i), (5, vsl 605 A5 f.length c5), (7, vsl 10015 A7 q.length c7)] ∧ H = [(605, Res.rows A5 c5 24 hashEn f), (10015, Res.rows A7 c7 24 hashEn q), (10011, Res.mp g11 hashEn boolEn s c0)] ∧ m = l.length + 1 - i ∧ i ≤ q.length ∧ RB l id q s c0 f i 0) [0, 1, 3, 6, 11, 12, 13, 14, 15, 73]  (l.length + 1) ([(8, vint (0 : Nat)), (5, vsl 605 none 0 0), (7, vsl 10015 B15 [id].length [id].length)]) ([(605, Res.rows none 0 24 hashEn []), (10015, Res.rows B15 [id].length 24 hashEn [id]), (10011, Res.mp g11 hashEn boolEn (mput [] 0 id true) (mclk ([] : List (Hash × Bool × Nat)) 0 id))]) rfl rfl (⟨0, [id], _, _, [], none, 0, B15, 1, rfl, rfl, rfl, Nat.zero_le _, RB.start l id⟩) (by repeat (first | exact trivial | refine ⟨⟨_, rfl, (by first | rfl | exact den_int (by omega))⟩, ?_⟩)) (by repeat (first | exact trivial | refine ⟨rfl, ?_⟩)) rfl (fun _ _ _ hI => ?_)
  obtain ⟨i, q, s, c0, f, A50, c50, A70, c70, rfl, rfl, rfl, hi, hb⟩ := hI
  refine c_seq ?_
  refine c_seq ?_
  refine c_region ?_
  refine l_rd r_move ?_
  refine l_rd r_move ?_
  refine l_rd r_len ?_
  refine l_rd r_lss ?_
  refine l_nil ?_
  refine x_then ?_
  first | refine c_ifd rfl (fun h19 => ?_) (fun h19 => ?_) | refine c_ifn rfl (fun h19 => ?_) (fun h19 => ?_) | refine c_if rfl (fun h19 => ?_) (fun h19 => ?_)
  · have hql := hb.qlen
    refine c_skip ?_
    refine x_then ?_
    refine c_seq ?_
    refine c_block ?_
    refine c_seq ?_
    refine c_region ?_
    refine l_rd r_assign ?_
    refine l_nil ?_
    refine x_then ?_
    refine c_block ?_
    refine c_loopA (fun m E H => ∃ (j : Nat) (q1 : List Hash) (s1 : List (Hash × Bool × Nat)) (c1 : Nat) (f1 : List Hash) (A5 : Option Addr) (c5 : Nat) (A7 : Option Addr) (c7 : Nat), E = [(9, vint j), (5, vsl 605 A5 f1.length c5), (7, vsl 10015 A7 q1.length c7)] ∧ H = [(605, Res.rows A5 c5 24 hashEn f1), (10015, Res.rows A7 c7 24 hashEn q1), (10011, Res.mp g11 hashEn boolEn s1 c1)] ∧ m = l.length - j ∧ j ≤ l.length ∧ i + 1 ≤ q1.length ∧ RB l id q1 s1 c1 f1 i j) [0, 1, 3, 6, 8, 11, 12, 13, 14, 15, 16, 17, 18, 19, 20, 21, 73]  (l.length) ([(9, vint (0 : Nat)), (5, vsl 605 A50 f.length c50), (7, vsl 10015 A70 q.length c70)]) ([(605, Res.rows A50 c50 24 hashEn f), (10015, Res.rows A70 c70 24 hashEn q), (10011, Res.mp g11 hashEn boolEn s c0)]) rfl rfl (⟨0, q, s, c0, f, A50, c50, A70, c70, rfl, rfl, rfl, Nat.zero_le _, by omega, hb⟩) (by repeat (first | exact trivial | refine ⟨⟨_, rfl, (by first | rfl | exact den_int (by omega))⟩, ?_⟩)) (by repeat (first | exact trivial | refine ⟨rfl, ?_⟩)) rfl (fun _ _ _ hI => ?_)
    obtain ⟨j, q1, s1, c1, f1, A5, c5, A7, c7, rfl, rfl, rfl, hj, hiq, hb⟩ := hI
    refine c_seq ?_
    refine c_seq ?_
    refine c_region ?_
    refine l_rd r_move ?_
    refine l_rd r_move ?_
    first | refine l_rd r_nilCheck ?_ | refine l_rd r_nilCheckF ?_
    first | refine l_rd r_field ?_ | refine l_rd r_fieldE ?_
    first | refine l_rd r_load ?_ | refine l_rd r_loadE ?_ | refine l_rd (r_loadT (hj := by omega)) ?_
    refine l_rd r_len ?_
    refine l_rd r_lss ?_
    refine l_nil ?_
    refine x_then ?_
    first | refine c_ifd rfl (fun h28 => ?_) (fun h28 => ?_) | refine c_ifn rfl (fun h28 => ?_) (fun h28 => ?_) | refine c_if rfl (fun h28 => ?_) (fun h28 => ?_)
    · have hfl := hb.flen
      have hql1 := hb.qlen
      refine c_skip ?_
      refine x_then ?_
      refine c_seq ?_
      refine c_block ?_
      refine c_seq ?_
      refine c_region ?_
      refine l_rd r_move ?_
      first | refine l_rd r_nilCheck ?_ | refine l_rd r_nilCheckF ?_
      first | refine l_rd r_field ?_ | refine l_rd r_fieldE ?_
      first | refine l_rd r_load ?_ | refine l_rd r_loadE ?_ | refine l_rd (r_loadT (hj := by omega)) ?_
      refine l_rd r_move ?_
      first | refine l_ix (fun ad36 y36 hA36 h36 => ?_) | refine l_rd (r_indexT (hj := by omega)) ?_
      first | refine l_rd r_load ?_ | refine l_rd r_loadE ?_ | refine l_rd (r_loadT (hj := by omega)) ?_
      refine l_do d_alloc (fun g10 => ?_)
      first | refine l_do1 d_store ?_ | refine l_do1 d_storeE ?_
      refine l_nil ?_
      refine x_then ?_
      refine c_seq ?_
      refine c_seq ?_
      refine c_draw (.q 0 (.q 1 (.q 2 (.q 3 (.q 4 (.q 5 (.q 6 .nil))))))) [10003, 10011, 10015, 10018, 10027, 10010, 22950, 22951, 22952, 22953, 10071, 10072] (hm := by kernel_rfl) (hs := by kernel_rfl) (hk := by kernel_rfl) (hQ := fun d v c a w h => by cases d <;> exact h) (h := ?_)
      first | refine q_rd rfl r_field ?_ | refine q_rd rfl r_fieldE ?_
      first | refine q_rd rfl r_load ?_ | refine q_rd rfl r_loadE ?_ | refine q_rd rfl (r_loadT (hj := by omega)) ?_
      refine q_rd rfl r_move ?_
      refine q_rd rfl r_move ?_
      first | refine q_ix rfl (fun ad42 y42 hA42 h42 => ?_) | refine q_rd rfl (r_indexT (hj := by omega)) ?_
      first | refine q_rd rfl r_load ?_ | refine q_rd rfl r_loadE ?_ | refine q_rd rfl (r_loadT (hj := by omega)) ?_
      refine q_rd rfl r_neH ?_
      refine s_nil ?_
      refine x_then ?_
      first | refine c_ifd rfl (fun h44 => ?_) (fun h44 => ?_) | refine c_ifn rfl (fun h44 => ?_) (fun h44 => ?_) | refine c_if rfl (fun h44 => ?_) (fun h44 => ?_)
      · refine c_exit ?_
        refine x_thenE (x_inE (x_then ?_))
        refine c_region ?_
        refine l_rd r_move ?_
        first | refine l_rd r_add ?_ | refine l_rd r_addW ?_
        refine l_rd r_assign ?_
        refine l_nil ?_
        refine x_then ?_
        first | refine k_ren 22950 605 rfl ?_ | skip
        refine k_again (l.length - (j + 1)) (by first | exact ⟨j + 1, _, _, _, r, Ar, cr, p72.1, p72.2, rfl, rfl, rfl, by omega, by simp; omega, hb.add h42 h36 (by simpa using h44) (look_no hb.all h64) hr⟩ | exact ⟨j + 1, _, _, _, r, Ar, cr, A7, c7, rfl, rfl, rfl, by omega, hiq, hb.again h42 h36 (by simpa using h44) (look_yes hb.all h64) hr⟩ | exact ⟨j + 1, _, _, _, f1, A5, c5, A7, c7, rfl, rfl, rfl, by omega, hiq, hb.seen h42 h36 (by simpa using h44) (look_yes hb.all h64) (by simp at h55; exact h55.1)⟩ | exact ⟨j + 1, _, _, _, f1, A5, c5, A7, c7, rfl, rfl, rfl, by omega, hiq, hb.skip h42 h36 (by simpa using h44)⟩) (by omega) (by repeat (first | exact trivial | refine ⟨⟨_, rfl, (by first | rfl | exact den_int (by omega))⟩, ?_⟩)) (by repeat (first | exact trivial | refine ⟨rfl, ?_⟩))
      · refine c_skip ?_
        refine x_then ?_
        refine c_seq ?_
        refine c_seq ?_
        refine c_region ?_
        first | refine l_rd r_field ?_ | refine l_rd r_fieldE ?_
        first | refine l_rd r_load ?_ | refine l_rd r_loadE ?_ | refine l_rd (r_loadT (hj := by omega)) ?_
        first | refine l_rd r_load ?_ | refine l_rd r_loadE ?_ | refine l_rd (r_loadT (hj := by omega)) ?_
        refine l_rd r_eqH ?_
        refine l_rd r_move ?_
        refine l_rdG [] rfl (fun hg => r_move) ?_
        first | refine l_rdG [] rfl (fun hg => r_field) ?_ | refine l_rdG [] rfl (fun hg => r_fieldE) ?_
        first | refine l_rdG [51] ⟨_, _, ⟨_, .inl ⟨rfl, rfl⟩⟩, rfl, rfl⟩ (fun hg => r_load) ?_ | refine l_rdG [51] ⟨_, _, ⟨_, .inl ⟨rfl, rfl⟩⟩, rfl, rfl⟩ (fun hg => r_loadE) ?_ | refine l_rdG [51] ⟨_, _, ⟨_, .inl ⟨rfl, rfl⟩⟩, rfl, rfl⟩ (fun hg => (r_loadT (hj := (by first | omega | (have hgg := hg; simp only [cond_true, cond_false, Bool.and_eq_true, Bool.or_eq_true, Bool.not_eq_true', Bool.not_eq_false', Bool.and_eq_false_imp, Bool.or_eq_false_iff, decide_eq_true_eq, decide_eq_false_iff_not] at hgg; omega))))) ?_
        first | refine l_rdG [50, 52] ⟨_, _, ⟨_, .inl ⟨rfl, rfl⟩⟩, ⟨_, _, ⟨_, .inl ⟨rfl, rfl⟩⟩, rfl, rfl⟩, rfl⟩ (fun hg => r_lookup1) ?_ | refine l_rdG [50, 52] ⟨_, _, ⟨_, .inl ⟨rfl, rfl⟩⟩, ⟨_, _, ⟨_, .inl ⟨rfl, rfl⟩⟩, rfl, rfl⟩, rfl⟩ (fun hg => r_lookup1N) ?_
        refine l_rdG [53] ⟨_, _, ⟨_, .inl ⟨rfl, rfl⟩⟩, rfl, rfl⟩ (fun hg => r_not) ?_
        first | refine l_rd r_or ?_ | refine l_rd r_pickB ?_ | refine l_rd r_pick ?_
        refine l_nil ?_
        refine x_then ?_
        first | refine c_ifd rfl (fun h55 => ?_) (fun h55 => ?_) | refine c_ifn rfl (fun h55 => ?_) (fun h55 => ?_) | refine c_if rfl (fun h55 => ?_) (fun h55 => ?_)
        · refine c_region ?_
          refine l_rd r_move ?_
          first | refine l_rd r_field ?_ | refine l_rd r_fieldE ?_
          first | refine l_rd r_load ?_ | refine l_rd r_loadE ?_ | refine l_rd (r_loadT (hj := by omega)) ?_
          refine k_fact (p := f1.length ≤ c5) (fun w hf => rows_cap (hf 605 _ rfl)) (fun hc5 => ?_)
          refine l_call 22950 [] (put_spec A5 f1 c5 y36.id (by omega) hc5) Tryz.func42 (h := ?_)
          rintro _ _ (⟨r, Ar, cr, hr, rfl, rfl⟩)
          refine l_rd r_assign ?_
          refine l_nil ?_
          refine x_then ?_
          refine c_seq ?_
          refine c_region ?_
          refine l_rd r_move ?_
          first | refine l_rd r_field ?_ | refine l_rd r_fieldE ?_
          first | refine l_rd r_load ?_ | refine l_rd r_loadE ?_ | refine l_rd (r_loadT (hj := by omega)) ?_
          first | refine l_rd r_lookup1 ?_ | refine l_rd r_lookup1N ?_
          refine l_rd r_not ?_
          refine l_nil ?_
          refine x_then ?_
          first | refine c_ifd rfl (fun h64 => ?_) (fun h64 => ?_) | refine c_ifn rfl (fun h64 => ?_) (fun h64 => ?_) | refine c_if rfl (fun h64 => ?_) (fun h64 => ?_)
          · first
            | (exfalso; simp at h55 h64; rw [h64] at h55; simp at h55; done)
            | ( refine c_seq ?_
                refine c_region ?_
                refine l_rd r_move ?_
                first | refine l_rd r_field ?_ | refine l_rd r_fieldE ?_
                first | refine l_rd r_load ?_ | refine l_rd r_loadE ?_ | refine l_rd (r_loadT (hj := by omega)) ?_
                refine l_do1 (d_mapUpdate) ?_
                refine l_nil ?_
                refine x_then ?_
                refine c_region ?_
                refine l_rd r_move ?_
                first | refine l_rd r_field ?_ | refine l_rd r_fieldE ?_
                first | refine l_rd r_load ?_ | refine l_rd r_loadE ?_ | refine l_rd (r_loadT (hj := by omega)) ?_
                refine l_do (d_bslice [_]) (fun B71 => ?_)
                refine l_do d_append (fun p72 => ?_)
                refine l_rd r_assign ?_
                refine l_nil ?_
                refine x_in (x_then ?_)
                refine c_region ?_
                refine l_rd r_move ?_
                first | refine l_rd r_add ?_ | refine l_rd r_addW ?_
                refine l_rd r_assign ?_
                refine l_nil ?_
                refine x_then ?_
                first | refine k_ren 22950 605 rfl ?_ | skip
                refine k_again (l.length - (j + 1)) (by first | exact ⟨j + 1, _, _, _, r, Ar, cr, p72.1, p72.2, rfl, rfl, rfl, by omega, by simp; omega, hb.add h42 h36 (by simpa using h44) (look_no hb.all h64) hr⟩ | exact ⟨j + 1, _, _, _, r, Ar, cr, A7, c7, rfl, rfl, rfl, by omega, hiq, hb.again h42 h36 (by simpa using h44) (look_yes hb.all h64) hr⟩ | exact ⟨j + 1, _, _, _, f1, A5, c5, A7, c7, rfl, rfl, rfl, by omega, hiq, hb.seen h42 h36 (by simpa using h44) (look_yes hb.all h64) (by simp at h55; exact h55.1)⟩ | exact ⟨j + 1, _, _, _, f1, A5, c5, A7, c7, rfl, rfl, rfl, by omega, hiq, hb.skip h42 h36 (by simpa using h44)⟩) (by omega) (by repeat (first | exact trivial | refine ⟨⟨_, rfl, (by first | rfl | exact den_int (by omega))⟩, ?_⟩)) (by repeat (first | exact trivial | refine ⟨rfl, ?_⟩)))
          · refine c_skip ?_
            refine x_in (x_then ?_)
            refine c_region ?_
            refine l_rd r_move ?_
            first | refine l_rd r_add ?_ | refine l_rd r_addW ?_
            refine l_rd r_assign ?_
            refine l_nil ?_
            refine x_then ?_
            first | refine k_ren 22950 605 rfl ?_ | skip
            refine k_again (l.length - (j + 1)) (by first | exact ⟨j + 1, _, _, _, r, Ar, cr, p72.1, p72.2, rfl, rfl, rfl, by omega, by simp; omega, hb.add h42 h36 (by simpa using h44) (look_no hb.all h64) hr⟩ | exact ⟨j + 1, _, _, _, r, Ar, cr, A7, c7, rfl, rfl, rfl, by omega, hiq, hb.again h42 h36 (by simpa using h44) (look_yes hb.all h64) hr⟩ | exact ⟨j + 1, _, _, _, f1, A5, c5, A7, c7, rfl, rfl, rfl, by omega, hiq, hb.seen h42 h36 (by simpa using h44) (look_yes hb.all h64) (by simp at h55; exact h55.1)⟩ | exact ⟨j + 1, _, _, _, f1, A5, c5, A7, c7, rfl, rfl, rfl, by omega, hiq, hb.skip h42 h36 (by simpa using h44)⟩) (by omega) (by repeat (first | exact trivial | refine ⟨⟨_, rfl, (by first | rfl | exact den_int (by omega))⟩, ?_⟩)) (by repeat (first | exact trivial | refine ⟨rfl, ?_⟩))
        · refine c_skip ?_
          refine x_then ?_
          refine c_seq ?_
          refine c_region ?_
          refine l_rd r_move ?_
          first | refine l_rd r_field ?_ | refine l_rd r_fieldE ?_
          first | refine l_rd r_load ?_ | refine l_rd r_loadE ?_ | refine l_rd (r_loadT (hj := by omega)) ?_
          first | refine l_rd r_lookup1 ?_ | refine l_rd r_lookup1N ?_
          refine l_rd r_not ?_
          refine l_nil ?_
          refine x_then ?_
          first | refine c_ifd rfl (fun h64 => ?_) (fun h64 => ?_) | refine c_ifn rfl (fun h64 => ?_) (fun h64 => ?_) | refine c_if rfl (fun h64 => ?_) (fun h64 => ?_)
          · first
            | (exfalso; simp at h55 h64; rw [h64] at h55; simp at h55; done)
            | ( refine c_seq ?_
                refine c_region ?_
                refine l_rd r_move ?_
                first | refine l_rd r_field ?_ | refine l_rd r_fieldE ?_
                first | refine l_rd r_load ?_ | refine l_rd r_loadE ?_ | refine l_rd (r_loadT (hj := by omega)) ?_
                refine l_do1 (d_mapUpdate) ?_
                refine l_nil ?_
                refine x_then ?_
                refine c_region ?_
                refine l_rd r_move ?_
                first | refine l_rd r_field ?_ | refine l_rd r_fieldE ?_
                first | refine l_rd r_load ?_ | refine l_rd r_loadE ?_ | refine l_rd (r_loadT (hj := by omega)) ?_
                refine l_do (d_bslice [_]) (fun B71 => ?_)
                refine l_do d_append (fun p72 => ?_)
                refine l_rd r_assign ?_
                refine l_nil ?_
                refine x_in (x_then ?_)
                refine c_region ?_
                refine l_rd r_move ?_
                first | refine l_rd r_add ?_ | refine l_rd r_addW ?_
                refine l_rd r_assign ?_
                refine l_nil ?_
                refine x_then ?_
                first | refine k_ren 22950 605 rfl ?_ | skip
                refine k_again (l.length - (j + 1)) (by first | exact ⟨j + 1, _, _, _, r, Ar, cr, p72.1, p72.2, rfl, rfl, rfl, by omega, by simp; omega, hb.add h42 h36 (by simpa using h44) (look_no hb.all h64) hr⟩ | exact ⟨j + 1, _, _, _, r, Ar, cr, A7, c7, rfl, rfl, rfl, by omega, hiq, hb.again h42 h36 (by simpa using h44) (look_yes hb.all h64) hr⟩ | exact ⟨j + 1, _, _, _, f1, A5, c5, A7, c7, rfl, rfl, rfl, by omega, hiq, hb.seen h42 h36 (by simpa using h44) (look_yes hb.all h64) (by simp at h55; exact h55.1)⟩ | exact ⟨j + 1, _, _, _, f1, A5, c5, A7, c7, rfl, rfl, rfl, by omega, hiq, hb.skip h42 h36 (by simpa using h44)⟩) (by omega) (by repeat (first | exact trivial | refine ⟨⟨_, rfl, (by first | rfl | exact den_int (by omega))⟩, ?_⟩)) (by repeat (first | exact trivial | refine ⟨rfl, ?_⟩)))
          · refine c_skip ?_
            refine x_in (x_then ?_)
            refine c_region ?_
            refine l_rd r_move ?_
            first | refine l_rd r_add ?_ | refine l_rd r_addW ?_
            refine l_rd r_assign ?_
            refine l_nil ?_
            refine x_then ?_
            first | refine k_ren 22950 605 rfl ?_ | skip
            refine k_again (l.length - (j + 1)) (by first | exact ⟨j + 1, _, _, _, r, Ar, cr, p72.1, p72.2, rfl, rfl, rfl, by omega, by simp; omega, hb.add h42 h36 (by simpa using h44) (look_no hb.all h64) hr⟩ | exact ⟨j + 1, _, _, _, r, Ar, cr, A7, c7, rfl, rfl, rfl, by omega, hiq, hb.again h42 h36 (by simpa using h44) (look_yes hb.all h64) hr⟩ | exact ⟨j + 1, _, _, _, f1, A5, c5, A7, c7, rfl, rfl, rfl, by omega, hiq, hb.seen h42 h36 (by simpa using h44) (look_yes hb.all h64) (by simp at h55; exact h55.1)⟩ | exact ⟨j + 1, _, _, _, f1, A5, c5, A7, c7, rfl, rfl, rfl, by omega, hiq, hb.skip h42 h36 (by simpa using h44)⟩) (by omega) (by repeat (first | exact trivial | refine ⟨⟨_, rfl, (by first | rfl | exact den_int (by omega))⟩, ?_⟩)) (by repeat (first | exact trivial | refine ⟨rfl, ?_⟩))
    · refine c_exit ?_
      refine x_thenE (x_thenE (x_inE (x_in (x_then ?_))))
      refine c_region ?_
      refine l_rd r_move ?_
      first | refine l_rd r_add ?_ | refine l_rd r_addW ?_
      refine l_rd r_assign ?_
      refine l_nil ?_
      refine x_then ?_
      refine k_again (l.length + 1 - (i + 1)) ⟨i + 1, q1, s1, c1, f1, A5, c5, A7, c7, rfl, rfl, rfl, hiq, hb.next (by omega)⟩ (by omega) (by repeat (first | exact trivial | refine ⟨⟨_, rfl, (by first | rfl | exact den_int (by omega))⟩, ?_⟩)) (by repeat (first | exact trivial | refine ⟨rfl, ?_⟩))
  · refine c_exit ?_
    refine x_thenE (x_thenE (x_inE (x_then ?_)))
    refine c_seq ?_
    refine c_region ?_
    refine l_rd r_move ?_
    refine l_rd r_assign ?_
    refine l_nil ?_
    refine x_then ?_
    refine c_ret ?_
    refine k_ret [605] (.s (.one (.sl 0 A50 f.length c50))) (.cons (.tmp rfl) .nil) (h := ?_)
    exact ⟨f, A50, c50, hb.sorted, hb.flen, hb.done (by omega), rfl, rfl⟩
end Go.Proofs.YtehhnfpfefccaaaGreat
/- The reference: Path, Gone; turned; the program: made, Behind. -/

set_option linter.unusedVariables false
set_option linter.unusedSimpArgs false
set_option maxRecDepth 100000
set_option maxHeartbeats 8000000
namespace Go.Proofs.YtehhnfpfefccaaaGreat
open Go Go.RowKit HL
theorem goneH_t {l : List LeafP} {h : Int} {dest : Hash} (hf : (findL l dest).isSome = true) : goneH l h dest = ((findL l dest).getD leaf0).height := by
  rw [goneH_in (by rw [mhas_lents, ← findL_any]; exact hf), mlook_lents]
  rfl
theorem goneH_f {l : List LeafP} {h : Int} {dest : Hash} (hf : (findL l dest).isSome = false) : goneH l h dest = h := goneH_out (by rw [mhas_lents, ← findL_any]; exact hf)
theorem cpl_t {x y : List Hash} {k : Nat} (h : (decide ((k : Int) < (x.length : Int)) && decide ((k : Int) < (y.length : Int)) && decide (x.getD k default = y.getD k default)) = true) : cpl (x.drop k) (y.drop k) = cpl (x.drop (k + 1)) (y.drop (k + 1)) + 1 := by
  simp only [Bool.and_eq_true, decide_eq_true_eq] at h
  obtain ⟨⟨h1, h2⟩, h3⟩ := h
  rw [cpl_step (by omega) (by omega), if_pos]
  rw [List.getD_eq_getElem?_getD, List.getD_eq_getElem?_getD, List.getElem?_eq_getElem (by omega), List.getElem?_eq_getElem (by omega)] at h3
  exact h3
theorem cpl_f {x y : List Hash} {k : Nat} (h : (decide ((k : Int) < (x.length : Int)) && decide ((k : Int) < (y.length : Int)) && decide (x.getD k default = y.getD k default)) = false) : cpl (x.drop k) (y.drop k) = 0 := by
  by_cases h1 : k < x.length
  · by_cases h2 : k < y.length
    · rw [decide_eq_true (by omega : (k : Int) < (x.length : Int)), decide_eq_true (by omega : (k : Int) < (y.length : Int))] at h
      simp only [Bool.and_self, Bool.true_and, decide_eq_false_iff_not] at h
      rw [cpl_step h1 h2, if_neg]
      rw [List.getD_eq_getElem?_getD, List.getD_eq_getElem?_getD, List.getElem?_eq_getElem h1, List.getElem?_eq_getElem h2] at h
      exact h
    · exact cpl_out (.inr (by omega))
  · exact cpl_out (.inl (by omega))
theorem rpath_spec (g : Nat) (root : Hash) (h : Int) (A : Option Addr) (c : Nat) (l : List LeafP) (a b : Hash) (hw : Wide64 l) (hok : NewOk root h l) : CSpec Tryz.prog 20 [.one (.ptr 0 ⟨g, 0, none⟩), .agg [.hash a], .agg [.hash b]] (mB g root h A c l) [] fun o L =>
    ∃ d u ok A1 c1 A2 c2, (ok = true ∧ pathOf l root h a b = some (d, u) ∨ ok = false ∧ pathOf l root h a b = none ∧ d = [] ∧ u = []) ∧ d.length ≤ l.length ∧ u.length ≤ l.length ∧ o = .ret (.tup [.one (.sl 0 A1 d.length c1), .one (.sl 1 A2 u.length c2), .one (.b ok)]) ∧ L = [Res.rows A1 c1 24 hashEn d, Res.rows A2 c2 24 hashEn u] := by
  have h2 := hok.2.2.1
  refine k_enter Tryz.func20 rfl rfl (h := fun w0 => ?_)
  refine c_seq ?_
  refine c_region ?_
  refine l_do d_box (fun g4 => ?_)
  refine l_do d_box (fun g5 => ?_)
  refine l_rd r_assign ?_
  refine l_rd r_assign ?_
  refine l_rd r_assign ?_
  refine l_nil ?_
  refine x_then ?_
  refine c_seq ?_
  refine c_region ?_
  refine l_rd r_move ?_
  first | refine l_rd r_load ?_ | refine l_rd r_loadE ?_ | refine l_rd (r_loadT (hj := by omega)) ?_
  refine l_call 20950 [(100, 100)] (rway_spec g root h A c l a hw hok) Tryz.func19 (h := ?_)
  rintro _ _ (⟨Aa, ca, hla, rfl, rfl⟩)
  generalize hWa : (wayOf l root h a).getD [] = wa at hla ⊢
  refine l_rd r_move ?_
  first | refine l_rd r_extract ?_ | refine l_rd r_extractN ?_
  refine l_rd r_extract ?_
  refine l_rd r_assign ?_
  refine l_rd r_assign ?_
  refine l_nil ?_
  refine x_then ?_
  refine c_seq ?_
  refine c_region ?_
  refine l_rd r_move ?_
  first | refine l_rd r_load ?_ | refine l_rd r_loadE ?_ | refine l_rd (r_loadT (hj := by omega)) ?_
  refine l_call 21250 [(100, 100)] (rway_spec g root h A c l b hw hok) Tryz.func19 (h := ?_)
  rintro _ _ (⟨Ab, cb, hlb, rfl, rfl⟩)
  generalize hWb : (wayOf l root h b).getD [] = wb at hlb ⊢
  refine l_rd r_move ?_
  first | refine l_rd r_extract ?_ | refine l_rd r_extractN ?_
  refine l_rd r_extract ?_
  refine l_rd r_assign ?_
  refine l_rd r_assign ?_
  refine l_nil ?_
  refine x_then ?_
  refine c_seq ?_
  refine c_seq ?_
  refine c_region ?_
  refine l_rd r_move ?_
  refine l_rd r_not ?_
  refine l_rd r_move ?_
  refine l_rdG [] rfl (fun hg => r_move) ?_
  refine l_rdG [31] ⟨_, _, ⟨_, .inl ⟨rfl, rfl⟩⟩, rfl, rfl⟩ (fun hg => r_not) ?_
  first | refine l_rd r_or ?_ | refine l_rd r_pickB ?_ | refine l_rd r_pick ?_
  refine l_nil ?_
  refine x_then ?_
  first | refine c_ifd rfl (fun h33 => ?_) (fun h33 => ?_) | refine c_ifn rfl (fun h33 => ?_) (fun h33 => ?_) | refine c_if rfl (fun h33 => ?_) (fun h33 => ?_)
  · refine c_seq ?_
    refine c_region ?_
    refine l_rd r_assign ?_
    refine l_rd r_assign ?_
    refine l_rd r_assign ?_
    refine l_nil ?_
    refine x_then ?_
    refine c_ret ?_
    refine x_thenR ?_
    refine k_nil 704 24 hashEn ?_
    refine k_nil 705 24 hashEn ?_
    refine k_ret [704, 705] (.tup [.one (.sl 0 none 0 0), .one (.sl 1 none 0 0), .one (.b false)]) (.cons (.tmp rfl) (.cons (.tmp rfl) (.cons (.tmp rfl) .nil))) (h := ?_)
    refine ⟨[], [], false, none, 0, none, 0, .inr ⟨rfl, pathOf_none ?_, rfl, rfl⟩, Nat.zero_le _, Nat.zero_le _, rfl, rfl⟩
    simpa [Bool.or_eq_true, Bool.not_eq_true'] using h33
  · simp only [Bool.or_eq_false_iff, Bool.not_eq_false'] at h33
    have hwa : wayOf l root h a = some wa := by obtain ⟨x, hx⟩ := Option.isSome_iff_exists.1 h33.1; rw [hx] at hWa ⊢; rw [← hWa]; rfl
    have hwb : wayOf l root h b = some wb := by obtain ⟨x, hx⟩ := Option.isSome_iff_exists.1 h33.2; rw [hx] at hWb ⊢; rw [← hWb]; rfl
    refine c_skip ?_
    refine x_then ?_
    refine c_seq ?_
    refine c_region ?_
    refine l_rd r_assign ?_
    refine l_nil ?_
    refine x_then ?_
    refine c_seq ?_
    refine c_block ?_
    refine c_loopA (fun m E H => ∃ (k : Nat), E = [(13, vint (((k : Nat) : Int)))] ∧ H = [] ∧ m = wa.length - k ∧ k ≤ wa.length ∧ (cpl wa wb = k + cpl (wa.drop k) (wb.drop k))) [0, 1, 2, 4, 5, 9, 10, 11, 12, 14, 15, 16, 17, 18, 19, 20, 21, 22, 23, 24, 25, 26, 27, 28, 29, 30, 31, 32, 33, 57, 58, 59, 60, 61, 62, 63, 64, 65, 66, 67, 68, 69, 70, 71, 72, 73, 74, 75]  (wa.length) ([(13, vint (((0 : Nat) : Int)))]) ([]) rfl rfl (⟨0, rfl, rfl, by omega, by omega, by simp⟩) (by repeat (first | exact trivial | refine ⟨⟨_, rfl, (by first | rfl | exact den_int (by omega))⟩, ?_⟩)) (by repeat (first | exact trivial | refine ⟨rfl, ?_⟩)) rfl (fun _ _ _ hI => ?_)
    obtain ⟨k, rfl, rfl, hmk, hk, hik0⟩ := hI
    refine c_seq ?_
    refine c_seq ?_
    refine c_draw (.q 0 (.q 1 (.q 2 (.q 3 (.q 4 (.q 5 (.q 6 (.q 7 (.q 8 (.q 9 (.q 10 (.q 11 (.q 12 (.q 13 (.q 14 (.q 15 (.q 16 (.q 17 (.q 18 (.q 19 (.q 20 .nil))))))))))))))))))))) [10004, 10005, 20950, 20951, 20952, 20953, 21250, 21251, 21252, 21253, 10036, 10041, 10058, 10070, 10071] (hm := by kernel_rfl) (hs := by kernel_rfl) (hk := by kernel_rfl) (hQ := fun d v c a w h => by cases d <;> exact h) (h := ?_)
    refine q_rd rfl r_move ?_
    refine q_rd rfl r_move ?_
    refine q_rd rfl r_len ?_
    refine q_rd rfl r_lss ?_
    refine q_rd rfl r_move ?_
    refine q_rdG rfl [] rfl (fun hg => r_move) ?_
    refine q_rdG rfl [] rfl (fun hg => r_move) ?_
    refine q_rdG rfl [40] ⟨_, _, ⟨_, .inl ⟨rfl, rfl⟩⟩, rfl, rfl⟩ (fun hg => r_len) ?_
    refine q_rdG rfl [39, 41] ⟨_, _, ⟨_, .inl ⟨rfl, rfl⟩⟩, ⟨_, _, ⟨_, .inl ⟨rfl, rfl⟩⟩, rfl, rfl⟩, rfl⟩ (fun hg => r_lss) ?_
    first | refine q_rd rfl r_and ?_ | refine q_rd rfl r_pickB ?_ | refine q_rd rfl r_pick ?_
    refine q_rd rfl r_move ?_
    refine q_rdG rfl [] rfl (fun hg => r_move) ?_
    refine q_rdG rfl [] rfl (fun hg => r_move) ?_
    refine q_rdG rfl [45, 46] ⟨_, _, ⟨_, .inl ⟨rfl, rfl⟩⟩, ⟨_, _, ⟨_, .inl ⟨rfl, rfl⟩⟩, rfl, rfl⟩, rfl⟩ (fun hg => (r_indexT (hj := (by first | omega | (have hgg := hg; simp only [cond_true, cond_false, Bool.and_eq_true, Bool.or_eq_true, Bool.not_eq_true', Bool.not_eq_false', Bool.and_eq_false_imp, Bool.or_eq_false_iff, decide_eq_true_eq, decide_eq_false_iff_not] at hgg; omega))))) ?_
    first | refine q_rdG rfl [47] ⟨_, _, ⟨_, .inl ⟨rfl, rfl⟩⟩, rfl, rfl⟩ (fun hg => r_load) ?_ | refine q_rdG rfl [47] ⟨_, _, ⟨_, .inl ⟨rfl, rfl⟩⟩, rfl, rfl⟩ (fun hg => r_loadE) ?_ | refine q_rdG rfl [47] ⟨_, _, ⟨_, .inl ⟨rfl, rfl⟩⟩, rfl, rfl⟩ (fun hg => (r_loadT (hj := (by first | omega | (have hgg := hg; simp only [cond_true, cond_false, Bool.and_eq_true, Bool.or_eq_true, Bool.not_eq_true', Bool.not_eq_false', Bool.and_eq_false_imp, Bool.or_eq_false_iff, decide_eq_true_eq, decide_eq_false_iff_not] at hgg; omega))))) ?_
    refine q_rdG rfl [] rfl (fun hg => r_move) ?_
    refine q_rdG rfl [] rfl (fun hg => r_move) ?_
    refine q_rdG rfl [49, 50] ⟨_, _, ⟨_, .inl ⟨rfl, rfl⟩⟩, ⟨_, _, ⟨_, .inl ⟨rfl, rfl⟩⟩, rfl, rfl⟩, rfl⟩ (fun hg => (r_indexT (hj := (by first | omega | (have hgg := hg; simp only [cond_true, cond_false, Bool.and_eq_true, Bool.or_eq_true, Bool.not_eq_true', Bool.not_eq_false', Bool.and_eq_false_imp, Bool.or_eq_false_iff, decide_eq_true_eq, decide_eq_false_iff_not] at hgg; omega))))) ?_
    first | refine q_rdG rfl [51] ⟨_, _, ⟨_, .inl ⟨rfl, rfl⟩⟩, rfl, rfl⟩ (fun hg => r_load) ?_ | refine q_rdG rfl [51] ⟨_, _, ⟨_, .inl ⟨rfl, rfl⟩⟩, rfl, rfl⟩ (fun hg => r_loadE) ?_ | refine q_rdG rfl [51] ⟨_, _, ⟨_, .inl ⟨rfl, rfl⟩⟩, rfl, rfl⟩ (fun hg => (r_loadT (hj := (by first | omega | (have hgg := hg; simp only [cond_true, cond_false, Bool.and_eq_true, Bool.or_eq_true, Bool.not_eq_true', Bool.not_eq_false', Bool.and_eq_false_imp, Bool.or_eq_false_iff, decide_eq_true_eq, decide_eq_false_iff_not] at hgg; omega))))) ?_
    refine q_rdG rfl [48, 52] ⟨_, _, ⟨_, .inl ⟨rfl, rfl⟩⟩, ⟨_, _, ⟨_, .inl ⟨rfl, rfl⟩⟩, rfl, rfl⟩, rfl⟩ (fun hg => r_eqH) ?_
    first | refine q_rd rfl r_and ?_ | refine q_rd rfl r_pickB ?_ | refine q_rd rfl r_pick ?_
    refine s_nil ?_
    refine x_then ?_
    first | refine c_ifd rfl (fun h54 => ?_) (fun h54 => ?_) | refine c_ifn rfl (fun h54 => ?_) (fun h54 => ?_) | refine c_if rfl (fun h54 => ?_) (fun h54 => ?_)
    · simp only [Int.toNat_natCast] at h54
      have h54a := h54
      simp only [Bool.and_eq_true, decide_eq_true_eq] at h54a
      refine c_skip ?_
      refine x_then ?_
      refine c_block ?_
      refine c_region ?_
      refine l_rd r_move ?_
      first | refine l_rd r_add ?_ | refine l_rd r_addW ?_
      refine l_rd r_assign ?_
      refine l_nil ?_
      refine x_in (x_then ?_)
      refine k_again (wa.length - (k + 1)) ⟨k + 1, rfl, rfl, by omega, by omega, by rw [hik0, cpl_t h54]; omega⟩ (by omega) (by repeat (first | exact trivial | refine ⟨⟨_, rfl, (by first | rfl | exact den_int (by omega))⟩, ?_⟩)) (by repeat (first | exact trivial | refine ⟨rfl, ?_⟩))
    · simp only [Int.toNat_natCast] at h54
      have hkc : k = cpl wa wb := by rw [hik0, cpl_f h54]; omega
      have hle := cpl_le wa wb
      refine c_exit ?_
      refine x_thenE (x_thenE (x_inE (x_then ?_)))
      refine c_seq ?_
      refine c_region ?_
      refine l_rd r_assign ?_
      refine l_nil ?_
      refine x_then ?_
      refine c_seq ?_
      refine c_seq ?_
      refine c_region ?_
      refine l_rd r_move ?_
      refine l_rd r_len ?_
      first | refine l_rd r_sub ?_ | refine l_rd r_subW ?_
      refine l_rd r_assign ?_
      refine l_nil ?_
      refine x_then ?_
      refine c_block ?_
      refine k_nil 614 24 hashEn ?_
      refine c_loopA (fun m E H => ∃ (j : Nat) (dn : List Hash) (dnA : Option Addr) (dnC : Nat), E = [(15, vint ((wa.length : Int) - 1 - (j : Int))), (14, vsl 614 dnA dn.length dnC)] ∧ H = [(614, Res.rows dnA dnC 24 hashEn dn)] ∧ m = (wa.length - k) - j ∧ j ≤ (wa.length - k) ∧ (dn = wa.reverse.take j) ∧ (dn.length = j)) [0, 1, 2, 4, 5, 9, 10, 11, 12, 13, 16, 17, 18, 19, 20, 21, 22, 23, 24, 25, 26, 27, 28, 29, 30, 31, 32, 33, 34, 35, 36, 37, 38, 39, 40, 41, 42, 43, 44, 45, 46, 47, 48, 49, 50, 51, 52, 53, 54, 55, 56, 57, 58, 59, 72, 73, 74, 75]  ((wa.length - k)) ([(15, vint ((wa.length : Int) - 1 - (0 : Int))), (14, vsl 614 (none) ([]).length (0))]) ([(614, Res.rows (none) (0) 24 hashEn ([]))]) rfl rfl (⟨0, [], none, 0, rfl, rfl, by omega, by omega, rfl, rfl⟩) (by repeat (first | exact trivial | refine ⟨⟨_, rfl, (by first | rfl | exact den_int (by omega))⟩, ?_⟩)) (by repeat (first | exact trivial | refine ⟨rfl, ?_⟩)) rfl (fun _ _ _ hI => ?_)
      obtain ⟨j, dn, dnA, dnC, rfl, rfl, hmj, hj, hij0, hij1⟩ := hI
      refine c_seq ?_
      refine c_seq ?_
      refine c_region ?_
      refine l_rd r_move ?_
      refine l_rd r_move ?_
      refine l_rd r_geq ?_
      refine l_nil ?_
      refine x_then ?_
      first | refine c_ifd rfl (fun h62 => ?_) (fun h62 => ?_) | refine c_ifn rfl (fun h62 => ?_) (fun h62 => ?_) | refine c_if rfl (fun h62 => ?_) (fun h62 => ?_)
      · refine c_skip ?_
        refine x_then ?_
        refine c_seq ?_
        refine c_block ?_
        refine c_region ?_
        refine l_rd r_move ?_
        refine l_rd r_move ?_
        refine l_rd r_move ?_
        first | refine l_ix (fun ad68 y68 hA68 h68 => ?_) | refine l_rd (r_indexT (hj := by omega)) ?_
        first | refine l_rd r_load ?_ | refine l_rd r_loadE ?_ | refine l_rd (r_loadT (hj := by omega)) ?_
        refine l_do (d_bslice [_]) (fun B70 => ?_)
        refine l_do d_append (fun p71 => ?_)
        refine l_rd r_assign ?_
        refine l_nil ?_
        refine x_in (x_then ?_)
        refine c_region ?_
        refine l_rd r_move ?_
        first | refine l_rd r_sub ?_ | refine l_rd r_subW ?_
        refine l_rd r_assign ?_
        refine l_nil ?_
        refine x_then ?_
        refine k_again ((wa.length - k) - (j + 1)) ⟨j + 1, dn ++ [wa.getD ((wa.length : Int) - 1 - (j : Int)).toNat default], p71.1, p71.2, rfl, rfl, by omega, by omega, by rw [rev_take default (by omega), hij0]; congr 3; omega, by rw [List.length_append, hij1]; rfl⟩ (by omega) (by repeat (first | exact trivial | refine ⟨⟨_, rfl, (by first | rfl | exact den_int (by omega))⟩, ?_⟩)) (by repeat (first | exact trivial | refine ⟨rfl, ?_⟩))
      · refine c_exit ?_
        refine x_thenE (x_thenE (x_inE (x_then ?_)))
        refine c_seq ?_
        refine c_draw (.q 0 (.q 1 (.q 2 (.q 3 (.q 4 (.q 5 (.q 6 .nil))))))) [10004, 10005, 20950, 20951, 20952, 20953, 21250, 21251, 21252, 21253, 10036, 10041, 10058, 10070, 10071] (hm := by kernel_rfl) (hs := by kernel_rfl) (hk := by kernel_rfl) (hQ := fun d v c a w h => by cases d <;> exact h) (h := ?_)
        refine q_rd rfl r_move ?_
        refine q_rd rfl r_move ?_
        refine q_rd rfl r_move ?_
        refine q_rd rfl (r_sliceL (j := k)) ?_
        refine q_rd rfl r_assign ?_
        refine q_rd rfl r_assign ?_
        refine q_rd rfl r_assign ?_
        refine s_nil ?_
        refine x_then ?_
        refine c_ret ?_
        refine k_conv 21250 (Res.rows (tailA Ab cb k 32) (cb - k) 24 hashEn (wb.drop k)) rfl (fun w h => rows_tail h (by omega)) (fun b hb => by rw [fp_rows] at hb ⊢; rw [← hb, obl_tailA]) ?_
        refine k_val 7 (vsl 1 (tailA Ab cb k 32) (wb.drop k).length (cb - k)) rfl (by rw [List.length_drop]; rfl) ?_
        refine k_ret [614, 21250] (.tup [.one (.sl 0 dnA dn.length dnC), .one (.sl 1 (tailA Ab cb k 32) (wb.drop k).length (cb - k)), .one (.b true)]) (.cons (.tmp rfl) (.cons (.tmp rfl) (.cons (.tmp rfl) .nil))) (h := ?_)
        have hdn : dn = (wa.drop k).reverse := by rw [hij0, List.reverse_drop, show j = wa.length - k by omega]
        refine ⟨dn, wb.drop k, true, dnA, dnC, _, _, .inl ⟨rfl, ?_⟩, by omega, by rw [List.length_drop]; omega, rfl, rfl⟩
        rw [pathOf_some hwa hwb, ← hkc, hdn]
theorem keep_keys {s : List (Hash × Bool × Nat)} {c : Nat} {ids : List Hash} {k : Nat} {y : Hash} (hy : ids[k]? = some y) (h : ∀ z, z ∈ s.map (·.1) ↔ z ∈ ids.take k) : ∀ z, z ∈ (mput s c y true).map (·.1) ↔ z ∈ ids.take (k + 1) := fun z => by
  rw [put_keys, h, take_get hy, List.mem_append, List.mem_singleton]
  exact ⟨fun h => h.symm, fun h => h.symm⟩
theorem AllT.put {s : List (Hash × Bool × Nat)} {c : Nat} {y : Hash} (h : AllT s) : AllT (mput s c y true) := fun x hx => by
  unfold mput at hx
  split at hx
  · revert hx
    generalize hs : mset s y true = s'
    intro hx
    have : ∀ (t : List (Hash × Bool × Nat)), AllT t → AllT (mset t y true) := by
      intro t
      induction t with
      | nil => intro _ x hx; exact absurd hx (by simp [mset])
      | cons e t ih =>
        intro ht x hx
        obtain ⟨k, v, b⟩ := e
        rw [mset] at hx
        split at hx
        · rcases List.mem_cons.1 hx with rfl | hx
          · rfl
          · exact ht x (List.mem_cons_of_mem _ hx)
        · rcases List.mem_cons.1 hx with rfl | hx
          · exact ht _ (List.mem_cons_self ..)
          · exact ih (fun x hx => ht x (List.mem_cons_of_mem _ hx)) x hx
    exact this s h x (by rw [hs]; exact hx)
  · rcases List.mem_append.1 hx with hx | hx
    · exact h x hx
    · rw [List.mem_singleton.1 hx]
structure RG (l : List LeafP) (h : Int) (dest : Hash) (k : Nat) (out : List Hash) : Prop where
  sorted : out.Pairwise hlt
  iff : ∀ y, y ∈ out ↔ ∃ x ∈ l.take k, x.id = y ∧ GoneP l h dest x
theorem RG.len {l : List LeafP} {h : Int} {dest : Hash} {k : Nat} {out : List Hash} (hi : RG l h dest k out) : out.length ≤ l.length := sorted_len hi.sorted fun y hy => by
  obtain ⟨x, hx, rfl, _⟩ := (hi.iff y).1 hy
  exact List.mem_map_of_mem (List.mem_of_mem_take hx)
theorem RG.yes {l : List LeafP} {h : Int} {dest : Hash} {k : Nat} {out r : List Hash} {x : LeafP} (hi : RG l h dest k out) (hx : l[k]? = some x) (hg : GoneP l h dest x) (hr : PutIs out x.id r) : RG l h dest (k + 1) r := by
  refine ⟨hr.sorted hi.sorted, fun y => ?_⟩
  rw [hr.mem, hi.iff, take_get hx]
  constructor
  · rintro (rfl | ⟨z, hz, h1, h2⟩)
    · exact ⟨x, by simp, rfl, hg⟩
    · exact ⟨z, List.mem_append_left _ hz, h1, h2⟩
  · rintro ⟨z, hz, h1, h2⟩
    rcases List.mem_append.1 hz with hz | hz
    · exact .inr ⟨z, hz, h1, h2⟩
    · rw [List.mem_singleton.1 hz] at h1; exact .inl h1.symm
theorem RG.no {l : List LeafP} {h : Int} {dest : Hash} {k : Nat} {out : List Hash} {x : LeafP} (hi : RG l h dest k out) (hx : l[k]? = some x) (hg : ¬ GoneP l h dest x) : RG l h dest (k + 1) out := by
  refine ⟨hi.sorted, fun y => ?_⟩
  rw [hi.iff, take_get hx]
  constructor
  · rintro ⟨z, hz, h1, h2⟩
    exact ⟨z, List.mem_append_left _ hz, h1, h2⟩
  · rintro ⟨z, hz, h1, h2⟩
    rcases List.mem_append.1 hz with hz | hz
    · exact ⟨z, hz, h1, h2⟩
    · rw [List.mem_singleton.1 hz] at h2; exact absurd h2 hg
theorem gone_dec {l : List LeafP} {h : Int} {dest : Hash} {s : List (Hash × Bool × Nat)} {ids : List Hash} {x : LeafP} (ha : AllT s) (hk : ∀ z, z ∈ s.map (·.1) ↔ z ∈ ids) (hd : ∀ y, y ∈ ids ↔ Desc l dest y) : (!(mlook s x.id).getD false && !((decide (x.mark = 1) || decide (x.mark = 4)) && decide (goneH l h dest < x.height))) = true ↔ GoneP l h dest x := by
  have e1 : (mlook s x.id).getD false = true ↔ Desc l dest x.id := by
    rw [← hd, ← hk]
    constructor
    · intro h; exact look_yes ha (by rw [h]; rfl)
    · intro h
      cases hl : (mlook s x.id).getD false with
      | true => rfl
      | false => exact absurd h (look_no ha (by rw [hl]; rfl))
  have e2 : looseL x = (decide (x.mark = 1) || decide (x.mark = 4)) := rfl
  unfold GoneP
  rw [← e1, e2]
  simp only [Bool.and_eq_true, Bool.not_eq_true', decide_eq_true_eq, Bool.and_eq_false_imp, decide_eq_false_iff_not, not_and, Bool.not_eq_true]
theorem rgone_spec (g : Nat) (root : Hash) (h : Int) (A : Option Addr) (c : Nat) (l : List LeafP) (dest : Hash) (hw : Wide64 l) (hok : NewOk root h l) : CSpec Tryz.prog 26 [.one (.ptr 0 ⟨g, 0, none⟩), .agg [.hash dest]] (mB g root h A c l) [] fun o L =>
    ∃ ids A c, GoneIs l root h dest ids ∧ o = .ret (vsl 0 A ids.length c) ∧ L = [Res.rows A c 24 hashEn ids] := by
  have h2 := hok.2.2.1
  refine k_enter Tryz.func26 rfl rfl (h := fun w0 => ?_)
  refine c_seq ?_
  refine c_region ?_
  refine l_do d_box (fun g3 => ?_)
  refine l_rd r_assign ?_
  refine l_nil ?_
  refine x_then ?_
  refine c_seq ?_
  refine c_seq ?_
  refine c_region ?_
  refine l_rd r_move ?_
  first | refine l_rd r_load ?_ | refine l_rd r_loadE ?_ | refine l_rd (r_loadT (hj := by omega)) ?_
  refine l_call 20850 [(100, 100)] (rstands_spec g root h A c l dest hw hok) Tryz.func24 (h := ?_)
  rintro _ _ (⟨rfl, rfl⟩)
  refine l_rd r_not ?_
  refine l_nil ?_
  refine x_then ?_
  first | refine c_ifd rfl (fun h18 => ?_) (fun h18 => ?_) | refine c_ifn rfl (fun h18 => ?_) (fun h18 => ?_) | refine c_if rfl (fun h18 => ?_) (fun h18 => ?_)
  · refine c_seq ?_
    refine c_region ?_
    refine l_rd r_assign ?_
    refine l_nil ?_
    refine x_then ?_
    refine c_ret ?_
    refine x_thenR ?_
    refine k_nil 704 24 hashEn ?_
    refine k_ret [704] (.s (.one (.sl 0 none 0 0))) (.cons (.tmp rfl) .nil) (h := ?_)
    exact ⟨[], none, 0, ⟨List.Pairwise.nil, Nat.zero_le _, by rw [if_neg (by simpa using h18)]⟩, rfl, rfl⟩
  · refine c_skip ?_
    refine x_then ?_
    refine c_seq ?_
    refine c_region ?_
    refine l_rd r_move ?_
    first | refine l_rd r_nilCheck ?_ | refine l_rd r_nilCheckF ?_
    first | refine l_rd r_field ?_ | refine l_rd r_fieldE ?_
    first | refine l_rd r_load ?_ | refine l_rd r_loadE ?_ | refine l_rd (r_loadT (hj := by omega)) ?_
    refine l_rd r_assign ?_
    refine l_nil ?_
    refine x_then ?_
    refine c_seq ?_
    refine c_region ?_
    refine l_rd r_move ?_
    first | refine l_rd r_load ?_ | refine l_rd r_loadE ?_ | refine l_rd (r_loadT (hj := by omega)) ?_
    refine l_call 21300 [(100, 100)] (rleaf_spec g root h A c l dest h2) Tryz.func38 (h := ?_)
    rintro _ _ (⟨rfl, rfl⟩)
    refine l_rd r_move ?_
    first | refine l_rd r_extract ?_ | refine l_rd r_extractN ?_
    refine l_rd r_extract ?_
    refine l_do d_alloc (fun g6 => ?_)
    first | refine l_do1 d_store ?_ | refine l_do1 d_storeE ?_
    refine l_rd r_assign ?_
    refine l_nil ?_
    refine x_then ?_
    refine c_seq ?_
    refine c_seq ?_
    refine c_region ?_
    refine l_rd r_move ?_
    refine l_nil ?_
    refine x_then ?_
    refine c_cutA (fun E H => E = [(5, vint (goneH l h dest))] ∧ H = []) [0, 1, 3, 6, 7, 8, 9, 10, 11, 12, 13, 14, 15, 16, 17, 18, 19, 20, 21, 22, 23, 24, 25, 26, 27, 28, 29, 32, 33, 34, 35, 36, 37, 38, 39, 40, 41, 42, 43, 44, 45, 46, 47, 48, 49, 50, 51, 52, 53, 54, 55, 56, 57, 58, 59, 60, 61, 62, 63, 64, 65, 66, 67, 68, 69, 70, 71, 72, 73, 74, 75, 76, 77, 78, 79, 80, 81, 82, 83, 84, 85, 86, 87, 88, 89, 90] [] rfl rfl ?_ ?_
    · first | refine c_ifd rfl (fun h29 => ?_) (fun h29 => ?_) | refine c_ifn rfl (fun h29 => ?_) (fun h29 => ?_) | refine c_if rfl (fun h29 => ?_) (fun h29 => ?_)
      · refine c_region ?_
        first | refine l_rd r_field ?_ | refine l_rd r_fieldE ?_
        first | refine l_rd r_load ?_ | refine l_rd r_loadE ?_ | refine l_rd (r_loadT (hj := by omega)) ?_
        refine l_rd r_assign ?_
        refine l_nil ?_
        refine x_then ?_
        first | refine k_val 5 (vint (goneH l h dest)) rfl (den_int (goneH_t h29).symm) ?_ | refine k_val 5 (vint (goneH l h dest)) rfl (den_int (goneH_f h29).symm) ?_
        refine k_join (⟨rfl, rfl⟩) (by repeat (first | exact trivial | refine ⟨⟨_, rfl, (by first | rfl | exact den_int (by omega))⟩, ?_⟩)) (by repeat (first | exact trivial | refine ⟨rfl, ?_⟩))
      · refine c_skip ?_
        refine x_then ?_
        first | refine k_val 5 (vint (goneH l h dest)) rfl (den_int (goneH_t h29).symm) ?_ | refine k_val 5 (vint (goneH l h dest)) rfl (den_int (goneH_f h29).symm) ?_
        refine k_join (⟨rfl, rfl⟩) (by repeat (first | exact trivial | refine ⟨⟨_, rfl, (by first | rfl | exact den_int (by omega))⟩, ?_⟩)) (by repeat (first | exact trivial | refine ⟨rfl, ?_⟩))
    · rintro _ _ (⟨rfl, rfl⟩)
      refine x_then ?_
      refine c_seq ?_
      refine c_region ?_
      refine l_do (d_makeMap hashEn boolEn) (fun g32 => ?_)
      refine l_rd r_assign ?_
      refine l_nil ?_
      refine x_then ?_
      refine c_seq ?_
      refine c_region ?_
      refine l_rd r_move ?_
      first | refine l_rd r_load ?_ | refine l_rd r_loadE ?_ | refine l_rd (r_loadT (hj := by omega)) ?_
      refine l_call 21750 [(100, 100)] (rbehind_spec g root h A c l dest h2) Tryz.func25 (h := ?_)
      rintro _ _ (⟨ids, Ai, ci, hsort, hidl, hdesc, rfl, rfl⟩)
      refine l_rd r_assign ?_
      refine l_nil ?_
      refine x_then ?_
      refine c_seq ?_
      refine c_seq ?_
      refine c_region ?_
      refine l_rd r_assign ?_
      refine l_nil ?_
      refine x_then ?_
      refine c_block ?_
      refine c_loopA (fun m E H => ∃ (k : Nat) (s : List (Hash × Bool × Nat)) (c0 : Nat), E = [(10, vint (((k : Nat) : Int)))] ∧ H = [(10032, Res.mp g32 hashEn boolEn s c0)] ∧ m = ids.length - k ∧ k ≤ ids.length ∧ (MWf s c0) ∧ (AllT s) ∧ (∀ z, z ∈ s.map (·.1) ↔ z ∈ ids.take k)) [0, 1, 3, 5, 6, 7, 8, 9, 11, 12, 13, 14, 15, 16, 17, 18, 19, 20, 21, 22, 23, 24, 25, 26, 27, 28, 29, 30, 31, 32, 33, 34, 35, 47, 48, 49, 50, 51, 52, 53, 54, 55, 56, 57, 58, 59, 60, 61, 62, 63, 64, 65, 66, 67, 68, 69, 70, 71, 72, 73, 74, 75, 76, 77, 78, 79, 80, 81, 82, 83, 84, 85, 86, 87, 88, 89, 90]  (ids.length) ([(10, vint (((0 : Nat) : Int)))]) ([(10032, Res.mp g32 hashEn boolEn ([]) (0))]) rfl rfl (⟨0, [], 0, rfl, rfl, by omega, by omega, MWf.nil, (by intro x hx; cases hx), (by simp)⟩) (by repeat (first | exact trivial | refine ⟨⟨_, rfl, (by first | rfl | exact den_int (by omega))⟩, ?_⟩)) (by repeat (first | exact trivial | refine ⟨rfl, ?_⟩)) rfl (fun _ _ _ hI => ?_)
      obtain ⟨k, s, c0, rfl, rfl, hmk, hk, hik0, hik1, hik2⟩ := hI
      refine c_seq ?_
      refine c_seq ?_
      refine c_region ?_
      refine l_rd r_move ?_
      refine l_rd r_move ?_
      refine l_rd r_len ?_
      refine l_rd r_lss ?_
      refine l_nil ?_
      refine x_then ?_
      first | refine c_ifd rfl (fun h39 => ?_) (fun h39 => ?_) | refine c_ifn rfl (fun h39 => ?_) (fun h39 => ?_) | refine c_if rfl (fun h39 => ?_) (fun h39 => ?_)
      · refine c_skip ?_
        refine x_then ?_
        refine c_seq ?_
        refine c_block ?_
        refine c_region ?_
        refine l_rd r_move ?_
        refine l_rd r_move ?_
        refine l_rd r_move ?_
        first | refine l_ix (fun ad45 y45 hA45 h45 => ?_) | refine l_rd (r_indexT (hj := by omega)) ?_
        first | refine l_rd r_load ?_ | refine l_rd r_loadE ?_ | refine l_rd (r_loadT (hj := by omega)) ?_
        refine l_do1 (d_mapUpdate) ?_
        refine l_nil ?_
        refine x_in (x_then ?_)
        refine c_region ?_
        refine l_rd r_move ?_
        first | refine l_rd r_add ?_ | refine l_rd r_addW ?_
        refine l_rd r_assign ?_
        refine l_nil ?_
        refine x_then ?_
        refine k_again (ids.length - (k + 1)) ⟨k + 1, mput s c0 y45 true, mclk s c0 y45, rfl, rfl, by omega, by omega, hik0.put _ _, hik1.put, keep_keys h45 hik2⟩ (by omega) (by repeat (first | exact trivial | refine ⟨⟨_, rfl, (by first | rfl | exact den_int (by omega))⟩, ?_⟩)) (by repeat (first | exact trivial | refine ⟨rfl, ?_⟩))
      · refine c_exit ?_
        refine x_thenE (x_thenE (x_inE (x_then ?_)))
        refine c_seq ?_
        refine c_region ?_
        refine l_rd r_assign ?_
        refine l_nil ?_
        refine x_then ?_
        refine c_seq ?_
        refine c_seq ?_
        refine c_region ?_
        refine l_rd r_assign ?_
        refine l_nil ?_
        refine x_then ?_
        refine c_block ?_
        rw [List.take_of_length_le (by omega)] at hik2
        refine k_nil 611 24 hashEn ?_
        refine c_loopA (fun m E H => ∃ (j : Nat) (out : List Hash) (A11 : Option Addr) (c11 : Nat), E = [(12, vint j), (11, vsl 611 A11 out.length c11)] ∧ H = [(611, Res.rows A11 c11 24 hashEn out)] ∧ m = l.length - j ∧ j ≤ l.length ∧ RG l h dest j out) [0, 1, 3, 5, 6, 7, 8, 9, 10, 15, 16, 17, 18, 19, 20, 21, 22, 23, 24, 25, 26, 27, 28, 29, 30, 31, 32, 33, 34, 35, 36, 37, 38, 39, 40, 41, 42, 43, 44, 45, 46, 90]  (l.length) ([(12, vint (0 : Nat)), (11, vsl 611 none 0 0)]) ([(611, Res.rows none 0 24 hashEn [])]) rfl rfl (⟨0, [], none, 0, rfl, rfl, rfl, Nat.zero_le _, ⟨List.Pairwise.nil, by simp⟩⟩) (by repeat (first | exact trivial | refine ⟨⟨_, rfl, (by first | rfl | exact den_int (by omega))⟩, ?_⟩)) (by repeat (first | exact trivial | refine ⟨rfl, ?_⟩)) rfl (fun _ _ _ hI => ?_)
        obtain ⟨j, out, A11, c11, rfl, rfl, rfl, hj, hi⟩ := hI
        refine c_seq ?_
        refine c_seq ?_
        refine c_region ?_
        refine l_rd r_move ?_
        refine l_rd r_move ?_
        first | refine l_rd r_nilCheck ?_ | refine l_rd r_nilCheckF ?_
        first | refine l_rd r_field ?_ | refine l_rd r_fieldE ?_
        first | refine l_rd r_load ?_ | refine l_rd r_loadE ?_ | refine l_rd (r_loadT (hj := by omega)) ?_
        refine l_rd r_len ?_
        refine l_rd r_lss ?_
        refine l_nil ?_
        refine x_then ?_
        first | refine c_ifd rfl (fun h53 => ?_) (fun h53 => ?_) | refine c_ifn rfl (fun h53 => ?_) (fun h53 => ?_) | refine c_if rfl (fun h53 => ?_) (fun h53 => ?_)
        · have hol := hi.len
          refine c_skip ?_
          refine x_then ?_
          refine c_seq ?_
          refine c_block ?_
          refine c_seq ?_
          refine c_region ?_
          refine l_rd r_move ?_
          first | refine l_rd r_nilCheck ?_ | refine l_rd r_nilCheckF ?_
          first | refine l_rd r_field ?_ | refine l_rd r_fieldE ?_
          first | refine l_rd r_load ?_ | refine l_rd r_loadE ?_ | refine l_rd (r_loadT (hj := by omega)) ?_
          refine l_rd r_move ?_
          first | refine l_ix (fun ad61 y61 hA61 h61 => ?_) | refine l_rd (r_indexT (hj := by omega)) ?_
          first | refine l_rd r_load ?_ | refine l_rd r_loadE ?_ | refine l_rd (r_loadT (hj := by omega)) ?_
          refine l_do d_alloc (fun g13 => ?_)
          first | refine l_do1 d_store ?_ | refine l_do1 d_storeE ?_
          refine l_nil ?_
          refine x_then ?_
          refine c_seq ?_
          refine c_region ?_
          first | refine l_rd r_field ?_ | refine l_rd r_fieldE ?_
          first | refine l_rd r_load ?_ | refine l_rd r_loadE ?_ | refine l_rd (r_loadT (hj := by omega)) ?_
          refine l_rd r_eql ?_
          refine l_rd r_move ?_
          first | refine l_rdG [] rfl (fun hg => r_field) ?_ | refine l_rdG [] rfl (fun hg => r_fieldE) ?_
          first | refine l_rdG [67] ⟨_, _, ⟨_, .inl ⟨rfl, rfl⟩⟩, rfl, rfl⟩ (fun hg => r_load) ?_ | refine l_rdG [67] ⟨_, _, ⟨_, .inl ⟨rfl, rfl⟩⟩, rfl, rfl⟩ (fun hg => r_loadE) ?_ | refine l_rdG [67] ⟨_, _, ⟨_, .inl ⟨rfl, rfl⟩⟩, rfl, rfl⟩ (fun hg => (r_loadT (hj := (by first | omega | (have hgg := hg; simp only [cond_true, cond_false, Bool.and_eq_true, Bool.or_eq_true, Bool.not_eq_true', Bool.not_eq_false', Bool.and_eq_false_imp, Bool.or_eq_false_iff, decide_eq_true_eq, decide_eq_false_iff_not] at hgg; omega))))) ?_
          refine l_rdG [68] ⟨_, _, ⟨_, .inl ⟨rfl, rfl⟩⟩, rfl, rfl⟩ (fun hg => r_eql) ?_
          first | refine l_rd r_or ?_ | refine l_rd r_pickB ?_ | refine l_rd r_pick ?_
          refine l_rd r_assign ?_
          refine l_nil ?_
          refine x_then ?_
          refine c_seq ?_
          refine c_region ?_
          refine l_rd r_move ?_
          first | refine l_rd r_field ?_ | refine l_rd r_fieldE ?_
          first | refine l_rd r_load ?_ | refine l_rd r_loadE ?_ | refine l_rd (r_loadT (hj := by omega)) ?_
          first | refine l_rd r_lookup1 ?_ | refine l_rd r_lookup1N ?_
          refine l_rd r_not ?_
          refine l_rd r_move ?_
          refine l_rdG [] rfl (fun hg => r_move) ?_
          refine l_rdG [77] ⟨_, _, ⟨_, .inl ⟨rfl, rfl⟩⟩, rfl, rfl⟩ (fun hg => r_move) ?_
          first | refine l_rdG [] rfl (fun hg => r_field) ?_ | refine l_rdG [] rfl (fun hg => r_fieldE) ?_
          first | refine l_rdG [79] ⟨_, _, ⟨_, .inl ⟨rfl, rfl⟩⟩, rfl, rfl⟩ (fun hg => r_load) ?_ | refine l_rdG [79] ⟨_, _, ⟨_, .inl ⟨rfl, rfl⟩⟩, rfl, rfl⟩ (fun hg => r_loadE) ?_ | refine l_rdG [79] ⟨_, _, ⟨_, .inl ⟨rfl, rfl⟩⟩, rfl, rfl⟩ (fun hg => (r_loadT (hj := (by first | omega | (have hgg := hg; simp only [cond_true, cond_false, Bool.and_eq_true, Bool.or_eq_true, Bool.not_eq_true', Bool.not_eq_false', Bool.and_eq_false_imp, Bool.or_eq_false_iff, decide_eq_true_eq, decide_eq_false_iff_not] at hgg; omega))))) ?_
          refine l_rdG [] rfl (fun hg => r_move) ?_
          refine l_rdG [80, 81] ⟨_, _, ⟨_, .inl ⟨rfl, rfl⟩⟩, ⟨_, _, ⟨_, .inl ⟨rfl, rfl⟩⟩, rfl, rfl⟩, rfl⟩ (fun hg => r_gtr) ?_
          first | refine l_rdG [78, 82] ⟨_, _, ⟨_, .inl ⟨rfl, rfl⟩⟩, ⟨_, _, ⟨_, .inr ⟨_, rfl, rfl⟩⟩, rfl, rfl⟩, rfl⟩ (fun hg => r_and) ?_ | refine l_rdG [78, 82] ⟨_, _, ⟨_, .inl ⟨rfl, rfl⟩⟩, ⟨_, _, ⟨_, .inr ⟨_, rfl, rfl⟩⟩, rfl, rfl⟩, rfl⟩ (fun hg => r_pickB) ?_ | refine l_rdG [78, 82] ⟨_, _, ⟨_, .inl ⟨rfl, rfl⟩⟩, ⟨_, _, ⟨_, .inr ⟨_, rfl, rfl⟩⟩, rfl, rfl⟩, rfl⟩ (fun hg => r_pick) ?_
          refine l_rdG [83] ⟨_, _, ⟨_, .inl ⟨rfl, rfl⟩⟩, rfl, rfl⟩ (fun hg => r_not) ?_
          first | refine l_rd r_and ?_ | refine l_rd r_pickB ?_ | refine l_rd r_pick ?_
          refine l_nil ?_
          refine x_then ?_
          first | refine c_ifd rfl (fun h85 => ?_) (fun h85 => ?_) | refine c_ifn rfl (fun h85 => ?_) (fun h85 => ?_) | refine c_if rfl (fun h85 => ?_) (fun h85 => ?_)
          · refine c_region ?_
            refine l_rd r_move ?_
            first | refine l_rd r_field ?_ | refine l_rd r_fieldE ?_
            first | refine l_rd r_load ?_ | refine l_rd r_loadE ?_ | refine l_rd (r_loadT (hj := by omega)) ?_
            refine k_fact (p := out.length ≤ c11) (fun w hf => rows_cap (hf 611 _ rfl)) (fun hc11 => ?_)
            refine l_call 24450 [] (put_spec A11 out c11 y61.id (by omega) hc11) Tryz.func42 (h := ?_)
            rintro _ _ (⟨r, Ar, cr, hr, rfl, rfl⟩)
            refine l_rd r_assign ?_
            refine l_nil ?_
            refine x_in (x_then ?_)
            refine c_region ?_
            refine l_rd r_move ?_
            first | refine l_rd r_add ?_ | refine l_rd r_addW ?_
            refine l_rd r_assign ?_
            refine l_nil ?_
            refine x_then ?_
            first | refine k_ren 24450 611 rfl ?_ | skip
            refine k_again (l.length - (j + 1)) (by first | exact ⟨j + 1, r, Ar, cr, rfl, rfl, rfl, by omega, hi.yes h61 ((gone_dec hik1 hik2 hdesc).1 h85) hr⟩ | exact ⟨j + 1, out, A11, c11, rfl, rfl, rfl, by omega, hi.no h61 (fun hg => by have := (gone_dec hik1 hik2 hdesc).2 hg; rw [h85] at this; cases this)⟩) (by omega) (by repeat (first | exact trivial | refine ⟨⟨_, rfl, (by first | rfl | exact den_int (by omega))⟩, ?_⟩)) (by repeat (first | exact trivial | refine ⟨rfl, ?_⟩))
          · refine c_skip ?_
            refine x_in (x_then ?_)
            refine c_region ?_
            refine l_rd r_move ?_
            first | refine l_rd r_add ?_ | refine l_rd r_addW ?_
            refine l_rd r_assign ?_
            refine l_nil ?_
            refine x_then ?_
            first | refine k_ren 24450 611 rfl ?_ | skip
            refine k_again (l.length - (j + 1)) (by first | exact ⟨j + 1, r, Ar, cr, rfl, rfl, rfl, by omega, hi.yes h61 ((gone_dec hik1 hik2 hdesc).1 h85) hr⟩ | exact ⟨j + 1, out, A11, c11, rfl, rfl, rfl, by omega, hi.no h61 (fun hg => by have := (gone_dec hik1 hik2 hdesc).2 hg; rw [h85] at this; cases this)⟩) (by omega) (by repeat (first | exact trivial | refine ⟨⟨_, rfl, (by first | rfl | exact den_int (by omega))⟩, ?_⟩)) (by repeat (first | exact trivial | refine ⟨rfl, ?_⟩))
        · refine c_exit ?_
          refine x_thenE (x_thenE (x_inE (x_then ?_)))
          refine c_seq ?_
          refine c_region ?_
          refine l_rd r_move ?_
          refine l_rd r_assign ?_
          refine l_nil ?_
          refine x_then ?_
          refine c_ret ?_
          refine k_ret [611] (.s (.one (.sl 0 A11 out.length c11))) (.cons (.tmp rfl) .nil) (h := ?_)
          have hii := hi.iff
          rw [List.take_of_length_le (by omega)] at hii
          exact ⟨out, A11, c11, ⟨hi.sorted, hi.len, by rw [if_pos (by simpa using h18)]; exact hii⟩, rfl, rfl⟩
theorem turned_spec (A : Option Addr) (l : List LeafP) (c : Nat) (hl : l.length ≤ 1048576) : CSpec Tryz.prog 11 [.one (.sl 0 A l.length c)] [(0, Res.rd A leafEn l)] [] fun o L =>
    ∃ A c, l.length ≤ c ∧ o = .ret (vsl 0 A l.length c) ∧ L = [Res.rows A c 59 leafEn l] := by
  refine k_enter Tryz.func11 rfl rfl (h := fun w0 => ?_)
  refine c_seq ?_
  refine c_region ?_
  refine l_rd r_assign ?_
  refine l_nil ?_
  refine x_then ?_
  refine c_seq ?_
  refine c_region ?_
  refine l_rd r_assign ?_
  refine l_nil ?_
  refine x_then ?_
  refine c_seq ?_
  refine c_seq ?_
  refine c_region ?_
  refine l_rd r_assign ?_
  refine l_nil ?_
  refine x_then ?_
  refine c_block ?_
  refine k_nil 603 59 leafEn ?_
  refine c_loopA (fun m E H => ∃ (k : Nat) (acc : List LeafP) (accA : Option Addr) (accC : Nat), E = [(4, vint (((k : Nat) : Int))), (3, vsl 603 accA acc.length accC)] ∧ H = [(603, Res.rows accA accC 59 leafEn acc)] ∧ m = l.length - k ∧ k ≤ l.length ∧ (acc = l.take k) ∧ (acc.length = k)) [0, 35]  (l.length) ([(4, vint (((0 : Nat) : Int))), (3, vsl 603 (none) ([]).length (0))]) ([(603, Res.rows (none) (0) 59 leafEn ([]))]) rfl rfl (⟨0, [], none, 0, rfl, rfl, by omega, by omega, rfl, rfl⟩) (by repeat (first | exact trivial | refine ⟨⟨_, rfl, (by first | rfl | exact den_int (by omega))⟩, ?_⟩)) (by repeat (first | exact trivial | refine ⟨rfl, ?_⟩)) rfl (fun _ _ _ hI => ?_)
  obtain ⟨k, acc, accA, accC, rfl, rfl, hmk, hk, hik0, hik1⟩ := hI
  refine c_seq ?_
  refine c_seq ?_
  refine c_region ?_
  refine l_rd r_move ?_
  refine l_rd r_move ?_
  refine l_rd r_len ?_
  refine l_rd r_lss ?_
  refine l_nil ?_
  refine x_then ?_
  first | refine c_ifd rfl (fun h8 => ?_) (fun h8 => ?_) | refine c_ifn rfl (fun h8 => ?_) (fun h8 => ?_) | refine c_if rfl (fun h8 => ?_) (fun h8 => ?_)
  · refine c_skip ?_
    refine x_then ?_
    refine c_seq ?_
    refine c_block ?_
    refine c_draw (.q 0 (.q 1 (.q 2 (.q 3 (.q 4 (.q 5 (.q 6 (.q 7 (.q 8 (.q 9 (.q 10 (.q 11 (.q 12 (.q 13 (.q 14 (.q 15 (.q 16 (.q 17 (.q 18 (.q 19 (.q 20 (.q 21 (.s 22 (.s 23 (.q 24 .nil))))))))))))))))))))))))) [] (hm := by kernel_rfl) (hs := by kernel_rfl) (hk := by kernel_rfl) (hQ := fun d v c a w h => by cases d <;> exact h) (h := ?_)
    refine q_rd rfl r_move ?_
    refine q_rd rfl r_move ?_
    refine q_rd rfl r_move ?_
    first | refine q_ix rfl (fun ad14 y14 hA14 h14 => ?_) | refine q_rd rfl (r_indexT (hj := by omega)) ?_
    first | refine q_rd rfl r_field ?_ | refine q_rd rfl r_fieldE ?_
    first | refine q_rd rfl r_load ?_ | refine q_rd rfl r_loadE ?_ | refine q_rd rfl (r_loadT (hj := by omega)) ?_
    refine q_rd rfl r_move ?_
    refine q_rd rfl r_move ?_
    first | refine q_ix rfl (fun ad19 y19 hA19 h19 => ?_) | refine q_rd rfl (r_indexT (hj := by omega)) ?_
    first | refine q_rd rfl r_field ?_ | refine q_rd rfl r_fieldE ?_
    first | refine q_rd rfl r_load ?_ | refine q_rd rfl r_loadE ?_ | refine q_rd rfl (r_loadT (hj := by omega)) ?_
    refine q_rd rfl r_move ?_
    refine q_rd rfl r_move ?_
    first | refine q_ix rfl (fun ad24 y24 hA24 h24 => ?_) | refine q_rd rfl (r_indexT (hj := by omega)) ?_
    first | refine q_rd rfl r_field ?_ | refine q_rd rfl r_fieldE ?_
    first | refine q_rd rfl r_load ?_ | refine q_rd rfl r_loadE ?_ | refine q_rd rfl (r_loadT (hj := by omega)) ?_
    refine q_rd rfl r_move ?_
    refine q_rd rfl r_move ?_
    first | refine q_ix rfl (fun ad29 y29 hA29 h29 => ?_) | refine q_rd rfl (r_indexT (hj := by omega)) ?_
    first | refine q_rd rfl r_field ?_ | refine q_rd rfl r_fieldE ?_
    first | refine q_rd rfl r_load ?_ | refine q_rd rfl r_loadE ?_ | refine q_rd rfl (r_loadT (hj := by omega)) ?_
    refine q_rd rfl r_build ?_
    obtain rfl := opt_eq h14 h19
    obtain rfl := opt_eq h14 h24
    obtain rfl := opt_eq h14 h29
    refine s_do rfl (d_bslice [y14]) (fun B33 => ?_)
    refine s_do rfl d_append (fun p34 => ?_)
    refine q_rd rfl r_assign ?_
    refine s_nil ?_
    refine x_in (x_then ?_)
    refine c_region ?_
    refine l_rd r_move ?_
    first | refine l_rd r_add ?_ | refine l_rd r_addW ?_
    refine l_rd r_assign ?_
    refine l_nil ?_
    refine x_then ?_
    refine k_again (l.length - (k + 1)) ⟨k + 1, acc ++ [y14], p34.1, p34.2, rfl, rfl, by omega, by omega, by rw [hik0, ← take_get h14], by rw [List.length_append, hik1]; rfl⟩ (by omega) (by repeat (first | exact trivial | refine ⟨⟨_, rfl, (by first | rfl | exact den_int (by omega))⟩, ?_⟩)) (by repeat (first | exact trivial | refine ⟨rfl, ?_⟩))
  · refine c_exit ?_
    refine x_thenE (x_thenE (x_inE (x_then ?_)))
    refine c_seq ?_
    refine c_region ?_
    refine l_rd r_move ?_
    refine l_rd r_assign ?_
    refine l_nil ?_
    refine x_then ?_
    refine c_ret ?_
    obtain rfl : l = acc := by rw [hik0, List.take_of_length_le (by omega)]
    refine k_fact (p := l.length ≤ accC) (fun w hf => rows_cap (hf 603 _ rfl)) (fun hcap => ?_)
    refine k_ret [603] (.s (.one (.sl 0 accA l.length accC))) (.cons (.tmp rfl) .nil) (h := ?_)
    exact ⟨accA, accC, hcap, rfl, rfl⟩
theorem made_spec (g gl gk : Nat) (xs : List (Hash × KV × Nat)) (root : Hash) (h : Int) (l : List LeafP) : CSpec Tryz.prog 28 [.one (.ptr 0 ⟨g, 0, none⟩)] [(0, treeR g gl gk xs root h l)] [] fun o L => o = .ret (vb true) ∧ L = [] :=
  cspec_of fun w hB => (made_calls g gl gk root h w (treeR_get (hB 0 _ rfl) _ (by unfold treeL; exact List.mem_cons_self ..))).mono fun e w' ⟨h1, h2⟩ => ⟨.ret (vb true), [], h1.symm, ⟨rfl, rfl⟩, h2⟩
theorem pbehind_spec (g gl gk : Nat) (xs : List (Hash × KV × Nat)) (root : Hash) (h : Int) (l : List LeafP) (dest : Hash) (hks : KidsOf xs l) (hok : NewOk root h l) : CSpec Tryz.prog 21 [.one (.ptr 0 ⟨g, 0, none⟩), .agg [.hash dest]] [(0, treeR g gl gk xs root h l)] [] fun o L =>
    ∃ ids A c, ids.Pairwise hlt ∧ ids.length ≤ l.length ∧ (∀ y, y ∈ ids ↔ Desc l dest y) ∧ o = .ret (vsl 0 A ids.length c) ∧ L = [Res.rows A c 24 hashEn ids] := by
  have h3000 := hok.2.2.1
  refine k_enter Tryz.func21 rfl rfl (h := fun w0 => ?_)
  refine c_seq ?_
  refine k_part 0 900 (treeR g gl gk xs root h l) rfl (View.refl _) ?_
  refine k_part 900 101 (kidsR gk xs) rfl (tree_kidsR g gl gk xs root h l) ?_
  refine k_part 900 0 (Res.va g 50 [.one (.mp 100 gl), .one (.mp 101 gk), .hash root, .one (.i .i64 h)]) rfl (tree_va g gl gk xs root h l) ?_
  refine c_region ?_
  refine l_do d_box (fun g3 => ?_)
  refine l_rd r_assign ?_
  refine l_nil ?_
  refine x_then ?_
  refine c_seq ?_
  refine c_seq ?_
  refine c_region ?_
  refine l_rd r_move ?_
  refine l_call 20300 [(0, 900)] (made_spec g gl gk xs root h l) Tryz.func28 (h := ?_)
  rintro _ _ (⟨rfl, rfl⟩)
  refine l_rd r_not ?_
  refine l_nil ?_
  refine x_then ?_
  refine c_false rfl ?_
  refine c_skip ?_
  refine x_then ?_
  refine c_seq ?_
  refine c_draw (.q 0 (.q 1 (.q 2 (.q 3 (.q 4 (.s 5 (.s 6 (.q 7 .nil)))))))) [10003, 20300, 20301, 20302, 20303, 20650, 20651, 20652, 20653, 20700, 20701, 20702, 20703] (hm := by kernel_rfl) (hs := by kernel_rfl) (hk := by kernel_rfl) (hQ := fun d v c a w h => by cases d <;> exact h) (h := ?_)
  refine q_rd rfl r_move ?_
  first | refine q_rd rfl r_nilCheck ?_ | refine q_rd rfl r_nilCheckF ?_
  first | refine q_rd rfl r_field ?_ | refine q_rd rfl r_fieldE ?_
  first | refine q_rd rfl r_load ?_ | refine q_rd rfl r_loadE ?_ | refine q_rd rfl (r_loadT (hj := by omega)) ?_
  first | refine q_rd rfl r_load ?_ | refine q_rd rfl r_loadE ?_ | refine q_rd rfl (r_loadT (hj := by omega)) ?_
  refine s_call rfl 20650 [] (behind_spec gl gk xs l dest hks hok.2.2.1) Tryz.func40 (h := ?_)
  rintro _ _ (⟨gb, sb, cb, hbe, rfl, rfl⟩)
  refine ⟨cov_of (by repeat (first | exact trivial | refine ⟨rfl, ?_⟩)), ?_⟩
  refine s_call rfl 20700 [] (rising_spec gb cb _ sb mapOf_mp hbe.wf (by have := hbe.few; omega)) Tryz.func39 (h := ?_)
  rintro _ _ (⟨A, c, rfl, rfl⟩)
  refine ⟨cov_of (by repeat (first | exact trivial | refine ⟨rfl, ?_⟩)), ?_⟩
  refine q_rd rfl r_assign ?_
  refine s_nil ?_
  refine x_then ?_
  refine c_ret ?_
  refine k_ret [20700] (.s (.one (.sl 0 A sb.length c))) (.cons (.tmp rfl) .nil) (h := ?_)
  have e : (sortH (sb.map (·.1))).length = sb.length := by rw [(sortH_perm _).length_eq, List.length_map]
  exact ⟨sortH (sb.map (·.1)), A, c, sortH_lt hbe.wf.keys, by rw [e]; exact hbe.few, fun y => by rw [(sortH_perm _).mem_iff, hbe.iff], by rw [e], rfl⟩
end Go.Proofs.YtehhnfpfefccaaaGreat
/- The reference: Best. -/

set_option linter.unusedVariables false
set_option linter.unusedSimpArgs false
set_option maxRecDepth 100000
set_option maxHeartbeats 8000000
namespace Go.Proofs.YtehhnfpfefccaaaGreat
open Go Go.RowKit HL
structure RBest (l : List LeafP) (root : Hash) (h : Int) (k : Nat) (b : Hash) (hh : Int) : Prop where
  mem : b = root ∧ hh = h ∨ ∃ x ∈ l.take k, x.id = b ∧ x.height = hh ∧ (wayOf l root h x.id).isSome = true
  most : ∀ x ∈ l.take k, (wayOf l root h x.id).isSome = true → x.height ≤ hh ∧ (x.height = hh → ¬ hlt x.id b)
theorem RBest.start (l : List LeafP) (root : Hash) (h : Int) : RBest l root h 0 root h := ⟨.inl ⟨rfl, rfl⟩, by simp⟩
theorem stands_high {l : List LeafP} {root : Hash} {h : Int} (hok : NewOk root h l) {x : LeafP} (hx : x ∈ l) (hs : (wayOf l root h x.id).isSome = true) : h < x.height := by
  obtain ⟨n, hn⟩ := (stands_iff hok x.id).1 hs
  cases n with
  | zero =>
    have : x.id = root := by simpa [lev] using hn
    exact absurd this (hok.2.2.2.2 x hx)
  | succ n =>
    have := (lev_ok hn hok.2.2.2.1).2.1
    rw [leafOf_id hok.2.2.2.1 hx] at this
    omega
theorem RBest.step {l : List LeafP} {root : Hash} {h : Int} {k : Nat} {b : Hash} {hh : Int} {x : LeafP} (hi : RBest l root h k b hh) (hx : l[k]? = some x) :
    (((wayOf l root h x.id).isSome && (decide (hh < x.height) || decide (x.height = hh) && decide (hlt x.id b))) = true → RBest l root h (k + 1) x.id x.height) ∧
    (((wayOf l root h x.id).isSome && (decide (hh < x.height) || decide (x.height = hh) && decide (hlt x.id b))) = false → RBest l root h (k + 1) b hh) := by
  constructor
  · intro hc
    simp only [Bool.and_eq_true, Bool.or_eq_true, decide_eq_true_eq] at hc
    refine ⟨.inr ⟨x, by rw [take_get hx]; simp, rfl, rfl, hc.1⟩, fun y hy hs => ?_⟩
    rw [take_get hx] at hy
    rcases List.mem_append.1 hy with hy | hy
    · have := hi.most y hy hs
      rcases hc.2 with h1 | ⟨h1, h2⟩
      · exact ⟨by omega, fun e => by omega⟩
      · exact ⟨by omega, fun e h3 => this.2 (by omega) (hlt_trans h3 h2)⟩
    · rw [List.mem_singleton.1 hy]
      exact ⟨Int.le_refl _, fun _ h3 => hlt_irrefl _ h3⟩
  · intro hc
    refine ⟨hi.mem.imp id fun ⟨y, hy, h1⟩ => ⟨y, by rw [take_get hx]; exact List.mem_append_left _ hy, h1⟩, fun y hy hs => ?_⟩
    rw [take_get hx] at hy
    rcases List.mem_append.1 hy with hy | hy
    · exact hi.most y hy hs
    · rw [List.mem_singleton.1 hy] at hs ⊢
      rw [hs, Bool.true_and] at hc
      simp only [Bool.or_eq_false_iff, Bool.and_eq_false_imp, decide_eq_false_iff_not, decide_eq_true_eq] at hc
      exact ⟨by omega, fun e => hc.2 e⟩
theorem RBest.is {l : List LeafP} {root : Hash} {h : Int} {k : Nat} {b b' : Hash} {hh hh' : Int} (hok : NewOk root h l) (hi : RBest l root h k b hh) (hk : l.length ≤ k) (hb : BestIs l root h b' hh') : b' = b ∧ hh' = hh := by
  have hm := hi.most
  rw [List.take_of_length_le hk] at hm
  have hmem := hi.mem
  rw [List.take_of_length_le hk] at hmem
  have hs := best_stands hok hb
  -- the program's best is the root or a leaf
  by_cases hr : b' = root
  · have hh0 := best_root hok hb hr
    rcases hmem with ⟨h1, h2⟩ | ⟨x, hx, h1, h2, h3⟩
    · exact ⟨hr.trans h1.symm, hh0.trans h2.symm⟩
    · have h4 := (best_most hok hb hx h3).1
      have h5 := stands_high hok hx h3
      omega
  · obtain ⟨n, hn, hhn, _, _⟩ := best_mem hb
    cases n with
    | zero => exact absurd (by simpa [lev] using hn) hr
    | succ n =>
      have hl := lev_ok hn hok.2.2.2.1
      have hx' := hl.2.2.2.1
      have hid := hl.2.2.2.2
      have h6 := hm (leafOf l b') hx' (by rw [hid]; exact hs)
      rw [hid] at h6
      have h7 : (leafOf l b').height = hh' := by rw [hl.2.1, hhn]; omega
      rcases hmem with ⟨h1, h2⟩ | ⟨x, hx, h1, h2, h3⟩
      · have := stands_high hok hx' (by rw [hid]; exact hs)
        omega
      · have h4 := best_most hok hb hx h3
        have e : hh' = hh := by omega
        refine ⟨?_, e⟩
        rcases hlt_tri b' b with h8 | h8 | h8
        · exact absurd h8 (h6.2 (by omega))
        · exact h8
        · exact absurd (by rw [h1]; exact h8) (h4.2 (by omega))
theorem rbest_spec (g : Nat) (root : Hash) (h : Int) (A : Option Addr) (c : Nat) (l : List LeafP) (hw : Wide64 l) (hok : NewOk root h l) : CSpec Tryz.prog 17 [.one (.ptr 0 ⟨g, 0, none⟩)] (mB g root h A c l) [] fun o L =>
    ∃ b hh, RBest l root h l.length b hh ∧ o = .ret (.tup [.agg [.hash b], .one (.i .i64 hh)]) ∧ L = [] := by
  have h2 := hok.2.2.1
  refine k_enter Tryz.func17 rfl rfl (h := fun w0 => ?_)
  refine c_seq ?_
  refine c_region ?_
  refine l_do d_alloc (fun g2 => ?_)
  refine l_rd r_assign ?_
  refine l_nil ?_
  refine x_then ?_
  refine c_seq ?_
  refine c_draw (.q 0 (.q 1 (.q 2 (.q 3 (.q 4 (.q 5 (.q 6 (.q 7 (.s 8 (.s 9 (.q 10 .nil))))))))))) [10002, 10021, 10007, 21750, 21751, 21752, 21753, 22500, 22501, 22502, 22503] (hm := by kernel_rfl) (hs := by kernel_rfl) (hk := by kernel_rfl) (hQ := fun d v c a w h => by cases d <;> exact h) (h := ?_)
  refine q_rd rfl r_move ?_
  first | refine q_rd rfl r_nilCheck ?_ | refine q_rd rfl r_nilCheckF ?_
  first | refine q_rd rfl r_field ?_ | refine q_rd rfl r_fieldE ?_
  first | refine q_rd rfl r_load ?_ | refine q_rd rfl r_loadE ?_ | refine q_rd rfl (r_loadT (hj := by omega)) ?_
  refine q_rd rfl r_move ?_
  first | refine q_rd rfl r_nilCheck ?_ | refine q_rd rfl r_nilCheckF ?_
  first | refine q_rd rfl r_field ?_ | refine q_rd rfl r_fieldE ?_
  first | refine q_rd rfl r_load ?_ | refine q_rd rfl r_loadE ?_ | refine q_rd rfl (r_loadT (hj := by omega)) ?_
  refine s_do rfl d_alloc (fun g4 => ?_)
  first | refine s_do1 rfl d_store ?_ | refine s_do1 rfl d_storeE ?_
  refine q_rd rfl r_assign ?_
  refine s_nil ?_
  refine x_then ?_
  refine c_seq ?_
  refine c_seq ?_
  refine c_region ?_
  refine l_rd r_assign ?_
  refine l_nil ?_
  refine x_then ?_
  refine c_block ?_
  refine c_loopA (fun m E H => ∃ (k : Nat) (b : Hash) (hh : Int), E = [(6, vint k), (5, vint hh)] ∧ H = [(10004, Res.va g4 24 [.hash b])] ∧ m = l.length - k ∧ k ≤ l.length ∧ RBest l root h k b hh) [0, 2, 3, 4, 8, 9, 10, 11, 12, 13, 14, 15, 58, 59]  (l.length) ([(6, vint (0 : Nat)), (5, vint h)]) ([(10004, Res.va g4 24 [.hash root])]) rfl rfl (⟨0, root, h, rfl, rfl, rfl, Nat.zero_le _, RBest.start l root h⟩) (by repeat (first | exact trivial | refine ⟨⟨_, rfl, (by first | rfl | exact den_int (by omega))⟩, ?_⟩)) (by repeat (first | exact trivial | refine ⟨rfl, ?_⟩)) rfl (fun _ _ _ hI => ?_)
  obtain ⟨k, b, hh, rfl, rfl, rfl, hk, hi⟩ := hI
  refine c_seq ?_
  refine c_seq ?_
  refine c_region ?_
  refine l_rd r_move ?_
  refine l_rd r_move ?_
  first | refine l_rd r_nilCheck ?_ | refine l_rd r_nilCheckF ?_
  first | refine l_rd r_field ?_ | refine l_rd r_fieldE ?_
  first | refine l_rd r_load ?_ | refine l_rd r_loadE ?_ | refine l_rd (r_loadT (hj := by omega)) ?_
  refine l_rd r_len ?_
  refine l_rd r_lss ?_
  refine l_nil ?_
  refine x_then ?_
  first | refine c_ifd rfl (fun h22 => ?_) (fun h22 => ?_) | refine c_ifn rfl (fun h22 => ?_) (fun h22 => ?_) | refine c_if rfl (fun h22 => ?_) (fun h22 => ?_)
  · refine c_skip ?_
    refine x_then ?_
    refine c_seq ?_
    refine c_block ?_
    refine c_seq ?_
    refine c_region ?_
    refine l_rd r_move ?_
    first | refine l_rd r_nilCheck ?_ | refine l_rd r_nilCheckF ?_
    first | refine l_rd r_field ?_ | refine l_rd r_fieldE ?_
    first | refine l_rd r_load ?_ | refine l_rd r_loadE ?_ | refine l_rd (r_loadT (hj := by omega)) ?_
    refine l_rd r_move ?_
    first | refine l_ix (fun ad30 y30 hA30 h30 => ?_) | refine l_rd (r_indexT (hj := by omega)) ?_
    first | refine l_rd r_load ?_ | refine l_rd r_loadE ?_ | refine l_rd (r_loadT (hj := by omega)) ?_
    refine l_do d_alloc (fun g7 => ?_)
    first | refine l_do1 d_store ?_ | refine l_do1 d_storeE ?_
    refine l_nil ?_
    refine x_then ?_
    refine c_seq ?_
    refine c_region ?_
    refine l_rd r_move ?_
    first | refine l_rd r_field ?_ | refine l_rd r_fieldE ?_
    first | refine l_rd r_load ?_ | refine l_rd r_loadE ?_ | refine l_rd (r_loadT (hj := by omega)) ?_
    refine l_call 21750 [(100, 100)] (rstands_spec g root h A c l y30.id hw hok) Tryz.func24 (h := ?_)
    rintro _ _ (⟨rfl, rfl⟩)
    refine l_rd r_move ?_
    first | refine l_rdG [] rfl (fun hg => r_field) ?_ | refine l_rdG [] rfl (fun hg => r_fieldE) ?_
    first | refine l_rdG [37] ⟨_, _, ⟨_, .inl ⟨rfl, rfl⟩⟩, rfl, rfl⟩ (fun hg => r_load) ?_ | refine l_rdG [37] ⟨_, _, ⟨_, .inl ⟨rfl, rfl⟩⟩, rfl, rfl⟩ (fun hg => r_loadE) ?_ | refine l_rdG [37] ⟨_, _, ⟨_, .inl ⟨rfl, rfl⟩⟩, rfl, rfl⟩ (fun hg => (r_loadT (hj := (by first | omega | (have hgg := hg; simp only [cond_true, cond_false, Bool.and_eq_true, Bool.or_eq_true, Bool.not_eq_true', Bool.not_eq_false', Bool.and_eq_false_imp, Bool.or_eq_false_iff, decide_eq_true_eq, decide_eq_false_iff_not] at hgg; omega))))) ?_
    refine l_rdG [] rfl (fun hg => r_move) ?_
    refine l_rdG [38, 39] ⟨_, _, ⟨_, .inl ⟨rfl, rfl⟩⟩, ⟨_, _, ⟨_, .inl ⟨rfl, rfl⟩⟩, rfl, rfl⟩, rfl⟩ (fun hg => r_gtr) ?_
    refine l_rdG [40] ⟨_, _, ⟨_, .inl ⟨rfl, rfl⟩⟩, rfl, rfl⟩ (fun hg => r_move) ?_
    first | refine l_rdG [] rfl (fun hg => r_field) ?_ | refine l_rdG [] rfl (fun hg => r_fieldE) ?_
    first | refine l_rdG [42] ⟨_, _, ⟨_, .inl ⟨rfl, rfl⟩⟩, rfl, rfl⟩ (fun hg => r_load) ?_ | refine l_rdG [42] ⟨_, _, ⟨_, .inl ⟨rfl, rfl⟩⟩, rfl, rfl⟩ (fun hg => r_loadE) ?_ | refine l_rdG [42] ⟨_, _, ⟨_, .inl ⟨rfl, rfl⟩⟩, rfl, rfl⟩ (fun hg => (r_loadT (hj := (by first | omega | (have hgg := hg; simp only [cond_true, cond_false, Bool.and_eq_true, Bool.or_eq_true, Bool.not_eq_true', Bool.not_eq_false', Bool.and_eq_false_imp, Bool.or_eq_false_iff, decide_eq_true_eq, decide_eq_false_iff_not] at hgg; omega))))) ?_
    refine l_rdG [] rfl (fun hg => r_move) ?_
    refine l_rdG [43, 44] ⟨_, _, ⟨_, .inl ⟨rfl, rfl⟩⟩, ⟨_, _, ⟨_, .inl ⟨rfl, rfl⟩⟩, rfl, rfl⟩, rfl⟩ (fun hg => r_eql) ?_
    refine l_rdG [45] ⟨_, _, ⟨_, .inl ⟨rfl, rfl⟩⟩, rfl, rfl⟩ (fun hg => r_move) ?_
    first | refine l_rdG [] rfl (fun hg => r_field) ?_ | refine l_rdG [] rfl (fun hg => r_fieldE) ?_
    first | refine l_rdG [47] ⟨_, _, ⟨_, .inl ⟨rfl, rfl⟩⟩, rfl, rfl⟩ (fun hg => r_load) ?_ | refine l_rdG [47] ⟨_, _, ⟨_, .inl ⟨rfl, rfl⟩⟩, rfl, rfl⟩ (fun hg => r_loadE) ?_ | refine l_rdG [47] ⟨_, _, ⟨_, .inl ⟨rfl, rfl⟩⟩, rfl, rfl⟩ (fun hg => (r_loadT (hj := (by first | omega | (have hgg := hg; simp only [cond_true, cond_false, Bool.and_eq_true, Bool.or_eq_true, Bool.not_eq_true', Bool.not_eq_false', Bool.and_eq_false_imp, Bool.or_eq_false_iff, decide_eq_true_eq, decide_eq_false_iff_not] at hgg; omega))))) ?_
    first | refine l_rdG [] rfl (fun hg => r_load) ?_ | refine l_rdG [] rfl (fun hg => r_loadE) ?_ | refine l_rdG [] rfl (fun hg => (r_loadT (hj := (by first | omega | (have hgg := hg; simp only [cond_true, cond_false, Bool.and_eq_true, Bool.or_eq_true, Bool.not_eq_true', Bool.not_eq_false', Bool.and_eq_false_imp, Bool.or_eq_false_iff, decide_eq_true_eq, decide_eq_false_iff_not] at hgg; omega))))) ?_
    refine l_callG [] [48, 49] ⟨_, _, ⟨_, .inl ⟨rfl, rfl⟩⟩, ⟨_, _, ⟨_, .inl ⟨rfl, rfl⟩⟩, rfl, rfl⟩, rfl⟩ (fun hg => less_spec _ _) Tryz.func36 (h := ?_)
    first | refine l_rdG [46, 50] ⟨_, _, ⟨_, .inl ⟨rfl, rfl⟩⟩, ⟨_, _, ⟨_, .inr ⟨_, rfl, rfl⟩⟩, rfl, rfl⟩, rfl⟩ (fun hg => r_and) ?_ | refine l_rdG [46, 50] ⟨_, _, ⟨_, .inl ⟨rfl, rfl⟩⟩, ⟨_, _, ⟨_, .inr ⟨_, rfl, rfl⟩⟩, rfl, rfl⟩, rfl⟩ (fun hg => r_pickB) ?_ | refine l_rdG [46, 50] ⟨_, _, ⟨_, .inl ⟨rfl, rfl⟩⟩, ⟨_, _, ⟨_, .inr ⟨_, rfl, rfl⟩⟩, rfl, rfl⟩, rfl⟩ (fun hg => r_pick) ?_
    first | refine l_rdG [41, 51] ⟨_, _, ⟨_, .inl ⟨rfl, rfl⟩⟩, ⟨_, _, ⟨_, .inr ⟨_, rfl, rfl⟩⟩, rfl, rfl⟩, rfl⟩ (fun hg => r_or) ?_ | refine l_rdG [41, 51] ⟨_, _, ⟨_, .inl ⟨rfl, rfl⟩⟩, ⟨_, _, ⟨_, .inr ⟨_, rfl, rfl⟩⟩, rfl, rfl⟩, rfl⟩ (fun hg => r_pickB) ?_ | refine l_rdG [41, 51] ⟨_, _, ⟨_, .inl ⟨rfl, rfl⟩⟩, ⟨_, _, ⟨_, .inr ⟨_, rfl, rfl⟩⟩, rfl, rfl⟩, rfl⟩ (fun hg => r_pick) ?_
    first | refine l_rd r_and ?_ | refine l_rd r_pickB ?_ | refine l_rd r_pick ?_
    refine l_nil ?_
    refine x_then ?_
    first | refine c_ifd rfl (fun h53 => ?_) (fun h53 => ?_) | refine c_ifn rfl (fun h53 => ?_) (fun h53 => ?_) | refine c_if rfl (fun h53 => ?_) (fun h53 => ?_)
    · refine c_seq ?_
      refine c_region ?_
      first | refine l_rd r_field ?_ | refine l_rd r_fieldE ?_
      first | refine l_rd r_load ?_ | refine l_rd r_loadE ?_ | refine l_rd (r_loadT (hj := by omega)) ?_
      first | refine l_do1 d_store ?_ | refine l_do1 d_storeE ?_
      refine l_nil ?_
      refine x_then ?_
      refine c_region ?_
      first | refine l_rd r_field ?_ | refine l_rd r_fieldE ?_
      first | refine l_rd r_load ?_ | refine l_rd r_loadE ?_ | refine l_rd (r_loadT (hj := by omega)) ?_
      refine l_rd r_assign ?_
      refine l_nil ?_
      refine x_in (x_then ?_)
      refine c_region ?_
      refine l_rd r_move ?_
      first | refine l_rd r_add ?_ | refine l_rd r_addW ?_
      refine l_rd r_assign ?_
      refine l_nil ?_
      refine x_then ?_
      refine k_again (l.length - (k + 1)) (by first | exact ⟨k + 1, y30.id, y30.height, rfl, rfl, rfl, by omega, (hi.step h30).1 h53⟩ | exact ⟨k + 1, b, hh, rfl, rfl, rfl, by omega, (hi.step h30).2 h53⟩) (by omega) (by repeat (first | exact trivial | refine ⟨⟨_, rfl, (by first | rfl | exact den_int (by omega))⟩, ?_⟩)) (by repeat (first | exact trivial | refine ⟨rfl, ?_⟩))
    · refine c_skip ?_
      refine x_in (x_then ?_)
      refine c_region ?_
      refine l_rd r_move ?_
      first | refine l_rd r_add ?_ | refine l_rd r_addW ?_
      refine l_rd r_assign ?_
      refine l_nil ?_
      refine x_then ?_
      refine k_again (l.length - (k + 1)) (by first | exact ⟨k + 1, y30.id, y30.height, rfl, rfl, rfl, by omega, (hi.step h30).1 h53⟩ | exact ⟨k + 1, b, hh, rfl, rfl, rfl, by omega, (hi.step h30).2 h53⟩) (by omega) (by repeat (first | exact trivial | refine ⟨⟨_, rfl, (by first | rfl | exact den_int (by omega))⟩, ?_⟩)) (by repeat (first | exact trivial | refine ⟨rfl, ?_⟩))
  · refine c_exit ?_
    refine x_thenE (x_thenE (x_inE (x_then ?_)))
    refine c_seq ?_
    refine c_region ?_
    first | refine l_rd r_load ?_ | refine l_rd r_loadE ?_ | refine l_rd (r_loadT (hj := by omega)) ?_
    refine l_rd r_move ?_
    first | refine l_do1 d_store ?_ | refine l_do1 d_storeE ?_
    refine l_rd r_assign ?_
    refine l_nil ?_
    refine x_then ?_
    refine c_ret ?_
    refine k_ret [] _ (.cons (.cell inferInstance rfl rfl rfl rfl) (.cons (.tmp rfl) .nil)) (h := ?_)
    have e : k = l.length := by omega
    subst e
    exact ⟨b, hh, hi, rfl, rfl⟩
end Go.Proofs.YtehhnfpfefccaaaGreat
/- Marks: what the laws write over what was handed out. -/



set_option linter.unusedVariables false
set_option linter.unusedSimpArgs false
set_option maxRecDepth 100000
set_option maxHeartbeats 8000000
namespace Go.Proofs.YtehhnfpfefccaaaGreat
open Go Go.RowKit HL
namespace HL
def mk1 (k i : Nat) : Int := 1000003 * ((k : Int) + 7) + i
def mkL {α : Type} (m : Nat → Nat → α) (k n : Nat) : List α := (List.range n).map (m k)
theorem mkL_len {α : Type} {m : Nat → Nat → α} {k n : Nat} : (mkL m k n).length = n := by unfold mkL; simp
theorem mkL_succ {α : Type} {m : Nat → Nat → α} {k n : Nat} : mkL m k (n + 1) = mkL m k n ++ [m k n] := by unfold mkL; rw [List.range_succ, List.map_append]; rfl
theorem mkL_get {α : Type} {m : Nat → Nat → α} {k n i : Nat} {x : α} (h : (mkL m k n)[i]? = some x) : x = m k i := by
  have hn : i < n := by have := (List.getElem?_eq_some_iff.1 h).1; rwa [mkL_len] at this
  unfold mkL at h
  rw [List.getElem?_map, List.getElem?_range hn] at h
  injection h with h
  exact h.symm
theorem mkL_set {α : Type} {m : Nat → Nat → α} {k i : Nat} {l : List α} (h : i < l.length) : (mkL m k i ++ l.drop i).set i (m k i) = mkL m k (i + 1) ++ l.drop (i + 1) := by
  have e : l.drop i = l[i] :: l.drop (i + 1) := (List.drop_eq_getElem_cons h)
  rw [e, List.set_append_right _ _ (by rw [mkL_len]; exact Nat.le_refl i), mkL_len, Nat.sub_self, List.set_cons_zero, mkL_succ, List.append_assoc]
  rfl
end HL
theorem mark_spec (k i : Nat) (hk : k ≤ 1048576) (hi : i ≤ 1099511627776) : CSpec Tryz.prog 83 [.one (.i .i64 k), .one (.i .i64 i)] [] [] fun o L => o = .ret (vint (mk1 k i)) ∧ L = [] := by
  refine k_enter Tryz.func83 rfl rfl (h := fun w0 => ?_)
  refine c_seq ?_
  refine c_region ?_
  refine l_rd r_assign ?_
  refine l_nil ?_
  refine x_then ?_
  refine c_seq ?_
  refine c_region ?_
  refine l_rd r_move ?_
  first | refine l_rd r_add ?_ | refine l_rd r_addW ?_
  first | refine l_rd r_mul ?_ | refine l_rd r_mulW ?_
  refine l_rd r_move ?_
  first | refine l_rd r_add ?_ | refine l_rd r_addW ?_
  refine l_rd r_assign ?_
  refine l_nil ?_
  refine x_then ?_
  refine c_ret ?_
  refine k_ret [] _ (.cons (.tmp rfl) .nil) (h := ?_)
  exact ⟨rfl, rfl⟩
def mkH (k i : Nat) : Hash := hset hz [(0, u8 (mk1 k i))]
theorem markHash_spec (k i : Nat) (hk : k ≤ 1048576) (hi : i ≤ 1099511627776) : CSpec Tryz.prog 86 [.one (.i .i64 k), .one (.i .i64 i)] [] [] fun o L => o = .ret (vh (mkH k i)) ∧ L = [] := by
  refine k_enter Tryz.func86 rfl rfl (h := fun w0 => ?_)
  refine c_seq ?_
  refine c_region ?_
  refine l_do d_alloc (fun g4 => ?_)
  refine l_nil ?_
  refine x_then ?_
  refine c_seq ?_
  refine c_region ?_
  refine l_rd r_move ?_
  refine l_rd r_move ?_
  refine l_call 20350 [] (mark_spec k i hk hi) Tryz.func83 (h := ?_)
  rintro _ _ (⟨rfl, rfl⟩)
  first | refine l_rd r_conv ?_ | refine l_rd r_convW ?_
  refine l_rd (r_buildH [(0, u8 (mk1 k i))] ⟨rfl, ⟨_, rfl, u8_wrap _⟩, trivial⟩) ?_
  first | refine l_do1 d_store ?_ | refine l_do1 d_storeE ?_
  refine l_nil ?_
  refine x_then ?_
  refine c_ret ?_
  refine k_ret [] _ (.cons (.cell inferInstance rfl rfl rfl rfl) .nil) (h := ?_)
  exact ⟨rfl, rfl⟩
end Go.Proofs.YtehhnfpfefccaaaGreat
/- Lists that lie apart: hashes. -/

set_option linter.unusedVariables false
set_option linter.unusedSimpArgs false
set_option maxRecDepth 100000
set_option maxHeartbeats 8000000
namespace Go.Proofs.YtehhnfpfefccaaaGreat
open Go Go.RowKit HL
namespace HL
section
variable {α : Type} (e : TypeId) (E : En α) (m : Nat → Nat → α)
def F1 (k j : Nat) (s : Hd α) : Res := Res.rows s.A s.c e E (if j < k then mkL m j s.l.length else s.l)
def F3 (gl : List (Hd α)) (j : Nat) (s : Hd α) : Res := Res.two e E s.A s.c (mkL m j s.l.length) (gl.getD j default).A (gl.getD j default).c (gl.getD j default).l
def F2 (gl : List (Hd α)) (k j : Nat) (s : Hd α) : Res := if j < k then F3 e E m gl j s else Res.rows s.A s.c e E (mkL m j s.l.length)
variable {e E m}
theorem F1_ne {k : Nat} : ∀ (j : Nat) (s : Hd α), j ≠ k → F1 e E m k j s = F1 e E m (k + 1) j s := fun j s h => by
  unfold F1
  by_cases h1 : j < k
  · rw [if_pos h1, if_pos (by omega)]
  · rw [if_neg h1, if_neg (by omega)]
theorem F2_ne {gl : List (Hd α)} {k : Nat} {x : Hd α} (hk : k < gl.length) : ∀ (j : Nat) (s : Hd α), j ≠ k → F2 e E m gl k j s = F2 e E m (gl.set k x) (k + 1) j s := fun j s h => by
  unfold F2 F3
  have hg : (gl.set k x).getD j default = gl.getD j default := by
    rw [List.getD_eq_getElem?_getD, List.getElem?_set_ne (fun e => h e.symm), ← List.getD_eq_getElem?_getD]
  rw [hg]
  by_cases h1 : j < k
  · rw [if_pos h1, if_pos (by omega)]
  · rw [if_neg h1, if_neg (by omega)]
theorem F3_ne {gl : List (Hd α)} {k : Nat} {x : Hd α} : ∀ (j : Nat) (s : Hd α), j ≠ k → F3 e E m gl j s = F3 e E m (gl.set k x) j s := fun j s h => by
  unfold F3
  have hg : (gl.set k x).getD j default = gl.getD j default := by
    rw [List.getD_eq_getElem?_getD, List.getElem?_set_ne (fun e => h e.symm), ← List.getD_eq_getElem?_getD]
  rw [hg]
theorem hdD_set {gl : List (Hd α)} {k : Nat} {x : Hd α} (hk : k < gl.length) : (gl.set k x).getD k default = x := by
  rw [List.getD_eq_getElem?_getD, List.getElem?_set_self hk]
  rfl
theorem hdD_ne {gl : List (Hd α)} {k j : Nat} {x : Hd α} (hk : j ≠ k) : (gl.set k x).getD j default = gl.getD j default := by
  rw [List.getD_eq_getElem?_getD, List.getElem?_set_ne (fun e => hk e.symm), ← List.getD_eq_getElem?_getD]
theorem mkL_pget {k n i : Nat} {l : List α} {x : α} (hp : mkL m k n <+: l) (hi : i < n) (h : l[i]? = some x) : x = m k i := by
  obtain ⟨u, rfl⟩ := hp
  rw [List.getElem?_append_left (by rw [mkL_len]; exact hi)] at h
  exact mkL_get h
theorem map_F1 (ss : List (Hd α)) : ss.map (Hd.res e E) = ss.mapIdx (F1 e E m 0) := by
  apply List.ext_getElem?
  intro j
  rw [List.getElem?_map, List.getElem?_mapIdx]
  cases ss[j]? with
  | none => rfl
  | some s => simp [F1, Hd.res]
theorem F1_F2 {ss : List (Hd α)} {gl : List (Hd α)} {k : Nat} (hk : ss.length ≤ k) : ss.mapIdx (F1 e E m k) = ss.mapIdx (F2 e E m gl 0) := mapIdx_congr fun j s hj => by
  have := (List.getElem?_eq_some_iff.1 hj).1
  unfold F1 F2
  rw [if_pos (by omega), if_neg (by omega)]
theorem F2_F3 {ss : List (Hd α)} {gl : List (Hd α)} {k : Nat} (hk : ss.length ≤ k) : ss.mapIdx (F2 e E m gl k) = ss.mapIdx (F3 e E m gl) := mapIdx_congr fun j s hj => by
  have := (List.getElem?_eq_some_iff.1 hj).1
  unfold F2
  rw [if_pos (by omega)]
theorem view_F3a {ss gl : List (Hd α)} {k : Nat} {s : Hd α} (hs : ss[k]? = some s) : View (Res.bag (ss.mapIdx (F3 e E m gl))) (Res.rd s.A E (mkL m k s.l.length)) := bag_view (mapIdx_get hs rfl) view_two1
theorem view_F3b {ss gl : List (Hd α)} {k : Nat} {s t : Hd α} (hs : ss[k]? = some s) (ht : gl[k]? = some t) : View (Res.bag (ss.mapIdx (F3 e E m gl))) (Res.rd t.A E t.l) := bag_view (mapIdx_get hs rfl) (by
  have : gl.getD k default = t := by rw [List.getD_eq_getElem?_getD, ht]; rfl
  unfold F3
  rw [this]
  exact view_two2)
end
end HL
instance elT_hashes : ElT Tryz.prog 55 (hdEn Hash 50) := ⟨⟩
instance elT_hashB : ElT Tryz.prog 24 hashEn := ⟨⟩
instance zero_hd {α : Type} {i : Nat} : ZeroOf (hdEn α i) default (.one (.sl 0 none 0 0)) := ⟨rfl⟩
theorem flatHashes_spec (A0 : Option Addr) (c0 : Nat) (ss : List (Hd Hash)) (hm : ss.length ≤ 1000) (hln : ∀ s ∈ ss, s.l.length ≤ 1048576) :
    CSpec Tryz.prog 57 [.one (.sl 0 A0 ss.length c0)] [] [(0, Res.rows A0 c0 55 (hdEn Hash 50) ss), (50, Res.bag (ss.map (Hd.res 24 hashEn)))] fun o L => o = .ret (vb true) ∧ L = [] := by
  refine k_enter Tryz.func57 rfl rfl (h := fun w0 => ?_)
  refine c_seq ?_
  refine c_region ?_
  refine l_rd r_assign ?_
  refine l_nil ?_
  refine x_then ?_
  refine c_seq ?_
  refine c_seq ?_
  refine c_region ?_
  refine l_rd r_assign ?_
  refine l_nil ?_
  refine x_then ?_
  refine c_block ?_
  refine k_res 50 (Res.bag (ss.mapIdx (F1 24 hashEn mkH 0))) rfl (by rw [map_F1]) ?_
  refine c_loopA (fun m E H => ∃ (k : Nat), E = [(3, vint (((k : Nat) : Int)))] ∧ H = [(50, Res.bag (ss.mapIdx (F1 24 hashEn mkH k)))] ∧ m = ss.length - k ∧ k ≤ ss.length) [0, 5, 6, 7, 8, 9, 10, 11, 12, 13, 14, 15, 40, 41, 42, 43, 44, 45, 46, 47, 48, 49, 50, 51, 52, 53, 54, 55, 56, 57, 58, 59, 60, 61, 62, 63, 64, 65, 66, 67, 68, 69, 70, 71, 72, 73, 74, 75, 76, 77, 78, 79, 80, 81, 82, 83, 84, 85, 86, 87, 88, 89, 90, 91, 92, 93, 94, 95, 96, 97, 98, 99, 100, 101, 102, 103, 104, 105, 106, 107, 108, 109, 110, 111, 112, 113, 114, 115, 116, 117, 118, 119, 120, 121, 122, 123, 124, 125, 126, 127, 128, 129, 130, 131, 132, 133, 134, 135, 136, 137, 138, 139, 140, 141, 142, 143, 144, 145, 146, 147, 148, 149, 150, 151, 152, 153, 154, 155, 156, 157, 158, 159, 160, 161, 162, 163, 164, 165, 166, 167, 168, 169, 170, 171, 172, 173, 174, 175, 176, 177, 178, 179, 180, 181, 182, 183, 184, 185, 186, 187, 188, 189, 190, 191, 192]  (ss.length) ([(3, vint (((0 : Nat) : Int)))]) ([(50, Res.bag (ss.mapIdx (F1 24 hashEn mkH 0)))]) rfl rfl (⟨0, rfl, rfl, by omega, by omega⟩) (by repeat (first | exact trivial | refine ⟨⟨_, rfl, (by first | rfl | exact den_int (by omega))⟩, ?_⟩)) (by repeat (first | exact trivial | refine ⟨rfl, ?_⟩)) rfl (fun _ _ _ hI => ?_)
  obtain ⟨k, rfl, rfl, hmk, hk⟩ := hI
  refine c_seq ?_
  refine c_seq ?_
  refine c_region ?_
  refine l_rd r_move ?_
  refine l_rd r_move ?_
  refine l_rd r_len ?_
  refine l_rd r_lss ?_
  refine l_nil ?_
  refine x_then ?_
  first | refine c_ifd rfl (fun h19 => ?_) (fun h19 => ?_) | refine c_ifn rfl (fun h19 => ?_) (fun h19 => ?_) | refine c_if rfl (fun h19 => ?_) (fun h19 => ?_)
  · obtain ⟨s, hs⟩ : ∃ s, ss[k]? = some s := ⟨_, List.getElem?_eq_getElem (by omega)⟩
    have hsl := hln s (List.mem_of_getElem? hs)
    refine k_out 50 51 k (r := Res.rows s.A s.c 24 hashEn s.l) (mapIdx_get hs (by simp [F1])) rfl ?_
    refine c_skip ?_
    refine x_then ?_
    refine c_seq ?_
    refine c_block ?_
    refine c_seq ?_
    refine c_region ?_
    refine l_rd r_assign ?_
    refine l_nil ?_
    refine x_then ?_
    refine c_block ?_
    refine c_loopA (fun m E H => ∃ (i : Nat), E = [(4, vint (((i : Nat) : Int)))] ∧ H = [(51, Res.rows s.A s.c 24 hashEn (mkL mkH k i ++ s.l.drop i))] ∧ m = s.l.length - i ∧ i ≤ s.l.length) [0, 3, 5, 6, 7, 8, 9, 10, 11, 12, 13, 14, 15, 16, 17, 18, 19, 20, 21, 40, 41, 42, 43, 44, 45, 46, 47, 48, 49, 50, 51, 52, 53, 54, 55, 56, 57, 58, 59, 60, 61, 62, 63, 64, 65, 66, 67, 68, 69, 70, 71, 72, 73, 74, 75, 76, 77, 78, 79, 80, 81, 82, 83, 84, 85, 86, 87, 88, 89, 90, 91, 92, 93, 94, 95, 96, 97, 98, 99, 100, 101, 102, 103, 104, 105, 106, 107, 108, 109, 110, 111, 112, 113, 114, 115, 116, 117, 118, 119, 120, 121, 122, 123, 124, 125, 126, 127, 128, 129, 130, 131, 132, 133, 134, 135, 136, 137, 138, 139, 140, 141, 142, 143, 144, 145, 146, 147, 148, 149, 150, 151, 152, 153, 154, 155, 156, 157, 158, 159, 160, 161, 162, 163, 164, 165, 166, 167, 168, 169, 170, 171, 172, 173, 174, 175, 176, 177, 178, 179, 180, 181, 182, 183, 184, 185, 186, 187, 188, 189, 190, 191, 192]  (s.l.length) ([(4, vint (((0 : Nat) : Int)))]) ([(51, Res.rows s.A s.c 24 hashEn (mkL mkH k 0 ++ s.l.drop 0))]) rfl rfl (⟨0, rfl, rfl, by omega, by omega⟩) (by repeat (first | exact trivial | refine ⟨⟨_, rfl, (by first | rfl | exact den_int (by omega))⟩, ?_⟩)) (by repeat (first | exact trivial | refine ⟨rfl, ?_⟩)) rfl (fun _ _ _ hI => ?_)
    obtain ⟨i, rfl, rfl, hmi, hi⟩ := hI
    refine c_seq ?_
    refine c_seq ?_
    refine c_region ?_
    refine l_rd r_move ?_
    refine l_rd r_move ?_
    refine l_rd r_move ?_
    first | refine l_ix (fun ad25 y25 hA25 h25 => ?_) | refine l_rd (r_indexT (hj := by omega)) ?_
    refine l_rd r_loadE ?_
    obtain rfl := opt_eq hs h25
    refine k_val 26 (vsl 51 s.A s.l.length s.c) rfl rfl ?_
    refine l_rd r_len ?_
    refine l_rd r_lss ?_
    refine l_nil ?_
    refine x_then ?_
    first | refine c_ifd rfl (fun h28 => ?_) (fun h28 => ?_) | refine c_ifn rfl (fun h28 => ?_) (fun h28 => ?_) | refine c_if rfl (fun h28 => ?_) (fun h28 => ?_)
    · have hml : s.l.length = (mkL mkH k i ++ s.l.drop i).length := by rw [List.length_append, mkL_len, List.length_drop]; omega
      refine c_skip ?_
      refine x_then ?_
      refine c_seq ?_
      refine c_block ?_
      refine c_draw (.q 0 (.q 1 (.q 2 (.q 3 (.q 4 (.q 5 (.q 6 (.s 7 (.q 8 (.s 9 .nil)))))))))) [0, 50, 10042, 10018, 10027, 21900, 21901, 21902, 21903, 10041, 10045, 10063, 23300, 23301, 23302, 23303, 10067, 10068, 10075, 10084, 24850, 24851, 24852, 24853, 10106, 25900, 25901, 25902, 25903, 10125, 10129, 10138, 27050, 27051, 27052, 27053, 10150, 10154, 10163, 28800, 28801, 28802, 28803, 29450, 29451, 29452, 29453] (hm := by kernel_rfl) (hs := by kernel_rfl) (hk := by kernel_rfl) (hQ := fun d v c a w h => by cases d <;> exact h) (h := ?_)
      refine q_rd rfl r_move ?_
      refine q_rd rfl r_move ?_
      first | refine q_ix rfl (fun ad33 y33 hA33 h33 => ?_) | refine q_rd rfl (r_indexT (hj := by omega)) ?_
      refine q_rd rfl r_loadE ?_
      obtain rfl := opt_eq hs h33
      refine k_valC 34 (vsl 51 s.A s.l.length s.c) rfl rfl ?_
      refine q_rd rfl r_move ?_
      refine q_rd rfl r_move ?_
      refine q_rd rfl r_move ?_
      refine s_call rfl 21900 [] (markHash_spec k i (by omega) (by omega)) Tryz.func86 (h := ?_)
      rintro _ _ (⟨rfl, rfl⟩)
      refine ⟨cov_of (by repeat (first | exact trivial | refine ⟨rfl, ?_⟩)), ?_⟩
      first | refine q_ix rfl (fun ad39 y39 hA39 h39 => ?_) | refine q_rd rfl (r_indexT (hj := by omega)) ?_
      first | refine s_do1 rfl d_store ?_ | refine s_do1 rfl d_storeE ?_
      refine s_nil ?_
      refine x_in (x_then ?_)
      refine c_region ?_
      refine l_rd r_move ?_
      first | refine l_rd r_add ?_ | refine l_rd r_addW ?_
      refine l_rd r_assign ?_
      refine l_nil ?_
      refine x_then ?_
      refine k_res 51 (Res.rows s.A s.c 24 hashEn (mkL mkH k (i + 1) ++ s.l.drop (i + 1))) rfl (by rw [mkL_set (by omega)]) ?_
      refine k_again (s.l.length - (i + 1)) ⟨i + 1, rfl, rfl, by omega, by omega⟩ (by omega) (by repeat (first | exact trivial | refine ⟨⟨_, rfl, (by first | rfl | exact den_int (by omega))⟩, ?_⟩)) (by repeat (first | exact trivial | refine ⟨rfl, ?_⟩))
    · refine c_exit ?_
      refine x_thenE (x_thenE (x_inE (x_in (x_then ?_))))
      refine c_region ?_
      refine l_rd r_move ?_
      first | refine l_rd r_add ?_ | refine l_rd r_addW ?_
      refine l_rd r_assign ?_
      refine l_nil ?_
      refine x_then ?_
      have hie : i = s.l.length := by omega
      refine k_in 50 51 k (ss.mapIdx (F1 24 hashEn mkH (k + 1))) (by rw [List.length_mapIdx]; omega) (mapIdx_set hs (by simp [F1, hie]) F1_ne) rfl rfl ?_
      refine k_again (ss.length - (k + 1)) ⟨k + 1, rfl, rfl, by omega, by omega⟩ (by omega) (by repeat (first | exact trivial | refine ⟨⟨_, rfl, (by first | rfl | exact den_int (by omega))⟩, ?_⟩)) (by repeat (first | exact trivial | refine ⟨rfl, ?_⟩))
  · refine c_exit ?_
    refine x_thenE (x_thenE (x_inE (x_then ?_)))
    refine c_seq ?_
    refine c_region ?_
    refine l_rd r_move ?_
    refine l_rd r_len ?_
    refine l_do (d_makeSlice) (fun g42 => ?_)
    refine l_rd r_assign ?_
    refine l_nil ?_
    refine x_then ?_
    refine c_seq ?_
    refine c_seq ?_
    refine c_region ?_
    refine l_rd r_assign ?_
    refine l_nil ?_
    refine x_then ?_
    refine c_block ?_
    refine k_res 50 (Res.bag (ss.mapIdx (F2 24 hashEn mkH (List.replicate ss.length default) 0))) rfl (by rw [F1_F2 (by omega)]) ?_
    refine c_loopA (fun m E H => ∃ (k : Nat) (gl : List (Hd Hash)), E = [(6, vint (((k : Nat) : Int)))] ∧ H = [(10042, Res.rows (some ⟨g42, 0, none⟩) ss.length 55 (hdEn Hash 50) gl), (50, Res.bag (ss.mapIdx (F2 24 hashEn mkH gl k)))] ∧ m = ss.length - k ∧ k ≤ ss.length ∧ (gl.length = ss.length) ∧ (∀ j, j < k → ∀ s, ss[j]? = some s → (gl.getD j default).l = mkL mkH j (s.l.length + 64))) [0, 3, 4, 5, 9, 10, 11, 12, 13, 14, 15, 16, 17, 18, 19, 20, 21, 22, 23, 24, 25, 26, 27, 28, 29, 30, 31, 32, 33, 34, 35, 36, 37, 38, 39, 40, 41, 42, 73, 74, 75, 76, 77, 78, 79, 80, 81, 82, 83, 84, 85, 86, 87, 88, 89, 90, 91, 92, 93, 94, 95, 96, 97, 98, 99, 100, 101, 102, 103, 104, 105, 106, 107, 108, 109, 110, 111, 112, 113, 114, 115, 116, 117, 118, 119, 120, 121, 122, 123, 124, 125, 126, 127, 128, 129, 130, 131, 132, 133, 134, 135, 136, 137, 138, 139, 140, 141, 142, 143, 144, 145, 146, 147, 148, 149, 150, 151, 152, 153, 154, 155, 156, 157, 158, 159, 160, 161, 162, 163, 164, 165, 166, 167, 168, 169, 170, 171, 172, 173, 174, 175, 176, 177, 178, 179, 180, 181, 182, 183, 184, 185, 186, 187, 188, 189, 190, 191, 192]  (ss.length) ([(6, vint (((0 : Nat) : Int)))]) ([(10042, Res.rows (some ⟨g42, 0, none⟩) ss.length 55 (hdEn Hash 50) (List.replicate ss.length default)), (50, Res.bag (ss.mapIdx (F2 24 hashEn mkH (List.replicate ss.length default) 0)))]) rfl rfl (⟨0, List.replicate ss.length default, rfl, rfl, by omega, by omega, by simp, (fun j hj => absurd hj (Nat.not_lt_zero j))⟩) (by repeat (first | exact trivial | refine ⟨⟨_, rfl, (by first | rfl | exact den_int (by omega))⟩, ?_⟩)) (by repeat (first | exact trivial | refine ⟨rfl, ?_⟩)) rfl (fun _ _ _ hI => ?_)
    obtain ⟨k, gl, rfl, rfl, hmk, hk, hik0, hik1⟩ := hI
    refine c_seq ?_
    refine c_seq ?_
    refine c_region ?_
    refine l_rd r_move ?_
    refine l_rd r_move ?_
    refine l_rd r_len ?_
    refine l_rd r_lss ?_
    refine l_nil ?_
    refine x_then ?_
    first | refine c_ifd rfl (fun h46 => ?_) (fun h46 => ?_) | refine c_ifn rfl (fun h46 => ?_) (fun h46 => ?_) | refine c_if rfl (fun h46 => ?_) (fun h46 => ?_)
    · obtain ⟨s, hs⟩ : ∃ s, ss[k]? = some s := ⟨_, List.getElem?_eq_getElem (by omega)⟩
      have hsl := hln s (List.mem_of_getElem? hs)
      refine k_out 50 51 k (r := Res.rows s.A s.c 24 hashEn (mkL mkH k s.l.length)) (mapIdx_get hs (by simp [F2])) rfl ?_
      refine k_conv 51 (Res.two 24 hashEn s.A s.c (mkL mkH k s.l.length) s.A s.c (mkL mkH k s.l.length)) rfl (fun w h => two_of h) (fun b hb => by rw [fp_rows]; exact (fp_two.1 hb).elim id id) ?_
      refine c_skip ?_
      refine x_then ?_
      refine c_seq ?_
      refine c_block ?_
      refine c_seq ?_
      refine c_region ?_
      refine l_rd r_move ?_
      refine l_rd r_move ?_
      first | refine l_ix (fun ad51 y51 hA51 h51 => ?_) | refine l_rd (r_indexT (hj := by omega)) ?_
      refine l_rd r_loadE ?_
      obtain rfl := opt_eq hs h51
      refine k_val 52 (vsl 51 s.A s.l.length s.c) rfl rfl ?_
      refine l_rd r_assign ?_
      refine l_nil ?_
      refine x_then ?_
      refine c_seq ?_
      refine c_seq ?_
      refine c_region ?_
      refine l_rd r_assign ?_
      refine l_nil ?_
      refine x_then ?_
      refine c_block ?_
      refine c_loopA (fun m E H => ∃ (i : Nat) (A7 : Option Addr) (c7 : Nat), E = [(8, vint (((i : Nat) : Int))), (7, vsl 51 A7 (s.l.length + i) c7)] ∧ H = [(51, Res.two 24 hashEn s.A s.c (mkL mkH k s.l.length) A7 c7 (mkL mkH k (s.l.length + i)))] ∧ m = 64 - i ∧ i ≤ 64) [0, 3, 4, 5, 6, 9, 10, 11, 12, 13, 14, 15, 16, 17, 18, 19, 20, 21, 22, 23, 24, 25, 26, 27, 28, 29, 30, 31, 32, 33, 34, 35, 36, 37, 38, 39, 40, 41, 42, 43, 44, 45, 46, 47, 48, 49, 50, 51, 52, 69, 70, 71, 72, 73, 74, 75, 76, 77, 78, 79, 80, 81, 82, 83, 84, 85, 86, 87, 88, 89, 90, 91, 92, 93, 94, 95, 96, 97, 98, 99, 100, 101, 102, 103, 104, 105, 106, 107, 108, 109, 110, 111, 112, 113, 114, 115, 116, 117, 118, 119, 120, 121, 122, 123, 124, 125, 126, 127, 128, 129, 130, 131, 132, 133, 134, 135, 136, 137, 138, 139, 140, 141, 142, 143, 144, 145, 146, 147, 148, 149, 150, 151, 152, 153, 154, 155, 156, 157, 158, 159, 160, 161, 162, 163, 164, 165, 166, 167, 168, 169, 170, 171, 172, 173, 174, 175, 176, 177, 178, 179, 180, 181, 182, 183, 184, 185, 186, 187, 188, 189, 190, 191, 192]  (64) ([(8, vint (((0 : Nat) : Int))), (7, vsl 51 (s.A) (s.l.length + 0) (s.c))]) ([(51, Res.two 24 hashEn s.A s.c (mkL mkH k s.l.length) (s.A) (s.c) (mkL mkH k (s.l.length + 0)))]) rfl rfl (⟨0, s.A, s.c, rfl, rfl, by omega, by omega⟩) (by repeat (first | exact trivial | refine ⟨⟨_, rfl, (by first | rfl | exact den_int (by omega))⟩, ?_⟩)) (by repeat (first | exact trivial | refine ⟨rfl, ?_⟩)) rfl (fun _ _ _ hI => ?_)
      obtain ⟨i, A7, c7, rfl, rfl, hmi, hi⟩ := hI
      refine c_seq ?_
      refine c_seq ?_
      refine c_region ?_
      refine l_rd r_move ?_
      refine l_rd r_lss ?_
      refine l_nil ?_
      refine x_then ?_
      first | refine c_ifd rfl (fun h54 => ?_) (fun h54 => ?_) | refine c_ifn rfl (fun h54 => ?_) (fun h54 => ?_) | refine c_if rfl (fun h54 => ?_) (fun h54 => ?_)
      · have hml : s.l.length + i = (mkL mkH k (s.l.length + i)).length := mkL_len.symm
        refine c_skip ?_
        refine x_then ?_
        refine c_seq ?_
        refine c_block ?_
        refine c_region ?_
        refine l_rd r_move ?_
        refine l_rd r_move ?_
        refine l_rd r_move ?_
        refine l_rd r_move ?_
        first | refine l_ix (fun ad61 y61 hA61 h61 => ?_) | refine l_rd (r_indexT (hj := by omega)) ?_
        refine l_rd r_loadE ?_
        obtain rfl := opt_eq hs h61
        refine l_rd r_len ?_
        refine l_rd r_move ?_
        first | refine l_rd r_add ?_ | refine l_rd r_addW ?_
        refine l_call 23300 [] (markHash_spec k (s.l.length + i) (by omega) (by omega)) Tryz.func86 (h := ?_)
        rintro _ _ (⟨rfl, rfl⟩)
        refine l_do (d_bslice [mkH k (s.l.length + i)]) (fun B67 => ?_)
        refine l_do d_append2 (fun p68 => ?_)
        refine l_rd r_assign ?_
        refine l_nil ?_
        refine x_in (x_then ?_)
        refine c_region ?_
        refine l_rd r_move ?_
        first | refine l_rd r_add ?_ | refine l_rd r_addW ?_
        refine l_rd r_assign ?_
        refine l_nil ?_
        refine x_then ?_
        refine k_val 7 (vsl 51 p68.1 (s.l.length + (i + 1)) p68.2) rfl (by rw [List.length_append, mkL_len]; rfl) ?_
        refine k_res 51 (Res.two 24 hashEn s.A s.c (mkL mkH k s.l.length) p68.1 p68.2 (mkL mkH k (s.l.length + (i + 1)))) rfl (by rw [show s.l.length + (i + 1) = (s.l.length + i) + 1 from rfl, mkL_succ]) ?_
        refine k_again (64 - (i + 1)) ⟨i + 1, p68.1, p68.2, rfl, rfl, by omega, by omega⟩ (by omega) (by repeat (first | exact trivial | refine ⟨⟨_, rfl, (by first | rfl | exact den_int (by omega))⟩, ?_⟩)) (by repeat (first | exact trivial | refine ⟨rfl, ?_⟩))
      · obtain rfl : i = 64 := by omega
        refine c_exit ?_
        refine x_thenE (x_thenE (x_inE (x_then ?_)))
        refine c_region ?_
        refine l_rd r_move ?_
        refine l_rd r_move ?_
        refine l_rd r_move ?_
        refine k_val 71 (vsl 50 A7 (mkL mkH k (s.l.length + 64)).length c7) rfl (by rw [mkL_len]; rfl) ?_
        first | refine l_ix (fun ad72 y72 hA72 h72 => ?_) | refine l_rd (r_indexT (hj := by omega)) ?_
        refine l_do1 (d_storeE (u := y72) (u' := (⟨A7, c7, mkL mkH k (s.l.length + 64)⟩ : Hd Hash))) ?_
        refine l_nil ?_
        refine x_in (x_then ?_)
        refine c_region ?_
        refine l_rd r_move ?_
        first | refine l_rd r_add ?_ | refine l_rd r_addW ?_
        refine l_rd r_assign ?_
        refine l_nil ?_
        refine x_then ?_
        refine k_in 50 51 k (ss.mapIdx (F2 24 hashEn mkH (gl.set k (⟨A7, c7, mkL mkH k (s.l.length + 64)⟩ : Hd Hash)) (k + 1))) (by rw [List.length_mapIdx]; omega) (mapIdx_set hs (by unfold F2 F3; rw [if_pos (by omega), hdD_set (by omega)]) (F2_ne (by omega))) rfl rfl ?_
        refine k_again (ss.length - (k + 1)) ⟨k + 1, gl.set k (⟨A7, c7, mkL mkH k (s.l.length + 64)⟩ : Hd Hash), rfl, rfl, by omega, by omega, by rw [List.length_set, hik0], (fun j hj s2 hs2 => by by_cases e : j = k; (subst e; rw [hdD_set (by omega), opt_eq hs2 hs]); (rw [hdD_ne e]; exact hik1 j (by omega) s2 hs2))⟩ (by omega) (by repeat (first | exact trivial | refine ⟨⟨_, rfl, (by first | rfl | exact den_int (by omega))⟩, ?_⟩)) (by repeat (first | exact trivial | refine ⟨rfl, ?_⟩))
    · refine c_exit ?_
      refine x_thenE (x_thenE (x_inE (x_then ?_)))
      refine c_seq ?_
      refine c_seq ?_
      refine c_region ?_
      refine l_rd r_assign ?_
      refine l_nil ?_
      refine x_then ?_
      refine c_block ?_
      refine k_res 50 (Res.bag (ss.mapIdx (F3 24 hashEn mkH gl))) rfl (by rw [F2_F3 (by omega)]) ?_
      have hgl : ∀ j s, ss[j]? = some s → (gl.getD j default).l = mkL mkH j (s.l.length + 64) := fun j s hj => hik1 j (by have := (List.getElem?_eq_some_iff.1 hj).1; omega) s hj
      refine c_loopA (fun m E H => ∃ (k : Nat), E = [(9, vint (((k : Nat) : Int)))] ∧ H = [] ∧ m = ss.length - k ∧ k ≤ ss.length) [0, 3, 4, 5, 6, 7, 8, 11, 12, 13, 14, 15, 16, 17, 18, 19, 20, 21, 22, 23, 24, 25, 26, 27, 28, 29, 30, 31, 32, 33, 34, 35, 36, 37, 38, 39, 40, 41, 42, 43, 44, 45, 46, 47, 48, 49, 50, 51, 52, 53, 54, 55, 56, 57, 58, 59, 60, 61, 62, 63, 64, 65, 66, 67, 68, 69, 70, 71, 72, 123, 124, 125, 126, 127, 128, 129, 130, 131, 132, 133, 134, 135, 136, 137, 138, 139, 140, 141, 142, 143, 144, 145, 146, 147, 148, 149, 150, 151, 152, 153, 154, 155, 156, 157, 158, 159, 160, 161, 162, 163, 164, 165, 166, 167, 168, 169, 170, 171, 172, 173, 174, 175, 176, 177, 178, 179, 180, 181, 182, 183, 184, 185, 186, 187, 188, 189, 190, 191, 192]  (ss.length) ([(9, vint (((0 : Nat) : Int)))]) ([]) rfl rfl (⟨0, rfl, rfl, by omega, by omega⟩) (by repeat (first | exact trivial | refine ⟨⟨_, rfl, (by first | rfl | exact den_int (by omega))⟩, ?_⟩)) (by repeat (first | exact trivial | refine ⟨rfl, ?_⟩)) rfl (fun _ _ _ hI => ?_)
      obtain ⟨k, rfl, rfl, hmk, hk⟩ := hI
      refine c_seq ?_
      refine c_seq ?_
      refine c_region ?_
      refine l_rd r_move ?_
      refine l_rd r_move ?_
      refine l_rd r_len ?_
      refine l_rd r_lss ?_
      refine l_nil ?_
      refine x_then ?_
      first | refine c_ifd rfl (fun h76 => ?_) (fun h76 => ?_) | refine c_ifn rfl (fun h76 => ?_) (fun h76 => ?_) | refine c_if rfl (fun h76 => ?_) (fun h76 => ?_)
      · obtain ⟨s, hs⟩ : ∃ s, ss[k]? = some s := ⟨_, List.getElem?_eq_getElem (by omega)⟩
        have hsl := hln s (List.mem_of_getElem? hs)
        have hmk : s.l.length = (mkL mkH k s.l.length).length := mkL_len.symm
        obtain ⟨t, ht⟩ : ∃ t, gl[k]? = some t := ⟨_, List.getElem?_eq_getElem (by omega)⟩
        have hl2 : t.l = mkL mkH k (s.l.length + 64) := by rw [← hgl k s hs, List.getD_eq_getElem?_getD, ht]; rfl
        have hll : t.l.length = s.l.length + 64 := by rw [hl2, mkL_len]
        have hv1 := view_F3a (e := 24) (E := hashEn) (m := mkH) (gl := gl) hs
        have hv2 := view_F3b (e := 24) (E := hashEn) (m := mkH) hs ht
        refine c_skip ?_
        refine x_then ?_
        refine c_seq ?_
        refine c_block ?_
        refine c_seq ?_
        refine c_region ?_
        refine l_rd r_assign ?_
        refine l_nil ?_
        refine x_then ?_
        refine c_block ?_
        refine c_loopA (fun m E H => ∃ (i : Nat), E = [(10, vint (((i : Nat) : Int)))] ∧ H = [] ∧ m = t.l.length - i ∧ i ≤ t.l.length) [0, 3, 4, 5, 6, 7, 8, 9, 11, 12, 13, 14, 15, 16, 17, 18, 19, 20, 21, 22, 23, 24, 25, 26, 27, 28, 29, 30, 31, 32, 33, 34, 35, 36, 37, 38, 39, 40, 41, 42, 43, 44, 45, 46, 47, 48, 49, 50, 51, 52, 53, 54, 55, 56, 57, 58, 59, 60, 61, 62, 63, 64, 65, 66, 67, 68, 69, 70, 71, 72, 73, 74, 75, 76, 77, 78, 123, 124, 125, 126, 127, 128, 129, 130, 131, 132, 133, 134, 135, 136, 137, 138, 139, 140, 141, 142, 143, 144, 145, 146, 147, 148, 149, 150, 151, 152, 153, 154, 155, 156, 157, 158, 159, 160, 161, 162, 163, 164, 165, 166, 167, 168, 169, 170, 171, 172, 173, 174, 175, 176, 177, 178, 179, 180, 181, 182, 183, 184, 185, 186, 187, 188, 189, 190, 191, 192]  (t.l.length) ([(10, vint (((0 : Nat) : Int)))]) ([]) rfl rfl (⟨0, rfl, rfl, by omega, by omega⟩) (by repeat (first | exact trivial | refine ⟨⟨_, rfl, (by first | rfl | exact den_int (by omega))⟩, ?_⟩)) (by repeat (first | exact trivial | refine ⟨rfl, ?_⟩)) rfl (fun _ _ _ hI => ?_)
        obtain ⟨i, rfl, rfl, hmi, hi⟩ := hI
        refine c_seq ?_
        refine c_seq ?_
        refine c_region ?_
        refine l_rd r_move ?_
        refine l_rd r_move ?_
        refine l_rd r_move ?_
        first | refine l_ix (fun ad82 y82 hA82 h82 => ?_) | refine l_rd (r_indexT (hj := by omega)) ?_
        refine l_rd r_loadE ?_
        obtain rfl := opt_eq ht h82
        refine l_rd r_len ?_
        refine l_rd r_lss ?_
        refine l_nil ?_
        refine x_then ?_
        first | refine c_ifd rfl (fun h85 => ?_) (fun h85 => ?_) | refine c_ifn rfl (fun h85 => ?_) (fun h85 => ?_) | refine c_if rfl (fun h85 => ?_) (fun h85 => ?_)
        · refine c_skip ?_
          refine x_then ?_
          refine c_seq ?_
          refine c_block ?_
          refine c_seq ?_
          refine c_draw (.q 0 (.q 1 (.q 2 (.q 3 (.q 4 (.q 5 (.q 6 (.q 7 (.q 8 (.s 9 (.q 10 (.q 11 (.q 12 (.q 13 (.q 14 (.q 15 (.q 16 (.q 17 (.q 18 (.q 19 (.q 20 (.q 21 (.q 22 (.q 23 (.q 24 (.q 25 (.q 26 (.q 27 (.q 28 (.q 29 (.s 30 (.q 31 (.q 32 (.q 33 (.q 34 .nil))))))))))))))))))))))))))))))))))) [0, 50, 10042, 10018, 10027, 21900, 21901, 21902, 21903, 10041, 10045, 10063, 23300, 23301, 23302, 23303, 10067, 10068, 10075, 10084, 24850, 24851, 24852, 24853, 10106, 25900, 25901, 25902, 25903, 10125, 10129, 10138, 27050, 27051, 27052, 27053, 10150, 10154, 10163, 28800, 28801, 28802, 28803, 29450, 29451, 29452, 29453] (hm := by kernel_rfl) (hs := by kernel_rfl) (hk := by kernel_rfl) (hQ := fun d v c a w h => by cases d <;> exact h) (h := ?_)
          refine q_rd rfl r_move ?_
          refine q_rd rfl r_move ?_
          first | refine q_ix rfl (fun ad90 y90 hA90 h90 => ?_) | refine q_rd rfl (r_indexT (hj := by omega)) ?_
          refine q_rd rfl r_loadE ?_
          obtain rfl := opt_eq ht h90
          refine q_rd rfl r_move ?_
          first | refine q_ix rfl (fun ad93 y93 hA93 h93 => ?_) | refine q_rd rfl (r_indexT (hj := by omega)) ?_
          first | refine q_rd rfl r_load ?_ | refine q_rd rfl r_loadE ?_ | refine q_rd rfl (r_loadT (hj := by omega)) ?_
          refine q_rd rfl r_move ?_
          refine q_rd rfl r_move ?_
          refine s_call rfl 24850 [] (markHash_spec k i (by omega) (by omega)) Tryz.func86 (h := ?_)
          rintro _ _ (⟨rfl, rfl⟩)
          refine ⟨cov_of (by repeat (first | exact trivial | refine ⟨rfl, ?_⟩)), ?_⟩
          refine q_rd rfl r_eqH ?_
          refine k_knowC 98 true rfl (by rw [hl2] at h93; exact decide_eq_true (mkL_get h93)) ?_
          refine q_rd rfl r_not ?_
          refine q_rd rfl r_move ?_
          refine q_rd rfl r_move ?_
          refine q_rd rfl r_move ?_
          refine q_rd rfl r_move ?_
          first | refine q_ix rfl (fun ad104 y104 hA104 h104 => ?_) | refine q_rd rfl (r_indexT (hj := by omega)) ?_
          refine q_rd rfl r_loadE ?_
          obtain rfl := opt_eq hs h104
          refine q_rd rfl r_len ?_
          refine q_rd rfl r_lss ?_
          refine k_caseC 107 rfl (fun c107 => ?_) (fun c107 => ?_)
          · have c107b := of_decide_eq_true c107
            refine q_rd rfl r_move ?_
            refine q_rd rfl r_move ?_
            refine q_rd rfl r_move ?_
            first | refine q_ix rfl (fun ad111 y111 hA111 h111 => ?_) | refine q_rd rfl (r_indexT (hj := by omega)) ?_
            refine q_rd rfl r_loadE ?_
            obtain rfl := opt_eq hs h111
            refine q_rd rfl r_move ?_
            first | refine q_ix rfl (fun ad114 y114 hA114 h114 => ?_) | refine q_rd rfl (r_indexT (hj := by omega)) ?_
            first | refine q_rd rfl r_load ?_ | refine q_rd rfl r_loadE ?_ | refine q_rd rfl (r_loadT (hj := by omega)) ?_
            refine q_rd rfl r_move ?_
            refine q_rd rfl r_move ?_
            refine s_call rfl 25900 [] (markHash_spec k i (by omega) (by omega)) Tryz.func86 (h := ?_)
            rintro _ _ (⟨rfl, rfl⟩)
            refine ⟨cov_of (by repeat (first | exact trivial | refine ⟨rfl, ?_⟩)), ?_⟩
            refine q_rd rfl r_eqH ?_
            refine k_knowC 119 true rfl (decide_eq_true (mkL_get h114)) ?_
            refine q_rd rfl r_not ?_
            first | refine q_rd rfl r_and ?_ | refine q_rd rfl r_pickB ?_ | refine q_rd rfl r_pick ?_
            first | refine q_rd rfl r_or ?_ | refine q_rd rfl r_pickB ?_ | refine q_rd rfl r_pick ?_
            refine s_nil ?_
            refine x_then ?_
            refine c_false rfl ?_
            refine c_skip ?_
            refine x_in (x_then ?_)
            refine c_region ?_
            refine l_rd r_move ?_
            first | refine l_rd r_add ?_ | refine l_rd r_addW ?_
            refine l_rd r_assign ?_
            refine l_nil ?_
            refine x_then ?_
            refine k_again (t.l.length - (i + 1)) ⟨i + 1, rfl, rfl, by omega, by omega⟩ (by omega) (by repeat (first | exact trivial | refine ⟨⟨_, rfl, (by first | rfl | exact den_int (by omega))⟩, ?_⟩)) (by repeat (first | exact trivial | refine ⟨rfl, ?_⟩))
          · refine q_rd rfl r_move ?_
            refine q_skip rfl ?_
            refine q_skip rfl ?_
            refine q_skip rfl ?_
            refine q_skip rfl ?_
            refine q_skip rfl ?_
            refine q_skip rfl ?_
            refine q_skip rfl ?_
            refine q_skip rfl ?_
            refine q_skip rfl ?_
            refine s_skip rfl ?_
            refine q_skip rfl ?_
            refine q_skip rfl ?_
            first | refine q_rd rfl r_and ?_ | refine q_rd rfl r_pickB ?_ | refine q_rd rfl r_pick ?_
            first | refine q_rd rfl r_or ?_ | refine q_rd rfl r_pickB ?_ | refine q_rd rfl r_pick ?_
            refine s_nil ?_
            refine x_then ?_
            refine c_false rfl ?_
            refine c_skip ?_
            refine x_in (x_then ?_)
            refine c_region ?_
            refine l_rd r_move ?_
            first | refine l_rd r_add ?_ | refine l_rd r_addW ?_
            refine l_rd r_assign ?_
            refine l_nil ?_
            refine x_then ?_
            refine k_again (t.l.length - (i + 1)) ⟨i + 1, rfl, rfl, by omega, by omega⟩ (by omega) (by repeat (first | exact trivial | refine ⟨⟨_, rfl, (by first | rfl | exact den_int (by omega))⟩, ?_⟩)) (by repeat (first | exact trivial | refine ⟨rfl, ?_⟩))
        · refine c_exit ?_
          refine x_thenE (x_thenE (x_inE (x_in (x_then ?_))))
          refine c_region ?_
          refine l_rd r_move ?_
          first | refine l_rd r_add ?_ | refine l_rd r_addW ?_
          refine l_rd r_assign ?_
          refine l_nil ?_
          refine x_then ?_
          refine k_again (ss.length - (k + 1)) ⟨k + 1, rfl, rfl, by omega, by omega⟩ (by omega) (by repeat (first | exact trivial | refine ⟨⟨_, rfl, (by first | rfl | exact den_int (by omega))⟩, ?_⟩)) (by repeat (first | exact trivial | refine ⟨rfl, ?_⟩))
      · refine c_exit ?_
        refine x_thenE (x_thenE (x_inE (x_then ?_)))
        refine c_seq ?_
        refine c_seq ?_
        refine c_region ?_
        refine l_rd r_assign ?_
        refine l_nil ?_
        refine x_then ?_
        refine c_block ?_
        refine c_loopA (fun m E H => ∃ (k : Nat) (gl2 : List (Hd Hash)), E = [(11, vint (((k : Nat) : Int)))] ∧ H = [(10042, Res.rows (some ⟨g42, 0, none⟩) ss.length 55 (hdEn Hash 50) gl2), (50, Res.bag (ss.mapIdx (F3 24 hashEn mkH gl2)))] ∧ m = ss.length - k ∧ k ≤ ss.length ∧ (gl2.length = ss.length) ∧ (∀ j, j < k → ∀ s, ss[j]? = some s → mkL mkH j s.l.length <+: (gl2.getD j default).l)) [0, 3, 4, 5, 6, 7, 8, 9, 10, 14, 15, 16, 17, 18, 19, 20, 21, 22, 23, 24, 25, 26, 27, 28, 29, 30, 31, 32, 33, 34, 35, 36, 37, 38, 39, 40, 41, 42, 43, 44, 45, 46, 47, 48, 49, 50, 51, 52, 53, 54, 55, 56, 57, 58, 59, 60, 61, 62, 63, 64, 65, 66, 67, 68, 69, 70, 71, 72, 73, 74, 75, 76, 77, 78, 79, 80, 81, 82, 83, 84, 85, 86, 87, 88, 89, 90, 91, 92, 93, 94, 95, 96, 97, 98, 99, 100, 101, 102, 103, 104, 105, 106, 107, 108, 109, 110, 111, 112, 113, 114, 115, 116, 117, 118, 119, 120, 121, 122, 152, 153, 154, 155, 156, 157, 158, 159, 160, 161, 162, 163, 164, 165, 166, 167, 168, 169, 170, 171, 172, 173, 174, 175, 176, 177, 178, 179, 180, 181, 182, 183, 184, 185, 186, 187, 188, 189, 190, 191, 192]  (ss.length) ([(11, vint (((0 : Nat) : Int)))]) ([(10042, Res.rows (some ⟨g42, 0, none⟩) ss.length 55 (hdEn Hash 50) (gl)), (50, Res.bag (ss.mapIdx (F3 24 hashEn mkH (gl))))]) rfl rfl (⟨0, gl, rfl, rfl, by omega, by omega, hik0, (fun j hj => absurd hj (Nat.not_lt_zero j))⟩) (by repeat (first | exact trivial | refine ⟨⟨_, rfl, (by first | rfl | exact den_int (by omega))⟩, ?_⟩)) (by repeat (first | exact trivial | refine ⟨rfl, ?_⟩)) rfl (fun _ _ _ hI => ?_)
        obtain ⟨k, gl2, rfl, rfl, hmk, hk, hg2, hp2⟩ := hI
        refine c_seq ?_
        refine c_seq ?_
        refine c_region ?_
        refine l_rd r_move ?_
        refine l_rd r_move ?_
        refine l_rd r_len ?_
        refine l_rd r_lss ?_
        refine l_nil ?_
        refine x_then ?_
        first | refine c_ifd rfl (fun h126 => ?_) (fun h126 => ?_) | refine c_ifn rfl (fun h126 => ?_) (fun h126 => ?_) | refine c_if rfl (fun h126 => ?_) (fun h126 => ?_)
        · obtain ⟨s, hs⟩ : ∃ s, ss[k]? = some s := ⟨_, List.getElem?_eq_getElem (by omega)⟩
          have hsl := hln s (List.mem_of_getElem? hs)
          have hmk : s.l.length = (mkL mkH k s.l.length).length := mkL_len.symm
          refine k_out 50 51 k (r := F3 24 hashEn mkH gl2 k s) (mapIdx_get hs rfl) rfl ?_
          refine k_conv 51 (Res.two 24 hashEn s.A s.c (mkL mkH k s.l.length) s.A s.c (mkL mkH k s.l.length)) rfl (fun w h => two_of (two_rows h)) (fun b hb => (fp_two.1 hb).elim .inl .inl) ?_
          refine c_skip ?_
          refine x_then ?_
          refine c_seq ?_
          refine c_block ?_
          refine c_seq ?_
          refine c_region ?_
          refine l_do (d_makeSlice (m := 64)) (fun g129 => ?_)
          refine l_rd r_assign ?_
          refine l_nil ?_
          refine x_then ?_
          refine c_seq ?_
          refine c_seq ?_
          refine c_region ?_
          refine l_rd r_assign ?_
          refine l_nil ?_
          refine x_then ?_
          refine c_block ?_
          refine c_loopA (fun m E H => ∃ (i : Nat), E = [(13, vint (((i : Nat) : Int)))] ∧ H = [(10129, Res.rows (some ⟨g129, 0, none⟩) 64 24 hashEn (mkL mkH (k + ss.length) i ++ (List.replicate 64 hz).drop i))] ∧ m = 64 - i ∧ i ≤ 64) [0, 3, 4, 5, 6, 7, 8, 9, 10, 11, 12, 14, 15, 16, 17, 18, 19, 20, 21, 22, 23, 24, 25, 26, 27, 28, 29, 30, 31, 32, 33, 34, 35, 36, 37, 38, 39, 40, 41, 42, 43, 44, 45, 46, 47, 48, 49, 50, 51, 52, 53, 54, 55, 56, 57, 58, 59, 60, 61, 62, 63, 64, 65, 66, 67, 68, 69, 70, 71, 72, 73, 74, 75, 76, 77, 78, 79, 80, 81, 82, 83, 84, 85, 86, 87, 88, 89, 90, 91, 92, 93, 94, 95, 96, 97, 98, 99, 100, 101, 102, 103, 104, 105, 106, 107, 108, 109, 110, 111, 112, 113, 114, 115, 116, 117, 118, 119, 120, 121, 122, 123, 124, 125, 126, 127, 128, 129, 143, 144, 145, 146, 147, 148, 149, 150, 151, 152, 153, 154, 155, 156, 157, 158, 159, 160, 161, 162, 163, 164, 165, 166, 167, 168, 169, 170, 171, 172, 173, 174, 175, 176, 177, 178, 179, 180, 181, 182, 183, 184, 185, 186, 187, 188, 189, 190, 191, 192]  (64) ([(13, vint (((0 : Nat) : Int)))]) ([(10129, Res.rows (some ⟨g129, 0, none⟩) 64 24 hashEn (mkL mkH (k + ss.length) 0 ++ (List.replicate 64 hz).drop 0))]) rfl rfl (⟨0, rfl, rfl, by omega, by omega⟩) (by repeat (first | exact trivial | refine ⟨⟨_, rfl, (by first | rfl | exact den_int (by omega))⟩, ?_⟩)) (by repeat (first | exact trivial | refine ⟨rfl, ?_⟩)) rfl (fun _ _ _ hI => ?_)
          obtain ⟨i, rfl, rfl, hmi, hi⟩ := hI
          refine c_seq ?_
          refine c_seq ?_
          refine c_region ?_
          refine l_rd r_move ?_
          refine l_rd r_lss ?_
          refine l_nil ?_
          refine x_then ?_
          first | refine c_ifd rfl (fun h131 => ?_) (fun h131 => ?_) | refine c_ifn rfl (fun h131 => ?_) (fun h131 => ?_) | refine c_if rfl (fun h131 => ?_) (fun h131 => ?_)
          · have hm7 : 64 = (mkL mkH (k + ss.length) i ++ (List.replicate 64 hz).drop i).length := by rw [List.length_append, mkL_len, List.length_drop, List.length_replicate]; omega
            refine c_skip ?_
            refine x_then ?_
            refine c_seq ?_
            refine c_block ?_
            refine c_region ?_
            refine l_rd r_move ?_
            refine l_rd r_move ?_
            refine l_rd r_move ?_
            refine l_rd r_move ?_
            refine l_rd r_len ?_
            first | refine l_rd r_add ?_ | refine l_rd r_addW ?_
            refine l_rd r_move ?_
            refine l_call 27050 [] (markHash_spec (k + ss.length) i (by omega) (by omega)) Tryz.func86 (h := ?_)
            rintro _ _ (⟨rfl, rfl⟩)
            first | refine l_ix (fun ad142 y142 hA142 h142 => ?_) | refine l_rd (r_indexT (hj := by omega)) ?_
            first | refine l_do1 d_store ?_ | refine l_do1 d_storeE ?_
            refine l_nil ?_
            refine x_in (x_then ?_)
            refine c_region ?_
            refine l_rd r_move ?_
            first | refine l_rd r_add ?_ | refine l_rd r_addW ?_
            refine l_rd r_assign ?_
            refine l_nil ?_
            refine x_then ?_
            refine k_res 10129 (Res.rows (some ⟨g129, 0, none⟩) 64 24 hashEn (mkL mkH (k + ss.length) (i + 1) ++ (List.replicate 64 hz).drop (i + 1))) rfl (by rw [mkL_set (by rw [List.length_replicate]; omega)]) ?_
            refine k_again (64 - (i + 1)) ⟨i + 1, rfl, rfl, by omega, by omega⟩ (by omega) (by repeat (first | exact trivial | refine ⟨⟨_, rfl, (by first | rfl | exact den_int (by omega))⟩, ?_⟩)) (by repeat (first | exact trivial | refine ⟨rfl, ?_⟩))
          · obtain rfl : i = 64 := by omega
            have hm64 : 64 = (mkL mkH (k + ss.length) 64).length := mkL_len.symm
            have hm64b : (mkL mkH (k + ss.length) 64).length ≤ 1000 := by rw [mkL_len]; decide
            refine k_res 10129 (Res.rows (some ⟨g129, 0, none⟩) 64 24 hashEn (mkL mkH (k + ss.length) 64)) rfl (by rw [show (List.replicate 64 hz).drop 64 = [] from rfl, List.append_nil]) ?_
            refine c_exit ?_
            refine x_thenE (x_thenE (x_inE (x_then ?_)))
            refine c_region ?_
            refine l_rd r_move ?_
            refine l_rd r_move ?_
            refine l_rd r_move ?_
            refine l_rd r_move ?_
            first | refine l_ix (fun ad147 y147 hA147 h147 => ?_) | refine l_rd (r_indexT (hj := by omega)) ?_
            refine l_rd r_loadE ?_
            obtain rfl := opt_eq hs h147
            refine k_val 148 (vsl 51 s.A s.l.length s.c) rfl rfl ?_
            refine l_rd r_move ?_
            refine l_do (d_append2 (hb := by simp only [mkL_len]; omega)) (fun p150 => ?_)
            refine k_val 150 (vsl 50 p150.1 (mkL mkH k s.l.length ++ mkL mkH (k + ss.length) 64).length p150.2) rfl rfl ?_
            first | refine l_ix (fun ad151 y151 hA151 h151 => ?_) | refine l_rd (r_indexT (hj := by omega)) ?_
            refine l_do1 (d_storeE (u := y151) (u' := (⟨p150.1, p150.2, mkL mkH k s.l.length ++ mkL mkH (k + ss.length) 64⟩ : Hd Hash))) ?_
            refine l_nil ?_
            refine x_in (x_then ?_)
            refine c_region ?_
            refine l_rd r_move ?_
            first | refine l_rd r_add ?_ | refine l_rd r_addW ?_
            refine l_rd r_assign ?_
            refine l_nil ?_
            refine x_then ?_
            refine k_in 50 51 k (ss.mapIdx (F3 24 hashEn mkH (gl2.set k (⟨p150.1, p150.2, mkL mkH k s.l.length ++ mkL mkH (k + ss.length) 64⟩ : Hd Hash)))) (by rw [List.length_mapIdx]; omega) (mapIdx_set hs (by unfold F3; rw [hdD_set (by omega)]) F3_ne) rfl rfl ?_
            refine k_again (ss.length - (k + 1)) ⟨k + 1, gl2.set k (⟨p150.1, p150.2, mkL mkH k s.l.length ++ mkL mkH (k + ss.length) 64⟩ : Hd Hash), rfl, rfl, by omega, by omega, by rw [List.length_set, hg2], (fun j hj s2 hs2 => by by_cases e : j = k; (subst e; rw [hdD_set (by omega), opt_eq hs2 hs]; exact List.prefix_append _ _); (rw [hdD_ne e]; exact hp2 j (by omega) s2 hs2))⟩ (by omega) (by repeat (first | exact trivial | refine ⟨⟨_, rfl, (by first | rfl | exact den_int (by omega))⟩, ?_⟩)) (by repeat (first | exact trivial | refine ⟨rfl, ?_⟩))
        · refine c_exit ?_
          refine x_thenE (x_thenE (x_inE (x_then ?_)))
          refine c_seq ?_
          refine c_seq ?_
          refine c_region ?_
          refine l_rd r_assign ?_
          refine l_nil ?_
          refine x_then ?_
          refine c_block ?_
          have hgl2 : ∀ j s, ss[j]? = some s → mkL mkH j s.l.length <+: (gl2.getD j default).l := fun j s hj => hp2 j (by have := (List.getElem?_eq_some_iff.1 hj).1; omega) s hj
          refine c_loopA (fun m E H => ∃ (k : Nat), E = [(14, vint (((k : Nat) : Int)))] ∧ H = [] ∧ m = ss.length - k ∧ k ≤ ss.length) [0, 3, 4, 5, 6, 7, 8, 9, 10, 11, 12, 13, 16, 17, 18, 19, 20, 21, 22, 23, 24, 25, 26, 27, 28, 29, 30, 31, 32, 33, 34, 35, 36, 37, 38, 39, 40, 41, 42, 43, 44, 45, 46, 47, 48, 49, 50, 51, 52, 53, 54, 55, 56, 57, 58, 59, 60, 61, 62, 63, 64, 65, 66, 67, 68, 69, 70, 71, 72, 73, 74, 75, 76, 77, 78, 79, 80, 81, 82, 83, 84, 85, 86, 87, 88, 89, 90, 91, 92, 93, 94, 95, 96, 97, 98, 99, 100, 101, 102, 103, 104, 105, 106, 107, 108, 109, 110, 111, 112, 113, 114, 115, 116, 117, 118, 119, 120, 121, 122, 123, 124, 125, 126, 127, 128, 129, 130, 131, 132, 133, 134, 135, 136, 137, 138, 139, 140, 141, 142, 143, 144, 145, 146, 147, 148, 149, 150, 151]  (ss.length) ([(14, vint (((0 : Nat) : Int)))]) ([]) rfl rfl (⟨0, rfl, rfl, by omega, by omega⟩) (by repeat (first | exact trivial | refine ⟨⟨_, rfl, (by first | rfl | exact den_int (by omega))⟩, ?_⟩)) (by repeat (first | exact trivial | refine ⟨rfl, ?_⟩)) rfl (fun _ _ _ hI => ?_)
          obtain ⟨k, rfl, rfl, hmk, hk⟩ := hI
          refine c_seq ?_
          refine c_seq ?_
          refine c_region ?_
          refine l_rd r_move ?_
          refine l_rd r_move ?_
          refine l_rd r_len ?_
          refine l_rd r_lss ?_
          refine l_nil ?_
          refine x_then ?_
          first | refine c_ifd rfl (fun h155 => ?_) (fun h155 => ?_) | refine c_ifn rfl (fun h155 => ?_) (fun h155 => ?_) | refine c_if rfl (fun h155 => ?_) (fun h155 => ?_)
          · obtain ⟨s, hs⟩ : ∃ s, ss[k]? = some s := ⟨_, List.getElem?_eq_getElem (by omega)⟩
            have hsl := hln s (List.mem_of_getElem? hs)
            have hmk : s.l.length = (mkL mkH k s.l.length).length := mkL_len.symm
            obtain ⟨t, ht⟩ : ∃ t, gl2[k]? = some t := ⟨_, List.getElem?_eq_getElem (by omega)⟩
            have hpre : mkL mkH k s.l.length <+: t.l := by have := hgl2 k s hs; rwa [List.getD_eq_getElem?_getD, ht] at this
            have htl : s.l.length ≤ t.l.length := by have := hpre.length_le; rwa [mkL_len] at this
            have hv1 := view_F3a (e := 24) (E := hashEn) (m := mkH) (gl := gl2) hs
            have hv2 := view_F3b (e := 24) (E := hashEn) (m := mkH) hs ht
            refine c_skip ?_
            refine x_then ?_
            refine c_seq ?_
            refine c_block ?_
            refine c_seq ?_
            refine c_region ?_
            refine l_rd r_assign ?_
            refine l_nil ?_
            refine x_then ?_
            refine c_block ?_
            refine c_loopA (fun m E H => ∃ (i : Nat), E = [(15, vint (((i : Nat) : Int)))] ∧ H = [] ∧ m = s.l.length - i ∧ i ≤ s.l.length) [0, 3, 4, 5, 6, 7, 8, 9, 10, 11, 12, 13, 14, 16, 17, 18, 19, 20, 21, 22, 23, 24, 25, 26, 27, 28, 29, 30, 31, 32, 33, 34, 35, 36, 37, 38, 39, 40, 41, 42, 43, 44, 45, 46, 47, 48, 49, 50, 51, 52, 53, 54, 55, 56, 57, 58, 59, 60, 61, 62, 63, 64, 65, 66, 67, 68, 69, 70, 71, 72, 73, 74, 75, 76, 77, 78, 79, 80, 81, 82, 83, 84, 85, 86, 87, 88, 89, 90, 91, 92, 93, 94, 95, 96, 97, 98, 99, 100, 101, 102, 103, 104, 105, 106, 107, 108, 109, 110, 111, 112, 113, 114, 115, 116, 117, 118, 119, 120, 121, 122, 123, 124, 125, 126, 127, 128, 129, 130, 131, 132, 133, 134, 135, 136, 137, 138, 139, 140, 141, 142, 143, 144, 145, 146, 147, 148, 149, 150, 151, 152, 153, 154, 155, 156, 157]  (s.l.length) ([(15, vint (((0 : Nat) : Int)))]) ([]) rfl rfl (⟨0, rfl, rfl, by omega, by omega⟩) (by repeat (first | exact trivial | refine ⟨⟨_, rfl, (by first | rfl | exact den_int (by omega))⟩, ?_⟩)) (by repeat (first | exact trivial | refine ⟨rfl, ?_⟩)) rfl (fun _ _ _ hI => ?_)
            obtain ⟨i, rfl, rfl, hmi, hi⟩ := hI
            refine c_seq ?_
            refine c_seq ?_
            refine c_region ?_
            refine l_rd r_move ?_
            refine l_rd r_move ?_
            refine l_rd r_move ?_
            first | refine l_ix (fun ad161 y161 hA161 h161 => ?_) | refine l_rd (r_indexT (hj := by omega)) ?_
            refine l_rd r_loadE ?_
            obtain rfl := opt_eq hs h161
            refine l_rd r_len ?_
            refine l_rd r_lss ?_
            refine l_nil ?_
            refine x_then ?_
            first | refine c_ifd rfl (fun h164 => ?_) (fun h164 => ?_) | refine c_ifn rfl (fun h164 => ?_) (fun h164 => ?_) | refine c_if rfl (fun h164 => ?_) (fun h164 => ?_)
            · refine c_skip ?_
              refine x_then ?_
              refine c_seq ?_
              refine c_block ?_
              refine c_seq ?_
              refine c_draw (.q 0 (.q 1 (.q 2 (.q 3 (.q 4 (.q 5 (.q 6 (.q 7 (.q 8 (.s 9 (.q 10 (.q 11 (.q 12 (.q 13 (.q 14 (.q 15 (.q 16 (.q 17 (.q 18 (.q 19 (.q 20 (.q 21 (.s 22 (.q 23 (.q 24 (.q 25 .nil)))))))))))))))))))))))))) [0, 50, 10042, 10018, 10027, 21900, 21901, 21902, 21903, 10041, 10045, 10063, 23300, 23301, 23302, 23303, 10067, 10068, 10075, 10084, 24850, 24851, 24852, 24853, 10106, 25900, 25901, 25902, 25903, 10125, 10129, 10138, 27050, 27051, 27052, 27053, 10150, 10154, 10163, 28800, 28801, 28802, 28803, 29450, 29451, 29452, 29453] (hm := by kernel_rfl) (hs := by kernel_rfl) (hk := by kernel_rfl) (hQ := fun d v c a w h => by cases d <;> exact h) (h := ?_)
              refine q_rd rfl r_move ?_
              refine q_rd rfl r_move ?_
              first | refine q_ix rfl (fun ad169 y169 hA169 h169 => ?_) | refine q_rd rfl (r_indexT (hj := by omega)) ?_
              refine q_rd rfl r_loadE ?_
              obtain rfl := opt_eq hs h169
              refine q_rd rfl r_move ?_
              first | refine q_ix rfl (fun ad172 y172 hA172 h172 => ?_) | refine q_rd rfl (r_indexT (hj := by omega)) ?_
              first | refine q_rd rfl r_load ?_ | refine q_rd rfl r_loadE ?_ | refine q_rd rfl (r_loadT (hj := by omega)) ?_
              refine q_rd rfl r_move ?_
              refine q_rd rfl r_move ?_
              refine s_call rfl 28800 [] (markHash_spec k i (by omega) (by omega)) Tryz.func86 (h := ?_)
              rintro _ _ (⟨rfl, rfl⟩)
              refine ⟨cov_of (by repeat (first | exact trivial | refine ⟨rfl, ?_⟩)), ?_⟩
              refine q_rd rfl r_eqH ?_
              refine k_knowC 177 true rfl (decide_eq_true (mkL_get h172)) ?_
              refine q_rd rfl r_not ?_
              refine q_rd rfl r_move ?_
              refine q_rd rfl r_move ?_
              refine q_rd rfl r_move ?_
              first | refine q_ix rfl (fun ad182 y182 hA182 h182 => ?_) | refine q_rd rfl (r_indexT (hj := by omega)) ?_
              refine q_rd rfl r_loadE ?_
              obtain rfl := opt_eq ht h182
              refine q_rd rfl r_move ?_
              first | refine q_ix rfl (fun ad185 y185 hA185 h185 => ?_) | refine q_rd rfl (r_indexT (hj := by omega)) ?_
              first | refine q_rd rfl r_load ?_ | refine q_rd rfl r_loadE ?_ | refine q_rd rfl (r_loadT (hj := by omega)) ?_
              refine q_rd rfl r_move ?_
              refine q_rd rfl r_move ?_
              refine s_call rfl 29450 [] (markHash_spec k i (by omega) (by omega)) Tryz.func86 (h := ?_)
              rintro _ _ (⟨rfl, rfl⟩)
              refine ⟨cov_of (by repeat (first | exact trivial | refine ⟨rfl, ?_⟩)), ?_⟩
              refine q_rd rfl r_eqH ?_
              refine k_knowC 190 true rfl (decide_eq_true (mkL_pget hpre (by omega) h185)) ?_
              refine q_rd rfl r_not ?_
              first | refine q_rd rfl r_or ?_ | refine q_rd rfl r_pickB ?_ | refine q_rd rfl r_pick ?_
              refine s_nil ?_
              refine x_then ?_
              refine c_false rfl ?_
              refine c_skip ?_
              refine x_in (x_then ?_)
              refine c_region ?_
              refine l_rd r_move ?_
              first | refine l_rd r_add ?_ | refine l_rd r_addW ?_
              refine l_rd r_assign ?_
              refine l_nil ?_
              refine x_then ?_
              refine k_again (s.l.length - (i + 1)) ⟨i + 1, rfl, rfl, by omega, by omega⟩ (by omega) (by repeat (first | exact trivial | refine ⟨⟨_, rfl, (by first | rfl | exact den_int (by omega))⟩, ?_⟩)) (by repeat (first | exact trivial | refine ⟨rfl, ?_⟩))
            · refine c_exit ?_
              refine x_thenE (x_thenE (x_inE (x_in (x_then ?_))))
              refine c_region ?_
              refine l_rd r_move ?_
              first | refine l_rd r_add ?_ | refine l_rd r_addW ?_
              refine l_rd r_assign ?_
              refine l_nil ?_
              refine x_then ?_
              refine k_again (ss.length - (k + 1)) ⟨k + 1, rfl, rfl, by omega, by omega⟩ (by omega) (by repeat (first | exact trivial | refine ⟨⟨_, rfl, (by first | rfl | exact den_int (by omega))⟩, ?_⟩)) (by repeat (first | exact trivial | refine ⟨rfl, ?_⟩))
          · refine c_exit ?_
            refine x_thenE (x_thenE (x_inE (x_then ?_)))
            refine c_seq ?_
            refine c_region ?_
            refine l_rd r_assign ?_
            refine l_nil ?_
            refine x_then ?_
            refine c_ret ?_
            refine k_ret [] _ (.cons (.tmp rfl) .nil) (h := ?_)
            exact ⟨rfl, rfl⟩
end Go.Proofs.YtehhnfpfefccaaaGreat
