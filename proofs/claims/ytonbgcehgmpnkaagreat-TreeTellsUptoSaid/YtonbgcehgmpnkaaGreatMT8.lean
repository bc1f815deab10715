/- TreeTells: for every root, height, leaves and two ids: true. Upto form. -/
import Derived.Test.YtonbgcehgmpnkaaGreatMT7
import Derived.Test.YtonbgcehgmpnkaaGreatMT1
import Derived.WideKeyArr2
import Derived.OpenShut
import Derived.ChangeSame
import Derived.WalkKit
import Derived.ProofKit
import Derived.Test.YtonbgcehgmpnkaaGreatMT2
import Derived.Test.YtonbgcehgmpnkaaGreatRows
import Derived.ChangeArms
import Derived.Carry
import Derived.JoinedCond
/- TreeTells: the walk of the law. -/

set_option linter.unusedVariables false
set_option linter.unusedSimpArgs false
set_option maxRecDepth 100000
set_option maxHeartbeats 8000000
namespace Go.Proofs.YtonbgcehgmpnkaaGreat
open Go Go.RowKit HL
theorem fits_i64 (T : TypeId) {bytes : Nat} {z : SV} [TyA Tryz.prog T false 1 z bytes] (b : Int) : Fits Tryz.prog T (.int .i64 b) := fits_sv (P := Tryz.prog) (T := T) (v := .one (.i .i64 b)) rfl rfl
instance eqE_leaf : EqE Tryz.prog 37 leafEn := ⟨⟨3, by omega, eqV_struct
    [⟨Hash, inferInstance, hval, 2, LeafP.id, 23, 32, (HashT.key (P := Tryz.prog) (T := 23)).eq.v, fits_hash, size_hval⟩, ⟨Hash, inferInstance, hval, 2, LeafP.parent, 23, 32, (HashT.key (P := Tryz.prog) (T := 23)).eq.v, fits_hash, size_hval⟩,
      ⟨Int, inferInstance, Value.int .i64, 1, LeafP.height, 3, 1, (eqTy_int (UD.is (P := Tryz.prog) (T := 3))).v, fits_i64 _, fun _ => rfl⟩, ⟨Int, inferInstance, Value.int .i64, 1, LeafP.mark, 35, 1, (eqTy_int (UD.is (P := Tryz.prog) (T := 35))).v, fits_i64 _, fun _ => rfl⟩]
    Tryz.underlying37 (by kernel_rfl) (by kernel_rfl) (by kernel_rfl) (by intro F hF; simp at hF; rcases hF with rfl | rfl | rfl | rfl <;> simp) (fun x => SV.den_agg _) (fun x y => by cases x; cases y; simp [FE.same, Bool.decide_and])⟩, by kernel_rfl, rfl⟩
theorem rep_get {α : Type} {l : List α} {z : α} {k : Nat} : (List.replicate k z ++ l.drop k)[k]? = l[k]? := by
  rw [List.getElem?_append_right (by simp), List.length_replicate, Nat.sub_self, List.getElem?_drop]
  rfl
theorem rep_set {α : Type} {l : List α} {z : α} {k : Nat} (h : k < l.length) : (List.replicate k z ++ l.drop k).set k z = List.replicate (k + 1) z ++ l.drop (k + 1) := by
  rw [List.set_append_right _ _ (by simp), List.length_replicate, Nat.sub_self, List.drop_eq_getElem_cons h, List.set_cons_zero, List.replicate_succ', List.append_assoc]
  rfl
theorem tells_spec (root : Hash) (h : Int) (A : Option Addr) (l : List LeafP) (c : Nat) (a b : Hash) (hl : l.length ≤ 1048576) (hw : Wide64 l) : CSpec Tryz.prog 3 [.agg [.hash root], .one (.i .i64 h), .one (.sl 2 A l.length c), .agg [.hash a], .agg [.hash b]] [(2, Res.rd A leafEn l)] [] fun o L => o = .ret (vb true) ∧ L = [] := by
  have hnl : (([] : List LeafP) ++ l).length = l.length := rfl
  refine k_enter Tryz.func3 rfl rfl (h := fun w0 => ?_)
  refine c_seq ?_
  refine c_region ?_
  refine l_do d_box (fun g5 => ?_)
  refine l_do d_box (fun g8 => ?_)
  refine l_do d_box (fun g9 => ?_)
  refine l_rd r_assign ?_
  refine l_nil ?_
  refine x_then ?_
  refine c_seq ?_
  refine c_seq ?_
  refine c_region ?_
  refine l_rd r_move ?_
  refine l_rd r_len ?_
  refine l_rd r_gtr ?_
  refine l_nil ?_
  refine x_then ?_
  first | refine c_ifd rfl (fun h19 => ?_) (fun h19 => ?_) | refine c_ifn rfl (fun h19 => ?_) (fun h19 => ?_) | refine c_if rfl (fun h19 => ?_) (fun h19 => ?_)
  · refine c_seq ?_
    refine c_region ?_
    refine l_call 21000 [] (awake_spec) Tryz.func5 (h := ?_)
    rintro _ _ (⟨rfl, rfl⟩)
    refine l_rd r_assign ?_
    refine l_nil ?_
    refine x_then ?_
    refine c_ret ?_
    refine x_thenR ?_
    refine k_ret [] _ (.cons (.tmp rfl) .nil) (h := ?_)
    exact ⟨rfl, rfl⟩
  · refine c_skip ?_
    refine x_then ?_
    refine c_seq ?_
    refine c_region ?_
    refine l_do (d_bslice []) (fun B21 => ?_)
    refine l_rd r_move ?_
    refine l_do d_append (fun p23 => ?_)
    refine l_rd r_assign ?_
    refine l_nil ?_
    refine x_then ?_
    refine c_seq ?_
    refine c_region ?_
    first | refine l_rd r_load ?_ | refine l_rd r_loadE ?_ | refine l_rd (r_loadT (hj := by omega)) ?_
    refine l_rd r_move ?_
    refine l_rd r_move ?_
    refine l_call 21400 [] (new_spec root h p23.1 l p23.2 hl) Tryz.func6 (h := ?_)
    rintro _ _ (⟨hno, rfl, rfl⟩ | ⟨hok, g, gl, gk, xs, hks, rfl, rfl⟩)
    · refine l_rd r_move ?_
      first | refine l_rd r_extract ?_ | refine l_rd r_extractN ?_
      refine l_rd r_extract ?_
      refine l_rd r_assign ?_
      refine l_rd r_assign ?_
      refine l_nil ?_
      refine x_then ?_
      refine c_seq ?_
      refine c_draw (.q 0 (.q 1 (.q 2 (.s 3 (.s 4 (.q 5 (.q 6 (.q 7 (.q 8 (.q 9 .nil)))))))))) [2, 10005, 10008, 10009, 10018, 21000, 21001, 21002, 21003, 10021, 10023, 21400, 21401, 21402, 21403, 21750, 21751, 21752, 21753, 21800, 21801, 21802, 21803, 10041, 23500, 23501, 23502, 23503, 23750, 23751, 23752, 23753, 24050, 24051, 24052, 24053, 24200, 24201, 24202, 24203] (hm := by kernel_rfl) (hs := by kernel_rfl) (hk := by kernel_rfl) (hQ := fun d v c a w h => by cases d <;> exact h) (h := ?_)
      first | refine q_rd rfl r_load ?_ | refine q_rd rfl r_loadE ?_ | refine q_rd rfl (r_loadT (hj := by omega)) ?_
      refine q_rd rfl r_move ?_
      refine q_rd rfl r_move ?_
      refine s_call rfl 21750 [] (turned_spec A l c hl) Tryz.func8 (h := ?_)
      rintro _ _ (⟨At, ct, hct, rfl, rfl⟩)
      refine ⟨cov_of (by repeat (first | exact trivial | refine ⟨rfl, ?_⟩)), ?_⟩
      refine s_call rfl 21800 [] (rnew_spec root h At l ct hl) Tryz.func7 (h := ?_)
      rintro _ _ (⟨hno2, rfl, rfl⟩ | ⟨hok2, gm, Am, cm, rfl, rfl⟩)
      · refine ⟨cov_of (by repeat (first | exact trivial | refine ⟨rfl, ?_⟩)), ?_⟩
        refine q_rd rfl r_move ?_
        first | refine q_rd rfl r_extract ?_ | refine q_rd rfl r_extractN ?_
        refine q_rd rfl r_extract ?_
        refine q_rd rfl r_assign ?_
        refine q_rd rfl r_assign ?_
        refine s_nil ?_
        refine x_then ?_
        refine c_seq ?_
        refine c_seq ?_
        refine c_region ?_
        refine l_rd r_assign ?_
        refine l_nil ?_
        refine x_then ?_
        refine c_block ?_
        refine c_loopA (fun m E H => ∃ (k : Nat), E = [(16, vint (((k : Nat) : Int)))] ∧ H = [(10021, Res.rows p23.1 p23.2 37 leafEn (List.replicate k leaf0 ++ l.drop k))] ∧ m = l.length - k ∧ k ≤ l.length) [0, 1, 2, 3, 4, 5, 8, 9, 11, 12, 13, 14, 15, 17, 18, 19, 20, 21, 22, 23, 24, 25, 26, 27, 28, 29, 30, 31, 32, 33, 34, 35, 36, 37, 38, 58, 59, 60, 61, 62, 63, 64, 65, 66, 67, 68, 69, 70, 71, 72, 73, 74, 75, 76, 77, 78, 79, 80, 81, 82, 83, 84, 85]  (l.length) ([(16, vint (((0 : Nat) : Int)))]) ([(10021, Res.rows p23.1 p23.2 37 leafEn (List.replicate 0 leaf0 ++ l.drop 0))]) rfl rfl (⟨0, rfl, rfl, by omega, by omega⟩) (by repeat (first | exact trivial | refine ⟨⟨_, rfl, (by first | rfl | exact den_int (by omega))⟩, ?_⟩)) (by repeat (first | exact trivial | refine ⟨rfl, ?_⟩)) rfl (fun _ _ _ hI => ?_)
        obtain ⟨k, rfl, rfl, hmk, hk⟩ := hI
        refine c_seq ?_
        refine c_seq ?_
        refine c_region ?_
        refine l_rd r_move ?_
        refine l_rd r_move ?_
        refine l_rd r_len ?_
        refine l_rd r_lss ?_
        refine l_nil ?_
        refine x_then ?_
        first | refine c_ifd rfl (fun h42 => ?_) (fun h42 => ?_) | refine c_ifn rfl (fun h42 => ?_) (fun h42 => ?_) | refine c_if rfl (fun h42 => ?_) (fun h42 => ?_)
        · have hml : (([] : List LeafP) ++ l).length = (List.replicate k leaf0 ++ l.drop k).length := by rw [hnl, List.length_append, List.length_replicate, List.length_drop]; omega
          refine c_skip ?_
          refine x_then ?_
          refine c_seq ?_
          refine c_block ?_
          refine c_seq ?_
          refine c_seq ?_
          refine c_draw (.q 0 (.q 1 (.q 2 (.q 3 (.q 4 (.q 5 (.q 6 (.q 7 (.q 8 .nil))))))))) [2, 10005, 10008, 10009, 10018, 21000, 21001, 21002, 21003, 10021, 10023, 21400, 21401, 21402, 21403, 21750, 21751, 21752, 21753, 21800, 21801, 21802, 21803, 10041, 23500, 23501, 23502, 23503, 23750, 23751, 23752, 23753, 24050, 24051, 24052, 24053, 24200, 24201, 24202, 24203] (hm := by kernel_rfl) (hs := by kernel_rfl) (hk := by kernel_rfl) (hQ := fun d v c a w h => by cases d <;> exact h) (h := ?_)
          refine q_rd rfl r_move ?_
          refine q_rd rfl r_move ?_
          first | refine q_ix rfl (fun ad47 y47 hA47 h47 => ?_) | refine q_rd rfl (r_indexT (hj := by omega)) ?_
          first | refine q_rd rfl r_load ?_ | refine q_rd rfl r_loadE ?_ | refine q_rd rfl (r_loadT (hj := by omega)) ?_
          refine q_rd rfl r_move ?_
          refine q_rd rfl r_move ?_
          first | refine q_ix rfl (fun ad51 y51 hA51 h51 => ?_) | refine q_rd rfl (r_indexT (hj := by omega)) ?_
          first | refine q_rd rfl r_load ?_ | refine q_rd rfl r_loadE ?_ | refine q_rd rfl (r_loadT (hj := by omega)) ?_
          refine q_rd rfl r_neSt ?_
          refine k_knowC 53 false rfl (by rw [rep_get] at h47; rw [opt_eq h47 h51]; simp) ?_
          refine s_nil ?_
          refine x_then ?_
          refine c_false rfl ?_
          refine c_skip ?_
          refine x_then ?_
          refine c_region ?_
          refine l_rd r_move ?_
          refine l_rd r_move ?_
          refine l_rd r_build ?_
          first | refine l_ix (fun ad57 y57 hA57 h57 => ?_) | refine l_rd (r_indexT (hj := by omega)) ?_
          refine l_do1 (d_storeE (u' := leaf0)) ?_
          refine l_nil ?_
          refine x_in (x_then ?_)
          refine c_region ?_
          refine l_rd r_move ?_
          first | refine l_rd r_add ?_ | refine l_rd r_addW ?_
          refine l_rd r_assign ?_
          refine l_nil ?_
          refine x_then ?_
          refine k_res 10021 (Res.rows p23.1 p23.2 37 leafEn (List.replicate (k + 1) leaf0 ++ l.drop (k + 1))) rfl (by rw [rep_set (by omega)]) ?_
          refine k_again (l.length - (k + 1)) ⟨k + 1, rfl, rfl, by omega, by omega⟩ (by omega) (by repeat (first | exact trivial | refine ⟨⟨_, rfl, (by first | rfl | exact den_int (by omega))⟩, ?_⟩)) (by repeat (first | exact trivial | refine ⟨rfl, ?_⟩))
        · refine c_exit ?_
          refine x_thenE (x_thenE (x_inE (x_then ?_)))
          refine c_seq ?_
          refine c_seq ?_
          refine c_region ?_
          refine l_rd r_move ?_
          refine l_rd r_move ?_
          refine l_rd r_neq ?_
          refine l_rd r_move ?_
          refine l_rdG [] rfl (fun hg => r_move) ?_
          refine l_rdG [62] ⟨_, _, ⟨_, .inl ⟨rfl, rfl⟩⟩, rfl, rfl⟩ (fun hg => r_eqNilP) ?_
          refine l_rdG [] rfl (fun hg => r_move) ?_
          refine l_rdG [64] ⟨_, _, ⟨_, .inl ⟨rfl, rfl⟩⟩, rfl, rfl⟩ (fun hg => r_eqNilP) ?_
          refine l_rdG [63, 65] ⟨_, _, ⟨_, .inl ⟨rfl, rfl⟩⟩, ⟨_, _, ⟨_, .inl ⟨rfl, rfl⟩⟩, rfl, rfl⟩, rfl⟩ (fun hg => r_neB) ?_
          first | refine l_rd r_or ?_ | refine l_rd r_pickB ?_ | refine l_rd r_pick ?_
          refine l_nil ?_
          refine x_then ?_
          refine c_false rfl ?_
          refine c_skip ?_
          refine x_then ?_
          refine c_seq ?_
          refine c_seq ?_
          refine c_region ?_
          refine l_rd r_move ?_
          refine l_rd r_eqNilP ?_
          refine l_nil ?_
          refine x_then ?_
          refine c_true rfl ?_
          refine c_seq ?_
          refine c_region ?_
          refine l_call 23500 [] (awake_spec) Tryz.func5 (h := ?_)
          rintro _ _ (⟨rfl, rfl⟩)
          refine l_rd r_assign ?_
          refine l_nil ?_
          refine x_then ?_
          refine c_ret ?_
          refine x_thenR ?_
          refine k_ret [] _ (.cons (.tmp rfl) .nil) (h := ?_)
          exact ⟨rfl, rfl⟩
      · exact absurd hok2 hno
    · refine l_rd r_move ?_
      first | refine l_rd r_extract ?_ | refine l_rd r_extractN ?_
      refine l_rd r_extract ?_
      refine l_rd r_assign ?_
      refine l_rd r_assign ?_
      refine l_nil ?_
      refine x_then ?_
      refine c_seq ?_
      refine c_draw (.q 0 (.q 1 (.q 2 (.s 3 (.s 4 (.q 5 (.q 6 (.q 7 (.q 8 (.q 9 .nil)))))))))) [2, 10005, 10008, 10009, 10018, 21000, 21001, 21002, 21003, 10021, 10023, 21400, 21401, 21402, 21403, 21750, 21751, 21752, 21753, 21800, 21801, 21802, 21803, 10041, 23500, 23501, 23502, 23503, 23750, 23751, 23752, 23753, 24050, 24051, 24052, 24053, 24200, 24201, 24202, 24203] (hm := by kernel_rfl) (hs := by kernel_rfl) (hk := by kernel_rfl) (hQ := fun d v c a w h => by cases d <;> exact h) (h := ?_)
      first | refine q_rd rfl r_load ?_ | refine q_rd rfl r_loadE ?_ | refine q_rd rfl (r_loadT (hj := by omega)) ?_
      refine q_rd rfl r_move ?_
      refine q_rd rfl r_move ?_
      refine s_call rfl 21750 [] (turned_spec A l c hl) Tryz.func8 (h := ?_)
      rintro _ _ (⟨At, ct, hct, rfl, rfl⟩)
      refine ⟨cov_of (by repeat (first | exact trivial | refine ⟨rfl, ?_⟩)), ?_⟩
      refine s_call rfl 21800 [] (rnew_spec root h At l ct hl) Tryz.func7 (h := ?_)
      rintro _ _ (⟨hno2, rfl, rfl⟩ | ⟨hok2, gm, Am, cm, rfl, rfl⟩)
      · exact absurd hok hno2
      · refine ⟨cov_of (by repeat (first | exact trivial | refine ⟨rfl, ?_⟩)), ?_⟩
        refine q_rd rfl r_move ?_
        first | refine q_rd rfl r_extract ?_ | refine q_rd rfl r_extractN ?_
        refine q_rd rfl r_extract ?_
        refine q_rd rfl r_assign ?_
        refine q_rd rfl r_assign ?_
        refine s_nil ?_
        refine x_then ?_
        refine c_seq ?_
        refine c_seq ?_
        refine c_region ?_
        refine l_rd r_assign ?_
        refine l_nil ?_
        refine x_then ?_
        refine c_block ?_
        refine c_loopA (fun m E H => ∃ (k : Nat), E = [(16, vint (((k : Nat) : Int)))] ∧ H = [(10021, Res.rows p23.1 p23.2 37 leafEn (List.replicate k leaf0 ++ l.drop k))] ∧ m = l.length - k ∧ k ≤ l.length) [0, 1, 2, 3, 4, 5, 8, 9, 11, 12, 13, 14, 15, 17, 18, 19, 20, 21, 22, 23, 24, 25, 26, 27, 28, 29, 30, 31, 32, 33, 34, 35, 36, 37, 38, 58, 59, 60, 61, 62, 63, 64, 65, 66, 67, 68, 69, 70, 71, 72, 73, 74, 75, 76, 77, 78, 79, 80, 81, 82, 83, 84, 85]  (l.length) ([(16, vint (((0 : Nat) : Int)))]) ([(10021, Res.rows p23.1 p23.2 37 leafEn (List.replicate 0 leaf0 ++ l.drop 0))]) rfl rfl (⟨0, rfl, rfl, by omega, by omega⟩) (by repeat (first | exact trivial | refine ⟨⟨_, rfl, (by first | rfl | exact den_int (by omega))⟩, ?_⟩)) (by repeat (first | exact trivial | refine ⟨rfl, ?_⟩)) rfl (fun _ _ _ hI => ?_)
        obtain ⟨k, rfl, rfl, hmk, hk⟩ := hI
        refine c_seq ?_
        refine c_seq ?_
        refine c_region ?_
        refine l_rd r_move ?_
        refine l_rd r_move ?_
        refine l_rd r_len ?_
        refine l_rd r_lss ?_
        refine l_nil ?_
        refine x_then ?_
        first | refine c_ifd rfl (fun h42 => ?_) (fun h42 => ?_) | refine c_ifn rfl (fun h42 => ?_) (fun h42 => ?_) | refine c_if rfl (fun h42 => ?_) (fun h42 => ?_)
        · have hml : (([] : List LeafP) ++ l).length = (List.replicate k leaf0 ++ l.drop k).length := by rw [hnl, List.length_append, List.length_replicate, List.length_drop]; omega
          refine c_skip ?_
          refine x_then ?_
          refine c_seq ?_
          refine c_block ?_
          refine c_seq ?_
          refine c_seq ?_
          refine c_draw (.q 0 (.q 1 (.q 2 (.q 3 (.q 4 (.q 5 (.q 6 (.q 7 (.q 8 .nil))))))))) [2, 10005, 10008, 10009, 10018, 21000, 21001, 21002, 21003, 10021, 10023, 21400, 21401, 21402, 21403, 21750, 21751, 21752, 21753, 21800, 21801, 21802, 21803, 10041, 23500, 23501, 23502, 23503, 23750, 23751, 23752, 23753, 24050, 24051, 24052, 24053, 24200, 24201, 24202, 24203] (hm := by kernel_rfl) (hs := by kernel_rfl) (hk := by kernel_rfl) (hQ := fun d v c a w h => by cases d <;> exact h) (h := ?_)
          refine q_rd rfl r_move ?_
          refine q_rd rfl r_move ?_
          first | refine q_ix rfl (fun ad47 y47 hA47 h47 => ?_) | refine q_rd rfl (r_indexT (hj := by omega)) ?_
          first | refine q_rd rfl r_load ?_ | refine q_rd rfl r_loadE ?_ | refine q_rd rfl (r_loadT (hj := by omega)) ?_
          refine q_rd rfl r_move ?_
          refine q_rd rfl r_move ?_
          first | refine q_ix rfl (fun ad51 y51 hA51 h51 => ?_) | refine q_rd rfl (r_indexT (hj := by omega)) ?_
          first | refine q_rd rfl r_load ?_ | refine q_rd rfl r_loadE ?_ | refine q_rd rfl (r_loadT (hj := by omega)) ?_
          refine q_rd rfl r_neSt ?_
          refine k_knowC 53 false rfl (by rw [rep_get] at h47; rw [opt_eq h47 h51]; simp) ?_
          refine s_nil ?_
          refine x_then ?_
          refine c_false rfl ?_
          refine c_skip ?_
          refine x_then ?_
          refine c_region ?_
          refine l_rd r_move ?_
          refine l_rd r_move ?_
          refine l_rd r_build ?_
          first | refine l_ix (fun ad57 y57 hA57 h57 => ?_) | refine l_rd (r_indexT (hj := by omega)) ?_
          refine l_do1 (d_storeE (u' := leaf0)) ?_
          refine l_nil ?_
          refine x_in (x_then ?_)
          refine c_region ?_
          refine l_rd r_move ?_
          first | refine l_rd r_add ?_ | refine l_rd r_addW ?_
          refine l_rd r_assign ?_
          refine l_nil ?_
          refine x_then ?_
          refine k_res 10021 (Res.rows p23.1 p23.2 37 leafEn (List.replicate (k + 1) leaf0 ++ l.drop (k + 1))) rfl (by rw [rep_set (by omega)]) ?_
          refine k_again (l.length - (k + 1)) ⟨k + 1, rfl, rfl, by omega, by omega⟩ (by omega) (by repeat (first | exact trivial | refine ⟨⟨_, rfl, (by first | rfl | exact den_int (by omega))⟩, ?_⟩)) (by repeat (first | exact trivial | refine ⟨rfl, ?_⟩))
        · refine c_exit ?_
          refine x_thenE (x_thenE (x_inE (x_then ?_)))
          refine c_seq ?_
          refine c_seq ?_
          refine c_region ?_
          refine l_rd r_move ?_
          refine l_rd r_move ?_
          refine l_rd r_neq ?_
          refine l_rd r_move ?_
          refine l_rdG [] rfl (fun hg => r_move) ?_
          refine l_rdG [62] ⟨_, _, ⟨_, .inl ⟨rfl, rfl⟩⟩, rfl, rfl⟩ (fun hg => r_eqNilP) ?_
          refine l_rdG [] rfl (fun hg => r_move) ?_
          refine l_rdG [64] ⟨_, _, ⟨_, .inl ⟨rfl, rfl⟩⟩, rfl, rfl⟩ (fun hg => r_eqNilP) ?_
          refine l_rdG [63, 65] ⟨_, _, ⟨_, .inl ⟨rfl, rfl⟩⟩, ⟨_, _, ⟨_, .inl ⟨rfl, rfl⟩⟩, rfl, rfl⟩, rfl⟩ (fun hg => r_neB) ?_
          first | refine l_rd r_or ?_ | refine l_rd r_pickB ?_ | refine l_rd r_pick ?_
          refine l_nil ?_
          refine x_then ?_
          refine c_false rfl ?_
          refine c_skip ?_
          refine x_then ?_
          refine c_seq ?_
          refine c_seq ?_
          refine c_region ?_
          refine l_rd r_move ?_
          refine l_rd r_eqNilP ?_
          refine l_nil ?_
          refine x_then ?_
          refine c_false rfl ?_
          refine c_skip ?_
          refine x_then ?_
          refine c_seq ?_
          refine c_region ?_
          refine l_rd r_move ?_
          refine l_rd r_move ?_
          first | refine l_rd r_load ?_ | refine l_rd r_loadE ?_ | refine l_rd (r_loadT (hj := by omega)) ?_
          first | refine l_rd r_load ?_ | refine l_rd r_loadE ?_ | refine l_rd (r_loadT (hj := by omega)) ?_
          refine l_call 23750 [(200, 21801)] (same_spec g gl gk xs gm root h Am cm l a b hks hw hok) Tryz.func9 (h := ?_)
          rintro _ _ (⟨rfl, rfl⟩)
          refine l_rd r_move ?_
          refine l_rd r_move ?_
          refine l_rd r_move ?_
          first | refine l_rd r_load ?_ | refine l_rd r_loadE ?_ | refine l_rd (r_loadT (hj := by omega)) ?_
          first | refine l_rd r_load ?_ | refine l_rd r_loadE ?_ | refine l_rd (r_loadT (hj := by omega)) ?_
          refine l_call 24050 [(200, 21801)] (same_spec g gl gk xs gm root h Am cm l b root hks hw hok) Tryz.func9 (h := ?_)
          rintro _ _ (⟨rfl, rfl⟩)
          first | refine l_rd r_and ?_ | refine l_rd r_pickB ?_ | refine l_rd r_pick ?_
          refine l_rd r_move ?_
          refine l_call 24200 [] (awake_spec) Tryz.func5 (h := ?_)
          rintro _ _ (⟨rfl, rfl⟩)
          first | refine l_rd r_and ?_ | refine l_rd r_pickB ?_ | refine l_rd r_pick ?_
          refine l_rd r_assign ?_
          refine l_nil ?_
          refine x_then ?_
          refine c_ret ?_
          refine k_ret [] _ (.cons (.tmp rfl) .nil) (h := ?_)
          exact ⟨rfl, rfl⟩
end Go.Proofs.YtonbgcehgmpnkaaGreat
/- HEAP LIBRARY, third part: arguments that are hashes, read as data. My own text; it names no program. -/






set_option linter.unusedVariables false
set_option linter.unusedSimpArgs false
set_option linter.unusedSectionVars false
namespace Go.Proofs.YtonbgcehgmpnkaaGreat
namespace HL
open Go Go.RowKit Go.ChangeShapes Go.WideShapes Go.ChangeAt
section
variable {H : Type} {enc : TypeId × Value → H} {P : Program} {W : World} {base : Nat} {sp : Nat → Bool} {held : Bool} {T e : TypeId}
def hdat {H : Type} (h : Hash) : DataW H := .agg (h.toList.map fun b => .lit (.int .u8 b.toNat))
theorem wf_u8 {a : Int} (h : (Lit.int .u8 a).wf = true) : ∃ u : UInt8, a = u.toNat := by
  have h2 : 0 ≤ a ∧ a < 256 := by
    simp [Lit.wf, IntKind.min, IntKind.max, IntKind.signed, IntKind.bits] at h
    omega
  refine ⟨UInt8.ofNat a.toNat, ?_⟩
  rw [UInt8.toNat_ofNat_of_lt' (by simp; omega)]
  omega
theorem bytes_mapM (he : P.underlying e = some (.int .u8)) {m : Nat} : ∀ (cs : List Value) (xs : List (DataW H × List MemPlace)), cs.mapM (fun c => DataW.trod enc P W base sp held m e [c]) = some xs →
    ∃ bs : List UInt8, cs = bcells bs ∧ xs = bs.map fun b => (.lit (.int .u8 b.toNat), [])
  | [], xs, h => by
    simp at h
    subst h
    exact ⟨[], rfl, rfl⟩
  | c :: cs, xs, h => by
    rw [List.mapM_cons] at h
    simp only [bind, Option.bind_eq_some_iff, pure, Option.some.injEq] at h
    obtain ⟨y, hy, ys, hys, rfl⟩ := h
    obtain ⟨bs, rfl, rfl⟩ := bytes_mapM he cs ys hys
    obtain ⟨a, ea, rfl, wa⟩ := DataW.trod_int he hy
    obtain ⟨u, rfl⟩ := wf_u8 wa
    injection ea with ea
    subst ea
    exact ⟨u :: bs, rfl, rfl⟩
theorem mapM_range {α β : Type} (f : List α → Option β) (cs : List α) : (List.range cs.length).mapM (fun i => f ((cs.drop i).take 1)) = cs.mapM fun c => f [c] := by
  have gen : ∀ (cs : List α) (pre : List α), (List.range' pre.length cs.length).mapM (fun i => f (((pre ++ cs).drop i).take 1)) = cs.mapM fun c => f [c] := by
    intro cs
    induction cs with
    | nil => intro pre; rfl
    | cons c cs ih =>
      intro pre
      have h1 := ih (pre ++ [c])
      simp only [List.length_append, List.length_cons, List.length_nil, List.append_assoc, List.cons_append, List.nil_append] at h1
      simp only [List.length_cons, List.range'_succ, List.mapM_cons]
      rw [show List.range' (pre.length + 1) cs.length = List.range' (pre.length + (0 + 1)) cs.length from rfl, h1]
      simp
  have := gen cs []
  simpa [List.range_eq_range'] using this
theorem open_hash (hu : P.underlying T = some (.array 32 e)) (he : P.underlying e = some (.int .u8)) (hC : P.cellsOf T = 32) (hc : P.cellsOf e = 1) {v : Value} {d : DataW H} {ps : List MemPlace} (hv : isAggV v = true) (hd : DataW.Trod enc P W base sp held T v d ps) : ∃ h : Hash, v = hval h ∧ d = hdat h ∧ ps = [] := by
  obtain ⟨fuel, hf⟩ := hd
  cases fuel with
  | zero => simp [DataW.trod] at hf
  | succ m =>
    rw [DataW.trod_step] at hf
    unfold DataW.trodStep at hf
    simp only [hu] at hf
    split at hf
    · rename_i hl
      rw [hC] at hl
      simp only [Option.map_eq_some_iff, hc, Nat.mul_one] at hf
      obtain ⟨xs, hx, e1⟩ := hf
      have hr := mapM_range (fun c => DataW.trod enc P W base sp held m e c) v.cells.toList
      rw [hl] at hr
      rw [hr] at hx
      obtain ⟨bs, hb, rfl⟩ := bytes_mapM he _ _ hx
      have hbl : bs.length = 32 := by rw [hb, length_bcells] at hl; exact hl
      simp only [Prod.mk.injEq] at e1
      refine ⟨⟨bs.toArray, by simpa using hbl⟩, ?_, ?_, ?_⟩
      · cases v with
        | agg a =>
          simp only [Value.cells] at hb
          unfold hval
          rw [hcells_eq]
          congr 1
          apply Array.toList_inj.1
          simpa [Vector.toList] using hb
        | _ => cases hv
      · rw [← e1.1]
        unfold hdat
        simp [Vector.toList, Function.comp_def]
      · rw [← e1.2]
        simp [List.flatMap_eq_nil_iff]
    · cases hf
theorem shut_hash (hu : P.underlying T = some (.array 32 e)) (he : P.underlying e = some (.int .u8)) (hC : P.cellsOf T = 32) (hc : P.cellsOf e = 1) (h : Hash) : DataW.Trod enc P W base sp held T (hval h) (hdat h) [] := by
  refine ⟨2, ?_⟩
  rw [DataW.trod_step]
  unfold DataW.trodStep
  simp only [hu, hc, hC, Nat.mul_one, cells_hval]
  rw [if_pos (length_hcells h)]
  have hr := mapM_range (fun c => DataW.trod enc P W base sp held 1 e c) (hcells h)
  rw [length_hcells] at hr
  rw [hr]
  have hm : ∀ bs : List UInt8, (bcells bs).mapM (fun c => DataW.trod enc P W base sp held 1 e [c]) = some (bs.map fun b => (.lit (.int .u8 b.toNat), [])) := by
    intro bs
    induction bs with
    | nil => rfl
    | cons b bs ih =>
      have hw : (Lit.int .u8 (b.toNat : Int)).wf = true := by
        have := b.toNat_lt
        simp [Lit.wf, IntKind.min, IntKind.max, IntKind.signed, IntKind.bits]
        omega
      have h1 : DataW.trod enc P W base sp held 1 e [.int .u8 (b.toNat : Int)] = some (.lit (.int .u8 (b.toNat : Int)), []) := by
        unfold DataW.trod
        simp [he, hw]
      simp only [bcells, List.map_cons, List.mapM_cons, h1]
      have ih' := ih
      simp only [bcells] at ih'
      rw [ih']
      rfl
  rw [hcells_eq, hm]
  unfold hdat
  simp [Function.comp_def]
/-- Nothing that was there has turned. -/
theorem St.kept {w w' : World} {L : List Res} (h : St w w' No L) (may : MemPlace → Prop) : w.keptBut w' may := by
  refine ⟨h.os, h.output, fun i hi => ?_⟩
  rw [h.keep i hi id]
  cases w.heap[i]? with
  | none => trivial
  | some o =>
    cases o <;> simp
theorem St.frozen {w w' : World} {L : List Res} (h : St w w' No L) {a : Addr} (ha : a.block < w.heap.size) : w'.frozen? a = w.frozen? a := by
  unfold World.frozen?
  rw [h.keep a.block ha id]
/-- The end of a law: it told true, what was there is as it was, and reads as it did. -/
theorem law_post {P : Program} {f : Func} {s : ChangeSpec} {apart fresh handsOn again : Bool} {W W' : World} {args : Array Value} {v : Value} {ds gs : List (DataW H)} {before pa pv : List MemPlace} {L : List Res}
    (hW : DataW.Whole enc P f.params.toList s.vars apart W args.toList ds gs before) (hst : St W W' No L)
    (hres : ∀ (b : Nat) (sp : Nat → Bool) (hd : Bool), DataW.TrodAll enc P W' b sp hd f.resultTypes.toList (v.resultList f.resultTypes.size) (s.fn H (ds ++ gs)).results [])
    (hargs : ∀ sp : Nat → Bool, (∀ p ∈ before, sp p.block = true) → DataW.TrodAll enc P W' 0 sp true f.params.toList args.toList (s.fn H (ds ++ gs)).args pa)
    (hvars : ∀ sp : Nat → Bool, (∀ p ∈ before, sp p.block = true) → DataW.TrodVars enc P W' sp s.vars (s.fn H (ds ++ gs)).vars pv)
    (hps : before = pa ++ pv)
    (hok : ∀ (j : Nat) (t : TypeId) (r : Value), f.resultTypes[j]? = some t → (v.resultList f.resultTypes.size)[j]? = some r → Value.okWide P W' .any 0 t r) : s.post enc P f apart fresh handsOn again W args v W' := by
  have hlt := hW.lt
  have small : ∀ q ∈ before, (fun b => decide (b < W.heap.size)) q.block = true := fun q hq => decide_eq_true (hlt q hq)
  have eqs : ([] ++ pa) ++ pv = before := by rw [hps]; rfl
  refine ⟨ds, gs, before, [], pa, pv, hW, hres _ _ _, hargs _ small, hvars _ small, World.keptBut_mono (fun q hq => ⟨hq, ?_⟩) (hst.kept (· ∈ before)), fun _ => ?_⟩
  · subst hps
    exact .inr (List.mem_append.1 hq)
  obtain ⟨_, _, _, _, _, hz, hn⟩ := hW
  refine ⟨hok, _, _, ([] ++ pa) ++ pv, ⟨[] ++ pa, pv, trodAll_append (hargs _ (fun _ _ => rfl)) (hres _ _ _), hvars _ (fun _ _ => rfl), rfl, fun b off hq => ?_, fun ha => ?_⟩, fun q hq _ => ?_⟩
  · rw [eqs] at hq
    rw [hst.frozen (hlt _ hq)]
    exact hz b off hq
  · rw [eqs]
    exact hn ha
  · rwa [eqs] at hq
end
end HL
end Go.Proofs.YtonbgcehgmpnkaaGreat
/- ARGUMENTS READ AS DATA, and the end of a law's row. My own text; it names no program. -/






set_option linter.unusedVariables false
set_option linter.unusedSimpArgs false
set_option linter.unusedSectionVars false
namespace Go.Proofs.YtonbgcehgmpnkaaGreat
namespace HL
open Go Go.RowKit Go.ChangeShapes Go.WideShapes Go.ChangeAt
/-- What reads as data of type T is a value of α: its cells, what is known of it, how much it is. -/
structure Opn (P : Program) (T : TypeId) {α : Type} (f : α → List At) (Q : World → α → Prop) (z : α → Nat) : Prop where
  op : ∀ {H : Type} (enc : TypeId × Value → H) (W : World) (fuel : Nat) (cs : List Value) (x : DataW H × List MemPlace), DataW.trod enc P W 0 (fun _ => true) true fuel T cs = some x → ∃ a, cs = flat (vals (f a)) ∧ Q W a ∧ z a ≤ Rows.uptoBulk x.1
theorem bulk_one {H : Type} (d : DataW H) : 1 ≤ Rows.uptoBulk d := by
  cases d with
  | lit l => cases l <;> simp [Rows.uptoBulk]
  | nil => simp [Rows.uptoBulk]
  | ptr d => simp [Rows.uptoBulk]
  | slice elems spare => simp [Rows.uptoBulk]
  | agg parts => simp [Rows.uptoBulk]
  | iface t d => simp [Rows.uptoBulk]
  | map entries => simp [Rows.uptoBulk]
  | held h => simp [Rows.uptoBulk]
theorem flat_one (p : PV) : flat (vals [.one p]) = [p.den] := by
  show flat [p.den] = _
  rw [flat_single, p.cells_den]
def Rng (k : IntKind) (n : Int) : Prop := k.min ≤ n ∧ n ≤ k.max
section
variable {P : Program} {T e : TypeId}
theorem opn_int (k : IntKind) [hu : UD P T (.int k)] : Opn P T (fun n : Int => [.one (.i k n)]) (fun _ n => Rng k n) (fun _ => 1) := ⟨fun enc W fuel cs x h => by
  obtain ⟨n, rfl, rfl, hw⟩ := DataW.trod_int hu.is h
  refine ⟨n, (flat_one (.i k n)).symm, ?_, bulk_one _⟩
  simp [Lit.wf] at hw
  exact hw⟩
theorem opn_bool [hu : UD P T .bool] : Opn P T (fun n : Bool => [.one (.b n)]) (fun _ _ => True) (fun _ => 1) := ⟨fun enc W fuel cs x h => by
  obtain ⟨n, rfl, rfl⟩ := DataW.trod_bool hu.is h
  exact ⟨n, (flat_one (.b n)).symm, trivial, bulk_one _⟩⟩
theorem opn_string [hu : UD P T .string] : Opn P T (fun n : ByteArray => [.one (.s n)]) (fun _ n => n.size ≤ maxLen) (fun n => n.size + 1) := ⟨fun enc W fuel cs x h => by
  obtain ⟨n, rfl, rfl, hw⟩ := DataW.trod_string hu.is h
  refine ⟨n, (flat_one (.s n)).symm, hw, ?_⟩
  simp [Rows.uptoBulk]⟩
theorem opn_byte [hu : UD P T (.int .u8)] : Opn P T (fun n : UInt8 => [.one (.i .u8 n.toNat)]) (fun _ _ => True) (fun _ => 1) := ⟨fun enc W fuel cs x h => by
  obtain ⟨n, rfl, rfl, hw⟩ := DataW.trod_int hu.is h
  obtain ⟨u, rfl⟩ := wf_u8 hw
  exact ⟨u, (flat_one (.i .u8 u.toNat)).symm, trivial, bulk_one _⟩⟩
theorem opn_hash [hu : UD P T (.array 32 e)] [he : UD P e (.int .u8)] (hC : P.cellsOf T = 32 := by kernel_rfl) (hc : P.cellsOf e = 1 := by kernel_rfl) : Opn P T (fun h : Hash => [.hash h]) (fun _ _ => True) (fun _ => 1) := ⟨fun enc W fuel cs x h => by
  cases fuel with
  | zero => simp [DataW.trod] at h
  | succ m =>
    rw [DataW.trod_step] at h
    unfold DataW.trodStep at h
    simp only [hu.is] at h
    split at h
    · rename_i hl
      rw [hC] at hl
      simp only [Option.map_eq_some_iff, hc, Nat.mul_one] at h
      obtain ⟨xs, hx, e1⟩ := h
      have hr := mapM_range (fun c => DataW.trod enc P W 0 (fun _ => true) true m e c) cs
      rw [hl] at hr
      rw [hr] at hx
      obtain ⟨bs, hb, rfl⟩ := bytes_mapM he.is _ _ hx
      have hbl : bs.length = 32 := by rw [hb, length_bcells] at hl; exact hl
      refine ⟨⟨bs.toArray, by simpa using hbl⟩, ?_, trivial, bulk_one _⟩
      show cs = flat [hval _]
      rw [flat_single, cells_hval, hcells_eq, hb]
      simp [Vector.toList]
    · cases h⟩
theorem Opn.map {α β : Type} {f : α → List At} {Q : World → α → Prop} {z : α → Nat} (h : Opn P T f Q z) (g : α → β) {f' : β → List At} {Q' : World → β → Prop} {z' : β → Nat} (hf : ∀ a, f' (g a) = f a) (hQ : ∀ W a, Q W a → Q' W (g a)) (hz : ∀ a, z' (g a) ≤ z a) : Opn P T f' Q' z' := ⟨fun enc W fuel cs x hx => by
  obtain ⟨a, h1, h2, h3⟩ := h.op enc W fuel cs x hx
  exact ⟨g a, by rw [hf]; exact h1, hQ W a h2, Nat.le_trans (hz a) h3⟩⟩
/-! ### structs: field by field -/
/-- A field's opening, packed. -/
structure PO (P : Program) where
  T : TypeId
  α : Type
  f : α → List At
  Q : World → α → Prop
  z : α → Nat
  sz : Nat
  h : Opn P T f Q z
  hc : P.cellsOf T = sz
def Tup : List (PO P) → Type
  | [] => Unit
  | p :: ps => p.α × Tup ps
def Tup.f : (ps : List (PO P)) → Tup ps → List At
  | [], _ => []
  | p :: ps, (a, t) => p.f a ++ Tup.f ps t
def Tup.Q : (ps : List (PO P)) → World → Tup ps → Prop
  | [], _, _ => True
  | p :: ps, W, (a, t) => p.Q W a ∧ Tup.Q ps W t
def Tup.z : (ps : List (PO P)) → Tup ps → Nat
  | [], _ => 0
  | p :: ps, (a, t) => p.z a + Tup.z ps t
def offs : Nat → List (PO P) → List (TypeId × Nat)
  | _, [] => []
  | o, p :: ps => (p.T, o) :: offs (o + p.sz) ps
def total : List (PO P) → Nat
  | [] => 0
  | p :: ps => p.sz + total ps
theorem open_fields {H : Type} (enc : TypeId × Value → H) (W : World) (n : Nat) (cs : List Value) : ∀ (ps : List (PO P)) (o : Nat) (xs : List (DataW H × List MemPlace)), cs.length = o + total ps → xs.length = ps.length →
    (∀ (i : Nat) (t : TypeId) (o' : Nat), (offs o ps)[i]? = some (t, o') → DataW.trod enc P W 0 (fun _ => true) true n t ((cs.drop o').take (P.cellsOf t)) = xs[i]?) → ∃ a : Tup ps, cs.drop o = flat (vals (Tup.f ps a)) ∧ Tup.Q ps W a ∧ Tup.z ps a ≤ Rows.uptoBulkAll (xs.map (·.1))
  | [], o, xs, hl, hx, h => ⟨(), by
      have : cs.drop o = [] := List.drop_eq_nil_of_le (by simp [total] at hl; omega)
      rw [this]
      exact flat_nil.symm, trivial, Nat.zero_le _⟩
  | p :: ps, o, xs, hl, hx, h => by
    cases xs with
    | nil => simp at hx
    | cons x xs =>
      have h0 := h 0 p.T o rfl
      simp only [List.getElem?_cons_zero] at h0
      obtain ⟨a, h1, h2, h3⟩ := p.h.op enc W n _ x h0
      obtain ⟨t, q1, q2, q3⟩ := open_fields enc W n cs ps (o + p.sz) xs (by simp [total] at hl; omega) (by simpa using hx) (fun i t o' hi => by
        have := h (i + 1) t o' (by simpa [offs] using hi)
        simpa using this)
      refine ⟨(a, t), ?_, ⟨h2, q2⟩, ?_⟩
      · show cs.drop o = flat (vals (p.f a ++ Tup.f ps t))
        rw [vals_append, flat_append, ← h1, ← q1, p.hc, ← List.drop_drop]
        exact (List.take_append_drop _ _).symm
      · show p.z a + Tup.z ps t ≤ Rows.uptoBulkAll ((x :: xs).map (·.1))
        simp only [List.map_cons, Rows.uptoBulkAll]
        omega
theorem opn_struct {fs : Array Field} (ps : List (PO P)) (hu : P.underlying T = some (.struct fs)) (ho : fs.toList.map (fun f => (f.type, f.offset)) = offs 0 ps) (hc : P.cellsOf T = total ps) : Opn P T (Tup.f ps) (Tup.Q ps) (fun a => Tup.z ps a + 1) := ⟨fun enc W fuel cs x h => by
  obtain ⟨xs, n, rfl, rfl, hl, hxl, hf⟩ := DataW.trod_struct hu h
  have hlen : fs.size = ps.length := by
    have gen : ∀ (o : Nat) (ps : List (PO P)), (offs o ps).length = ps.length := by
      intro o ps
      induction ps generalizing o with
      | nil => rfl
      | cons p ps ih => simp [offs, ih]
    have := congrArg List.length ho
    rw [gen, List.length_map, Array.length_toList] at this
    exact this
  obtain ⟨a, h1, h2, h3⟩ := open_fields enc W n cs ps 0 xs (by rw [hl, hc]; omega) (by rw [hxl, hlen]) (fun i t o' hi => by
    rw [← ho, List.getElem?_map] at hi
    obtain ⟨f, hfi, he⟩ := Option.map_eq_some_iff.1 hi
    simp only [Prod.mk.injEq] at he
    obtain ⟨rfl, rfl⟩ := he
    exact hf i f (by simpa using hfi))
  refine ⟨a, by simpa using h1, h2, ?_⟩
  simp only [Rows.uptoBulk]
  omega⟩
/-! ### slices -/
structure Sl (α : Type) where
  A : Option Addr
  c : Nat
  l : List α
theorem cells_of {W : World} {a : Addr} {n : Nat} {cs : List Value} (h : W.cells? 0 a n = some cs) : CellsAt W a cs ∧ cs.length = n := by
  unfold World.cells? at h
  rw [if_pos (Nat.zero_le _)] at h
  have hl' : cs.length = n := by
    have := mapM_some_length h
    rw [List.length_range] at this
    exact this
  refine ⟨fun j u hj => ?_, hl'⟩
  have hlt := (List.getElem?_eq_some_iff.1 hj).1
  have := mapM_some_get h j j (by rw [List.getElem?_range (by omega)])
  rw [this, hj]
theorem cells_join {W : World} {a : Addr} : ∀ {vs : List (List Value)} {sz : Nat} {o : Nat}, (∀ v ∈ vs, v.length = sz) → (∀ i v, vs[i]? = some v → CellsAt W (a.add (o + i * sz)) v) → CellsAt W (a.add o) vs.flatten
  | [], _, _, _, _ => fun j u hu => by simp at hu
  | v :: vs, sz, o, hl, h => by
    have h0 := h 0 v rfl
    simp only [Nat.zero_mul, Nat.add_zero] at h0
    have ih := cells_join (W := W) (a := a) (vs := vs) (sz := sz) (o := o + sz) (fun u hu => hl u (List.mem_cons_of_mem _ hu)) (fun i u hi => by
      have := h (i + 1) u (by simpa using hi)
      rw [show o + sz + i * sz = o + (i + 1) * sz by rw [Nat.add_mul, Nat.one_mul]; omega]
      exact this)
    have hv := hl v (List.mem_cons_self ..)
    intro j u hj
    rw [List.flatten_cons] at hj
    rw [add_of_add]
    by_cases hlt : j < v.length
    · rw [List.getElem?_append_left hlt] at hj
      have := h0 j u hj
      rwa [add_of_add] at this
    · rw [List.getElem?_append_right (by omega), hv] at hj
      have := ih _ u hj
      rw [add_of_add] at this
      rwa [show o + sz + (j - sz) = o + j by omega] at this
theorem bulkAll_append {H : Type} (xs ys : List (DataW H)) : Rows.uptoBulkAll (xs ++ ys) = Rows.uptoBulkAll xs + Rows.uptoBulkAll ys := by
  induction xs with
  | nil => simp [Rows.uptoBulkAll]
  | cons x xs ih => simp only [List.cons_append, Rows.uptoBulkAll, ih]; omega
theorem opn_slice {α : Type} (E : En α) {Q : World → α → Prop} {z : α → Nat} [hu : UD P T (.slice e)] (h : Opn P e (fun x => (E.f x).ats) Q z) (id : Nat) (hc : P.cellsOf e = E.sz := by kernel_rfl) :
    Opn P T (fun s : Sl α => [.one (.sl id s.A s.l.length s.c)]) (fun W s => s.l.length ≤ s.c ∧ (Res.rd s.A E s.l).holds W ∧ ∀ x ∈ s.l, Q W x) (fun s => (s.l.map z).sum + 1) := ⟨fun enc W fuel cs x hx => by
  rcases DataW.trod_slice hu.is hx with ⟨rfl, rfl⟩ | ⟨a, len, cap, elems, rest, n, rfl, rfl, rfl, _, hlc, _, hel, hget, _, _⟩
  · refine ⟨⟨none, 0, []⟩, (flat_one (.sl id none 0 0)).symm, ⟨Nat.le_refl _, ?_, by simp⟩, by simp [Rows.uptoBulk]⟩
    unfold Res.rd Res.fact
    left
    unfold En.dens flat
    rfl
  · rw [hc] at hget
    -- element by element
    have gen : ∀ (k : Nat), k ≤ len → ∃ l : List α, l.length = k ∧ (∀ i y, l[i]? = some y → CellsAt W (a.add (i * E.sz)) (flat (vals (E.f y).ats))) ∧ (∀ y ∈ l, Q W y) ∧ (l.map z).sum ≤ Rows.uptoBulkAll ((elems.take k).map (·.1)) := by
      intro k
      induction k with
      | zero => exact fun _ => ⟨[], rfl, by simp, by simp, by simp⟩
      | succ k ih =>
        intro hk
        obtain ⟨l, h1, h2, h3, h4⟩ := ih (by omega)
        have hlt : k < elems.length := by omega
        have hg := hget k (by omega)
        rw [List.getElem?_eq_getElem hlt] at hg
        obtain ⟨cs, hcs, hy⟩ := Option.bind_eq_some_iff.1 hg
        obtain ⟨y, e1, q1, q2⟩ := h.op enc W n cs _ hy
        subst e1
        refine ⟨l ++ [y], by simp [h1], fun i u hi => ?_, fun u hu => ?_, ?_⟩
        · by_cases hil : i < l.length
          · rw [List.getElem?_append_left hil] at hi
            exact h2 i u hi
          · rw [List.getElem?_append_right (by omega)] at hi
            have : i - l.length = 0 := by
              have := (List.getElem?_eq_some_iff.1 hi).1
              simp at this
              omega
            rw [this] at hi
            simp at hi
            subst hi
            have : i = k := by omega
            subst this
            exact (cells_of hcs).1
        · rcases List.mem_append.1 hu with hu | hu
          · exact h3 u hu
          · rw [List.mem_singleton.1 hu]; exact q1
        · rw [List.take_succ_eq_append_getElem hlt, List.map_append, List.map_append, List.sum_append]
          rw [bulkAll_append]
          simp only [List.map_cons, List.map_nil, Rows.uptoBulkAll, List.sum_cons, List.sum_nil]
          omega
    obtain ⟨l, h1, h2, h3, h4⟩ := gen len (Nat.le_refl _)
    refine ⟨⟨some a, cap, l⟩, ?_, ⟨by rw [h1]; exact hlc, ?_, h3⟩, ?_⟩
    · rw [flat_one]
      show _ = [Value.slice (some a) l.length cap]
      rw [h1]
    · unfold Res.rd Res.fact
      refine .inr ⟨a, rfl, ?_⟩
      have := cells_join (W := W) (a := a) (vs := l.map fun y => flat (vals (E.f y).ats)) (sz := E.sz) (o := 0) (fun v hv => by
        obtain ⟨y, _, rfl⟩ := List.mem_map.1 hv
        rw [length_flat, szs_vals]
        exact (E.ok y).2) (fun i v hi => by
        rw [List.getElem?_map] at hi
        obtain ⟨y, hy, rfl⟩ := Option.map_eq_some_iff.1 hi
        rw [Nat.zero_add]
        exact h2 i y hy)
      rw [add_zero] at this
      have e1 : flat (E.dens l) = (l.map fun y => flat (vals (E.f y).ats)).flatten := by
        unfold En.dens
        clear h1 h2 h3 h4 this
        induction l with
        | nil => show flat [] = _; rw [flat_nil]; rfl
        | cons y l ih => rw [List.map_cons, flat_cons, ih, SV.cells_den]; rfl
      rw [e1]
      exact this
    · simp only [Rows.uptoBulk]
      rw [show elems.take len = elems by rw [← hel]; exact List.take_length] at h4
      show (l.map z).sum + 1 ≤ _
      omega⟩
/-! ### whole arguments -/
theorem opn_top {α : Type} {f : α → List At} {Q : World → α → Prop} {z : α → Nat} (h : Opn P T f Q z) (sv : α → SV) (hs : ∀ a, (sv a).ats = f a) {agg : Bool} (ha : ∀ a, (sv a).isAgg = agg) {H : Type} {enc : TypeId × Value → H} {W : World} {v : Value} {d : DataW H} {ps : List MemPlace} (hv : isAggV v = agg) (ht : DataW.Trod enc P W 0 (fun _ => true) true T v d ps) :
    ∃ a, v = (sv a).den ∧ Q W a ∧ z a ≤ Rows.uptoBulk d := by
  obtain ⟨fuel, hf⟩ := ht
  obtain ⟨a, h1, h2, h3⟩ := h.op enc W fuel _ _ hf
  refine ⟨a, ?_, h2, h3⟩
  rw [← hs, ← SV.cells_den] at h1
  have h4 := ha a
  rw [← (sv a).isAgg_den, ← hv] at h4
  generalize (sv a).den = u at h1 h4
  cases v <;> cases u <;> simp_all [Value.cells, isAggV]
theorem okw_agg {W : World} {b : Nat} {v : Value} {d : TypeDesc} (hu : P.underlying T = some d) (h : Value.okWide P W .any b T v) : isAggV v = (match d with | .struct _ | .array _ _ => true | _ => false) := by
  unfold Value.okWide at h
  rw [hu] at h
  cases d <;> simp only at h ⊢ <;> first
    | (obtain ⟨cs, rfl, _⟩ := h; rfl)
    | (unfold Cell.okWide Cell.ok at h; rw [hu] at h; cases v <;> simp_all [isAggV])
theorem St.below {w w' : World} {L : List Res} (h : St w w' No L) : Below w.heap.size w w' := ⟨h.os, h.tape, h.output, h.size, fun k hk => h.keep k hk id⟩
theorem St.noM {w w' : World} {M : Nat → Prop} {L : List Res} (h : St w w' M L) (hM : ∀ b, ¬ M b) : St w w' No L := by
  obtain rfl : M = No := funext fun b => propext ⟨fun h => (hM b h).elim, fun h => h.elim⟩
  exact h
theorem lk_all {B : Hp} {W : World} (h : ∀ p ∈ B, p.2.holds W) : ∀ i r, lk B i = some r → r.holds W := fun i r hi => by
  induction B with
  | nil => cases hi
  | cons p B ih =>
    obtain ⟨j, s⟩ := p
    rw [lk_cons] at hi
    split at hi
    · cases hi
      exact h _ (List.mem_cons_self ..)
    · exact ih (fun q hq => h q (List.mem_cons_of_mem _ hq)) hi
theorem args_below {H : Type} {enc : TypeId × Value → H} (hl : laidOutB P = true) {W W' : World} (hb : Below W.heap.size W W') : ∀ {ts : List TypeId} {vs : List Value} {ds : List (DataW H)} {ps : List MemPlace}, (ts.all fun t => P.readableRec t && decide (t < P.types.size)) = true → DataW.TrodAll enc P W 0 (fun _ => true) true ts vs ds ps → (∀ x ∈ ps, x.block < W.heap.size) →
    DataW.TrodAll enc P W' 0 (fun b => decide (b < W.heap.size)) true ts vs ds ps
  | [], vs, ds, ps, _, h, _ => by
    obtain ⟨rfl, rfl, rfl⟩ := trodAll_nil h
    exact rfl
  | t :: ts, vs, ds, ps, ht, h, hp => by
    obtain ⟨v, vs', d, ds', p, q, rfl, rfl, rfl, h1, h2⟩ := trodAll_cons h
    simp only [List.all_cons, Bool.and_eq_true, decide_eq_true_eq] at ht
    exact ⟨p, q, Below.trod hl ht.1.1 ht.1.2 h1 hb (fun x hx => hp x (List.mem_append_left _ hx)), args_below hl hb ht.2 h2 (fun x hx => hp x (List.mem_append_right _ hx)), rfl⟩
/-- The end of a law's row: it told true, what was there is as it was. -/
theorem row_post {f : Func} {s : ChangeSpec} {H : Type} {enc : TypeId × Value → H} {W W' : World} {args : Array Value} {ds gs : List (DataW H)} {before : List MemPlace} {L : List Res} {tb : TypeId} (hl : laidOutB P = true) (hv : s.vars = []) (hr : f.resultTypes = #[tb]) (hb : P.underlying tb = some .bool) (hrec : (f.params.toList.all fun t => P.readableRec t && decide (t < P.types.size)) = true)
    (hW : DataW.Whole enc P f.params.toList s.vars false W args.toList ds gs before) (hst : St W W' No L) (hs : gs = [] → (s.fn H (ds ++ gs)).results = [.lit (.bool true)] ∧ (s.fn H (ds ++ gs)).args = ds ∧ (s.fn H (ds ++ gs)).vars = []) : s.post enc P f false true false false W args (.bool true) W' := by
  have hlt := hW.lt
  obtain ⟨p, q, hA, hV, rfl, hfz, hnd⟩ := hW
  have hV' := hV
  rw [hv] at hV'
  obtain ⟨rfl, rfl⟩ := trodVars_none hV'
  obtain ⟨e1, e2, e3⟩ := hs rfl
  refine ⟨ds, [], p ++ [], [], p, [], ⟨p, [], hA, hV, rfl, hfz, hnd⟩, ?_, ?_, ?_, World.keptBut_mono (fun x hx => ⟨hx, .inr (.inl ?_)⟩) (hst.kept (· ∈ p ++ [])), fun h => by cases h⟩
  · rw [e1, hr]
    exact trodAll_mk1 (shut_bool hb true)
  · rw [e2]
    exact args_below hl hst.below hrec hA (fun x hx => hlt x (List.mem_append_left _ hx))
  · rw [e3, hv]
    exact rfl
  · simpa using hx
end
end HL
end Go.Proofs.YtonbgcehgmpnkaaGreat
/- TreeTells: for every root, height, leaves and two ids: true. Upto form. -/



set_option linter.unusedVariables false
set_option linter.unusedSimpArgs false
namespace Go.Proofs.YtonbgcehgmpnkaaGreat
open Go Go.RowKit HL Go.ChangeShapes Go.WideShapes Go.ChangeAt
/-- A leaf's opening. -/
theorem opn_leaf : Opn Tryz.prog 37 (fun x => (leafEn.f x).ats) (fun _ x => Rng .i64 x.height) (fun _ => 1) :=
  (opn_struct [⟨23, Hash, _, _, _, 32, opn_hash, by kernel_rfl⟩, ⟨23, Hash, _, _, _, 32, opn_hash, by kernel_rfl⟩, ⟨3, Int, _, _, _, 1, opn_int .i64, by kernel_rfl⟩, ⟨35, Int, _, _, _, 1, opn_int .i64, by kernel_rfl⟩]
    Tryz.underlying37 (by kernel_rfl) (by kernel_rfl)).map (fun a => (⟨a.1, a.2.1, a.2.2.1, a.2.2.2.1⟩ : LeafP)) (fun a => rfl) (fun W a h => h.2.2.1) (fun a => Nat.le_add_left ..)
theorem sum_ones {α : Type} (l : List α) : (l.map fun _ => 1).sum = l.length := by
  induction l with
  | nil => rfl
  | cons x l ih => rw [List.map_cons, List.sum_cons, ih, List.length_cons]; omega
theorem rng_wide {l : List LeafP} (h : ∀ x ∈ l, Rng .i64 x.height) : Wide64 l := fun x hx => h x hx
namespace TreeTells
theorem own : ownKnob Tryz.prog.godebug = none := by kernel_rfl
set_option maxRecDepth 100000 in
theorem contract (H : Type) (enc : TypeId × Value → H) (W : World) (base : Nat) (args : Array Value) (ds gs : List (DataW H)) (before : List MemPlace)
    (hval : ∀ (j : Nat) t v, Tryz.f3.params[j]? = some t → args[j]? = some v → Value.okWide Tryz.prog W .any base t v)
    (hW : DataW.Whole enc Tryz.prog Tryz.f3.params.toList Rows.treeTellsSpec.vars false W args.toList ds gs before) (hk : Rows.uptoSmall H (ds ++ gs) = true) :
    Calls Tryz.prog 3 args W fun e W' => ∃ v, e = .returned v ∧ Rows.treeTellsSpec.post enc Tryz.prog Tryz.f3 false true false false W args v W' := by
  have hW' := hW
  obtain ⟨p, q, hA0, hV, rfl, hfz, hnd⟩ := hW
  have hA : DataW.TrodAll enc Tryz.prog W 0 (fun _ => true) true Tryz.f3.params.toList args.toList ds p := hA0
  rw [Tryz.params3] at hA hval
  obtain ⟨v0, vs0, d0, ds0, p0, q0, hargs, rfl, rfl, h0, r0⟩ := trodAll_cons hA
  obtain ⟨v1, vs1, d1, ds1, p1, q1, rfl, rfl, rfl, h1, r1⟩ := trodAll_cons r0
  obtain ⟨v2, vs2, d2, ds2, p2, q2, rfl, rfl, rfl, h2, r2⟩ := trodAll_cons r1
  obtain ⟨v3, vs3, d3, ds3, p3, q3, rfl, rfl, rfl, h3, r3⟩ := trodAll_cons r2
  obtain ⟨v4, vs4, d4, ds4, p4, q4, rfl, rfl, rfl, h4, r4⟩ := trodAll_cons r3
  obtain ⟨rfl, rfl, rfl⟩ := trodAll_nil r4
  obtain rfl : args = #[v0, v1, v2, v3, v4] := by cases args; simp_all
  obtain ⟨rfl, rfl⟩ := trodVars_none hV
  obtain ⟨a0, rfl, y0, z0⟩ := opn_top opn_hash (fun h => .agg [.hash h]) (fun _ => rfl) (fun _ => rfl) (okw_agg Tryz.underlying23 (hval 0 _ v0 rfl rfl)) h0
  obtain ⟨a1, rfl, y1, z1⟩ := opn_top (opn_int .i64) (fun n => .one (.i .i64 n)) (fun _ => rfl) (fun _ => rfl) (okw_agg Tryz.underlying3 (hval 1 _ v1 rfl rfl)) h1
  obtain ⟨a2, rfl, y2, z2⟩ := opn_top (opn_slice leafEn opn_leaf 2) (fun s => .one (.sl 2 s.A s.l.length s.c)) (fun _ => rfl) (fun _ => rfl) (okw_agg Tryz.underlying24 (hval 2 _ v2 rfl rfl)) h2
  obtain ⟨a3, rfl, y3, z3⟩ := opn_top opn_hash (fun h => .agg [.hash h]) (fun _ => rfl) (fun _ => rfl) (okw_agg Tryz.underlying23 (hval 3 _ v3 rfl rfl)) h3
  obtain ⟨a4, rfl, y4, z4⟩ := opn_top opn_hash (fun h => .agg [.hash h]) (fun _ => rfl) (fun _ => rfl) (okw_agg Tryz.underlying23 (hval 4 _ v4 rfl rfl)) h4
  simp only [Rows.uptoSmall, decide_eq_true_eq, List.append_nil, Rows.uptoBulkAll] at hk
  rw [sum_ones] at z2
  obtain ⟨A, c, l⟩ := a2
  simp only at y2 z2
  refine (tells_spec a0 a1 A l c a3 a4 (by omega) (rng_wide y2.2.2) W (lk_all (by rintro p hp; obtain rfl := List.mem_singleton.1 hp; exact y2.2.1)) (by simp [live]) (by simp [live]) (by simp [live])).mono fun e W' ⟨o, L, he, ho, hst⟩ => ?_
  obtain ⟨rfl, rfl⟩ := ho
  subst he
  exact ⟨_, rfl, row_post (by kernel_rfl) rfl rfl Tryz.underlying4 (by kernel_rfl) hW' (hst.noM fun _ h => by obtain ⟨_, h, _⟩ := h; simp [live] at h) fun _ => ⟨rfl, rfl, rfl⟩⟩
set_option maxRecDepth 100000 in
theorem lifted (os : Os) (started : os.Started) (H : Type) (enc : TypeId × Value → H) (F : Stop.Interp) :
    ReturnsInHanded {} Tryz.checked os 3 .any ((Rows.OpenSpec.upto Rows.treeTellsSpec).pre6 enc Tryz.prog Tryz.f3 Rows.treeTellsUptoRow.domain false) (((Rows.OpenSpec.upto Rows.treeTellsSpec).at F).post enc Tryz.prog Tryz.f3 false true false false) := by
  refine returnsInHanded_of_cond (C := Tryz.checked) (s := Rows.OpenSpec.upto Rows.treeTellsSpec) (k := Rows.uptoSmall) rfl own started (by kernel_rfl) Tryz.func3
    (OpenSpec.witness (enc := enc) (C := Tryz.checked) (s := Rows.OpenSpec.upto Rows.treeTellsSpec) (k := Rows.uptoSmall) rfl false ⟨#[], #[.agg (Array.replicate 32 (.int .u8 0)), .int .i64 0, .slice none 0 0, .agg (Array.replicate 32 (.int .u8 0)), .agg (Array.replicate 32 (.int .u8 0))], []⟩ 8 (by kernel_rfl) (by kernel_rfl) (by kernel_rfl)
      (x := ([.agg (List.replicate 32 (.lit (.int .u8 0))), .lit (.int .i64 0), .nil, .agg (List.replicate 32 (.lit (.int .u8 0))), .agg (List.replicate 32 (.lit (.int .u8 0)))], [], [])) (by kernel_rfl) rfl (by kernel_rfl)) ?_
  intro W base args ds gs before hval hW _ hk _
  exact contract H enc W base args ds gs before hval hW hk
theorem proved : Rows.TreeTellsUptoSaid :=
  OpenClaim.holds_of_cond 3 Tryz.f3 rfl rfl rfl rfl rfl rfl rfl ⟨rfl, rfl, rfl, rfl, rfl⟩ rfl rfl rfl rfl rfl (by kernel_rfl) Tryz.func3 (by kernel_rfl)
    (of_decide_eq_true (by kernel_rfl)) (by unfold Func.isWrapper; first | (rw [if_pos (by decide +kernel)]; kernel_rfl) | (rw [if_neg (by decide +kernel)]; exact ⟨rfl, rfl⟩))
    (fun os started H enc _ F => lifted os started H enc F)
end TreeTells
end Go.Proofs.YtonbgcehgmpnkaaGreat
