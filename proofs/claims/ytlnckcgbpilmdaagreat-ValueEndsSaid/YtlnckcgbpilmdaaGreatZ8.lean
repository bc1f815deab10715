/- ValueEnds: called in whatever memory, it returns true. No condition. -/
import Derived.Test.YtlnckcgbpilmdaaGreatZ7
import Derived.Test.YtlnckcgbpilmdaaGreatZ1
import Derived.WideKeyArr2
import Derived.OpenShut
import Derived.ChangeSame
import Derived.WalkKit
import Derived.ProofKit
import Derived.Test.YtlnckcgbpilmdaaGreatZ2
import Derived.Test.YtlnckcgbpilmdaaGreatRows
import Derived.ChangeArms
import Derived.Carry
import Derived.JoinedCond
/- Wide numbers in order; totals that may be some. -/

set_option linter.unusedVariables false
set_option linter.unusedSimpArgs false
set_option maxRecDepth 100000
namespace Go.Proofs.YtlnckcgbpilmdaaGreat
open Go Go.RowKit HL
def sgn (a b : Int) : Int := if a < b then -1 else if b < a then 1 else 0
theorem nanI_spec (a : Int) : CSpec Tryz.prog 129 [.one (.i .i64 a)] [] [] fun o L => o = .ret (vb false) ∧ L = [] := by
  refine v_enter Tryz.func129 (h := fun w0 => ?_)
  refine v_code [] (hk := ?_)
  refine v_ret rfl [] (.cons (.tmp rfl) .nil) (h := ?_)
  exact ⟨outB (by simp), rfl⟩
theorem nanU_spec (a : Int) : CSpec Tryz.prog 130 [.one (.i .u64 a)] [] [] fun o L => o = .ret (vb false) ∧ L = [] := by
  refine v_enter Tryz.func130 (h := fun w0 => ?_)
  refine v_code [] (hk := ?_)
  refine v_ret rfl [] (.cons (.tmp rfl) .nil) (h := ?_)
  exact ⟨outB (by simp), rfl⟩
theorem compareI_spec (a b : Int) : CSpec Tryz.prog 82 [.one (.i .i64 a), .one (.i .i64 b)] [] [] fun o L => o = .ret (vint (sgn a b)) ∧ L = [] := by
  refine v_enter Tryz.func82 (h := fun w0 => ?_)
  refine v_code [] (hk := ?_)
  refine v_call 20400 [] (nanI_spec a) Tryz.func129 (h := ?_)
  rintro _ _ (⟨rfl, rfl⟩)
  refine v_know 8 false rfl rfl ?_
  refine v_ops [] (hk := ?_)
  refine v_call 20500 [] (nanI_spec b) Tryz.func129 (h := ?_)
  rintro _ _ (⟨rfl, rfl⟩)
  refine v_know 10 false rfl rfl ?_
  refine v_ops [] (hk := ?_)
  first | refine c_ifd rfl (fun h16 => ?_) (fun h16 => ?_) | refine c_ifn rfl (fun h16 => ?_) (fun h16 => ?_) | refine c_if rfl (fun h16 => ?_) (fun h16 => ?_)
  · refine v_code [] (hk := ?_)
    refine v_ret rfl [] (.cons (.tmp rfl) .nil) (h := ?_)
    refine ⟨outI ?_, rfl⟩
    unfold sgn
    exact (if_pos h16).symm
  · refine v_code [] (hk := ?_)
    first | refine c_ifd rfl (fun h19 => ?_) (fun h19 => ?_) | refine c_ifn rfl (fun h19 => ?_) (fun h19 => ?_) | refine c_if rfl (fun h19 => ?_) (fun h19 => ?_)
    · refine v_code [] (hk := ?_)
      refine v_ret rfl [] (.cons (.tmp rfl) .nil) (h := ?_)
      refine ⟨outI (a := 1) ?_, rfl⟩
      unfold sgn
      rw [if_neg h16, if_pos h19]
    · refine v_code [] (hk := ?_)
      refine v_ret rfl [] (.cons (.tmp rfl) .nil) (h := ?_)
      refine ⟨outI (a := 0) ?_, rfl⟩
      unfold sgn
      rw [if_neg h16, if_neg h19]
theorem compareU_spec (a b : Int) : CSpec Tryz.prog 83 [.one (.i .u64 a), .one (.i .u64 b)] [] [] fun o L => o = .ret (vint (sgn a b)) ∧ L = [] := by
  refine v_enter Tryz.func83 (h := fun w0 => ?_)
  refine v_code [] (hk := ?_)
  refine v_call 20400 [] (nanU_spec a) Tryz.func130 (h := ?_)
  rintro _ _ (⟨rfl, rfl⟩)
  refine v_know 8 false rfl rfl ?_
  refine v_ops [] (hk := ?_)
  refine v_call 20500 [] (nanU_spec b) Tryz.func130 (h := ?_)
  rintro _ _ (⟨rfl, rfl⟩)
  refine v_know 10 false rfl rfl ?_
  refine v_ops [] (hk := ?_)
  first | refine c_ifd rfl (fun h16 => ?_) (fun h16 => ?_) | refine c_ifn rfl (fun h16 => ?_) (fun h16 => ?_) | refine c_if rfl (fun h16 => ?_) (fun h16 => ?_)
  · refine v_code [] (hk := ?_)
    refine v_ret rfl [] (.cons (.tmp rfl) .nil) (h := ?_)
    refine ⟨outI ?_, rfl⟩
    unfold sgn
    exact (if_pos h16).symm
  · refine v_code [] (hk := ?_)
    first | refine c_ifd rfl (fun h19 => ?_) (fun h19 => ?_) | refine c_ifn rfl (fun h19 => ?_) (fun h19 => ?_) | refine c_if rfl (fun h19 => ?_) (fun h19 => ?_)
    · refine v_code [] (hk := ?_)
      refine v_ret rfl [] (.cons (.tmp rfl) .nil) (h := ?_)
      refine ⟨outI (a := 1) ?_, rfl⟩
      unfold sgn
      rw [if_neg h16, if_pos h19]
    · refine v_code [] (hk := ?_)
      refine v_ret rfl [] (.cons (.tmp rfl) .nil) (h := ?_)
      refine ⟨outI (a := 0) ?_, rfl⟩
      unfold sgn
      rw [if_neg h16, if_neg h19]
def wcmp (a b : WideP) : Int := if a = b then 0 else if a.hi < b.hi ∨ a.hi = b.hi ∧ a.lo < b.lo then -1 else 1
theorem wlt_iff {a b : WideP} : (decide (a.hi < b.hi) || decide (a.hi = b.hi) && decide (a.lo < b.lo)) = true ↔ (a.hi < b.hi ∨ a.hi = b.hi ∧ a.lo < b.lo) := by simp
theorem sgn_wcmp (a b : WideP) : ((List.find? (fun x => decide (x ≠ 0)) [sgn a.hi b.hi, sgn a.lo b.lo]).getD 0) = wcmp a b := by
  have e : a = b ↔ a.hi = b.hi ∧ a.lo = b.lo := by cases a; cases b; simp
  unfold wcmp sgn
  by_cases h1 : a.hi < b.hi
  · have h : ¬ a = b := fun h => by rw [h] at h1; omega
    simp [h1, h]
  · by_cases h2 : b.hi < a.hi
    · have h : ¬ a = b := fun h => by rw [h] at h2; omega
      have h3 : ¬ a.hi = b.hi := by omega
      simp [h1, h2, h, h3]
    · have h3 : a.hi = b.hi := by omega
      by_cases h4 : a.lo < b.lo
      · have h : ¬ a = b := fun h => by rw [h] at h4; omega
        simp [h3, h4, h]
      · by_cases h5 : b.lo < a.lo
        · have h : ¬ a = b := fun h => by rw [h] at h5; omega
          simp [h3, h4, h5, h]
        · have h : a = b := e.2 ⟨h3, by omega⟩
          subst h
          simp
theorem cmpR_spec (a b : WideP) : CSpec Tryz.prog 42 [.agg [.one (.i .i64 a.hi), .one (.i .u64 a.lo)], .agg [.one (.i .i64 b.hi), .one (.i .u64 b.lo)]] [] [] fun o L => o = .ret (vint (wcmp a b)) ∧ L = [] := by
  refine v_enter Tryz.func42 (h := fun w0 => ?_)
  refine v_code [] (hk := ?_)
  refine l_do d_box (fun g2 => ?_)
  refine l_do d_box (fun g3 => ?_)
  refine v_ops [] (hk := ?_)
  refine l_rd (r_eqSt (u := a) (v := b)) ?_
  refine v_ops [] (hk := ?_)
  first | refine c_ifd rfl (fun h5 => ?_) (fun h5 => ?_) | refine c_ifn rfl (fun h5 => ?_) (fun h5 => ?_) | refine c_if rfl (fun h5 => ?_) (fun h5 => ?_)
  · refine v_code [] (hk := ?_)
    refine v_ret rfl [] (.cons (.tmp rfl) .nil) (h := ?_)
    exact ⟨outI (a := 0) (by unfold wcmp; rw [if_pos h5]), rfl⟩
  · refine v_code [] (hk := ?_)
    first | refine c_ifd rfl (fun h9 => ?_) (fun h9 => ?_) | refine c_ifn rfl (fun h9 => ?_) (fun h9 => ?_) | refine c_if rfl (fun h9 => ?_) (fun h9 => ?_)
    · refine v_code [] (hk := ?_)
      refine v_ret rfl [] (.cons (.tmp rfl) .nil) (h := ?_)
      exact ⟨outI (by unfold wcmp; rw [if_neg h5, if_pos (wlt_iff.1 h9)]), rfl⟩
    · refine v_code [] (hk := ?_)
      refine v_ret rfl [] (.cons (.tmp rfl) .nil) (h := ?_)
      exact ⟨outI (a := 1) (by unfold wcmp; rw [if_neg h5, if_neg (fun h => by rw [wlt_iff.2 h] at h9; cases h9)]), rfl⟩
theorem cmp_spec (a b : WideP) : CSpec Tryz.prog 41 [.agg [.one (.i .i64 a.hi), .one (.i .u64 a.lo)], .agg [.one (.i .i64 b.hi), .one (.i .u64 b.lo)]] [] [] fun o L => o = .ret (vint (wcmp a b)) ∧ L = [] := by
  refine v_enter Tryz.func41 (h := fun w0 => ?_)
  refine v_code [] (hk := ?_)
  refine l_do d_box (fun g2 => ?_)
  refine l_do d_box (fun g3 => ?_)
  refine v_ops [] (hk := ?_)
  refine v_draw (.q 0 (.q 1 (.q 2 (.q 3 (.q 5 (.q 6 (.q 7 (.q 8 (.s 4 (.s 9 (.s 10 (.s 11 (.q 12 .nil))))))))))))) [10002, 10003, 20450, 20451, 20452, 20453, 20700, 20701, 20702, 20703, 10015, 20800, 20801, 20802, 20803] (hm := by kernel_rfl) (hs := by kernel_rfl) (hk := by kernel_rfl) (h := ?_)
  refine v_sch [] (hk := ?_)
  refine v_callS rfl 20450 [] (compareI_spec a.hi b.hi) Tryz.func82 (h := ?_)
  rintro _ _ (⟨rfl, rfl⟩)
  refine ⟨cov_of (by repeat (first | exact trivial | refine ⟨rfl, ?_⟩)), ?_⟩
  refine v_callS rfl 20700 [] (compareU_spec a.lo b.lo) Tryz.func83 (h := ?_)
  rintro _ _ (⟨rfl, rfl⟩)
  refine ⟨cov_of (by repeat (first | exact trivial | refine ⟨rfl, ?_⟩)), ?_⟩
  refine s_do rfl (d_bslice [sgn a.hi b.hi, sgn a.lo b.lo]) (fun B15 => ?_)
  refine v_callS rfl 20800 [] (cmpOr_spec B15 [sgn a.hi b.hi, sgn a.lo b.lo] 2 (by simp)) Tryz.func81 (h := ?_)
  rintro _ _ (⟨rfl, rfl⟩)
  refine ⟨cov_of (by repeat (first | exact trivial | refine ⟨rfl, ?_⟩)), ?_⟩
  refine v_sch [] (hk := ?_)
  refine v_ret rfl [] (.cons (.tmp rfl) .nil) (h := ?_)
  exact ⟨outI (sgn_wcmp a b), rfl⟩
def TotalsP (l : List TotalP) : Prop := (∀ x ∈ l, x.sum ≠ wz ∧ x.name.size ≤ 32) ∧ Rise TotalP.key l
instance {l : List TotalP} : Decidable (TotalsP l) := by unfold TotalsP; infer_instance
theorem tots_no {l : List TotalP} {k : Nat} {b : Bool} (hk : k < l.length) (h3 : b = true → ¬ nord (l.getD ((k : Int) - ((1 : Nat) : Int)).toNat total0).key (l.getD k total0).key < 0) (h : (decide ((l.getD k total0).sum = wz) || decide (32 < (l.getD k total0).name.size) || decide (0 < k) && b) = true) : ¬ TotalsP l := by
  have e : ((k : Int) - ((1 : Nat) : Int)).toNat = k - 1 := by omega
  rw [e] at h3
  simp only [Bool.or_eq_true, Bool.and_eq_true, decide_eq_true_eq] at h
  rintro ⟨h1, h2⟩
  have h4 := h1 _ (getD_mem (d := total0) hk)
  rcases h with (h | h) | ⟨h0, h⟩
  · exact h4.1 h
  · omega
  · exact rise_not (d := total0) hk h0 (h3 h) h2
theorem tots_yes {l : List TotalP} {k : Nat} {b : Bool} (h3 : b = false → nord (l.getD ((k : Int) - ((1 : Nat) : Int)).toNat total0).key (l.getD k total0).key < 0) (h : (decide ((l.getD k total0).sum = wz) || decide (32 < (l.getD k total0).name.size) || decide (0 < k) && b) = false) : ((l.getD k total0).sum ≠ wz ∧ (l.getD k total0).name.size ≤ 32) ∧ (0 < k → nord (l.getD (k - 1) total0).key (l.getD k total0).key < 0) := by
  have e : ((k : Int) - ((1 : Nat) : Int)).toNat = k - 1 := by omega
  rw [e] at h3
  simp only [Bool.or_eq_false_iff, Bool.and_eq_false_imp, decide_eq_false_iff_not, decide_eq_true_eq] at h
  exact ⟨⟨h.1.1, by omega⟩, fun h0 => h3 (h.2 h0)⟩
theorem totalsR_spec (A : Option Addr) (l : List TotalP) (c : Nat) (hl : l.length ≤ 1048576) : CSpec Tryz.prog 44 [.one (.sl 0 A l.length c)] [(0, Res.rd A totalEn l)] [] fun o L => o = .ret (vb (decide (TotalsP l))) ∧ L = [] := by
  refine v_enter Tryz.func44 (h := fun w0 => ?_)
  refine v_code [] (hk := ?_)
  refine v_loop (fun m E H => ∃ (k : Nat), E = [(3, vn k)] ∧ H = [] ∧ m = l.length - k ∧ k ≤ l.length ∧ (∀ x ∈ l.take k, x.sum ≠ wz ∧ x.name.size ≤ 32) ∧ (Rise TotalP.key (l.take k))) [0] (l.length) ([(3, vn 0)]) ([]) (h0 := ⟨0, rfl, rfl, by omega, by omega, by simp, List.Pairwise.nil⟩) (hr := ?_)
  rintro _ _ _ ⟨k, rfl, rfl, hmk, hk, hik0, hik1⟩
  refine v_code [] (hk := ?_)
  first | refine c_ifd rfl (fun h7 => ?_) (fun h7 => ?_) | refine c_ifn rfl (fun h7 => ?_) (fun h7 => ?_) | refine c_if rfl (fun h7 => ?_) (fun h7 => ?_)
  · refine v_code [] (hk := ?_)
    refine v_draw (.q 0 (.q 1 (.q 2 (.q 3 (.q 4 (.q 5 (.q 6 (.q 7 (.q 8 (.q 9 (.q 10 (.q 11 (.q 12 (.q 13 (.q 14 (.q 15 (.q 16 (.q 17 (.q 18 (.q 19 (.q 20 (.q 21 (.q 22 (.q 23 (.q 24 (.q 25 (.q 26 (.q 27 (.q 28 (.q 29 (.q 30 (.q 31 (.q 32 (.q 33 (.q 34 (.q 35 (.q 36 (.q 37 (.q 38 (.q 39 (.q 40 (.q 41 (.s 42 (.q 43 (.q 44 (.q 45 .nil)))))))))))))))))))))))))))))))))))))))))))))) [10006, 10023, 22600, 22601, 22602, 22603] (hm := by kernel_rfl) (hs := by kernel_rfl) (hk := by kernel_rfl) (h := ?_)
    refine v_sch [] (hk := ?_)
    refine q_rd rfl (r_eqSt (u := (l.getD k total0).sum) (v := wz)) ?_
    refine v_sch [] (hk := ?_)
    refine s_callG rfl [] [35, 41, 46, 51] ⟨_, _, ⟨_, .inl ⟨rfl, rfl⟩⟩, ⟨_, _, ⟨_, .inl ⟨rfl, rfl⟩⟩, ⟨_, _, ⟨_, .inl ⟨rfl, rfl⟩⟩, ⟨_, _, ⟨_, .inl ⟨rfl, rfl⟩⟩, rfl, rfl⟩, rfl⟩, rfl⟩, rfl⟩ (fun hg => orderR_spec (l.getD ((k : Int) - ((1 : Nat) : Int)).toNat total0).key (l.getD k total0).key) Tryz.func85 (h := ?_)
    refine v_sch [] (hk := ?_)
    first | refine c_ifd rfl (fun h55 => ?_) (fun h55 => ?_) | refine c_ifn rfl (fun h55 => ?_) (fun h55 => ?_) | refine c_if rfl (fun h55 => ?_) (fun h55 => ?_)
    · refine v_code [] (hk := ?_)
      refine v_ret rfl [] (.cons (.tmp rfl) .nil) (h := ?_)
      exact ⟨outB (decide_eq_false (tots_no h7 (fun q => by have := of_decide_eq_true q; omega) h55)).symm, rfl⟩
    · refine v_code [] (hk := ?_)
      refine v_again (l.length - (k + 1)) ⟨k + 1, rfl, rfl, by omega, by omega, all_takeD (d := total0) hik0 h7 (tots_yes (fun q => by have := of_decide_eq_false q; omega) h55).1, rise_step (d := total0) h7 hik1 (tots_yes (fun q => by have := of_decide_eq_false q; omega) h55).2⟩
  · refine v_code [] (hk := ?_)
    refine v_ret rfl [] (.cons (.tmp rfl) .nil) (h := ?_)
    rw [take_all' h7] at hik0 hik1
    exact ⟨outB (decide_eq_true ⟨hik0, hik1⟩).symm, rfl⟩
theorem totalsV_spec (A : Option Addr) (l : List TotalP) (c : Nat) (hl : l.length ≤ 1048576) : CSpec Tryz.prog 43 [.one (.sl 0 A l.length c)] [(0, Res.rd A totalEn l)] [] fun o L => o = .ret (vb (decide (TotalsP l))) ∧ L = [] := by
  refine v_enter Tryz.func43 (h := fun w0 => ?_)
  refine v_code [] (hk := ?_)
  refine v_loop (fun m E H => ∃ (k : Nat), E = [(8, vn k)] ∧ H = [] ∧ m = l.length - k ∧ k ≤ l.length ∧ (∀ x ∈ l.take k, x.sum ≠ wz ∧ x.name.size ≤ 32) ∧ (Rise TotalP.key (l.take k))) [0, 6, 7] (l.length) ([(8, vn 0)]) ([]) (h0 := ⟨0, rfl, rfl, by omega, by omega, by simp, List.Pairwise.nil⟩) (hr := ?_)
  rintro _ _ _ ⟨k, rfl, rfl, hmk, hk, hik0, hik1⟩
  refine v_code [] (hk := ?_)
  first | refine c_ifd rfl (fun h9 => ?_) (fun h9 => ?_) | refine c_ifn rfl (fun h9 => ?_) (fun h9 => ?_) | refine c_if rfl (fun h9 => ?_) (fun h9 => ?_)
  · refine v_code [] (hk := ?_)
    refine l_do d_alloc (fun g4 => ?_)
    refine v_ops [] (hk := ?_)
    refine l_do d_alloc (fun g5 => ?_)
    refine v_ops [] (hk := ?_)
    refine v_draw (.q 0 (.q 1 (.q 2 (.q 3 (.q 4 (.q 5 (.q 6 (.q 7 (.q 8 (.q 9 (.q 10 (.q 11 (.q 12 (.q 13 (.q 14 (.q 15 (.q 16 (.q 17 (.q 18 (.q 19 (.q 20 (.q 21 (.q 22 (.q 23 (.q 24 (.q 25 (.q 26 (.q 27 (.s 28 (.q 29 (.q 30 (.q 31 .nil)))))))))))))))))))))))))))))))) [10007, 10004, 10005, 10025, 22300, 22301, 22302, 22303] (hm := by kernel_rfl) (hs := by kernel_rfl) (hk := by kernel_rfl) (h := ?_)
    refine v_sch [] (hk := ?_)
    refine q_rd rfl (r_eqSt (u := (l.getD k total0).sum) (v := wz)) ?_
    refine v_sch [] (hk := ?_)
    refine s_callG rfl [] [32, 45] ⟨_, _, ⟨_, .inl ⟨rfl, rfl⟩⟩, ⟨_, _, ⟨_, .inl ⟨rfl, rfl⟩⟩, rfl, rfl⟩, rfl⟩ (fun hg => order_spec (l.getD k total0).key (l.getD ((k : Int) - ((1 : Nat) : Int)).toNat total0).key) Tryz.func84 (h := ?_)
    refine v_sch [] (hk := ?_)
    first | refine c_ifd rfl (fun h49 => ?_) (fun h49 => ?_) | refine c_ifn rfl (fun h49 => ?_) (fun h49 => ?_) | refine c_if rfl (fun h49 => ?_) (fun h49 => ?_)
    · refine v_code [] (hk := ?_)
      refine v_ret rfl [] (.cons (.tmp rfl) .nil) (h := ?_)
      exact ⟨outB (decide_eq_false (tots_no h9 (fun q => by have := of_decide_eq_true q; rw [nord_swap]; omega) h49)).symm, rfl⟩
    · refine v_code [] (hk := ?_)
      refine v_again (l.length - (k + 1)) ⟨k + 1, rfl, rfl, by omega, by omega, all_takeD (d := total0) hik0 h9 (tots_yes (fun q => by have := of_decide_eq_false q; rw [nord_swap]; omega) h49).1, rise_step (d := total0) h9 hik1 (tots_yes (fun q => by have := of_decide_eq_false q; rw [nord_swap]; omega) h49).2⟩
  · refine v_code [] (hk := ?_)
    refine v_ret rfl [] (.cons (.tmp rfl) .nil) (h := ?_)
    rw [take_all' h9] at hik0 hik1
    exact ⟨outB (decide_eq_true ⟨hik0, hik1⟩).symm, rfl⟩
end Go.Proofs.YtlnckcgbpilmdaaGreat
/- Rows of totals that are lent, and kept. -/

set_option linter.unusedVariables false
set_option linter.unusedSimpArgs false
set_option maxRecDepth 100000
namespace Go.Proofs.YtlnckcgbpilmdaaGreat
open Go Go.RowKit HL
abbrev lentM (l : List TotalP) : List TotalP := l ++ mkL mkTt 1 12
def lentT (v : SlT) : Res := Res.rows v.A v.c 75 totalEn (lentM v.l)
def SameRs (l m : List SlT) : Prop := l.map SlT.l = m.map SlT.l
theorem SameRs.snoc {l m : List SlT} {k : Nat} {d v : SlT} (h : SameRs m (l.take k)) (hk : k < l.length) (ha : v.l = (l.getD k d).l) : SameRs (m ++ [v]) (l.take (k + 1)) := by
  unfold SameRs at *
  rw [take_getD (d := d) hk, List.map_append, List.map_append, h]
  simp [ha]
theorem SameRs.len {l m : List SlT} (h : SameRs l m) : l.length = m.length := by
  have := congrArg List.length h
  simpa using this
theorem SameRs.at {l m : List SlT} (h : SameRs l m) {k : Nat} {d : SlT} (hk : k < m.length) : (l.getD k d).l = (m.getD k d).l := by
  have hl := h.len
  have h1 := congrArg (fun x => x[k]?) h
  simp only [List.getElem?_map, List.getElem?_eq_getElem hk, List.getElem?_eq_getElem (show k < l.length by omega), Option.map_some, Option.some.injEq] at h1
  rw [gD hk, gD (by omega)]
  exact h1
theorem SameRs.TL {l m : List SlT} (h : SameRs l m) : TL l = TL m := by
  unfold Go.Proofs.YtlnckcgbpilmdaaGreat.TL
  rw [List.flatMap_def, List.flatMap_def, h]
theorem keptTotals2_spec (A B : Option Addr) (l l' : List TotalP) (e : l = l') (c d : Nat) (hl : l.length ≤ 1048576) (hc : l.length + 12 ≤ c) : CSpec Tryz.prog 86 [.one (.sl 0 A l.length c), .one (.sl 1 B l'.length d)] [(0, Res.rd A totalEn (lentM l)), (1, Res.rd B totalEn l')] [] fun o L => o = .ret (vb true) ∧ L = [] := by
  subst e
  exact keptTotals_spec A B l c d hl hc
theorem lentRows_spec (A : Option Addr) (l : List SlT) (c : Nat) (hl : l.length ≤ 1000) (hs : ∀ v ∈ l, v.l.length ≤ 1048576) : CSpec Tryz.prog 34 [.one (.sl 0 A l.length c)] [(0, rdRows A l)] [] fun o L => ∃ B d m, SameRs m l ∧ m.length = l.length ∧ (∀ v ∈ m, v.l.length + 12 ≤ v.c) ∧ o = .ret (vsl 0 B m.length d) ∧ L = [Res.rows B d 36 sltEn m, Res.bag (m.map lentT)] := by
  refine v_enter Tryz.func34 (h := fun w0 => ?_)
  refine v_code [] (hk := ?_)
  refine k_nil 10018 36 sltEn ?_
  refine k_empty 900 ?_
  refine v_loop (fun m E H => ∃ (k : Nat) (mm : List SlT) (rs : List Res) (A2 : Option Addr) (c2 : Nat), E = [(4, vn k), (3, vsl 10018 A2 mm.length c2)] ∧ H = [(10018, Res.rows A2 c2 36 sltEn mm), (900, Res.bag rs)] ∧ m = l.length - k ∧ k ≤ l.length ∧ (SameRs mm (l.take k)) ∧ (mm.length = k) ∧ (rs = mm.map lentT) ∧ (∀ v ∈ mm, v.l.length + 12 ≤ v.c)) [0, 2, 19] (l.length) ([(4, vn 0), (3, vsl 10018 (none) ([]).length (0))]) ([(10018, Res.rows (none) (0) 36 sltEn ([])), (900, Res.bag ([]))]) (h0 := ⟨0, [], [], none, 0, rfl, rfl, by omega, by omega, rfl, rfl, rfl, by simp⟩) (hr := ?_)
  rintro _ _ _ ⟨k, mm, rs, A2, c2, rfl, rfl, hmk, hk, hik0, hik1, hik2, hik3⟩
  refine v_code [] (hk := ?_)
  first | refine c_ifd rfl (fun h8 => ?_) (fun h8 => ?_) | refine c_ifn rfl (fun h8 => ?_) (fun h8 => ?_) | refine c_if rfl (fun h8 => ?_) (fun h8 => ?_)
  · have hv := hs _ (getD_mem (d := slt0) h8)
    refine v_code [] (hk := ?_)
    refine v_call 20800 [] (lentTotals_spec (l.getD k slt0).A (l.getD k slt0).l (l.getD k slt0).c hv) Tryz.func78 (h := ?_)
    rintro _ _ (⟨B, d, hd, rfl, rfl⟩)
    refine l_do (d_bslice (E := sltEn) (hE := ⟨⟩) [(⟨B, d, (l.getD k slt0).l⟩ : SlT)]) (fun B17 => ?_)
    refine l_do d_append (fun p18 => ?_)
    refine v_ops [] (hk := ?_)
    refine k_push 900 20800 rfl rfl ?_
    refine v_again (l.length - (k + 1)) ⟨k + 1, mm ++ [⟨B, d, (l.getD k slt0).l⟩], rs ++ [lentT ⟨B, d, (l.getD k slt0).l⟩], p18.1, p18.2, rfl, rfl, by omega, by omega, hik0.snoc (d := slt0) h8 rfl, by simp [hik1], by rw [hik2, List.map_append]; rfl, all_snoc hik3 hd⟩
  · rw [take_all' h8] at hik0
    subst hik2
    refine v_code [] (hk := ?_)
    refine k_ret [10018, 900] (vsl 0 A2 mm.length c2) (.cons (.tmp rfl) .nil) (h := ?_)
    exact ⟨A2, c2, mm, hik0, by omega, hik3, rfl, rfl⟩
theorem keptRows_spec (A B : Option Addr) (m l : List SlT) (c d : Nat) (hl : l.length ≤ 1000) (hs : SameRs m l) (hz : ∀ v ∈ m, v.l.length ≤ 1048576) (hcs : ∀ v ∈ m, v.l.length + 12 ≤ v.c) : CSpec Tryz.prog 45 [.one (.sl 0 A m.length c), .one (.sl 1 B l.length d)] [(0, Res.rd A sltEn m), (60, Res.bag (m.map lentT)), (1, rdRows B l)] [] fun o L => o = .ret (vb true) ∧ L = [] := by
  have hml := hs.len
  refine v_enter Tryz.func45 (h := fun w0 => ?_)
  refine v_code [] (hk := ?_)
  first | refine c_ifd rfl (fun h10 => ?_) (fun h10 => ?_) | refine c_ifn rfl (fun h10 => ?_) (fun h10 => ?_) | refine c_if rfl (fun h10 => ?_) (fun h10 => ?_)
  · refine v_code [] (hk := ?_)
    refine v_ret rfl [] (.cons (.tmp rfl) .nil) (h := ?_)
    exact absurd hml h10
  · refine v_code [] (hk := ?_)
    refine v_loop (fun m E H => ∃ (k : Nat), E = [(5, vn k)] ∧ H = [] ∧ m = l.length - k ∧ k ≤ l.length) [0, 1] (l.length) ([(5, vn 0)]) ([]) (h0 := ⟨0, rfl, rfl, by omega, by omega⟩) (hr := ?_)
    rintro _ _ _ ⟨k, rfl, rfl, hmk, hk⟩
    refine v_code [] (hk := ?_)
    first | refine c_ifd rfl (fun h14 => ?_) (fun h14 => ?_) | refine c_ifn rfl (fun h14 => ?_) (fun h14 => ?_) | refine c_if rfl (fun h14 => ?_) (fun h14 => ?_)
    · have hlk : k < l.length := by omega
      have hmk : k < m.length := by omega
      have hmem := getD_mem (d := slt0) hmk
      refine v_code [] (hk := ?_)
      refine v_draw (.q 0 (.q 1 (.q 2 (.q 3 (.q 4 (.q 5 (.q 6 (.q 7 (.s 8 (.q 9 .nil)))))))))) [10007, 10009, 10013, 21250, 21251, 21252, 21253] (hm := by kernel_rfl) (hs := by kernel_rfl) (hk := by kernel_rfl) (h := ?_)
      refine v_sch [] (hk := ?_)
      refine v_callDS rfl 21250 [] (keptTotals2_spec (m.getD k slt0).A (l.getD k slt0).A (m.getD k slt0).l (l.getD k slt0).l (hs.at (d := slt0) hlk) (m.getD k slt0).c (l.getD k slt0).c (hz _ hmem) (hcs _ hmem)) Tryz.func86 (hB := ⟨⟨_, (Der.bag 60 rfl (List.mem_map_of_mem hmem) view_rows), rfl⟩, ⟨⟨_, (Der.vw 1 rfl (view_rdn k 0 hlk)), rfl⟩, trivial⟩⟩) (h := ?_)
      rintro _ _ (⟨rfl, rfl⟩)
      refine ⟨cov_of (by repeat (first | exact trivial | refine ⟨rfl, ?_⟩)), ?_⟩
      refine v_knowC 25 true rfl rfl ?_
      refine v_sch [] (hk := ?_)
      refine v_again (l.length - (k + 1)) ⟨k + 1, rfl, rfl, by omega, by omega⟩
    · refine v_code [] (hk := ?_)
      refine v_ret rfl [] (.cons (.tmp rfl) .nil) (h := ?_)
      exact ⟨rfl, rfl⟩
end Go.Proofs.YtlnckcgbpilmdaaGreat
/- ValueWides, walked. -/

set_option linter.unusedVariables false
set_option linter.unusedSimpArgs false
set_option maxRecDepth 100000
set_option maxHeartbeats 8000000
namespace Go.Proofs.YtlnckcgbpilmdaaGreat
open Go Go.RowKit HL
theorem lentT_each {B L : Hp} {l : List SlT} (j : Nat) (h : lk2 B L j = some (Res.bag (l.map lentT)) := by rfl) : Each B L [j] (fun v => (sltS v 0).den) l := fun v hv => by
  have hv2 : View (lentT v) (sltS v 0).den := view_pre view_rows
  exact ⟨fun w hf => hv2.h w ((hf j _ h).1 _ (List.mem_map_of_mem hv)), fun b hb => ⟨j, by simp, _, h, lentT v, List.mem_map_of_mem hv, hv2.f b hb⟩⟩
theorem TL_row {l : List SlT} {r : SlT} (hr : r ∈ l) : r.l.length ≤ (TL l).length := by
  obtain ⟨a, b, rfl⟩ := List.append_of_mem hr
  rw [TL_app, show r :: b = [r] ++ b from rfl, TL_app, TL_one, List.length_append, List.length_append]
  omega
theorem SameRs.rows {l m : List SlT} (h : SameRs l m) {p : List TotalP → Prop} (hp : ∀ r ∈ m, p r.l) : ∀ r ∈ l, p r.l := fun r hr => by
  have h1 : r.l ∈ m.map SlT.l := by
    rw [← h]
    exact List.mem_map_of_mem hr
  obtain ⟨u, hu, e⟩ := List.mem_map.1 h1
  rw [← e]
  exact hp u hu
theorem wides_spec (A0 A1 : Option Addr) (l : List SlT) (w : List WideP) (c0 c1 : Nat) (n : Int) (l0 : l.length ≤ 1048576) (l1 : w.length ≤ 1048576) (hr : ∀ r ∈ l, r.l.length ≤ 1048576) (hw : ∀ x ∈ TL l, WOk x.sum) (hww : ∀ x ∈ w, WOk x) (hn : Fits64 n) : CSpec Tryz.prog 5 [.one (.sl 0 A0 l.length c0), .one (.sl 1 A1 w.length c1), .one (.i .i64 n)] [(0, rdRows A0 l), (1, Res.rd A1 wideEn w)] [] fun o L => o = .ret (vb true) ∧ L = [] := by
  refine v_enter Tryz.func5 (h := fun w0 => ?_)
  refine v_code [] (hk := ?_)
  refine v_loop (fun m E H => ∃ (k : Nat) (many : Nat), E = [(8, vn k), (7, vn many)] ∧ H = [] ∧ m = l.length - k ∧ k ≤ l.length ∧ (many = k + (TL (l.take k)).length) ∧ (many ≤ 2097152)) [0, 1, 2, 6, 9, 10, 11, 12, 13, 32, 33, 34, 35, 36, 37, 38, 39, 40, 41, 42, 43, 44, 45, 46, 47, 48, 49, 50, 51, 52, 53, 54, 55, 56, 57, 58, 59, 60, 61, 62, 63, 64, 65, 66, 67, 68, 69, 70, 71, 72, 73, 74, 75, 76, 77, 78, 79, 80, 81, 82, 83, 84, 85, 86, 87, 88, 89, 90, 91, 92, 93, 94, 95, 96, 97, 98, 99, 100, 101, 102, 103, 104, 105, 106, 107, 108, 109, 110] (l.length) ([(8, vn 0), (7, vn (0))]) ([]) (h0 := ⟨0, 0, rfl, rfl, by omega, by omega, by rfl, by omega⟩) (hr := ?_)
  rintro _ _ _ ⟨k, many, rfl, rfl, hmk, hk, hik0, hik1⟩
  refine v_code [] (hk := ?_)
  first | refine c_ifd rfl (fun h21 => ?_) (fun h21 => ?_) | refine c_ifn rfl (fun h21 => ?_) (fun h21 => ?_) | refine c_if rfl (fun h21 => ?_) (fun h21 => ?_)
  · simp only [Bool.and_eq_true, decide_eq_true_eq] at h21
    obtain ⟨h21a, h21b⟩ := h21
    have hsz := hr _ (getD_mem (d := slt0) h21a)
    refine v_code [] (hk := ?_)
    refine v_again (l.length - (k + 1)) ⟨k + 1, many + 1 + (l.getD k slt0).l.length, rfl, rfl, by omega, by omega, by rw [TL_snoc (d := slt0) h21a, List.length_append]; omega, by omega⟩
  · refine v_code [] (hk := ?_)
    first | refine c_ifd rfl (fun h38 => ?_) (fun h38 => ?_) | refine c_ifn rfl (fun h38 => ?_) (fun h38 => ?_) | refine c_if rfl (fun h38 => ?_) (fun h38 => ?_)
    · refine v_code [] (hk := ?_)
      refine v_call 21950 [] (awake_spec) Tryz.func8 (h := ?_)
      rintro _ _ (⟨rfl, rfl⟩)
      refine v_ops [] (hk := ?_)
      refine v_ret rfl [] (.cons (.tmp rfl) .nil) (h := ?_)
      exact ⟨rfl, rfl⟩
    · simp only [Bool.or_eq_false_iff, decide_eq_false_iff_not] at h38
      have hkl : ¬ k < l.length := fun hk2 => by rw [decide_eq_true hk2, decide_eq_true (show many ≤ 200 by omega)] at h21; cases h21
      rw [take_all' hkl] at hik0
      have hll : l.length + (TL l).length ≤ 200 := by omega
      have hrow : ∀ r ∈ l, r.l.length ≤ 1000 := fun r hr2 => by have := TL_row hr2; omega
      refine v_code [] (hk := ?_)
      refine v_call 22050 [] (lentRows_spec A0 l c0 (by omega) hr) Tryz.func34 (h := ?_)
      rintro _ _ (⟨B41, d41, x, hx, hxl, hxc, rfl, rfl⟩)
      have fx : ∀ r ∈ x, r.l.length ≤ 1048576 := hx.rows (p := fun q => q.length ≤ 1048576) hr
      have hTL := hx.TL
      refine v_ops [] (hk := ?_)
      refine v_callD 22150 [] (merge_spec B41 x d41 (by omega) (by rw [hTL]; omega) (by rw [hTL]; exact hw)) Tryz.func35 (hB := ⟨⟨_, (Der.rdn (Der.vw 22050) (lentT_each 22051)), rfl⟩, trivial⟩) (h := ?_)
      rintro _ _ (⟨B43, d43, T, hT, hTl, rfl, rfl⟩)
      refine v_ops [] (hk := ?_)
      refine v_callD 22250 [] (merge_spec B41 x d41 (by omega) (by rw [hTL]; omega) (by rw [hTL]; exact hw)) Tryz.func35 (hB := ⟨⟨_, (Der.rdn (Der.vw 22050) (lentT_each 22051)), rfl⟩, trivial⟩) (h := ?_)
      rintro _ _ (⟨B45, d45, T3, hT3, hTl3, rfl, rfl⟩)
      refine v_ops [] (hk := ?_)
      refine v_callD 22350 [] (plus_spec A1 w c1 (by omega) hww) Tryz.func36 (hB := ⟨⟨_, (Der.vw 1), rfl⟩, trivial⟩) (h := ?_)
      rintro _ _ (⟨rfl, rfl⟩)
      refine l_do d_alloc (fun g12 => ?_)
      refine v_ops [] (hk := ?_)
      refine v_draw (.q 0 (.q 1 (.s 2 (.s 3 (.q 4 (.q 5 (.q 6 (.q 7 (.s 8 (.q 9 (.q 10 (.q 11 (.q 12 (.q 14 (.s 13 (.s 15 (.q 16 (.q 17 (.q 18 (.q 19 (.q 20 (.q 23 (.q 24 (.s 21 (.s 22 (.s 25 (.s 26 (.q 27 (.q 28 .nil))))))))))))))))))))))))))))) [10012] (hm := by kernel_rfl) (hs := by kernel_rfl) (hk := by kernel_rfl) (h := ?_)
      refine v_sch [] (hk := ?_)
      refine v_callDS rfl 22500 [] (mergeR_spec A0 l c0 (by omega) hrow hw) Tryz.func37 (hB := ⟨⟨_, (Der.vw 0), rfl⟩, trivial⟩) (h := ?_)
      rintro _ _ (⟨B50, d50, T2, hT2, hTl2, rfl, rfl⟩)
      refine ⟨cov_of (by repeat (first | exact trivial | refine ⟨rfl, ?_⟩)), ?_⟩
      obtain rfl : T2 = T := hT2.unique (hT.congr fun n => by rw [hTL])
      refine v_callDS rfl 22550 [] (sameTotals_spec B43 B50 T2 T2 d43 d50 hTl) Tryz.func16 (hB := ⟨⟨_, (Der.vw 22150), rfl⟩, ⟨⟨_, (Der.vw 22500), rfl⟩, trivial⟩⟩) (h := ?_)
      rintro _ _ (⟨rfl, rfl⟩)
      refine ⟨cov_of (by repeat (first | exact trivial | refine ⟨rfl, ?_⟩)), ?_⟩
      refine v_knowC 51 true rfl (by simp) ?_
      refine v_sch [] (hk := ?_)
      refine k_valC 53 (vb false) rfl rfl ?_
      refine v_callDS rfl 22800 [] (plusR_spec A1 w c1 (by omega) hww) Tryz.func38 (hB := ⟨⟨_, (Der.vw 1), rfl⟩, trivial⟩) (h := ?_)
      rintro _ _ (⟨rfl, rfl⟩)
      refine ⟨cov_of (by repeat (first | exact trivial | refine ⟨rfl, ?_⟩)), ?_⟩
      refine q_rd rfl (r_neSt (u := wOf (wsum w)) (v := wOf (wsum w))) ?_
      refine v_knowC 57 false rfl (by simp) ?_
      refine v_knowC 53 false rfl rfl ?_
      refine v_sch [] (hk := ?_)
      refine k_valC 59 (vb false) rfl rfl ?_
      refine v_callDS rfl 23050 [] (wide_spec n hn) Tryz.func39 (hB := trivial) (h := ?_)
      rintro _ _ (⟨rfl, rfl⟩)
      refine ⟨cov_of (by repeat (first | exact trivial | refine ⟨rfl, ?_⟩)), ?_⟩
      refine v_knowC 59 false rfl rfl ?_
      refine k_valC 59 (vb false) rfl rfl ?_
      refine v_callDS rfl 23150 [] (wideR_spec n hn) Tryz.func40 (hB := trivial) (h := ?_)
      rintro _ _ (⟨rfl, rfl⟩)
      refine ⟨cov_of (by repeat (first | exact trivial | refine ⟨rfl, ?_⟩)), ?_⟩
      refine q_rd rfl (r_neSt (u := wOf n) (v := wOf n)) ?_
      refine v_knowC 64 false rfl (by simp) ?_
      refine v_knowC 59 false rfl rfl ?_
      refine v_sch [] (hk := ?_)
      refine k_valC 66 (vb false) rfl rfl ?_
      refine v_callDS rfl 23450 [] (wide_spec n hn) Tryz.func39 (hB := trivial) (h := ?_)
      rintro _ _ (⟨rfl, rfl⟩)
      refine ⟨cov_of (by repeat (first | exact trivial | refine ⟨rfl, ?_⟩)), ?_⟩
      refine v_callDS rfl 23500 [] (cmp_spec (wOf (wsum w)) (wOf n)) Tryz.func41 (hB := trivial) (h := ?_)
      rintro _ _ (⟨rfl, rfl⟩)
      refine ⟨cov_of (by repeat (first | exact trivial | refine ⟨rfl, ?_⟩)), ?_⟩
      refine v_callDS rfl 23650 [] (wideR_spec n hn) Tryz.func40 (hB := trivial) (h := ?_)
      rintro _ _ (⟨rfl, rfl⟩)
      refine ⟨cov_of (by repeat (first | exact trivial | refine ⟨rfl, ?_⟩)), ?_⟩
      refine v_callDS rfl 23700 [] (cmpR_spec (wOf (wsum w)) (wOf n)) Tryz.func42 (hB := trivial) (h := ?_)
      rintro _ _ (⟨rfl, rfl⟩)
      refine ⟨cov_of (by repeat (first | exact trivial | refine ⟨rfl, ?_⟩)), ?_⟩
      refine v_knowC 66 false rfl rfl ?_
      refine v_sch [] (hk := ?_)
      first | refine c_ifd rfl (fun h76 => ?_) (fun h76 => ?_) | refine c_ifn rfl (fun h76 => ?_) (fun h76 => ?_) | refine c_if rfl (fun h76 => ?_) (fun h76 => ?_)
      · first | exact absurd rfl h76 | exact absurd h76 (by simp)
      · refine v_code [] (hk := ?_)
        refine v_loop (fun m E H => ∃ (k : Nat), E = [(13, vn k)] ∧ H = [] ∧ m = l.length - k ∧ k ≤ l.length) [0, 9, 10, 11, 94, 95, 96, 97, 98, 99, 100, 101, 102, 103, 104, 105, 106, 107, 108, 109, 110] (l.length) ([(13, vn 0)]) ([]) (h0 := ⟨0, rfl, rfl, by omega, by omega⟩) (hr := ?_)
        rintro _ _ _ ⟨k, rfl, rfl, hmk, hk⟩
        refine v_code [] (hk := ?_)
        first | refine c_ifd rfl (fun h80 => ?_) (fun h80 => ?_) | refine c_ifn rfl (fun h80 => ?_) (fun h80 => ?_) | refine c_if rfl (fun h80 => ?_) (fun h80 => ?_)
        · have hxk : k < x.length := by omega
          have hmem := getD_mem (d := slt0) hxk
          have hzx := fx _ hmem
          refine v_code [] (hk := ?_)
          refine v_draw (.q 0 (.q 1 (.q 2 (.q 3 (.q 5 (.q 6 (.q 7 (.q 8 (.s 4 (.s 9 (.q 10 .nil))))))))))) [22050] (hm := by kernel_rfl) (hs := by kernel_rfl) (hk := by kernel_rfl) (h := ?_)
          refine v_sch [] (hk := ?_)
          refine v_callDS rfl 24350 [] (totalsV_spec (x.getD k slt0).A (x.getD k slt0).l (x.getD k slt0).c hzx) Tryz.func43 (hB := ⟨⟨_, (Der.bag 22051 rfl (List.mem_map_of_mem hmem) (view_pre view_rows)), rfl⟩, trivial⟩) (h := ?_)
          rintro _ _ (⟨rfl, rfl⟩)
          refine ⟨cov_of (by repeat (first | exact trivial | refine ⟨rfl, ?_⟩)), ?_⟩
          refine v_callDS rfl 24600 [] (totalsR_spec (l.getD k slt0).A (l.getD k slt0).l (l.getD k slt0).c (hr _ (getD_mem (d := slt0) h80))) Tryz.func44 (hB := ⟨⟨_, (Der.vw 0 rfl (view_rdn k 0 h80)), rfl⟩, trivial⟩) (h := ?_)
          rintro _ _ (⟨rfl, rfl⟩)
          refine ⟨cov_of (by repeat (first | exact trivial | refine ⟨rfl, ?_⟩)), ?_⟩
          refine v_sch [] (hk := ?_)
          first | refine c_ifd rfl (fun h93 => ?_) (fun h93 => ?_) | refine c_ifn rfl (fun h93 => ?_) (fun h93 => ?_) | refine c_if rfl (fun h93 => ?_) (fun h93 => ?_)
          · exact absurd (by rw [hx.at (d := slt0) h80]) h93
          · refine v_code [] (hk := ?_)
            refine v_again (l.length - (k + 1)) ⟨k + 1, rfl, rfl, by omega, by omega⟩
        · refine v_code [] (hk := ?_)
          refine v_callD 24800 [] (keptRows_spec B41 A0 x l d41 c0 (by omega) hx fx hxc) Tryz.func45 (hB := ⟨⟨_, (Der.vw 22050), rfl⟩, ⟨⟨_, (Der.vw 22051), rfl⟩, ⟨⟨_, (Der.vw 0), rfl⟩, trivial⟩⟩⟩) (h := ?_)
          rintro _ _ (⟨rfl, rfl⟩)
          refine v_know 96 true rfl rfl ?_
          refine v_ops [] (hk := ?_)
          refine k_val 97 (vb true) rfl rfl ?_
          refine l_do (d_bslice (E := hdEn TotalP 51) (hE := ⟨⟩) [(⟨B43, d43, T2⟩ : Hd TotalP), ⟨B45, d45, T3⟩]) (fun B100 => ?_)
          refine v_know 97 true rfl rfl ?_
          refine k_empty 901 ?_
          refine k_push 901 22150 rfl rfl ?_
          refine k_push 901 22250 rfl rfl ?_
          refine k_res 901 (Res.bag ([(⟨B43, d43, T2⟩ : Hd TotalP), ⟨B45, d45, T3⟩].map (Hd.res 75 totalEn))) rfl rfl ?_
          refine v_ops [] (hk := ?_)
          refine k_val 97 (vb true) rfl rfl ?_
          refine v_callD 25050 [(113, 901)] (apartTotals_spec B100 2 [⟨B43, d43, T2⟩, ⟨B45, d45, T3⟩] (by simp) (by intro s hs; simp at hs; rcases hs with rfl | rfl; exact hTl; exact hTl3)) Tryz.func21 (hB := ⟨⟨_, (Der.vw 10100), rfl⟩, trivial⟩) (h := ?_)
          rintro _ _ (⟨rfl, rfl⟩)
          refine v_know 101 true rfl rfl ?_
          refine v_know 97 true rfl rfl ?_
          refine v_ops [] (hk := ?_)
          refine k_val 103 (vb true) rfl rfl ?_
          refine v_callD 25300 [] (keptRows_spec B41 A0 x l d41 c0 (by omega) hx fx hxc) Tryz.func45 (hB := ⟨⟨_, (Der.vw 22050), rfl⟩, ⟨⟨_, (Der.vw 22051), rfl⟩, ⟨⟨_, (Der.vw 0), rfl⟩, trivial⟩⟩⟩) (h := ?_)
          rintro _ _ (⟨rfl, rfl⟩)
          refine v_know 106 true rfl rfl ?_
          refine v_know 103 true rfl rfl ?_
          refine v_ops [] (hk := ?_)
          refine k_val 108 (vb true) rfl rfl ?_
          refine v_callD 25450 [] (awake_spec) Tryz.func8 (hB := trivial) (h := ?_)
          rintro _ _ (⟨rfl, rfl⟩)
          refine v_know 109 true rfl rfl ?_
          refine v_know 108 true rfl rfl ?_
          refine v_ops [] (hk := ?_)
          refine v_ret rfl [] (.cons (.tmp rfl) .nil) (h := ?_)
          exact ⟨rfl, rfl⟩
end Go.Proofs.YtlnckcgbpilmdaaGreat
/- ValueSums, walked. -/

set_option linter.unusedVariables false
set_option linter.unusedSimpArgs false
set_option maxRecDepth 100000
set_option maxHeartbeats 8000000
namespace Go.Proofs.YtlnckcgbpilmdaaGreat
open Go Go.RowKit HL
theorem sumsL_spec (A0 A1 A2 : Option Addr) (inn out : List ValueM) (mint : List AssetP) (c0 c1 c2 : Nat) (fee : Int) (l0 : inn.length ≤ 1048576) (l2 : out.length ≤ 1048576) (S0 : Shorts inn) (S1 : mint.length ≤ 1048576 ∧ Short mint) (S2 : Shorts out) (F0 : ∀ v ∈ inn, FitV v) (F1 : ∀ x ∈ mint, Fits64 x.amount) (F2 : ∀ v ∈ out, FitV v) (hfee : Fits64 fee) :
    CSpec Tryz.prog 3 [.one (.sl 0 A0 inn.length c0), .one (.sl 1 A1 mint.length c1), .one (.sl 2 A2 out.length c2), .one (.i .i64 fee)] [(0, rdValues A0 inn), (1, Res.rd A1 assetEn mint), (2, rdValues A2 out)] [] fun o L => o = .ret (vb true) ∧ L = [] := by
  have hsh : ∀ B, ∀ x ∈ [(⟨A0, c0, inn⟩ : SlV), ⟨A2, c2, out⟩, ⟨B, 1, [⟨0, A1, c1, mint⟩]⟩], x.l.length ≤ 1048576 ∧ Shorts x.l := by
    intro B x hx
    simp only [List.mem_cons, List.not_mem_nil, or_false] at hx
    rcases hx with rfl | rfl | rfl
    · exact ⟨l0, S0⟩
    · exact ⟨l2, S2⟩
    · refine ⟨by simp, fun v hv => ?_⟩
      rw [List.mem_singleton.1 hv]
      exact S1
  refine v_enter Tryz.func3 (h := fun w0 => ?_)
  refine v_code [] (hk := ?_)
  refine l_do (d_bslice [(⟨0, A1, c1, mint⟩ : ValueM)]) (fun B28 => ?_)
  refine l_do (d_bslice (E := slvEn) (hE := ⟨⟩) [(⟨A0, c0, inn⟩ : SlV), ⟨A2, c2, out⟩, ⟨B28, 1, [⟨0, A1, c1, mint⟩]⟩]) (fun B29 => ?_)
  refine v_callD 21500 [] (great_spec B29 [⟨A0, c0, inn⟩, ⟨A2, c2, out⟩, ⟨B28, 1, [⟨0, A1, c1, mint⟩]⟩] 3 (by simp) (hsh B28)) Tryz.func7 (hB := ⟨⟨_, (Der.rdn (Der.vw 10029) (Each.cons (Der.vw 0) (Each.cons (Der.vw 2) (Each.cons (Der.rdn (Der.vw 10028) (Each.cons (Der.vw 1) Each.nil)) Each.nil)))), rfl⟩, trivial⟩) (h := ?_)
  rintro _ _ (⟨gt, rfl, hgt, rfl⟩)
  refine v_ops [] (hk := ?_)
  first | refine c_ifd rfl (fun h30 => ?_) (fun h30 => ?_) | refine c_ifn rfl (fun h30 => ?_) (fun h30 => ?_) | refine c_if rfl (fun h30 => ?_) (fun h30 => ?_)
  · refine v_code [] (hk := ?_)
    refine v_call 21550 [] (awake_spec) Tryz.func8 (h := ?_)
    rintro _ _ (⟨rfl, rfl⟩)
    refine v_ops [] (hk := ?_)
    refine v_ret rfl [] (.cons (.tmp rfl) .nil) (h := ?_)
    exact ⟨rfl, rfl⟩
  · have hgt2 := hgt (by simpa using h30)
    obtain ⟨q0, p0⟩ := hgt2 ⟨A0, c0, inn⟩ (by simp)
    obtain ⟨q2, p2⟩ := hgt2 ⟨A2, c2, out⟩ (by simp)
    obtain ⟨q3, p3⟩ := hgt2 ⟨B28, 1, [⟨0, A1, c1, mint⟩]⟩ (by simp)
    simp only at q0 q2 q3 p0 p2 p3
    have f0 : ∀ v ∈ inn, FitS v := fun v hv => ⟨by have := p0 v hv; omega, (F0 v hv).2⟩
    have f2 : ∀ v ∈ out, FitS v := fun v hv => ⟨by have := p2 v hv; omega, (F2 v hv).2⟩
    have f1 := p3 _ (List.mem_cons_self ..)
    simp only at f1
    have f1m : mint.length ≤ 1000 ∧ ∀ x ∈ mint, Fits64 x.amount := ⟨by omega, F1⟩
    refine v_code [] (hk := ?_)
    refine v_call 21650 [] (lentValues_spec A0 inn c0 (by omega) (fun v hv => (S0 v hv).1)) Tryz.func9 (h := ?_)
    rintro _ _ (⟨B33, d33, x, hx, hxl, hxc, hxd, rfl, rfl⟩)
    have fx := hx.fitV F0
    have gx := hx.fit f0
    refine v_ops [] (hk := ?_)
    refine v_call 21750 [] (lentValues_spec A2 out c2 (by omega) (fun v hv => (S2 v hv).1)) Tryz.func9 (h := ?_)
    rintro _ _ (⟨B35, d35, y, hy, hyl, hyc, hyd, rfl, rfl⟩)
    have fy := hy.fitV F2
    have gy := hy.fit f2
    refine v_ops [] (hk := ?_)
    refine v_call 21850 [] (lentAssets_spec A1 mint c1 (by omega)) Tryz.func10 (h := ?_)
    rintro _ _ (⟨B37, d37, hmd, rfl, rfl⟩)
    refine v_ops [] (hk := ?_)
    refine v_callD 22000 [] (add_spec B33 x d33 (by omega) fx) Tryz.func11 (hB := ⟨⟨_, (Der.rdn (Der.vw 21650 rfl (view_pre view_rows)) (lent_each 21651)), rfl⟩, trivial⟩) (h := ?_)
    rintro _ _ (⟨a, ok, ha, rfl, rfl⟩)
    refine v_ops [] (hk := ?_)
    refine l_do d_alloc (fun g12 => ?_)
    refine v_ops [] (hk := ?_)
    refine v_call 22250 [] (addR_spec A0 inn c0 (by omega) f0) Tryz.func12 (h := ?_)
    rintro _ _ (⟨b, is, hb, rfl, rfl⟩)
    have h2 := two_same hx ha hb
    obtain rfl := h2.o
    refine v_ops [] (hk := ?_)
    refine l_do d_alloc (fun g14 => ?_)
    refine v_ops [] (hk := ?_)
    refine v_callD 22500 [] (sums_spec B33 x d33 (by omega) gx) Tryz.func13 (hB := ⟨⟨_, (Der.rdn (Der.vw 21650 rfl (view_pre view_rows)) (lent_each 21651)), rfl⟩, trivial⟩) (h := ?_)
    rintro _ _ (⟨B50, d50, T, hT, hTl, rfl, rfl⟩)
    refine v_ops [] (hk := ?_)
    refine l_do d_alloc (fun g16 => ?_)
    refine v_ops [] (hk := ?_)
    refine v_call 22750 [] (sumsR_spec A0 inn c0 (by omega) f0) Tryz.func14 (h := ?_)
    rintro _ _ (⟨B55, d55, T2, hT2, hTl2, rfl, rfl⟩)
    obtain rfl : T2 = T := hT2.unique (hT.congr fun n => by rw [hx.AL])
    refine v_ops [] (hk := ?_)
    refine l_do d_alloc (fun g18 => ?_)
    refine v_ops [] (hk := ?_)
    refine v_callD 23000 [] (sums_spec B33 x d33 (by omega) gx) Tryz.func13 (hB := ⟨⟨_, (Der.rdn (Der.vw 21650 rfl (view_pre view_rows)) (lent_each 21651)), rfl⟩, trivial⟩) (h := ?_)
    rintro _ _ (⟨B60, d60, T3, hT3, hTl3, rfl, rfl⟩)
    refine v_ops [] (hk := ?_)
    refine l_do d_alloc (fun g20 => ?_)
    refine v_ops [] (hk := ?_)
    refine v_callD 23250 [] (add_spec B33 x d33 (by omega) fx) Tryz.func11 (hB := ⟨⟨_, (Der.rdn (Der.vw 21650 rfl (view_pre view_rows)) (lent_each 21651)), rfl⟩, trivial⟩) (h := ?_)
    rintro _ _ (⟨a2, ok2, ha2, rfl, rfl⟩)
    refine v_ops [] (hk := ?_)
    refine l_do d_alloc (fun g22 => ?_)
    refine v_ops [] (hk := ?_)
    refine k_val 71 (vb false) rfl (by simp) ?_
    refine k_val 72 (.s (.agg [.one (.i .i64 a.coin), .one (.sl 22000 a.A a.assets.length a.c)])) rfl (if_pos (by simp)) ?_
    refine k_val 73 (.s (.agg [.one (.i .i64 b.coin), .one (.sl 22250 b.A b.assets.length b.c)])) rfl (if_pos (by simp)) ?_
    refine v_callD 23700 [] (sameValue_spec a b ha.fit.1) Tryz.func15 (hB := ⟨⟨_, (Der.vw 22000), rfl⟩, ⟨⟨_, (Der.vw 22250), rfl⟩, trivial⟩⟩) (h := ?_)
    rintro _ _ (⟨rfl, rfl⟩)
    refine v_know 74 true rfl (decide_eq_true ⟨h2.c, h2.a⟩) ?_
    refine v_know 71 false rfl rfl ?_
    refine v_ops [] (hk := ?_)
    refine k_val 77 (vb false) rfl rfl ?_
    refine l_rd (r_neSt (u := wOf (csum x)) (v := wOf (csum inn))) ?_
    refine v_know 80 false rfl (by rw [hx.csum]; simp) ?_
    refine v_know 77 false rfl rfl ?_
    refine v_ops [] (hk := ?_)
    refine k_val 82 (vb false) rfl rfl ?_
    refine v_callD 24250 [] (sameTotals_spec B50 B55 T2 T2 d50 d55 hTl) Tryz.func16 (hB := ⟨⟨_, (Der.vw 22500), rfl⟩, ⟨⟨_, (Der.vw 22750), rfl⟩, trivial⟩⟩) (h := ?_)
    rintro _ _ (⟨rfl, rfl⟩)
    refine v_know 85 true rfl (by simp) ?_
    refine v_know 82 false rfl rfl ?_
    refine v_ops [] (hk := ?_)
    refine k_val 88 (vb false) rfl rfl ?_
    refine v_callD 24650 [] (balance_spec B33 B37 B35 x y mint d33 d37 d35 fee (by omega) (by omega) gx gy f1m hfee) Tryz.func17 (hB := ⟨⟨_, (Der.rdn (Der.vw 21650 rfl (view_pre view_rows)) (lent_each 21651)), rfl⟩, ⟨⟨_, (Der.vw 21850 rfl (view_pre view_rows)), rfl⟩, ⟨⟨_, (Der.rdn (Der.vw 21750 rfl (view_pre view_rows)) (lent_each 21751)), rfl⟩, trivial⟩⟩⟩) (h := ?_)
    rintro _ _ (⟨b1, hb1, rfl, rfl⟩)
    refine v_know 88 false rfl rfl ?_
    refine v_ops [] (hk := ?_)
    refine k_val 88 (vb false) rfl rfl ?_
    refine v_callD 24900 [] (balR_spec A0 A1 A2 inn out mint c0 c1 c2 fee (by omega) (by omega) f0 f2 f1m hfee) Tryz.func18 (hB := ⟨⟨_, (Der.vw 0), rfl⟩, ⟨⟨_, (Der.vw 1), rfl⟩, ⟨⟨_, (Der.vw 2), rfl⟩, trivial⟩⟩⟩) (h := ?_)
    rintro _ _ (⟨b2, hb2, rfl, rfl⟩)
    obtain rfl : b2 = b1 := bool_iff (hb2.trans ((hx.bal hy).symm.trans hb1.symm))
    refine v_know 88 false rfl rfl ?_
    refine v_ops [] (hk := ?_)
    first | refine c_ifd rfl (fun h100 => ?_) (fun h100 => ?_) | refine c_ifn rfl (fun h100 => ?_) (fun h100 => ?_) | refine c_if rfl (fun h100 => ?_) (fun h100 => ?_)
    · exact absurd h100 (by simp)
    · refine v_code [] (hk := ?_)
      refine v_callD 25150 [] (keptValues_spec B33 A0 x inn d33 c0 (by omega) hx (fun v hv => (fx v hv).1) hxc hxd) Tryz.func19 (hB := ⟨⟨_, (Der.vw 21650), rfl⟩, ⟨⟨_, (Der.vw 21651), rfl⟩, ⟨⟨_, (Der.vw 0), rfl⟩, trivial⟩⟩⟩) (h := ?_)
      rintro _ _ (⟨rfl, rfl⟩)
      refine v_know 103 true rfl rfl ?_
      refine v_ops [] (hk := ?_)
      refine k_val 104 (vb true) rfl rfl ?_
      refine v_callD 25350 [] (keptValues_spec B35 A2 y out d35 c2 (by omega) hy (fun v hv => (fy v hv).1) hyc hyd) Tryz.func19 (hB := ⟨⟨_, (Der.vw 21750), rfl⟩, ⟨⟨_, (Der.vw 21751), rfl⟩, ⟨⟨_, (Der.vw 2), rfl⟩, trivial⟩⟩⟩) (h := ?_)
      rintro _ _ (⟨rfl, rfl⟩)
      refine v_know 107 true rfl rfl ?_
      refine v_know 104 true rfl rfl ?_
      refine v_ops [] (hk := ?_)
      refine k_val 109 (vb true) rfl rfl ?_
      refine v_callD 25600 [] (keptAssets_spec B37 A1 mint d37 c1 (by omega) hmd) Tryz.func20 (hB := ⟨⟨_, (Der.vw 21850), rfl⟩, ⟨⟨_, (Der.vw 1), rfl⟩, trivial⟩⟩) (h := ?_)
      rintro _ _ (⟨rfl, rfl⟩)
      refine v_know 112 true rfl rfl ?_
      refine v_know 109 true rfl rfl ?_
      refine v_ops [] (hk := ?_)
      refine k_val 114 (vb true) rfl rfl ?_
      refine l_do (d_bslice (E := hdEn TotalP 51) (hE := ⟨⟩) [(⟨B50, d50, T2⟩ : Hd TotalP), ⟨B60, d60, T3⟩]) (fun B117 => ?_)
      refine v_know 114 true rfl rfl ?_
      refine k_empty 901 ?_
      refine k_push 901 22500 rfl rfl ?_
      refine k_push 901 23000 rfl rfl ?_
      refine k_res 901 (Res.bag ([(⟨B50, d50, T2⟩ : Hd TotalP), ⟨B60, d60, T3⟩].map (Hd.res 75 totalEn))) rfl rfl ?_
      refine k_val 114 (vb true) rfl rfl ?_
      refine v_callD 25900 [(113, 901)] (apartTotals_spec B117 2 [⟨B50, d50, T2⟩, ⟨B60, d60, T3⟩] (by simp) (by intro s hs; simp at hs; rcases hs with rfl | rfl; exact hTl; exact hTl3)) Tryz.func21 (hB := ⟨⟨_, (Der.vw 10117), rfl⟩, trivial⟩) (h := ?_)
      rintro _ _ (⟨rfl, rfl⟩)
      refine v_know 118 true rfl rfl ?_
      refine v_know 114 true rfl rfl ?_
      refine v_ops [] (hk := ?_)
      refine k_val 120 (vb true) rfl rfl ?_
      refine l_do (d_bslice [a, a2]) (fun B123 => ?_)
      refine l_do (d_bslice (E := hdEn ValueM 51) (hE := ⟨⟩) [(⟨B123, 2, [a, a2]⟩ : Hd ValueM)]) (fun B124 => ?_)
      refine v_know 120 true rfl rfl ?_
      refine v_ops [] (hk := ?_)
      refine k_empty 902 ?_
      refine k_push 902 22000 rfl rfl ?_
      refine k_push 902 23250 rfl rfl ?_
      refine k_res 902 (Res.bag ((hds [⟨B123, 2, [a, a2]⟩]).map (Hd.res 57 assetEn))) rfl rfl ?_
      refine v_ops [] (hk := ?_)
      refine k_empty 903 ?_
      refine k_push 903 10123 rfl rfl ?_
      refine k_res 903 (Res.bag ([(⟨B123, 2, [a, a2]⟩ : Hd ValueM)].map (Hd.res 26 valueEn))) rfl rfl ?_
      refine v_ops [] (hk := ?_)
      refine k_val 120 (vb true) rfl rfl ?_
      refine v_callD 26250 [(111, 902), (112, 903)] (apartValues_spec B124 1 [⟨B123, 2, [a, a2]⟩] (by simp) (by simp) (by simp [hds]) (by intro s hs; simp [hds, hdOf] at hs; rcases hs with rfl | rfl; exact ha.fit.1; exact ha2.fit.1)) Tryz.func22 (hB := ⟨⟨_, (Der.vw 10124), rfl⟩, trivial⟩) (h := ?_)
      rintro _ _ (⟨rfl, rfl⟩)
      refine v_know 125 true rfl rfl ?_
      refine v_know 120 true rfl rfl ?_
      refine v_ops [] (hk := ?_)
      refine k_val 127 (vb true) rfl rfl ?_
      refine v_callD 26500 [] (keptValues_spec B33 A0 x inn d33 c0 (by omega) hx (fun v hv => (fx v hv).1) hxc hxd) Tryz.func19 (hB := ⟨⟨_, (Der.vw 21650), rfl⟩, ⟨⟨_, (Der.vw 21651), rfl⟩, ⟨⟨_, (Der.vw 0), rfl⟩, trivial⟩⟩⟩) (h := ?_)
      rintro _ _ (⟨rfl, rfl⟩)
      refine v_know 130 true rfl rfl ?_
      refine v_know 127 true rfl rfl ?_
      refine v_ops [] (hk := ?_)
      refine k_val 132 (vb true) rfl rfl ?_
      refine v_callD 26650 [] (awake_spec) Tryz.func8 (hB := trivial) (h := ?_)
      rintro _ _ (⟨rfl, rfl⟩)
      refine v_know 133 true rfl rfl ?_
      refine v_know 132 true rfl rfl ?_
      refine v_ops [] (hk := ?_)
      refine v_ret rfl [] (.cons (.tmp rfl) .nil) (h := ?_)
      exact ⟨rfl, rfl⟩
end Go.Proofs.YtlnckcgbpilmdaaGreat
/- ValueTells, walked. (Draft: not built yet; needs Plan.s3.) -/

set_option linter.unusedVariables false
set_option linter.unusedSimpArgs false
set_option maxRecDepth 100000
set_option maxHeartbeats 8000000
namespace Go.Proofs.YtlnckcgbpilmdaaGreat
open Go Go.RowKit HL
theorem two_subs {a b x y s t : ValueM} {ok is : Bool} (e1 : x.coin = a.coin ∧ x.assets = a.assets) (e2 : y.coin = b.coin ∧ y.assets = b.assets) (hs : Told (Subs x y) ok s) (ht : Told (Subs a b) is t) : Two ok is s t := by
  have he : ∀ co p, Subs x y co p ↔ Subs a b co p := fun co p => by
    unfold Subs
    rw [e1.1, e1.2, e2.1, e2.2]
  obtain ⟨h1, h2, h3⟩ := hs.same ht he (fun _ _ _ _ ha hb => ha.unique hb)
  exact ⟨h1, h2, h3⟩
theorem subs_len {a b : ValueM} {ok : Bool} {c : ValueM} (h : Told (Subs a b) ok c) : c.assets.length ≤ 1048576 := by
  rcases h with ⟨_, h⟩ | ⟨_, _, _, h⟩
  · have := h.2.2.2.2.2.2; omega
  · rw [h]; simp
theorem tells_spec (a b : ValueM) (policy : Hash) (name : ByteArray) (ha : FitV a) (hb : FitV b) (sa : Short a.assets) (sb : Short b.assets) (hn : name.size ≤ 1048576) : CSpec Tryz.prog 4 [.agg [.one (.i .i64 a.coin), .one (.sl 101 a.A a.assets.length a.c)], .agg [.one (.i .i64 b.coin), .one (.sl 201 b.A b.assets.length b.c)], .agg [.hash policy], .one (.s name)] [(101, Res.rd a.A assetEn a.assets), (201, Res.rd b.A assetEn b.assets)] [] fun o L => o = .ret (vb true) ∧ L = [] := by
  have hsh : Shorts [a, b] := by intro v hv; simp only [List.mem_cons, List.not_mem_nil, or_false] at hv; rcases hv with rfl | rfl; exact ⟨ha.1, sa⟩; exact ⟨hb.1, sb⟩
  have la := ha.1
  have lb := hb.1
  refine v_enter Tryz.func4 (h := fun w0 => ?_)
  refine v_code [] (hk := ?_)
  refine l_do d_box (fun g4 => ?_)
  refine l_do d_box (fun g5 => ?_)
  refine l_do d_box (fun g6 => ?_)
  refine v_ops [] (hk := ?_)
  refine l_do (d_bslice [a, b]) (fun B20 => ?_)
  refine l_do (d_bslice (E := slvEn) (hE := ⟨⟩) [(⟨B20, 2, [a, b]⟩ : SlV)]) (fun B21 => ?_)
  refine v_callD 21100 [] (great_spec B21 [⟨B20, 2, [a, b]⟩] 1 (by simp) (by intro x hx; rw [List.mem_singleton.1 hx]; exact ⟨by simp, hsh⟩)) Tryz.func7 (hB := ⟨⟨_, (Der.rdn (Der.vw 10021) (Each.cons (Der.rdn (Der.vw 10020) (Each.cons (Der.vw 101) (Each.cons (Der.vw 201) Each.nil))) Each.nil)), rfl⟩, trivial⟩) (h := ?_)
  rintro _ _ (⟨gt, rfl, hgt, rfl⟩)
  refine v_ops [] (hk := ?_)
  first | refine c_ifd rfl (fun h27 => ?_) (fun h27 => ?_) | refine c_ifn rfl (fun h27 => ?_) (fun h27 => ?_) | refine c_if rfl (fun h27 => ?_) (fun h27 => ?_)
  · refine v_code [] (hk := ?_)
    refine v_callD 21400 [] (awake_spec) Tryz.func8 (hB := trivial) (h := ?_)
    rintro _ _ (⟨rfl, rfl⟩)
    refine v_ops [] (hk := ?_)
    refine v_ret rfl [] (.cons (.tmp rfl) .nil) (h := ?_)
    exact ⟨rfl, rfl⟩
  · have hgt2 := (hgt (by simp only [Bool.or_eq_false_iff] at h27; exact h27.1)) ⟨B20, 2, [a, b]⟩ (by simp)
    have fa : FitS a := ⟨by have := hgt2.2 a (by simp); omega, ha.2⟩
    have fb : FitS b := ⟨by have := hgt2.2 b (by simp); omega, hb.2⟩
    refine v_code [] (hk := ?_)
    refine v_cut (fun E H => ∃ g9 g10 B30 d30 B32 d32, E = [(9, vp 10009 ⟨g9, 0, none⟩), (10, vp 10010 ⟨g10, 0, none⟩)] ∧ H = [(10009, Res.va g9 26 [.one (.i .i64 a.coin), .one (.sl 21500 B30 a.assets.length d30)]), (10010, Res.va g10 26 [.one (.i .i64 b.coin), .one (.sl 21600 B32 b.assets.length d32)]), (21500, Res.rows B30 d30 57 assetEn (lentL a.assets)), (21600, Res.rows B32 d32 57 assetEn (lentL b.assets))] ∧ a.assets.length + 12 ≤ d30 ∧ b.assets.length + 12 ≤ d32) [3, 4, 5, 6, 8, 11, 12, 13, 14, 15, 17, 33, 34, 35, 36, 37, 38, 39, 40, 41, 42, 43, 44, 45, 46, 47, 48, 49, 50, 51, 52, 53, 54, 55, 56, 57, 58, 59, 60, 61, 62, 63, 64, 65, 66, 67, 68, 69, 70, 71, 72, 73, 74, 75, 76, 77, 78, 79, 80, 81, 82, 83, 84, 85, 86, 87, 88, 89, 90, 91, 92, 93, 94, 95, 96, 97, 98, 99, 100, 101, 102, 103, 104, 105, 106, 107, 108, 109, 110, 111, 112, 113, 114, 115, 116, 117, 118, 119, 120, 121, 122, 123, 124, 125, 126, 127, 128, 129, 130, 131, 132, 133, 134, 135, 136, 137, 138, 139, 140, 141, 142, 143, 144, 145, 146, 147, 148, 149, 150, 151, 152, 153, 154, 155, 156, 157] [] (h1 := ?_) (h2 := ?_)
    · refine v_draw (.q 0 (.q 2 (.s3 1 (.s3 3 (.s2 4 (.s 5 (.s 6 (.s 7 .nil))) 5 (.s 4 (.s 6 (.s 7 .nil)))) 4 (.s2 3 (.s 5 (.s 6 (.s 7 .nil))) 5 (.s 3 (.s 6 (.s 7 .nil)))) 5 (.s2 3 (.s 4 (.s 6 (.s 7 .nil))) 4 (.s 3 (.s 6 (.s 7 .nil))))) 4 (.s2 1 (.s2 3 (.s 5 (.s 6 (.s 7 .nil))) 5 (.s 3 (.s 6 (.s 7 .nil)))) 5 (.s 1 (.s 3 (.s 6 (.s 7 .nil))))) 5 (.s2 1 (.s2 3 (.s 4 (.s 6 (.s 7 .nil))) 4 (.s 3 (.s 6 (.s 7 .nil)))) 4 (.s 1 (.s 3 (.s 6 (.s 7 .nil)))))))) [10004, 10005] (hm := by kernel_rfl) (hs := by kernel_rfl) (hk := by kernel_rfl) (h := ?_)
      refine v_sch [] (hk := ?_)
      refine s_three ?_ ?_ ?_
      · refine v_callS rfl 21500 [] (lentValue_spec a ha.1) Tryz.func23 (h := ?_)
        rintro _ _ (⟨B30, d30, hd30, rfl, rfl⟩)
        refine ⟨cov_of (by repeat (first | exact trivial | refine ⟨rfl, ?_⟩)), ?_⟩
        refine v_sch [] (hk := ?_)
        refine s_three ?_ ?_ ?_
        · refine v_callS rfl 21600 [(101, 201)] (lentValue_spec b hb.1) Tryz.func23 (h := ?_)
          rintro _ _ (⟨B32, d32, hd32, rfl, rfl⟩)
          refine ⟨cov_of (by repeat (first | exact trivial | refine ⟨rfl, ?_⟩)), ?_⟩
          refine v_sch [] (hk := ?_)
          refine s_two ?_ ?_
          · refine s_do rfl d_alloc (fun g9 => ?_)
            refine s_do rfl d_alloc (fun g10 => ?_)
            refine v_sch [] (hk := ?_)
            refine v_join (⟨g9, g10, B30, d30, B32, d32, rfl, rfl, hd30, hd32⟩)
          · refine s_do rfl d_alloc (fun g10 => ?_)
            refine s_do rfl d_alloc (fun g9 => ?_)
            refine v_sch [] (hk := ?_)
            refine v_join (⟨g9, g10, B30, d30, B32, d32, rfl, rfl, hd30, hd32⟩)
        · refine s_do rfl d_alloc (fun g9 => ?_)
          refine v_sch [] (hk := ?_)
          refine s_two ?_ ?_
          · refine v_callS rfl 21600 [(101, 201)] (lentValue_spec b hb.1) Tryz.func23 (h := ?_)
            rintro _ _ (⟨B32, d32, hd32, rfl, rfl⟩)
            refine ⟨cov_of (by repeat (first | exact trivial | refine ⟨rfl, ?_⟩)), ?_⟩
            refine s_do rfl d_alloc (fun g10 => ?_)
            refine v_sch [] (hk := ?_)
            refine v_join (⟨g9, g10, B30, d30, B32, d32, rfl, rfl, hd30, hd32⟩)
          · refine s_do rfl d_alloc (fun g10 => ?_)
            refine v_callS rfl 21600 [(101, 201)] (lentValue_spec b hb.1) Tryz.func23 (h := ?_)
            rintro _ _ (⟨B32, d32, hd32, rfl, rfl⟩)
            refine ⟨cov_of (by repeat (first | exact trivial | refine ⟨rfl, ?_⟩)), ?_⟩
            refine v_sch [] (hk := ?_)
            refine v_join (⟨g9, g10, B30, d30, B32, d32, rfl, rfl, hd30, hd32⟩)
        · refine s_do rfl d_alloc (fun g10 => ?_)
          refine v_sch [] (hk := ?_)
          refine s_two ?_ ?_
          · refine v_callS rfl 21600 [(101, 201)] (lentValue_spec b hb.1) Tryz.func23 (h := ?_)
            rintro _ _ (⟨B32, d32, hd32, rfl, rfl⟩)
            refine ⟨cov_of (by repeat (first | exact trivial | refine ⟨rfl, ?_⟩)), ?_⟩
            refine s_do rfl d_alloc (fun g9 => ?_)
            refine v_sch [] (hk := ?_)
            refine v_join (⟨g9, g10, B30, d30, B32, d32, rfl, rfl, hd30, hd32⟩)
          · refine s_do rfl d_alloc (fun g9 => ?_)
            refine v_callS rfl 21600 [(101, 201)] (lentValue_spec b hb.1) Tryz.func23 (h := ?_)
            rintro _ _ (⟨B32, d32, hd32, rfl, rfl⟩)
            refine ⟨cov_of (by repeat (first | exact trivial | refine ⟨rfl, ?_⟩)), ?_⟩
            refine v_sch [] (hk := ?_)
            refine v_join (⟨g9, g10, B30, d30, B32, d32, rfl, rfl, hd30, hd32⟩)
      · refine s_do rfl d_alloc (fun g9 => ?_)
        refine v_sch [] (hk := ?_)
        refine s_two ?_ ?_
        · refine v_callS rfl 21500 [] (lentValue_spec a ha.1) Tryz.func23 (h := ?_)
          rintro _ _ (⟨B30, d30, hd30, rfl, rfl⟩)
          refine ⟨cov_of (by repeat (first | exact trivial | refine ⟨rfl, ?_⟩)), ?_⟩
          refine v_sch [] (hk := ?_)
          refine s_two ?_ ?_
          · refine v_callS rfl 21600 [(101, 201)] (lentValue_spec b hb.1) Tryz.func23 (h := ?_)
            rintro _ _ (⟨B32, d32, hd32, rfl, rfl⟩)
            refine ⟨cov_of (by repeat (first | exact trivial | refine ⟨rfl, ?_⟩)), ?_⟩
            refine s_do rfl d_alloc (fun g10 => ?_)
            refine v_sch [] (hk := ?_)
            refine v_join (⟨g9, g10, B30, d30, B32, d32, rfl, rfl, hd30, hd32⟩)
          · refine s_do rfl d_alloc (fun g10 => ?_)
            refine v_callS rfl 21600 [(101, 201)] (lentValue_spec b hb.1) Tryz.func23 (h := ?_)
            rintro _ _ (⟨B32, d32, hd32, rfl, rfl⟩)
            refine ⟨cov_of (by repeat (first | exact trivial | refine ⟨rfl, ?_⟩)), ?_⟩
            refine v_sch [] (hk := ?_)
            refine v_join (⟨g9, g10, B30, d30, B32, d32, rfl, rfl, hd30, hd32⟩)
        · refine s_do rfl d_alloc (fun g10 => ?_)
          refine v_callS rfl 21500 [] (lentValue_spec a ha.1) Tryz.func23 (h := ?_)
          rintro _ _ (⟨B30, d30, hd30, rfl, rfl⟩)
          refine ⟨cov_of (by repeat (first | exact trivial | refine ⟨rfl, ?_⟩)), ?_⟩
          refine v_callS rfl 21600 [(101, 201)] (lentValue_spec b hb.1) Tryz.func23 (h := ?_)
          rintro _ _ (⟨B32, d32, hd32, rfl, rfl⟩)
          refine ⟨cov_of (by repeat (first | exact trivial | refine ⟨rfl, ?_⟩)), ?_⟩
          refine v_sch [] (hk := ?_)
          refine v_join (⟨g9, g10, B30, d30, B32, d32, rfl, rfl, hd30, hd32⟩)
      · refine s_do rfl d_alloc (fun g10 => ?_)
        refine v_sch [] (hk := ?_)
        refine s_two ?_ ?_
        · refine v_callS rfl 21500 [] (lentValue_spec a ha.1) Tryz.func23 (h := ?_)
          rintro _ _ (⟨B30, d30, hd30, rfl, rfl⟩)
          refine ⟨cov_of (by repeat (first | exact trivial | refine ⟨rfl, ?_⟩)), ?_⟩
          refine v_sch [] (hk := ?_)
          refine s_two ?_ ?_
          · refine v_callS rfl 21600 [(101, 201)] (lentValue_spec b hb.1) Tryz.func23 (h := ?_)
            rintro _ _ (⟨B32, d32, hd32, rfl, rfl⟩)
            refine ⟨cov_of (by repeat (first | exact trivial | refine ⟨rfl, ?_⟩)), ?_⟩
            refine s_do rfl d_alloc (fun g9 => ?_)
            refine v_sch [] (hk := ?_)
            refine v_join (⟨g9, g10, B30, d30, B32, d32, rfl, rfl, hd30, hd32⟩)
          · refine s_do rfl d_alloc (fun g9 => ?_)
            refine v_callS rfl 21600 [(101, 201)] (lentValue_spec b hb.1) Tryz.func23 (h := ?_)
            rintro _ _ (⟨B32, d32, hd32, rfl, rfl⟩)
            refine ⟨cov_of (by repeat (first | exact trivial | refine ⟨rfl, ?_⟩)), ?_⟩
            refine v_sch [] (hk := ?_)
            refine v_join (⟨g9, g10, B30, d30, B32, d32, rfl, rfl, hd30, hd32⟩)
        · refine s_do rfl d_alloc (fun g9 => ?_)
          refine v_callS rfl 21500 [] (lentValue_spec a ha.1) Tryz.func23 (h := ?_)
          rintro _ _ (⟨B30, d30, hd30, rfl, rfl⟩)
          refine ⟨cov_of (by repeat (first | exact trivial | refine ⟨rfl, ?_⟩)), ?_⟩
          refine v_callS rfl 21600 [(101, 201)] (lentValue_spec b hb.1) Tryz.func23 (h := ?_)
          rintro _ _ (⟨B32, d32, hd32, rfl, rfl⟩)
          refine ⟨cov_of (by repeat (first | exact trivial | refine ⟨rfl, ?_⟩)), ?_⟩
          refine v_sch [] (hk := ?_)
          refine v_join (⟨g9, g10, B30, d30, B32, d32, rfl, rfl, hd30, hd32⟩)
    · rintro _ _ (⟨g9, g10, B30, d30, B32, d32, rfl, rfl, hd30, hd32⟩)
      refine v_ex [] (hk := ?_)
      refine v_callD 21800 [] (sub_spec ⟨a.coin, B30, d30, a.assets⟩ ⟨b.coin, B32, d32, b.assets⟩ ha hb) Tryz.func24 (hB := ⟨⟨_, (Der.vw 21500 rfl (view_pre view_rows)), rfl⟩, ⟨⟨_, (Der.vw 21600 rfl (view_pre view_rows)), rfl⟩, trivial⟩⟩) (h := ?_)
      rintro _ _ (⟨c, ok, hc, rfl, rfl⟩)
      refine v_ops [] (hk := ?_)
      refine l_do d_alloc (fun g11 => ?_)
      refine v_ops [] (hk := ?_)
      refine v_callD 22100 [] (subR_spec a b fa fb) Tryz.func25 (hB := ⟨⟨_, (Der.vw 101), rfl⟩, ⟨⟨_, (Der.vw 201), rfl⟩, trivial⟩⟩) (h := ?_)
      rintro _ _ (⟨d, is, hd, rfl, rfl⟩)
      have h2 := two_subs ⟨rfl, rfl⟩ ⟨rfl, rfl⟩ hc hd
      obtain rfl := h2.o
      refine v_ops [] (hk := ?_)
      refine l_do d_alloc (fun g13 => ?_)
      refine v_ops [] (hk := ?_)
      refine v_callD 22400 [] (sub_spec ⟨a.coin, B30, d30, a.assets⟩ ⟨b.coin, B32, d32, b.assets⟩ ha hb) Tryz.func24 (hB := ⟨⟨_, (Der.vw 21500 rfl (view_pre view_rows)), rfl⟩, ⟨⟨_, (Der.vw 21600 rfl (view_pre view_rows)), rfl⟩, trivial⟩⟩) (h := ?_)
      rintro _ _ (⟨e, ok2, he, rfl, rfl⟩)
      refine v_ops [] (hk := ?_)
      refine l_do d_alloc (fun g15 => ?_)
      refine v_ops [] (hk := ?_)
      refine v_draw (.q 0 (.q 1 (.q 2 (.q 3 (.q 4 (.q 5 (.s 6 (.q 7 (.q 8 (.q 9 (.q 10 (.q 11 (.q 13 (.s 12 (.q 14 (.q 15 (.q 16 (.q 17 (.q 19 (.s 18 (.s 20 (.q 21 (.q 22 (.q 23 (.q 24 (.q 25 (.q 27 (.q 28 (.s 26 (.s 29 (.q 30 (.q 31 (.q 32 (.q 33 (.q 34 (.q 35 (.q 37 (.q 38 (.q 39 (.s 36 (.s 40 (.q 41 (.q 42 .nil))))))))))))))))))))))))))))))))))))))))))) [10004, 10005, 10006, 10020, 10021, 21100, 21101, 21102, 21103, 10025, 21400, 21401, 21402, 21403, 21500, 21501, 21502, 21503, 21600, 21601, 21602, 21603, 10009, 10010, 21800, 21801, 21802, 21803, 10011, 22100, 22101, 22102, 22103, 10013, 22400, 22401, 22402, 22403, 10015, 22850, 22851, 22852, 22853, 23150, 23151, 23152, 23153, 23450, 23451, 23452, 23453, 23550, 23551, 23552, 23553, 23850, 23851, 23852, 23853, 24000, 24001, 24002, 24003, 24350, 24351, 24352, 24353, 24550, 24551, 24552, 24553, 10097, 25700, 25701, 25702, 25703, 26400, 26401, 26402, 26403, 26600, 26601, 26602, 26603, 26800, 26801, 26802, 26803, 10141, 10142, 27150, 27151, 27152, 27153, 27400, 27401, 27402, 27403, 27650, 27651, 27652, 27653, 27800, 27801, 27802, 27803] (hm := by kernel_rfl) (hs := by kernel_rfl) (hk := by kernel_rfl) (h := ?_)
      refine v_sch [] (hk := ?_)
      refine k_valC 54 (vb false) rfl (by simp) ?_
      refine k_valC 55 (.s (.agg [.one (.i .i64 c.coin), .one (.sl 21800 c.A c.assets.length c.c)])) rfl (if_pos (by simp)) ?_
      refine k_valC 56 (.s (.agg [.one (.i .i64 d.coin), .one (.sl 22100 d.A d.assets.length d.c)])) rfl (if_pos (by simp)) ?_
      refine v_callDS rfl 22850 [] (sameValue_spec c d (subs_len hc)) Tryz.func15 (hB := ⟨⟨_, (Der.vw 21800), rfl⟩, ⟨⟨_, (Der.vw 22100), rfl⟩, trivial⟩⟩) (h := ?_)
      rintro _ _ (⟨rfl, rfl⟩)
      refine ⟨cov_of (by repeat (first | exact trivial | refine ⟨rfl, ?_⟩)), ?_⟩
      refine v_knowC 57 true rfl (decide_eq_true ⟨h2.c, h2.a⟩) ?_
      refine v_knowC 54 false rfl rfl ?_
      refine v_sch [] (hk := ?_)
      refine k_valC 60 (vb false) rfl rfl ?_
      refine v_callDS rfl 23150 [] (covers_spec ⟨a.coin, B30, d30, a.assets⟩ ⟨b.coin, B32, d32, b.assets⟩ ha hb) Tryz.func26 (hB := ⟨⟨_, (Der.vw 21500 rfl (view_pre view_rows)), rfl⟩, ⟨⟨_, (Der.vw 21600 rfl (view_pre view_rows)), rfl⟩, trivial⟩⟩) (h := ?_)
      rintro _ _ (⟨v3, ok3, hv3, rfl, rfl⟩)
      refine ⟨cov_of (by repeat (first | exact trivial | refine ⟨rfl, ?_⟩)), ?_⟩
      have h3 := two_subs ⟨rfl, rfl⟩ ⟨rfl, rfl⟩ hv3 hd
      obtain rfl := h3.o
      refine v_knowC 60 false rfl rfl ?_
      refine v_sch [] (hk := ?_)
      refine k_valC 67 (vb false) rfl (by simp) ?_
      refine k_valC 68 (.s (.agg [.one (.i .i64 a.coin), .one (.sl 21500 B30 a.assets.length d30)])) rfl (if_pos (by simp)) ?_
      refine k_valC 70 (.s (.agg [.one (.i .i64 a.coin), .one (.sl 101 a.A a.assets.length a.c)])) rfl (if_pos (by simp)) ?_
      refine v_callDS rfl 23450 [] (right_spec a.coin B30 a.assets d30 ha.1) Tryz.func27 (hB := ⟨⟨_, (Der.vw 21500 rfl (view_pre view_rows)), rfl⟩, trivial⟩) (h := ?_)
      rintro _ _ (⟨rfl, rfl⟩)
      refine ⟨cov_of (by repeat (first | exact trivial | refine ⟨rfl, ?_⟩)), ?_⟩
      refine v_callDS rfl 23550 [] (rightR_spec a.coin a.A a.assets a.c ha.1) Tryz.func28 (hB := ⟨⟨_, (Der.vw 101), rfl⟩, trivial⟩) (h := ?_)
      rintro _ _ (⟨rfl, rfl⟩)
      refine ⟨cov_of (by repeat (first | exact trivial | refine ⟨rfl, ?_⟩)), ?_⟩
      refine v_knowC 67 false rfl rfl ?_
      refine v_sch [] (hk := ?_)
      refine k_valC 74 (vb false) rfl (by simp) ?_
      refine k_valC 76 (vsl 21500 B30 a.assets.length d30) rfl (if_pos (by simp)) ?_
      refine k_valC 79 (vsl 101 a.A a.assets.length a.c) rfl (if_pos (by simp)) ?_
      refine v_callDS rfl 23850 [] (mints_spec B30 a.assets d30 ha.1) Tryz.func29 (hB := ⟨⟨_, (Der.vw 21500 rfl (view_pre view_rows)), rfl⟩, trivial⟩) (h := ?_)
      rintro _ _ (⟨rfl, rfl⟩)
      refine ⟨cov_of (by repeat (first | exact trivial | refine ⟨rfl, ?_⟩)), ?_⟩
      refine v_callDS rfl 24000 [] (mintsR_spec a.A a.assets a.c ha.1) Tryz.func30 (hB := ⟨⟨_, (Der.vw 101), rfl⟩, trivial⟩) (h := ?_)
      rintro _ _ (⟨rfl, rfl⟩)
      refine ⟨cov_of (by repeat (first | exact trivial | refine ⟨rfl, ?_⟩)), ?_⟩
      refine v_knowC 74 false rfl rfl ?_
      refine v_sch [] (hk := ?_)
      refine k_valC 83 (vb false) rfl (by simp) ?_
      refine k_valC 84 (.s (.agg [.one (.i .i64 a.coin), .one (.sl 21500 B30 a.assets.length d30)])) rfl (if_pos (by simp)) ?_
      refine k_valC 85 (.s (.agg [.hash policy])) rfl (if_pos (by simp)) ?_
      refine k_valC 86 (vs name) rfl (if_pos (by simp)) ?_
      refine k_valC 88 (.s (.agg [.one (.i .i64 a.coin), .one (.sl 101 a.A a.assets.length a.c)])) rfl (if_pos (by simp)) ?_
      refine k_valC 89 (.s (.agg [.hash policy])) rfl (if_pos (by simp)) ?_
      refine k_valC 90 (vs name) rfl (if_pos (by simp)) ?_
      refine v_callDS rfl 24350 [] (of_spec ⟨a.coin, B30, d30, a.assets⟩ ⟨policy, name⟩ ha.1) Tryz.func31 (hB := ⟨⟨_, (Der.vw 21500 rfl (view_pre view_rows)), rfl⟩, trivial⟩) (h := ?_)
      rintro _ _ (⟨rfl, rfl⟩)
      refine ⟨cov_of (by repeat (first | exact trivial | refine ⟨rfl, ?_⟩)), ?_⟩
      refine v_callDS rfl 24550 [] (ofR_spec a ⟨policy, name⟩ ha.1) Tryz.func32 (hB := ⟨⟨_, (Der.vw 101), rfl⟩, trivial⟩) (h := ?_)
      rintro _ _ (⟨rfl, rfl⟩)
      refine ⟨cov_of (by repeat (first | exact trivial | refine ⟨rfl, ?_⟩)), ?_⟩
      refine v_knowC 83 false rfl rfl ?_
      refine v_sch [] (hk := ?_)
      first | refine c_ifd rfl (fun h93 => ?_) (fun h93 => ?_) | refine c_ifn rfl (fun h93 => ?_) (fun h93 => ?_) | refine c_if rfl (fun h93 => ?_) (fun h93 => ?_)
      · exact absurd h93 (by simp)
      · refine v_code [] (hk := ?_)
        refine v_loop (fun m E H => ∃ (k : Nat), E = [(17, vn k)] ∧ H = [] ∧ m = a.assets.length - k ∧ k ≤ a.assets.length) [4, 5, 9, 10, 11, 15, 130, 131, 132, 133, 134, 135, 136, 137, 138, 139, 140, 141, 142, 143, 144, 145, 146, 147, 148, 149, 150, 151, 152, 153, 154, 155, 156, 157] (a.assets.length) ([(17, vn 0)]) ([]) (h0 := ⟨0, rfl, rfl, by omega, by omega⟩) (hr := ?_)
        rintro _ _ _ ⟨k, rfl, rfl, hmk, hk⟩
        refine v_code [] (hk := ?_)
        first | refine c_ifd rfl (fun h98 => ?_) (fun h98 => ?_) | refine c_ifn rfl (fun h98 => ?_) (fun h98 => ?_) | refine c_if rfl (fun h98 => ?_) (fun h98 => ?_)
        · refine v_code [] (hk := ?_)
          refine v_draw (.q 0 (.q 1 (.q 2 (.q 3 (.q 4 (.q 5 (.q 6 (.q 7 (.q 8 (.q 9 (.q 10 (.q 11 (.q 12 (.q 14 (.q 15 (.q 16 (.q 17 (.q 18 (.q 19 (.q 20 (.q 21 (.q 22 (.q 23 (.q 24 (.q 25 (.q 26 (.s 13 (.s 27 (.q 28 .nil))))))))))))))))))))))))))))) [10004, 10005, 10006, 10020, 10021, 21100, 21101, 21102, 21103, 10025, 21400, 21401, 21402, 21403, 21500, 21501, 21502, 21503, 21600, 21601, 21602, 21603, 10009, 10010, 21800, 21801, 21802, 21803, 10011, 22100, 22101, 22102, 22103, 10013, 22400, 22401, 22402, 22403, 10015, 22850, 22851, 22852, 22853, 23150, 23151, 23152, 23153, 23450, 23451, 23452, 23453, 23550, 23551, 23552, 23553, 23850, 23851, 23852, 23853, 24000, 24001, 24002, 24003, 24350, 24351, 24352, 24353, 24550, 24551, 24552, 24553, 10097, 25700, 25701, 25702, 25703, 26400, 26401, 26402, 26403, 26600, 26601, 26602, 26603, 26800, 26801, 26802, 26803, 10141, 10142, 27150, 27151, 27152, 27153, 27400, 27401, 27402, 27403, 27650, 27651, 27652, 27653, 27800, 27801, 27802, 27803] (hm := by kernel_rfl) (hs := by kernel_rfl) (hk := by kernel_rfl) (h := ?_)
          refine v_sch [] (hk := ?_)
          refine v_callDS rfl 25700 [] (of_spec ⟨a.coin, B30, d30, a.assets⟩ (a.assets.getD k asset0).key ha.1) Tryz.func31 (hB := ⟨⟨_, (Der.vw 21500 rfl (view_pre view_rows)), rfl⟩, trivial⟩) (h := ?_)
          rintro _ _ (⟨rfl, rfl⟩)
          refine ⟨cov_of (by repeat (first | exact trivial | refine ⟨rfl, ?_⟩)), ?_⟩
          refine v_callDS rfl 26400 [] (ofR_spec a (a.assets.getD k asset0).key ha.1) Tryz.func32 (hB := ⟨⟨_, (Der.vw 101), rfl⟩, trivial⟩) (h := ?_)
          rintro _ _ (⟨rfl, rfl⟩)
          refine ⟨cov_of (by repeat (first | exact trivial | refine ⟨rfl, ?_⟩)), ?_⟩
          refine v_sch [] (hk := ?_)
          first | refine c_ifd rfl (fun h129 => ?_) (fun h129 => ?_) | refine c_ifn rfl (fun h129 => ?_) (fun h129 => ?_) | refine c_if rfl (fun h129 => ?_) (fun h129 => ?_)
          · exact absurd h129 (by simp)
          · refine v_code [] (hk := ?_)
            refine v_again (a.assets.length - (k + 1)) ⟨k + 1, rfl, rfl, by omega, by omega⟩
        · refine v_code [] (hk := ?_)
          refine v_callD 26600 [] (keptValue_spec ⟨a.coin, B30, d30, a.assets⟩ a ha.1 rfl rfl hd30) Tryz.func33 (hB := ⟨⟨_, (Der.vw 21500), rfl⟩, ⟨⟨_, (Der.vw 101), rfl⟩, trivial⟩⟩) (h := ?_)
          rintro _ _ (⟨rfl, rfl⟩)
          refine v_know 132 true rfl rfl ?_
          refine v_ops [] (hk := ?_)
          refine k_val 133 (vb true) rfl rfl ?_
          refine v_callD 26800 [] (keptValue_spec ⟨b.coin, B32, d32, b.assets⟩ b hb.1 rfl rfl hd32) Tryz.func33 (hB := ⟨⟨_, (Der.vw 21600), rfl⟩, ⟨⟨_, (Der.vw 201), rfl⟩, trivial⟩⟩) (h := ?_)
          rintro _ _ (⟨rfl, rfl⟩)
          refine v_know 136 true rfl rfl ?_
          refine v_know 133 true rfl rfl ?_
          refine v_ops [] (hk := ?_)
          refine k_val 138 (vb true) rfl rfl ?_
          refine l_do (d_bslice [c, e]) (fun B141 => ?_)
          refine l_do (d_bslice (E := hdEn ValueM 51) (hE := ⟨⟩) [(⟨B141, 2, [c, e]⟩ : Hd ValueM)]) (fun B142 => ?_)
          refine v_know 138 true rfl rfl ?_
          refine v_ops [] (hk := ?_)
          refine k_empty 902 ?_
          refine k_push 902 21800 rfl rfl ?_
          refine k_push 902 22400 rfl rfl ?_
          refine k_res 902 (Res.bag ((hds [⟨B141, 2, [c, e]⟩]).map (Hd.res 57 assetEn))) rfl rfl ?_
          refine v_ops [] (hk := ?_)
          refine k_empty 903 ?_
          refine k_push 903 10141 rfl rfl ?_
          refine k_res 903 (Res.bag ([(⟨B141, 2, [c, e]⟩ : Hd ValueM)].map (Hd.res 26 valueEn))) rfl rfl ?_
          refine v_ops [] (hk := ?_)
          refine k_val 138 (vb true) rfl rfl ?_
          refine v_callD 27150 [(111, 902), (112, 903)] (apartValues_spec B142 1 [⟨B141, 2, [c, e]⟩] (by simp) (by simp) (by simp [hds]) (by intro s hs; simp [hds, hdOf] at hs; rcases hs with rfl | rfl; exact subs_len hc; exact subs_len he)) Tryz.func22 (hB := ⟨⟨_, (Der.vw 10142), rfl⟩, trivial⟩) (h := ?_)
          rintro _ _ (⟨rfl, rfl⟩)
          refine v_know 143 true rfl rfl ?_
          refine v_know 138 true rfl rfl ?_
          refine v_ops [] (hk := ?_)
          refine k_val 145 (vb true) rfl rfl ?_
          refine v_callD 27400 [] (keptValue_spec ⟨a.coin, B30, d30, a.assets⟩ a ha.1 rfl rfl hd30) Tryz.func33 (hB := ⟨⟨_, (Der.vw 21500), rfl⟩, ⟨⟨_, (Der.vw 101), rfl⟩, trivial⟩⟩) (h := ?_)
          rintro _ _ (⟨rfl, rfl⟩)
          refine v_know 148 true rfl rfl ?_
          refine v_know 145 true rfl rfl ?_
          refine v_ops [] (hk := ?_)
          refine k_val 150 (vb true) rfl rfl ?_
          refine v_callD 27650 [] (keptValue_spec ⟨b.coin, B32, d32, b.assets⟩ b hb.1 rfl rfl hd32) Tryz.func33 (hB := ⟨⟨_, (Der.vw 21600), rfl⟩, ⟨⟨_, (Der.vw 201), rfl⟩, trivial⟩⟩) (h := ?_)
          rintro _ _ (⟨rfl, rfl⟩)
          refine v_know 153 true rfl rfl ?_
          refine v_know 150 true rfl rfl ?_
          refine v_ops [] (hk := ?_)
          refine k_val 155 (vb true) rfl rfl ?_
          refine v_callD 27800 [] (awake_spec) Tryz.func8 (hB := trivial) (h := ?_)
          rintro _ _ (⟨rfl, rfl⟩)
          refine v_know 156 true rfl rfl ?_
          refine v_know 155 true rfl rfl ?_
          refine v_ops [] (hk := ?_)
          refine v_ret rfl [] (.cons (.tmp rfl) .nil) (h := ?_)
          exact ⟨rfl, rfl⟩
end Go.Proofs.YtlnckcgbpilmdaaGreat
/- ValueEnds: what it is made of, plain. -/



set_option linter.unusedVariables false
set_option linter.unusedSimpArgs false
namespace Go.Proofs.YtlnckcgbpilmdaaGreat
open Go Go.RowKit HL
instance : ElT Tryz.prog 2 (intEn .i64) := ⟨⟩
instance : ElT Tryz.prog 9 strEn := ⟨⟩
def numsL : List Int := [-9223372036854775808, -1, 0, 1, 2, 9223372036854775806, 9223372036854775807]
def namesL : List ByteArray := [⟨#[]⟩, ⟨#[97]⟩, ⟨#[97, 0]⟩, ⟨#[98]⟩, ⟨#[98, 98, 98, 98, 98, 98, 98, 98, 98, 98, 98, 98, 98, 98, 98, 98, 98, 98, 98, 98, 98, 98, 98, 98, 98, 98, 98, 98, 98, 98, 98, 98]⟩, ⟨#[98, 98, 98, 98, 98, 98, 98, 98, 98, 98, 98, 98, 98, 98, 98, 98, 98, 98, 98, 98, 98, 98, 98, 98, 98, 98, 98, 98, 98, 98, 98, 98, 98]⟩]
def widesL : List WideP := [⟨-9223372036854775808, 0⟩, ⟨-1, 18446744073709551615⟩, ⟨0, 0⟩, ⟨0, 18446744073709551615⟩, ⟨9223372036854775807, 18446744073709551615⟩]
theorem nums_len : numsL.length = 7 := rfl
theorem names_len : namesL.length = 6 := rfl
theorem wides_len : widesL.length = 5 := rfl
theorem fit_nums {k : Nat} : Fits64 (numsL.getD k 0) := by
  by_cases h : k < numsL.length
  · have := getD_mem (d := (0 : Int)) h
    revert this
    generalize numsL.getD k 0 = x
    intro hx
    simp only [numsL, List.mem_cons, List.not_mem_nil, or_false] at hx
    unfold Fits64
    omega
  · rw [List.getD_eq_getElem?_getD, List.getElem?_eq_none (by omega)]
    exact ⟨by decide, by decide⟩
theorem size_names {k : Nat} : (namesL.getD k ⟨#[]⟩).size ≤ 33 := by
  by_cases h : k < namesL.length
  · have h2 : ∀ s ∈ namesL, s.size ≤ 33 := by
      intro s hs
      simp only [namesL, List.mem_cons, List.not_mem_nil, or_false] at hs
      rcases hs with rfl | rfl | rfl | rfl | rfl | rfl <;> decide
    exact h2 _ (getD_mem h)
  · rw [List.getD_eq_getElem?_getD, List.getElem?_eq_none (by omega)]
    decide
theorem ok_wides {k : Nat} {d : WideP} (h : k < widesL.length) : WOk (widesL.getD k d) := by
  have h2 : ∀ w ∈ widesL, WOk w := by
    intro w hw
    simp only [widesL, List.mem_cons, List.not_mem_nil, or_false] at hw
    rcases hw with rfl | rfl | rfl | rfl | rfl <;> (unfold WOk; decide)
  exact h2 _ (getD_mem h)
def GoodA (x : AssetP) : Prop := Fits64 x.amount ∧ x.name.size ≤ 33
def GoodV (v : ValueM) : Prop := Fits64 v.coin ∧ v.assets.length ≤ 100 ∧ ∀ x ∈ v.assets, GoodA x
theorem GoodV.fit {v : ValueM} (h : GoodV v) : FitV v := ⟨by have := h.2.1; omega, h.1, fun x hx => (h.2.2 x hx).1⟩
theorem GoodV.short {v : ValueM} (h : GoodV v) : Short v.assets := fun x hx => by have := (h.2.2 x hx).2; omega
theorem good_all {l : List ValueM} (h : ∀ v ∈ l, GoodV v) : Shorts l ∧ ∀ v ∈ l, FitV v := ⟨fun v hv => ⟨(h v hv).fit.1, (h v hv).short⟩, fun v hv => (h v hv).fit⟩
theorem goodA {p : Hash} {s : ByteArray} {a : Int} (ha : Fits64 a) (hs : s.size ≤ 33) : GoodA ⟨p, s, a⟩ := ⟨ha, hs⟩
theorem good0 {c : Int} {A : Option Addr} {d : Nat} (hc : Fits64 c) : GoodV ⟨c, A, d, []⟩ := ⟨hc, by simp, by simp⟩
theorem good1 {c : Int} {A : Option Addr} {d : Nat} {x : AssetP} (hc : Fits64 c) (hx : GoodA x) : GoodV ⟨c, A, d, [x]⟩ := ⟨hc, by simp, fun y hy => by rw [List.mem_singleton.1 hy]; exact hx⟩
theorem good2 {c : Int} {A : Option Addr} {d : Nat} {x y : AssetP} (hc : Fits64 c) (hx : GoodA x) (hy : GoodA y) : GoodV ⟨c, A, d, [x, y]⟩ := ⟨hc, by simp, fun z hz => by
  simp only [List.mem_cons, List.not_mem_nil, or_false] at hz
  rcases hz with rfl | rfl
  · exact hx
  · exact hy⟩
theorem good_app {l m : List ValueM} (h : ∀ v ∈ l, GoodV v) (hm : ∀ v ∈ m, GoodV v) : ∀ v ∈ l ++ m, GoodV v := fun v hv => (List.mem_append.1 hv).elim (h v) (hm v)
theorem all3 {p : ValueM → Prop} {a b c : ValueM} (ha : p a) (hb : p b) (hc : p c) : ∀ v ∈ [a, b, c], p v := fun v hv => by
  simp only [List.mem_cons, List.not_mem_nil, or_false] at hv
  rcases hv with rfl | rfl | rfl <;> assumption
theorem all4 {p : ValueM → Prop} {a b c d : ValueM} (ha : p a) (hb : p b) (hc : p c) (hd : p d) : ∀ v ∈ [a, b, c, d], p v := fun v hv => by
  simp only [List.mem_cons, List.not_mem_nil, or_false] at hv
  rcases hv with rfl | rfl | rfl | rfl <;> assumption
theorem all2 {p : ValueM → Prop} {a b : ValueM} (ha : p a) (hb : p b) : ∀ v ∈ [a, b], p v := fun v hv => by
  simp only [List.mem_cons, List.not_mem_nil, or_false] at hv
  rcases hv with rfl | rfl <;> assumption
theorem all1 {p : ValueM → Prop} {a : ValueM} (ha : p a) : ∀ v ∈ [a], p v := fun v hv => by rw [List.mem_singleton.1 hv]; exact ha
theorem fit1 : Fits64 1 := ⟨by decide, by decide⟩
theorem fit0 : Fits64 0 := ⟨by decide, by decide⟩
theorem fit2 : Fits64 2 := ⟨by decide, by decide⟩
theorem fitT : Fits64 9223372036854775807 := ⟨by decide, by decide⟩
theorem tells_good {a b : ValueM} {policy : Hash} {name : ByteArray} (ha : GoodV a) (hb : GoodV b) (hn : name.size ≤ 33) : CSpec Tryz.prog 4 [.agg [.one (.i .i64 a.coin), .one (.sl 101 a.A a.assets.length a.c)], .agg [.one (.i .i64 b.coin), .one (.sl 201 b.A b.assets.length b.c)], .agg [.hash policy], .one (.s name)] [(101, Res.rd a.A assetEn a.assets), (201, Res.rd b.A assetEn b.assets)] [] fun o L => o = .ret (vb true) ∧ L = [] :=
  tells_spec a b policy name ha.fit hb.fit ha.short hb.short (by omega)
theorem sums_good {A0 A1 A2 : Option Addr} {inn out : List ValueM} {mint : List AssetP} {c0 c1 c2 : Nat} {fee : Int} (l0 : inn.length ≤ 1048576) (l2 : out.length ≤ 1048576) (h0 : ∀ v ∈ inn, GoodV v) (h2 : ∀ v ∈ out, GoodV v) (l1 : mint.length ≤ 100) (h1 : ∀ x ∈ mint, GoodA x) (hf : Fits64 fee) :
    CSpec Tryz.prog 3 [.one (.sl 0 A0 inn.length c0), .one (.sl 1 A1 mint.length c1), .one (.sl 2 A2 out.length c2), .one (.i .i64 fee)] [(0, rdValues A0 inn), (1, Res.rd A1 assetEn mint), (2, rdValues A2 out)] [] fun o L => o = .ret (vb true) ∧ L = [] :=
  sumsL_spec A0 A1 A2 inn out mint c0 c1 c2 fee l0 l2 (good_all h0).1 ⟨by omega, fun x hx => by have := (h1 x hx).2; omega⟩ (good_all h2).1 (good_all h0).2 (fun x hx => (h1 x hx).1) (good_all h2).2 hf
theorem drop_one {α : Type} {l : List α} {k : Nat} {d : α} (h : k < l.length) : (l.drop k).take 1 = [l.getD k d] := by
  rw [List.drop_eq_getElem_cons h, List.take_succ_cons, List.take_zero, List.getD_eq_getElem?_getD, List.getElem?_eq_getElem h]
  rfl
theorem view_one {α : Type} {R : Res} {A : Option Addr} {E : En α} {l : List α} {c k : Nat} {d : α} (h : View R (Res.rd A E l)) (hc : l.length ≤ c) (hk : k < l.length) : View R (Res.rd (tailA A c k E.sz) E [l.getD k d]) := by
  rw [← drop_one hk]
  exact view_take (view_tail h hc (by omega))
theorem rows_room {α : Type} {A : Option Addr} {c : Nat} {e : TypeId} {E : En α} {l : List α} {w : World} (h : (Res.rows A c e E l).holds w) : l.length ≤ c := by
  unfold Res.rows Res.row at h
  exact (show seg w e E.sz A l.length c _ from h).2.1
theorem toNat8 {n : Nat} (h : n < 256) : (UInt8.ofNat n).toNat = n := by
  rw [UInt8.toNat_ofNat']
  exact Nat.mod_eq_of_lt h
theorem den8 {n : Nat} (h : n < 256) : (vnk .u8 n).den = (TV.s (.one (.i .u8 ((UInt8.ofNat n).toNat : Nat)))).den := by
  show Value.int .u8 (n : Int) = Value.int .u8 (((UInt8.ofNat n).toNat : Nat) : Int)
  rw [toNat8 h]
theorem goodA_snoc {l : List AssetP} {x : AssetP} (h : ∀ y ∈ l, GoodA y) (hx : GoodA x) : ∀ y ∈ l ++ [x], GoodA y := fun y hy => by
  rcases List.mem_append.1 hy with hy | hy
  · exact h y hy
  · rw [List.mem_singleton.1 hy]; exact hx
theorem goodE {p : Hash} {a : Int} (ha : Fits64 a) : GoodA ⟨p, ⟨#[]⟩, a⟩ := ⟨ha, Nat.zero_le 33⟩
theorem view_second {α : Type} {R : Res} {A : Option Addr} {E : En α} {a b : α} (h : View R (Res.rd A E [a, b])) : View R (Res.rd (tailA A 2 1 E.sz) E [b]) := view_tail (l := [a, b]) (k := 1) (c := 2) h (by simp) (by simp)
theorem goodRow {A : Option Addr} {c : Nat} {l : List AssetP} (h : ∀ y ∈ l, GoodA y) (hl : l.length ≤ 100) : GoodV ⟨0, A, c, l⟩ := ⟨fit0, hl, h⟩
theorem take_len2 {α : Type} {a b : α} {u : Nat} : ([a, b].take (u % 2)).length = u % 2 := by
  rw [List.length_take]
  simp only [List.length_cons, List.length_nil]
  omega
theorem wok_rows {A : Option Addr} {sz u : Nat} {p q : TotalP} (hp : WOk p.sum) (hq : WOk q.sum) : ∀ x ∈ TL [(⟨A, 2, [p, q]⟩ : SlT), ⟨A, 2, [p, q].take (u % 2)⟩, ⟨tailA A 2 1 sz, 1, [q]⟩], WOk x.sum := by
  have h2 : ∀ x ∈ [p, q], WOk x.sum := fun x hx => by
    simp only [List.mem_cons, List.not_mem_nil, or_false] at hx
    rcases hx with rfl | rfl <;> assumption
  intro x hx
  obtain ⟨r, hr, hx⟩ := List.mem_flatMap.1 hx
  simp only [List.mem_cons, List.not_mem_nil, or_false] at hr
  rcases hr with rfl | rfl | rfl
  · exact h2 x hx
  · exact h2 x (List.mem_of_mem_take hx)
  · exact h2 x (List.mem_cons_of_mem _ hx)
theorem wok3 {a b c : WideP} (ha : WOk a) (hb : WOk b) (hc : WOk c) : ∀ x ∈ [a, b, c], WOk x := fun x hx => by
  simp only [List.mem_cons, List.not_mem_nil, or_false] at hx
  rcases hx with rfl | rfl | rfl <;> assumption
theorem short_rows {A : Option Addr} {sz u : Nat} {p q : TotalP} : ∀ r ∈ [(⟨A, 2, [p, q]⟩ : SlT), ⟨A, 2, [p, q].take (u % 2)⟩, ⟨tailA A 2 1 sz, 1, [q]⟩], r.l.length ≤ 1048576 := by
  intro r hr
  simp only [List.mem_cons, List.not_mem_nil, or_false] at hr
  rcases hr with rfl | rfl | rfl
  · simp
  · simp only [List.length_take, List.length_cons, List.length_nil]; omega
  · simp
end Go.Proofs.YtlnckcgbpilmdaaGreat
/- ValueEnds, walked. -/

set_option linter.unusedVariables false
set_option linter.unusedSimpArgs false
set_option maxRecDepth 100000
set_option maxHeartbeats 8000000
namespace Go.Proofs.YtlnckcgbpilmdaaGreat
open Go Go.RowKit HL
theorem ends_spec : CSpec Tryz.prog 6 [] [] [] fun o L => o = .ret (vb true) ∧ L = [] := by
  have nl := nums_len
  have sl := names_len
  have wl := wides_len
  have k8 : kmax IntKind.u8 = 255 := rfl
  refine v_enter Tryz.func6 (h := fun w0 => ?_)
  refine v_code [] (hk := ?_)
  refine l_do (d_bslice numsL) (fun B15 => ?_)
  refine v_ops [] (hk := ?_)
  refine l_do (d_bslice namesL) (fun B16 => ?_)
  refine v_ops [] (hk := ?_)
  refine k_nil 950 26 valueEn ?_
  refine k_empty 951 ?_
  refine v_loop (fun m E H => ∃ (k : Nat) (l : List ValueM) (rs : List Res) (A2 : Option Addr) (c2 : Nat), E = [(4, vn k), (3, vsl 950 A2 l.length c2)] ∧ H = [(950, Res.rows A2 c2 26 valueEn l), (951, Res.bag rs)] ∧ m = numsL.length - k ∧ k ≤ numsL.length ∧ (∀ v ∈ l, GoodV v) ∧ (l.length = 4 * k) ∧ (rs = l.map ownA)) [0, 1, 2, 5, 6, 7, 8, 9, 10, 11, 12, 13, 14, 62, 63, 64, 65, 66, 67, 68, 69, 70, 71, 72, 73, 74, 75, 76, 77, 78, 79, 80, 81, 82, 83, 84, 85, 86, 87, 88, 89, 90, 91, 92, 93, 94, 95, 96, 97, 98, 99, 100, 101, 102, 103, 104, 105, 106, 107, 108, 109, 110, 111, 112, 113, 114, 115, 116, 117, 118, 119, 120, 121, 122, 123, 124, 125, 126, 127, 128, 129, 130, 131, 132, 133, 134, 135, 136, 137, 138, 139, 140, 141, 142, 143, 144, 145, 146, 147, 148, 149, 150, 151, 152, 153, 154, 155, 156, 157, 158, 159, 160, 161, 162, 163, 164, 165, 166, 167, 168, 169, 170, 171, 172, 173, 174, 175, 176, 177, 178, 179, 180, 181, 182, 183, 184, 185, 186, 187, 188, 189, 190, 191, 192, 193, 194, 195, 196, 197, 198, 199, 200, 201, 202, 203, 204, 205, 206, 207, 208, 209, 210, 211, 212, 213, 214, 215, 216, 217, 218, 219, 220, 221, 222, 223, 224, 225, 226, 227, 228, 229, 230, 231, 232, 233, 234, 235, 236, 237, 238, 239, 240, 241, 242, 243, 244, 245, 246, 247, 248, 249, 250, 251, 252, 253, 254, 255, 256, 257, 258, 259, 260, 261, 262, 263, 264, 265, 266, 267, 268, 269, 270, 271, 272, 273, 274, 275, 276, 277, 278, 279, 280, 281, 282, 283, 284, 285, 286, 287, 288, 289, 290, 291, 292, 293, 294, 295, 296, 297, 298, 299, 300, 301, 302, 303, 304, 305, 306, 307, 308, 309, 310, 311, 312, 313, 314, 315, 316, 317, 318, 319, 320, 321, 322, 323, 324] (numsL.length) ([(4, vn 0), (3, vsl 950 (none) ([]).length (0))]) ([(950, Res.rows (none) (0) 26 valueEn ([])), (951, Res.bag ([]))]) (h0 := ⟨0, [], [], none, 0, rfl, rfl, by omega, by omega, by simp, rfl, rfl⟩) (hr := ?_)
  rintro _ _ _ ⟨k, l, rs, A2, c2, rfl, rfl, hmk, hk, hik0, hik1, hik2⟩
  refine v_code [] (hk := ?_)
  first | refine c_ifd rfl (fun h20 => ?_) (fun h20 => ?_) | refine c_ifn rfl (fun h20 => ?_) (fun h20 => ?_) | refine c_if rfl (fun h20 => ?_) (fun h20 => ?_)
  · as_aux_lemma =>
      refine v_code [] (hk := ?_)
      refine v_draw (.q 0 (.q 1 (.q 2 (.q 3 (.q 4 (.q 6 (.q 7 (.q 8 (.q 9 (.q 14 (.q 15 (.q 16 (.q 17 (.q 21 (.q 22 (.q 23 (.q 24 (.q 25 (.q 26 (.q 27 (.q 28 (.q 30 (.q 31 (.q 32 (.q 33 (.s 5 (.s 10 (.s 11 (.s 12 (.s 13 (.s 18 (.s 19 (.s 20 (.s 29 (.s 34 (.s 35 (.s 36 (.s 37 (.s 38 (.q 39 .nil)))))))))))))))))))))))))))))))))))))))) [10015] (hm := by kernel_rfl) (hs := by kernel_rfl) (hk := by kernel_rfl) (h := ?_)
      refine v_sch [] (hk := ?_)
      refine v_callS rfl 21400 [] (ofv_spec (numsL.getD k 0) none 0 0) Tryz.func46 (h := ?_)
      rintro _ _ (⟨rfl, rfl⟩)
      refine ⟨cov_of (by repeat (first | exact trivial | refine ⟨rfl, ?_⟩)), ?_⟩
      refine v_callS rfl 21650 [] (asset_spec 1 ⟨#[97]⟩ (numsL.getD k 0)) Tryz.func47 (h := ?_)
      rintro _ _ (⟨rfl, rfl⟩)
      refine ⟨cov_of (by repeat (first | exact trivial | refine ⟨rfl, ?_⟩)), ?_⟩
      refine s_do rfl (d_bslice [(⟨hset hz [(0, 1)], ⟨#[97]⟩, numsL.getD k 0⟩ : AssetP)]) (fun B34 => ?_)
      refine v_callS rfl 21750 [] (ofv_spec 1 B34 1 1) Tryz.func46 (h := ?_)
      rintro _ _ (⟨rfl, rfl⟩)
      refine ⟨cov_of (by repeat (first | exact trivial | refine ⟨rfl, ?_⟩)), ?_⟩
      refine v_callS rfl 21800 [] (asset_spec 0 ⟨#[98]⟩ 1) Tryz.func47 (h := ?_)
      rintro _ _ (⟨rfl, rfl⟩)
      refine ⟨cov_of (by repeat (first | exact trivial | refine ⟨rfl, ?_⟩)), ?_⟩
      refine v_callS rfl 22050 [] (asset_spec 1 ⟨#[97]⟩ (numsL.getD k 0)) Tryz.func47 (h := ?_)
      rintro _ _ (⟨rfl, rfl⟩)
      refine ⟨cov_of (by repeat (first | exact trivial | refine ⟨rfl, ?_⟩)), ?_⟩
      refine s_do rfl (d_bslice [(⟨hset hz [(0, 0)], ⟨#[98]⟩, 1⟩ : AssetP), ⟨hset hz [(0, 1)], ⟨#[97]⟩, numsL.getD k 0⟩]) (fun B42 => ?_)
      refine v_callS rfl 22150 [] (ofv_spec 0 B42 2 2) Tryz.func46 (h := ?_)
      rintro _ _ (⟨rfl, rfl⟩)
      refine ⟨cov_of (by repeat (first | exact trivial | refine ⟨rfl, ?_⟩)), ?_⟩
      refine v_callS rfl 22600 [] (asset_spec 1 ⟨#[97]⟩ (numsL.getD k 0)) Tryz.func47 (h := ?_)
      rintro _ _ (⟨rfl, rfl⟩)
      refine ⟨cov_of (by repeat (first | exact trivial | refine ⟨rfl, ?_⟩)), ?_⟩
      refine v_callS rfl 22850 [] (asset_spec 1 ⟨#[97]⟩ (numsL.getD k 0)) Tryz.func47 (h := ?_)
      rintro _ _ (⟨rfl, rfl⟩)
      refine ⟨cov_of (by repeat (first | exact trivial | refine ⟨rfl, ?_⟩)), ?_⟩
      refine s_do rfl (d_bslice [(⟨hset hz [(0, 1)], ⟨#[97]⟩, numsL.getD k 0⟩ : AssetP), ⟨hset hz [(0, 1)], ⟨#[97]⟩, numsL.getD k 0⟩]) (fun B58 => ?_)
      refine v_callS rfl 22950 [] (ofv_spec (numsL.getD k 0) B58 2 2) Tryz.func46 (h := ?_)
      rintro _ _ (⟨rfl, rfl⟩)
      refine ⟨cov_of (by repeat (first | exact trivial | refine ⟨rfl, ?_⟩)), ?_⟩
      refine s_do rfl (d_bslice [(⟨numsL.getD k 0, none, 0, []⟩ : ValueM), ⟨1, B34, 1, [⟨hset hz [(0, 1)], ⟨#[97]⟩, numsL.getD k 0⟩]⟩, ⟨0, B42, 2, [⟨hset hz [(0, 0)], ⟨#[98]⟩, 1⟩, ⟨hset hz [(0, 1)], ⟨#[97]⟩, numsL.getD k 0⟩]⟩, ⟨numsL.getD k 0, B58, 2, [⟨hset hz [(0, 1)], ⟨#[97]⟩, numsL.getD k 0⟩, ⟨hset hz [(0, 1)], ⟨#[97]⟩, numsL.getD k 0⟩]⟩]) (fun B60 => ?_)
      refine s_do rfl d_append (fun p61 => ?_)
      refine v_sch [] (hk := ?_)
      refine k_nil 952 57 assetEn ?_
      refine k_push 951 952 rfl rfl ?_
      refine k_push 951 10034 rfl rfl ?_
      refine k_push 951 10042 rfl rfl ?_
      refine k_push 951 10058 rfl rfl ?_
      refine v_again (numsL.length - (k + 1)) ⟨k + 1, l ++ [⟨numsL.getD k 0, none, 0, []⟩, ⟨1, B34, 1, [⟨hset hz [(0, 1)], ⟨#[97]⟩, numsL.getD k 0⟩]⟩, ⟨0, B42, 2, [⟨hset hz [(0, 0)], ⟨#[98]⟩, 1⟩, ⟨hset hz [(0, 1)], ⟨#[97]⟩, numsL.getD k 0⟩]⟩, ⟨numsL.getD k 0, B58, 2, [⟨hset hz [(0, 1)], ⟨#[97]⟩, numsL.getD k 0⟩, ⟨hset hz [(0, 1)], ⟨#[97]⟩, numsL.getD k 0⟩]⟩], ((((rs ++ [ownA ⟨numsL.getD k 0, none, 0, []⟩]) ++ [ownA ⟨1, B34, 1, [⟨hset hz [(0, 1)], ⟨#[97]⟩, numsL.getD k 0⟩]⟩]) ++ [ownA ⟨0, B42, 2, [⟨hset hz [(0, 0)], ⟨#[98]⟩, 1⟩, ⟨hset hz [(0, 1)], ⟨#[97]⟩, numsL.getD k 0⟩]⟩]) ++ [ownA ⟨numsL.getD k 0, B58, 2, [⟨hset hz [(0, 1)], ⟨#[97]⟩, numsL.getD k 0⟩, ⟨hset hz [(0, 1)], ⟨#[97]⟩, numsL.getD k 0⟩]⟩]), p61.1, p61.2, rfl, rfl, by omega, by omega, good_app hik0 (all4 (good0 fit_nums) (good1 fit1 (goodA fit_nums (by decide))) (good2 fit0 (goodA fit1 (by decide)) (goodA fit_nums (by decide))) (good2 fit_nums (goodA fit_nums (by decide)) (goodA fit_nums (by decide)))), by rw [List.length_append, hik1]; simp only [List.length_cons, List.length_nil]; omega, by rw [hik2, List.map_append]; simp only [List.map_cons, List.map_nil, List.append_assoc, List.cons_append, List.nil_append]⟩
  · refine v_code [] (hk := ?_)
    refine v_loop (fun m E H => ∃ (kb : Nat) (lb : List ValueM) (rs2 : List Res) (A3 : Option Addr) (c3 : Nat), E = [(5, vn kb), (3, vsl 950 A3 lb.length c3)] ∧ H = [(950, Res.rows A3 c3 26 valueEn lb), (951, Res.bag rs2)] ∧ m = namesL.length - kb ∧ kb ≤ namesL.length ∧ (∀ v ∈ lb, GoodV v) ∧ (lb.length = 28 + 3 * kb) ∧ (rs2 = lb.map ownA)) [0, 1, 2, 6, 7, 8, 9, 10, 11, 12, 13, 14, 95, 96, 97, 98, 99, 100, 101, 102, 103, 104, 105, 106, 107, 108, 109, 110, 111, 112, 113, 114, 115, 116, 117, 118, 119, 120, 121, 122, 123, 124, 125, 126, 127, 128, 129, 130, 131, 132, 133, 134, 135, 136, 137, 138, 139, 140, 141, 142, 143, 144, 145, 146, 147, 148, 149, 150, 151, 152, 153, 154, 155, 156, 157, 158, 159, 160, 161, 162, 163, 164, 165, 166, 167, 168, 169, 170, 171, 172, 173, 174, 175, 176, 177, 178, 179, 180, 181, 182, 183, 184, 185, 186, 187, 188, 189, 190, 191, 192, 193, 194, 195, 196, 197, 198, 199, 200, 201, 202, 203, 204, 205, 206, 207, 208, 209, 210, 211, 212, 213, 214, 215, 216, 217, 218, 219, 220, 221, 222, 223, 224, 225, 226, 227, 228, 229, 230, 231, 232, 233, 234, 235, 236, 237, 238, 239, 240, 241, 242, 243, 244, 245, 246, 247, 248, 249, 250, 251, 252, 253, 254, 255, 256, 257, 258, 259, 260, 261, 262, 263, 264, 265, 266, 267, 268, 269, 270, 271, 272, 273, 274, 275, 276, 277, 278, 279, 280, 281, 282, 283, 284, 285, 286, 287, 288, 289, 290, 291, 292, 293, 294, 295, 296, 297, 298, 299, 300, 301, 302, 303, 304, 305, 306, 307, 308, 309, 310, 311, 312, 313, 314, 315, 316, 317, 318, 319, 320, 321, 322, 323, 324] (namesL.length) ([(5, vn 0), (3, vsl 950 (A2) (l).length (c2))]) ([(950, Res.rows (A2) (c2) 26 valueEn (l)), (951, Res.bag (rs))]) (h0 := ⟨0, l, rs, A2, c2, rfl, rfl, by omega, by omega, hik0, by omega, hik2⟩) (hr := ?_)
    rintro _ _ _ ⟨kb, lb, rs2, A3, c3, rfl, rfl, hmkb, hkb, hikb0, hikb1, hikb2⟩
    refine v_code [] (hk := ?_)
    first | refine c_ifd rfl (fun h65 => ?_) (fun h65 => ?_) | refine c_ifn rfl (fun h65 => ?_) (fun h65 => ?_) | refine c_if rfl (fun h65 => ?_) (fun h65 => ?_)
    · as_aux_lemma =>
        refine v_code [] (hk := ?_)
        refine v_draw (.q 0 (.q 2 (.q 3 (.q 4 (.q 5 (.q 9 (.q 10 (.q 11 (.q 12 (.q 17 (.q 18 (.q 19 (.q 20 (.s 1 (.s 6 (.s 7 (.s 8 (.s 13 (.s 14 (.s 15 (.s 16 (.s 21 (.s 22 (.s 23 (.s 24 (.s 25 (.s 26 (.q 27 .nil)))))))))))))))))))))))))))) [10016] (hm := by kernel_rfl) (hs := by kernel_rfl) (hk := by kernel_rfl) (h := ?_)
        refine v_sch [] (hk := ?_)
        refine v_callS rfl 23450 [] (asset_spec 1 ⟨#[97]⟩ 1) Tryz.func47 (h := ?_)
        rintro _ _ (⟨rfl, rfl⟩)
        refine ⟨cov_of (by repeat (first | exact trivial | refine ⟨rfl, ?_⟩)), ?_⟩
        refine v_callS rfl 23700 [] (asset_spec 1 (namesL.getD kb ⟨#[]⟩) 1) Tryz.func47 (h := ?_)
        rintro _ _ (⟨rfl, rfl⟩)
        refine ⟨cov_of (by repeat (first | exact trivial | refine ⟨rfl, ?_⟩)), ?_⟩
        refine s_do rfl (d_bslice [(⟨hset hz [(0, 1)], ⟨#[97]⟩, 1⟩ : AssetP), ⟨hset hz [(0, 1)], namesL.getD kb ⟨#[]⟩, 1⟩]) (fun B75 => ?_)
        refine v_callS rfl 23800 [] (ofv_spec 0 B75 2 2) Tryz.func46 (h := ?_)
        rintro _ _ (⟨rfl, rfl⟩)
        refine ⟨cov_of (by repeat (first | exact trivial | refine ⟨rfl, ?_⟩)), ?_⟩
        refine v_callS rfl 24050 [] (asset_spec 1 (namesL.getD kb ⟨#[]⟩) 9223372036854775807) Tryz.func47 (h := ?_)
        rintro _ _ (⟨rfl, rfl⟩)
        refine ⟨cov_of (by repeat (first | exact trivial | refine ⟨rfl, ?_⟩)), ?_⟩
        refine v_callS rfl 24100 [] (asset_spec 2 ⟨#[]⟩ 1) Tryz.func47 (h := ?_)
        rintro _ _ (⟨rfl, rfl⟩)
        refine ⟨cov_of (by repeat (first | exact trivial | refine ⟨rfl, ?_⟩)), ?_⟩
        refine s_do rfl (d_bslice [(⟨hset hz [(0, 1)], namesL.getD kb ⟨#[]⟩, 9223372036854775807⟩ : AssetP), ⟨hset hz [(0, 2)], ⟨#[]⟩, 1⟩]) (fun B83 => ?_)
        refine v_callS rfl 24200 [] (ofv_spec 0 B83 2 2) Tryz.func46 (h := ?_)
        rintro _ _ (⟨rfl, rfl⟩)
        refine ⟨cov_of (by repeat (first | exact trivial | refine ⟨rfl, ?_⟩)), ?_⟩
        refine v_callS rfl 24450 [] (asset_spec 200 (namesL.getD kb ⟨#[]⟩) 2) Tryz.func47 (h := ?_)
        rintro _ _ (⟨rfl, rfl⟩)
        refine ⟨cov_of (by repeat (first | exact trivial | refine ⟨rfl, ?_⟩)), ?_⟩
        refine v_callS rfl 24500 [] (asset_spec 100 ⟨#[122]⟩ 2) Tryz.func47 (h := ?_)
        rintro _ _ (⟨rfl, rfl⟩)
        refine ⟨cov_of (by repeat (first | exact trivial | refine ⟨rfl, ?_⟩)), ?_⟩
        refine s_do rfl (d_bslice [(⟨hset hz [(0, 200)], namesL.getD kb ⟨#[]⟩, 2⟩ : AssetP), ⟨hset hz [(0, 100)], ⟨#[122]⟩, 2⟩]) (fun B91 => ?_)
        refine v_callS rfl 24600 [] (ofv_spec 0 B91 2 2) Tryz.func46 (h := ?_)
        rintro _ _ (⟨rfl, rfl⟩)
        refine ⟨cov_of (by repeat (first | exact trivial | refine ⟨rfl, ?_⟩)), ?_⟩
        refine s_do rfl (d_bslice [(⟨0, B75, 2, [⟨hset hz [(0, 1)], ⟨#[97]⟩, 1⟩, ⟨hset hz [(0, 1)], namesL.getD kb ⟨#[]⟩, 1⟩]⟩ : ValueM), ⟨0, B83, 2, [⟨hset hz [(0, 1)], namesL.getD kb ⟨#[]⟩, 9223372036854775807⟩, ⟨hset hz [(0, 2)], ⟨#[]⟩, 1⟩]⟩, ⟨0, B91, 2, [⟨hset hz [(0, 200)], namesL.getD kb ⟨#[]⟩, 2⟩, ⟨hset hz [(0, 100)], ⟨#[122]⟩, 2⟩]⟩]) (fun B93 => ?_)
        refine s_do rfl d_append (fun p94 => ?_)
        refine v_sch [] (hk := ?_)
        refine k_push 951 10075 rfl rfl ?_
        refine k_push 951 10083 rfl rfl ?_
        refine k_push 951 10091 rfl rfl ?_
        refine v_again (namesL.length - (kb + 1)) ⟨kb + 1, lb ++ [⟨0, B75, 2, [⟨hset hz [(0, 1)], ⟨#[97]⟩, 1⟩, ⟨hset hz [(0, 1)], namesL.getD kb ⟨#[]⟩, 1⟩]⟩, ⟨0, B83, 2, [⟨hset hz [(0, 1)], namesL.getD kb ⟨#[]⟩, 9223372036854775807⟩, ⟨hset hz [(0, 2)], ⟨#[]⟩, 1⟩]⟩, ⟨0, B91, 2, [⟨hset hz [(0, 200)], namesL.getD kb ⟨#[]⟩, 2⟩, ⟨hset hz [(0, 100)], ⟨#[122]⟩, 2⟩]⟩], (((rs2 ++ [ownA ⟨0, B75, 2, [⟨hset hz [(0, 1)], ⟨#[97]⟩, 1⟩, ⟨hset hz [(0, 1)], namesL.getD kb ⟨#[]⟩, 1⟩]⟩]) ++ [ownA ⟨0, B83, 2, [⟨hset hz [(0, 1)], namesL.getD kb ⟨#[]⟩, 9223372036854775807⟩, ⟨hset hz [(0, 2)], ⟨#[]⟩, 1⟩]⟩]) ++ [ownA ⟨0, B91, 2, [⟨hset hz [(0, 200)], namesL.getD kb ⟨#[]⟩, 2⟩, ⟨hset hz [(0, 100)], ⟨#[122]⟩, 2⟩]⟩]), p94.1, p94.2, rfl, rfl, by omega, by omega, good_app hikb0 (all3 (good2 fit0 (goodA fit1 (by decide)) (goodA fit1 size_names)) (good2 fit0 (goodA fitT size_names) (goodA fit1 (by decide))) (good2 fit0 (goodA fit2 size_names) (goodA fit2 (by decide)))), by rw [List.length_append, hikb1]; simp only [List.length_cons, List.length_nil]; omega, by rw [hikb2, List.map_append]; simp only [List.map_cons, List.map_nil, List.append_assoc, List.cons_append, List.nil_append]⟩
    · refine v_code [] (hk := ?_)
      have hL : lb.length = 46 := by omega
      subst hikb2
      refine k_fact (fun w hf => rows_room (hf 950 _ rfl)) (fun hroom => ?_)
      refine v_loop (fun m E H => ∃ (i : Nat), E = [(6, vn i)] ∧ H = [] ∧ m = lb.length - i ∧ i ≤ lb.length) [1, 2, 3, 9, 10, 11, 12, 13, 14, 197, 198, 199, 200, 201, 202, 203, 204, 205, 206, 207, 208, 209, 210, 211, 212, 213, 214, 215, 216, 217, 218, 219, 220, 221, 222, 223, 224, 225, 226, 227, 228, 229, 230, 231, 232, 233, 234, 235, 236, 237, 238, 239, 240, 241, 242, 243, 244, 245, 246, 247, 248, 249, 250, 251, 252, 253, 254, 255, 256, 257, 258, 259, 260, 261, 262, 263, 264, 265, 266, 267, 268, 269, 270, 271, 272, 273, 274, 275, 276, 277, 278, 279, 280, 281, 282, 283, 284, 285, 286, 287, 288, 289, 290, 291, 292, 293, 294, 295, 296, 297, 298, 299, 300, 301, 302, 303, 304, 305, 306, 307, 308, 309, 310, 311, 312, 313, 314, 315, 316, 317, 318, 319, 320, 321, 322, 323, 324] (lb.length) ([(6, vn 0)]) ([]) (h0 := ⟨0, rfl, rfl, by omega, by omega⟩) (hr := ?_)
      rintro _ _ _ ⟨i, rfl, rfl, hmi, hi⟩
      refine v_code [] (hk := ?_)
      first | refine c_ifd rfl (fun h98 => ?_) (fun h98 => ?_) | refine c_ifn rfl (fun h98 => ?_) (fun h98 => ?_) | refine c_if rfl (fun h98 => ?_) (fun h98 => ?_)
      · refine v_code [] (hk := ?_)
        refine v_loop (fun m E H => ∃ (j : Nat), E = [(7, vn j)] ∧ H = [] ∧ m = lb.length - j ∧ j ≤ lb.length) [1, 2, 3, 6, 9, 10, 11, 12, 13, 14, 95, 96, 97, 98, 99, 100, 197, 198, 199, 200, 201, 202, 203, 204, 205, 206, 207, 208, 209, 210, 211, 212, 213, 214, 215, 216, 217, 218, 219, 220, 221, 222, 223, 224, 225, 226, 227, 228, 229, 230, 231, 232, 233, 234, 235, 236, 237, 238, 239, 240, 241, 242, 243, 244, 245, 246, 247, 248, 249, 250, 251, 252, 253, 254, 255, 256, 257, 258, 259, 260, 261, 262, 263, 264, 265, 266, 267, 268, 269, 270, 271, 272, 273, 274, 275, 276, 277, 278, 279, 280, 281, 282, 283, 284, 285, 286, 287, 288, 289, 290, 291, 292, 293, 294, 295, 296, 297, 298, 299, 300, 301, 302, 303, 304, 305, 306, 307, 308, 309, 310, 311, 312, 313, 314, 315, 316, 317, 318, 319, 320, 321, 322, 323, 324] (lb.length) ([(7, vn 0)]) ([]) (h0 := ⟨0, rfl, rfl, by omega, by omega⟩) (hr := ?_)
        rintro _ _ _ ⟨j, rfl, rfl, hmj, hj⟩
        refine v_code [] (hk := ?_)
        first | refine c_ifd rfl (fun h104 => ?_) (fun h104 => ?_) | refine c_ifn rfl (fun h104 => ?_) (fun h104 => ?_) | refine c_if rfl (fun h104 => ?_) (fun h104 => ?_)
        · have r1 : (i + j) % numsL.length < numsL.length := Nat.mod_lt _ (by omega)
          have r2 : (i + j) % namesL.length < namesL.length := Nat.mod_lt _ (by omega)
          have r3 : (i * j) % lb.length < lb.length := Nat.mod_lt _ (by omega)
          have r4 : (i + j) % lb.length < lb.length := Nat.mod_lt _ (by omega)
          have hij : i * j ≤ 46 * 46 := Nat.mul_le_mul (by omega) (by omega)
          have gi := hikb0 _ (getD_mem (d := value0) h98)
          have gj := hikb0 _ (getD_mem (d := value0) h104)
          have gz := hikb0 _ (getD_mem (d := value0) r3)
          have gw := hikb0 _ (getD_mem (d := value0) r4)
          as_aux_lemma =>
            refine v_code [] (hk := ?_)
            refine v_draw (.q 0 (.q 1 (.q 2 (.q 3 (.q 4 (.q 5 (.q 6 (.q 7 (.q 8 (.q 9 (.q 10 (.q 11 (.q 12 (.q 13 (.q 14 (.q 15 (.q 16 (.q 17 (.s 18 (.q 19 (.q 20 (.q 21 (.q 22 (.q 23 (.q 24 (.q 25 (.q 26 (.q 27 (.q 28 (.q 30 (.q 31 (.q 32 (.q 33 (.q 34 (.q 35 (.q 36 (.q 37 (.q 38 (.q 39 (.q 40 (.q 41 (.q 42 (.q 43 (.q 44 (.q 45 (.q 46 (.q 47 (.q 49 (.s2 29 (.s 48 (.s 50 (.q 51 (.q 52 (.q 53 (.q 54 (.q 55 (.q 56 (.q 57 (.q 58 (.q 59 (.q 60 (.q 61 (.q 62 (.q 63 (.q 64 (.q 65 (.q 66 (.q 67 (.q 68 (.q 69 (.q 70 (.q 72 (.q 73 (.q 74 (.q 75 (.q 76 (.q 77 (.s 71 (.s 78 (.q 79 (.q 80 .nil)))))))))))))))))))))))))))))))) 48 (.s 29 (.s 50 (.q 51 (.q 52 (.q 53 (.q 54 (.q 55 (.q 56 (.q 57 (.q 58 (.q 59 (.q 60 (.q 61 (.q 62 (.q 63 (.q 64 (.q 65 (.q 66 (.q 67 (.q 68 (.q 69 (.q 70 (.q 72 (.q 73 (.q 74 (.q 75 (.q 76 (.q 77 (.s 71 (.s 78 (.q 79 (.q 80 .nil))))))))))))))))))))))))))))))))))))))))))))))))))))))))))))))))))))))))))))))))) [950, 951, 10015, 10016] (hm := by kernel_rfl) (hs := by kernel_rfl) (hk := by kernel_rfl) (h := ?_)
            refine v_sch [] (hk := ?_)
            refine q_rd rfl (r_buildH [(0, 1)] ⟨rfl, ⟨_, rfl, rfl⟩, trivial⟩) ?_
            refine v_sch [] (hk := ?_)
            refine v_callDS rfl 26700 [] (tells_good (a := lb.getD i value0) (b := lb.getD j value0) (policy := hset hz [(0, 1)]) (name := namesL.getD ((i + j) % namesL.length) ⟨#[]⟩) gi gj size_names) Tryz.func4 (hB := ⟨⟨_, (Der.bag 951 rfl (List.mem_map_of_mem (getD_mem h98)) view_rows), rfl⟩, ⟨⟨_, (Der.bag 951 rfl (List.mem_map_of_mem (getD_mem h104)) view_rows), rfl⟩, trivial⟩⟩) (h := ?_)
            rintro _ _ (⟨rfl, rfl⟩)
            refine ⟨cov_of (by repeat (first | exact trivial | refine ⟨rfl, ?_⟩)), ?_⟩
            refine v_knowC 134 true rfl rfl ?_
            refine v_sch [] (hk := ?_)
            refine s_two ?_ ?_
            · refine k_valC 136 (vb false) rfl rfl ?_
              refine s_do rfl (d_bslice [lb.getD i value0, lb.getD j value0]) (fun B145 => ?_)
              refine v_knowC 136 false rfl rfl ?_
              refine k_valC 136 (vb false) rfl rfl ?_
              refine s_do rfl (d_bslice [lb.getD j value0, lb.getD i value0]) (fun B164 => ?_)
              refine v_knowC 136 false rfl rfl ?_
              refine k_valC 136 (vb false) rfl rfl ?_
              refine v_callDS rfl 28300 [] (sums_good (A0 := B145) (A1 := (lb.getD ((i * j) % lb.length) value0).A) (A2 := B164) (inn := [lb.getD i value0, lb.getD j value0]) (out := [lb.getD j value0, lb.getD i value0]) (mint := (lb.getD ((i * j) % lb.length) value0).assets) (c0 := 2) (c1 := (lb.getD ((i * j) % lb.length) value0).c) (c2 := 2) (fee := numsL.getD ((i + j) % numsL.length) 0) (by simp) (by simp) (all2 gi gj) (all2 gj gi) gz.2.1 gz.2.2 fit_nums) Tryz.func3 (hB := ⟨⟨_, (Der.rdn (Der.vw 10145) (Each.cons (Der.bag 951 rfl (List.mem_map_of_mem (getD_mem h98)) view_rows) (Each.cons (Der.bag 951 rfl (List.mem_map_of_mem (getD_mem h104)) view_rows) Each.nil))), rfl⟩, ⟨⟨_, (Der.bag 951 rfl (List.mem_map_of_mem (getD_mem r3)) view_rows), rfl⟩, ⟨⟨_, (Der.rdn (Der.vw 10164) (Each.cons (Der.bag 951 rfl (List.mem_map_of_mem (getD_mem h104)) view_rows) (Each.cons (Der.bag 951 rfl (List.mem_map_of_mem (getD_mem h98)) view_rows) Each.nil))), rfl⟩, trivial⟩⟩⟩) (h := ?_)
              rintro _ _ (⟨rfl, rfl⟩)
              refine ⟨cov_of (by repeat (first | exact trivial | refine ⟨rfl, ?_⟩)), ?_⟩
              refine v_knowC 166 true rfl rfl ?_
              refine v_knowC 136 false rfl rfl ?_
              refine v_sch [] (hk := ?_)
              refine k_valC 169 (vb false) rfl rfl ?_
              refine s_do rfl (d_bslice [lb.getD i value0, lb.getD j value0, lb.getD ((i + j) % lb.length) value0]) (fun B187 => ?_)
              refine v_knowC 169 false rfl rfl ?_
              refine k_valC 169 (vb false) rfl rfl ?_
              refine k_valC 192 (.s (.one (.stl 950 A3 c3 2 i 1 (c3 - i)))) rfl (by show Value.slice _ _ _ = Value.slice _ _ _; rw [Nat.add_sub_cancel_left]) ?_
              refine v_callDS rfl 29700 [] (sums_good (A0 := B187) (A1 := none) (A2 := tailA A3 c3 i valueEn.sz) (inn := [lb.getD i value0, lb.getD j value0, lb.getD ((i + j) % lb.length) value0]) (out := [lb.getD i value0]) (mint := []) (c0 := 3) (c1 := 0) (c2 := c3 - i) (fee := numsL.getD ((i + j) % numsL.length) 0) (by simp) (by simp) (all3 gi gj gw) (all1 gi) (by simp) (by simp) fit_nums) Tryz.func3 (hB := ⟨⟨_, (Der.rdn (Der.vw 10187) (Each.cons (Der.bag 951 rfl (List.mem_map_of_mem (getD_mem h98)) view_rows) (Each.cons (Der.bag 951 rfl (List.mem_map_of_mem (getD_mem h104)) view_rows) (Each.cons (Der.bag 951 rfl (List.mem_map_of_mem (getD_mem r4)) view_rows) Each.nil)))), rfl⟩, ⟨⟨_, Der.nl, rfl⟩, ⟨⟨_, (Der.rdn (Der.vw 950 rfl (view_one view_rows hroom h98)) (Each.cons (Der.bag 951 rfl (List.mem_map_of_mem (getD_mem h98)) view_rows) Each.nil)), rfl⟩, trivial⟩⟩⟩) (h := ?_)
              rintro _ _ (⟨rfl, rfl⟩)
              refine ⟨cov_of (by repeat (first | exact trivial | refine ⟨rfl, ?_⟩)), ?_⟩
              refine v_knowC 194 true rfl rfl ?_
              refine v_knowC 169 false rfl rfl ?_
              refine v_sch [] (hk := ?_)
              refine v_again (lb.length - (j + 1)) ⟨j + 1, rfl, rfl, by omega, by omega⟩
            · refine k_valC 136 (vb false) rfl rfl ?_
              refine s_do rfl (d_bslice [lb.getD j value0, lb.getD i value0]) (fun B164 => ?_)
              refine v_knowC 136 false rfl rfl ?_
              refine k_valC 136 (vb false) rfl rfl ?_
              refine s_do rfl (d_bslice [lb.getD i value0, lb.getD j value0]) (fun B145 => ?_)
              refine v_knowC 136 false rfl rfl ?_
              refine k_valC 136 (vb false) rfl rfl ?_
              refine v_callDS rfl 28300 [] (sums_good (A0 := B145) (A1 := (lb.getD ((i * j) % lb.length) value0).A) (A2 := B164) (inn := [lb.getD i value0, lb.getD j value0]) (out := [lb.getD j value0, lb.getD i value0]) (mint := (lb.getD ((i * j) % lb.length) value0).assets) (c0 := 2) (c1 := (lb.getD ((i * j) % lb.length) value0).c) (c2 := 2) (fee := numsL.getD ((i + j) % numsL.length) 0) (by simp) (by simp) (all2 gi gj) (all2 gj gi) gz.2.1 gz.2.2 fit_nums) Tryz.func3 (hB := ⟨⟨_, (Der.rdn (Der.vw 10145) (Each.cons (Der.bag 951 rfl (List.mem_map_of_mem (getD_mem h98)) view_rows) (Each.cons (Der.bag 951 rfl (List.mem_map_of_mem (getD_mem h104)) view_rows) Each.nil))), rfl⟩, ⟨⟨_, (Der.bag 951 rfl (List.mem_map_of_mem (getD_mem r3)) view_rows), rfl⟩, ⟨⟨_, (Der.rdn (Der.vw 10164) (Each.cons (Der.bag 951 rfl (List.mem_map_of_mem (getD_mem h104)) view_rows) (Each.cons (Der.bag 951 rfl (List.mem_map_of_mem (getD_mem h98)) view_rows) Each.nil))), rfl⟩, trivial⟩⟩⟩) (h := ?_)
              rintro _ _ (⟨rfl, rfl⟩)
              refine ⟨cov_of (by repeat (first | exact trivial | refine ⟨rfl, ?_⟩)), ?_⟩
              refine v_knowC 166 true rfl rfl ?_
              refine v_knowC 136 false rfl rfl ?_
              refine v_sch [] (hk := ?_)
              refine k_valC 169 (vb false) rfl rfl ?_
              refine s_do rfl (d_bslice [lb.getD i value0, lb.getD j value0, lb.getD ((i + j) % lb.length) value0]) (fun B187 => ?_)
              refine v_knowC 169 false rfl rfl ?_
              refine k_valC 169 (vb false) rfl rfl ?_
              refine k_valC 192 (.s (.one (.stl 950 A3 c3 2 i 1 (c3 - i)))) rfl (by show Value.slice _ _ _ = Value.slice _ _ _; rw [Nat.add_sub_cancel_left]) ?_
              refine v_callDS rfl 29700 [] (sums_good (A0 := B187) (A1 := none) (A2 := tailA A3 c3 i valueEn.sz) (inn := [lb.getD i value0, lb.getD j value0, lb.getD ((i + j) % lb.length) value0]) (out := [lb.getD i value0]) (mint := []) (c0 := 3) (c1 := 0) (c2 := c3 - i) (fee := numsL.getD ((i + j) % numsL.length) 0) (by simp) (by simp) (all3 gi gj gw) (all1 gi) (by simp) (by simp) fit_nums) Tryz.func3 (hB := ⟨⟨_, (Der.rdn (Der.vw 10187) (Each.cons (Der.bag 951 rfl (List.mem_map_of_mem (getD_mem h98)) view_rows) (Each.cons (Der.bag 951 rfl (List.mem_map_of_mem (getD_mem h104)) view_rows) (Each.cons (Der.bag 951 rfl (List.mem_map_of_mem (getD_mem r4)) view_rows) Each.nil)))), rfl⟩, ⟨⟨_, Der.nl, rfl⟩, ⟨⟨_, (Der.rdn (Der.vw 950 rfl (view_one view_rows hroom h98)) (Each.cons (Der.bag 951 rfl (List.mem_map_of_mem (getD_mem h98)) view_rows) Each.nil)), rfl⟩, trivial⟩⟩⟩) (h := ?_)
              rintro _ _ (⟨rfl, rfl⟩)
              refine ⟨cov_of (by repeat (first | exact trivial | refine ⟨rfl, ?_⟩)), ?_⟩
              refine v_knowC 194 true rfl rfl ?_
              refine v_knowC 169 false rfl rfl ?_
              refine v_sch [] (hk := ?_)
              refine v_again (lb.length - (j + 1)) ⟨j + 1, rfl, rfl, by omega, by omega⟩
        · refine v_code [] (hk := ?_)
          refine v_again (lb.length - (i + 1)) ⟨i + 1, rfl, rfl, by omega, by omega⟩
      · refine v_code [] (hk := ?_)
        refine k_nil 960 57 assetEn ?_
        refine k_nil 961 57 assetEn ?_
        refine v_loop (fun m E H => ∃ (q : Nat) (row : List AssetP) (Ar : Option Addr) (cr : Nat) (ot : List AssetP) (Ao : Option Addr) (co : Nat), E = [(11, vn q), (9, vsl 960 Ar row.length cr), (10, vsl 961 Ao ot.length co)] ∧ H = [(960, Res.rows Ar cr 57 assetEn row), (961, Res.rows Ao co 57 assetEn ot)] ∧ m = 32 - q ∧ q ≤ 32 ∧ (row.length = q) ∧ (ot.length ≤ q) ∧ (∀ x ∈ row, GoodA x) ∧ (∀ x ∈ ot, GoodA x)) [1, 2, 12, 13, 14, 237, 238, 239, 240, 241, 242, 243, 244, 245, 246, 247, 248, 249, 250, 251, 252, 253, 254, 255, 256, 257, 258, 259, 260, 261, 262, 263, 264, 265, 266, 267, 268, 269, 270, 271, 272, 273, 274, 275, 276, 277, 278, 279, 280, 281, 282, 283, 284, 285, 286, 287, 288, 289, 290, 291, 292, 293, 294, 295, 296, 297, 298, 299, 300, 301, 302, 303, 304, 305, 306, 307, 308, 309, 310, 311, 312, 313, 314, 315, 316, 317, 318, 319, 320, 321, 322, 323, 324] (32) ([(11, vn 0), (9, vsl 960 (none) ([]).length (0)), (10, vsl 961 (none) ([]).length (0))]) ([(960, Res.rows (none) (0) 57 assetEn ([])), (961, Res.rows (none) (0) 57 assetEn ([]))]) (h0 := ⟨0, [], none, 0, [], none, 0, rfl, rfl, by omega, by omega, rfl, by simp, by simp, by simp⟩) (hr := ?_)
        rintro _ _ _ ⟨q, row, Ar, cr, ot, Ao, co, rfl, rfl, hmq, hq, hiq0, hiq1, hiq2, hiq3⟩
        refine v_code [] (hk := ?_)
        first | refine c_ifd rfl (fun h198 => ?_) (fun h198 => ?_) | refine c_ifn rfl (fun h198 => ?_) (fun h198 => ?_) | refine c_if rfl (fun h198 => ?_) (fun h198 => ?_)
        · as_aux_lemma =>
            refine v_code [] (hk := ?_)
            refine v_callD 30100 [] (ofv_spec 0 Ar row.length cr) Tryz.func46 (hB := trivial) (h := ?_)
            rintro _ _ (⟨rfl, rfl⟩)
            refine v_ops [] (hk := ?_)
            refine v_callD 30200 [] (ofv_spec 0 Ao ot.length co) Tryz.func46 (hB := trivial) (h := ?_)
            rintro _ _ (⟨rfl, rfl⟩)
            refine v_ops [] (hk := ?_)
            refine k_val 206 (.s (.one (.i .u8 ((UInt8.ofNat q).toNat : Nat)))) rfl (den8 (by omega)) ?_
            refine l_rd (r_buildH [(0, UInt8.ofNat q)] ⟨rfl, ⟨_, rfl, rfl⟩, trivial⟩) ?_
            refine v_callD 30400 [] (tells_good (a := ⟨0, Ar, cr, row⟩) (b := ⟨0, Ao, co, ot⟩) (policy := hset hz [(0, UInt8.ofNat q)]) (name := ⟨#[]⟩) (goodRow hiq2 (by omega)) (goodRow hiq3 (by omega)) (by decide)) Tryz.func4 (hB := ⟨⟨_, (Der.vw 960), rfl⟩, ⟨⟨_, (Der.vw 961), rfl⟩, trivial⟩⟩) (h := ?_)
            rintro _ _ (⟨rfl, rfl⟩)
            refine v_know 208 true rfl rfl ?_
            refine v_ops [] (hk := ?_)
            refine k_val 210 (vb false) rfl rfl ?_
            refine v_callD 30600 [] (ofv_spec 0 Ar row.length cr) Tryz.func46 (hB := trivial) (h := ?_)
            rintro _ _ (⟨rfl, rfl⟩)
            refine v_know 210 false rfl rfl ?_
            refine v_ops [] (hk := ?_)
            refine k_val 210 (vb false) rfl rfl ?_
            refine v_callD 30700 [] (ofv_spec 0 Ao ot.length co) Tryz.func46 (hB := trivial) (h := ?_)
            rintro _ _ (⟨rfl, rfl⟩)
            refine v_know 210 false rfl rfl ?_
            refine k_val 210 (vb false) rfl rfl ?_
            refine l_do (d_bslice [(⟨0, Ar, cr, row⟩ : ValueM), ⟨0, Ao, co, ot⟩]) (fun B215 => ?_)
            refine v_know 210 false rfl rfl ?_
            refine v_ops [] (hk := ?_)
            refine k_val 210 (vb false) rfl rfl ?_
            refine v_callD 30850 [] (sums_good (A0 := B215) (A1 := Ar) (A2 := none) (inn := [⟨0, Ar, cr, row⟩, ⟨0, Ao, co, ot⟩]) (out := []) (mint := row) (c0 := 2) (c1 := cr) (c2 := 0) (fee := 0) (by simp) (by simp) (all2 (goodRow hiq2 (by omega)) (goodRow hiq3 (by omega))) (by simp) (by omega) hiq2 fit0) Tryz.func3 (hB := ⟨⟨_, (Der.rdn (Der.vw 10215) (Each.cons (Der.vw 960) (Each.cons (Der.vw 961) Each.nil))), rfl⟩, ⟨⟨_, (Der.vw 960), rfl⟩, ⟨⟨_, (Der.rdn Der.nl Each.nil), rfl⟩, trivial⟩⟩⟩) (h := ?_)
            rintro _ _ (⟨rfl, rfl⟩)
            refine v_know 217 true rfl rfl ?_
            refine v_know 210 false rfl rfl ?_
            refine v_ops [] (hk := ?_)
            refine k_val 223 (.s (.one (.i .u8 ((UInt8.ofNat (2 * q)).toNat : Nat)))) rfl (den8 (by omega)) ?_
            refine v_callD 31200 [] (asset_spec (UInt8.ofNat (2 * q)) ⟨#[]⟩ 1) Tryz.func47 (hB := trivial) (h := ?_)
            rintro _ _ (⟨rfl, rfl⟩)
            refine l_do (d_bslice [(⟨hset hz [(0, UInt8.ofNat (2 * q))], ⟨#[]⟩, 1⟩ : AssetP)]) (fun B225 => ?_)
            refine l_do d_append (fun p226 => ?_)
            refine v_ops [] (hk := ?_)
            refine v_cut (fun E H => ∃ Ao2 co2 o2, E = [(10, vsl 961 Ao2 o2.length co2)] ∧ H = [(961, Res.rows Ao2 co2 57 assetEn o2)] ∧ o2.length ≤ q + 1 ∧ ∀ x ∈ o2, GoodA x) [0, 1, 2, 9, 11, 12, 13, 14, 197, 198, 199, 200, 201, 202, 203, 204, 205, 206, 207, 208, 209, 210, 211, 212, 213, 214, 215, 216, 217, 218, 219, 220, 221, 222, 223, 224, 225, 226, 227, 228, 229, 237, 238, 239, 240, 241, 242, 243, 244, 245, 246, 247, 248, 249, 250, 251, 252, 253, 254, 255, 256, 257, 258, 259, 260, 261, 262, 263, 264, 265, 266, 267, 268, 269, 270, 271, 272, 273, 274, 275, 276, 277, 278, 279, 280, 281, 282, 283, 284, 285, 286, 287, 288, 289, 290, 291, 292, 293, 294, 295, 296, 297, 298, 299, 300, 301, 302, 303, 304, 305, 306, 307, 308, 309, 310, 311, 312, 313, 314, 315, 316, 317, 318, 319, 320, 321, 322, 323, 324] [961] (h1 := ?_) (h2 := ?_)
            · first | refine c_ifd rfl (fun h229 => ?_) (fun h229 => ?_) | refine c_ifn rfl (fun h229 => ?_) (fun h229 => ?_) | refine c_if rfl (fun h229 => ?_) (fun h229 => ?_)
              · refine v_code [] (hk := ?_)
                refine k_val 233 (.s (.one (.i .u8 ((UInt8.ofNat (3 * q)).toNat : Nat)))) rfl (den8 (by omega)) ?_
                refine v_callD 31700 [] (asset_spec (UInt8.ofNat (3 * q)) ⟨#[]⟩ 1) Tryz.func47 (hB := trivial) (h := ?_)
                rintro _ _ (⟨rfl, rfl⟩)
                refine l_do (d_bslice [(⟨hset hz [(0, UInt8.ofNat (3 * q))], ⟨#[]⟩, 1⟩ : AssetP)]) (fun B235 => ?_)
                refine l_do d_append (fun p236 => ?_)
                refine v_ops [] (hk := ?_)
                refine v_join (⟨p236.1, p236.2, ot ++ [⟨hset hz [(0, UInt8.ofNat (3 * q))], ⟨#[]⟩, 1⟩], rfl, rfl, by simp; omega, goodA_snoc hiq3 (goodE fit1)⟩)
              · refine v_code [] (hk := ?_)
                refine v_join (⟨Ao, co, ot, rfl, rfl, by omega, hiq3⟩)
            · rintro _ _ (⟨Ao2, co2, o2, rfl, rfl, ho1, ho2⟩)
              refine v_ex [] (hk := ?_)
              refine v_again (32 - (q + 1)) ⟨q + 1, row ++ [⟨hset hz [(0, UInt8.ofNat (2 * q))], ⟨#[]⟩, 1⟩], p226.1, p226.2, o2, Ao2, co2, rfl, rfl, by omega, by omega, by simp [hiq0], ho1, goodA_snoc hiq2 (goodE fit1), ho2⟩
        · refine v_code [] (hk := ?_)
          refine l_do (d_bslice widesL) (fun B242 => ?_)
          refine v_ops [] (hk := ?_)
          refine v_loop (fun m E H => ∃ (u : Nat), E = [(13, vn u)] ∧ H = [] ∧ m = 25 - u ∧ u ≤ 25) [1, 2, 12, 321, 322, 323, 324] (25) ([(13, vn 0)]) ([]) (h0 := ⟨0, rfl, rfl, by omega, by omega⟩) (hr := ?_)
          rintro _ _ _ ⟨u, rfl, rfl, hmu, hu⟩
          refine v_code [] (hk := ?_)
          first | refine c_ifd rfl (fun h244 => ?_) (fun h244 => ?_) | refine c_ifn rfl (fun h244 => ?_) (fun h244 => ?_) | refine c_if rfl (fun h244 => ?_) (fun h244 => ?_)
          · as_aux_lemma =>
              refine v_code [] (hk := ?_)
              refine v_draw (.q 0 (.q 1 (.q 2 (.q 3 (.q 4 (.q 5 (.q 6 (.q 7 (.q 8 (.q 9 (.q 10 (.q 11 (.q 12 (.q 13 (.q 14 (.q 15 (.q 16 (.s 17 (.q 18 .nil))))))))))))))))))) [10242, 10016] (hm := by kernel_rfl) (hs := by kernel_rfl) (hk := by kernel_rfl) (h := ?_)
              refine v_sch [] (hk := ?_)
              refine s_do rfl (d_bslice [(⟨hz, ⟨#[97]⟩, widesL.getD (u % 5) wz⟩ : TotalP), ⟨hz, namesL.getD (u % 6) ⟨#[]⟩, widesL.getD (u / 5) wz⟩]) (fun B264 => ?_)
              refine k_valC 264 (vsl 10264 B264 2 2) rfl rfl ?_
              refine v_sch [] (hk := ?_)
              refine v_draw (.q 0 (.q 1 (.q 2 (.q 3 (.q 4 (.q 5 (.q 6 (.q 8 (.q 9 (.q 10 (.q 11 (.q 12 (.q 13 (.q 14 (.q 15 (.q 16 (.q 17 (.q 18 (.q 19 (.q 20 (.q 21 (.q 22 (.q 24 (.q 25 (.q 26 (.q 27 (.q 28 (.s2 7 (.s 23 (.s 29 (.q 30 (.q 31 (.q 32 (.q 33 (.q 34 (.q 35 (.q 36 (.q 37 (.q 38 (.q 39 (.q 40 (.q 41 (.q 43 (.q 44 (.q 45 (.q 46 (.q 47 (.q 48 (.q 49 (.q 50 (.q 51 (.q 52 (.s 42 (.s 53 (.q 54 (.q 55 .nil)))))))))))))))))))))))))))) 23 (.s 7 (.s 29 (.q 30 (.q 31 (.q 32 (.q 33 (.q 34 (.q 35 (.q 36 (.q 37 (.q 38 (.q 39 (.q 40 (.q 41 (.q 43 (.q 44 (.q 45 (.q 46 (.q 47 (.q 48 (.q 49 (.q 50 (.q 51 (.q 52 (.s 42 (.s 53 (.q 54 (.q 55 .nil)))))))))))))))))))))))))))))))))))))))))))))))))))))))) [10242, 10015, 10264] (hm := by kernel_rfl) (hs := by kernel_rfl) (hk := by kernel_rfl) (h := ?_)
              refine v_sch [] (hk := ?_)
              refine s_two ?_ ?_
              · refine k_valC 269 (vsl 10264 B264 (([(⟨hz, ⟨#[97]⟩, widesL.getD (u % 5) wz⟩ : TotalP), ⟨hz, namesL.getD (u % 6) ⟨#[]⟩, widesL.getD (u / 5) wz⟩]).take (u % 2)).length 2) rfl (by show Value.slice _ _ _ = Value.slice _ _ _; rw [take_len2]) ?_
                refine s_do rfl (d_bslice (E := sltEn) (hE := ⟨⟩) [(⟨B264, 2, [(⟨hz, ⟨#[97]⟩, widesL.getD (u % 5) wz⟩ : TotalP), ⟨hz, namesL.getD (u % 6) ⟨#[]⟩, widesL.getD (u / 5) wz⟩]⟩ : SlT), ⟨B264, 2, ([(⟨hz, ⟨#[97]⟩, widesL.getD (u % 5) wz⟩ : TotalP), ⟨hz, namesL.getD (u % 6) ⟨#[]⟩, widesL.getD (u / 5) wz⟩]).take (u % 2)⟩, ⟨tailA B264 2 1 totalEn.sz, 1, [⟨hz, namesL.getD (u % 6) ⟨#[]⟩, widesL.getD (u / 5) wz⟩]⟩]) (fun B272 => ?_)
                refine s_do rfl (d_bslice [widesL.getD (u % 5) wz, widesL.getD (u / 5) wz, widesL.getD (u % 3) wz]) (fun B288 => ?_)
                refine v_callDS rfl 34700 [] (wides_spec B272 B288 [(⟨B264, 2, [(⟨hz, ⟨#[97]⟩, widesL.getD (u % 5) wz⟩ : TotalP), ⟨hz, namesL.getD (u % 6) ⟨#[]⟩, widesL.getD (u / 5) wz⟩]⟩ : SlT), ⟨B264, 2, ([(⟨hz, ⟨#[97]⟩, widesL.getD (u % 5) wz⟩ : TotalP), ⟨hz, namesL.getD (u % 6) ⟨#[]⟩, widesL.getD (u / 5) wz⟩]).take (u % 2)⟩, ⟨tailA B264 2 1 totalEn.sz, 1, [⟨hz, namesL.getD (u % 6) ⟨#[]⟩, widesL.getD (u / 5) wz⟩]⟩] [widesL.getD (u % 5) wz, widesL.getD (u / 5) wz, widesL.getD (u % 3) wz] 3 3 (numsL.getD (u % 7) 0) (by simp) (by simp) short_rows (wok_rows (ok_wides (by omega)) (ok_wides (by omega))) (wok3 (ok_wides (by omega)) (ok_wides (by omega)) (ok_wides (by omega))) fit_nums) Tryz.func5 (hB := ⟨⟨_, (Der.rdn (Der.vw 10272) (Each.cons (Der.vw 10264) (Each.cons (Der.vw 10264 rfl (view_take view_rows)) (Each.cons (Der.vw 10264 rfl (view_second view_rows)) Each.nil)))), rfl⟩, ⟨⟨_, (Der.vw 10288), rfl⟩, trivial⟩⟩) (h := ?_)
                rintro _ _ (⟨rfl, rfl⟩)
                refine ⟨cov_of (by repeat (first | exact trivial | refine ⟨rfl, ?_⟩)), ?_⟩
                refine v_knowC 294 true rfl rfl ?_
                refine v_sch [] (hk := ?_)
                refine k_valC 296 (vb false) rfl rfl ?_
                refine v_callDS rfl 35350 [] (cmp_spec (widesL.getD (u % 5) wz) (widesL.getD (u / 5) wz)) Tryz.func41 (hB := trivial) (h := ?_)
                rintro _ _ (⟨rfl, rfl⟩)
                refine ⟨cov_of (by repeat (first | exact trivial | refine ⟨rfl, ?_⟩)), ?_⟩
                refine v_callDS rfl 35900 [] (cmpR_spec (widesL.getD (u % 5) wz) (widesL.getD (u / 5) wz)) Tryz.func42 (hB := trivial) (h := ?_)
                rintro _ _ (⟨rfl, rfl⟩)
                refine ⟨cov_of (by repeat (first | exact trivial | refine ⟨rfl, ?_⟩)), ?_⟩
                refine v_knowC 296 false rfl rfl ?_
                refine v_sch [] (hk := ?_)
                first | refine c_ifd rfl (fun h320 => ?_) (fun h320 => ?_) | refine c_ifn rfl (fun h320 => ?_) (fun h320 => ?_) | refine c_if rfl (fun h320 => ?_) (fun h320 => ?_)
                · exact absurd h320 (by simp)
                · refine v_code [] (hk := ?_)
                  refine v_again (25 - (u + 1)) ⟨u + 1, rfl, rfl, by omega, by omega⟩
              · refine s_do rfl (d_bslice [widesL.getD (u % 5) wz, widesL.getD (u / 5) wz, widesL.getD (u % 3) wz]) (fun B288 => ?_)
                refine k_valC 269 (vsl 10264 B264 (([(⟨hz, ⟨#[97]⟩, widesL.getD (u % 5) wz⟩ : TotalP), ⟨hz, namesL.getD (u % 6) ⟨#[]⟩, widesL.getD (u / 5) wz⟩]).take (u % 2)).length 2) rfl (by show Value.slice _ _ _ = Value.slice _ _ _; rw [take_len2]) ?_
                refine s_do rfl (d_bslice (E := sltEn) (hE := ⟨⟩) [(⟨B264, 2, [(⟨hz, ⟨#[97]⟩, widesL.getD (u % 5) wz⟩ : TotalP), ⟨hz, namesL.getD (u % 6) ⟨#[]⟩, widesL.getD (u / 5) wz⟩]⟩ : SlT), ⟨B264, 2, ([(⟨hz, ⟨#[97]⟩, widesL.getD (u % 5) wz⟩ : TotalP), ⟨hz, namesL.getD (u % 6) ⟨#[]⟩, widesL.getD (u / 5) wz⟩]).take (u % 2)⟩, ⟨tailA B264 2 1 totalEn.sz, 1, [⟨hz, namesL.getD (u % 6) ⟨#[]⟩, widesL.getD (u / 5) wz⟩]⟩]) (fun B272 => ?_)
                refine v_callDS rfl 34700 [] (wides_spec B272 B288 [(⟨B264, 2, [(⟨hz, ⟨#[97]⟩, widesL.getD (u % 5) wz⟩ : TotalP), ⟨hz, namesL.getD (u % 6) ⟨#[]⟩, widesL.getD (u / 5) wz⟩]⟩ : SlT), ⟨B264, 2, ([(⟨hz, ⟨#[97]⟩, widesL.getD (u % 5) wz⟩ : TotalP), ⟨hz, namesL.getD (u % 6) ⟨#[]⟩, widesL.getD (u / 5) wz⟩]).take (u % 2)⟩, ⟨tailA B264 2 1 totalEn.sz, 1, [⟨hz, namesL.getD (u % 6) ⟨#[]⟩, widesL.getD (u / 5) wz⟩]⟩] [widesL.getD (u % 5) wz, widesL.getD (u / 5) wz, widesL.getD (u % 3) wz] 3 3 (numsL.getD (u % 7) 0) (by simp) (by simp) short_rows (wok_rows (ok_wides (by omega)) (ok_wides (by omega))) (wok3 (ok_wides (by omega)) (ok_wides (by omega)) (ok_wides (by omega))) fit_nums) Tryz.func5 (hB := ⟨⟨_, (Der.rdn (Der.vw 10272) (Each.cons (Der.vw 10264) (Each.cons (Der.vw 10264 rfl (view_take view_rows)) (Each.cons (Der.vw 10264 rfl (view_second view_rows)) Each.nil)))), rfl⟩, ⟨⟨_, (Der.vw 10288), rfl⟩, trivial⟩⟩) (h := ?_)
                rintro _ _ (⟨rfl, rfl⟩)
                refine ⟨cov_of (by repeat (first | exact trivial | refine ⟨rfl, ?_⟩)), ?_⟩
                refine v_knowC 294 true rfl rfl ?_
                refine v_sch [] (hk := ?_)
                refine k_valC 296 (vb false) rfl rfl ?_
                refine v_callDS rfl 35350 [] (cmp_spec (widesL.getD (u % 5) wz) (widesL.getD (u / 5) wz)) Tryz.func41 (hB := trivial) (h := ?_)
                rintro _ _ (⟨rfl, rfl⟩)
                refine ⟨cov_of (by repeat (first | exact trivial | refine ⟨rfl, ?_⟩)), ?_⟩
                refine v_callDS rfl 35900 [] (cmpR_spec (widesL.getD (u % 5) wz) (widesL.getD (u / 5) wz)) Tryz.func42 (hB := trivial) (h := ?_)
                rintro _ _ (⟨rfl, rfl⟩)
                refine ⟨cov_of (by repeat (first | exact trivial | refine ⟨rfl, ?_⟩)), ?_⟩
                refine v_knowC 296 false rfl rfl ?_
                refine v_sch [] (hk := ?_)
                first | refine c_ifd rfl (fun h320 => ?_) (fun h320 => ?_) | refine c_ifn rfl (fun h320 => ?_) (fun h320 => ?_) | refine c_if rfl (fun h320 => ?_) (fun h320 => ?_)
                · exact absurd h320 (by simp)
                · refine v_code [] (hk := ?_)
                  refine v_again (25 - (u + 1)) ⟨u + 1, rfl, rfl, by omega, by omega⟩
          · refine v_code [] (hk := ?_)
            refine v_callD 36050 [] (sums_good (A0 := none) (A1 := none) (A2 := none) (inn := []) (out := []) (mint := []) (c0 := 0) (c1 := 0) (c2 := 0) (fee := 0) (by simp) (by simp) (by simp) (by simp) (by simp) (by simp) fit0) Tryz.func3 (hB := ⟨⟨_, (Der.rdn Der.nl Each.nil), rfl⟩, ⟨⟨_, Der.nl, rfl⟩, ⟨⟨_, (Der.rdn Der.nl Each.nil), rfl⟩, trivial⟩⟩⟩) (h := ?_)
            rintro _ _ (⟨rfl, rfl⟩)
            refine v_know 321 true rfl rfl ?_
            refine v_ops [] (hk := ?_)
            refine k_val 322 (vb true) rfl rfl ?_
            refine v_callD 36150 [] (awake_spec) Tryz.func8 (hB := trivial) (h := ?_)
            rintro _ _ (⟨rfl, rfl⟩)
            refine v_know 323 true rfl rfl ?_
            refine v_know 322 true rfl rfl ?_
            refine v_ops [] (hk := ?_)
            refine v_ret rfl [] (.cons (.tmp rfl) .nil) (h := ?_)
            exact ⟨rfl, rfl⟩
end Go.Proofs.YtlnckcgbpilmdaaGreat
/- HEAP LIBRARY, third part: arguments that are hashes, read as data. My own text; it names no program. -/






set_option linter.unusedVariables false
set_option linter.unusedSimpArgs false
set_option linter.unusedSectionVars false
namespace Go.Proofs.YtlnckcgbpilmdaaGreat
namespace HL
open Go Go.RowKit Go.ChangeShapes Go.WideShapes Go.ChangeAt
section
variable {H : Type} {enc : TypeId × Value → H} {P : Program} {W : World} {base : Nat} {sp : Nat → Bool} {held : Bool} {T e : TypeId}
theorem St.kept {w w' : World} {L : List Res} (h : St w w' No L) (may : MemPlace → Prop) : w.keptBut w' may := by
  refine ⟨h.os, h.output, fun i hi => ?_⟩
  rw [h.keep i hi id]
  cases w.heap[i]? with
  | none => trivial
  | some o =>
    cases o <;> simp
end
end HL
end Go.Proofs.YtlnckcgbpilmdaaGreat
/- ARGUMENTS READ AS DATA, and the end of a law's row. My own text; it names no program. -/






set_option linter.unusedVariables false
set_option linter.unusedSimpArgs false
set_option linter.unusedSectionVars false
namespace Go.Proofs.YtlnckcgbpilmdaaGreat
namespace HL
open Go Go.RowKit Go.ChangeShapes Go.WideShapes Go.ChangeAt
structure Opn (P : Program) (T : TypeId) {α : Type} (f : α → List At) (Q : World → α → Prop) (z : α → Nat) : Prop where
  op : ∀ {H : Type} (enc : TypeId × Value → H) (W : World) (fuel : Nat) (cs : List Value) (x : DataW H × List MemPlace), DataW.trod enc P W 0 (fun _ => true) true fuel T cs = some x → ∃ a, cs = flat (vals (f a)) ∧ Q W a ∧ z a ≤ Rows.uptoBulk x.1
section
variable {P : Program} {T e : TypeId}
theorem Opn.map {α β : Type} {f : α → List At} {Q : World → α → Prop} {z : α → Nat} (h : Opn P T f Q z) (g : α → β) {f' : β → List At} {Q' : World → β → Prop} {z' : β → Nat} (hf : ∀ a, f' (g a) = f a) (hQ : ∀ W a, Q W a → Q' W (g a)) (hz : ∀ a, z' (g a) ≤ z a) : Opn P T f' Q' z' := ⟨fun enc W fuel cs x hx => by
  obtain ⟨a, h1, h2, h3⟩ := h.op enc W fuel cs x hx
  exact ⟨g a, by rw [hf]; exact h1, hQ W a h2, Nat.le_trans (hz a) h3⟩⟩
structure PO (P : Program) where
  T : TypeId
  α : Type
  f : α → List At
  Q : World → α → Prop
  z : α → Nat
  sz : Nat
  h : Opn P T f Q z
  hc : P.cellsOf T = sz
def Tup : List (PO P) → Type
  | [] => Unit
  | p :: ps => p.α × Tup ps
def Tup.f : (ps : List (PO P)) → Tup ps → List At
  | [], _ => []
  | p :: ps, (a, t) => p.f a ++ Tup.f ps t
def Tup.Q : (ps : List (PO P)) → World → Tup ps → Prop
  | [], _, _ => True
  | p :: ps, W, (a, t) => p.Q W a ∧ Tup.Q ps W t
def Tup.z : (ps : List (PO P)) → Tup ps → Nat
  | [], _ => 0
  | p :: ps, (a, t) => p.z a + Tup.z ps t
def offs : Nat → List (PO P) → List (TypeId × Nat)
  | _, [] => []
  | o, p :: ps => (p.T, o) :: offs (o + p.sz) ps
theorem St.below {w w' : World} {L : List Res} (h : St w w' No L) : Below w.heap.size w w' := ⟨h.os, h.tape, h.output, h.size, fun k hk => h.keep k hk id⟩
theorem St.noM {w w' : World} {M : Nat → Prop} {L : List Res} (h : St w w' M L) (hM : ∀ b, ¬ M b) : St w w' No L := by
  obtain rfl : M = No := funext fun b => propext ⟨fun h => (hM b h).elim, fun h => h.elim⟩
  exact h
theorem lk_all {B : Hp} {W : World} (h : ∀ p ∈ B, p.2.holds W) : ∀ i r, lk B i = some r → r.holds W := fun i r hi => by
  induction B with
  | nil => cases hi
  | cons p B ih =>
    obtain ⟨j, s⟩ := p
    rw [lk_cons] at hi
    split at hi
    · cases hi
      exact h _ (List.mem_cons_self ..)
    · exact ih (fun q hq => h q (List.mem_cons_of_mem _ hq)) hi
theorem args_below {H : Type} {enc : TypeId × Value → H} (hl : laidOutB P = true) {W W' : World} (hb : Below W.heap.size W W') : ∀ {ts : List TypeId} {vs : List Value} {ds : List (DataW H)} {ps : List MemPlace}, (ts.all fun t => P.readableRec t && decide (t < P.types.size)) = true → DataW.TrodAll enc P W 0 (fun _ => true) true ts vs ds ps → (∀ x ∈ ps, x.block < W.heap.size) →
    DataW.TrodAll enc P W' 0 (fun b => decide (b < W.heap.size)) true ts vs ds ps
  | [], vs, ds, ps, _, h, _ => by
    obtain ⟨rfl, rfl, rfl⟩ := trodAll_nil h
    exact rfl
  | t :: ts, vs, ds, ps, ht, h, hp => by
    obtain ⟨v, vs', d, ds', p, q, rfl, rfl, rfl, h1, h2⟩ := trodAll_cons h
    simp only [List.all_cons, Bool.and_eq_true, decide_eq_true_eq] at ht
    exact ⟨p, q, Below.trod hl ht.1.1 ht.1.2 h1 hb (fun x hx => hp x (List.mem_append_left _ hx)), args_below hl hb ht.2 h2 (fun x hx => hp x (List.mem_append_right _ hx)), rfl⟩
theorem row_post {f : Func} {s : ChangeSpec} {H : Type} {enc : TypeId × Value → H} {W W' : World} {args : Array Value} {ds gs : List (DataW H)} {before : List MemPlace} {L : List Res} {tb : TypeId} (hl : laidOutB P = true) (hv : s.vars = []) (hr : f.resultTypes = #[tb]) (hb : P.underlying tb = some .bool) (hrec : (f.params.toList.all fun t => P.readableRec t && decide (t < P.types.size)) = true)
    (hW : DataW.Whole enc P f.params.toList s.vars false W args.toList ds gs before) (hst : St W W' No L) (hs : gs = [] → (s.fn H (ds ++ gs)).results = [.lit (.bool true)] ∧ (s.fn H (ds ++ gs)).args = ds ∧ (s.fn H (ds ++ gs)).vars = []) : s.post enc P f false true false false W args (.bool true) W' := by
  have hlt := hW.lt
  obtain ⟨p, q, hA, hV, rfl, hfz, hnd⟩ := hW
  have hV' := hV
  rw [hv] at hV'
  obtain ⟨rfl, rfl⟩ := trodVars_none hV'
  obtain ⟨e1, e2, e3⟩ := hs rfl
  refine ⟨ds, [], p ++ [], [], p, [], ⟨p, [], hA, hV, rfl, hfz, hnd⟩, ?_, ?_, ?_, World.keptBut_mono (fun x hx => ⟨hx, .inr (.inl ?_)⟩) (hst.kept (· ∈ p ++ [])), fun h => by cases h⟩
  · rw [e1, hr]
    exact trodAll_mk1 (shut_bool hb true)
  · rw [e2]
    exact args_below hl hst.below hrec hA (fun x hx => hlt x (List.mem_append_left _ hx))
  · rw [e3, hv]
    exact rfl
  · simpa using hx
end
end HL
end Go.Proofs.YtlnckcgbpilmdaaGreat
/- ValueEnds: called in whatever memory, it returns true. No condition. -/



set_option linter.unusedVariables false
set_option linter.unusedSimpArgs false
namespace Go.Proofs.YtlnckcgbpilmdaaGreat
open Go Go.RowKit HL Go.ChangeShapes Go.WideShapes Go.ChangeAt
namespace ValueEnds
theorem own : ownKnob Tryz.prog.godebug = none := by kernel_rfl
set_option maxRecDepth 100000 in
theorem lifted (os : Os) (started : os.Started) (H : Type) (enc : TypeId × Value → H) :
    ReturnsInHanded {} Tryz.checked os 6 .any (Rows.valueEndsSpec.pre6 enc Tryz.prog Tryz.f6 Rows.valueEndsRow.domain false) (Rows.valueEndsSpec.post enc Tryz.prog Tryz.f6 false true false false) := by
  refine returnsInHanded_of_change (C := Tryz.checked) own started (by kernel_rfl) Tryz.func6
    (ChangeSpec.witness6 (enc := enc) (C := Tryz.checked) false ⟨#[], #[], []⟩ 8 (by kernel_rfl) (by kernel_rfl) (by kernel_rfl) (by kernel_rfl)) ?_
  intro W base args ds gs before hval0 hW hcnd _
  have hW' := hW
  obtain ⟨p, q, hA0, hV, rfl, hfz, hnd⟩ := hW
  have hA : DataW.TrodAll enc Tryz.prog W 0 (fun _ => true) true Tryz.f6.params.toList args.toList ds p := hA0
  rw [Tryz.params6] at hA
  obtain ⟨hargs, rfl, rfl⟩ := trodAll_nil hA
  obtain rfl : args = #[] := by cases args; simp_all
  obtain ⟨rfl, rfl⟩ := trodVars_none hV
  refine (ends_spec W (lk_all (by simp)) (by simp [live]) (by simp [live]) (by simp [live])).mono fun e W' ⟨o, L, he, ho, hst⟩ => ?_
  obtain ⟨rfl, rfl⟩ := ho
  subst he
  exact ⟨_, rfl, row_post (by kernel_rfl) rfl rfl Tryz.underlying4 (by kernel_rfl) hW' (hst.noM fun _ h => by obtain ⟨_, h, _⟩ := h; simp [live] at h) fun _ => ⟨rfl, rfl, rfl⟩⟩
theorem proved : Rows.ValueEndsSaid :=
  OpenClaim.holds_of_wide 6 Tryz.f6 rfl rfl rfl rfl rfl rfl rfl ⟨rfl, rfl, rfl, rfl, rfl⟩ rfl rfl rfl rfl rfl (by kernel_rfl) Tryz.func6 (by kernel_rfl)
    (of_decide_eq_true (by kernel_rfl)) (by unfold Func.isWrapper; first | (rw [if_pos (by decide +kernel)]; kernel_rfl) | (rw [if_neg (by decide +kernel)]; exact ⟨rfl, rfl⟩))
    (fun os started H enc _ => lifted os started H enc)
end ValueEnds
end Go.Proofs.YtlnckcgbpilmdaaGreat
