/- Hashes in order: rising. -/
import Derived.Test.YtonbgcehgmpnkaaG2
import Derived.Test.YtonbgcehgmpnkaaS1
set_option linter.unusedVariables false
set_option linter.unusedSimpArgs false
set_option maxRecDepth 100000
set_option maxHeartbeats 8000000
namespace Go.Proofs.Ytonbgcehgmpnkaa
open Go Go.RowKit Go.Shelf Go.Lib Go.Sort HL
shelf_lay_g SlLaysF0.n6 Slsf 6 at Try 41 as Try.sortHash
theorem order_spec (a b : Hash) : CSpec Try.prog 23 [hashEn.f a, hashEn.f b] [] [] fun o L => o = .ret (vint (bcmp a.toList b.toList)) ∧ L = [] :=
  cspec_of fun w _ => (order_calls a b w).mono fun e w' ⟨he, hst⟩ => ⟨.ret (vint (bcmp a.toList b.toList)), [], he.symm, ⟨rfl, rfl⟩, hst⟩
instance : Inhabited Hash := ⟨hz⟩
def hcf (a b : Hash) : Int := bcmp a.toList b.toList
theorem ltOf_hcf (a b : Hash) : ltOf hcf a b = decide (hlt a b) := rfl
theorem hcf_swo : SWO (ltOf hcf) where
  irrefl x := by rw [ltOf_hcf]; exact decide_eq_false (hlt_irrefl x)
  trans x y z h1 h2 := by
    rw [ltOf_hcf, decide_eq_true_eq] at *
    exact hlt_trans h1 h2
  ntrans x y z h1 h2 := by
    rw [ltOf_hcf, decide_eq_false_iff_not] at *
    intro h3
    rcases hlt_tri x y with h | rfl | h
    · exact h1 h
    · exact h2 h3
    · exact h2 (hlt_trans h h3)
theorem hcf_total (x y : Hash) (h1 : ltOf hcf x y = false) (h2 : ltOf hcf y x = false) : x = y := by
  rw [ltOf_hcf, decide_eq_false_iff_not] at *
  rcases hlt_tri x y with h | h | h
  · exact absurd h h1
  · exact h
  · exact absurd h h2
def hle (x y : Hash) : Bool := !(ltOf hcf) y x
/-- Hashes in order. -/
def sortH (l : List Hash) : List Hash := l.mergeSort hle
theorem sortH_perm (l : List Hash) : (sortH l).Perm l := List.mergeSort_perm l _
theorem sortH_sorted (l : List Hash) : (sortH l).Pairwise fun a b => hle a b = true :=
  List.pairwise_mergeSort (fun a b c h1 h2 => by
    unfold hle at *
    rw [Bool.not_eq_true'] at *
    exact hcf_swo.ntrans _ _ _ h2 h1) (fun a b => by
    unfold hle
    rw [ltOf_hcf, ltOf_hcf, Bool.or_eq_true, Bool.not_eq_true', Bool.not_eq_true', decide_eq_false_iff_not, decide_eq_false_iff_not]
    by_cases h : hlt b a
    · exact .inr (hlt_asymm h)
    · exact .inl h) l
theorem sortH_eq {l m : List Hash} (h : l.Perm m) : sortH l = sortH m :=
  List.Perm.eq_of_pairwise (fun a b _ _ h1 h2 => by
    unfold hle at h1 h2
    rw [Bool.not_eq_true'] at h1 h2
    exact hcf_total a b h2 h1) (sortH_sorted l) (sortH_sorted m) (((sortH_perm l).trans h).trans (sortH_perm m).symm)
/-- Each once: each stands ahead of those behind it. -/
theorem sortH_lt {l : List Hash} (hn : l.Nodup) : (sortH l).Pairwise hlt := by
  have h1 := sortH_sorted l
  have h2 : (sortH l).Nodup := (sortH_perm l).nodup_iff.2 hn
  refine (h1.and h2).imp fun {a b} ⟨h3, h4⟩ => ?_
  unfold hle at h3
  rw [Bool.not_eq_true', ltOf_hcf, decide_eq_false_iff_not] at h3
  rcases hlt_tri a b with h | h | h
  · exact h
  · exact absurd h h4
  · exact absurd h h3
theorem sortHash_spec (A : Option Addr) (c : Nat) (l : List Hash) (hl : l.length ≤ 1048576) : CSpec Try.prog 41 [.one (.sl 0 A l.length c), .one (.fn 23 [] [])] [] [(0, Res.rows A c 23 hashEn l)] fun o L => o = .ret (.tup []) ∧ L = [Res.rows A c 23 hashEn (sortH l)] :=
  sort_spec Try.sortHash hashEn rfl (by intro w; exact Try.isAgg23 w) (by intro w; exact Try.sizeOf23 w) hcf hcf_swo hcf_total 23 order_spec (enters_of Try.func23 (by kernel_rfl) rfl) rfl _ A c l (by omega)
theorem collect_spec (gb g c : Nat) (R : Res) (l : List (Hash × Bool × Nat)) (hm : MapOf R g hashEn boolEn l c) (hw : MWf l c) (hl : l.length ≤ 1048576) : CSpec Try.prog 40 [.one (.fn 42 [.pointer (some ⟨gb, 0, none⟩)] [1])]
    [(1, Res.va gb 65 [.one (.mp 50 g)]), (50, R)] [] fun o L => ∃ ss A c', ss.Perm (l.map (·.1)) ∧ o = .ret (vsl 0 A ss.length c') ∧ L = [Res.rows A c' 23 hashEn ss] := by
  refine k_enter Try.func40 rfl rfl (h := fun w0 => ?_)
  refine c_seq ?_
  refine c_region ?_
  refine l_rd r_assign ?_
  refine l_nil ?_
  refine x_then ?_
  refine c_seq ?_
  refine c_region ?_
  refine l_rd r_move ?_
  refine l_call 20200 [(1, 1), (50, 50)] (appendSeq_spec gb g c R l hm hw hl) Try.func43 (h := ?_)
  rintro _ _ (⟨ss, A, c', hp, rfl, rfl⟩)
  refine l_rd r_assign ?_
  refine l_nil ?_
  refine x_then ?_
  refine c_ret ?_
  refine k_ret [20200] (vsl 0 A ss.length c') (.cons (.tmp rfl) .nil) (h := ?_)
  exact ⟨ss, A, c', hp, rfl, rfl⟩
theorem sortedFunc_spec (gb g c : Nat) (R : Res) (l : List (Hash × Bool × Nat)) (hm : MapOf R g hashEn boolEn l c) (hw : MWf l c) (hl : l.length ≤ 1048576) : CSpec Try.prog 37 [.one (.fn 42 [.pointer (some ⟨gb, 0, none⟩)] [1]), .one (.fn 23 [] [])]
    [(1, Res.va gb 65 [.one (.mp 50 g)]), (50, R)] [] fun o L => ∃ A c', o = .ret (vsl 0 A l.length c') ∧ L = [Res.rows A c' 23 hashEn (sortH (l.map (·.1)))] := by
  refine k_enter Try.func37 rfl rfl (h := fun w0 => ?_)
  refine c_seq ?_
  refine c_region ?_
  refine l_rd r_assign ?_
  refine l_nil ?_
  refine x_then ?_
  refine c_seq ?_
  refine c_region ?_
  refine l_rd r_move ?_
  refine l_call 20350 [(1, 1), (50, 50)] (collect_spec gb g c R l hm hw hl) Try.func40 (h := ?_)
  rintro _ _ (⟨ss, A, c', hp, rfl, rfl⟩)
  have hsl : ss.length = l.length := by rw [hp.length_eq, List.length_map]
  refine l_rd r_assign ?_
  refine l_nil ?_
  refine x_then ?_
  refine c_seq ?_
  refine c_region ?_
  refine l_rd r_move ?_
  refine l_rd r_move ?_
  refine l_call 20500 [] (sortHash_spec A c' ss (by omega)) Try.func41 (h := ?_)
  rintro _ _ (⟨rfl, rfl⟩)
  refine l_nil ?_
  refine x_then ?_
  refine c_seq ?_
  refine c_region ?_
  refine l_rd r_move ?_
  refine l_rd r_assign ?_
  refine l_nil ?_
  refine x_then ?_
  refine c_ret ?_
  rw [sortH_eq hp, hsl]
  refine k_ret [20500] (vsl 0 A l.length c') (.cons (.tmp rfl) .nil) (h := ?_)
  exact ⟨A, c', rfl, rfl⟩
end Go.Proofs.Ytonbgcehgmpnkaa
