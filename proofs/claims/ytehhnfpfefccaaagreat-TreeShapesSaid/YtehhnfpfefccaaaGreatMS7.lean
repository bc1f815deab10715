/- TreeShapes: called in whatever memory, it returns true. No condition. -/
import Derived.Test.YtehhnfpfefccaaaGreatMS6
import Derived.Test.YtehhnfpfefccaaaGreatMS1
import Derived.WideKeyArr2
import Derived.OpenShut
import Derived.ChangeSame
import Derived.WalkKit
import Derived.ProofKit
import Derived.Test.YtehhnfpfefccaaaGreatMS3
import Derived.Test.YtehhnfpfefccaaaGreatRows
import Derived.ChangeArms
import Derived.Carry
import Derived.JoinedCond
/- TreeShapes: the walk of the law. -/


set_option linter.unusedVariables false
set_option linter.unusedSimpArgs false
set_option maxRecDepth 100000
set_option maxHeartbeats 8000000
namespace Go.Proofs.YtehhnfpfefccaaaGreat
open Go Go.RowKit HL
theorem id_spec (n : Int) : CSpec Tryz.prog 6 [.one (.i .i64 n)] [] [] fun o L => o = .ret (vh (idH n)) ∧ L = [] :=
  cspec_of fun w _ => (id_calls n w).mono fun e w' ⟨h1, h2⟩ => ⟨.ret (vh (idH n)), [], h1.symm, ⟨rfl, rfl⟩, h2⟩
theorem leaf_spec (n p h : Int) : CSpec Tryz.prog 4 [.one (.i .i64 n), .one (.i .i64 p), .one (.i .i64 h)] [] [] fun o L => o = .ret (.s (leafEn.f ⟨idH n, idH p, h, 2⟩)) ∧ L = [] :=
  cspec_of fun w _ => (leaf_calls n p h w).mono fun e w' ⟨h1, h2⟩ => ⟨.ret (.s (leafEn.f ⟨idH n, idH p, h, 2⟩)), [], by rw [h1]; unfold leafE; rfl, ⟨rfl, rfl⟩, h2⟩
theorem example_spec : CSpec Tryz.prog 7 [] [] [] fun o L => ∃ A, o = .ret (vsl 0 A exL.length 4) ∧ L = [Res.rows A 4 27 leafEn exL] :=
  cspec_of fun w _ => (example_calls w).mono fun e w' ⟨A, h1, h2⟩ => ⟨.ret (vsl 0 A exL.length 4), [rowL A exL 4], h1.symm, ⟨A, rfl, by unfold rowL Res.rows; rw [dens_leaf]; rfl⟩, h2⟩
theorem wide_of {l : List LeafP} (h : ∀ x ∈ l, 0 ≤ x.height ∧ x.height ≤ 1000) : Wide64 l := fun x hx => by have := h x hx; omega
def manyH (i : Nat) : Hash := hset hz [(0, u8 i), (1, u8 ((i : Int) / 2 ^ (8 : Int).toNat)), (2, 1)]
def nums8 : List Int := [-9223372036854775808, -1, 0, 1, 2147483646, 2147483647, 2147483648, 9223372036854775807]
theorem nums_in {i : Nat} {y : Int} (h : nums8[i]? = some y) : -9223372036854775808 ≤ y ∧ y ≤ 9223372036854775807 := by
  have := List.mem_of_getElem? h
  simp [nums8] at this
  omega
theorem wide_two {a b c d : Hash} {x y m n : Int} (hx : -9223372036854775808 ≤ x ∧ x ≤ 9223372036854775807) (hy : -9223372036854775808 ≤ y ∧ y ≤ 9223372036854775807) : Wide64 [⟨a, b, x, m⟩, ⟨c, d, y, n⟩] := by
  intro z hz
  simp at hz
  rcases hz with rfl | rfl
  · exact hx
  · exact hy
theorem ex_wide : Wide64 exL := by
  intro x hx
  simp [exL] at hx
  rcases hx with rfl | rfl | rfl | rfl <;> decide
theorem ex_wide1 : Wide64 (exL ++ [⟨idH 5, idH 3, 2, 2⟩]) := by
  intro x hx
  rcases List.mem_append.1 hx with hx | hx
  · exact ex_wide x hx
  · rw [List.mem_singleton.1 hx]; decide
instance elT_int : ElT Tryz.prog 3 (intEn .i64) := ⟨⟩
theorem u8_toNat (n : Int) : ((u8 n).toNat : Int) = n % 256 := by
  rw [← u8_wrap]
  simp [IntKind.wrap, IntKind.signed, IntKind.bits]
theorem manyH_0 (i : Nat) : (manyH i)[0] = u8 i := by simp [manyH, hset, Vector.getElem_setIfInBounds]
theorem manyH_1 (i : Nat) : (manyH i)[1] = u8 ((i : Int) / 2 ^ (8 : Int).toNat) := by simp [manyH, hset, Vector.getElem_setIfInBounds]
theorem manyH_2 (i : Nat) : (manyH i)[2] = 1 := by simp [manyH, hset, Vector.getElem_setIfInBounds]
theorem manyH_inj {i j : Nat} (hi : i < 65536) (hj : j < 65536) (h : manyH i = manyH j) : i = j := by
  have h0 : u8 (i : Int) = u8 (j : Int) := by rw [← manyH_0, ← manyH_0, h]
  have h1 : u8 ((i : Int) / 2 ^ (8 : Int).toNat) = u8 ((j : Int) / 2 ^ (8 : Int).toNat) := by rw [← manyH_1, ← manyH_1, h]
  have e0 := u8_toNat (i : Int)
  have e1 := u8_toNat (j : Int)
  have e2 := u8_toNat ((i : Int) / 2 ^ (8 : Int).toNat)
  have e3 := u8_toNat ((j : Int) / 2 ^ (8 : Int).toNat)
  rw [h0] at e0
  rw [h1] at e2
  rw [show ((2 : Int) ^ (8 : Int).toNat) = 256 from rfl] at e2 e3
  rw [e1] at e0
  rw [e3] at e2
  omega
theorem manyH_ne (i : Nat) (n : Int) : manyH i ≠ idH n := fun h => by
  have h2 : (manyH i)[2] = (idH n)[2] := by rw [h]
  rw [manyH_2] at h2
  have : (idH n)[2] = 0 := by simp [idH, hset, Vector.getElem_setIfInBounds, hz]
  rw [this] at h2
  exact absurd h2 (by decide)
theorem many_step {ml : List LeafP} {k : Nat} {y : LeafP} (h1 : ml.length = 3001) (h2 : ∀ j, j < k → (ml.getD j leaf0).id = manyH j) (hk : k < 3001) : ∀ j, j < k + 1 → ((ml.set k {y with id := manyH k}).getD j leaf0).id = manyH j := fun j hj => by
  by_cases e : k = j
  · subst e
    rw [List.getD_eq_getElem?_getD, List.getElem?_set_self (by omega)]
    rfl
  · rw [List.getD_eq_getElem?_getD, List.getElem?_set_ne e, ← List.getD_eq_getElem?_getD]
    exact h2 j (by omega)
theorem many_ok {ml : List LeafP} (h1 : ml.length = 3001) (h2 : ∀ j, j < 3001 → (ml.getD j leaf0).id = manyH j) : NewOk (idH 0) 0 (ml.drop 1) := by
  have hg : ∀ (j : Nat) (hj : j < ml.length), ml[j].id = manyH j := fun j hj => by
    have := h2 j (by omega)
    rwa [List.getD_eq_getElem?_getD, List.getElem?_eq_getElem hj] at this
  refine ⟨by omega, by omega, by rw [List.length_drop]; omega, ?_, fun x hx => ?_⟩
  · unfold Apart
    refine List.pairwise_iff_getElem.2 fun i j hi hj hij he => ?_
    simp only [List.length_map, List.length_drop] at hi hj
    simp only [List.getElem_map, List.getElem_drop] at he
    rw [hg, hg] at he
    have := manyH_inj (by omega) (by omega) he
    omega
  · obtain ⟨j, hj, rfl⟩ := List.getElem_of_mem hx
    simp only [List.length_drop] at hj
    rw [List.getElem_drop, hg]
    exact manyH_ne _ _
theorem new_specN (root : Hash) (h : Int) (A : Option Addr) (l : List LeafP) (c n : Nat) (hn : n = l.length) (hl : n ≤ 1048576) : CSpec Tryz.prog 8 [.agg [.hash root], .one (.i .i64 h), .one (.sl 2 A n c)] [(2, Res.rd A leafEn l)] [] fun o L =>
    (¬ NewOk root h l ∧ o = .ret (.tup [.one .pn, .one (.i .i64 2)]) ∧ L = []) ∨ (NewOk root h l ∧ ∃ g gl gk xs, KidsOf xs l ∧ o = .ret (.tup [.one (.ptr 0 ⟨g, 0, none⟩), .one (.i .i64 0)]) ∧ L = [treeR g gl gk xs root h l]) := by
  subst hn
  exact new_spec root h A l c hl
theorem shapes_spec : CSpec Tryz.prog 3 [] [] [] fun o L => o = .ret (vb true) ∧ L = [] := by
  have hn8 : nums8.length = 8 := rfl
  have hxl : exL.length = 4 := rfl
  refine k_enter Tryz.func3 rfl rfl (h := fun w0 => ?_)
  refine c_seq ?_
  refine c_region ?_
  refine l_rd r_assign ?_
  refine l_nil ?_
  refine x_then ?_
  refine c_seq ?_
  refine c_seq ?_
  refine c_region ?_
  refine l_rd r_assign ?_
  refine l_nil ?_
  refine x_then ?_
  refine c_block ?_
  refine c_loopA (fun m E H => ∃ (n : Nat), E = [(1, vint (((n : Nat) : Int)))] ∧ H = [] ∧ m = 625 - n ∧ n ≤ 625) [7, 8, 9, 10, 11, 12, 14, 16, 84, 85, 86, 87, 88, 89, 90, 91, 92, 93, 94, 95, 96, 97, 98, 99, 100, 101, 102, 103, 104, 105, 106, 107, 108, 109, 110, 111, 112, 113, 114, 115, 116, 117, 118, 119, 120, 121, 122, 123, 124, 125, 126, 127, 128, 129, 130, 131, 132, 133, 134, 135, 136, 137, 138, 139, 140, 141, 142, 143, 144, 145, 146, 147, 148, 149, 150, 151, 152, 153, 154, 155, 156, 157, 158, 159, 160, 161, 162, 163, 164, 165, 166, 167, 168, 169, 170, 171, 172, 173]  (625) ([(1, vint (((0 : Nat) : Int)))]) ([]) rfl rfl (⟨0, rfl, rfl, by omega, by omega⟩) (by repeat (first | exact trivial | refine ⟨⟨_, rfl, (by first | rfl | exact den_int (by omega))⟩, ?_⟩)) (by repeat (first | exact trivial | refine ⟨rfl, ?_⟩)) rfl (fun _ _ _ hI => ?_)
  obtain ⟨n, rfl, rfl, hmn, hn⟩ := hI
  refine c_seq ?_
  refine c_seq ?_
  refine c_region ?_
  refine l_rd r_move ?_
  refine l_rd r_lss ?_
  refine l_nil ?_
  refine x_then ?_
  first | refine c_ifd rfl (fun h18 => ?_) (fun h18 => ?_) | refine c_ifn rfl (fun h18 => ?_) (fun h18 => ?_) | refine c_if rfl (fun h18 => ?_) (fun h18 => ?_)
  · refine c_skip ?_
    refine x_then ?_
    refine c_seq ?_
    refine c_block ?_
    refine c_seq ?_
    refine c_region ?_
    refine l_rd r_assign ?_
    refine l_nil ?_
    refine x_then ?_
    refine c_seq ?_
    refine c_region ?_
    refine l_rd r_move ?_
    refine l_rd r_assign ?_
    refine l_nil ?_
    refine x_then ?_
    refine c_seq ?_
    refine c_seq ?_
    refine c_region ?_
    refine l_rd r_assign ?_
    refine l_nil ?_
    refine x_then ?_
    refine c_block ?_
    refine k_nil 602 27 leafEn ?_
    refine c_loopA (fun m E H => ∃ (i : Nat) (l : List LeafP) (A2 : Option Addr) (c2 : Nat) (q : Nat), E = [(4, vint ((i : Int) + 1)), (2, vsl 602 A2 l.length c2), (3, vint q)] ∧ H = [(602, Res.rows A2 c2 27 leafEn l)] ∧ m = 4 - i ∧ i ≤ 4 ∧ l.length = i ∧ (∀ x ∈ l, 0 ≤ x.height ∧ x.height ≤ 2 * i + 5) ∧ q ≤ 1000) [1, 6, 7, 8, 9, 10, 11, 12, 14, 16, 17, 18, 19, 20, 21, 69, 70, 71, 72, 73, 74, 75, 76, 77, 78, 79, 80, 81, 82, 83, 84, 85, 86, 87, 88, 89, 90, 91, 92, 93, 94, 95, 96, 97, 98, 99, 100, 101, 102, 103, 104, 105, 106, 107, 108, 109, 110, 111, 112, 113, 114, 115, 116, 117, 118, 119, 120, 121, 122, 123, 124, 125, 126, 127, 128, 129, 130, 131, 132, 133, 134, 135, 136, 137, 138, 139, 140, 141, 142, 143, 144, 145, 146, 147, 148, 149, 150, 151, 152, 153, 154, 155, 156, 157, 158, 159, 160, 161, 162, 163, 164, 165, 166, 167, 168, 169, 170, 171, 172, 173]  (4) ([(4, vint (((0 : Nat) : Int) + 1)), (2, vsl 602 none 0 0), (3, vint n)]) ([(602, Res.rows none 0 27 leafEn [])]) rfl rfl (⟨0, [], none, 0, n, rfl, rfl, rfl, Nat.zero_le _, rfl, by simp, by omega⟩) (by repeat (first | exact trivial | refine ⟨⟨_, rfl, (by first | rfl | exact den_int (by omega))⟩, ?_⟩)) (by repeat (first | exact trivial | refine ⟨rfl, ?_⟩)) rfl (fun _ _ _ hI => ?_)
    obtain ⟨i, l, A2, c2, q, rfl, rfl, rfl, hi, hll, hlh, hq⟩ := hI
    refine c_seq ?_
    refine c_seq ?_
    refine c_region ?_
    refine l_rd r_move ?_
    refine l_rd r_lss ?_
    refine l_nil ?_
    refine x_then ?_
    first | refine c_ifd rfl (fun h23 => ?_) (fun h23 => ?_) | refine c_ifn rfl (fun h23 => ?_) (fun h23 => ?_) | refine c_if rfl (fun h23 => ?_) (fun h23 => ?_)
    · refine c_skip ?_
      refine x_then ?_
      refine c_seq ?_
      refine c_block ?_
      refine c_seq ?_
      refine c_region ?_
      refine l_rd r_move ?_
      refine l_rd r_move ?_
      first | refine l_rd r_rem ?_ | refine l_rd r_remT ?_
      refine l_call 21450 [] (leaf_spec ((i : Int) + 1) ((q : Int) % 5) 1) Tryz.func4 (h := ?_)
      rintro _ _ (⟨rfl, rfl⟩)
      refine l_do d_alloc (fun g5 => ?_)
      first | refine l_do1 d_store ?_ | refine l_do1 d_storeE ?_
      refine l_nil ?_
      refine x_then ?_
      refine c_seq ?_
      refine c_seq ?_
      refine c_region ?_
      refine l_rd r_move ?_
      first | refine l_rd r_rem ?_ | refine l_rd r_remT ?_
      refine l_rd r_gtr ?_
      refine l_rd r_move ?_
      refine l_rdG [] rfl (fun hg => r_move) ?_
      first | refine l_rdG [34] ⟨_, _, ⟨_, .inl ⟨rfl, rfl⟩⟩, rfl, rfl⟩ (fun hg => r_rem) ?_ | refine l_rdG [34] ⟨_, _, ⟨_, .inl ⟨rfl, rfl⟩⟩, rfl, rfl⟩ (fun hg => r_remT) ?_
      refine l_rdG [] rfl (fun hg => r_move) ?_
      refine l_rdG [35, 36] ⟨_, _, ⟨_, .inl ⟨rfl, rfl⟩⟩, ⟨_, _, ⟨_, .inl ⟨rfl, rfl⟩⟩, rfl, rfl⟩, rfl⟩ (fun hg => r_lss) ?_
      first | refine l_rd r_and ?_ | refine l_rd r_pickB ?_ | refine l_rd r_pick ?_
      refine l_nil ?_
      refine x_then ?_
      refine c_cutA (fun E H => ∃ x : LeafP, E = [] ∧ H = [(10005, Res.va g5 27 (leafEn.f x).ats)] ∧ 0 ≤ x.height ∧ x.height ≤ 2 * i + 6) [1, 2, 3, 4, 5, 6, 7, 8, 9, 10, 11, 12, 14, 16, 17, 18, 19, 20, 21, 22, 23, 24, 25, 26, 27, 28, 29, 30, 31, 32, 33, 34, 35, 36, 37, 38, 48, 49, 50, 51, 52, 53, 54, 55, 56, 57, 58, 59, 60, 61, 62, 63, 64, 65, 66, 67, 68, 69, 70, 71, 72, 73, 74, 75, 76, 77, 78, 79, 80, 81, 82, 83, 84, 85, 86, 87, 88, 89, 90, 91, 92, 93, 94, 95, 96, 97, 98, 99, 100, 101, 102, 103, 104, 105, 106, 107, 108, 109, 110, 111, 112, 113, 114, 115, 116, 117, 118, 119, 120, 121, 122, 123, 124, 125, 126, 127, 128, 129, 130, 131, 132, 133, 134, 135, 136, 137, 138, 139, 140, 141, 142, 143, 144, 145, 146, 147, 148, 149, 150, 151, 152, 153, 154, 155, 156, 157, 158, 159, 160, 161, 162, 163, 164, 165, 166, 167, 168, 169, 170, 171, 172, 173] [10005] rfl rfl ?_ ?_
      · first | refine c_ifd rfl (fun h38 => ?_) (fun h38 => ?_) | refine c_ifn rfl (fun h38 => ?_) (fun h38 => ?_) | refine c_if rfl (fun h38 => ?_) (fun h38 => ?_)
        · simp only [Bool.and_eq_true, decide_eq_true_eq] at h38
          have hgx := hlh (l.getD ((q : Int) % 5 - 1).toNat default) (by rw [List.getD_eq_getElem?_getD, List.getElem?_eq_getElem (by omega)]; exact List.getElem_mem _)
          refine c_region ?_
          refine l_rd r_move ?_
          refine l_rd r_move ?_
          first | refine l_rd r_rem ?_ | refine l_rd r_remT ?_
          first | refine l_rd r_sub ?_ | refine l_rd r_subW ?_
          first | refine l_ix (fun ad43 y43 hA43 h43 => ?_) | refine l_rd (r_indexT (hj := by omega)) ?_
          first | refine l_rd r_field ?_ | refine l_rd r_fieldE ?_
          first | refine l_rd r_load ?_ | refine l_rd r_loadE ?_ | refine l_rd (r_loadT (hj := by omega)) ?_
          first | refine l_rd r_add ?_ | refine l_rd r_addW ?_
          first | refine l_rd r_field ?_ | refine l_rd r_fieldE ?_
          first | refine l_do1 d_store ?_ | refine l_do1 d_storeE ?_
          refine l_nil ?_
          refine x_then ?_
          refine k_join (⟨(⟨idH ((i : Int) + 1), idH ((q : Int) % 5), (l.getD ((q : Int) % 5 - 1).toNat default).height + 1, 2⟩ : LeafP), rfl, rfl, by simp only; omega, by simp only; omega⟩) (by repeat (first | exact trivial | refine ⟨⟨_, rfl, (by first | rfl | exact den_int (by omega))⟩, ?_⟩)) (by repeat (first | exact trivial | refine ⟨rfl, ?_⟩))
        · refine c_skip ?_
          refine x_then ?_
          refine k_join (⟨(⟨idH ((i : Int) + 1), idH ((q : Int) % 5), 1, 2⟩ : LeafP), rfl, rfl, by simp only; omega, by simp only; omega⟩) (by repeat (first | exact trivial | refine ⟨⟨_, rfl, (by first | rfl | exact den_int (by omega))⟩, ?_⟩)) (by repeat (first | exact trivial | refine ⟨rfl, ?_⟩))
      · rintro _ _ (⟨x1, rfl, rfl, hx1, hx1b⟩)
        refine x_then ?_
        refine c_seq ?_
        refine c_seq ?_
        refine c_region ?_
        refine l_rd r_move ?_
        first | refine l_rd r_rem ?_ | refine l_rd r_remT ?_
        refine l_rd r_move ?_
        refine l_rd r_eql ?_
        refine l_nil ?_
        refine x_then ?_
        refine c_cutA (fun E H => ∃ x : LeafP, E = [] ∧ H = [(10005, Res.va g5 27 (leafEn.f x).ats)] ∧ 0 ≤ x.height ∧ x.height ≤ 2 * i + 7) [1, 2, 3, 4, 5, 6, 7, 8, 9, 10, 11, 12, 14, 16, 17, 18, 19, 20, 21, 22, 23, 24, 25, 26, 27, 28, 29, 30, 31, 32, 33, 34, 35, 36, 37, 38, 39, 40, 41, 42, 43, 44, 45, 46, 47, 48, 49, 50, 51, 56, 57, 58, 59, 60, 61, 62, 63, 64, 65, 66, 67, 68, 69, 70, 71, 72, 73, 74, 75, 76, 77, 78, 79, 80, 81, 82, 83, 84, 85, 86, 87, 88, 89, 90, 91, 92, 93, 94, 95, 96, 97, 98, 99, 100, 101, 102, 103, 104, 105, 106, 107, 108, 109, 110, 111, 112, 113, 114, 115, 116, 117, 118, 119, 120, 121, 122, 123, 124, 125, 126, 127, 128, 129, 130, 131, 132, 133, 134, 135, 136, 137, 138, 139, 140, 141, 142, 143, 144, 145, 146, 147, 148, 149, 150, 151, 152, 153, 154, 155, 156, 157, 158, 159, 160, 161, 162, 163, 164, 165, 166, 167, 168, 169, 170, 171, 172, 173] [10005] rfl rfl ?_ ?_
        · first | refine c_ifd rfl (fun h51 => ?_) (fun h51 => ?_) | refine c_ifn rfl (fun h51 => ?_) (fun h51 => ?_) | refine c_if rfl (fun h51 => ?_) (fun h51 => ?_)
          · refine c_region ?_
            first | refine l_rd r_field ?_ | refine l_rd r_fieldE ?_
            first | refine l_rd r_load ?_ | refine l_rd r_loadE ?_ | refine l_rd (r_loadT (hj := by omega)) ?_
            first | refine l_rd r_add ?_ | refine l_rd r_addW ?_
            first | refine l_rd r_field ?_ | refine l_rd r_fieldE ?_
            first | refine l_do1 d_store ?_ | refine l_do1 d_storeE ?_
            refine l_nil ?_
            refine x_then ?_
            refine k_join (⟨(⟨x1.id, x1.parent, x1.height + 1, x1.mark⟩ : LeafP), rfl, rfl, by simp only; omega, by simp only; omega⟩) (by repeat (first | exact trivial | refine ⟨⟨_, rfl, (by first | rfl | exact den_int (by omega))⟩, ?_⟩)) (by repeat (first | exact trivial | refine ⟨rfl, ?_⟩))
          · refine c_skip ?_
            refine x_then ?_
            refine k_join (⟨x1, rfl, rfl, by omega, by omega⟩) (by repeat (first | exact trivial | refine ⟨⟨_, rfl, (by first | rfl | exact den_int (by omega))⟩, ?_⟩)) (by repeat (first | exact trivial | refine ⟨rfl, ?_⟩))
        · rintro _ _ (⟨x2, rfl, rfl, hx2, hx2b⟩)
          refine x_then ?_
          refine c_seq ?_
          refine c_seq ?_
          refine c_region ?_
          refine l_rd r_move ?_
          first | refine l_rd r_rem ?_ | refine l_rd r_remT ?_
          refine l_rd r_move ?_
          refine l_rd r_eql ?_
          refine l_nil ?_
          refine x_then ?_
          refine c_cutA (fun E H => ∃ x : LeafP, E = [] ∧ H = [(10005, Res.va g5 27 (leafEn.f x).ats)] ∧ 0 ≤ x.height ∧ x.height ≤ 2 * i + 7) [1, 2, 3, 4, 5, 6, 7, 8, 9, 10, 11, 12, 14, 16, 17, 18, 19, 20, 21, 22, 23, 24, 25, 26, 27, 28, 29, 30, 31, 32, 33, 34, 35, 36, 37, 38, 39, 40, 41, 42, 43, 44, 45, 46, 47, 48, 49, 50, 51, 52, 53, 54, 55, 56, 57, 58, 59, 63, 64, 65, 66, 67, 68, 69, 70, 71, 72, 73, 74, 75, 76, 77, 78, 79, 80, 81, 82, 83, 84, 85, 86, 87, 88, 89, 90, 91, 92, 93, 94, 95, 96, 97, 98, 99, 100, 101, 102, 103, 104, 105, 106, 107, 108, 109, 110, 111, 112, 113, 114, 115, 116, 117, 118, 119, 120, 121, 122, 123, 124, 125, 126, 127, 128, 129, 130, 131, 132, 133, 134, 135, 136, 137, 138, 139, 140, 141, 142, 143, 144, 145, 146, 147, 148, 149, 150, 151, 152, 153, 154, 155, 156, 157, 158, 159, 160, 161, 162, 163, 164, 165, 166, 167, 168, 169, 170, 171, 172, 173] [10005] rfl rfl ?_ ?_
          · first | refine c_ifd rfl (fun h59 => ?_) (fun h59 => ?_) | refine c_ifn rfl (fun h59 => ?_) (fun h59 => ?_) | refine c_if rfl (fun h59 => ?_) (fun h59 => ?_)
            · refine c_region ?_
              refine l_rd r_move ?_
              first | refine l_rd r_rem ?_ | refine l_rd r_remT ?_
              first | refine l_rd r_field ?_ | refine l_rd r_fieldE ?_
              first | refine l_do1 d_store ?_ | refine l_do1 d_storeE ?_
              refine l_nil ?_
              refine x_then ?_
              refine k_join (⟨(⟨x2.id, x2.parent, x2.height, (n : Int) % 5⟩ : LeafP), rfl, rfl, by simp only; omega, by simp only; omega⟩) (by repeat (first | exact trivial | refine ⟨⟨_, rfl, (by first | rfl | exact den_int (by omega))⟩, ?_⟩)) (by repeat (first | exact trivial | refine ⟨rfl, ?_⟩))
            · refine c_skip ?_
              refine x_then ?_
              refine k_join (⟨x2, rfl, rfl, by omega, by omega⟩) (by repeat (first | exact trivial | refine ⟨⟨_, rfl, (by first | rfl | exact den_int (by omega))⟩, ?_⟩)) (by repeat (first | exact trivial | refine ⟨rfl, ?_⟩))
          · rintro _ _ (⟨x3, rfl, rfl, hx3, hx3b⟩)
            refine x_then ?_
            refine c_seq ?_
            refine c_region ?_
            refine l_rd r_move ?_
            first | refine l_rd r_load ?_ | refine l_rd r_loadE ?_ | refine l_rd (r_loadT (hj := by omega)) ?_
            refine l_do (d_bslice [_]) (fun B65 => ?_)
            refine l_do d_append (fun p66 => ?_)
            refine l_rd r_assign ?_
            refine l_nil ?_
            refine x_then ?_
            refine c_region ?_
            refine l_rd r_move ?_
            first | refine l_rd r_quo ?_ | refine l_rd r_quoT ?_
            refine l_rd r_assign ?_
            refine l_nil ?_
            refine x_in (x_then ?_)
            refine c_region ?_
            refine l_rd r_move ?_
            first | refine l_rd r_add ?_ | refine l_rd r_addW ?_
            refine l_rd r_assign ?_
            refine l_nil ?_
            refine x_then ?_
            refine k_again (4 - (i + 1)) ⟨i + 1, l ++ [x3], p66.1, p66.2, q / 5, rfl, rfl, rfl, by omega, by rw [List.length_append, hll]; rfl, (by intro x hx; rcases List.mem_append.1 hx with hx | hx; (have := hlh x hx; omega); (rw [List.mem_singleton.1 hx]; omega)), by omega⟩ (by omega) (by repeat (first | exact trivial | refine ⟨⟨_, rfl, (by first | rfl | exact den_int (by omega))⟩, ?_⟩)) (by repeat (first | exact trivial | refine ⟨rfl, ?_⟩))
    · refine c_exit ?_
      refine x_thenE (x_thenE (x_inE (x_then ?_)))
      refine c_seq ?_
      refine c_region ?_
      refine l_rd r_assign ?_
      refine l_nil ?_
      refine x_then ?_
      refine c_block ?_
      refine c_loopA (fun m E H => ∃ (j : Nat), E = [(6, vint (((j : Nat) : Int)))] ∧ H = [] ∧ m = 5 - j ∧ j ≤ 5) [1, 2, 3, 4, 5, 7, 8, 9, 10, 11, 12, 14, 16, 17, 18, 19, 20, 21, 22, 23, 24, 25, 26, 27, 28, 29, 30, 31, 32, 33, 34, 35, 36, 37, 38, 39, 40, 41, 42, 43, 44, 45, 46, 47, 48, 49, 50, 51, 52, 53, 54, 55, 56, 57, 58, 59, 60, 61, 62, 63, 64, 65, 66, 67, 68, 84, 85, 86, 87, 88, 89, 90, 91, 92, 93, 94, 95, 96, 97, 98, 99, 100, 101, 102, 103, 104, 105, 106, 107, 108, 109, 110, 111, 112, 113, 114, 115, 116, 117, 118, 119, 120, 121, 122, 123, 124, 125, 126, 127, 128, 129, 130, 131, 132, 133, 134, 135, 136, 137, 138, 139, 140, 141, 142, 143, 144, 145, 146, 147, 148, 149, 150, 151, 152, 153, 154, 155, 156, 157, 158, 159, 160, 161, 162, 163, 164, 165, 166, 167, 168, 169, 170, 171, 172, 173]  (5) ([(6, vint (((0 : Nat) : Int)))]) ([]) rfl rfl (⟨0, rfl, rfl, by omega, by omega⟩) (by repeat (first | exact trivial | refine ⟨⟨_, rfl, (by first | rfl | exact den_int (by omega))⟩, ?_⟩)) (by repeat (first | exact trivial | refine ⟨rfl, ?_⟩)) rfl (fun _ _ _ hI => ?_)
      obtain ⟨j, rfl, rfl, hmj, hj⟩ := hI
      refine c_seq ?_
      refine c_seq ?_
      refine c_region ?_
      refine l_rd r_move ?_
      refine l_rd r_lss ?_
      refine l_nil ?_
      refine x_then ?_
      first | refine c_ifd rfl (fun h70 => ?_) (fun h70 => ?_) | refine c_ifn rfl (fun h70 => ?_) (fun h70 => ?_) | refine c_if rfl (fun h70 => ?_) (fun h70 => ?_)
      · refine c_skip ?_
        refine x_then ?_
        refine c_seq ?_
        refine c_block ?_
        refine c_seq ?_
        refine c_region ?_
        refine l_call 23650 [] (id_spec 0) Tryz.func6 (h := ?_)
        rintro _ _ (⟨rfl, rfl⟩)
        refine l_rd r_move ?_
        refine l_rd r_move ?_
        refine l_call 23800 [] (id_spec j) Tryz.func6 (h := ?_)
        rintro _ _ (⟨rfl, rfl⟩)
        refine l_rd r_move ?_
        refine l_rd r_move ?_
        first | refine l_rd r_add ?_ | refine l_rd r_addW ?_
        first | refine l_rd r_rem ?_ | refine l_rd r_remT ?_
        refine l_call 24050 [] (id_spec (((j : Int) + (n : Int)) % 6)) Tryz.func6 (h := ?_)
        rintro _ _ (⟨rfl, rfl⟩)
        refine l_call 24100 [] (tells_spec (idH 0) 0 A2 l c2 (idH j) (idH (((j : Int) + (n : Int)) % 6)) (by omega) (wide_of fun x hx => by have := hlh x hx; omega)) Tryz.func5 (h := ?_)
        rintro _ _ (⟨rfl, rfl⟩)
        refine l_rd r_not ?_
        refine l_nil ?_
        refine x_then ?_
        refine c_false rfl ?_
        refine c_skip ?_
        refine x_in (x_then ?_)
        refine c_region ?_
        refine l_rd r_move ?_
        first | refine l_rd r_add ?_ | refine l_rd r_addW ?_
        refine l_rd r_assign ?_
        refine l_nil ?_
        refine x_then ?_
        refine k_again (5 - (j + 1)) ⟨j + 1, rfl, rfl, by omega, by omega⟩ (by omega) (by repeat (first | exact trivial | refine ⟨⟨_, rfl, (by first | rfl | exact den_int (by omega))⟩, ?_⟩)) (by repeat (first | exact trivial | refine ⟨rfl, ?_⟩))
      · refine c_exit ?_
        refine x_thenE (x_thenE (x_inE (x_in (x_then ?_))))
        refine c_region ?_
        refine l_rd r_move ?_
        first | refine l_rd r_add ?_ | refine l_rd r_addW ?_
        refine l_rd r_assign ?_
        refine l_nil ?_
        refine x_then ?_
        refine k_again (625 - (n + 1)) ⟨n + 1, rfl, rfl, by omega, by omega⟩ (by omega) (by repeat (first | exact trivial | refine ⟨⟨_, rfl, (by first | rfl | exact den_int (by omega))⟩, ?_⟩)) (by repeat (first | exact trivial | refine ⟨rfl, ?_⟩))
  · refine c_exit ?_
    refine x_thenE (x_thenE (x_inE (x_then ?_)))
    refine c_seq ?_
    refine c_region ?_
    refine l_do (d_bslice nums8) (fun B84 => ?_)
    refine l_rd r_assign ?_
    refine l_nil ?_
    refine x_then ?_
    refine c_seq ?_
    refine c_seq ?_
    refine c_region ?_
    refine l_rd r_assign ?_
    refine l_nil ?_
    refine x_then ?_
    refine c_block ?_
    refine c_loopA (fun m E H => ∃ (i8 : Nat), E = [(8, vint (((i8 : Nat) : Int)))] ∧ H = [] ∧ m = 8 - i8 ∧ i8 ≤ 8) [1, 2, 3, 4, 5, 6, 7, 10, 11, 12, 14, 16, 17, 18, 19, 20, 21, 22, 23, 24, 25, 26, 27, 28, 29, 30, 31, 32, 33, 34, 35, 36, 37, 38, 39, 40, 41, 42, 43, 44, 45, 46, 47, 48, 49, 50, 51, 52, 53, 54, 55, 56, 57, 58, 59, 60, 61, 62, 63, 64, 65, 66, 67, 68, 69, 70, 71, 72, 73, 74, 75, 76, 77, 78, 79, 80, 81, 82, 83, 84, 117, 118, 119, 120, 121, 122, 123, 124, 125, 126, 127, 128, 129, 130, 131, 132, 133, 134, 135, 136, 137, 138, 139, 140, 141, 142, 143, 144, 145, 146, 147, 148, 149, 150, 151, 152, 153, 154, 155, 156, 157, 158, 159, 160, 161, 162, 163, 164, 165, 166, 167, 168, 169, 170, 171, 172, 173]  (8) ([(8, vint (((0 : Nat) : Int)))]) ([]) rfl rfl (⟨0, rfl, rfl, by omega, by omega⟩) (by repeat (first | exact trivial | refine ⟨⟨_, rfl, (by first | rfl | exact den_int (by omega))⟩, ?_⟩)) (by repeat (first | exact trivial | refine ⟨rfl, ?_⟩)) rfl (fun _ _ _ hI => ?_)
    obtain ⟨i8, rfl, rfl, hmi8, hi8⟩ := hI
    refine c_seq ?_
    refine c_seq ?_
    refine c_region ?_
    refine l_rd r_move ?_
    refine l_rd r_move ?_
    refine l_rd r_len ?_
    refine l_rd r_lss ?_
    refine l_nil ?_
    refine x_then ?_
    first | refine c_ifd rfl (fun h88 => ?_) (fun h88 => ?_) | refine c_ifn rfl (fun h88 => ?_) (fun h88 => ?_) | refine c_if rfl (fun h88 => ?_) (fun h88 => ?_)
    · refine c_skip ?_
      refine x_then ?_
      refine c_seq ?_
      refine c_block ?_
      refine c_seq ?_
      refine c_region ?_
      refine l_rd r_assign ?_
      refine l_nil ?_
      refine x_then ?_
      refine c_block ?_
      refine c_loopA (fun m E H => ∃ (j9 : Nat), E = [(9, vint (((j9 : Nat) : Int)))] ∧ H = [] ∧ m = 8 - j9 ∧ j9 ≤ 8) [1, 2, 3, 4, 5, 6, 7, 8, 10, 11, 12, 14, 16, 17, 18, 19, 20, 21, 22, 23, 24, 25, 26, 27, 28, 29, 30, 31, 32, 33, 34, 35, 36, 37, 38, 39, 40, 41, 42, 43, 44, 45, 46, 47, 48, 49, 50, 51, 52, 53, 54, 55, 56, 57, 58, 59, 60, 61, 62, 63, 64, 65, 66, 67, 68, 69, 70, 71, 72, 73, 74, 75, 76, 77, 78, 79, 80, 81, 82, 83, 84, 85, 86, 87, 88, 89, 90, 117, 118, 119, 120, 121, 122, 123, 124, 125, 126, 127, 128, 129, 130, 131, 132, 133, 134, 135, 136, 137, 138, 139, 140, 141, 142, 143, 144, 145, 146, 147, 148, 149, 150, 151, 152, 153, 154, 155, 156, 157, 158, 159, 160, 161, 162, 163, 164, 165, 166, 167, 168, 169, 170, 171, 172, 173]  (8) ([(9, vint (((0 : Nat) : Int)))]) ([]) rfl rfl (⟨0, rfl, rfl, by omega, by omega⟩) (by repeat (first | exact trivial | refine ⟨⟨_, rfl, (by first | rfl | exact den_int (by omega))⟩, ?_⟩)) (by repeat (first | exact trivial | refine ⟨rfl, ?_⟩)) rfl (fun _ _ _ hI => ?_)
      obtain ⟨j9, rfl, rfl, hmj9, hj9⟩ := hI
      refine c_seq ?_
      refine c_seq ?_
      refine c_region ?_
      refine l_rd r_move ?_
      refine l_rd r_move ?_
      refine l_rd r_len ?_
      refine l_rd r_lss ?_
      refine l_nil ?_
      refine x_then ?_
      first | refine c_ifd rfl (fun h94 => ?_) (fun h94 => ?_) | refine c_ifn rfl (fun h94 => ?_) (fun h94 => ?_) | refine c_if rfl (fun h94 => ?_) (fun h94 => ?_)
      · refine c_skip ?_
        refine x_then ?_
        refine c_seq ?_
        refine c_block ?_
        refine c_seq ?_
        refine c_draw (.q 1 (.q 2 (.q 3 (.q 4 (.q 5 (.q 6 (.q 7 (.q 8 (.q 10 (.q 11 (.q 12 (.q 13 (.s 0 (.s 9 (.s 14 (.s2 15 (.s 16 (.s 17 (.s 18 (.q 19 .nil)))) 16 (.s2 15 (.s 17 (.s 18 (.q 19 .nil))) 17 (.s 15 (.s 18 (.q 19 .nil)))))))))))))))))))) [21450, 21451, 21452, 21453, 10005, 10065, 10066, 23650, 23651, 23652, 23653, 23800, 23801, 23802, 23803, 24050, 24051, 24052, 24053, 24100, 24101, 24102, 24103, 10084, 10087, 10093, 24850, 24851, 24852, 24853, 25300, 25301, 25302, 25303, 25550, 25551, 25552, 25553, 10112, 25650, 25651, 25652, 25653, 25700, 25701, 25702, 25703, 25750, 25751, 25752, 25753, 25850, 25851, 25852, 25853, 25900, 25901, 25902, 25903, 10119, 10120, 10121, 10124, 26950, 26951, 26952, 26953, 27050, 27051, 27052, 27053, 27250, 27251, 27252, 27253, 27400, 27401, 27402, 27403, 27900, 27901, 27902, 27903, 28000, 28001, 28002, 28003, 28050, 28051, 28052, 28053, 28100, 28101, 28102, 28103, 28250, 28251, 28252, 28253, 28300, 28301, 28302, 28303, 28350, 28351, 28352, 28353, 28400, 28401, 28402, 28403, 28450, 28451, 28452, 28453, 28600, 28601, 28602, 28603] (hm := by kernel_rfl) (hs := by kernel_rfl) (hk := by kernel_rfl) (hQ := fun d v c a w h => by cases d <;> exact h) (h := ?_)
        refine q_rd rfl r_move ?_
        refine q_rd rfl r_move ?_
        first | refine q_ix rfl (fun ad100 y100 hA100 h100 => ?_) | refine q_rd rfl (r_indexT (hj := by omega)) ?_
        first | refine q_rd rfl r_load ?_ | refine q_rd rfl r_loadE ?_ | refine q_rd rfl (r_loadT (hj := by omega)) ?_
        refine q_rd rfl r_move ?_
        refine q_rd rfl r_move ?_
        first | refine q_ix rfl (fun ad104 y104 hA104 h104 => ?_) | refine q_rd rfl (r_indexT (hj := by omega)) ?_
        first | refine q_rd rfl r_load ?_ | refine q_rd rfl r_loadE ?_ | refine q_rd rfl (r_loadT (hj := by omega)) ?_
        refine q_rd rfl r_move ?_
        refine q_rd rfl r_move ?_
        first | refine q_ix rfl (fun ad109 y109 hA109 h109 => ?_) | refine q_rd rfl (r_indexT (hj := by omega)) ?_
        first | refine q_rd rfl r_load ?_ | refine q_rd rfl r_loadE ?_ | refine q_rd rfl (r_loadT (hj := by omega)) ?_
        refine s_call rfl 24850 [] (id_spec 0) Tryz.func6 (h := ?_)
        rintro _ _ (⟨rfl, rfl⟩)
        refine ⟨cov_of (by repeat (first | exact trivial | refine ⟨rfl, ?_⟩)), ?_⟩
        refine s_call rfl 25300 [] (leaf_spec 1 0 y104) Tryz.func4 (h := ?_)
        rintro _ _ (⟨rfl, rfl⟩)
        refine ⟨cov_of (by repeat (first | exact trivial | refine ⟨rfl, ?_⟩)), ?_⟩
        refine s_call rfl 25550 [] (leaf_spec 2 1 y109) Tryz.func4 (h := ?_)
        rintro _ _ (⟨rfl, rfl⟩)
        refine ⟨cov_of (by repeat (first | exact trivial | refine ⟨rfl, ?_⟩)), ?_⟩
        refine s_two ?_ ?_
        · refine s_do rfl (d_bslice [(⟨idH 1, idH 0, y104, 2⟩ : LeafP), ⟨idH 2, idH 1, y109, 2⟩]) (fun B112 => ?_)
          refine s_call rfl 25650 [] (id_spec 1) Tryz.func6 (h := ?_)
          rintro _ _ (⟨rfl, rfl⟩)
          refine ⟨cov_of (by repeat (first | exact trivial | refine ⟨rfl, ?_⟩)), ?_⟩
          refine s_call rfl 25700 [] (id_spec 2) Tryz.func6 (h := ?_)
          rintro _ _ (⟨rfl, rfl⟩)
          refine ⟨cov_of (by repeat (first | exact trivial | refine ⟨rfl, ?_⟩)), ?_⟩
          refine s_call rfl 25750 [] (tells_spec (idH 0) y100 B112 [⟨idH 1, idH 0, y104, 2⟩, ⟨idH 2, idH 1, y109, 2⟩] 2 (idH 1) (idH 2) (by simp) (wide_two (nums_in h104) (nums_in h109))) Tryz.func5 (h := ?_)
          rintro _ _ (⟨rfl, rfl⟩)
          refine ⟨cov_of (by repeat (first | exact trivial | refine ⟨rfl, ?_⟩)), ?_⟩
          refine q_rd rfl r_not ?_
          refine s_nil ?_
          refine x_then ?_
          refine c_false rfl ?_
          refine c_skip ?_
          refine x_in (x_then ?_)
          refine c_region ?_
          refine l_rd r_move ?_
          first | refine l_rd r_add ?_ | refine l_rd r_addW ?_
          refine l_rd r_assign ?_
          refine l_nil ?_
          refine x_then ?_
          refine k_again (8 - (j9 + 1)) ⟨j9 + 1, rfl, rfl, by omega, by omega⟩ (by omega) (by repeat (first | exact trivial | refine ⟨⟨_, rfl, (by first | rfl | exact den_int (by omega))⟩, ?_⟩)) (by repeat (first | exact trivial | refine ⟨rfl, ?_⟩))
        · refine s_call rfl 25650 [] (id_spec 1) Tryz.func6 (h := ?_)
          rintro _ _ (⟨rfl, rfl⟩)
          refine ⟨cov_of (by repeat (first | exact trivial | refine ⟨rfl, ?_⟩)), ?_⟩
          refine s_two ?_ ?_
          · refine s_do rfl (d_bslice [(⟨idH 1, idH 0, y104, 2⟩ : LeafP), ⟨idH 2, idH 1, y109, 2⟩]) (fun B112 => ?_)
            refine s_call rfl 25700 [] (id_spec 2) Tryz.func6 (h := ?_)
            rintro _ _ (⟨rfl, rfl⟩)
            refine ⟨cov_of (by repeat (first | exact trivial | refine ⟨rfl, ?_⟩)), ?_⟩
            refine s_call rfl 25750 [] (tells_spec (idH 0) y100 B112 [⟨idH 1, idH 0, y104, 2⟩, ⟨idH 2, idH 1, y109, 2⟩] 2 (idH 1) (idH 2) (by simp) (wide_two (nums_in h104) (nums_in h109))) Tryz.func5 (h := ?_)
            rintro _ _ (⟨rfl, rfl⟩)
            refine ⟨cov_of (by repeat (first | exact trivial | refine ⟨rfl, ?_⟩)), ?_⟩
            refine q_rd rfl r_not ?_
            refine s_nil ?_
            refine x_then ?_
            refine c_false rfl ?_
            refine c_skip ?_
            refine x_in (x_then ?_)
            refine c_region ?_
            refine l_rd r_move ?_
            first | refine l_rd r_add ?_ | refine l_rd r_addW ?_
            refine l_rd r_assign ?_
            refine l_nil ?_
            refine x_then ?_
            refine k_again (8 - (j9 + 1)) ⟨j9 + 1, rfl, rfl, by omega, by omega⟩ (by omega) (by repeat (first | exact trivial | refine ⟨⟨_, rfl, (by first | rfl | exact den_int (by omega))⟩, ?_⟩)) (by repeat (first | exact trivial | refine ⟨rfl, ?_⟩))
          · refine s_call rfl 25700 [] (id_spec 2) Tryz.func6 (h := ?_)
            rintro _ _ (⟨rfl, rfl⟩)
            refine ⟨cov_of (by repeat (first | exact trivial | refine ⟨rfl, ?_⟩)), ?_⟩
            refine s_do rfl (d_bslice [(⟨idH 1, idH 0, y104, 2⟩ : LeafP), ⟨idH 2, idH 1, y109, 2⟩]) (fun B112 => ?_)
            refine s_call rfl 25750 [] (tells_spec (idH 0) y100 B112 [⟨idH 1, idH 0, y104, 2⟩, ⟨idH 2, idH 1, y109, 2⟩] 2 (idH 1) (idH 2) (by simp) (wide_two (nums_in h104) (nums_in h109))) Tryz.func5 (h := ?_)
            rintro _ _ (⟨rfl, rfl⟩)
            refine ⟨cov_of (by repeat (first | exact trivial | refine ⟨rfl, ?_⟩)), ?_⟩
            refine q_rd rfl r_not ?_
            refine s_nil ?_
            refine x_then ?_
            refine c_false rfl ?_
            refine c_skip ?_
            refine x_in (x_then ?_)
            refine c_region ?_
            refine l_rd r_move ?_
            first | refine l_rd r_add ?_ | refine l_rd r_addW ?_
            refine l_rd r_assign ?_
            refine l_nil ?_
            refine x_then ?_
            refine k_again (8 - (j9 + 1)) ⟨j9 + 1, rfl, rfl, by omega, by omega⟩ (by omega) (by repeat (first | exact trivial | refine ⟨⟨_, rfl, (by first | rfl | exact den_int (by omega))⟩, ?_⟩)) (by repeat (first | exact trivial | refine ⟨rfl, ?_⟩))
      · refine c_exit ?_
        refine x_thenE (x_thenE (x_inE (x_in (x_then ?_))))
        refine c_region ?_
        refine l_rd r_move ?_
        first | refine l_rd r_add ?_ | refine l_rd r_addW ?_
        refine l_rd r_assign ?_
        refine l_nil ?_
        refine x_then ?_
        refine k_again (8 - (i8 + 1)) ⟨i8 + 1, rfl, rfl, by omega, by omega⟩ (by omega) (by repeat (first | exact trivial | refine ⟨⟨_, rfl, (by first | rfl | exact den_int (by omega))⟩, ?_⟩)) (by repeat (first | exact trivial | refine ⟨rfl, ?_⟩))
    · refine c_exit ?_
      refine x_thenE (x_thenE (x_inE (x_then ?_)))
      refine c_seq ?_
      refine c_region ?_
      refine l_call 25850 [] (example_spec) Tryz.func7 (h := ?_)
      rintro _ _ (⟨Ae, rfl, rfl⟩)
      refine l_call 25900 [] (leaf_spec 5 3 2) Tryz.func4 (h := ?_)
      rintro _ _ (⟨rfl, rfl⟩)
      refine l_do (d_bslice [(⟨idH 5, idH 3, 2, 2⟩ : LeafP)]) (fun B119 => ?_)
      refine l_do d_append (fun p120 => ?_)
      refine l_rd r_assign ?_
      refine l_nil ?_
      refine x_then ?_
      refine c_seq ?_
      refine c_region ?_
      refine l_do (d_makeSlice (m := 3001)) (fun g121 => ?_)
      refine l_rd r_assign ?_
      refine l_nil ?_
      refine x_then ?_
      refine c_seq ?_
      refine c_seq ?_
      refine c_region ?_
      refine l_rd r_assign ?_
      refine l_nil ?_
      refine x_then ?_
      refine c_block ?_
      refine c_loopA (fun m E H => ∃ (k : Nat) (ml : List LeafP), E = [(12, vint (((k : Nat) : Int)))] ∧ H = [(10121, Res.rows (some ⟨g121, 0, none⟩) 3001 27 leafEn ml)] ∧ m = 3001 - k ∧ k ≤ 3001 ∧ (ml.length = 3001) ∧ (∀ j, j < k → (ml.getD j leaf0).id = manyH j)) [1, 2, 3, 4, 5, 6, 7, 8, 9, 10, 11, 14, 16, 17, 18, 19, 20, 21, 22, 23, 24, 25, 26, 27, 28, 29, 30, 31, 32, 33, 34, 35, 36, 37, 38, 39, 40, 41, 42, 43, 44, 45, 46, 47, 48, 49, 50, 51, 52, 53, 54, 55, 56, 57, 58, 59, 60, 61, 62, 63, 64, 65, 66, 67, 68, 69, 70, 71, 72, 73, 74, 75, 76, 77, 78, 79, 80, 81, 82, 83, 84, 85, 86, 87, 88, 89, 90, 91, 92, 93, 94, 95, 96, 97, 98, 99, 100, 101, 102, 103, 104, 105, 106, 107, 108, 109, 110, 111, 112, 113, 114, 115, 116, 117, 118, 119, 120, 121, 138, 139, 140, 141, 142, 143, 144, 145, 146, 147, 148, 149, 150, 151, 152, 153, 154, 155, 156, 157, 158, 159, 160, 161, 162, 163, 164, 165, 166, 167, 168, 169, 170, 171, 172, 173]  (3001) ([(12, vint (((0 : Nat) : Int)))]) ([(10121, Res.rows (some ⟨g121, 0, none⟩) 3001 27 leafEn (List.replicate 3001 leaf0))]) rfl rfl (⟨0, List.replicate 3001 leaf0, rfl, rfl, by omega, by omega, by simp, (fun j hj => absurd hj (Nat.not_lt_zero j))⟩) (by repeat (first | exact trivial | refine ⟨⟨_, rfl, (by first | rfl | exact den_int (by omega))⟩, ?_⟩)) (by repeat (first | exact trivial | refine ⟨rfl, ?_⟩)) rfl (fun _ _ _ hI => ?_)
      obtain ⟨k, ml, rfl, rfl, hmk, hk, hmi0, hmi1⟩ := hI
      refine c_seq ?_
      refine c_seq ?_
      refine c_region ?_
      refine l_rd r_move ?_
      refine l_rd r_move ?_
      refine l_rd r_len ?_
      refine l_rd r_lss ?_
      refine l_nil ?_
      refine x_then ?_
      first | refine c_ifd rfl (fun h125 => ?_) (fun h125 => ?_) | refine c_ifn rfl (fun h125 => ?_) (fun h125 => ?_) | refine c_if rfl (fun h125 => ?_) (fun h125 => ?_)
      · refine c_skip ?_
        refine x_then ?_
        refine c_seq ?_
        refine c_block ?_
        refine c_region ?_
        refine l_rd r_move ?_
        refine l_rd r_move ?_
        refine l_rd r_move ?_
        first | refine l_rd r_conv ?_ | refine l_rd r_convW ?_
        refine l_rd r_move ?_
        refine l_rd r_shr ?_
        first | refine l_rd r_conv ?_ | refine l_rd r_convW ?_
        refine l_rd (r_buildH [(0, u8 k), (1, u8 ((k : Int) / 2 ^ (8 : Int).toNat)), (2, 1)] ⟨rfl, ⟨_, rfl, u8_wrap _⟩, rfl, ⟨_, rfl, u8_wrap _⟩, rfl, ⟨_, rfl, rfl⟩, trivial⟩) ?_
        first | refine l_ix (fun ad136 y136 hA136 h136 => ?_) | refine l_rd (r_indexT (hj := by omega)) ?_
        first | refine l_rd r_field ?_ | refine l_rd r_fieldE ?_
        refine l_do1 (d_storeE (u := y136) (u' := {y136 with id := manyH k})) ?_
        refine l_nil ?_
        refine x_in (x_then ?_)
        refine c_region ?_
        refine l_rd r_move ?_
        first | refine l_rd r_add ?_ | refine l_rd r_addW ?_
        refine l_rd r_assign ?_
        refine l_nil ?_
        refine x_then ?_
        refine k_again (3001 - (k + 1)) ⟨k + 1, ml.set k {y136 with id := manyH k}, rfl, rfl, by omega, by omega, by rw [List.length_set, hmi0], (many_step hmi0 hmi1 (by omega))⟩ (by omega) (by repeat (first | exact trivial | refine ⟨⟨_, rfl, (by first | rfl | exact den_int (by omega))⟩, ?_⟩)) (by repeat (first | exact trivial | refine ⟨rfl, ?_⟩))
      · refine c_exit ?_
        refine x_thenE (x_thenE (x_inE (x_then ?_)))
        refine c_seq ?_
        refine c_region ?_
        refine l_call 26950 [] (id_spec 0) Tryz.func6 (h := ?_)
        rintro _ _ (⟨rfl, rfl⟩)
        refine l_rd r_move ?_
        refine l_call 27050 [] (new_specN (idH 0) 0 (some ⟨g121, 0, none⟩) ml 3001 3001 hmi0.symm (by omega)) Tryz.func8 (h := ?_)
        rintro _ _ (⟨hno, rfl, rfl⟩ | ⟨hok, g, gl, gk, xs, hks, rfl, rfl⟩)
        · refine l_rd r_move ?_
          first | refine l_rd r_extract ?_ | refine l_rd r_extractN ?_
          refine l_rd r_extract ?_
          refine l_rd r_assign ?_
          refine l_rd r_assign ?_
          refine l_nil ?_
          refine x_then ?_
          refine c_seq ?_
          refine c_draw (.q 1 (.q 2 (.s 0 (.s 3 (.q 4 (.q 5 (.q 6 (.q 7 (.q 8 .nil))))))))) [21450, 21451, 21452, 21453, 10005, 10065, 10066, 23650, 23651, 23652, 23653, 23800, 23801, 23802, 23803, 24050, 24051, 24052, 24053, 24100, 24101, 24102, 24103, 10084, 10087, 10093, 24850, 24851, 24852, 24853, 25300, 25301, 25302, 25303, 25550, 25551, 25552, 25553, 10112, 25650, 25651, 25652, 25653, 25700, 25701, 25702, 25703, 25750, 25751, 25752, 25753, 25850, 25851, 25852, 25853, 25900, 25901, 25902, 25903, 10119, 10120, 10121, 10124, 26950, 26951, 26952, 26953, 27050, 27051, 27052, 27053, 27250, 27251, 27252, 27253, 27400, 27401, 27402, 27403, 27900, 27901, 27902, 27903, 28000, 28001, 28002, 28003, 28050, 28051, 28052, 28053, 28100, 28101, 28102, 28103, 28250, 28251, 28252, 28253, 28300, 28301, 28302, 28303, 28350, 28351, 28352, 28353, 28400, 28401, 28402, 28403, 28450, 28451, 28452, 28453, 28600, 28601, 28602, 28603] (hm := by kernel_rfl) (hs := by kernel_rfl) (hk := by kernel_rfl) (hQ := fun d v c a w h => by cases d <;> exact h) (h := ?_)
          refine q_rd rfl r_move ?_
          refine q_rd rfl (r_sliceL (j := 1)) ?_
          refine s_call rfl 27250 [] (id_spec 0) Tryz.func6 (h := ?_)
          rintro _ _ (⟨rfl, rfl⟩)
          refine ⟨cov_of (by repeat (first | exact trivial | refine ⟨rfl, ?_⟩)), ?_⟩
          refine s_call rfl 27400 [] (new_specN (idH 0) 0 (tailA (some ⟨g121, 0, none⟩) 3001 1 66) (ml.drop 1) 3000 3000 (by rw [List.length_drop]; omega) (by omega)) Tryz.func8 (h := ?_)
          rintro _ _ (⟨hno2, rfl, rfl⟩ | ⟨hok, g, gl, gk, xs, hks, rfl, rfl⟩)
          · exact absurd (many_ok hmi0 (fun j hj => hmi1 j (by omega))) hno2
          · refine ⟨cov_of (by repeat (first | exact trivial | refine ⟨rfl, ?_⟩)), ?_⟩
            refine q_rd rfl r_move ?_
            first | refine q_rd rfl r_extract ?_ | refine q_rd rfl r_extractN ?_
            refine q_rd rfl r_extract ?_
            refine q_rd rfl r_assign ?_
            refine q_rd rfl r_assign ?_
            refine s_nil ?_
            refine x_then ?_
            refine c_seq ?_
            refine c_region ?_
            refine l_rd r_move ?_
            refine l_rd r_eql ?_
            refine k_know 152 true rfl (by decide) ?_
            refine l_rd r_move ?_
            refine l_rd r_move ?_
            refine l_rd r_eql ?_
            refine k_know 155 true rfl (by decide) ?_
            first | refine l_rd r_and ?_ | refine l_rd r_pickB ?_ | refine l_rd r_pick ?_
            refine l_rd r_move ?_
            refine l_call 27900 [] (id_spec 0) Tryz.func6 (h := ?_)
            rintro _ _ (⟨rfl, rfl⟩)
            refine l_rd r_move ?_
            refine l_call 28000 [] (id_spec 5) Tryz.func6 (h := ?_)
            rintro _ _ (⟨rfl, rfl⟩)
            refine l_call 28050 [] (id_spec 6) Tryz.func6 (h := ?_)
            rintro _ _ (⟨rfl, rfl⟩)
            refine l_call 28100 [] (tells_spec (idH 0) 0 p120.1 (exL ++ [⟨idH 5, idH 3, 2, 2⟩]) p120.2 (idH 5) (idH 6) (by decide) ex_wide1) Tryz.func5 (h := ?_)
            rintro _ _ (⟨rfl, rfl⟩)
            first | refine l_rd r_and ?_ | refine l_rd r_pickB ?_ | refine l_rd r_pick ?_
            refine l_rd r_move ?_
            refine l_call 28250 [] (id_spec 5) Tryz.func6 (h := ?_)
            rintro _ _ (⟨rfl, rfl⟩)
            refine l_call 28300 [] (example_spec) Tryz.func7 (h := ?_)
            rintro _ _ (⟨Af, rfl, rfl⟩)
            refine l_call 28350 [] (id_spec 5) Tryz.func6 (h := ?_)
            rintro _ _ (⟨rfl, rfl⟩)
            refine l_call 28400 [] (id_spec 6) Tryz.func6 (h := ?_)
            rintro _ _ (⟨rfl, rfl⟩)
            refine l_call 28450 [] (tells_spec (idH 5) 0 Af exL 4 (idH 5) (idH 6) (by decide) ex_wide) Tryz.func5 (h := ?_)
            rintro _ _ (⟨rfl, rfl⟩)
            first | refine l_rd r_and ?_ | refine l_rd r_pickB ?_ | refine l_rd r_pick ?_
            refine l_rd r_move ?_
            refine l_call 28600 [] (awake_spec) Tryz.func9 (h := ?_)
            rintro _ _ (⟨rfl, rfl⟩)
            first | refine l_rd r_and ?_ | refine l_rd r_pickB ?_ | refine l_rd r_pick ?_
            refine l_rd r_assign ?_
            refine l_nil ?_
            refine x_then ?_
            refine c_ret ?_
            refine k_ret [] _ (.cons (.tmp rfl) .nil) (h := ?_)
            exact ⟨rfl, rfl⟩
        · exact absurd hok.2.2.1 (by omega)
end Go.Proofs.YtehhnfpfefccaaaGreat
/- HEAP LIBRARY, third part: arguments that are hashes, read as data. My own text; it names no program. -/






set_option linter.unusedVariables false
set_option linter.unusedSimpArgs false
set_option linter.unusedSectionVars false
namespace Go.Proofs.YtehhnfpfefccaaaGreat
namespace HL
open Go Go.RowKit Go.ChangeShapes Go.WideShapes Go.ChangeAt
section
variable {H : Type} {enc : TypeId × Value → H} {P : Program} {W : World} {base : Nat} {sp : Nat → Bool} {held : Bool} {T e : TypeId}
theorem St.kept {w w' : World} {L : List Res} (h : St w w' No L) (may : MemPlace → Prop) : w.keptBut w' may := by
  refine ⟨h.os, h.output, fun i hi => ?_⟩
  rw [h.keep i hi id]
  cases w.heap[i]? with
  | none => trivial
  | some o =>
    cases o <;> simp
end
end HL
end Go.Proofs.YtehhnfpfefccaaaGreat
/- ARGUMENTS READ AS DATA, and the end of a law's row. My own text; it names no program. -/






set_option linter.unusedVariables false
set_option linter.unusedSimpArgs false
set_option linter.unusedSectionVars false
namespace Go.Proofs.YtehhnfpfefccaaaGreat
namespace HL
open Go Go.RowKit Go.ChangeShapes Go.WideShapes Go.ChangeAt
structure Opn (P : Program) (T : TypeId) {α : Type} (f : α → List At) (Q : World → α → Prop) (z : α → Nat) : Prop where
  op : ∀ {H : Type} (enc : TypeId × Value → H) (W : World) (fuel : Nat) (cs : List Value) (x : DataW H × List MemPlace), DataW.trod enc P W 0 (fun _ => true) true fuel T cs = some x → ∃ a, cs = flat (vals (f a)) ∧ Q W a ∧ z a ≤ Rows.uptoBulk x.1
section
variable {P : Program} {T e : TypeId}
theorem Opn.map {α β : Type} {f : α → List At} {Q : World → α → Prop} {z : α → Nat} (h : Opn P T f Q z) (g : α → β) {f' : β → List At} {Q' : World → β → Prop} {z' : β → Nat} (hf : ∀ a, f' (g a) = f a) (hQ : ∀ W a, Q W a → Q' W (g a)) (hz : ∀ a, z' (g a) ≤ z a) : Opn P T f' Q' z' := ⟨fun enc W fuel cs x hx => by
  obtain ⟨a, h1, h2, h3⟩ := h.op enc W fuel cs x hx
  exact ⟨g a, by rw [hf]; exact h1, hQ W a h2, Nat.le_trans (hz a) h3⟩⟩
structure PO (P : Program) where
  T : TypeId
  α : Type
  f : α → List At
  Q : World → α → Prop
  z : α → Nat
  sz : Nat
  h : Opn P T f Q z
  hc : P.cellsOf T = sz
def Tup : List (PO P) → Type
  | [] => Unit
  | p :: ps => p.α × Tup ps
def Tup.f : (ps : List (PO P)) → Tup ps → List At
  | [], _ => []
  | p :: ps, (a, t) => p.f a ++ Tup.f ps t
def Tup.Q : (ps : List (PO P)) → World → Tup ps → Prop
  | [], _, _ => True
  | p :: ps, W, (a, t) => p.Q W a ∧ Tup.Q ps W t
def Tup.z : (ps : List (PO P)) → Tup ps → Nat
  | [], _ => 0
  | p :: ps, (a, t) => p.z a + Tup.z ps t
def offs : Nat → List (PO P) → List (TypeId × Nat)
  | _, [] => []
  | o, p :: ps => (p.T, o) :: offs (o + p.sz) ps
theorem St.below {w w' : World} {L : List Res} (h : St w w' No L) : Below w.heap.size w w' := ⟨h.os, h.tape, h.output, h.size, fun k hk => h.keep k hk id⟩
theorem St.noM {w w' : World} {M : Nat → Prop} {L : List Res} (h : St w w' M L) (hM : ∀ b, ¬ M b) : St w w' No L := by
  obtain rfl : M = No := funext fun b => propext ⟨fun h => (hM b h).elim, fun h => h.elim⟩
  exact h
theorem lk_all {B : Hp} {W : World} (h : ∀ p ∈ B, p.2.holds W) : ∀ i r, lk B i = some r → r.holds W := fun i r hi => by
  induction B with
  | nil => cases hi
  | cons p B ih =>
    obtain ⟨j, s⟩ := p
    rw [lk_cons] at hi
    split at hi
    · cases hi
      exact h _ (List.mem_cons_self ..)
    · exact ih (fun q hq => h q (List.mem_cons_of_mem _ hq)) hi
theorem args_below {H : Type} {enc : TypeId × Value → H} (hl : laidOutB P = true) {W W' : World} (hb : Below W.heap.size W W') : ∀ {ts : List TypeId} {vs : List Value} {ds : List (DataW H)} {ps : List MemPlace}, (ts.all fun t => P.readableRec t && decide (t < P.types.size)) = true → DataW.TrodAll enc P W 0 (fun _ => true) true ts vs ds ps → (∀ x ∈ ps, x.block < W.heap.size) →
    DataW.TrodAll enc P W' 0 (fun b => decide (b < W.heap.size)) true ts vs ds ps
  | [], vs, ds, ps, _, h, _ => by
    obtain ⟨rfl, rfl, rfl⟩ := trodAll_nil h
    exact rfl
  | t :: ts, vs, ds, ps, ht, h, hp => by
    obtain ⟨v, vs', d, ds', p, q, rfl, rfl, rfl, h1, h2⟩ := trodAll_cons h
    simp only [List.all_cons, Bool.and_eq_true, decide_eq_true_eq] at ht
    exact ⟨p, q, Below.trod hl ht.1.1 ht.1.2 h1 hb (fun x hx => hp x (List.mem_append_left _ hx)), args_below hl hb ht.2 h2 (fun x hx => hp x (List.mem_append_right _ hx)), rfl⟩
theorem row_post {f : Func} {s : ChangeSpec} {H : Type} {enc : TypeId × Value → H} {W W' : World} {args : Array Value} {ds gs : List (DataW H)} {before : List MemPlace} {L : List Res} {tb : TypeId} (hl : laidOutB P = true) (hv : s.vars = []) (hr : f.resultTypes = #[tb]) (hb : P.underlying tb = some .bool) (hrec : (f.params.toList.all fun t => P.readableRec t && decide (t < P.types.size)) = true)
    (hW : DataW.Whole enc P f.params.toList s.vars false W args.toList ds gs before) (hst : St W W' No L) (hs : gs = [] → (s.fn H (ds ++ gs)).results = [.lit (.bool true)] ∧ (s.fn H (ds ++ gs)).args = ds ∧ (s.fn H (ds ++ gs)).vars = []) : s.post enc P f false true false false W args (.bool true) W' := by
  have hlt := hW.lt
  obtain ⟨p, q, hA, hV, rfl, hfz, hnd⟩ := hW
  have hV' := hV
  rw [hv] at hV'
  obtain ⟨rfl, rfl⟩ := trodVars_none hV'
  obtain ⟨e1, e2, e3⟩ := hs rfl
  refine ⟨ds, [], p ++ [], [], p, [], ⟨p, [], hA, hV, rfl, hfz, hnd⟩, ?_, ?_, ?_, World.keptBut_mono (fun x hx => ⟨hx, .inr (.inl ?_)⟩) (hst.kept (· ∈ p ++ [])), fun h => by cases h⟩
  · rw [e1, hr]
    exact trodAll_mk1 (shut_bool hb true)
  · rw [e2]
    exact args_below hl hst.below hrec hA (fun x hx => hlt x (List.mem_append_left _ hx))
  · rw [e3, hv]
    exact rfl
  · simpa using hx
end
end HL
end Go.Proofs.YtehhnfpfefccaaaGreat
/- TreeShapes: called in whatever memory, it returns true. No condition. -/



set_option linter.unusedVariables false
set_option linter.unusedSimpArgs false
namespace Go.Proofs.YtehhnfpfefccaaaGreat
open Go Go.RowKit HL Go.ChangeShapes Go.WideShapes Go.ChangeAt
namespace TreeShapes
theorem own : ownKnob Tryz.prog.godebug = none := by kernel_rfl
set_option maxRecDepth 100000 in
theorem lifted (os : Os) (started : os.Started) (H : Type) (enc : TypeId × Value → H) :
    ReturnsInHanded {} Tryz.checked os 3 .any (Rows.treeShapesSpec.pre6 enc Tryz.prog Tryz.f3 Rows.treeShapesRow.domain false) (Rows.treeShapesSpec.post enc Tryz.prog Tryz.f3 false true false false) := by
  refine returnsInHanded_of_change (C := Tryz.checked) own started (by kernel_rfl) Tryz.func3
    (ChangeSpec.witness6 (enc := enc) (C := Tryz.checked) false ⟨#[], #[], []⟩ 8 (by kernel_rfl) (by kernel_rfl) (by kernel_rfl) (by kernel_rfl)) ?_
  intro W base args ds gs before hval0 hW hcnd _
  have hW' := hW
  obtain ⟨p, q, hA0, hV, rfl, hfz, hnd⟩ := hW
  have hA : DataW.TrodAll enc Tryz.prog W 0 (fun _ => true) true Tryz.f3.params.toList args.toList ds p := hA0
  rw [Tryz.params3] at hA
  obtain ⟨hargs, rfl, rfl⟩ := trodAll_nil hA
  obtain rfl : args = #[] := by cases args; simp_all
  obtain ⟨rfl, rfl⟩ := trodVars_none hV
  refine (shapes_spec W (lk_all (by simp)) (by simp [live]) (by simp [live]) (by simp [live])).mono fun e W' ⟨o, L, he, ho, hst⟩ => ?_
  obtain ⟨rfl, rfl⟩ := ho
  subst he
  exact ⟨_, rfl, row_post (by kernel_rfl) rfl rfl Tryz.underlying4 (by kernel_rfl) hW' (hst.noM fun _ h => by obtain ⟨_, h, _⟩ := h; simp [live] at h) fun _ => ⟨rfl, rfl, rfl⟩⟩
theorem proved : Rows.TreeShapesSaid :=
  OpenClaim.holds_of_wide 3 Tryz.f3 rfl rfl rfl rfl rfl rfl rfl ⟨rfl, rfl, rfl, rfl, rfl⟩ rfl rfl rfl rfl rfl (by kernel_rfl) Tryz.func3 (by kernel_rfl)
    (of_decide_eq_true (by kernel_rfl)) (by unfold Func.isWrapper; first | (rw [if_pos (by decide +kernel)]; kernel_rfl) | (rw [if_neg (by decide +kernel)]; exact ⟨rfl, rfl⟩))
    (fun os started H enc _ => lifted os started H enc)
end TreeShapes
end Go.Proofs.YtehhnfpfefccaaaGreat
