/- ValueTells: for any two bundles, any policy, any name: true. Upto form (what is read is of bulk at most 1048576). -/
import Derived.Test.YtlnckcgbpilmdaaGreatZ6
import Derived.Test.YtlnckcgbpilmdaaGreatZ1
import Derived.WideKeyArr2
import Derived.OpenShut
import Derived.ChangeSame
import Derived.WalkKit
import Derived.ProofKit
import Derived.Test.YtlnckcgbpilmdaaGreatZ2
import Derived.Test.YtlnckcgbpilmdaaGreatRows
import Derived.ChangeArms
import Derived.Carry
import Derived.JoinedCond
/- Lists that lie apart: totals. -/

set_option linter.unusedVariables false
set_option linter.unusedSimpArgs false
set_option maxRecDepth 100000
set_option maxHeartbeats 8000000
namespace Go.Proofs.YtlnckcgbpilmdaaGreat
open Go Go.RowKit HL
instance : ElT Tryz.prog 36 (hdEn TotalP 51) := ⟨⟩
theorem flatTotals_spec (A0 : Option Addr) (c0 : Nat) (ss : List (Hd TotalP)) (hm : ss.length ≤ 1000) (hln : ∀ s ∈ ss, s.l.length ≤ 1048576) :
    CSpec Tryz.prog 120 [.one (.sl 0 A0 ss.length c0)] [] [(0, Res.rows A0 c0 36 (hdEn TotalP 51) ss), (50, Res.bag (ss.map (Hd.res 75 totalEn)))] fun o L => o = .ret (vb true) ∧ L = [] := by
  refine v_enter Tryz.func120 (h := fun w0 => ?_)
  refine v_code [] (hk := ?_)
  refine k_res 50 (Res.bag (ss.mapIdx (F1 75 totalEn mkTt 0))) rfl (by show Res.bag _ = Res.bag _; rw [map_F1 (m := mkTt)]) ?_
  refine v_loop (fun m E H => ∃ (k : Nat), E = [(3, vn k)] ∧ H = [(50, Res.bag (ss.mapIdx (F1 75 totalEn mkTt k)))] ∧ m = ss.length - k ∧ k ≤ ss.length) [0, 2, 5, 6, 7, 8, 9, 10, 11, 12, 13, 14, 15, 40, 41, 42, 43, 44, 45, 46, 47, 48, 49, 50, 51, 52, 53, 54, 55, 56, 57, 58, 59, 60, 61, 62, 63, 64, 65, 66, 67, 68, 69, 70, 71, 72, 73, 74, 75, 76, 77, 78, 79, 80, 81, 82, 83, 84, 85, 86, 87, 88, 89, 90, 91, 92, 93, 94, 95, 96, 97, 98, 99, 100, 101, 102, 103, 104, 105, 106, 107, 108, 109, 110, 111, 112, 113, 114, 115, 116, 117, 118, 119, 120, 121, 122, 123, 124, 125, 126, 127, 128, 129, 130, 131, 132, 133, 134, 135, 136, 137, 138, 139, 140, 141, 142, 143, 144, 145, 146, 147, 148, 149, 150, 151, 152, 153, 154, 155, 156, 157, 158, 159, 160, 161, 162, 163, 164, 165, 166, 167, 168, 169, 170, 171, 172, 173, 174, 175, 176, 177, 178, 179, 180, 181, 182, 183, 184, 185, 186, 187, 188, 189, 190, 191, 192] (ss.length) ([(3, vn 0)]) ([(50, Res.bag (ss.mapIdx (F1 75 totalEn mkTt 0)))]) (h0 := ⟨0, rfl, rfl, by omega, by omega⟩) (hr := ?_)
  rintro _ _ _ ⟨k, rfl, rfl, hmk, hk⟩
  refine v_code [] (hk := ?_)
  first | refine c_ifd rfl (fun h19 => ?_) (fun h19 => ?_) | refine c_ifn rfl (fun h19 => ?_) (fun h19 => ?_) | refine c_if rfl (fun h19 => ?_) (fun h19 => ?_)
  · have hs := getD_some (d := default) h19
    have hsl := hln _ (getD_mem (d := default) h19)
    refine k_out 50 51 k (r := Res.rows (ss.getD k default).A (ss.getD k default).c 75 totalEn (ss.getD k default).l) (mapIdx_get hs (by unfold F1; rw [if_neg (Nat.lt_irrefl k)])) rfl ?_
    refine v_code [] (hk := ?_)
    refine v_loop (fun m E H => ∃ (i : Nat), E = [(4, vn i)] ∧ H = [(51, Res.rows (ss.getD k default).A (ss.getD k default).c 75 totalEn (mkL mkTt k i ++ (ss.getD k default).l.drop i))] ∧ m = (ss.getD k default).l.length - i ∧ i ≤ (ss.getD k default).l.length) [0, 2, 3, 5, 6, 7, 8, 9, 10, 11, 12, 13, 14, 15, 16, 17, 18, 19, 20, 21, 40, 41, 42, 43, 44, 45, 46, 47, 48, 49, 50, 51, 52, 53, 54, 55, 56, 57, 58, 59, 60, 61, 62, 63, 64, 65, 66, 67, 68, 69, 70, 71, 72, 73, 74, 75, 76, 77, 78, 79, 80, 81, 82, 83, 84, 85, 86, 87, 88, 89, 90, 91, 92, 93, 94, 95, 96, 97, 98, 99, 100, 101, 102, 103, 104, 105, 106, 107, 108, 109, 110, 111, 112, 113, 114, 115, 116, 117, 118, 119, 120, 121, 122, 123, 124, 125, 126, 127, 128, 129, 130, 131, 132, 133, 134, 135, 136, 137, 138, 139, 140, 141, 142, 143, 144, 145, 146, 147, 148, 149, 150, 151, 152, 153, 154, 155, 156, 157, 158, 159, 160, 161, 162, 163, 164, 165, 166, 167, 168, 169, 170, 171, 172, 173, 174, 175, 176, 177, 178, 179, 180, 181, 182, 183, 184, 185, 186, 187, 188, 189, 190, 191, 192] ((ss.getD k default).l.length) ([(4, vn 0)]) ([(51, Res.rows (ss.getD k default).A (ss.getD k default).c 75 totalEn (mkL mkTt k 0 ++ (ss.getD k default).l.drop 0))]) (h0 := ⟨0, rfl, rfl, by omega, by omega⟩) (hr := ?_)
    rintro _ _ _ ⟨i, rfl, rfl, hmi, hi⟩
    refine v_code [] (hk := ?_)
    first | refine c_ifd rfl (fun h28 => ?_) (fun h28 => ?_) | refine c_ifn rfl (fun h28 => ?_) (fun h28 => ?_) | refine c_if rfl (fun h28 => ?_) (fun h28 => ?_)
    · have hml : (ss.getD k default).l.length = (mkL mkTt k i ++ (ss.getD k default).l.drop i).length := by rw [List.length_append, mkL_len, List.length_drop]; omega
      refine v_code [] (hk := ?_)
      refine v_draw (.q 0 (.q 1 (.q 2 (.q 3 (.q 4 (.q 5 (.q 6 (.s 7 (.s 8 (.s 9 .nil)))))))))) [0] (hm := by kernel_rfl) (hs := by kernel_rfl) (hk := by kernel_rfl) (h := ?_)
      refine v_sch [] (hk := ?_)
      refine v_callS rfl 21900 [] (markTotal_spec k i) Tryz.func127 (h := ?_)
      rintro _ _ (⟨rfl, rfl⟩)
      refine ⟨cov_of (by repeat (first | exact trivial | refine ⟨rfl, ?_⟩)), ?_⟩
      refine v_sch [] (hk := ?_)
      refine k_valC 34 (vsl 51 (ss.getD k default).A (ss.getD k default).l.length (ss.getD k default).c) rfl rfl ?_
      refine v_sch [] (hk := ?_)
      refine s_do1 rfl (d_storeT (total0) (u' := mkTt k i)) ?_
      refine v_sch [] (hk := ?_)
      refine k_res 51 (Res.rows (ss.getD k default).A (ss.getD k default).c 75 totalEn (mkL mkTt k (i + 1) ++ (ss.getD k default).l.drop (i + 1))) rfl (by rw [mkL_set (by omega)] <;> rfl) ?_
      refine v_again ((ss.getD k default).l.length - (i + 1)) ⟨i + 1, rfl, rfl, by omega, by omega⟩
    · refine v_code [] (hk := ?_)
      have hie : i = (ss.getD k default).l.length := by omega
      refine k_in 50 51 k (ss.mapIdx (F1 75 totalEn mkTt (k + 1))) (by rw [List.length_mapIdx]; omega) (mapIdx_set hs (by unfold F1; rw [if_pos (Nat.lt_succ_self k), hie, List.drop_length, List.append_nil] <;> rfl) F1_ne) rfl rfl ?_
      refine v_again (ss.length - (k + 1)) ⟨k + 1, rfl, rfl, by omega, by omega⟩
  · refine v_code [] (hk := ?_)
    refine k_val 41 (vi .i64 (ss.length : Int)) rfl rfl ?_
    refine l_do (d_makeSlice (E := hdEn TotalP 51) (hE := ⟨⟩) (m := ss.length)) (fun g42 => ?_)
    refine v_ops [] (hk := ?_)
    refine k_res 50 (Res.bag (ss.mapIdx (F2 75 totalEn mkTt (List.replicate ss.length default) 0))) rfl (by show Res.bag _ = Res.bag _; rw [F1_F2 (by omega)]) ?_
    refine v_loop (fun m E H => ∃ (k : Nat) (gl : List (Hd TotalP)), E = [(6, vn k)] ∧ H = [(10042, Res.rows (some ⟨g42, 0, none⟩) ss.length 36 (hdEn TotalP 51) gl), (50, Res.bag (ss.mapIdx (F2 75 totalEn mkTt gl k)))] ∧ m = ss.length - k ∧ k ≤ ss.length ∧ (gl.length = ss.length) ∧ (∀ j, j < k → ∀ s, ss[j]? = some s → (gl.getD j default).l = mkL mkTt j (s.l.length + 64))) [0, 2, 5, 9, 10, 11, 12, 13, 14, 15, 73, 74, 75, 76, 77, 78, 79, 80, 81, 82, 83, 84, 85, 86, 87, 88, 89, 90, 91, 92, 93, 94, 95, 96, 97, 98, 99, 100, 101, 102, 103, 104, 105, 106, 107, 108, 109, 110, 111, 112, 113, 114, 115, 116, 117, 118, 119, 120, 121, 122, 123, 124, 125, 126, 127, 128, 129, 130, 131, 132, 133, 134, 135, 136, 137, 138, 139, 140, 141, 142, 143, 144, 145, 146, 147, 148, 149, 150, 151, 152, 153, 154, 155, 156, 157, 158, 159, 160, 161, 162, 163, 164, 165, 166, 167, 168, 169, 170, 171, 172, 173, 174, 175, 176, 177, 178, 179, 180, 181, 182, 183, 184, 185, 186, 187, 188, 189, 190, 191, 192] (ss.length) ([(6, vn 0)]) ([(10042, Res.rows (some ⟨g42, 0, none⟩) ss.length 36 (hdEn TotalP 51) (List.replicate ss.length default)), (50, Res.bag (ss.mapIdx (F2 75 totalEn mkTt (List.replicate ss.length default) 0)))]) (h0 := ⟨0, List.replicate ss.length default, rfl, rfl, by omega, by omega, by simp, (fun j hj => absurd hj (Nat.not_lt_zero j))⟩) (hr := ?_)
    rintro _ _ _ ⟨k, gl, rfl, rfl, hmk, hk, hik0, hik1⟩
    refine v_code [] (hk := ?_)
    first | refine c_ifd rfl (fun h46 => ?_) (fun h46 => ?_) | refine c_ifn rfl (fun h46 => ?_) (fun h46 => ?_) | refine c_if rfl (fun h46 => ?_) (fun h46 => ?_)
    · have hs := getD_some (d := default) h46
      have hsl := hln _ (getD_mem (d := default) h46)
      refine k_out 50 51 k (r := Res.rows (ss.getD k default).A (ss.getD k default).c 75 totalEn (mkL mkTt k (ss.getD k default).l.length)) (mapIdx_get hs (by unfold F2; rw [if_neg (Nat.lt_irrefl k)])) rfl ?_
      refine k_conv 51 (Res.two 75 totalEn (ss.getD k default).A (ss.getD k default).c (mkL mkTt k (ss.getD k default).l.length) (ss.getD k default).A (ss.getD k default).c (mkL mkTt k (ss.getD k default).l.length)) rfl (fun w h => two_of h) (fun b hb => by rw [fp_rows]; exact (fp_two.1 hb).elim id id) ?_
      refine v_code [] (hk := ?_)
      refine v_loop (fun m E H => ∃ (i : Nat) (A7 : Option Addr) (c7 : Nat), E = [(8, vn i), (7, vsl 51 A7 ((ss.getD k default).l.length + i) c7)] ∧ H = [(51, Res.two 75 totalEn (ss.getD k default).A (ss.getD k default).c (mkL mkTt k (ss.getD k default).l.length) A7 c7 (mkL mkTt k ((ss.getD k default).l.length + i)))] ∧ m = 64 - i ∧ i ≤ 64) [0, 2, 5, 6, 9, 10, 11, 12, 13, 14, 15, 43, 44, 45, 46, 47, 48, 49, 50, 51, 52, 69, 70, 71, 72, 73, 74, 75, 76, 77, 78, 79, 80, 81, 82, 83, 84, 85, 86, 87, 88, 89, 90, 91, 92, 93, 94, 95, 96, 97, 98, 99, 100, 101, 102, 103, 104, 105, 106, 107, 108, 109, 110, 111, 112, 113, 114, 115, 116, 117, 118, 119, 120, 121, 122, 123, 124, 125, 126, 127, 128, 129, 130, 131, 132, 133, 134, 135, 136, 137, 138, 139, 140, 141, 142, 143, 144, 145, 146, 147, 148, 149, 150, 151, 152, 153, 154, 155, 156, 157, 158, 159, 160, 161, 162, 163, 164, 165, 166, 167, 168, 169, 170, 171, 172, 173, 174, 175, 176, 177, 178, 179, 180, 181, 182, 183, 184, 185, 186, 187, 188, 189, 190, 191, 192] (64) ([(8, vn 0), (7, vsl 51 ((ss.getD k default).A) ((ss.getD k default).l.length + 0) ((ss.getD k default).c))]) ([(51, Res.two 75 totalEn (ss.getD k default).A (ss.getD k default).c (mkL mkTt k (ss.getD k default).l.length) ((ss.getD k default).A) ((ss.getD k default).c) (mkL mkTt k ((ss.getD k default).l.length + 0)))]) (h0 := ⟨0, (ss.getD k default).A, (ss.getD k default).c, rfl, rfl, by omega, by omega⟩) (hr := ?_)
      rintro _ _ _ ⟨i, A7, c7, rfl, rfl, hmi, hi⟩
      refine v_code [] (hk := ?_)
      first | refine c_ifd rfl (fun h54 => ?_) (fun h54 => ?_) | refine c_ifn rfl (fun h54 => ?_) (fun h54 => ?_) | refine c_if rfl (fun h54 => ?_) (fun h54 => ?_)
      · have hml : (ss.getD k default).l.length + i = (mkL mkTt k ((ss.getD k default).l.length + i)).length := mkL_len.symm
        refine v_code [] (hk := ?_)
        refine v_call 23300 [] (markTotal_spec k (((ss.getD k default).l.length + i : Nat) : Int)) Tryz.func127 (h := ?_)
        rintro _ _ (⟨rfl, rfl⟩)
        refine l_do (d_bslice [mkTt k ((ss.getD k default).l.length + i)]) (fun B67 => ?_)
        refine l_do d_append2 (fun p68 => ?_)
        refine v_ops [] (hk := ?_)
        refine k_val 7 (vsl 51 p68.1 ((ss.getD k default).l.length + (i + 1)) p68.2) rfl (by rw [List.length_append, mkL_len] <;> rfl) ?_
        refine k_res 51 (Res.two 75 totalEn (ss.getD k default).A (ss.getD k default).c (mkL mkTt k (ss.getD k default).l.length) p68.1 p68.2 (mkL mkTt k ((ss.getD k default).l.length + (i + 1)))) rfl (by rw [show (ss.getD k default).l.length + (i + 1) = ((ss.getD k default).l.length + i) + 1 from rfl, mkL_succ] <;> rfl) ?_
        refine v_again (64 - (i + 1)) ⟨i + 1, p68.1, p68.2, rfl, rfl, by omega, by omega⟩
      · obtain rfl : i = 64 := by omega
        refine v_code [] (hk := ?_)
        refine k_val 71 (vsl 51 A7 (mkL mkTt k ((ss.getD k default).l.length + 64)).length c7) rfl (by rw [mkL_len] <;> rfl) ?_
        refine l_do1 (d_storeT (default) (u' := (⟨A7, c7, mkL mkTt k ((ss.getD k default).l.length + 64)⟩ : Hd TotalP))) ?_
        refine v_ops [] (hk := ?_)
        refine k_in 50 51 k (ss.mapIdx (F2 75 totalEn mkTt (gl.set k (⟨A7, c7, mkL mkTt k ((ss.getD k default).l.length + 64)⟩ : Hd TotalP)) (k + 1))) (by rw [List.length_mapIdx]; omega) (mapIdx_set hs (by unfold F2 F3; rw [if_pos (by omega), hdD_set (by omega)] <;> rfl) (F2_ne (by omega))) rfl rfl ?_
        refine v_again (ss.length - (k + 1)) ⟨k + 1, gl.set k (⟨A7, c7, mkL mkTt k ((ss.getD k default).l.length + 64)⟩ : Hd TotalP), rfl, rfl, by omega, by omega, by rw [List.length_set, hik0], (fun j hj s2 hs2 => by by_cases e : j = k; (subst e; rw [hdD_set (by omega), opt_eq hs2 hs]); (rw [hdD_ne e]; exact hik1 j (by omega) s2 hs2))⟩
    · refine v_code [] (hk := ?_)
      refine k_ren 50 51 rfl ?_
      refine k_res 51 (Res.bag (ss.mapIdx (F3 75 totalEn mkTt gl))) rfl (by show Res.bag _ = Res.bag _; rw [F2_F3 (by omega)]) ?_
      have hgl : ∀ j s, ss[j]? = some s → (gl.getD j default).l = mkL mkTt j (s.l.length + 64) := fun j s hj => hik1 j (by have := (List.getElem?_eq_some_iff.1 hj).1; omega) s hj
      refine v_loop (fun m E H => ∃ (k : Nat), E = [(9, vn k)] ∧ H = [] ∧ m = ss.length - k ∧ k ≤ ss.length) [0, 5, 11, 12, 13, 14, 15, 123, 124, 125, 126, 127, 128, 129, 130, 131, 132, 133, 134, 135, 136, 137, 138, 139, 140, 141, 142, 143, 144, 145, 146, 147, 148, 149, 150, 151, 152, 153, 154, 155, 156, 157, 158, 159, 160, 161, 162, 163, 164, 165, 166, 167, 168, 169, 170, 171, 172, 173, 174, 175, 176, 177, 178, 179, 180, 181, 182, 183, 184, 185, 186, 187, 188, 189, 190, 191, 192] (ss.length) ([(9, vn 0)]) ([]) (h0 := ⟨0, rfl, rfl, by omega, by omega⟩) (hr := ?_)
      rintro _ _ _ ⟨k, rfl, rfl, hmk, hk⟩
      refine v_code [] (hk := ?_)
      first | refine c_ifd rfl (fun h76 => ?_) (fun h76 => ?_) | refine c_ifn rfl (fun h76 => ?_) (fun h76 => ?_) | refine c_if rfl (fun h76 => ?_) (fun h76 => ?_)
      · have hs := getD_some (d := default) h76
        have hsl := hln _ (getD_mem (d := default) h76)
        have hmk : (ss.getD k default).l.length = (mkL mkTt k (ss.getD k default).l.length).length := mkL_len.symm
        have ht := getD_some (l := gl) (k := k) (d := default) (by omega)
        have hl2 : (gl.getD k default).l = mkL mkTt k ((ss.getD k default).l.length + 64) := hgl k _ hs
        have hll : (gl.getD k default).l.length = (ss.getD k default).l.length + 64 := by rw [hl2, mkL_len]
        have hv1 := view_F3a (e := 75) (E := totalEn) (m := mkTt) (gl := gl) hs
        have hv2 := view_F3b (e := 75) (E := totalEn) (m := mkTt) hs ht
        refine v_code [] (hk := ?_)
        refine v_loop (fun m E H => ∃ (i : Nat), E = [(10, vn i)] ∧ H = [] ∧ m = (gl.getD k default).l.length - i ∧ i ≤ (gl.getD k default).l.length) [0, 5, 9, 11, 12, 13, 14, 15, 73, 74, 75, 76, 77, 78, 123, 124, 125, 126, 127, 128, 129, 130, 131, 132, 133, 134, 135, 136, 137, 138, 139, 140, 141, 142, 143, 144, 145, 146, 147, 148, 149, 150, 151, 152, 153, 154, 155, 156, 157, 158, 159, 160, 161, 162, 163, 164, 165, 166, 167, 168, 169, 170, 171, 172, 173, 174, 175, 176, 177, 178, 179, 180, 181, 182, 183, 184, 185, 186, 187, 188, 189, 190, 191, 192] ((gl.getD k default).l.length) ([(10, vn 0)]) ([]) (h0 := ⟨0, rfl, rfl, by omega, by omega⟩) (hr := ?_)
        rintro _ _ _ ⟨i, rfl, rfl, hmi, hi⟩
        refine v_code [] (hk := ?_)
        first | refine c_ifd rfl (fun h85 => ?_) (fun h85 => ?_) | refine c_ifn rfl (fun h85 => ?_) (fun h85 => ?_) | refine c_if rfl (fun h85 => ?_) (fun h85 => ?_)
        · refine v_code [] (hk := ?_)
          refine v_draw (.q 0 (.q 1 (.q 2 (.q 3 (.q 4 (.q 5 (.q 6 (.q 7 (.q 8 (.s 9 (.q 10 (.q 11 (.q 12 (.q 13 (.q 14 (.q 15 (.q 16 (.q 17 (.q 18 (.q 19 (.q 20 (.q 21 (.q 22 (.q 23 (.q 24 (.q 25 (.q 26 (.q 27 (.q 28 (.q 29 (.s 30 (.q 31 (.q 32 (.q 33 (.q 34 .nil))))))))))))))))))))))))))))))))))) [0, 51, 10042] (hm := by kernel_rfl) (hs := by kernel_rfl) (hk := by kernel_rfl) (h := ?_)
          refine v_sch [] (hk := ?_)
          refine k_valC 91 (vsl 51 (gl.getD k default).A (gl.getD k default).l.length (gl.getD k default).c) rfl rfl ?_
          refine k_valC 92 (vint i) rfl rfl ?_
          refine q_rd rfl (r_indexT (hj := by omega)) ?_
          refine q_rd rfl (r_loadT (hj := by omega)) ?_
          refine v_sch [] (hk := ?_)
          refine v_callS rfl 24850 [] (markTotal_spec k i) Tryz.func127 (h := ?_)
          rintro _ _ (⟨rfl, rfl⟩)
          refine ⟨cov_of (by repeat (first | exact trivial | refine ⟨rfl, ?_⟩)), ?_⟩
          refine q_rd rfl (r_eqSt (u := (gl.getD k default).l.getD i total0) (v := mkTt k i)) ?_
          refine v_knowC 98 true rfl (decide_eq_true (by rw [hl2]; exact mkL_getD (by omega))) ?_
          refine v_sch [] (hk := ?_)
          refine k_valC 112 (.cond _ (.one (.sl 51 (ss.getD k default).A (ss.getD k default).l.length (ss.getD k default).c))) rfl rfl ?_
          refine k_valC 113 (.cond _ (.one (.i .i64 i))) rfl rfl ?_
          refine q_rdG rfl [112, 113] ⟨_, _, ⟨_, .inl ⟨rfl, rfl⟩⟩, ⟨_, _, ⟨_, .inl ⟨rfl, rfl⟩⟩, rfl, rfl⟩, rfl⟩ (fun hg => (r_indexT (hj := by have := of_decide_eq_true hg; omega))) ?_
          refine q_rdG rfl [114] ⟨_, _, ⟨_, .inl ⟨rfl, rfl⟩⟩, rfl, rfl⟩ (fun hg => (r_loadT (hj := by have := of_decide_eq_true hg; omega))) ?_
          refine v_sch [] (hk := ?_)
          refine s_callG rfl [] [116, 117] ⟨_, _, ⟨_, .inl ⟨rfl, rfl⟩⟩, ⟨_, _, ⟨_, .inl ⟨rfl, rfl⟩⟩, rfl, rfl⟩, rfl⟩ (fun hg => markTotal_spec k i) Tryz.func127 (h := ?_)
          refine q_rdG rfl [115, 118] ⟨_, _, ⟨_, .inl ⟨rfl, rfl⟩⟩, ⟨_, _, ⟨_, .inl ⟨rfl, rfl⟩⟩, rfl, rfl⟩, rfl⟩ (fun hg => (r_eqSt (u := (mkL mkTt k (ss.getD k default).l.length).getD i total0) (v := mkTt k i))) ?_
          refine v_sch [] (hk := ?_)
          first | refine c_ifd rfl (fun h122 => ?_) (fun h122 => ?_) | refine c_ifn rfl (fun h122 => ?_) (fun h122 => ?_) | refine c_if rfl (fun h122 => ?_) (fun h122 => ?_)
          · exact flat_no h122 (fun hi2 => decide_eq_true (mkL_getD hi2))
          · refine v_code [] (hk := ?_)
            refine v_again ((gl.getD k default).l.length - (i + 1)) ⟨i + 1, rfl, rfl, by omega, by omega⟩
        · refine v_code [] (hk := ?_)
          refine v_again (ss.length - (k + 1)) ⟨k + 1, rfl, rfl, by omega, by omega⟩
      · refine v_code [] (hk := ?_)
        refine k_ren 51 50 rfl ?_
        refine v_loop (fun m E H => ∃ (k : Nat) (gl2 : List (Hd TotalP)), E = [(11, vn k)] ∧ H = [(10042, Res.rows (some ⟨g42, 0, none⟩) ss.length 36 (hdEn TotalP 51) gl2), (50, Res.bag (ss.mapIdx (F3 75 totalEn mkTt gl2)))] ∧ m = ss.length - k ∧ k ≤ ss.length ∧ (gl2.length = ss.length) ∧ (∀ j, j < k → ∀ s, ss[j]? = some s → mkL mkTt j s.l.length <+: (gl2.getD j default).l)) [0, 2, 5, 14, 15, 152, 153, 154, 155, 156, 157, 158, 159, 160, 161, 162, 163, 164, 165, 166, 167, 168, 169, 170, 171, 172, 173, 174, 175, 176, 177, 178, 179, 180, 181, 182, 183, 184, 185, 186, 187, 188, 189, 190, 191, 192] (ss.length) ([(11, vn 0)]) ([(10042, Res.rows (some ⟨g42, 0, none⟩) ss.length 36 (hdEn TotalP 51) (gl)), (50, Res.bag (ss.mapIdx (F3 75 totalEn mkTt (gl))))]) (h0 := ⟨0, gl, rfl, rfl, by omega, by omega, hik0, (fun j hj => absurd hj (Nat.not_lt_zero j))⟩) (hr := ?_)
        rintro _ _ _ ⟨k, gl2, rfl, rfl, hmk, hk, hg2, hp2⟩
        refine v_code [] (hk := ?_)
        first | refine c_ifd rfl (fun h126 => ?_) (fun h126 => ?_) | refine c_ifn rfl (fun h126 => ?_) (fun h126 => ?_) | refine c_if rfl (fun h126 => ?_) (fun h126 => ?_)
        · have hs := getD_some (d := default) h126
          have hsl := hln _ (getD_mem (d := default) h126)
          have hmk : (ss.getD k default).l.length = (mkL mkTt k (ss.getD k default).l.length).length := mkL_len.symm
          refine k_out 50 51 k (r := F3 75 totalEn mkTt gl2 k (ss.getD k default)) (mapIdx_get hs rfl) rfl ?_
          refine k_conv 51 (Res.two 75 totalEn (ss.getD k default).A (ss.getD k default).c (mkL mkTt k (ss.getD k default).l.length) (ss.getD k default).A (ss.getD k default).c (mkL mkTt k (ss.getD k default).l.length)) rfl (fun w h => two_of (two_rows h)) (fun b hb => (fp_two.1 hb).elim .inl .inl) ?_
          refine v_code [] (hk := ?_)
          refine l_do (d_makeSlice (m := 64)) (fun g129 => ?_)
          refine v_ops [] (hk := ?_)
          refine v_loop (fun m E H => ∃ (i : Nat), E = [(13, vn i)] ∧ H = [(10129, Res.rows (some ⟨g129, 0, none⟩) 64 75 totalEn (mkL mkTt (k + ss.length) i ++ (List.replicate 64 total0).drop i))] ∧ m = 64 - i ∧ i ≤ 64) [0, 2, 5, 11, 12, 14, 15, 123, 124, 125, 126, 127, 128, 129, 143, 144, 145, 146, 147, 148, 149, 150, 151, 152, 153, 154, 155, 156, 157, 158, 159, 160, 161, 162, 163, 164, 165, 166, 167, 168, 169, 170, 171, 172, 173, 174, 175, 176, 177, 178, 179, 180, 181, 182, 183, 184, 185, 186, 187, 188, 189, 190, 191, 192] (64) ([(13, vn 0)]) ([(10129, Res.rows (some ⟨g129, 0, none⟩) 64 75 totalEn (mkL mkTt (k + ss.length) 0 ++ (List.replicate 64 total0).drop 0))]) (h0 := ⟨0, rfl, rfl, by omega, by omega⟩) (hr := ?_)
          rintro _ _ _ ⟨i, rfl, rfl, hmi, hi⟩
          refine v_code [] (hk := ?_)
          first | refine c_ifd rfl (fun h131 => ?_) (fun h131 => ?_) | refine c_ifn rfl (fun h131 => ?_) (fun h131 => ?_) | refine c_if rfl (fun h131 => ?_) (fun h131 => ?_)
          · have hm7 : 64 = (mkL mkTt (k + ss.length) i ++ (List.replicate 64 total0).drop i).length := by rw [List.length_append, mkL_len, List.length_drop, List.length_replicate]; omega
            refine v_code [] (hk := ?_)
            refine v_call 27050 [] (markTotal_spec ((k + ss.length : Nat) : Int) i) Tryz.func127 (h := ?_)
            rintro _ _ (⟨rfl, rfl⟩)
            refine v_ops [] (hk := ?_)
            refine l_do1 (d_storeT (total0) (u' := mkTt (k + ss.length) i)) ?_
            refine v_ops [] (hk := ?_)
            refine k_res 10129 (Res.rows (some ⟨g129, 0, none⟩) 64 75 totalEn (mkL mkTt (k + ss.length) (i + 1) ++ (List.replicate 64 total0).drop (i + 1))) rfl (by rw [mkL_set (by rw [List.length_replicate]; omega)] <;> rfl) ?_
            refine v_again (64 - (i + 1)) ⟨i + 1, rfl, rfl, by omega, by omega⟩
          · obtain rfl : i = 64 := by omega
            have hm64 : 64 = (mkL mkTt (k + ss.length) 64).length := mkL_len.symm
            have hm64b : (mkL mkTt (k + ss.length) 64).length ≤ 1000 := by rw [mkL_len]; decide
            refine k_res 10129 (Res.rows (some ⟨g129, 0, none⟩) 64 75 totalEn (mkL mkTt (k + ss.length) 64)) rfl (by rw [show (List.replicate 64 total0).drop 64 = [] from rfl, List.append_nil] <;> rfl) ?_
            refine v_code [] (hk := ?_)
            refine k_val 148 (vsl 51 (ss.getD k default).A (ss.getD k default).l.length (ss.getD k default).c) rfl rfl ?_
            refine l_do (d_append2 (hb := by simp only [mkL_len]; omega)) (fun p150 => ?_)
            refine v_ops [] (hk := ?_)
            refine l_do1 (d_storeT (default) (u' := (⟨p150.1, p150.2, mkL mkTt k (ss.getD k default).l.length ++ mkL mkTt (k + ss.length) 64⟩ : Hd TotalP))) ?_
            refine v_ops [] (hk := ?_)
            refine k_in 50 51 k (ss.mapIdx (F3 75 totalEn mkTt (gl2.set k (⟨p150.1, p150.2, mkL mkTt k (ss.getD k default).l.length ++ mkL mkTt (k + ss.length) 64⟩ : Hd TotalP)))) (by rw [List.length_mapIdx]; omega) (mapIdx_set hs (by unfold F3; rw [hdD_set (by omega)] <;> rfl) F3_ne) rfl rfl ?_
            refine v_again (ss.length - (k + 1)) ⟨k + 1, gl2.set k (⟨p150.1, p150.2, mkL mkTt k (ss.getD k default).l.length ++ mkL mkTt (k + ss.length) 64⟩ : Hd TotalP), rfl, rfl, by omega, by omega, by rw [List.length_set, hg2], (fun j hj s2 hs2 => by by_cases e : j = k; (subst e; rw [hdD_set (by omega), opt_eq hs2 hs]; exact List.prefix_append _ _); (rw [hdD_ne e]; exact hp2 j (by omega) s2 hs2))⟩
        · refine v_code [] (hk := ?_)
          refine k_ren 50 51 rfl ?_
          have hgl2 : ∀ j s, ss[j]? = some s → mkL mkTt j s.l.length <+: (gl2.getD j default).l := fun j s hj => hp2 j (by have := (List.getElem?_eq_some_iff.1 hj).1; omega) s hj
          refine v_loop (fun m E H => ∃ (k : Nat), E = [(14, vn k)] ∧ H = [] ∧ m = ss.length - k ∧ k ≤ ss.length) [0, 5] (ss.length) ([(14, vn 0)]) ([]) (h0 := ⟨0, rfl, rfl, by omega, by omega⟩) (hr := ?_)
          rintro _ _ _ ⟨k, rfl, rfl, hmk, hk⟩
          refine v_code [] (hk := ?_)
          first | refine c_ifd rfl (fun h155 => ?_) (fun h155 => ?_) | refine c_ifn rfl (fun h155 => ?_) (fun h155 => ?_) | refine c_if rfl (fun h155 => ?_) (fun h155 => ?_)
          · have hs := getD_some (d := default) h155
            have hsl := hln _ (getD_mem (d := default) h155)
            have hmk : (ss.getD k default).l.length = (mkL mkTt k (ss.getD k default).l.length).length := mkL_len.symm
            have ht := getD_some (l := gl2) (k := k) (d := default) (by omega)
            have hpre : mkL mkTt k (ss.getD k default).l.length <+: (gl2.getD k default).l := hgl2 k _ hs
            have htl : (ss.getD k default).l.length ≤ (gl2.getD k default).l.length := by have := hpre.length_le; rwa [mkL_len] at this
            have hv1 := view_F3a (e := 75) (E := totalEn) (m := mkTt) (gl := gl2) hs
            have hv2 := view_F3b (e := 75) (E := totalEn) (m := mkTt) hs ht
            refine v_code [] (hk := ?_)
            refine v_loop (fun m E H => ∃ (i : Nat), E = [(15, vn i)] ∧ H = [] ∧ m = (ss.getD k default).l.length - i ∧ i ≤ (ss.getD k default).l.length) [0, 5, 14, 152, 153, 154, 155, 156, 157] ((ss.getD k default).l.length) ([(15, vn 0)]) ([]) (h0 := ⟨0, rfl, rfl, by omega, by omega⟩) (hr := ?_)
            rintro _ _ _ ⟨i, rfl, rfl, hmi, hi⟩
            refine v_code [] (hk := ?_)
            first | refine c_ifd rfl (fun h164 => ?_) (fun h164 => ?_) | refine c_ifn rfl (fun h164 => ?_) (fun h164 => ?_) | refine c_if rfl (fun h164 => ?_) (fun h164 => ?_)
            · refine v_code [] (hk := ?_)
              refine v_draw (.q 0 (.q 1 (.q 2 (.q 3 (.q 4 (.q 5 (.q 6 (.q 7 (.q 8 (.s 9 (.q 10 (.q 11 (.q 12 (.q 13 (.q 14 (.q 15 (.q 16 (.q 17 (.q 18 (.q 19 (.q 20 (.q 21 (.s 22 (.q 23 (.q 24 (.q 25 .nil)))))))))))))))))))))))))) [0, 51, 10042] (hm := by kernel_rfl) (hs := by kernel_rfl) (hk := by kernel_rfl) (h := ?_)
              refine v_sch [] (hk := ?_)
              refine k_valC 170 (vsl 51 (ss.getD k default).A (ss.getD k default).l.length (ss.getD k default).c) rfl rfl ?_
              refine k_valC 171 (vint i) rfl rfl ?_
              refine q_rd rfl (r_indexT (hj := by omega)) ?_
              refine q_rd rfl (r_loadT (hj := by omega)) ?_
              refine v_sch [] (hk := ?_)
              refine v_callS rfl 28800 [] (markTotal_spec k i) Tryz.func127 (h := ?_)
              rintro _ _ (⟨rfl, rfl⟩)
              refine ⟨cov_of (by repeat (first | exact trivial | refine ⟨rfl, ?_⟩)), ?_⟩
              refine q_rd rfl (r_eqSt (u := (mkL mkTt k (ss.getD k default).l.length).getD i total0) (v := mkTt k i)) ?_
              refine v_knowC 177 true rfl (decide_eq_true (mkL_getD (by omega))) ?_
              refine v_sch [] (hk := ?_)
              refine k_valC 183 (vsl 51 (gl2.getD k default).A (gl2.getD k default).l.length (gl2.getD k default).c) rfl rfl ?_
              refine k_valC 184 (vint i) rfl rfl ?_
              refine k_valC 179 (vb false) rfl rfl ?_
              refine q_rd rfl (r_indexT (hj := by omega)) ?_
              refine q_rd rfl (r_loadT (hj := by omega)) ?_
              refine v_knowC 179 false rfl rfl ?_
              refine v_sch [] (hk := ?_)
              refine k_valC 179 (vb false) rfl rfl ?_
              refine v_callDS rfl 29450 [] (markTotal_spec k i) Tryz.func127 (hB := trivial) (h := ?_)
              rintro _ _ (⟨rfl, rfl⟩)
              refine ⟨cov_of (by repeat (first | exact trivial | refine ⟨rfl, ?_⟩)), ?_⟩
              refine q_rd rfl (r_eqSt (u := (gl2.getD k default).l.getD i total0) (v := mkTt k i)) ?_
              refine v_knowC 179 false rfl rfl ?_
              refine v_sch [] (hk := ?_)
              first | refine c_ifd rfl (fun h192 => ?_) (fun h192 => ?_) | refine c_ifn rfl (fun h192 => ?_) (fun h192 => ?_) | refine c_if rfl (fun h192 => ?_) (fun h192 => ?_)
              · exact absurd (mkL_pgetD hpre (by omega)) h192
              · refine v_code [] (hk := ?_)
                refine v_again ((ss.getD k default).l.length - (i + 1)) ⟨i + 1, rfl, rfl, by omega, by omega⟩
            · refine v_code [] (hk := ?_)
              refine v_again (ss.length - (k + 1)) ⟨k + 1, rfl, rfl, by omega, by omega⟩
          · refine v_code [] (hk := ?_)
            refine v_ret rfl [] (.cons (.tmp rfl) .nil) (h := ?_)
            exact ⟨rfl, rfl⟩
end Go.Proofs.YtlnckcgbpilmdaaGreat
/- Lists that lie apart: values. -/

set_option linter.unusedVariables false
set_option linter.unusedSimpArgs false
set_option maxRecDepth 100000
set_option maxHeartbeats 8000000
namespace Go.Proofs.YtlnckcgbpilmdaaGreat
open Go Go.RowKit HL
instance : ElT Tryz.prog 22 (hdEn ValueM 51) := ⟨⟩
theorem flatValues_spec (A0 : Option Addr) (c0 : Nat) (ss : List (Hd ValueM)) (hm : ss.length ≤ 1000) (hln : ∀ s ∈ ss, s.l.length ≤ 1048576) :
    CSpec Tryz.prog 108 [.one (.sl 0 A0 ss.length c0)] [] [(0, Res.rows A0 c0 22 (hdEn ValueM 51) ss), (50, Res.bag (ss.map (Hd.res 26 valueEn)))] fun o L => o = .ret (vb true) ∧ L = [] := by
  refine v_enter Tryz.func108 (h := fun w0 => ?_)
  refine v_code [] (hk := ?_)
  refine k_res 50 (Res.bag (ss.mapIdx (F1 26 valueEn mkV 0))) rfl (by show Res.bag _ = Res.bag _; rw [map_F1 (m := mkV)]) ?_
  refine v_loop (fun m E H => ∃ (k : Nat), E = [(3, vn k)] ∧ H = [(50, Res.bag (ss.mapIdx (F1 26 valueEn mkV k)))] ∧ m = ss.length - k ∧ k ≤ ss.length) [0, 2, 5, 6, 7, 8, 9, 10, 11, 12, 13, 14, 15, 40, 41, 42, 43, 44, 45, 46, 47, 48, 49, 50, 51, 52, 53, 54, 55, 56, 57, 58, 59, 60, 61, 62, 63, 64, 65, 66, 67, 68, 69, 70, 71, 72, 73, 74, 75, 76, 77, 78, 79, 80, 81, 82, 83, 84, 85, 86, 87, 88, 89, 90, 91, 92, 93, 94, 95, 96, 97, 98, 99, 100, 101, 102, 103, 104, 105, 106, 107, 108, 109, 110, 111, 112, 113, 114, 115, 116, 117, 118, 119, 120, 121, 122, 123, 124, 125, 126, 127, 128, 129, 130, 131, 132, 133, 134, 135, 136, 137, 138, 139, 140, 141, 142, 143, 144, 145, 146, 147, 148, 149, 150, 151, 152, 153, 154, 155, 156, 157, 158, 159, 160, 161, 162, 163, 164, 165, 166, 167, 168, 169, 170, 171, 172, 173, 174, 175, 176, 177, 178, 179, 180, 181, 182, 183, 184, 185, 186, 187, 188, 189, 190, 191, 192] (ss.length) ([(3, vn 0)]) ([(50, Res.bag (ss.mapIdx (F1 26 valueEn mkV 0)))]) (h0 := ⟨0, rfl, rfl, by omega, by omega⟩) (hr := ?_)
  rintro _ _ _ ⟨k, rfl, rfl, hmk, hk⟩
  refine v_code [] (hk := ?_)
  first | refine c_ifd rfl (fun h19 => ?_) (fun h19 => ?_) | refine c_ifn rfl (fun h19 => ?_) (fun h19 => ?_) | refine c_if rfl (fun h19 => ?_) (fun h19 => ?_)
  · have hs := getD_some (d := default) h19
    have hsl := hln _ (getD_mem (d := default) h19)
    refine k_out 50 51 k (r := Res.rows (ss.getD k default).A (ss.getD k default).c 26 valueEn (ss.getD k default).l) (mapIdx_get hs (by unfold F1; rw [if_neg (Nat.lt_irrefl k)])) rfl ?_
    refine v_code [] (hk := ?_)
    refine v_loop (fun m E H => ∃ (i : Nat), E = [(4, vn i)] ∧ H = [(51, Res.rows (ss.getD k default).A (ss.getD k default).c 26 valueEn (mkL mkV k i ++ (ss.getD k default).l.drop i))] ∧ m = (ss.getD k default).l.length - i ∧ i ≤ (ss.getD k default).l.length) [0, 2, 3, 5, 6, 7, 8, 9, 10, 11, 12, 13, 14, 15, 16, 17, 18, 19, 20, 21, 40, 41, 42, 43, 44, 45, 46, 47, 48, 49, 50, 51, 52, 53, 54, 55, 56, 57, 58, 59, 60, 61, 62, 63, 64, 65, 66, 67, 68, 69, 70, 71, 72, 73, 74, 75, 76, 77, 78, 79, 80, 81, 82, 83, 84, 85, 86, 87, 88, 89, 90, 91, 92, 93, 94, 95, 96, 97, 98, 99, 100, 101, 102, 103, 104, 105, 106, 107, 108, 109, 110, 111, 112, 113, 114, 115, 116, 117, 118, 119, 120, 121, 122, 123, 124, 125, 126, 127, 128, 129, 130, 131, 132, 133, 134, 135, 136, 137, 138, 139, 140, 141, 142, 143, 144, 145, 146, 147, 148, 149, 150, 151, 152, 153, 154, 155, 156, 157, 158, 159, 160, 161, 162, 163, 164, 165, 166, 167, 168, 169, 170, 171, 172, 173, 174, 175, 176, 177, 178, 179, 180, 181, 182, 183, 184, 185, 186, 187, 188, 189, 190, 191, 192] ((ss.getD k default).l.length) ([(4, vn 0)]) ([(51, Res.rows (ss.getD k default).A (ss.getD k default).c 26 valueEn (mkL mkV k 0 ++ (ss.getD k default).l.drop 0))]) (h0 := ⟨0, rfl, rfl, by omega, by omega⟩) (hr := ?_)
    rintro _ _ _ ⟨i, rfl, rfl, hmi, hi⟩
    refine v_code [] (hk := ?_)
    first | refine c_ifd rfl (fun h28 => ?_) (fun h28 => ?_) | refine c_ifn rfl (fun h28 => ?_) (fun h28 => ?_) | refine c_if rfl (fun h28 => ?_) (fun h28 => ?_)
    · have hml : (ss.getD k default).l.length = (mkL mkV k i ++ (ss.getD k default).l.drop i).length := by rw [List.length_append, mkL_len, List.length_drop]; omega
      refine v_code [] (hk := ?_)
      refine v_draw (.q 0 (.q 1 (.q 2 (.q 3 (.q 4 (.q 5 (.q 6 (.s 7 (.s 8 (.s 9 .nil)))))))))) [0] (hm := by kernel_rfl) (hs := by kernel_rfl) (hk := by kernel_rfl) (h := ?_)
      refine v_sch [] (hk := ?_)
      refine v_callS rfl 21900 [] (markValue_spec k i (by omega) (by omega)) Tryz.func49 (h := ?_)
      rintro _ _ (⟨rfl, rfl⟩)
      refine ⟨cov_of (by repeat (first | exact trivial | refine ⟨rfl, ?_⟩)), ?_⟩
      refine v_sch [] (hk := ?_)
      refine k_valC 34 (vsl 51 (ss.getD k default).A (ss.getD k default).l.length (ss.getD k default).c) rfl rfl ?_
      refine v_sch [] (hk := ?_)
      refine k_valC 38 (.s (valueEn.f (mkV k i))) rfl rfl ?_
      refine s_do1 rfl (d_storeT (value0) (u' := mkV k i)) ?_
      refine v_sch [] (hk := ?_)
      refine k_res 51 (Res.rows (ss.getD k default).A (ss.getD k default).c 26 valueEn (mkL mkV k (i + 1) ++ (ss.getD k default).l.drop (i + 1))) rfl (by rw [mkL_set (by omega)] <;> rfl) ?_
      refine v_again ((ss.getD k default).l.length - (i + 1)) ⟨i + 1, rfl, rfl, by omega, by omega⟩
    · refine v_code [] (hk := ?_)
      have hie : i = (ss.getD k default).l.length := by omega
      refine k_in 50 51 k (ss.mapIdx (F1 26 valueEn mkV (k + 1))) (by rw [List.length_mapIdx]; omega) (mapIdx_set hs (by unfold F1; rw [if_pos (Nat.lt_succ_self k), hie, List.drop_length, List.append_nil] <;> rfl) F1_ne) rfl rfl ?_
      refine v_again (ss.length - (k + 1)) ⟨k + 1, rfl, rfl, by omega, by omega⟩
  · refine v_code [] (hk := ?_)
    refine k_val 41 (vi .i64 (ss.length : Int)) rfl rfl ?_
    refine l_do (d_makeSlice (E := hdEn ValueM 51) (hE := ⟨⟩) (m := ss.length)) (fun g42 => ?_)
    refine v_ops [] (hk := ?_)
    refine k_res 50 (Res.bag (ss.mapIdx (F2 26 valueEn mkV (List.replicate ss.length default) 0))) rfl (by show Res.bag _ = Res.bag _; rw [F1_F2 (by omega)]) ?_
    refine v_loop (fun m E H => ∃ (k : Nat) (gl : List (Hd ValueM)), E = [(6, vn k)] ∧ H = [(10042, Res.rows (some ⟨g42, 0, none⟩) ss.length 22 (hdEn ValueM 51) gl), (50, Res.bag (ss.mapIdx (F2 26 valueEn mkV gl k)))] ∧ m = ss.length - k ∧ k ≤ ss.length ∧ (gl.length = ss.length) ∧ (∀ j, j < k → ∀ s, ss[j]? = some s → (gl.getD j default).l = mkL mkV j (s.l.length + 64))) [0, 2, 5, 9, 10, 11, 12, 13, 14, 15, 73, 74, 75, 76, 77, 78, 79, 80, 81, 82, 83, 84, 85, 86, 87, 88, 89, 90, 91, 92, 93, 94, 95, 96, 97, 98, 99, 100, 101, 102, 103, 104, 105, 106, 107, 108, 109, 110, 111, 112, 113, 114, 115, 116, 117, 118, 119, 120, 121, 122, 123, 124, 125, 126, 127, 128, 129, 130, 131, 132, 133, 134, 135, 136, 137, 138, 139, 140, 141, 142, 143, 144, 145, 146, 147, 148, 149, 150, 151, 152, 153, 154, 155, 156, 157, 158, 159, 160, 161, 162, 163, 164, 165, 166, 167, 168, 169, 170, 171, 172, 173, 174, 175, 176, 177, 178, 179, 180, 181, 182, 183, 184, 185, 186, 187, 188, 189, 190, 191, 192] (ss.length) ([(6, vn 0)]) ([(10042, Res.rows (some ⟨g42, 0, none⟩) ss.length 22 (hdEn ValueM 51) (List.replicate ss.length default)), (50, Res.bag (ss.mapIdx (F2 26 valueEn mkV (List.replicate ss.length default) 0)))]) (h0 := ⟨0, List.replicate ss.length default, rfl, rfl, by omega, by omega, by simp, (fun j hj => absurd hj (Nat.not_lt_zero j))⟩) (hr := ?_)
    rintro _ _ _ ⟨k, gl, rfl, rfl, hmk, hk, hik0, hik1⟩
    refine v_code [] (hk := ?_)
    first | refine c_ifd rfl (fun h46 => ?_) (fun h46 => ?_) | refine c_ifn rfl (fun h46 => ?_) (fun h46 => ?_) | refine c_if rfl (fun h46 => ?_) (fun h46 => ?_)
    · have hs := getD_some (d := default) h46
      have hsl := hln _ (getD_mem (d := default) h46)
      refine k_out 50 51 k (r := Res.rows (ss.getD k default).A (ss.getD k default).c 26 valueEn (mkL mkV k (ss.getD k default).l.length)) (mapIdx_get hs (by unfold F2; rw [if_neg (Nat.lt_irrefl k)])) rfl ?_
      refine k_conv 51 (Res.two 26 valueEn (ss.getD k default).A (ss.getD k default).c (mkL mkV k (ss.getD k default).l.length) (ss.getD k default).A (ss.getD k default).c (mkL mkV k (ss.getD k default).l.length)) rfl (fun w h => two_of h) (fun b hb => by rw [fp_rows]; exact (fp_two.1 hb).elim id id) ?_
      refine v_code [] (hk := ?_)
      refine v_loop (fun m E H => ∃ (i : Nat) (A7 : Option Addr) (c7 : Nat), E = [(8, vn i), (7, vsl 51 A7 ((ss.getD k default).l.length + i) c7)] ∧ H = [(51, Res.two 26 valueEn (ss.getD k default).A (ss.getD k default).c (mkL mkV k (ss.getD k default).l.length) A7 c7 (mkL mkV k ((ss.getD k default).l.length + i)))] ∧ m = 64 - i ∧ i ≤ 64) [0, 2, 5, 6, 9, 10, 11, 12, 13, 14, 15, 43, 44, 45, 46, 47, 48, 49, 50, 51, 52, 69, 70, 71, 72, 73, 74, 75, 76, 77, 78, 79, 80, 81, 82, 83, 84, 85, 86, 87, 88, 89, 90, 91, 92, 93, 94, 95, 96, 97, 98, 99, 100, 101, 102, 103, 104, 105, 106, 107, 108, 109, 110, 111, 112, 113, 114, 115, 116, 117, 118, 119, 120, 121, 122, 123, 124, 125, 126, 127, 128, 129, 130, 131, 132, 133, 134, 135, 136, 137, 138, 139, 140, 141, 142, 143, 144, 145, 146, 147, 148, 149, 150, 151, 152, 153, 154, 155, 156, 157, 158, 159, 160, 161, 162, 163, 164, 165, 166, 167, 168, 169, 170, 171, 172, 173, 174, 175, 176, 177, 178, 179, 180, 181, 182, 183, 184, 185, 186, 187, 188, 189, 190, 191, 192] (64) ([(8, vn 0), (7, vsl 51 ((ss.getD k default).A) ((ss.getD k default).l.length + 0) ((ss.getD k default).c))]) ([(51, Res.two 26 valueEn (ss.getD k default).A (ss.getD k default).c (mkL mkV k (ss.getD k default).l.length) ((ss.getD k default).A) ((ss.getD k default).c) (mkL mkV k ((ss.getD k default).l.length + 0)))]) (h0 := ⟨0, (ss.getD k default).A, (ss.getD k default).c, rfl, rfl, by omega, by omega⟩) (hr := ?_)
      rintro _ _ _ ⟨i, A7, c7, rfl, rfl, hmi, hi⟩
      refine v_code [] (hk := ?_)
      first | refine c_ifd rfl (fun h54 => ?_) (fun h54 => ?_) | refine c_ifn rfl (fun h54 => ?_) (fun h54 => ?_) | refine c_if rfl (fun h54 => ?_) (fun h54 => ?_)
      · have hml : (ss.getD k default).l.length + i = (mkL mkV k ((ss.getD k default).l.length + i)).length := mkL_len.symm
        refine v_code [] (hk := ?_)
        refine v_call 23300 [] (markValue_spec k (((ss.getD k default).l.length + i : Nat) : Int) (by omega) (by omega)) Tryz.func49 (h := ?_)
        rintro _ _ (⟨rfl, rfl⟩)
        refine l_do (d_bslice [mkV k ((ss.getD k default).l.length + i)]) (fun B67 => ?_)
        refine l_do d_append2 (fun p68 => ?_)
        refine v_ops [] (hk := ?_)
        refine k_val 7 (vsl 51 p68.1 ((ss.getD k default).l.length + (i + 1)) p68.2) rfl (by rw [List.length_append, mkL_len] <;> rfl) ?_
        refine k_res 51 (Res.two 26 valueEn (ss.getD k default).A (ss.getD k default).c (mkL mkV k (ss.getD k default).l.length) p68.1 p68.2 (mkL mkV k ((ss.getD k default).l.length + (i + 1)))) rfl (by rw [show (ss.getD k default).l.length + (i + 1) = ((ss.getD k default).l.length + i) + 1 from rfl, mkL_succ] <;> rfl) ?_
        refine v_again (64 - (i + 1)) ⟨i + 1, p68.1, p68.2, rfl, rfl, by omega, by omega⟩
      · obtain rfl : i = 64 := by omega
        refine v_code [] (hk := ?_)
        refine k_val 71 (vsl 51 A7 (mkL mkV k ((ss.getD k default).l.length + 64)).length c7) rfl (by rw [mkL_len] <;> rfl) ?_
        refine l_do1 (d_storeT (default) (u' := (⟨A7, c7, mkL mkV k ((ss.getD k default).l.length + 64)⟩ : Hd ValueM))) ?_
        refine v_ops [] (hk := ?_)
        refine k_in 50 51 k (ss.mapIdx (F2 26 valueEn mkV (gl.set k (⟨A7, c7, mkL mkV k ((ss.getD k default).l.length + 64)⟩ : Hd ValueM)) (k + 1))) (by rw [List.length_mapIdx]; omega) (mapIdx_set hs (by unfold F2 F3; rw [if_pos (by omega), hdD_set (by omega)] <;> rfl) (F2_ne (by omega))) rfl rfl ?_
        refine v_again (ss.length - (k + 1)) ⟨k + 1, gl.set k (⟨A7, c7, mkL mkV k ((ss.getD k default).l.length + 64)⟩ : Hd ValueM), rfl, rfl, by omega, by omega, by rw [List.length_set, hik0], (fun j hj s2 hs2 => by by_cases e : j = k; (subst e; rw [hdD_set (by omega), opt_eq hs2 hs]); (rw [hdD_ne e]; exact hik1 j (by omega) s2 hs2))⟩
    · refine v_code [] (hk := ?_)
      refine k_ren 50 51 rfl ?_
      refine k_res 51 (Res.bag (ss.mapIdx (F3 26 valueEn mkV gl))) rfl (by show Res.bag _ = Res.bag _; rw [F2_F3 (by omega)]) ?_
      have hgl : ∀ j s, ss[j]? = some s → (gl.getD j default).l = mkL mkV j (s.l.length + 64) := fun j s hj => hik1 j (by have := (List.getElem?_eq_some_iff.1 hj).1; omega) s hj
      refine v_loop (fun m E H => ∃ (k : Nat), E = [(9, vn k)] ∧ H = [] ∧ m = ss.length - k ∧ k ≤ ss.length) [0, 5, 11, 12, 13, 14, 15, 123, 124, 125, 126, 127, 128, 129, 130, 131, 132, 133, 134, 135, 136, 137, 138, 139, 140, 141, 142, 143, 144, 145, 146, 147, 148, 149, 150, 151, 152, 153, 154, 155, 156, 157, 158, 159, 160, 161, 162, 163, 164, 165, 166, 167, 168, 169, 170, 171, 172, 173, 174, 175, 176, 177, 178, 179, 180, 181, 182, 183, 184, 185, 186, 187, 188, 189, 190, 191, 192] (ss.length) ([(9, vn 0)]) ([]) (h0 := ⟨0, rfl, rfl, by omega, by omega⟩) (hr := ?_)
      rintro _ _ _ ⟨k, rfl, rfl, hmk, hk⟩
      refine v_code [] (hk := ?_)
      first | refine c_ifd rfl (fun h76 => ?_) (fun h76 => ?_) | refine c_ifn rfl (fun h76 => ?_) (fun h76 => ?_) | refine c_if rfl (fun h76 => ?_) (fun h76 => ?_)
      · have hs := getD_some (d := default) h76
        have hsl := hln _ (getD_mem (d := default) h76)
        have hmk : (ss.getD k default).l.length = (mkL mkV k (ss.getD k default).l.length).length := mkL_len.symm
        have ht := getD_some (l := gl) (k := k) (d := default) (by omega)
        have hl2 : (gl.getD k default).l = mkL mkV k ((ss.getD k default).l.length + 64) := hgl k _ hs
        have hll : (gl.getD k default).l.length = (ss.getD k default).l.length + 64 := by rw [hl2, mkL_len]
        have hv1 := view_F3a (e := 26) (E := valueEn) (m := mkV) (gl := gl) hs
        have hv2 := view_F3b (e := 26) (E := valueEn) (m := mkV) hs ht
        refine v_code [] (hk := ?_)
        refine v_loop (fun m E H => ∃ (i : Nat), E = [(10, vn i)] ∧ H = [] ∧ m = (gl.getD k default).l.length - i ∧ i ≤ (gl.getD k default).l.length) [0, 5, 9, 11, 12, 13, 14, 15, 73, 74, 75, 76, 77, 78, 123, 124, 125, 126, 127, 128, 129, 130, 131, 132, 133, 134, 135, 136, 137, 138, 139, 140, 141, 142, 143, 144, 145, 146, 147, 148, 149, 150, 151, 152, 153, 154, 155, 156, 157, 158, 159, 160, 161, 162, 163, 164, 165, 166, 167, 168, 169, 170, 171, 172, 173, 174, 175, 176, 177, 178, 179, 180, 181, 182, 183, 184, 185, 186, 187, 188, 189, 190, 191, 192] ((gl.getD k default).l.length) ([(10, vn 0)]) ([]) (h0 := ⟨0, rfl, rfl, by omega, by omega⟩) (hr := ?_)
        rintro _ _ _ ⟨i, rfl, rfl, hmi, hi⟩
        refine v_code [] (hk := ?_)
        first | refine c_ifd rfl (fun h85 => ?_) (fun h85 => ?_) | refine c_ifn rfl (fun h85 => ?_) (fun h85 => ?_) | refine c_if rfl (fun h85 => ?_) (fun h85 => ?_)
        · refine v_code [] (hk := ?_)
          refine v_draw (.q 0 (.q 1 (.q 2 (.q 3 (.q 4 (.q 5 (.q 6 (.q 7 (.q 8 (.s 9 (.s 10 (.q 11 (.q 12 (.q 13 (.q 14 (.q 15 (.q 16 (.q 17 (.q 18 (.q 19 (.q 20 (.q 21 (.q 22 (.q 23 (.q 24 (.q 25 (.q 26 (.q 27 (.q 28 (.q 29 (.s 30 (.s 31 (.q 32 (.q 33 (.q 34 .nil))))))))))))))))))))))))))))))))))) [0, 51, 10042] (hm := by kernel_rfl) (hs := by kernel_rfl) (hk := by kernel_rfl) (h := ?_)
          refine v_sch [] (hk := ?_)
          refine k_valC 91 (vsl 51 (gl.getD k default).A (gl.getD k default).l.length (gl.getD k default).c) rfl rfl ?_
          refine k_valC 92 (vint i) rfl rfl ?_
          refine q_rd rfl (r_indexT (hj := by omega)) ?_
          refine q_rd rfl (r_loadT (hj := by omega)) ?_
          refine v_sch [] (hk := ?_)
          refine v_callS rfl 24850 [] (markValue_spec k i (by omega) (by omega)) Tryz.func49 (h := ?_)
          rintro _ _ (⟨rfl, rfl⟩)
          refine ⟨cov_of (by repeat (first | exact trivial | refine ⟨rfl, ?_⟩)), ?_⟩
          refine v_callDS rfl 24900 [] (sameValue_spec ((gl.getD k default).l.getD i value0) ⟨mk1 k i, none, 0, []⟩ (by rw [hl2, mkL_getD (by omega)]; exact Nat.zero_le _)) Tryz.func15 (hB := ⟨⟨_, (der_none (mark_at (k := k) (i := i) (by rw [hl2]; exact mkL_getD (by omega)))), rfl⟩, ⟨⟨_, Der.nl, rfl⟩, trivial⟩⟩) (h := ?_)
          rintro _ _ (⟨rfl, rfl⟩)
          refine ⟨cov_of (by repeat (first | exact trivial | refine ⟨rfl, ?_⟩)), ?_⟩
          refine v_knowC 98 true rfl (decide_eq_true (same_mark (by rw [hl2]; exact mkL_getD (by omega)))) ?_
          refine v_sch [] (hk := ?_)
          refine k_valC 112 (.cond _ (.one (.sl 51 (ss.getD k default).A (ss.getD k default).l.length (ss.getD k default).c))) rfl rfl ?_
          refine k_valC 113 (.cond _ (.one (.i .i64 i))) rfl rfl ?_
          refine q_rdG rfl [112, 113] ⟨_, _, ⟨_, .inl ⟨rfl, rfl⟩⟩, ⟨_, _, ⟨_, .inl ⟨rfl, rfl⟩⟩, rfl, rfl⟩, rfl⟩ (fun hg => (r_indexT (hj := by have := of_decide_eq_true hg; omega))) ?_
          refine q_rdG rfl [114] ⟨_, _, ⟨_, .inl ⟨rfl, rfl⟩⟩, rfl, rfl⟩ (fun hg => (r_loadT (hj := by have := of_decide_eq_true hg; omega))) ?_
          refine v_sch [] (hk := ?_)
          refine s_callG rfl [] [116, 117] ⟨_, _, ⟨_, .inl ⟨rfl, rfl⟩⟩, ⟨_, _, ⟨_, .inl ⟨rfl, rfl⟩⟩, rfl, rfl⟩, rfl⟩ (fun hg => markValue_spec k i (by omega) (by omega)) Tryz.func49 (h := ?_)
          refine s_callGD rfl [] [115, 118] ⟨_, _, ⟨_, .inl ⟨rfl, rfl⟩⟩, ⟨_, _, ⟨_, .inl ⟨rfl, rfl⟩⟩, rfl, rfl⟩, rfl⟩ (fun hg => sameValue_spec ((mkL mkV k (ss.getD k default).l.length).getD i value0) ⟨mk1 k i, none, 0, []⟩ (by rw [mkL_getD (of_decide_eq_true hg)]; exact Nat.zero_le _)) Tryz.func15 (hB := fun hg => ⟨⟨_, (der_none (mark_at (k := k) (i := i) (mkL_getD (of_decide_eq_true hg)))), rfl⟩, ⟨⟨_, Der.nl, rfl⟩, trivial⟩⟩) (h := ?_)
          refine v_sch [] (hk := ?_)
          first | refine c_ifd rfl (fun h122 => ?_) (fun h122 => ?_) | refine c_ifn rfl (fun h122 => ?_) (fun h122 => ?_) | refine c_if rfl (fun h122 => ?_) (fun h122 => ?_)
          · exact flat_no h122 (fun hi2 => decide_eq_true (same_mark (mkL_getD hi2)))
          · refine v_code [] (hk := ?_)
            refine v_again ((gl.getD k default).l.length - (i + 1)) ⟨i + 1, rfl, rfl, by omega, by omega⟩
        · refine v_code [] (hk := ?_)
          refine v_again (ss.length - (k + 1)) ⟨k + 1, rfl, rfl, by omega, by omega⟩
      · refine v_code [] (hk := ?_)
        refine k_ren 51 50 rfl ?_
        refine v_loop (fun m E H => ∃ (k : Nat) (gl2 : List (Hd ValueM)), E = [(11, vn k)] ∧ H = [(10042, Res.rows (some ⟨g42, 0, none⟩) ss.length 22 (hdEn ValueM 51) gl2), (50, Res.bag (ss.mapIdx (F3 26 valueEn mkV gl2)))] ∧ m = ss.length - k ∧ k ≤ ss.length ∧ (gl2.length = ss.length) ∧ (∀ j, j < k → ∀ s, ss[j]? = some s → mkL mkV j s.l.length <+: (gl2.getD j default).l)) [0, 2, 5, 14, 15, 152, 153, 154, 155, 156, 157, 158, 159, 160, 161, 162, 163, 164, 165, 166, 167, 168, 169, 170, 171, 172, 173, 174, 175, 176, 177, 178, 179, 180, 181, 182, 183, 184, 185, 186, 187, 188, 189, 190, 191, 192] (ss.length) ([(11, vn 0)]) ([(10042, Res.rows (some ⟨g42, 0, none⟩) ss.length 22 (hdEn ValueM 51) (gl)), (50, Res.bag (ss.mapIdx (F3 26 valueEn mkV (gl))))]) (h0 := ⟨0, gl, rfl, rfl, by omega, by omega, hik0, (fun j hj => absurd hj (Nat.not_lt_zero j))⟩) (hr := ?_)
        rintro _ _ _ ⟨k, gl2, rfl, rfl, hmk, hk, hg2, hp2⟩
        refine v_code [] (hk := ?_)
        first | refine c_ifd rfl (fun h126 => ?_) (fun h126 => ?_) | refine c_ifn rfl (fun h126 => ?_) (fun h126 => ?_) | refine c_if rfl (fun h126 => ?_) (fun h126 => ?_)
        · have hs := getD_some (d := default) h126
          have hsl := hln _ (getD_mem (d := default) h126)
          have hmk : (ss.getD k default).l.length = (mkL mkV k (ss.getD k default).l.length).length := mkL_len.symm
          refine k_out 50 51 k (r := F3 26 valueEn mkV gl2 k (ss.getD k default)) (mapIdx_get hs rfl) rfl ?_
          refine k_conv 51 (Res.two 26 valueEn (ss.getD k default).A (ss.getD k default).c (mkL mkV k (ss.getD k default).l.length) (ss.getD k default).A (ss.getD k default).c (mkL mkV k (ss.getD k default).l.length)) rfl (fun w h => two_of (two_rows h)) (fun b hb => (fp_two.1 hb).elim .inl .inl) ?_
          refine v_code [] (hk := ?_)
          refine l_do (d_makeSlice (m := 64)) (fun g129 => ?_)
          refine v_ops [] (hk := ?_)
          refine v_loop (fun m E H => ∃ (i : Nat), E = [(13, vn i)] ∧ H = [(10129, Res.rows (some ⟨g129, 0, none⟩) 64 26 valueEn (mkL mkV (k + ss.length) i ++ (List.replicate 64 value0).drop i))] ∧ m = 64 - i ∧ i ≤ 64) [0, 2, 5, 11, 12, 14, 15, 123, 124, 125, 126, 127, 128, 129, 143, 144, 145, 146, 147, 148, 149, 150, 151, 152, 153, 154, 155, 156, 157, 158, 159, 160, 161, 162, 163, 164, 165, 166, 167, 168, 169, 170, 171, 172, 173, 174, 175, 176, 177, 178, 179, 180, 181, 182, 183, 184, 185, 186, 187, 188, 189, 190, 191, 192] (64) ([(13, vn 0)]) ([(10129, Res.rows (some ⟨g129, 0, none⟩) 64 26 valueEn (mkL mkV (k + ss.length) 0 ++ (List.replicate 64 value0).drop 0))]) (h0 := ⟨0, rfl, rfl, by omega, by omega⟩) (hr := ?_)
          rintro _ _ _ ⟨i, rfl, rfl, hmi, hi⟩
          refine v_code [] (hk := ?_)
          first | refine c_ifd rfl (fun h131 => ?_) (fun h131 => ?_) | refine c_ifn rfl (fun h131 => ?_) (fun h131 => ?_) | refine c_if rfl (fun h131 => ?_) (fun h131 => ?_)
          · have hm7 : 64 = (mkL mkV (k + ss.length) i ++ (List.replicate 64 value0).drop i).length := by rw [List.length_append, mkL_len, List.length_drop, List.length_replicate]; omega
            refine v_code [] (hk := ?_)
            refine v_call 27050 [] (markValue_spec ((k + ss.length : Nat) : Int) i (by omega) (by omega)) Tryz.func49 (h := ?_)
            rintro _ _ (⟨rfl, rfl⟩)
            refine v_ops [] (hk := ?_)
            refine k_val 141 (.s (valueEn.f (mkV (k + ss.length) i))) rfl rfl ?_
            refine l_do1 (d_storeT (value0) (u' := mkV (k + ss.length) i)) ?_
            refine v_ops [] (hk := ?_)
            refine k_res 10129 (Res.rows (some ⟨g129, 0, none⟩) 64 26 valueEn (mkL mkV (k + ss.length) (i + 1) ++ (List.replicate 64 value0).drop (i + 1))) rfl (by rw [mkL_set (by rw [List.length_replicate]; omega)] <;> rfl) ?_
            refine v_again (64 - (i + 1)) ⟨i + 1, rfl, rfl, by omega, by omega⟩
          · obtain rfl : i = 64 := by omega
            have hm64 : 64 = (mkL mkV (k + ss.length) 64).length := mkL_len.symm
            have hm64b : (mkL mkV (k + ss.length) 64).length ≤ 1000 := by rw [mkL_len]; decide
            refine k_res 10129 (Res.rows (some ⟨g129, 0, none⟩) 64 26 valueEn (mkL mkV (k + ss.length) 64)) rfl (by rw [show (List.replicate 64 value0).drop 64 = [] from rfl, List.append_nil] <;> rfl) ?_
            refine v_code [] (hk := ?_)
            refine k_val 148 (vsl 51 (ss.getD k default).A (ss.getD k default).l.length (ss.getD k default).c) rfl rfl ?_
            refine l_do (d_append2 (hb := by simp only [mkL_len]; omega)) (fun p150 => ?_)
            refine v_ops [] (hk := ?_)
            refine l_do1 (d_storeT (default) (u' := (⟨p150.1, p150.2, mkL mkV k (ss.getD k default).l.length ++ mkL mkV (k + ss.length) 64⟩ : Hd ValueM))) ?_
            refine v_ops [] (hk := ?_)
            refine k_in 50 51 k (ss.mapIdx (F3 26 valueEn mkV (gl2.set k (⟨p150.1, p150.2, mkL mkV k (ss.getD k default).l.length ++ mkL mkV (k + ss.length) 64⟩ : Hd ValueM)))) (by rw [List.length_mapIdx]; omega) (mapIdx_set hs (by unfold F3; rw [hdD_set (by omega)] <;> rfl) F3_ne) rfl rfl ?_
            refine v_again (ss.length - (k + 1)) ⟨k + 1, gl2.set k (⟨p150.1, p150.2, mkL mkV k (ss.getD k default).l.length ++ mkL mkV (k + ss.length) 64⟩ : Hd ValueM), rfl, rfl, by omega, by omega, by rw [List.length_set, hg2], (fun j hj s2 hs2 => by by_cases e : j = k; (subst e; rw [hdD_set (by omega), opt_eq hs2 hs]; exact List.prefix_append _ _); (rw [hdD_ne e]; exact hp2 j (by omega) s2 hs2))⟩
        · refine v_code [] (hk := ?_)
          refine k_ren 50 51 rfl ?_
          have hgl2 : ∀ j s, ss[j]? = some s → mkL mkV j s.l.length <+: (gl2.getD j default).l := fun j s hj => hp2 j (by have := (List.getElem?_eq_some_iff.1 hj).1; omega) s hj
          refine v_loop (fun m E H => ∃ (k : Nat), E = [(14, vn k)] ∧ H = [] ∧ m = ss.length - k ∧ k ≤ ss.length) [0, 5] (ss.length) ([(14, vn 0)]) ([]) (h0 := ⟨0, rfl, rfl, by omega, by omega⟩) (hr := ?_)
          rintro _ _ _ ⟨k, rfl, rfl, hmk, hk⟩
          refine v_code [] (hk := ?_)
          first | refine c_ifd rfl (fun h155 => ?_) (fun h155 => ?_) | refine c_ifn rfl (fun h155 => ?_) (fun h155 => ?_) | refine c_if rfl (fun h155 => ?_) (fun h155 => ?_)
          · have hs := getD_some (d := default) h155
            have hsl := hln _ (getD_mem (d := default) h155)
            have hmk : (ss.getD k default).l.length = (mkL mkV k (ss.getD k default).l.length).length := mkL_len.symm
            have ht := getD_some (l := gl2) (k := k) (d := default) (by omega)
            have hpre : mkL mkV k (ss.getD k default).l.length <+: (gl2.getD k default).l := hgl2 k _ hs
            have htl : (ss.getD k default).l.length ≤ (gl2.getD k default).l.length := by have := hpre.length_le; rwa [mkL_len] at this
            have hv1 := view_F3a (e := 26) (E := valueEn) (m := mkV) (gl := gl2) hs
            have hv2 := view_F3b (e := 26) (E := valueEn) (m := mkV) hs ht
            refine v_code [] (hk := ?_)
            refine v_loop (fun m E H => ∃ (i : Nat), E = [(15, vn i)] ∧ H = [] ∧ m = (ss.getD k default).l.length - i ∧ i ≤ (ss.getD k default).l.length) [0, 5, 14, 152, 153, 154, 155, 156, 157] ((ss.getD k default).l.length) ([(15, vn 0)]) ([]) (h0 := ⟨0, rfl, rfl, by omega, by omega⟩) (hr := ?_)
            rintro _ _ _ ⟨i, rfl, rfl, hmi, hi⟩
            refine v_code [] (hk := ?_)
            first | refine c_ifd rfl (fun h164 => ?_) (fun h164 => ?_) | refine c_ifn rfl (fun h164 => ?_) (fun h164 => ?_) | refine c_if rfl (fun h164 => ?_) (fun h164 => ?_)
            · refine v_code [] (hk := ?_)
              refine v_draw (.q 0 (.q 1 (.q 2 (.q 3 (.q 4 (.q 5 (.q 6 (.q 7 (.q 8 (.s 9 (.s 10 (.q 11 (.q 12 (.q 13 (.q 14 (.q 15 (.q 16 (.q 17 (.q 18 (.q 19 (.q 20 (.q 21 (.s 22 (.s 23 (.q 24 (.q 25 .nil)))))))))))))))))))))))))) [0, 51, 10042] (hm := by kernel_rfl) (hs := by kernel_rfl) (hk := by kernel_rfl) (h := ?_)
              refine v_sch [] (hk := ?_)
              refine k_valC 170 (vsl 51 (ss.getD k default).A (ss.getD k default).l.length (ss.getD k default).c) rfl rfl ?_
              refine k_valC 171 (vint i) rfl rfl ?_
              refine q_rd rfl (r_indexT (hj := by omega)) ?_
              refine q_rd rfl (r_loadT (hj := by omega)) ?_
              refine v_sch [] (hk := ?_)
              refine v_callS rfl 28800 [] (markValue_spec k i (by omega) (by omega)) Tryz.func49 (h := ?_)
              rintro _ _ (⟨rfl, rfl⟩)
              refine ⟨cov_of (by repeat (first | exact trivial | refine ⟨rfl, ?_⟩)), ?_⟩
              refine v_callDS rfl 28850 [] (sameValue_spec ((mkL mkV k (ss.getD k default).l.length).getD i value0) ⟨mk1 k i, none, 0, []⟩ (by rw [mkL_getD (by omega)]; exact Nat.zero_le _)) Tryz.func15 (hB := ⟨⟨_, (der_none (mark_at (k := k) (i := i) (mkL_getD (by omega)))), rfl⟩, ⟨⟨_, Der.nl, rfl⟩, trivial⟩⟩) (h := ?_)
              rintro _ _ (⟨rfl, rfl⟩)
              refine ⟨cov_of (by repeat (first | exact trivial | refine ⟨rfl, ?_⟩)), ?_⟩
              refine v_knowC 177 true rfl (decide_eq_true (same_mark (mkL_getD (by omega)))) ?_
              refine v_sch [] (hk := ?_)
              refine k_valC 183 (vsl 51 (gl2.getD k default).A (gl2.getD k default).l.length (gl2.getD k default).c) rfl rfl ?_
              refine k_valC 184 (vint i) rfl rfl ?_
              refine k_valC 179 (vb false) rfl rfl ?_
              refine q_rd rfl (r_indexT (hj := by omega)) ?_
              refine q_rd rfl (r_loadT (hj := by omega)) ?_
              refine v_knowC 179 false rfl rfl ?_
              refine v_sch [] (hk := ?_)
              refine k_valC 179 (vb false) rfl rfl ?_
              refine v_callDS rfl 29450 [] (markValue_spec k i (by omega) (by omega)) Tryz.func49 (hB := trivial) (h := ?_)
              rintro _ _ (⟨rfl, rfl⟩)
              refine ⟨cov_of (by repeat (first | exact trivial | refine ⟨rfl, ?_⟩)), ?_⟩
              refine v_callDS rfl 29500 [] (sameValue_spec ((gl2.getD k default).l.getD i value0) ⟨mk1 k i, none, 0, []⟩ (by rw [mkL_pgetD hpre (by omega)]; exact Nat.zero_le _)) Tryz.func15 (hB := ⟨⟨_, (der_none (mark_at (k := k) (i := i) (mkL_pgetD hpre (by omega)))), rfl⟩, ⟨⟨_, Der.nl, rfl⟩, trivial⟩⟩) (h := ?_)
              rintro _ _ (⟨rfl, rfl⟩)
              refine ⟨cov_of (by repeat (first | exact trivial | refine ⟨rfl, ?_⟩)), ?_⟩
              refine v_knowC 179 false rfl rfl ?_
              refine v_sch [] (hk := ?_)
              first | refine c_ifd rfl (fun h192 => ?_) (fun h192 => ?_) | refine c_ifn rfl (fun h192 => ?_) (fun h192 => ?_) | refine c_if rfl (fun h192 => ?_) (fun h192 => ?_)
              · exact absurd (same_mark (mkL_pgetD hpre (by omega))) h192
              · refine v_code [] (hk := ?_)
                refine v_again ((ss.getD k default).l.length - (i + 1)) ⟨i + 1, rfl, rfl, by omega, by omega⟩
            · refine v_code [] (hk := ?_)
              refine v_again (ss.length - (k + 1)) ⟨k + 1, rfl, rfl, by omega, by omega⟩
          · refine v_code [] (hk := ?_)
            refine v_ret rfl [] (.cons (.tmp rfl) .nil) (h := ?_)
            exact ⟨rfl, rfl⟩
end Go.Proofs.YtlnckcgbpilmdaaGreat
/- Lists that lie apart: none of them. -/

set_option linter.unusedVariables false
set_option linter.unusedSimpArgs false
set_option maxRecDepth 100000
set_option maxHeartbeats 8000000
namespace Go.Proofs.YtlnckcgbpilmdaaGreat
open Go Go.RowKit HL
theorem flatLimbs0 : CSpec Tryz.prog 97 [.one (.sl 0 none 0 0)] [] [] fun o L => o = .ret (vb true) ∧ L = [] := by
  refine v_enter Tryz.func97 (h := fun w0 => ?_)
  refine v_code [] (hk := ?_)
  refine v_loop (fun m E H => ∃ (k : Nat), E = [(3, vn k)] ∧ H = [] ∧ m = 0 - k ∧ k ≤ 0) [0, 2, 5, 6, 7, 8, 9, 10, 11, 12, 13, 14, 15, 41, 42, 43, 44, 45, 46, 47, 48, 49, 50, 51, 52, 53, 54, 55, 56, 57, 58, 59, 60, 61, 62, 63, 64, 65, 66, 67, 68, 69, 70, 71, 72, 73, 74, 75, 76, 77, 78, 79, 80, 81, 82, 83, 84, 85, 86, 87, 88, 89, 90, 91, 92, 93, 94, 95, 96, 97, 98, 99, 100, 101, 102, 103, 104, 105, 106, 107, 108, 109, 110, 111, 112, 113, 114, 115, 116, 117, 118, 119, 120, 121, 122, 123, 124, 125, 126, 127, 128, 129, 130, 131, 132, 133, 134, 135, 136, 137, 138, 139, 140, 141, 142, 143, 144, 145, 146, 147, 148, 149, 150, 151, 152, 153, 154, 155, 156, 157, 158, 159, 160, 161, 162, 163, 164, 165, 166, 167, 168, 169, 170, 171, 172, 173, 174, 175, 176, 177, 178, 179, 180, 181, 182, 183, 184, 185, 186, 187, 188, 189, 190, 191, 192, 193, 194, 195, 196, 197, 198, 199] (0) ([(3, vn 0)]) ([]) (h0 := ⟨0, rfl, rfl, by omega, by omega⟩) (hr := ?_)
  rintro _ _ _ ⟨k, rfl, rfl, hmk, hk⟩
  refine v_code [] (hk := ?_)
  first | refine c_ifd rfl (fun h19 => ?_) (fun h19 => ?_) | refine c_ifn rfl (fun h19 => ?_) (fun h19 => ?_) | refine c_if rfl (fun h19 => ?_) (fun h19 => ?_)
  · exact absurd h19 (by omega)
  · refine v_code [] (hk := ?_)
    refine k_val 42 (vint 0) rfl rfl ?_
    refine l_do d_make0 (fun g43 => ?_)
    refine v_ops [] (hk := ?_)
    refine v_loop (fun m E H => ∃ (k : Nat), E = [(6, vn k)] ∧ H = [] ∧ m = 0 - k ∧ k ≤ 0) [0, 2, 5, 9, 10, 11, 12, 13, 14, 15, 75, 76, 77, 78, 79, 80, 81, 82, 83, 84, 85, 86, 87, 88, 89, 90, 91, 92, 93, 94, 95, 96, 97, 98, 99, 100, 101, 102, 103, 104, 105, 106, 107, 108, 109, 110, 111, 112, 113, 114, 115, 116, 117, 118, 119, 120, 121, 122, 123, 124, 125, 126, 127, 128, 129, 130, 131, 132, 133, 134, 135, 136, 137, 138, 139, 140, 141, 142, 143, 144, 145, 146, 147, 148, 149, 150, 151, 152, 153, 154, 155, 156, 157, 158, 159, 160, 161, 162, 163, 164, 165, 166, 167, 168, 169, 170, 171, 172, 173, 174, 175, 176, 177, 178, 179, 180, 181, 182, 183, 184, 185, 186, 187, 188, 189, 190, 191, 192, 193, 194, 195, 196, 197, 198, 199] (0) ([(6, vn 0)]) ([]) (h0 := ⟨0, rfl, rfl, by omega, by omega⟩) (hr := ?_)
    rintro _ _ _ ⟨k, rfl, rfl, hmk, hk⟩
    refine v_code [] (hk := ?_)
    first | refine c_ifd rfl (fun h47 => ?_) (fun h47 => ?_) | refine c_ifn rfl (fun h47 => ?_) (fun h47 => ?_) | refine c_if rfl (fun h47 => ?_) (fun h47 => ?_)
    · exact absurd h47 (by omega)
    · refine v_code [] (hk := ?_)
      refine v_loop (fun m E H => ∃ (k : Nat), E = [(9, vn k)] ∧ H = [] ∧ m = 0 - k ∧ k ≤ 0) [0, 5, 11, 12, 13, 14, 15, 127, 128, 129, 130, 131, 132, 133, 134, 135, 136, 137, 138, 139, 140, 141, 142, 143, 144, 145, 146, 147, 148, 149, 150, 151, 152, 153, 154, 155, 156, 157, 158, 159, 160, 161, 162, 163, 164, 165, 166, 167, 168, 169, 170, 171, 172, 173, 174, 175, 176, 177, 178, 179, 180, 181, 182, 183, 184, 185, 186, 187, 188, 189, 190, 191, 192, 193, 194, 195, 196, 197, 198, 199] (0) ([(9, vn 0)]) ([]) (h0 := ⟨0, rfl, rfl, by omega, by omega⟩) (hr := ?_)
      rintro _ _ _ ⟨k, rfl, rfl, hmk, hk⟩
      refine v_code [] (hk := ?_)
      first | refine c_ifd rfl (fun h78 => ?_) (fun h78 => ?_) | refine c_ifn rfl (fun h78 => ?_) (fun h78 => ?_) | refine c_if rfl (fun h78 => ?_) (fun h78 => ?_)
      · exact absurd h78 (by omega)
      · refine v_code [] (hk := ?_)
        refine v_loop (fun m E H => ∃ (k : Nat), E = [(11, vn k)] ∧ H = [] ∧ m = 0 - k ∧ k ≤ 0) [0, 2, 5, 14, 15, 157, 158, 159, 160, 161, 162, 163, 164, 165, 166, 167, 168, 169, 170, 171, 172, 173, 174, 175, 176, 177, 178, 179, 180, 181, 182, 183, 184, 185, 186, 187, 188, 189, 190, 191, 192, 193, 194, 195, 196, 197, 198, 199] (0) ([(11, vn 0)]) ([]) (h0 := ⟨0, rfl, rfl, by omega, by omega⟩) (hr := ?_)
        rintro _ _ _ ⟨k, rfl, rfl, hmk, hk⟩
        refine v_code [] (hk := ?_)
        first | refine c_ifd rfl (fun h130 => ?_) (fun h130 => ?_) | refine c_ifn rfl (fun h130 => ?_) (fun h130 => ?_) | refine c_if rfl (fun h130 => ?_) (fun h130 => ?_)
        · exact absurd h130 (by omega)
        · refine v_code [] (hk := ?_)
          refine v_loop (fun m E H => ∃ (k : Nat), E = [(14, vn k)] ∧ H = [] ∧ m = 0 - k ∧ k ≤ 0) [0, 5] (0) ([(14, vn 0)]) ([]) (h0 := ⟨0, rfl, rfl, by omega, by omega⟩) (hr := ?_)
          rintro _ _ _ ⟨k, rfl, rfl, hmk, hk⟩
          refine v_code [] (hk := ?_)
          first | refine c_ifd rfl (fun h160 => ?_) (fun h160 => ?_) | refine c_ifn rfl (fun h160 => ?_) (fun h160 => ?_) | refine c_if rfl (fun h160 => ?_) (fun h160 => ?_)
          · exact absurd h160 (by omega)
          · refine v_code [] (hk := ?_)
            refine v_ret rfl [] (.cons (.tmp rfl) .nil) (h := ?_)
            exact ⟨rfl, rfl⟩
theorem flatWords0 : CSpec Tryz.prog 98 [.one (.sl 0 none 0 0)] [] [] fun o L => o = .ret (vb true) ∧ L = [] := by
  refine v_enter Tryz.func98 (h := fun w0 => ?_)
  refine v_code [] (hk := ?_)
  refine v_loop (fun m E H => ∃ (k : Nat), E = [(3, vn k)] ∧ H = [] ∧ m = 0 - k ∧ k ≤ 0) [0, 2, 5, 6, 7, 8, 9, 10, 11, 12, 13, 14, 15, 41, 42, 43, 44, 45, 46, 47, 48, 49, 50, 51, 52, 53, 54, 55, 56, 57, 58, 59, 60, 61, 62, 63, 64, 65, 66, 67, 68, 69, 70, 71, 72, 73, 74, 75, 76, 77, 78, 79, 80, 81, 82, 83, 84, 85, 86, 87, 88, 89, 90, 91, 92, 93, 94, 95, 96, 97, 98, 99, 100, 101, 102, 103, 104, 105, 106, 107, 108, 109, 110, 111, 112, 113, 114, 115, 116, 117, 118, 119, 120, 121, 122, 123, 124, 125, 126, 127, 128, 129, 130, 131, 132, 133, 134, 135, 136, 137, 138, 139, 140, 141, 142, 143, 144, 145, 146, 147, 148, 149, 150, 151, 152, 153, 154, 155, 156, 157, 158, 159, 160, 161, 162, 163, 164, 165, 166, 167, 168, 169, 170, 171, 172, 173, 174, 175, 176, 177, 178, 179, 180, 181, 182, 183, 184, 185, 186, 187, 188, 189, 190, 191, 192, 193, 194, 195, 196, 197, 198, 199] (0) ([(3, vn 0)]) ([]) (h0 := ⟨0, rfl, rfl, by omega, by omega⟩) (hr := ?_)
  rintro _ _ _ ⟨k, rfl, rfl, hmk, hk⟩
  refine v_code [] (hk := ?_)
  first | refine c_ifd rfl (fun h19 => ?_) (fun h19 => ?_) | refine c_ifn rfl (fun h19 => ?_) (fun h19 => ?_) | refine c_if rfl (fun h19 => ?_) (fun h19 => ?_)
  · exact absurd h19 (by omega)
  · refine v_code [] (hk := ?_)
    refine k_val 42 (vint 0) rfl rfl ?_
    refine l_do d_make0 (fun g43 => ?_)
    refine v_ops [] (hk := ?_)
    refine v_loop (fun m E H => ∃ (k : Nat), E = [(6, vn k)] ∧ H = [] ∧ m = 0 - k ∧ k ≤ 0) [0, 2, 5, 9, 10, 11, 12, 13, 14, 15, 75, 76, 77, 78, 79, 80, 81, 82, 83, 84, 85, 86, 87, 88, 89, 90, 91, 92, 93, 94, 95, 96, 97, 98, 99, 100, 101, 102, 103, 104, 105, 106, 107, 108, 109, 110, 111, 112, 113, 114, 115, 116, 117, 118, 119, 120, 121, 122, 123, 124, 125, 126, 127, 128, 129, 130, 131, 132, 133, 134, 135, 136, 137, 138, 139, 140, 141, 142, 143, 144, 145, 146, 147, 148, 149, 150, 151, 152, 153, 154, 155, 156, 157, 158, 159, 160, 161, 162, 163, 164, 165, 166, 167, 168, 169, 170, 171, 172, 173, 174, 175, 176, 177, 178, 179, 180, 181, 182, 183, 184, 185, 186, 187, 188, 189, 190, 191, 192, 193, 194, 195, 196, 197, 198, 199] (0) ([(6, vn 0)]) ([]) (h0 := ⟨0, rfl, rfl, by omega, by omega⟩) (hr := ?_)
    rintro _ _ _ ⟨k, rfl, rfl, hmk, hk⟩
    refine v_code [] (hk := ?_)
    first | refine c_ifd rfl (fun h47 => ?_) (fun h47 => ?_) | refine c_ifn rfl (fun h47 => ?_) (fun h47 => ?_) | refine c_if rfl (fun h47 => ?_) (fun h47 => ?_)
    · exact absurd h47 (by omega)
    · refine v_code [] (hk := ?_)
      refine v_loop (fun m E H => ∃ (k : Nat), E = [(9, vn k)] ∧ H = [] ∧ m = 0 - k ∧ k ≤ 0) [0, 5, 11, 12, 13, 14, 15, 127, 128, 129, 130, 131, 132, 133, 134, 135, 136, 137, 138, 139, 140, 141, 142, 143, 144, 145, 146, 147, 148, 149, 150, 151, 152, 153, 154, 155, 156, 157, 158, 159, 160, 161, 162, 163, 164, 165, 166, 167, 168, 169, 170, 171, 172, 173, 174, 175, 176, 177, 178, 179, 180, 181, 182, 183, 184, 185, 186, 187, 188, 189, 190, 191, 192, 193, 194, 195, 196, 197, 198, 199] (0) ([(9, vn 0)]) ([]) (h0 := ⟨0, rfl, rfl, by omega, by omega⟩) (hr := ?_)
      rintro _ _ _ ⟨k, rfl, rfl, hmk, hk⟩
      refine v_code [] (hk := ?_)
      first | refine c_ifd rfl (fun h78 => ?_) (fun h78 => ?_) | refine c_ifn rfl (fun h78 => ?_) (fun h78 => ?_) | refine c_if rfl (fun h78 => ?_) (fun h78 => ?_)
      · exact absurd h78 (by omega)
      · refine v_code [] (hk := ?_)
        refine v_loop (fun m E H => ∃ (k : Nat), E = [(11, vn k)] ∧ H = [] ∧ m = 0 - k ∧ k ≤ 0) [0, 2, 5, 14, 15, 157, 158, 159, 160, 161, 162, 163, 164, 165, 166, 167, 168, 169, 170, 171, 172, 173, 174, 175, 176, 177, 178, 179, 180, 181, 182, 183, 184, 185, 186, 187, 188, 189, 190, 191, 192, 193, 194, 195, 196, 197, 198, 199] (0) ([(11, vn 0)]) ([]) (h0 := ⟨0, rfl, rfl, by omega, by omega⟩) (hr := ?_)
        rintro _ _ _ ⟨k, rfl, rfl, hmk, hk⟩
        refine v_code [] (hk := ?_)
        first | refine c_ifd rfl (fun h130 => ?_) (fun h130 => ?_) | refine c_ifn rfl (fun h130 => ?_) (fun h130 => ?_) | refine c_if rfl (fun h130 => ?_) (fun h130 => ?_)
        · exact absurd h130 (by omega)
        · refine v_code [] (hk := ?_)
          refine v_loop (fun m E H => ∃ (k : Nat), E = [(14, vn k)] ∧ H = [] ∧ m = 0 - k ∧ k ≤ 0) [0, 5] (0) ([(14, vn 0)]) ([]) (h0 := ⟨0, rfl, rfl, by omega, by omega⟩) (hr := ?_)
          rintro _ _ _ ⟨k, rfl, rfl, hmk, hk⟩
          refine v_code [] (hk := ?_)
          first | refine c_ifd rfl (fun h160 => ?_) (fun h160 => ?_) | refine c_ifn rfl (fun h160 => ?_) (fun h160 => ?_) | refine c_if rfl (fun h160 => ?_) (fun h160 => ?_)
          · exact absurd h160 (by omega)
          · refine v_code [] (hk := ?_)
            refine v_ret rfl [] (.cons (.tmp rfl) .nil) (h := ?_)
            exact ⟨rfl, rfl⟩
theorem flatInts0 : CSpec Tryz.prog 99 [.one (.sl 0 none 0 0)] [] [] fun o L => o = .ret (vb true) ∧ L = [] := by
  refine v_enter Tryz.func99 (h := fun w0 => ?_)
  refine v_code [] (hk := ?_)
  refine v_loop (fun m E H => ∃ (k : Nat), E = [(3, vn k)] ∧ H = [] ∧ m = 0 - k ∧ k ≤ 0) [0, 2, 5, 6, 7, 8, 9, 10, 11, 12, 13, 14, 15, 40, 41, 42, 43, 44, 45, 46, 47, 48, 49, 50, 51, 52, 53, 54, 55, 56, 57, 58, 59, 60, 61, 62, 63, 64, 65, 66, 67, 68, 69, 70, 71, 72, 73, 74, 75, 76, 77, 78, 79, 80, 81, 82, 83, 84, 85, 86, 87, 88, 89, 90, 91, 92, 93, 94, 95, 96, 97, 98, 99, 100, 101, 102, 103, 104, 105, 106, 107, 108, 109, 110, 111, 112, 113, 114, 115, 116, 117, 118, 119, 120, 121, 122, 123, 124, 125, 126, 127, 128, 129, 130, 131, 132, 133, 134, 135, 136, 137, 138, 139, 140, 141, 142, 143, 144, 145, 146, 147, 148, 149, 150, 151, 152, 153, 154, 155, 156, 157, 158, 159, 160, 161, 162, 163, 164, 165, 166, 167, 168, 169, 170, 171, 172, 173, 174, 175, 176, 177, 178, 179, 180, 181, 182, 183, 184, 185, 186, 187, 188, 189, 190, 191, 192] (0) ([(3, vn 0)]) ([]) (h0 := ⟨0, rfl, rfl, by omega, by omega⟩) (hr := ?_)
  rintro _ _ _ ⟨k, rfl, rfl, hmk, hk⟩
  refine v_code [] (hk := ?_)
  first | refine c_ifd rfl (fun h19 => ?_) (fun h19 => ?_) | refine c_ifn rfl (fun h19 => ?_) (fun h19 => ?_) | refine c_if rfl (fun h19 => ?_) (fun h19 => ?_)
  · exact absurd h19 (by omega)
  · refine v_code [] (hk := ?_)
    refine k_val 41 (vint 0) rfl rfl ?_
    refine l_do d_make0 (fun g42 => ?_)
    refine v_ops [] (hk := ?_)
    refine v_loop (fun m E H => ∃ (k : Nat), E = [(6, vn k)] ∧ H = [] ∧ m = 0 - k ∧ k ≤ 0) [0, 2, 5, 9, 10, 11, 12, 13, 14, 15, 73, 74, 75, 76, 77, 78, 79, 80, 81, 82, 83, 84, 85, 86, 87, 88, 89, 90, 91, 92, 93, 94, 95, 96, 97, 98, 99, 100, 101, 102, 103, 104, 105, 106, 107, 108, 109, 110, 111, 112, 113, 114, 115, 116, 117, 118, 119, 120, 121, 122, 123, 124, 125, 126, 127, 128, 129, 130, 131, 132, 133, 134, 135, 136, 137, 138, 139, 140, 141, 142, 143, 144, 145, 146, 147, 148, 149, 150, 151, 152, 153, 154, 155, 156, 157, 158, 159, 160, 161, 162, 163, 164, 165, 166, 167, 168, 169, 170, 171, 172, 173, 174, 175, 176, 177, 178, 179, 180, 181, 182, 183, 184, 185, 186, 187, 188, 189, 190, 191, 192] (0) ([(6, vn 0)]) ([]) (h0 := ⟨0, rfl, rfl, by omega, by omega⟩) (hr := ?_)
    rintro _ _ _ ⟨k, rfl, rfl, hmk, hk⟩
    refine v_code [] (hk := ?_)
    first | refine c_ifd rfl (fun h46 => ?_) (fun h46 => ?_) | refine c_ifn rfl (fun h46 => ?_) (fun h46 => ?_) | refine c_if rfl (fun h46 => ?_) (fun h46 => ?_)
    · exact absurd h46 (by omega)
    · refine v_code [] (hk := ?_)
      refine v_loop (fun m E H => ∃ (k : Nat), E = [(9, vn k)] ∧ H = [] ∧ m = 0 - k ∧ k ≤ 0) [0, 5, 11, 12, 13, 14, 15, 123, 124, 125, 126, 127, 128, 129, 130, 131, 132, 133, 134, 135, 136, 137, 138, 139, 140, 141, 142, 143, 144, 145, 146, 147, 148, 149, 150, 151, 152, 153, 154, 155, 156, 157, 158, 159, 160, 161, 162, 163, 164, 165, 166, 167, 168, 169, 170, 171, 172, 173, 174, 175, 176, 177, 178, 179, 180, 181, 182, 183, 184, 185, 186, 187, 188, 189, 190, 191, 192] (0) ([(9, vn 0)]) ([]) (h0 := ⟨0, rfl, rfl, by omega, by omega⟩) (hr := ?_)
      rintro _ _ _ ⟨k, rfl, rfl, hmk, hk⟩
      refine v_code [] (hk := ?_)
      first | refine c_ifd rfl (fun h76 => ?_) (fun h76 => ?_) | refine c_ifn rfl (fun h76 => ?_) (fun h76 => ?_) | refine c_if rfl (fun h76 => ?_) (fun h76 => ?_)
      · exact absurd h76 (by omega)
      · refine v_code [] (hk := ?_)
        refine v_loop (fun m E H => ∃ (k : Nat), E = [(11, vn k)] ∧ H = [] ∧ m = 0 - k ∧ k ≤ 0) [0, 2, 5, 14, 15, 152, 153, 154, 155, 156, 157, 158, 159, 160, 161, 162, 163, 164, 165, 166, 167, 168, 169, 170, 171, 172, 173, 174, 175, 176, 177, 178, 179, 180, 181, 182, 183, 184, 185, 186, 187, 188, 189, 190, 191, 192] (0) ([(11, vn 0)]) ([]) (h0 := ⟨0, rfl, rfl, by omega, by omega⟩) (hr := ?_)
        rintro _ _ _ ⟨k, rfl, rfl, hmk, hk⟩
        refine v_code [] (hk := ?_)
        first | refine c_ifd rfl (fun h126 => ?_) (fun h126 => ?_) | refine c_ifn rfl (fun h126 => ?_) (fun h126 => ?_) | refine c_if rfl (fun h126 => ?_) (fun h126 => ?_)
        · exact absurd h126 (by omega)
        · refine v_code [] (hk := ?_)
          refine v_loop (fun m E H => ∃ (k : Nat), E = [(14, vn k)] ∧ H = [] ∧ m = 0 - k ∧ k ≤ 0) [0, 5] (0) ([(14, vn 0)]) ([]) (h0 := ⟨0, rfl, rfl, by omega, by omega⟩) (hr := ?_)
          rintro _ _ _ ⟨k, rfl, rfl, hmk, hk⟩
          refine v_code [] (hk := ?_)
          first | refine c_ifd rfl (fun h155 => ?_) (fun h155 => ?_) | refine c_ifn rfl (fun h155 => ?_) (fun h155 => ?_) | refine c_if rfl (fun h155 => ?_) (fun h155 => ?_)
          · exact absurd h155 (by omega)
          · refine v_code [] (hk := ?_)
            refine v_ret rfl [] (.cons (.tmp rfl) .nil) (h := ?_)
            exact ⟨rfl, rfl⟩
theorem flatLongs0 : CSpec Tryz.prog 100 [.one (.sl 0 none 0 0)] [] [] fun o L => o = .ret (vb true) ∧ L = [] := by
  refine v_enter Tryz.func100 (h := fun w0 => ?_)
  refine v_code [] (hk := ?_)
  refine v_loop (fun m E H => ∃ (k : Nat), E = [(3, vn k)] ∧ H = [] ∧ m = 0 - k ∧ k ≤ 0) [0, 2, 5, 6, 7, 8, 9, 10, 11, 12, 13, 14, 15, 40, 41, 42, 43, 44, 45, 46, 47, 48, 49, 50, 51, 52, 53, 54, 55, 56, 57, 58, 59, 60, 61, 62, 63, 64, 65, 66, 67, 68, 69, 70, 71, 72, 73, 74, 75, 76, 77, 78, 79, 80, 81, 82, 83, 84, 85, 86, 87, 88, 89, 90, 91, 92, 93, 94, 95, 96, 97, 98, 99, 100, 101, 102, 103, 104, 105, 106, 107, 108, 109, 110, 111, 112, 113, 114, 115, 116, 117, 118, 119, 120, 121, 122, 123, 124, 125, 126, 127, 128, 129, 130, 131, 132, 133, 134, 135, 136, 137, 138, 139, 140, 141, 142, 143, 144, 145, 146, 147, 148, 149, 150, 151, 152, 153, 154, 155, 156, 157, 158, 159, 160, 161, 162, 163, 164, 165, 166, 167, 168, 169, 170, 171, 172, 173, 174, 175, 176, 177, 178, 179, 180, 181, 182, 183, 184, 185, 186, 187, 188, 189, 190, 191, 192] (0) ([(3, vn 0)]) ([]) (h0 := ⟨0, rfl, rfl, by omega, by omega⟩) (hr := ?_)
  rintro _ _ _ ⟨k, rfl, rfl, hmk, hk⟩
  refine v_code [] (hk := ?_)
  first | refine c_ifd rfl (fun h19 => ?_) (fun h19 => ?_) | refine c_ifn rfl (fun h19 => ?_) (fun h19 => ?_) | refine c_if rfl (fun h19 => ?_) (fun h19 => ?_)
  · exact absurd h19 (by omega)
  · refine v_code [] (hk := ?_)
    refine k_val 41 (vint 0) rfl rfl ?_
    refine l_do d_make0 (fun g42 => ?_)
    refine v_ops [] (hk := ?_)
    refine v_loop (fun m E H => ∃ (k : Nat), E = [(6, vn k)] ∧ H = [] ∧ m = 0 - k ∧ k ≤ 0) [0, 2, 5, 9, 10, 11, 12, 13, 14, 15, 73, 74, 75, 76, 77, 78, 79, 80, 81, 82, 83, 84, 85, 86, 87, 88, 89, 90, 91, 92, 93, 94, 95, 96, 97, 98, 99, 100, 101, 102, 103, 104, 105, 106, 107, 108, 109, 110, 111, 112, 113, 114, 115, 116, 117, 118, 119, 120, 121, 122, 123, 124, 125, 126, 127, 128, 129, 130, 131, 132, 133, 134, 135, 136, 137, 138, 139, 140, 141, 142, 143, 144, 145, 146, 147, 148, 149, 150, 151, 152, 153, 154, 155, 156, 157, 158, 159, 160, 161, 162, 163, 164, 165, 166, 167, 168, 169, 170, 171, 172, 173, 174, 175, 176, 177, 178, 179, 180, 181, 182, 183, 184, 185, 186, 187, 188, 189, 190, 191, 192] (0) ([(6, vn 0)]) ([]) (h0 := ⟨0, rfl, rfl, by omega, by omega⟩) (hr := ?_)
    rintro _ _ _ ⟨k, rfl, rfl, hmk, hk⟩
    refine v_code [] (hk := ?_)
    first | refine c_ifd rfl (fun h46 => ?_) (fun h46 => ?_) | refine c_ifn rfl (fun h46 => ?_) (fun h46 => ?_) | refine c_if rfl (fun h46 => ?_) (fun h46 => ?_)
    · exact absurd h46 (by omega)
    · refine v_code [] (hk := ?_)
      refine v_loop (fun m E H => ∃ (k : Nat), E = [(9, vn k)] ∧ H = [] ∧ m = 0 - k ∧ k ≤ 0) [0, 5, 11, 12, 13, 14, 15, 123, 124, 125, 126, 127, 128, 129, 130, 131, 132, 133, 134, 135, 136, 137, 138, 139, 140, 141, 142, 143, 144, 145, 146, 147, 148, 149, 150, 151, 152, 153, 154, 155, 156, 157, 158, 159, 160, 161, 162, 163, 164, 165, 166, 167, 168, 169, 170, 171, 172, 173, 174, 175, 176, 177, 178, 179, 180, 181, 182, 183, 184, 185, 186, 187, 188, 189, 190, 191, 192] (0) ([(9, vn 0)]) ([]) (h0 := ⟨0, rfl, rfl, by omega, by omega⟩) (hr := ?_)
      rintro _ _ _ ⟨k, rfl, rfl, hmk, hk⟩
      refine v_code [] (hk := ?_)
      first | refine c_ifd rfl (fun h76 => ?_) (fun h76 => ?_) | refine c_ifn rfl (fun h76 => ?_) (fun h76 => ?_) | refine c_if rfl (fun h76 => ?_) (fun h76 => ?_)
      · exact absurd h76 (by omega)
      · refine v_code [] (hk := ?_)
        refine v_loop (fun m E H => ∃ (k : Nat), E = [(11, vn k)] ∧ H = [] ∧ m = 0 - k ∧ k ≤ 0) [0, 2, 5, 14, 15, 152, 153, 154, 155, 156, 157, 158, 159, 160, 161, 162, 163, 164, 165, 166, 167, 168, 169, 170, 171, 172, 173, 174, 175, 176, 177, 178, 179, 180, 181, 182, 183, 184, 185, 186, 187, 188, 189, 190, 191, 192] (0) ([(11, vn 0)]) ([]) (h0 := ⟨0, rfl, rfl, by omega, by omega⟩) (hr := ?_)
        rintro _ _ _ ⟨k, rfl, rfl, hmk, hk⟩
        refine v_code [] (hk := ?_)
        first | refine c_ifd rfl (fun h126 => ?_) (fun h126 => ?_) | refine c_ifn rfl (fun h126 => ?_) (fun h126 => ?_) | refine c_if rfl (fun h126 => ?_) (fun h126 => ?_)
        · exact absurd h126 (by omega)
        · refine v_code [] (hk := ?_)
          refine v_loop (fun m E H => ∃ (k : Nat), E = [(14, vn k)] ∧ H = [] ∧ m = 0 - k ∧ k ≤ 0) [0, 5] (0) ([(14, vn 0)]) ([]) (h0 := ⟨0, rfl, rfl, by omega, by omega⟩) (hr := ?_)
          rintro _ _ _ ⟨k, rfl, rfl, hmk, hk⟩
          refine v_code [] (hk := ?_)
          first | refine c_ifd rfl (fun h155 => ?_) (fun h155 => ?_) | refine c_ifn rfl (fun h155 => ?_) (fun h155 => ?_) | refine c_if rfl (fun h155 => ?_) (fun h155 => ?_)
          · exact absurd h155 (by omega)
          · refine v_code [] (hk := ?_)
            refine v_ret rfl [] (.cons (.tmp rfl) .nil) (h := ?_)
            exact ⟨rfl, rfl⟩
theorem flatTexts0 : CSpec Tryz.prog 101 [.one (.sl 0 none 0 0)] [] [] fun o L => o = .ret (vb true) ∧ L = [] := by
  refine v_enter Tryz.func101 (h := fun w0 => ?_)
  refine v_code [] (hk := ?_)
  refine v_loop (fun m E H => ∃ (k : Nat), E = [(3, vn k)] ∧ H = [] ∧ m = 0 - k ∧ k ≤ 0) [0, 2, 5, 6, 7, 8, 9, 10, 11, 12, 13, 14, 15, 40, 41, 42, 43, 44, 45, 46, 47, 48, 49, 50, 51, 52, 53, 54, 55, 56, 57, 58, 59, 60, 61, 62, 63, 64, 65, 66, 67, 68, 69, 70, 71, 72, 73, 74, 75, 76, 77, 78, 79, 80, 81, 82, 83, 84, 85, 86, 87, 88, 89, 90, 91, 92, 93, 94, 95, 96, 97, 98, 99, 100, 101, 102, 103, 104, 105, 106, 107, 108, 109, 110, 111, 112, 113, 114, 115, 116, 117, 118, 119, 120, 121, 122, 123, 124, 125, 126, 127, 128, 129, 130, 131, 132, 133, 134, 135, 136, 137, 138, 139, 140, 141, 142, 143, 144, 145, 146, 147, 148, 149, 150, 151, 152, 153, 154, 155, 156, 157, 158, 159, 160, 161, 162, 163, 164, 165, 166, 167, 168, 169, 170, 171, 172, 173, 174, 175, 176, 177, 178, 179, 180, 181, 182, 183, 184, 185, 186, 187, 188, 189, 190, 191, 192] (0) ([(3, vn 0)]) ([]) (h0 := ⟨0, rfl, rfl, by omega, by omega⟩) (hr := ?_)
  rintro _ _ _ ⟨k, rfl, rfl, hmk, hk⟩
  refine v_code [] (hk := ?_)
  first | refine c_ifd rfl (fun h19 => ?_) (fun h19 => ?_) | refine c_ifn rfl (fun h19 => ?_) (fun h19 => ?_) | refine c_if rfl (fun h19 => ?_) (fun h19 => ?_)
  · exact absurd h19 (by omega)
  · refine v_code [] (hk := ?_)
    refine k_val 41 (vint 0) rfl rfl ?_
    refine l_do d_make0 (fun g42 => ?_)
    refine v_ops [] (hk := ?_)
    refine v_loop (fun m E H => ∃ (k : Nat), E = [(6, vn k)] ∧ H = [] ∧ m = 0 - k ∧ k ≤ 0) [0, 2, 5, 9, 10, 11, 12, 13, 14, 15, 73, 74, 75, 76, 77, 78, 79, 80, 81, 82, 83, 84, 85, 86, 87, 88, 89, 90, 91, 92, 93, 94, 95, 96, 97, 98, 99, 100, 101, 102, 103, 104, 105, 106, 107, 108, 109, 110, 111, 112, 113, 114, 115, 116, 117, 118, 119, 120, 121, 122, 123, 124, 125, 126, 127, 128, 129, 130, 131, 132, 133, 134, 135, 136, 137, 138, 139, 140, 141, 142, 143, 144, 145, 146, 147, 148, 149, 150, 151, 152, 153, 154, 155, 156, 157, 158, 159, 160, 161, 162, 163, 164, 165, 166, 167, 168, 169, 170, 171, 172, 173, 174, 175, 176, 177, 178, 179, 180, 181, 182, 183, 184, 185, 186, 187, 188, 189, 190, 191, 192] (0) ([(6, vn 0)]) ([]) (h0 := ⟨0, rfl, rfl, by omega, by omega⟩) (hr := ?_)
    rintro _ _ _ ⟨k, rfl, rfl, hmk, hk⟩
    refine v_code [] (hk := ?_)
    first | refine c_ifd rfl (fun h46 => ?_) (fun h46 => ?_) | refine c_ifn rfl (fun h46 => ?_) (fun h46 => ?_) | refine c_if rfl (fun h46 => ?_) (fun h46 => ?_)
    · exact absurd h46 (by omega)
    · refine v_code [] (hk := ?_)
      refine v_loop (fun m E H => ∃ (k : Nat), E = [(9, vn k)] ∧ H = [] ∧ m = 0 - k ∧ k ≤ 0) [0, 5, 11, 12, 13, 14, 15, 123, 124, 125, 126, 127, 128, 129, 130, 131, 132, 133, 134, 135, 136, 137, 138, 139, 140, 141, 142, 143, 144, 145, 146, 147, 148, 149, 150, 151, 152, 153, 154, 155, 156, 157, 158, 159, 160, 161, 162, 163, 164, 165, 166, 167, 168, 169, 170, 171, 172, 173, 174, 175, 176, 177, 178, 179, 180, 181, 182, 183, 184, 185, 186, 187, 188, 189, 190, 191, 192] (0) ([(9, vn 0)]) ([]) (h0 := ⟨0, rfl, rfl, by omega, by omega⟩) (hr := ?_)
      rintro _ _ _ ⟨k, rfl, rfl, hmk, hk⟩
      refine v_code [] (hk := ?_)
      first | refine c_ifd rfl (fun h76 => ?_) (fun h76 => ?_) | refine c_ifn rfl (fun h76 => ?_) (fun h76 => ?_) | refine c_if rfl (fun h76 => ?_) (fun h76 => ?_)
      · exact absurd h76 (by omega)
      · refine v_code [] (hk := ?_)
        refine v_loop (fun m E H => ∃ (k : Nat), E = [(11, vn k)] ∧ H = [] ∧ m = 0 - k ∧ k ≤ 0) [0, 2, 5, 14, 15, 152, 153, 154, 155, 156, 157, 158, 159, 160, 161, 162, 163, 164, 165, 166, 167, 168, 169, 170, 171, 172, 173, 174, 175, 176, 177, 178, 179, 180, 181, 182, 183, 184, 185, 186, 187, 188, 189, 190, 191, 192] (0) ([(11, vn 0)]) ([]) (h0 := ⟨0, rfl, rfl, by omega, by omega⟩) (hr := ?_)
        rintro _ _ _ ⟨k, rfl, rfl, hmk, hk⟩
        refine v_code [] (hk := ?_)
        first | refine c_ifd rfl (fun h126 => ?_) (fun h126 => ?_) | refine c_ifn rfl (fun h126 => ?_) (fun h126 => ?_) | refine c_if rfl (fun h126 => ?_) (fun h126 => ?_)
        · exact absurd h126 (by omega)
        · refine v_code [] (hk := ?_)
          refine v_loop (fun m E H => ∃ (k : Nat), E = [(14, vn k)] ∧ H = [] ∧ m = 0 - k ∧ k ≤ 0) [0, 5] (0) ([(14, vn 0)]) ([]) (h0 := ⟨0, rfl, rfl, by omega, by omega⟩) (hr := ?_)
          rintro _ _ _ ⟨k, rfl, rfl, hmk, hk⟩
          refine v_code [] (hk := ?_)
          first | refine c_ifd rfl (fun h155 => ?_) (fun h155 => ?_) | refine c_ifn rfl (fun h155 => ?_) (fun h155 => ?_) | refine c_if rfl (fun h155 => ?_) (fun h155 => ?_)
          · exact absurd h155 (by omega)
          · refine v_code [] (hk := ?_)
            refine v_ret rfl [] (.cons (.tmp rfl) .nil) (h := ?_)
            exact ⟨rfl, rfl⟩
theorem flatBytes0 : CSpec Tryz.prog 102 [.one (.sl 0 none 0 0)] [] [] fun o L => o = .ret (vb true) ∧ L = [] := by
  refine v_enter Tryz.func102 (h := fun w0 => ?_)
  refine v_code [] (hk := ?_)
  refine v_loop (fun m E H => ∃ (k : Nat), E = [(3, vn k)] ∧ H = [] ∧ m = 0 - k ∧ k ≤ 0) [0, 2, 5, 6, 7, 8, 9, 10, 11, 12, 13, 14, 15, 40, 41, 42, 43, 44, 45, 46, 47, 48, 49, 50, 51, 52, 53, 54, 55, 56, 57, 58, 59, 60, 61, 62, 63, 64, 65, 66, 67, 68, 69, 70, 71, 72, 73, 74, 75, 76, 77, 78, 79, 80, 81, 82, 83, 84, 85, 86, 87, 88, 89, 90, 91, 92, 93, 94, 95, 96, 97, 98, 99, 100, 101, 102, 103, 104, 105, 106, 107, 108, 109, 110, 111, 112, 113, 114, 115, 116, 117, 118, 119, 120, 121, 122, 123, 124, 125, 126, 127, 128, 129, 130, 131, 132, 133, 134, 135, 136, 137, 138, 139, 140, 141, 142, 143, 144, 145, 146, 147, 148, 149, 150, 151, 152, 153, 154, 155, 156, 157, 158, 159, 160, 161, 162, 163, 164, 165, 166, 167, 168, 169, 170, 171, 172, 173, 174, 175, 176, 177, 178, 179, 180, 181, 182, 183, 184, 185, 186, 187, 188, 189, 190, 191, 192] (0) ([(3, vn 0)]) ([]) (h0 := ⟨0, rfl, rfl, by omega, by omega⟩) (hr := ?_)
  rintro _ _ _ ⟨k, rfl, rfl, hmk, hk⟩
  refine v_code [] (hk := ?_)
  first | refine c_ifd rfl (fun h19 => ?_) (fun h19 => ?_) | refine c_ifn rfl (fun h19 => ?_) (fun h19 => ?_) | refine c_if rfl (fun h19 => ?_) (fun h19 => ?_)
  · exact absurd h19 (by omega)
  · refine v_code [] (hk := ?_)
    refine k_val 41 (vint 0) rfl rfl ?_
    refine l_do d_make0 (fun g42 => ?_)
    refine v_ops [] (hk := ?_)
    refine v_loop (fun m E H => ∃ (k : Nat), E = [(6, vn k)] ∧ H = [] ∧ m = 0 - k ∧ k ≤ 0) [0, 2, 5, 9, 10, 11, 12, 13, 14, 15, 73, 74, 75, 76, 77, 78, 79, 80, 81, 82, 83, 84, 85, 86, 87, 88, 89, 90, 91, 92, 93, 94, 95, 96, 97, 98, 99, 100, 101, 102, 103, 104, 105, 106, 107, 108, 109, 110, 111, 112, 113, 114, 115, 116, 117, 118, 119, 120, 121, 122, 123, 124, 125, 126, 127, 128, 129, 130, 131, 132, 133, 134, 135, 136, 137, 138, 139, 140, 141, 142, 143, 144, 145, 146, 147, 148, 149, 150, 151, 152, 153, 154, 155, 156, 157, 158, 159, 160, 161, 162, 163, 164, 165, 166, 167, 168, 169, 170, 171, 172, 173, 174, 175, 176, 177, 178, 179, 180, 181, 182, 183, 184, 185, 186, 187, 188, 189, 190, 191, 192] (0) ([(6, vn 0)]) ([]) (h0 := ⟨0, rfl, rfl, by omega, by omega⟩) (hr := ?_)
    rintro _ _ _ ⟨k, rfl, rfl, hmk, hk⟩
    refine v_code [] (hk := ?_)
    first | refine c_ifd rfl (fun h46 => ?_) (fun h46 => ?_) | refine c_ifn rfl (fun h46 => ?_) (fun h46 => ?_) | refine c_if rfl (fun h46 => ?_) (fun h46 => ?_)
    · exact absurd h46 (by omega)
    · refine v_code [] (hk := ?_)
      refine v_loop (fun m E H => ∃ (k : Nat), E = [(9, vn k)] ∧ H = [] ∧ m = 0 - k ∧ k ≤ 0) [0, 5, 11, 12, 13, 14, 15, 123, 124, 125, 126, 127, 128, 129, 130, 131, 132, 133, 134, 135, 136, 137, 138, 139, 140, 141, 142, 143, 144, 145, 146, 147, 148, 149, 150, 151, 152, 153, 154, 155, 156, 157, 158, 159, 160, 161, 162, 163, 164, 165, 166, 167, 168, 169, 170, 171, 172, 173, 174, 175, 176, 177, 178, 179, 180, 181, 182, 183, 184, 185, 186, 187, 188, 189, 190, 191, 192] (0) ([(9, vn 0)]) ([]) (h0 := ⟨0, rfl, rfl, by omega, by omega⟩) (hr := ?_)
      rintro _ _ _ ⟨k, rfl, rfl, hmk, hk⟩
      refine v_code [] (hk := ?_)
      first | refine c_ifd rfl (fun h76 => ?_) (fun h76 => ?_) | refine c_ifn rfl (fun h76 => ?_) (fun h76 => ?_) | refine c_if rfl (fun h76 => ?_) (fun h76 => ?_)
      · exact absurd h76 (by omega)
      · refine v_code [] (hk := ?_)
        refine v_loop (fun m E H => ∃ (k : Nat), E = [(11, vn k)] ∧ H = [] ∧ m = 0 - k ∧ k ≤ 0) [0, 2, 5, 14, 15, 152, 153, 154, 155, 156, 157, 158, 159, 160, 161, 162, 163, 164, 165, 166, 167, 168, 169, 170, 171, 172, 173, 174, 175, 176, 177, 178, 179, 180, 181, 182, 183, 184, 185, 186, 187, 188, 189, 190, 191, 192] (0) ([(11, vn 0)]) ([]) (h0 := ⟨0, rfl, rfl, by omega, by omega⟩) (hr := ?_)
        rintro _ _ _ ⟨k, rfl, rfl, hmk, hk⟩
        refine v_code [] (hk := ?_)
        first | refine c_ifd rfl (fun h126 => ?_) (fun h126 => ?_) | refine c_ifn rfl (fun h126 => ?_) (fun h126 => ?_) | refine c_if rfl (fun h126 => ?_) (fun h126 => ?_)
        · exact absurd h126 (by omega)
        · refine v_code [] (hk := ?_)
          refine v_loop (fun m E H => ∃ (k : Nat), E = [(14, vn k)] ∧ H = [] ∧ m = 0 - k ∧ k ≤ 0) [0, 5] (0) ([(14, vn 0)]) ([]) (h0 := ⟨0, rfl, rfl, by omega, by omega⟩) (hr := ?_)
          rintro _ _ _ ⟨k, rfl, rfl, hmk, hk⟩
          refine v_code [] (hk := ?_)
          first | refine c_ifd rfl (fun h155 => ?_) (fun h155 => ?_) | refine c_ifn rfl (fun h155 => ?_) (fun h155 => ?_) | refine c_if rfl (fun h155 => ?_) (fun h155 => ?_)
          · exact absurd h155 (by omega)
          · refine v_code [] (hk := ?_)
            refine v_ret rfl [] (.cons (.tmp rfl) .nil) (h := ?_)
            exact ⟨rfl, rfl⟩
theorem flatTruths0 : CSpec Tryz.prog 103 [.one (.sl 0 none 0 0)] [] [] fun o L => o = .ret (vb true) ∧ L = [] := by
  refine v_enter Tryz.func103 (h := fun w0 => ?_)
  refine v_code [] (hk := ?_)
  refine v_loop (fun m E H => ∃ (k : Nat), E = [(3, vn k)] ∧ H = [] ∧ m = 0 - k ∧ k ≤ 0) [0, 2, 5, 6, 7, 8, 9, 10, 11, 12, 13, 14, 15, 42, 43, 44, 45, 46, 47, 48, 49, 50, 51, 52, 53, 54, 55, 56, 57, 58, 59, 60, 61, 62, 63, 64, 65, 66, 67, 68, 69, 70, 71, 72, 73, 74, 75, 76, 77, 78, 79, 80, 81, 82, 83, 84, 85, 86, 87, 88, 89, 90, 91, 92, 93, 94, 95, 96, 97, 98, 99, 100, 101, 102, 103, 104, 105, 106, 107, 108, 109, 110, 111, 112, 113, 114, 115, 116, 117, 118, 119, 120, 121, 122, 123, 124, 125, 126, 127, 128, 129, 130, 131, 132, 133, 134, 135, 136, 137, 138, 139, 140, 141, 142, 143, 144, 145, 146, 147, 148, 149, 150, 151, 152, 153, 154, 155, 156, 157, 158, 159, 160, 161, 162, 163, 164, 165, 166, 167, 168, 169, 170, 171, 172, 173, 174, 175, 176, 177, 178, 179, 180, 181, 182, 183, 184, 185, 186, 187, 188, 189, 190, 191, 192, 193, 194, 195, 196, 197, 198, 199, 200, 201, 202, 203, 204, 205, 206] (0) ([(3, vn 0)]) ([]) (h0 := ⟨0, rfl, rfl, by omega, by omega⟩) (hr := ?_)
  rintro _ _ _ ⟨k, rfl, rfl, hmk, hk⟩
  refine v_code [] (hk := ?_)
  first | refine c_ifd rfl (fun h19 => ?_) (fun h19 => ?_) | refine c_ifn rfl (fun h19 => ?_) (fun h19 => ?_) | refine c_if rfl (fun h19 => ?_) (fun h19 => ?_)
  · exact absurd h19 (by omega)
  · refine v_code [] (hk := ?_)
    refine k_val 43 (vint 0) rfl rfl ?_
    refine l_do d_make0 (fun g44 => ?_)
    refine v_ops [] (hk := ?_)
    refine v_loop (fun m E H => ∃ (k : Nat), E = [(6, vn k)] ∧ H = [] ∧ m = 0 - k ∧ k ≤ 0) [0, 2, 5, 9, 10, 11, 12, 13, 14, 15, 77, 78, 79, 80, 81, 82, 83, 84, 85, 86, 87, 88, 89, 90, 91, 92, 93, 94, 95, 96, 97, 98, 99, 100, 101, 102, 103, 104, 105, 106, 107, 108, 109, 110, 111, 112, 113, 114, 115, 116, 117, 118, 119, 120, 121, 122, 123, 124, 125, 126, 127, 128, 129, 130, 131, 132, 133, 134, 135, 136, 137, 138, 139, 140, 141, 142, 143, 144, 145, 146, 147, 148, 149, 150, 151, 152, 153, 154, 155, 156, 157, 158, 159, 160, 161, 162, 163, 164, 165, 166, 167, 168, 169, 170, 171, 172, 173, 174, 175, 176, 177, 178, 179, 180, 181, 182, 183, 184, 185, 186, 187, 188, 189, 190, 191, 192, 193, 194, 195, 196, 197, 198, 199, 200, 201, 202, 203, 204, 205, 206] (0) ([(6, vn 0)]) ([]) (h0 := ⟨0, rfl, rfl, by omega, by omega⟩) (hr := ?_)
    rintro _ _ _ ⟨k, rfl, rfl, hmk, hk⟩
    refine v_code [] (hk := ?_)
    first | refine c_ifd rfl (fun h48 => ?_) (fun h48 => ?_) | refine c_ifn rfl (fun h48 => ?_) (fun h48 => ?_) | refine c_if rfl (fun h48 => ?_) (fun h48 => ?_)
    · exact absurd h48 (by omega)
    · refine v_code [] (hk := ?_)
      refine v_loop (fun m E H => ∃ (k : Nat), E = [(9, vn k)] ∧ H = [] ∧ m = 0 - k ∧ k ≤ 0) [0, 5, 11, 12, 13, 14, 15, 131, 132, 133, 134, 135, 136, 137, 138, 139, 140, 141, 142, 143, 144, 145, 146, 147, 148, 149, 150, 151, 152, 153, 154, 155, 156, 157, 158, 159, 160, 161, 162, 163, 164, 165, 166, 167, 168, 169, 170, 171, 172, 173, 174, 175, 176, 177, 178, 179, 180, 181, 182, 183, 184, 185, 186, 187, 188, 189, 190, 191, 192, 193, 194, 195, 196, 197, 198, 199, 200, 201, 202, 203, 204, 205, 206] (0) ([(9, vn 0)]) ([]) (h0 := ⟨0, rfl, rfl, by omega, by omega⟩) (hr := ?_)
      rintro _ _ _ ⟨k, rfl, rfl, hmk, hk⟩
      refine v_code [] (hk := ?_)
      first | refine c_ifd rfl (fun h80 => ?_) (fun h80 => ?_) | refine c_ifn rfl (fun h80 => ?_) (fun h80 => ?_) | refine c_if rfl (fun h80 => ?_) (fun h80 => ?_)
      · exact absurd h80 (by omega)
      · refine v_code [] (hk := ?_)
        refine v_loop (fun m E H => ∃ (k : Nat), E = [(11, vn k)] ∧ H = [] ∧ m = 0 - k ∧ k ≤ 0) [0, 2, 5, 14, 15, 162, 163, 164, 165, 166, 167, 168, 169, 170, 171, 172, 173, 174, 175, 176, 177, 178, 179, 180, 181, 182, 183, 184, 185, 186, 187, 188, 189, 190, 191, 192, 193, 194, 195, 196, 197, 198, 199, 200, 201, 202, 203, 204, 205, 206] (0) ([(11, vn 0)]) ([]) (h0 := ⟨0, rfl, rfl, by omega, by omega⟩) (hr := ?_)
        rintro _ _ _ ⟨k, rfl, rfl, hmk, hk⟩
        refine v_code [] (hk := ?_)
        first | refine c_ifd rfl (fun h134 => ?_) (fun h134 => ?_) | refine c_ifn rfl (fun h134 => ?_) (fun h134 => ?_) | refine c_if rfl (fun h134 => ?_) (fun h134 => ?_)
        · exact absurd h134 (by omega)
        · refine v_code [] (hk := ?_)
          refine v_loop (fun m E H => ∃ (k : Nat), E = [(14, vn k)] ∧ H = [] ∧ m = 0 - k ∧ k ≤ 0) [0, 5] (0) ([(14, vn 0)]) ([]) (h0 := ⟨0, rfl, rfl, by omega, by omega⟩) (hr := ?_)
          rintro _ _ _ ⟨k, rfl, rfl, hmk, hk⟩
          refine v_code [] (hk := ?_)
          first | refine c_ifd rfl (fun h165 => ?_) (fun h165 => ?_) | refine c_ifn rfl (fun h165 => ?_) (fun h165 => ?_) | refine c_if rfl (fun h165 => ?_) (fun h165 => ?_)
          · exact absurd h165 (by omega)
          · refine v_code [] (hk := ?_)
            refine v_ret rfl [] (.cons (.tmp rfl) .nil) (h := ?_)
            exact ⟨rfl, rfl⟩
theorem flatNodes0 : CSpec Tryz.prog 105 [.one (.sl 0 none 0 0)] [] [] fun o L => o = .ret (vb true) ∧ L = [] := by
  refine v_enter Tryz.func105 (h := fun w0 => ?_)
  refine v_code [] (hk := ?_)
  refine v_loop (fun m E H => ∃ (k : Nat), E = [(3, vn k)] ∧ H = [] ∧ m = 0 - k ∧ k ≤ 0) [0, 2, 5, 6, 7, 8, 9, 10, 11, 12, 13, 14, 15, 40, 41, 42, 43, 44, 45, 46, 47, 48, 49, 50, 51, 52, 53, 54, 55, 56, 57, 58, 59, 60, 61, 62, 63, 64, 65, 66, 67, 68, 69, 70, 71, 72, 73, 74, 75, 76, 77, 78, 79, 80, 81, 82, 83, 84, 85, 86, 87, 88, 89, 90, 91, 92, 93, 94, 95, 96, 97, 98, 99, 100, 101, 102, 103, 104, 105, 106, 107, 108, 109, 110, 111, 112, 113, 114, 115, 116, 117, 118, 119, 120, 121, 122, 123, 124, 125, 126, 127, 128, 129, 130, 131, 132, 133, 134, 135, 136, 137, 138, 139, 140, 141, 142, 143, 144, 145, 146, 147, 148, 149, 150, 151, 152, 153, 154, 155, 156, 157, 158, 159, 160, 161, 162, 163, 164, 165, 166, 167, 168, 169, 170, 171, 172, 173, 174, 175, 176, 177, 178, 179, 180, 181, 182, 183, 184, 185, 186, 187, 188, 189, 190, 191, 192] (0) ([(3, vn 0)]) ([]) (h0 := ⟨0, rfl, rfl, by omega, by omega⟩) (hr := ?_)
  rintro _ _ _ ⟨k, rfl, rfl, hmk, hk⟩
  refine v_code [] (hk := ?_)
  first | refine c_ifd rfl (fun h19 => ?_) (fun h19 => ?_) | refine c_ifn rfl (fun h19 => ?_) (fun h19 => ?_) | refine c_if rfl (fun h19 => ?_) (fun h19 => ?_)
  · exact absurd h19 (by omega)
  · refine v_code [] (hk := ?_)
    refine k_val 41 (vint 0) rfl rfl ?_
    refine l_do d_make0 (fun g42 => ?_)
    refine v_ops [] (hk := ?_)
    refine v_loop (fun m E H => ∃ (k : Nat), E = [(6, vn k)] ∧ H = [] ∧ m = 0 - k ∧ k ≤ 0) [0, 2, 5, 9, 10, 11, 12, 13, 14, 15, 73, 74, 75, 76, 77, 78, 79, 80, 81, 82, 83, 84, 85, 86, 87, 88, 89, 90, 91, 92, 93, 94, 95, 96, 97, 98, 99, 100, 101, 102, 103, 104, 105, 106, 107, 108, 109, 110, 111, 112, 113, 114, 115, 116, 117, 118, 119, 120, 121, 122, 123, 124, 125, 126, 127, 128, 129, 130, 131, 132, 133, 134, 135, 136, 137, 138, 139, 140, 141, 142, 143, 144, 145, 146, 147, 148, 149, 150, 151, 152, 153, 154, 155, 156, 157, 158, 159, 160, 161, 162, 163, 164, 165, 166, 167, 168, 169, 170, 171, 172, 173, 174, 175, 176, 177, 178, 179, 180, 181, 182, 183, 184, 185, 186, 187, 188, 189, 190, 191, 192] (0) ([(6, vn 0)]) ([]) (h0 := ⟨0, rfl, rfl, by omega, by omega⟩) (hr := ?_)
    rintro _ _ _ ⟨k, rfl, rfl, hmk, hk⟩
    refine v_code [] (hk := ?_)
    first | refine c_ifd rfl (fun h46 => ?_) (fun h46 => ?_) | refine c_ifn rfl (fun h46 => ?_) (fun h46 => ?_) | refine c_if rfl (fun h46 => ?_) (fun h46 => ?_)
    · exact absurd h46 (by omega)
    · refine v_code [] (hk := ?_)
      refine v_loop (fun m E H => ∃ (k : Nat), E = [(9, vn k)] ∧ H = [] ∧ m = 0 - k ∧ k ≤ 0) [0, 5, 11, 12, 13, 14, 15, 123, 124, 125, 126, 127, 128, 129, 130, 131, 132, 133, 134, 135, 136, 137, 138, 139, 140, 141, 142, 143, 144, 145, 146, 147, 148, 149, 150, 151, 152, 153, 154, 155, 156, 157, 158, 159, 160, 161, 162, 163, 164, 165, 166, 167, 168, 169, 170, 171, 172, 173, 174, 175, 176, 177, 178, 179, 180, 181, 182, 183, 184, 185, 186, 187, 188, 189, 190, 191, 192] (0) ([(9, vn 0)]) ([]) (h0 := ⟨0, rfl, rfl, by omega, by omega⟩) (hr := ?_)
      rintro _ _ _ ⟨k, rfl, rfl, hmk, hk⟩
      refine v_code [] (hk := ?_)
      first | refine c_ifd rfl (fun h76 => ?_) (fun h76 => ?_) | refine c_ifn rfl (fun h76 => ?_) (fun h76 => ?_) | refine c_if rfl (fun h76 => ?_) (fun h76 => ?_)
      · exact absurd h76 (by omega)
      · refine v_code [] (hk := ?_)
        refine v_loop (fun m E H => ∃ (k : Nat), E = [(11, vn k)] ∧ H = [] ∧ m = 0 - k ∧ k ≤ 0) [0, 2, 5, 14, 15, 152, 153, 154, 155, 156, 157, 158, 159, 160, 161, 162, 163, 164, 165, 166, 167, 168, 169, 170, 171, 172, 173, 174, 175, 176, 177, 178, 179, 180, 181, 182, 183, 184, 185, 186, 187, 188, 189, 190, 191, 192] (0) ([(11, vn 0)]) ([]) (h0 := ⟨0, rfl, rfl, by omega, by omega⟩) (hr := ?_)
        rintro _ _ _ ⟨k, rfl, rfl, hmk, hk⟩
        refine v_code [] (hk := ?_)
        first | refine c_ifd rfl (fun h126 => ?_) (fun h126 => ?_) | refine c_ifn rfl (fun h126 => ?_) (fun h126 => ?_) | refine c_if rfl (fun h126 => ?_) (fun h126 => ?_)
        · exact absurd h126 (by omega)
        · refine v_code [] (hk := ?_)
          refine v_loop (fun m E H => ∃ (k : Nat), E = [(14, vn k)] ∧ H = [] ∧ m = 0 - k ∧ k ≤ 0) [0, 5] (0) ([(14, vn 0)]) ([]) (h0 := ⟨0, rfl, rfl, by omega, by omega⟩) (hr := ?_)
          rintro _ _ _ ⟨k, rfl, rfl, hmk, hk⟩
          refine v_code [] (hk := ?_)
          first | refine c_ifd rfl (fun h155 => ?_) (fun h155 => ?_) | refine c_ifn rfl (fun h155 => ?_) (fun h155 => ?_) | refine c_if rfl (fun h155 => ?_) (fun h155 => ?_)
          · exact absurd h155 (by omega)
          · refine v_code [] (hk := ?_)
            refine v_ret rfl [] (.cons (.tmp rfl) .nil) (h := ?_)
            exact ⟨rfl, rfl⟩
theorem flatTerms0 : CSpec Tryz.prog 106 [.one (.sl 0 none 0 0)] [] [] fun o L => o = .ret (vb true) ∧ L = [] := by
  refine v_enter Tryz.func106 (h := fun w0 => ?_)
  refine v_code [] (hk := ?_)
  refine v_loop (fun m E H => ∃ (k : Nat), E = [(3, vn k)] ∧ H = [] ∧ m = 0 - k ∧ k ≤ 0) [0, 2, 5, 6, 7, 8, 9, 10, 11, 12, 13, 14, 15, 40, 41, 42, 43, 44, 45, 46, 47, 48, 49, 50, 51, 52, 53, 54, 55, 56, 57, 58, 59, 60, 61, 62, 63, 64, 65, 66, 67, 68, 69, 70, 71, 72, 73, 74, 75, 76, 77, 78, 79, 80, 81, 82, 83, 84, 85, 86, 87, 88, 89, 90, 91, 92, 93, 94, 95, 96, 97, 98, 99, 100, 101, 102, 103, 104, 105, 106, 107, 108, 109, 110, 111, 112, 113, 114, 115, 116, 117, 118, 119, 120, 121, 122, 123, 124, 125, 126, 127, 128, 129, 130, 131, 132, 133, 134, 135, 136, 137, 138, 139, 140, 141, 142, 143, 144, 145, 146, 147, 148, 149, 150, 151, 152, 153, 154, 155, 156, 157, 158, 159, 160, 161, 162, 163, 164, 165, 166, 167, 168, 169, 170, 171, 172, 173, 174, 175, 176, 177, 178, 179, 180, 181, 182, 183, 184, 185, 186, 187, 188, 189, 190, 191, 192] (0) ([(3, vn 0)]) ([]) (h0 := ⟨0, rfl, rfl, by omega, by omega⟩) (hr := ?_)
  rintro _ _ _ ⟨k, rfl, rfl, hmk, hk⟩
  refine v_code [] (hk := ?_)
  first | refine c_ifd rfl (fun h19 => ?_) (fun h19 => ?_) | refine c_ifn rfl (fun h19 => ?_) (fun h19 => ?_) | refine c_if rfl (fun h19 => ?_) (fun h19 => ?_)
  · exact absurd h19 (by omega)
  · refine v_code [] (hk := ?_)
    refine k_val 41 (vint 0) rfl rfl ?_
    refine l_do d_make0 (fun g42 => ?_)
    refine v_ops [] (hk := ?_)
    refine v_loop (fun m E H => ∃ (k : Nat), E = [(6, vn k)] ∧ H = [] ∧ m = 0 - k ∧ k ≤ 0) [0, 2, 5, 9, 10, 11, 12, 13, 14, 15, 73, 74, 75, 76, 77, 78, 79, 80, 81, 82, 83, 84, 85, 86, 87, 88, 89, 90, 91, 92, 93, 94, 95, 96, 97, 98, 99, 100, 101, 102, 103, 104, 105, 106, 107, 108, 109, 110, 111, 112, 113, 114, 115, 116, 117, 118, 119, 120, 121, 122, 123, 124, 125, 126, 127, 128, 129, 130, 131, 132, 133, 134, 135, 136, 137, 138, 139, 140, 141, 142, 143, 144, 145, 146, 147, 148, 149, 150, 151, 152, 153, 154, 155, 156, 157, 158, 159, 160, 161, 162, 163, 164, 165, 166, 167, 168, 169, 170, 171, 172, 173, 174, 175, 176, 177, 178, 179, 180, 181, 182, 183, 184, 185, 186, 187, 188, 189, 190, 191, 192] (0) ([(6, vn 0)]) ([]) (h0 := ⟨0, rfl, rfl, by omega, by omega⟩) (hr := ?_)
    rintro _ _ _ ⟨k, rfl, rfl, hmk, hk⟩
    refine v_code [] (hk := ?_)
    first | refine c_ifd rfl (fun h46 => ?_) (fun h46 => ?_) | refine c_ifn rfl (fun h46 => ?_) (fun h46 => ?_) | refine c_if rfl (fun h46 => ?_) (fun h46 => ?_)
    · exact absurd h46 (by omega)
    · refine v_code [] (hk := ?_)
      refine v_loop (fun m E H => ∃ (k : Nat), E = [(9, vn k)] ∧ H = [] ∧ m = 0 - k ∧ k ≤ 0) [0, 5, 11, 12, 13, 14, 15, 123, 124, 125, 126, 127, 128, 129, 130, 131, 132, 133, 134, 135, 136, 137, 138, 139, 140, 141, 142, 143, 144, 145, 146, 147, 148, 149, 150, 151, 152, 153, 154, 155, 156, 157, 158, 159, 160, 161, 162, 163, 164, 165, 166, 167, 168, 169, 170, 171, 172, 173, 174, 175, 176, 177, 178, 179, 180, 181, 182, 183, 184, 185, 186, 187, 188, 189, 190, 191, 192] (0) ([(9, vn 0)]) ([]) (h0 := ⟨0, rfl, rfl, by omega, by omega⟩) (hr := ?_)
      rintro _ _ _ ⟨k, rfl, rfl, hmk, hk⟩
      refine v_code [] (hk := ?_)
      first | refine c_ifd rfl (fun h76 => ?_) (fun h76 => ?_) | refine c_ifn rfl (fun h76 => ?_) (fun h76 => ?_) | refine c_if rfl (fun h76 => ?_) (fun h76 => ?_)
      · exact absurd h76 (by omega)
      · refine v_code [] (hk := ?_)
        refine v_loop (fun m E H => ∃ (k : Nat), E = [(11, vn k)] ∧ H = [] ∧ m = 0 - k ∧ k ≤ 0) [0, 2, 5, 14, 15, 152, 153, 154, 155, 156, 157, 158, 159, 160, 161, 162, 163, 164, 165, 166, 167, 168, 169, 170, 171, 172, 173, 174, 175, 176, 177, 178, 179, 180, 181, 182, 183, 184, 185, 186, 187, 188, 189, 190, 191, 192] (0) ([(11, vn 0)]) ([]) (h0 := ⟨0, rfl, rfl, by omega, by omega⟩) (hr := ?_)
        rintro _ _ _ ⟨k, rfl, rfl, hmk, hk⟩
        refine v_code [] (hk := ?_)
        first | refine c_ifd rfl (fun h126 => ?_) (fun h126 => ?_) | refine c_ifn rfl (fun h126 => ?_) (fun h126 => ?_) | refine c_if rfl (fun h126 => ?_) (fun h126 => ?_)
        · exact absurd h126 (by omega)
        · refine v_code [] (hk := ?_)
          refine v_loop (fun m E H => ∃ (k : Nat), E = [(14, vn k)] ∧ H = [] ∧ m = 0 - k ∧ k ≤ 0) [0, 5] (0) ([(14, vn 0)]) ([]) (h0 := ⟨0, rfl, rfl, by omega, by omega⟩) (hr := ?_)
          rintro _ _ _ ⟨k, rfl, rfl, hmk, hk⟩
          refine v_code [] (hk := ?_)
          first | refine c_ifd rfl (fun h155 => ?_) (fun h155 => ?_) | refine c_ifn rfl (fun h155 => ?_) (fun h155 => ?_) | refine c_if rfl (fun h155 => ?_) (fun h155 => ?_)
          · exact absurd h155 (by omega)
          · refine v_code [] (hk := ?_)
            refine v_ret rfl [] (.cons (.tmp rfl) .nil) (h := ?_)
            exact ⟨rfl, rfl⟩
theorem flatOutputs0 : CSpec Tryz.prog 109 [.one (.sl 0 none 0 0)] [] [] fun o L => o = .ret (vb true) ∧ L = [] := by
  refine v_enter Tryz.func109 (h := fun w0 => ?_)
  refine v_code [] (hk := ?_)
  refine v_loop (fun m E H => ∃ (k : Nat), E = [(3, vn k)] ∧ H = [] ∧ m = 0 - k ∧ k ≤ 0) [0, 2, 5, 6, 7, 8, 9, 10, 11, 12, 13, 14, 15, 40, 41, 42, 43, 44, 45, 46, 47, 48, 49, 50, 51, 52, 53, 54, 55, 56, 57, 58, 59, 60, 61, 62, 63, 64, 65, 66, 67, 68, 69, 70, 71, 72, 73, 74, 75, 76, 77, 78, 79, 80, 81, 82, 83, 84, 85, 86, 87, 88, 89, 90, 91, 92, 93, 94, 95, 96, 97, 98, 99, 100, 101, 102, 103, 104, 105, 106, 107, 108, 109, 110, 111, 112, 113, 114, 115, 116, 117, 118, 119, 120, 121, 122, 123, 124, 125, 126, 127, 128, 129, 130, 131, 132, 133, 134, 135, 136, 137, 138, 139, 140, 141, 142, 143, 144, 145, 146, 147, 148, 149, 150, 151, 152, 153, 154, 155, 156, 157, 158, 159, 160, 161, 162, 163, 164, 165, 166, 167, 168, 169, 170, 171, 172, 173, 174, 175, 176, 177, 178, 179, 180, 181, 182, 183, 184, 185, 186, 187, 188, 189, 190, 191, 192] (0) ([(3, vn 0)]) ([]) (h0 := ⟨0, rfl, rfl, by omega, by omega⟩) (hr := ?_)
  rintro _ _ _ ⟨k, rfl, rfl, hmk, hk⟩
  refine v_code [] (hk := ?_)
  first | refine c_ifd rfl (fun h19 => ?_) (fun h19 => ?_) | refine c_ifn rfl (fun h19 => ?_) (fun h19 => ?_) | refine c_if rfl (fun h19 => ?_) (fun h19 => ?_)
  · exact absurd h19 (by omega)
  · refine v_code [] (hk := ?_)
    refine k_val 41 (vint 0) rfl rfl ?_
    refine l_do d_make0 (fun g42 => ?_)
    refine v_ops [] (hk := ?_)
    refine v_loop (fun m E H => ∃ (k : Nat), E = [(6, vn k)] ∧ H = [] ∧ m = 0 - k ∧ k ≤ 0) [0, 2, 5, 9, 10, 11, 12, 13, 14, 15, 73, 74, 75, 76, 77, 78, 79, 80, 81, 82, 83, 84, 85, 86, 87, 88, 89, 90, 91, 92, 93, 94, 95, 96, 97, 98, 99, 100, 101, 102, 103, 104, 105, 106, 107, 108, 109, 110, 111, 112, 113, 114, 115, 116, 117, 118, 119, 120, 121, 122, 123, 124, 125, 126, 127, 128, 129, 130, 131, 132, 133, 134, 135, 136, 137, 138, 139, 140, 141, 142, 143, 144, 145, 146, 147, 148, 149, 150, 151, 152, 153, 154, 155, 156, 157, 158, 159, 160, 161, 162, 163, 164, 165, 166, 167, 168, 169, 170, 171, 172, 173, 174, 175, 176, 177, 178, 179, 180, 181, 182, 183, 184, 185, 186, 187, 188, 189, 190, 191, 192] (0) ([(6, vn 0)]) ([]) (h0 := ⟨0, rfl, rfl, by omega, by omega⟩) (hr := ?_)
    rintro _ _ _ ⟨k, rfl, rfl, hmk, hk⟩
    refine v_code [] (hk := ?_)
    first | refine c_ifd rfl (fun h46 => ?_) (fun h46 => ?_) | refine c_ifn rfl (fun h46 => ?_) (fun h46 => ?_) | refine c_if rfl (fun h46 => ?_) (fun h46 => ?_)
    · exact absurd h46 (by omega)
    · refine v_code [] (hk := ?_)
      refine v_loop (fun m E H => ∃ (k : Nat), E = [(9, vn k)] ∧ H = [] ∧ m = 0 - k ∧ k ≤ 0) [0, 5, 11, 12, 13, 14, 15, 123, 124, 125, 126, 127, 128, 129, 130, 131, 132, 133, 134, 135, 136, 137, 138, 139, 140, 141, 142, 143, 144, 145, 146, 147, 148, 149, 150, 151, 152, 153, 154, 155, 156, 157, 158, 159, 160, 161, 162, 163, 164, 165, 166, 167, 168, 169, 170, 171, 172, 173, 174, 175, 176, 177, 178, 179, 180, 181, 182, 183, 184, 185, 186, 187, 188, 189, 190, 191, 192] (0) ([(9, vn 0)]) ([]) (h0 := ⟨0, rfl, rfl, by omega, by omega⟩) (hr := ?_)
      rintro _ _ _ ⟨k, rfl, rfl, hmk, hk⟩
      refine v_code [] (hk := ?_)
      first | refine c_ifd rfl (fun h76 => ?_) (fun h76 => ?_) | refine c_ifn rfl (fun h76 => ?_) (fun h76 => ?_) | refine c_if rfl (fun h76 => ?_) (fun h76 => ?_)
      · exact absurd h76 (by omega)
      · refine v_code [] (hk := ?_)
        refine v_loop (fun m E H => ∃ (k : Nat), E = [(11, vn k)] ∧ H = [] ∧ m = 0 - k ∧ k ≤ 0) [0, 2, 5, 14, 15, 152, 153, 154, 155, 156, 157, 158, 159, 160, 161, 162, 163, 164, 165, 166, 167, 168, 169, 170, 171, 172, 173, 174, 175, 176, 177, 178, 179, 180, 181, 182, 183, 184, 185, 186, 187, 188, 189, 190, 191, 192] (0) ([(11, vn 0)]) ([]) (h0 := ⟨0, rfl, rfl, by omega, by omega⟩) (hr := ?_)
        rintro _ _ _ ⟨k, rfl, rfl, hmk, hk⟩
        refine v_code [] (hk := ?_)
        first | refine c_ifd rfl (fun h126 => ?_) (fun h126 => ?_) | refine c_ifn rfl (fun h126 => ?_) (fun h126 => ?_) | refine c_if rfl (fun h126 => ?_) (fun h126 => ?_)
        · exact absurd h126 (by omega)
        · refine v_code [] (hk := ?_)
          refine v_loop (fun m E H => ∃ (k : Nat), E = [(14, vn k)] ∧ H = [] ∧ m = 0 - k ∧ k ≤ 0) [0, 5] (0) ([(14, vn 0)]) ([]) (h0 := ⟨0, rfl, rfl, by omega, by omega⟩) (hr := ?_)
          rintro _ _ _ ⟨k, rfl, rfl, hmk, hk⟩
          refine v_code [] (hk := ?_)
          first | refine c_ifd rfl (fun h155 => ?_) (fun h155 => ?_) | refine c_ifn rfl (fun h155 => ?_) (fun h155 => ?_) | refine c_if rfl (fun h155 => ?_) (fun h155 => ?_)
          · exact absurd h155 (by omega)
          · refine v_code [] (hk := ?_)
            refine v_ret rfl [] (.cons (.tmp rfl) .nil) (h := ?_)
            exact ⟨rfl, rfl⟩
theorem flatRefs0 : CSpec Tryz.prog 110 [.one (.sl 0 none 0 0)] [] [] fun o L => o = .ret (vb true) ∧ L = [] := by
  refine v_enter Tryz.func110 (h := fun w0 => ?_)
  refine v_code [] (hk := ?_)
  refine v_loop (fun m E H => ∃ (k : Nat), E = [(3, vn k)] ∧ H = [] ∧ m = 0 - k ∧ k ≤ 0) [0, 2, 5, 6, 7, 8, 9, 10, 11, 12, 13, 14, 15, 40, 41, 42, 43, 44, 45, 46, 47, 48, 49, 50, 51, 52, 53, 54, 55, 56, 57, 58, 59, 60, 61, 62, 63, 64, 65, 66, 67, 68, 69, 70, 71, 72, 73, 74, 75, 76, 77, 78, 79, 80, 81, 82, 83, 84, 85, 86, 87, 88, 89, 90, 91, 92, 93, 94, 95, 96, 97, 98, 99, 100, 101, 102, 103, 104, 105, 106, 107, 108, 109, 110, 111, 112, 113, 114, 115, 116, 117, 118, 119, 120, 121, 122, 123, 124, 125, 126, 127, 128, 129, 130, 131, 132, 133, 134, 135, 136, 137, 138, 139, 140, 141, 142, 143, 144, 145, 146, 147, 148, 149, 150, 151, 152, 153, 154, 155, 156, 157, 158, 159, 160, 161, 162, 163, 164, 165, 166, 167, 168, 169, 170, 171, 172, 173, 174, 175, 176, 177, 178, 179, 180, 181, 182, 183, 184, 185, 186, 187, 188, 189, 190, 191, 192] (0) ([(3, vn 0)]) ([]) (h0 := ⟨0, rfl, rfl, by omega, by omega⟩) (hr := ?_)
  rintro _ _ _ ⟨k, rfl, rfl, hmk, hk⟩
  refine v_code [] (hk := ?_)
  first | refine c_ifd rfl (fun h19 => ?_) (fun h19 => ?_) | refine c_ifn rfl (fun h19 => ?_) (fun h19 => ?_) | refine c_if rfl (fun h19 => ?_) (fun h19 => ?_)
  · exact absurd h19 (by omega)
  · refine v_code [] (hk := ?_)
    refine k_val 41 (vint 0) rfl rfl ?_
    refine l_do d_make0 (fun g42 => ?_)
    refine v_ops [] (hk := ?_)
    refine v_loop (fun m E H => ∃ (k : Nat), E = [(6, vn k)] ∧ H = [] ∧ m = 0 - k ∧ k ≤ 0) [0, 2, 5, 9, 10, 11, 12, 13, 14, 15, 73, 74, 75, 76, 77, 78, 79, 80, 81, 82, 83, 84, 85, 86, 87, 88, 89, 90, 91, 92, 93, 94, 95, 96, 97, 98, 99, 100, 101, 102, 103, 104, 105, 106, 107, 108, 109, 110, 111, 112, 113, 114, 115, 116, 117, 118, 119, 120, 121, 122, 123, 124, 125, 126, 127, 128, 129, 130, 131, 132, 133, 134, 135, 136, 137, 138, 139, 140, 141, 142, 143, 144, 145, 146, 147, 148, 149, 150, 151, 152, 153, 154, 155, 156, 157, 158, 159, 160, 161, 162, 163, 164, 165, 166, 167, 168, 169, 170, 171, 172, 173, 174, 175, 176, 177, 178, 179, 180, 181, 182, 183, 184, 185, 186, 187, 188, 189, 190, 191, 192] (0) ([(6, vn 0)]) ([]) (h0 := ⟨0, rfl, rfl, by omega, by omega⟩) (hr := ?_)
    rintro _ _ _ ⟨k, rfl, rfl, hmk, hk⟩
    refine v_code [] (hk := ?_)
    first | refine c_ifd rfl (fun h46 => ?_) (fun h46 => ?_) | refine c_ifn rfl (fun h46 => ?_) (fun h46 => ?_) | refine c_if rfl (fun h46 => ?_) (fun h46 => ?_)
    · exact absurd h46 (by omega)
    · refine v_code [] (hk := ?_)
      refine v_loop (fun m E H => ∃ (k : Nat), E = [(9, vn k)] ∧ H = [] ∧ m = 0 - k ∧ k ≤ 0) [0, 5, 11, 12, 13, 14, 15, 123, 124, 125, 126, 127, 128, 129, 130, 131, 132, 133, 134, 135, 136, 137, 138, 139, 140, 141, 142, 143, 144, 145, 146, 147, 148, 149, 150, 151, 152, 153, 154, 155, 156, 157, 158, 159, 160, 161, 162, 163, 164, 165, 166, 167, 168, 169, 170, 171, 172, 173, 174, 175, 176, 177, 178, 179, 180, 181, 182, 183, 184, 185, 186, 187, 188, 189, 190, 191, 192] (0) ([(9, vn 0)]) ([]) (h0 := ⟨0, rfl, rfl, by omega, by omega⟩) (hr := ?_)
      rintro _ _ _ ⟨k, rfl, rfl, hmk, hk⟩
      refine v_code [] (hk := ?_)
      first | refine c_ifd rfl (fun h76 => ?_) (fun h76 => ?_) | refine c_ifn rfl (fun h76 => ?_) (fun h76 => ?_) | refine c_if rfl (fun h76 => ?_) (fun h76 => ?_)
      · exact absurd h76 (by omega)
      · refine v_code [] (hk := ?_)
        refine v_loop (fun m E H => ∃ (k : Nat), E = [(11, vn k)] ∧ H = [] ∧ m = 0 - k ∧ k ≤ 0) [0, 2, 5, 14, 15, 152, 153, 154, 155, 156, 157, 158, 159, 160, 161, 162, 163, 164, 165, 166, 167, 168, 169, 170, 171, 172, 173, 174, 175, 176, 177, 178, 179, 180, 181, 182, 183, 184, 185, 186, 187, 188, 189, 190, 191, 192] (0) ([(11, vn 0)]) ([]) (h0 := ⟨0, rfl, rfl, by omega, by omega⟩) (hr := ?_)
        rintro _ _ _ ⟨k, rfl, rfl, hmk, hk⟩
        refine v_code [] (hk := ?_)
        first | refine c_ifd rfl (fun h126 => ?_) (fun h126 => ?_) | refine c_ifn rfl (fun h126 => ?_) (fun h126 => ?_) | refine c_if rfl (fun h126 => ?_) (fun h126 => ?_)
        · exact absurd h126 (by omega)
        · refine v_code [] (hk := ?_)
          refine v_loop (fun m E H => ∃ (k : Nat), E = [(14, vn k)] ∧ H = [] ∧ m = 0 - k ∧ k ≤ 0) [0, 5] (0) ([(14, vn 0)]) ([]) (h0 := ⟨0, rfl, rfl, by omega, by omega⟩) (hr := ?_)
          rintro _ _ _ ⟨k, rfl, rfl, hmk, hk⟩
          refine v_code [] (hk := ?_)
          first | refine c_ifd rfl (fun h155 => ?_) (fun h155 => ?_) | refine c_ifn rfl (fun h155 => ?_) (fun h155 => ?_) | refine c_if rfl (fun h155 => ?_) (fun h155 => ?_)
          · exact absurd h155 (by omega)
          · refine v_code [] (hk := ?_)
            refine v_ret rfl [] (.cons (.tmp rfl) .nil) (h := ?_)
            exact ⟨rfl, rfl⟩
theorem flatEntries0 : CSpec Tryz.prog 111 [.one (.sl 0 none 0 0)] [] [] fun o L => o = .ret (vb true) ∧ L = [] := by
  refine v_enter Tryz.func111 (h := fun w0 => ?_)
  refine v_code [] (hk := ?_)
  refine v_loop (fun m E H => ∃ (k : Nat), E = [(3, vn k)] ∧ H = [] ∧ m = 0 - k ∧ k ≤ 0) [0, 2, 5, 6, 7, 8, 9, 10, 11, 12, 13, 14, 15, 40, 41, 42, 43, 44, 45, 46, 47, 48, 49, 50, 51, 52, 53, 54, 55, 56, 57, 58, 59, 60, 61, 62, 63, 64, 65, 66, 67, 68, 69, 70, 71, 72, 73, 74, 75, 76, 77, 78, 79, 80, 81, 82, 83, 84, 85, 86, 87, 88, 89, 90, 91, 92, 93, 94, 95, 96, 97, 98, 99, 100, 101, 102, 103, 104, 105, 106, 107, 108, 109, 110, 111, 112, 113, 114, 115, 116, 117, 118, 119, 120, 121, 122, 123, 124, 125, 126, 127, 128, 129, 130, 131, 132, 133, 134, 135, 136, 137, 138, 139, 140, 141, 142, 143, 144, 145, 146, 147, 148, 149, 150, 151, 152, 153, 154, 155, 156, 157, 158, 159, 160, 161, 162, 163, 164, 165, 166, 167, 168, 169, 170, 171, 172, 173, 174, 175, 176, 177, 178, 179, 180, 181, 182, 183, 184, 185, 186, 187, 188, 189, 190, 191, 192] (0) ([(3, vn 0)]) ([]) (h0 := ⟨0, rfl, rfl, by omega, by omega⟩) (hr := ?_)
  rintro _ _ _ ⟨k, rfl, rfl, hmk, hk⟩
  refine v_code [] (hk := ?_)
  first | refine c_ifd rfl (fun h19 => ?_) (fun h19 => ?_) | refine c_ifn rfl (fun h19 => ?_) (fun h19 => ?_) | refine c_if rfl (fun h19 => ?_) (fun h19 => ?_)
  · exact absurd h19 (by omega)
  · refine v_code [] (hk := ?_)
    refine k_val 41 (vint 0) rfl rfl ?_
    refine l_do d_make0 (fun g42 => ?_)
    refine v_ops [] (hk := ?_)
    refine v_loop (fun m E H => ∃ (k : Nat), E = [(6, vn k)] ∧ H = [] ∧ m = 0 - k ∧ k ≤ 0) [0, 2, 5, 9, 10, 11, 12, 13, 14, 15, 73, 74, 75, 76, 77, 78, 79, 80, 81, 82, 83, 84, 85, 86, 87, 88, 89, 90, 91, 92, 93, 94, 95, 96, 97, 98, 99, 100, 101, 102, 103, 104, 105, 106, 107, 108, 109, 110, 111, 112, 113, 114, 115, 116, 117, 118, 119, 120, 121, 122, 123, 124, 125, 126, 127, 128, 129, 130, 131, 132, 133, 134, 135, 136, 137, 138, 139, 140, 141, 142, 143, 144, 145, 146, 147, 148, 149, 150, 151, 152, 153, 154, 155, 156, 157, 158, 159, 160, 161, 162, 163, 164, 165, 166, 167, 168, 169, 170, 171, 172, 173, 174, 175, 176, 177, 178, 179, 180, 181, 182, 183, 184, 185, 186, 187, 188, 189, 190, 191, 192] (0) ([(6, vn 0)]) ([]) (h0 := ⟨0, rfl, rfl, by omega, by omega⟩) (hr := ?_)
    rintro _ _ _ ⟨k, rfl, rfl, hmk, hk⟩
    refine v_code [] (hk := ?_)
    first | refine c_ifd rfl (fun h46 => ?_) (fun h46 => ?_) | refine c_ifn rfl (fun h46 => ?_) (fun h46 => ?_) | refine c_if rfl (fun h46 => ?_) (fun h46 => ?_)
    · exact absurd h46 (by omega)
    · refine v_code [] (hk := ?_)
      refine v_loop (fun m E H => ∃ (k : Nat), E = [(9, vn k)] ∧ H = [] ∧ m = 0 - k ∧ k ≤ 0) [0, 5, 11, 12, 13, 14, 15, 123, 124, 125, 126, 127, 128, 129, 130, 131, 132, 133, 134, 135, 136, 137, 138, 139, 140, 141, 142, 143, 144, 145, 146, 147, 148, 149, 150, 151, 152, 153, 154, 155, 156, 157, 158, 159, 160, 161, 162, 163, 164, 165, 166, 167, 168, 169, 170, 171, 172, 173, 174, 175, 176, 177, 178, 179, 180, 181, 182, 183, 184, 185, 186, 187, 188, 189, 190, 191, 192] (0) ([(9, vn 0)]) ([]) (h0 := ⟨0, rfl, rfl, by omega, by omega⟩) (hr := ?_)
      rintro _ _ _ ⟨k, rfl, rfl, hmk, hk⟩
      refine v_code [] (hk := ?_)
      first | refine c_ifd rfl (fun h76 => ?_) (fun h76 => ?_) | refine c_ifn rfl (fun h76 => ?_) (fun h76 => ?_) | refine c_if rfl (fun h76 => ?_) (fun h76 => ?_)
      · exact absurd h76 (by omega)
      · refine v_code [] (hk := ?_)
        refine v_loop (fun m E H => ∃ (k : Nat), E = [(11, vn k)] ∧ H = [] ∧ m = 0 - k ∧ k ≤ 0) [0, 2, 5, 14, 15, 152, 153, 154, 155, 156, 157, 158, 159, 160, 161, 162, 163, 164, 165, 166, 167, 168, 169, 170, 171, 172, 173, 174, 175, 176, 177, 178, 179, 180, 181, 182, 183, 184, 185, 186, 187, 188, 189, 190, 191, 192] (0) ([(11, vn 0)]) ([]) (h0 := ⟨0, rfl, rfl, by omega, by omega⟩) (hr := ?_)
        rintro _ _ _ ⟨k, rfl, rfl, hmk, hk⟩
        refine v_code [] (hk := ?_)
        first | refine c_ifd rfl (fun h126 => ?_) (fun h126 => ?_) | refine c_ifn rfl (fun h126 => ?_) (fun h126 => ?_) | refine c_if rfl (fun h126 => ?_) (fun h126 => ?_)
        · exact absurd h126 (by omega)
        · refine v_code [] (hk := ?_)
          refine v_loop (fun m E H => ∃ (k : Nat), E = [(14, vn k)] ∧ H = [] ∧ m = 0 - k ∧ k ≤ 0) [0, 5] (0) ([(14, vn 0)]) ([]) (h0 := ⟨0, rfl, rfl, by omega, by omega⟩) (hr := ?_)
          rintro _ _ _ ⟨k, rfl, rfl, hmk, hk⟩
          refine v_code [] (hk := ?_)
          first | refine c_ifd rfl (fun h155 => ?_) (fun h155 => ?_) | refine c_ifn rfl (fun h155 => ?_) (fun h155 => ?_) | refine c_if rfl (fun h155 => ?_) (fun h155 => ?_)
          · exact absurd h155 (by omega)
          · refine v_code [] (hk := ?_)
            refine v_ret rfl [] (.cons (.tmp rfl) .nil) (h := ?_)
            exact ⟨rfl, rfl⟩
theorem flatInstrs0 : CSpec Tryz.prog 112 [.one (.sl 0 none 0 0)] [] [] fun o L => o = .ret (vb true) ∧ L = [] := by
  refine v_enter Tryz.func112 (h := fun w0 => ?_)
  refine v_code [] (hk := ?_)
  refine v_loop (fun m E H => ∃ (k : Nat), E = [(3, vn k)] ∧ H = [] ∧ m = 0 - k ∧ k ≤ 0) [0, 2, 5, 6, 7, 8, 9, 10, 11, 12, 13, 14, 15, 40, 41, 42, 43, 44, 45, 46, 47, 48, 49, 50, 51, 52, 53, 54, 55, 56, 57, 58, 59, 60, 61, 62, 63, 64, 65, 66, 67, 68, 69, 70, 71, 72, 73, 74, 75, 76, 77, 78, 79, 80, 81, 82, 83, 84, 85, 86, 87, 88, 89, 90, 91, 92, 93, 94, 95, 96, 97, 98, 99, 100, 101, 102, 103, 104, 105, 106, 107, 108, 109, 110, 111, 112, 113, 114, 115, 116, 117, 118, 119, 120, 121, 122, 123, 124, 125, 126, 127, 128, 129, 130, 131, 132, 133, 134, 135, 136, 137, 138, 139, 140, 141, 142, 143, 144, 145, 146, 147, 148, 149, 150, 151, 152, 153, 154, 155, 156, 157, 158, 159, 160, 161, 162, 163, 164, 165, 166, 167, 168, 169, 170, 171, 172, 173, 174, 175, 176, 177, 178, 179, 180, 181, 182, 183, 184, 185, 186, 187, 188, 189, 190, 191, 192] (0) ([(3, vn 0)]) ([]) (h0 := ⟨0, rfl, rfl, by omega, by omega⟩) (hr := ?_)
  rintro _ _ _ ⟨k, rfl, rfl, hmk, hk⟩
  refine v_code [] (hk := ?_)
  first | refine c_ifd rfl (fun h19 => ?_) (fun h19 => ?_) | refine c_ifn rfl (fun h19 => ?_) (fun h19 => ?_) | refine c_if rfl (fun h19 => ?_) (fun h19 => ?_)
  · exact absurd h19 (by omega)
  · refine v_code [] (hk := ?_)
    refine k_val 41 (vint 0) rfl rfl ?_
    refine l_do d_make0 (fun g42 => ?_)
    refine v_ops [] (hk := ?_)
    refine v_loop (fun m E H => ∃ (k : Nat), E = [(6, vn k)] ∧ H = [] ∧ m = 0 - k ∧ k ≤ 0) [0, 2, 5, 9, 10, 11, 12, 13, 14, 15, 73, 74, 75, 76, 77, 78, 79, 80, 81, 82, 83, 84, 85, 86, 87, 88, 89, 90, 91, 92, 93, 94, 95, 96, 97, 98, 99, 100, 101, 102, 103, 104, 105, 106, 107, 108, 109, 110, 111, 112, 113, 114, 115, 116, 117, 118, 119, 120, 121, 122, 123, 124, 125, 126, 127, 128, 129, 130, 131, 132, 133, 134, 135, 136, 137, 138, 139, 140, 141, 142, 143, 144, 145, 146, 147, 148, 149, 150, 151, 152, 153, 154, 155, 156, 157, 158, 159, 160, 161, 162, 163, 164, 165, 166, 167, 168, 169, 170, 171, 172, 173, 174, 175, 176, 177, 178, 179, 180, 181, 182, 183, 184, 185, 186, 187, 188, 189, 190, 191, 192] (0) ([(6, vn 0)]) ([]) (h0 := ⟨0, rfl, rfl, by omega, by omega⟩) (hr := ?_)
    rintro _ _ _ ⟨k, rfl, rfl, hmk, hk⟩
    refine v_code [] (hk := ?_)
    first | refine c_ifd rfl (fun h46 => ?_) (fun h46 => ?_) | refine c_ifn rfl (fun h46 => ?_) (fun h46 => ?_) | refine c_if rfl (fun h46 => ?_) (fun h46 => ?_)
    · exact absurd h46 (by omega)
    · refine v_code [] (hk := ?_)
      refine v_loop (fun m E H => ∃ (k : Nat), E = [(9, vn k)] ∧ H = [] ∧ m = 0 - k ∧ k ≤ 0) [0, 5, 11, 12, 13, 14, 15, 123, 124, 125, 126, 127, 128, 129, 130, 131, 132, 133, 134, 135, 136, 137, 138, 139, 140, 141, 142, 143, 144, 145, 146, 147, 148, 149, 150, 151, 152, 153, 154, 155, 156, 157, 158, 159, 160, 161, 162, 163, 164, 165, 166, 167, 168, 169, 170, 171, 172, 173, 174, 175, 176, 177, 178, 179, 180, 181, 182, 183, 184, 185, 186, 187, 188, 189, 190, 191, 192] (0) ([(9, vn 0)]) ([]) (h0 := ⟨0, rfl, rfl, by omega, by omega⟩) (hr := ?_)
      rintro _ _ _ ⟨k, rfl, rfl, hmk, hk⟩
      refine v_code [] (hk := ?_)
      first | refine c_ifd rfl (fun h76 => ?_) (fun h76 => ?_) | refine c_ifn rfl (fun h76 => ?_) (fun h76 => ?_) | refine c_if rfl (fun h76 => ?_) (fun h76 => ?_)
      · exact absurd h76 (by omega)
      · refine v_code [] (hk := ?_)
        refine v_loop (fun m E H => ∃ (k : Nat), E = [(11, vn k)] ∧ H = [] ∧ m = 0 - k ∧ k ≤ 0) [0, 2, 5, 14, 15, 152, 153, 154, 155, 156, 157, 158, 159, 160, 161, 162, 163, 164, 165, 166, 167, 168, 169, 170, 171, 172, 173, 174, 175, 176, 177, 178, 179, 180, 181, 182, 183, 184, 185, 186, 187, 188, 189, 190, 191, 192] (0) ([(11, vn 0)]) ([]) (h0 := ⟨0, rfl, rfl, by omega, by omega⟩) (hr := ?_)
        rintro _ _ _ ⟨k, rfl, rfl, hmk, hk⟩
        refine v_code [] (hk := ?_)
        first | refine c_ifd rfl (fun h126 => ?_) (fun h126 => ?_) | refine c_ifn rfl (fun h126 => ?_) (fun h126 => ?_) | refine c_if rfl (fun h126 => ?_) (fun h126 => ?_)
        · exact absurd h126 (by omega)
        · refine v_code [] (hk := ?_)
          refine v_loop (fun m E H => ∃ (k : Nat), E = [(14, vn k)] ∧ H = [] ∧ m = 0 - k ∧ k ≤ 0) [0, 5] (0) ([(14, vn 0)]) ([]) (h0 := ⟨0, rfl, rfl, by omega, by omega⟩) (hr := ?_)
          rintro _ _ _ ⟨k, rfl, rfl, hmk, hk⟩
          refine v_code [] (hk := ?_)
          first | refine c_ifd rfl (fun h155 => ?_) (fun h155 => ?_) | refine c_ifn rfl (fun h155 => ?_) (fun h155 => ?_) | refine c_if rfl (fun h155 => ?_) (fun h155 => ?_)
          · exact absurd h155 (by omega)
          · refine v_code [] (hk := ?_)
            refine v_ret rfl [] (.cons (.tmp rfl) .nil) (h := ?_)
            exact ⟨rfl, rfl⟩
theorem flatPrograms0 : CSpec Tryz.prog 113 [.one (.sl 0 none 0 0)] [] [] fun o L => o = .ret (vb true) ∧ L = [] := by
  refine v_enter Tryz.func113 (h := fun w0 => ?_)
  refine v_code [] (hk := ?_)
  refine v_loop (fun m E H => ∃ (k : Nat), E = [(3, vn k)] ∧ H = [] ∧ m = 0 - k ∧ k ≤ 0) [0, 2, 5, 6, 7, 8, 9, 10, 11, 12, 13, 14, 15, 40, 41, 42, 43, 44, 45, 46, 47, 48, 49, 50, 51, 52, 53, 54, 55, 56, 57, 58, 59, 60, 61, 62, 63, 64, 65, 66, 67, 68, 69, 70, 71, 72, 73, 74, 75, 76, 77, 78, 79, 80, 81, 82, 83, 84, 85, 86, 87, 88, 89, 90, 91, 92, 93, 94, 95, 96, 97, 98, 99, 100, 101, 102, 103, 104, 105, 106, 107, 108, 109, 110, 111, 112, 113, 114, 115, 116, 117, 118, 119, 120, 121, 122, 123, 124, 125, 126, 127, 128, 129, 130, 131, 132, 133, 134, 135, 136, 137, 138, 139, 140, 141, 142, 143, 144, 145, 146, 147, 148, 149, 150, 151, 152, 153, 154, 155, 156, 157, 158, 159, 160, 161, 162, 163, 164, 165, 166, 167, 168, 169, 170, 171, 172, 173, 174, 175, 176, 177, 178, 179, 180, 181, 182, 183, 184, 185, 186, 187, 188, 189, 190, 191, 192] (0) ([(3, vn 0)]) ([]) (h0 := ⟨0, rfl, rfl, by omega, by omega⟩) (hr := ?_)
  rintro _ _ _ ⟨k, rfl, rfl, hmk, hk⟩
  refine v_code [] (hk := ?_)
  first | refine c_ifd rfl (fun h19 => ?_) (fun h19 => ?_) | refine c_ifn rfl (fun h19 => ?_) (fun h19 => ?_) | refine c_if rfl (fun h19 => ?_) (fun h19 => ?_)
  · exact absurd h19 (by omega)
  · refine v_code [] (hk := ?_)
    refine k_val 41 (vint 0) rfl rfl ?_
    refine l_do d_make0 (fun g42 => ?_)
    refine v_ops [] (hk := ?_)
    refine v_loop (fun m E H => ∃ (k : Nat), E = [(6, vn k)] ∧ H = [] ∧ m = 0 - k ∧ k ≤ 0) [0, 2, 5, 9, 10, 11, 12, 13, 14, 15, 73, 74, 75, 76, 77, 78, 79, 80, 81, 82, 83, 84, 85, 86, 87, 88, 89, 90, 91, 92, 93, 94, 95, 96, 97, 98, 99, 100, 101, 102, 103, 104, 105, 106, 107, 108, 109, 110, 111, 112, 113, 114, 115, 116, 117, 118, 119, 120, 121, 122, 123, 124, 125, 126, 127, 128, 129, 130, 131, 132, 133, 134, 135, 136, 137, 138, 139, 140, 141, 142, 143, 144, 145, 146, 147, 148, 149, 150, 151, 152, 153, 154, 155, 156, 157, 158, 159, 160, 161, 162, 163, 164, 165, 166, 167, 168, 169, 170, 171, 172, 173, 174, 175, 176, 177, 178, 179, 180, 181, 182, 183, 184, 185, 186, 187, 188, 189, 190, 191, 192] (0) ([(6, vn 0)]) ([]) (h0 := ⟨0, rfl, rfl, by omega, by omega⟩) (hr := ?_)
    rintro _ _ _ ⟨k, rfl, rfl, hmk, hk⟩
    refine v_code [] (hk := ?_)
    first | refine c_ifd rfl (fun h46 => ?_) (fun h46 => ?_) | refine c_ifn rfl (fun h46 => ?_) (fun h46 => ?_) | refine c_if rfl (fun h46 => ?_) (fun h46 => ?_)
    · exact absurd h46 (by omega)
    · refine v_code [] (hk := ?_)
      refine v_loop (fun m E H => ∃ (k : Nat), E = [(9, vn k)] ∧ H = [] ∧ m = 0 - k ∧ k ≤ 0) [0, 5, 11, 12, 13, 14, 15, 123, 124, 125, 126, 127, 128, 129, 130, 131, 132, 133, 134, 135, 136, 137, 138, 139, 140, 141, 142, 143, 144, 145, 146, 147, 148, 149, 150, 151, 152, 153, 154, 155, 156, 157, 158, 159, 160, 161, 162, 163, 164, 165, 166, 167, 168, 169, 170, 171, 172, 173, 174, 175, 176, 177, 178, 179, 180, 181, 182, 183, 184, 185, 186, 187, 188, 189, 190, 191, 192] (0) ([(9, vn 0)]) ([]) (h0 := ⟨0, rfl, rfl, by omega, by omega⟩) (hr := ?_)
      rintro _ _ _ ⟨k, rfl, rfl, hmk, hk⟩
      refine v_code [] (hk := ?_)
      first | refine c_ifd rfl (fun h76 => ?_) (fun h76 => ?_) | refine c_ifn rfl (fun h76 => ?_) (fun h76 => ?_) | refine c_if rfl (fun h76 => ?_) (fun h76 => ?_)
      · exact absurd h76 (by omega)
      · refine v_code [] (hk := ?_)
        refine v_loop (fun m E H => ∃ (k : Nat), E = [(11, vn k)] ∧ H = [] ∧ m = 0 - k ∧ k ≤ 0) [0, 2, 5, 14, 15, 152, 153, 154, 155, 156, 157, 158, 159, 160, 161, 162, 163, 164, 165, 166, 167, 168, 169, 170, 171, 172, 173, 174, 175, 176, 177, 178, 179, 180, 181, 182, 183, 184, 185, 186, 187, 188, 189, 190, 191, 192] (0) ([(11, vn 0)]) ([]) (h0 := ⟨0, rfl, rfl, by omega, by omega⟩) (hr := ?_)
        rintro _ _ _ ⟨k, rfl, rfl, hmk, hk⟩
        refine v_code [] (hk := ?_)
        first | refine c_ifd rfl (fun h126 => ?_) (fun h126 => ?_) | refine c_ifn rfl (fun h126 => ?_) (fun h126 => ?_) | refine c_if rfl (fun h126 => ?_) (fun h126 => ?_)
        · exact absurd h126 (by omega)
        · refine v_code [] (hk := ?_)
          refine v_loop (fun m E H => ∃ (k : Nat), E = [(14, vn k)] ∧ H = [] ∧ m = 0 - k ∧ k ≤ 0) [0, 5] (0) ([(14, vn 0)]) ([]) (h0 := ⟨0, rfl, rfl, by omega, by omega⟩) (hr := ?_)
          rintro _ _ _ ⟨k, rfl, rfl, hmk, hk⟩
          refine v_code [] (hk := ?_)
          first | refine c_ifd rfl (fun h155 => ?_) (fun h155 => ?_) | refine c_ifn rfl (fun h155 => ?_) (fun h155 => ?_) | refine c_if rfl (fun h155 => ?_) (fun h155 => ?_)
          · exact absurd h155 (by omega)
          · refine v_code [] (hk := ?_)
            refine v_ret rfl [] (.cons (.tmp rfl) .nil) (h := ?_)
            exact ⟨rfl, rfl⟩
theorem flatRedeemers0 : CSpec Tryz.prog 114 [.one (.sl 0 none 0 0)] [] [] fun o L => o = .ret (vb true) ∧ L = [] := by
  refine v_enter Tryz.func114 (h := fun w0 => ?_)
  refine v_code [] (hk := ?_)
  refine v_loop (fun m E H => ∃ (k : Nat), E = [(3, vn k)] ∧ H = [] ∧ m = 0 - k ∧ k ≤ 0) [0, 2, 5, 6, 7, 8, 9, 10, 11, 12, 13, 14, 15, 40, 41, 42, 43, 44, 45, 46, 47, 48, 49, 50, 51, 52, 53, 54, 55, 56, 57, 58, 59, 60, 61, 62, 63, 64, 65, 66, 67, 68, 69, 70, 71, 72, 73, 74, 75, 76, 77, 78, 79, 80, 81, 82, 83, 84, 85, 86, 87, 88, 89, 90, 91, 92, 93, 94, 95, 96, 97, 98, 99, 100, 101, 102, 103, 104, 105, 106, 107, 108, 109, 110, 111, 112, 113, 114, 115, 116, 117, 118, 119, 120, 121, 122, 123, 124, 125, 126, 127, 128, 129, 130, 131, 132, 133, 134, 135, 136, 137, 138, 139, 140, 141, 142, 143, 144, 145, 146, 147, 148, 149, 150, 151, 152, 153, 154, 155, 156, 157, 158, 159, 160, 161, 162, 163, 164, 165, 166, 167, 168, 169, 170, 171, 172, 173, 174, 175, 176, 177, 178, 179, 180, 181, 182, 183, 184, 185, 186, 187, 188, 189, 190, 191, 192] (0) ([(3, vn 0)]) ([]) (h0 := ⟨0, rfl, rfl, by omega, by omega⟩) (hr := ?_)
  rintro _ _ _ ⟨k, rfl, rfl, hmk, hk⟩
  refine v_code [] (hk := ?_)
  first | refine c_ifd rfl (fun h19 => ?_) (fun h19 => ?_) | refine c_ifn rfl (fun h19 => ?_) (fun h19 => ?_) | refine c_if rfl (fun h19 => ?_) (fun h19 => ?_)
  · exact absurd h19 (by omega)
  · refine v_code [] (hk := ?_)
    refine k_val 41 (vint 0) rfl rfl ?_
    refine l_do d_make0 (fun g42 => ?_)
    refine v_ops [] (hk := ?_)
    refine v_loop (fun m E H => ∃ (k : Nat), E = [(6, vn k)] ∧ H = [] ∧ m = 0 - k ∧ k ≤ 0) [0, 2, 5, 9, 10, 11, 12, 13, 14, 15, 73, 74, 75, 76, 77, 78, 79, 80, 81, 82, 83, 84, 85, 86, 87, 88, 89, 90, 91, 92, 93, 94, 95, 96, 97, 98, 99, 100, 101, 102, 103, 104, 105, 106, 107, 108, 109, 110, 111, 112, 113, 114, 115, 116, 117, 118, 119, 120, 121, 122, 123, 124, 125, 126, 127, 128, 129, 130, 131, 132, 133, 134, 135, 136, 137, 138, 139, 140, 141, 142, 143, 144, 145, 146, 147, 148, 149, 150, 151, 152, 153, 154, 155, 156, 157, 158, 159, 160, 161, 162, 163, 164, 165, 166, 167, 168, 169, 170, 171, 172, 173, 174, 175, 176, 177, 178, 179, 180, 181, 182, 183, 184, 185, 186, 187, 188, 189, 190, 191, 192] (0) ([(6, vn 0)]) ([]) (h0 := ⟨0, rfl, rfl, by omega, by omega⟩) (hr := ?_)
    rintro _ _ _ ⟨k, rfl, rfl, hmk, hk⟩
    refine v_code [] (hk := ?_)
    first | refine c_ifd rfl (fun h46 => ?_) (fun h46 => ?_) | refine c_ifn rfl (fun h46 => ?_) (fun h46 => ?_) | refine c_if rfl (fun h46 => ?_) (fun h46 => ?_)
    · exact absurd h46 (by omega)
    · refine v_code [] (hk := ?_)
      refine v_loop (fun m E H => ∃ (k : Nat), E = [(9, vn k)] ∧ H = [] ∧ m = 0 - k ∧ k ≤ 0) [0, 5, 11, 12, 13, 14, 15, 123, 124, 125, 126, 127, 128, 129, 130, 131, 132, 133, 134, 135, 136, 137, 138, 139, 140, 141, 142, 143, 144, 145, 146, 147, 148, 149, 150, 151, 152, 153, 154, 155, 156, 157, 158, 159, 160, 161, 162, 163, 164, 165, 166, 167, 168, 169, 170, 171, 172, 173, 174, 175, 176, 177, 178, 179, 180, 181, 182, 183, 184, 185, 186, 187, 188, 189, 190, 191, 192] (0) ([(9, vn 0)]) ([]) (h0 := ⟨0, rfl, rfl, by omega, by omega⟩) (hr := ?_)
      rintro _ _ _ ⟨k, rfl, rfl, hmk, hk⟩
      refine v_code [] (hk := ?_)
      first | refine c_ifd rfl (fun h76 => ?_) (fun h76 => ?_) | refine c_ifn rfl (fun h76 => ?_) (fun h76 => ?_) | refine c_if rfl (fun h76 => ?_) (fun h76 => ?_)
      · exact absurd h76 (by omega)
      · refine v_code [] (hk := ?_)
        refine v_loop (fun m E H => ∃ (k : Nat), E = [(11, vn k)] ∧ H = [] ∧ m = 0 - k ∧ k ≤ 0) [0, 2, 5, 14, 15, 152, 153, 154, 155, 156, 157, 158, 159, 160, 161, 162, 163, 164, 165, 166, 167, 168, 169, 170, 171, 172, 173, 174, 175, 176, 177, 178, 179, 180, 181, 182, 183, 184, 185, 186, 187, 188, 189, 190, 191, 192] (0) ([(11, vn 0)]) ([]) (h0 := ⟨0, rfl, rfl, by omega, by omega⟩) (hr := ?_)
        rintro _ _ _ ⟨k, rfl, rfl, hmk, hk⟩
        refine v_code [] (hk := ?_)
        first | refine c_ifd rfl (fun h126 => ?_) (fun h126 => ?_) | refine c_ifn rfl (fun h126 => ?_) (fun h126 => ?_) | refine c_if rfl (fun h126 => ?_) (fun h126 => ?_)
        · exact absurd h126 (by omega)
        · refine v_code [] (hk := ?_)
          refine v_loop (fun m E H => ∃ (k : Nat), E = [(14, vn k)] ∧ H = [] ∧ m = 0 - k ∧ k ≤ 0) [0, 5] (0) ([(14, vn 0)]) ([]) (h0 := ⟨0, rfl, rfl, by omega, by omega⟩) (hr := ?_)
          rintro _ _ _ ⟨k, rfl, rfl, hmk, hk⟩
          refine v_code [] (hk := ?_)
          first | refine c_ifd rfl (fun h155 => ?_) (fun h155 => ?_) | refine c_ifn rfl (fun h155 => ?_) (fun h155 => ?_) | refine c_if rfl (fun h155 => ?_) (fun h155 => ?_)
          · exact absurd h155 (by omega)
          · refine v_code [] (hk := ?_)
            refine v_ret rfl [] (.cons (.tmp rfl) .nil) (h := ?_)
            exact ⟨rfl, rfl⟩
theorem flatBodies0 : CSpec Tryz.prog 115 [.one (.sl 0 none 0 0)] [] [] fun o L => o = .ret (vb true) ∧ L = [] := by
  refine v_enter Tryz.func115 (h := fun w0 => ?_)
  refine v_code [] (hk := ?_)
  refine v_loop (fun m E H => ∃ (k : Nat), E = [(3, vn k)] ∧ H = [] ∧ m = 0 - k ∧ k ≤ 0) [0, 2, 5, 6, 7, 8, 9, 10, 11, 12, 13, 14, 15, 40, 41, 42, 43, 44, 45, 46, 47, 48, 49, 50, 51, 52, 53, 54, 55, 56, 57, 58, 59, 60, 61, 62, 63, 64, 65, 66, 67, 68, 69, 70, 71, 72, 73, 74, 75, 76, 77, 78, 79, 80, 81, 82, 83, 84, 85, 86, 87, 88, 89, 90, 91, 92, 93, 94, 95, 96, 97, 98, 99, 100, 101, 102, 103, 104, 105, 106, 107, 108, 109, 110, 111, 112, 113, 114, 115, 116, 117, 118, 119, 120, 121, 122, 123, 124, 125, 126, 127, 128, 129, 130, 131, 132, 133, 134, 135, 136, 137, 138, 139, 140, 141, 142, 143, 144, 145, 146, 147, 148, 149, 150, 151, 152, 153, 154, 155, 156, 157, 158, 159, 160, 161, 162, 163, 164, 165, 166, 167, 168, 169, 170, 171, 172, 173, 174, 175, 176, 177, 178, 179, 180, 181, 182, 183, 184, 185, 186, 187, 188, 189, 190, 191, 192] (0) ([(3, vn 0)]) ([]) (h0 := ⟨0, rfl, rfl, by omega, by omega⟩) (hr := ?_)
  rintro _ _ _ ⟨k, rfl, rfl, hmk, hk⟩
  refine v_code [] (hk := ?_)
  first | refine c_ifd rfl (fun h19 => ?_) (fun h19 => ?_) | refine c_ifn rfl (fun h19 => ?_) (fun h19 => ?_) | refine c_if rfl (fun h19 => ?_) (fun h19 => ?_)
  · exact absurd h19 (by omega)
  · refine v_code [] (hk := ?_)
    refine k_val 41 (vint 0) rfl rfl ?_
    refine l_do d_make0 (fun g42 => ?_)
    refine v_ops [] (hk := ?_)
    refine v_loop (fun m E H => ∃ (k : Nat), E = [(6, vn k)] ∧ H = [] ∧ m = 0 - k ∧ k ≤ 0) [0, 2, 5, 9, 10, 11, 12, 13, 14, 15, 73, 74, 75, 76, 77, 78, 79, 80, 81, 82, 83, 84, 85, 86, 87, 88, 89, 90, 91, 92, 93, 94, 95, 96, 97, 98, 99, 100, 101, 102, 103, 104, 105, 106, 107, 108, 109, 110, 111, 112, 113, 114, 115, 116, 117, 118, 119, 120, 121, 122, 123, 124, 125, 126, 127, 128, 129, 130, 131, 132, 133, 134, 135, 136, 137, 138, 139, 140, 141, 142, 143, 144, 145, 146, 147, 148, 149, 150, 151, 152, 153, 154, 155, 156, 157, 158, 159, 160, 161, 162, 163, 164, 165, 166, 167, 168, 169, 170, 171, 172, 173, 174, 175, 176, 177, 178, 179, 180, 181, 182, 183, 184, 185, 186, 187, 188, 189, 190, 191, 192] (0) ([(6, vn 0)]) ([]) (h0 := ⟨0, rfl, rfl, by omega, by omega⟩) (hr := ?_)
    rintro _ _ _ ⟨k, rfl, rfl, hmk, hk⟩
    refine v_code [] (hk := ?_)
    first | refine c_ifd rfl (fun h46 => ?_) (fun h46 => ?_) | refine c_ifn rfl (fun h46 => ?_) (fun h46 => ?_) | refine c_if rfl (fun h46 => ?_) (fun h46 => ?_)
    · exact absurd h46 (by omega)
    · refine v_code [] (hk := ?_)
      refine v_loop (fun m E H => ∃ (k : Nat), E = [(9, vn k)] ∧ H = [] ∧ m = 0 - k ∧ k ≤ 0) [0, 5, 11, 12, 13, 14, 15, 123, 124, 125, 126, 127, 128, 129, 130, 131, 132, 133, 134, 135, 136, 137, 138, 139, 140, 141, 142, 143, 144, 145, 146, 147, 148, 149, 150, 151, 152, 153, 154, 155, 156, 157, 158, 159, 160, 161, 162, 163, 164, 165, 166, 167, 168, 169, 170, 171, 172, 173, 174, 175, 176, 177, 178, 179, 180, 181, 182, 183, 184, 185, 186, 187, 188, 189, 190, 191, 192] (0) ([(9, vn 0)]) ([]) (h0 := ⟨0, rfl, rfl, by omega, by omega⟩) (hr := ?_)
      rintro _ _ _ ⟨k, rfl, rfl, hmk, hk⟩
      refine v_code [] (hk := ?_)
      first | refine c_ifd rfl (fun h76 => ?_) (fun h76 => ?_) | refine c_ifn rfl (fun h76 => ?_) (fun h76 => ?_) | refine c_if rfl (fun h76 => ?_) (fun h76 => ?_)
      · exact absurd h76 (by omega)
      · refine v_code [] (hk := ?_)
        refine v_loop (fun m E H => ∃ (k : Nat), E = [(11, vn k)] ∧ H = [] ∧ m = 0 - k ∧ k ≤ 0) [0, 2, 5, 14, 15, 152, 153, 154, 155, 156, 157, 158, 159, 160, 161, 162, 163, 164, 165, 166, 167, 168, 169, 170, 171, 172, 173, 174, 175, 176, 177, 178, 179, 180, 181, 182, 183, 184, 185, 186, 187, 188, 189, 190, 191, 192] (0) ([(11, vn 0)]) ([]) (h0 := ⟨0, rfl, rfl, by omega, by omega⟩) (hr := ?_)
        rintro _ _ _ ⟨k, rfl, rfl, hmk, hk⟩
        refine v_code [] (hk := ?_)
        first | refine c_ifd rfl (fun h126 => ?_) (fun h126 => ?_) | refine c_ifn rfl (fun h126 => ?_) (fun h126 => ?_) | refine c_if rfl (fun h126 => ?_) (fun h126 => ?_)
        · exact absurd h126 (by omega)
        · refine v_code [] (hk := ?_)
          refine v_loop (fun m E H => ∃ (k : Nat), E = [(14, vn k)] ∧ H = [] ∧ m = 0 - k ∧ k ≤ 0) [0, 5] (0) ([(14, vn 0)]) ([]) (h0 := ⟨0, rfl, rfl, by omega, by omega⟩) (hr := ?_)
          rintro _ _ _ ⟨k, rfl, rfl, hmk, hk⟩
          refine v_code [] (hk := ?_)
          first | refine c_ifd rfl (fun h155 => ?_) (fun h155 => ?_) | refine c_ifn rfl (fun h155 => ?_) (fun h155 => ?_) | refine c_if rfl (fun h155 => ?_) (fun h155 => ?_)
          · exact absurd h155 (by omega)
          · refine v_code [] (hk := ?_)
            refine v_ret rfl [] (.cons (.tmp rfl) .nil) (h := ?_)
            exact ⟨rfl, rfl⟩
theorem flatSignatures0 : CSpec Tryz.prog 116 [.one (.sl 0 none 0 0)] [] [] fun o L => o = .ret (vb true) ∧ L = [] := by
  refine v_enter Tryz.func116 (h := fun w0 => ?_)
  refine v_code [] (hk := ?_)
  refine v_loop (fun m E H => ∃ (k : Nat), E = [(3, vn k)] ∧ H = [] ∧ m = 0 - k ∧ k ≤ 0) [0, 2, 5, 6, 7, 8, 9, 10, 11, 12, 13, 14, 15, 40, 41, 42, 43, 44, 45, 46, 47, 48, 49, 50, 51, 52, 53, 54, 55, 56, 57, 58, 59, 60, 61, 62, 63, 64, 65, 66, 67, 68, 69, 70, 71, 72, 73, 74, 75, 76, 77, 78, 79, 80, 81, 82, 83, 84, 85, 86, 87, 88, 89, 90, 91, 92, 93, 94, 95, 96, 97, 98, 99, 100, 101, 102, 103, 104, 105, 106, 107, 108, 109, 110, 111, 112, 113, 114, 115, 116, 117, 118, 119, 120, 121, 122, 123, 124, 125, 126, 127, 128, 129, 130, 131, 132, 133, 134, 135, 136, 137, 138, 139, 140, 141, 142, 143, 144, 145, 146, 147, 148, 149, 150, 151, 152, 153, 154, 155, 156, 157, 158, 159, 160, 161, 162, 163, 164, 165, 166, 167, 168, 169, 170, 171, 172, 173, 174, 175, 176, 177, 178, 179, 180, 181, 182, 183, 184, 185, 186, 187, 188, 189, 190, 191, 192] (0) ([(3, vn 0)]) ([]) (h0 := ⟨0, rfl, rfl, by omega, by omega⟩) (hr := ?_)
  rintro _ _ _ ⟨k, rfl, rfl, hmk, hk⟩
  refine v_code [] (hk := ?_)
  first | refine c_ifd rfl (fun h19 => ?_) (fun h19 => ?_) | refine c_ifn rfl (fun h19 => ?_) (fun h19 => ?_) | refine c_if rfl (fun h19 => ?_) (fun h19 => ?_)
  · exact absurd h19 (by omega)
  · refine v_code [] (hk := ?_)
    refine k_val 41 (vint 0) rfl rfl ?_
    refine l_do d_make0 (fun g42 => ?_)
    refine v_ops [] (hk := ?_)
    refine v_loop (fun m E H => ∃ (k : Nat), E = [(6, vn k)] ∧ H = [] ∧ m = 0 - k ∧ k ≤ 0) [0, 2, 5, 9, 10, 11, 12, 13, 14, 15, 73, 74, 75, 76, 77, 78, 79, 80, 81, 82, 83, 84, 85, 86, 87, 88, 89, 90, 91, 92, 93, 94, 95, 96, 97, 98, 99, 100, 101, 102, 103, 104, 105, 106, 107, 108, 109, 110, 111, 112, 113, 114, 115, 116, 117, 118, 119, 120, 121, 122, 123, 124, 125, 126, 127, 128, 129, 130, 131, 132, 133, 134, 135, 136, 137, 138, 139, 140, 141, 142, 143, 144, 145, 146, 147, 148, 149, 150, 151, 152, 153, 154, 155, 156, 157, 158, 159, 160, 161, 162, 163, 164, 165, 166, 167, 168, 169, 170, 171, 172, 173, 174, 175, 176, 177, 178, 179, 180, 181, 182, 183, 184, 185, 186, 187, 188, 189, 190, 191, 192] (0) ([(6, vn 0)]) ([]) (h0 := ⟨0, rfl, rfl, by omega, by omega⟩) (hr := ?_)
    rintro _ _ _ ⟨k, rfl, rfl, hmk, hk⟩
    refine v_code [] (hk := ?_)
    first | refine c_ifd rfl (fun h46 => ?_) (fun h46 => ?_) | refine c_ifn rfl (fun h46 => ?_) (fun h46 => ?_) | refine c_if rfl (fun h46 => ?_) (fun h46 => ?_)
    · exact absurd h46 (by omega)
    · refine v_code [] (hk := ?_)
      refine v_loop (fun m E H => ∃ (k : Nat), E = [(9, vn k)] ∧ H = [] ∧ m = 0 - k ∧ k ≤ 0) [0, 5, 11, 12, 13, 14, 15, 123, 124, 125, 126, 127, 128, 129, 130, 131, 132, 133, 134, 135, 136, 137, 138, 139, 140, 141, 142, 143, 144, 145, 146, 147, 148, 149, 150, 151, 152, 153, 154, 155, 156, 157, 158, 159, 160, 161, 162, 163, 164, 165, 166, 167, 168, 169, 170, 171, 172, 173, 174, 175, 176, 177, 178, 179, 180, 181, 182, 183, 184, 185, 186, 187, 188, 189, 190, 191, 192] (0) ([(9, vn 0)]) ([]) (h0 := ⟨0, rfl, rfl, by omega, by omega⟩) (hr := ?_)
      rintro _ _ _ ⟨k, rfl, rfl, hmk, hk⟩
      refine v_code [] (hk := ?_)
      first | refine c_ifd rfl (fun h76 => ?_) (fun h76 => ?_) | refine c_ifn rfl (fun h76 => ?_) (fun h76 => ?_) | refine c_if rfl (fun h76 => ?_) (fun h76 => ?_)
      · exact absurd h76 (by omega)
      · refine v_code [] (hk := ?_)
        refine v_loop (fun m E H => ∃ (k : Nat), E = [(11, vn k)] ∧ H = [] ∧ m = 0 - k ∧ k ≤ 0) [0, 2, 5, 14, 15, 152, 153, 154, 155, 156, 157, 158, 159, 160, 161, 162, 163, 164, 165, 166, 167, 168, 169, 170, 171, 172, 173, 174, 175, 176, 177, 178, 179, 180, 181, 182, 183, 184, 185, 186, 187, 188, 189, 190, 191, 192] (0) ([(11, vn 0)]) ([]) (h0 := ⟨0, rfl, rfl, by omega, by omega⟩) (hr := ?_)
        rintro _ _ _ ⟨k, rfl, rfl, hmk, hk⟩
        refine v_code [] (hk := ?_)
        first | refine c_ifd rfl (fun h126 => ?_) (fun h126 => ?_) | refine c_ifn rfl (fun h126 => ?_) (fun h126 => ?_) | refine c_if rfl (fun h126 => ?_) (fun h126 => ?_)
        · exact absurd h126 (by omega)
        · refine v_code [] (hk := ?_)
          refine v_loop (fun m E H => ∃ (k : Nat), E = [(14, vn k)] ∧ H = [] ∧ m = 0 - k ∧ k ≤ 0) [0, 5] (0) ([(14, vn 0)]) ([]) (h0 := ⟨0, rfl, rfl, by omega, by omega⟩) (hr := ?_)
          rintro _ _ _ ⟨k, rfl, rfl, hmk, hk⟩
          refine v_code [] (hk := ?_)
          first | refine c_ifd rfl (fun h155 => ?_) (fun h155 => ?_) | refine c_ifn rfl (fun h155 => ?_) (fun h155 => ?_) | refine c_if rfl (fun h155 => ?_) (fun h155 => ?_)
          · exact absurd h155 (by omega)
          · refine v_code [] (hk := ?_)
            refine v_ret rfl [] (.cons (.tmp rfl) .nil) (h := ?_)
            exact ⟨rfl, rfl⟩
theorem flatTxs0 : CSpec Tryz.prog 117 [.one (.sl 0 none 0 0)] [] [] fun o L => o = .ret (vb true) ∧ L = [] := by
  refine v_enter Tryz.func117 (h := fun w0 => ?_)
  refine v_code [] (hk := ?_)
  refine v_loop (fun m E H => ∃ (k : Nat), E = [(3, vn k)] ∧ H = [] ∧ m = 0 - k ∧ k ≤ 0) [0, 2, 5, 6, 7, 8, 9, 10, 11, 12, 13, 14, 15, 40, 41, 42, 43, 44, 45, 46, 47, 48, 49, 50, 51, 52, 53, 54, 55, 56, 57, 58, 59, 60, 61, 62, 63, 64, 65, 66, 67, 68, 69, 70, 71, 72, 73, 74, 75, 76, 77, 78, 79, 80, 81, 82, 83, 84, 85, 86, 87, 88, 89, 90, 91, 92, 93, 94, 95, 96, 97, 98, 99, 100, 101, 102, 103, 104, 105, 106, 107, 108, 109, 110, 111, 112, 113, 114, 115, 116, 117, 118, 119, 120, 121, 122, 123, 124, 125, 126, 127, 128, 129, 130, 131, 132, 133, 134, 135, 136, 137, 138, 139, 140, 141, 142, 143, 144, 145, 146, 147, 148, 149, 150, 151, 152, 153, 154, 155, 156, 157, 158, 159, 160, 161, 162, 163, 164, 165, 166, 167, 168, 169, 170, 171, 172, 173, 174, 175, 176, 177, 178, 179, 180, 181, 182, 183, 184, 185, 186, 187, 188, 189, 190, 191, 192] (0) ([(3, vn 0)]) ([]) (h0 := ⟨0, rfl, rfl, by omega, by omega⟩) (hr := ?_)
  rintro _ _ _ ⟨k, rfl, rfl, hmk, hk⟩
  refine v_code [] (hk := ?_)
  first | refine c_ifd rfl (fun h19 => ?_) (fun h19 => ?_) | refine c_ifn rfl (fun h19 => ?_) (fun h19 => ?_) | refine c_if rfl (fun h19 => ?_) (fun h19 => ?_)
  · exact absurd h19 (by omega)
  · refine v_code [] (hk := ?_)
    refine k_val 41 (vint 0) rfl rfl ?_
    refine l_do d_make0 (fun g42 => ?_)
    refine v_ops [] (hk := ?_)
    refine v_loop (fun m E H => ∃ (k : Nat), E = [(6, vn k)] ∧ H = [] ∧ m = 0 - k ∧ k ≤ 0) [0, 2, 5, 9, 10, 11, 12, 13, 14, 15, 73, 74, 75, 76, 77, 78, 79, 80, 81, 82, 83, 84, 85, 86, 87, 88, 89, 90, 91, 92, 93, 94, 95, 96, 97, 98, 99, 100, 101, 102, 103, 104, 105, 106, 107, 108, 109, 110, 111, 112, 113, 114, 115, 116, 117, 118, 119, 120, 121, 122, 123, 124, 125, 126, 127, 128, 129, 130, 131, 132, 133, 134, 135, 136, 137, 138, 139, 140, 141, 142, 143, 144, 145, 146, 147, 148, 149, 150, 151, 152, 153, 154, 155, 156, 157, 158, 159, 160, 161, 162, 163, 164, 165, 166, 167, 168, 169, 170, 171, 172, 173, 174, 175, 176, 177, 178, 179, 180, 181, 182, 183, 184, 185, 186, 187, 188, 189, 190, 191, 192] (0) ([(6, vn 0)]) ([]) (h0 := ⟨0, rfl, rfl, by omega, by omega⟩) (hr := ?_)
    rintro _ _ _ ⟨k, rfl, rfl, hmk, hk⟩
    refine v_code [] (hk := ?_)
    first | refine c_ifd rfl (fun h46 => ?_) (fun h46 => ?_) | refine c_ifn rfl (fun h46 => ?_) (fun h46 => ?_) | refine c_if rfl (fun h46 => ?_) (fun h46 => ?_)
    · exact absurd h46 (by omega)
    · refine v_code [] (hk := ?_)
      refine v_loop (fun m E H => ∃ (k : Nat), E = [(9, vn k)] ∧ H = [] ∧ m = 0 - k ∧ k ≤ 0) [0, 5, 11, 12, 13, 14, 15, 123, 124, 125, 126, 127, 128, 129, 130, 131, 132, 133, 134, 135, 136, 137, 138, 139, 140, 141, 142, 143, 144, 145, 146, 147, 148, 149, 150, 151, 152, 153, 154, 155, 156, 157, 158, 159, 160, 161, 162, 163, 164, 165, 166, 167, 168, 169, 170, 171, 172, 173, 174, 175, 176, 177, 178, 179, 180, 181, 182, 183, 184, 185, 186, 187, 188, 189, 190, 191, 192] (0) ([(9, vn 0)]) ([]) (h0 := ⟨0, rfl, rfl, by omega, by omega⟩) (hr := ?_)
      rintro _ _ _ ⟨k, rfl, rfl, hmk, hk⟩
      refine v_code [] (hk := ?_)
      first | refine c_ifd rfl (fun h76 => ?_) (fun h76 => ?_) | refine c_ifn rfl (fun h76 => ?_) (fun h76 => ?_) | refine c_if rfl (fun h76 => ?_) (fun h76 => ?_)
      · exact absurd h76 (by omega)
      · refine v_code [] (hk := ?_)
        refine v_loop (fun m E H => ∃ (k : Nat), E = [(11, vn k)] ∧ H = [] ∧ m = 0 - k ∧ k ≤ 0) [0, 2, 5, 14, 15, 152, 153, 154, 155, 156, 157, 158, 159, 160, 161, 162, 163, 164, 165, 166, 167, 168, 169, 170, 171, 172, 173, 174, 175, 176, 177, 178, 179, 180, 181, 182, 183, 184, 185, 186, 187, 188, 189, 190, 191, 192] (0) ([(11, vn 0)]) ([]) (h0 := ⟨0, rfl, rfl, by omega, by omega⟩) (hr := ?_)
        rintro _ _ _ ⟨k, rfl, rfl, hmk, hk⟩
        refine v_code [] (hk := ?_)
        first | refine c_ifd rfl (fun h126 => ?_) (fun h126 => ?_) | refine c_ifn rfl (fun h126 => ?_) (fun h126 => ?_) | refine c_if rfl (fun h126 => ?_) (fun h126 => ?_)
        · exact absurd h126 (by omega)
        · refine v_code [] (hk := ?_)
          refine v_loop (fun m E H => ∃ (k : Nat), E = [(14, vn k)] ∧ H = [] ∧ m = 0 - k ∧ k ≤ 0) [0, 5] (0) ([(14, vn 0)]) ([]) (h0 := ⟨0, rfl, rfl, by omega, by omega⟩) (hr := ?_)
          rintro _ _ _ ⟨k, rfl, rfl, hmk, hk⟩
          refine v_code [] (hk := ?_)
          first | refine c_ifd rfl (fun h155 => ?_) (fun h155 => ?_) | refine c_ifn rfl (fun h155 => ?_) (fun h155 => ?_) | refine c_if rfl (fun h155 => ?_) (fun h155 => ?_)
          · exact absurd h155 (by omega)
          · refine v_code [] (hk := ?_)
            refine v_ret rfl [] (.cons (.tmp rfl) .nil) (h := ?_)
            exact ⟨rfl, rfl⟩
theorem flatBlocks0 : CSpec Tryz.prog 118 [.one (.sl 0 none 0 0)] [] [] fun o L => o = .ret (vb true) ∧ L = [] := by
  refine v_enter Tryz.func118 (h := fun w0 => ?_)
  refine v_code [] (hk := ?_)
  refine v_loop (fun m E H => ∃ (k : Nat), E = [(3, vn k)] ∧ H = [] ∧ m = 0 - k ∧ k ≤ 0) [0, 2, 5, 6, 7, 8, 9, 10, 11, 12, 13, 14, 15, 40, 41, 42, 43, 44, 45, 46, 47, 48, 49, 50, 51, 52, 53, 54, 55, 56, 57, 58, 59, 60, 61, 62, 63, 64, 65, 66, 67, 68, 69, 70, 71, 72, 73, 74, 75, 76, 77, 78, 79, 80, 81, 82, 83, 84, 85, 86, 87, 88, 89, 90, 91, 92, 93, 94, 95, 96, 97, 98, 99, 100, 101, 102, 103, 104, 105, 106, 107, 108, 109, 110, 111, 112, 113, 114, 115, 116, 117, 118, 119, 120, 121, 122, 123, 124, 125, 126, 127, 128, 129, 130, 131, 132, 133, 134, 135, 136, 137, 138, 139, 140, 141, 142, 143, 144, 145, 146, 147, 148, 149, 150, 151, 152, 153, 154, 155, 156, 157, 158, 159, 160, 161, 162, 163, 164, 165, 166, 167, 168, 169, 170, 171, 172, 173, 174, 175, 176, 177, 178, 179, 180, 181, 182, 183, 184, 185, 186, 187, 188, 189, 190, 191, 192] (0) ([(3, vn 0)]) ([]) (h0 := ⟨0, rfl, rfl, by omega, by omega⟩) (hr := ?_)
  rintro _ _ _ ⟨k, rfl, rfl, hmk, hk⟩
  refine v_code [] (hk := ?_)
  first | refine c_ifd rfl (fun h19 => ?_) (fun h19 => ?_) | refine c_ifn rfl (fun h19 => ?_) (fun h19 => ?_) | refine c_if rfl (fun h19 => ?_) (fun h19 => ?_)
  · exact absurd h19 (by omega)
  · refine v_code [] (hk := ?_)
    refine k_val 41 (vint 0) rfl rfl ?_
    refine l_do d_make0 (fun g42 => ?_)
    refine v_ops [] (hk := ?_)
    refine v_loop (fun m E H => ∃ (k : Nat), E = [(6, vn k)] ∧ H = [] ∧ m = 0 - k ∧ k ≤ 0) [0, 2, 5, 9, 10, 11, 12, 13, 14, 15, 73, 74, 75, 76, 77, 78, 79, 80, 81, 82, 83, 84, 85, 86, 87, 88, 89, 90, 91, 92, 93, 94, 95, 96, 97, 98, 99, 100, 101, 102, 103, 104, 105, 106, 107, 108, 109, 110, 111, 112, 113, 114, 115, 116, 117, 118, 119, 120, 121, 122, 123, 124, 125, 126, 127, 128, 129, 130, 131, 132, 133, 134, 135, 136, 137, 138, 139, 140, 141, 142, 143, 144, 145, 146, 147, 148, 149, 150, 151, 152, 153, 154, 155, 156, 157, 158, 159, 160, 161, 162, 163, 164, 165, 166, 167, 168, 169, 170, 171, 172, 173, 174, 175, 176, 177, 178, 179, 180, 181, 182, 183, 184, 185, 186, 187, 188, 189, 190, 191, 192] (0) ([(6, vn 0)]) ([]) (h0 := ⟨0, rfl, rfl, by omega, by omega⟩) (hr := ?_)
    rintro _ _ _ ⟨k, rfl, rfl, hmk, hk⟩
    refine v_code [] (hk := ?_)
    first | refine c_ifd rfl (fun h46 => ?_) (fun h46 => ?_) | refine c_ifn rfl (fun h46 => ?_) (fun h46 => ?_) | refine c_if rfl (fun h46 => ?_) (fun h46 => ?_)
    · exact absurd h46 (by omega)
    · refine v_code [] (hk := ?_)
      refine v_loop (fun m E H => ∃ (k : Nat), E = [(9, vn k)] ∧ H = [] ∧ m = 0 - k ∧ k ≤ 0) [0, 5, 11, 12, 13, 14, 15, 123, 124, 125, 126, 127, 128, 129, 130, 131, 132, 133, 134, 135, 136, 137, 138, 139, 140, 141, 142, 143, 144, 145, 146, 147, 148, 149, 150, 151, 152, 153, 154, 155, 156, 157, 158, 159, 160, 161, 162, 163, 164, 165, 166, 167, 168, 169, 170, 171, 172, 173, 174, 175, 176, 177, 178, 179, 180, 181, 182, 183, 184, 185, 186, 187, 188, 189, 190, 191, 192] (0) ([(9, vn 0)]) ([]) (h0 := ⟨0, rfl, rfl, by omega, by omega⟩) (hr := ?_)
      rintro _ _ _ ⟨k, rfl, rfl, hmk, hk⟩
      refine v_code [] (hk := ?_)
      first | refine c_ifd rfl (fun h76 => ?_) (fun h76 => ?_) | refine c_ifn rfl (fun h76 => ?_) (fun h76 => ?_) | refine c_if rfl (fun h76 => ?_) (fun h76 => ?_)
      · exact absurd h76 (by omega)
      · refine v_code [] (hk := ?_)
        refine v_loop (fun m E H => ∃ (k : Nat), E = [(11, vn k)] ∧ H = [] ∧ m = 0 - k ∧ k ≤ 0) [0, 2, 5, 14, 15, 152, 153, 154, 155, 156, 157, 158, 159, 160, 161, 162, 163, 164, 165, 166, 167, 168, 169, 170, 171, 172, 173, 174, 175, 176, 177, 178, 179, 180, 181, 182, 183, 184, 185, 186, 187, 188, 189, 190, 191, 192] (0) ([(11, vn 0)]) ([]) (h0 := ⟨0, rfl, rfl, by omega, by omega⟩) (hr := ?_)
        rintro _ _ _ ⟨k, rfl, rfl, hmk, hk⟩
        refine v_code [] (hk := ?_)
        first | refine c_ifd rfl (fun h126 => ?_) (fun h126 => ?_) | refine c_ifn rfl (fun h126 => ?_) (fun h126 => ?_) | refine c_if rfl (fun h126 => ?_) (fun h126 => ?_)
        · exact absurd h126 (by omega)
        · refine v_code [] (hk := ?_)
          refine v_loop (fun m E H => ∃ (k : Nat), E = [(14, vn k)] ∧ H = [] ∧ m = 0 - k ∧ k ≤ 0) [0, 5] (0) ([(14, vn 0)]) ([]) (h0 := ⟨0, rfl, rfl, by omega, by omega⟩) (hr := ?_)
          rintro _ _ _ ⟨k, rfl, rfl, hmk, hk⟩
          refine v_code [] (hk := ?_)
          first | refine c_ifd rfl (fun h155 => ?_) (fun h155 => ?_) | refine c_ifn rfl (fun h155 => ?_) (fun h155 => ?_) | refine c_if rfl (fun h155 => ?_) (fun h155 => ?_)
          · exact absurd h155 (by omega)
          · refine v_code [] (hk := ?_)
            refine v_ret rfl [] (.cons (.tmp rfl) .nil) (h := ?_)
            exact ⟨rfl, rfl⟩
theorem flatGeneses0 : CSpec Tryz.prog 119 [.one (.sl 0 none 0 0)] [] [] fun o L => o = .ret (vb true) ∧ L = [] := by
  refine v_enter Tryz.func119 (h := fun w0 => ?_)
  refine v_code [] (hk := ?_)
  refine v_loop (fun m E H => ∃ (k : Nat), E = [(3, vn k)] ∧ H = [] ∧ m = 0 - k ∧ k ≤ 0) [0, 2, 5, 6, 7, 8, 9, 10, 11, 12, 13, 14, 15, 40, 41, 42, 43, 44, 45, 46, 47, 48, 49, 50, 51, 52, 53, 54, 55, 56, 57, 58, 59, 60, 61, 62, 63, 64, 65, 66, 67, 68, 69, 70, 71, 72, 73, 74, 75, 76, 77, 78, 79, 80, 81, 82, 83, 84, 85, 86, 87, 88, 89, 90, 91, 92, 93, 94, 95, 96, 97, 98, 99, 100, 101, 102, 103, 104, 105, 106, 107, 108, 109, 110, 111, 112, 113, 114, 115, 116, 117, 118, 119, 120, 121, 122, 123, 124, 125, 126, 127, 128, 129, 130, 131, 132, 133, 134, 135, 136, 137, 138, 139, 140, 141, 142, 143, 144, 145, 146, 147, 148, 149, 150, 151, 152, 153, 154, 155, 156, 157, 158, 159, 160, 161, 162, 163, 164, 165, 166, 167, 168, 169, 170, 171, 172, 173, 174, 175, 176, 177, 178, 179, 180, 181, 182, 183, 184, 185, 186, 187, 188, 189, 190, 191, 192] (0) ([(3, vn 0)]) ([]) (h0 := ⟨0, rfl, rfl, by omega, by omega⟩) (hr := ?_)
  rintro _ _ _ ⟨k, rfl, rfl, hmk, hk⟩
  refine v_code [] (hk := ?_)
  first | refine c_ifd rfl (fun h19 => ?_) (fun h19 => ?_) | refine c_ifn rfl (fun h19 => ?_) (fun h19 => ?_) | refine c_if rfl (fun h19 => ?_) (fun h19 => ?_)
  · exact absurd h19 (by omega)
  · refine v_code [] (hk := ?_)
    refine k_val 41 (vint 0) rfl rfl ?_
    refine l_do d_make0 (fun g42 => ?_)
    refine v_ops [] (hk := ?_)
    refine v_loop (fun m E H => ∃ (k : Nat), E = [(6, vn k)] ∧ H = [] ∧ m = 0 - k ∧ k ≤ 0) [0, 2, 5, 9, 10, 11, 12, 13, 14, 15, 73, 74, 75, 76, 77, 78, 79, 80, 81, 82, 83, 84, 85, 86, 87, 88, 89, 90, 91, 92, 93, 94, 95, 96, 97, 98, 99, 100, 101, 102, 103, 104, 105, 106, 107, 108, 109, 110, 111, 112, 113, 114, 115, 116, 117, 118, 119, 120, 121, 122, 123, 124, 125, 126, 127, 128, 129, 130, 131, 132, 133, 134, 135, 136, 137, 138, 139, 140, 141, 142, 143, 144, 145, 146, 147, 148, 149, 150, 151, 152, 153, 154, 155, 156, 157, 158, 159, 160, 161, 162, 163, 164, 165, 166, 167, 168, 169, 170, 171, 172, 173, 174, 175, 176, 177, 178, 179, 180, 181, 182, 183, 184, 185, 186, 187, 188, 189, 190, 191, 192] (0) ([(6, vn 0)]) ([]) (h0 := ⟨0, rfl, rfl, by omega, by omega⟩) (hr := ?_)
    rintro _ _ _ ⟨k, rfl, rfl, hmk, hk⟩
    refine v_code [] (hk := ?_)
    first | refine c_ifd rfl (fun h46 => ?_) (fun h46 => ?_) | refine c_ifn rfl (fun h46 => ?_) (fun h46 => ?_) | refine c_if rfl (fun h46 => ?_) (fun h46 => ?_)
    · exact absurd h46 (by omega)
    · refine v_code [] (hk := ?_)
      refine v_loop (fun m E H => ∃ (k : Nat), E = [(9, vn k)] ∧ H = [] ∧ m = 0 - k ∧ k ≤ 0) [0, 5, 11, 12, 13, 14, 15, 123, 124, 125, 126, 127, 128, 129, 130, 131, 132, 133, 134, 135, 136, 137, 138, 139, 140, 141, 142, 143, 144, 145, 146, 147, 148, 149, 150, 151, 152, 153, 154, 155, 156, 157, 158, 159, 160, 161, 162, 163, 164, 165, 166, 167, 168, 169, 170, 171, 172, 173, 174, 175, 176, 177, 178, 179, 180, 181, 182, 183, 184, 185, 186, 187, 188, 189, 190, 191, 192] (0) ([(9, vn 0)]) ([]) (h0 := ⟨0, rfl, rfl, by omega, by omega⟩) (hr := ?_)
      rintro _ _ _ ⟨k, rfl, rfl, hmk, hk⟩
      refine v_code [] (hk := ?_)
      first | refine c_ifd rfl (fun h76 => ?_) (fun h76 => ?_) | refine c_ifn rfl (fun h76 => ?_) (fun h76 => ?_) | refine c_if rfl (fun h76 => ?_) (fun h76 => ?_)
      · exact absurd h76 (by omega)
      · refine v_code [] (hk := ?_)
        refine v_loop (fun m E H => ∃ (k : Nat), E = [(11, vn k)] ∧ H = [] ∧ m = 0 - k ∧ k ≤ 0) [0, 2, 5, 14, 15, 152, 153, 154, 155, 156, 157, 158, 159, 160, 161, 162, 163, 164, 165, 166, 167, 168, 169, 170, 171, 172, 173, 174, 175, 176, 177, 178, 179, 180, 181, 182, 183, 184, 185, 186, 187, 188, 189, 190, 191, 192] (0) ([(11, vn 0)]) ([]) (h0 := ⟨0, rfl, rfl, by omega, by omega⟩) (hr := ?_)
        rintro _ _ _ ⟨k, rfl, rfl, hmk, hk⟩
        refine v_code [] (hk := ?_)
        first | refine c_ifd rfl (fun h126 => ?_) (fun h126 => ?_) | refine c_ifn rfl (fun h126 => ?_) (fun h126 => ?_) | refine c_if rfl (fun h126 => ?_) (fun h126 => ?_)
        · exact absurd h126 (by omega)
        · refine v_code [] (hk := ?_)
          refine v_loop (fun m E H => ∃ (k : Nat), E = [(14, vn k)] ∧ H = [] ∧ m = 0 - k ∧ k ≤ 0) [0, 5] (0) ([(14, vn 0)]) ([]) (h0 := ⟨0, rfl, rfl, by omega, by omega⟩) (hr := ?_)
          rintro _ _ _ ⟨k, rfl, rfl, hmk, hk⟩
          refine v_code [] (hk := ?_)
          first | refine c_ifd rfl (fun h155 => ?_) (fun h155 => ?_) | refine c_ifn rfl (fun h155 => ?_) (fun h155 => ?_) | refine c_if rfl (fun h155 => ?_) (fun h155 => ?_)
          · exact absurd h155 (by omega)
          · refine v_code [] (hk := ?_)
            refine v_ret rfl [] (.cons (.tmp rfl) .nil) (h := ?_)
            exact ⟨rfl, rfl⟩
theorem flatDiffs0 : CSpec Tryz.prog 121 [.one (.sl 0 none 0 0)] [] [] fun o L => o = .ret (vb true) ∧ L = [] := by
  refine v_enter Tryz.func121 (h := fun w0 => ?_)
  refine v_code [] (hk := ?_)
  refine v_loop (fun m E H => ∃ (k : Nat), E = [(3, vn k)] ∧ H = [] ∧ m = 0 - k ∧ k ≤ 0) [0, 2, 5, 6, 7, 8, 9, 10, 11, 12, 13, 14, 15, 40, 41, 42, 43, 44, 45, 46, 47, 48, 49, 50, 51, 52, 53, 54, 55, 56, 57, 58, 59, 60, 61, 62, 63, 64, 65, 66, 67, 68, 69, 70, 71, 72, 73, 74, 75, 76, 77, 78, 79, 80, 81, 82, 83, 84, 85, 86, 87, 88, 89, 90, 91, 92, 93, 94, 95, 96, 97, 98, 99, 100, 101, 102, 103, 104, 105, 106, 107, 108, 109, 110, 111, 112, 113, 114, 115, 116, 117, 118, 119, 120, 121, 122, 123, 124, 125, 126, 127, 128, 129, 130, 131, 132, 133, 134, 135, 136, 137, 138, 139, 140, 141, 142, 143, 144, 145, 146, 147, 148, 149, 150, 151, 152, 153, 154, 155, 156, 157, 158, 159, 160, 161, 162, 163, 164, 165, 166, 167, 168, 169, 170, 171, 172, 173, 174, 175, 176, 177, 178, 179, 180, 181, 182, 183, 184, 185, 186, 187, 188, 189, 190, 191, 192] (0) ([(3, vn 0)]) ([]) (h0 := ⟨0, rfl, rfl, by omega, by omega⟩) (hr := ?_)
  rintro _ _ _ ⟨k, rfl, rfl, hmk, hk⟩
  refine v_code [] (hk := ?_)
  first | refine c_ifd rfl (fun h19 => ?_) (fun h19 => ?_) | refine c_ifn rfl (fun h19 => ?_) (fun h19 => ?_) | refine c_if rfl (fun h19 => ?_) (fun h19 => ?_)
  · exact absurd h19 (by omega)
  · refine v_code [] (hk := ?_)
    refine k_val 41 (vint 0) rfl rfl ?_
    refine l_do d_make0 (fun g42 => ?_)
    refine v_ops [] (hk := ?_)
    refine v_loop (fun m E H => ∃ (k : Nat), E = [(6, vn k)] ∧ H = [] ∧ m = 0 - k ∧ k ≤ 0) [0, 2, 5, 9, 10, 11, 12, 13, 14, 15, 73, 74, 75, 76, 77, 78, 79, 80, 81, 82, 83, 84, 85, 86, 87, 88, 89, 90, 91, 92, 93, 94, 95, 96, 97, 98, 99, 100, 101, 102, 103, 104, 105, 106, 107, 108, 109, 110, 111, 112, 113, 114, 115, 116, 117, 118, 119, 120, 121, 122, 123, 124, 125, 126, 127, 128, 129, 130, 131, 132, 133, 134, 135, 136, 137, 138, 139, 140, 141, 142, 143, 144, 145, 146, 147, 148, 149, 150, 151, 152, 153, 154, 155, 156, 157, 158, 159, 160, 161, 162, 163, 164, 165, 166, 167, 168, 169, 170, 171, 172, 173, 174, 175, 176, 177, 178, 179, 180, 181, 182, 183, 184, 185, 186, 187, 188, 189, 190, 191, 192] (0) ([(6, vn 0)]) ([]) (h0 := ⟨0, rfl, rfl, by omega, by omega⟩) (hr := ?_)
    rintro _ _ _ ⟨k, rfl, rfl, hmk, hk⟩
    refine v_code [] (hk := ?_)
    first | refine c_ifd rfl (fun h46 => ?_) (fun h46 => ?_) | refine c_ifn rfl (fun h46 => ?_) (fun h46 => ?_) | refine c_if rfl (fun h46 => ?_) (fun h46 => ?_)
    · exact absurd h46 (by omega)
    · refine v_code [] (hk := ?_)
      refine v_loop (fun m E H => ∃ (k : Nat), E = [(9, vn k)] ∧ H = [] ∧ m = 0 - k ∧ k ≤ 0) [0, 5, 11, 12, 13, 14, 15, 123, 124, 125, 126, 127, 128, 129, 130, 131, 132, 133, 134, 135, 136, 137, 138, 139, 140, 141, 142, 143, 144, 145, 146, 147, 148, 149, 150, 151, 152, 153, 154, 155, 156, 157, 158, 159, 160, 161, 162, 163, 164, 165, 166, 167, 168, 169, 170, 171, 172, 173, 174, 175, 176, 177, 178, 179, 180, 181, 182, 183, 184, 185, 186, 187, 188, 189, 190, 191, 192] (0) ([(9, vn 0)]) ([]) (h0 := ⟨0, rfl, rfl, by omega, by omega⟩) (hr := ?_)
      rintro _ _ _ ⟨k, rfl, rfl, hmk, hk⟩
      refine v_code [] (hk := ?_)
      first | refine c_ifd rfl (fun h76 => ?_) (fun h76 => ?_) | refine c_ifn rfl (fun h76 => ?_) (fun h76 => ?_) | refine c_if rfl (fun h76 => ?_) (fun h76 => ?_)
      · exact absurd h76 (by omega)
      · refine v_code [] (hk := ?_)
        refine v_loop (fun m E H => ∃ (k : Nat), E = [(11, vn k)] ∧ H = [] ∧ m = 0 - k ∧ k ≤ 0) [0, 2, 5, 14, 15, 152, 153, 154, 155, 156, 157, 158, 159, 160, 161, 162, 163, 164, 165, 166, 167, 168, 169, 170, 171, 172, 173, 174, 175, 176, 177, 178, 179, 180, 181, 182, 183, 184, 185, 186, 187, 188, 189, 190, 191, 192] (0) ([(11, vn 0)]) ([]) (h0 := ⟨0, rfl, rfl, by omega, by omega⟩) (hr := ?_)
        rintro _ _ _ ⟨k, rfl, rfl, hmk, hk⟩
        refine v_code [] (hk := ?_)
        first | refine c_ifd rfl (fun h126 => ?_) (fun h126 => ?_) | refine c_ifn rfl (fun h126 => ?_) (fun h126 => ?_) | refine c_if rfl (fun h126 => ?_) (fun h126 => ?_)
        · exact absurd h126 (by omega)
        · refine v_code [] (hk := ?_)
          refine v_loop (fun m E H => ∃ (k : Nat), E = [(14, vn k)] ∧ H = [] ∧ m = 0 - k ∧ k ≤ 0) [0, 5] (0) ([(14, vn 0)]) ([]) (h0 := ⟨0, rfl, rfl, by omega, by omega⟩) (hr := ?_)
          rintro _ _ _ ⟨k, rfl, rfl, hmk, hk⟩
          refine v_code [] (hk := ?_)
          first | refine c_ifd rfl (fun h155 => ?_) (fun h155 => ?_) | refine c_ifn rfl (fun h155 => ?_) (fun h155 => ?_) | refine c_if rfl (fun h155 => ?_) (fun h155 => ?_)
          · exact absurd h155 (by omega)
          · refine v_code [] (hk := ?_)
            refine v_ret rfl [] (.cons (.tmp rfl) .nil) (h := ?_)
            exact ⟨rfl, rfl⟩
theorem flatStoredRows0 : CSpec Tryz.prog 122 [.one (.sl 0 none 0 0)] [] [] fun o L => o = .ret (vb true) ∧ L = [] := by
  refine v_enter Tryz.func122 (h := fun w0 => ?_)
  refine v_code [] (hk := ?_)
  refine v_loop (fun m E H => ∃ (k : Nat), E = [(3, vn k)] ∧ H = [] ∧ m = 0 - k ∧ k ≤ 0) [0, 2, 5, 6, 7, 8, 9, 10, 11, 12, 13, 14, 15, 40, 41, 42, 43, 44, 45, 46, 47, 48, 49, 50, 51, 52, 53, 54, 55, 56, 57, 58, 59, 60, 61, 62, 63, 64, 65, 66, 67, 68, 69, 70, 71, 72, 73, 74, 75, 76, 77, 78, 79, 80, 81, 82, 83, 84, 85, 86, 87, 88, 89, 90, 91, 92, 93, 94, 95, 96, 97, 98, 99, 100, 101, 102, 103, 104, 105, 106, 107, 108, 109, 110, 111, 112, 113, 114, 115, 116, 117, 118, 119, 120, 121, 122, 123, 124, 125, 126, 127, 128, 129, 130, 131, 132, 133, 134, 135, 136, 137, 138, 139, 140, 141, 142, 143, 144, 145, 146, 147, 148, 149, 150, 151, 152, 153, 154, 155, 156, 157, 158, 159, 160, 161, 162, 163, 164, 165, 166, 167, 168, 169, 170, 171, 172, 173, 174, 175, 176, 177, 178, 179, 180, 181, 182, 183, 184, 185, 186, 187, 188, 189, 190, 191, 192] (0) ([(3, vn 0)]) ([]) (h0 := ⟨0, rfl, rfl, by omega, by omega⟩) (hr := ?_)
  rintro _ _ _ ⟨k, rfl, rfl, hmk, hk⟩
  refine v_code [] (hk := ?_)
  first | refine c_ifd rfl (fun h19 => ?_) (fun h19 => ?_) | refine c_ifn rfl (fun h19 => ?_) (fun h19 => ?_) | refine c_if rfl (fun h19 => ?_) (fun h19 => ?_)
  · exact absurd h19 (by omega)
  · refine v_code [] (hk := ?_)
    refine k_val 41 (vint 0) rfl rfl ?_
    refine l_do d_make0 (fun g42 => ?_)
    refine v_ops [] (hk := ?_)
    refine v_loop (fun m E H => ∃ (k : Nat), E = [(6, vn k)] ∧ H = [] ∧ m = 0 - k ∧ k ≤ 0) [0, 2, 5, 9, 10, 11, 12, 13, 14, 15, 73, 74, 75, 76, 77, 78, 79, 80, 81, 82, 83, 84, 85, 86, 87, 88, 89, 90, 91, 92, 93, 94, 95, 96, 97, 98, 99, 100, 101, 102, 103, 104, 105, 106, 107, 108, 109, 110, 111, 112, 113, 114, 115, 116, 117, 118, 119, 120, 121, 122, 123, 124, 125, 126, 127, 128, 129, 130, 131, 132, 133, 134, 135, 136, 137, 138, 139, 140, 141, 142, 143, 144, 145, 146, 147, 148, 149, 150, 151, 152, 153, 154, 155, 156, 157, 158, 159, 160, 161, 162, 163, 164, 165, 166, 167, 168, 169, 170, 171, 172, 173, 174, 175, 176, 177, 178, 179, 180, 181, 182, 183, 184, 185, 186, 187, 188, 189, 190, 191, 192] (0) ([(6, vn 0)]) ([]) (h0 := ⟨0, rfl, rfl, by omega, by omega⟩) (hr := ?_)
    rintro _ _ _ ⟨k, rfl, rfl, hmk, hk⟩
    refine v_code [] (hk := ?_)
    first | refine c_ifd rfl (fun h46 => ?_) (fun h46 => ?_) | refine c_ifn rfl (fun h46 => ?_) (fun h46 => ?_) | refine c_if rfl (fun h46 => ?_) (fun h46 => ?_)
    · exact absurd h46 (by omega)
    · refine v_code [] (hk := ?_)
      refine v_loop (fun m E H => ∃ (k : Nat), E = [(9, vn k)] ∧ H = [] ∧ m = 0 - k ∧ k ≤ 0) [0, 5, 11, 12, 13, 14, 15, 123, 124, 125, 126, 127, 128, 129, 130, 131, 132, 133, 134, 135, 136, 137, 138, 139, 140, 141, 142, 143, 144, 145, 146, 147, 148, 149, 150, 151, 152, 153, 154, 155, 156, 157, 158, 159, 160, 161, 162, 163, 164, 165, 166, 167, 168, 169, 170, 171, 172, 173, 174, 175, 176, 177, 178, 179, 180, 181, 182, 183, 184, 185, 186, 187, 188, 189, 190, 191, 192] (0) ([(9, vn 0)]) ([]) (h0 := ⟨0, rfl, rfl, by omega, by omega⟩) (hr := ?_)
      rintro _ _ _ ⟨k, rfl, rfl, hmk, hk⟩
      refine v_code [] (hk := ?_)
      first | refine c_ifd rfl (fun h76 => ?_) (fun h76 => ?_) | refine c_ifn rfl (fun h76 => ?_) (fun h76 => ?_) | refine c_if rfl (fun h76 => ?_) (fun h76 => ?_)
      · exact absurd h76 (by omega)
      · refine v_code [] (hk := ?_)
        refine v_loop (fun m E H => ∃ (k : Nat), E = [(11, vn k)] ∧ H = [] ∧ m = 0 - k ∧ k ≤ 0) [0, 2, 5, 14, 15, 152, 153, 154, 155, 156, 157, 158, 159, 160, 161, 162, 163, 164, 165, 166, 167, 168, 169, 170, 171, 172, 173, 174, 175, 176, 177, 178, 179, 180, 181, 182, 183, 184, 185, 186, 187, 188, 189, 190, 191, 192] (0) ([(11, vn 0)]) ([]) (h0 := ⟨0, rfl, rfl, by omega, by omega⟩) (hr := ?_)
        rintro _ _ _ ⟨k, rfl, rfl, hmk, hk⟩
        refine v_code [] (hk := ?_)
        first | refine c_ifd rfl (fun h126 => ?_) (fun h126 => ?_) | refine c_ifn rfl (fun h126 => ?_) (fun h126 => ?_) | refine c_if rfl (fun h126 => ?_) (fun h126 => ?_)
        · exact absurd h126 (by omega)
        · refine v_code [] (hk := ?_)
          refine v_loop (fun m E H => ∃ (k : Nat), E = [(14, vn k)] ∧ H = [] ∧ m = 0 - k ∧ k ≤ 0) [0, 5] (0) ([(14, vn 0)]) ([]) (h0 := ⟨0, rfl, rfl, by omega, by omega⟩) (hr := ?_)
          rintro _ _ _ ⟨k, rfl, rfl, hmk, hk⟩
          refine v_code [] (hk := ?_)
          first | refine c_ifd rfl (fun h155 => ?_) (fun h155 => ?_) | refine c_ifn rfl (fun h155 => ?_) (fun h155 => ?_) | refine c_if rfl (fun h155 => ?_) (fun h155 => ?_)
          · exact absurd h155 (by omega)
          · refine v_code [] (hk := ?_)
            refine v_ret rfl [] (.cons (.tmp rfl) .nil) (h := ?_)
            exact ⟨rfl, rfl⟩
theorem flatStates0 : CSpec Tryz.prog 123 [.one (.sl 0 none 0 0)] [] [] fun o L => o = .ret (vb true) ∧ L = [] := by
  refine v_enter Tryz.func123 (h := fun w0 => ?_)
  refine v_code [] (hk := ?_)
  refine v_loop (fun m E H => ∃ (k : Nat), E = [(3, vn k)] ∧ H = [] ∧ m = 0 - k ∧ k ≤ 0) [0, 2, 5, 6, 7, 8, 9, 10, 11, 12, 13, 14, 15, 40, 41, 42, 43, 44, 45, 46, 47, 48, 49, 50, 51, 52, 53, 54, 55, 56, 57, 58, 59, 60, 61, 62, 63, 64, 65, 66, 67, 68, 69, 70, 71, 72, 73, 74, 75, 76, 77, 78, 79, 80, 81, 82, 83, 84, 85, 86, 87, 88, 89, 90, 91, 92, 93, 94, 95, 96, 97, 98, 99, 100, 101, 102, 103, 104, 105, 106, 107, 108, 109, 110, 111, 112, 113, 114, 115, 116, 117, 118, 119, 120, 121, 122, 123, 124, 125, 126, 127, 128, 129, 130, 131, 132, 133, 134, 135, 136, 137, 138, 139, 140, 141, 142, 143, 144, 145, 146, 147, 148, 149, 150, 151, 152, 153, 154, 155, 156, 157, 158, 159, 160, 161, 162, 163, 164, 165, 166, 167, 168, 169, 170, 171, 172, 173, 174, 175, 176, 177, 178, 179, 180, 181, 182, 183, 184, 185, 186, 187, 188, 189, 190, 191, 192] (0) ([(3, vn 0)]) ([]) (h0 := ⟨0, rfl, rfl, by omega, by omega⟩) (hr := ?_)
  rintro _ _ _ ⟨k, rfl, rfl, hmk, hk⟩
  refine v_code [] (hk := ?_)
  first | refine c_ifd rfl (fun h19 => ?_) (fun h19 => ?_) | refine c_ifn rfl (fun h19 => ?_) (fun h19 => ?_) | refine c_if rfl (fun h19 => ?_) (fun h19 => ?_)
  · exact absurd h19 (by omega)
  · refine v_code [] (hk := ?_)
    refine k_val 41 (vint 0) rfl rfl ?_
    refine l_do d_make0 (fun g42 => ?_)
    refine v_ops [] (hk := ?_)
    refine v_loop (fun m E H => ∃ (k : Nat), E = [(6, vn k)] ∧ H = [] ∧ m = 0 - k ∧ k ≤ 0) [0, 2, 5, 9, 10, 11, 12, 13, 14, 15, 73, 74, 75, 76, 77, 78, 79, 80, 81, 82, 83, 84, 85, 86, 87, 88, 89, 90, 91, 92, 93, 94, 95, 96, 97, 98, 99, 100, 101, 102, 103, 104, 105, 106, 107, 108, 109, 110, 111, 112, 113, 114, 115, 116, 117, 118, 119, 120, 121, 122, 123, 124, 125, 126, 127, 128, 129, 130, 131, 132, 133, 134, 135, 136, 137, 138, 139, 140, 141, 142, 143, 144, 145, 146, 147, 148, 149, 150, 151, 152, 153, 154, 155, 156, 157, 158, 159, 160, 161, 162, 163, 164, 165, 166, 167, 168, 169, 170, 171, 172, 173, 174, 175, 176, 177, 178, 179, 180, 181, 182, 183, 184, 185, 186, 187, 188, 189, 190, 191, 192] (0) ([(6, vn 0)]) ([]) (h0 := ⟨0, rfl, rfl, by omega, by omega⟩) (hr := ?_)
    rintro _ _ _ ⟨k, rfl, rfl, hmk, hk⟩
    refine v_code [] (hk := ?_)
    first | refine c_ifd rfl (fun h46 => ?_) (fun h46 => ?_) | refine c_ifn rfl (fun h46 => ?_) (fun h46 => ?_) | refine c_if rfl (fun h46 => ?_) (fun h46 => ?_)
    · exact absurd h46 (by omega)
    · refine v_code [] (hk := ?_)
      refine v_loop (fun m E H => ∃ (k : Nat), E = [(9, vn k)] ∧ H = [] ∧ m = 0 - k ∧ k ≤ 0) [0, 5, 11, 12, 13, 14, 15, 123, 124, 125, 126, 127, 128, 129, 130, 131, 132, 133, 134, 135, 136, 137, 138, 139, 140, 141, 142, 143, 144, 145, 146, 147, 148, 149, 150, 151, 152, 153, 154, 155, 156, 157, 158, 159, 160, 161, 162, 163, 164, 165, 166, 167, 168, 169, 170, 171, 172, 173, 174, 175, 176, 177, 178, 179, 180, 181, 182, 183, 184, 185, 186, 187, 188, 189, 190, 191, 192] (0) ([(9, vn 0)]) ([]) (h0 := ⟨0, rfl, rfl, by omega, by omega⟩) (hr := ?_)
      rintro _ _ _ ⟨k, rfl, rfl, hmk, hk⟩
      refine v_code [] (hk := ?_)
      first | refine c_ifd rfl (fun h76 => ?_) (fun h76 => ?_) | refine c_ifn rfl (fun h76 => ?_) (fun h76 => ?_) | refine c_if rfl (fun h76 => ?_) (fun h76 => ?_)
      · exact absurd h76 (by omega)
      · refine v_code [] (hk := ?_)
        refine v_loop (fun m E H => ∃ (k : Nat), E = [(11, vn k)] ∧ H = [] ∧ m = 0 - k ∧ k ≤ 0) [0, 2, 5, 14, 15, 152, 153, 154, 155, 156, 157, 158, 159, 160, 161, 162, 163, 164, 165, 166, 167, 168, 169, 170, 171, 172, 173, 174, 175, 176, 177, 178, 179, 180, 181, 182, 183, 184, 185, 186, 187, 188, 189, 190, 191, 192] (0) ([(11, vn 0)]) ([]) (h0 := ⟨0, rfl, rfl, by omega, by omega⟩) (hr := ?_)
        rintro _ _ _ ⟨k, rfl, rfl, hmk, hk⟩
        refine v_code [] (hk := ?_)
        first | refine c_ifd rfl (fun h126 => ?_) (fun h126 => ?_) | refine c_ifn rfl (fun h126 => ?_) (fun h126 => ?_) | refine c_if rfl (fun h126 => ?_) (fun h126 => ?_)
        · exact absurd h126 (by omega)
        · refine v_code [] (hk := ?_)
          refine v_loop (fun m E H => ∃ (k : Nat), E = [(14, vn k)] ∧ H = [] ∧ m = 0 - k ∧ k ≤ 0) [0, 5] (0) ([(14, vn 0)]) ([]) (h0 := ⟨0, rfl, rfl, by omega, by omega⟩) (hr := ?_)
          rintro _ _ _ ⟨k, rfl, rfl, hmk, hk⟩
          refine v_code [] (hk := ?_)
          first | refine c_ifd rfl (fun h155 => ?_) (fun h155 => ?_) | refine c_ifn rfl (fun h155 => ?_) (fun h155 => ?_) | refine c_if rfl (fun h155 => ?_) (fun h155 => ?_)
          · exact absurd h155 (by omega)
          · refine v_code [] (hk := ?_)
            refine v_ret rfl [] (.cons (.tmp rfl) .nil) (h := ?_)
            exact ⟨rfl, rfl⟩
theorem flatAsks0 : CSpec Tryz.prog 124 [.one (.sl 0 none 0 0)] [] [] fun o L => o = .ret (vb true) ∧ L = [] := by
  refine v_enter Tryz.func124 (h := fun w0 => ?_)
  refine v_code [] (hk := ?_)
  refine v_loop (fun m E H => ∃ (k : Nat), E = [(3, vn k)] ∧ H = [] ∧ m = 0 - k ∧ k ≤ 0) [0, 2, 5, 6, 7, 8, 9, 10, 11, 12, 13, 14, 15, 40, 41, 42, 43, 44, 45, 46, 47, 48, 49, 50, 51, 52, 53, 54, 55, 56, 57, 58, 59, 60, 61, 62, 63, 64, 65, 66, 67, 68, 69, 70, 71, 72, 73, 74, 75, 76, 77, 78, 79, 80, 81, 82, 83, 84, 85, 86, 87, 88, 89, 90, 91, 92, 93, 94, 95, 96, 97, 98, 99, 100, 101, 102, 103, 104, 105, 106, 107, 108, 109, 110, 111, 112, 113, 114, 115, 116, 117, 118, 119, 120, 121, 122, 123, 124, 125, 126, 127, 128, 129, 130, 131, 132, 133, 134, 135, 136, 137, 138, 139, 140, 141, 142, 143, 144, 145, 146, 147, 148, 149, 150, 151, 152, 153, 154, 155, 156, 157, 158, 159, 160, 161, 162, 163, 164, 165, 166, 167, 168, 169, 170, 171, 172, 173, 174, 175, 176, 177, 178, 179, 180, 181, 182, 183, 184, 185, 186, 187, 188, 189, 190, 191, 192] (0) ([(3, vn 0)]) ([]) (h0 := ⟨0, rfl, rfl, by omega, by omega⟩) (hr := ?_)
  rintro _ _ _ ⟨k, rfl, rfl, hmk, hk⟩
  refine v_code [] (hk := ?_)
  first | refine c_ifd rfl (fun h19 => ?_) (fun h19 => ?_) | refine c_ifn rfl (fun h19 => ?_) (fun h19 => ?_) | refine c_if rfl (fun h19 => ?_) (fun h19 => ?_)
  · exact absurd h19 (by omega)
  · refine v_code [] (hk := ?_)
    refine k_val 41 (vint 0) rfl rfl ?_
    refine l_do d_make0 (fun g42 => ?_)
    refine v_ops [] (hk := ?_)
    refine v_loop (fun m E H => ∃ (k : Nat), E = [(6, vn k)] ∧ H = [] ∧ m = 0 - k ∧ k ≤ 0) [0, 2, 5, 9, 10, 11, 12, 13, 14, 15, 73, 74, 75, 76, 77, 78, 79, 80, 81, 82, 83, 84, 85, 86, 87, 88, 89, 90, 91, 92, 93, 94, 95, 96, 97, 98, 99, 100, 101, 102, 103, 104, 105, 106, 107, 108, 109, 110, 111, 112, 113, 114, 115, 116, 117, 118, 119, 120, 121, 122, 123, 124, 125, 126, 127, 128, 129, 130, 131, 132, 133, 134, 135, 136, 137, 138, 139, 140, 141, 142, 143, 144, 145, 146, 147, 148, 149, 150, 151, 152, 153, 154, 155, 156, 157, 158, 159, 160, 161, 162, 163, 164, 165, 166, 167, 168, 169, 170, 171, 172, 173, 174, 175, 176, 177, 178, 179, 180, 181, 182, 183, 184, 185, 186, 187, 188, 189, 190, 191, 192] (0) ([(6, vn 0)]) ([]) (h0 := ⟨0, rfl, rfl, by omega, by omega⟩) (hr := ?_)
    rintro _ _ _ ⟨k, rfl, rfl, hmk, hk⟩
    refine v_code [] (hk := ?_)
    first | refine c_ifd rfl (fun h46 => ?_) (fun h46 => ?_) | refine c_ifn rfl (fun h46 => ?_) (fun h46 => ?_) | refine c_if rfl (fun h46 => ?_) (fun h46 => ?_)
    · exact absurd h46 (by omega)
    · refine v_code [] (hk := ?_)
      refine v_loop (fun m E H => ∃ (k : Nat), E = [(9, vn k)] ∧ H = [] ∧ m = 0 - k ∧ k ≤ 0) [0, 5, 11, 12, 13, 14, 15, 123, 124, 125, 126, 127, 128, 129, 130, 131, 132, 133, 134, 135, 136, 137, 138, 139, 140, 141, 142, 143, 144, 145, 146, 147, 148, 149, 150, 151, 152, 153, 154, 155, 156, 157, 158, 159, 160, 161, 162, 163, 164, 165, 166, 167, 168, 169, 170, 171, 172, 173, 174, 175, 176, 177, 178, 179, 180, 181, 182, 183, 184, 185, 186, 187, 188, 189, 190, 191, 192] (0) ([(9, vn 0)]) ([]) (h0 := ⟨0, rfl, rfl, by omega, by omega⟩) (hr := ?_)
      rintro _ _ _ ⟨k, rfl, rfl, hmk, hk⟩
      refine v_code [] (hk := ?_)
      first | refine c_ifd rfl (fun h76 => ?_) (fun h76 => ?_) | refine c_ifn rfl (fun h76 => ?_) (fun h76 => ?_) | refine c_if rfl (fun h76 => ?_) (fun h76 => ?_)
      · exact absurd h76 (by omega)
      · refine v_code [] (hk := ?_)
        refine v_loop (fun m E H => ∃ (k : Nat), E = [(11, vn k)] ∧ H = [] ∧ m = 0 - k ∧ k ≤ 0) [0, 2, 5, 14, 15, 152, 153, 154, 155, 156, 157, 158, 159, 160, 161, 162, 163, 164, 165, 166, 167, 168, 169, 170, 171, 172, 173, 174, 175, 176, 177, 178, 179, 180, 181, 182, 183, 184, 185, 186, 187, 188, 189, 190, 191, 192] (0) ([(11, vn 0)]) ([]) (h0 := ⟨0, rfl, rfl, by omega, by omega⟩) (hr := ?_)
        rintro _ _ _ ⟨k, rfl, rfl, hmk, hk⟩
        refine v_code [] (hk := ?_)
        first | refine c_ifd rfl (fun h126 => ?_) (fun h126 => ?_) | refine c_ifn rfl (fun h126 => ?_) (fun h126 => ?_) | refine c_if rfl (fun h126 => ?_) (fun h126 => ?_)
        · exact absurd h126 (by omega)
        · refine v_code [] (hk := ?_)
          refine v_loop (fun m E H => ∃ (k : Nat), E = [(14, vn k)] ∧ H = [] ∧ m = 0 - k ∧ k ≤ 0) [0, 5] (0) ([(14, vn 0)]) ([]) (h0 := ⟨0, rfl, rfl, by omega, by omega⟩) (hr := ?_)
          rintro _ _ _ ⟨k, rfl, rfl, hmk, hk⟩
          refine v_code [] (hk := ?_)
          first | refine c_ifd rfl (fun h155 => ?_) (fun h155 => ?_) | refine c_ifn rfl (fun h155 => ?_) (fun h155 => ?_) | refine c_if rfl (fun h155 => ?_) (fun h155 => ?_)
          · exact absurd h155 (by omega)
          · refine v_code [] (hk := ?_)
            refine v_ret rfl [] (.cons (.tmp rfl) .nil) (h := ?_)
            exact ⟨rfl, rfl⟩
theorem flatTellRows0 : CSpec Tryz.prog 125 [.one (.sl 0 none 0 0)] [] [] fun o L => o = .ret (vb true) ∧ L = [] := by
  refine v_enter Tryz.func125 (h := fun w0 => ?_)
  refine v_code [] (hk := ?_)
  refine v_loop (fun m E H => ∃ (k : Nat), E = [(3, vn k)] ∧ H = [] ∧ m = 0 - k ∧ k ≤ 0) [0, 2, 5, 6, 7, 8, 9, 10, 11, 12, 13, 14, 15, 40, 41, 42, 43, 44, 45, 46, 47, 48, 49, 50, 51, 52, 53, 54, 55, 56, 57, 58, 59, 60, 61, 62, 63, 64, 65, 66, 67, 68, 69, 70, 71, 72, 73, 74, 75, 76, 77, 78, 79, 80, 81, 82, 83, 84, 85, 86, 87, 88, 89, 90, 91, 92, 93, 94, 95, 96, 97, 98, 99, 100, 101, 102, 103, 104, 105, 106, 107, 108, 109, 110, 111, 112, 113, 114, 115, 116, 117, 118, 119, 120, 121, 122, 123, 124, 125, 126, 127, 128, 129, 130, 131, 132, 133, 134, 135, 136, 137, 138, 139, 140, 141, 142, 143, 144, 145, 146, 147, 148, 149, 150, 151, 152, 153, 154, 155, 156, 157, 158, 159, 160, 161, 162, 163, 164, 165, 166, 167, 168, 169, 170, 171, 172, 173, 174, 175, 176, 177, 178, 179, 180, 181, 182, 183, 184, 185, 186, 187, 188, 189, 190, 191, 192] (0) ([(3, vn 0)]) ([]) (h0 := ⟨0, rfl, rfl, by omega, by omega⟩) (hr := ?_)
  rintro _ _ _ ⟨k, rfl, rfl, hmk, hk⟩
  refine v_code [] (hk := ?_)
  first | refine c_ifd rfl (fun h19 => ?_) (fun h19 => ?_) | refine c_ifn rfl (fun h19 => ?_) (fun h19 => ?_) | refine c_if rfl (fun h19 => ?_) (fun h19 => ?_)
  · exact absurd h19 (by omega)
  · refine v_code [] (hk := ?_)
    refine k_val 41 (vint 0) rfl rfl ?_
    refine l_do d_make0 (fun g42 => ?_)
    refine v_ops [] (hk := ?_)
    refine v_loop (fun m E H => ∃ (k : Nat), E = [(6, vn k)] ∧ H = [] ∧ m = 0 - k ∧ k ≤ 0) [0, 2, 5, 9, 10, 11, 12, 13, 14, 15, 73, 74, 75, 76, 77, 78, 79, 80, 81, 82, 83, 84, 85, 86, 87, 88, 89, 90, 91, 92, 93, 94, 95, 96, 97, 98, 99, 100, 101, 102, 103, 104, 105, 106, 107, 108, 109, 110, 111, 112, 113, 114, 115, 116, 117, 118, 119, 120, 121, 122, 123, 124, 125, 126, 127, 128, 129, 130, 131, 132, 133, 134, 135, 136, 137, 138, 139, 140, 141, 142, 143, 144, 145, 146, 147, 148, 149, 150, 151, 152, 153, 154, 155, 156, 157, 158, 159, 160, 161, 162, 163, 164, 165, 166, 167, 168, 169, 170, 171, 172, 173, 174, 175, 176, 177, 178, 179, 180, 181, 182, 183, 184, 185, 186, 187, 188, 189, 190, 191, 192] (0) ([(6, vn 0)]) ([]) (h0 := ⟨0, rfl, rfl, by omega, by omega⟩) (hr := ?_)
    rintro _ _ _ ⟨k, rfl, rfl, hmk, hk⟩
    refine v_code [] (hk := ?_)
    first | refine c_ifd rfl (fun h46 => ?_) (fun h46 => ?_) | refine c_ifn rfl (fun h46 => ?_) (fun h46 => ?_) | refine c_if rfl (fun h46 => ?_) (fun h46 => ?_)
    · exact absurd h46 (by omega)
    · refine v_code [] (hk := ?_)
      refine v_loop (fun m E H => ∃ (k : Nat), E = [(9, vn k)] ∧ H = [] ∧ m = 0 - k ∧ k ≤ 0) [0, 5, 11, 12, 13, 14, 15, 123, 124, 125, 126, 127, 128, 129, 130, 131, 132, 133, 134, 135, 136, 137, 138, 139, 140, 141, 142, 143, 144, 145, 146, 147, 148, 149, 150, 151, 152, 153, 154, 155, 156, 157, 158, 159, 160, 161, 162, 163, 164, 165, 166, 167, 168, 169, 170, 171, 172, 173, 174, 175, 176, 177, 178, 179, 180, 181, 182, 183, 184, 185, 186, 187, 188, 189, 190, 191, 192] (0) ([(9, vn 0)]) ([]) (h0 := ⟨0, rfl, rfl, by omega, by omega⟩) (hr := ?_)
      rintro _ _ _ ⟨k, rfl, rfl, hmk, hk⟩
      refine v_code [] (hk := ?_)
      first | refine c_ifd rfl (fun h76 => ?_) (fun h76 => ?_) | refine c_ifn rfl (fun h76 => ?_) (fun h76 => ?_) | refine c_if rfl (fun h76 => ?_) (fun h76 => ?_)
      · exact absurd h76 (by omega)
      · refine v_code [] (hk := ?_)
        refine v_loop (fun m E H => ∃ (k : Nat), E = [(11, vn k)] ∧ H = [] ∧ m = 0 - k ∧ k ≤ 0) [0, 2, 5, 14, 15, 152, 153, 154, 155, 156, 157, 158, 159, 160, 161, 162, 163, 164, 165, 166, 167, 168, 169, 170, 171, 172, 173, 174, 175, 176, 177, 178, 179, 180, 181, 182, 183, 184, 185, 186, 187, 188, 189, 190, 191, 192] (0) ([(11, vn 0)]) ([]) (h0 := ⟨0, rfl, rfl, by omega, by omega⟩) (hr := ?_)
        rintro _ _ _ ⟨k, rfl, rfl, hmk, hk⟩
        refine v_code [] (hk := ?_)
        first | refine c_ifd rfl (fun h126 => ?_) (fun h126 => ?_) | refine c_ifn rfl (fun h126 => ?_) (fun h126 => ?_) | refine c_if rfl (fun h126 => ?_) (fun h126 => ?_)
        · exact absurd h126 (by omega)
        · refine v_code [] (hk := ?_)
          refine v_loop (fun m E H => ∃ (k : Nat), E = [(14, vn k)] ∧ H = [] ∧ m = 0 - k ∧ k ≤ 0) [0, 5] (0) ([(14, vn 0)]) ([]) (h0 := ⟨0, rfl, rfl, by omega, by omega⟩) (hr := ?_)
          rintro _ _ _ ⟨k, rfl, rfl, hmk, hk⟩
          refine v_code [] (hk := ?_)
          first | refine c_ifd rfl (fun h155 => ?_) (fun h155 => ?_) | refine c_ifn rfl (fun h155 => ?_) (fun h155 => ?_) | refine c_if rfl (fun h155 => ?_) (fun h155 => ?_)
          · exact absurd h155 (by omega)
          · refine v_code [] (hk := ?_)
            refine v_ret rfl [] (.cons (.tmp rfl) .nil) (h := ?_)
            exact ⟨rfl, rfl⟩
theorem flatHashes0 : CSpec Tryz.prog 104 [.one (.sl 0 none 0 0)] [] [] fun o L => o = .ret (vb true) ∧ L = [] := by
  refine v_enter Tryz.func104 (h := fun w0 => ?_)
  refine v_code [] (hk := ?_)
  refine v_loop (fun m E H => ∃ (k : Nat), E = [(3, vn k)] ∧ H = [] ∧ m = 0 - k ∧ k ≤ 0) [0, 2, 5, 6, 7, 8, 9, 10, 11, 12, 13, 14, 15, 40, 41, 42, 43, 44, 45, 46, 47, 48, 49, 50, 51, 52, 53, 54, 55, 56, 57, 58, 59, 60, 61, 62, 63, 64, 65, 66, 67, 68, 69, 70, 71, 72, 73, 74, 75, 76, 77, 78, 79, 80, 81, 82, 83, 84, 85, 86, 87, 88, 89, 90, 91, 92, 93, 94, 95, 96, 97, 98, 99, 100, 101, 102, 103, 104, 105, 106, 107, 108, 109, 110, 111, 112, 113, 114, 115, 116, 117, 118, 119, 120, 121, 122, 123, 124, 125, 126, 127, 128, 129, 130, 131, 132, 133, 134, 135, 136, 137, 138, 139, 140, 141, 142, 143, 144, 145, 146, 147, 148, 149, 150, 151, 152, 153, 154, 155, 156, 157, 158, 159, 160, 161, 162, 163, 164, 165, 166, 167, 168, 169, 170, 171, 172, 173, 174, 175, 176, 177, 178, 179, 180, 181, 182, 183, 184, 185, 186, 187, 188, 189, 190, 191, 192] (0) ([(3, vn 0)]) ([]) (h0 := ⟨0, rfl, rfl, by omega, by omega⟩) (hr := ?_)
  rintro _ _ _ ⟨k, rfl, rfl, hmk, hk⟩
  refine v_code [] (hk := ?_)
  first | refine c_ifd rfl (fun h19 => ?_) (fun h19 => ?_) | refine c_ifn rfl (fun h19 => ?_) (fun h19 => ?_) | refine c_if rfl (fun h19 => ?_) (fun h19 => ?_)
  · exact absurd h19 (by omega)
  · refine v_code [] (hk := ?_)
    refine k_val 41 (vint 0) rfl rfl ?_
    refine l_do d_make0 (fun g42 => ?_)
    refine v_ops [] (hk := ?_)
    refine v_loop (fun m E H => ∃ (k : Nat), E = [(6, vn k)] ∧ H = [] ∧ m = 0 - k ∧ k ≤ 0) [0, 2, 5, 9, 10, 11, 12, 13, 14, 15, 73, 74, 75, 76, 77, 78, 79, 80, 81, 82, 83, 84, 85, 86, 87, 88, 89, 90, 91, 92, 93, 94, 95, 96, 97, 98, 99, 100, 101, 102, 103, 104, 105, 106, 107, 108, 109, 110, 111, 112, 113, 114, 115, 116, 117, 118, 119, 120, 121, 122, 123, 124, 125, 126, 127, 128, 129, 130, 131, 132, 133, 134, 135, 136, 137, 138, 139, 140, 141, 142, 143, 144, 145, 146, 147, 148, 149, 150, 151, 152, 153, 154, 155, 156, 157, 158, 159, 160, 161, 162, 163, 164, 165, 166, 167, 168, 169, 170, 171, 172, 173, 174, 175, 176, 177, 178, 179, 180, 181, 182, 183, 184, 185, 186, 187, 188, 189, 190, 191, 192] (0) ([(6, vn 0)]) ([]) (h0 := ⟨0, rfl, rfl, by omega, by omega⟩) (hr := ?_)
    rintro _ _ _ ⟨k, rfl, rfl, hmk, hk⟩
    refine v_code [] (hk := ?_)
    first | refine c_ifd rfl (fun h46 => ?_) (fun h46 => ?_) | refine c_ifn rfl (fun h46 => ?_) (fun h46 => ?_) | refine c_if rfl (fun h46 => ?_) (fun h46 => ?_)
    · exact absurd h46 (by omega)
    · refine v_code [] (hk := ?_)
      refine v_loop (fun m E H => ∃ (k : Nat), E = [(9, vn k)] ∧ H = [] ∧ m = 0 - k ∧ k ≤ 0) [0, 5, 11, 12, 13, 14, 15, 123, 124, 125, 126, 127, 128, 129, 130, 131, 132, 133, 134, 135, 136, 137, 138, 139, 140, 141, 142, 143, 144, 145, 146, 147, 148, 149, 150, 151, 152, 153, 154, 155, 156, 157, 158, 159, 160, 161, 162, 163, 164, 165, 166, 167, 168, 169, 170, 171, 172, 173, 174, 175, 176, 177, 178, 179, 180, 181, 182, 183, 184, 185, 186, 187, 188, 189, 190, 191, 192] (0) ([(9, vn 0)]) ([]) (h0 := ⟨0, rfl, rfl, by omega, by omega⟩) (hr := ?_)
      rintro _ _ _ ⟨k, rfl, rfl, hmk, hk⟩
      refine v_code [] (hk := ?_)
      first | refine c_ifd rfl (fun h76 => ?_) (fun h76 => ?_) | refine c_ifn rfl (fun h76 => ?_) (fun h76 => ?_) | refine c_if rfl (fun h76 => ?_) (fun h76 => ?_)
      · exact absurd h76 (by omega)
      · refine v_code [] (hk := ?_)
        refine v_loop (fun m E H => ∃ (k : Nat), E = [(11, vn k)] ∧ H = [] ∧ m = 0 - k ∧ k ≤ 0) [0, 2, 5, 14, 15, 152, 153, 154, 155, 156, 157, 158, 159, 160, 161, 162, 163, 164, 165, 166, 167, 168, 169, 170, 171, 172, 173, 174, 175, 176, 177, 178, 179, 180, 181, 182, 183, 184, 185, 186, 187, 188, 189, 190, 191, 192] (0) ([(11, vn 0)]) ([]) (h0 := ⟨0, rfl, rfl, by omega, by omega⟩) (hr := ?_)
        rintro _ _ _ ⟨k, rfl, rfl, hmk, hk⟩
        refine v_code [] (hk := ?_)
        first | refine c_ifd rfl (fun h126 => ?_) (fun h126 => ?_) | refine c_ifn rfl (fun h126 => ?_) (fun h126 => ?_) | refine c_if rfl (fun h126 => ?_) (fun h126 => ?_)
        · exact absurd h126 (by omega)
        · refine v_code [] (hk := ?_)
          refine v_loop (fun m E H => ∃ (k : Nat), E = [(14, vn k)] ∧ H = [] ∧ m = 0 - k ∧ k ≤ 0) [0, 5] (0) ([(14, vn 0)]) ([]) (h0 := ⟨0, rfl, rfl, by omega, by omega⟩) (hr := ?_)
          rintro _ _ _ ⟨k, rfl, rfl, hmk, hk⟩
          refine v_code [] (hk := ?_)
          first | refine c_ifd rfl (fun h155 => ?_) (fun h155 => ?_) | refine c_ifn rfl (fun h155 => ?_) (fun h155 => ?_) | refine c_if rfl (fun h155 => ?_) (fun h155 => ?_)
          · exact absurd h155 (by omega)
          · refine v_code [] (hk := ?_)
            refine v_ret rfl [] (.cons (.tmp rfl) .nil) (h := ?_)
            exact ⟨rfl, rfl⟩
end Go.Proofs.YtlnckcgbpilmdaaGreat
/- What lies apart: the bag. -/

set_option linter.unusedVariables false
set_option linter.unusedSimpArgs false
set_option maxRecDepth 100000
set_option maxHeartbeats 8000000
namespace Go.Proofs.YtlnckcgbpilmdaaGreat
open Go Go.RowKit HL
def bagF (A1 : Option Addr) (n1 c1 : Nat) (A2 : Option Addr) (n2 c2 : Nat) (A3 : Option Addr) (n3 c3 : Nat) : List At := [.one (.sl 0 none 0 0), .one (.sl 0 none 0 0), .one (.sl 0 none 0 0), .one (.sl 0 none 0 0), .one (.sl 0 none 0 0), .one (.sl 0 none 0 0), .one (.sl 0 none 0 0), .one (.sl 0 none 0 0), .one (.sl 0 none 0 0), .one (.sl 0 none 0 0), .one (.sl 101 A1 n1 c1), .one (.sl 102 A2 n2 c2), .one (.sl 0 none 0 0), .one (.sl 0 none 0 0), .one (.sl 0 none 0 0), .one (.sl 0 none 0 0), .one (.sl 0 none 0 0), .one (.sl 0 none 0 0), .one (.sl 0 none 0 0), .one (.sl 0 none 0 0), .one (.sl 0 none 0 0), .one (.sl 0 none 0 0), .one (.sl 0 none 0 0), .one (.sl 103 A3 n3 c3), .one (.sl 0 none 0 0), .one (.sl 0 none 0 0), .one (.sl 0 none 0 0), .one (.sl 0 none 0 0), .one (.sl 0 none 0 0)]
theorem putAssets_spec (g : Nat) (A1 A2 A3 : Option Addr) (c1 n2 c2 n3 c3 : Nat) (sa : List (Hd AssetP)) (s : Hd AssetP) (hm : sa.length ≤ 1000000) : CSpec Tryz.prog 173 [.one (.ptr 0 ⟨g, 0, none⟩), .one (.sl 1 s.A s.l.length s.c)] [] [(0, Res.va g 122 (bagF A1 sa.length c1 A2 n2 c2 A3 n3 c3)), (101, Res.rows A1 c1 23 (hdEn AssetP 51) sa)] fun o L =>
    ∃ A' c', o = .ret (.tup []) ∧ L = [Res.va g 122 (bagF A' (sa ++ [s]).length c' A2 n2 c2 A3 n3 c3), Res.rows A' c' 23 (hdEn AssetP 51) (sa ++ [s])] := by
  refine v_enter Tryz.func173 (h := fun w0 => ?_)
  refine v_code [] (hk := ?_)
  refine l_do (d_bslice (E := hdEn AssetP 51) (hE := ⟨⟩) [s]) (fun B10 => ?_)
  refine l_do d_append (fun p11 => ?_)
  refine v_ops [] (hk := ?_)
  refine v_ret rfl [0, 101] .nil (h := ?_)
  exact ⟨p11.1, p11.2, rfl, rfl⟩
def hdOf (v : ValueM) : Hd AssetP := ⟨v.A, v.c, v.assets⟩
theorem oneValue_spec (g : Nat) (A1 A2 A3 : Option Addr) (c1 n2 c2 n3 c3 : Nat) (sa : List (Hd AssetP)) (v : ValueM) (hm : sa.length ≤ 1000000) : CSpec Tryz.prog 126 [.one (.ptr 0 ⟨g, 0, none⟩), .agg [.one (.i .i64 v.coin), .one (.sl 201 v.A v.assets.length v.c)]] [] [(0, Res.va g 122 (bagF A1 sa.length c1 A2 n2 c2 A3 n3 c3)), (101, Res.rows A1 c1 23 (hdEn AssetP 51) sa)] fun o L =>
    ∃ A' c', o = .ret (.tup []) ∧ L = [Res.va g 122 (bagF A' (sa ++ [hdOf v]).length c' A2 n2 c2 A3 n3 c3), Res.rows A' c' 23 (hdEn AssetP 51) (sa ++ [hdOf v])] := by
  refine v_enter Tryz.func126 (h := fun w0 => ?_)
  refine v_code [] (hk := ?_)
  refine l_do d_box (fun g3 => ?_)
  refine v_ops [] (hk := ?_)
  refine v_call 20350 [(101, 101)] (putAssets_spec g A1 A2 A3 c1 n2 c2 n3 c3 sa (hdOf v) hm) Tryz.func173 (h := ?_)
  rintro _ _ (⟨A', c', rfl, rfl⟩)
  refine v_ops [] (hk := ?_)
  refine v_ret rfl [20350, 20351] .nil (h := ?_)
  exact ⟨A', c', rfl, rfl⟩
theorem putValues_spec (g : Nat) (A1 A2 A3 : Option Addr) (c1 c2 n3 c3 : Nat) (sa : List (Hd AssetP)) (sv : List (Hd ValueM)) (s : Hd ValueM) (hm : sa.length ≤ 100000) (hv : sv.length ≤ 1000) (hl : s.l.length ≤ 1000) : CSpec Tryz.prog 66 [.one (.ptr 0 ⟨g, 0, none⟩), .one (.sl 1 s.A s.l.length s.c)] [(1, Res.rd s.A valueEn s.l)] [(0, Res.va g 122 (bagF A1 sa.length c1 A2 sv.length c2 A3 n3 c3)), (101, Res.rows A1 c1 23 (hdEn AssetP 51) sa), (102, Res.rows A2 c2 22 (hdEn ValueM 51) sv)] fun o L =>
    ∃ A' c' A'' c'', o = .ret (.tup []) ∧ L = [Res.va g 122 (bagF A' (sa ++ s.l.map hdOf).length c' A'' (sv ++ [s]).length c'' A3 n3 c3), Res.rows A' c' 23 (hdEn AssetP 51) (sa ++ s.l.map hdOf), Res.rows A'' c'' 22 (hdEn ValueM 51) (sv ++ [s])] := by
  refine v_enter Tryz.func66 (h := fun w0 => ?_)
  refine v_code [] (hk := ?_)
  refine l_do (d_bslice (E := hdEn ValueM 51) (hE := ⟨⟩) [s]) (fun B11 => ?_)
  refine l_do d_append (fun p12 => ?_)
  refine v_ops [] (hk := ?_)
  refine v_loop (fun m E H => ∃ (k : Nat) (A6 : Option Addr) (c6 : Nat) (out : List (Hd AssetP)), E = [(4, vn k)] ∧ H = [(0, Res.va g 122 (bagF A6 out.length c6 p12.1 (sv ++ [s]).length p12.2 A3 n3 c3)), (101, Res.rows A6 c6 23 (hdEn AssetP 51) out)] ∧ m = s.l.length - k ∧ k ≤ s.l.length ∧ (out = sa ++ (s.l.take k).map hdOf)) [0, 1] (s.l.length) ([(4, vn 0)]) ([(0, Res.va g 122 (bagF (A1) (sa).length (c1) p12.1 (sv ++ [s]).length p12.2 A3 n3 c3)), (101, Res.rows (A1) (c1) 23 (hdEn AssetP 51) (sa))]) (h0 := ⟨0, A1, c1, sa, rfl, rfl, by omega, by omega, by simp⟩) (hr := ?_)
  rintro _ _ _ ⟨k, A6, c6, out, rfl, rfl, hmk, hk, hik0⟩
  refine v_code [] (hk := ?_)
  first | refine c_ifd rfl (fun h18 => ?_) (fun h18 => ?_) | refine c_ifn rfl (fun h18 => ?_) (fun h18 => ?_) | refine c_if rfl (fun h18 => ?_) (fun h18 => ?_)
  · have hol : out.length = sa.length + k := by rw [hik0, List.length_append, List.length_map, List.length_take]; omega
    refine v_code [] (hk := ?_)
    refine v_call 21300 [(101, 101)] (oneValue_spec g A6 p12.1 A3 c6 (sv ++ [s]).length p12.2 n3 c3 out (s.l.getD k value0) (by omega)) Tryz.func126 (h := ?_)
    rintro _ _ (⟨A7, c7, rfl, rfl⟩)
    refine v_ops [] (hk := ?_)
    refine k_ren 21300 0 rfl ?_
    refine k_ren 21301 101 rfl ?_
    refine v_again (s.l.length - (k + 1)) ⟨k + 1, A7, c7, out ++ [hdOf (s.l.getD k value0)], rfl, rfl, by omega, by omega, by rw [take_getD (d := value0) h18, List.map_append, ← List.append_assoc, hik0]; rfl⟩
  · rw [take_all' h18] at hik0
    subst hik0
    refine v_code [] (hk := ?_)
    refine v_ret rfl [0, 101, 102] .nil (h := ?_)
    exact ⟨A6, c6, p12.1, p12.2, rfl, rfl⟩
theorem apart_spec (g : Nat) (A1 A2 A3 : Option Addr) (c1 c2 c3 : Nat) (sa : List (Hd AssetP)) (sv : List (Hd ValueM)) (st : List (Hd TotalP)) (h1 : sa.length ≤ 1000) (h2 : sv.length ≤ 1000) (h3 : st.length ≤ 1000) (m1 : ∀ s ∈ sa, s.l.length ≤ 1048576) (m2 : ∀ s ∈ sv, s.l.length ≤ 1048576) (m3 : ∀ s ∈ st, s.l.length ≤ 1048576) : CSpec Tryz.prog 65 [.one (.ptr 0 ⟨g, 0, none⟩)] [] [(0, Res.va g 122 (bagF A1 sa.length c1 A2 sv.length c2 A3 st.length c3)), (101, Res.rows A1 c1 23 (hdEn AssetP 51) sa), (102, Res.rows A2 c2 22 (hdEn ValueM 51) sv), (103, Res.rows A3 c3 36 (hdEn TotalP 51) st), (111, Res.bag (sa.map (Hd.res 57 assetEn))), (112, Res.bag (sv.map (Hd.res 26 valueEn))), (113, Res.bag (st.map (Hd.res 75 totalEn)))] fun o L =>
    o = .ret (vb true) ∧ L = [] := by
  refine v_enter Tryz.func65 (h := fun w0 => ?_)
  refine v_code [] (hk := ?_)
  refine v_callD 20350 [] (flatLimbs0) Tryz.func97 (hB := trivial) (h := ?_)
  rintro _ _ (⟨rfl, rfl⟩)
  refine v_know 7 true rfl rfl ?_
  refine v_ops [] (hk := ?_)
  refine k_val 8 (vb true) rfl rfl ?_
  refine v_callD 20650 [] (flatWords0) Tryz.func98 (hB := trivial) (h := ?_)
  rintro _ _ (⟨rfl, rfl⟩)
  refine v_know 13 true rfl rfl ?_
  refine v_know 8 true rfl rfl ?_
  refine v_ops [] (hk := ?_)
  refine k_val 15 (vb true) rfl rfl ?_
  refine v_callD 21000 [] (flatInts0) Tryz.func99 (hB := trivial) (h := ?_)
  rintro _ _ (⟨rfl, rfl⟩)
  refine v_know 20 true rfl rfl ?_
  refine v_know 15 true rfl rfl ?_
  refine v_ops [] (hk := ?_)
  refine k_val 22 (vb true) rfl rfl ?_
  refine v_callD 21350 [] (flatLongs0) Tryz.func100 (hB := trivial) (h := ?_)
  rintro _ _ (⟨rfl, rfl⟩)
  refine v_know 27 true rfl rfl ?_
  refine v_know 22 true rfl rfl ?_
  refine v_ops [] (hk := ?_)
  refine k_val 29 (vb true) rfl rfl ?_
  refine v_callD 21700 [] (flatTexts0) Tryz.func101 (hB := trivial) (h := ?_)
  rintro _ _ (⟨rfl, rfl⟩)
  refine v_know 34 true rfl rfl ?_
  refine v_know 29 true rfl rfl ?_
  refine v_ops [] (hk := ?_)
  refine k_val 36 (vb true) rfl rfl ?_
  refine v_callD 22050 [] (flatBytes0) Tryz.func102 (hB := trivial) (h := ?_)
  rintro _ _ (⟨rfl, rfl⟩)
  refine v_know 41 true rfl rfl ?_
  refine v_know 36 true rfl rfl ?_
  refine v_ops [] (hk := ?_)
  refine k_val 43 (vb true) rfl rfl ?_
  refine v_callD 22400 [] (flatTruths0) Tryz.func103 (hB := trivial) (h := ?_)
  rintro _ _ (⟨rfl, rfl⟩)
  refine v_know 48 true rfl rfl ?_
  refine v_know 43 true rfl rfl ?_
  refine v_ops [] (hk := ?_)
  refine k_val 50 (vb true) rfl rfl ?_
  refine v_callD 22750 [] (flatHashes0) Tryz.func104 (hB := trivial) (h := ?_)
  rintro _ _ (⟨rfl, rfl⟩)
  refine v_know 55 true rfl rfl ?_
  refine v_know 50 true rfl rfl ?_
  refine v_ops [] (hk := ?_)
  refine k_val 57 (vb true) rfl rfl ?_
  refine v_callD 23100 [] (flatNodes0) Tryz.func105 (hB := trivial) (h := ?_)
  rintro _ _ (⟨rfl, rfl⟩)
  refine v_know 62 true rfl rfl ?_
  refine v_know 57 true rfl rfl ?_
  refine v_ops [] (hk := ?_)
  refine k_val 64 (vb true) rfl rfl ?_
  refine v_callD 23450 [] (flatTerms0) Tryz.func106 (hB := trivial) (h := ?_)
  rintro _ _ (⟨rfl, rfl⟩)
  refine v_know 69 true rfl rfl ?_
  refine v_know 64 true rfl rfl ?_
  refine v_ops [] (hk := ?_)
  refine k_val 71 (vb true) rfl rfl ?_
  refine v_callD 23800 [(50, 111)] (flatAssets_spec A1 c1 sa h1 m1) Tryz.func107 (hB := trivial) (h := ?_)
  rintro _ _ (⟨rfl, rfl⟩)
  refine v_know 76 true rfl rfl ?_
  refine v_know 71 true rfl rfl ?_
  refine v_ops [] (hk := ?_)
  refine k_val 78 (vb true) rfl rfl ?_
  refine v_callD 24150 [(50, 112)] (flatValues_spec A2 c2 sv h2 m2) Tryz.func108 (hB := trivial) (h := ?_)
  rintro _ _ (⟨rfl, rfl⟩)
  refine v_know 83 true rfl rfl ?_
  refine v_know 78 true rfl rfl ?_
  refine v_ops [] (hk := ?_)
  refine k_val 85 (vb true) rfl rfl ?_
  refine v_callD 24500 [] (flatOutputs0) Tryz.func109 (hB := trivial) (h := ?_)
  rintro _ _ (⟨rfl, rfl⟩)
  refine v_know 90 true rfl rfl ?_
  refine v_know 85 true rfl rfl ?_
  refine v_ops [] (hk := ?_)
  refine k_val 92 (vb true) rfl rfl ?_
  refine v_callD 24850 [] (flatRefs0) Tryz.func110 (hB := trivial) (h := ?_)
  rintro _ _ (⟨rfl, rfl⟩)
  refine v_know 97 true rfl rfl ?_
  refine v_know 92 true rfl rfl ?_
  refine v_ops [] (hk := ?_)
  refine k_val 99 (vb true) rfl rfl ?_
  refine v_callD 25200 [] (flatEntries0) Tryz.func111 (hB := trivial) (h := ?_)
  rintro _ _ (⟨rfl, rfl⟩)
  refine v_know 104 true rfl rfl ?_
  refine v_know 99 true rfl rfl ?_
  refine v_ops [] (hk := ?_)
  refine k_val 106 (vb true) rfl rfl ?_
  refine v_callD 25550 [] (flatInstrs0) Tryz.func112 (hB := trivial) (h := ?_)
  rintro _ _ (⟨rfl, rfl⟩)
  refine v_know 111 true rfl rfl ?_
  refine v_know 106 true rfl rfl ?_
  refine v_ops [] (hk := ?_)
  refine k_val 113 (vb true) rfl rfl ?_
  refine v_callD 25900 [] (flatPrograms0) Tryz.func113 (hB := trivial) (h := ?_)
  rintro _ _ (⟨rfl, rfl⟩)
  refine v_know 118 true rfl rfl ?_
  refine v_know 113 true rfl rfl ?_
  refine v_ops [] (hk := ?_)
  refine k_val 120 (vb true) rfl rfl ?_
  refine v_callD 26250 [] (flatRedeemers0) Tryz.func114 (hB := trivial) (h := ?_)
  rintro _ _ (⟨rfl, rfl⟩)
  refine v_know 125 true rfl rfl ?_
  refine v_know 120 true rfl rfl ?_
  refine v_ops [] (hk := ?_)
  refine k_val 127 (vb true) rfl rfl ?_
  refine v_callD 26600 [] (flatBodies0) Tryz.func115 (hB := trivial) (h := ?_)
  rintro _ _ (⟨rfl, rfl⟩)
  refine v_know 132 true rfl rfl ?_
  refine v_know 127 true rfl rfl ?_
  refine v_ops [] (hk := ?_)
  refine k_val 134 (vb true) rfl rfl ?_
  refine v_callD 26950 [] (flatSignatures0) Tryz.func116 (hB := trivial) (h := ?_)
  rintro _ _ (⟨rfl, rfl⟩)
  refine v_know 139 true rfl rfl ?_
  refine v_know 134 true rfl rfl ?_
  refine v_ops [] (hk := ?_)
  refine k_val 141 (vb true) rfl rfl ?_
  refine v_callD 27300 [] (flatTxs0) Tryz.func117 (hB := trivial) (h := ?_)
  rintro _ _ (⟨rfl, rfl⟩)
  refine v_know 146 true rfl rfl ?_
  refine v_know 141 true rfl rfl ?_
  refine v_ops [] (hk := ?_)
  refine k_val 148 (vb true) rfl rfl ?_
  refine v_callD 27650 [] (flatBlocks0) Tryz.func118 (hB := trivial) (h := ?_)
  rintro _ _ (⟨rfl, rfl⟩)
  refine v_know 153 true rfl rfl ?_
  refine v_know 148 true rfl rfl ?_
  refine v_ops [] (hk := ?_)
  refine k_val 155 (vb true) rfl rfl ?_
  refine v_callD 28000 [] (flatGeneses0) Tryz.func119 (hB := trivial) (h := ?_)
  rintro _ _ (⟨rfl, rfl⟩)
  refine v_know 160 true rfl rfl ?_
  refine v_know 155 true rfl rfl ?_
  refine v_ops [] (hk := ?_)
  refine k_val 162 (vb true) rfl rfl ?_
  refine v_callD 28350 [(50, 113)] (flatTotals_spec A3 c3 st h3 m3) Tryz.func120 (hB := trivial) (h := ?_)
  rintro _ _ (⟨rfl, rfl⟩)
  refine v_know 167 true rfl rfl ?_
  refine v_know 162 true rfl rfl ?_
  refine v_ops [] (hk := ?_)
  refine k_val 169 (vb true) rfl rfl ?_
  refine v_callD 28700 [] (flatDiffs0) Tryz.func121 (hB := trivial) (h := ?_)
  rintro _ _ (⟨rfl, rfl⟩)
  refine v_know 174 true rfl rfl ?_
  refine v_know 169 true rfl rfl ?_
  refine v_ops [] (hk := ?_)
  refine k_val 176 (vb true) rfl rfl ?_
  refine v_callD 29050 [] (flatStoredRows0) Tryz.func122 (hB := trivial) (h := ?_)
  rintro _ _ (⟨rfl, rfl⟩)
  refine v_know 181 true rfl rfl ?_
  refine v_know 176 true rfl rfl ?_
  refine v_ops [] (hk := ?_)
  refine k_val 183 (vb true) rfl rfl ?_
  refine v_callD 29400 [] (flatStates0) Tryz.func123 (hB := trivial) (h := ?_)
  rintro _ _ (⟨rfl, rfl⟩)
  refine v_know 188 true rfl rfl ?_
  refine v_know 183 true rfl rfl ?_
  refine v_ops [] (hk := ?_)
  refine k_val 190 (vb true) rfl rfl ?_
  refine v_callD 29750 [] (flatAsks0) Tryz.func124 (hB := trivial) (h := ?_)
  rintro _ _ (⟨rfl, rfl⟩)
  refine v_know 195 true rfl rfl ?_
  refine v_know 190 true rfl rfl ?_
  refine v_ops [] (hk := ?_)
  refine k_val 197 (vb true) rfl rfl ?_
  refine v_callD 30100 [] (flatTellRows0) Tryz.func125 (hB := trivial) (h := ?_)
  rintro _ _ (⟨rfl, rfl⟩)
  refine v_know 202 true rfl rfl ?_
  refine v_know 197 true rfl rfl ?_
  refine v_ops [] (hk := ?_)
  refine v_ret rfl [] (.cons (.tmp rfl) .nil) (h := ?_)
  exact ⟨rfl, rfl⟩
end Go.Proofs.YtlnckcgbpilmdaaGreat
/- Bundles that lie apart. -/

set_option linter.unusedVariables false
set_option linter.unusedSimpArgs false
set_option maxRecDepth 100000
set_option maxHeartbeats 8000000
namespace Go.Proofs.YtlnckcgbpilmdaaGreat
open Go Go.RowKit HL
def hds (l : List (Hd ValueM)) : List (Hd AssetP) := (l.flatMap Hd.l).map hdOf
theorem hds_snoc {l : List (Hd ValueM)} {k : Nat} (hk : k < l.length) : hds (l.take (k + 1)) = hds (l.take k) ++ (l.getD k default).l.map hdOf := by
  unfold hds
  rw [take_getD (d := default) hk, List.flatMap_append, List.map_append]
  simp
theorem hds_len {l : List (Hd ValueM)} {k : Nat} : (hds (l.take k)).length ≤ (hds l).length := by
  conv => rhs; rw [← List.take_append_drop k l]
  unfold hds
  rw [List.flatMap_append, List.map_append, List.length_append]
  omega
theorem apartValues_spec (A0 : Option Addr) (c0 : Nat) (sv : List (Hd ValueM)) (hm : sv.length ≤ 1000) (hl : ∀ s ∈ sv, s.l.length ≤ 1000) (hh : (hds sv).length ≤ 1000) (m1 : ∀ s ∈ hds sv, s.l.length ≤ 1048576) : CSpec Tryz.prog 22 [.one (.sl 0 A0 sv.length c0)] [(0, Res.rd A0 (hdEn ValueM 51) sv)] [(111, Res.bag ((hds sv).map (Hd.res 57 assetEn))), (112, Res.bag (sv.map (Hd.res 26 valueEn)))] fun o L => o = .ret (vb true) ∧ L = [] := by
  refine v_enter Tryz.func22 (h := fun w0 => ?_)
  refine v_code [] (hk := ?_)
  refine l_do d_box (fun g6 => ?_)
  refine v_ops [] (hk := ?_)
  refine k_nil 601 23 (hdEn AssetP 51) ?_
  refine k_nil 602 22 (hdEn ValueM 51) ?_
  refine v_loop (fun m E H => ∃ (k : Nat) (A1 : Option Addr) (c1 : Nat) (A2 : Option Addr) (c2 : Nat), E = [(4, vn k)] ∧ H = [(10006, Res.va g6 122 (bagF A1 (hds (sv.take k)).length c1 A2 (sv.take k).length c2 none 0 0)), (601, Res.rows A1 c1 23 (hdEn AssetP 51) (hds (sv.take k))), (602, Res.rows A2 c2 22 (hdEn ValueM 51) (sv.take k))] ∧ m = sv.length - k ∧ k ≤ sv.length) [0, 2, 3, 19, 20] (sv.length) ([(4, vn 0)]) ([(10006, Res.va g6 122 (bagF (none) (hds (sv.take 0)).length (0) (none) (sv.take 0).length (0) none 0 0)), (601, Res.rows (none) (0) 23 (hdEn AssetP 51) (hds (sv.take 0))), (602, Res.rows (none) (0) 22 (hdEn ValueM 51) (sv.take 0))]) (h0 := ⟨0, none, 0, none, 0, rfl, rfl, by omega, by omega⟩) (hr := ?_)
  rintro _ _ _ ⟨k, A1, c1, A2, c2, rfl, rfl, hmk, hk⟩
  refine v_code [] (hk := ?_)
  first | refine c_ifd rfl (fun h10 => ?_) (fun h10 => ?_) | refine c_ifn rfl (fun h10 => ?_) (fun h10 => ?_) | refine c_if rfl (fun h10 => ?_) (fun h10 => ?_)
  · have hlk := hl _ (getD_mem (d := default) h10)
    have hhk := hds_len (l := sv) (k := k)
    refine v_code [] (hk := ?_)
    refine k_val 17 (vsl 1 (sv.getD k default).A (sv.getD k default).l.length (sv.getD k default).c) rfl rfl ?_
    refine v_callD 20900 [(101, 601), (102, 602)] (putValues_spec g6 A1 A2 none c1 c2 0 0 (hds (sv.take k)) (sv.take k) (sv.getD k default) (by omega) (by rw [List.length_take]; omega) hlk) Tryz.func66 (hB := ⟨⟨_, (Der.bag 112 rfl (List.mem_map_of_mem (getD_mem (d := default) h10)) view_rows), rfl⟩, trivial⟩) (h := ?_)
    rintro _ _ (⟨A7, c7, A8, c8, rfl, rfl⟩)
    refine v_ops [] (hk := ?_)
    refine k_ren 20900 10006 rfl ?_
    refine k_ren 20901 601 rfl ?_
    refine k_ren 20902 602 rfl ?_
    refine k_res 10006 (Res.va g6 122 (bagF A7 (hds (sv.take (k + 1))).length c7 A8 (sv.take (k + 1)).length c8 none 0 0)) rfl (by rw [hds_snoc h10, take_getD (d := default) h10] <;> rfl) ?_
    refine k_res 601 (Res.rows A7 c7 23 (hdEn AssetP 51) (hds (sv.take (k + 1)))) rfl (by rw [hds_snoc h10] <;> rfl) ?_
    refine k_res 602 (Res.rows A8 c8 22 (hdEn ValueM 51) (sv.take (k + 1))) rfl (by rw [take_getD (d := default) h10] <;> rfl) ?_
    refine v_again (sv.length - (k + 1)) ⟨k + 1, A7, c7, A8, c8, rfl, rfl, by omega, by omega⟩
  · have e : sv.take k = sv := List.take_of_length_le (by omega)
    refine k_res 10006 (Res.va g6 122 (bagF A1 (hds sv).length c1 A2 sv.length c2 none 0 0)) rfl (by rw [e] <;> rfl) ?_
    refine k_res 601 (Res.rows A1 c1 23 (hdEn AssetP 51) (hds sv)) rfl (by rw [e] <;> rfl) ?_
    refine k_res 602 (Res.rows A2 c2 22 (hdEn ValueM 51) sv) rfl (by rw [e] <;> rfl) ?_
    refine k_nil 603 36 (hdEn TotalP 51) ?_
    refine k_empty 613 ?_
    refine v_code [] (hk := ?_)
    refine v_call 21000 [(101, 601), (102, 602), (103, 603), (111, 111), (112, 112), (113, 613)] (apart_spec g6 A1 A2 none c1 c2 0 (hds sv) sv [] hh hm (by simp) m1 (fun s hs => by have := hl s hs; omega) (by simp)) Tryz.func65 (h := ?_)
    rintro _ _ (⟨rfl, rfl⟩)
    refine v_ops [] (hk := ?_)
    refine v_ret rfl [] (.cons (.tmp rfl) .nil) (h := ?_)
    exact ⟨rfl, rfl⟩
end Go.Proofs.YtlnckcgbpilmdaaGreat
/- Bundles lent to what tells of them: plain. -/

set_option linter.unusedVariables false
namespace Go.Proofs.YtlnckcgbpilmdaaGreat
open Go Go.RowKit HL
theorem SameVs.symm {l m : List ValueM} (h : SameVs l m) : SameVs m l := Eq.symm h
structure Two (ok is : Bool) (s t : ValueM) : Prop where
  o : ok = is
  c : s.coin = t.coin
  a : s.assets = t.assets
end Go.Proofs.YtlnckcgbpilmdaaGreat
/- ValueTells, walked. (Draft: not built yet; needs Plan.s3.) -/

set_option linter.unusedVariables false
set_option linter.unusedSimpArgs false
set_option maxRecDepth 100000
set_option maxHeartbeats 8000000
namespace Go.Proofs.YtlnckcgbpilmdaaGreat
open Go Go.RowKit HL
theorem two_subs {a b x y s t : ValueM} {ok is : Bool} (e1 : x.coin = a.coin ∧ x.assets = a.assets) (e2 : y.coin = b.coin ∧ y.assets = b.assets) (hs : Told (Subs x y) ok s) (ht : Told (Subs a b) is t) : Two ok is s t := by
  have he : ∀ co p, Subs x y co p ↔ Subs a b co p := fun co p => by
    unfold Subs
    rw [e1.1, e1.2, e2.1, e2.2]
  obtain ⟨h1, h2, h3⟩ := hs.same ht he (fun _ _ _ _ ha hb => ha.unique hb)
  exact ⟨h1, h2, h3⟩
theorem subs_len {a b : ValueM} {ok : Bool} {c : ValueM} (h : Told (Subs a b) ok c) : c.assets.length ≤ 1048576 := by
  rcases h with ⟨_, h⟩ | ⟨_, _, _, h⟩
  · have := h.2.2.2.2.2.2; omega
  · rw [h]; simp
theorem tells_spec (a b : ValueM) (policy : Hash) (name : ByteArray) (ha : FitV a) (hb : FitV b) (sa : Short a.assets) (sb : Short b.assets) (hn : name.size ≤ 1048576) : CSpec Tryz.prog 4 [.agg [.one (.i .i64 a.coin), .one (.sl 101 a.A a.assets.length a.c)], .agg [.one (.i .i64 b.coin), .one (.sl 201 b.A b.assets.length b.c)], .agg [.hash policy], .one (.s name)] [(101, Res.rd a.A assetEn a.assets), (201, Res.rd b.A assetEn b.assets)] [] fun o L => o = .ret (vb true) ∧ L = [] := by
  have hsh : Shorts [a, b] := by intro v hv; simp only [List.mem_cons, List.not_mem_nil, or_false] at hv; rcases hv with rfl | rfl; exact ⟨ha.1, sa⟩; exact ⟨hb.1, sb⟩
  have la := ha.1
  have lb := hb.1
  refine v_enter Tryz.func4 (h := fun w0 => ?_)
  refine v_code [] (hk := ?_)
  refine l_do d_box (fun g4 => ?_)
  refine l_do d_box (fun g5 => ?_)
  refine l_do d_box (fun g6 => ?_)
  refine v_ops [] (hk := ?_)
  refine l_do (d_bslice [a, b]) (fun B20 => ?_)
  refine l_do (d_bslice (E := slvEn) (hE := ⟨⟩) [(⟨B20, 2, [a, b]⟩ : SlV)]) (fun B21 => ?_)
  refine v_callD 21100 [] (great_spec B21 [⟨B20, 2, [a, b]⟩] 1 (by simp) (by intro x hx; rw [List.mem_singleton.1 hx]; exact ⟨by simp, hsh⟩)) Tryz.func7 (hB := ⟨⟨_, (Der.rdn (Der.vw 10021) (Each.cons (Der.rdn (Der.vw 10020) (Each.cons (Der.vw 101) (Each.cons (Der.vw 201) Each.nil))) Each.nil)), rfl⟩, trivial⟩) (h := ?_)
  rintro _ _ (⟨gt, rfl, hgt, rfl⟩)
  refine v_ops [] (hk := ?_)
  first | refine c_ifd rfl (fun h27 => ?_) (fun h27 => ?_) | refine c_ifn rfl (fun h27 => ?_) (fun h27 => ?_) | refine c_if rfl (fun h27 => ?_) (fun h27 => ?_)
  · refine v_code [] (hk := ?_)
    refine v_callD 21400 [] (awake_spec) Tryz.func8 (hB := trivial) (h := ?_)
    rintro _ _ (⟨rfl, rfl⟩)
    refine v_ops [] (hk := ?_)
    refine v_ret rfl [] (.cons (.tmp rfl) .nil) (h := ?_)
    exact ⟨rfl, rfl⟩
  · have hgt2 := (hgt (by simp only [Bool.or_eq_false_iff] at h27; exact h27.1)) ⟨B20, 2, [a, b]⟩ (by simp)
    have fa : FitS a := ⟨by have := hgt2.2 a (by simp); omega, ha.2⟩
    have fb : FitS b := ⟨by have := hgt2.2 b (by simp); omega, hb.2⟩
    refine v_code [] (hk := ?_)
    refine v_cut (fun E H => ∃ g9 g10 B30 d30 B32 d32, E = [(9, vp 10009 ⟨g9, 0, none⟩), (10, vp 10010 ⟨g10, 0, none⟩)] ∧ H = [(10009, Res.va g9 26 [.one (.i .i64 a.coin), .one (.sl 21500 B30 a.assets.length d30)]), (10010, Res.va g10 26 [.one (.i .i64 b.coin), .one (.sl 21600 B32 b.assets.length d32)]), (21500, Res.rows B30 d30 57 assetEn (lentL a.assets)), (21600, Res.rows B32 d32 57 assetEn (lentL b.assets))] ∧ a.assets.length + 12 ≤ d30 ∧ b.assets.length + 12 ≤ d32) [3, 4, 5, 6, 8, 11, 12, 13, 14, 15, 17, 33, 34, 35, 36, 37, 38, 39, 40, 41, 42, 43, 44, 45, 46, 47, 48, 49, 50, 51, 52, 53, 54, 55, 56, 57, 58, 59, 60, 61, 62, 63, 64, 65, 66, 67, 68, 69, 70, 71, 72, 73, 74, 75, 76, 77, 78, 79, 80, 81, 82, 83, 84, 85, 86, 87, 88, 89, 90, 91, 92, 93, 94, 95, 96, 97, 98, 99, 100, 101, 102, 103, 104, 105, 106, 107, 108, 109, 110, 111, 112, 113, 114, 115, 116, 117, 118, 119, 120, 121, 122, 123, 124, 125, 126, 127, 128, 129, 130, 131, 132, 133, 134, 135, 136, 137, 138, 139, 140, 141, 142, 143, 144, 145, 146, 147, 148, 149, 150, 151, 152, 153, 154, 155, 156, 157] [] (h1 := ?_) (h2 := ?_)
    · refine v_draw (.q 0 (.q 2 (.s3 1 (.s3 3 (.s2 4 (.s 5 (.s 6 (.s 7 .nil))) 5 (.s 4 (.s 6 (.s 7 .nil)))) 4 (.s2 3 (.s 5 (.s 6 (.s 7 .nil))) 5 (.s 3 (.s 6 (.s 7 .nil)))) 5 (.s2 3 (.s 4 (.s 6 (.s 7 .nil))) 4 (.s 3 (.s 6 (.s 7 .nil))))) 4 (.s2 1 (.s2 3 (.s 5 (.s 6 (.s 7 .nil))) 5 (.s 3 (.s 6 (.s 7 .nil)))) 5 (.s 1 (.s 3 (.s 6 (.s 7 .nil))))) 5 (.s2 1 (.s2 3 (.s 4 (.s 6 (.s 7 .nil))) 4 (.s 3 (.s 6 (.s 7 .nil)))) 4 (.s 1 (.s 3 (.s 6 (.s 7 .nil)))))))) [10004, 10005] (hm := by kernel_rfl) (hs := by kernel_rfl) (hk := by kernel_rfl) (h := ?_)
      refine v_sch [] (hk := ?_)
      refine s_three ?_ ?_ ?_
      · refine v_callS rfl 21500 [] (lentValue_spec a ha.1) Tryz.func23 (h := ?_)
        rintro _ _ (⟨B30, d30, hd30, rfl, rfl⟩)
        refine ⟨cov_of (by repeat (first | exact trivial | refine ⟨rfl, ?_⟩)), ?_⟩
        refine v_sch [] (hk := ?_)
        refine s_three ?_ ?_ ?_
        · refine v_callS rfl 21600 [(101, 201)] (lentValue_spec b hb.1) Tryz.func23 (h := ?_)
          rintro _ _ (⟨B32, d32, hd32, rfl, rfl⟩)
          refine ⟨cov_of (by repeat (first | exact trivial | refine ⟨rfl, ?_⟩)), ?_⟩
          refine v_sch [] (hk := ?_)
          refine s_two ?_ ?_
          · refine s_do rfl d_alloc (fun g9 => ?_)
            refine s_do rfl d_alloc (fun g10 => ?_)
            refine v_sch [] (hk := ?_)
            refine v_join (⟨g9, g10, B30, d30, B32, d32, rfl, rfl, hd30, hd32⟩)
          · refine s_do rfl d_alloc (fun g10 => ?_)
            refine s_do rfl d_alloc (fun g9 => ?_)
            refine v_sch [] (hk := ?_)
            refine v_join (⟨g9, g10, B30, d30, B32, d32, rfl, rfl, hd30, hd32⟩)
        · refine s_do rfl d_alloc (fun g9 => ?_)
          refine v_sch [] (hk := ?_)
          refine s_two ?_ ?_
          · refine v_callS rfl 21600 [(101, 201)] (lentValue_spec b hb.1) Tryz.func23 (h := ?_)
            rintro _ _ (⟨B32, d32, hd32, rfl, rfl⟩)
            refine ⟨cov_of (by repeat (first | exact trivial | refine ⟨rfl, ?_⟩)), ?_⟩
            refine s_do rfl d_alloc (fun g10 => ?_)
            refine v_sch [] (hk := ?_)
            refine v_join (⟨g9, g10, B30, d30, B32, d32, rfl, rfl, hd30, hd32⟩)
          · refine s_do rfl d_alloc (fun g10 => ?_)
            refine v_callS rfl 21600 [(101, 201)] (lentValue_spec b hb.1) Tryz.func23 (h := ?_)
            rintro _ _ (⟨B32, d32, hd32, rfl, rfl⟩)
            refine ⟨cov_of (by repeat (first | exact trivial | refine ⟨rfl, ?_⟩)), ?_⟩
            refine v_sch [] (hk := ?_)
            refine v_join (⟨g9, g10, B30, d30, B32, d32, rfl, rfl, hd30, hd32⟩)
        · refine s_do rfl d_alloc (fun g10 => ?_)
          refine v_sch [] (hk := ?_)
          refine s_two ?_ ?_
          · refine v_callS rfl 21600 [(101, 201)] (lentValue_spec b hb.1) Tryz.func23 (h := ?_)
            rintro _ _ (⟨B32, d32, hd32, rfl, rfl⟩)
            refine ⟨cov_of (by repeat (first | exact trivial | refine ⟨rfl, ?_⟩)), ?_⟩
            refine s_do rfl d_alloc (fun g9 => ?_)
            refine v_sch [] (hk := ?_)
            refine v_join (⟨g9, g10, B30, d30, B32, d32, rfl, rfl, hd30, hd32⟩)
          · refine s_do rfl d_alloc (fun g9 => ?_)
            refine v_callS rfl 21600 [(101, 201)] (lentValue_spec b hb.1) Tryz.func23 (h := ?_)
            rintro _ _ (⟨B32, d32, hd32, rfl, rfl⟩)
            refine ⟨cov_of (by repeat (first | exact trivial | refine ⟨rfl, ?_⟩)), ?_⟩
            refine v_sch [] (hk := ?_)
            refine v_join (⟨g9, g10, B30, d30, B32, d32, rfl, rfl, hd30, hd32⟩)
      · refine s_do rfl d_alloc (fun g9 => ?_)
        refine v_sch [] (hk := ?_)
        refine s_two ?_ ?_
        · refine v_callS rfl 21500 [] (lentValue_spec a ha.1) Tryz.func23 (h := ?_)
          rintro _ _ (⟨B30, d30, hd30, rfl, rfl⟩)
          refine ⟨cov_of (by repeat (first | exact trivial | refine ⟨rfl, ?_⟩)), ?_⟩
          refine v_sch [] (hk := ?_)
          refine s_two ?_ ?_
          · refine v_callS rfl 21600 [(101, 201)] (lentValue_spec b hb.1) Tryz.func23 (h := ?_)
            rintro _ _ (⟨B32, d32, hd32, rfl, rfl⟩)
            refine ⟨cov_of (by repeat (first | exact trivial | refine ⟨rfl, ?_⟩)), ?_⟩
            refine s_do rfl d_alloc (fun g10 => ?_)
            refine v_sch [] (hk := ?_)
            refine v_join (⟨g9, g10, B30, d30, B32, d32, rfl, rfl, hd30, hd32⟩)
          · refine s_do rfl d_alloc (fun g10 => ?_)
            refine v_callS rfl 21600 [(101, 201)] (lentValue_spec b hb.1) Tryz.func23 (h := ?_)
            rintro _ _ (⟨B32, d32, hd32, rfl, rfl⟩)
            refine ⟨cov_of (by repeat (first | exact trivial | refine ⟨rfl, ?_⟩)), ?_⟩
            refine v_sch [] (hk := ?_)
            refine v_join (⟨g9, g10, B30, d30, B32, d32, rfl, rfl, hd30, hd32⟩)
        · refine s_do rfl d_alloc (fun g10 => ?_)
          refine v_callS rfl 21500 [] (lentValue_spec a ha.1) Tryz.func23 (h := ?_)
          rintro _ _ (⟨B30, d30, hd30, rfl, rfl⟩)
          refine ⟨cov_of (by repeat (first | exact trivial | refine ⟨rfl, ?_⟩)), ?_⟩
          refine v_callS rfl 21600 [(101, 201)] (lentValue_spec b hb.1) Tryz.func23 (h := ?_)
          rintro _ _ (⟨B32, d32, hd32, rfl, rfl⟩)
          refine ⟨cov_of (by repeat (first | exact trivial | refine ⟨rfl, ?_⟩)), ?_⟩
          refine v_sch [] (hk := ?_)
          refine v_join (⟨g9, g10, B30, d30, B32, d32, rfl, rfl, hd30, hd32⟩)
      · refine s_do rfl d_alloc (fun g10 => ?_)
        refine v_sch [] (hk := ?_)
        refine s_two ?_ ?_
        · refine v_callS rfl 21500 [] (lentValue_spec a ha.1) Tryz.func23 (h := ?_)
          rintro _ _ (⟨B30, d30, hd30, rfl, rfl⟩)
          refine ⟨cov_of (by repeat (first | exact trivial | refine ⟨rfl, ?_⟩)), ?_⟩
          refine v_sch [] (hk := ?_)
          refine s_two ?_ ?_
          · refine v_callS rfl 21600 [(101, 201)] (lentValue_spec b hb.1) Tryz.func23 (h := ?_)
            rintro _ _ (⟨B32, d32, hd32, rfl, rfl⟩)
            refine ⟨cov_of (by repeat (first | exact trivial | refine ⟨rfl, ?_⟩)), ?_⟩
            refine s_do rfl d_alloc (fun g9 => ?_)
            refine v_sch [] (hk := ?_)
            refine v_join (⟨g9, g10, B30, d30, B32, d32, rfl, rfl, hd30, hd32⟩)
          · refine s_do rfl d_alloc (fun g9 => ?_)
            refine v_callS rfl 21600 [(101, 201)] (lentValue_spec b hb.1) Tryz.func23 (h := ?_)
            rintro _ _ (⟨B32, d32, hd32, rfl, rfl⟩)
            refine ⟨cov_of (by repeat (first | exact trivial | refine ⟨rfl, ?_⟩)), ?_⟩
            refine v_sch [] (hk := ?_)
            refine v_join (⟨g9, g10, B30, d30, B32, d32, rfl, rfl, hd30, hd32⟩)
        · refine s_do rfl d_alloc (fun g9 => ?_)
          refine v_callS rfl 21500 [] (lentValue_spec a ha.1) Tryz.func23 (h := ?_)
          rintro _ _ (⟨B30, d30, hd30, rfl, rfl⟩)
          refine ⟨cov_of (by repeat (first | exact trivial | refine ⟨rfl, ?_⟩)), ?_⟩
          refine v_callS rfl 21600 [(101, 201)] (lentValue_spec b hb.1) Tryz.func23 (h := ?_)
          rintro _ _ (⟨B32, d32, hd32, rfl, rfl⟩)
          refine ⟨cov_of (by repeat (first | exact trivial | refine ⟨rfl, ?_⟩)), ?_⟩
          refine v_sch [] (hk := ?_)
          refine v_join (⟨g9, g10, B30, d30, B32, d32, rfl, rfl, hd30, hd32⟩)
    · rintro _ _ (⟨g9, g10, B30, d30, B32, d32, rfl, rfl, hd30, hd32⟩)
      refine v_ex [] (hk := ?_)
      refine v_callD 21800 [] (sub_spec ⟨a.coin, B30, d30, a.assets⟩ ⟨b.coin, B32, d32, b.assets⟩ ha hb) Tryz.func24 (hB := ⟨⟨_, (Der.vw 21500 rfl (view_pre view_rows)), rfl⟩, ⟨⟨_, (Der.vw 21600 rfl (view_pre view_rows)), rfl⟩, trivial⟩⟩) (h := ?_)
      rintro _ _ (⟨c, ok, hc, rfl, rfl⟩)
      refine v_ops [] (hk := ?_)
      refine l_do d_alloc (fun g11 => ?_)
      refine v_ops [] (hk := ?_)
      refine v_callD 22100 [] (subR_spec a b fa fb) Tryz.func25 (hB := ⟨⟨_, (Der.vw 101), rfl⟩, ⟨⟨_, (Der.vw 201), rfl⟩, trivial⟩⟩) (h := ?_)
      rintro _ _ (⟨d, is, hd, rfl, rfl⟩)
      have h2 := two_subs ⟨rfl, rfl⟩ ⟨rfl, rfl⟩ hc hd
      obtain rfl := h2.o
      refine v_ops [] (hk := ?_)
      refine l_do d_alloc (fun g13 => ?_)
      refine v_ops [] (hk := ?_)
      refine v_callD 22400 [] (sub_spec ⟨a.coin, B30, d30, a.assets⟩ ⟨b.coin, B32, d32, b.assets⟩ ha hb) Tryz.func24 (hB := ⟨⟨_, (Der.vw 21500 rfl (view_pre view_rows)), rfl⟩, ⟨⟨_, (Der.vw 21600 rfl (view_pre view_rows)), rfl⟩, trivial⟩⟩) (h := ?_)
      rintro _ _ (⟨e, ok2, he, rfl, rfl⟩)
      refine v_ops [] (hk := ?_)
      refine l_do d_alloc (fun g15 => ?_)
      refine v_ops [] (hk := ?_)
      refine v_draw (.q 0 (.q 1 (.q 2 (.q 3 (.q 4 (.q 5 (.s 6 (.q 7 (.q 8 (.q 9 (.q 10 (.q 11 (.q 13 (.s 12 (.q 14 (.q 15 (.q 16 (.q 17 (.q 19 (.s 18 (.s 20 (.q 21 (.q 22 (.q 23 (.q 24 (.q 25 (.q 27 (.q 28 (.s 26 (.s 29 (.q 30 (.q 31 (.q 32 (.q 33 (.q 34 (.q 35 (.q 37 (.q 38 (.q 39 (.s 36 (.s 40 (.q 41 (.q 42 .nil))))))))))))))))))))))))))))))))))))))))))) [10004, 10005, 10006, 10020, 10021, 21100, 21101, 21102, 21103, 10025, 21400, 21401, 21402, 21403, 21500, 21501, 21502, 21503, 21600, 21601, 21602, 21603, 10009, 10010, 21800, 21801, 21802, 21803, 10011, 22100, 22101, 22102, 22103, 10013, 22400, 22401, 22402, 22403, 10015, 22850, 22851, 22852, 22853, 23150, 23151, 23152, 23153, 23450, 23451, 23452, 23453, 23550, 23551, 23552, 23553, 23850, 23851, 23852, 23853, 24000, 24001, 24002, 24003, 24350, 24351, 24352, 24353, 24550, 24551, 24552, 24553, 10097, 25700, 25701, 25702, 25703, 26400, 26401, 26402, 26403, 26600, 26601, 26602, 26603, 26800, 26801, 26802, 26803, 10141, 10142, 27150, 27151, 27152, 27153, 27400, 27401, 27402, 27403, 27650, 27651, 27652, 27653, 27800, 27801, 27802, 27803] (hm := by kernel_rfl) (hs := by kernel_rfl) (hk := by kernel_rfl) (h := ?_)
      refine v_sch [] (hk := ?_)
      refine k_valC 54 (vb false) rfl (by simp) ?_
      refine k_valC 55 (.s (.agg [.one (.i .i64 c.coin), .one (.sl 21800 c.A c.assets.length c.c)])) rfl (if_pos (by simp)) ?_
      refine k_valC 56 (.s (.agg [.one (.i .i64 d.coin), .one (.sl 22100 d.A d.assets.length d.c)])) rfl (if_pos (by simp)) ?_
      refine v_callDS rfl 22850 [] (sameValue_spec c d (subs_len hc)) Tryz.func15 (hB := ⟨⟨_, (Der.vw 21800), rfl⟩, ⟨⟨_, (Der.vw 22100), rfl⟩, trivial⟩⟩) (h := ?_)
      rintro _ _ (⟨rfl, rfl⟩)
      refine ⟨cov_of (by repeat (first | exact trivial | refine ⟨rfl, ?_⟩)), ?_⟩
      refine v_knowC 57 true rfl (decide_eq_true ⟨h2.c, h2.a⟩) ?_
      refine v_knowC 54 false rfl rfl ?_
      refine v_sch [] (hk := ?_)
      refine k_valC 60 (vb false) rfl rfl ?_
      refine v_callDS rfl 23150 [] (covers_spec ⟨a.coin, B30, d30, a.assets⟩ ⟨b.coin, B32, d32, b.assets⟩ ha hb) Tryz.func26 (hB := ⟨⟨_, (Der.vw 21500 rfl (view_pre view_rows)), rfl⟩, ⟨⟨_, (Der.vw 21600 rfl (view_pre view_rows)), rfl⟩, trivial⟩⟩) (h := ?_)
      rintro _ _ (⟨v3, ok3, hv3, rfl, rfl⟩)
      refine ⟨cov_of (by repeat (first | exact trivial | refine ⟨rfl, ?_⟩)), ?_⟩
      have h3 := two_subs ⟨rfl, rfl⟩ ⟨rfl, rfl⟩ hv3 hd
      obtain rfl := h3.o
      refine v_knowC 60 false rfl rfl ?_
      refine v_sch [] (hk := ?_)
      refine k_valC 67 (vb false) rfl (by simp) ?_
      refine k_valC 68 (.s (.agg [.one (.i .i64 a.coin), .one (.sl 21500 B30 a.assets.length d30)])) rfl (if_pos (by simp)) ?_
      refine k_valC 70 (.s (.agg [.one (.i .i64 a.coin), .one (.sl 101 a.A a.assets.length a.c)])) rfl (if_pos (by simp)) ?_
      refine v_callDS rfl 23450 [] (right_spec a.coin B30 a.assets d30 ha.1) Tryz.func27 (hB := ⟨⟨_, (Der.vw 21500 rfl (view_pre view_rows)), rfl⟩, trivial⟩) (h := ?_)
      rintro _ _ (⟨rfl, rfl⟩)
      refine ⟨cov_of (by repeat (first | exact trivial | refine ⟨rfl, ?_⟩)), ?_⟩
      refine v_callDS rfl 23550 [] (rightR_spec a.coin a.A a.assets a.c ha.1) Tryz.func28 (hB := ⟨⟨_, (Der.vw 101), rfl⟩, trivial⟩) (h := ?_)
      rintro _ _ (⟨rfl, rfl⟩)
      refine ⟨cov_of (by repeat (first | exact trivial | refine ⟨rfl, ?_⟩)), ?_⟩
      refine v_knowC 67 false rfl rfl ?_
      refine v_sch [] (hk := ?_)
      refine k_valC 74 (vb false) rfl (by simp) ?_
      refine k_valC 76 (vsl 21500 B30 a.assets.length d30) rfl (if_pos (by simp)) ?_
      refine k_valC 79 (vsl 101 a.A a.assets.length a.c) rfl (if_pos (by simp)) ?_
      refine v_callDS rfl 23850 [] (mints_spec B30 a.assets d30 ha.1) Tryz.func29 (hB := ⟨⟨_, (Der.vw 21500 rfl (view_pre view_rows)), rfl⟩, trivial⟩) (h := ?_)
      rintro _ _ (⟨rfl, rfl⟩)
      refine ⟨cov_of (by repeat (first | exact trivial | refine ⟨rfl, ?_⟩)), ?_⟩
      refine v_callDS rfl 24000 [] (mintsR_spec a.A a.assets a.c ha.1) Tryz.func30 (hB := ⟨⟨_, (Der.vw 101), rfl⟩, trivial⟩) (h := ?_)
      rintro _ _ (⟨rfl, rfl⟩)
      refine ⟨cov_of (by repeat (first | exact trivial | refine ⟨rfl, ?_⟩)), ?_⟩
      refine v_knowC 74 false rfl rfl ?_
      refine v_sch [] (hk := ?_)
      refine k_valC 83 (vb false) rfl (by simp) ?_
      refine k_valC 84 (.s (.agg [.one (.i .i64 a.coin), .one (.sl 21500 B30 a.assets.length d30)])) rfl (if_pos (by simp)) ?_
      refine k_valC 85 (.s (.agg [.hash policy])) rfl (if_pos (by simp)) ?_
      refine k_valC 86 (vs name) rfl (if_pos (by simp)) ?_
      refine k_valC 88 (.s (.agg [.one (.i .i64 a.coin), .one (.sl 101 a.A a.assets.length a.c)])) rfl (if_pos (by simp)) ?_
      refine k_valC 89 (.s (.agg [.hash policy])) rfl (if_pos (by simp)) ?_
      refine k_valC 90 (vs name) rfl (if_pos (by simp)) ?_
      refine v_callDS rfl 24350 [] (of_spec ⟨a.coin, B30, d30, a.assets⟩ ⟨policy, name⟩ ha.1) Tryz.func31 (hB := ⟨⟨_, (Der.vw 21500 rfl (view_pre view_rows)), rfl⟩, trivial⟩) (h := ?_)
      rintro _ _ (⟨rfl, rfl⟩)
      refine ⟨cov_of (by repeat (first | exact trivial | refine ⟨rfl, ?_⟩)), ?_⟩
      refine v_callDS rfl 24550 [] (ofR_spec a ⟨policy, name⟩ ha.1) Tryz.func32 (hB := ⟨⟨_, (Der.vw 101), rfl⟩, trivial⟩) (h := ?_)
      rintro _ _ (⟨rfl, rfl⟩)
      refine ⟨cov_of (by repeat (first | exact trivial | refine ⟨rfl, ?_⟩)), ?_⟩
      refine v_knowC 83 false rfl rfl ?_
      refine v_sch [] (hk := ?_)
      first | refine c_ifd rfl (fun h93 => ?_) (fun h93 => ?_) | refine c_ifn rfl (fun h93 => ?_) (fun h93 => ?_) | refine c_if rfl (fun h93 => ?_) (fun h93 => ?_)
      · exact absurd h93 (by simp)
      · refine v_code [] (hk := ?_)
        refine v_loop (fun m E H => ∃ (k : Nat), E = [(17, vn k)] ∧ H = [] ∧ m = a.assets.length - k ∧ k ≤ a.assets.length) [4, 5, 9, 10, 11, 15, 130, 131, 132, 133, 134, 135, 136, 137, 138, 139, 140, 141, 142, 143, 144, 145, 146, 147, 148, 149, 150, 151, 152, 153, 154, 155, 156, 157] (a.assets.length) ([(17, vn 0)]) ([]) (h0 := ⟨0, rfl, rfl, by omega, by omega⟩) (hr := ?_)
        rintro _ _ _ ⟨k, rfl, rfl, hmk, hk⟩
        refine v_code [] (hk := ?_)
        first | refine c_ifd rfl (fun h98 => ?_) (fun h98 => ?_) | refine c_ifn rfl (fun h98 => ?_) (fun h98 => ?_) | refine c_if rfl (fun h98 => ?_) (fun h98 => ?_)
        · refine v_code [] (hk := ?_)
          refine v_draw (.q 0 (.q 1 (.q 2 (.q 3 (.q 4 (.q 5 (.q 6 (.q 7 (.q 8 (.q 9 (.q 10 (.q 11 (.q 12 (.q 14 (.q 15 (.q 16 (.q 17 (.q 18 (.q 19 (.q 20 (.q 21 (.q 22 (.q 23 (.q 24 (.q 25 (.q 26 (.s 13 (.s 27 (.q 28 .nil))))))))))))))))))))))))))))) [10004, 10005, 10006, 10020, 10021, 21100, 21101, 21102, 21103, 10025, 21400, 21401, 21402, 21403, 21500, 21501, 21502, 21503, 21600, 21601, 21602, 21603, 10009, 10010, 21800, 21801, 21802, 21803, 10011, 22100, 22101, 22102, 22103, 10013, 22400, 22401, 22402, 22403, 10015, 22850, 22851, 22852, 22853, 23150, 23151, 23152, 23153, 23450, 23451, 23452, 23453, 23550, 23551, 23552, 23553, 23850, 23851, 23852, 23853, 24000, 24001, 24002, 24003, 24350, 24351, 24352, 24353, 24550, 24551, 24552, 24553, 10097, 25700, 25701, 25702, 25703, 26400, 26401, 26402, 26403, 26600, 26601, 26602, 26603, 26800, 26801, 26802, 26803, 10141, 10142, 27150, 27151, 27152, 27153, 27400, 27401, 27402, 27403, 27650, 27651, 27652, 27653, 27800, 27801, 27802, 27803] (hm := by kernel_rfl) (hs := by kernel_rfl) (hk := by kernel_rfl) (h := ?_)
          refine v_sch [] (hk := ?_)
          refine v_callDS rfl 25700 [] (of_spec ⟨a.coin, B30, d30, a.assets⟩ (a.assets.getD k asset0).key ha.1) Tryz.func31 (hB := ⟨⟨_, (Der.vw 21500 rfl (view_pre view_rows)), rfl⟩, trivial⟩) (h := ?_)
          rintro _ _ (⟨rfl, rfl⟩)
          refine ⟨cov_of (by repeat (first | exact trivial | refine ⟨rfl, ?_⟩)), ?_⟩
          refine v_callDS rfl 26400 [] (ofR_spec a (a.assets.getD k asset0).key ha.1) Tryz.func32 (hB := ⟨⟨_, (Der.vw 101), rfl⟩, trivial⟩) (h := ?_)
          rintro _ _ (⟨rfl, rfl⟩)
          refine ⟨cov_of (by repeat (first | exact trivial | refine ⟨rfl, ?_⟩)), ?_⟩
          refine v_sch [] (hk := ?_)
          first | refine c_ifd rfl (fun h129 => ?_) (fun h129 => ?_) | refine c_ifn rfl (fun h129 => ?_) (fun h129 => ?_) | refine c_if rfl (fun h129 => ?_) (fun h129 => ?_)
          · exact absurd h129 (by simp)
          · refine v_code [] (hk := ?_)
            refine v_again (a.assets.length - (k + 1)) ⟨k + 1, rfl, rfl, by omega, by omega⟩
        · refine v_code [] (hk := ?_)
          refine v_callD 26600 [] (keptValue_spec ⟨a.coin, B30, d30, a.assets⟩ a ha.1 rfl rfl hd30) Tryz.func33 (hB := ⟨⟨_, (Der.vw 21500), rfl⟩, ⟨⟨_, (Der.vw 101), rfl⟩, trivial⟩⟩) (h := ?_)
          rintro _ _ (⟨rfl, rfl⟩)
          refine v_know 132 true rfl rfl ?_
          refine v_ops [] (hk := ?_)
          refine k_val 133 (vb true) rfl rfl ?_
          refine v_callD 26800 [] (keptValue_spec ⟨b.coin, B32, d32, b.assets⟩ b hb.1 rfl rfl hd32) Tryz.func33 (hB := ⟨⟨_, (Der.vw 21600), rfl⟩, ⟨⟨_, (Der.vw 201), rfl⟩, trivial⟩⟩) (h := ?_)
          rintro _ _ (⟨rfl, rfl⟩)
          refine v_know 136 true rfl rfl ?_
          refine v_know 133 true rfl rfl ?_
          refine v_ops [] (hk := ?_)
          refine k_val 138 (vb true) rfl rfl ?_
          refine l_do (d_bslice [c, e]) (fun B141 => ?_)
          refine l_do (d_bslice (E := hdEn ValueM 51) (hE := ⟨⟩) [(⟨B141, 2, [c, e]⟩ : Hd ValueM)]) (fun B142 => ?_)
          refine v_know 138 true rfl rfl ?_
          refine v_ops [] (hk := ?_)
          refine k_empty 902 ?_
          refine k_push 902 21800 rfl rfl ?_
          refine k_push 902 22400 rfl rfl ?_
          refine k_res 902 (Res.bag ((hds [⟨B141, 2, [c, e]⟩]).map (Hd.res 57 assetEn))) rfl rfl ?_
          refine v_ops [] (hk := ?_)
          refine k_empty 903 ?_
          refine k_push 903 10141 rfl rfl ?_
          refine k_res 903 (Res.bag ([(⟨B141, 2, [c, e]⟩ : Hd ValueM)].map (Hd.res 26 valueEn))) rfl rfl ?_
          refine v_ops [] (hk := ?_)
          refine k_val 138 (vb true) rfl rfl ?_
          refine v_callD 27150 [(111, 902), (112, 903)] (apartValues_spec B142 1 [⟨B141, 2, [c, e]⟩] (by simp) (by simp) (by simp [hds]) (by intro s hs; simp [hds, hdOf] at hs; rcases hs with rfl | rfl; exact subs_len hc; exact subs_len he)) Tryz.func22 (hB := ⟨⟨_, (Der.vw 10142), rfl⟩, trivial⟩) (h := ?_)
          rintro _ _ (⟨rfl, rfl⟩)
          refine v_know 143 true rfl rfl ?_
          refine v_know 138 true rfl rfl ?_
          refine v_ops [] (hk := ?_)
          refine k_val 145 (vb true) rfl rfl ?_
          refine v_callD 27400 [] (keptValue_spec ⟨a.coin, B30, d30, a.assets⟩ a ha.1 rfl rfl hd30) Tryz.func33 (hB := ⟨⟨_, (Der.vw 21500), rfl⟩, ⟨⟨_, (Der.vw 101), rfl⟩, trivial⟩⟩) (h := ?_)
          rintro _ _ (⟨rfl, rfl⟩)
          refine v_know 148 true rfl rfl ?_
          refine v_know 145 true rfl rfl ?_
          refine v_ops [] (hk := ?_)
          refine k_val 150 (vb true) rfl rfl ?_
          refine v_callD 27650 [] (keptValue_spec ⟨b.coin, B32, d32, b.assets⟩ b hb.1 rfl rfl hd32) Tryz.func33 (hB := ⟨⟨_, (Der.vw 21600), rfl⟩, ⟨⟨_, (Der.vw 201), rfl⟩, trivial⟩⟩) (h := ?_)
          rintro _ _ (⟨rfl, rfl⟩)
          refine v_know 153 true rfl rfl ?_
          refine v_know 150 true rfl rfl ?_
          refine v_ops [] (hk := ?_)
          refine k_val 155 (vb true) rfl rfl ?_
          refine v_callD 27800 [] (awake_spec) Tryz.func8 (hB := trivial) (h := ?_)
          rintro _ _ (⟨rfl, rfl⟩)
          refine v_know 156 true rfl rfl ?_
          refine v_know 155 true rfl rfl ?_
          refine v_ops [] (hk := ?_)
          refine v_ret rfl [] (.cons (.tmp rfl) .nil) (h := ?_)
          exact ⟨rfl, rfl⟩
end Go.Proofs.YtlnckcgbpilmdaaGreat
/- HEAP LIBRARY, third part: arguments that are hashes, read as data. My own text; it names no program. -/






set_option linter.unusedVariables false
set_option linter.unusedSimpArgs false
set_option linter.unusedSectionVars false
namespace Go.Proofs.YtlnckcgbpilmdaaGreat
namespace HL
open Go Go.RowKit Go.ChangeShapes Go.WideShapes Go.ChangeAt
section
variable {H : Type} {enc : TypeId × Value → H} {P : Program} {W : World} {base : Nat} {sp : Nat → Bool} {held : Bool} {T e : TypeId}
theorem wf_u8 {a : Int} (h : (Lit.int .u8 a).wf = true) : ∃ u : UInt8, a = u.toNat := by
  have h2 : 0 ≤ a ∧ a < 256 := by
    simp [Lit.wf, IntKind.min, IntKind.max, IntKind.signed, IntKind.bits] at h
    omega
  refine ⟨UInt8.ofNat a.toNat, ?_⟩
  rw [UInt8.toNat_ofNat_of_lt' (by simp; omega)]
  omega
theorem bytes_mapM (he : P.underlying e = some (.int .u8)) {m : Nat} : ∀ (cs : List Value) (xs : List (DataW H × List MemPlace)), cs.mapM (fun c => DataW.trod enc P W base sp held m e [c]) = some xs →
    ∃ bs : List UInt8, cs = bcells bs ∧ xs = bs.map fun b => (.lit (.int .u8 b.toNat), [])
  | [], xs, h => by
    simp at h
    subst h
    exact ⟨[], rfl, rfl⟩
  | c :: cs, xs, h => by
    rw [List.mapM_cons] at h
    simp only [bind, Option.bind_eq_some_iff, pure, Option.some.injEq] at h
    obtain ⟨y, hy, ys, hys, rfl⟩ := h
    obtain ⟨bs, rfl, rfl⟩ := bytes_mapM he cs ys hys
    obtain ⟨a, ea, rfl, wa⟩ := DataW.trod_int he hy
    obtain ⟨u, rfl⟩ := wf_u8 wa
    injection ea with ea
    subst ea
    exact ⟨u :: bs, rfl, rfl⟩
theorem mapM_range {α β : Type} (f : List α → Option β) (cs : List α) : (List.range cs.length).mapM (fun i => f ((cs.drop i).take 1)) = cs.mapM fun c => f [c] := by
  have gen : ∀ (cs : List α) (pre : List α), (List.range' pre.length cs.length).mapM (fun i => f (((pre ++ cs).drop i).take 1)) = cs.mapM fun c => f [c] := by
    intro cs
    induction cs with
    | nil => intro pre; rfl
    | cons c cs ih =>
      intro pre
      have h1 := ih (pre ++ [c])
      simp only [List.length_append, List.length_cons, List.length_nil, List.append_assoc, List.cons_append, List.nil_append] at h1
      simp only [List.length_cons, List.range'_succ, List.mapM_cons]
      rw [show List.range' (pre.length + 1) cs.length = List.range' (pre.length + (0 + 1)) cs.length from rfl, h1]
      simp
  have := gen cs []
  simpa [List.range_eq_range'] using this
theorem St.kept {w w' : World} {L : List Res} (h : St w w' No L) (may : MemPlace → Prop) : w.keptBut w' may := by
  refine ⟨h.os, h.output, fun i hi => ?_⟩
  rw [h.keep i hi id]
  cases w.heap[i]? with
  | none => trivial
  | some o =>
    cases o <;> simp
end
end HL
end Go.Proofs.YtlnckcgbpilmdaaGreat
/- ARGUMENTS READ AS DATA, and the end of a law's row. My own text; it names no program. -/






set_option linter.unusedVariables false
set_option linter.unusedSimpArgs false
set_option linter.unusedSectionVars false
namespace Go.Proofs.YtlnckcgbpilmdaaGreat
namespace HL
open Go Go.RowKit Go.ChangeShapes Go.WideShapes Go.ChangeAt
structure Opn (P : Program) (T : TypeId) {α : Type} (f : α → List At) (Q : World → α → Prop) (z : α → Nat) : Prop where
  op : ∀ {H : Type} (enc : TypeId × Value → H) (W : World) (fuel : Nat) (cs : List Value) (x : DataW H × List MemPlace), DataW.trod enc P W 0 (fun _ => true) true fuel T cs = some x → ∃ a, cs = flat (vals (f a)) ∧ Q W a ∧ z a ≤ Rows.uptoBulk x.1
theorem bulk_one {H : Type} (d : DataW H) : 1 ≤ Rows.uptoBulk d := by
  cases d with
  | lit l => cases l <;> simp [Rows.uptoBulk]
  | nil => simp [Rows.uptoBulk]
  | ptr d => simp [Rows.uptoBulk]
  | slice elems spare => simp [Rows.uptoBulk]
  | agg parts => simp [Rows.uptoBulk]
  | iface t d => simp [Rows.uptoBulk]
  | map entries => simp [Rows.uptoBulk]
  | held h => simp [Rows.uptoBulk]
theorem flat_one (p : PV) : flat (vals [.one p]) = [p.den] := by
  show flat [p.den] = _
  rw [flat_single, p.cells_den]
def Rng (k : IntKind) (n : Int) : Prop := k.min ≤ n ∧ n ≤ k.max
section
variable {P : Program} {T e : TypeId}
theorem opn_int (k : IntKind) [hu : UD P T (.int k)] : Opn P T (fun n : Int => [.one (.i k n)]) (fun _ n => Rng k n) (fun _ => 1) := ⟨fun enc W fuel cs x h => by
  obtain ⟨n, rfl, rfl, hw⟩ := DataW.trod_int hu.is h
  refine ⟨n, (flat_one (.i k n)).symm, ?_, bulk_one _⟩
  simp [Lit.wf] at hw
  exact hw⟩
theorem opn_string [hu : UD P T .string] : Opn P T (fun n : ByteArray => [.one (.s n)]) (fun _ n => n.size ≤ maxLen) (fun n => n.size + 1) := ⟨fun enc W fuel cs x h => by
  obtain ⟨n, rfl, rfl, hw⟩ := DataW.trod_string hu.is h
  refine ⟨n, (flat_one (.s n)).symm, hw, ?_⟩
  simp [Rows.uptoBulk]⟩
theorem opn_hash [hu : UD P T (.array 32 e)] [he : UD P e (.int .u8)] (hC : P.cellsOf T = 32 := by kernel_rfl) (hc : P.cellsOf e = 1 := by kernel_rfl) : Opn P T (fun h : Hash => [.hash h]) (fun _ _ => True) (fun _ => 1) := ⟨fun enc W fuel cs x h => by
  cases fuel with
  | zero => simp [DataW.trod] at h
  | succ m =>
    rw [DataW.trod_step] at h
    unfold DataW.trodStep at h
    simp only [hu.is] at h
    split at h
    · rename_i hl
      rw [hC] at hl
      simp only [Option.map_eq_some_iff, hc, Nat.mul_one] at h
      obtain ⟨xs, hx, e1⟩ := h
      have hr := mapM_range (fun c => DataW.trod enc P W 0 (fun _ => true) true m e c) cs
      rw [hl] at hr
      rw [hr] at hx
      obtain ⟨bs, hb, rfl⟩ := bytes_mapM he.is _ _ hx
      have hbl : bs.length = 32 := by rw [hb, length_bcells] at hl; exact hl
      refine ⟨⟨bs.toArray, by simpa using hbl⟩, ?_, trivial, bulk_one _⟩
      show cs = flat [hval _]
      rw [flat_single, cells_hval, hcells_eq, hb]
      simp [Vector.toList]
    · cases h⟩
theorem Opn.map {α β : Type} {f : α → List At} {Q : World → α → Prop} {z : α → Nat} (h : Opn P T f Q z) (g : α → β) {f' : β → List At} {Q' : World → β → Prop} {z' : β → Nat} (hf : ∀ a, f' (g a) = f a) (hQ : ∀ W a, Q W a → Q' W (g a)) (hz : ∀ a, z' (g a) ≤ z a) : Opn P T f' Q' z' := ⟨fun enc W fuel cs x hx => by
  obtain ⟨a, h1, h2, h3⟩ := h.op enc W fuel cs x hx
  exact ⟨g a, by rw [hf]; exact h1, hQ W a h2, Nat.le_trans (hz a) h3⟩⟩
structure PO (P : Program) where
  T : TypeId
  α : Type
  f : α → List At
  Q : World → α → Prop
  z : α → Nat
  sz : Nat
  h : Opn P T f Q z
  hc : P.cellsOf T = sz
def Tup : List (PO P) → Type
  | [] => Unit
  | p :: ps => p.α × Tup ps
def Tup.f : (ps : List (PO P)) → Tup ps → List At
  | [], _ => []
  | p :: ps, (a, t) => p.f a ++ Tup.f ps t
def Tup.Q : (ps : List (PO P)) → World → Tup ps → Prop
  | [], _, _ => True
  | p :: ps, W, (a, t) => p.Q W a ∧ Tup.Q ps W t
def Tup.z : (ps : List (PO P)) → Tup ps → Nat
  | [], _ => 0
  | p :: ps, (a, t) => p.z a + Tup.z ps t
def offs : Nat → List (PO P) → List (TypeId × Nat)
  | _, [] => []
  | o, p :: ps => (p.T, o) :: offs (o + p.sz) ps
def total : List (PO P) → Nat
  | [] => 0
  | p :: ps => p.sz + total ps
theorem open_fields {H : Type} (enc : TypeId × Value → H) (W : World) (n : Nat) (cs : List Value) : ∀ (ps : List (PO P)) (o : Nat) (xs : List (DataW H × List MemPlace)), cs.length = o + total ps → xs.length = ps.length →
    (∀ (i : Nat) (t : TypeId) (o' : Nat), (offs o ps)[i]? = some (t, o') → DataW.trod enc P W 0 (fun _ => true) true n t ((cs.drop o').take (P.cellsOf t)) = xs[i]?) → ∃ a : Tup ps, cs.drop o = flat (vals (Tup.f ps a)) ∧ Tup.Q ps W a ∧ Tup.z ps a ≤ Rows.uptoBulkAll (xs.map (·.1))
  | [], o, xs, hl, hx, h => ⟨(), by
      have : cs.drop o = [] := List.drop_eq_nil_of_le (by simp [total] at hl; omega)
      rw [this]
      exact flat_nil.symm, trivial, Nat.zero_le _⟩
  | p :: ps, o, xs, hl, hx, h => by
    cases xs with
    | nil => simp at hx
    | cons x xs =>
      have h0 := h 0 p.T o rfl
      simp only [List.getElem?_cons_zero] at h0
      obtain ⟨a, h1, h2, h3⟩ := p.h.op enc W n _ x h0
      obtain ⟨t, q1, q2, q3⟩ := open_fields enc W n cs ps (o + p.sz) xs (by simp [total] at hl; omega) (by simpa using hx) (fun i t o' hi => by
        have := h (i + 1) t o' (by simpa [offs] using hi)
        simpa using this)
      refine ⟨(a, t), ?_, ⟨h2, q2⟩, ?_⟩
      · show cs.drop o = flat (vals (p.f a ++ Tup.f ps t))
        rw [vals_append, flat_append, ← h1, ← q1, p.hc, ← List.drop_drop]
        exact (List.take_append_drop _ _).symm
      · show p.z a + Tup.z ps t ≤ Rows.uptoBulkAll ((x :: xs).map (·.1))
        simp only [List.map_cons, Rows.uptoBulkAll]
        omega
theorem opn_struct {fs : Array Field} (ps : List (PO P)) (hu : P.underlying T = some (.struct fs)) (ho : fs.toList.map (fun f => (f.type, f.offset)) = offs 0 ps) (hc : P.cellsOf T = total ps) : Opn P T (Tup.f ps) (Tup.Q ps) (fun a => Tup.z ps a + 1) := ⟨fun enc W fuel cs x h => by
  obtain ⟨xs, n, rfl, rfl, hl, hxl, hf⟩ := DataW.trod_struct hu h
  have hlen : fs.size = ps.length := by
    have gen : ∀ (o : Nat) (ps : List (PO P)), (offs o ps).length = ps.length := by
      intro o ps
      induction ps generalizing o with
      | nil => rfl
      | cons p ps ih => simp [offs, ih]
    have := congrArg List.length ho
    rw [gen, List.length_map, Array.length_toList] at this
    exact this
  obtain ⟨a, h1, h2, h3⟩ := open_fields enc W n cs ps 0 xs (by rw [hl, hc]; omega) (by rw [hxl, hlen]) (fun i t o' hi => by
    rw [← ho, List.getElem?_map] at hi
    obtain ⟨f, hfi, he⟩ := Option.map_eq_some_iff.1 hi
    simp only [Prod.mk.injEq] at he
    obtain ⟨rfl, rfl⟩ := he
    exact hf i f (by simpa using hfi))
  refine ⟨a, by simpa using h1, h2, ?_⟩
  simp only [Rows.uptoBulk]
  omega⟩
structure Sl (α : Type) where
  A : Option Addr
  c : Nat
  l : List α
theorem cells_of {W : World} {a : Addr} {n : Nat} {cs : List Value} (h : W.cells? 0 a n = some cs) : CellsAt W a cs ∧ cs.length = n := by
  unfold World.cells? at h
  rw [if_pos (Nat.zero_le _)] at h
  have hl' : cs.length = n := by
    have := mapM_some_length h
    rw [List.length_range] at this
    exact this
  refine ⟨fun j u hj => ?_, hl'⟩
  have hlt := (List.getElem?_eq_some_iff.1 hj).1
  have := mapM_some_get h j j (by rw [List.getElem?_range (by omega)])
  rw [this, hj]
theorem cells_join {W : World} {a : Addr} : ∀ {vs : List (List Value)} {sz : Nat} {o : Nat}, (∀ v ∈ vs, v.length = sz) → (∀ i v, vs[i]? = some v → CellsAt W (a.add (o + i * sz)) v) → CellsAt W (a.add o) vs.flatten
  | [], _, _, _, _ => fun j u hu => by simp at hu
  | v :: vs, sz, o, hl, h => by
    have h0 := h 0 v rfl
    simp only [Nat.zero_mul, Nat.add_zero] at h0
    have ih := cells_join (W := W) (a := a) (vs := vs) (sz := sz) (o := o + sz) (fun u hu => hl u (List.mem_cons_of_mem _ hu)) (fun i u hi => by
      have := h (i + 1) u (by simpa using hi)
      rw [show o + sz + i * sz = o + (i + 1) * sz by rw [Nat.add_mul, Nat.one_mul]; omega]
      exact this)
    have hv := hl v (List.mem_cons_self ..)
    intro j u hj
    rw [List.flatten_cons] at hj
    rw [add_of_add]
    by_cases hlt : j < v.length
    · rw [List.getElem?_append_left hlt] at hj
      have := h0 j u hj
      rwa [add_of_add] at this
    · rw [List.getElem?_append_right (by omega), hv] at hj
      have := ih _ u hj
      rw [add_of_add] at this
      rwa [show o + sz + (j - sz) = o + j by omega] at this
theorem bulkAll_append {H : Type} (xs ys : List (DataW H)) : Rows.uptoBulkAll (xs ++ ys) = Rows.uptoBulkAll xs + Rows.uptoBulkAll ys := by
  induction xs with
  | nil => simp [Rows.uptoBulkAll]
  | cons x xs ih => simp only [List.cons_append, Rows.uptoBulkAll, ih]; omega
theorem opn_slice {α : Type} (E : En α) {Q : World → α → Prop} {z : α → Nat} [hu : UD P T (.slice e)] (h : Opn P e (fun x => (E.f x).ats) Q z) (id : Nat) (hc : P.cellsOf e = E.sz := by kernel_rfl) :
    Opn P T (fun s : Sl α => [.one (.sl id s.A s.l.length s.c)]) (fun W s => s.l.length ≤ s.c ∧ (Res.rd s.A E s.l).holds W ∧ ∀ x ∈ s.l, Q W x) (fun s => (s.l.map z).sum + 1) := ⟨fun enc W fuel cs x hx => by
  rcases DataW.trod_slice hu.is hx with ⟨rfl, rfl⟩ | ⟨a, len, cap, elems, rest, n, rfl, rfl, rfl, _, hlc, _, hel, hget, _, _⟩
  · refine ⟨⟨none, 0, []⟩, (flat_one (.sl id none 0 0)).symm, ⟨Nat.le_refl _, ?_, by simp⟩, by simp [Rows.uptoBulk]⟩
    unfold Res.rd Res.fact
    left
    unfold En.dens flat
    rfl
  · rw [hc] at hget
    -- element by element
    have gen : ∀ (k : Nat), k ≤ len → ∃ l : List α, l.length = k ∧ (∀ i y, l[i]? = some y → CellsAt W (a.add (i * E.sz)) (flat (vals (E.f y).ats))) ∧ (∀ y ∈ l, Q W y) ∧ (l.map z).sum ≤ Rows.uptoBulkAll ((elems.take k).map (·.1)) := by
      intro k
      induction k with
      | zero => exact fun _ => ⟨[], rfl, by simp, by simp, by simp⟩
      | succ k ih =>
        intro hk
        obtain ⟨l, h1, h2, h3, h4⟩ := ih (by omega)
        have hlt : k < elems.length := by omega
        have hg := hget k (by omega)
        rw [List.getElem?_eq_getElem hlt] at hg
        obtain ⟨cs, hcs, hy⟩ := Option.bind_eq_some_iff.1 hg
        obtain ⟨y, e1, q1, q2⟩ := h.op enc W n cs _ hy
        subst e1
        refine ⟨l ++ [y], by simp [h1], fun i u hi => ?_, fun u hu => ?_, ?_⟩
        · by_cases hil : i < l.length
          · rw [List.getElem?_append_left hil] at hi
            exact h2 i u hi
          · rw [List.getElem?_append_right (by omega)] at hi
            have : i - l.length = 0 := by
              have := (List.getElem?_eq_some_iff.1 hi).1
              simp at this
              omega
            rw [this] at hi
            simp at hi
            subst hi
            have : i = k := by omega
            subst this
            exact (cells_of hcs).1
        · rcases List.mem_append.1 hu with hu | hu
          · exact h3 u hu
          · rw [List.mem_singleton.1 hu]; exact q1
        · rw [List.take_succ_eq_append_getElem hlt, List.map_append, List.map_append, List.sum_append]
          rw [bulkAll_append]
          simp only [List.map_cons, List.map_nil, Rows.uptoBulkAll, List.sum_cons, List.sum_nil]
          omega
    obtain ⟨l, h1, h2, h3, h4⟩ := gen len (Nat.le_refl _)
    refine ⟨⟨some a, cap, l⟩, ?_, ⟨by rw [h1]; exact hlc, ?_, h3⟩, ?_⟩
    · rw [flat_one]
      show _ = [Value.slice (some a) l.length cap]
      rw [h1]
    · unfold Res.rd Res.fact
      refine .inr ⟨a, rfl, ?_⟩
      have := cells_join (W := W) (a := a) (vs := l.map fun y => flat (vals (E.f y).ats)) (sz := E.sz) (o := 0) (fun v hv => by
        obtain ⟨y, _, rfl⟩ := List.mem_map.1 hv
        rw [length_flat, szs_vals]
        exact (E.ok y).2) (fun i v hi => by
        rw [List.getElem?_map] at hi
        obtain ⟨y, hy, rfl⟩ := Option.map_eq_some_iff.1 hi
        rw [Nat.zero_add]
        exact h2 i y hy)
      rw [add_zero] at this
      have e1 : flat (E.dens l) = (l.map fun y => flat (vals (E.f y).ats)).flatten := by
        unfold En.dens
        clear h1 h2 h3 h4 this
        induction l with
        | nil => show flat [] = _; rw [flat_nil]; rfl
        | cons y l ih => rw [List.map_cons, flat_cons, ih, SV.cells_den]; rfl
      rw [e1]
      exact this
    · simp only [Rows.uptoBulk]
      rw [show elems.take len = elems by rw [← hel]; exact List.take_length] at h4
      show (l.map z).sum + 1 ≤ _
      omega⟩
theorem opn_top {α : Type} {f : α → List At} {Q : World → α → Prop} {z : α → Nat} (h : Opn P T f Q z) (sv : α → SV) (hs : ∀ a, (sv a).ats = f a) {agg : Bool} (ha : ∀ a, (sv a).isAgg = agg) {H : Type} {enc : TypeId × Value → H} {W : World} {v : Value} {d : DataW H} {ps : List MemPlace} (hv : isAggV v = agg) (ht : DataW.Trod enc P W 0 (fun _ => true) true T v d ps) :
    ∃ a, v = (sv a).den ∧ Q W a ∧ z a ≤ Rows.uptoBulk d := by
  obtain ⟨fuel, hf⟩ := ht
  obtain ⟨a, h1, h2, h3⟩ := h.op enc W fuel _ _ hf
  refine ⟨a, ?_, h2, h3⟩
  rw [← hs, ← SV.cells_den] at h1
  have h4 := ha a
  rw [← (sv a).isAgg_den, ← hv] at h4
  generalize (sv a).den = u at h1 h4
  cases v <;> cases u <;> simp_all [Value.cells, isAggV]
theorem okw_agg {W : World} {b : Nat} {v : Value} {d : TypeDesc} (hu : P.underlying T = some d) (h : Value.okWide P W .any b T v) : isAggV v = (match d with | .struct _ | .array _ _ => true | _ => false) := by
  unfold Value.okWide at h
  rw [hu] at h
  cases d <;> simp only at h ⊢ <;> first
    | (obtain ⟨cs, rfl, _⟩ := h; rfl)
    | (unfold Cell.okWide Cell.ok at h; rw [hu] at h; cases v <;> simp_all [isAggV])
theorem St.below {w w' : World} {L : List Res} (h : St w w' No L) : Below w.heap.size w w' := ⟨h.os, h.tape, h.output, h.size, fun k hk => h.keep k hk id⟩
theorem St.noM {w w' : World} {M : Nat → Prop} {L : List Res} (h : St w w' M L) (hM : ∀ b, ¬ M b) : St w w' No L := by
  obtain rfl : M = No := funext fun b => propext ⟨fun h => (hM b h).elim, fun h => h.elim⟩
  exact h
theorem lk_all {B : Hp} {W : World} (h : ∀ p ∈ B, p.2.holds W) : ∀ i r, lk B i = some r → r.holds W := fun i r hi => by
  induction B with
  | nil => cases hi
  | cons p B ih =>
    obtain ⟨j, s⟩ := p
    rw [lk_cons] at hi
    split at hi
    · cases hi
      exact h _ (List.mem_cons_self ..)
    · exact ih (fun q hq => h q (List.mem_cons_of_mem _ hq)) hi
theorem args_below {H : Type} {enc : TypeId × Value → H} (hl : laidOutB P = true) {W W' : World} (hb : Below W.heap.size W W') : ∀ {ts : List TypeId} {vs : List Value} {ds : List (DataW H)} {ps : List MemPlace}, (ts.all fun t => P.readableRec t && decide (t < P.types.size)) = true → DataW.TrodAll enc P W 0 (fun _ => true) true ts vs ds ps → (∀ x ∈ ps, x.block < W.heap.size) →
    DataW.TrodAll enc P W' 0 (fun b => decide (b < W.heap.size)) true ts vs ds ps
  | [], vs, ds, ps, _, h, _ => by
    obtain ⟨rfl, rfl, rfl⟩ := trodAll_nil h
    exact rfl
  | t :: ts, vs, ds, ps, ht, h, hp => by
    obtain ⟨v, vs', d, ds', p, q, rfl, rfl, rfl, h1, h2⟩ := trodAll_cons h
    simp only [List.all_cons, Bool.and_eq_true, decide_eq_true_eq] at ht
    exact ⟨p, q, Below.trod hl ht.1.1 ht.1.2 h1 hb (fun x hx => hp x (List.mem_append_left _ hx)), args_below hl hb ht.2 h2 (fun x hx => hp x (List.mem_append_right _ hx)), rfl⟩
theorem row_post {f : Func} {s : ChangeSpec} {H : Type} {enc : TypeId × Value → H} {W W' : World} {args : Array Value} {ds gs : List (DataW H)} {before : List MemPlace} {L : List Res} {tb : TypeId} (hl : laidOutB P = true) (hv : s.vars = []) (hr : f.resultTypes = #[tb]) (hb : P.underlying tb = some .bool) (hrec : (f.params.toList.all fun t => P.readableRec t && decide (t < P.types.size)) = true)
    (hW : DataW.Whole enc P f.params.toList s.vars false W args.toList ds gs before) (hst : St W W' No L) (hs : gs = [] → (s.fn H (ds ++ gs)).results = [.lit (.bool true)] ∧ (s.fn H (ds ++ gs)).args = ds ∧ (s.fn H (ds ++ gs)).vars = []) : s.post enc P f false true false false W args (.bool true) W' := by
  have hlt := hW.lt
  obtain ⟨p, q, hA, hV, rfl, hfz, hnd⟩ := hW
  have hV' := hV
  rw [hv] at hV'
  obtain ⟨rfl, rfl⟩ := trodVars_none hV'
  obtain ⟨e1, e2, e3⟩ := hs rfl
  refine ⟨ds, [], p ++ [], [], p, [], ⟨p, [], hA, hV, rfl, hfz, hnd⟩, ?_, ?_, ?_, World.keptBut_mono (fun x hx => ⟨hx, .inr (.inl ?_)⟩) (hst.kept (· ∈ p ++ [])), fun h => by cases h⟩
  · rw [e1, hr]
    exact trodAll_mk1 (shut_bool hb true)
  · rw [e2]
    exact args_below hl hst.below hrec hA (fun x hx => hlt x (List.mem_append_left _ hx))
  · rw [e3, hv]
    exact rfl
  · simpa using hx
end
end HL
end Go.Proofs.YtlnckcgbpilmdaaGreat
/- ValueTells: for any two bundles, any policy, any name: true. Upto form (what is read is of bulk at most 1048576). -/



set_option linter.unusedVariables false
set_option linter.unusedSimpArgs false
namespace Go.Proofs.YtlnckcgbpilmdaaGreat
open Go Go.RowKit HL Go.ChangeShapes Go.WideShapes Go.ChangeAt
set_option maxRecDepth 100000 in
theorem opn_asset : Opn Tryz.prog 57 (fun x => (assetEn.f x).ats) (fun _ x => Rng .i64 x.amount) (fun x => x.name.size + 1) :=
  (opn_struct [⟨50, Hash, _, _, _, 32, opn_hash, by kernel_rfl⟩, ⟨9, ByteArray, _, _, _, 1, opn_string, by kernel_rfl⟩, ⟨2, Int, _, _, _, 1, opn_int .i64, by kernel_rfl⟩]
    Tryz.underlying57 (by kernel_rfl) (by kernel_rfl)).map (fun a => (⟨a.1, a.2.1, a.2.2.1⟩ : AssetP)) (fun a => rfl) (fun W a h => h.2.2.1) (fun a => by
      obtain ⟨h, s, i, u⟩ := a
      show s.size + 1 ≤ 1 + ((s.size + 1) + (1 + 0)) + 1
      omega)
set_option maxRecDepth 100000 in
theorem opn_value (id : Nat) : Opn Tryz.prog 26 (fun v : ValueM => [.one (.i .i64 v.coin), .one (.sl id v.A v.assets.length v.c)]) (fun W v => Rng .i64 v.coin ∧ v.assets.length ≤ v.c ∧ (Res.rd v.A assetEn v.assets).holds W ∧ ∀ x ∈ v.assets, Rng .i64 x.amount) (fun v => (v.assets.map fun x => x.name.size + 1).sum + 1) :=
  (opn_struct [⟨2, Int, _, _, _, 1, opn_int .i64, by kernel_rfl⟩, ⟨23, Sl AssetP, _, _, _, 1, opn_slice assetEn opn_asset id, by kernel_rfl⟩]
    Tryz.underlying26 (by kernel_rfl) (by kernel_rfl)).map (fun a => (⟨a.1, a.2.1.A, a.2.1.c, a.2.1.l⟩ : ValueM)) (fun a => rfl) (fun W a h => ⟨h.1, h.2.1.1, h.2.1.2.1, h.2.1.2.2⟩) (fun a => by
      obtain ⟨i, s, u⟩ := a
      show (s.l.map fun x => x.name.size + 1).sum + 1 ≤ 1 + (((s.l.map fun x => x.name.size + 1).sum + 1) + 0) + 1
      omega)
theorem sum_len : ∀ (l : List AssetP), l.length ≤ (l.map fun x => x.name.size + 1).sum
  | [] => by simp
  | x :: l => by
    have := sum_len l
    rw [List.map_cons, List.sum_cons, List.length_cons]
    omega
theorem sum_name {x : AssetP} : ∀ {l : List AssetP}, x ∈ l → x.name.size ≤ (l.map fun x => x.name.size + 1).sum
  | [], h => by cases h
  | y :: l, h => by
    rw [List.map_cons, List.sum_cons]
    rcases List.mem_cons.1 h with rfl | h
    · omega
    · have := sum_name h; omega
theorem fit_of {v : ValueM} {W : World} (h : Rng .i64 v.coin ∧ v.assets.length ≤ v.c ∧ (Res.rd v.A assetEn v.assets).holds W ∧ ∀ x ∈ v.assets, Rng .i64 x.amount) (hs : (v.assets.map fun x => x.name.size + 1).sum ≤ 1048576) : FitV v ∧ Short v.assets :=
  ⟨⟨Nat.le_trans (sum_len _) hs, h.1, fun x hx => h.2.2.2 x hx⟩, fun x hx => Nat.le_trans (sum_name hx) hs⟩
namespace ValueTells
theorem own : ownKnob Tryz.prog.godebug = none := by kernel_rfl
set_option maxRecDepth 100000 in
theorem contract (H : Type) (enc : TypeId × Value → H) (W : World) (base : Nat) (args : Array Value) (ds gs : List (DataW H)) (before : List MemPlace)
    (hval : ∀ (j : Nat) t v, Tryz.f4.params[j]? = some t → args[j]? = some v → Value.okWide Tryz.prog W .any base t v)
    (hW : DataW.Whole enc Tryz.prog Tryz.f4.params.toList Rows.valueTellsSpec.vars false W args.toList ds gs before) (hk : Rows.uptoSmall H (ds ++ gs) = true) :
    Calls Tryz.prog 4 args W fun e W' => ∃ v, e = .returned v ∧ Rows.valueTellsSpec.post enc Tryz.prog Tryz.f4 false true false false W args v W' := by
  have hW' := hW
  obtain ⟨p, q, hA0, hV, rfl, hfz, hnd⟩ := hW
  have hA : DataW.TrodAll enc Tryz.prog W 0 (fun _ => true) true Tryz.f4.params.toList args.toList ds p := hA0
  rw [Tryz.params4] at hA hval
  obtain ⟨v0, vs0, d0, ds0, p0, q0, hargs, rfl, rfl, h0, r0⟩ := trodAll_cons hA
  obtain ⟨v1, vs1, d1, ds1, p1, q1, rfl, rfl, rfl, h1, r1⟩ := trodAll_cons r0
  obtain ⟨v2, vs2, d2, ds2, p2, q2, rfl, rfl, rfl, h2, r2⟩ := trodAll_cons r1
  obtain ⟨v3, vs3, d3, ds3, p3, q3, rfl, rfl, rfl, h3, r3⟩ := trodAll_cons r2
  obtain ⟨rfl, rfl, rfl⟩ := trodAll_nil r3
  obtain rfl : args = #[v0, v1, v2, v3] := by cases args; simp_all
  obtain ⟨rfl, rfl⟩ := trodVars_none hV
  obtain ⟨a0, rfl, y0, z0⟩ := opn_top (opn_value 101) (fun v => .agg [.one (.i .i64 v.coin), .one (.sl 101 v.A v.assets.length v.c)]) (fun _ => rfl) (fun _ => rfl) (okw_agg Tryz.underlying26 (hval 0 _ v0 rfl rfl)) h0
  obtain ⟨a1, rfl, y1, z1⟩ := opn_top (opn_value 201) (fun v => .agg [.one (.i .i64 v.coin), .one (.sl 201 v.A v.assets.length v.c)]) (fun _ => rfl) (fun _ => rfl) (okw_agg Tryz.underlying26 (hval 1 _ v1 rfl rfl)) h1
  obtain ⟨a2, rfl, y2, z2⟩ := opn_top opn_hash (fun h => .agg [.hash h]) (fun _ => rfl) (fun _ => rfl) (okw_agg Tryz.underlying50 (hval 2 _ v2 rfl rfl)) h2
  obtain ⟨a3, rfl, y3, z3⟩ := opn_top opn_string (fun n => .one (.s n)) (fun _ => rfl) (fun _ => rfl) (okw_agg Tryz.underlying9 (hval 3 _ v3 rfl rfl)) h3
  simp only [Rows.uptoSmall, decide_eq_true_eq, List.append_nil, Rows.uptoBulkAll] at hk
  obtain ⟨f0, s0⟩ := fit_of y0 (by omega)
  obtain ⟨f1, s1⟩ := fit_of y1 (by omega)
  refine (tells_spec a0 a1 a2 a3 f0 f1 s0 s1 (by omega) W (lk_all (by rintro p hp; simp at hp; rcases hp with rfl | rfl; exact y0.2.2.1; exact y1.2.2.1)) (by simp [live]) (by simp [live]) (by simp [live])).mono fun e W' ⟨o, L, he, ho, hst⟩ => ?_
  obtain ⟨rfl, rfl⟩ := ho
  subst he
  exact ⟨_, rfl, row_post (by kernel_rfl) rfl rfl Tryz.underlying4 (by kernel_rfl) hW' (hst.noM fun _ h => by obtain ⟨_, h, _⟩ := h; simp [live] at h) fun _ => ⟨rfl, rfl, rfl⟩⟩
set_option maxRecDepth 100000 in
theorem lifted (os : Os) (started : os.Started) (H : Type) (enc : TypeId × Value → H) (F : Stop.Interp) :
    ReturnsInHanded {} Tryz.checked os 4 .any ((Rows.OpenSpec.upto Rows.valueTellsSpec).pre6 enc Tryz.prog Tryz.f4 Rows.valueTellsUptoRow.domain false) (((Rows.OpenSpec.upto Rows.valueTellsSpec).at F).post enc Tryz.prog Tryz.f4 false true false false) := by
  refine returnsInHanded_of_cond (C := Tryz.checked) (s := Rows.OpenSpec.upto Rows.valueTellsSpec) (k := Rows.uptoSmall) rfl own started (by kernel_rfl) Tryz.func4
    (OpenSpec.witness (enc := enc) (C := Tryz.checked) (s := Rows.OpenSpec.upto Rows.valueTellsSpec) (k := Rows.uptoSmall) rfl false ⟨#[], #[.agg #[.int .i64 0, .slice none 0 0], .agg #[.int .i64 0, .slice none 0 0], .agg (Array.replicate 32 (.int .u8 0)), .string ⟨#[]⟩], []⟩ 8 (by kernel_rfl) (by kernel_rfl) (by kernel_rfl)
      (x := ([.agg [.lit (.int .i64 0), .nil], .agg [.lit (.int .i64 0), .nil], .agg (List.replicate 32 (.lit (.int .u8 0))), .lit (.string [])], [], [])) (by kernel_rfl) rfl (by kernel_rfl)) ?_
  intro W base args ds gs before hval hW _ hk _
  exact contract H enc W base args ds gs before hval hW hk
theorem proved : Rows.ValueTellsUptoSaid :=
  OpenClaim.holds_of_cond 4 Tryz.f4 rfl rfl rfl rfl rfl rfl rfl ⟨rfl, rfl, rfl, rfl, rfl⟩ rfl rfl rfl rfl rfl (by kernel_rfl) Tryz.func4 (by kernel_rfl)
    (of_decide_eq_true (by kernel_rfl)) (by unfold Func.isWrapper; first | (rw [if_pos (by decide +kernel)]; kernel_rfl) | (rw [if_neg (by decide +kernel)]; exact ⟨rfl, rfl⟩))
    (fun os started H enc _ F => lifted os started H enc F)
end ValueTells
end Go.Proofs.YtlnckcgbpilmdaaGreat
