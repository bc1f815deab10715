import Derived.Test.YtonbgcehgmpnkaaTd
set_option linter.unusedVariables false
set_option linter.unusedSimpArgs false
namespace Go.Proofs.Ytonbgcehgmpnkaa
open Go Go.RowKit HL BigFrame
def fallenV : Value := .iface 71 (.agg #[])
def fell : List PanicEntry := [{ v := fallenV, recovered := false }]
theorem must_calls (b : Bool) (w : World) : Calls Try.prog 36 #[.bool b] w fun e w' => (b = true ∧ e = .returned (.tuple #[]) ∨ b = false ∧ e = .panicked fell) ∧ St w w' No [] := by
  have hst := St.start w No
  cases b
  · go_enter Try.func36, Try.ntmps36
    go_wp2
    simp [bodyPost, fell, fallenV, hst]
  · go_enter Try.func36, Try.ntmps36
    go_wp2
    simp [bodyPost, results, Try.results36, hst, Sem.run_pure]
set_option maxRecDepth 100000
theorem made_nil (w : World) : Calls Try.prog 21 #[.pointer none] w fun e w' => e = .returned (.bool false) ∧ St w w' No [] := by
  have hst := St.start w No
  go_enter Try.func21, Try.ntmps21
  go_wp2
  exact bodyPost_ret (v := .bool false) (by simp [results, Try.results21]) rfl ⟨rfl, hst⟩
theorem made_calls (g gl gk : Nat) (root : Hash) (h : Int) (w : World) (ht : (Res.var g 54 [.map (some gl), .map (some gk), hval root, .int .i64 h]).holds w) : Calls Try.prog 21 #[.pointer (some ⟨g, 0, none⟩)] w fun e w' => e = .returned (.bool true) ∧ St w w' No [] := by
  have hst := St.start w No
  have hm := fun w => run_neMap (P := Try.prog) Try.underlying49 (some gl) w
  simp only [Option.isSome_some] at hm
  go_enter Try.func21, Try.ntmps21
  go_wp2_with (first
    | (refine at_nil ?_ rfl; go_must (refine o_nilCheck rfl rfl (.list rfl) ?_; simp only [Act.put, List.setIfInBounds_toArray, List.set_cons_succ, List.set_cons_zero]))
    | (refine o_field rfl rfl (.list rfl) fa54_0 ?_; simp only [Act.put, List.setIfInBounds_toArray, List.set_cons_succ, List.set_cons_zero])
    | (refine o_field rfl rfl (.list rfl) fa52_0 ?_; simp only [Act.put, List.setIfInBounds_toArray, List.set_cons_succ, List.set_cons_zero])
    | (refine o_load (v := .map (some gl)) rfl rfl (.list rfl) (fits_of ty49 rfl rfl) (var_field ht (k := 0) rfl rfl) ?_; simp only [Act.put, List.setIfInBounds_toArray, List.set_cons_succ, List.set_cons_zero]))
  go_ret
  exact ⟨rfl, hst⟩
theorem byteCompare_calls (A B : Option Addr) (xs ys : List UInt8) (c d : Nat) (w : World) (hA : RdS w A (bcells xs)) (hB : RdS w B (bcells ys)) : Calls Try.prog 34 #[.slice A xs.length c, .slice B ys.length d] w fun e w' => e = .returned (.int .i64 (bcmp xs ys)) ∧ St w w' No [] := by
  have hst := St.start w No
  have hd : (callFunc 39 #[.slice A xs.length c, .slice B ys.length d]).run Try.prog w = .ok (.value (.int .i64 (bcmp xs ys))) w := by
    refine run_stand Try.func39 (by kernel_rfl) rfl (by kernel_rfl) (e := Extern.BytealgCompare.compare) (by kernel_rfl) ?_
    rw [show Extern.BytealgCompare.compare #[.slice A xs.length c, .slice B ys.length d] = (do pure (goInt (Extern.BytealgCompare.cmp (← Extern.Bytes.bytesOf (.slice A xs.length c)) (← Extern.Bytes.bytesOf (.slice B ys.length d))))) from rfl]
    simp [run_bytesOf hA, run_bytesOf hB, cmp_ba]
    rfl
  go_enter Try.func34, Try.ntmps34
  go_wp2
  go_ret
  exact ⟨rfl, hst⟩
theorem order_calls (a b : Hash) (w : World) : Calls Try.prog 23 #[hval a, hval b] w fun e w' => e = .returned (.int .i64 (bcmp a.toList b.toList)) ∧ St w w' No [] := by
  have hst := St.start w No
  go_enter Try.func23, Try.ntmps23
  go_wp2_with (first | (refine o_box (v := hval a) rfl rfl (.list rfl) hst ?_; clear hst; intro w1 g1 hst; simp only [Act.put, List.setIfInBounds_toArray, List.set_cons_succ, List.set_cons_zero]) | (refine o_box (v := hval b) rfl rfl (.list rfl) hst ?_; clear hst; intro w1 g2 hst; simp only [Act.put, List.setIfInBounds_toArray, List.set_cons_succ, List.set_cons_zero]))
  refine wp_region_sched (.q 0 (.q 1 (.s 2 (.q 3 .nil)))) (fun w1 => St w w1 No [Res.var g2 23 [hval b], Res.var g1 23 [hval a]]) (by kernel_rfl) (by kernel_rfl) (by kernel_rfl) (by decide) (fun d v c a w h => by cases d <;> exact h) ?_
  have hst := hst.drew
  refine q_sliceArr Try.underlying23 ty5 rfl rfl rfl rfl hst ?_; simp only [Act.put, List.setIfInBounds_toArray, List.set_cons_succ, List.set_cons_zero]
  refine q_sliceArr Try.underlying23 ty5 rfl rfl rfl rfl hst ?_; simp only [Act.put, List.setIfInBounds_toArray, List.set_cons_succ, List.set_cons_zero]
  refine o_call (vs := [.slice (some ⟨g1, 0, none⟩) 32 32, .slice (some ⟨g2, 0, none⟩) 32 32]) Try.func34 rfl rfl rfl rfl rfl (.sched rfl rfl) (byteCompare_calls (some ⟨g1, 0, none⟩) (some ⟨g2, 0, none⟩) a.toList b.toList 32 32 _ ?_ ?_) (by simp) ?_
  · have := hst.var_cells (i := 1) rfl
    rw [flat_single, cells_hval, hcells_eq] at this
    exact .inr ⟨_, rfl, this⟩
  · have := hst.var_cells (i := 0) rfl
    rw [flat_single, cells_hval, hcells_eq] at this
    exact .inr ⟨_, rfl, this⟩
  rintro e w3 ⟨rfl, h3⟩
  refine ⟨hst.call h3, ?_⟩
  replace hst := hst.call h3
  refine q_assign rfl rfl rfl rfl hst ?_; simp only [Act.put, List.setIfInBounds_toArray, List.set_cons_succ, List.set_cons_zero]
  refine sched_nil ?_
  go_wp2
  go_ret
  exact ⟨rfl, hst.sub (by simp)⟩
end Go.Proofs.Ytonbgcehgmpnkaa
