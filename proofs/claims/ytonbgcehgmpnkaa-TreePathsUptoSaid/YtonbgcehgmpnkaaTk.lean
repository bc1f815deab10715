import Derived.Test.YtonbgcehgmpnkaaTj
import Derived.Defers
import Derived.Recover
set_option linter.unusedVariables false
set_option linter.unusedSimpArgs false
namespace Go.Proofs.Ytonbgcehgmpnkaa
open Go Go.RowKit HL BigFrame
/-! ### stood: what a leaf that does not stand throws is caught -/
theorem stood1_idle (g2 : Nat) (w : World) : CallsD Try.prog 35 #[.pointer (some ⟨g2, 0, none⟩)] .returning w fun e u' w' => e = .returned (.tuple #[]) ∧ u' = .returning ∧ w' = w := by
  refine callsD_of_wpS Try.func35 rfl fun c₀ cs hu => ?_
  apply wpS_seq
  apply wpS_region
  simp [wpOpsS, go_sem, recoverD, hu, Try.ntmps35, Exit.thenS]
  refine wpS_of_wp ?_
  simp only [Array.replicate_succ, Array.replicate_zero, List.push_toArray, List.append_toArray, List.nil_append, List.cons_append, List.setIfInBounds_toArray, List.set_cons_zero, List.set_cons_succ]
  go_wp2
  refine ⟨rfl, c₀.mode, by simp, .tuple #[], by simp [results, Try.results35, Sem.run_pure], rfl, hu, rfl⟩
set_option maxRecDepth 100000 in
set_option maxHeartbeats 1000000 in
theorem stood1_fell (g2 : Nat) (b : Bool) (w : World) (hv : (Res.var g2 4 [.bool b]).holds w) : CallsD Try.prog 35 #[.pointer (some ⟨g2, 0, none⟩)] (.panicking fell) w fun e u' w' => e = .returned (.tuple #[]) ∧ u' = .panicking [{ v := fallenV, recovered := true }] ∧ St w w' (fun b => b = g2) [Res.var g2 4 [.bool false]] := by
  refine callsD_of_wpS Try.func35 rfl fun c₀ cs hu => ?_
  have hst : St w w (fun b => b = g2) [Res.var g2 4 [.bool b]] := (St.start1 hv).more fun b hb => fp_var.1 hb
  clear hv
  have hta : ∀ w, (Instr.typeAssert fallenV 20 71 true).run Try.prog w = .ok (.tuple #[.agg #[], .bool true]) w := fun w => by
    simp [Instr.typeAssert, fallenV, go_sem]
  unfold fallenV at hta
  apply wpS_seq
  apply wpS_region
  simp [wpOpsS, go_sem, recoverD, hu, Try.ntmps35, Exit.thenS, fell, fallenV]
  refine wpS_of_wp ?_
  simp only [Array.replicate_succ, Array.replicate_zero, List.push_toArray, List.append_toArray, List.nil_append, List.cons_append, List.setIfInBounds_toArray, List.set_cons_zero, List.set_cons_succ]
  go_wp2_with (first
    | (refine o_alloc ty71 rfl (.list rfl) hst ?_; clear hst; intro w1 g1 hst; simp only [Act.put, List.setIfInBounds_toArray, List.set_cons_succ, List.set_cons_zero])
    | (refine o_store (i := 0) (k := 0) (v := mkS []) rfl rfl rfl rfl ?_ (.list rfl) hst (fits_of ty71 rfl (by simp [szs])) (Ok1.mkS (by simp)) ?_ ?_ ?_; (focus (rw [mkS_nil]; rfl; done)); (focus (simp [szs]; done)); (focus (simp [szs]; done)); clear hst; intro w1 hst; simp only [List.set_cons_succ, List.set_cons_zero] at hst; simp only [Act.put, List.setIfInBounds_toArray, List.set_cons_succ, List.set_cons_zero])
    | (refine o_store (i := 1) (k := 0) rfl rfl rfl rfl rfl (.list rfl) hst (fits_of ty4 rfl rfl) (ok1_bool _) ?_ ?_ ?_; (focus (simp [szs]; done)); (focus (simp [szs]; done)); clear hst; intro w1 hst; simp only [List.set_cons_succ, List.set_cons_zero] at hst; simp only [Act.put, List.setIfInBounds_toArray, List.set_cons_succ, List.set_cons_zero]))
  exact ⟨rfl, _, rfl, .tuple #[], by simp [results, Try.results35, Sem.run_pure], rfl, rfl, hst.drop 0⟩
theorem leavesNil {fn : Func} {tmps : Array Value} {R : Ending → World → Prop} {w w0 : World} {M : Nat → Prop} {L : List Res} {i g t : Nat} {v : Value} (hr : fn.results = #[.cell t 4]) (ht : tmps[t]? = some (.pointer (some ⟨g, 0, none⟩))) (hst : St w0 w M L) (hi : L[i]? = some (Res.var g 4 [v])) (hf : Fits Try.prog 4 v) (hR : R (.returned v) w) : Leaves Try.prog fn tmps R [] .returning w := by
  refine ⟨v, ?_, hR⟩
  have hc := hst.var_cells hi
  rw [flat_single] at hc
  simp [results, hr, ht, asAddr, run_loadVar hf hc]
set_option maxRecDepth 100000 in
set_option maxHeartbeats 1000000 in
theorem stood_calls (F : Nat) (fnF : Func) (hfF : Try.prog.funcs[F]? = some fnF) (hbF : fnF.body.isNone = false) (hnF : (fnF.name == "runtime.NumGoroutine") = false) (cap : Array Value) (Lc : List Res) (M M2 : Nat → Prop) (w : World) (hst : St w w M Lc) (hM : ∀ b, M2 b → ∃ r ∈ Lc, r.fp b) (Pc : Bool → List Res → Prop)
    (hc : ∀ w1 g2, St w w1 M (Res.var g2 4 [.bool false] :: Lc) → Calls Try.prog F cap w1 fun e w2 => ∃ b L, (b = true ∧ e = .returned (.tuple #[]) ∨ b = false ∧ e = .panicked fell) ∧ Pc b L ∧ St w1 w2 M2 L) :
    Calls Try.prog 25 #[.func (.func F) #[] cap] w fun e w' => ∃ b L, e = .returned (.bool b) ∧ Pc b L ∧ St w w' M L := by
  have hmf : ∀ (fn : Fn) (first cap : Array Value) (w : World), (Instr.makeFunc fn first cap).run Try.prog w = .ok (.func fn first cap) w := fun _ _ _ _ => rfl
  go_enter_defers Try.func25, Try.ntmps25
  go_wp2_with (first
    | (refine o_alloc ty4 rfl (.list rfl) hst ?_; clear hst; intro w1 g2 hst; simp only [Act.put, List.setIfInBounds_toArray, List.set_cons_succ, List.set_cons_zero])
    | (refine o_call (vs := []) hfF hbF hnF rfl rfl rfl (.list rfl) (hc _ _ hst) (by simp) ?_; rintro e w2 ⟨b, L, he, hP, h3⟩; replace hst := ((hst.perm (List.perm_append_singleton _ _).symm).callN h3 hM).perm (List.perm_append_singleton _ _); clear h3; rcases he with ⟨rfl, rfl⟩ | ⟨rfl, rfl⟩; simp only [Act.put, List.setIfInBounds_toArray, List.set_cons_succ, List.set_cons_zero])
    | (refine o_store (i := 0) (k := 0) rfl rfl rfl rfl rfl (.list rfl) hst (fits_of ty4 rfl rfl) (ok1_bool _) ?_ ?_ ?_; (focus (simp [szs]; done)); (focus (simp [szs]; done)); clear hst; intro w1 hst; simp only [List.set_cons_succ, List.set_cons_zero] at hst; simp only [Act.put, List.setIfInBounds_toArray, List.set_cons_succ, List.set_cons_zero]))
  · refine leaves_cons (f := 35) (args := #[.pointer (some ⟨g2, 0, none⟩)]) (by simp) (by simp [go_sem]) ?_
    refine (stood1_idle g2 _).mono ?_
    rintro e u' w'' ⟨rfl, rfl, rfl⟩
    exact leavesNil (i := 0) rfl rfl hst rfl (fits_of ty4 rfl rfl) ⟨true, L, rfl, hP, hst.drop 0⟩
  · refine leaves_cons (f := 35) (args := #[.pointer (some ⟨g2, 0, none⟩)]) (by simp) (by simp [go_sem]) ?_
    refine (stood1_fell g2 false _ (hst.get (i := 0) rfl)).mono ?_
    rintro e u' w'' ⟨rfl, rfl, h4⟩
    have hst := hst.call0 h4 (fun b hb => fp_var.2 hb)
    exact leavesNil (i := 0) rfl rfl hst rfl (fits_of ty4 rfl rfl) ⟨false, L, rfl, hP, hst.drop 0⟩
theorem stands1_calls (g gl gK : Nat) (xs : List (Hash × KV × Nat)) (root : Hash) (h : Int) (l : List LeafP) (dest : Hash) (gt gi : Nat) (w : World) (ht : ∀ r ∈ treeL g gl gK xs root h l, r.holds w) (hh : ∀ x ∈ l, x.height ≤ 9223372036854775807) (h0 : 0 ≤ h) (h1 : h ≤ 2147483647) (hl : l.length ≤ 3000)
    (h2 : (Res.var gt 29 [.pointer (some ⟨g, 0, none⟩)]).holds w) (h3 : (Res.var gi 23 [hval dest]).holds w) :
    Calls Try.prog 26 #[.pointer (some ⟨gt, 0, none⟩), .pointer (some ⟨gi, 0, none⟩)] w fun e w2 => ∃ b L, (b = true ∧ e = .returned (.tuple #[]) ∨ b = false ∧ e = .panicked fell) ∧ (b = (wayOf l root h dest).isSome ∧ L = []) ∧ St w w2 No L := by
  have hst := St.start w No
  go_enter Try.func26, Try.ntmps26
  go_wp2_with (first
    | (refine o_load (v := .pointer (some ⟨g, 0, none⟩)) rfl rfl (.list rfl) (fits_of ty29 rfl rfl) (var_field h2 (k := 0) rfl rfl) ?_; simp only [Act.put, List.setIfInBounds_toArray, List.set_cons_succ, List.set_cons_zero])
    | (refine o_load (v := hval dest) rfl rfl (.list rfl) (fits_hash _) (var_field h3 (k := 0) rfl rfl) ?_; simp only [Act.put, List.setIfInBounds_toArray, List.set_cons_succ, List.set_cons_zero])
    | (refine o_call (vs := [.pointer (some ⟨g, 0, none⟩), hval dest]) Try.func27 rfl rfl rfl rfl rfl (.list rfl) (way_calls g gl gK xs root h l dest _ ht hh h0 h1 hl) (by simp) ?_; rintro e w2 (⟨hw, rfl, h3⟩ | ⟨ids, A, c, hw, hil, rfl, h3⟩) <;> replace hst := hst.call h3 <;> clear h3))
  · exact ⟨rfl, false, [], .inr ⟨rfl, rfl⟩, ⟨by rw [hw]; rfl, rfl⟩, hst.sub (by simp)⟩
  · exact ⟨rfl, .tuple #[], by simp [results, Try.results26, Sem.run_pure], true, [], .inl ⟨rfl, rfl⟩, ⟨by rw [hw]; rfl, rfl⟩, hst.sub (by simp)⟩
theorem stands1_nil (dest : Hash) (gt gi : Nat) (w : World) (h2 : (Res.var gt 29 [.pointer none]).holds w) (h3 : (Res.var gi 23 [hval dest]).holds w) :
    Calls Try.prog 26 #[.pointer (some ⟨gt, 0, none⟩), .pointer (some ⟨gi, 0, none⟩)] w fun e w2 => ∃ b L, (b = true ∧ e = .returned (.tuple #[]) ∨ b = false ∧ e = .panicked fell) ∧ (b = false ∧ L = []) ∧ St w w2 No L := by
  have hst := St.start w No
  go_enter Try.func26, Try.ntmps26
  go_wp2_with (first
    | (refine o_load (v := .pointer none) rfl rfl (.list rfl) (fits_of ty29 rfl rfl) (var_field h2 (k := 0) rfl rfl) ?_; simp only [Act.put, List.setIfInBounds_toArray, List.set_cons_succ, List.set_cons_zero])
    | (refine o_load (v := hval dest) rfl rfl (.list rfl) (fits_hash _) (var_field h3 (k := 0) rfl rfl) ?_; simp only [Act.put, List.setIfInBounds_toArray, List.set_cons_succ, List.set_cons_zero])
    | (refine o_call (vs := [.pointer none, hval dest]) Try.func27 rfl rfl rfl rfl rfl (.list rfl) (way_nil dest _) (by simp) ?_; rintro e w2 ⟨rfl, h3⟩; replace hst := hst.call h3; clear h3))
  exact ⟨rfl, false, [], .inr ⟨rfl, rfl⟩, ⟨rfl, rfl⟩, hst⟩
theorem stands_calls (g gl gK : Nat) (xs : List (Hash × KV × Nat)) (root : Hash) (h : Int) (l : List LeafP) (dest : Hash) (w : World) (ht : ∀ r ∈ treeL g gl gK xs root h l, r.holds w) (hh : ∀ x ∈ l, x.height ≤ 9223372036854775807) (h0 : 0 ≤ h) (h1 : h ≤ 2147483647) (hl : l.length ≤ 3000) :
    Calls Try.prog 9 #[.pointer (some ⟨g, 0, none⟩), hval dest] w fun e w' => e = .returned (.bool (wayOf l root h dest).isSome) ∧ St w w' No [] := by
  have hst := St.start w No
  have hmf : ∀ (fn : Fn) (first cap : Array Value) (w : World), (Instr.makeFunc fn first cap).run Try.prog w = .ok (.func fn first cap) w := fun _ _ _ _ => rfl
  go_enter Try.func9, Try.ntmps9
  go_wp2_with (first
    | (refine o_box (v := .pointer (some ⟨g, 0, none⟩)) rfl rfl (.list rfl) hst ?_; clear hst; intro w1 gt hst; simp only [Act.put, List.setIfInBounds_toArray, List.set_cons_succ, List.set_cons_zero])
    | (refine o_box (v := hval dest) rfl rfl (.list rfl) hst ?_; clear hst; intro w1 gi hst; simp only [Act.put, List.setIfInBounds_toArray, List.set_cons_succ, List.set_cons_zero])
    | (refine o_call (vs := [.func (.func 26) #[] #[.pointer (some ⟨gt, 0, none⟩), .pointer (some ⟨gi, 0, none⟩)]]) Try.func25 rfl rfl rfl rfl rfl (.list rfl) (stood_calls 26 _ Try.func26 rfl rfl #[.pointer (some ⟨gt, 0, none⟩), .pointer (some ⟨gi, 0, none⟩)] [] No No _ (St.start _ _) (fun b hb => hb.elim) (fun b L => b = (wayOf l root h dest).isSome ∧ L = []) (fun w1 g2 h9 => stands1_calls g gl gK xs root h l dest gt gi w1 (fun r hr => h9.old_holds (hst.old_holds (ht r hr))) hh h0 h1 hl (h9.old_holds (hst.get (i := 1) rfl)) (h9.old_holds (hst.get (i := 0) rfl)))) (by simp) ?_; rintro e w2 ⟨b, L, rfl, ⟨rfl, rfl⟩, h3⟩; replace hst := hst.call h3; clear h3; simp only [List.nil_append] at hst; simp only [Act.put, List.setIfInBounds_toArray, List.set_cons_succ, List.set_cons_zero]))
  go_ret
  exact ⟨rfl, hst.sub (by simp)⟩
theorem stands_nil (dest : Hash) (w : World) : Calls Try.prog 9 #[.pointer none, hval dest] w fun e w' => e = .returned (.bool false) ∧ St w w' No [] := by
  have hst := St.start w No
  have hmf : ∀ (fn : Fn) (first cap : Array Value) (w : World), (Instr.makeFunc fn first cap).run Try.prog w = .ok (.func fn first cap) w := fun _ _ _ _ => rfl
  go_enter Try.func9, Try.ntmps9
  go_wp2_with (first
    | (refine o_box (v := .pointer none) rfl rfl (.list rfl) hst ?_; clear hst; intro w1 gt hst; simp only [Act.put, List.setIfInBounds_toArray, List.set_cons_succ, List.set_cons_zero])
    | (refine o_box (v := hval dest) rfl rfl (.list rfl) hst ?_; clear hst; intro w1 gi hst; simp only [Act.put, List.setIfInBounds_toArray, List.set_cons_succ, List.set_cons_zero])
    | (refine o_call (vs := [.func (.func 26) #[] #[.pointer (some ⟨gt, 0, none⟩), .pointer (some ⟨gi, 0, none⟩)]]) Try.func25 rfl rfl rfl rfl rfl (.list rfl) (stood_calls 26 _ Try.func26 rfl rfl #[.pointer (some ⟨gt, 0, none⟩), .pointer (some ⟨gi, 0, none⟩)] [] No No _ (St.start _ _) (fun b hb => hb.elim) (fun b L => b = false ∧ L = []) (fun w1 g2 h9 => stands1_nil dest gt gi w1 (h9.old_holds (hst.get (i := 1) rfl)) (h9.old_holds (hst.get (i := 0) rfl)))) (by simp) ?_; rintro e w2 ⟨b, L, rfl, ⟨rfl, rfl⟩, h3⟩; replace hst := hst.call h3; clear h3; simp only [List.nil_append] at hst; simp only [Act.put, List.setIfInBounds_toArray, List.set_cons_succ, List.set_cons_zero]))
  go_ret
  exact ⟨rfl, hst.sub (by simp)⟩
end Go.Proofs.Ytonbgcehgmpnkaa
